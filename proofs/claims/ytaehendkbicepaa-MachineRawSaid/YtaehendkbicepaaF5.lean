/- What each function asks, part 5. No condition. -/
import Derived.Test.YtaehendkbicepaaFN
set_option linter.unusedVariables false
set_option maxRecDepth 100000
namespace Go.Lg
open Go
/-- timebound/timeboundref20.all -/
def F_ref20_all (a0p : Option Addr) (a0n a0c : Nat) (a1 : Int) (R : Value → LH → Prop) (H : LH) : Prop :=
  ∃ K1 : (Int → LH → Prop), ∃ K2 : (Int → LH → Nat), (K1 (0 : Int) H) ∧ ∀ x3 : Int, ∀ H4 : LH, (K1 x3 H4) → ((a0p = none) → (a0n = 0) ∧ (a0c = 0)) ∧ (((decide (x3 < (a0n : Int))) = true) → ∃ n5 n6 : Nat, (a0p = (some
    (Addr.mk n5 n6 none))) ∧ ((0 : Int) ≤ x3) ∧ (x3 < (a0n : Int)) ∧ ∃ x7 : Int, (hAt H4 n5 (n6 + ((Int.toNat x3) * 1)) (Value.int .i64 x7)) ∧ (XCall prog f_ref20_in [(Value.int .i64 x7), (Value.int .i64 a1)] H4 (fun (v8
    : Value) (H9 : LH) => ∃ b10 : Bool, (v8 = (Value.bool b10)) ∧ (((Bool.not b10) = true) → (R (Value.bool false) H9)) ∧ (((Bool.not b10) = false) → (K1 (IntKind.wrap .i64 (x3 + (1 : Int))) H9) ∧ ((K2 (IntKind.wrap .i64
    (x3 + (1 : Int))) H9) < (K2 x3 H4)))))) ∧ (((decide (x3 < (a0n : Int))) = false) → (R (Value.bool true) H4))

theorem F_ref20_all_call {R : Value → LH → Prop} {H : LH} (a0p : Option Addr) (a0n a0c : Nat) (a1 : Int) (h : F_ref20_all a0p a0n a0c a1 R H) : Call prog f_ref20_all [.slice a0p a0n a0c, .int .i64 a1] H R := by
  have e : F_ref20_all a0p a0n a0c a1 R H = zfun prog f_ref20_all []
    (.seq none .u (.seq none (.seq none .u (.block (.loop ⟨[(5, .one (.int .i64))], [0, 1]⟩ (.seq none (.seq none .u (.cond .u .u)) (.seq none (.block (.seq none .u (.cond (.seq none .u .u) .u))) .u))))) (.seq none .u .u)))
    [.slice a0p a0n a0c, .int .i64 a1] R H := by kernel_rfl
  rw [e] at h
  exact call_of_zfun mixed h

/-- timebound/timeboundref20.in -/
def F_ref20_in (a0 : Int) (a1 : Int) (R : Value → LH → Prop) (H : LH) : Prop :=
  (((decide ((0 : Int) ≤ a0)) = true) → (R (Value.bool (decide (a0 < a1))) H)) ∧ (((decide ((0 : Int) ≤ a0)) = false) → (R (Value.bool false) H))

theorem F_ref20_in_call {R : Value → LH → Prop} {H : LH} (a0 : Int) (a1 : Int) (h : F_ref20_in a0 a1 R H) : Call prog f_ref20_in [.int .i64 a0, .int .i64 a1] H R := by
  have e : F_ref20_in a0 a1 R H = zfun prog f_ref20_in []
    (.seq none .u (.seq none .u .u))
    [.int .i64 a0, .int .i64 a1] R H := by kernel_rfl
  rw [e] at h
  exact call_of_zfun mixed h

/-- timebound/timeboundref11.Check -/
def F_ref11_Check (a0_0p : Option Addr) (a0_0n a0_0c : Nat) (a0_1 : Int) (R : Value → LH → Prop) (H : LH) : Prop :=
  ((a0_0p = none) → (a0_0n = 0) ∧ (a0_0c = 0)) ∧ (((decide ((64 : Int) < (a0_0n : Int))) = true) → (R (Value.int .i64 (4 : Int)) H)) ∧ (((decide ((64 : Int) < (a0_0n : Int))) = false) → (XCall prog f_ref11_in [(Value.int
    .i64 a0_1)] H (fun (v1 : Value) (H2 : LH) => ∃ b3 : Bool, (v1 = (Value.bool b3)) ∧ (((Bool.not b3) = true) → (R (Value.int .i64 (10 : Int)) H2)) ∧ (((Bool.not b3) = false) → ∃ K4 : (Int → LH → Prop), ∃ K5 : (Int → LH
    → Nat), (K4 (0 : Int) H2) ∧ ∀ x6 : Int, ∀ H7 : LH, (K4 x6 H7) → ((a0_0p = none) → (a0_0n = 0) ∧ (a0_0c = 0)) ∧ (((decide (x6 < (a0_0n : Int))) = true) → ∃ n8 n9 : Nat, (a0_0p = (some (Addr.mk n8 n9 none))) ∧ ((0 :
    Int) ≤ x6) ∧ (x6 < (a0_0n : Int)) ∧ ∃ x10 : Int, (hAt H7 n8 (n9 + ((Int.toNat x6) * 2)) (Value.int .i64 x10)) ∧ ∃ x11 : Int, (hAt H7 n8 ((n9 + ((Int.toNat x6) * 2)) + 1) (Value.int .i64 x11)) ∧ ∀ H12 : LH, (H12 =
    (LH.keep H7 35)) → (((decide (x10 < (0 : Int))) = true) → (R (Value.int .i64 (10 : Int)) H12)) ∧ (((decide (x10 < (0 : Int))) = false) → (((decide ((255 : Int) < x10)) = true) → (R (Value.int .i64 (10 : Int)) H12)) ∧
    (((decide ((255 : Int) < x10)) = false) → (((decide (x11 = (0 : Int))) = true) → (R (Value.int .i64 (10 : Int)) H12)) ∧ (((decide (x11 = (0 : Int))) = false) → (XCall prog f_ref11_in [(Value.int .i64 x11)] H12 (fun
    (v13 : Value) (H14 : LH) => ∃ b15 : Bool, (v13 = (Value.bool b15)) ∧ (((Bool.not b15) = true) → (R (Value.int .i64 (10 : Int)) H14)) ∧ (((Bool.not b15) = false) → (((decide ((0 : Int) < x6)) = true) → ∃ n16 n17 :
    Nat, (a0_0p = (some (Addr.mk n16 n17 none))) ∧ ((0 : Int) ≤ (IntKind.wrap .i64 (x6 - (1 : Int)))) ∧ ((IntKind.wrap .i64 (x6 - (1 : Int))) < (a0_0n : Int)) ∧ ∃ x18 : Int, (hAt H14 n16 ((n17 + ((Int.toNat (IntKind.wrap
    .i64 (x6 - (1 : Int)))) * 2)) + 0) (Value.int .i64 x18)) ∧ (((decide (x10 ≤ x18)) = true) → (R (Value.int .i64 (10 : Int)) H14)) ∧ (((decide (x10 ≤ x18)) = false) → (K4 (IntKind.wrap .i64 (x6 + (1 : Int))) H14) ∧
    ((K5 (IntKind.wrap .i64 (x6 + (1 : Int))) H14) < (K5 x6 H7)))) ∧ (((decide ((0 : Int) < x6)) = false) → (K4 (IntKind.wrap .i64 (x6 + (1 : Int))) H14) ∧ ((K5 (IntKind.wrap .i64 (x6 + (1 : Int))) H14) < (K5 x6
    H7)))))))))) ∧ (((decide (x6 < (a0_0n : Int))) = false) → (R (Value.int .i64 (0 : Int)) H7))))))

theorem F_ref11_Check_call {R : Value → LH → Prop} {H : LH} (a0_0p : Option Addr) (a0_0n a0_0c : Nat) (a0_1 : Int) (h : F_ref11_Check a0_0p a0_0n a0_0c a0_1 R H) : Call prog f_ref11_Check [.agg #[.slice a0_0p a0_0n a0_0c, .int .i64 a0_1]] H R := by
  have e : F_ref11_Check a0_0p a0_0n a0_0c a0_1 R H = zfun prog f_ref11_Check [1, 4]
    (.seq none .u (.seq none (.seq none .u (.cond (.seq none .u .u) .u)) (.seq none (.seq none .u (.cond (.seq none .u .u) .u)) (.seq none (.seq none .u (.block (.loop ⟨[(3, .one (.int .i64))], [1]⟩ (.seq none (.seq none .u (.cond .u .u)) (.seq none (.block (.seq none .u (.seq none (.draw [⟨0, [], []⟩, ⟨1, [], []⟩, ⟨2, [], []⟩, ⟨3, [], []⟩, ⟨4, [], []⟩, ⟨5, [], []⟩, ⟨6, [], []⟩, ⟨7, [], []⟩, ⟨8, [], []⟩, ⟨9, [], []⟩, ⟨10, [], []⟩, ⟨11, [], []⟩, ⟨12, [], []⟩, ⟨13, [], []⟩, ⟨14, [], []⟩, ⟨15, [], []⟩, ⟨16, [], []⟩, ⟨17, [], []⟩, ⟨18, [], []⟩, ⟨19, [], []⟩, ⟨20, [], []⟩, ⟨21, [], []⟩, ⟨22, [], []⟩, ⟨23, [], []⟩, ⟨24, [], []⟩, ⟨25, [], []⟩, ⟨26, [], []⟩, ⟨27, [], []⟩, ⟨28, [], []⟩, ⟨29, [], []⟩, ⟨30, [], []⟩, ⟨31, [], []⟩, ⟨32, [], []⟩, ⟨33, [], []⟩, ⟨34, [], []⟩]) (.cond (.seq none .u .u) .u)))) .u))))) (.seq none .u .u)))))
    [.agg #[.slice a0_0p a0_0n a0_0c, .int .i64 a0_1]] R H := by kernel_rfl
  rw [e] at h
  exact call_of_zfun mixed h

/-- timebound/timeboundref01.Wrap -/
def F_ref01_Wrap (a0 : Int) (R : Value → LH → Prop) (H : LH) : Prop :=
  (R (Value.int .i64 (IntKind.wrap .i64 (IntKind.wrap .i32 (IntKind.wrap .u32 (IntKind.wrap .u64 a0))))) H)

theorem F_ref01_Wrap_call {R : Value → LH → Prop} {H : LH} (a0 : Int) (h : F_ref01_Wrap a0 R H) : Call prog f_ref01_Wrap [.int .i64 a0] H R := by
  have e : F_ref01_Wrap a0 R H = zfun prog f_ref01_Wrap []
    (.seq none .u (.seq none .u .u))
    [.int .i64 a0] R H := by kernel_rfl
  rw [e] at h
  exact call_of_zfun mixed h

/-- timebound/timeboundref01.truth -/
def F_ref01_truth (a0 : Bool) (R : Value → LH → Prop) (H : LH) : Prop :=
  ((a0 = true) → (R (Value.int .i64 (1 : Int)) H)) ∧ ((a0 = false) → (R (Value.int .i64 (0 : Int)) H))

theorem F_ref01_truth_call {R : Value → LH → Prop} {H : LH} (a0 : Bool) (h : F_ref01_truth a0 R H) : Call prog f_ref01_truth [.bool a0] H R := by
  have e : F_ref01_truth a0 R H = zfun prog f_ref01_truth []
    (.seq none .u (.seq none (.seq none .u (.cond (.seq none .u .u) .u)) (.seq none .u .u)))
    [.bool a0] R H := by kernel_rfl
  rw [e] at h
  exact call_of_zfun mixed h

/-- timebound/machine.filled$1 -/
def F_machine_filled_1 (a0 : Int) (R : Value → LH → Prop) (H : LH) : Prop :=
  (XCall prog f_word_Is [(Value.int .i64 a0)] H (fun (v1 : Value) (H2 : LH) => ∃ b3 : Bool, (v1 = (Value.bool b3)) ∧ (R (Value.bool (Bool.not b3)) H2)))

theorem F_machine_filled_1_call {R : Value → LH → Prop} {H : LH} (a0 : Int) (h : F_machine_filled_1 a0 R H) : Call prog f_machine_filled_1 [.int .i64 a0] H R := by
  have e : F_machine_filled_1 a0 R H = zfun prog f_machine_filled_1 []
    (.seq none .u (.seq none .u .u))
    [.int .i64 a0] R H := by kernel_rfl
  rw [e] at h
  exact call_of_zfun mixed h

/-- slices.Concat[[]timebound/api.Area,timebound/api.Area] -/
def F_slices_Concat_api_Area_api_Area (a0p : Option Addr) (a0n a0c : Nat) (R : Value → LH → Prop) (H : LH) : Prop :=
  ((a0p = none) → (a0n = 0) ∧ (a0c = 0)) ∧ ∃ K1 : (Int → Int → LH → Prop), ∃ K2 : (Int → Int → LH → Nat), (K1 (0 : Int) (0 : Int) H) ∧ ∀ x3 : Int, ∀ x4 : Int, ∀ H5 : LH, (K1 x3 x4 H5) → (((decide (x4 < (a0n : Int))) =
    true) → ∃ n6 n7 : Nat, (a0p = (some (Addr.mk n6 n7 none))) ∧ ((0 : Int) ≤ x4) ∧ (x4 < (a0n : Int)) ∧ ∃ p8 : (Option Addr), ∃ n9 n10 : Nat, (hAt H5 n6 (n7 + ((Int.toNat x4) * 1)) (Value.slice p8 n9 n10)) ∧ ((p8 =
    none) → (n9 = 0) ∧ (n10 = 0)) ∧ (((decide ((IntKind.wrap .i64 (x3 + (n9 : Int))) < (0 : Int))) = true) → False) ∧ (((decide ((IntKind.wrap .i64 (x3 + (n9 : Int))) < (0 : Int))) = false) → (K1 (IntKind.wrap .i64 (x3 +
    (n9 : Int))) (IntKind.wrap .i64 (x4 + (1 : Int))) H5) ∧ ((K2 (IntKind.wrap .i64 (x3 + (n9 : Int))) (IntKind.wrap .i64 (x4 + (1 : Int))) H5) < (K2 x3 x4 H5)))) ∧ (((decide (x4 < (a0n : Int))) = false) → (XCall prog
    f_slices_Grow_api_Area_api_Area [(Value.slice none 0 0), (Value.int .i64 x3)] H5 (fun (v11 : Value) (H12 : LH) => ∃ p13 : (Option Addr), ∃ n14 n15 : Nat, (v11 = (Value.slice p13 n14 n15)) ∧ ((a0p = none) → (a0n = 0)
    ∧ (a0c = 0)) ∧ ∃ K16 : ((Option Addr) → Nat → Nat → Int → LH → Prop), ∃ K17 : ((Option Addr) → Nat → Nat → Int → LH → Nat), (K16 p13 n14 n15 (0 : Int) H12) ∧ ∀ p18 : (Option Addr), ∀ n19 : Nat, ∀ n20 : Nat, ∀ x21 :
    Int, ∀ H22 : LH, (K16 p18 n19 n20 x21 H22) → (((decide (x21 < (a0n : Int))) = true) → ∃ n23 n24 : Nat, (a0p = (some (Addr.mk n23 n24 none))) ∧ ((0 : Int) ≤ x21) ∧ (x21 < (a0n : Int)) ∧ ∃ p25 : (Option Addr), ∃ n26
    n27 : Nat, (hAt H22 n23 (n24 + ((Int.toNat x21) * 1)) (Value.slice p25 n26 n27)) ∧ ∃ p28 : (Option Addr), ∃ n29 n30 : Nat, ∃ H31 : LH, ((appV H22 none 2 16 (Value.slice p18 n19 n20) (Value.slice p25 n26 n27)) = (some
    ((Value.slice p28 n29 n30), H31))) ∧ (K16 p28 n29 n30 (IntKind.wrap .i64 (x21 + (1 : Int))) H31) ∧ ((K17 p28 n29 n30 (IntKind.wrap .i64 (x21 + (1 : Int))) H31) < (K17 p18 n19 n20 x21 H22))) ∧ (((decide (x21 < (a0n :
    Int))) = false) → (R (Value.slice p18 n19 n20) H22)))))

theorem F_slices_Concat_api_Area_api_Area_call {R : Value → LH → Prop} {H : LH} (a0p : Option Addr) (a0n a0c : Nat) (h : F_slices_Concat_api_Area_api_Area a0p a0n a0c R H) : Call prog f_slices_Concat_api_Area_api_Area [.slice a0p a0n a0c] H R := by
  have e : F_slices_Concat_api_Area_api_Area a0p a0n a0c R H = zfun prog f_slices_Concat_api_Area_api_Area []
    (.seq none .u (.seq none .u (.seq none (.seq none .u (.block (.loop ⟨[(3, .one (.int .i64)), (11, .one (.int .i64))], [0, 9, 10]⟩ (.seq none .u (.seq none (.cond .u .u) (.seq none (.block (.seq none .u (.seq none .u (.seq none .u (.cond .u .u))))) .u)))))) (.seq none .u (.seq none (.seq none .u (.block (.loop ⟨[(6, .one .sl), (27, .one (.int .i64))], [25, 26]⟩ (.seq none .u (.seq none (.cond .u .u) (.seq none (.block (.seq none .u .u)) .u)))))) (.seq none .u .u))))))
    [.slice a0p a0n a0c] R H := by kernel_rfl
  rw [e] at h
  exact call_of_zfun mixed h

/-- slices.IndexFunc[[]timebound/api.Node,timebound/api.Node] -/
def F_slices_IndexFunc_api_Node_api_Node (a0p : Option Addr) (a0n a0c : Nat) (a1 : Value) (R : Value → LH → Prop) (H : LH) : Prop :=
  ((a0p = none) → (a0n = 0) ∧ (a0c = 0)) ∧ ∃ K1 : (Int → LH → Prop), ∃ K2 : (Int → LH → Nat), (K1 (0 : Int) H) ∧ ∀ x3 : Int, ∀ H4 : LH, (K1 x3 H4) → (((decide (x3 < (a0n : Int))) = true) → ∃ n5 n6 : Nat, (a0p = (some
    (Addr.mk n5 n6 none))) ∧ ((0 : Int) ≤ x3) ∧ (x3 < (a0n : Int)) ∧ ∃ x7 : Int, (hAt H4 n5 (n6 + ((Int.toNat x3) * 4)) (Value.int .i64 x7)) ∧ ∃ x8 : Int, (hAt H4 n5 ((n6 + ((Int.toNat x3) * 4)) + 1) (Value.int .i64 x8))
    ∧ ∃ p9 : (Option Addr), ∃ n10 n11 : Nat, (hAt H4 n5 (((n6 + ((Int.toNat x3) * 4)) + 1) + 1) (Value.slice p9 n10 n11)) ∧ ∃ p12 : (Option Addr), ∃ n13 n14 : Nat, (hAt H4 n5 ((((n6 + ((Int.toNat x3) * 4)) + 1) + 1) + 1)
    (Value.slice p12 n13 n14)) ∧ ∃ n15 : Nat, ∃ l16 l17 : (List Value), (a1 = (Value.func (Fn.func n15) (Array.mk l16) (Array.mk l17))) ∧ ((okFn prog n15) = true) ∧ (XCall prog n15 ((l16 ++ [(Value.agg #[(Value.int .i64
    x7), (Value.int .i64 x8), (Value.slice p9 n10 n11), (Value.slice p12 n13 n14)])]) ++ l17) H4 (fun (v18 : Value) (H19 : LH) => ∃ b20 : Bool, (v18 = (Value.bool b20)) ∧ ((b20 = true) → (R (Value.int .i64 x3) H19)) ∧
    ((b20 = false) → (K1 (IntKind.wrap .i64 (x3 + (1 : Int))) H19) ∧ ((K2 (IntKind.wrap .i64 (x3 + (1 : Int))) H19) < (K2 x3 H4)))))) ∧ (((decide (x3 < (a0n : Int))) = false) → (R (Value.int .i64 (-(1 : Int))) H4))

theorem F_slices_IndexFunc_api_Node_api_Node_call {R : Value → LH → Prop} {H : LH} (a0p : Option Addr) (a0n a0c : Nat) (a1 : Value) (h : F_slices_IndexFunc_api_Node_api_Node a0p a0n a0c a1 R H) : Call prog f_slices_IndexFunc_api_Node_api_Node [.slice a0p a0n a0c, a1] H R := by
  have e : F_slices_IndexFunc_api_Node_api_Node a0p a0n a0c a1 R H = zfun prog f_slices_IndexFunc_api_Node_api_Node []
    (.seq none .u (.seq none (.seq none .u (.block (.loop ⟨[(8, .one (.int .i64))], [0, 1, 7]⟩ (.seq none .u (.seq none (.cond .u .u) (.seq none (.block (.seq none .u (.seq none .u (.cond (.seq none .u .u) .u)))) .u)))))) (.seq none .u .u)))
    [.slice a0p a0n a0c, a1] R H := by kernel_rfl
  rw [e] at h
  exact call_of_zfun mixed h

/-- timebound/emit.leads$1 -/
def F_emit_leads_1 (a0_0 : Int) (a0_1 : Int) (a0_2p : Option Addr) (a0_2n a0_2c : Nat) (a0_3p : Option Addr) (a0_3n a0_3c : Nat) (f0b f0i : Nat) (R : Value → LH → Prop) (H : LH) : Prop :=
  ∃ x1 : Int, (hAt H f0b (f0i + 5) (Value.int .i64 x1)) ∧ (R (Value.bool (decide (a0_0 = x1))) H)

theorem F_emit_leads_1_call {R : Value → LH → Prop} {H : LH} (a0_0 : Int) (a0_1 : Int) (a0_2p : Option Addr) (a0_2n a0_2c : Nat) (a0_3p : Option Addr) (a0_3n a0_3c : Nat) (f0b f0i : Nat) (h : F_emit_leads_1 a0_0 a0_1 a0_2p a0_2n a0_2c a0_3p a0_3n a0_3c f0b f0i R H) : Call prog f_emit_leads_1 [.agg #[.int .i64 a0_0, .int .i64 a0_1, .slice a0_2p a0_2n a0_2c, .slice a0_3p a0_3n a0_3c], .pointer (some ⟨f0b, f0i, none⟩)] H R := by
  have e : F_emit_leads_1 a0_0 a0_1 a0_2p a0_2n a0_2c a0_3p a0_3n a0_3c f0b f0i R H = zfun prog f_emit_leads_1 [2]
    (.seq none .u (.seq none .u .u))
    [.agg #[.int .i64 a0_0, .int .i64 a0_1, .slice a0_2p a0_2n a0_2c, .slice a0_3p a0_3n a0_3c], .pointer (some ⟨f0b, f0i, none⟩)] R H := by kernel_rfl
  rw [e] at h
  exact call_of_zfun mixed h

/-- timebound/emit.names$1 -/
def F_emit_names_1 (a0p : Option Addr) (a0n a0c : Nat) (f0 : Value) (R : Value → LH → Prop) (H : LH) : Prop :=
  (XCall prog f_slices_ContainsFunc_int_int [(Value.slice a0p a0n a0c), (Value.func (Fn.func f_emit_names_1_1) #[] #[f0])] H (fun (v1 : Value) (H2 : LH) => ∃ b3 : Bool, (v1 = (Value.bool b3)) ∧ (R (Value.bool (Bool.not
    b3)) H2)))

theorem F_emit_names_1_call {R : Value → LH → Prop} {H : LH} (a0p : Option Addr) (a0n a0c : Nat) (f0 : Value) (h : F_emit_names_1 a0p a0n a0c f0 R H) : Call prog f_emit_names_1 [.slice a0p a0n a0c, f0] H R := by
  have e : F_emit_names_1 a0p a0n a0c f0 R H = zfun prog f_emit_names_1 []
    (.seq none .u (.seq none .u .u))
    [.slice a0p a0n a0c, f0] R H := by kernel_rfl
  rw [e] at h
  exact call_of_zfun mixed h

/-- timebound/emit.names$1$1 -/
def F_emit_names_1_1 (a0 : Int) (f0b f0i : Nat) (R : Value → LH → Prop) (H : LH) : Prop :=
  (((decide (a0 < (0 : Int))) = true) → (R (Value.bool true) H)) ∧ (((decide (a0 < (0 : Int))) = false) → ∃ p1 : (Option Addr), ∃ n2 n3 : Nat, (hAt H f0b (f0i + 1) (Value.slice p1 n2 n3)) ∧ ((p1 = none) → (n2 = 0) ∧ (n3 =
    0)) ∧ (R (Value.bool (decide ((n2 : Int) ≤ a0))) H))

theorem F_emit_names_1_1_call {R : Value → LH → Prop} {H : LH} (a0 : Int) (f0b f0i : Nat) (h : F_emit_names_1_1 a0 f0b f0i R H) : Call prog f_emit_names_1_1 [.int .i64 a0, .pointer (some ⟨f0b, f0i, none⟩)] H R := by
  have e : F_emit_names_1_1 a0 f0b f0i R H = zfun prog f_emit_names_1_1 []
    (.seq none .u (.seq none .u .u))
    [.int .i64 a0, .pointer (some ⟨f0b, f0i, none⟩)] R H := by kernel_rfl
  rw [e] at h
  exact call_of_zfun mixed h

/-- timebound/fact.Check -/
def F_fact_Check (a0_0p : Option Addr) (a0_0n a0_0c : Nat) (a0_1 : Int) (R : Value → LH → Prop) (H : LH) : Prop :=
  ((a0_0p = none) → (a0_0n = 0) ∧ (a0_0c = 0)) ∧ (((decide ((64 : Int) < (a0_0n : Int))) = true) → (R (Value.int .i64 (4 : Int)) H)) ∧ (((decide ((64 : Int) < (a0_0n : Int))) = false) → ((a0_0p = none) → (a0_0n = 0) ∧
    (a0_0c = 0)) ∧ ∃ K1 : (Int → LH → Prop), ∃ K2 : (Int → LH → Nat), (K1 (0 : Int) H) ∧ ∀ x3 : Int, ∀ H4 : LH, (K1 x3 H4) → (((decide (x3 < (a0_0n : Int))) = true) → ∃ n5 n6 : Nat, (a0_0p = (some (Addr.mk n5 n6 none)))
    ∧ ((0 : Int) ≤ x3) ∧ (x3 < (a0_0n : Int)) ∧ ∃ x7 : Int, (hAt H4 n5 (n6 + ((Int.toNat x3) * 2)) (Value.int .i64 x7)) ∧ ∃ x8 : Int, (hAt H4 n5 ((n6 + ((Int.toNat x3) * 2)) + 1) (Value.int .i64 x8)) ∧ ∀ H9 : LH, (H9 =
    (LH.keep H4 31)) → (XCall prog f_fact_block [(Value.int .i64 x7)] H9 (fun (v10 : Value) (H11 : LH) => ∃ b12 : Bool, (v10 = (Value.bool b12)) ∧ (((Bool.not b12) = true) → (R (Value.int .i64 (10 : Int)) H11)) ∧
    (((Bool.not b12) = false) → (XCall prog f_fact_small [(Value.int .i64 x8)] H11 (fun (v13 : Value) (H14 : LH) => ∃ b15 : Bool, (v13 = (Value.bool b15)) ∧ (((Bool.not b15) = true) → (R (Value.int .i64 (10 : Int)) H14))
    ∧ (((Bool.not b15) = false) → (((decide (x8 = (0 : Int))) = true) → (R (Value.int .i64 (10 : Int)) H14)) ∧ (((decide (x8 = (0 : Int))) = false) → (((decide ((0 : Int) < x3)) = true) → ∃ n16 n17 : Nat, (a0_0p = (some
    (Addr.mk n16 n17 none))) ∧ ((0 : Int) ≤ (IntKind.wrap .i64 (x3 - (1 : Int)))) ∧ ((IntKind.wrap .i64 (x3 - (1 : Int))) < (a0_0n : Int)) ∧ ∃ x18 : Int, (hAt H14 n16 ((n17 + ((Int.toNat (IntKind.wrap .i64 (x3 - (1 :
    Int)))) * 2)) + 0) (Value.int .i64 x18)) ∧ (((decide (x7 ≤ x18)) = true) → (R (Value.int .i64 (10 : Int)) H14)) ∧ (((decide (x7 ≤ x18)) = false) → (K1 (IntKind.wrap .i64 (x3 + (1 : Int))) H14) ∧ ((K2 (IntKind.wrap
    .i64 (x3 + (1 : Int))) H14) < (K2 x3 H4)))) ∧ (((decide ((0 : Int) < x3)) = false) → (K1 (IntKind.wrap .i64 (x3 + (1 : Int))) H14) ∧ ((K2 (IntKind.wrap .i64 (x3 + (1 : Int))) H14) < (K2 x3 H4))))))))))) ∧ (((decide
    (x3 < (a0_0n : Int))) = false) → (XCall prog f_fact_small [(Value.int .i64 a0_1)] H4 (fun (v19 : Value) (H20 : LH) => ∃ b21 : Bool, (v19 = (Value.bool b21)) ∧ (((Bool.not b21) = true) → (R (Value.int .i64 (10 : Int))
    H20)) ∧ (((Bool.not b21) = false) → (R (Value.int .i64 (0 : Int)) H20))))))

theorem F_fact_Check_call {R : Value → LH → Prop} {H : LH} (a0_0p : Option Addr) (a0_0n a0_0c : Nat) (a0_1 : Int) (h : F_fact_Check a0_0p a0_0n a0_0c a0_1 R H) : Call prog f_fact_Check [.agg #[.slice a0_0p a0_0n a0_0c, .int .i64 a0_1]] H R := by
  have e : F_fact_Check a0_0p a0_0n a0_0c a0_1 R H = zfun prog f_fact_Check [1, 4]
    (.seq none .u (.seq none (.seq none .u (.cond (.seq none .u .u) .u)) (.seq none (.seq none .u (.block (.loop ⟨[(12, .one (.int .i64))], [1, 10, 11]⟩ (.seq none .u (.seq none (.cond .u .u) (.seq none (.block (.seq none .u (.seq none (.draw [⟨0, [], []⟩, ⟨1, [], []⟩, ⟨2, [], []⟩, ⟨3, [], []⟩, ⟨4, [], []⟩, ⟨5, [], []⟩, ⟨6, [], []⟩, ⟨7, [], []⟩, ⟨8, [], []⟩, ⟨9, [], []⟩, ⟨10, [], []⟩, ⟨11, [], []⟩, ⟨12, [], []⟩, ⟨13, [], []⟩, ⟨14, [], []⟩, ⟨15, [], []⟩, ⟨16, [], []⟩, ⟨17, [], []⟩, ⟨18, [], []⟩, ⟨19, [], []⟩, ⟨20, [], []⟩, ⟨21, [], []⟩, ⟨22, [], []⟩, ⟨23, [], []⟩, ⟨24, [], []⟩, ⟨25, [], []⟩, ⟨26, [], []⟩, ⟨27, [], []⟩, ⟨28, [], []⟩, ⟨29, [], []⟩, ⟨30, [], []⟩]) (.cond (.seq none .u .u) .u)))) .u)))))) (.seq none (.seq none .u (.cond (.seq none .u .u) .u)) (.seq none .u .u)))))
    [.agg #[.slice a0_0p a0_0n a0_0c, .int .i64 a0_1]] R H := by kernel_rfl
  rw [e] at h
  exact call_of_zfun mixed h

/-- slices.ContainsFunc[[]timebound/api.Term,timebound/api.Term] -/
def F_slices_ContainsFunc_api_Term_api_Term (a0p : Option Addr) (a0n a0c : Nat) (a1 : Value) (R : Value → LH → Prop) (H : LH) : Prop :=
  (XCall prog f_slices_IndexFunc_api_Term_api_Term [(Value.slice a0p a0n a0c), a1] H (fun (v1 : Value) (H2 : LH) => ∃ x3 : Int, (v1 = (Value.int .i64 x3)) ∧ (R (Value.bool (decide ((0 : Int) ≤ x3))) H2)))

theorem F_slices_ContainsFunc_api_Term_api_Term_call {R : Value → LH → Prop} {H : LH} (a0p : Option Addr) (a0n a0c : Nat) (a1 : Value) (h : F_slices_ContainsFunc_api_Term_api_Term a0p a0n a0c a1 R H) : Call prog f_slices_ContainsFunc_api_Term_api_Term [.slice a0p a0n a0c, a1] H R := by
  have e : F_slices_ContainsFunc_api_Term_api_Term a0p a0n a0c a1 R H = zfun prog f_slices_ContainsFunc_api_Term_api_Term []
    (.seq none .u (.seq none .u .u))
    [.slice a0p a0n a0c, a1] R H := by kernel_rfl
  rw [e] at h
  exact call_of_zfun mixed h

/-- timebound/emit.names$2 -/
def F_emit_names_2 (a0_0 : Int) (a0_1 : Int) (f0b f0i : Nat) (R : Value → LH → Prop) (H : LH) : Prop :=
  ∃ v1 : Value, (hAt H f0b f0i v1) ∧ ∀ H2 : LH, (H2 = (LH.new H (LObj.cells [(Value.int .i64 a0_0)] 1 false))) → ∃ n3 : Nat, ∃ l4 l5 : (List Value), (v1 = (Value.func (Fn.func n3) (Array.mk l4) (Array.mk l5))) ∧ ((okFn
    prog n3) = true) ∧ (XCall prog n3 ((l4 ++ [(Value.slice (some (Addr.mk (LH.next H) 0 none)) 1 1)]) ++ l5) H2 (fun (v6 : Value) (H7 : LH) => ∃ b8 : Bool, (v6 = (Value.bool b8)) ∧ (R (Value.bool (Bool.not b8)) H7)))

theorem F_emit_names_2_call {R : Value → LH → Prop} {H : LH} (a0_0 : Int) (a0_1 : Int) (f0b f0i : Nat) (h : F_emit_names_2 a0_0 a0_1 f0b f0i R H) : Call prog f_emit_names_2 [.agg #[.int .i64 a0_0, .int .i64 a0_1], .pointer (some ⟨f0b, f0i, none⟩)] H R := by
  have e : F_emit_names_2 a0_0 a0_1 f0b f0i R H = zfun prog f_emit_names_2 [2]
    (.seq none .u (.seq none .u .u))
    [.agg #[.int .i64 a0_0, .int .i64 a0_1], .pointer (some ⟨f0b, f0i, none⟩)] R H := by kernel_rfl
  rw [e] at h
  exact call_of_zfun mixed h

/-- timebound/word.operators$1 -/
def F_word_operators_1 (a0 : Int) (a1 : Int) (R : Value → LH → Prop) (H : LH) : Prop :=
  (R (Value.int .i64 (IntKind.wrap .i64 (a0 + a1))) H)

theorem F_word_operators_1_call {R : Value → LH → Prop} {H : LH} (a0 : Int) (a1 : Int) (h : F_word_operators_1 a0 a1 R H) : Call prog f_word_operators_1 [.int .i64 a0, .int .i64 a1] H R := by
  have e : F_word_operators_1 a0 a1 R H = zfun prog f_word_operators_1 []
    (.seq none .u (.seq none .u .u))
    [.int .i64 a0, .int .i64 a1] R H := by kernel_rfl
  rw [e] at h
  exact call_of_zfun mixed h

/-- timebound/word.operators$2 -/
def F_word_operators_2 (a0 : Int) (a1 : Int) (R : Value → LH → Prop) (H : LH) : Prop :=
  (R (Value.int .i64 (IntKind.wrap .i64 (a0 - a1))) H)

theorem F_word_operators_2_call {R : Value → LH → Prop} {H : LH} (a0 : Int) (a1 : Int) (h : F_word_operators_2 a0 a1 R H) : Call prog f_word_operators_2 [.int .i64 a0, .int .i64 a1] H R := by
  have e : F_word_operators_2 a0 a1 R H = zfun prog f_word_operators_2 []
    (.seq none .u (.seq none .u .u))
    [.int .i64 a0, .int .i64 a1] R H := by kernel_rfl
  rw [e] at h
  exact call_of_zfun mixed h

/-- timebound/word.operators$3 -/
def F_word_operators_3 (a0 : Int) (a1 : Int) (R : Value → LH → Prop) (H : LH) : Prop :=
  (R (Value.int .i64 (IntKind.wrap .i64 (a0 * a1))) H)

theorem F_word_operators_3_call {R : Value → LH → Prop} {H : LH} (a0 : Int) (a1 : Int) (h : F_word_operators_3 a0 a1 R H) : Call prog f_word_operators_3 [.int .i64 a0, .int .i64 a1] H R := by
  have e : F_word_operators_3 a0 a1 R H = zfun prog f_word_operators_3 []
    (.seq none .u (.seq none .u .u))
    [.int .i64 a0, .int .i64 a1] R H := by kernel_rfl
  rw [e] at h
  exact call_of_zfun mixed h

/-- timebound/word.divide -/
def F_word_divide (a0 : Int) (a1 : Int) (R : Value → LH → Prop) (H : LH) : Prop :=
  (((decide (a1 = (0 : Int))) = true) → (R (Value.int .i64 (0 : Int)) H)) ∧ (((decide (a1 = (0 : Int))) = false) → (a1 ≠ (0 : Int)) ∧ (R (Value.int .i64 (IntKind.wrap .i64 (Int.tdiv a0 a1))) H))

theorem F_word_divide_call {R : Value → LH → Prop} {H : LH} (a0 : Int) (a1 : Int) (h : F_word_divide a0 a1 R H) : Call prog f_word_divide [.int .i64 a0, .int .i64 a1] H R := by
  have e : F_word_divide a0 a1 R H = zfun prog f_word_divide []
    (.seq none .u (.seq none (.seq none .u (.cond (.seq none .u .u) .u)) (.seq none .u .u)))
    [.int .i64 a0, .int .i64 a1] R H := by kernel_rfl
  rw [e] at h
  exact call_of_zfun mixed h

/-- timebound/word.remain -/
def F_word_remain (a0 : Int) (a1 : Int) (R : Value → LH → Prop) (H : LH) : Prop :=
  (((decide (a1 = (0 : Int))) = true) → (R (Value.int .i64 (0 : Int)) H)) ∧ (((decide (a1 = (0 : Int))) = false) → (a1 ≠ (0 : Int)) ∧ (R (Value.int .i64 (Int.tmod a0 a1)) H))

theorem F_word_remain_call {R : Value → LH → Prop} {H : LH} (a0 : Int) (a1 : Int) (h : F_word_remain a0 a1 R H) : Call prog f_word_remain [.int .i64 a0, .int .i64 a1] H R := by
  have e : F_word_remain a0 a1 R H = zfun prog f_word_remain []
    (.seq none .u (.seq none (.seq none .u (.cond (.seq none .u .u) .u)) (.seq none .u .u)))
    [.int .i64 a0, .int .i64 a1] R H := by kernel_rfl
  rw [e] at h
  exact call_of_zfun mixed h

/-- timebound/word.operators$4 -/
def F_word_operators_4 (a0 : Int) (a1 : Int) (R : Value → LH → Prop) (H : LH) : Prop :=
  (R (Value.int .i64 (IntKind.wrap .i64 (((BitVec.toNat ((BitVec.ofInt 64 a0) &&& (BitVec.ofInt 64 a1))) : Nat) : Int))) H)

theorem F_word_operators_4_call {R : Value → LH → Prop} {H : LH} (a0 : Int) (a1 : Int) (h : F_word_operators_4 a0 a1 R H) : Call prog f_word_operators_4 [.int .i64 a0, .int .i64 a1] H R := by
  have e : F_word_operators_4 a0 a1 R H = zfun prog f_word_operators_4 []
    (.seq none .u (.seq none .u .u))
    [.int .i64 a0, .int .i64 a1] R H := by kernel_rfl
  rw [e] at h
  exact call_of_zfun mixed h

/-- timebound/word.operators$5 -/
def F_word_operators_5 (a0 : Int) (a1 : Int) (R : Value → LH → Prop) (H : LH) : Prop :=
  (R (Value.int .i64 (IntKind.wrap .i64 (((BitVec.toNat ((BitVec.ofInt 64 a0) ||| (BitVec.ofInt 64 a1))) : Nat) : Int))) H)

theorem F_word_operators_5_call {R : Value → LH → Prop} {H : LH} (a0 : Int) (a1 : Int) (h : F_word_operators_5 a0 a1 R H) : Call prog f_word_operators_5 [.int .i64 a0, .int .i64 a1] H R := by
  have e : F_word_operators_5 a0 a1 R H = zfun prog f_word_operators_5 []
    (.seq none .u (.seq none .u .u))
    [.int .i64 a0, .int .i64 a1] R H := by kernel_rfl
  rw [e] at h
  exact call_of_zfun mixed h

/-- timebound/word.operators$6 -/
def F_word_operators_6 (a0 : Int) (a1 : Int) (R : Value → LH → Prop) (H : LH) : Prop :=
  (R (Value.int .i64 (IntKind.wrap .i64 (((BitVec.toNat ((BitVec.ofInt 64 a0) ^^^ (BitVec.ofInt 64 a1))) : Nat) : Int))) H)

theorem F_word_operators_6_call {R : Value → LH → Prop} {H : LH} (a0 : Int) (a1 : Int) (h : F_word_operators_6 a0 a1 R H) : Call prog f_word_operators_6 [.int .i64 a0, .int .i64 a1] H R := by
  have e : F_word_operators_6 a0 a1 R H = zfun prog f_word_operators_6 []
    (.seq none .u (.seq none .u .u))
    [.int .i64 a0, .int .i64 a1] R H := by kernel_rfl
  rw [e] at h
  exact call_of_zfun mixed h

/-- timebound/word.operators$7 -/
def F_word_operators_7 (a0 : Int) (a1 : Int) (R : Value → LH → Prop) (H : LH) : Prop :=
  ((0 : Int) ≤ (IntKind.wrap .i64 (((BitVec.toNat ((BitVec.ofInt 64 a1) &&& (BitVec.ofInt 64 (31 : Int)))) : Nat) : Int))) ∧ (R (Value.int .i64 (IntKind.wrap .i64 (a0 * ((2 : Int) ^ (Min.min (Int.toNat (IntKind.wrap .i64
    (((BitVec.toNat ((BitVec.ofInt 64 a1) &&& (BitVec.ofInt 64 (31 : Int)))) : Nat) : Int))) 64))))) H)

theorem F_word_operators_7_call {R : Value → LH → Prop} {H : LH} (a0 : Int) (a1 : Int) (h : F_word_operators_7 a0 a1 R H) : Call prog f_word_operators_7 [.int .i64 a0, .int .i64 a1] H R := by
  have e : F_word_operators_7 a0 a1 R H = zfun prog f_word_operators_7 []
    (.seq none .u (.seq none .u .u))
    [.int .i64 a0, .int .i64 a1] R H := by kernel_rfl
  rw [e] at h
  exact call_of_zfun mixed h

/-- timebound/word.operators$8 -/
def F_word_operators_8 (a0 : Int) (a1 : Int) (R : Value → LH → Prop) (H : LH) : Prop :=
  ((0 : Int) ≤ (IntKind.wrap .i64 (((BitVec.toNat ((BitVec.ofInt 64 a1) &&& (BitVec.ofInt 64 (31 : Int)))) : Nat) : Int))) ∧ (R (Value.int .i64 (Int.fdiv a0 ((2 : Int) ^ (Min.min (Int.toNat (IntKind.wrap .i64
    (((BitVec.toNat ((BitVec.ofInt 64 a1) &&& (BitVec.ofInt 64 (31 : Int)))) : Nat) : Int))) 64)))) H)

theorem F_word_operators_8_call {R : Value → LH → Prop} {H : LH} (a0 : Int) (a1 : Int) (h : F_word_operators_8 a0 a1 R H) : Call prog f_word_operators_8 [.int .i64 a0, .int .i64 a1] H R := by
  have e : F_word_operators_8 a0 a1 R H = zfun prog f_word_operators_8 []
    (.seq none .u (.seq none .u .u))
    [.int .i64 a0, .int .i64 a1] R H := by kernel_rfl
  rw [e] at h
  exact call_of_zfun mixed h

/-- timebound/word.operators$9 -/
def F_word_operators_9 (a0 : Int) (a1 : Int) (R : Value → LH → Prop) (H : LH) : Prop :=
  (XCall prog f_word_truth [(Value.bool (decide (a0 < a1)))] H (fun (v1 : Value) (H2 : LH) => ∃ x3 : Int, (v1 = (Value.int .i64 x3)) ∧ (R (Value.int .i64 x3) H2)))

theorem F_word_operators_9_call {R : Value → LH → Prop} {H : LH} (a0 : Int) (a1 : Int) (h : F_word_operators_9 a0 a1 R H) : Call prog f_word_operators_9 [.int .i64 a0, .int .i64 a1] H R := by
  have e : F_word_operators_9 a0 a1 R H = zfun prog f_word_operators_9 []
    (.seq none .u (.seq none .u .u))
    [.int .i64 a0, .int .i64 a1] R H := by kernel_rfl
  rw [e] at h
  exact call_of_zfun mixed h

/-- timebound/word.truth -/
def F_word_truth (a0 : Bool) (R : Value → LH → Prop) (H : LH) : Prop :=
  ((a0 = true) → (R (Value.int .i64 (1 : Int)) H)) ∧ ((a0 = false) → (R (Value.int .i64 (0 : Int)) H))

theorem F_word_truth_call {R : Value → LH → Prop} {H : LH} (a0 : Bool) (h : F_word_truth a0 R H) : Call prog f_word_truth [.bool a0] H R := by
  have e : F_word_truth a0 R H = zfun prog f_word_truth []
    (.seq none .u (.seq none (.seq none .u (.cond (.seq none .u .u) .u)) (.seq none .u .u)))
    [.bool a0] R H := by kernel_rfl
  rw [e] at h
  exact call_of_zfun mixed h

/-- timebound/word.operators$10 -/
def F_word_operators_10 (a0 : Int) (a1 : Int) (R : Value → LH → Prop) (H : LH) : Prop :=
  (XCall prog f_word_truth [(Value.bool (decide (a0 ≤ a1)))] H (fun (v1 : Value) (H2 : LH) => ∃ x3 : Int, (v1 = (Value.int .i64 x3)) ∧ (R (Value.int .i64 x3) H2)))

theorem F_word_operators_10_call {R : Value → LH → Prop} {H : LH} (a0 : Int) (a1 : Int) (h : F_word_operators_10 a0 a1 R H) : Call prog f_word_operators_10 [.int .i64 a0, .int .i64 a1] H R := by
  have e : F_word_operators_10 a0 a1 R H = zfun prog f_word_operators_10 []
    (.seq none .u (.seq none .u .u))
    [.int .i64 a0, .int .i64 a1] R H := by kernel_rfl
  rw [e] at h
  exact call_of_zfun mixed h

/-- timebound/word.operators$11 -/
def F_word_operators_11 (a0 : Int) (a1 : Int) (R : Value → LH → Prop) (H : LH) : Prop :=
  (XCall prog f_word_truth [(Value.bool (decide (a0 = a1)))] H (fun (v1 : Value) (H2 : LH) => ∃ x3 : Int, (v1 = (Value.int .i64 x3)) ∧ (R (Value.int .i64 x3) H2)))

theorem F_word_operators_11_call {R : Value → LH → Prop} {H : LH} (a0 : Int) (a1 : Int) (h : F_word_operators_11 a0 a1 R H) : Call prog f_word_operators_11 [.int .i64 a0, .int .i64 a1] H R := by
  have e : F_word_operators_11 a0 a1 R H = zfun prog f_word_operators_11 []
    (.seq none .u (.seq none .u .u))
    [.int .i64 a0, .int .i64 a1] R H := by kernel_rfl
  rw [e] at h
  exact call_of_zfun mixed h

/-- timebound/word.operators$12 -/
def F_word_operators_12 (a0 : Int) (a1 : Int) (R : Value → LH → Prop) (H : LH) : Prop :=
  (XCall prog f_word_truth [(Value.bool (Bool.not (decide (a0 = a1))))] H (fun (v1 : Value) (H2 : LH) => ∃ x3 : Int, (v1 = (Value.int .i64 x3)) ∧ (R (Value.int .i64 x3) H2)))

theorem F_word_operators_12_call {R : Value → LH → Prop} {H : LH} (a0 : Int) (a1 : Int) (h : F_word_operators_12 a0 a1 R H) : Call prog f_word_operators_12 [.int .i64 a0, .int .i64 a1] H R := by
  have e : F_word_operators_12 a0 a1 R H = zfun prog f_word_operators_12 []
    (.seq none .u (.seq none .u .u))
    [.int .i64 a0, .int .i64 a1] R H := by kernel_rfl
  rw [e] at h
  exact call_of_zfun mixed h

/-- timebound/timeboundref11.in -/
def F_ref11_in (a0 : Int) (R : Value → LH → Prop) (H : LH) : Prop :=
  (((decide ((-(1048576 : Int)) ≤ a0)) = true) → (R (Value.bool (decide (a0 ≤ (1048576 : Int)))) H)) ∧ (((decide ((-(1048576 : Int)) ≤ a0)) = false) → (R (Value.bool false) H))

theorem F_ref11_in_call {R : Value → LH → Prop} {H : LH} (a0 : Int) (h : F_ref11_in a0 R H) : Call prog f_ref11_in [.int .i64 a0] H R := by
  have e : F_ref11_in a0 R H = zfun prog f_ref11_in []
    (.seq none .u (.seq none .u .u))
    [.int .i64 a0] R H := by kernel_rfl
  rw [e] at h
  exact call_of_zfun mixed h

/-- slices.Grow[[]timebound/api.Area,timebound/api.Area] -/
def F_slices_Grow_api_Area_api_Area (a0p : Option Addr) (a0n a0c : Nat) (a1 : Int) (R : Value → LH → Prop) (H : LH) : Prop :=
  ∀ K1 : (LH → Prop), (∀ H2 : LH, (((a0p = none) → (a0n = 0)) ∧ (a0c = a0n) ∧ ((a0p = none) → (a0n = 0) ∧ (a0c = 0)) ∧ (((decide ((0 : Int) < (IntKind.wrap .i64 (a1 - (IntKind.wrap .i64 ((a0n : Int) - (a0n : Int))))))) =
    true) → ((a0p = none) → (a0n = 0)) ∧ (a0c = a0n) ∧ ∃ p3 : (Option Addr), ∃ n4 n5 : Nat, ((sliceV H2 2 (Value.slice a0p a0n a0c) none (some (Value.int .i64 (a0n : Int))) none) = (some (Value.slice p3 n4 n5))) ∧ False)
    ∧ (((decide ((0 : Int) < (IntKind.wrap .i64 (a1 - (IntKind.wrap .i64 ((a0n : Int) - (a0n : Int))))))) = false) → (R (Value.slice a0p a0n a0c) H2))) → (K1 H2)) → (((decide (a1 < (0 : Int))) = true) → False) ∧
    (((decide (a1 < (0 : Int))) = false) → (K1 H))

theorem F_slices_Grow_api_Area_api_Area_call {R : Value → LH → Prop} {H : LH} (a0p : Option Addr) (a0n a0c : Nat) (a1 : Int) (h : F_slices_Grow_api_Area_api_Area a0p a0n a0c a1 R H) : Call prog f_slices_Grow_api_Area_api_Area [.slice a0p a0n a0c, .int .i64 a1] H R := by
  have e : F_slices_Grow_api_Area_api_Area a0p a0n a0c a1 R H = zfun prog f_slices_Grow_api_Area_api_Area []
    (.seq none .u (.seq (some ⟨[], [0, 1]⟩) (.seq none .u (.cond .u .u)) (.seq none (.seq none .u (.seq none .u (.cond .u .u))) (.seq none .u .u))))
    [.slice a0p a0n a0c, .int .i64 a1] R H := by kernel_rfl
  rw [e] at h
  exact call_of_zfun mixed h

/-- timebound/fact.block -/
def F_fact_block (a0 : Int) (R : Value → LH → Prop) (H : LH) : Prop :=
  (((decide ((0 : Int) ≤ a0)) = true) → (R (Value.bool (decide (a0 < (256 : Int)))) H)) ∧ (((decide ((0 : Int) ≤ a0)) = false) → (R (Value.bool false) H))

theorem F_fact_block_call {R : Value → LH → Prop} {H : LH} (a0 : Int) (h : F_fact_block a0 R H) : Call prog f_fact_block [.int .i64 a0] H R := by
  have e : F_fact_block a0 R H = zfun prog f_fact_block []
    (.seq none .u (.seq none .u .u))
    [.int .i64 a0] R H := by kernel_rfl
  rw [e] at h
  exact call_of_zfun mixed h

/-- timebound/fact.small -/
def F_fact_small (a0 : Int) (R : Value → LH → Prop) (H : LH) : Prop :=
  (((decide ((-(1048576 : Int)) ≤ a0)) = true) → (R (Value.bool (decide (a0 ≤ (1048576 : Int)))) H)) ∧ (((decide ((-(1048576 : Int)) ≤ a0)) = false) → (R (Value.bool false) H))

theorem F_fact_small_call {R : Value → LH → Prop} {H : LH} (a0 : Int) (h : F_fact_small a0 R H) : Call prog f_fact_small [.int .i64 a0] H R := by
  have e : F_fact_small a0 R H = zfun prog f_fact_small []
    (.seq none .u (.seq none .u .u))
    [.int .i64 a0] R H := by kernel_rfl
  rw [e] at h
  exact call_of_zfun mixed h

/-- slices.IndexFunc[[]timebound/api.Term,timebound/api.Term] -/
def F_slices_IndexFunc_api_Term_api_Term (a0p : Option Addr) (a0n a0c : Nat) (a1 : Value) (R : Value → LH → Prop) (H : LH) : Prop :=
  ((a0p = none) → (a0n = 0) ∧ (a0c = 0)) ∧ ∃ K1 : (Int → LH → Prop), ∃ K2 : (Int → LH → Nat), (K1 (0 : Int) H) ∧ ∀ x3 : Int, ∀ H4 : LH, (K1 x3 H4) → (((decide (x3 < (a0n : Int))) = true) → ∃ n5 n6 : Nat, (a0p = (some
    (Addr.mk n5 n6 none))) ∧ ((0 : Int) ≤ x3) ∧ (x3 < (a0n : Int)) ∧ ∃ x7 : Int, (hAt H4 n5 (n6 + ((Int.toNat x3) * 2)) (Value.int .i64 x7)) ∧ ∃ x8 : Int, (hAt H4 n5 ((n6 + ((Int.toNat x3) * 2)) + 1) (Value.int .i64 x8))
    ∧ ∃ n9 : Nat, ∃ l10 l11 : (List Value), (a1 = (Value.func (Fn.func n9) (Array.mk l10) (Array.mk l11))) ∧ ((okFn prog n9) = true) ∧ (XCall prog n9 ((l10 ++ [(Value.agg #[(Value.int .i64 x7), (Value.int .i64 x8)])]) ++
    l11) H4 (fun (v12 : Value) (H13 : LH) => ∃ b14 : Bool, (v12 = (Value.bool b14)) ∧ ((b14 = true) → (R (Value.int .i64 x3) H13)) ∧ ((b14 = false) → (K1 (IntKind.wrap .i64 (x3 + (1 : Int))) H13) ∧ ((K2 (IntKind.wrap
    .i64 (x3 + (1 : Int))) H13) < (K2 x3 H4)))))) ∧ (((decide (x3 < (a0n : Int))) = false) → (R (Value.int .i64 (-(1 : Int))) H4))

theorem F_slices_IndexFunc_api_Term_api_Term_call {R : Value → LH → Prop} {H : LH} (a0p : Option Addr) (a0n a0c : Nat) (a1 : Value) (h : F_slices_IndexFunc_api_Term_api_Term a0p a0n a0c a1 R H) : Call prog f_slices_IndexFunc_api_Term_api_Term [.slice a0p a0n a0c, a1] H R := by
  have e : F_slices_IndexFunc_api_Term_api_Term a0p a0n a0c a1 R H = zfun prog f_slices_IndexFunc_api_Term_api_Term []
    (.seq none .u (.seq none (.seq none .u (.block (.loop ⟨[(8, .one (.int .i64))], [0, 1, 7]⟩ (.seq none .u (.seq none (.cond .u .u) (.seq none (.block (.seq none .u (.seq none .u (.cond (.seq none .u .u) .u)))) .u)))))) (.seq none .u .u)))
    [.slice a0p a0n a0c, a1] R H := by kernel_rfl
  rw [e] at h
  exact call_of_zfun mixed h

end Go.Lg
