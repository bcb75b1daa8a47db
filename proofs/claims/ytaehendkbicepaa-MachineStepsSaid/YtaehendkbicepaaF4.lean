/- What each function asks, part 4. No condition. -/
import Derived.Test.YtaehendkbicepaaFN
set_option linter.unusedVariables false
set_option maxRecDepth 100000
namespace Go.Lg
open Go
/-- timebound/timeboundref01.Do -/
def F_ref01_Do (a0 : Int) (a1 : Int) (a2 : Int) (R : Value → LH → Prop) (H : LH) : Prop :=
  (XCall prog f_ref01_Wrap [(Value.int .i64 a1)] H (fun (v1 : Value) (H2 : LH) => ∃ x3 : Int, (v1 = (Value.int .i64 x3)) ∧ (XCall prog f_ref01_Wrap [(Value.int .i64 a2)] H2 (fun (v4 : Value) (H5 : LH) => ∃ x6 : Int, (v4 =
    (Value.int .i64 x6)) ∧ (((decide (a0 = (1 : Int))) = true) → (XCall prog f_ref01_Wrap [(Value.int .i64 (IntKind.wrap .i64 (x3 + x6)))] H5 (fun (v7 : Value) (H8 : LH) => ∃ x9 : Int, (v7 = (Value.int .i64 x9)) ∧ (R
    (Value.tuple #[(Value.int .i64 x9), (Value.int .i64 (0 : Int))]) H8)))) ∧ (((decide (a0 = (1 : Int))) = false) → (((decide (a0 = (2 : Int))) = true) → (XCall prog f_ref01_Wrap [(Value.int .i64 (IntKind.wrap .i64 (x3
    - x6)))] H5 (fun (v10 : Value) (H11 : LH) => ∃ x12 : Int, (v10 = (Value.int .i64 x12)) ∧ (R (Value.tuple #[(Value.int .i64 x12), (Value.int .i64 (0 : Int))]) H11)))) ∧ (((decide (a0 = (2 : Int))) = false) → (((decide
    (a0 = (3 : Int))) = true) → (XCall prog f_ref01_Wrap [(Value.int .i64 (IntKind.wrap .i64 (x3 * x6)))] H5 (fun (v13 : Value) (H14 : LH) => ∃ x15 : Int, (v13 = (Value.int .i64 x15)) ∧ (R (Value.tuple #[(Value.int .i64
    x15), (Value.int .i64 (0 : Int))]) H14)))) ∧ (((decide (a0 = (3 : Int))) = false) → (((decide (a0 = (4 : Int))) = true) → (((Bool.not (decide (x6 = (0 : Int)))) = true) → (x6 ≠ (0 : Int)) ∧ (XCall prog f_ref01_Wrap
    [(Value.int .i64 (IntKind.wrap .i64 (Int.tdiv x3 x6)))] H5 (fun (v16 : Value) (H17 : LH) => ∃ x18 : Int, (v16 = (Value.int .i64 x18)) ∧ (R (Value.tuple #[(Value.int .i64 x18), (Value.int .i64 (0 : Int))]) H17)))) ∧
    (((Bool.not (decide (x6 = (0 : Int)))) = false) → (XCall prog f_ref01_Wrap [(Value.int .i64 (0 : Int))] H5 (fun (v19 : Value) (H20 : LH) => ∃ x21 : Int, (v19 = (Value.int .i64 x21)) ∧ (R (Value.tuple #[(Value.int
    .i64 x21), (Value.int .i64 (0 : Int))]) H20))))) ∧ (((decide (a0 = (4 : Int))) = false) → (((decide (a0 = (5 : Int))) = true) → (((Bool.not (decide (x6 = (0 : Int)))) = true) → (x6 ≠ (0 : Int)) ∧ (XCall prog
    f_ref01_Wrap [(Value.int .i64 (Int.tmod x3 x6))] H5 (fun (v22 : Value) (H23 : LH) => ∃ x24 : Int, (v22 = (Value.int .i64 x24)) ∧ (R (Value.tuple #[(Value.int .i64 x24), (Value.int .i64 (0 : Int))]) H23)))) ∧
    (((Bool.not (decide (x6 = (0 : Int)))) = false) → (XCall prog f_ref01_Wrap [(Value.int .i64 (0 : Int))] H5 (fun (v25 : Value) (H26 : LH) => ∃ x27 : Int, (v25 = (Value.int .i64 x27)) ∧ (R (Value.tuple #[(Value.int
    .i64 x27), (Value.int .i64 (0 : Int))]) H26))))) ∧ (((decide (a0 = (5 : Int))) = false) → (((decide (a0 = (6 : Int))) = true) → (XCall prog f_ref01_Wrap [(Value.int .i64 (IntKind.wrap .i64 (((BitVec.toNat
    ((BitVec.ofInt 64 x3) &&& (BitVec.ofInt 64 x6))) : Nat) : Int)))] H5 (fun (v28 : Value) (H29 : LH) => ∃ x30 : Int, (v28 = (Value.int .i64 x30)) ∧ (R (Value.tuple #[(Value.int .i64 x30), (Value.int .i64 (0 : Int))])
    H29)))) ∧ (((decide (a0 = (6 : Int))) = false) → (((decide (a0 = (7 : Int))) = true) → (XCall prog f_ref01_Wrap [(Value.int .i64 (IntKind.wrap .i64 (((BitVec.toNat ((BitVec.ofInt 64 x3) ||| (BitVec.ofInt 64 x6))) :
    Nat) : Int)))] H5 (fun (v31 : Value) (H32 : LH) => ∃ x33 : Int, (v31 = (Value.int .i64 x33)) ∧ (R (Value.tuple #[(Value.int .i64 x33), (Value.int .i64 (0 : Int))]) H32)))) ∧ (((decide (a0 = (7 : Int))) = false) →
    (((decide (a0 = (8 : Int))) = true) → (XCall prog f_ref01_Wrap [(Value.int .i64 (IntKind.wrap .i64 (((BitVec.toNat ((BitVec.ofInt 64 x3) ^^^ (BitVec.ofInt 64 x6))) : Nat) : Int)))] H5 (fun (v34 : Value) (H35 : LH) =>
    ∃ x36 : Int, (v34 = (Value.int .i64 x36)) ∧ (R (Value.tuple #[(Value.int .i64 x36), (Value.int .i64 (0 : Int))]) H35)))) ∧ (((decide (a0 = (8 : Int))) = false) → (((decide (a0 = (9 : Int))) = true) → ((0 : Int) ≤
    (IntKind.wrap .u64 (IntKind.wrap .i64 (((BitVec.toNat ((BitVec.ofInt 64 x6) &&& (BitVec.ofInt 64 (31 : Int)))) : Nat) : Int)))) ∧ (XCall prog f_ref01_Wrap [(Value.int .i64 (IntKind.wrap .i64 (x3 * ((2 : Int) ^
    (Min.min (Int.toNat (IntKind.wrap .u64 (IntKind.wrap .i64 (((BitVec.toNat ((BitVec.ofInt 64 x6) &&& (BitVec.ofInt 64 (31 : Int)))) : Nat) : Int)))) 64)))))] H5 (fun (v37 : Value) (H38 : LH) => ∃ x39 : Int, (v37 =
    (Value.int .i64 x39)) ∧ (R (Value.tuple #[(Value.int .i64 x39), (Value.int .i64 (0 : Int))]) H38)))) ∧ (((decide (a0 = (9 : Int))) = false) → (((decide (a0 = (10 : Int))) = true) → ((0 : Int) ≤ (IntKind.wrap .u64
    (IntKind.wrap .i64 (((BitVec.toNat ((BitVec.ofInt 64 x6) &&& (BitVec.ofInt 64 (31 : Int)))) : Nat) : Int)))) ∧ (XCall prog f_ref01_Wrap [(Value.int .i64 (Int.fdiv x3 ((2 : Int) ^ (Min.min (Int.toNat (IntKind.wrap
    .u64 (IntKind.wrap .i64 (((BitVec.toNat ((BitVec.ofInt 64 x6) &&& (BitVec.ofInt 64 (31 : Int)))) : Nat) : Int)))) 64))))] H5 (fun (v40 : Value) (H41 : LH) => ∃ x42 : Int, (v40 = (Value.int .i64 x42)) ∧ (R
    (Value.tuple #[(Value.int .i64 x42), (Value.int .i64 (0 : Int))]) H41)))) ∧ (((decide (a0 = (10 : Int))) = false) → (((decide (a0 = (11 : Int))) = true) → (XCall prog f_ref01_truth [(Value.bool (decide (x3 < x6)))]
    H5 (fun (v43 : Value) (H44 : LH) => ∃ x45 : Int, (v43 = (Value.int .i64 x45)) ∧ (XCall prog f_ref01_Wrap [(Value.int .i64 x45)] H44 (fun (v46 : Value) (H47 : LH) => ∃ x48 : Int, (v46 = (Value.int .i64 x48)) ∧ (R
    (Value.tuple #[(Value.int .i64 x48), (Value.int .i64 (0 : Int))]) H47)))))) ∧ (((decide (a0 = (11 : Int))) = false) → (((decide (a0 = (12 : Int))) = true) → (XCall prog f_ref01_truth [(Value.bool (decide (x3 ≤ x6)))]
    H5 (fun (v49 : Value) (H50 : LH) => ∃ x51 : Int, (v49 = (Value.int .i64 x51)) ∧ (XCall prog f_ref01_Wrap [(Value.int .i64 x51)] H50 (fun (v52 : Value) (H53 : LH) => ∃ x54 : Int, (v52 = (Value.int .i64 x54)) ∧ (R
    (Value.tuple #[(Value.int .i64 x54), (Value.int .i64 (0 : Int))]) H53)))))) ∧ (((decide (a0 = (12 : Int))) = false) → (((decide (a0 = (13 : Int))) = true) → (XCall prog f_ref01_truth [(Value.bool (decide (x3 = x6)))]
    H5 (fun (v55 : Value) (H56 : LH) => ∃ x57 : Int, (v55 = (Value.int .i64 x57)) ∧ (XCall prog f_ref01_Wrap [(Value.int .i64 x57)] H56 (fun (v58 : Value) (H59 : LH) => ∃ x60 : Int, (v58 = (Value.int .i64 x60)) ∧ (R
    (Value.tuple #[(Value.int .i64 x60), (Value.int .i64 (0 : Int))]) H59)))))) ∧ (((decide (a0 = (13 : Int))) = false) → (((decide (a0 = (14 : Int))) = true) → (XCall prog f_ref01_truth [(Value.bool (Bool.not (decide
    (x3 = x6))))] H5 (fun (v61 : Value) (H62 : LH) => ∃ x63 : Int, (v61 = (Value.int .i64 x63)) ∧ (XCall prog f_ref01_Wrap [(Value.int .i64 x63)] H62 (fun (v64 : Value) (H65 : LH) => ∃ x66 : Int, (v64 = (Value.int .i64
    x66)) ∧ (R (Value.tuple #[(Value.int .i64 x66), (Value.int .i64 (0 : Int))]) H65)))))) ∧ (((decide (a0 = (14 : Int))) = false) → (R (Value.tuple #[(Value.int .i64 (0 : Int)), (Value.int .i64 (6 : Int))])
    H5)))))))))))))))))))

theorem F_ref01_Do_call {R : Value → LH → Prop} {H : LH} (a0 : Int) (a1 : Int) (a2 : Int) (h : F_ref01_Do a0 a1 a2 R H) : Call prog f_ref01_Do [.int .i64 a0, .int .i64 a1, .int .i64 a2] H R := by
  have e : F_ref01_Do a0 a1 a2 R H = zfun prog f_ref01_Do []
    (.seq none .u (.seq none .u (.seq none .u (.seq none (.seq none .u (.block (.seq none .u (.cond .u (.seq none .u (.cond .u (.seq none .u (.cond .u (.seq none .u (.cond (.seq none .u (.cond .u .u)) (.seq none .u (.cond (.seq none .u (.cond .u .u)) (.seq none .u (.cond .u (.seq none .u (.cond .u (.seq none .u (.cond .u (.seq none .u (.cond .u (.seq none .u (.cond .u (.seq none .u (.cond .u (.seq none .u (.cond .u (.seq none .u (.cond .u (.seq none .u (.cond .u (.seq none .u .u))))))))))))))))))))))))))))))) (.seq none .u .u)))))
    [.int .i64 a0, .int .i64 a1, .int .i64 a2] R H := by kernel_rfl
  rw [e] at h
  exact call_of_zfun mixed h

/-- slices.IndexFunc[[]int,int] -/
def F_slices_IndexFunc_int_int (a0p : Option Addr) (a0n a0c : Nat) (a1 : Value) (R : Value → LH → Prop) (H : LH) : Prop :=
  ((a0p = none) → (a0n = 0) ∧ (a0c = 0)) ∧ ∃ K1 : (Int → LH → Prop), ∃ K2 : (Int → LH → Nat), (K1 (0 : Int) H) ∧ ∀ x3 : Int, ∀ H4 : LH, (K1 x3 H4) → (((decide (x3 < (a0n : Int))) = true) → ∃ n5 n6 : Nat, (a0p = (some
    (Addr.mk n5 n6 none))) ∧ ((0 : Int) ≤ x3) ∧ (x3 < (a0n : Int)) ∧ ∃ x7 : Int, (hAt H4 n5 (n6 + ((Int.toNat x3) * 1)) (Value.int .i64 x7)) ∧ ∃ n8 : Nat, ∃ l9 l10 : (List Value), (a1 = (Value.func (Fn.func n8) (Array.mk
    l9) (Array.mk l10))) ∧ ((okFn prog n8) = true) ∧ (XCall prog n8 ((l9 ++ [(Value.int .i64 x7)]) ++ l10) H4 (fun (v11 : Value) (H12 : LH) => ∃ b13 : Bool, (v11 = (Value.bool b13)) ∧ ((b13 = true) → (R (Value.int .i64
    x3) H12)) ∧ ((b13 = false) → (K1 (IntKind.wrap .i64 (x3 + (1 : Int))) H12) ∧ ((K2 (IntKind.wrap .i64 (x3 + (1 : Int))) H12) < (K2 x3 H4)))))) ∧ (((decide (x3 < (a0n : Int))) = false) → (R (Value.int .i64 (-(1 :
    Int))) H4))

theorem F_slices_IndexFunc_int_int_call {R : Value → LH → Prop} {H : LH} (a0p : Option Addr) (a0n a0c : Nat) (a1 : Value) (h : F_slices_IndexFunc_int_int a0p a0n a0c a1 R H) : Call prog f_slices_IndexFunc_int_int [.slice a0p a0n a0c, a1] H R := by
  have e : F_slices_IndexFunc_int_int a0p a0n a0c a1 R H = zfun prog f_slices_IndexFunc_int_int []
    (.seq none .u (.seq none (.seq none .u (.block (.loop ⟨[(8, .one (.int .i64))], [0, 1, 7]⟩ (.seq none .u (.seq none (.cond .u .u) (.seq none (.block (.seq none .u (.seq none .u (.cond (.seq none .u .u) .u)))) .u)))))) (.seq none .u .u)))
    [.slice a0p a0n a0c, a1] R H := by kernel_rfl
  rw [e] at h
  exact call_of_zfun mixed h

/-- timebound/timeboundref06.Word -/
def F_ref06_Word (a0 : Int) (R : Value → LH → Prop) (H : LH) : Prop :=
  (((decide ((-(2147483648 : Int)) ≤ a0)) = true) → (R (Value.bool (decide (a0 < (2147483648 : Int)))) H)) ∧ (((decide ((-(2147483648 : Int)) ≤ a0)) = false) → (R (Value.bool false) H))

theorem F_ref06_Word_call {R : Value → LH → Prop} {H : LH} (a0 : Int) (h : F_ref06_Word a0 R H) : Call prog f_ref06_Word [.int .i64 a0] H R := by
  have e : F_ref06_Word a0 R H = zfun prog f_ref06_Word []
    (.seq none .u (.seq none .u .u))
    [.int .i64 a0] R H := by kernel_rfl
  rw [e] at h
  exact call_of_zfun mixed h

/-- timebound/machine.filled -/
def F_machine_filled (a0p : Option Addr) (a0n a0c : Nat) (a1p : Option Addr) (a1n a1c : Nat) (R : Value → LH → Prop) (H : LH) : Prop :=
  ((a0p = none) → (a0n = 0) ∧ (a0c = 0)) ∧ ((a1p = none) → (a1n = 0) ∧ (a1c = 0)) ∧ (((Bool.not (decide ((a0n : Int) = (a1n : Int)))) = true) → (R (Value.bool false) H)) ∧ (((Bool.not (decide ((a0n : Int) = (a1n : Int))))
    = false) → ((a0p = none) → (a0n = 0) ∧ (a0c = 0)) ∧ ∃ K1 : (Int → LH → Prop), ∃ K2 : (Int → LH → Nat), (K1 (0 : Int) H) ∧ ∀ x3 : Int, ∀ H4 : LH, (K1 x3 H4) → (((decide (x3 < (a0n : Int))) = true) → ∃ n5 n6 : Nat,
    (a0p = (some (Addr.mk n5 n6 none))) ∧ ((0 : Int) ≤ x3) ∧ (x3 < (a0n : Int)) ∧ ∃ x7 : Int, (hAt H4 n5 (n6 + ((Int.toNat x3) * 2)) (Value.int .i64 x7)) ∧ ∃ x8 : Int, (hAt H4 n5 ((n6 + ((Int.toNat x3) * 2)) + 1)
    (Value.int .i64 x8)) ∧ ∀ H9 : LH, (H9 = (LH.keep H4 15)) → ∃ n10 n11 : Nat, (a1p = (some (Addr.mk n10 n11 none))) ∧ ((0 : Int) ≤ x3) ∧ (x3 < (a1n : Int)) ∧ ∃ p12 : (Option Addr), ∃ n13 n14 : Nat, (hAt H9 n10 (n11 +
    ((Int.toNat x3) * 1)) (Value.slice p12 n13 n14)) ∧ ((p12 = none) → (n13 = 0) ∧ (n14 = 0)) ∧ (((Bool.not (decide ((n13 : Int) = x8))) = true) → (R (Value.bool false) H9)) ∧ (((Bool.not (decide ((n13 : Int) = x8))) =
    false) → ∃ n15 n16 : Nat, (a1p = (some (Addr.mk n15 n16 none))) ∧ ((0 : Int) ≤ x3) ∧ (x3 < (a1n : Int)) ∧ ∃ p17 : (Option Addr), ∃ n18 n19 : Nat, (hAt H9 n15 (n16 + ((Int.toNat x3) * 1)) (Value.slice p17 n18 n19)) ∧
    (XCall prog f_slices_ContainsFunc_int_int [(Value.slice p17 n18 n19), (Value.func (Fn.func f_machine_filled_1) #[] #[])] H9 (fun (v20 : Value) (H21 : LH) => ∃ b22 : Bool, (v20 = (Value.bool b22)) ∧ ((b22 = true) → (R
    (Value.bool false) H21)) ∧ ((b22 = false) → (K1 (IntKind.wrap .i64 (x3 + (1 : Int))) H21) ∧ ((K2 (IntKind.wrap .i64 (x3 + (1 : Int))) H21) < (K2 x3 H4))))))) ∧ (((decide (x3 < (a0n : Int))) = false) → (R (Value.bool
    true) H4)))

theorem F_machine_filled_call {R : Value → LH → Prop} {H : LH} (a0p : Option Addr) (a0n a0c : Nat) (a1p : Option Addr) (a1n a1c : Nat) (h : F_machine_filled a0p a0n a0c a1p a1n a1c R H) : Call prog f_machine_filled [.slice a0p a0n a0c, .slice a1p a1n a1c] H R := by
  have e : F_machine_filled a0p a0n a0c a1p a1n a1c R H = zfun prog f_machine_filled [6]
    (.seq none .u (.seq none (.seq none .u (.cond (.seq none .u .u) .u)) (.seq none (.seq none .u (.block (.loop ⟨[(14, .one (.int .i64))], [1, 12, 13]⟩ (.seq none .u (.seq none (.cond .u .u) (.seq none (.block (.seq none .u (.seq none (.draw [⟨0, [], []⟩, ⟨1, [], []⟩, ⟨2, [], []⟩, ⟨3, [], []⟩, ⟨4, [], []⟩, ⟨5, [], []⟩, ⟨6, [], []⟩, ⟨7, [], []⟩, ⟨8, [], []⟩, ⟨9, [], []⟩, ⟨10, [], []⟩, ⟨11, [], []⟩, ⟨12, [], []⟩, ⟨13, [], []⟩, ⟨14, [], []⟩]) (.cond (.seq none .u .u) .u)))) .u)))))) (.seq none .u .u))))
    [.slice a0p a0n a0c, .slice a1p a1n a1c] R H := by kernel_rfl
  rw [e] at h
  exact call_of_zfun mixed h

/-- timebound/machine.there -/
def F_machine_there (a0_0p : Option Addr) (a0_0n a0_0c : Nat) (a0_1 : Int) (a0_2p : Option Addr) (a0_2n a0_2c : Nat) (a0_3p : Option Addr) (a0_3n a0_3c : Nat) (a1_0 : ByteArray) (a1_1p : Option Addr) (a1_1n a1_1c : Nat) (a1_2p : Option Addr) (a1_2n a1_2c : Nat) (a1_3p : Option Addr) (a1_3n a1_3c : Nat) (a1_4p : Option Addr) (a1_4n a1_4c : Nat) (a1_5p : Option Addr) (a1_5n a1_5c : Nat) (a1_6p : Option Addr) (a1_6n a1_6c : Nat) (a1_7p : Option Addr) (a1_7n a1_7c : Nat) (a1_8p : Option Addr) (a1_8n a1_8c : Nat) (a1_9p : Option Addr) (a1_9n a1_9c : Nat) (R : Value → LH → Prop) (H : LH) : Prop :=
  ((a1_8p = none) → (a1_8n = 0) ∧ (a1_8c = 0)) ∧ ∃ K1 : (Int → LH → Prop), ∃ K2 : (Int → LH → Nat), (K1 (0 : Int) H) ∧ ∀ x3 : Int, ∀ H4 : LH, (K1 x3 H4) → (((decide (x3 < (a1_8n : Int))) = true) → ∃ n5 n6 : Nat, (a1_8p =
    (some (Addr.mk n5 n6 none))) ∧ ((0 : Int) ≤ x3) ∧ (x3 < (a1_8n : Int)) ∧ ∃ x7 : Int, (hAt H4 n5 (n6 + ((Int.toNat x3) * 1)) (Value.int .i64 x7)) ∧ (((decide (x7 < (0 : Int))) = true) → (R (Value.bool false) H4)) ∧
    (((decide (x7 < (0 : Int))) = false) → (((decide (a0_1 ≤ x7)) = true) → (R (Value.bool false) H4)) ∧ (((decide (a0_1 ≤ x7)) = false) → (K1 (IntKind.wrap .i64 (x3 + (1 : Int))) H4) ∧ ((K2 (IntKind.wrap .i64 (x3 + (1 :
    Int))) H4) < (K2 x3 H4))))) ∧ (((decide (x3 < (a1_8n : Int))) = false) → ∀ H8 : LH, (H8 = (LH.new H4 (LObj.cells [(Value.slice a1_9p a1_9n a1_9c), (Value.slice a0_2p a0_2n a0_2c)] 1 false))) → (XCall prog
    f_slices_Concat_api_Area_api_Area [(Value.slice (some (Addr.mk (LH.next H4) 0 none)) 2 2)] H8 (fun (v9 : Value) (H10 : LH) => ∃ p11 : (Option Addr), ∃ n12 n13 : Nat, (v9 = (Value.slice p11 n12 n13)) ∧ ((p11 = none) →
    (n12 = 0) ∧ (n13 = 0)) ∧ ∃ K14 : (Int → LH → Prop), ∃ K15 : (Int → LH → Nat), (K14 (0 : Int) H10) ∧ ∀ x16 : Int, ∀ H17 : LH, (K14 x16 H17) → (((decide (x16 < (n12 : Int))) = true) → ∃ n18 n19 : Nat, (p11 = (some
    (Addr.mk n18 n19 none))) ∧ ((0 : Int) ≤ x16) ∧ (x16 < (n12 : Int)) ∧ ∃ x20 : Int, (hAt H17 n18 (n19 + ((Int.toNat x16) * 2)) (Value.int .i64 x20)) ∧ ∃ x21 : Int, (hAt H17 n18 ((n19 + ((Int.toNat x16) * 2)) + 1)
    (Value.int .i64 x21)) ∧ (((decide (x20 < (0 : Int))) = true) → (R (Value.bool false) H17)) ∧ (((decide (x20 < (0 : Int))) = false) → (((decide (x21 < (0 : Int))) = true) → (R (Value.bool false) H17)) ∧ (((decide (x21
    < (0 : Int))) = false) → (((decide (a0_1 < x20)) = true) → (R (Value.bool false) H17)) ∧ (((decide (a0_1 < x20)) = false) → (((decide ((IntKind.wrap .i64 (a0_1 - x20)) < x21)) = true) → (R (Value.bool false) H17)) ∧
    (((decide ((IntKind.wrap .i64 (a0_1 - x20)) < x21)) = false) → (K14 (IntKind.wrap .i64 (x16 + (1 : Int))) H17) ∧ ((K15 (IntKind.wrap .i64 (x16 + (1 : Int))) H17) < (K15 x16 H17))))))) ∧ (((decide (x16 < (n12 : Int)))
    = false) → ((a1_8p = none) → (a1_8n = 0) ∧ (a1_8c = 0)) ∧ ((a1_7p = none) → (a1_7n = 0) ∧ (a1_7c = 0)) ∧ (R (Value.bool (decide ((a1_7n : Int) ≤ (a1_8n : Int)))) H17)))))

theorem F_machine_there_call {R : Value → LH → Prop} {H : LH} (a0_0p : Option Addr) (a0_0n a0_0c : Nat) (a0_1 : Int) (a0_2p : Option Addr) (a0_2n a0_2c : Nat) (a0_3p : Option Addr) (a0_3n a0_3c : Nat) (a1_0 : ByteArray) (a1_1p : Option Addr) (a1_1n a1_1c : Nat) (a1_2p : Option Addr) (a1_2n a1_2c : Nat) (a1_3p : Option Addr) (a1_3n a1_3c : Nat) (a1_4p : Option Addr) (a1_4n a1_4c : Nat) (a1_5p : Option Addr) (a1_5n a1_5c : Nat) (a1_6p : Option Addr) (a1_6n a1_6c : Nat) (a1_7p : Option Addr) (a1_7n a1_7c : Nat) (a1_8p : Option Addr) (a1_8n a1_8c : Nat) (a1_9p : Option Addr) (a1_9n a1_9c : Nat) (h : F_machine_there a0_0p a0_0n a0_0c a0_1 a0_2p a0_2n a0_2c a0_3p a0_3n a0_3c a1_0 a1_1p a1_1n a1_1c a1_2p a1_2n a1_2c a1_3p a1_3n a1_3c a1_4p a1_4n a1_4c a1_5p a1_5n a1_5c a1_6p a1_6n a1_6c a1_7p a1_7n a1_7c a1_8p a1_8n a1_8c a1_9p a1_9n a1_9c R H) : Call prog f_machine_there [.agg #[.slice a0_0p a0_0n a0_0c, .int .i64 a0_1, .slice a0_2p a0_2n a0_2c, .slice a0_3p a0_3n a0_3c], .agg #[.string a1_0, .slice a1_1p a1_1n a1_1c, .slice a1_2p a1_2n a1_2c, .slice a1_3p a1_3n a1_3c, .slice a1_4p a1_4n a1_4c, .slice a1_5p a1_5n a1_5c, .slice a1_6p a1_6n a1_6c, .slice a1_7p a1_7n a1_7c, .slice a1_8p a1_8n a1_8c, .slice a1_9p a1_9n a1_9c]] H R := by
  have e : F_machine_there a0_0p a0_0n a0_0c a0_1 a0_2p a0_2n a0_2c a0_3p a0_3n a0_3c a1_0 a1_1p a1_1n a1_1c a1_2p a1_2n a1_2c a1_3p a1_3n a1_3c a1_4p a1_4n a1_4c a1_5p a1_5n a1_5c a1_6p a1_6n a1_6c a1_7p a1_7n a1_7c a1_8p a1_8n a1_8c a1_9p a1_9n a1_9c R H = zfun prog f_machine_there [2, 3, 8]
    (.seq none .u (.seq none (.seq none .u (.block (.loop ⟨[(12, .one (.int .i64))], [2, 3, 10, 11]⟩ (.seq none .u (.seq none (.cond .u .u) (.seq none (.block (.seq none .u (.seq none .u (.cond (.seq none .u .u) .u)))) .u)))))) (.seq none (.seq none .u (.block (.loop ⟨[(32, .one (.int .i64))], [2, 3, 30, 31]⟩ (.seq none .u (.seq none (.cond .u .u) (.seq none (.block (.seq none .u (.seq none .u (.cond (.seq none .u .u) .u)))) .u)))))) (.seq none .u .u))))
    [.agg #[.slice a0_0p a0_0n a0_0c, .int .i64 a0_1, .slice a0_2p a0_2n a0_2c, .slice a0_3p a0_3n a0_3c], .agg #[.string a1_0, .slice a1_1p a1_1n a1_1c, .slice a1_2p a1_2n a1_2c, .slice a1_3p a1_3n a1_3c, .slice a1_4p a1_4n a1_4c, .slice a1_5p a1_5n a1_5c, .slice a1_6p a1_6n a1_6c, .slice a1_7p a1_7n a1_7c, .slice a1_8p a1_8n a1_8c, .slice a1_9p a1_9n a1_9c]] R H := by kernel_rfl
  rw [e] at h
  exact call_of_zfun mixed h

/-- timebound/word.Wrap -/
def F_word_Wrap (a0 : Int) (R : Value → LH → Prop) (H : LH) : Prop :=
  (R (Value.int .i64 (IntKind.wrap .i64 (IntKind.wrap .i32 (IntKind.wrap .u32 a0)))) H)

theorem F_word_Wrap_call {R : Value → LH → Prop} {H : LH} (a0 : Int) (h : F_word_Wrap a0 R H) : Call prog f_word_Wrap [.int .i64 a0] H R := by
  have e : F_word_Wrap a0 R H = zfun prog f_word_Wrap []
    (.seq none .u (.seq none .u .u))
    [.int .i64 a0] R H := by kernel_rfl
  rw [e] at h
  exact call_of_zfun mixed h

/-- timebound/instr.named -/
def F_instr_named (a0 : Int) (R : Value → LH → Prop) (H : LH) : Prop :=
  ∀ K1 : (Bool → LH → Prop), (∀ b2 : Bool, ∀ H3 : LH, (((b2 = true) → (R (Value.tuple #[(Value.agg #[(Value.bool false), (Value.bool false), (Value.bool false), (Value.bool false), (Value.bool false), (Value.int .i64 (0 :
    Int)), (Value.int .i64 (0 : Int))]), (Value.bool true)]) H3)) ∧ ((b2 = false) → (((decide (a0 = (1 : Int))) = true) → (R (Value.tuple #[(Value.agg #[(Value.bool true), (Value.bool false), (Value.bool false),
    (Value.bool false), (Value.bool true), (Value.int .i64 (-(2147483648 : Int))), (Value.int .i64 (2147483647 : Int))]), (Value.bool true)]) H3)) ∧ (((decide (a0 = (1 : Int))) = false) → (((decide (a0 = (2 : Int))) =
    true) → (R (Value.tuple #[(Value.agg #[(Value.bool true), (Value.bool true), (Value.bool false), (Value.bool false), (Value.bool false), (Value.int .i64 (0 : Int)), (Value.int .i64 (0 : Int))]), (Value.bool true)])
    H3)) ∧ (((decide (a0 = (2 : Int))) = false) → (((decide (a0 = (3 : Int))) = true) → (R (Value.tuple #[(Value.agg #[(Value.bool true), (Value.bool true), (Value.bool true), (Value.bool true), (Value.bool false),
    (Value.int .i64 (0 : Int)), (Value.int .i64 (0 : Int))]), (Value.bool true)]) H3)) ∧ (((decide (a0 = (3 : Int))) = false) → ∀ K4 : (Bool → LH → Prop), (∀ b5 : Bool, ∀ H6 : LH, (((b5 = true) → (R (Value.tuple
    #[(Value.agg #[(Value.bool true), (Value.bool true), (Value.bool false), (Value.bool false), (Value.bool true), (Value.int .i64 (0 : Int)), (Value.int .i64 (1023 : Int))]), (Value.bool true)]) H6)) ∧ ((b5 = false) →
    (((decide (a0 = (6 : Int))) = true) → (R (Value.tuple #[(Value.agg #[(Value.bool false), (Value.bool false), (Value.bool false), (Value.bool false), (Value.bool true), (Value.int .i64 (0 : Int)), (Value.int .i64
    (1023 : Int))]), (Value.bool true)]) H6)) ∧ (((decide (a0 = (6 : Int))) = false) → (((decide (a0 = (7 : Int))) = true) → (R (Value.tuple #[(Value.agg #[(Value.bool true), (Value.bool false), (Value.bool false),
    (Value.bool false), (Value.bool true), (Value.int .i64 (0 : Int)), (Value.int .i64 (1023 : Int))]), (Value.bool true)]) H6)) ∧ (((decide (a0 = (7 : Int))) = false) → (((decide (a0 = (8 : Int))) = true) → (R
    (Value.tuple #[(Value.agg #[(Value.bool false), (Value.bool false), (Value.bool false), (Value.bool false), (Value.bool true), (Value.int .i64 (0 : Int)), (Value.int .i64 (3 : Int))]), (Value.bool true)]) H6)) ∧
    (((decide (a0 = (8 : Int))) = false) → (((decide (a0 = (9 : Int))) = true) → (R (Value.tuple #[(Value.agg #[(Value.bool false), (Value.bool false), (Value.bool false), (Value.bool false), (Value.bool true),
    (Value.int .i64 (0 : Int)), (Value.int .i64 (3 : Int))]), (Value.bool true)]) H6)) ∧ (((decide (a0 = (9 : Int))) = false) → (R (Value.tuple #[(Value.agg #[(Value.bool false), (Value.bool false), (Value.bool false),
    (Value.bool false), (Value.bool false), (Value.int .i64 (0 : Int)), (Value.int .i64 (0 : Int))]), (Value.bool false)]) H6))))))) → (K4 b5 H6)) → (((decide (a0 = (4 : Int))) = true) → (K4 true H3)) ∧ (((decide (a0 =
    (4 : Int))) = false) → (K4 (decide (a0 = (5 : Int))) H3))))))) → (K1 b2 H3)) → (((decide (a0 = (0 : Int))) = true) → (K1 true H)) ∧ (((decide (a0 = (0 : Int))) = false) → (K1 (decide (a0 = (10 : Int))) H))

theorem F_instr_named_call {R : Value → LH → Prop} {H : LH} (a0 : Int) (h : F_instr_named a0 R H) : Call prog f_instr_named [.int .i64 a0] H R := by
  have e : F_instr_named a0 R H = zfun prog f_instr_named [2]
    (.seq none .u (.seq none (.seq none .u (.block (.seq (some ⟨[(5, .one .bool)], [2, 4]⟩) (.seq none .u (.cond .u .u)) (.cond (.seq none .u .u) (.seq none .u (.cond (.seq none .u .u) (.seq none .u (.cond (.seq none .u .u) (.seq none .u (.cond (.seq none .u .u) (.seq (some ⟨[(18, .one .bool)], [2, 4]⟩) (.seq none .u (.cond .u .u)) (.cond (.seq none .u .u) (.seq none .u (.cond (.seq none .u .u) (.seq none .u (.cond (.seq none .u .u) (.seq none (.seq none .u (.cond .u .u)) (.cond (.seq none .u .u) .u)))))))))))))))))) (.seq none .u .u)))
    [.int .i64 a0] R H := by kernel_rfl
  rw [e] at h
  exact call_of_zfun mixed h

/-- timebound/instr.register -/
def F_instr_register (a0 : Bool) (a1 : Int) (R : Value → LH → Prop) (H : LH) : Prop :=
  (((decide (a1 = (0 : Int))) = true) → (R (Value.bool true) H)) ∧ (((decide (a1 = (0 : Int))) = false) → ((a0 = true) → (((decide ((0 : Int) < a1)) = true) → (R (Value.bool (decide (a1 < (8 : Int)))) H)) ∧ (((decide ((0
    : Int) < a1)) = false) → (R (Value.bool false) H))) ∧ ((a0 = false) → (R (Value.bool false) H)))

theorem F_instr_register_call {R : Value → LH → Prop} {H : LH} (a0 : Bool) (a1 : Int) (h : F_instr_register a0 a1 R H) : Call prog f_instr_register [.bool a0, .int .i64 a1] H R := by
  have e : F_instr_register a0 a1 R H = zfun prog f_instr_register []
    (.seq none .u (.seq none .u .u))
    [.bool a0, .int .i64 a1] R H := by kernel_rfl
  rw [e] at h
  exact call_of_zfun mixed h

/-- timebound/word.Known -/
def F_word_Known (a0 : Int) (R : Value → LH → Prop) (H : LH) : Prop :=
  (((decide ((1 : Int) ≤ a0)) = true) → (R (Value.bool (decide (a0 ≤ (14 : Int)))) H)) ∧ (((decide ((1 : Int) ≤ a0)) = false) → (R (Value.bool false) H))

theorem F_word_Known_call {R : Value → LH → Prop} {H : LH} (a0 : Int) (h : F_word_Known a0 R H) : Call prog f_word_Known [.int .i64 a0] H R := by
  have e : F_word_Known a0 R H = zfun prog f_word_Known []
    (.seq none .u (.seq none .u .u))
    [.int .i64 a0] R H := by kernel_rfl
  rw [e] at h
  exact call_of_zfun mixed h

/-- timebound/emit.leads -/
def F_emit_leads (a0_0p : Option Addr) (a0_0n a0_0c : Nat) (a0_1 : Int) (a0_2p : Option Addr) (a0_2n a0_2c : Nat) (a0_3p : Option Addr) (a0_3n a0_3c : Nat) (a1_0 : ByteArray) (a1_1p : Option Addr) (a1_1n a1_1c : Nat) (a1_2p : Option Addr) (a1_2n a1_2c : Nat) (a1_3p : Option Addr) (a1_3n a1_3c : Nat) (a1_4p : Option Addr) (a1_4n a1_4c : Nat) (a1_5p : Option Addr) (a1_5n a1_5c : Nat) (a1_6p : Option Addr) (a1_6n a1_6c : Nat) (a1_7p : Option Addr) (a1_7n a1_7c : Nat) (a1_8p : Option Addr) (a1_8n a1_8c : Nat) (a1_9p : Option Addr) (a1_9n a1_9c : Nat) (a2 : Int) (R : Value → LH → Prop) (H : LH) : Prop :=
  ∃ n1 n2 : Nat, (a1_1p = (some (Addr.mk n1 n2 none))) ∧ ((0 : Int) ≤ a2) ∧ (a2 < (a1_1n : Int)) ∧ ∃ x3 : Int, (hAt H n1 (n2 + ((Int.toNat a2) * 4)) (Value.int .i64 x3)) ∧ ∃ x4 : Int, (hAt H n1 ((n2 + ((Int.toNat a2) *
    4)) + 1) (Value.int .i64 x4)) ∧ ∃ p5 : (Option Addr), ∃ n6 n7 : Nat, (hAt H n1 (((n2 + ((Int.toNat a2) * 4)) + 1) + 1) (Value.slice p5 n6 n7)) ∧ ∃ p8 : (Option Addr), ∃ n9 n10 : Nat, (hAt H n1 ((((n2 + ((Int.toNat
    a2) * 4)) + 1) + 1) + 1) (Value.slice p8 n9 n10)) ∧ ∃ p11 : (Option Addr), ∃ n12 n13 : Nat, ((sliceV H 6 (Value.slice a0_0p a0_0n a0_0c) (some (Value.int .i64 x3)) (some (Value.int .i64 (IntKind.wrap .i64 (x3 +
    x4)))) none) = (some (Value.slice p11 n12 n13))) ∧ ((p11 = none) → (n12 = 0) ∧ (n13 = 0)) ∧ ∃ K14 : (Int → LH → Prop), ∃ K15 : (Int → LH → Nat), (K14 (0 : Int) H) ∧ ∀ x16 : Int, ∀ H17 : LH, (K14 x16 H17) → (((decide
    (x16 < (n12 : Int))) = true) → ∃ n18 n19 : Nat, (p11 = (some (Addr.mk n18 n19 none))) ∧ ((0 : Int) ≤ x16) ∧ (x16 < (n12 : Int)) ∧ ∃ x20 : Int, (hAt H17 n18 (n19 + ((Int.toNat x16) * 6)) (Value.int .i64 x20)) ∧ ∃ x21
    : Int, (hAt H17 n18 ((n19 + ((Int.toNat x16) * 6)) + 1) (Value.int .i64 x21)) ∧ ∃ x22 : Int, (hAt H17 n18 (((n19 + ((Int.toNat x16) * 6)) + 1) + 1) (Value.int .i64 x22)) ∧ ∃ x23 : Int, (hAt H17 n18 ((((n19 +
    ((Int.toNat x16) * 6)) + 1) + 1) + 1) (Value.int .i64 x23)) ∧ ∃ x24 : Int, (hAt H17 n18 (((((n19 + ((Int.toNat x16) * 6)) + 1) + 1) + 1) + 1) (Value.int .i64 x24)) ∧ ∃ x25 : Int, (hAt H17 n18 ((((((n19 + ((Int.toNat
    x16) * 6)) + 1) + 1) + 1) + 1) + 1) (Value.int .i64 x25)) ∧ (((decide (x20 = (6 : Int))) = true) → (((decide (x16 < (IntKind.wrap .i64 (x4 - (1 : Int))))) = true) → (R (Value.tuple #[(Value.slice none 0 0),
    (Value.bool false)]) H17)) ∧ (((decide (x16 < (IntKind.wrap .i64 (x4 - (1 : Int))))) = false) → (K14 (IntKind.wrap .i64 (x16 + (1 : Int))) H17) ∧ ((K15 (IntKind.wrap .i64 (x16 + (1 : Int))) H17) < (K15 x16 H17)))) ∧
    (((decide (x20 = (6 : Int))) = false) → (((decide (x20 = (7 : Int))) = true) → (((decide (x16 < (IntKind.wrap .i64 (x4 - (1 : Int))))) = true) → (R (Value.tuple #[(Value.slice none 0 0), (Value.bool false)]) H17)) ∧
    (((decide (x16 < (IntKind.wrap .i64 (x4 - (1 : Int))))) = false) → (K14 (IntKind.wrap .i64 (x16 + (1 : Int))) H17) ∧ ((K15 (IntKind.wrap .i64 (x16 + (1 : Int))) H17) < (K15 x16 H17)))) ∧ (((decide (x20 = (7 : Int)))
    = false) → (((decide (x20 = (10 : Int))) = true) → (((decide (x16 < (IntKind.wrap .i64 (x4 - (1 : Int))))) = true) → (R (Value.tuple #[(Value.slice none 0 0), (Value.bool false)]) H17)) ∧ (((decide (x16 <
    (IntKind.wrap .i64 (x4 - (1 : Int))))) = false) → (K14 (IntKind.wrap .i64 (x16 + (1 : Int))) H17) ∧ ((K15 (IntKind.wrap .i64 (x16 + (1 : Int))) H17) < (K15 x16 H17)))) ∧ (((decide (x20 = (10 : Int))) = false) → (K14
    (IntKind.wrap .i64 (x16 + (1 : Int))) H17) ∧ ((K15 (IntKind.wrap .i64 (x16 + (1 : Int))) H17) < (K15 x16 H17)))))) ∧ (((decide (x16 < (n12 : Int))) = false) → ∃ n26 n27 : Nat, (a0_0p = (some (Addr.mk n26 n27 none)))
    ∧ ((0 : Int) ≤ (IntKind.wrap .i64 ((IntKind.wrap .i64 (x3 + x4)) - (1 : Int)))) ∧ ((IntKind.wrap .i64 ((IntKind.wrap .i64 (x3 + x4)) - (1 : Int))) < (a0_0n : Int)) ∧ ∃ x28 : Int, (hAt H17 n26 (n27 + ((Int.toNat
    (IntKind.wrap .i64 ((IntKind.wrap .i64 (x3 + x4)) - (1 : Int)))) * 6)) (Value.int .i64 x28)) ∧ ∃ x29 : Int, (hAt H17 n26 ((n27 + ((Int.toNat (IntKind.wrap .i64 ((IntKind.wrap .i64 (x3 + x4)) - (1 : Int)))) * 6)) + 1)
    (Value.int .i64 x29)) ∧ ∃ x30 : Int, (hAt H17 n26 (((n27 + ((Int.toNat (IntKind.wrap .i64 ((IntKind.wrap .i64 (x3 + x4)) - (1 : Int)))) * 6)) + 1) + 1) (Value.int .i64 x30)) ∧ ∃ x31 : Int, (hAt H17 n26 ((((n27 +
    ((Int.toNat (IntKind.wrap .i64 ((IntKind.wrap .i64 (x3 + x4)) - (1 : Int)))) * 6)) + 1) + 1) + 1) (Value.int .i64 x31)) ∧ ∃ x32 : Int, (hAt H17 n26 (((((n27 + ((Int.toNat (IntKind.wrap .i64 ((IntKind.wrap .i64 (x3 +
    x4)) - (1 : Int)))) * 6)) + 1) + 1) + 1) + 1) (Value.int .i64 x32)) ∧ ∃ x33 : Int, (hAt H17 n26 ((((((n27 + ((Int.toNat (IntKind.wrap .i64 ((IntKind.wrap .i64 (x3 + x4)) - (1 : Int)))) * 6)) + 1) + 1) + 1) + 1) + 1)
    (Value.int .i64 x33)) ∧ ∀ H34 : LH, (H34 = (LH.new H17 (LObj.cells [(Value.int .i64 (0 : Int)), (Value.int .i64 (0 : Int)), (Value.int .i64 (0 : Int)), (Value.int .i64 (0 : Int)), (Value.int .i64 (0 : Int)),
    (Value.int .i64 (0 : Int))] 6 false))) → ∃ l35 : (List Value), ∃ n36 : Nat, ((LH.get H34 (LH.next H17)) = (some (LObj.cells l35 n36 false))) ∧ ((0 + 6) ≤ (List.length l35)) ∧ ∀ H37 : LH, (H37 = (LH.put H34 (LH.next
    H17) (some (LObj.cells (setMany l35 0 [(Value.int .i64 x28), (Value.int .i64 x29), (Value.int .i64 x30), (Value.int .i64 x31), (Value.int .i64 x32), (Value.int .i64 x33)]) n36 false)))) → (XCall prog
    f_slices_IndexFunc_api_Node_api_Node [(Value.slice a1_1p a1_1n a1_1c), (Value.func (Fn.func f_emit_leads_1) #[] #[(Value.pointer (some (Addr.mk (LH.next H17) 0 none)))])] H37 (fun (v38 : Value) (H39 : LH) => ∃ x40 :
    Int, (v38 = (Value.int .i64 x40)) ∧ ∃ x41 : Int, (hAt H39 (LH.next H17) (0 + 0) (Value.int .i64 x41)) ∧ (((decide (x41 = (10 : Int))) = true) → (R (Value.tuple #[(Value.slice none 0 0), (Value.bool true)]) H39)) ∧
    (((decide (x41 = (10 : Int))) = false) → (((decide (x41 = (6 : Int))) = true) → ∀ H42 : LH, (H42 = (LH.new H39 (LObj.cells [(Value.int .i64 x40)] 1 false))) → (R (Value.tuple #[(Value.slice (some (Addr.mk (LH.next
    H39) 0 none)) 1 1), (Value.bool (decide ((0 : Int) ≤ x40)))]) H42)) ∧ (((decide (x41 = (6 : Int))) = false) → (((decide (x41 = (7 : Int))) = true) → ∀ H43 : LH, (H43 = (LH.keep H39 16)) → (((decide ((0 : Int) ≤ x40))
    = true) → ((a1_1p = none) → (a1_1n = 0) ∧ (a1_1c = 0)) ∧ ∀ H44 : LH, (H44 = (LH.put H43 ((LH.next H39) + 3) (some (LObj.cells [(Value.int .i64 (IntKind.wrap .i64 (a2 + (1 : Int)))), (Value.int .i64 x40)] 1 false))))
    → (R (Value.tuple #[(Value.slice (some (Addr.mk ((LH.next H39) + 3) 0 none)) 2 2), (Value.bool (decide ((IntKind.wrap .i64 (a2 + (1 : Int))) < (a1_1n : Int))))]) H44)) ∧ (((decide ((0 : Int) ≤ x40)) = false) → ∀ H45
    : LH, (H45 = (LH.put H43 ((LH.next H39) + 3) (some (LObj.cells [(Value.int .i64 (IntKind.wrap .i64 (a2 + (1 : Int)))), (Value.int .i64 x40)] 1 false)))) → (R (Value.tuple #[(Value.slice (some (Addr.mk ((LH.next H39)
    + 3) 0 none)) 2 2), (Value.bool false)]) H45))) ∧ (((decide (x41 = (7 : Int))) = false) → ∀ H46 : LH, (H46 = (LH.keep H39 11)) → ((a1_1p = none) → (a1_1n = 0) ∧ (a1_1c = 0)) ∧ ∀ H47 : LH, (H47 = (LH.put H46 ((LH.next
    H39) + 2) (some (LObj.cells [(Value.int .i64 (IntKind.wrap .i64 (a2 + (1 : Int))))] 1 false)))) → (R (Value.tuple #[(Value.slice (some (Addr.mk ((LH.next H39) + 2) 0 none)) 1 1), (Value.bool (decide ((IntKind.wrap
    .i64 (a2 + (1 : Int))) < (a1_1n : Int))))]) H47)))))))

theorem F_emit_leads_call {R : Value → LH → Prop} {H : LH} (a0_0p : Option Addr) (a0_0n a0_0c : Nat) (a0_1 : Int) (a0_2p : Option Addr) (a0_2n a0_2c : Nat) (a0_3p : Option Addr) (a0_3n a0_3c : Nat) (a1_0 : ByteArray) (a1_1p : Option Addr) (a1_1n a1_1c : Nat) (a1_2p : Option Addr) (a1_2n a1_2c : Nat) (a1_3p : Option Addr) (a1_3n a1_3c : Nat) (a1_4p : Option Addr) (a1_4n a1_4c : Nat) (a1_5p : Option Addr) (a1_5n a1_5c : Nat) (a1_6p : Option Addr) (a1_6n a1_6c : Nat) (a1_7p : Option Addr) (a1_7n a1_7c : Nat) (a1_8p : Option Addr) (a1_8n a1_8c : Nat) (a1_9p : Option Addr) (a1_9n a1_9c : Nat) (a2 : Int) (h : F_emit_leads a0_0p a0_0n a0_0c a0_1 a0_2p a0_2n a0_2c a0_3p a0_3n a0_3c a1_0 a1_1p a1_1n a1_1c a1_2p a1_2n a1_2c a1_3p a1_3n a1_3c a1_4p a1_4n a1_4c a1_5p a1_5n a1_5c a1_6p a1_6n a1_6c a1_7p a1_7n a1_7c a1_8p a1_8n a1_8c a1_9p a1_9n a1_9c a2 R H) : Call prog f_emit_leads [.agg #[.slice a0_0p a0_0n a0_0c, .int .i64 a0_1, .slice a0_2p a0_2n a0_2c, .slice a0_3p a0_3n a0_3c], .agg #[.string a1_0, .slice a1_1p a1_1n a1_1c, .slice a1_2p a1_2n a1_2c, .slice a1_3p a1_3n a1_3c, .slice a1_4p a1_4n a1_4c, .slice a1_5p a1_5n a1_5c, .slice a1_6p a1_6n a1_6c, .slice a1_7p a1_7n a1_7c, .slice a1_8p a1_8n a1_8c, .slice a1_9p a1_9n a1_9c], .int .i64 a2] H R := by
  have e : F_emit_leads a0_0p a0_0n a0_0c a0_1 a0_2p a0_2n a0_2c a0_3p a0_3n a0_3c a1_0 a1_1p a1_1n a1_1c a1_2p a1_2n a1_2c a1_3p a1_3n a1_3c a1_4p a1_4n a1_4c a1_5p a1_5n a1_5c a1_6p a1_6n a1_6c a1_7p a1_7n a1_7c a1_8p a1_8n a1_8c a1_9p a1_9n a1_9c a2 R H = zfun prog f_emit_leads [3, 4, 8, 10]
    (.seq none .u (.seq none .u (.seq none (.seq none .u (.block (.loop ⟨[(29, .one (.int .i64))], [2, 3, 4, 8, 27, 28]⟩ (.seq none .u (.seq none (.cond .u .u) (.seq none (.block (.seq none .u (.seq none .u (.cond (.seq none .u .u) .u)))) .u)))))) (.seq none .u (.seq none .u (.seq none (.seq none .u (.block (.seq none .u (.cond (.seq none .u .u) (.seq none .u (.cond (.seq none .u .u) (.seq none .u (.cond (.seq none (.draw [⟨0, [], []⟩, ⟨1, [], []⟩, ⟨2, [], []⟩, ⟨4, [], []⟩, ⟨5, [], []⟩, ⟨6, [], []⟩, ⟨7, [], []⟩, ⟨8, [], []⟩, ⟨9, [], []⟩, ⟨10, [], []⟩, ⟨11, [], []⟩, ⟨12, [], []⟩, ⟨13, [], []⟩, ⟨3, [], []⟩, ⟨14, [], []⟩, ⟨15, [], []⟩]) .u) .u)))))))) (.seq none (.draw [⟨0, [], []⟩, ⟨1, [], []⟩, ⟨3, [], []⟩, ⟨4, [], []⟩, ⟨5, [], []⟩, ⟨6, [], []⟩, ⟨7, [], []⟩, ⟨8, [], []⟩, ⟨2, [], []⟩, ⟨9, [], []⟩, ⟨10, [], []⟩]) .u)))))))
    [.agg #[.slice a0_0p a0_0n a0_0c, .int .i64 a0_1, .slice a0_2p a0_2n a0_2c, .slice a0_3p a0_3n a0_3c], .agg #[.string a1_0, .slice a1_1p a1_1n a1_1c, .slice a1_2p a1_2n a1_2c, .slice a1_3p a1_3n a1_3c, .slice a1_4p a1_4n a1_4c, .slice a1_5p a1_5n a1_5c, .slice a1_6p a1_6n a1_6c, .slice a1_7p a1_7n a1_7c, .slice a1_8p a1_8n a1_8c, .slice a1_9p a1_9n a1_9c], .int .i64 a2] R H := by kernel_rfl
  rw [e] at h
  exact call_of_zfun mixed h

/-- slices.Equal[[]int,int] -/
def F_slices_Equal_int_int (a0p : Option Addr) (a0n a0c : Nat) (a1p : Option Addr) (a1n a1c : Nat) (R : Value → LH → Prop) (H : LH) : Prop :=
  ((a0p = none) → (a0n = 0) ∧ (a0c = 0)) ∧ ((a1p = none) → (a1n = 0) ∧ (a1c = 0)) ∧ (((Bool.not (decide ((a0n : Int) = (a1n : Int)))) = true) → (R (Value.bool false) H)) ∧ (((Bool.not (decide ((a0n : Int) = (a1n : Int))))
    = false) → ((a0p = none) → (a0n = 0) ∧ (a0c = 0)) ∧ ∃ K1 : (Int → LH → Prop), ∃ K2 : (Int → LH → Nat), (K1 (0 : Int) H) ∧ ∀ x3 : Int, ∀ H4 : LH, (K1 x3 H4) → (((decide (x3 < (a0n : Int))) = true) → ∀ H5 : LH, (H5 =
    (LH.keep H4 9)) → ∃ n6 n7 : Nat, (a0p = (some (Addr.mk n6 n7 none))) ∧ ((0 : Int) ≤ x3) ∧ (x3 < (a0n : Int)) ∧ ∃ x8 : Int, (hAt H5 n6 (n7 + ((Int.toNat x3) * 1)) (Value.int .i64 x8)) ∧ ∃ n9 n10 : Nat, (a1p = (some
    (Addr.mk n9 n10 none))) ∧ ((0 : Int) ≤ x3) ∧ (x3 < (a1n : Int)) ∧ ∃ x11 : Int, (hAt H5 n9 (n10 + ((Int.toNat x3) * 1)) (Value.int .i64 x11)) ∧ (((Bool.not (decide (x8 = x11))) = true) → (R (Value.bool false) H5)) ∧
    (((Bool.not (decide (x8 = x11))) = false) → (K1 (IntKind.wrap .i64 (x3 + (1 : Int))) H5) ∧ ((K2 (IntKind.wrap .i64 (x3 + (1 : Int))) H5) < (K2 x3 H4)))) ∧ (((decide (x3 < (a0n : Int))) = false) → (R (Value.bool true)
    H4)))

theorem F_slices_Equal_int_int_call {R : Value → LH → Prop} {H : LH} (a0p : Option Addr) (a0n a0c : Nat) (a1p : Option Addr) (a1n a1c : Nat) (h : F_slices_Equal_int_int a0p a0n a0c a1p a1n a1c R H) : Call prog f_slices_Equal_int_int [.slice a0p a0n a0c, .slice a1p a1n a1c] H R := by
  have e : F_slices_Equal_int_int a0p a0n a0c a1p a1n a1c R H = zfun prog f_slices_Equal_int_int []
    (.seq none .u (.seq none (.seq none .u (.cond (.seq none .u .u) .u)) (.seq none (.seq none .u (.block (.loop ⟨[(13, .one (.int .i64))], [0, 1, 12]⟩ (.seq none .u (.seq none (.cond .u .u) (.seq none (.block (.seq none .u (.seq none (.draw [⟨0, [], []⟩, ⟨1, [], []⟩, ⟨2, [], []⟩, ⟨3, [], []⟩, ⟨4, [], []⟩, ⟨5, [], []⟩, ⟨6, [], []⟩, ⟨7, [], []⟩, ⟨8, [], []⟩]) (.cond (.seq none .u .u) .u)))) .u)))))) (.seq none .u .u))))
    [.slice a0p a0n a0c, .slice a1p a1n a1c] R H := by kernel_rfl
  rw [e] at h
  exact call_of_zfun mixed h

/-- timebound/emit.touches -/
def F_emit_touches (a0_0p : Option Addr) (a0_0n a0_0c : Nat) (a0_1 : Int) (a0_2p : Option Addr) (a0_2n a0_2c : Nat) (a0_3p : Option Addr) (a0_3n a0_3c : Nat) (a1_0 : Int) (a1_1 : Int) (a1_2p : Option Addr) (a1_2n a1_2c : Nat) (a1_3p : Option Addr) (a1_3n a1_3c : Nat) (R : Value → LH → Prop) (H : LH) : Prop :=
  ∃ K1 : ((Option Addr) → Nat → Nat → Int → LH → Prop), ∃ K2 : ((Option Addr) → Nat → Nat → Int → LH → Nat), (K1 a1_3p a1_3n a1_3c a1_0 H) ∧ ∀ p3 : (Option Addr), ∀ n4 : Nat, ∀ n5 : Nat, ∀ x6 : Int, ∀ H7 : LH, (K1 p3 n4
    n5 x6 H7) → (((decide (x6 < (IntKind.wrap .i64 (a1_0 + a1_1)))) = true) → ∃ n8 n9 : Nat, (a0_0p = (some (Addr.mk n8 n9 none))) ∧ ((0 : Int) ≤ x6) ∧ (x6 < (a0_0n : Int)) ∧ ∃ x10 : Int, (hAt H7 n8 (n9 + ((Int.toNat x6)
    * 6)) (Value.int .i64 x10)) ∧ ∃ x11 : Int, (hAt H7 n8 ((n9 + ((Int.toNat x6) * 6)) + 1) (Value.int .i64 x11)) ∧ ∃ x12 : Int, (hAt H7 n8 (((n9 + ((Int.toNat x6) * 6)) + 1) + 1) (Value.int .i64 x12)) ∧ ∃ x13 : Int,
    (hAt H7 n8 ((((n9 + ((Int.toNat x6) * 6)) + 1) + 1) + 1) (Value.int .i64 x13)) ∧ ∃ x14 : Int, (hAt H7 n8 (((((n9 + ((Int.toNat x6) * 6)) + 1) + 1) + 1) + 1) (Value.int .i64 x14)) ∧ ∃ x15 : Int, (hAt H7 n8 ((((((n9 +
    ((Int.toNat x6) * 6)) + 1) + 1) + 1) + 1) + 1) (Value.int .i64 x15)) ∧ (((Bool.not (decide (x10 = (4 : Int)))) = true) → (((Bool.not (decide (x10 = (5 : Int)))) = true) → (K1 p3 n4 n5 (IntKind.wrap .i64 (x6 + (1 :
    Int))) H7) ∧ ((K2 p3 n4 n5 (IntKind.wrap .i64 (x6 + (1 : Int))) H7) < (K2 p3 n4 n5 x6 H7))) ∧ (((Bool.not (decide (x10 = (5 : Int)))) = false) → ∀ H16 : LH, (H16 = (LH.keep H7 38)) → ((p3 = none) → (n4 = 0) ∧ (n5 =
    0)) ∧ (((decide ((n4 : Int) = (0 : Int))) = true) → (R (Value.bool false) H16)) ∧ (((decide ((n4 : Int) = (0 : Int))) = false) → ∃ n17 n18 : Nat, (p3 = (some (Addr.mk n17 n18 none))) ∧ ((0 : Int) ≤ (0 : Int)) ∧ ((0 :
    Int) < (n4 : Int)) ∧ ∃ x19 : Int, (hAt H16 n17 ((n18 + 0) + 0) (Value.int .i64 x19)) ∧ (((Bool.not (decide (x19 = x6))) = true) → (R (Value.bool false) H16)) ∧ (((Bool.not (decide (x19 = x6))) = false) → ∃ n20 n21 :
    Nat, (p3 = (some (Addr.mk n20 n21 none))) ∧ ((0 : Int) ≤ (0 : Int)) ∧ ((0 : Int) < (n4 : Int)) ∧ ∃ x22 : Int, (hAt H16 n20 ((n21 + 0) + 1) (Value.int .i64 x22)) ∧ (((decide (x22 < (0 : Int))) = true) → (R (Value.bool
    false) H16)) ∧ (((decide (x22 < (0 : Int))) = false) → ∃ n23 n24 : Nat, (p3 = (some (Addr.mk n23 n24 none))) ∧ ((0 : Int) ≤ (0 : Int)) ∧ ((0 : Int) < (n4 : Int)) ∧ ∃ x25 : Int, (hAt H16 n23 ((n24 + 0) + 1) (Value.int
    .i64 x25)) ∧ ∃ n26 n27 : Nat, (p3 = (some (Addr.mk n26 n27 none))) ∧ ((0 : Int) ≤ (0 : Int)) ∧ ((0 : Int) < (n4 : Int)) ∧ ∃ x28 : Int, (hAt H16 n26 ((n27 + 0) + 2) (Value.int .i64 x28)) ∧ (((decide (x28 < x25)) =
    true) → (R (Value.bool false) H16)) ∧ (((decide (x28 < x25)) = false) → ∃ n29 n30 : Nat, (p3 = (some (Addr.mk n29 n30 none))) ∧ ((0 : Int) ≤ (0 : Int)) ∧ ((0 : Int) < (n4 : Int)) ∧ ∃ x31 : Int, (hAt H16 n29 ((n30 +
    0) + 2) (Value.int .i64 x31)) ∧ (((decide (a0_1 ≤ x31)) = true) → (R (Value.bool false) H16)) ∧ (((decide (a0_1 ≤ x31)) = false) → ∃ p32 : (Option Addr), ∃ n33 n34 : Nat, ((sliceV H16 3 (Value.slice p3 n4 n5) (some
    (Value.int .i64 (1 : Int))) none none) = (some (Value.slice p32 n33 n34))) ∧ (K1 p32 n33 n34 (IntKind.wrap .i64 (x6 + (1 : Int))) H16) ∧ ((K2 p32 n33 n34 (IntKind.wrap .i64 (x6 + (1 : Int))) H16) < (K2 p3 n4 n5 x6
    H7))))))))) ∧ (((Bool.not (decide (x10 = (4 : Int)))) = false) → ∀ H35 : LH, (H35 = (LH.keep H7 38)) → ((p3 = none) → (n4 = 0) ∧ (n5 = 0)) ∧ (((decide ((n4 : Int) = (0 : Int))) = true) → (R (Value.bool false) H35)) ∧
    (((decide ((n4 : Int) = (0 : Int))) = false) → ∃ n36 n37 : Nat, (p3 = (some (Addr.mk n36 n37 none))) ∧ ((0 : Int) ≤ (0 : Int)) ∧ ((0 : Int) < (n4 : Int)) ∧ ∃ x38 : Int, (hAt H35 n36 ((n37 + 0) + 0) (Value.int .i64
    x38)) ∧ (((Bool.not (decide (x38 = x6))) = true) → (R (Value.bool false) H35)) ∧ (((Bool.not (decide (x38 = x6))) = false) → ∃ n39 n40 : Nat, (p3 = (some (Addr.mk n39 n40 none))) ∧ ((0 : Int) ≤ (0 : Int)) ∧ ((0 :
    Int) < (n4 : Int)) ∧ ∃ x41 : Int, (hAt H35 n39 ((n40 + 0) + 1) (Value.int .i64 x41)) ∧ (((decide (x41 < (0 : Int))) = true) → (R (Value.bool false) H35)) ∧ (((decide (x41 < (0 : Int))) = false) → ∃ n42 n43 : Nat, (p3
    = (some (Addr.mk n42 n43 none))) ∧ ((0 : Int) ≤ (0 : Int)) ∧ ((0 : Int) < (n4 : Int)) ∧ ∃ x44 : Int, (hAt H35 n42 ((n43 + 0) + 1) (Value.int .i64 x44)) ∧ ∃ n45 n46 : Nat, (p3 = (some (Addr.mk n45 n46 none))) ∧ ((0 :
    Int) ≤ (0 : Int)) ∧ ((0 : Int) < (n4 : Int)) ∧ ∃ x47 : Int, (hAt H35 n45 ((n46 + 0) + 2) (Value.int .i64 x47)) ∧ (((decide (x47 < x44)) = true) → (R (Value.bool false) H35)) ∧ (((decide (x47 < x44)) = false) → ∃ n48
    n49 : Nat, (p3 = (some (Addr.mk n48 n49 none))) ∧ ((0 : Int) ≤ (0 : Int)) ∧ ((0 : Int) < (n4 : Int)) ∧ ∃ x50 : Int, (hAt H35 n48 ((n49 + 0) + 2) (Value.int .i64 x50)) ∧ (((decide (a0_1 ≤ x50)) = true) → (R
    (Value.bool false) H35)) ∧ (((decide (a0_1 ≤ x50)) = false) → ∃ p51 : (Option Addr), ∃ n52 n53 : Nat, ((sliceV H35 3 (Value.slice p3 n4 n5) (some (Value.int .i64 (1 : Int))) none none) = (some (Value.slice p51 n52
    n53))) ∧ (K1 p51 n52 n53 (IntKind.wrap .i64 (x6 + (1 : Int))) H35) ∧ ((K2 p51 n52 n53 (IntKind.wrap .i64 (x6 + (1 : Int))) H35) < (K2 p3 n4 n5 x6 H7))))))))) ∧ (((decide (x6 < (IntKind.wrap .i64 (a1_0 + a1_1)))) =
    false) → ((p3 = none) → (n4 = 0) ∧ (n5 = 0)) ∧ (R (Value.bool (decide ((n4 : Int) = (0 : Int)))) H7))

theorem F_emit_touches_call {R : Value → LH → Prop} {H : LH} (a0_0p : Option Addr) (a0_0n a0_0c : Nat) (a0_1 : Int) (a0_2p : Option Addr) (a0_2n a0_2c : Nat) (a0_3p : Option Addr) (a0_3n a0_3c : Nat) (a1_0 : Int) (a1_1 : Int) (a1_2p : Option Addr) (a1_2n a1_2c : Nat) (a1_3p : Option Addr) (a1_3n a1_3c : Nat) (h : F_emit_touches a0_0p a0_0n a0_0c a0_1 a0_2p a0_2n a0_2c a0_3p a0_3n a0_3c a1_0 a1_1 a1_2p a1_2n a1_2c a1_3p a1_3n a1_3c R H) : Call prog f_emit_touches [.agg #[.slice a0_0p a0_0n a0_0c, .int .i64 a0_1, .slice a0_2p a0_2n a0_2c, .slice a0_3p a0_3n a0_3c], .agg #[.int .i64 a1_0, .int .i64 a1_1, .slice a1_2p a1_2n a1_2c, .slice a1_3p a1_3n a1_3c]] H R := by
  have e : F_emit_touches a0_0p a0_0n a0_0c a0_1 a0_2p a0_2n a0_2c a0_3p a0_3n a0_3c a1_0 a1_1 a1_2p a1_2n a1_2c a1_3p a1_3n a1_3c R H = zfun prog f_emit_touches [2, 3, 7]
    (.seq none .u (.seq none .u (.seq none (.seq none .u (.block (.loop ⟨[(5, .one .sl), (6, .one (.int .i64))], [2, 3]⟩ (.seq none (.seq none .u (.cond .u .u)) (.seq none (.block (.seq none (.seq none .u (.seq none .u (.cond .u .u))) (.seq none (.seq none (.draw [⟨0, [], []⟩, ⟨1, [], []⟩, ⟨2, [], []⟩, ⟨3, [], []⟩, ⟨4, [], []⟩, ⟨5, [], []⟩, ⟨6, [], []⟩, ⟨7, [], []⟩, ⟨8, [], []⟩, ⟨9, [], []⟩, ⟨10, [], []⟩, ⟨11, [], []⟩, ⟨12, [], []⟩, ⟨13, [], []⟩, ⟨14, [], []⟩, ⟨15, [], []⟩, ⟨16, [], []⟩, ⟨17, [], []⟩, ⟨18, [], []⟩, ⟨19, [], []⟩, ⟨20, [], []⟩, ⟨21, [], []⟩, ⟨22, [], []⟩, ⟨23, [], []⟩, ⟨24, [], []⟩, ⟨25, [], []⟩, ⟨26, [], []⟩, ⟨27, [], []⟩, ⟨28, [], []⟩, ⟨29, [], []⟩, ⟨30, [], []⟩, ⟨31, [], []⟩, ⟨32, [], []⟩, ⟨33, [], []⟩, ⟨34, [], []⟩, ⟨35, [], []⟩, ⟨36, [], []⟩, ⟨37, [], []⟩]) (.cond (.seq none .u .u) .u)) .u))) .u))))) (.seq none .u .u))))
    [.agg #[.slice a0_0p a0_0n a0_0c, .int .i64 a0_1, .slice a0_2p a0_2n a0_2c, .slice a0_3p a0_3n a0_3c], .agg #[.int .i64 a1_0, .int .i64 a1_1, .slice a1_2p a1_2n a1_2c, .slice a1_3p a1_3n a1_3c]] R H := by kernel_rfl
  rw [e] at h
  exact call_of_zfun mixed h

/-- timebound/emit.names -/
def F_emit_names (a0_0 : ByteArray) (a0_1p : Option Addr) (a0_1n a0_1c : Nat) (a0_2p : Option Addr) (a0_2n a0_2c : Nat) (a0_3p : Option Addr) (a0_3n a0_3c : Nat) (a0_4p : Option Addr) (a0_4n a0_4c : Nat) (a0_5p : Option Addr) (a0_5n a0_5c : Nat) (a0_6p : Option Addr) (a0_6n a0_6c : Nat) (a0_7p : Option Addr) (a0_7n a0_7c : Nat) (a0_8p : Option Addr) (a0_8n a0_8c : Nat) (a0_9p : Option Addr) (a0_9n a0_9c : Nat) (R : Value → LH → Prop) (H : LH) : Prop :=
  ∀ H1 : LH, (H1 = (LH.new H (LObj.cells [(Value.string a0_0), (Value.slice a0_1p a0_1n a0_1c), (Value.slice a0_2p a0_2n a0_2c), (Value.slice a0_3p a0_3n a0_3c), (Value.slice a0_4p a0_4n a0_4c), (Value.slice a0_5p a0_5n
    a0_5c), (Value.slice a0_6p a0_6n a0_6c), (Value.slice a0_7p a0_7n a0_7c), (Value.slice a0_8p a0_8n a0_8c), (Value.slice a0_9p a0_9n a0_9c)] 10 false))) → ∀ H2 : LH, (H2 = (LH.new H1 (LObj.cells [Value.nilFunc] 1
    false))) → ∃ l3 : (List Value), ∃ n4 : Nat, ((LH.get H2 (LH.next H1)) = (some (LObj.cells l3 n4 false))) ∧ ((0 + 1) ≤ (List.length l3)) ∧ ∀ H5 : LH, (H5 = (LH.put H2 (LH.next H1) (some (LObj.cells (setMany l3 0
    [(Value.func (Fn.func f_emit_names_1) #[] #[(Value.pointer (some (Addr.mk (LH.next H) 0 none)))])]) n4 false)))) → ∃ p6 : (Option Addr), ∃ n7 n8 : Nat, (hAt H5 (LH.next H) (0 + 2) (Value.slice p6 n7 n8)) ∧ ((p6 =
    none) → (n7 = 0) ∧ (n8 = 0)) ∧ ∃ K9 : (Int → LH → Prop), ∃ K10 : (Int → LH → Nat), (K9 (0 : Int) H5) ∧ ∀ x11 : Int, ∀ H12 : LH, (K9 x11 H12) → (((decide (x11 < (n7 : Int))) = true) → ∃ n13 n14 : Nat, (p6 = (some
    (Addr.mk n13 n14 none))) ∧ ((0 : Int) ≤ x11) ∧ (x11 < (n7 : Int)) ∧ ∃ x15 : Int, (hAt H12 n13 (n14 + ((Int.toNat x11) * 5)) (Value.int .i64 x15)) ∧ ∃ x16 : Int, (hAt H12 n13 ((n14 + ((Int.toNat x11) * 5)) + 1)
    (Value.int .i64 x16)) ∧ ∃ p17 : (Option Addr), ∃ n18 n19 : Nat, (hAt H12 n13 (((n14 + ((Int.toNat x11) * 5)) + 1) + 1) (Value.slice p17 n18 n19)) ∧ ∃ x20 : Int, (hAt H12 n13 ((((n14 + ((Int.toNat x11) * 5)) + 1) + 1)
    + 1) (Value.int .i64 x20)) ∧ ∃ x21 : Int, (hAt H12 n13 (((((n14 + ((Int.toNat x11) * 5)) + 1) + 1) + 1) + 1) (Value.int .i64 x21)) ∧ ∃ v22 : Value, (hAt H12 (LH.next H1) 0 v22) ∧ ∀ H23 : LH, (H23 = (LH.new H12
    (LObj.cells [(Value.int .i64 x15), (Value.int .i64 x16)] 1 false))) → ∃ n24 : Nat, ∃ l25 l26 : (List Value), (v22 = (Value.func (Fn.func n24) (Array.mk l25) (Array.mk l26))) ∧ ((okFn prog n24) = true) ∧ (XCall prog
    n24 ((l25 ++ [(Value.slice (some (Addr.mk (LH.next H12) 0 none)) 2 2)]) ++ l26) H23 (fun (v27 : Value) (H28 : LH) => ∃ b29 : Bool, (v27 = (Value.bool b29)) ∧ (((Bool.not b29) = true) → (R (Value.bool false) H28)) ∧
    (((Bool.not b29) = false) → ∃ v30 : Value, (hAt H28 (LH.next H1) 0 v30) ∧ ∃ n31 : Nat, ∃ l32 l33 : (List Value), (v30 = (Value.func (Fn.func n31) (Array.mk l32) (Array.mk l33))) ∧ ((okFn prog n31) = true) ∧ (XCall
    prog n31 ((l32 ++ [(Value.slice p17 n18 n19)]) ++ l33) H28 (fun (v34 : Value) (H35 : LH) => ∃ b36 : Bool, (v34 = (Value.bool b36)) ∧ (((Bool.not b36) = true) → (R (Value.bool false) H35)) ∧ (((Bool.not b36) = false)
    → (((decide (x20 < (-(1 : Int)))) = true) → (R (Value.bool false) H35)) ∧ (((decide (x20 < (-(1 : Int)))) = false) → ∃ p37 : (Option Addr), ∃ n38 n39 : Nat, (hAt H35 (LH.next H) (0 + 2) (Value.slice p37 n38 n39)) ∧
    ((p37 = none) → (n38 = 0) ∧ (n39 = 0)) ∧ (((decide ((n38 : Int) ≤ x20)) = true) → (R (Value.bool false) H35)) ∧ (((decide ((n38 : Int) ≤ x20)) = false) → (K9 (IntKind.wrap .i64 (x11 + (1 : Int))) H35) ∧ ((K10
    (IntKind.wrap .i64 (x11 + (1 : Int))) H35) < (K10 x11 H12))))))))))) ∧ (((decide (x11 < (n7 : Int))) = false) → ∃ p40 : (Option Addr), ∃ n41 n42 : Nat, (hAt H12 (LH.next H) (0 + 3) (Value.slice p40 n41 n42)) ∧ ((p40
    = none) → (n41 = 0) ∧ (n42 = 0)) ∧ ∃ K43 : (Int → LH → Prop), ∃ K44 : (Int → LH → Nat), (K43 (0 : Int) H12) ∧ ∀ x45 : Int, ∀ H46 : LH, (K43 x45 H46) → (((decide (x45 < (n41 : Int))) = true) → ∃ n47 n48 : Nat, (p40 =
    (some (Addr.mk n47 n48 none))) ∧ ((0 : Int) ≤ x45) ∧ (x45 < (n41 : Int)) ∧ ∃ x49 : Int, (hAt H46 n47 (n48 + ((Int.toNat x45) * 2)) (Value.int .i64 x49)) ∧ ∃ p50 : (Option Addr), ∃ n51 n52 : Nat, (hAt H46 n47 ((n48 +
    ((Int.toNat x45) * 2)) + 1) (Value.slice p50 n51 n52)) ∧ ∃ v53 : Value, (hAt H46 (LH.next H1) 0 v53) ∧ ∃ n54 : Nat, ∃ l55 l56 : (List Value), (v53 = (Value.func (Fn.func n54) (Array.mk l55) (Array.mk l56))) ∧ ((okFn
    prog n54) = true) ∧ (XCall prog n54 ((l55 ++ [(Value.slice p50 n51 n52)]) ++ l56) H46 (fun (v57 : Value) (H58 : LH) => ∃ b59 : Bool, (v57 = (Value.bool b59)) ∧ (((Bool.not b59) = true) → (R (Value.bool false) H58)) ∧
    (((Bool.not b59) = false) → (K43 (IntKind.wrap .i64 (x45 + (1 : Int))) H58) ∧ ((K44 (IntKind.wrap .i64 (x45 + (1 : Int))) H58) < (K44 x45 H46)))))) ∧ (((decide (x45 < (n41 : Int))) = false) → ∃ p60 : (Option Addr), ∃
    n61 n62 : Nat, (hAt H46 (LH.next H) (0 + 4) (Value.slice p60 n61 n62)) ∧ ((p60 = none) → (n61 = 0) ∧ (n62 = 0)) ∧ ∃ K63 : (Int → LH → Prop), ∃ K64 : (Int → LH → Nat), (K63 (0 : Int) H46) ∧ ∀ x65 : Int, ∀ H66 : LH,
    (K63 x65 H66) → (((decide (x65 < (n61 : Int))) = true) → ∃ n67 n68 : Nat, (p60 = (some (Addr.mk n67 n68 none))) ∧ ((0 : Int) ≤ x65) ∧ (x65 < (n61 : Int)) ∧ ∃ p69 : (Option Addr), ∃ n70 n71 : Nat, (hAt H66 n67 (n68 +
    ((Int.toNat x65) * 1)) (Value.slice p69 n70 n71)) ∧ ∃ v72 : Value, (hAt H66 (LH.next H1) 0 v72) ∧ ∃ n73 : Nat, ∃ l74 l75 : (List Value), (v72 = (Value.func (Fn.func n73) (Array.mk l74) (Array.mk l75))) ∧ ((okFn prog
    n73) = true) ∧ (XCall prog n73 ((l74 ++ [(Value.slice p69 n70 n71)]) ++ l75) H66 (fun (v76 : Value) (H77 : LH) => ∃ b78 : Bool, (v76 = (Value.bool b78)) ∧ (((Bool.not b78) = true) → (R (Value.bool false) H77)) ∧
    (((Bool.not b78) = false) → (K63 (IntKind.wrap .i64 (x65 + (1 : Int))) H77) ∧ ((K64 (IntKind.wrap .i64 (x65 + (1 : Int))) H77) < (K64 x65 H66)))))) ∧ (((decide (x65 < (n61 : Int))) = false) → ∃ p79 : (Option Addr), ∃
    n80 n81 : Nat, (hAt H66 (LH.next H) (0 + 5) (Value.slice p79 n80 n81)) ∧ ((p79 = none) → (n80 = 0) ∧ (n81 = 0)) ∧ ∃ K82 : (Int → LH → Prop), ∃ K83 : (Int → LH → Nat), (K82 (0 : Int) H66) ∧ ∀ x84 : Int, ∀ H85 : LH,
    (K82 x84 H85) → (((decide (x84 < (n80 : Int))) = true) → ∃ n86 n87 : Nat, (p79 = (some (Addr.mk n86 n87 none))) ∧ ((0 : Int) ≤ x84) ∧ (x84 < (n80 : Int)) ∧ ∃ p88 : (Option Addr), ∃ n89 n90 : Nat, (hAt H85 n86 (n87 +
    ((Int.toNat x84) * 2)) (Value.slice p88 n89 n90)) ∧ ∃ x91 : Int, (hAt H85 n86 ((n87 + ((Int.toNat x84) * 2)) + 1) (Value.int .i64 x91)) ∧ (XCall prog f_fact_Check [(Value.agg #[(Value.slice p88 n89 n90), (Value.int
    .i64 x91)])] H85 (fun (v92 : Value) (H93 : LH) => ∃ x94 : Int, (v92 = (Value.int .i64 x94)) ∧ (((Bool.not (decide (x94 = (0 : Int)))) = true) → (R (Value.bool false) H93)) ∧ (((Bool.not (decide (x94 = (0 : Int)))) =
    false) → (XCall prog f_slices_ContainsFunc_api_Term_api_Term [(Value.slice p88 n89 n90), (Value.func (Fn.func f_emit_names_2) #[] #[(Value.pointer (some (Addr.mk (LH.next H1) 0 none)))])] H93 (fun (v95 : Value) (H96
    : LH) => ∃ b97 : Bool, (v95 = (Value.bool b97)) ∧ ((b97 = true) → (R (Value.bool false) H96)) ∧ ((b97 = false) → (K82 (IntKind.wrap .i64 (x84 + (1 : Int))) H96) ∧ ((K83 (IntKind.wrap .i64 (x84 + (1 : Int))) H96) <
    (K83 x84 H85))))))))) ∧ (((decide (x84 < (n80 : Int))) = false) → ∃ p98 : (Option Addr), ∃ n99 n100 : Nat, (hAt H85 (LH.next H) (0 + 5) (Value.slice p98 n99 n100)) ∧ ((p98 = none) → (n99 = 0) ∧ (n100 = 0)) ∧ (R
    (Value.bool (decide ((n99 : Int) ≤ (64 : Int)))) H85)))))

theorem F_emit_names_call {R : Value → LH → Prop} {H : LH} (a0_0 : ByteArray) (a0_1p : Option Addr) (a0_1n a0_1c : Nat) (a0_2p : Option Addr) (a0_2n a0_2c : Nat) (a0_3p : Option Addr) (a0_3n a0_3c : Nat) (a0_4p : Option Addr) (a0_4n a0_4c : Nat) (a0_5p : Option Addr) (a0_5n a0_5c : Nat) (a0_6p : Option Addr) (a0_6n a0_6c : Nat) (a0_7p : Option Addr) (a0_7n a0_7c : Nat) (a0_8p : Option Addr) (a0_8n a0_8c : Nat) (a0_9p : Option Addr) (a0_9n a0_9c : Nat) (h : F_emit_names a0_0 a0_1p a0_1n a0_1c a0_2p a0_2n a0_2c a0_3p a0_3n a0_3c a0_4p a0_4n a0_4c a0_5p a0_5n a0_5c a0_6p a0_6n a0_6c a0_7p a0_7n a0_7c a0_8p a0_8n a0_8c a0_9p a0_9n a0_9c R H) : Call prog f_emit_names [.agg #[.string a0_0, .slice a0_1p a0_1n a0_1c, .slice a0_2p a0_2n a0_2c, .slice a0_3p a0_3n a0_3c, .slice a0_4p a0_4n a0_4c, .slice a0_5p a0_5n a0_5c, .slice a0_6p a0_6n a0_6c, .slice a0_7p a0_7n a0_7c, .slice a0_8p a0_8n a0_8c, .slice a0_9p a0_9n a0_9c]] H R := by
  have e : F_emit_names a0_0 a0_1p a0_1n a0_1c a0_2p a0_2n a0_2c a0_3p a0_3n a0_3c a0_4p a0_4n a0_4c a0_5p a0_5n a0_5c a0_6p a0_6n a0_6c a0_7p a0_7n a0_7c a0_8p a0_8n a0_8c a0_9p a0_9n a0_9c R H = zfun prog f_emit_names [5, 7, 11]
    (.seq none .u (.seq none .u (.seq none (.seq none .u (.block (.loop ⟨[(16, .one (.int .i64))], [1, 3, 14, 15]⟩ (.seq none .u (.seq none (.cond .u .u) (.seq none (.block (.seq none .u (.seq none .u (.cond (.seq none .u .u) .u)))) .u)))))) (.seq none (.seq none .u (.block (.loop ⟨[(52, .one (.int .i64))], [1, 3, 50, 51]⟩ (.seq none .u (.seq none (.cond .u .u) (.seq none (.block (.seq none .u (.seq none .u (.cond (.seq none .u .u) .u)))) .u)))))) (.seq none (.seq none .u (.block (.loop ⟨[(65, .one (.int .i64))], [1, 3, 63, 64]⟩ (.seq none .u (.seq none (.cond .u .u) (.seq none (.block (.seq none .u (.seq none .u (.cond (.seq none .u .u) .u)))) .u)))))) (.seq none (.seq none .u (.block (.loop ⟨[(77, .one (.int .i64))], [1, 3, 75, 76]⟩ (.seq none .u (.seq none (.cond .u .u) (.seq none (.block (.seq none .u (.seq none .u (.cond (.seq none .u .u) .u)))) .u)))))) (.seq none .u .u)))))))
    [.agg #[.string a0_0, .slice a0_1p a0_1n a0_1c, .slice a0_2p a0_2n a0_2c, .slice a0_3p a0_3n a0_3c, .slice a0_4p a0_4n a0_4c, .slice a0_5p a0_5n a0_5c, .slice a0_6p a0_6n a0_6c, .slice a0_7p a0_7n a0_7c, .slice a0_8p a0_8n a0_8c, .slice a0_9p a0_9n a0_9c]] R H := by kernel_rfl
  rw [e] at h
  exact call_of_zfun mixed h

/-- timebound/word.operators -/
def F_word_operators  (R : Value → LH → Prop) (H : LH) : Prop :=
  (R (Value.agg #[(Value.func (Fn.func f_word_operators_1) #[] #[]), (Value.func (Fn.func f_word_operators_2) #[] #[]), (Value.func (Fn.func f_word_operators_3) #[] #[]), (Value.func (Fn.func f_word_divide) #[] #[]),
    (Value.func (Fn.func f_word_remain) #[] #[]), (Value.func (Fn.func f_word_operators_4) #[] #[]), (Value.func (Fn.func f_word_operators_5) #[] #[]), (Value.func (Fn.func f_word_operators_6) #[] #[]), (Value.func
    (Fn.func f_word_operators_7) #[] #[]), (Value.func (Fn.func f_word_operators_8) #[] #[]), (Value.func (Fn.func f_word_operators_9) #[] #[]), (Value.func (Fn.func f_word_operators_10) #[] #[]), (Value.func (Fn.func
    f_word_operators_11) #[] #[]), (Value.func (Fn.func f_word_operators_12) #[] #[])]) H)

theorem F_word_operators_call {R : Value → LH → Prop} {H : LH}  (h : F_word_operators  R H) : Call prog f_word_operators [] H R := by
  have e : F_word_operators  R H = zfun prog f_word_operators [0]
    (.seq none .u (.seq none .u .u))
    [] R H := by kernel_rfl
  rw [e] at h
  exact call_of_zfun mixed h

/-- timebound/timeboundref19.in -/
def F_ref19_in (a0 : Int) (a1 : Int) (R : Value → LH → Prop) (H : LH) : Prop :=
  (((decide ((0 : Int) ≤ a0)) = true) → (R (Value.bool (decide (a0 < a1))) H)) ∧ (((decide ((0 : Int) ≤ a0)) = false) → (R (Value.bool false) H))

theorem F_ref19_in_call {R : Value → LH → Prop} {H : LH} (a0 : Int) (a1 : Int) (h : F_ref19_in a0 a1 R H) : Call prog f_ref19_in [.int .i64 a0, .int .i64 a1] H R := by
  have e : F_ref19_in a0 a1 R H = zfun prog f_ref19_in []
    (.seq none .u (.seq none .u .u))
    [.int .i64 a0, .int .i64 a1] R H := by kernel_rfl
  rw [e] at h
  exact call_of_zfun mixed h

/-- timebound/timeboundref01.Known -/
def F_ref01_Known (a0 : Int) (R : Value → LH → Prop) (H : LH) : Prop :=
  (((decide ((1 : Int) ≤ a0)) = true) → (R (Value.bool (decide (a0 ≤ (14 : Int)))) H)) ∧ (((decide ((1 : Int) ≤ a0)) = false) → (R (Value.bool false) H))

theorem F_ref01_Known_call {R : Value → LH → Prop} {H : LH} (a0 : Int) (h : F_ref01_Known a0 R H) : Call prog f_ref01_Known [.int .i64 a0] H R := by
  have e : F_ref01_Known a0 R H = zfun prog f_ref01_Known []
    (.seq none .u (.seq none .u .u))
    [.int .i64 a0] R H := by kernel_rfl
  rw [e] at h
  exact call_of_zfun mixed h

/-- timebound/timeboundref20.at -/
def F_ref20_at (a0_0 : ByteArray) (a0_1p : Option Addr) (a0_1n a0_1c : Nat) (a0_2p : Option Addr) (a0_2n a0_2c : Nat) (a0_3p : Option Addr) (a0_3n a0_3c : Nat) (a0_4p : Option Addr) (a0_4n a0_4c : Nat) (a0_5p : Option Addr) (a0_5n a0_5c : Nat) (a0_6p : Option Addr) (a0_6n a0_6c : Nat) (a0_7p : Option Addr) (a0_7n a0_7c : Nat) (a0_8p : Option Addr) (a0_8n a0_8c : Nat) (a0_9p : Option Addr) (a0_9n a0_9c : Nat) (a1 : Int) (R : Value → LH → Prop) (H : LH) : Prop :=
  ∃ K1 : (Int → LH → Prop), ∃ K2 : (Int → LH → Nat), (K1 (0 : Int) H) ∧ ∀ x3 : Int, ∀ H4 : LH, (K1 x3 H4) → ((a0_1p = none) → (a0_1n = 0) ∧ (a0_1c = 0)) ∧ (((decide (x3 < (a0_1n : Int))) = true) → ∃ n5 n6 : Nat, (a0_1p =
    (some (Addr.mk n5 n6 none))) ∧ ((0 : Int) ≤ x3) ∧ (x3 < (a0_1n : Int)) ∧ ∃ x7 : Int, (hAt H4 n5 ((n6 + ((Int.toNat x3) * 4)) + 0) (Value.int .i64 x7)) ∧ (((decide (x7 = a1)) = true) → (R (Value.int .i64 x3) H4)) ∧
    (((decide (x7 = a1)) = false) → (K1 (IntKind.wrap .i64 (x3 + (1 : Int))) H4) ∧ ((K2 (IntKind.wrap .i64 (x3 + (1 : Int))) H4) < (K2 x3 H4)))) ∧ (((decide (x3 < (a0_1n : Int))) = false) → (R (Value.int .i64 (-(1 :
    Int))) H4))

theorem F_ref20_at_call {R : Value → LH → Prop} {H : LH} (a0_0 : ByteArray) (a0_1p : Option Addr) (a0_1n a0_1c : Nat) (a0_2p : Option Addr) (a0_2n a0_2c : Nat) (a0_3p : Option Addr) (a0_3n a0_3c : Nat) (a0_4p : Option Addr) (a0_4n a0_4c : Nat) (a0_5p : Option Addr) (a0_5n a0_5c : Nat) (a0_6p : Option Addr) (a0_6n a0_6c : Nat) (a0_7p : Option Addr) (a0_7n a0_7c : Nat) (a0_8p : Option Addr) (a0_8n a0_8c : Nat) (a0_9p : Option Addr) (a0_9n a0_9c : Nat) (a1 : Int) (h : F_ref20_at a0_0 a0_1p a0_1n a0_1c a0_2p a0_2n a0_2c a0_3p a0_3n a0_3c a0_4p a0_4n a0_4c a0_5p a0_5n a0_5c a0_6p a0_6n a0_6c a0_7p a0_7n a0_7c a0_8p a0_8n a0_8c a0_9p a0_9n a0_9c a1 R H) : Call prog f_ref20_at [.agg #[.string a0_0, .slice a0_1p a0_1n a0_1c, .slice a0_2p a0_2n a0_2c, .slice a0_3p a0_3n a0_3c, .slice a0_4p a0_4n a0_4c, .slice a0_5p a0_5n a0_5c, .slice a0_6p a0_6n a0_6c, .slice a0_7p a0_7n a0_7c, .slice a0_8p a0_8n a0_8c, .slice a0_9p a0_9n a0_9c], .int .i64 a1] H R := by
  have e : F_ref20_at a0_0 a0_1p a0_1n a0_1c a0_2p a0_2n a0_2c a0_3p a0_3n a0_3c a0_4p a0_4n a0_4c a0_5p a0_5n a0_5c a0_6p a0_6n a0_6c a0_7p a0_7n a0_7c a0_8p a0_8n a0_8c a0_9p a0_9n a0_9c a1 R H = zfun prog f_ref20_at [2]
    (.seq none .u (.seq none (.seq none .u (.block (.loop ⟨[(5, .one (.int .i64))], [1, 2]⟩ (.seq none (.seq none .u (.cond .u .u)) (.seq none (.block (.seq none .u (.cond (.seq none .u .u) .u))) .u))))) (.seq none .u .u)))
    [.agg #[.string a0_0, .slice a0_1p a0_1n a0_1c, .slice a0_2p a0_2n a0_2c, .slice a0_3p a0_3n a0_3c, .slice a0_4p a0_4n a0_4c, .slice a0_5p a0_5n a0_5c, .slice a0_6p a0_6n a0_6c, .slice a0_7p a0_7n a0_7c, .slice a0_8p a0_8n a0_8c, .slice a0_9p a0_9n a0_9c], .int .i64 a1] R H := by kernel_rfl
  rw [e] at h
  exact call_of_zfun mixed h

end Go.Lg
