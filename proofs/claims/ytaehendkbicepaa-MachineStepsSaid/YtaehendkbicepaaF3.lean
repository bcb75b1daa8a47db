/- What each function asks, part 3. No condition. -/
import Derived.Test.YtaehendkbicepaaFN
set_option linter.unusedVariables false
set_option maxRecDepth 100000
namespace Go.Lg
open Go
/-- timebound/instr.Check -/
def F_instr_Check (a0_0 : Int) (a0_1 : Int) (a0_2 : Int) (a0_3 : Int) (a0_4 : Int) (a0_5 : Int) (R : Value → LH → Prop) (H : LH) : Prop :=
  (XCall prog f_instr_named [(Value.int .i64 a0_0)] H (fun (v1 : Value) (H2 : LH) => ∃ b3 b4 b5 b6 b7 : Bool, ∃ x8 x9 : Int, ∃ b10 : Bool, (v1 = (Value.tuple #[(Value.agg #[(Value.bool b3), (Value.bool b4), (Value.bool
    b5), (Value.bool b6), (Value.bool b7), (Value.int .i64 x8), (Value.int .i64 x9)]), (Value.bool b10)])) ∧ (((Bool.not b10) = true) → (R (Value.int .i64 (6 : Int)) H2)) ∧ (((Bool.not b10) = false) → ∀ H11 : LH, (H11 =
    (LH.keep H2 55)) → (XCall prog f_instr_register [(Value.bool b3), (Value.int .i64 a0_1)] H11 (fun (v12 : Value) (H13 : LH) => ∃ b14 : Bool, (v12 = (Value.bool b14)) ∧ (((Bool.not b14) = true) → ((Value.tuple #[]) =
    (Value.tuple #[])) ∧ (R (Value.int .i64 (10 : Int)) H13)) ∧ (((Bool.not b14) = false) → (XCall prog f_instr_register [(Value.bool b4), (Value.int .i64 a0_2)] H13 (fun (v15 : Value) (H16 : LH) => ∃ b17 : Bool, (v15 =
    (Value.bool b17)) ∧ (((Bool.not b17) = true) → ((Value.tuple #[]) = (Value.tuple #[])) ∧ (R (Value.int .i64 (10 : Int)) H16)) ∧ (((Bool.not b17) = false) → (XCall prog f_instr_register [(Value.bool b5), (Value.int
    .i64 a0_3)] H16 (fun (v18 : Value) (H19 : LH) => ∃ b20 : Bool, (v18 = (Value.bool b20)) ∧ (((Bool.not b20) = true) → ((Value.tuple #[]) = (Value.tuple #[])) ∧ (R (Value.int .i64 (10 : Int)) H19)) ∧ (((Bool.not b20) =
    false) → (XCall prog f_word_Known [(Value.int .i64 a0_4)] H19 (fun (v21 : Value) (H22 : LH) => ∃ b23 : Bool, (v21 = (Value.bool b23)) ∧ ((Value.bool b6) = (Value.bool b6)) ∧ (((Bool.not (b6 == b23)) = true) → (R
    (Value.int .i64 (10 : Int)) H22)) ∧ (((Bool.not (b6 == b23)) = false) → (((Bool.not b6) = true) → (((Bool.not (decide (a0_4 = (0 : Int)))) = true) → (R (Value.int .i64 (10 : Int)) H22)) ∧ (((Bool.not (decide (a0_4 =
    (0 : Int)))) = false) → (((decide (a0_5 < x8)) = true) → (R (Value.int .i64 (10 : Int)) H22)) ∧ (((decide (a0_5 < x8)) = false) → (((decide (x9 < a0_5)) = true) → (R (Value.int .i64 (10 : Int)) H22)) ∧ (((decide (x9
    < a0_5)) = false) → (R (Value.int .i64 (0 : Int)) H22))))) ∧ (((Bool.not b6) = false) → (((decide (a0_5 < x8)) = true) → (R (Value.int .i64 (10 : Int)) H22)) ∧ (((decide (a0_5 < x8)) = false) → (((decide (x9 < a0_5))
    = true) → (R (Value.int .i64 (10 : Int)) H22)) ∧ (((decide (x9 < a0_5)) = false) → (R (Value.int .i64 (0 : Int)) H22)))))))))))))))))))

theorem F_instr_Check_call {R : Value → LH → Prop} {H : LH} (a0_0 : Int) (a0_1 : Int) (a0_2 : Int) (a0_3 : Int) (a0_4 : Int) (a0_5 : Int) (h : F_instr_Check a0_0 a0_1 a0_2 a0_3 a0_4 a0_5 R H) : Call prog f_instr_Check [.agg #[.int .i64 a0_0, .int .i64 a0_1, .int .i64 a0_2, .int .i64 a0_3, .int .i64 a0_4, .int .i64 a0_5]] H R := by
  have e : F_instr_Check a0_0 a0_1 a0_2 a0_3 a0_4 a0_5 R H = zfun prog f_instr_Check [1, 3]
    (.seq none .u (.seq none .u (.seq none (.block (.seq none .u (.cond (.seq none .u .u) (.seq none (.draw [⟨0, [], []⟩, ⟨1, [], []⟩, ⟨2, [], []⟩, ⟨3, [], []⟩, ⟨4, [], []⟩, ⟨5, [], []⟩, ⟨6, [], []⟩, ⟨7, [], []⟩, ⟨8, [], []⟩, ⟨9, [], []⟩, ⟨10, [], []⟩, ⟨11, [], []⟩, ⟨12, [], []⟩, ⟨13, [], []⟩, ⟨14, [], []⟩, ⟨15, [], []⟩, ⟨16, [], []⟩, ⟨17, [], []⟩, ⟨18, [], []⟩, ⟨19, [], []⟩, ⟨20, [], []⟩, ⟨21, [], []⟩, ⟨22, [], []⟩, ⟨23, [], []⟩, ⟨24, [], []⟩, ⟨25, [], []⟩, ⟨26, [], []⟩, ⟨27, [24], []⟩, ⟨28, [], []⟩, ⟨29, [], []⟩, ⟨30, [], []⟩, ⟨31, [], []⟩, ⟨32, [], []⟩, ⟨33, [], []⟩, ⟨34, [], []⟩, ⟨35, [], []⟩, ⟨36, [], []⟩, ⟨37, [], []⟩, ⟨38, [], []⟩, ⟨39, [], []⟩, ⟨40, [], []⟩, ⟨41, [], []⟩, ⟨42, [], []⟩, ⟨43, [], []⟩, ⟨44, [], []⟩, ⟨45, [], []⟩, ⟨46, [], []⟩, ⟨47, [], []⟩, ⟨48, [], []⟩, ⟨49, [], []⟩, ⟨50, [], []⟩, ⟨51, [], []⟩, ⟨52, [], []⟩, ⟨53, [], []⟩, ⟨54, [], []⟩]) (.cond (.seq none .u .u) .u))))) (.seq none .u .u))))
    [.agg #[.int .i64 a0_0, .int .i64 a0_1, .int .i64 a0_2, .int .i64 a0_3, .int .i64 a0_4, .int .i64 a0_5]] R H := by kernel_rfl
  rw [e] at h
  exact call_of_zfun mixed h

/-- timebound/emit.unit -/
def F_emit_unit (a0_0p : Option Addr) (a0_0n a0_0c : Nat) (a0_1 : Int) (a0_2p : Option Addr) (a0_2n a0_2c : Nat) (a0_3p : Option Addr) (a0_3n a0_3c : Nat) (a1_0 : ByteArray) (a1_1p : Option Addr) (a1_1n a1_1c : Nat) (a1_2p : Option Addr) (a1_2n a1_2c : Nat) (a1_3p : Option Addr) (a1_3n a1_3c : Nat) (a1_4p : Option Addr) (a1_4n a1_4c : Nat) (a1_5p : Option Addr) (a1_5n a1_5c : Nat) (a1_6p : Option Addr) (a1_6n a1_6c : Nat) (a1_7p : Option Addr) (a1_7n a1_7c : Nat) (a1_8p : Option Addr) (a1_8n a1_8c : Nat) (a1_9p : Option Addr) (a1_9n a1_9c : Nat) (a2 : Int) (R : Value → LH → Prop) (H : LH) : Prop :=
  ((a1_1p = none) → (a1_1n = 0) ∧ (a1_1c = 0)) ∧ ∃ K1 : (Int → Int → LH → Prop), ∃ K2 : (Int → Int → LH → Nat), (K1 a2 (0 : Int) H) ∧ ∀ x3 : Int, ∀ x4 : Int, ∀ H5 : LH, (K1 x3 x4 H5) → (((decide (x4 < (a1_1n : Int))) =
    true) → ∃ n6 n7 : Nat, (a1_1p = (some (Addr.mk n6 n7 none))) ∧ ((0 : Int) ≤ x4) ∧ (x4 < (a1_1n : Int)) ∧ ∃ x8 : Int, (hAt H5 n6 (n7 + ((Int.toNat x4) * 4)) (Value.int .i64 x8)) ∧ ∃ x9 : Int, (hAt H5 n6 ((n7 +
    ((Int.toNat x4) * 4)) + 1) (Value.int .i64 x9)) ∧ ∃ p10 : (Option Addr), ∃ n11 n12 : Nat, (hAt H5 n6 (((n7 + ((Int.toNat x4) * 4)) + 1) + 1) (Value.slice p10 n11 n12)) ∧ ∃ p13 : (Option Addr), ∃ n14 n15 : Nat, (hAt
    H5 n6 ((((n7 + ((Int.toNat x4) * 4)) + 1) + 1) + 1) (Value.slice p13 n14 n15)) ∧ (((Bool.not (decide (x8 = x3))) = true) → (R (Value.tuple #[(Value.int .i64 (0 : Int)), (Value.bool false)]) H5)) ∧ (((Bool.not (decide
    (x8 = x3))) = false) → (((decide (x9 < (1 : Int))) = true) → (R (Value.tuple #[(Value.int .i64 (0 : Int)), (Value.bool false)]) H5)) ∧ (((decide (x9 < (1 : Int))) = false) → ((a0_0p = none) → (a0_0n = 0) ∧ (a0_0c =
    0)) ∧ (((decide ((IntKind.wrap .i64 ((a0_0n : Int) - x3)) < x9)) = true) → (R (Value.tuple #[(Value.int .i64 (0 : Int)), (Value.bool false)]) H5)) ∧ (((decide ((IntKind.wrap .i64 ((a0_0n : Int) - x3)) < x9)) = false)
    → (K1 (IntKind.wrap .i64 (x3 + x9)) (IntKind.wrap .i64 (x4 + (1 : Int))) H5) ∧ ((K2 (IntKind.wrap .i64 (x3 + x9)) (IntKind.wrap .i64 (x4 + (1 : Int))) H5) < (K2 x3 x4 H5)))))) ∧ (((decide (x4 < (a1_1n : Int))) =
    false) → ((a1_1p = none) → (a1_1n = 0) ∧ (a1_1c = 0)) ∧ ∃ K16 : (Int → Int → LH → Prop), ∃ K17 : (Int → Int → LH → Nat), (K16 (0 : Int) (0 : Int) H5) ∧ ∀ x18 : Int, ∀ x19 : Int, ∀ H20 : LH, (K16 x18 x19 H20) →
    (((decide (x19 < (a1_1n : Int))) = true) → ∃ n21 n22 : Nat, (a1_1p = (some (Addr.mk n21 n22 none))) ∧ ((0 : Int) ≤ x19) ∧ (x19 < (a1_1n : Int)) ∧ ∃ x23 : Int, (hAt H20 n21 (n22 + ((Int.toNat x19) * 4)) (Value.int
    .i64 x23)) ∧ ∃ x24 : Int, (hAt H20 n21 ((n22 + ((Int.toNat x19) * 4)) + 1) (Value.int .i64 x24)) ∧ ∃ p25 : (Option Addr), ∃ n26 n27 : Nat, (hAt H20 n21 (((n22 + ((Int.toNat x19) * 4)) + 1) + 1) (Value.slice p25 n26
    n27)) ∧ ∃ p28 : (Option Addr), ∃ n29 n30 : Nat, (hAt H20 n21 ((((n22 + ((Int.toNat x19) * 4)) + 1) + 1) + 1) (Value.slice p28 n29 n30)) ∧ (XCall prog f_emit_leads [(Value.agg #[(Value.slice a0_0p a0_0n a0_0c),
    (Value.int .i64 a0_1), (Value.slice a0_2p a0_2n a0_2c), (Value.slice a0_3p a0_3n a0_3c)]), (Value.agg #[(Value.string a1_0), (Value.slice a1_1p a1_1n a1_1c), (Value.slice a1_2p a1_2n a1_2c), (Value.slice a1_3p a1_3n
    a1_3c), (Value.slice a1_4p a1_4n a1_4c), (Value.slice a1_5p a1_5n a1_5c), (Value.slice a1_6p a1_6n a1_6c), (Value.slice a1_7p a1_7n a1_7c), (Value.slice a1_8p a1_8n a1_8c), (Value.slice a1_9p a1_9n a1_9c)]),
    (Value.int .i64 x19)] H20 (fun (v31 : Value) (H32 : LH) => ∃ p33 : (Option Addr), ∃ n34 n35 : Nat, ∃ b36 : Bool, (v31 = (Value.tuple #[(Value.slice p33 n34 n35), (Value.bool b36)])) ∧ (((Bool.not b36) = true) → (R
    (Value.tuple #[(Value.int .i64 (0 : Int)), (Value.bool false)]) H32)) ∧ (((Bool.not b36) = false) → (XCall prog f_slices_Equal_int_int [(Value.slice p33 n34 n35), (Value.slice p25 n26 n27)] H32 (fun (v37 : Value)
    (H38 : LH) => ∃ b39 : Bool, (v37 = (Value.bool b39)) ∧ (((Bool.not b39) = true) → (R (Value.tuple #[(Value.int .i64 (0 : Int)), (Value.bool false)]) H38)) ∧ (((Bool.not b39) = false) → (XCall prog f_emit_touches
    [(Value.agg #[(Value.slice a0_0p a0_0n a0_0c), (Value.int .i64 a0_1), (Value.slice a0_2p a0_2n a0_2c), (Value.slice a0_3p a0_3n a0_3c)]), (Value.agg #[(Value.int .i64 x23), (Value.int .i64 x24), (Value.slice p25 n26
    n27), (Value.slice p28 n29 n30)])] H38 (fun (v40 : Value) (H41 : LH) => ∃ b42 : Bool, (v40 = (Value.bool b42)) ∧ (((Bool.not b42) = true) → (R (Value.tuple #[(Value.int .i64 (0 : Int)), (Value.bool false)]) H41)) ∧
    (((Bool.not b42) = false) → ((p33 = none) → (n34 = 0) ∧ (n35 = 0)) ∧ (((decide ((n34 : Int) = (0 : Int))) = true) → (K16 (IntKind.wrap .i64 (x18 + (1 : Int))) (IntKind.wrap .i64 (x19 + (1 : Int))) H41) ∧ ((K17
    (IntKind.wrap .i64 (x18 + (1 : Int))) (IntKind.wrap .i64 (x19 + (1 : Int))) H41) < (K17 x18 x19 H20))) ∧ (((decide ((n34 : Int) = (0 : Int))) = false) → (K16 x18 (IntKind.wrap .i64 (x19 + (1 : Int))) H41) ∧ ((K17 x18
    (IntKind.wrap .i64 (x19 + (1 : Int))) H41) < (K17 x18 x19 H20))))))))))))) ∧ (((decide (x19 < (a1_1n : Int))) = false) → (((decide (x18 = (1 : Int))) = true) → (XCall prog f_emit_names [(Value.agg #[(Value.string
    a1_0), (Value.slice a1_1p a1_1n a1_1c), (Value.slice a1_2p a1_2n a1_2c), (Value.slice a1_3p a1_3n a1_3c), (Value.slice a1_4p a1_4n a1_4c), (Value.slice a1_5p a1_5n a1_5c), (Value.slice a1_6p a1_6n a1_6c),
    (Value.slice a1_7p a1_7n a1_7c), (Value.slice a1_8p a1_8n a1_8c), (Value.slice a1_9p a1_9n a1_9c)])] H20 (fun (v43 : Value) (H44 : LH) => ∃ b45 : Bool, (v43 = (Value.bool b45)) ∧ (R (Value.tuple #[(Value.int .i64
    x3), (Value.bool b45)]) H44)))) ∧ (((decide (x18 = (1 : Int))) = false) → (R (Value.tuple #[(Value.int .i64 x3), (Value.bool false)]) H20))))

theorem F_emit_unit_call {R : Value → LH → Prop} {H : LH} (a0_0p : Option Addr) (a0_0n a0_0c : Nat) (a0_1 : Int) (a0_2p : Option Addr) (a0_2n a0_2c : Nat) (a0_3p : Option Addr) (a0_3n a0_3c : Nat) (a1_0 : ByteArray) (a1_1p : Option Addr) (a1_1n a1_1c : Nat) (a1_2p : Option Addr) (a1_2n a1_2c : Nat) (a1_3p : Option Addr) (a1_3n a1_3c : Nat) (a1_4p : Option Addr) (a1_4n a1_4c : Nat) (a1_5p : Option Addr) (a1_5n a1_5c : Nat) (a1_6p : Option Addr) (a1_6n a1_6c : Nat) (a1_7p : Option Addr) (a1_7n a1_7c : Nat) (a1_8p : Option Addr) (a1_8n a1_8c : Nat) (a1_9p : Option Addr) (a1_9n a1_9c : Nat) (a2 : Int) (h : F_emit_unit a0_0p a0_0n a0_0c a0_1 a0_2p a0_2n a0_2c a0_3p a0_3n a0_3c a1_0 a1_1p a1_1n a1_1c a1_2p a1_2n a1_2c a1_3p a1_3n a1_3c a1_4p a1_4n a1_4c a1_5p a1_5n a1_5c a1_6p a1_6n a1_6c a1_7p a1_7n a1_7c a1_8p a1_8n a1_8c a1_9p a1_9n a1_9c a2 R H) : Call prog f_emit_unit [.agg #[.slice a0_0p a0_0n a0_0c, .int .i64 a0_1, .slice a0_2p a0_2n a0_2c, .slice a0_3p a0_3n a0_3c], .agg #[.string a1_0, .slice a1_1p a1_1n a1_1c, .slice a1_2p a1_2n a1_2c, .slice a1_3p a1_3n a1_3c, .slice a1_4p a1_4n a1_4c, .slice a1_5p a1_5n a1_5c, .slice a1_6p a1_6n a1_6c, .slice a1_7p a1_7n a1_7c, .slice a1_8p a1_8n a1_8c, .slice a1_9p a1_9n a1_9c], .int .i64 a2] H R := by
  have e : F_emit_unit a0_0p a0_0n a0_0c a0_1 a0_2p a0_2n a0_2c a0_3p a0_3n a0_3c a1_0 a1_1p a1_1n a1_1c a1_2p a1_2n a1_2c a1_3p a1_3n a1_3c a1_4p a1_4n a1_4c a1_5p a1_5n a1_5c a1_6p a1_6n a1_6c a1_7p a1_7n a1_7c a1_8p a1_8n a1_8c a1_9p a1_9n a1_9c a2 R H = zfun prog f_emit_unit [3, 4, 10, 12]
    (.seq none .u (.seq none .u (.seq none (.seq none .u (.block (.loop ⟨[(2, .one (.int .i64)), (18, .one (.int .i64))], [3, 4, 8, 16, 17]⟩ (.seq none .u (.seq none (.cond .u .u) (.seq none (.block (.seq none .u (.seq none (.seq none .u (.cond (.seq none .u .u) .u)) .u))) .u)))))) (.seq none (.seq none .u (.block (.loop ⟨[(8, .one (.int .i64)), (49, .one (.int .i64))], [2, 3, 4, 47, 48]⟩ (.seq none .u (.seq none (.cond .u .u) (.seq none (.block (.seq none .u (.seq none .u (.seq none (.seq none .u (.cond (.seq none .u .u) .u)) (.seq none .u (.cond .u .u)))))) .u)))))) (.seq none .u .u)))))
    [.agg #[.slice a0_0p a0_0n a0_0c, .int .i64 a0_1, .slice a0_2p a0_2n a0_2c, .slice a0_3p a0_3n a0_3c], .agg #[.string a1_0, .slice a1_1p a1_1n a1_1c, .slice a1_2p a1_2n a1_2c, .slice a1_3p a1_3n a1_3c, .slice a1_4p a1_4n a1_4c, .slice a1_5p a1_5n a1_5c, .slice a1_6p a1_6n a1_6c, .slice a1_7p a1_7n a1_7c, .slice a1_8p a1_8n a1_8c, .slice a1_9p a1_9n a1_9c], .int .i64 a2] R H := by kernel_rfl
  rw [e] at h
  exact call_of_zfun mixed h

/-- timebound/machine.Next$1 -/
def F_machine_Next_1 (a0 : Int) (f0b f0i : Nat) (f1b f1i : Nat) (R : Value → LH → Prop) (H : LH) : Prop :=
  ∃ x1 : Int, (hAt H f0b (f0i + 1) (Value.int .i64 x1)) ∧ (((Bool.not (decide (x1 = (0 : Int)))) = true) → ∀ H2 : LH, (H2 = (LH.keep H 9)) → ∃ p3 : (Option Addr), (hAt H2 f1b f1i (Value.pointer p3)) ∧ ∃ n4 n5 : Nat, (p3 =
    (some (Addr.mk n4 n5 none))) ∧ ∃ p6 : (Option Addr), ∃ n7 n8 : Nat, (hAt H2 n4 (n5 + 0) (Value.slice p6 n7 n8)) ∧ ∃ x9 : Int, (hAt H2 f0b (f0i + 1) (Value.int .i64 x9)) ∧ ∃ n10 n11 : Nat, (p6 = (some (Addr.mk n10 n11
    none))) ∧ ((0 : Int) ≤ x9) ∧ (x9 < (n7 : Int)) ∧ ∃ l12 : (List Value), ∃ n13 : Nat, ((LH.get H2 n10) = (some (LObj.cells l12 n13 false))) ∧ (((n11 + ((Int.toNat x9) * 1)) + 1) ≤ (List.length l12)) ∧ ∀ H14 : LH, (H14
    = (LH.put H2 n10 (some (LObj.cells (setMany l12 (n11 + ((Int.toNat x9) * 1)) [(Value.int .i64 a0)]) n13 false)))) → (R (Value.tuple #[]) H14)) ∧ (((Bool.not (decide (x1 = (0 : Int)))) = false) → (R (Value.tuple #[])
    H))

theorem F_machine_Next_1_call {R : Value → LH → Prop} {H : LH} (a0 : Int) (f0b f0i : Nat) (f1b f1i : Nat) (h : F_machine_Next_1 a0 f0b f0i f1b f1i R H) : Call prog f_machine_Next_1 [.int .i64 a0, .pointer (some ⟨f0b, f0i, none⟩), .pointer (some ⟨f1b, f1i, none⟩)] H R := by
  have e : F_machine_Next_1 a0 f0b f0i f1b f1i R H = zfun prog f_machine_Next_1 []
    (.seq none .u (.cond (.draw [⟨0, [], []⟩, ⟨1, [], []⟩, ⟨2, [], []⟩, ⟨3, [], []⟩, ⟨4, [], []⟩, ⟨5, [], []⟩, ⟨6, [], []⟩, ⟨7, [], []⟩, ⟨8, [], []⟩]) .u))
    [.int .i64 a0, .pointer (some ⟨f0b, f0i, none⟩), .pointer (some ⟨f1b, f1i, none⟩)] R H := by kernel_rfl
  rw [e] at h
  exact call_of_zfun mixed h

/-- timebound/machine.Next$2 -/
def F_machine_Next_2  (R : Value → LH → Prop) (H : LH) : Prop :=
  (R (Value.tuple #[]) H)

theorem F_machine_Next_2_call {R : Value → LH → Prop} {H : LH}  (h : F_machine_Next_2  R H) : Call prog f_machine_Next_2 [] H R := by
  have e : F_machine_Next_2  R H = zfun prog f_machine_Next_2 []
    .u
    [] R H := by kernel_rfl
  rw [e] at h
  exact call_of_zfun mixed h

/-- timebound/machine.Next$3 -/
def F_machine_Next_3 (f0b f0i : Nat) (f1b f1i : Nat) (R : Value → LH → Prop) (H : LH) : Prop :=
  ∃ v1 : Value, (hAt H f0b f0i v1) ∧ ∃ x2 : Int, (hAt H f1b (f1i + 5) (Value.int .i64 x2)) ∧ ∃ n3 : Nat, ∃ l4 l5 : (List Value), (v1 = (Value.func (Fn.func n3) (Array.mk l4) (Array.mk l5))) ∧ ((okFn prog n3) = true) ∧
    (XCall prog n3 ((l4 ++ [(Value.int .i64 x2)]) ++ l5) H (fun (v6 : Value) (H7 : LH) => ∃ v8 : Value, (v6 = v8) ∧ (R (Value.tuple #[]) H7)))

theorem F_machine_Next_3_call {R : Value → LH → Prop} {H : LH} (f0b f0i : Nat) (f1b f1i : Nat) (h : F_machine_Next_3 f0b f0i f1b f1i R H) : Call prog f_machine_Next_3 [.pointer (some ⟨f0b, f0i, none⟩), .pointer (some ⟨f1b, f1i, none⟩)] H R := by
  have e : F_machine_Next_3 f0b f0i f1b f1i R H = zfun prog f_machine_Next_3 []
    .u
    [.pointer (some ⟨f0b, f0i, none⟩), .pointer (some ⟨f1b, f1i, none⟩)] R H := by kernel_rfl
  rw [e] at h
  exact call_of_zfun mixed h

/-- timebound/machine.Next$4 -/
def F_machine_Next_4 (f0b f0i : Nat) (f1b f1i : Nat) (f2b f2i : Nat) (R : Value → LH → Prop) (H : LH) : Prop :=
  ∀ H1 : LH, (H1 = (LH.keep H 10)) → ∃ v2 : Value, (hAt H1 f0b f0i v2) ∧ ∃ p3 : (Option Addr), (hAt H1 f1b f1i (Value.pointer p3)) ∧ ∃ n4 n5 : Nat, (p3 = (some (Addr.mk n4 n5 none))) ∧ ∃ p6 : (Option Addr), ∃ n7 n8 : Nat,
    (hAt H1 n4 (n5 + 0) (Value.slice p6 n7 n8)) ∧ ∃ x9 : Int, (hAt H1 f2b (f2i + 2) (Value.int .i64 x9)) ∧ ∃ n10 n11 : Nat, (p6 = (some (Addr.mk n10 n11 none))) ∧ ((0 : Int) ≤ x9) ∧ (x9 < (n7 : Int)) ∧ ∃ x12 : Int, (hAt
    H1 n10 (n11 + ((Int.toNat x9) * 1)) (Value.int .i64 x12)) ∧ ∃ n13 : Nat, ∃ l14 l15 : (List Value), (v2 = (Value.func (Fn.func n13) (Array.mk l14) (Array.mk l15))) ∧ ((okFn prog n13) = true) ∧ (XCall prog n13 ((l14 ++
    [(Value.int .i64 x12)]) ++ l15) H1 (fun (v16 : Value) (H17 : LH) => ∃ v18 : Value, (v16 = v18) ∧ (R (Value.tuple #[]) H17)))

theorem F_machine_Next_4_call {R : Value → LH → Prop} {H : LH} (f0b f0i : Nat) (f1b f1i : Nat) (f2b f2i : Nat) (h : F_machine_Next_4 f0b f0i f1b f1i f2b f2i R H) : Call prog f_machine_Next_4 [.pointer (some ⟨f0b, f0i, none⟩), .pointer (some ⟨f1b, f1i, none⟩), .pointer (some ⟨f2b, f2i, none⟩)] H R := by
  have e : F_machine_Next_4 f0b f0i f1b f1i f2b f2i R H = zfun prog f_machine_Next_4 []
    (.draw [⟨0, [], []⟩, ⟨1, [], []⟩, ⟨2, [], []⟩, ⟨3, [], []⟩, ⟨4, [], []⟩, ⟨5, [], []⟩, ⟨6, [], []⟩, ⟨7, [], []⟩, ⟨8, [], []⟩, ⟨9, [], []⟩])
    [.pointer (some ⟨f0b, f0i, none⟩), .pointer (some ⟨f1b, f1i, none⟩), .pointer (some ⟨f2b, f2i, none⟩)] R H := by kernel_rfl
  rw [e] at h
  exact call_of_zfun mixed h

/-- timebound/word.Do -/
def F_word_Do (a0 : Int) (a1 : Int) (a2 : Int) (R : Value → LH → Prop) (H : LH) : Prop :=
  (XCall prog f_word_Known [(Value.int .i64 a0)] H (fun (v1 : Value) (H2 : LH) => ∃ b3 : Bool, (v1 = (Value.bool b3)) ∧ (((Bool.not b3) = true) → (R (Value.tuple #[(Value.int .i64 (0 : Int)), (Value.int .i64 (6 : Int))])
    H2)) ∧ (((Bool.not b3) = false) → ∀ H4 : LH, (H4 = (LH.keep H2 12)) → (XCall prog f_word_operators [] H4 (fun (v5 : Value) (H6 : LH) => ∃ v7 v8 v9 v10 v11 v12 v13 v14 v15 v16 v17 v18 v19 v20 : Value, (v5 = (Value.agg
    #[v7, v8, v9, v10, v11, v12, v13, v14, v15, v16, v17, v18, v19, v20])) ∧ ((0 : Int) ≤ (IntKind.wrap .i64 (a0 - (1 : Int)))) ∧ ((IntKind.wrap .i64 (a0 - (1 : Int))) < (14 : Int)) ∧ ∃ v21 : Value, ([v7, v8, v9, v10,
    v11, v12, v13, v14, v15, v16, v17, v18, v19, v20][((Int.toNat (IntKind.wrap .i64 (a0 - (1 : Int)))) * 1)]? = (some v21)) ∧ (XCall prog f_word_Wrap [(Value.int .i64 a1)] H6 (fun (v22 : Value) (H23 : LH) => ∃ x24 :
    Int, (v22 = (Value.int .i64 x24)) ∧ (XCall prog f_word_Wrap [(Value.int .i64 a2)] H23 (fun (v25 : Value) (H26 : LH) => ∃ x27 : Int, (v25 = (Value.int .i64 x27)) ∧ ∃ n28 : Nat, ∃ l29 l30 : (List Value), (v21 =
    (Value.func (Fn.func n28) (Array.mk l29) (Array.mk l30))) ∧ ((okFn prog n28) = true) ∧ (XCall prog n28 ((l29 ++ [(Value.int .i64 x24), (Value.int .i64 x27)]) ++ l30) H26 (fun (v31 : Value) (H32 : LH) => ∃ x33 : Int,
    (v31 = (Value.int .i64 x33)) ∧ (XCall prog f_word_Wrap [(Value.int .i64 x33)] H32 (fun (v34 : Value) (H35 : LH) => ∃ x36 : Int, (v34 = (Value.int .i64 x36)) ∧ (R (Value.tuple #[(Value.int .i64 x36), (Value.int .i64
    (0 : Int))]) H35))))))))))))))

theorem F_word_Do_call {R : Value → LH → Prop} {H : LH} (a0 : Int) (a1 : Int) (a2 : Int) (h : F_word_Do a0 a1 a2 R H) : Call prog f_word_Do [.int .i64 a0, .int .i64 a1, .int .i64 a2] H R := by
  have e : F_word_Do a0 a1 a2 R H = zfun prog f_word_Do []
    (.seq none .u (.seq none (.seq none .u (.cond (.seq none .u .u) .u)) (.seq none (.draw [⟨1, [], []⟩, ⟨2, [], []⟩, ⟨4, [], []⟩, ⟨6, [], []⟩, ⟨0, [], []⟩, ⟨3, [], []⟩, ⟨5, [], []⟩, ⟨7, [], []⟩, ⟨8, [], []⟩, ⟨9, [], []⟩, ⟨10, [], []⟩, ⟨11, [], []⟩]) .u)))
    [.int .i64 a0, .int .i64 a1, .int .i64 a2] R H := by kernel_rfl
  rw [e] at h
  exact call_of_zfun mixed h

/-- timebound/machine.Next$5 -/
def F_machine_Next_5 (f0b f0i : Nat) (f1b f1i : Nat) (R : Value → LH → Prop) (H : LH) : Prop :=
  ∃ v1 : Value, (hAt H f0b f0i v1) ∧ ∃ x2 : Int, (hAt H f1b f1i (Value.int .i64 x2)) ∧ ∃ n3 : Nat, ∃ l4 l5 : (List Value), (v1 = (Value.func (Fn.func n3) (Array.mk l4) (Array.mk l5))) ∧ ((okFn prog n3) = true) ∧ (XCall
    prog n3 ((l4 ++ [(Value.int .i64 x2)]) ++ l5) H (fun (v6 : Value) (H7 : LH) => ∃ v8 : Value, (v6 = v8) ∧ (R (Value.tuple #[]) H7)))

theorem F_machine_Next_5_call {R : Value → LH → Prop} {H : LH} (f0b f0i : Nat) (f1b f1i : Nat) (h : F_machine_Next_5 f0b f0i f1b f1i R H) : Call prog f_machine_Next_5 [.pointer (some ⟨f0b, f0i, none⟩), .pointer (some ⟨f1b, f1i, none⟩)] H R := by
  have e : F_machine_Next_5 f0b f0i f1b f1i R H = zfun prog f_machine_Next_5 []
    .u
    [.pointer (some ⟨f0b, f0i, none⟩), .pointer (some ⟨f1b, f1i, none⟩)] R H := by kernel_rfl
  rw [e] at h
  exact call_of_zfun mixed h

/-- timebound/machine.Next$6 -/
def F_machine_Next_6 (f0b f0i : Nat) (f1b f1i : Nat) (f2b f2i : Nat) (R : Value → LH → Prop) (H : LH) : Prop :=
  ∀ H1 : LH, (H1 = (LH.keep H 10)) → ∃ v2 : Value, (hAt H1 f0b f0i v2) ∧ ∃ p3 : (Option Addr), (hAt H1 f1b f1i (Value.pointer p3)) ∧ ∃ n4 n5 : Nat, (p3 = (some (Addr.mk n4 n5 none))) ∧ ∃ p6 : (Option Addr), ∃ n7 n8 : Nat,
    (hAt H1 n4 (n5 + 1) (Value.slice p6 n7 n8)) ∧ ∃ x9 : Int, (hAt H1 f2b (f2i + 1) (Value.int .i64 x9)) ∧ ∃ n10 n11 : Nat, (p6 = (some (Addr.mk n10 n11 none))) ∧ ((0 : Int) ≤ x9) ∧ (x9 < (n7 : Int)) ∧ ∃ x12 : Int, (hAt
    H1 n10 (n11 + ((Int.toNat x9) * 1)) (Value.int .i64 x12)) ∧ ∃ n13 : Nat, ∃ l14 l15 : (List Value), (v2 = (Value.func (Fn.func n13) (Array.mk l14) (Array.mk l15))) ∧ ((okFn prog n13) = true) ∧ (XCall prog n13 ((l14 ++
    [(Value.int .i64 x12)]) ++ l15) H1 (fun (v16 : Value) (H17 : LH) => ∃ v18 : Value, (v16 = v18) ∧ (R (Value.tuple #[]) H17)))

theorem F_machine_Next_6_call {R : Value → LH → Prop} {H : LH} (f0b f0i : Nat) (f1b f1i : Nat) (f2b f2i : Nat) (h : F_machine_Next_6 f0b f0i f1b f1i f2b f2i R H) : Call prog f_machine_Next_6 [.pointer (some ⟨f0b, f0i, none⟩), .pointer (some ⟨f1b, f1i, none⟩), .pointer (some ⟨f2b, f2i, none⟩)] H R := by
  have e : F_machine_Next_6 f0b f0i f1b f1i f2b f2i R H = zfun prog f_machine_Next_6 []
    (.draw [⟨0, [], []⟩, ⟨1, [], []⟩, ⟨2, [], []⟩, ⟨3, [], []⟩, ⟨4, [], []⟩, ⟨5, [], []⟩, ⟨6, [], []⟩, ⟨7, [], []⟩, ⟨8, [], []⟩, ⟨9, [], []⟩])
    [.pointer (some ⟨f0b, f0i, none⟩), .pointer (some ⟨f1b, f1i, none⟩), .pointer (some ⟨f2b, f2i, none⟩)] R H := by kernel_rfl
  rw [e] at h
  exact call_of_zfun mixed h

/-- timebound/machine.Next$7 -/
def F_machine_Next_7 (f0b f0i : Nat) (f1b f1i : Nat) (f2b f2i : Nat) (R : Value → LH → Prop) (H : LH) : Prop :=
  ∀ H1 : LH, (H1 = (LH.keep H 16)) → ∃ p2 : (Option Addr), (hAt H1 f0b f0i (Value.pointer p2)) ∧ ∃ n3 n4 : Nat, (p2 = (some (Addr.mk n3 n4 none))) ∧ ∃ p5 : (Option Addr), ∃ n6 n7 : Nat, (hAt H1 n3 (n4 + 1) (Value.slice p5
    n6 n7)) ∧ ∃ x8 : Int, (hAt H1 f2b (f2i + 1) (Value.int .i64 x8)) ∧ ∃ p9 : (Option Addr), (hAt H1 f0b f0i (Value.pointer p9)) ∧ ∃ n10 n11 : Nat, (p9 = (some (Addr.mk n10 n11 none))) ∧ ∃ p12 : (Option Addr), ∃ n13 n14
    : Nat, (hAt H1 n10 (n11 + 0) (Value.slice p12 n13 n14)) ∧ ∃ x15 : Int, (hAt H1 f1b (f1i + 1) (Value.int .i64 x15)) ∧ ∃ n16 n17 : Nat, (p12 = (some (Addr.mk n16 n17 none))) ∧ ((0 : Int) ≤ x15) ∧ (x15 < (n13 : Int)) ∧
    ∃ x18 : Int, (hAt H1 n16 (n17 + ((Int.toNat x15) * 1)) (Value.int .i64 x18)) ∧ ∃ n19 n20 : Nat, (p5 = (some (Addr.mk n19 n20 none))) ∧ ((0 : Int) ≤ x8) ∧ (x8 < (n6 : Int)) ∧ ∃ l21 : (List Value), ∃ n22 : Nat,
    ((LH.get H1 n19) = (some (LObj.cells l21 n22 false))) ∧ (((n20 + ((Int.toNat x8) * 1)) + 1) ≤ (List.length l21)) ∧ ∀ H23 : LH, (H23 = (LH.put H1 n19 (some (LObj.cells (setMany l21 (n20 + ((Int.toNat x8) * 1))
    [(Value.int .i64 x18)]) n22 false)))) → (R (Value.tuple #[]) H23)

theorem F_machine_Next_7_call {R : Value → LH → Prop} {H : LH} (f0b f0i : Nat) (f1b f1i : Nat) (f2b f2i : Nat) (h : F_machine_Next_7 f0b f0i f1b f1i f2b f2i R H) : Call prog f_machine_Next_7 [.pointer (some ⟨f0b, f0i, none⟩), .pointer (some ⟨f1b, f1i, none⟩), .pointer (some ⟨f2b, f2i, none⟩)] H R := by
  have e : F_machine_Next_7 f0b f0i f1b f1i f2b f2i R H = zfun prog f_machine_Next_7 []
    (.draw [⟨0, [], []⟩, ⟨1, [], []⟩, ⟨2, [], []⟩, ⟨3, [], []⟩, ⟨4, [], []⟩, ⟨5, [], []⟩, ⟨6, [], []⟩, ⟨7, [], []⟩, ⟨8, [], []⟩, ⟨9, [], []⟩, ⟨10, [], []⟩, ⟨11, [], []⟩, ⟨12, [], []⟩, ⟨13, [], []⟩, ⟨14, [], []⟩, ⟨15, [], []⟩])
    [.pointer (some ⟨f0b, f0i, none⟩), .pointer (some ⟨f1b, f1i, none⟩), .pointer (some ⟨f2b, f2i, none⟩)] R H := by kernel_rfl
  rw [e] at h
  exact call_of_zfun mixed h

/-- timebound/machine.Next$8 -/
def F_machine_Next_8 (f0b f0i : Nat) (f1b f1i : Nat) (f2b f2i : Nat) (R : Value → LH → Prop) (H : LH) : Prop :=
  ∀ H1 : LH, (H1 = (LH.keep H 9)) → ∃ p2 : (Option Addr), (hAt H1 f1b f1i (Value.pointer p2)) ∧ ∃ n3 n4 : Nat, (p2 = (some (Addr.mk n3 n4 none))) ∧ ∃ p5 : (Option Addr), ∃ n6 n7 : Nat, (hAt H1 n3 (n4 + 2) (Value.slice p5
    n6 n7)) ∧ ∃ x8 : Int, (hAt H1 f2b (f2i + 5) (Value.int .i64 x8)) ∧ ∃ b9 : Bool, (hAt H1 f0b f0i (Value.bool b9)) ∧ ∃ n10 n11 : Nat, (p5 = (some (Addr.mk n10 n11 none))) ∧ ((0 : Int) ≤ x8) ∧ (x8 < (n6 : Int)) ∧ ∃ l12
    : (List Value), ∃ n13 : Nat, ((LH.get H1 n10) = (some (LObj.cells l12 n13 false))) ∧ (((n11 + ((Int.toNat x8) * 1)) + 1) ≤ (List.length l12)) ∧ ∀ H14 : LH, (H14 = (LH.put H1 n10 (some (LObj.cells (setMany l12 (n11 +
    ((Int.toNat x8) * 1)) [(Value.bool b9)]) n13 false)))) → (R (Value.tuple #[]) H14)

theorem F_machine_Next_8_call {R : Value → LH → Prop} {H : LH} (f0b f0i : Nat) (f1b f1i : Nat) (f2b f2i : Nat) (h : F_machine_Next_8 f0b f0i f1b f1i f2b f2i R H) : Call prog f_machine_Next_8 [.pointer (some ⟨f0b, f0i, none⟩), .pointer (some ⟨f1b, f1i, none⟩), .pointer (some ⟨f2b, f2i, none⟩)] H R := by
  have e : F_machine_Next_8 f0b f0i f1b f1i f2b f2i R H = zfun prog f_machine_Next_8 []
    (.draw [⟨0, [], []⟩, ⟨1, [], []⟩, ⟨2, [], []⟩, ⟨3, [], []⟩, ⟨4, [], []⟩, ⟨5, [], []⟩, ⟨6, [], []⟩, ⟨7, [], []⟩, ⟨8, [], []⟩])
    [.pointer (some ⟨f0b, f0i, none⟩), .pointer (some ⟨f1b, f1i, none⟩), .pointer (some ⟨f2b, f2i, none⟩)] R H := by kernel_rfl
  rw [e] at h
  exact call_of_zfun mixed h

/-- timebound/timeboundref19.Check -/
def F_ref19_Check (a0_0 : Int) (a0_1 : Int) (a0_2 : Int) (a0_3 : Int) (a0_4 : Int) (a0_5 : Int) (R : Value → LH → Prop) (H : LH) : Prop :=
  ∀ K1 : (Bool → LH → Prop), (∀ b2 : Bool, ∀ H3 : LH, (∀ K4 : (Int → Int → Int → Int → Int → Int → Bool → LH → Prop), (∀ x5 : Int, ∀ x6 : Int, ∀ x7 : Int, ∀ x8 : Int, ∀ x9 : Int, ∀ x10 : Int, ∀ b11 : Bool, ∀ H12 : LH,
    ((((Bool.not b11) = true) → (R (Value.int .i64 (10 : Int)) H12)) ∧ (((Bool.not b11) = false) → (((Bool.not (Bool.and (decide (x5 = a0_0)) (Bool.and (decide (x6 = a0_1)) (Bool.and (decide (x7 = a0_2)) (Bool.and
    (decide (x8 = a0_3)) (Bool.and (decide (x9 = a0_4)) (Bool.and (decide (x10 = a0_5)) true))))))) = true) → (R (Value.int .i64 (10 : Int)) H12)) ∧ (((Bool.not (Bool.and (decide (x5 = a0_0)) (Bool.and (decide (x6 =
    a0_1)) (Bool.and (decide (x7 = a0_2)) (Bool.and (decide (x8 = a0_3)) (Bool.and (decide (x9 = a0_4)) (Bool.and (decide (x10 = a0_5)) true))))))) = false) → (R (Value.int .i64 (0 : Int)) H12)))) → (K4 x5 x6 x7 x8 x9
    x10 b11 H12)) → ∀ K14 : (Bool → LH → Prop), (∀ b15 : Bool, ∀ H16 : LH, (((b15 = true) → (K4 a0_0 (0 : Int) (0 : Int) (0 : Int) (0 : Int) (0 : Int) b2 H16)) ∧ ((b15 = false) → (((decide (a0_0 = (1 : Int))) = true) → ∀
    H17 : LH, (H17 = (LH.keep H16 8)) → ((Value.int .i64 a0_5) = (Value.int .i64 a0_5)) ∧ ((b2 = true) → (XCall prog f_ref06_Word [(Value.int .i64 a0_5)] H17 (fun (v18 : Value) (H19 : LH) => ∃ b20 : Bool, (v18 =
    (Value.bool b20)) ∧ (K4 a0_0 a0_1 (0 : Int) (0 : Int) (0 : Int) a0_5 b20 H19)))) ∧ ((b2 = false) → (K4 a0_0 a0_1 (0 : Int) (0 : Int) (0 : Int) a0_5 false H17))) ∧ (((decide (a0_0 = (1 : Int))) = false) → (((decide
    (a0_0 = (2 : Int))) = true) → ∀ H21 : LH, (H21 = (LH.keep H16 8)) → ((Value.int .i64 a0_2) = (Value.int .i64 a0_2)) ∧ (K4 a0_0 a0_1 a0_2 (0 : Int) (0 : Int) (0 : Int) b2 H21)) ∧ (((decide (a0_0 = (2 : Int))) = false)
    → (((decide (a0_0 = (3 : Int))) = true) → ∀ H22 : LH, (H22 = (LH.keep H16 16)) → ((Value.int .i64 a0_2) = (Value.int .i64 a0_2)) ∧ ((Value.int .i64 a0_3) = (Value.int .i64 a0_3)) ∧ ((Value.int .i64 a0_4) = (Value.int
    .i64 a0_4)) ∧ ((Value.int .i64 a0_3) = (Value.int .i64 a0_3)) ∧ ((Value.int .i64 a0_4) = (Value.int .i64 a0_4)) ∧ ((Value.int .i64 a0_4) = (Value.int .i64 a0_4)) ∧ ((b2 = true) → (XCall prog f_ref01_Known [(Value.int
    .i64 a0_4)] H22 (fun (v23 : Value) (H24 : LH) => ∃ b25 : Bool, (v23 = (Value.bool b25)) ∧ (K4 a0_0 a0_1 a0_2 a0_3 a0_4 (0 : Int) b25 H24)))) ∧ ((b2 = false) → (K4 a0_0 a0_1 a0_2 a0_3 a0_4 (0 : Int) false H22))) ∧
    (((decide (a0_0 = (3 : Int))) = false) → ∀ K26 : (Bool → LH → Prop), (∀ b27 : Bool, ∀ H28 : LH, (((b27 = true) → ∀ H29 : LH, (H29 = (LH.keep H28 12)) → ((Value.int .i64 a0_2) = (Value.int .i64 a0_2)) ∧ ((Value.int
    .i64 a0_5) = (Value.int .i64 a0_5)) ∧ ((Value.int .i64 a0_5) = (Value.int .i64 a0_5)) ∧ ((b2 = true) → (XCall prog f_ref19_in [(Value.int .i64 a0_5), (Value.int .i64 (1024 : Int))] H29 (fun (v30 : Value) (H31 : LH)
    => ∃ b32 : Bool, (v30 = (Value.bool b32)) ∧ (K4 a0_0 a0_1 a0_2 (0 : Int) (0 : Int) a0_5 b32 H31)))) ∧ ((b2 = false) → (K4 a0_0 a0_1 a0_2 (0 : Int) (0 : Int) a0_5 false H29))) ∧ ((b27 = false) → (((decide (a0_0 = (6 :
    Int))) = true) → ((b2 = true) → (XCall prog f_ref19_in [(Value.int .i64 a0_5), (Value.int .i64 (1024 : Int))] H28 (fun (v33 : Value) (H34 : LH) => ∃ b35 : Bool, (v33 = (Value.bool b35)) ∧ (K4 a0_0 (0 : Int) (0 : Int)
    (0 : Int) (0 : Int) a0_5 b35 H34)))) ∧ ((b2 = false) → (K4 a0_0 (0 : Int) (0 : Int) (0 : Int) (0 : Int) a0_5 false H28))) ∧ (((decide (a0_0 = (6 : Int))) = false) → (((decide (a0_0 = (7 : Int))) = true) → ∀ H36 : LH,
    (H36 = (LH.keep H28 8)) → ((Value.int .i64 a0_5) = (Value.int .i64 a0_5)) ∧ ((b2 = true) → (XCall prog f_ref19_in [(Value.int .i64 a0_5), (Value.int .i64 (1024 : Int))] H36 (fun (v37 : Value) (H38 : LH) => ∃ b39 :
    Bool, (v37 = (Value.bool b39)) ∧ (K4 a0_0 a0_1 (0 : Int) (0 : Int) (0 : Int) a0_5 b39 H38)))) ∧ ((b2 = false) → (K4 a0_0 a0_1 (0 : Int) (0 : Int) (0 : Int) a0_5 false H36))) ∧ (((decide (a0_0 = (7 : Int))) = false) →
    ∀ K40 : (Bool → LH → Prop), (∀ b41 : Bool, ∀ H42 : LH, (((b41 = true) → ((b2 = true) → (XCall prog f_ref19_in [(Value.int .i64 a0_5), (Value.int .i64 (4 : Int))] H42 (fun (v43 : Value) (H44 : LH) => ∃ b45 : Bool,
    (v43 = (Value.bool b45)) ∧ (K4 a0_0 (0 : Int) (0 : Int) (0 : Int) (0 : Int) a0_5 b45 H44)))) ∧ ((b2 = false) → (K4 a0_0 (0 : Int) (0 : Int) (0 : Int) (0 : Int) a0_5 false H42))) ∧ ((b41 = false) → (R (Value.int .i64
    (6 : Int)) H42))) → (K40 b41 H42)) → (((decide (a0_0 = (8 : Int))) = true) → (K40 true H28)) ∧ (((decide (a0_0 = (8 : Int))) = false) → (K40 (decide (a0_0 = (9 : Int))) H28)))))) → (K26 b27 H28)) → (((decide (a0_0 =
    (4 : Int))) = true) → (K26 true H16)) ∧ (((decide (a0_0 = (4 : Int))) = false) → (K26 (decide (a0_0 = (5 : Int))) H16))))))) → (K14 b15 H16)) → (((decide (a0_0 = (0 : Int))) = true) → (K14 true H3)) ∧ (((decide (a0_0
    = (0 : Int))) = false) → (K14 (decide (a0_0 = (10 : Int))) H3))) → (K1 b2 H3)) → (XCall prog f_ref19_in [(Value.int .i64 a0_1), (Value.int .i64 (8 : Int))] H (fun (v51 : Value) (H52 : LH) => ∃ b53 : Bool, (v51 =
    (Value.bool b53)) ∧ ((b53 = true) → (XCall prog f_ref19_in [(Value.int .i64 a0_2), (Value.int .i64 (8 : Int))] H52 (fun (v54 : Value) (H55 : LH) => ∃ b56 : Bool, (v54 = (Value.bool b56)) ∧ ((b56 = true) → (XCall prog
    f_ref19_in [(Value.int .i64 a0_3), (Value.int .i64 (8 : Int))] H55 (fun (v57 : Value) (H58 : LH) => ∃ b59 : Bool, (v57 = (Value.bool b59)) ∧ (K1 b59 H58)))) ∧ ((b56 = false) → (K1 false H55))))) ∧ ((b53 = false) →
    (K1 false H52))))

theorem F_ref19_Check_call {R : Value → LH → Prop} {H : LH} (a0_0 : Int) (a0_1 : Int) (a0_2 : Int) (a0_3 : Int) (a0_4 : Int) (a0_5 : Int) (h : F_ref19_Check a0_0 a0_1 a0_2 a0_3 a0_4 a0_5 R H) : Call prog f_ref19_Check [.agg #[.int .i64 a0_0, .int .i64 a0_1, .int .i64 a0_2, .int .i64 a0_3, .int .i64 a0_4, .int .i64 a0_5]] H R := by
  have e : F_ref19_Check a0_0 a0_1 a0_2 a0_3 a0_4 a0_5 R H = zfun prog f_ref19_Check [1, 3]
    (.seq none .u (.seq none .u (.seq (some ⟨[(4, .one .bool)], [1, 3]⟩) .u (.seq (some ⟨[(3, .box [(.int .i64), (.int .i64), (.int .i64), (.int .i64), (.int .i64), (.int .i64)]), (4, .one .bool)], [1]⟩) (.seq none .u (.block (.seq (some ⟨[(23, .one .bool)], [1, 3, 4, 22]⟩) (.seq none .u (.cond .u .u)) (.cond .u (.seq none .u (.cond (.seq none (.draw [⟨0, [], []⟩, ⟨1, [], []⟩, ⟨2, [], []⟩, ⟨3, [], []⟩, ⟨4, [], []⟩, ⟨5, [3], []⟩, ⟨6, [], []⟩, ⟨7, [], []⟩]) .u) (.seq none .u (.cond (.draw [⟨0, [], []⟩, ⟨1, [], []⟩, ⟨2, [], []⟩, ⟨3, [], []⟩, ⟨4, [], []⟩, ⟨5, [3], []⟩, ⟨6, [], []⟩, ⟨7, [], []⟩]) (.seq none .u (.cond (.seq none (.draw [⟨0, [], []⟩, ⟨1, [], []⟩, ⟨2, [], []⟩, ⟨3, [], []⟩, ⟨4, [], []⟩, ⟨5, [], []⟩, ⟨6, [], []⟩, ⟨7, [], []⟩, ⟨8, [], []⟩, ⟨9, [3, 5, 7], []⟩, ⟨10, [], []⟩, ⟨11, [5, 7], []⟩, ⟨12, [], []⟩, ⟨13, [7], []⟩, ⟨14, [], []⟩, ⟨15, [], []⟩]) .u) (.seq (some ⟨[(68, .one .bool)], [1, 3, 4, 22]⟩) (.seq none .u (.cond .u .u)) (.cond (.seq none (.draw [⟨0, [], []⟩, ⟨1, [], []⟩, ⟨2, [], []⟩, ⟨3, [], []⟩, ⟨4, [], []⟩, ⟨5, [], []⟩, ⟨6, [], []⟩, ⟨7, [3, 5], []⟩, ⟨8, [], []⟩, ⟨9, [5], []⟩, ⟨10, [], []⟩, ⟨11, [], []⟩]) .u) (.seq none .u (.cond (.seq none .u .u) (.seq none .u (.cond (.seq none (.draw [⟨0, [], []⟩, ⟨1, [], []⟩, ⟨2, [], []⟩, ⟨3, [], []⟩, ⟨4, [], []⟩, ⟨5, [3], []⟩, ⟨6, [], []⟩, ⟨7, [], []⟩]) .u) (.seq (some ⟨[(111, .one .bool)], [1, 3, 4]⟩) (.seq none .u (.cond .u .u)) (.cond (.seq none .u .u) (.seq none .u .u))))))))))))))))))) (.seq none (.seq none .u (.cond (.seq none .u .u) .u)) (.seq none .u .u))))))
    [.agg #[.int .i64 a0_0, .int .i64 a0_1, .int .i64 a0_2, .int .i64 a0_3, .int .i64 a0_4, .int .i64 a0_5]] R H := by kernel_rfl
  rw [e] at h
  exact call_of_zfun mixed h

/-- timebound/timeboundref20.node -/
def F_ref20_node (a0_0p : Option Addr) (a0_0n a0_0c : Nat) (a0_1 : Int) (a0_2p : Option Addr) (a0_2n a0_2c : Nat) (a0_3p : Option Addr) (a0_3n a0_3c : Nat) (a1_0 : ByteArray) (a1_1p : Option Addr) (a1_1n a1_1c : Nat) (a1_2p : Option Addr) (a1_2n a1_2c : Nat) (a1_3p : Option Addr) (a1_3n a1_3c : Nat) (a1_4p : Option Addr) (a1_4n a1_4c : Nat) (a1_5p : Option Addr) (a1_5n a1_5c : Nat) (a1_6p : Option Addr) (a1_6n a1_6c : Nat) (a1_7p : Option Addr) (a1_7n a1_7c : Nat) (a1_8p : Option Addr) (a1_8n a1_8c : Nat) (a1_9p : Option Addr) (a1_9n a1_9c : Nat) (a2 : Int) (R : Value → LH → Prop) (H : LH) : Prop :=
  ∃ n1 n2 : Nat, (a1_1p = (some (Addr.mk n1 n2 none))) ∧ ((0 : Int) ≤ a2) ∧ (a2 < (a1_1n : Int)) ∧ ∃ x3 : Int, (hAt H n1 (n2 + ((Int.toNat a2) * 4)) (Value.int .i64 x3)) ∧ ∃ x4 : Int, (hAt H n1 ((n2 + ((Int.toNat a2) *
    4)) + 1) (Value.int .i64 x4)) ∧ ∃ p5 : (Option Addr), ∃ n6 n7 : Nat, (hAt H n1 (((n2 + ((Int.toNat a2) * 4)) + 1) + 1) (Value.slice p5 n6 n7)) ∧ ∃ p8 : (Option Addr), ∃ n9 n10 : Nat, (hAt H n1 ((((n2 + ((Int.toNat
    a2) * 4)) + 1) + 1) + 1) (Value.slice p8 n9 n10)) ∧ ∃ K11 : ((Option Addr) → Nat → Nat → Int → LH → Prop), ∃ K12 : ((Option Addr) → Nat → Nat → Int → LH → Nat), (K11 none 0 0 x3 H) ∧ ∀ p13 : (Option Addr), ∀ n14 :
    Nat, ∀ n15 : Nat, ∀ x16 : Int, ∀ H17 : LH, (K11 p13 n14 n15 x16 H17) → (((decide (x16 < (IntKind.wrap .i64 (x3 + x4)))) = true) → ∃ n18 n19 : Nat, (a0_0p = (some (Addr.mk n18 n19 none))) ∧ ((0 : Int) ≤ x16) ∧ (x16 <
    (a0_0n : Int)) ∧ ∃ x20 : Int, (hAt H17 n18 (n19 + ((Int.toNat x16) * 6)) (Value.int .i64 x20)) ∧ ∃ x21 : Int, (hAt H17 n18 ((n19 + ((Int.toNat x16) * 6)) + 1) (Value.int .i64 x21)) ∧ ∃ x22 : Int, (hAt H17 n18 (((n19
    + ((Int.toNat x16) * 6)) + 1) + 1) (Value.int .i64 x22)) ∧ ∃ x23 : Int, (hAt H17 n18 ((((n19 + ((Int.toNat x16) * 6)) + 1) + 1) + 1) (Value.int .i64 x23)) ∧ ∃ x24 : Int, (hAt H17 n18 (((((n19 + ((Int.toNat x16) * 6))
    + 1) + 1) + 1) + 1) (Value.int .i64 x24)) ∧ ∃ x25 : Int, (hAt H17 n18 ((((((n19 + ((Int.toNat x16) * 6)) + 1) + 1) + 1) + 1) + 1) (Value.int .i64 x25)) ∧ ∀ K26 : (Bool → LH → Prop), (∀ b27 : Bool, ∀ H28 : LH, (((b27
    = true) → ∀ H29 : LH, (H29 = (LH.new H28 (LObj.cells [(Value.int .i64 x16), (Value.int .i64 (0 : Int)), (Value.int .i64 (0 : Int))] 3 false))) → ∃ p30 : (Option Addr), ∃ n31 n32 : Nat, ∃ H33 : LH, ((appV H29 none 3
    24 (Value.slice p13 n14 n15) (Value.slice (some (Addr.mk (LH.next H28) 0 none)) 1 1)) = (some ((Value.slice p30 n31 n32), H33))) ∧ (K11 p30 n31 n32 (IntKind.wrap .i64 (x16 + (1 : Int))) H33) ∧ ((K12 p30 n31 n32
    (IntKind.wrap .i64 (x16 + (1 : Int))) H33) < (K12 p13 n14 n15 x16 H17))) ∧ ((b27 = false) → ∀ K34 : (Bool → LH → Prop), (∀ b35 : Bool, ∀ H36 : LH, (((b35 = true) → (((Bool.not (decide (x16 = (IntKind.wrap .i64
    ((IntKind.wrap .i64 (x3 + x4)) - (1 : Int)))))) = true) → (R (Value.bool false) H36)) ∧ (((Bool.not (decide (x16 = (IntKind.wrap .i64 ((IntKind.wrap .i64 (x3 + x4)) - (1 : Int)))))) = false) → (K11 p13 n14 n15
    (IntKind.wrap .i64 (x16 + (1 : Int))) H36) ∧ ((K12 p13 n14 n15 (IntKind.wrap .i64 (x16 + (1 : Int))) H36) < (K12 p13 n14 n15 x16 H17)))) ∧ ((b35 = false) → (K11 p13 n14 n15 (IntKind.wrap .i64 (x16 + (1 : Int))) H36)
    ∧ ((K12 p13 n14 n15 (IntKind.wrap .i64 (x16 + (1 : Int))) H36) < (K12 p13 n14 n15 x16 H17)))) → (K34 b35 H36)) → (((decide (x20 = (6 : Int))) = true) → (K34 true H28)) ∧ (((decide (x20 = (6 : Int))) = false) →
    (((decide (x20 = (7 : Int))) = true) → (K34 true H28)) ∧ (((decide (x20 = (7 : Int))) = false) → (K34 (decide (x20 = (10 : Int))) H28))))) → (K26 b27 H28)) → (((decide (x20 = (4 : Int))) = true) → (K26 true H17)) ∧
    (((decide (x20 = (4 : Int))) = false) → (K26 (decide (x20 = (5 : Int))) H17))) ∧ (((decide (x16 < (IntKind.wrap .i64 (x3 + x4)))) = false) → ((p13 = none) → (n14 = 0) ∧ (n15 = 0)) ∧ ((p8 = none) → (n9 = 0) ∧ (n10 =
    0)) ∧ (((Bool.not (decide ((n14 : Int) = (n9 : Int)))) = true) → (R (Value.bool false) H17)) ∧ (((Bool.not (decide ((n14 : Int) = (n9 : Int)))) = false) → ∃ K39 : (Int → LH → Prop), ∃ K40 : (Int → LH → Nat), (K39 (0
    : Int) H17) ∧ ∀ x41 : Int, ∀ H42 : LH, (K39 x41 H42) → ((p13 = none) → (n14 = 0) ∧ (n15 = 0)) ∧ (((decide (x41 < (n14 : Int))) = true) → ∃ n43 n44 : Nat, (p8 = (some (Addr.mk n43 n44 none))) ∧ ((0 : Int) ≤ x41) ∧
    (x41 < (n9 : Int)) ∧ ∃ x45 : Int, (hAt H42 n43 (n44 + ((Int.toNat x41) * 3)) (Value.int .i64 x45)) ∧ ∃ x46 : Int, (hAt H42 n43 ((n44 + ((Int.toNat x41) * 3)) + 1) (Value.int .i64 x46)) ∧ ∃ x47 : Int, (hAt H42 n43
    (((n44 + ((Int.toNat x41) * 3)) + 1) + 1) (Value.int .i64 x47)) ∧ ∀ H48 : LH, (H48 = (LH.keep H42 27)) → ∃ n49 n50 : Nat, (p13 = (some (Addr.mk n49 n50 none))) ∧ ((0 : Int) ≤ x41) ∧ (x41 < (n14 : Int)) ∧ ∃ x51 : Int,
    (hAt H48 n49 ((n50 + ((Int.toNat x41) * 3)) + 0) (Value.int .i64 x51)) ∧ (((Bool.not (decide (x45 = x51))) = true) → (R (Value.bool false) H48)) ∧ (((Bool.not (decide (x45 = x51))) = false) → (((decide (x46 < (0 :
    Int))) = true) → (R (Value.bool false) H48)) ∧ (((decide (x46 < (0 : Int))) = false) → (((decide (x47 < x46)) = true) → (R (Value.bool false) H48)) ∧ (((decide (x47 < x46)) = false) → (((decide (a0_1 ≤ x47)) = true)
    → (R (Value.bool false) H48)) ∧ (((decide (a0_1 ≤ x47)) = false) → (K39 (IntKind.wrap .i64 (x41 + (1 : Int))) H48) ∧ ((K40 (IntKind.wrap .i64 (x41 + (1 : Int))) H48) < (K40 x41 H42))))))) ∧ (((decide (x41 < (n14 :
    Int))) = false) → ∀ H52 : LH, (H52 = (LH.new H42 (LObj.cells [(Value.int .i64 (IntKind.wrap .i64 (a2 + (1 : Int))))] 1 false))) → ∃ n53 n54 : Nat, (a0_0p = (some (Addr.mk n53 n54 none))) ∧ ((0 : Int) ≤ (IntKind.wrap
    .i64 ((IntKind.wrap .i64 (x3 + x4)) - (1 : Int)))) ∧ ((IntKind.wrap .i64 ((IntKind.wrap .i64 (x3 + x4)) - (1 : Int))) < (a0_0n : Int)) ∧ ∃ x55 : Int, (hAt H52 n53 (n54 + ((Int.toNat (IntKind.wrap .i64 ((IntKind.wrap
    .i64 (x3 + x4)) - (1 : Int)))) * 6)) (Value.int .i64 x55)) ∧ ∃ x56 : Int, (hAt H52 n53 ((n54 + ((Int.toNat (IntKind.wrap .i64 ((IntKind.wrap .i64 (x3 + x4)) - (1 : Int)))) * 6)) + 1) (Value.int .i64 x56)) ∧ ∃ x57 :
    Int, (hAt H52 n53 (((n54 + ((Int.toNat (IntKind.wrap .i64 ((IntKind.wrap .i64 (x3 + x4)) - (1 : Int)))) * 6)) + 1) + 1) (Value.int .i64 x57)) ∧ ∃ x58 : Int, (hAt H52 n53 ((((n54 + ((Int.toNat (IntKind.wrap .i64
    ((IntKind.wrap .i64 (x3 + x4)) - (1 : Int)))) * 6)) + 1) + 1) + 1) (Value.int .i64 x58)) ∧ ∃ x59 : Int, (hAt H52 n53 (((((n54 + ((Int.toNat (IntKind.wrap .i64 ((IntKind.wrap .i64 (x3 + x4)) - (1 : Int)))) * 6)) + 1)
    + 1) + 1) + 1) (Value.int .i64 x59)) ∧ ∃ x60 : Int, (hAt H52 n53 ((((((n54 + ((Int.toNat (IntKind.wrap .i64 ((IntKind.wrap .i64 (x3 + x4)) - (1 : Int)))) * 6)) + 1) + 1) + 1) + 1) + 1) (Value.int .i64 x60)) ∧ ∀ K61 :
    ((Option Addr) → Nat → Nat → LH → Prop), (∀ p62 : (Option Addr), ∀ n63 : Nat, ∀ n64 : Nat, ∀ H65 : LH, (XCall prog f_ref01_SameInts [(Value.slice p5 n6 n7), (Value.slice p62 n63 n64)] H65 (fun (v66 : Value) (H67 :
    LH) => ∃ b68 : Bool, (v66 = (Value.bool b68)) ∧ ((b68 = true) → ((a1_1p = none) → (a1_1n = 0) ∧ (a1_1c = 0)) ∧ (XCall prog f_ref20_all [(Value.slice p62 n63 n64), (Value.int .i64 (a1_1n : Int))] H67 (fun (v69 :
    Value) (H70 : LH) => ∃ b71 : Bool, (v69 = (Value.bool b71)) ∧ (R (Value.bool b71) H70)))) ∧ ((b68 = false) → (R (Value.bool false) H67)))) → (K61 p62 n63 n64 H65)) → (((decide (x55 = (10 : Int))) = true) → (K61 none
    0 0 H52)) ∧ (((decide (x55 = (10 : Int))) = false) → (((decide (x55 = (6 : Int))) = true) → (XCall prog f_ref20_at [(Value.agg #[(Value.string a1_0), (Value.slice a1_1p a1_1n a1_1c), (Value.slice a1_2p a1_2n a1_2c),
    (Value.slice a1_3p a1_3n a1_3c), (Value.slice a1_4p a1_4n a1_4c), (Value.slice a1_5p a1_5n a1_5c), (Value.slice a1_6p a1_6n a1_6c), (Value.slice a1_7p a1_7n a1_7c), (Value.slice a1_8p a1_8n a1_8c), (Value.slice a1_9p
    a1_9n a1_9c)]), (Value.int .i64 x60)] H52 (fun (v73 : Value) (H74 : LH) => ∃ x75 : Int, (v73 = (Value.int .i64 x75)) ∧ ∀ H76 : LH, (H76 = (LH.new H74 (LObj.cells [(Value.int .i64 x75)] 1 false))) → (K61 (some
    (Addr.mk (LH.next H74) 0 none)) 1 1 H76)))) ∧ (((decide (x55 = (6 : Int))) = false) → (((decide (x55 = (7 : Int))) = true) → (XCall prog f_ref20_at [(Value.agg #[(Value.string a1_0), (Value.slice a1_1p a1_1n a1_1c),
    (Value.slice a1_2p a1_2n a1_2c), (Value.slice a1_3p a1_3n a1_3c), (Value.slice a1_4p a1_4n a1_4c), (Value.slice a1_5p a1_5n a1_5c), (Value.slice a1_6p a1_6n a1_6c), (Value.slice a1_7p a1_7n a1_7c), (Value.slice a1_8p
    a1_8n a1_8c), (Value.slice a1_9p a1_9n a1_9c)]), (Value.int .i64 x60)] H52 (fun (v77 : Value) (H78 : LH) => ∃ x79 : Int, (v77 = (Value.int .i64 x79)) ∧ ∀ H80 : LH, (H80 = (LH.new H78 (LObj.cells [(Value.int .i64
    x79)] 1 false))) → ∃ p81 : (Option Addr), ∃ n82 n83 : Nat, ∃ H84 : LH, ((appV H80 none 1 8 (Value.slice (some (Addr.mk (LH.next H42) 0 none)) 1 1) (Value.slice (some (Addr.mk (LH.next H78) 0 none)) 1 1)) = (some
    ((Value.slice p81 n82 n83), H84))) ∧ (K61 p81 n82 n83 H84)))) ∧ (((decide (x55 = (7 : Int))) = false) → (K61 (some (Addr.mk (LH.next H42) 0 none)) 1 1 H52)))))))

theorem F_ref20_node_call {R : Value → LH → Prop} {H : LH} (a0_0p : Option Addr) (a0_0n a0_0c : Nat) (a0_1 : Int) (a0_2p : Option Addr) (a0_2n a0_2c : Nat) (a0_3p : Option Addr) (a0_3n a0_3c : Nat) (a1_0 : ByteArray) (a1_1p : Option Addr) (a1_1n a1_1c : Nat) (a1_2p : Option Addr) (a1_2n a1_2c : Nat) (a1_3p : Option Addr) (a1_3n a1_3c : Nat) (a1_4p : Option Addr) (a1_4n a1_4c : Nat) (a1_5p : Option Addr) (a1_5n a1_5c : Nat) (a1_6p : Option Addr) (a1_6n a1_6c : Nat) (a1_7p : Option Addr) (a1_7n a1_7c : Nat) (a1_8p : Option Addr) (a1_8n a1_8c : Nat) (a1_9p : Option Addr) (a1_9n a1_9c : Nat) (a2 : Int) (h : F_ref20_node a0_0p a0_0n a0_0c a0_1 a0_2p a0_2n a0_2c a0_3p a0_3n a0_3c a1_0 a1_1p a1_1n a1_1c a1_2p a1_2n a1_2c a1_3p a1_3n a1_3c a1_4p a1_4n a1_4c a1_5p a1_5n a1_5c a1_6p a1_6n a1_6c a1_7p a1_7n a1_7c a1_8p a1_8n a1_8c a1_9p a1_9n a1_9c a2 R H) : Call prog f_ref20_node [.agg #[.slice a0_0p a0_0n a0_0c, .int .i64 a0_1, .slice a0_2p a0_2n a0_2c, .slice a0_3p a0_3n a0_3c], .agg #[.string a1_0, .slice a1_1p a1_1n a1_1c, .slice a1_2p a1_2n a1_2c, .slice a1_3p a1_3n a1_3c, .slice a1_4p a1_4n a1_4c, .slice a1_5p a1_5n a1_5c, .slice a1_6p a1_6n a1_6c, .slice a1_7p a1_7n a1_7c, .slice a1_8p a1_8n a1_8c, .slice a1_9p a1_9n a1_9c], .int .i64 a2] H R := by
  have e : F_ref20_node a0_0p a0_0n a0_0c a0_1 a0_2p a0_2n a0_2c a0_3p a0_3n a0_3c a1_0 a1_1p a1_1n a1_1c a1_2p a1_2n a1_2c a1_3p a1_3n a1_3c a1_4p a1_4n a1_4c a1_5p a1_5n a1_5c a1_6p a1_6n a1_6c a1_7p a1_7n a1_7c a1_8p a1_8n a1_8c a1_9p a1_9n a1_9c a2 R H = zfun prog f_ref20_node [3, 4, 7, 10, 13, 15]
    (.seq none .u (.seq none .u (.seq none .u (.seq none (.seq none .u (.block (.loop ⟨[(8, .one .sl), (9, .one (.int .i64))], [2, 3, 4, 7]⟩ (.seq none (.seq none .u (.cond .u .u)) (.seq none (.block (.seq none .u (.seq none .u (.seq none .u (.block (.seq (some ⟨[(47, .one .bool)], [2, 3, 4, 7, 8, 9, 11, 46]⟩) (.seq none .u (.cond .u .u)) (.cond .u (.seq (some ⟨[(55, .one .bool)], [2, 3, 4, 7, 8, 9, 11]⟩) (.seq none .u (.cond .u (.seq none .u (.cond .u .u)))) (.cond (.seq none .u (.cond (.seq none .u .u) .u)) .u))))))))) .u))))) (.seq none (.seq none .u (.cond (.seq none .u .u) .u)) (.seq none (.seq none .u (.block (.loop ⟨[(12, .one (.int .i64))], [2, 3, 4, 7, 8]⟩ (.seq none (.seq none .u (.cond .u .u)) (.seq none (.block (.seq none .u (.seq none (.draw [⟨0, [], []⟩, ⟨1, [], []⟩, ⟨2, [], []⟩, ⟨3, [], []⟩, ⟨4, [], []⟩, ⟨5, [], []⟩, ⟨6, [], []⟩, ⟨7, [], []⟩, ⟨8, [], []⟩, ⟨9, [], []⟩, ⟨10, [], []⟩, ⟨11, [], []⟩, ⟨12, [], []⟩, ⟨13, [], []⟩, ⟨14, [], []⟩, ⟨15, [], []⟩, ⟨16, [], []⟩, ⟨17, [], []⟩, ⟨18, [], []⟩, ⟨19, [], []⟩, ⟨20, [], []⟩, ⟨21, [], []⟩, ⟨22, [], []⟩, ⟨23, [], []⟩, ⟨24, [], []⟩, ⟨25, [], []⟩, ⟨26, [], []⟩]) (.cond (.seq none .u .u) .u)))) .u))))) (.seq none .u (.seq none .u (.seq (some ⟨[(14, .one .sl)], [4, 7]⟩) (.seq none .u (.block (.seq none .u (.cond .u (.seq none .u (.cond .u (.seq none .u (.cond .u .u)))))))) (.seq none .u .u))))))))))
    [.agg #[.slice a0_0p a0_0n a0_0c, .int .i64 a0_1, .slice a0_2p a0_2n a0_2c, .slice a0_3p a0_3n a0_3c], .agg #[.string a1_0, .slice a1_1p a1_1n a1_1c, .slice a1_2p a1_2n a1_2c, .slice a1_3p a1_3n a1_3c, .slice a1_4p a1_4n a1_4c, .slice a1_5p a1_5n a1_5c, .slice a1_6p a1_6n a1_6c, .slice a1_7p a1_7n a1_7c, .slice a1_8p a1_8n a1_8c, .slice a1_9p a1_9n a1_9c], .int .i64 a2] R H := by kernel_rfl
  rw [e] at h
  exact call_of_zfun mixed h

/-- timebound/timeboundref20.unit -/
def F_ref20_unit (a0_0 : ByteArray) (a0_1p : Option Addr) (a0_1n a0_1c : Nat) (a0_2p : Option Addr) (a0_2n a0_2c : Nat) (a0_3p : Option Addr) (a0_3n a0_3c : Nat) (a0_4p : Option Addr) (a0_4n a0_4c : Nat) (a0_5p : Option Addr) (a0_5n a0_5c : Nat) (a0_6p : Option Addr) (a0_6n a0_6c : Nat) (a0_7p : Option Addr) (a0_7n a0_7c : Nat) (a0_8p : Option Addr) (a0_8n a0_8c : Nat) (a0_9p : Option Addr) (a0_9n a0_9c : Nat) (R : Value → LH → Prop) (H : LH) : Prop :=
  ((a0_1p = none) → (a0_1n = 0) ∧ (a0_1c = 0)) ∧ ∃ K1 : (Int → LH → Prop), ∃ K2 : (Int → LH → Nat), (K1 (0 : Int) H) ∧ ∀ x3 : Int, ∀ H4 : LH, (K1 x3 H4) → ((a0_2p = none) → (a0_2n = 0) ∧ (a0_2c = 0)) ∧ (((decide (x3 <
    (a0_2n : Int))) = true) → ∃ n5 n6 : Nat, (a0_2p = (some (Addr.mk n5 n6 none))) ∧ ((0 : Int) ≤ x3) ∧ (x3 < (a0_2n : Int)) ∧ ∃ x7 : Int, (hAt H4 n5 (n6 + ((Int.toNat x3) * 5)) (Value.int .i64 x7)) ∧ ∃ x8 : Int, (hAt H4
    n5 ((n6 + ((Int.toNat x3) * 5)) + 1) (Value.int .i64 x8)) ∧ ∃ p9 : (Option Addr), ∃ n10 n11 : Nat, (hAt H4 n5 (((n6 + ((Int.toNat x3) * 5)) + 1) + 1) (Value.slice p9 n10 n11)) ∧ ∃ x12 : Int, (hAt H4 n5 ((((n6 +
    ((Int.toNat x3) * 5)) + 1) + 1) + 1) (Value.int .i64 x12)) ∧ ∃ x13 : Int, (hAt H4 n5 (((((n6 + ((Int.toNat x3) * 5)) + 1) + 1) + 1) + 1) (Value.int .i64 x13)) ∧ (XCall prog f_ref20_in [(Value.int .i64 x7), (Value.int
    .i64 (a0_1n : Int))] H4 (fun (v14 : Value) (H15 : LH) => ∃ b16 : Bool, (v14 = (Value.bool b16)) ∧ (((Bool.not b16) = true) → (R (Value.bool false) H15)) ∧ (((Bool.not b16) = false) → (XCall prog f_ref20_in
    [(Value.int .i64 x8), (Value.int .i64 (a0_1n : Int))] H15 (fun (v17 : Value) (H18 : LH) => ∃ b19 : Bool, (v17 = (Value.bool b19)) ∧ (((Bool.not b19) = true) → (R (Value.bool false) H18)) ∧ (((Bool.not b19) = false) →
    (XCall prog f_ref20_all [(Value.slice p9 n10 n11), (Value.int .i64 (a0_1n : Int))] H18 (fun (v20 : Value) (H21 : LH) => ∃ b22 : Bool, (v20 = (Value.bool b22)) ∧ (((Bool.not b22) = true) → (R (Value.bool false) H21))
    ∧ (((Bool.not b22) = false) → (((decide (x12 < (-(1 : Int)))) = true) → (R (Value.bool false) H21)) ∧ (((decide (x12 < (-(1 : Int)))) = false) → ((a0_2p = none) → (a0_2n = 0) ∧ (a0_2c = 0)) ∧ (((decide ((a0_2n : Int)
    ≤ x12)) = true) → (R (Value.bool false) H21)) ∧ (((decide ((a0_2n : Int) ≤ x12)) = false) → (K1 (IntKind.wrap .i64 (x3 + (1 : Int))) H21) ∧ ((K2 (IntKind.wrap .i64 (x3 + (1 : Int))) H21) < (K2 x3 H4)))))))))))))) ∧
    (((decide (x3 < (a0_2n : Int))) = false) → ∃ K23 : (Int → LH → Prop), ∃ K24 : (Int → LH → Nat), (K23 (0 : Int) H4) ∧ ∀ x25 : Int, ∀ H26 : LH, (K23 x25 H26) → ((a0_3p = none) → (a0_3n = 0) ∧ (a0_3c = 0)) ∧ (((decide
    (x25 < (a0_3n : Int))) = true) → ∃ n27 n28 : Nat, (a0_3p = (some (Addr.mk n27 n28 none))) ∧ ((0 : Int) ≤ x25) ∧ (x25 < (a0_3n : Int)) ∧ ∃ p29 : (Option Addr), ∃ n30 n31 : Nat, (hAt H26 n27 ((n28 + ((Int.toNat x25) *
    2)) + 1) (Value.slice p29 n30 n31)) ∧ (XCall prog f_ref20_all [(Value.slice p29 n30 n31), (Value.int .i64 (a0_1n : Int))] H26 (fun (v32 : Value) (H33 : LH) => ∃ b34 : Bool, (v32 = (Value.bool b34)) ∧ (((Bool.not b34)
    = true) → (R (Value.bool false) H33)) ∧ (((Bool.not b34) = false) → (K23 (IntKind.wrap .i64 (x25 + (1 : Int))) H33) ∧ ((K24 (IntKind.wrap .i64 (x25 + (1 : Int))) H33) < (K24 x25 H26)))))) ∧ (((decide (x25 < (a0_3n :
    Int))) = false) → ∃ K35 : (Int → LH → Prop), ∃ K36 : (Int → LH → Nat), (K35 (0 : Int) H26) ∧ ∀ x37 : Int, ∀ H38 : LH, (K35 x37 H38) → ((a0_4p = none) → (a0_4n = 0) ∧ (a0_4c = 0)) ∧ (((decide (x37 < (a0_4n : Int))) =
    true) → ∃ n39 n40 : Nat, (a0_4p = (some (Addr.mk n39 n40 none))) ∧ ((0 : Int) ≤ x37) ∧ (x37 < (a0_4n : Int)) ∧ ∃ p41 : (Option Addr), ∃ n42 n43 : Nat, (hAt H38 n39 (n40 + ((Int.toNat x37) * 1)) (Value.slice p41 n42
    n43)) ∧ (XCall prog f_ref20_all [(Value.slice p41 n42 n43), (Value.int .i64 (a0_1n : Int))] H38 (fun (v44 : Value) (H45 : LH) => ∃ b46 : Bool, (v44 = (Value.bool b46)) ∧ (((Bool.not b46) = true) → (R (Value.bool
    false) H45)) ∧ (((Bool.not b46) = false) → (K35 (IntKind.wrap .i64 (x37 + (1 : Int))) H45) ∧ ((K36 (IntKind.wrap .i64 (x37 + (1 : Int))) H45) < (K36 x37 H38)))))) ∧ (((decide (x37 < (a0_4n : Int))) = false) → ((a0_5p
    = none) → (a0_5n = 0) ∧ (a0_5c = 0)) ∧ (((decide ((64 : Int) < (a0_5n : Int))) = true) → (R (Value.bool false) H38)) ∧ (((decide ((64 : Int) < (a0_5n : Int))) = false) → ∃ K47 : (Int → LH → Prop), ∃ K48 : (Int → LH →
    Nat), (K47 (0 : Int) H38) ∧ ∀ x49 : Int, ∀ H50 : LH, (K47 x49 H50) → ((a0_5p = none) → (a0_5n = 0) ∧ (a0_5c = 0)) ∧ (((decide (x49 < (a0_5n : Int))) = true) → ∃ n51 n52 : Nat, (a0_5p = (some (Addr.mk n51 n52 none)))
    ∧ ((0 : Int) ≤ x49) ∧ (x49 < (a0_5n : Int)) ∧ ∃ p53 : (Option Addr), ∃ n54 n55 : Nat, (hAt H50 n51 (n52 + ((Int.toNat x49) * 2)) (Value.slice p53 n54 n55)) ∧ ∃ x56 : Int, (hAt H50 n51 ((n52 + ((Int.toNat x49) * 2)) +
    1) (Value.int .i64 x56)) ∧ (XCall prog f_ref11_Check [(Value.agg #[(Value.slice p53 n54 n55), (Value.int .i64 x56)])] H50 (fun (v57 : Value) (H58 : LH) => ∃ x59 : Int, (v57 = (Value.int .i64 x59)) ∧ (((Bool.not
    (decide (x59 = (0 : Int)))) = true) → (R (Value.bool false) H58)) ∧ (((Bool.not (decide (x59 = (0 : Int)))) = false) → ∃ K60 : (Int → LH → Prop), ∃ K61 : (Int → LH → Nat), (K60 (0 : Int) H58) ∧ ∀ x62 : Int, ∀ H63 :
    LH, (K60 x62 H63) → ∃ n64 n65 : Nat, (a0_5p = (some (Addr.mk n64 n65 none))) ∧ ((0 : Int) ≤ x49) ∧ (x49 < (a0_5n : Int)) ∧ ∃ p66 : (Option Addr), ∃ n67 n68 : Nat, (hAt H63 n64 ((n65 + ((Int.toNat x49) * 2)) + 0)
    (Value.slice p66 n67 n68)) ∧ ((p66 = none) → (n67 = 0) ∧ (n68 = 0)) ∧ (((decide (x62 < (n67 : Int))) = true) → ∃ n69 n70 : Nat, (a0_5p = (some (Addr.mk n69 n70 none))) ∧ ((0 : Int) ≤ x49) ∧ (x49 < (a0_5n : Int)) ∧ ∃
    p71 : (Option Addr), ∃ n72 n73 : Nat, (hAt H63 n69 ((n70 + ((Int.toNat x49) * 2)) + 0) (Value.slice p71 n72 n73)) ∧ ∃ n74 n75 : Nat, (p71 = (some (Addr.mk n74 n75 none))) ∧ ((0 : Int) ≤ x62) ∧ (x62 < (n72 : Int)) ∧ ∃
    x76 : Int, (hAt H63 n74 ((n75 + ((Int.toNat x62) * 2)) + 0) (Value.int .i64 x76)) ∧ (((decide ((a0_1n : Int) ≤ x76)) = true) → (R (Value.bool false) H63)) ∧ (((decide ((a0_1n : Int) ≤ x76)) = false) → (K60
    (IntKind.wrap .i64 (x62 + (1 : Int))) H63) ∧ ((K61 (IntKind.wrap .i64 (x62 + (1 : Int))) H63) < (K61 x62 H63)))) ∧ (((decide (x62 < (n67 : Int))) = false) → (K47 (IntKind.wrap .i64 (x49 + (1 : Int))) H63) ∧ ((K48
    (IntKind.wrap .i64 (x49 + (1 : Int))) H63) < (K48 x49 H50))))))) ∧ (((decide (x49 < (a0_5n : Int))) = false) → (R (Value.bool true) H50))))))

theorem F_ref20_unit_call {R : Value → LH → Prop} {H : LH} (a0_0 : ByteArray) (a0_1p : Option Addr) (a0_1n a0_1c : Nat) (a0_2p : Option Addr) (a0_2n a0_2c : Nat) (a0_3p : Option Addr) (a0_3n a0_3c : Nat) (a0_4p : Option Addr) (a0_4n a0_4c : Nat) (a0_5p : Option Addr) (a0_5n a0_5c : Nat) (a0_6p : Option Addr) (a0_6n a0_6c : Nat) (a0_7p : Option Addr) (a0_7n a0_7c : Nat) (a0_8p : Option Addr) (a0_8n a0_8c : Nat) (a0_9p : Option Addr) (a0_9n a0_9c : Nat) (h : F_ref20_unit a0_0 a0_1p a0_1n a0_1c a0_2p a0_2n a0_2c a0_3p a0_3n a0_3c a0_4p a0_4n a0_4c a0_5p a0_5n a0_5c a0_6p a0_6n a0_6c a0_7p a0_7n a0_7c a0_8p a0_8n a0_8c a0_9p a0_9n a0_9c R H) : Call prog f_ref20_unit [.agg #[.string a0_0, .slice a0_1p a0_1n a0_1c, .slice a0_2p a0_2n a0_2c, .slice a0_3p a0_3n a0_3c, .slice a0_4p a0_4n a0_4c, .slice a0_5p a0_5n a0_5c, .slice a0_6p a0_6n a0_6c, .slice a0_7p a0_7n a0_7c, .slice a0_8p a0_8n a0_8c, .slice a0_9p a0_9n a0_9c]] H R := by
  have e : F_ref20_unit a0_0 a0_1p a0_1n a0_1c a0_2p a0_2n a0_2c a0_3p a0_3n a0_3c a0_4p a0_4n a0_4c a0_5p a0_5n a0_5c a0_6p a0_6n a0_6c a0_7p a0_7n a0_7c a0_8p a0_8n a0_8c a0_9p a0_9n a0_9c R H = zfun prog f_ref20_unit [1, 5]
    (.seq none .u (.seq none .u (.seq none (.seq none .u (.block (.loop ⟨[(4, .one (.int .i64))], [1, 3]⟩ (.seq none (.seq none .u (.cond .u .u)) (.seq none (.block (.seq none .u (.seq none .u (.cond (.seq none .u .u) .u)))) .u))))) (.seq none (.seq none .u (.block (.loop ⟨[(6, .one (.int .i64))], [1, 3]⟩ (.seq none (.seq none .u (.cond .u .u)) (.seq none (.block (.seq none .u (.cond (.seq none .u .u) .u))) .u))))) (.seq none (.seq none .u (.block (.loop ⟨[(7, .one (.int .i64))], [1, 3]⟩ (.seq none (.seq none .u (.cond .u .u)) (.seq none (.block (.seq none .u (.cond (.seq none .u .u) .u))) .u))))) (.seq none (.seq none .u (.cond (.seq none .u .u) .u)) (.seq none (.seq none .u (.block (.loop ⟨[(8, .one (.int .i64))], [1, 3]⟩ (.seq none (.seq none .u (.cond .u .u)) (.seq none (.block (.seq none (.seq none .u (.cond (.seq none .u .u) .u)) (.seq none .u (.block (.loop ⟨[(9, .one (.int .i64))], [1, 3, 8]⟩ (.seq none (.seq none .u (.cond .u .u)) (.seq none (.block (.seq none .u (.cond (.seq none .u .u) .u))) .u))))))) .u))))) (.seq none .u .u))))))))
    [.agg #[.string a0_0, .slice a0_1p a0_1n a0_1c, .slice a0_2p a0_2n a0_2c, .slice a0_3p a0_3n a0_3c, .slice a0_4p a0_4n a0_4c, .slice a0_5p a0_5n a0_5c, .slice a0_6p a0_6n a0_6c, .slice a0_7p a0_7n a0_7c, .slice a0_8p a0_8n a0_8c, .slice a0_9p a0_9n a0_9c]] R H := by kernel_rfl
  rw [e] at h
  exact call_of_zfun mixed h

end Go.Lg
