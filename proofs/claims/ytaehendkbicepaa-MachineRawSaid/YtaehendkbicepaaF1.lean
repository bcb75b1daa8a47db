/- What each function asks, part 1. No condition. -/
import Derived.Test.YtaehendkbicepaaFN
set_option linter.unusedVariables false
set_option maxRecDepth 100000
namespace Go.Lg
open Go
/-- timebound/timeboundref21.Same -/
def F_ref21_Same (a0_0p : Option Addr) (a0_0n a0_0c : Nat) (a0_1p : Option Addr) (a0_1n a0_1c : Nat) (a0_2p : Option Addr) (a0_2n a0_2c : Nat) (a0_3 : Int) (a0_4 : Bool) (a1_0p : Option Addr) (a1_0n a1_0c : Nat) (a1_1p : Option Addr) (a1_1n a1_1c : Nat) (a1_2p : Option Addr) (a1_2n a1_2c : Nat) (a1_3 : Int) (a1_4 : Bool) (R : Value → LH → Prop) (H : LH) : Prop :=
  (((Bool.not (decide (a0_3 = a1_3))) = true) → (R (Value.bool false) H)) ∧ (((Bool.not (decide (a0_3 = a1_3))) = false) → (((Bool.not (a0_4 == a1_4)) = true) → (R (Value.bool false) H)) ∧ (((Bool.not (a0_4 == a1_4)) =
    false) → ((a0_2p = none) → (a0_2n = 0) ∧ (a0_2c = 0)) ∧ ((a1_2p = none) → (a1_2n = 0) ∧ (a1_2c = 0)) ∧ (((Bool.not (decide ((a0_2n : Int) = (a1_2n : Int)))) = true) → (R (Value.bool false) H)) ∧ (((Bool.not (decide
    ((a0_2n : Int) = (a1_2n : Int)))) = false) → (XCall prog f_ref01_SameInts [(Value.slice a0_0p a0_0n a0_0c), (Value.slice a1_0p a1_0n a1_0c)] H (fun (v1 : Value) (H2 : LH) => ∃ b3 : Bool, (v1 = (Value.bool b3)) ∧
    (((Bool.not b3) = true) → (R (Value.bool false) H2)) ∧ (((Bool.not b3) = false) → (XCall prog f_ref01_SameInts [(Value.slice a0_1p a0_1n a0_1c), (Value.slice a1_1p a1_1n a1_1c)] H2 (fun (v4 : Value) (H5 : LH) => ∃ b6
    : Bool, (v4 = (Value.bool b6)) ∧ (((Bool.not b6) = true) → (R (Value.bool false) H5)) ∧ (((Bool.not b6) = false) → ∃ K7 : (Int → LH → Prop), ∃ K8 : (Int → LH → Nat), (K7 (0 : Int) H5) ∧ ∀ x9 : Int, ∀ H10 : LH, (K7 x9
    H10) → ((a0_2p = none) → (a0_2n = 0) ∧ (a0_2c = 0)) ∧ (((decide (x9 < (a0_2n : Int))) = true) → ∀ H11 : LH, (H11 = (LH.keep H10 11)) → ∃ n12 n13 : Nat, (a0_2p = (some (Addr.mk n12 n13 none))) ∧ ((0 : Int) ≤ x9) ∧ (x9
    < (a0_2n : Int)) ∧ ∃ b14 : Bool, (hAt H11 n12 (n13 + ((Int.toNat x9) * 1)) (Value.bool b14)) ∧ ∃ n15 n16 : Nat, (a1_2p = (some (Addr.mk n15 n16 none))) ∧ ((0 : Int) ≤ x9) ∧ (x9 < (a1_2n : Int)) ∧ ∃ b17 : Bool, (hAt
    H11 n15 (n16 + ((Int.toNat x9) * 1)) (Value.bool b17)) ∧ (((Bool.not (b14 == b17)) = true) → (R (Value.bool false) H11)) ∧ (((Bool.not (b14 == b17)) = false) → (K7 (IntKind.wrap .i64 (x9 + (1 : Int))) H11) ∧ ((K8
    (IntKind.wrap .i64 (x9 + (1 : Int))) H11) < (K8 x9 H10)))) ∧ (((decide (x9 < (a0_2n : Int))) = false) → (R (Value.bool true) H10)))))))))))

theorem F_ref21_Same_call {R : Value → LH → Prop} {H : LH} (a0_0p : Option Addr) (a0_0n a0_0c : Nat) (a0_1p : Option Addr) (a0_1n a0_1c : Nat) (a0_2p : Option Addr) (a0_2n a0_2c : Nat) (a0_3 : Int) (a0_4 : Bool) (a1_0p : Option Addr) (a1_0n a1_0c : Nat) (a1_1p : Option Addr) (a1_1n a1_1c : Nat) (a1_2p : Option Addr) (a1_2n a1_2c : Nat) (a1_3 : Int) (a1_4 : Bool) (h : F_ref21_Same a0_0p a0_0n a0_0c a0_1p a0_1n a0_1c a0_2p a0_2n a0_2c a0_3 a0_4 a1_0p a1_0n a1_0c a1_1p a1_1n a1_1c a1_2p a1_2n a1_2c a1_3 a1_4 R H) : Call prog f_ref21_Same [.agg #[.slice a0_0p a0_0n a0_0c, .slice a0_1p a0_1n a0_1c, .slice a0_2p a0_2n a0_2c, .int .i64 a0_3, .bool a0_4], .agg #[.slice a1_0p a1_0n a1_0c, .slice a1_1p a1_1n a1_1c, .slice a1_2p a1_2n a1_2c, .int .i64 a1_3, .bool a1_4]] H R := by
  have e : F_ref21_Same a0_0p a0_0n a0_0c a0_1p a0_1n a0_1c a0_2p a0_2n a0_2c a0_3 a0_4 a1_0p a1_0n a1_0c a1_1p a1_1n a1_1c a1_2p a1_2n a1_2c a1_3 a1_4 R H = zfun prog f_ref21_Same [2, 3]
    (.seq none .u (.seq none (.seq none .u (.cond (.seq none .u .u) .u)) (.seq none (.seq none .u (.block (.loop ⟨[(5, .one (.int .i64))], [2, 3]⟩ (.seq none (.seq none .u (.cond .u .u)) (.seq none (.block (.seq none (.draw [⟨0, [], []⟩, ⟨1, [], []⟩, ⟨2, [], []⟩, ⟨3, [], []⟩, ⟨4, [], []⟩, ⟨5, [], []⟩, ⟨6, [], []⟩, ⟨7, [], []⟩, ⟨8, [], []⟩, ⟨9, [], []⟩, ⟨10, [], []⟩]) (.cond (.seq none .u .u) .u))) .u))))) (.seq none .u .u))))
    [.agg #[.slice a0_0p a0_0n a0_0c, .slice a0_1p a0_1n a0_1c, .slice a0_2p a0_2n a0_2c, .int .i64 a0_3, .bool a0_4], .agg #[.slice a1_0p a1_0n a1_0c, .slice a1_1p a1_1n a1_1c, .slice a1_2p a1_2n a1_2c, .int .i64 a1_3, .bool a1_4]] R H := by kernel_rfl
  rw [e] at h
  exact call_of_zfun mixed h

/-- timebound/machine.Valid -/
def F_machine_Valid (a0_0p : Option Addr) (a0_0n a0_0c : Nat) (a0_1 : Int) (a0_2p : Option Addr) (a0_2n a0_2c : Nat) (a0_3p : Option Addr) (a0_3n a0_3c : Nat) (a1_0p : Option Addr) (a1_0n a1_0c : Nat) (a1_1p : Option Addr) (a1_1n a1_1c : Nat) (a1_2p : Option Addr) (a1_2n a1_2c : Nat) (a1_3 : Int) (a1_4 : Bool) (R : Value → LH → Prop) (H : LH) : Prop :=
  ((a1_0p = none) → (a1_0n = 0) ∧ (a1_0c = 0)) ∧ (((decide ((a1_0n : Int) = (8 : Int))) = true) → ∃ n1 n2 : Nat, (a1_0p = (some (Addr.mk n1 n2 none))) ∧ ((0 : Int) ≤ (0 : Int)) ∧ ((0 : Int) < (a1_0n : Int)) ∧ ∃ x3 : Int,
    (hAt H n1 (n2 + 0) (Value.int .i64 x3)) ∧ (((decide (x3 = (0 : Int))) = true) → (XCall prog f_slices_ContainsFunc_int_int [(Value.slice a1_0p a1_0n a1_0c), (Value.func (Fn.func f_machine_Valid_1) #[] #[])] H (fun (v4
    : Value) (H5 : LH) => ∃ b6 : Bool, (v4 = (Value.bool b6)) ∧ (((Bool.not b6) = true) → ((a1_1p = none) → (a1_1n = 0) ∧ (a1_1c = 0)) ∧ (((decide ((a1_1n : Int) = a0_1)) = true) → (XCall prog
    f_slices_ContainsFunc_int_int [(Value.slice a1_1p a1_1n a1_1c), (Value.func (Fn.func f_machine_Valid_1) #[] #[])] H5 (fun (v7 : Value) (H8 : LH) => ∃ b9 : Bool, (v7 = (Value.bool b9)) ∧ (((Bool.not b9) = true) →
    ((a1_2p = none) → (a1_2n = 0) ∧ (a1_2c = 0)) ∧ (((decide ((a1_2n : Int) = (4 : Int))) = true) → (((decide ((0 : Int) ≤ a1_3)) = true) → ((a0_0p = none) → (a0_0n = 0) ∧ (a0_0c = 0)) ∧ (R (Value.bool (decide (a1_3 <
    (a0_0n : Int)))) H8)) ∧ (((decide ((0 : Int) ≤ a1_3)) = false) → (R (Value.bool false) H8))) ∧ (((decide ((a1_2n : Int) = (4 : Int))) = false) → (R (Value.bool false) H8))) ∧ (((Bool.not b9) = false) → (R (Value.bool
    false) H8))))) ∧ (((decide ((a1_1n : Int) = a0_1)) = false) → (R (Value.bool false) H5))) ∧ (((Bool.not b6) = false) → (R (Value.bool false) H5))))) ∧ (((decide (x3 = (0 : Int))) = false) → (R (Value.bool false) H)))
    ∧ (((decide ((a1_0n : Int) = (8 : Int))) = false) → (R (Value.bool false) H))

theorem F_machine_Valid_call {R : Value → LH → Prop} {H : LH} (a0_0p : Option Addr) (a0_0n a0_0c : Nat) (a0_1 : Int) (a0_2p : Option Addr) (a0_2n a0_2c : Nat) (a0_3p : Option Addr) (a0_3n a0_3c : Nat) (a1_0p : Option Addr) (a1_0n a1_0c : Nat) (a1_1p : Option Addr) (a1_1n a1_1c : Nat) (a1_2p : Option Addr) (a1_2n a1_2c : Nat) (a1_3 : Int) (a1_4 : Bool) (h : F_machine_Valid a0_0p a0_0n a0_0c a0_1 a0_2p a0_2n a0_2c a0_3p a0_3n a0_3c a1_0p a1_0n a1_0c a1_1p a1_1n a1_1c a1_2p a1_2n a1_2c a1_3 a1_4 R H) : Call prog f_machine_Valid [.agg #[.slice a0_0p a0_0n a0_0c, .int .i64 a0_1, .slice a0_2p a0_2n a0_2c, .slice a0_3p a0_3n a0_3c], .agg #[.slice a1_0p a1_0n a1_0c, .slice a1_1p a1_1n a1_1c, .slice a1_2p a1_2n a1_2c, .int .i64 a1_3, .bool a1_4]] H R := by
  have e : F_machine_Valid a0_0p a0_0n a0_0c a0_1 a0_2p a0_2n a0_2c a0_3p a0_3n a0_3c a1_0p a1_0n a1_0c a1_1p a1_1n a1_1c a1_2p a1_2n a1_2c a1_3 a1_4 R H = zfun prog f_machine_Valid [2, 3]
    (.seq none .u (.seq none .u (.seq none .u .u)))
    [.agg #[.slice a0_0p a0_0n a0_0c, .int .i64 a0_1, .slice a0_2p a0_2n a0_2c, .slice a0_3p a0_3n a0_3c], .agg #[.slice a1_0p a1_0n a1_0c, .slice a1_1p a1_1n a1_1c, .slice a1_2p a1_2n a1_2c, .int .i64 a1_3, .bool a1_4]] R H := by kernel_rfl
  rw [e] at h
  exact call_of_zfun mixed h

/-- timebound/timeboundref21.Valid -/
def F_ref21_Valid (a0_0p : Option Addr) (a0_0n a0_0c : Nat) (a0_1 : Int) (a0_2p : Option Addr) (a0_2n a0_2c : Nat) (a0_3p : Option Addr) (a0_3n a0_3c : Nat) (a1_0p : Option Addr) (a1_0n a1_0c : Nat) (a1_1p : Option Addr) (a1_1n a1_1c : Nat) (a1_2p : Option Addr) (a1_2n a1_2c : Nat) (a1_3 : Int) (a1_4 : Bool) (R : Value → LH → Prop) (H : LH) : Prop :=
  ((a1_0p = none) → (a1_0n = 0) ∧ (a1_0c = 0)) ∧ (((decide ((a1_0n : Int) = (8 : Int))) = true) → (XCall prog f_ref21_words [(Value.slice a1_0p a1_0n a1_0c)] H (fun (v1 : Value) (H2 : LH) => ∃ b3 : Bool, (v1 = (Value.bool
    b3)) ∧ ((b3 = true) → ∃ n4 n5 : Nat, (a1_0p = (some (Addr.mk n4 n5 none))) ∧ ((0 : Int) ≤ (0 : Int)) ∧ ((0 : Int) < (a1_0n : Int)) ∧ ∃ x6 : Int, (hAt H2 n4 (n5 + 0) (Value.int .i64 x6)) ∧ (((decide (x6 = (0 : Int)))
    = true) → ((a1_1p = none) → (a1_1n = 0) ∧ (a1_1c = 0)) ∧ (((decide ((a1_1n : Int) = a0_1)) = true) → (XCall prog f_ref21_words [(Value.slice a1_1p a1_1n a1_1c)] H2 (fun (v7 : Value) (H8 : LH) => ∃ b9 : Bool, (v7 =
    (Value.bool b9)) ∧ ((b9 = true) → ((a1_2p = none) → (a1_2n = 0) ∧ (a1_2c = 0)) ∧ (((decide ((a1_2n : Int) = (4 : Int))) = true) → (((decide ((0 : Int) ≤ a1_3)) = true) → ((a0_0p = none) → (a0_0n = 0) ∧ (a0_0c = 0)) ∧
    (R (Value.bool (decide (a1_3 < (a0_0n : Int)))) H8)) ∧ (((decide ((0 : Int) ≤ a1_3)) = false) → (R (Value.bool false) H8))) ∧ (((decide ((a1_2n : Int) = (4 : Int))) = false) → (R (Value.bool false) H8))) ∧ ((b9 =
    false) → (R (Value.bool false) H8))))) ∧ (((decide ((a1_1n : Int) = a0_1)) = false) → (R (Value.bool false) H2))) ∧ (((decide (x6 = (0 : Int))) = false) → (R (Value.bool false) H2))) ∧ ((b3 = false) → (R (Value.bool
    false) H2))))) ∧ (((decide ((a1_0n : Int) = (8 : Int))) = false) → (R (Value.bool false) H))

theorem F_ref21_Valid_call {R : Value → LH → Prop} {H : LH} (a0_0p : Option Addr) (a0_0n a0_0c : Nat) (a0_1 : Int) (a0_2p : Option Addr) (a0_2n a0_2c : Nat) (a0_3p : Option Addr) (a0_3n a0_3c : Nat) (a1_0p : Option Addr) (a1_0n a1_0c : Nat) (a1_1p : Option Addr) (a1_1n a1_1c : Nat) (a1_2p : Option Addr) (a1_2n a1_2c : Nat) (a1_3 : Int) (a1_4 : Bool) (h : F_ref21_Valid a0_0p a0_0n a0_0c a0_1 a0_2p a0_2n a0_2c a0_3p a0_3n a0_3c a1_0p a1_0n a1_0c a1_1p a1_1n a1_1c a1_2p a1_2n a1_2c a1_3 a1_4 R H) : Call prog f_ref21_Valid [.agg #[.slice a0_0p a0_0n a0_0c, .int .i64 a0_1, .slice a0_2p a0_2n a0_2c, .slice a0_3p a0_3n a0_3c], .agg #[.slice a1_0p a1_0n a1_0c, .slice a1_1p a1_1n a1_1c, .slice a1_2p a1_2n a1_2c, .int .i64 a1_3, .bool a1_4]] H R := by
  have e : F_ref21_Valid a0_0p a0_0n a0_0c a0_1 a0_2p a0_2n a0_2c a0_3p a0_3n a0_3c a1_0p a1_0n a1_0c a1_1p a1_1n a1_1c a1_2p a1_2n a1_2c a1_3 a1_4 R H = zfun prog f_ref21_Valid [2, 3]
    (.seq none .u (.seq none .u .u))
    [.agg #[.slice a0_0p a0_0n a0_0c, .int .i64 a0_1, .slice a0_2p a0_2n a0_2c, .slice a0_3p a0_3n a0_3c], .agg #[.slice a1_0p a1_0n a1_0c, .slice a1_1p a1_1n a1_1c, .slice a1_2p a1_2n a1_2c, .int .i64 a1_3, .bool a1_4]] R H := by kernel_rfl
  rw [e] at h
  exact call_of_zfun mixed h

/-- timebound/machine.Run -/
def F_machine_Run (a0_0p : Option Addr) (a0_0n a0_0c : Nat) (a0_1 : Int) (a0_2p : Option Addr) (a0_2n a0_2c : Nat) (a0_3p : Option Addr) (a0_3n a0_3c : Nat) (a1 : Int) (a2p : Option Addr) (a2n a2c : Nat) (a3p : Option Addr) (a3n a3c : Nat) (a4 : Int) (R : Value → LH → Prop) (H : LH) : Prop :=
  (XCall prog f_machine_Begin [(Value.agg #[(Value.slice a0_0p a0_0n a0_0c), (Value.int .i64 a0_1), (Value.slice a0_2p a0_2n a0_2c), (Value.slice a0_3p a0_3n a0_3c)]), (Value.int .i64 a1), (Value.slice a2p a2n a2c),
    (Value.slice a3p a3n a3c)] H (fun (v1 : Value) (H2 : LH) => ∃ p3 : (Option Addr), ∃ n4 n5 : Nat, ∃ p6 : (Option Addr), ∃ n7 n8 : Nat, ∃ p9 : (Option Addr), ∃ n10 n11 : Nat, ∃ x12 : Int, ∃ b13 : Bool, ∃ x14 : Int, (v1
    = (Value.tuple #[(Value.agg #[(Value.slice p3 n4 n5), (Value.slice p6 n7 n8), (Value.slice p9 n10 n11), (Value.int .i64 x12), (Value.bool b13)]), (Value.int .i64 x14)])) ∧ ∀ H15 : LH, (H15 = (LH.new H2 (LObj.cells
    [(Value.slice none 0 0), (Value.slice none 0 0), (Value.slice none 0 0), (Value.int .i64 (0 : Int)), (Value.bool false)] 5 false))) → ∃ l16 : (List Value), ∃ n17 : Nat, ((LH.get H15 (LH.next H2)) = (some (LObj.cells
    l16 n17 false))) ∧ ((0 + 5) ≤ (List.length l16)) ∧ ∀ H18 : LH, (H18 = (LH.put H15 (LH.next H2) (some (LObj.cells (setMany l16 0 [(Value.slice p3 n4 n5), (Value.slice p6 n7 n8), (Value.slice p9 n10 n11), (Value.int
    .i64 x12), (Value.bool b13)]) n17 false)))) → (((Bool.not (decide (x14 = (0 : Int)))) = true) → (R (Value.tuple #[(Value.agg #[(Value.slice none 0 0), (Value.slice none 0 0), (Value.slice none 0 0), (Value.slice none
    0 0), (Value.int .i64 (0 : Int))]), (Value.slice none 0 0), (Value.int .i64 x14)]) H18)) ∧ (((Bool.not (decide (x14 = (0 : Int)))) = false) → (((decide (a4 < (0 : Int))) = true) → (R (Value.tuple #[(Value.agg
    #[(Value.slice none 0 0), (Value.slice none 0 0), (Value.slice none 0 0), (Value.slice none 0 0), (Value.int .i64 (0 : Int))]), (Value.slice none 0 0), (Value.int .i64 (3 : Int))]) H18)) ∧ (((decide (a4 < (0 : Int)))
    = false) → (((decide ((40000 : Int) < a4)) = true) → (R (Value.tuple #[(Value.agg #[(Value.slice none 0 0), (Value.slice none 0 0), (Value.slice none 0 0), (Value.slice none 0 0), (Value.int .i64 (0 : Int))]),
    (Value.slice none 0 0), (Value.int .i64 (3 : Int))]) H18)) ∧ (((decide ((40000 : Int) < a4)) = false) → ∃ n19 n20 : Nat, (a0_3p = (some (Addr.mk n19 n20 none))) ∧ ((0 : Int) ≤ a1) ∧ (a1 < (a0_3n : Int)) ∧ ∃ s21 :
    ByteArray, (hAt H18 n19 (n20 + ((Int.toNat a1) * 10)) (Value.string s21)) ∧ ∃ p22 : (Option Addr), ∃ n23 n24 : Nat, (hAt H18 n19 ((n20 + ((Int.toNat a1) * 10)) + 1) (Value.slice p22 n23 n24)) ∧ ∃ p25 : (Option Addr),
    ∃ n26 n27 : Nat, (hAt H18 n19 (((n20 + ((Int.toNat a1) * 10)) + 1) + 1) (Value.slice p25 n26 n27)) ∧ ∃ p28 : (Option Addr), ∃ n29 n30 : Nat, (hAt H18 n19 ((((n20 + ((Int.toNat a1) * 10)) + 1) + 1) + 1) (Value.slice
    p28 n29 n30)) ∧ ∃ p31 : (Option Addr), ∃ n32 n33 : Nat, (hAt H18 n19 (((((n20 + ((Int.toNat a1) * 10)) + 1) + 1) + 1) + 1) (Value.slice p31 n32 n33)) ∧ ∃ p34 : (Option Addr), ∃ n35 n36 : Nat, (hAt H18 n19 ((((((n20 +
    ((Int.toNat a1) * 10)) + 1) + 1) + 1) + 1) + 1) (Value.slice p34 n35 n36)) ∧ ∃ p37 : (Option Addr), ∃ n38 n39 : Nat, (hAt H18 n19 (((((((n20 + ((Int.toNat a1) * 10)) + 1) + 1) + 1) + 1) + 1) + 1) (Value.slice p37 n38
    n39)) ∧ ∃ p40 : (Option Addr), ∃ n41 n42 : Nat, (hAt H18 n19 ((((((((n20 + ((Int.toNat a1) * 10)) + 1) + 1) + 1) + 1) + 1) + 1) + 1) (Value.slice p40 n41 n42)) ∧ ∃ p43 : (Option Addr), ∃ n44 n45 : Nat, (hAt H18 n19
    (((((((((n20 + ((Int.toNat a1) * 10)) + 1) + 1) + 1) + 1) + 1) + 1) + 1) + 1) (Value.slice p43 n44 n45)) ∧ ∃ p46 : (Option Addr), ∃ n47 n48 : Nat, (hAt H18 n19 ((((((((((n20 + ((Int.toNat a1) * 10)) + 1) + 1) + 1) +
    1) + 1) + 1) + 1) + 1) + 1) (Value.slice p46 n47 n48)) ∧ ∀ H49 : LH, (H49 = (LH.new H18 (LObj.cells [(Value.slice none 0 0)] 1 false))) → (XCall prog f_machine_each [(Value.agg #[(Value.slice a0_0p a0_0n a0_0c),
    (Value.int .i64 a0_1), (Value.slice a0_2p a0_2n a0_2c), (Value.slice a0_3p a0_3n a0_3c)]), (Value.pointer (some (Addr.mk (LH.next H2) 0 none))), (Value.int .i64 a4), (Value.func (Fn.func f_machine_Run_1) #[]
    #[(Value.pointer (some (Addr.mk (LH.next H18) 0 none)))])] H49 (fun (v50 : Value) (H51 : LH) => ∃ x52 : Int, (v50 = (Value.int .i64 x52)) ∧ (((Bool.not (decide (x52 = (0 : Int)))) = true) → (R (Value.tuple
    #[(Value.agg #[(Value.slice none 0 0), (Value.slice none 0 0), (Value.slice none 0 0), (Value.slice none 0 0), (Value.int .i64 (0 : Int))]), (Value.slice none 0 0), (Value.int .i64 x52)]) H51)) ∧ (((Bool.not (decide
    (x52 = (0 : Int)))) = false) → ∀ H53 : LH, (H53 = (LH.keep H51 9)) → ((p22 = none) → (n23 = 0) ∧ (n24 = 0)) ∧ ∃ p54 : (Option Addr), ∃ n55 n56 : Nat, (hAt H53 (LH.next H18) 0 (Value.slice p54 n55 n56)) ∧ ((p54 =
    none) → (n55 = 0) ∧ (n56 = 0)) ∧ (((0 : Int) ≤ (n23 : Int)) ∧ ((n23 : Int) = (n23 : Int)) ∧ (((8 : Int) * (n23 : Int)) ≤ (281474976710656 : Int)) ∧ ((n23 : Int) ≤ (9223372036854775807 : Int))) ∧ ∀ H57 : LH, (H57 =
    (LH.put H53 ((LH.next H51) + 3) (some (LObj.cells (List.flatten (List.replicate (Int.toNat (n23 : Int)) [(Value.int .i64 (0 : Int))])) 1 false)))) → ∃ p58 : (Option Addr), ∃ n59 n60 : Nat, (hAt H57 (LH.next H18) 0
    (Value.slice p58 n59 n60)) ∧ (XCall prog f_machine_Nodes [(Value.agg #[(Value.string s21), (Value.slice p22 n23 n24), (Value.slice p25 n26 n27), (Value.slice p28 n29 n30), (Value.slice p31 n32 n33), (Value.slice p34
    n35 n36), (Value.slice p37 n38 n39), (Value.slice p40 n41 n42), (Value.slice p43 n44 n45), (Value.slice p46 n47 n48)]), (Value.slice p58 n59 n60)] H57 (fun (v61 : Value) (H62 : LH) => ∃ p63 : (Option Addr), ∃ n64 n65
    : Nat, (v61 = (Value.slice p63 n64 n65)) ∧ ((p63 = none) → (n64 = 0) ∧ (n65 = 0)) ∧ ∃ K66 : (Int → LH → Prop), ∃ K67 : (Int → LH → Nat), (K66 (0 : Int) H62) ∧ ∀ x68 : Int, ∀ H69 : LH, (K66 x68 H69) → (((decide (x68 <
    (n64 : Int))) = true) → ∃ n70 n71 : Nat, (p63 = (some (Addr.mk n70 n71 none))) ∧ ((0 : Int) ≤ x68) ∧ (x68 < (n64 : Int)) ∧ ∃ x72 : Int, (hAt H69 n70 (n71 + ((Int.toNat x68) * 1)) (Value.int .i64 x72)) ∧ ∃ n73 n74 :
    Nat, ((some (Addr.mk ((LH.next H51) + 3) 0 none)) = (some (Addr.mk n73 n74 none))) ∧ ((0 : Int) ≤ x72) ∧ (x72 < (((Int.toNat (n23 : Int)) : Nat) : Int)) ∧ ∃ x75 : Int, (hAt H69 n73 (n74 + ((Int.toNat x72) * 1))
    (Value.int .i64 x75)) ∧ ∃ n76 n77 : Nat, ((some (Addr.mk ((LH.next H51) + 3) 0 none)) = (some (Addr.mk n76 n77 none))) ∧ ((0 : Int) ≤ x72) ∧ (x72 < (((Int.toNat (n23 : Int)) : Nat) : Int)) ∧ ∃ l78 : (List Value), ∃
    n79 : Nat, ((LH.get H69 n76) = (some (LObj.cells l78 n79 false))) ∧ (((n77 + ((Int.toNat x72) * 1)) + 1) ≤ (List.length l78)) ∧ ∀ H80 : LH, (H80 = (LH.put H69 n76 (some (LObj.cells (setMany l78 (n77 + ((Int.toNat
    x72) * 1)) [(Value.int .i64 (IntKind.wrap .i64 (x75 + (1 : Int))))]) n79 false)))) → (K66 (IntKind.wrap .i64 (x68 + (1 : Int))) H80) ∧ ((K67 (IntKind.wrap .i64 (x68 + (1 : Int))) H80) < (K67 x68 H69))) ∧ (((decide
    (x68 < (n64 : Int))) = false) → ((p43 = none) → (n44 = 0) ∧ (n45 = 0)) ∧ ∃ K81 : ((Option Addr) → Nat → Nat → (Option Addr) → Nat → Nat → (Option Addr) → Nat → Nat → (Option Addr) → Nat → Nat → Int → Int → LH →
    Prop), ∃ K82 : ((Option Addr) → Nat → Nat → (Option Addr) → Nat → Nat → (Option Addr) → Nat → Nat → (Option Addr) → Nat → Nat → Int → Int → LH → Nat), (K81 none 0 0 none 0 0 none 0 0 (some (Addr.mk ((LH.next H51) +
    3) 0 none)) (Int.toNat (n23 : Int)) (Int.toNat (n23 : Int)) (n55 : Int) (0 : Int) H69) ∧ ∀ p83 : (Option Addr), ∀ n84 : Nat, ∀ n85 : Nat, ∀ p86 : (Option Addr), ∀ n87 : Nat, ∀ n88 : Nat, ∀ p89 : (Option Addr), ∀ n90
    : Nat, ∀ n91 : Nat, ∀ p92 : (Option Addr), ∀ n93 : Nat, ∀ n94 : Nat, ∀ x95 : Int, ∀ x96 : Int, ∀ H97 : LH, (K81 p83 n84 n85 p86 n87 n88 p89 n90 n91 p92 n93 n94 x95 x96 H97) → (((decide (x96 < (n44 : Int))) = true) →
    ∃ n98 n99 : Nat, (p43 = (some (Addr.mk n98 n99 none))) ∧ ((0 : Int) ≤ x96) ∧ (x96 < (n44 : Int)) ∧ ∃ x100 : Int, (hAt H97 n98 (n99 + ((Int.toNat x96) * 1)) (Value.int .i64 x100)) ∧ ∀ H101 : LH, (H101 = (LH.keep H97
    11)) → ∃ p102 : (Option Addr), ∃ n103 n104 : Nat, (hAt H101 (LH.next H2) (0 + 1) (Value.slice p102 n103 n104)) ∧ ∃ n105 n106 : Nat, (p102 = (some (Addr.mk n105 n106 none))) ∧ ((0 : Int) ≤ x100) ∧ (x100 < (n103 :
    Int)) ∧ ∃ x107 : Int, (hAt H101 n105 (n106 + ((Int.toNat x100) * 1)) (Value.int .i64 x107)) ∧ ∀ H108 : LH, (H108 = (LH.put H101 ((LH.next H97) + 7) (some (LObj.cells [(Value.int .i64 x107)] 1 false)))) → ∃ p109 :
    (Option Addr), ∃ n110 n111 : Nat, ∃ H112 : LH, ((appV H108 (some ((LH.next H97) + 8)) 1 8 (Value.slice p83 n84 n85) (Value.slice (some (Addr.mk ((LH.next H97) + 7) 0 none)) 1 1)) = (some ((Value.slice p109 n110
    n111), H112))) ∧ (K81 p109 n110 n111 p86 n87 n88 p89 n90 n91 p92 n93 n94 x95 (IntKind.wrap .i64 (x96 + (1 : Int))) H112) ∧ ((K82 p109 n110 n111 p86 n87 n88 p89 n90 n91 p92 n93 n94 x95 (IntKind.wrap .i64 (x96 + (1 :
    Int))) H112) < (K82 p83 n84 n85 p86 n87 n88 p89 n90 n91 p92 n93 n94 x95 x96 H97))) ∧ (((decide (x96 < (n44 : Int))) = false) → ∀ H113 : LH, (H113 = (LH.keep H97 12)) → ∃ n114 : Nat, ∃ l115 l116 : (List Value),
    ((Value.func (Fn.func f_machine_Run_2) #[] #[(Value.pointer (some (Addr.mk (LH.next H2) 0 none)))]) = (Value.func (Fn.func n114) (Array.mk l115) (Array.mk l116))) ∧ ((okFn prog n114) = true) ∧ (XCall prog n114 ((l115
    ++ [(Value.slice p46 n47 n48)]) ++ l116) H113 (fun (v117 : Value) (H118 : LH) => ∃ p119 : (Option Addr), ∃ n120 n121 : Nat, (v117 = (Value.slice p119 n120 n121)) ∧ ((Value.slice a0_2p a0_2n a0_2c) = (Value.slice
    a0_2p a0_2n a0_2c)) ∧ ∃ n122 : Nat, ∃ l123 l124 : (List Value), ((Value.func (Fn.func f_machine_Run_2) #[] #[(Value.pointer (some (Addr.mk (LH.next H2) 0 none)))]) = (Value.func (Fn.func n122) (Array.mk l123)
    (Array.mk l124))) ∧ ((okFn prog n122) = true) ∧ (XCall prog n122 ((l123 ++ [(Value.slice a0_2p a0_2n a0_2c)]) ++ l124) H118 (fun (v125 : Value) (H126 : LH) => ∃ p127 : (Option Addr), ∃ n128 n129 : Nat, (v125 =
    (Value.slice p127 n128 n129)) ∧ ∀ H130 : LH, (H130 = (LH.keep H126 5)) → ∃ p131 : (Option Addr), ∃ n132 n133 : Nat, (hAt H130 (LH.next H18) 0 (Value.slice p131 n132 n133)) ∧ (∃ p134 : (Option Addr), ∃ n135 n136 :
    Nat, (hAt H130 (LH.next H18) 0 (Value.slice p134 n135 n136)) ∧ ((Value.slice p134 n135 n136) = (Value.slice p131 n132 n133))) ∧ (R (Value.tuple #[(Value.agg #[(Value.slice p83 n84 n85), (Value.slice p119 n120 n121),
    (Value.slice p127 n128 n129), (Value.slice p92 n93 n94), (Value.int .i64 x95)]), (Value.slice p131 n132 n133), (Value.int .i64 (0 : Int))]) H130)))))))))))))))))

theorem F_machine_Run_call {R : Value → LH → Prop} {H : LH} (a0_0p : Option Addr) (a0_0n a0_0c : Nat) (a0_1 : Int) (a0_2p : Option Addr) (a0_2n a0_2c : Nat) (a0_3p : Option Addr) (a0_3n a0_3c : Nat) (a1 : Int) (a2p : Option Addr) (a2n a2c : Nat) (a3p : Option Addr) (a3n a3c : Nat) (a4 : Int) (h : F_machine_Run a0_0p a0_0n a0_0c a0_1 a0_2p a0_2n a0_2c a0_3p a0_3n a0_3c a1 a2p a2n a2c a3p a3n a3c a4 R H) : Call prog f_machine_Run [.agg #[.slice a0_0p a0_0n a0_0c, .int .i64 a0_1, .slice a0_2p a0_2n a0_2c, .slice a0_3p a0_3n a0_3c], .int .i64 a1, .slice a2p a2n a2c, .slice a3p a3n a3c, .int .i64 a4] H R := by
  have e : F_machine_Run a0_0p a0_0n a0_0c a0_1 a0_2p a0_2n a0_2c a0_3p a0_3n a0_3c a1 a2p a2n a2c a3p a3n a3c a4 R H = zfun prog f_machine_Run [5, 10, 15, 18]
    (.seq none .u (.seq none .u (.seq none (.seq none .u (.cond (.seq none .u .u) .u)) (.seq none (.seq none .u (.cond (.seq none .u .u) .u)) (.seq none .u (.seq none .u (.seq none (.seq none .u (.seq none .u (.cond (.seq none .u .u) .u))) (.seq none (.draw [⟨0, [], []⟩, ⟨1, [], []⟩, ⟨2, [], []⟩, ⟨4, [], []⟩, ⟨5, [], []⟩, ⟨3, [], []⟩, ⟨6, [], []⟩, ⟨7, [], []⟩, ⟨8, [], []⟩]) (.seq none (.seq none .u (.block (.loop ⟨[(67, .one (.int .i64))], [5, 10, 13, 15, 16, 18, 65, 66]⟩ (.seq none .u (.seq none (.cond .u .u) (.seq none (.block (.seq none .u .u)) .u)))))) (.seq none (.seq none .u (.block (.loop ⟨[(18, .box [.sl, .sl, .sl, .sl, (.int .i64)]), (82, .one (.int .i64))], [5, 10, 13, 15, 16, 80, 81]⟩ (.seq none .u (.seq none (.cond .u .u) (.seq none (.block (.seq none .u (.draw [⟨0, [], []⟩, ⟨1, [], []⟩, ⟨2, [], []⟩, ⟨3, [], []⟩, ⟨4, [], []⟩, ⟨5, [], []⟩, ⟨6, [], []⟩, ⟨7, [], []⟩, ⟨8, [], []⟩, ⟨9, [], []⟩, ⟨10, [], []⟩]))) .u)))))) (.seq none .u (.seq none (.draw [⟨0, [], []⟩, ⟨1, [], []⟩, ⟨2, [], []⟩, ⟨4, [], []⟩, ⟨5, [], []⟩, ⟨6, [], []⟩, ⟨3, [6], []⟩, ⟨8, [], []⟩, ⟨7, [], []⟩, ⟨9, [], []⟩, ⟨10, [], []⟩, ⟨11, [], []⟩]) (.seq none (.draw [⟨0, [], []⟩, ⟨1, [], []⟩, ⟨2, [1], []⟩, ⟨3, [], []⟩, ⟨4, [], []⟩]) .u)))))))))))))
    [.agg #[.slice a0_0p a0_0n a0_0c, .int .i64 a0_1, .slice a0_2p a0_2n a0_2c, .slice a0_3p a0_3n a0_3c], .int .i64 a1, .slice a2p a2n a2c, .slice a3p a3n a3c, .int .i64 a4] R H := by kernel_rfl
  rw [e] at h
  exact call_of_zfun mixed h

/-- timebound/timeboundref01.SameInts -/
def F_ref01_SameInts (a0p : Option Addr) (a0n a0c : Nat) (a1p : Option Addr) (a1n a1c : Nat) (R : Value → LH → Prop) (H : LH) : Prop :=
  ((a0p = none) → (a0n = 0) ∧ (a0c = 0)) ∧ ((a1p = none) → (a1n = 0) ∧ (a1c = 0)) ∧ (((Bool.not (decide ((a0n : Int) = (a1n : Int)))) = true) → (R (Value.bool false) H)) ∧ (((Bool.not (decide ((a0n : Int) = (a1n : Int))))
    = false) → ∃ K1 : (Int → LH → Prop), ∃ K2 : (Int → LH → Nat), (K1 (0 : Int) H) ∧ ∀ x3 : Int, ∀ H4 : LH, (K1 x3 H4) → ((a0p = none) → (a0n = 0) ∧ (a0c = 0)) ∧ (((decide (x3 < (a0n : Int))) = true) → ∀ H5 : LH, (H5 =
    (LH.keep H4 9)) → ∃ n6 n7 : Nat, (a0p = (some (Addr.mk n6 n7 none))) ∧ ((0 : Int) ≤ x3) ∧ (x3 < (a0n : Int)) ∧ ∃ x8 : Int, (hAt H5 n6 (n7 + ((Int.toNat x3) * 1)) (Value.int .i64 x8)) ∧ ∃ n9 n10 : Nat, (a1p = (some
    (Addr.mk n9 n10 none))) ∧ ((0 : Int) ≤ x3) ∧ (x3 < (a1n : Int)) ∧ ∃ x11 : Int, (hAt H5 n9 (n10 + ((Int.toNat x3) * 1)) (Value.int .i64 x11)) ∧ (((Bool.not (decide (x8 = x11))) = true) → (R (Value.bool false) H5)) ∧
    (((Bool.not (decide (x8 = x11))) = false) → (K1 (IntKind.wrap .i64 (x3 + (1 : Int))) H5) ∧ ((K2 (IntKind.wrap .i64 (x3 + (1 : Int))) H5) < (K2 x3 H4)))) ∧ (((decide (x3 < (a0n : Int))) = false) → (R (Value.bool true)
    H4)))

theorem F_ref01_SameInts_call {R : Value → LH → Prop} {H : LH} (a0p : Option Addr) (a0n a0c : Nat) (a1p : Option Addr) (a1n a1c : Nat) (h : F_ref01_SameInts a0p a0n a0c a1p a1n a1c R H) : Call prog f_ref01_SameInts [.slice a0p a0n a0c, .slice a1p a1n a1c] H R := by
  have e : F_ref01_SameInts a0p a0n a0c a1p a1n a1c R H = zfun prog f_ref01_SameInts []
    (.seq none .u (.seq none (.seq none .u (.cond (.seq none .u .u) .u)) (.seq none (.seq none .u (.block (.loop ⟨[(5, .one (.int .i64))], [0, 1]⟩ (.seq none (.seq none .u (.cond .u .u)) (.seq none (.block (.seq none (.draw [⟨0, [], []⟩, ⟨1, [], []⟩, ⟨2, [], []⟩, ⟨3, [], []⟩, ⟨4, [], []⟩, ⟨5, [], []⟩, ⟨6, [], []⟩, ⟨7, [], []⟩, ⟨8, [], []⟩]) (.cond (.seq none .u .u) .u))) .u))))) (.seq none .u .u))))
    [.slice a0p a0n a0c, .slice a1p a1n a1c] R H := by kernel_rfl
  rw [e] at h
  exact call_of_zfun mixed h

/-- timebound/machine.Nodes -/
def F_machine_Nodes (a0_0 : ByteArray) (a0_1p : Option Addr) (a0_1n a0_1c : Nat) (a0_2p : Option Addr) (a0_2n a0_2c : Nat) (a0_3p : Option Addr) (a0_3n a0_3c : Nat) (a0_4p : Option Addr) (a0_4n a0_4c : Nat) (a0_5p : Option Addr) (a0_5n a0_5c : Nat) (a0_6p : Option Addr) (a0_6n a0_6c : Nat) (a0_7p : Option Addr) (a0_7n a0_7c : Nat) (a0_8p : Option Addr) (a0_8n a0_8c : Nat) (a0_9p : Option Addr) (a0_9n a0_9c : Nat) (a1p : Option Addr) (a1n a1c : Nat) (R : Value → LH → Prop) (H : LH) : Prop :=
  ∀ H1 : LH, (H1 = (LH.new H (LObj.map []))) → ((a0_1p = none) → (a0_1n = 0) ∧ (a0_1c = 0)) ∧ ∃ K2 : (Int → LH → Prop), ∃ K3 : (Int → LH → Nat), (K2 (IntKind.wrap .i64 ((a0_1n : Int) - (1 : Int))) H1) ∧ ∀ x4 : Int, ∀ H5 :
    LH, (K2 x4 H5) → (((decide ((0 : Int) ≤ x4)) = true) → ∃ n6 n7 : Nat, (a0_1p = (some (Addr.mk n6 n7 none))) ∧ ((0 : Int) ≤ x4) ∧ (x4 < (a0_1n : Int)) ∧ ∃ x8 : Int, (hAt H5 n6 ((n7 + ((Int.toNat x4) * 4)) + 0)
    (Value.int .i64 x8)) ∧ ∃ n9 : Nat, ∃ l10 l11 : (List (Prod Value Value)), ((some (LH.next H)) = (some n9)) ∧ ((LH.get H5 n9) = (some (LObj.map l10))) ∧ ((mapPut l10 (Value.int .i64 x8) (Value.int .i64 x4)) = (some
    l11)) ∧ ∀ H12 : LH, (H12 = (LH.put H5 n9 (some (LObj.map l11)))) → (K2 (IntKind.wrap .i64 (x4 - (1 : Int))) H12) ∧ ((K3 (IntKind.wrap .i64 (x4 - (1 : Int))) H12) < (K3 x4 H5))) ∧ (((decide ((0 : Int) ≤ x4)) = false)
    → ((a1p = none) → (a1n = 0) ∧ (a1c = 0)) ∧ ∃ K13 : ((Option Addr) → Nat → Nat → Int → LH → Prop), ∃ K14 : ((Option Addr) → Nat → Nat → Int → LH → Nat), (K13 none 0 0 (0 : Int) H5) ∧ ∀ p15 : (Option Addr), ∀ n16 :
    Nat, ∀ n17 : Nat, ∀ x18 : Int, ∀ H19 : LH, (K13 p15 n16 n17 x18 H19) → (((decide (x18 < (a1n : Int))) = true) → ∃ n20 n21 : Nat, (a1p = (some (Addr.mk n20 n21 none))) ∧ ((0 : Int) ≤ x18) ∧ (x18 < (a1n : Int)) ∧ ∃ x22
    : Int, (hAt H19 n20 (n21 + ((Int.toNat x18) * 3)) (Value.int .i64 x22)) ∧ ∃ x23 : Int, (hAt H19 n20 ((n21 + ((Int.toNat x18) * 3)) + 1) (Value.int .i64 x23)) ∧ ∃ b24 : Bool, (hAt H19 n20 (((n21 + ((Int.toNat x18) *
    3)) + 1) + 1) (Value.bool b24)) ∧ ∃ b25 : Bool, ∃ x26 : Int, ((lookM H19 (some (LH.next H)) (Value.int .i64 x22) (Value.int .i64 (0 : Int))) = (some ((Value.int .i64 x26), b25))) ∧ ((b25 = true) → ∀ H27 : LH, (H27 =
    (LH.new H19 (LObj.cells [(Value.int .i64 x26)] 1 false))) → ∃ p28 : (Option Addr), ∃ n29 n30 : Nat, ∃ H31 : LH, ((appV H27 none 1 8 (Value.slice p15 n16 n17) (Value.slice (some (Addr.mk (LH.next H19) 0 none)) 1 1)) =
    (some ((Value.slice p28 n29 n30), H31))) ∧ (K13 p28 n29 n30 (IntKind.wrap .i64 (x18 + (1 : Int))) H31) ∧ ((K14 p28 n29 n30 (IntKind.wrap .i64 (x18 + (1 : Int))) H31) < (K14 p15 n16 n17 x18 H19))) ∧ ((b25 = false) →
    (K13 p15 n16 n17 (IntKind.wrap .i64 (x18 + (1 : Int))) H19) ∧ ((K14 p15 n16 n17 (IntKind.wrap .i64 (x18 + (1 : Int))) H19) < (K14 p15 n16 n17 x18 H19)))) ∧ (((decide (x18 < (a1n : Int))) = false) → (R (Value.slice
    p15 n16 n17) H19)))

theorem F_machine_Nodes_call {R : Value → LH → Prop} {H : LH} (a0_0 : ByteArray) (a0_1p : Option Addr) (a0_1n a0_1c : Nat) (a0_2p : Option Addr) (a0_2n a0_2c : Nat) (a0_3p : Option Addr) (a0_3n a0_3c : Nat) (a0_4p : Option Addr) (a0_4n a0_4c : Nat) (a0_5p : Option Addr) (a0_5n a0_5c : Nat) (a0_6p : Option Addr) (a0_6n a0_6c : Nat) (a0_7p : Option Addr) (a0_7n a0_7c : Nat) (a0_8p : Option Addr) (a0_8n a0_8c : Nat) (a0_9p : Option Addr) (a0_9n a0_9c : Nat) (a1p : Option Addr) (a1n a1c : Nat) (h : F_machine_Nodes a0_0 a0_1p a0_1n a0_1c a0_2p a0_2n a0_2c a0_3p a0_3n a0_3c a0_4p a0_4n a0_4c a0_5p a0_5n a0_5c a0_6p a0_6n a0_6c a0_7p a0_7n a0_7c a0_8p a0_8n a0_8c a0_9p a0_9n a0_9c a1p a1n a1c R H) : Call prog f_machine_Nodes [.agg #[.string a0_0, .slice a0_1p a0_1n a0_1c, .slice a0_2p a0_2n a0_2c, .slice a0_3p a0_3n a0_3c, .slice a0_4p a0_4n a0_4c, .slice a0_5p a0_5n a0_5c, .slice a0_6p a0_6n a0_6c, .slice a0_7p a0_7n a0_7c, .slice a0_8p a0_8n a0_8c, .slice a0_9p a0_9n a0_9c], .slice a1p a1n a1c] H R := by
  have e : F_machine_Nodes a0_0 a0_1p a0_1n a0_1c a0_2p a0_2n a0_2c a0_3p a0_3n a0_3c a0_4p a0_4n a0_4c a0_5p a0_5n a0_5c a0_6p a0_6n a0_6c a0_7p a0_7n a0_7c a0_8p a0_8n a0_8c a0_9p a0_9n a0_9c a1p a1n a1c R H = zfun prog f_machine_Nodes [2, 9]
    (.seq none .u (.seq none .u (.seq none (.seq none .u (.block (.loop ⟨[(6, .one (.int .i64))], [1, 2, 5]⟩ (.seq none (.seq none .u (.cond .u .u)) (.seq none (.block .u) .u))))) (.seq none .u (.seq none (.seq none .u (.block (.loop ⟨[(7, .one .sl), (31, .one (.int .i64))], [5, 29, 30]⟩ (.seq none .u (.seq none (.cond .u .u) (.seq none (.block (.seq none .u (.seq none .u (.seq none .u (.cond .u .u))))) .u)))))) (.seq none .u .u))))))
    [.agg #[.string a0_0, .slice a0_1p a0_1n a0_1c, .slice a0_2p a0_2n a0_2c, .slice a0_3p a0_3n a0_3c, .slice a0_4p a0_4n a0_4c, .slice a0_5p a0_5n a0_5c, .slice a0_6p a0_6n a0_6c, .slice a0_7p a0_7n a0_7c, .slice a0_8p a0_8n a0_8c, .slice a0_9p a0_9n a0_9c], .slice a1p a1n a1c] R H := by kernel_rfl
  rw [e] at h
  exact call_of_zfun mixed h

/-- (*timebound/timeboundmake.Deck).Op -/
def F_make_Deck_Op (a0 : Option Addr) (R : Value → LH → Prop) (H : LH) : Prop :=
  (XCall prog f_make_Deck_Next [(Value.pointer a0), (Value.int .i64 (14 : Int))] H (fun (v1 : Value) (H2 : LH) => ∃ x3 : Int, (v1 = (Value.int .i64 x3)) ∧ (R (Value.int .i64 (IntKind.wrap .i64 ((1 : Int) + x3))) H2)))

theorem F_make_Deck_Op_call {R : Value → LH → Prop} {H : LH} (a0 : Option Addr) (h : F_make_Deck_Op a0 R H) : Call prog f_make_Deck_Op [.pointer a0] H R := by
  have e : F_make_Deck_Op a0 R H = zfun prog f_make_Deck_Op []
    (.seq none .u (.seq none .u .u))
    [.pointer a0] R H := by kernel_rfl
  rw [e] at h
  exact call_of_zfun mixed h

/-- timebound/timeboundmake.Mod -/
def F_make_Mod (a0 : Int) (a1 : Int) (R : Value → LH → Prop) (H : LH) : Prop :=
  (a1 ≠ (0 : Int)) ∧ (a1 ≠ (0 : Int)) ∧ (R (Value.int .i64 (Int.tmod (IntKind.wrap .i64 ((Int.tmod a0 a1) + a1)) a1)) H)

theorem F_make_Mod_call {R : Value → LH → Prop} {H : LH} (a0 : Int) (a1 : Int) (h : F_make_Mod a0 a1 R H) : Call prog f_make_Mod [.int .i64 a0, .int .i64 a1] H R := by
  have e : F_make_Mod a0 a1 R H = zfun prog f_make_Mod []
    (.seq none .u (.seq none .u .u))
    [.int .i64 a0, .int .i64 a1] R H := by kernel_rfl
  rw [e] at h
  exact call_of_zfun mixed h

/-- timebound/machine.Copy -/
def F_machine_Copy (a0_0p : Option Addr) (a0_0n a0_0c : Nat) (a0_1p : Option Addr) (a0_1n a0_1c : Nat) (a0_2p : Option Addr) (a0_2n a0_2c : Nat) (a0_3 : Int) (a0_4 : Bool) (R : Value → LH → Prop) (H : LH) : Prop :=
  ∀ H1 : LH, (H1 = (LH.keep H 15)) → (XCall prog f_slices_Clone_int_int [(Value.slice a0_0p a0_0n a0_0c)] H1 (fun (v2 : Value) (H3 : LH) => ∃ p4 : (Option Addr), ∃ n5 n6 : Nat, (v2 = (Value.slice p4 n5 n6)) ∧
    ((Value.slice a0_1p a0_1n a0_1c) = (Value.slice a0_1p a0_1n a0_1c)) ∧ ((Value.slice a0_2p a0_2n a0_2c) = (Value.slice a0_2p a0_2n a0_2c)) ∧ (XCall prog f_slices_Clone_int_int [(Value.slice a0_1p a0_1n a0_1c)] H3 (fun
    (v7 : Value) (H8 : LH) => ∃ p9 : (Option Addr), ∃ n10 n11 : Nat, (v7 = (Value.slice p9 n10 n11)) ∧ ((Value.slice a0_2p a0_2n a0_2c) = (Value.slice a0_2p a0_2n a0_2c)) ∧ (XCall prog f_slices_Clone_bool_bool
    [(Value.slice a0_2p a0_2n a0_2c)] H8 (fun (v12 : Value) (H13 : LH) => ∃ p14 : (Option Addr), ∃ n15 n16 : Nat, (v12 = (Value.slice p14 n15 n16)) ∧ (R (Value.agg #[(Value.slice p4 n5 n6), (Value.slice p9 n10 n11),
    (Value.slice p14 n15 n16), (Value.int .i64 a0_3), (Value.bool a0_4)]) H13)))))))

theorem F_machine_Copy_call {R : Value → LH → Prop} {H : LH} (a0_0p : Option Addr) (a0_0n a0_0c : Nat) (a0_1p : Option Addr) (a0_1n a0_1c : Nat) (a0_2p : Option Addr) (a0_2n a0_2c : Nat) (a0_3 : Int) (a0_4 : Bool) (h : F_machine_Copy a0_0p a0_0n a0_0c a0_1p a0_1n a0_1c a0_2p a0_2n a0_2c a0_3 a0_4 R H) : Call prog f_machine_Copy [.agg #[.slice a0_0p a0_0n a0_0c, .slice a0_1p a0_1n a0_1c, .slice a0_2p a0_2n a0_2c, .int .i64 a0_3, .bool a0_4]] H R := by
  have e : F_machine_Copy a0_0p a0_0n a0_0c a0_1p a0_1n a0_1c a0_2p a0_2n a0_2c a0_3 a0_4 R H = zfun prog f_machine_Copy [1, 2]
    (.seq none .u (.seq none (.draw [⟨0, [], []⟩, ⟨1, [], []⟩, ⟨3, [], []⟩, ⟨4, [], []⟩, ⟨6, [], []⟩, ⟨7, [], []⟩, ⟨2, [4, 7], []⟩, ⟨9, [], []⟩, ⟨5, [7], []⟩, ⟨8, [], []⟩, ⟨10, [], []⟩, ⟨11, [], []⟩, ⟨12, [], []⟩, ⟨13, [], []⟩, ⟨14, [], []⟩]) (.seq none .u .u)))
    [.agg #[.slice a0_0p a0_0n a0_0c, .slice a0_1p a0_1n a0_1c, .slice a0_2p a0_2n a0_2c, .int .i64 a0_3, .bool a0_4]] R H := by kernel_rfl
  rw [e] at h
  exact call_of_zfun mixed h

/-- timebound/emit.Check -/
def F_emit_Check (a0_0p : Option Addr) (a0_0n a0_0c : Nat) (a0_1 : Int) (a0_2p : Option Addr) (a0_2n a0_2c : Nat) (a0_3p : Option Addr) (a0_3n a0_3c : Nat) (R : Value → LH → Prop) (H : LH) : Prop :=
  ((a0_0p = none) → (a0_0n = 0) ∧ (a0_0c = 0)) ∧ (((decide ((1024 : Int) < (a0_0n : Int))) = true) → (R (Value.int .i64 (4 : Int)) H)) ∧ (((decide ((1024 : Int) < (a0_0n : Int))) = false) → (((decide ((1024 : Int) <
    a0_1)) = true) → (R (Value.int .i64 (4 : Int)) H)) ∧ (((decide ((1024 : Int) < a0_1)) = false) → ((a0_3p = none) → (a0_3n = 0) ∧ (a0_3c = 0)) ∧ (((decide ((6 : Int) < (a0_3n : Int))) = true) → (R (Value.int .i64 (4 :
    Int)) H)) ∧ (((decide ((6 : Int) < (a0_3n : Int))) = false) → ((a0_0p = none) → (a0_0n = 0) ∧ (a0_0c = 0)) ∧ ∃ K1 : (Int → LH → Prop), ∃ K2 : (Int → LH → Nat), (K1 (0 : Int) H) ∧ ∀ x3 : Int, ∀ H4 : LH, (K1 x3 H4) →
    (((decide (x3 < (a0_0n : Int))) = true) → ∃ n5 n6 : Nat, (a0_0p = (some (Addr.mk n5 n6 none))) ∧ ((0 : Int) ≤ x3) ∧ (x3 < (a0_0n : Int)) ∧ ∃ x7 : Int, (hAt H4 n5 (n6 + ((Int.toNat x3) * 6)) (Value.int .i64 x7)) ∧ ∃
    x8 : Int, (hAt H4 n5 ((n6 + ((Int.toNat x3) * 6)) + 1) (Value.int .i64 x8)) ∧ ∃ x9 : Int, (hAt H4 n5 (((n6 + ((Int.toNat x3) * 6)) + 1) + 1) (Value.int .i64 x9)) ∧ ∃ x10 : Int, (hAt H4 n5 ((((n6 + ((Int.toNat x3) *
    6)) + 1) + 1) + 1) (Value.int .i64 x10)) ∧ ∃ x11 : Int, (hAt H4 n5 (((((n6 + ((Int.toNat x3) * 6)) + 1) + 1) + 1) + 1) (Value.int .i64 x11)) ∧ ∃ x12 : Int, (hAt H4 n5 ((((((n6 + ((Int.toNat x3) * 6)) + 1) + 1) + 1) +
    1) + 1) (Value.int .i64 x12)) ∧ (XCall prog f_instr_Check [(Value.agg #[(Value.int .i64 x7), (Value.int .i64 x8), (Value.int .i64 x9), (Value.int .i64 x10), (Value.int .i64 x11), (Value.int .i64 x12)])] H4 (fun (v13
    : Value) (H14 : LH) => ∃ x15 : Int, (v13 = (Value.int .i64 x15)) ∧ (((Bool.not (decide (x15 = (0 : Int)))) = true) → (R (Value.int .i64 x15) H14)) ∧ (((Bool.not (decide (x15 = (0 : Int)))) = false) → (K1
    (IntKind.wrap .i64 (x3 + (1 : Int))) H14) ∧ ((K2 (IntKind.wrap .i64 (x3 + (1 : Int))) H14) < (K2 x3 H4)))))) ∧ (((decide (x3 < (a0_0n : Int))) = false) → (((decide (a0_1 < (0 : Int))) = true) → (R (Value.int .i64 (10
    : Int)) H4)) ∧ (((decide (a0_1 < (0 : Int))) = false) → ((a0_3p = none) → (a0_3n = 0) ∧ (a0_3c = 0)) ∧ ∃ K16 : (Int → Int → LH → Prop), ∃ K17 : (Int → Int → LH → Nat), (K16 (0 : Int) (0 : Int) H4) ∧ ∀ x18 : Int, ∀
    x19 : Int, ∀ H20 : LH, (K16 x18 x19 H20) → (((decide (x19 < (a0_3n : Int))) = true) → ∃ n21 n22 : Nat, (a0_3p = (some (Addr.mk n21 n22 none))) ∧ ((0 : Int) ≤ x19) ∧ (x19 < (a0_3n : Int)) ∧ ∃ s23 : ByteArray, (hAt H20
    n21 (n22 + ((Int.toNat x19) * 10)) (Value.string s23)) ∧ ∃ p24 : (Option Addr), ∃ n25 n26 : Nat, (hAt H20 n21 ((n22 + ((Int.toNat x19) * 10)) + 1) (Value.slice p24 n25 n26)) ∧ ∃ p27 : (Option Addr), ∃ n28 n29 : Nat,
    (hAt H20 n21 (((n22 + ((Int.toNat x19) * 10)) + 1) + 1) (Value.slice p27 n28 n29)) ∧ ∃ p30 : (Option Addr), ∃ n31 n32 : Nat, (hAt H20 n21 ((((n22 + ((Int.toNat x19) * 10)) + 1) + 1) + 1) (Value.slice p30 n31 n32)) ∧
    ∃ p33 : (Option Addr), ∃ n34 n35 : Nat, (hAt H20 n21 (((((n22 + ((Int.toNat x19) * 10)) + 1) + 1) + 1) + 1) (Value.slice p33 n34 n35)) ∧ ∃ p36 : (Option Addr), ∃ n37 n38 : Nat, (hAt H20 n21 ((((((n22 + ((Int.toNat
    x19) * 10)) + 1) + 1) + 1) + 1) + 1) (Value.slice p36 n37 n38)) ∧ ∃ p39 : (Option Addr), ∃ n40 n41 : Nat, (hAt H20 n21 (((((((n22 + ((Int.toNat x19) * 10)) + 1) + 1) + 1) + 1) + 1) + 1) (Value.slice p39 n40 n41)) ∧ ∃
    p42 : (Option Addr), ∃ n43 n44 : Nat, (hAt H20 n21 ((((((((n22 + ((Int.toNat x19) * 10)) + 1) + 1) + 1) + 1) + 1) + 1) + 1) (Value.slice p42 n43 n44)) ∧ ∃ p45 : (Option Addr), ∃ n46 n47 : Nat, (hAt H20 n21
    (((((((((n22 + ((Int.toNat x19) * 10)) + 1) + 1) + 1) + 1) + 1) + 1) + 1) + 1) (Value.slice p45 n46 n47)) ∧ ∃ p48 : (Option Addr), ∃ n49 n50 : Nat, (hAt H20 n21 ((((((((((n22 + ((Int.toNat x19) * 10)) + 1) + 1) + 1)
    + 1) + 1) + 1) + 1) + 1) + 1) (Value.slice p48 n49 n50)) ∧ (XCall prog f_emit_unit [(Value.agg #[(Value.slice a0_0p a0_0n a0_0c), (Value.int .i64 a0_1), (Value.slice a0_2p a0_2n a0_2c), (Value.slice a0_3p a0_3n
    a0_3c)]), (Value.agg #[(Value.string s23), (Value.slice p24 n25 n26), (Value.slice p27 n28 n29), (Value.slice p30 n31 n32), (Value.slice p33 n34 n35), (Value.slice p36 n37 n38), (Value.slice p39 n40 n41),
    (Value.slice p42 n43 n44), (Value.slice p45 n46 n47), (Value.slice p48 n49 n50)]), (Value.int .i64 x18)] H20 (fun (v51 : Value) (H52 : LH) => ∃ x53 : Int, ∃ b54 : Bool, (v51 = (Value.tuple #[(Value.int .i64 x53),
    (Value.bool b54)])) ∧ (((Bool.not b54) = true) → (R (Value.int .i64 (10 : Int)) H52)) ∧ (((Bool.not b54) = false) → (K16 x53 (IntKind.wrap .i64 (x19 + (1 : Int))) H52) ∧ ((K17 x53 (IntKind.wrap .i64 (x19 + (1 :
    Int))) H52) < (K17 x18 x19 H20)))))) ∧ (((decide (x19 < (a0_3n : Int))) = false) → ((a0_0p = none) → (a0_0n = 0) ∧ (a0_0c = 0)) ∧ (((Bool.not (decide (x18 = (a0_0n : Int)))) = true) → (R (Value.int .i64 (10 : Int))
    H20)) ∧ (((Bool.not (decide (x18 = (a0_0n : Int)))) = false) → (R (Value.int .i64 (0 : Int)) H20))))))))

theorem F_emit_Check_call {R : Value → LH → Prop} {H : LH} (a0_0p : Option Addr) (a0_0n a0_0c : Nat) (a0_1 : Int) (a0_2p : Option Addr) (a0_2n a0_2c : Nat) (a0_3p : Option Addr) (a0_3n a0_3c : Nat) (h : F_emit_Check a0_0p a0_0n a0_0c a0_1 a0_2p a0_2n a0_2c a0_3p a0_3n a0_3c R H) : Call prog f_emit_Check [.agg #[.slice a0_0p a0_0n a0_0c, .int .i64 a0_1, .slice a0_2p a0_2n a0_2c, .slice a0_3p a0_3n a0_3c]] H R := by
  have e : F_emit_Check a0_0p a0_0n a0_0c a0_1 a0_2p a0_2n a0_2c a0_3p a0_3n a0_3c R H = zfun prog f_emit_Check [1, 4, 9]
    (.seq none .u (.seq none (.seq none .u (.cond (.seq none .u .u) .u)) (.seq none (.seq none .u (.block (.loop ⟨[(28, .one (.int .i64))], [1, 26, 27]⟩ (.seq none .u (.seq none (.cond .u .u) (.seq none (.block (.seq none .u (.seq none .u (.seq none .u (.cond (.seq none .u .u) .u))))) .u)))))) (.seq none (.seq none .u (.cond (.seq none .u .u) .u)) (.seq none .u (.seq none (.seq none .u (.block (.loop ⟨[(6, .one (.int .i64)), (44, .one (.int .i64))], [1, 42, 43]⟩ (.seq none .u (.seq none (.cond .u .u) (.seq none (.block (.seq none .u (.seq none .u (.seq none .u (.cond (.seq none .u .u) .u))))) .u)))))) (.seq none (.seq none .u (.cond (.seq none .u .u) .u)) (.seq none .u .u))))))))
    [.agg #[.slice a0_0p a0_0n a0_0c, .int .i64 a0_1, .slice a0_2p a0_2n a0_2c, .slice a0_3p a0_3n a0_3c]] R H := by kernel_rfl
  rw [e] at h
  exact call_of_zfun mixed h

/-- timebound/machine.Next -/
def F_machine_Next (a0_0p : Option Addr) (a0_0n a0_0c : Nat) (a0_1 : Int) (a0_2p : Option Addr) (a0_2n a0_2c : Nat) (a0_3p : Option Addr) (a0_3n a0_3c : Nat) (a1 : Option Addr) (R : Value → LH → Prop) (H : LH) : Prop :=
  ∀ H1 : LH, (H1 = (LH.new H (LObj.cells [(Value.pointer a1)] 1 false))) → ∀ H2 : LH, (H2 = (LH.keep H1 10)) → ∃ p3 : (Option Addr), (hAt H2 (LH.next H) 0 (Value.pointer p3)) ∧ ∃ n4 n5 : Nat, (p3 = (some (Addr.mk n4 n5
    none))) ∧ ∃ x6 : Int, (hAt H2 n4 (n5 + 3) (Value.int .i64 x6)) ∧ ∃ n7 n8 : Nat, (a0_0p = (some (Addr.mk n7 n8 none))) ∧ ((0 : Int) ≤ x6) ∧ (x6 < (a0_0n : Int)) ∧ ∃ x9 : Int, (hAt H2 n7 (n8 + ((Int.toNat x6) * 6))
    (Value.int .i64 x9)) ∧ ∃ x10 : Int, (hAt H2 n7 ((n8 + ((Int.toNat x6) * 6)) + 1) (Value.int .i64 x10)) ∧ ∃ x11 : Int, (hAt H2 n7 (((n8 + ((Int.toNat x6) * 6)) + 1) + 1) (Value.int .i64 x11)) ∧ ∃ x12 : Int, (hAt H2 n7
    ((((n8 + ((Int.toNat x6) * 6)) + 1) + 1) + 1) (Value.int .i64 x12)) ∧ ∃ x13 : Int, (hAt H2 n7 (((((n8 + ((Int.toNat x6) * 6)) + 1) + 1) + 1) + 1) (Value.int .i64 x13)) ∧ ∃ x14 : Int, (hAt H2 n7 ((((((n8 + ((Int.toNat
    x6) * 6)) + 1) + 1) + 1) + 1) + 1) (Value.int .i64 x14)) ∧ ∀ H15 : LH, (H15 = (LH.put H2 ((LH.next H1) + 8) (some (LObj.cells [(Value.int .i64 (0 : Int)), (Value.int .i64 (0 : Int)), (Value.int .i64 (0 : Int)),
    (Value.int .i64 (0 : Int)), (Value.int .i64 (0 : Int)), (Value.int .i64 (0 : Int))] 6 false)))) → ∃ l16 : (List Value), ∃ n17 : Nat, ((LH.get H15 ((LH.next H1) + 8)) = (some (LObj.cells l16 n17 false))) ∧ ((0 + 6) ≤
    (List.length l16)) ∧ ∀ H18 : LH, (H18 = (LH.put H15 ((LH.next H1) + 8) (some (LObj.cells (setMany l16 0 [(Value.int .i64 x9), (Value.int .i64 x10), (Value.int .i64 x11), (Value.int .i64 x12), (Value.int .i64 x13),
    (Value.int .i64 x14)]) n17 false)))) → ∃ p19 : (Option Addr), (hAt H18 (LH.next H) 0 (Value.pointer p19)) ∧ ∃ n20 n21 : Nat, (p19 = (some (Addr.mk n20 n21 none))) ∧ ∃ x22 : Int, (hAt H18 n20 (n21 + 3) (Value.int .i64
    x22)) ∧ ∀ H23 : LH, (H23 = (LH.new H18 (LObj.cells [(Value.int .i64 (0 : Int)), (Value.int .i64 (0 : Int)), (Value.bool false)] 3 false))) → ∃ l24 : (List Value), ∃ n25 : Nat, ((LH.get H23 (LH.next H18)) = (some
    (LObj.cells l24 n25 false))) ∧ ((0 + 3) ≤ (List.length l24)) ∧ ∀ H26 : LH, (H26 = (LH.put H23 (LH.next H18) (some (LObj.cells (setMany l24 0 [(Value.int .i64 x22), (Value.int .i64 (-(1 : Int))), (Value.bool false)])
    n25 false)))) → ∃ p27 : (Option Addr), (hAt H26 (LH.next H) 0 (Value.pointer p27)) ∧ ∃ n28 n29 : Nat, (p27 = (some (Addr.mk n28 n29 none))) ∧ ∃ x30 : Int, (hAt H26 n28 (n29 + 3) (Value.int .i64 x30)) ∧ ∀ H31 : LH,
    (H31 = (LH.new H26 (LObj.cells [Value.nilFunc] 1 false))) → ∃ l32 : (List Value), ∃ n33 : Nat, ((LH.get H31 (LH.next H26)) = (some (LObj.cells l32 n33 false))) ∧ ((0 + 1) ≤ (List.length l32)) ∧ ∀ H34 : LH, (H34 =
    (LH.put H31 (LH.next H26) (some (LObj.cells (setMany l32 0 [(Value.func (Fn.func f_machine_Next_1) #[] #[(Value.pointer (some (Addr.mk ((LH.next H1) + 8) 0 none))), (Value.pointer (some (Addr.mk (LH.next H) 0
    none)))])]) n33 false)))) → ∀ K35 : (Int → Int → Bool → Value → LH → Prop), (∀ x36 : Int, ∀ x37 : Int, ∀ b38 : Bool, ∀ v39 : Value, ∀ H40 : LH, (∀ K41 : (Int → LH → Prop), (∀ x42 : Int, ∀ H43 : LH, (((a0_0p = none) →
    (a0_0n = 0) ∧ (a0_0c = 0)) ∧ (((decide ((a0_0n : Int) ≤ x42)) = true) → (R (Value.tuple #[(Value.agg #[(Value.int .i64 (0 : Int)), (Value.int .i64 (0 : Int)), (Value.bool false)]), (Value.int .i64 (12 : Int))]) H43))
    ∧ (((decide ((a0_0n : Int) ≤ x42)) = false) → ∃ n44 : Nat, ∃ l45 l46 : (List Value), (v39 = (Value.func (Fn.func n44) (Array.mk l45) (Array.mk l46))) ∧ ((okFn prog n44) = true) ∧ (XCall prog n44 ((l45 ++ []) ++ l46)
    H43 (fun (v47 : Value) (H48 : LH) => ∃ v49 : Value, (v47 = v49) ∧ ∃ p50 : (Option Addr), (hAt H48 (LH.next H) 0 (Value.pointer p50)) ∧ ∃ n51 n52 : Nat, (p50 = (some (Addr.mk n51 n52 none))) ∧ ∃ l53 : (List Value), ∃
    n54 : Nat, ((LH.get H48 n51) = (some (LObj.cells l53 n54 false))) ∧ (((n52 + 3) + 1) ≤ (List.length l53)) ∧ ∀ H55 : LH, (H55 = (LH.put H48 n51 (some (LObj.cells (setMany l53 (n52 + 3) [(Value.int .i64 x42)]) n54
    false)))) → ∃ x56 : Int, (hAt H55 (LH.next H18) 0 (Value.int .i64 x56)) ∧ ∃ x57 : Int, (hAt H55 (LH.next H18) (0 + 1) (Value.int .i64 x57)) ∧ ∃ b58 : Bool, (hAt H55 (LH.next H18) ((0 + 1) + 1) (Value.bool b58)) ∧ (R
    (Value.tuple #[(Value.agg #[(Value.int .i64 x56), (Value.int .i64 x57), (Value.bool b58)]), (Value.int .i64 (0 : Int))]) H55))))) → (K41 x42 H43)) → ∃ b60 : Bool, (hAt H40 (LH.next H18) (0 + 2) (Value.bool b60)) ∧
    ((b60 = true) → ∃ x61 : Int, (hAt H40 ((LH.next H1) + 8) (0 + 5) (Value.int .i64 x61)) ∧ (K41 x61 H40)) ∧ ((b60 = false) → (K41 (IntKind.wrap .i64 (x30 + (1 : Int))) H40))) → (K35 x36 x37 b38 v39 H40)) → ∃ x64 : Int,
    (hAt H34 ((LH.next H1) + 8) (0 + 0) (Value.int .i64 x64)) ∧ (((decide (x64 = (10 : Int))) = true) → ∃ p65 : (Option Addr), (hAt H34 (LH.next H) 0 (Value.pointer p65)) ∧ ∃ n66 n67 : Nat, (p65 = (some (Addr.mk n66 n67
    none))) ∧ ∃ l68 : (List Value), ∃ n69 : Nat, ((LH.get H34 n66) = (some (LObj.cells l68 n69 false))) ∧ (((n67 + 4) + 1) ≤ (List.length l68)) ∧ ∀ H70 : LH, (H70 = (LH.put H34 n66 (some (LObj.cells (setMany l68 (n67 +
    4) [(Value.bool true)]) n69 false)))) → ∃ x71 : Int, (hAt H70 (LH.next H18) 0 (Value.int .i64 x71)) ∧ ∃ x72 : Int, (hAt H70 (LH.next H18) (0 + 1) (Value.int .i64 x72)) ∧ ∃ b73 : Bool, (hAt H70 (LH.next H18) ((0 + 1)
    + 1) (Value.bool b73)) ∧ (R (Value.tuple #[(Value.agg #[(Value.int .i64 x71), (Value.int .i64 x72), (Value.bool b73)]), (Value.int .i64 (0 : Int))]) H70)) ∧ (((decide (x64 = (10 : Int))) = false) → (((decide (x64 =
    (1 : Int))) = true) → (K35 (0 : Int) (0 : Int) false (Value.func (Fn.func f_machine_Next_3) #[] #[(Value.pointer (some (Addr.mk (LH.next H26) 0 none))), (Value.pointer (some (Addr.mk ((LH.next H1) + 8) 0 none)))])
    H34)) ∧ (((decide (x64 = (1 : Int))) = false) → (((decide (x64 = (2 : Int))) = true) → (K35 (0 : Int) (0 : Int) false (Value.func (Fn.func f_machine_Next_4) #[] #[(Value.pointer (some (Addr.mk (LH.next H26) 0
    none))), (Value.pointer (some (Addr.mk (LH.next H) 0 none))), (Value.pointer (some (Addr.mk ((LH.next H1) + 8) 0 none)))]) H34)) ∧ (((decide (x64 = (2 : Int))) = false) → (((decide (x64 = (3 : Int))) = true) → ∀ H74
    : LH, (H74 = (LH.keep H34 25)) → ∃ x75 : Int, (hAt H74 ((LH.next H1) + 8) (0 + 4) (Value.int .i64 x75)) ∧ ∃ p76 : (Option Addr), (hAt H74 (LH.next H) 0 (Value.pointer p76)) ∧ ∃ n77 n78 : Nat, (p76 = (some (Addr.mk
    n77 n78 none))) ∧ ∃ p79 : (Option Addr), ∃ n80 n81 : Nat, (hAt H74 n77 (n78 + 0) (Value.slice p79 n80 n81)) ∧ ∃ x82 : Int, (hAt H74 ((LH.next H1) + 8) (0 + 2) (Value.int .i64 x82)) ∧ ∃ n83 n84 : Nat, (p79 = (some
    (Addr.mk n83 n84 none))) ∧ ((0 : Int) ≤ x82) ∧ (x82 < (n80 : Int)) ∧ ∃ x85 : Int, (hAt H74 n83 (n84 + ((Int.toNat x82) * 1)) (Value.int .i64 x85)) ∧ ∃ p86 : (Option Addr), (hAt H74 (LH.next H) 0 (Value.pointer p86))
    ∧ ∃ n87 n88 : Nat, (p86 = (some (Addr.mk n87 n88 none))) ∧ ∃ p89 : (Option Addr), ∃ n90 n91 : Nat, (hAt H74 n87 (n88 + 0) (Value.slice p89 n90 n91)) ∧ ∃ x92 : Int, (hAt H74 ((LH.next H1) + 8) (0 + 3) (Value.int .i64
    x92)) ∧ ∃ n93 n94 : Nat, (p89 = (some (Addr.mk n93 n94 none))) ∧ ((0 : Int) ≤ x92) ∧ (x92 < (n90 : Int)) ∧ ∃ x95 : Int, (hAt H74 n93 (n94 + ((Int.toNat x92) * 1)) (Value.int .i64 x95)) ∧ (∀ H96 : LH, (H96 = (LH.put
    H74 ((LH.next H34) + 22) (some (LObj.cells [(Value.int .i64 (0 : Int))] 1 false)))) → True) ∧ (XCall prog f_word_Do [(Value.int .i64 x75), (Value.int .i64 x85), (Value.int .i64 x95)] H74 (fun (v97 : Value) (H98 : LH)
    => ∃ x99 x100 : Int, (v97 = (Value.tuple #[(Value.int .i64 x99), (Value.int .i64 x100)])) ∧ ∀ H101 : LH, (H101 = (LH.put H98 ((LH.next H34) + 22) (some (LObj.cells [(Value.int .i64 (0 : Int))] 1 false)))) → ∃ l102 :
    (List Value), ∃ n103 : Nat, ((LH.get H101 ((LH.next H34) + 22)) = (some (LObj.cells l102 n103 false))) ∧ ((0 + 1) ≤ (List.length l102)) ∧ ∀ H104 : LH, (H104 = (LH.put H101 ((LH.next H34) + 22) (some (LObj.cells
    (setMany l102 0 [(Value.int .i64 x99)]) n103 false)))) → (K35 (0 : Int) (0 : Int) false (Value.func (Fn.func f_machine_Next_5) #[] #[(Value.pointer (some (Addr.mk (LH.next H26) 0 none))), (Value.pointer (some
    (Addr.mk ((LH.next H34) + 22) 0 none)))]) H104)))) ∧ (((decide (x64 = (3 : Int))) = false) → ∀ K105 : (Bool → LH → Prop), (∀ b106 : Bool, ∀ H107 : LH, (((b106 = true) → ∀ H108 : LH, (H108 = (LH.keep H107 13)) → ∃
    p109 : (Option Addr), (hAt H108 (LH.next H) 0 (Value.pointer p109)) ∧ ∃ n110 n111 : Nat, (p109 = (some (Addr.mk n110 n111 none))) ∧ ∃ p112 : (Option Addr), ∃ n113 n114 : Nat, (hAt H108 n110 (n111 + 0) (Value.slice
    p112 n113 n114)) ∧ ∃ x115 : Int, (hAt H108 ((LH.next H1) + 8) (0 + 2) (Value.int .i64 x115)) ∧ ∃ n116 n117 : Nat, (p112 = (some (Addr.mk n116 n117 none))) ∧ ((0 : Int) ≤ x115) ∧ (x115 < (n113 : Int)) ∧ ∃ x118 : Int,
    (hAt H108 n116 (n117 + ((Int.toNat x115) * 1)) (Value.int .i64 x118)) ∧ ∃ x119 : Int, (hAt H108 ((LH.next H1) + 8) (0 + 5) (Value.int .i64 x119)) ∧ ∃ l120 : (List Value), ∃ n121 : Nat, ((LH.get H108 (LH.next H18)) =
    (some (LObj.cells l120 n121 false))) ∧ (((0 + 1) + 1) ≤ (List.length l120)) ∧ ∀ H122 : LH, (H122 = (LH.put H108 (LH.next H18) (some (LObj.cells (setMany l120 (0 + 1) [(Value.int .i64 (IntKind.wrap .i64 (x118 +
    x119)))]) n121 false)))) → ∃ x123 : Int, (hAt H122 (LH.next H18) (0 + 1) (Value.int .i64 x123)) ∧ (((decide (x123 < (0 : Int))) = true) → (R (Value.tuple #[(Value.agg #[(Value.int .i64 (0 : Int)), (Value.int .i64 (0
    : Int)), (Value.bool false)]), (Value.int .i64 (12 : Int))]) H122)) ∧ (((decide (x123 < (0 : Int))) = false) → ∃ x124 : Int, (hAt H122 (LH.next H18) (0 + 1) (Value.int .i64 x124)) ∧ (((decide (a0_1 ≤ x124)) = true) →
    (R (Value.tuple #[(Value.agg #[(Value.int .i64 (0 : Int)), (Value.int .i64 (0 : Int)), (Value.bool false)]), (Value.int .i64 (12 : Int))]) H122)) ∧ (((decide (a0_1 ≤ x124)) = false) → ∃ x125 : Int, (hAt H122
    ((LH.next H1) + 8) (0 + 0) (Value.int .i64 x125)) ∧ (((decide (x125 = (5 : Int))) = true) → (K35 (0 : Int) (0 : Int) false (Value.func (Fn.func f_machine_Next_7) #[] #[(Value.pointer (some (Addr.mk (LH.next H) 0
    none))), (Value.pointer (some (Addr.mk ((LH.next H1) + 8) 0 none))), (Value.pointer (some (Addr.mk (LH.next H18) 0 none)))]) H122)) ∧ (((decide (x125 = (5 : Int))) = false) → (K35 (0 : Int) (0 : Int) false
    (Value.func (Fn.func f_machine_Next_6) #[] #[(Value.pointer (some (Addr.mk (LH.next H26) 0 none))), (Value.pointer (some (Addr.mk (LH.next H) 0 none))), (Value.pointer (some (Addr.mk (LH.next H18) 0 none)))])
    H122))))) ∧ ((b106 = false) → (((decide (x64 = (6 : Int))) = true) → ∃ l126 : (List Value), ∃ n127 : Nat, ((LH.get H107 (LH.next H18)) = (some (LObj.cells l126 n127 false))) ∧ (((0 + 2) + 1) ≤ (List.length l126)) ∧ ∀
    H128 : LH, (H128 = (LH.put H107 (LH.next H18) (some (LObj.cells (setMany l126 (0 + 2) [(Value.bool true)]) n127 false)))) → (K35 (0 : Int) (0 : Int) false (Value.func (Fn.func f_machine_Next_2) #[] #[]) H128)) ∧
    (((decide (x64 = (6 : Int))) = false) → (((decide (x64 = (7 : Int))) = true) → ∀ H129 : LH, (H129 = (LH.keep H107 11)) → ∃ p130 : (Option Addr), (hAt H129 (LH.next H) 0 (Value.pointer p130)) ∧ ∃ n131 n132 : Nat,
    (p130 = (some (Addr.mk n131 n132 none))) ∧ ∃ p133 : (Option Addr), ∃ n134 n135 : Nat, (hAt H129 n131 (n132 + 0) (Value.slice p133 n134 n135)) ∧ ∃ x136 : Int, (hAt H129 ((LH.next H1) + 8) (0 + 1) (Value.int .i64
    x136)) ∧ ∃ n137 n138 : Nat, (p133 = (some (Addr.mk n137 n138 none))) ∧ ((0 : Int) ≤ x136) ∧ (x136 < (n134 : Int)) ∧ ∃ x139 : Int, (hAt H129 n137 (n138 + ((Int.toNat x136) * 1)) (Value.int .i64 x139)) ∧ ∃ l140 : (List
    Value), ∃ n141 : Nat, ((LH.get H129 (LH.next H18)) = (some (LObj.cells l140 n141 false))) ∧ (((0 + 2) + 1) ≤ (List.length l140)) ∧ ∀ H142 : LH, (H142 = (LH.put H129 (LH.next H18) (some (LObj.cells (setMany l140 (0 +
    2) [(Value.bool (decide (x139 = (0 : Int))))]) n141 false)))) → (K35 (0 : Int) (0 : Int) false (Value.func (Fn.func f_machine_Next_2) #[] #[]) H142)) ∧ (((decide (x64 = (7 : Int))) = false) → ∀ K143 : (Bool → LH →
    Prop), (∀ b144 : Bool, ∀ H145 : LH, (((b144 = true) → ∃ x146 : Int, (hAt H145 ((LH.next H1) + 8) (0 + 0) (Value.int .i64 x146)) ∧ ∀ H147 : LH, (H147 = (LH.new H145 (LObj.cells [(Value.bool false)] 1 false))) → ∃ l148
    : (List Value), ∃ n149 : Nat, ((LH.get H147 (LH.next H145)) = (some (LObj.cells l148 n149 false))) ∧ ((0 + 1) ≤ (List.length l148)) ∧ ∀ H150 : LH, (H150 = (LH.put H147 (LH.next H145) (some (LObj.cells (setMany l148 0
    [(Value.bool (decide (x146 = (8 : Int))))]) n149 false)))) → ∀ H151 : LH, (H151 = (LH.keep H150 10)) → ∃ p152 : (Option Addr), (hAt H151 (LH.next H) 0 (Value.pointer p152)) ∧ ∃ n153 n154 : Nat, (p152 = (some (Addr.mk
    n153 n154 none))) ∧ ∃ p155 : (Option Addr), ∃ n156 n157 : Nat, (hAt H151 n153 (n154 + 2) (Value.slice p155 n156 n157)) ∧ ∃ x158 : Int, (hAt H151 ((LH.next H1) + 8) (0 + 5) (Value.int .i64 x158)) ∧ ∃ n159 n160 : Nat,
    (p155 = (some (Addr.mk n159 n160 none))) ∧ ((0 : Int) ≤ x158) ∧ (x158 < (n156 : Int)) ∧ ∃ b161 : Bool, (hAt H151 n159 (n160 + ((Int.toNat x158) * 1)) (Value.bool b161)) ∧ ∃ b162 : Bool, (hAt H151 (LH.next H145) 0
    (Value.bool b162)) ∧ (((b161 == b162) = true) → (R (Value.tuple #[(Value.agg #[(Value.int .i64 (0 : Int)), (Value.int .i64 (0 : Int)), (Value.bool false)]), (Value.int .i64 (14 : Int))]) H151)) ∧ (((b161 == b162) =
    false) → (K35 (0 : Int) (0 : Int) false (Value.func (Fn.func f_machine_Next_8) #[] #[(Value.pointer (some (Addr.mk (LH.next H145) 0 none))), (Value.pointer (some (Addr.mk (LH.next H) 0 none))), (Value.pointer (some
    (Addr.mk ((LH.next H1) + 8) 0 none)))]) H151))) ∧ ((b144 = false) → (K35 (0 : Int) (0 : Int) false (Value.func (Fn.func f_machine_Next_2) #[] #[]) H145))) → (K143 b144 H145)) → (((decide (x64 = (8 : Int))) = true) →
    (K143 true H107)) ∧ (((decide (x64 = (8 : Int))) = false) → (K143 (decide (x64 = (9 : Int))) H107)))))) → (K105 b106 H107)) → (((decide (x64 = (4 : Int))) = true) → (K105 true H34)) ∧ (((decide (x64 = (4 : Int))) =
    false) → (K105 (decide (x64 = (5 : Int))) H34))))))

theorem F_machine_Next_call {R : Value → LH → Prop} {H : LH} (a0_0p : Option Addr) (a0_0n a0_0c : Nat) (a0_1 : Int) (a0_2p : Option Addr) (a0_2n a0_2c : Nat) (a0_3p : Option Addr) (a0_3n a0_3c : Nat) (a1 : Option Addr) (h : F_machine_Next a0_0p a0_0n a0_0c a0_1 a0_2p a0_2n a0_2c a0_3p a0_3n a0_3c a1 R H) : Call prog f_machine_Next [.agg #[.slice a0_0p a0_0n a0_0c, .int .i64 a0_1, .slice a0_2p a0_2n a0_2c, .slice a0_3p a0_3n a0_3c], .pointer a1] H R := by
  have e : F_machine_Next a0_0p a0_0n a0_0c a0_1 a0_2p a0_2n a0_2c a0_3p a0_3n a0_3c a1 R H = zfun prog f_machine_Next [2, 4]
    (.seq none .u (.seq none (.draw [⟨0, [], []⟩, ⟨1, [], []⟩, ⟨2, [], []⟩, ⟨3, [], []⟩, ⟨4, [], []⟩, ⟨5, [], []⟩, ⟨6, [], []⟩, ⟨7, [], []⟩, ⟨8, [], []⟩, ⟨9, [], []⟩]) (.seq none .u (.seq none .u (.seq none .u (.seq none .u (.seq (some ⟨[(4, .box [(.int .i64), (.int .i64), .bool]), (10, .one .val)], [2, 3, 6, 7, 8]⟩) (.seq none .u (.block (.seq none .u (.cond (.seq none .u (.seq none .u .u)) (.seq none .u (.cond .u (.seq none .u (.cond .u (.seq none .u (.cond (.seq none (.draw [⟨0, [], []⟩, ⟨1, [], []⟩, ⟨2, [], []⟩, ⟨3, [], []⟩, ⟨4, [], []⟩, ⟨5, [], []⟩, ⟨6, [], []⟩, ⟨7, [], []⟩, ⟨8, [], []⟩, ⟨9, [], []⟩, ⟨10, [], []⟩, ⟨11, [], []⟩, ⟨12, [], []⟩, ⟨13, [], []⟩, ⟨14, [], []⟩, ⟨15, [], []⟩, ⟨16, [], []⟩, ⟨17, [], []⟩, ⟨18, [], [22]⟩, ⟨19, [], []⟩, ⟨20, [], []⟩, ⟨21, [], []⟩, ⟨22, [], []⟩, ⟨23, [], []⟩, ⟨24, [], []⟩]) .u) (.seq (some ⟨[(72, .one .bool)], [2, 3, 4, 6, 7, 8, 9, 10, 34]⟩) (.seq none .u (.cond .u .u)) (.cond (.seq none (.draw [⟨0, [], []⟩, ⟨1, [], []⟩, ⟨2, [], []⟩, ⟨3, [], []⟩, ⟨4, [], []⟩, ⟨5, [], []⟩, ⟨6, [], []⟩, ⟨7, [], []⟩, ⟨8, [], []⟩, ⟨9, [], []⟩, ⟨10, [], []⟩, ⟨11, [], []⟩, ⟨12, [], []⟩]) (.seq none (.seq none .u (.cond (.seq none .u .u) .u)) (.seq none .u (.seq none .u (.cond .u .u))))) (.seq none .u (.cond .u (.seq none .u (.cond (.draw [⟨0, [], []⟩, ⟨1, [], []⟩, ⟨2, [], []⟩, ⟨3, [], []⟩, ⟨4, [], []⟩, ⟨5, [], []⟩, ⟨6, [], []⟩, ⟨7, [], []⟩, ⟨8, [], []⟩, ⟨9, [], []⟩, ⟨10, [], []⟩]) (.seq (some ⟨[(118, .one .bool)], [2, 3, 4, 6, 7, 8, 10]⟩) (.seq none .u (.cond .u .u)) (.cond (.seq none .u (.seq none (.seq none (.draw [⟨0, [], []⟩, ⟨1, [], []⟩, ⟨2, [], []⟩, ⟨3, [], []⟩, ⟨4, [], []⟩, ⟨5, [], []⟩, ⟨6, [], []⟩, ⟨7, [], []⟩, ⟨8, [], []⟩, ⟨9, [], []⟩]) (.cond (.seq none .u .u) .u)) .u)) .u)))))))))))))))))) (.seq (some ⟨[(8, .one (.int .i64))], [2, 3, 4, 7, 10]⟩) (.seq none .u (.cond .u .u)) (.seq none (.seq none .u (.cond (.seq none .u .u) .u)) (.seq none .u (.seq none .u (.seq none .u .u))))))))))))
    [.agg #[.slice a0_0p a0_0n a0_0c, .int .i64 a0_1, .slice a0_2p a0_2n a0_2c, .slice a0_3p a0_3n a0_3c], .pointer a1] R H := by kernel_rfl
  rw [e] at h
  exact call_of_zfun mixed h

end Go.Lg
