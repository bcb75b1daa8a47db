/- What each function asks, part 2. No condition. -/
import Derived.Test.YtaehendkbicepaaFN
set_option linter.unusedVariables false
set_option maxRecDepth 100000
namespace Go.Lg
open Go
/-- timebound/timeboundref20.Check -/
def F_ref20_Check (a0_0p : Option Addr) (a0_0n a0_0c : Nat) (a0_1 : Int) (a0_2p : Option Addr) (a0_2n a0_2c : Nat) (a0_3p : Option Addr) (a0_3n a0_3c : Nat) (R : Value → LH → Prop) (H : LH) : Prop :=
  ((a0_0p = none) → (a0_0n = 0) ∧ (a0_0c = 0)) ∧ (((decide ((1024 : Int) < (a0_0n : Int))) = true) → (R (Value.int .i64 (4 : Int)) H)) ∧ (((decide ((1024 : Int) < (a0_0n : Int))) = false) → (((decide ((1024 : Int) <
    a0_1)) = true) → (R (Value.int .i64 (4 : Int)) H)) ∧ (((decide ((1024 : Int) < a0_1)) = false) → ((a0_3p = none) → (a0_3n = 0) ∧ (a0_3c = 0)) ∧ (((decide ((6 : Int) < (a0_3n : Int))) = true) → (R (Value.int .i64 (4 :
    Int)) H)) ∧ (((decide ((6 : Int) < (a0_3n : Int))) = false) → ∃ K1 : (Int → LH → Prop), ∃ K2 : (Int → LH → Nat), (K1 (0 : Int) H) ∧ ∀ x3 : Int, ∀ H4 : LH, (K1 x3 H4) → ((a0_0p = none) → (a0_0n = 0) ∧ (a0_0c = 0)) ∧
    (((decide (x3 < (a0_0n : Int))) = true) → ∃ n5 n6 : Nat, (a0_0p = (some (Addr.mk n5 n6 none))) ∧ ((0 : Int) ≤ x3) ∧ (x3 < (a0_0n : Int)) ∧ ∃ x7 : Int, (hAt H4 n5 (n6 + ((Int.toNat x3) * 6)) (Value.int .i64 x7)) ∧ ∃
    x8 : Int, (hAt H4 n5 ((n6 + ((Int.toNat x3) * 6)) + 1) (Value.int .i64 x8)) ∧ ∃ x9 : Int, (hAt H4 n5 (((n6 + ((Int.toNat x3) * 6)) + 1) + 1) (Value.int .i64 x9)) ∧ ∃ x10 : Int, (hAt H4 n5 ((((n6 + ((Int.toNat x3) *
    6)) + 1) + 1) + 1) (Value.int .i64 x10)) ∧ ∃ x11 : Int, (hAt H4 n5 (((((n6 + ((Int.toNat x3) * 6)) + 1) + 1) + 1) + 1) (Value.int .i64 x11)) ∧ ∃ x12 : Int, (hAt H4 n5 ((((((n6 + ((Int.toNat x3) * 6)) + 1) + 1) + 1) +
    1) + 1) (Value.int .i64 x12)) ∧ (XCall prog f_ref19_Check [(Value.agg #[(Value.int .i64 x7), (Value.int .i64 x8), (Value.int .i64 x9), (Value.int .i64 x10), (Value.int .i64 x11), (Value.int .i64 x12)])] H4 (fun (v13
    : Value) (H14 : LH) => ∃ x15 : Int, (v13 = (Value.int .i64 x15)) ∧ (((Bool.not (decide (x15 = (0 : Int)))) = true) → (R (Value.int .i64 x15) H14)) ∧ (((Bool.not (decide (x15 = (0 : Int)))) = false) → (K1
    (IntKind.wrap .i64 (x3 + (1 : Int))) H14) ∧ ((K2 (IntKind.wrap .i64 (x3 + (1 : Int))) H14) < (K2 x3 H4)))))) ∧ (((decide (x3 < (a0_0n : Int))) = false) → (((decide (a0_1 < (0 : Int))) = true) → (R (Value.int .i64 (10
    : Int)) H4)) ∧ (((decide (a0_1 < (0 : Int))) = false) → ∃ K16 : (Int → Int → LH → Prop), ∃ K17 : (Int → Int → LH → Nat), (K16 (0 : Int) (0 : Int) H4) ∧ ∀ x18 : Int, ∀ x19 : Int, ∀ H20 : LH, (K16 x18 x19 H20) →
    ((a0_3p = none) → (a0_3n = 0) ∧ (a0_3c = 0)) ∧ (((decide (x19 < (a0_3n : Int))) = true) → ∃ n21 n22 : Nat, (a0_3p = (some (Addr.mk n21 n22 none))) ∧ ((0 : Int) ≤ x19) ∧ (x19 < (a0_3n : Int)) ∧ ∃ s23 : ByteArray, (hAt
    H20 n21 (n22 + ((Int.toNat x19) * 10)) (Value.string s23)) ∧ ∃ p24 : (Option Addr), ∃ n25 n26 : Nat, (hAt H20 n21 ((n22 + ((Int.toNat x19) * 10)) + 1) (Value.slice p24 n25 n26)) ∧ ∃ p27 : (Option Addr), ∃ n28 n29 :
    Nat, (hAt H20 n21 (((n22 + ((Int.toNat x19) * 10)) + 1) + 1) (Value.slice p27 n28 n29)) ∧ ∃ p30 : (Option Addr), ∃ n31 n32 : Nat, (hAt H20 n21 ((((n22 + ((Int.toNat x19) * 10)) + 1) + 1) + 1) (Value.slice p30 n31
    n32)) ∧ ∃ p33 : (Option Addr), ∃ n34 n35 : Nat, (hAt H20 n21 (((((n22 + ((Int.toNat x19) * 10)) + 1) + 1) + 1) + 1) (Value.slice p33 n34 n35)) ∧ ∃ p36 : (Option Addr), ∃ n37 n38 : Nat, (hAt H20 n21 ((((((n22 +
    ((Int.toNat x19) * 10)) + 1) + 1) + 1) + 1) + 1) (Value.slice p36 n37 n38)) ∧ ∃ p39 : (Option Addr), ∃ n40 n41 : Nat, (hAt H20 n21 (((((((n22 + ((Int.toNat x19) * 10)) + 1) + 1) + 1) + 1) + 1) + 1) (Value.slice p39
    n40 n41)) ∧ ∃ p42 : (Option Addr), ∃ n43 n44 : Nat, (hAt H20 n21 ((((((((n22 + ((Int.toNat x19) * 10)) + 1) + 1) + 1) + 1) + 1) + 1) + 1) (Value.slice p42 n43 n44)) ∧ ∃ p45 : (Option Addr), ∃ n46 n47 : Nat, (hAt H20
    n21 (((((((((n22 + ((Int.toNat x19) * 10)) + 1) + 1) + 1) + 1) + 1) + 1) + 1) + 1) (Value.slice p45 n46 n47)) ∧ ∃ p48 : (Option Addr), ∃ n49 n50 : Nat, (hAt H20 n21 ((((((((((n22 + ((Int.toNat x19) * 10)) + 1) + 1) +
    1) + 1) + 1) + 1) + 1) + 1) + 1) (Value.slice p48 n49 n50)) ∧ ((p24 = none) → (n25 = 0) ∧ (n26 = 0)) ∧ (((decide ((n25 : Int) = (0 : Int))) = true) → (R (Value.int .i64 (10 : Int)) H20)) ∧ (((decide ((n25 : Int) = (0
    : Int))) = false) → ((p24 = none) → (n25 = 0) ∧ (n26 = 0)) ∧ (((decide ((1024 : Int) < (n25 : Int))) = true) → (R (Value.int .i64 (10 : Int)) H20)) ∧ (((decide ((1024 : Int) < (n25 : Int))) = false) → ∃ K51 : (Int →
    Int → LH → Prop), ∃ K52 : (Int → Int → LH → Nat), (K51 x18 (0 : Int) H20) ∧ ∀ x53 : Int, ∀ x54 : Int, ∀ H55 : LH, (K51 x53 x54 H55) → ((p24 = none) → (n25 = 0) ∧ (n26 = 0)) ∧ (((decide (x54 < (n25 : Int))) = true) →
    ∃ n56 n57 : Nat, (p24 = (some (Addr.mk n56 n57 none))) ∧ ((0 : Int) ≤ x54) ∧ (x54 < (n25 : Int)) ∧ ∃ x58 : Int, (hAt H55 n56 (n57 + ((Int.toNat x54) * 4)) (Value.int .i64 x58)) ∧ ∃ x59 : Int, (hAt H55 n56 ((n57 +
    ((Int.toNat x54) * 4)) + 1) (Value.int .i64 x59)) ∧ ∃ p60 : (Option Addr), ∃ n61 n62 : Nat, (hAt H55 n56 (((n57 + ((Int.toNat x54) * 4)) + 1) + 1) (Value.slice p60 n61 n62)) ∧ ∃ p63 : (Option Addr), ∃ n64 n65 : Nat,
    (hAt H55 n56 ((((n57 + ((Int.toNat x54) * 4)) + 1) + 1) + 1) (Value.slice p63 n64 n65)) ∧ (((Bool.not (decide (x58 = x53))) = true) → (R (Value.int .i64 (10 : Int)) H55)) ∧ (((Bool.not (decide (x58 = x53))) = false)
    → (((decide (x59 < (1 : Int))) = true) → (R (Value.int .i64 (10 : Int)) H55)) ∧ (((decide (x59 < (1 : Int))) = false) → ((a0_0p = none) → (a0_0n = 0) ∧ (a0_0c = 0)) ∧ (((decide ((IntKind.wrap .i64 ((a0_0n : Int) -
    x53)) < x59)) = true) → (R (Value.int .i64 (10 : Int)) H55)) ∧ (((decide ((IntKind.wrap .i64 ((a0_0n : Int) - x53)) < x59)) = false) → (K51 (IntKind.wrap .i64 (x53 + x59)) (IntKind.wrap .i64 (x54 + (1 : Int))) H55) ∧
    ((K52 (IntKind.wrap .i64 (x53 + x59)) (IntKind.wrap .i64 (x54 + (1 : Int))) H55) < (K52 x53 x54 H55)))))) ∧ (((decide (x54 < (n25 : Int))) = false) → ∃ K66 : (Int → Int → LH → Prop), ∃ K67 : (Int → Int → LH → Nat),
    (K66 (0 : Int) (0 : Int) H55) ∧ ∀ x68 : Int, ∀ x69 : Int, ∀ H70 : LH, (K66 x68 x69 H70) → ((p24 = none) → (n25 = 0) ∧ (n26 = 0)) ∧ (((decide (x69 < (n25 : Int))) = true) → ∃ n71 n72 : Nat, (p24 = (some (Addr.mk n71
    n72 none))) ∧ ((0 : Int) ≤ x69) ∧ (x69 < (n25 : Int)) ∧ ∃ x73 : Int, (hAt H70 n71 (n72 + ((Int.toNat x69) * 4)) (Value.int .i64 x73)) ∧ ∃ x74 : Int, (hAt H70 n71 ((n72 + ((Int.toNat x69) * 4)) + 1) (Value.int .i64
    x74)) ∧ ∃ p75 : (Option Addr), ∃ n76 n77 : Nat, (hAt H70 n71 (((n72 + ((Int.toNat x69) * 4)) + 1) + 1) (Value.slice p75 n76 n77)) ∧ ∃ p78 : (Option Addr), ∃ n79 n80 : Nat, (hAt H70 n71 ((((n72 + ((Int.toNat x69) *
    4)) + 1) + 1) + 1) (Value.slice p78 n79 n80)) ∧ (XCall prog f_ref20_node [(Value.agg #[(Value.slice a0_0p a0_0n a0_0c), (Value.int .i64 a0_1), (Value.slice a0_2p a0_2n a0_2c), (Value.slice a0_3p a0_3n a0_3c)]),
    (Value.agg #[(Value.string s23), (Value.slice p24 n25 n26), (Value.slice p27 n28 n29), (Value.slice p30 n31 n32), (Value.slice p33 n34 n35), (Value.slice p36 n37 n38), (Value.slice p39 n40 n41), (Value.slice p42 n43
    n44), (Value.slice p45 n46 n47), (Value.slice p48 n49 n50)]), (Value.int .i64 x69)] H70 (fun (v81 : Value) (H82 : LH) => ∃ b83 : Bool, (v81 = (Value.bool b83)) ∧ (((Bool.not b83) = true) → (R (Value.int .i64 (10 :
    Int)) H82)) ∧ (((Bool.not b83) = false) → ∃ n84 n85 : Nat, (a0_0p = (some (Addr.mk n84 n85 none))) ∧ ((0 : Int) ≤ (IntKind.wrap .i64 ((IntKind.wrap .i64 (x73 + x74)) - (1 : Int)))) ∧ ((IntKind.wrap .i64
    ((IntKind.wrap .i64 (x73 + x74)) - (1 : Int))) < (a0_0n : Int)) ∧ ∃ x86 : Int, (hAt H82 n84 ((n85 + ((Int.toNat (IntKind.wrap .i64 ((IntKind.wrap .i64 (x73 + x74)) - (1 : Int)))) * 6)) + 0) (Value.int .i64 x86)) ∧
    (((decide (x86 = (10 : Int))) = true) → (K66 (IntKind.wrap .i64 (x68 + (1 : Int))) (IntKind.wrap .i64 (x69 + (1 : Int))) H82) ∧ ((K67 (IntKind.wrap .i64 (x68 + (1 : Int))) (IntKind.wrap .i64 (x69 + (1 : Int))) H82) <
    (K67 x68 x69 H70))) ∧ (((decide (x86 = (10 : Int))) = false) → (K66 x68 (IntKind.wrap .i64 (x69 + (1 : Int))) H82) ∧ ((K67 x68 (IntKind.wrap .i64 (x69 + (1 : Int))) H82) < (K67 x68 x69 H70))))))) ∧ (((decide (x69 <
    (n25 : Int))) = false) → (((Bool.not (decide (x68 = (1 : Int)))) = true) → (R (Value.int .i64 (10 : Int)) H70)) ∧ (((Bool.not (decide (x68 = (1 : Int)))) = false) → (XCall prog f_ref20_unit [(Value.agg
    #[(Value.string s23), (Value.slice p24 n25 n26), (Value.slice p27 n28 n29), (Value.slice p30 n31 n32), (Value.slice p33 n34 n35), (Value.slice p36 n37 n38), (Value.slice p39 n40 n41), (Value.slice p42 n43 n44),
    (Value.slice p45 n46 n47), (Value.slice p48 n49 n50)])] H70 (fun (v87 : Value) (H88 : LH) => ∃ b89 : Bool, (v87 = (Value.bool b89)) ∧ (((Bool.not b89) = true) → (R (Value.int .i64 (10 : Int)) H88)) ∧ (((Bool.not b89)
    = false) → (K16 x53 (IntKind.wrap .i64 (x19 + (1 : Int))) H88) ∧ ((K17 x53 (IntKind.wrap .i64 (x19 + (1 : Int))) H88) < (K17 x18 x19 H20))))))))))) ∧ (((decide (x19 < (a0_3n : Int))) = false) → ((a0_0p = none) →
    (a0_0n = 0) ∧ (a0_0c = 0)) ∧ (((Bool.not (decide (x18 = (a0_0n : Int)))) = true) → (R (Value.int .i64 (10 : Int)) H20)) ∧ (((Bool.not (decide (x18 = (a0_0n : Int)))) = false) → (R (Value.int .i64 (0 : Int))
    H20))))))))

theorem F_ref20_Check_call {R : Value → LH → Prop} {H : LH} (a0_0p : Option Addr) (a0_0n a0_0c : Nat) (a0_1 : Int) (a0_2p : Option Addr) (a0_2n a0_2c : Nat) (a0_3p : Option Addr) (a0_3n a0_3c : Nat) (h : F_ref20_Check a0_0p a0_0n a0_0c a0_1 a0_2p a0_2n a0_2c a0_3p a0_3n a0_3c R H) : Call prog f_ref20_Check [.agg #[.slice a0_0p a0_0n a0_0c, .int .i64 a0_1, .slice a0_2p a0_2n a0_2c, .slice a0_3p a0_3n a0_3c]] H R := by
  have e : F_ref20_Check a0_0p a0_0n a0_0c a0_1 a0_2p a0_2n a0_2c a0_3p a0_3n a0_3c R H = zfun prog f_ref20_Check [1, 7, 9, 12]
    (.seq none .u (.seq none (.seq none .u (.cond (.seq none .u .u) .u)) (.seq none (.seq none .u (.block (.loop ⟨[(3, .one (.int .i64))], [1]⟩ (.seq none (.seq none .u (.cond .u .u)) (.seq none (.block (.seq none .u (.seq none .u (.cond (.seq none .u .u) .u)))) .u))))) (.seq none (.seq none .u (.cond (.seq none .u .u) .u)) (.seq none .u (.seq none (.seq none .u (.block (.loop ⟨[(5, .one (.int .i64)), (6, .one (.int .i64))], [1]⟩ (.seq none (.seq none .u (.cond .u .u)) (.seq none (.block (.seq none .u (.seq none (.seq none .u (.cond (.seq none .u .u) .u)) (.seq none (.seq none .u (.block (.loop ⟨[(5, .one (.int .i64)), (8, .one (.int .i64))], [1, 6, 7]⟩ (.seq none (.seq none .u (.cond .u .u)) (.seq none (.block (.seq none .u (.seq none (.seq none .u (.cond (.seq none .u .u) .u)) .u))) .u))))) (.seq none .u (.seq none (.seq none .u (.block (.loop ⟨[(10, .one (.int .i64)), (11, .one (.int .i64))], [1, 5, 6, 7]⟩ (.seq none (.seq none .u (.cond .u .u)) (.seq none (.block (.seq none .u (.seq none (.seq none .u (.cond (.seq none .u .u) .u)) (.seq none .u (.cond .u .u))))) .u))))) (.seq none .u (.cond (.seq none .u .u) .u)))))))) .u))))) (.seq none (.seq none .u (.cond (.seq none .u .u) .u)) (.seq none .u .u))))))))
    [.agg #[.slice a0_0p a0_0n a0_0c, .int .i64 a0_1, .slice a0_2p a0_2n a0_2c, .slice a0_3p a0_3n a0_3c]] R H := by kernel_rfl
  rw [e] at h
  exact call_of_zfun mixed h

/-- timebound/timeboundref21.Copy -/
def F_ref21_Copy (a0_0p : Option Addr) (a0_0n a0_0c : Nat) (a0_1p : Option Addr) (a0_1n a0_1c : Nat) (a0_2p : Option Addr) (a0_2n a0_2c : Nat) (a0_3 : Int) (a0_4 : Bool) (R : Value → LH → Prop) (H : LH) : Prop :=
  ∀ H1 : LH, (H1 = (LH.new H (LObj.cells [] 1 false))) → ∃ p2 : (Option Addr), ∃ n3 n4 : Nat, ∃ H5 : LH, ((appV H1 none 1 8 (Value.slice (some (Addr.mk (LH.next H) 0 none)) 0 0) (Value.slice a0_0p a0_0n a0_0c)) = (some
    ((Value.slice p2 n3 n4), H5))) ∧ ∀ H6 : LH, (H6 = (LH.new H5 (LObj.cells [] 1 false))) → ∃ p7 : (Option Addr), ∃ n8 n9 : Nat, ∃ H10 : LH, ((appV H6 none 1 8 (Value.slice (some (Addr.mk (LH.next H5) 0 none)) 0 0)
    (Value.slice a0_1p a0_1n a0_1c)) = (some ((Value.slice p7 n8 n9), H10))) ∧ ∀ H11 : LH, (H11 = (LH.new H10 (LObj.cells [] 1 false))) → ∃ p12 : (Option Addr), ∃ n13 n14 : Nat, ∃ H15 : LH, ((appV H11 none 1 1
    (Value.slice (some (Addr.mk (LH.next H10) 0 none)) 0 0) (Value.slice a0_2p a0_2n a0_2c)) = (some ((Value.slice p12 n13 n14), H15))) ∧ (R (Value.agg #[(Value.slice p2 n3 n4), (Value.slice p7 n8 n9), (Value.slice p12
    n13 n14), (Value.int .i64 a0_3), (Value.bool a0_4)]) H15)

theorem F_ref21_Copy_call {R : Value → LH → Prop} {H : LH} (a0_0p : Option Addr) (a0_0n a0_0c : Nat) (a0_1p : Option Addr) (a0_1n a0_1c : Nat) (a0_2p : Option Addr) (a0_2n a0_2c : Nat) (a0_3 : Int) (a0_4 : Bool) (h : F_ref21_Copy a0_0p a0_0n a0_0c a0_1p a0_1n a0_1c a0_2p a0_2n a0_2c a0_3 a0_4 R H) : Call prog f_ref21_Copy [.agg #[.slice a0_0p a0_0n a0_0c, .slice a0_1p a0_1n a0_1c, .slice a0_2p a0_2n a0_2c, .int .i64 a0_3, .bool a0_4]] H R := by
  have e : F_ref21_Copy a0_0p a0_0n a0_0c a0_1p a0_1n a0_1c a0_2p a0_2n a0_2c a0_3 a0_4 R H = zfun prog f_ref21_Copy [1, 2]
    (.seq none .u (.seq none .u (.seq none .u (.seq none .u (.seq none .u .u)))))
    [.agg #[.slice a0_0p a0_0n a0_0c, .slice a0_1p a0_1n a0_1c, .slice a0_2p a0_2n a0_2c, .int .i64 a0_3, .bool a0_4]] R H := by kernel_rfl
  rw [e] at h
  exact call_of_zfun mixed h

/-- timebound/timeboundref21.step -/
def F_ref21_step (a0_0p : Option Addr) (a0_0n a0_0c : Nat) (a0_1 : Int) (a0_2p : Option Addr) (a0_2n a0_2c : Nat) (a0_3p : Option Addr) (a0_3n a0_3c : Nat) (a1 : Option Addr) (R : Value → LH → Prop) (H : LH) : Prop :=
  ∀ H1 : LH, (H1 = (LH.keep H 10)) → ∃ n2 n3 : Nat, (a1 = (some (Addr.mk n2 n3 none))) ∧ ∃ x4 : Int, (hAt H1 n2 (n3 + 3) (Value.int .i64 x4)) ∧ ∃ n5 n6 : Nat, (a0_0p = (some (Addr.mk n5 n6 none))) ∧ ((0 : Int) ≤ x4) ∧ (x4
    < (a0_0n : Int)) ∧ ∃ x7 : Int, (hAt H1 n5 (n6 + ((Int.toNat x4) * 6)) (Value.int .i64 x7)) ∧ ∃ x8 : Int, (hAt H1 n5 ((n6 + ((Int.toNat x4) * 6)) + 1) (Value.int .i64 x8)) ∧ ∃ x9 : Int, (hAt H1 n5 (((n6 + ((Int.toNat
    x4) * 6)) + 1) + 1) (Value.int .i64 x9)) ∧ ∃ x10 : Int, (hAt H1 n5 ((((n6 + ((Int.toNat x4) * 6)) + 1) + 1) + 1) (Value.int .i64 x10)) ∧ ∃ x11 : Int, (hAt H1 n5 (((((n6 + ((Int.toNat x4) * 6)) + 1) + 1) + 1) + 1)
    (Value.int .i64 x11)) ∧ ∃ x12 : Int, (hAt H1 n5 ((((((n6 + ((Int.toNat x4) * 6)) + 1) + 1) + 1) + 1) + 1) (Value.int .i64 x12)) ∧ ∃ n13 n14 : Nat, (a1 = (some (Addr.mk n13 n14 none))) ∧ ∃ x15 : Int, (hAt H1 n13 (n14
    + 3) (Value.int .i64 x15)) ∧ ∃ n16 n17 : Nat, (a1 = (some (Addr.mk n16 n17 none))) ∧ ∃ x18 : Int, (hAt H1 n16 (n17 + 3) (Value.int .i64 x18)) ∧ ∀ K19 : (Int → Int → Bool → Int → Int → Bool → Int → LH → Prop), (∀ x20
    : Int, ∀ x21 : Int, ∀ b22 : Bool, ∀ x23 : Int, ∀ x24 : Int, ∀ b25 : Bool, ∀ x26 : Int, ∀ H27 : LH, (((a0_0p = none) → (a0_0n = 0) ∧ (a0_0c = 0)) ∧ (((decide ((a0_0n : Int) ≤ x26)) = true) → (R (Value.tuple
    #[(Value.agg #[(Value.int .i64 (0 : Int)), (Value.int .i64 (0 : Int)), (Value.bool false)]), (Value.int .i64 (12 : Int))]) H27)) ∧ (((decide ((a0_0n : Int) ≤ x26)) = false) → ∃ n28 n29 : Nat, (a1 = (some (Addr.mk n28
    n29 none))) ∧ ∃ l30 : (List Value), ∃ n31 : Nat, ((LH.get H27 n28) = (some (LObj.cells l30 n31 false))) ∧ (((n29 + 3) + 1) ≤ (List.length l30)) ∧ ∀ H32 : LH, (H32 = (LH.put H27 n28 (some (LObj.cells (setMany l30 (n29
    + 3) [(Value.int .i64 x26)]) n31 false)))) → ∀ K33 : (LH → Prop), (∀ H34 : LH, (∃ n35 n36 : Nat, (a1 = (some (Addr.mk n35 n36 none))) ∧ ∃ p37 : (Option Addr), ∃ n38 n39 : Nat, (hAt H34 n35 (n36 + 0) (Value.slice p37
    n38 n39)) ∧ ∃ n40 n41 : Nat, (p37 = (some (Addr.mk n40 n41 none))) ∧ ((0 : Int) ≤ (0 : Int)) ∧ ((0 : Int) < (n38 : Int)) ∧ ∃ l42 : (List Value), ∃ n43 : Nat, ((LH.get H34 n40) = (some (LObj.cells l42 n43 false))) ∧
    (((n41 + 0) + 1) ≤ (List.length l42)) ∧ ∀ H44 : LH, (H44 = (LH.put H34 n40 (some (LObj.cells (setMany l42 (n41 + 0) [(Value.int .i64 (0 : Int))]) n43 false)))) → (R (Value.tuple #[(Value.agg #[(Value.int .i64 x23),
    (Value.int .i64 x24), (Value.bool b25)]), (Value.int .i64 (0 : Int))]) H44)) → (K33 H34)) → (((decide (x7 = (1 : Int))) = true) → ∀ H46 : LH, (H46 = (LH.keep H32 10)) → ∃ n47 n48 : Nat, (a1 = (some (Addr.mk n47 n48
    none))) ∧ ∃ p49 : (Option Addr), ∃ n50 n51 : Nat, (hAt H46 n47 (n48 + 0) (Value.slice p49 n50 n51)) ∧ ∃ n52 n53 : Nat, (p49 = (some (Addr.mk n52 n53 none))) ∧ ((0 : Int) ≤ x8) ∧ (x8 < (n50 : Int)) ∧ ∃ l54 : (List
    Value), ∃ n55 : Nat, ((LH.get H46 n52) = (some (LObj.cells l54 n55 false))) ∧ (((n53 + ((Int.toNat x8) * 1)) + 1) ≤ (List.length l54)) ∧ ∀ H56 : LH, (H56 = (LH.put H46 n52 (some (LObj.cells (setMany l54 (n53 +
    ((Int.toNat x8) * 1)) [(Value.int .i64 x12)]) n55 false)))) → (K33 H56)) ∧ (((decide (x7 = (1 : Int))) = false) → (((decide (x7 = (2 : Int))) = true) → ∀ H57 : LH, (H57 = (LH.keep H32 16)) → ∃ n58 n59 : Nat, (a1 =
    (some (Addr.mk n58 n59 none))) ∧ ∃ p60 : (Option Addr), ∃ n61 n62 : Nat, (hAt H57 n58 (n59 + 0) (Value.slice p60 n61 n62)) ∧ ∃ n63 n64 : Nat, (a1 = (some (Addr.mk n63 n64 none))) ∧ ∃ p65 : (Option Addr), ∃ n66 n67 :
    Nat, (hAt H57 n63 (n64 + 0) (Value.slice p65 n66 n67)) ∧ ∃ n68 n69 : Nat, (p65 = (some (Addr.mk n68 n69 none))) ∧ ((0 : Int) ≤ x9) ∧ (x9 < (n66 : Int)) ∧ ∃ x70 : Int, (hAt H57 n68 (n69 + ((Int.toNat x9) * 1))
    (Value.int .i64 x70)) ∧ ∃ n71 n72 : Nat, (p60 = (some (Addr.mk n71 n72 none))) ∧ ((0 : Int) ≤ x8) ∧ (x8 < (n61 : Int)) ∧ ∃ l73 : (List Value), ∃ n74 : Nat, ((LH.get H57 n71) = (some (LObj.cells l73 n74 false))) ∧
    (((n72 + ((Int.toNat x8) * 1)) + 1) ≤ (List.length l73)) ∧ ∀ H75 : LH, (H75 = (LH.put H57 n71 (some (LObj.cells (setMany l73 (n72 + ((Int.toNat x8) * 1)) [(Value.int .i64 x70)]) n74 false)))) → (K33 H75)) ∧ (((decide
    (x7 = (2 : Int))) = false) → (((decide (x7 = (3 : Int))) = true) → ∀ H76 : LH, (H76 = (LH.keep H32 30)) → ∃ n77 n78 : Nat, (a1 = (some (Addr.mk n77 n78 none))) ∧ ∃ p79 : (Option Addr), ∃ n80 n81 : Nat, (hAt H76 n77
    (n78 + 0) (Value.slice p79 n80 n81)) ∧ ∃ n82 n83 : Nat, (a1 = (some (Addr.mk n82 n83 none))) ∧ ∃ p84 : (Option Addr), ∃ n85 n86 : Nat, (hAt H76 n82 (n83 + 0) (Value.slice p84 n85 n86)) ∧ ∃ n87 n88 : Nat, (p84 = (some
    (Addr.mk n87 n88 none))) ∧ ((0 : Int) ≤ x9) ∧ (x9 < (n85 : Int)) ∧ ∃ x89 : Int, (hAt H76 n87 (n88 + ((Int.toNat x9) * 1)) (Value.int .i64 x89)) ∧ ∃ n90 n91 : Nat, (a1 = (some (Addr.mk n90 n91 none))) ∧ ∃ p92 :
    (Option Addr), ∃ n93 n94 : Nat, (hAt H76 n90 (n91 + 0) (Value.slice p92 n93 n94)) ∧ ∃ n95 n96 : Nat, (p92 = (some (Addr.mk n95 n96 none))) ∧ ((0 : Int) ≤ x10) ∧ (x10 < (n93 : Int)) ∧ ∃ x97 : Int, (hAt H76 n95 (n96 +
    ((Int.toNat x10) * 1)) (Value.int .i64 x97)) ∧ (XCall prog f_ref01_Do [(Value.int .i64 x11), (Value.int .i64 x89), (Value.int .i64 x97)] H76 (fun (v98 : Value) (H99 : LH) => ∃ x100 x101 : Int, (v98 = (Value.tuple
    #[(Value.int .i64 x100), (Value.int .i64 x101)])) ∧ (∃ p102 : (Option Addr), ∃ n103 n104 : Nat, (hAt H99 n77 (n78 + 0) (Value.slice p102 n103 n104)) ∧ ((Value.slice p102 n103 n104) = (Value.slice p79 n80 n81))) ∧
    ((Value.int .i64 x8) = (Value.int .i64 x8)) ∧ ∃ n105 n106 : Nat, (p79 = (some (Addr.mk n105 n106 none))) ∧ ((0 : Int) ≤ x8) ∧ (x8 < (n80 : Int)) ∧ ∃ l107 : (List Value), ∃ n108 : Nat, ((LH.get H99 n105) = (some
    (LObj.cells l107 n108 false))) ∧ (((n106 + ((Int.toNat x8) * 1)) + 1) ≤ (List.length l107)) ∧ ∀ H109 : LH, (H109 = (LH.put H99 n105 (some (LObj.cells (setMany l107 (n106 + ((Int.toNat x8) * 1)) [(Value.int .i64
    x100)]) n108 false)))) → (K33 H109)))) ∧ (((decide (x7 = (3 : Int))) = false) → (((decide (x7 = (4 : Int))) = true) → ∀ H110 : LH, (H110 = (LH.keep H32 16)) → ∃ n111 n112 : Nat, (a1 = (some (Addr.mk n111 n112 none)))
    ∧ ∃ p113 : (Option Addr), ∃ n114 n115 : Nat, (hAt H110 n111 (n112 + 0) (Value.slice p113 n114 n115)) ∧ ∃ n116 n117 : Nat, (a1 = (some (Addr.mk n116 n117 none))) ∧ ∃ p118 : (Option Addr), ∃ n119 n120 : Nat, (hAt H110
    n116 (n117 + 1) (Value.slice p118 n119 n120)) ∧ ∃ n121 n122 : Nat, (p118 = (some (Addr.mk n121 n122 none))) ∧ ((0 : Int) ≤ x24) ∧ (x24 < (n119 : Int)) ∧ ∃ x123 : Int, (hAt H110 n121 (n122 + ((Int.toNat x24) * 1))
    (Value.int .i64 x123)) ∧ ∃ n124 n125 : Nat, (p113 = (some (Addr.mk n124 n125 none))) ∧ ((0 : Int) ≤ x8) ∧ (x8 < (n114 : Int)) ∧ ∃ l126 : (List Value), ∃ n127 : Nat, ((LH.get H110 n124) = (some (LObj.cells l126 n127
    false))) ∧ (((n125 + ((Int.toNat x8) * 1)) + 1) ≤ (List.length l126)) ∧ ∀ H128 : LH, (H128 = (LH.put H110 n124 (some (LObj.cells (setMany l126 (n125 + ((Int.toNat x8) * 1)) [(Value.int .i64 x123)]) n127 false)))) →
    (K33 H128)) ∧ (((decide (x7 = (4 : Int))) = false) → (((decide (x7 = (5 : Int))) = true) → ∀ H129 : LH, (H129 = (LH.keep H32 16)) → ∃ n130 n131 : Nat, (a1 = (some (Addr.mk n130 n131 none))) ∧ ∃ p132 : (Option Addr),
    ∃ n133 n134 : Nat, (hAt H129 n130 (n131 + 1) (Value.slice p132 n133 n134)) ∧ ∃ n135 n136 : Nat, (a1 = (some (Addr.mk n135 n136 none))) ∧ ∃ p137 : (Option Addr), ∃ n138 n139 : Nat, (hAt H129 n135 (n136 + 0)
    (Value.slice p137 n138 n139)) ∧ ∃ n140 n141 : Nat, (p137 = (some (Addr.mk n140 n141 none))) ∧ ((0 : Int) ≤ x8) ∧ (x8 < (n138 : Int)) ∧ ∃ x142 : Int, (hAt H129 n140 (n141 + ((Int.toNat x8) * 1)) (Value.int .i64 x142))
    ∧ ∃ n143 n144 : Nat, (p132 = (some (Addr.mk n143 n144 none))) ∧ ((0 : Int) ≤ x24) ∧ (x24 < (n133 : Int)) ∧ ∃ l145 : (List Value), ∃ n146 : Nat, ((LH.get H129 n143) = (some (LObj.cells l145 n146 false))) ∧ (((n144 +
    ((Int.toNat x24) * 1)) + 1) ≤ (List.length l145)) ∧ ∀ H147 : LH, (H147 = (LH.put H129 n143 (some (LObj.cells (setMany l145 (n144 + ((Int.toNat x24) * 1)) [(Value.int .i64 x142)]) n146 false)))) → (K33 H147)) ∧
    (((decide (x7 = (5 : Int))) = false) → (((decide (x7 = (8 : Int))) = true) → ∀ H148 : LH, (H148 = (LH.keep H32 8)) → ∃ n149 n150 : Nat, (a1 = (some (Addr.mk n149 n150 none))) ∧ ∃ p151 : (Option Addr), ∃ n152 n153 :
    Nat, (hAt H148 n149 (n150 + 2) (Value.slice p151 n152 n153)) ∧ ∃ n154 n155 : Nat, (p151 = (some (Addr.mk n154 n155 none))) ∧ ((0 : Int) ≤ x12) ∧ (x12 < (n152 : Int)) ∧ ∃ l156 : (List Value), ∃ n157 : Nat, ((LH.get
    H148 n154) = (some (LObj.cells l156 n157 false))) ∧ (((n155 + ((Int.toNat x12) * 1)) + 1) ≤ (List.length l156)) ∧ ∀ H158 : LH, (H158 = (LH.put H148 n154 (some (LObj.cells (setMany l156 (n155 + ((Int.toNat x12) * 1))
    [(Value.bool true)]) n157 false)))) → (K33 H158)) ∧ (((decide (x7 = (8 : Int))) = false) → (((decide (x7 = (9 : Int))) = true) → ∀ H159 : LH, (H159 = (LH.keep H32 8)) → ∃ n160 n161 : Nat, (a1 = (some (Addr.mk n160
    n161 none))) ∧ ∃ p162 : (Option Addr), ∃ n163 n164 : Nat, (hAt H159 n160 (n161 + 2) (Value.slice p162 n163 n164)) ∧ ∃ n165 n166 : Nat, (p162 = (some (Addr.mk n165 n166 none))) ∧ ((0 : Int) ≤ x12) ∧ (x12 < (n163 :
    Int)) ∧ ∃ l167 : (List Value), ∃ n168 : Nat, ((LH.get H159 n165) = (some (LObj.cells l167 n168 false))) ∧ (((n166 + ((Int.toNat x12) * 1)) + 1) ≤ (List.length l167)) ∧ ∀ H169 : LH, (H169 = (LH.put H159 n165 (some
    (LObj.cells (setMany l167 (n166 + ((Int.toNat x12) * 1)) [(Value.bool false)]) n168 false)))) → (K33 H169)) ∧ (((decide (x7 = (9 : Int))) = false) → (((decide (x7 = (10 : Int))) = true) → ∃ n170 n171 : Nat, (a1 =
    (some (Addr.mk n170 n171 none))) ∧ ∃ l172 : (List Value), ∃ n173 : Nat, ((LH.get H32 n170) = (some (LObj.cells l172 n173 false))) ∧ (((n171 + 4) + 1) ≤ (List.length l172)) ∧ ∀ H174 : LH, (H174 = (LH.put H32 n170
    (some (LObj.cells (setMany l172 (n171 + 4) [(Value.bool true)]) n173 false)))) → (K33 H174)) ∧ (((decide (x7 = (10 : Int))) = false) → (K33 H32))))))))))) → (K19 x20 x21 b22 x23 x24 b25 x26 H27)) → ∀ K176 : (Bool →
    LH → Prop), (∀ b177 : Bool, ∀ H178 : LH, (((b177 = true) → ∀ H179 : LH, (H179 = (LH.keep H178 12)) → ∃ n180 n181 : Nat, (a1 = (some (Addr.mk n180 n181 none))) ∧ ∃ p182 : (Option Addr), ∃ n183 n184 : Nat, (hAt H179
    n180 (n181 + 2) (Value.slice p182 n183 n184)) ∧ ∃ n185 n186 : Nat, (p182 = (some (Addr.mk n185 n186 none))) ∧ ((0 : Int) ≤ x12) ∧ (x12 < (n183 : Int)) ∧ ∃ b187 : Bool, (hAt H179 n185 (n186 + ((Int.toNat x12) * 1))
    (Value.bool b187)) ∧ (((Bool.not (b187 == (decide (x7 = (9 : Int))))) = true) → (R (Value.tuple #[(Value.agg #[(Value.int .i64 (0 : Int)), (Value.int .i64 (0 : Int)), (Value.bool false)]), (Value.int .i64 (14 :
    Int))]) H179)) ∧ (((Bool.not (b187 == (decide (x7 = (9 : Int))))) = false) → (K19 (0 : Int) (0 : Int) false x15 (-(1 : Int)) false (IntKind.wrap .i64 (x18 + (1 : Int))) H179))) ∧ ((b177 = false) → ∀ K188 : (Bool → LH
    → Prop), (∀ b189 : Bool, ∀ H190 : LH, (((b189 = true) → ∀ H191 : LH, (H191 = (LH.keep H190 13)) → ∃ n192 n193 : Nat, (a1 = (some (Addr.mk n192 n193 none))) ∧ ∃ p194 : (Option Addr), ∃ n195 n196 : Nat, (hAt H191 n192
    (n193 + 0) (Value.slice p194 n195 n196)) ∧ ∃ n197 n198 : Nat, (p194 = (some (Addr.mk n197 n198 none))) ∧ ((0 : Int) ≤ x9) ∧ (x9 < (n195 : Int)) ∧ ∃ x199 : Int, (hAt H191 n197 (n198 + ((Int.toNat x9) * 1)) (Value.int
    .i64 x199)) ∧ (((decide ((IntKind.wrap .i64 (x199 + x12)) < (0 : Int))) = true) → (R (Value.tuple #[(Value.agg #[(Value.int .i64 (0 : Int)), (Value.int .i64 (0 : Int)), (Value.bool false)]), (Value.int .i64 (12 :
    Int))]) H191)) ∧ (((decide ((IntKind.wrap .i64 (x199 + x12)) < (0 : Int))) = false) → (((decide (a0_1 ≤ (IntKind.wrap .i64 (x199 + x12)))) = true) → (R (Value.tuple #[(Value.agg #[(Value.int .i64 (0 : Int)),
    (Value.int .i64 (0 : Int)), (Value.bool false)]), (Value.int .i64 (12 : Int))]) H191)) ∧ (((decide (a0_1 ≤ (IntKind.wrap .i64 (x199 + x12)))) = false) → (K19 (0 : Int) (0 : Int) false x15 (IntKind.wrap .i64 (x199 +
    x12)) false (IntKind.wrap .i64 (x18 + (1 : Int))) H191)))) ∧ ((b189 = false) → (((decide (x7 = (6 : Int))) = true) → ∀ H200 : LH, (H200 = (LH.keep H190 5)) → ((Value.int .i64 x12) = (Value.int .i64 x12)) ∧ (K19 (0 :
    Int) (0 : Int) false x15 (-(1 : Int)) true x12 H200)) ∧ (((decide (x7 = (6 : Int))) = false) → (((decide (x7 = (7 : Int))) = true) → ∀ H201 : LH, (H201 = (LH.keep H190 9)) → ∃ n202 n203 : Nat, (a1 = (some (Addr.mk
    n202 n203 none))) ∧ ∃ p204 : (Option Addr), ∃ n205 n206 : Nat, (hAt H201 n202 (n203 + 0) (Value.slice p204 n205 n206)) ∧ ∃ n207 n208 : Nat, (p204 = (some (Addr.mk n207 n208 none))) ∧ ((0 : Int) ≤ x8) ∧ (x8 < (n205 :
    Int)) ∧ ∃ x209 : Int, (hAt H201 n207 (n208 + ((Int.toNat x8) * 1)) (Value.int .i64 x209)) ∧ (((decide (x209 = (0 : Int))) = true) → ∀ H210 : LH, (H210 = (LH.keep H201 5)) → ((Value.int .i64 x12) = (Value.int .i64
    x12)) ∧ (K19 (0 : Int) (0 : Int) false x15 (-(1 : Int)) true x12 H210)) ∧ (((decide (x209 = (0 : Int))) = false) → (K19 (0 : Int) (0 : Int) false x15 (-(1 : Int)) false (IntKind.wrap .i64 (x18 + (1 : Int))) H201))) ∧
    (((decide (x7 = (7 : Int))) = false) → (((decide (x7 = (10 : Int))) = true) → ∃ n211 n212 : Nat, (a1 = (some (Addr.mk n211 n212 none))) ∧ ∃ x213 : Int, (hAt H190 n211 (n212 + 3) (Value.int .i64 x213)) ∧ (K19 (0 :
    Int) (0 : Int) false x15 (-(1 : Int)) false x213 H190)) ∧ (((decide (x7 = (10 : Int))) = false) → (K19 (0 : Int) (0 : Int) false x15 (-(1 : Int)) false (IntKind.wrap .i64 (x18 + (1 : Int))) H190)))))) → (K188 b189
    H190)) → (((decide (x7 = (4 : Int))) = true) → (K188 true H178)) ∧ (((decide (x7 = (4 : Int))) = false) → (K188 (decide (x7 = (5 : Int))) H178)))) → (K176 b177 H178)) → (((decide (x7 = (8 : Int))) = true) → (K176
    true H1)) ∧ (((decide (x7 = (8 : Int))) = false) → (K176 (decide (x7 = (9 : Int))) H1))

theorem F_ref21_step_call {R : Value → LH → Prop} {H : LH} (a0_0p : Option Addr) (a0_0n a0_0c : Nat) (a0_1 : Int) (a0_2p : Option Addr) (a0_2n a0_2c : Nat) (a0_3p : Option Addr) (a0_3n a0_3c : Nat) (a1 : Option Addr) (h : F_ref21_step a0_0p a0_0n a0_0c a0_1 a0_2p a0_2n a0_2c a0_3p a0_3n a0_3c a1 R H) : Call prog f_ref21_step [.agg #[.slice a0_0p a0_0n a0_0c, .int .i64 a0_1, .slice a0_2p a0_2n a0_2c, .slice a0_3p a0_3n a0_3c], .pointer a1] H R := by
  have e : F_ref21_step a0_0p a0_0n a0_0c a0_1 a0_2p a0_2n a0_2c a0_3p a0_3n a0_3c a1 R H = zfun prog f_ref21_step [2, 4, 6, 7]
    (.seq none .u (.seq none (.draw [⟨0, [], []⟩, ⟨1, [], []⟩, ⟨2, [], []⟩, ⟨3, [], []⟩, ⟨4, [], []⟩, ⟨5, [], []⟩, ⟨6, [], []⟩, ⟨7, [], []⟩, ⟨8, [], []⟩, ⟨9, [], []⟩]) (.seq none .u (.seq none .u (.seq (some ⟨[(4, .box [(.int .i64), (.int .i64), .bool]), (7, .box [(.int .i64), (.int .i64), .bool]), (8, .one (.int .i64))], [1, 2, 6]⟩) (.seq none .u (.block (.seq (some ⟨[(29, .one .bool)], [1, 2, 4, 6, 7, 8, 28]⟩) (.seq none .u (.cond .u .u)) (.cond (.seq none (.draw [⟨0, [], []⟩, ⟨1, [], []⟩, ⟨2, [], []⟩, ⟨3, [], []⟩, ⟨4, [], []⟩, ⟨5, [], []⟩, ⟨6, [], []⟩, ⟨7, [], []⟩, ⟨8, [], []⟩, ⟨9, [], []⟩, ⟨10, [], []⟩, ⟨11, [], []⟩]) (.cond (.seq none .u .u) .u)) (.seq (some ⟨[(45, .one .bool)], [1, 2, 4, 6, 7, 8, 28]⟩) (.seq none .u (.cond .u .u)) (.cond (.seq none (.draw [⟨0, [], []⟩, ⟨1, [], []⟩, ⟨2, [], []⟩, ⟨3, [], []⟩, ⟨4, [], []⟩, ⟨5, [], []⟩, ⟨6, [], []⟩, ⟨7, [], []⟩, ⟨8, [], []⟩, ⟨9, [], []⟩, ⟨10, [], []⟩, ⟨11, [], []⟩, ⟨12, [], []⟩]) (.seq none .u (.cond (.seq none .u .u) .u))) (.seq none .u (.cond (.draw [⟨0, [], []⟩, ⟨1, [], []⟩, ⟨2, [], []⟩, ⟨3, [1], []⟩, ⟨4, [], []⟩]) (.seq none .u (.cond (.seq none (.draw [⟨0, [], []⟩, ⟨1, [], []⟩, ⟨2, [], []⟩, ⟨3, [], []⟩, ⟨4, [], []⟩, ⟨5, [], []⟩, ⟨6, [], []⟩, ⟨7, [], []⟩, ⟨8, [], []⟩]) (.cond (.draw [⟨0, [], []⟩, ⟨1, [], []⟩, ⟨2, [], []⟩, ⟨3, [1], []⟩, ⟨4, [], []⟩]) .u)) (.seq none .u (.cond .u .u)))))))))))) (.seq none (.seq none .u (.cond (.seq none .u .u) .u)) (.seq none .u (.seq (some ⟨[], [1, 4, 7]⟩) (.seq none .u (.block (.seq none .u (.cond (.draw [⟨0, [], []⟩, ⟨1, [], []⟩, ⟨2, [], []⟩, ⟨3, [], []⟩, ⟨4, [], []⟩, ⟨5, [], []⟩, ⟨6, [], []⟩, ⟨7, [], []⟩, ⟨8, [], []⟩, ⟨9, [], []⟩]) (.seq none .u (.cond (.draw [⟨0, [], []⟩, ⟨1, [], []⟩, ⟨2, [], []⟩, ⟨3, [], []⟩, ⟨4, [], []⟩, ⟨5, [], []⟩, ⟨6, [], []⟩, ⟨7, [], []⟩, ⟨8, [], []⟩, ⟨9, [], []⟩, ⟨10, [], []⟩, ⟨11, [], []⟩, ⟨12, [], []⟩, ⟨13, [], []⟩, ⟨14, [], []⟩, ⟨15, [], []⟩]) (.seq none .u (.cond (.draw [⟨0, [], []⟩, ⟨1, [], []⟩, ⟨2, [], []⟩, ⟨3, [], []⟩, ⟨4, [], []⟩, ⟨5, [], []⟩, ⟨6, [], []⟩, ⟨7, [], []⟩, ⟨8, [], []⟩, ⟨9, [], []⟩, ⟨10, [], []⟩, ⟨11, [], []⟩, ⟨12, [], []⟩, ⟨13, [], []⟩, ⟨14, [], []⟩, ⟨15, [], []⟩, ⟨16, [], []⟩, ⟨17, [], []⟩, ⟨18, [], []⟩, ⟨19, [], []⟩, ⟨20, [], []⟩, ⟨21, [], []⟩, ⟨22, [], []⟩, ⟨23, [], []⟩, ⟨24, [3, 5], []⟩, ⟨25, [], []⟩, ⟨26, [], []⟩, ⟨27, [], []⟩, ⟨28, [], []⟩, ⟨29, [], []⟩]) (.seq none .u (.cond (.draw [⟨0, [], []⟩, ⟨1, [], []⟩, ⟨2, [], []⟩, ⟨3, [], []⟩, ⟨4, [], []⟩, ⟨5, [], []⟩, ⟨6, [], []⟩, ⟨7, [], []⟩, ⟨8, [], []⟩, ⟨9, [], []⟩, ⟨10, [], []⟩, ⟨11, [], []⟩, ⟨12, [], []⟩, ⟨13, [], []⟩, ⟨14, [], []⟩, ⟨15, [], []⟩]) (.seq none .u (.cond (.draw [⟨0, [], []⟩, ⟨1, [], []⟩, ⟨2, [], []⟩, ⟨3, [], []⟩, ⟨4, [], []⟩, ⟨5, [], []⟩, ⟨6, [], []⟩, ⟨7, [], []⟩, ⟨8, [], []⟩, ⟨9, [], []⟩, ⟨10, [], []⟩, ⟨11, [], []⟩, ⟨12, [], []⟩, ⟨13, [], []⟩, ⟨14, [], []⟩, ⟨15, [], []⟩]) (.seq none .u (.cond (.draw [⟨0, [], []⟩, ⟨1, [], []⟩, ⟨2, [], []⟩, ⟨3, [], []⟩, ⟨4, [], []⟩, ⟨5, [], []⟩, ⟨6, [], []⟩, ⟨7, [], []⟩]) (.seq none .u (.cond (.draw [⟨0, [], []⟩, ⟨1, [], []⟩, ⟨2, [], []⟩, ⟨3, [], []⟩, ⟨4, [], []⟩, ⟨5, [], []⟩, ⟨6, [], []⟩, ⟨7, [], []⟩]) (.seq none .u (.cond .u .u)))))))))))))))))) (.seq none .u (.seq none .u .u))))))))))
    [.agg #[.slice a0_0p a0_0n a0_0c, .int .i64 a0_1, .slice a0_2p a0_2n a0_2c, .slice a0_3p a0_3n a0_3c], .pointer a1] R H := by kernel_rfl
  rw [e] at h
  exact call_of_zfun mixed h

/-- timebound/machine.Valid$1 -/
def F_machine_Valid_1 (a0 : Int) (R : Value → LH → Prop) (H : LH) : Prop :=
  (XCall prog f_word_Is [(Value.int .i64 a0)] H (fun (v1 : Value) (H2 : LH) => ∃ b3 : Bool, (v1 = (Value.bool b3)) ∧ (R (Value.bool (Bool.not b3)) H2)))

theorem F_machine_Valid_1_call {R : Value → LH → Prop} {H : LH} (a0 : Int) (h : F_machine_Valid_1 a0 R H) : Call prog f_machine_Valid_1 [.int .i64 a0] H R := by
  have e : F_machine_Valid_1 a0 R H = zfun prog f_machine_Valid_1 []
    (.seq none .u (.seq none .u .u))
    [.int .i64 a0] R H := by kernel_rfl
  rw [e] at h
  exact call_of_zfun mixed h

/-- timebound/word.Is -/
def F_word_Is (a0 : Int) (R : Value → LH → Prop) (H : LH) : Prop :=
  (((decide ((-(2147483648 : Int)) ≤ a0)) = true) → (R (Value.bool (decide (a0 ≤ (2147483647 : Int)))) H)) ∧ (((decide ((-(2147483648 : Int)) ≤ a0)) = false) → (R (Value.bool false) H))

theorem F_word_Is_call {R : Value → LH → Prop} {H : LH} (a0 : Int) (h : F_word_Is a0 R H) : Call prog f_word_Is [.int .i64 a0] H R := by
  have e : F_word_Is a0 R H = zfun prog f_word_Is []
    (.seq none .u (.seq none .u .u))
    [.int .i64 a0] R H := by kernel_rfl
  rw [e] at h
  exact call_of_zfun mixed h

/-- slices.ContainsFunc[[]int,int] -/
def F_slices_ContainsFunc_int_int (a0p : Option Addr) (a0n a0c : Nat) (a1 : Value) (R : Value → LH → Prop) (H : LH) : Prop :=
  (XCall prog f_slices_IndexFunc_int_int [(Value.slice a0p a0n a0c), a1] H (fun (v1 : Value) (H2 : LH) => ∃ x3 : Int, (v1 = (Value.int .i64 x3)) ∧ (R (Value.bool (decide ((0 : Int) ≤ x3))) H2)))

theorem F_slices_ContainsFunc_int_int_call {R : Value → LH → Prop} {H : LH} (a0p : Option Addr) (a0n a0c : Nat) (a1 : Value) (h : F_slices_ContainsFunc_int_int a0p a0n a0c a1 R H) : Call prog f_slices_ContainsFunc_int_int [.slice a0p a0n a0c, a1] H R := by
  have e : F_slices_ContainsFunc_int_int a0p a0n a0c a1 R H = zfun prog f_slices_ContainsFunc_int_int []
    (.seq none .u (.seq none .u .u))
    [.slice a0p a0n a0c, a1] R H := by kernel_rfl
  rw [e] at h
  exact call_of_zfun mixed h

/-- timebound/timeboundref21.words -/
def F_ref21_words (a0p : Option Addr) (a0n a0c : Nat) (R : Value → LH → Prop) (H : LH) : Prop :=
  ∃ K1 : (Int → LH → Prop), ∃ K2 : (Int → LH → Nat), (K1 (0 : Int) H) ∧ ∀ x3 : Int, ∀ H4 : LH, (K1 x3 H4) → ((a0p = none) → (a0n = 0) ∧ (a0c = 0)) ∧ (((decide (x3 < (a0n : Int))) = true) → ∃ n5 n6 : Nat, (a0p = (some
    (Addr.mk n5 n6 none))) ∧ ((0 : Int) ≤ x3) ∧ (x3 < (a0n : Int)) ∧ ∃ x7 : Int, (hAt H4 n5 (n6 + ((Int.toNat x3) * 1)) (Value.int .i64 x7)) ∧ (XCall prog f_ref06_Word [(Value.int .i64 x7)] H4 (fun (v8 : Value) (H9 : LH)
    => ∃ b10 : Bool, (v8 = (Value.bool b10)) ∧ (((Bool.not b10) = true) → (R (Value.bool false) H9)) ∧ (((Bool.not b10) = false) → (K1 (IntKind.wrap .i64 (x3 + (1 : Int))) H9) ∧ ((K2 (IntKind.wrap .i64 (x3 + (1 : Int)))
    H9) < (K2 x3 H4)))))) ∧ (((decide (x3 < (a0n : Int))) = false) → (R (Value.bool true) H4))

theorem F_ref21_words_call {R : Value → LH → Prop} {H : LH} (a0p : Option Addr) (a0n a0c : Nat) (h : F_ref21_words a0p a0n a0c R H) : Call prog f_ref21_words [.slice a0p a0n a0c] H R := by
  have e : F_ref21_words a0p a0n a0c R H = zfun prog f_ref21_words []
    (.seq none .u (.seq none (.seq none .u (.block (.loop ⟨[(3, .one (.int .i64))], [0]⟩ (.seq none (.seq none .u (.cond .u .u)) (.seq none (.block (.seq none .u (.cond (.seq none .u .u) .u))) .u))))) (.seq none .u .u)))
    [.slice a0p a0n a0c] R H := by kernel_rfl
  rw [e] at h
  exact call_of_zfun mixed h

/-- timebound/machine.Begin -/
def F_machine_Begin (a0_0p : Option Addr) (a0_0n a0_0c : Nat) (a0_1 : Int) (a0_2p : Option Addr) (a0_2n a0_2c : Nat) (a0_3p : Option Addr) (a0_3n a0_3c : Nat) (a1 : Int) (a2p : Option Addr) (a2n a2c : Nat) (a3p : Option Addr) (a3n a3c : Nat) (R : Value → LH → Prop) (H : LH) : Prop :=
  (XCall prog f_emit_Check [(Value.agg #[(Value.slice a0_0p a0_0n a0_0c), (Value.int .i64 a0_1), (Value.slice a0_2p a0_2n a0_2c), (Value.slice a0_3p a0_3n a0_3c)])] H (fun (v1 : Value) (H2 : LH) => ∃ x3 : Int, (v1 =
    (Value.int .i64 x3)) ∧ (((Bool.not (decide (x3 = (0 : Int)))) = true) → (R (Value.tuple #[(Value.agg #[(Value.slice none 0 0), (Value.slice none 0 0), (Value.slice none 0 0), (Value.int .i64 (0 : Int)), (Value.bool
    false)]), (Value.int .i64 x3)]) H2)) ∧ (((Bool.not (decide (x3 = (0 : Int)))) = false) → (((decide (a1 < (0 : Int))) = true) → (R (Value.tuple #[(Value.agg #[(Value.slice none 0 0), (Value.slice none 0 0),
    (Value.slice none 0 0), (Value.int .i64 (0 : Int)), (Value.bool false)]), (Value.int .i64 (8 : Int))]) H2)) ∧ (((decide (a1 < (0 : Int))) = false) → ((a0_3p = none) → (a0_3n = 0) ∧ (a0_3c = 0)) ∧ (((decide ((a0_3n :
    Int) ≤ a1)) = true) → (R (Value.tuple #[(Value.agg #[(Value.slice none 0 0), (Value.slice none 0 0), (Value.slice none 0 0), (Value.int .i64 (0 : Int)), (Value.bool false)]), (Value.int .i64 (8 : Int))]) H2)) ∧
    (((decide ((a0_3n : Int) ≤ a1)) = false) → ∃ n4 n5 : Nat, (a0_3p = (some (Addr.mk n4 n5 none))) ∧ ((0 : Int) ≤ a1) ∧ (a1 < (a0_3n : Int)) ∧ ∃ s6 : ByteArray, (hAt H2 n4 (n5 + ((Int.toNat a1) * 10)) (Value.string s6))
    ∧ ∃ p7 : (Option Addr), ∃ n8 n9 : Nat, (hAt H2 n4 ((n5 + ((Int.toNat a1) * 10)) + 1) (Value.slice p7 n8 n9)) ∧ ∃ p10 : (Option Addr), ∃ n11 n12 : Nat, (hAt H2 n4 (((n5 + ((Int.toNat a1) * 10)) + 1) + 1) (Value.slice
    p10 n11 n12)) ∧ ∃ p13 : (Option Addr), ∃ n14 n15 : Nat, (hAt H2 n4 ((((n5 + ((Int.toNat a1) * 10)) + 1) + 1) + 1) (Value.slice p13 n14 n15)) ∧ ∃ p16 : (Option Addr), ∃ n17 n18 : Nat, (hAt H2 n4 (((((n5 + ((Int.toNat
    a1) * 10)) + 1) + 1) + 1) + 1) (Value.slice p16 n17 n18)) ∧ ∃ p19 : (Option Addr), ∃ n20 n21 : Nat, (hAt H2 n4 ((((((n5 + ((Int.toNat a1) * 10)) + 1) + 1) + 1) + 1) + 1) (Value.slice p19 n20 n21)) ∧ ∃ p22 : (Option
    Addr), ∃ n23 n24 : Nat, (hAt H2 n4 (((((((n5 + ((Int.toNat a1) * 10)) + 1) + 1) + 1) + 1) + 1) + 1) (Value.slice p22 n23 n24)) ∧ ∃ p25 : (Option Addr), ∃ n26 n27 : Nat, (hAt H2 n4 ((((((((n5 + ((Int.toNat a1) * 10))
    + 1) + 1) + 1) + 1) + 1) + 1) + 1) (Value.slice p25 n26 n27)) ∧ ∃ p28 : (Option Addr), ∃ n29 n30 : Nat, (hAt H2 n4 (((((((((n5 + ((Int.toNat a1) * 10)) + 1) + 1) + 1) + 1) + 1) + 1) + 1) + 1) (Value.slice p28 n29
    n30)) ∧ ∃ p31 : (Option Addr), ∃ n32 n33 : Nat, (hAt H2 n4 ((((((((((n5 + ((Int.toNat a1) * 10)) + 1) + 1) + 1) + 1) + 1) + 1) + 1) + 1) + 1) (Value.slice p31 n32 n33)) ∧ ((a2p = none) → (a2n = 0) ∧ (a2c = 0)) ∧
    ((p25 = none) → (n26 = 0) ∧ (n27 = 0)) ∧ (((Bool.not (decide ((a2n : Int) = (n26 : Int)))) = true) → (R (Value.tuple #[(Value.agg #[(Value.slice none 0 0), (Value.slice none 0 0), (Value.slice none 0 0), (Value.int
    .i64 (0 : Int)), (Value.bool false)]), (Value.int .i64 (9 : Int))]) H2)) ∧ (((Bool.not (decide ((a2n : Int) = (n26 : Int)))) = false) → ((p25 = none) → (n26 = 0) ∧ (n27 = 0)) ∧ ∃ K34 : ((Option Addr) → Nat → Nat →
    (Option Addr) → Nat → Nat → (Option Addr) → Nat → Nat → Int → Bool → Int → LH → Prop), ∃ K35 : ((Option Addr) → Nat → Nat → (Option Addr) → Nat → Nat → (Option Addr) → Nat → Nat → Int → Bool → Int → LH → Nat), (K34
    none 0 0 none 0 0 none 0 0 (0 : Int) false (0 : Int) H2) ∧ ∀ p36 : (Option Addr), ∀ n37 : Nat, ∀ n38 : Nat, ∀ p39 : (Option Addr), ∀ n40 : Nat, ∀ n41 : Nat, ∀ p42 : (Option Addr), ∀ n43 : Nat, ∀ n44 : Nat, ∀ x45 :
    Int, ∀ b46 : Bool, ∀ x47 : Int, ∀ H48 : LH, (K34 p36 n37 n38 p39 n40 n41 p42 n43 n44 x45 b46 x47 H48) → (((decide (x47 < (n26 : Int))) = true) → ∃ n49 n50 : Nat, (p25 = (some (Addr.mk n49 n50 none))) ∧ ((0 : Int) ≤
    x47) ∧ (x47 < (n26 : Int)) ∧ ∃ s51 : ByteArray, (hAt H48 n49 (n50 + ((Int.toNat x47) * 3)) (Value.string s51)) ∧ ∃ x52 : Int, (hAt H48 n49 ((n50 + ((Int.toNat x47) * 3)) + 1) (Value.int .i64 x52)) ∧ ∃ x53 : Int, (hAt
    H48 n49 (((n50 + ((Int.toNat x47) * 3)) + 1) + 1) (Value.int .i64 x53)) ∧ ∀ H54 : LH, (H54 = (LH.keep H48 16)) → ∃ n55 n56 : Nat, (a2p = (some (Addr.mk n55 n56 none))) ∧ ((0 : Int) ≤ x47) ∧ (x47 < (a2n : Int)) ∧ ∃
    x57 : Int, (hAt H54 n55 (n56 + ((Int.toNat x47) * 1)) (Value.int .i64 x57)) ∧ (((decide (x57 < x52)) = true) → (R (Value.tuple #[(Value.agg #[(Value.slice none 0 0), (Value.slice none 0 0), (Value.slice none 0 0),
    (Value.int .i64 (0 : Int)), (Value.bool false)]), (Value.int .i64 (9 : Int))]) H54)) ∧ (((decide (x57 < x52)) = false) → ∃ n58 n59 : Nat, (a2p = (some (Addr.mk n58 n59 none))) ∧ ((0 : Int) ≤ x47) ∧ (x47 < (a2n :
    Int)) ∧ ∃ x60 : Int, (hAt H54 n58 (n59 + ((Int.toNat x47) * 1)) (Value.int .i64 x60)) ∧ (((decide (x53 < x60)) = true) → (R (Value.tuple #[(Value.agg #[(Value.slice none 0 0), (Value.slice none 0 0), (Value.slice
    none 0 0), (Value.int .i64 (0 : Int)), (Value.bool false)]), (Value.int .i64 (9 : Int))]) H54)) ∧ (((decide (x53 < x60)) = false) → (K34 p36 n37 n38 p39 n40 n41 p42 n43 n44 x45 b46 (IntKind.wrap .i64 (x47 + (1 :
    Int))) H54) ∧ ((K35 p36 n37 n38 p39 n40 n41 p42 n43 n44 x45 b46 (IntKind.wrap .i64 (x47 + (1 : Int))) H54) < (K35 p36 n37 n38 p39 n40 n41 p42 n43 n44 x45 b46 x47 H48))))) ∧ (((decide (x47 < (n26 : Int))) = false) →
    (XCall prog f_machine_filled [(Value.slice a0_2p a0_2n a0_2c), (Value.slice a3p a3n a3c)] H48 (fun (v61 : Value) (H62 : LH) => ∃ b63 : Bool, (v61 = (Value.bool b63)) ∧ (((Bool.not b63) = true) → (R (Value.tuple
    #[(Value.agg #[(Value.slice none 0 0), (Value.slice none 0 0), (Value.slice none 0 0), (Value.int .i64 (0 : Int)), (Value.bool false)]), (Value.int .i64 (10 : Int))]) H62)) ∧ (((Bool.not b63) = false) → (XCall prog
    f_machine_there [(Value.agg #[(Value.slice a0_0p a0_0n a0_0c), (Value.int .i64 a0_1), (Value.slice a0_2p a0_2n a0_2c), (Value.slice a0_3p a0_3n a0_3c)]), (Value.agg #[(Value.string s6), (Value.slice p7 n8 n9),
    (Value.slice p10 n11 n12), (Value.slice p13 n14 n15), (Value.slice p16 n17 n18), (Value.slice p19 n20 n21), (Value.slice p22 n23 n24), (Value.slice p25 n26 n27), (Value.slice p28 n29 n30), (Value.slice p31 n32
    n33)])] H62 (fun (v64 : Value) (H65 : LH) => ∃ b66 : Bool, (v64 = (Value.bool b66)) ∧ (((Bool.not b66) = true) → (R (Value.tuple #[(Value.agg #[(Value.slice none 0 0), (Value.slice none 0 0), (Value.slice none 0 0),
    (Value.int .i64 (0 : Int)), (Value.bool false)]), (Value.int .i64 (10 : Int))]) H65)) ∧ (((Bool.not b66) = false) → ∀ H67 : LH, (H67 = (LH.keep H65 13)) → ∃ n68 n69 : Nat, (p7 = (some (Addr.mk n68 n69 none))) ∧ ((0 :
    Int) ≤ (0 : Int)) ∧ ((0 : Int) < (n8 : Int)) ∧ ∃ x70 : Int, (hAt H67 n68 ((n69 + 0) + 0) (Value.int .i64 x70)) ∧ (((0 : Int) ≤ (8 : Int)) ∧ ((8 : Int) = (8 : Int)) ∧ ((64 : Int) ≤ (281474976710656 : Int)) ∧ ((8 :
    Int) ≤ (9223372036854775807 : Int))) ∧ ∀ H71 : LH, (H71 = (LH.put H67 ((LH.next H65) + 0) (some (LObj.cells [(Value.int .i64 (0 : Int)), (Value.int .i64 (0 : Int)), (Value.int .i64 (0 : Int)), (Value.int .i64 (0 :
    Int)), (Value.int .i64 (0 : Int)), (Value.int .i64 (0 : Int)), (Value.int .i64 (0 : Int)), (Value.int .i64 (0 : Int))] 1 false)))) → (((0 : Int) ≤ a0_1) ∧ (a0_1 = a0_1) ∧ (((8 : Int) * a0_1) ≤ (281474976710656 :
    Int)) ∧ (a0_1 ≤ (9223372036854775807 : Int))) ∧ ∀ H72 : LH, (H72 = (LH.put H71 ((LH.next H65) + 3) (some (LObj.cells (List.flatten (List.replicate (Int.toNat a0_1) [(Value.int .i64 (0 : Int))])) 1 false)))) → (((0 :
    Int) ≤ (4 : Int)) ∧ ((4 : Int) = (4 : Int)) ∧ ((4 : Int) ≤ (281474976710656 : Int)) ∧ ((4 : Int) ≤ (9223372036854775807 : Int))) ∧ ∀ H73 : LH, (H73 = (LH.put H72 ((LH.next H65) + 4) (some (LObj.cells [(Value.bool
    false), (Value.bool false), (Value.bool false), (Value.bool false)] 1 false)))) → ((a2p = none) → (a2n = 0) ∧ (a2c = 0)) ∧ ∃ K74 : (Int → LH → Prop), ∃ K75 : (Int → LH → Nat), (K74 (0 : Int) H73) ∧ ∀ x76 : Int, ∀ H77
    : LH, (K74 x76 H77) → (((decide (x76 < (a2n : Int))) = true) → ∃ n78 n79 : Nat, (a2p = (some (Addr.mk n78 n79 none))) ∧ ((0 : Int) ≤ x76) ∧ (x76 < (a2n : Int)) ∧ ∃ x80 : Int, (hAt H77 n78 (n79 + ((Int.toNat x76) *
    1)) (Value.int .i64 x80)) ∧ ∀ H81 : LH, (H81 = (LH.keep H77 11)) → ∃ n82 n83 : Nat, (p28 = (some (Addr.mk n82 n83 none))) ∧ ((0 : Int) ≤ x76) ∧ (x76 < (n29 : Int)) ∧ ∃ x84 : Int, (hAt H81 n82 (n83 + ((Int.toNat x76)
    * 1)) (Value.int .i64 x84)) ∧ (XCall prog f_word_Wrap [(Value.int .i64 x80)] H81 (fun (v85 : Value) (H86 : LH) => ∃ x87 : Int, (v85 = (Value.int .i64 x87)) ∧ ((Value.slice (some (Addr.mk ((LH.next H65) + 3) 0 none))
    (Int.toNat a0_1) (Int.toNat a0_1)) = (Value.slice (some (Addr.mk ((LH.next H65) + 3) 0 none)) (Int.toNat a0_1) (Int.toNat a0_1))) ∧ ((Value.slice p28 n29 n30) = (Value.slice p28 n29 n30)) ∧ (∃ x88 : Int, (hAt H86 n82
    (n83 + ((Int.toNat x76) * 1)) (Value.int .i64 x88)) ∧ ((Value.int .i64 x88) = (Value.int .i64 x84))) ∧ ∃ n89 n90 : Nat, ((some (Addr.mk ((LH.next H65) + 3) 0 none)) = (some (Addr.mk n89 n90 none))) ∧ ((0 : Int) ≤
    x84) ∧ (x84 < (((Int.toNat a0_1) : Nat) : Int)) ∧ ∃ l91 : (List Value), ∃ n92 : Nat, ((LH.get H86 n89) = (some (LObj.cells l91 n92 false))) ∧ (((n90 + ((Int.toNat x84) * 1)) + 1) ≤ (List.length l91)) ∧ ∀ H93 : LH,
    (H93 = (LH.put H86 n89 (some (LObj.cells (setMany l91 (n90 + ((Int.toNat x84) * 1)) [(Value.int .i64 x87)]) n92 false)))) → (K74 (IntKind.wrap .i64 (x76 + (1 : Int))) H93) ∧ ((K75 (IntKind.wrap .i64 (x76 + (1 :
    Int))) H93) < (K75 x76 H77))))) ∧ (((decide (x76 < (a2n : Int))) = false) → ((a0_2p = none) → (a0_2n = 0) ∧ (a0_2c = 0)) ∧ ∃ K94 : (Int → LH → Prop), ∃ K95 : (Int → LH → Nat), (K94 (0 : Int) H77) ∧ ∀ x96 : Int, ∀ H97
    : LH, (K94 x96 H97) → (((decide (x96 < (a0_2n : Int))) = true) → ∃ n98 n99 : Nat, (a0_2p = (some (Addr.mk n98 n99 none))) ∧ ((0 : Int) ≤ x96) ∧ (x96 < (a0_2n : Int)) ∧ ∃ x100 : Int, (hAt H97 n98 (n99 + ((Int.toNat
    x96) * 2)) (Value.int .i64 x100)) ∧ ∃ x101 : Int, (hAt H97 n98 ((n99 + ((Int.toNat x96) * 2)) + 1) (Value.int .i64 x101)) ∧ ∀ H102 : LH, (H102 = (LH.keep H97 15)) → ∃ p103 : (Option Addr), ∃ n104 n105 : Nat, ((sliceV
    H102 1 (Value.slice (some (Addr.mk ((LH.next H65) + 3) 0 none)) (Int.toNat a0_1) (Int.toNat a0_1)) (some (Value.int .i64 x100)) (some (Value.int .i64 (IntKind.wrap .i64 (x100 + x101)))) none) = (some (Value.slice
    p103 n104 n105))) ∧ ∃ n106 n107 : Nat, (a3p = (some (Addr.mk n106 n107 none))) ∧ ((0 : Int) ≤ x96) ∧ (x96 < (a3n : Int)) ∧ ∃ p108 : (Option Addr), ∃ n109 n110 : Nat, (hAt H102 n106 (n107 + ((Int.toNat x96) * 1))
    (Value.slice p108 n109 n110)) ∧ ∃ x111 : Int, ∃ H112 : LH, ((copyV H102 1 (Value.slice p103 n104 n105) (Value.slice p108 n109 n110)) = (some ((Value.int .i64 x111), H112))) ∧ (K94 (IntKind.wrap .i64 (x96 + (1 :
    Int))) H112) ∧ ((K95 (IntKind.wrap .i64 (x96 + (1 : Int))) H112) < (K95 x96 H97))) ∧ (((decide (x96 < (a0_2n : Int))) = false) → (R (Value.tuple #[(Value.agg #[(Value.slice (some (Addr.mk ((LH.next H65) + 0) 0 none))
    8 8), (Value.slice (some (Addr.mk ((LH.next H65) + 3) 0 none)) (Int.toNat a0_1) (Int.toNat a0_1)), (Value.slice (some (Addr.mk ((LH.next H65) + 4) 0 none)) 4 4), (Value.int .i64 x70), (Value.bool false)]), (Value.int
    .i64 (0 : Int))]) H97))))))))))))))))

theorem F_machine_Begin_call {R : Value → LH → Prop} {H : LH} (a0_0p : Option Addr) (a0_0n a0_0c : Nat) (a0_1 : Int) (a0_2p : Option Addr) (a0_2n a0_2c : Nat) (a0_3p : Option Addr) (a0_3n a0_3c : Nat) (a1 : Int) (a2p : Option Addr) (a2n a2c : Nat) (a3p : Option Addr) (a3n a3c : Nat) (h : F_machine_Begin a0_0p a0_0n a0_0c a0_1 a0_2p a0_2n a0_2c a0_3p a0_3n a0_3c a1 a2p a2n a2c a3p a3n a3c R H) : Call prog f_machine_Begin [.agg #[.slice a0_0p a0_0n a0_0c, .int .i64 a0_1, .slice a0_2p a0_2n a0_2c, .slice a0_3p a0_3n a0_3c], .int .i64 a1, .slice a2p a2n a2c, .slice a3p a3n a3c] H R := by
  have e : F_machine_Begin a0_0p a0_0n a0_0c a0_1 a0_2p a0_2n a0_2c a0_3p a0_3n a0_3c a1 a2p a2n a2c a3p a3n a3c R H = zfun prog f_machine_Begin [4, 8, 11, 13, 14, 18]
    (.seq none .u (.seq none (.seq none .u (.seq none .u (.cond (.seq none .u .u) .u))) (.seq none (.seq none .u (.cond (.seq none .u .u) .u)) (.seq none .u (.seq none (.seq none .u (.cond (.seq none .u .u) .u)) (.seq none (.seq none .u (.block (.loop ⟨[(8, .box [.sl, .sl, .sl, (.int .i64), .bool]), (50, .one (.int .i64))], [2, 3, 4, 11, 48, 49]⟩ (.seq none .u (.seq none (.cond .u .u) (.seq none (.block (.seq none .u (.seq none (.draw [⟨0, [], []⟩, ⟨1, [], []⟩, ⟨2, [], []⟩, ⟨3, [], []⟩, ⟨4, [], []⟩, ⟨5, [], []⟩, ⟨6, [], []⟩, ⟨7, [], []⟩, ⟨8, [], []⟩, ⟨9, [], []⟩, ⟨10, [], []⟩, ⟨11, [], []⟩, ⟨12, [], []⟩, ⟨13, [], []⟩, ⟨14, [], []⟩, ⟨15, [], []⟩]) (.cond (.seq none .u .u) .u)))) .u)))))) (.seq none (.seq none .u (.cond (.seq none .u .u) .u)) (.seq none (.draw [⟨1, [], []⟩, ⟨2, [], []⟩, ⟨5, [], []⟩, ⟨6, [], []⟩, ⟨7, [], []⟩, ⟨8, [], []⟩, ⟨9, [], []⟩, ⟨0, [], []⟩, ⟨3, [], []⟩, ⟨4, [], []⟩, ⟨10, [], []⟩, ⟨11, [], []⟩, ⟨12, [], []⟩]) (.seq none (.seq none .u (.block (.loop ⟨[(98, .one (.int .i64))], [3, 4, 8, 11, 14, 96, 97]⟩ (.seq none .u (.seq none (.cond .u .u) (.seq none (.block (.seq none .u (.draw [⟨0, [], []⟩, ⟨1, [], []⟩, ⟨2, [], []⟩, ⟨3, [], []⟩, ⟨4, [], []⟩, ⟨5, [], []⟩, ⟨6, [], []⟩, ⟨7, [], []⟩, ⟨8, [1, 3, 6], []⟩, ⟨9, [], []⟩, ⟨10, [], []⟩]))) .u)))))) (.seq none (.seq none .u (.block (.loop ⟨[(117, .one (.int .i64))], [3, 8, 14, 115, 116]⟩ (.seq none .u (.seq none (.cond .u .u) (.seq none (.block (.seq none .u (.draw [⟨0, [], []⟩, ⟨1, [], []⟩, ⟨2, [], []⟩, ⟨3, [], []⟩, ⟨4, [], []⟩, ⟨5, [], []⟩, ⟨6, [], []⟩, ⟨7, [], []⟩, ⟨8, [], []⟩, ⟨9, [], []⟩, ⟨10, [], []⟩, ⟨11, [], []⟩, ⟨12, [], []⟩, ⟨13, [], []⟩, ⟨14, [], []⟩]))) .u)))))) (.seq none .u .u)))))))))))
    [.agg #[.slice a0_0p a0_0n a0_0c, .int .i64 a0_1, .slice a0_2p a0_2n a0_2c, .slice a0_3p a0_3n a0_3c], .int .i64 a1, .slice a2p a2n a2c, .slice a3p a3n a3c] R H := by kernel_rfl
  rw [e] at h
  exact call_of_zfun mixed h

/-- timebound/machine.each -/
def F_machine_each (a0_0p : Option Addr) (a0_0n a0_0c : Nat) (a0_1 : Int) (a0_2p : Option Addr) (a0_2n a0_2c : Nat) (a0_3p : Option Addr) (a0_3n a0_3c : Nat) (a1 : Option Addr) (a2 : Int) (a3 : Value) (R : Value → LH → Prop) (H : LH) : Prop :=
  ∃ K1 : (Int → LH → Prop), ∃ K2 : (Int → LH → Nat), (K1 (0 : Int) H) ∧ ∀ x3 : Int, ∀ H4 : LH, (K1 x3 H4) → ∃ n5 n6 : Nat, (a1 = (some (Addr.mk n5 n6 none))) ∧ ∃ b7 : Bool, (hAt H4 n5 (n6 + 4) (Value.bool b7)) ∧
    (((Bool.not b7) = true) → (((decide (x3 = a2)) = true) → (R (Value.int .i64 (13 : Int)) H4)) ∧ (((decide (x3 = a2)) = false) → (XCall prog f_machine_Next [(Value.agg #[(Value.slice a0_0p a0_0n a0_0c), (Value.int .i64
    a0_1), (Value.slice a0_2p a0_2n a0_2c), (Value.slice a0_3p a0_3n a0_3c)]), (Value.pointer a1)] H4 (fun (v8 : Value) (H9 : LH) => ∃ x10 x11 : Int, ∃ b12 : Bool, ∃ x13 : Int, (v8 = (Value.tuple #[(Value.agg
    #[(Value.int .i64 x10), (Value.int .i64 x11), (Value.bool b12)]), (Value.int .i64 x13)])) ∧ (((Bool.not (decide (x13 = (0 : Int)))) = true) → (R (Value.int .i64 x13) H9)) ∧ (((Bool.not (decide (x13 = (0 : Int)))) =
    false) → ∃ n14 : Nat, ∃ l15 l16 : (List Value), (a3 = (Value.func (Fn.func n14) (Array.mk l15) (Array.mk l16))) ∧ ((okFn prog n14) = true) ∧ (XCall prog n14 ((l15 ++ [(Value.agg #[(Value.int .i64 x10), (Value.int
    .i64 x11), (Value.bool b12)])]) ++ l16) H9 (fun (v17 : Value) (H18 : LH) => ∃ v19 : Value, (v17 = v19) ∧ (K1 (IntKind.wrap .i64 (x3 + (1 : Int))) H18) ∧ ((K2 (IntKind.wrap .i64 (x3 + (1 : Int))) H18) < (K2 x3
    H4))))))))) ∧ (((Bool.not b7) = false) → (R (Value.int .i64 (0 : Int)) H4))

theorem F_machine_each_call {R : Value → LH → Prop} {H : LH} (a0_0p : Option Addr) (a0_0n a0_0c : Nat) (a0_1 : Int) (a0_2p : Option Addr) (a0_2n a0_2c : Nat) (a0_3p : Option Addr) (a0_3n a0_3c : Nat) (a1 : Option Addr) (a2 : Int) (a3 : Value) (h : F_machine_each a0_0p a0_0n a0_0c a0_1 a0_2p a0_2n a0_2c a0_3p a0_3n a0_3c a1 a2 a3 R H) : Call prog f_machine_each [.agg #[.slice a0_0p a0_0n a0_0c, .int .i64 a0_1, .slice a0_2p a0_2n a0_2c, .slice a0_3p a0_3n a0_3c], .pointer a1, .int .i64 a2, a3] H R := by
  have e : F_machine_each a0_0p a0_0n a0_0c a0_1 a0_2p a0_2n a0_2c a0_3p a0_3n a0_3c a1 a2 a3 R H = zfun prog f_machine_each [4, 10]
    (.seq none .u (.seq none (.seq none .u (.block (.loop ⟨[(9, .one (.int .i64))], [1, 2, 3, 4]⟩ (.seq none (.seq none .u (.cond .u .u)) (.seq none (.block (.seq none (.seq none .u (.cond (.seq none .u .u) .u)) (.seq none .u (.seq none (.seq none .u (.cond (.seq none .u .u) .u)) .u)))) .u))))) (.seq none .u .u)))
    [.agg #[.slice a0_0p a0_0n a0_0c, .int .i64 a0_1, .slice a0_2p a0_2n a0_2c, .slice a0_3p a0_3n a0_3c], .pointer a1, .int .i64 a2, a3] R H := by kernel_rfl
  rw [e] at h
  exact call_of_zfun mixed h

/-- timebound/machine.Run$1 -/
def F_machine_Run_1 (a0_0 : Int) (a0_1 : Int) (a0_2 : Bool) (f0b f0i : Nat) (R : Value → LH → Prop) (H : LH) : Prop :=
  ∃ p1 : (Option Addr), ∃ n2 n3 : Nat, (hAt H f0b f0i (Value.slice p1 n2 n3)) ∧ ∀ H4 : LH, (H4 = (LH.new H (LObj.cells [(Value.int .i64 a0_0), (Value.int .i64 a0_1), (Value.bool a0_2)] 3 false))) → ∃ p5 : (Option Addr), ∃
    n6 n7 : Nat, ∃ H8 : LH, ((appV H4 none 3 24 (Value.slice p1 n2 n3) (Value.slice (some (Addr.mk (LH.next H) 0 none)) 1 1)) = (some ((Value.slice p5 n6 n7), H8))) ∧ ∃ l9 : (List Value), ∃ n10 : Nat, ((LH.get H8 f0b) =
    (some (LObj.cells l9 n10 false))) ∧ ((f0i + 1) ≤ (List.length l9)) ∧ ∀ H11 : LH, (H11 = (LH.put H8 f0b (some (LObj.cells (setMany l9 f0i [(Value.slice p5 n6 n7)]) n10 false)))) → (R (Value.tuple #[]) H11)

theorem F_machine_Run_1_call {R : Value → LH → Prop} {H : LH} (a0_0 : Int) (a0_1 : Int) (a0_2 : Bool) (f0b f0i : Nat) (h : F_machine_Run_1 a0_0 a0_1 a0_2 f0b f0i R H) : Call prog f_machine_Run_1 [.agg #[.int .i64 a0_0, .int .i64 a0_1, .bool a0_2], .pointer (some ⟨f0b, f0i, none⟩)] H R := by
  have e : F_machine_Run_1 a0_0 a0_1 a0_2 f0b f0i R H = zfun prog f_machine_Run_1 [2]
    (.seq none .u .u)
    [.agg #[.int .i64 a0_0, .int .i64 a0_1, .bool a0_2], .pointer (some ⟨f0b, f0i, none⟩)] R H := by kernel_rfl
  rw [e] at h
  exact call_of_zfun mixed h

/-- timebound/machine.Run$2 -/
def F_machine_Run_2 (a0p : Option Addr) (a0n a0c : Nat) (f0b f0i : Nat) (R : Value → LH → Prop) (H : LH) : Prop :=
  ((a0p = none) → (a0n = 0) ∧ (a0c = 0)) ∧ ∃ K1 : ((Option Addr) → Nat → Nat → Int → LH → Prop), ∃ K2 : ((Option Addr) → Nat → Nat → Int → LH → Nat), (K1 none 0 0 (0 : Int) H) ∧ ∀ p3 : (Option Addr), ∀ n4 : Nat, ∀ n5 :
    Nat, ∀ x6 : Int, ∀ H7 : LH, (K1 p3 n4 n5 x6 H7) → (((decide (x6 < (a0n : Int))) = true) → ∃ n8 n9 : Nat, (a0p = (some (Addr.mk n8 n9 none))) ∧ ((0 : Int) ≤ x6) ∧ (x6 < (a0n : Int)) ∧ ∃ x10 : Int, (hAt H7 n8 (n9 +
    ((Int.toNat x6) * 2)) (Value.int .i64 x10)) ∧ ∃ x11 : Int, (hAt H7 n8 ((n9 + ((Int.toNat x6) * 2)) + 1) (Value.int .i64 x11)) ∧ ∃ p12 : (Option Addr), ∃ n13 n14 : Nat, (hAt H7 f0b (f0i + 1) (Value.slice p12 n13 n14))
    ∧ ∃ p15 : (Option Addr), ∃ n16 n17 : Nat, ((sliceV H7 1 (Value.slice p12 n13 n14) (some (Value.int .i64 x10)) (some (Value.int .i64 (IntKind.wrap .i64 (x10 + x11)))) none) = (some (Value.slice p15 n16 n17))) ∧ (XCall
    prog f_slices_Clone_int_int [(Value.slice p15 n16 n17)] H7 (fun (v18 : Value) (H19 : LH) => ∃ p20 : (Option Addr), ∃ n21 n22 : Nat, (v18 = (Value.slice p20 n21 n22)) ∧ ∀ H23 : LH, (H23 = (LH.new H19 (LObj.cells
    [(Value.slice p20 n21 n22)] 1 false))) → ∃ p24 : (Option Addr), ∃ n25 n26 : Nat, ∃ H27 : LH, ((appV H23 none 1 24 (Value.slice p3 n4 n5) (Value.slice (some (Addr.mk (LH.next H19) 0 none)) 1 1)) = (some ((Value.slice
    p24 n25 n26), H27))) ∧ (K1 p24 n25 n26 (IntKind.wrap .i64 (x6 + (1 : Int))) H27) ∧ ((K2 p24 n25 n26 (IntKind.wrap .i64 (x6 + (1 : Int))) H27) < (K2 p3 n4 n5 x6 H7))))) ∧ (((decide (x6 < (a0n : Int))) = false) → (R
    (Value.slice p3 n4 n5) H7))

theorem F_machine_Run_2_call {R : Value → LH → Prop} {H : LH} (a0p : Option Addr) (a0n a0c : Nat) (f0b f0i : Nat) (h : F_machine_Run_2 a0p a0n a0c f0b f0i R H) : Call prog f_machine_Run_2 [.slice a0p a0n a0c, .pointer (some ⟨f0b, f0i, none⟩)] H R := by
  have e : F_machine_Run_2 a0p a0n a0c f0b f0i R H = zfun prog f_machine_Run_2 [6]
    (.seq none .u (.seq none .u (.seq none (.seq none .u (.block (.loop ⟨[(4, .one .sl), (9, .one (.int .i64))], [1, 7, 8]⟩ (.seq none .u (.seq none (.cond .u .u) (.seq none (.block (.seq none .u .u)) .u)))))) (.seq none .u .u))))
    [.slice a0p a0n a0c, .pointer (some ⟨f0b, f0i, none⟩)] R H := by kernel_rfl
  rw [e] at h
  exact call_of_zfun mixed h

/-- slices.Clone[[]int,int] -/
def F_slices_Clone_int_int (a0p : Option Addr) (a0n a0c : Nat) (R : Value → LH → Prop) (H : LH) : Prop :=
  (((Option.isNone a0p) = true) → (R (Value.slice none 0 0) H)) ∧ (((Option.isNone a0p) = false) → ∀ H1 : LH, (H1 = (LH.new H (LObj.cells [] 1 false))) → ∃ p2 : (Option Addr), ∃ n3 n4 : Nat, ∃ H5 : LH, ((appV H1 none 1 8
    (Value.slice (some (Addr.mk (LH.next H) 0 none)) 0 0) (Value.slice a0p a0n a0c)) = (some ((Value.slice p2 n3 n4), H5))) ∧ (R (Value.slice p2 n3 n4) H5))

theorem F_slices_Clone_int_int_call {R : Value → LH → Prop} {H : LH} (a0p : Option Addr) (a0n a0c : Nat) (h : F_slices_Clone_int_int a0p a0n a0c R H) : Call prog f_slices_Clone_int_int [.slice a0p a0n a0c] H R := by
  have e : F_slices_Clone_int_int a0p a0n a0c R H = zfun prog f_slices_Clone_int_int []
    (.seq none .u (.seq none (.seq none .u (.cond (.seq none .u .u) .u)) (.seq none .u .u)))
    [.slice a0p a0n a0c] R H := by kernel_rfl
  rw [e] at h
  exact call_of_zfun mixed h

/-- slices.Clone[[]bool,bool] -/
def F_slices_Clone_bool_bool (a0p : Option Addr) (a0n a0c : Nat) (R : Value → LH → Prop) (H : LH) : Prop :=
  (((Option.isNone a0p) = true) → (R (Value.slice none 0 0) H)) ∧ (((Option.isNone a0p) = false) → ∀ H1 : LH, (H1 = (LH.new H (LObj.cells [] 1 false))) → ∃ p2 : (Option Addr), ∃ n3 n4 : Nat, ∃ H5 : LH, ((appV H1 none 1 1
    (Value.slice (some (Addr.mk (LH.next H) 0 none)) 0 0) (Value.slice a0p a0n a0c)) = (some ((Value.slice p2 n3 n4), H5))) ∧ (R (Value.slice p2 n3 n4) H5))

theorem F_slices_Clone_bool_bool_call {R : Value → LH → Prop} {H : LH} (a0p : Option Addr) (a0n a0c : Nat) (h : F_slices_Clone_bool_bool a0p a0n a0c R H) : Call prog f_slices_Clone_bool_bool [.slice a0p a0n a0c] H R := by
  have e : F_slices_Clone_bool_bool a0p a0n a0c R H = zfun prog f_slices_Clone_bool_bool []
    (.seq none .u (.seq none (.seq none .u (.cond (.seq none .u .u) .u)) (.seq none .u .u)))
    [.slice a0p a0n a0c] R H := by kernel_rfl
  rw [e] at h
  exact call_of_zfun mixed h

end Go.Lg
