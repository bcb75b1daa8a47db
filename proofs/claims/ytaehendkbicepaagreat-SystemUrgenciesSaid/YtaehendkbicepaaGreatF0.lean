/- What each function asks, part 0. No condition. -/
import Derived.Test.YtaehendkbicepaaGreatFN
set_option linter.unusedVariables false
set_option maxRecDepth 100000
namespace Go.Lg
open Go
/-- timebound/timeboundlaw43.SystemUrgencies -/
def F_law43_SystemUrgencies (a0p : Option Addr) (a0n a0c : Nat) (a1p : Option Addr) (a1n a1c : Nat) (R : Value → LH → Prop) (H : LH) : Prop :=
  ((a1p = none) → (a1n = 0) ∧ (a1c = 0)) ∧ (((decide ((20 : Int) < (a1n : Int))) = true) → (XCall prog f_law43_awake [] H (fun (v1 : Value) (H2 : LH) => ∃ b3 : Bool, (v1 = (Value.bool b3)) ∧ (R (Value.bool b3) H2)))) ∧
    (((decide ((20 : Int) < (a1n : Int))) = false) → (XCall prog f_make_New [(Value.slice a0p a0n a0c)] H (fun (v4 : Value) (H5 : LH) => ∃ p6 : (Option Addr), (v4 = (Value.pointer p6)) ∧ (XCall prog f_make_Deck_Next
    [(Value.pointer p6), (Value.int .i64 (5 : Int))] H5 (fun (v7 : Value) (H8 : LH) => ∃ x9 : Int, (v7 = (Value.int .i64 x9)) ∧ (XCall prog f_make2_Jobs [(Value.pointer p6), (Value.int .i64 (IntKind.wrap .i64 ((1 : Int)
    + x9)))] H8 (fun (v10 : Value) (H11 : LH) => ∃ p12 : (Option Addr), ∃ n13 n14 : Nat, (v10 = (Value.slice p12 n13 n14)) ∧ (((0 : Int) ≤ (4 : Int)) ∧ ((4 : Int) = (4 : Int)) ∧ ((4 : Int) ≤ (281474976710656 : Int)) ∧
    ((4 : Int) ≤ (9223372036854775807 : Int))) ∧ ∀ H15 : LH, (H15 = (LH.new H11 (LObj.cells [(Value.bool false), (Value.bool false), (Value.bool false), (Value.bool false)] 1 false))) → (((some (Addr.mk (LH.next H11) 0
    none)) = none) → (4 = 0) ∧ (4 = 0)) ∧ ∃ K16 : (Int → LH → Prop), ∃ K17 : (Int → LH → Nat), (K16 (0 : Int) H15) ∧ ∀ x18 : Int, ∀ H19 : LH, (K16 x18 H19) → (((decide (x18 < (((Int.toNat (4 : Int)) : Nat) : Int))) =
    true) → (XCall prog f_make_Deck_Next [(Value.pointer p6), (Value.int .i64 (3 : Int))] H19 (fun (v20 : Value) (H21 : LH) => ∃ x22 : Int, (v20 = (Value.int .i64 x22)) ∧ ∃ n23 n24 : Nat, ((some (Addr.mk (LH.next H11) 0
    none)) = (some (Addr.mk n23 n24 none))) ∧ ((0 : Int) ≤ x18) ∧ (x18 < (4 : Int)) ∧ ∃ l25 : (List Value), ∃ n26 : Nat, ((LH.get H21 n23) = (some (LObj.cells l25 n26 false))) ∧ (((n24 + ((Int.toNat x18) * 1)) + 1) ≤
    (List.length l25)) ∧ ∀ H27 : LH, (H27 = (LH.put H21 n23 (some (LObj.cells (setMany l25 (n24 + ((Int.toNat x18) * 1)) [(Value.bool (decide (x22 = (0 : Int))))]) n26 false)))) → (K16 (IntKind.wrap .i64 (x18 + (1 :
    Int))) H27) ∧ ((K17 (IntKind.wrap .i64 (x18 + (1 : Int))) H27) < (K17 x18 H19))))) ∧ (((decide (x18 < (((Int.toNat (4 : Int)) : Nat) : Int))) = false) → ((p12 = none) → (n13 = 0) ∧ (n14 = 0)) ∧ ∃ K28 : (Int → LH →
    Prop), ∃ K29 : (Int → LH → Nat), (K28 (0 : Int) H19) ∧ ∀ x30 : Int, ∀ H31 : LH, (K28 x30 H31) → (((decide (x30 < (n13 : Int))) = true) → (XCall prog f_system_Urgency [(Value.slice p12 n13 n14), (Value.int .i64 x30),
    (Value.slice (some (Addr.mk (LH.next H11) 0 none)) 4 4)] H31 (fun (v32 : Value) (H33 : LH) => ∃ x34 : Int, (v32 = (Value.int .i64 x34)) ∧ (XCall prog f_ref43_Urgency [(Value.slice p12 n13 n14), (Value.int .i64 x30),
    (Value.slice (some (Addr.mk (LH.next H11) 0 none)) 4 4)] H33 (fun (v35 : Value) (H36 : LH) => ∃ x37 : Int, (v35 = (Value.int .i64 x37)) ∧ (((Bool.not (decide (x34 = x37))) = true) → (R (Value.bool false) H36)) ∧
    (((Bool.not (decide (x34 = x37))) = false) → (K28 (IntKind.wrap .i64 (x30 + (1 : Int))) H36) ∧ ((K29 (IntKind.wrap .i64 (x30 + (1 : Int))) H36) < (K29 x30 H31)))))))) ∧ (((decide (x30 < (n13 : Int))) = false) →
    (XCall prog f_system_Budgets [(Value.slice a1p a1n a1c)] H31 (fun (v38 : Value) (H39 : LH) => ∃ p40 : (Option Addr), ∃ n41 n42 : Nat, (v38 = (Value.slice p40 n41 n42)) ∧ (XCall prog f_ref43_Budgets [(Value.slice a1p
    a1n a1c)] H39 (fun (v43 : Value) (H44 : LH) => ∃ p45 : (Option Addr), ∃ n46 n47 : Nat, (v43 = (Value.slice p45 n46 n47)) ∧ ((p40 = none) → (n41 = 0) ∧ (n42 = 0)) ∧ ((p45 = none) → (n46 = 0) ∧ (n47 = 0)) ∧ (((Bool.not
    (decide ((n41 : Int) = (n46 : Int)))) = true) → (R (Value.bool false) H44)) ∧ (((Bool.not (decide ((n41 : Int) = (n46 : Int)))) = false) → ((p45 = none) → (n46 = 0) ∧ (n47 = 0)) ∧ ∃ K48 : (Int → LH → Prop), ∃ K49 :
    (Int → LH → Nat), (K48 (0 : Int) H44) ∧ ∀ x50 : Int, ∀ H51 : LH, (K48 x50 H51) → (((decide (x50 < (n46 : Int))) = true) → ∀ H52 : LH, (H52 = (LH.keep H51 9)) → ∃ n53 n54 : Nat, (p40 = (some (Addr.mk n53 n54 none))) ∧
    ((0 : Int) ≤ x50) ∧ (x50 < (n41 : Int)) ∧ ∃ x55 : Int, (hAt H52 n53 (n54 + ((Int.toNat x50) * 1)) (Value.int .i64 x55)) ∧ ∃ n56 n57 : Nat, (p45 = (some (Addr.mk n56 n57 none))) ∧ ((0 : Int) ≤ x50) ∧ (x50 < (n46 :
    Int)) ∧ ∃ x58 : Int, (hAt H52 n56 (n57 + ((Int.toNat x50) * 1)) (Value.int .i64 x58)) ∧ (((Bool.not (decide (x55 = x58))) = true) → (R (Value.bool false) H52)) ∧ (((Bool.not (decide (x55 = x58))) = false) → (K48
    (IntKind.wrap .i64 (x50 + (1 : Int))) H52) ∧ ((K49 (IntKind.wrap .i64 (x50 + (1 : Int))) H52) < (K49 x50 H51)))) ∧ (((decide (x50 < (n46 : Int))) = false) → (XCall prog f_law43_awake [] H51 (fun (v59 : Value) (H60 :
    LH) => ∃ b61 : Bool, (v59 = (Value.bool b61)) ∧ (R (Value.bool b61) H60))))))))))))))))))

theorem F_law43_SystemUrgencies_call {R : Value → LH → Prop} {H : LH} (a0p : Option Addr) (a0n a0c : Nat) (a1p : Option Addr) (a1n a1c : Nat) (h : F_law43_SystemUrgencies a0p a0n a0c a1p a1n a1c R H) : Call prog f_law43_SystemUrgencies [.slice a0p a0n a0c, .slice a1p a1n a1c] H R := by
  have e : F_law43_SystemUrgencies a0p a0n a0c a1p a1n a1c R H = zfun prog f_law43_SystemUrgencies []
    (.seq none .u (.seq none (.seq none .u (.cond (.seq none .u .u) .u)) (.seq none .u (.seq none .u (.seq none .u (.seq none (.seq none .u (.block (.loop ⟨[(27, .one (.int .i64))], [1, 5, 6, 7, 26]⟩ (.seq none .u (.seq none (.cond .u .u) (.seq none (.block (.seq none .u .u)) .u)))))) (.seq none (.seq none .u (.block (.loop ⟨[(39, .one (.int .i64))], [1, 6, 7, 38]⟩ (.seq none .u (.seq none (.cond .u .u) (.seq none (.block (.seq none .u (.seq none .u (.cond (.seq none .u .u) .u)))) .u)))))) (.seq none .u (.seq none (.seq none .u (.cond (.seq none .u .u) .u)) (.seq none (.seq none .u (.block (.loop ⟨[(63, .one (.int .i64))], [10, 11, 62]⟩ (.seq none .u (.seq none (.cond .u .u) (.seq none (.block (.seq none .u (.seq none (.draw [⟨0, [], []⟩, ⟨1, [], []⟩, ⟨2, [], []⟩, ⟨3, [], []⟩, ⟨4, [], []⟩, ⟨5, [], []⟩, ⟨6, [], []⟩, ⟨7, [], []⟩, ⟨8, [], []⟩]) (.cond (.seq none .u .u) .u)))) .u)))))) (.seq none .u .u)))))))))))
    [.slice a0p a0n a0c, .slice a1p a1n a1c] R H := by kernel_rfl
  rw [e] at h
  exact call_of_zfun mixed h

/-- timebound/timeboundmake.New -/
def F_make_New (a0p : Option Addr) (a0n a0c : Nat) (R : Value → LH → Prop) (H : LH) : Prop :=
  ∀ H1 : LH, (H1 = (LH.new H (LObj.cells [(Value.slice a0p a0n a0c), (Value.int .i64 (0 : Int))] 2 false))) → (R (Value.pointer (some (Addr.mk (LH.next H) 0 none))) H1)

theorem F_make_New_call {R : Value → LH → Prop} {H : LH} (a0p : Option Addr) (a0n a0c : Nat) (h : F_make_New a0p a0n a0c R H) : Call prog f_make_New [.slice a0p a0n a0c] H R := by
  have e : F_make_New a0p a0n a0c R H = zfun prog f_make_New []
    (.seq none .u (.seq none .u .u))
    [.slice a0p a0n a0c] R H := by kernel_rfl
  rw [e] at h
  exact call_of_zfun mixed h

/-- timebound/timeboundmake2.Jobs -/
def F_make2_Jobs (a0 : Option Addr) (a1 : Int) (R : Value → LH → Prop) (H : LH) : Prop :=
  ∃ K1 : ((Option Addr) → Nat → Nat → Int → LH → Prop), ∃ K2 : ((Option Addr) → Nat → Nat → Int → LH → Nat), (K1 none 0 0 (0 : Int) H) ∧ ∀ p3 : (Option Addr), ∀ n4 : Nat, ∀ n5 : Nat, ∀ x6 : Int, ∀ H7 : LH, (K1 p3 n4 n5 x6
    H7) → (((decide (x6 < a1)) = true) → (XCall prog f_make_Deck_Next [(Value.pointer a0), (Value.int .i64 (300 : Int))] H7 (fun (v8 : Value) (H9 : LH) => ∃ x10 : Int, (v8 = (Value.int .i64 x10)) ∧ (XCall prog
    f_make_Deck_Next [(Value.pointer a0), (Value.int .i64 (10 : Int))] H9 (fun (v11 : Value) (H12 : LH) => ∃ x13 : Int, (v11 = (Value.int .i64 x13)) ∧ (XCall prog f_make_Deck_Next [(Value.pointer a0), (Value.int .i64 (4
    : Int))] H12 (fun (v14 : Value) (H15 : LH) => ∃ x16 : Int, (v14 = (Value.int .i64 x16)) ∧ (XCall prog f_make_Deck_Next [(Value.pointer a0), (Value.int .i64 (25 : Int))] H15 (fun (v17 : Value) (H18 : LH) => ∃ x19 :
    Int, (v17 = (Value.int .i64 x19)) ∧ (XCall prog f_make_Deck_Next [(Value.pointer a0), (Value.int .i64 (5 : Int))] H18 (fun (v20 : Value) (H21 : LH) => ∃ x22 : Int, (v20 = (Value.int .i64 x22)) ∧ ∀ H23 : LH, (H23 =
    (LH.keep H21 8)) → (XCall prog f_make_Deck_Next [(Value.pointer a0), (Value.int .i64 (40 : Int))] H23 (fun (v24 : Value) (H25 : LH) => ∃ x26 : Int, (v24 = (Value.int .i64 x26)) ∧ ((Value.int .i64 (IntKind.wrap .i64
    ((50 : Int) + x10))) = (Value.int .i64 (IntKind.wrap .i64 ((50 : Int) + x10)))) ∧ (XCall prog f_make_Deck_Next [(Value.pointer a0), (Value.int .i64 (3 : Int))] H25 (fun (v27 : Value) (H28 : LH) => ∃ x29 : Int, (v27 =
    (Value.int .i64 x29)) ∧ ∃ K30 : (Int → Int → Int → Int → Int → (Option Addr) → Nat → Nat → Int → Int → LH → Prop), ∃ K31 : (Int → Int → Int → Int → Int → (Option Addr) → Nat → Nat → Int → Int → LH → Nat), (K30
    (IntKind.wrap .i64 ((50 : Int) + x10)) (if ((IntKind.wrap .i64 ((IntKind.wrap .i64 ((50 : Int) + x10)) - x26)) > (1 : Int)) then (IntKind.wrap .i64 ((IntKind.wrap .i64 ((50 : Int) + x10)) - x26)) else (1 : Int)) x13
    x16 x19 none 0 0 x22 x29 H28) ∧ ∀ x32 : Int, ∀ x33 : Int, ∀ x34 : Int, ∀ x35 : Int, ∀ x36 : Int, ∀ p37 : (Option Addr), ∀ n38 : Nat, ∀ n39 : Nat, ∀ x40 : Int, ∀ x41 : Int, ∀ H42 : LH, (K30 x32 x33 x34 x35 x36 p37 n38
    n39 x40 x41 H42) → (((decide ((0 : Int) < x41)) = true) → ∀ H43 : LH, (H43 = (LH.keep H42 11)) → (XCall prog f_make_Deck_Next [(Value.pointer a0), (Value.int .i64 (3 : Int))] H43 (fun (v44 : Value) (H45 : LH) => ∃
    x46 : Int, (v44 = (Value.int .i64 x46)) ∧ ((Value.slice p37 n38 n39) = (Value.slice p37 n38 n39)) ∧ (XCall prog f_make_Deck_Next [(Value.pointer a0), (Value.int .i64 (12 : Int))] H45 (fun (v47 : Value) (H48 : LH) =>
    ∃ x49 : Int, (v47 = (Value.int .i64 x49)) ∧ ((Value.slice p37 n38 n39) = (Value.slice p37 n38 n39)) ∧ ∀ H50 : LH, (H50 = (LH.put H48 ((LH.next H42) + 7) (some (LObj.cells [(Value.int .i64 x46), (Value.int .i64 x49)]
    2 false)))) → ∃ p51 : (Option Addr), ∃ n52 n53 : Nat, ∃ H54 : LH, ((appV H50 (some ((LH.next H42) + 8)) 2 16 (Value.slice p37 n38 n39) (Value.slice (some (Addr.mk ((LH.next H42) + 7) 0 none)) 1 1)) = (some
    ((Value.slice p51 n52 n53), H54))) ∧ (K30 x32 x33 x34 x35 x36 p51 n52 n53 x40 (IntKind.wrap .i64 (x41 - (1 : Int))) H54) ∧ ((K31 x32 x33 x34 x35 x36 p51 n52 n53 x40 (IntKind.wrap .i64 (x41 - (1 : Int))) H54) < (K31
    x32 x33 x34 x35 x36 p37 n38 n39 x40 x41 H42))))))) ∧ (((decide ((0 : Int) < x41)) = false) → ∀ H55 : LH, (H55 = (LH.new H42 (LObj.cells [(Value.int .i64 x32), (Value.int .i64 x33), (Value.int .i64 x34), (Value.int
    .i64 x35), (Value.int .i64 x36), (Value.slice p37 n38 n39), (Value.int .i64 x40)] 7 false))) → ∃ p56 : (Option Addr), ∃ n57 n58 : Nat, ∃ H59 : LH, ((appV H55 none 7 72 (Value.slice p3 n4 n5) (Value.slice (some
    (Addr.mk (LH.next H42) 0 none)) 1 1)) = (some ((Value.slice p56 n57 n58), H59))) ∧ (K1 p56 n57 n58 (IntKind.wrap .i64 (x6 + (1 : Int))) H59) ∧ ((K2 p56 n57 n58 (IntKind.wrap .i64 (x6 + (1 : Int))) H59) < (K2 p3 n4 n5
    x6 H7)))))))))))))))))) ∧ (((decide (x6 < a1)) = false) → (R (Value.slice p3 n4 n5) H7))

theorem F_make2_Jobs_call {R : Value → LH → Prop} {H : LH} (a0 : Option Addr) (a1 : Int) (h : F_make2_Jobs a0 a1 R H) : Call prog f_make2_Jobs [.pointer a0, .int .i64 a1] H R := by
  have e : F_make2_Jobs a0 a1 R H = zfun prog f_make2_Jobs [6]
    (.seq none .u (.seq none .u (.seq none (.seq none .u (.block (.loop ⟨[(5, .one .sl), (9, .one (.int .i64))], [0, 8]⟩ (.seq none .u (.seq none (.cond .u .u) (.seq none (.block (.seq none .u (.seq none (.draw [⟨0, [], []⟩, ⟨1, [], []⟩, ⟨2, [], []⟩, ⟨3, [1], []⟩, ⟨4, [], []⟩, ⟨5, [], []⟩, ⟨6, [], []⟩, ⟨7, [], []⟩]) (.seq none (.seq none .u (.block (.loop ⟨[(6, .box [(.int .i64), (.int .i64), (.int .i64), (.int .i64), (.int .i64), .sl, (.int .i64)]), (7, .one (.int .i64))], [0, 5, 8, 9]⟩ (.seq none (.seq none .u (.cond .u .u)) (.seq none (.block (.draw [⟨0, [], []⟩, ⟨1, [], []⟩, ⟨2, [], []⟩, ⟨4, [], []⟩, ⟨3, [1], []⟩, ⟨5, [1], []⟩, ⟨6, [], []⟩, ⟨7, [], []⟩, ⟨8, [], []⟩, ⟨9, [], []⟩, ⟨10, [], []⟩])) .u))))) .u)))) .u)))))) (.seq none .u .u))))
    [.pointer a0, .int .i64 a1] R H := by kernel_rfl
  rw [e] at h
  exact call_of_zfun mixed h

/-- (*timebound/timeboundmake.Deck).Next -/
def F_make_Deck_Next (a0 : Option Addr) (a1 : Int) (R : Value → LH → Prop) (H : LH) : Prop :=
  ∀ H1 : LH, (H1 = (LH.keep H 14)) → ∃ n2 n3 : Nat, (a0 = (some (Addr.mk n2 n3 none))) ∧ ∃ x4 : Int, (hAt H1 n2 (n3 + 1) (Value.int .i64 x4)) ∧ ∃ n5 n6 : Nat, (a0 = (some (Addr.mk n5 n6 none))) ∧ ∃ p7 : (Option Addr), ∃
    n8 n9 : Nat, (hAt H1 n5 (n6 + 0) (Value.slice p7 n8 n9)) ∧ ((p7 = none) → (n8 = 0) ∧ (n9 = 0)) ∧ (((decide ((n8 : Int) ≤ x4)) = true) → (R (Value.int .i64 (0 : Int)) H1)) ∧ (((decide ((n8 : Int) ≤ x4)) = false) →
    (((decide (a1 ≤ (1 : Int))) = true) → (R (Value.int .i64 (0 : Int)) H1)) ∧ (((decide (a1 ≤ (1 : Int))) = false) → ∃ n10 n11 : Nat, (a0 = (some (Addr.mk n10 n11 none))) ∧ ∃ x12 : Int, (hAt H1 n10 (n11 + 1) (Value.int
    .i64 x12)) ∧ ∃ n13 n14 : Nat, (a0 = (some (Addr.mk n13 n14 none))) ∧ ∃ l15 : (List Value), ∃ n16 : Nat, ((LH.get H1 n13) = (some (LObj.cells l15 n16 false))) ∧ (((n14 + 1) + 1) ≤ (List.length l15)) ∧ ∀ H17 : LH, (H17
    = (LH.put H1 n13 (some (LObj.cells (setMany l15 (n14 + 1) [(Value.int .i64 (IntKind.wrap .i64 (x12 + (1 : Int))))]) n16 false)))) → ∀ H18 : LH, (H18 = (LH.keep H17 14)) → ∃ n19 n20 : Nat, (a0 = (some (Addr.mk n19 n20
    none))) ∧ ∃ p21 : (Option Addr), ∃ n22 n23 : Nat, (hAt H18 n19 (n20 + 0) (Value.slice p21 n22 n23)) ∧ ∃ n24 n25 : Nat, (a0 = (some (Addr.mk n24 n25 none))) ∧ ∃ x26 : Int, (hAt H18 n24 (n25 + 1) (Value.int .i64 x26))
    ∧ ∃ n27 n28 : Nat, (p21 = (some (Addr.mk n27 n28 none))) ∧ ((0 : Int) ≤ (IntKind.wrap .i64 (x26 - (1 : Int)))) ∧ ((IntKind.wrap .i64 (x26 - (1 : Int))) < (n22 : Int)) ∧ ∃ x29 : Int, (hAt H18 n27 (n28 + ((Int.toNat
    (IntKind.wrap .i64 (x26 - (1 : Int)))) * 1)) (Value.int .i64 x29)) ∧ (XCall prog f_make_Mod [(Value.int .i64 x29), (Value.int .i64 a1)] H18 (fun (v30 : Value) (H31 : LH) => ∃ x32 : Int, (v30 = (Value.int .i64 x32)) ∧
    (R (Value.int .i64 x32) H31)))))

theorem F_make_Deck_Next_call {R : Value → LH → Prop} {H : LH} (a0 : Option Addr) (a1 : Int) (h : F_make_Deck_Next a0 a1 R H) : Call prog f_make_Deck_Next [.pointer a0, .int .i64 a1] H R := by
  have e : F_make_Deck_Next a0 a1 R H = zfun prog f_make_Deck_Next []
    (.seq none .u (.seq none (.seq none (.draw [⟨0, [], []⟩, ⟨1, [], []⟩, ⟨2, [], []⟩, ⟨3, [], []⟩, ⟨4, [], []⟩, ⟨5, [], []⟩, ⟨6, [], []⟩, ⟨7, [], []⟩, ⟨8, [], []⟩, ⟨9, [], []⟩, ⟨10, [], []⟩, ⟨11, [], []⟩, ⟨12, [], []⟩, ⟨13, [], []⟩]) (.cond (.seq none .u .u) .u)) (.seq none .u (.seq none (.draw [⟨0, [], []⟩, ⟨1, [], []⟩, ⟨2, [], []⟩, ⟨3, [], []⟩, ⟨4, [], []⟩, ⟨5, [], []⟩, ⟨6, [], []⟩, ⟨7, [], []⟩, ⟨8, [], []⟩, ⟨9, [], []⟩, ⟨10, [], []⟩, ⟨11, [], []⟩, ⟨12, [], []⟩, ⟨13, [], []⟩]) .u))))
    [.pointer a0, .int .i64 a1] R H := by kernel_rfl
  rw [e] at h
  exact call_of_zfun mixed h

/-- timebound/system.Urgency -/
def F_system_Urgency (a0p : Option Addr) (a0n a0c : Nat) (a1 : Int) (a2p : Option Addr) (a2n a2c : Nat) (R : Value → LH → Prop) (H : LH) : Prop :=
  (XCall prog f_system_rank [(Value.slice a0p a0n a0c), (Value.int .i64 a1)] H (fun (v1 : Value) (H2 : LH) => ∃ x3 : Int, (v1 = (Value.int .i64 x3)) ∧ ((a2p = none) → (a2n = 0) ∧ (a2c = 0)) ∧ ∃ K4 : (Int → Int → LH →
    Prop), ∃ K5 : (Int → Int → LH → Nat), (K4 x3 (0 : Int) H2) ∧ ∀ x6 : Int, ∀ x7 : Int, ∀ H8 : LH, (K4 x6 x7 H8) → (((decide (x7 < (a2n : Int))) = true) → ∃ n9 n10 : Nat, (a2p = (some (Addr.mk n9 n10 none))) ∧ ((0 :
    Int) ≤ x7) ∧ (x7 < (a2n : Int)) ∧ ∃ b11 : Bool, (hAt H8 n9 (n10 + ((Int.toNat x7) * 1)) (Value.bool b11)) ∧ (XCall prog f_blocking_Ceiling [(Value.slice a0p a0n a0c), (Value.int .i64 x7)] H8 (fun (v12 : Value) (H13 :
    LH) => ∃ x14 : Int, ∃ b15 : Bool, (v12 = (Value.tuple #[(Value.int .i64 x14), (Value.bool b15)])) ∧ ((b11 = true) → ((b15 = true) → (XCall prog f_system_rank [(Value.slice a0p a0n a0c), (Value.int .i64 x14)] H13 (fun
    (v16 : Value) (H17 : LH) => ∃ x18 : Int, (v16 = (Value.int .i64 x18)) ∧ (K4 (if (x18 < x6) then x18 else x6) (IntKind.wrap .i64 (x7 + (1 : Int))) H17) ∧ ((K5 (if (x18 < x6) then x18 else x6) (IntKind.wrap .i64 (x7 +
    (1 : Int))) H17) < (K5 x6 x7 H8))))) ∧ ((b15 = false) → (K4 x6 (IntKind.wrap .i64 (x7 + (1 : Int))) H13) ∧ ((K5 x6 (IntKind.wrap .i64 (x7 + (1 : Int))) H13) < (K5 x6 x7 H8)))) ∧ ((b11 = false) → (K4 x6 (IntKind.wrap
    .i64 (x7 + (1 : Int))) H13) ∧ ((K5 x6 (IntKind.wrap .i64 (x7 + (1 : Int))) H13) < (K5 x6 x7 H8)))))) ∧ (((decide (x7 < (a2n : Int))) = false) → (R (Value.int .i64 x6) H8))))

theorem F_system_Urgency_call {R : Value → LH → Prop} {H : LH} (a0p : Option Addr) (a0n a0c : Nat) (a1 : Int) (a2p : Option Addr) (a2n a2c : Nat) (h : F_system_Urgency a0p a0n a0c a1 a2p a2n a2c R H) : Call prog f_system_Urgency [.slice a0p a0n a0c, .int .i64 a1, .slice a2p a2n a2c] H R := by
  have e : F_system_Urgency a0p a0n a0c a1 a2p a2n a2c R H = zfun prog f_system_Urgency []
    (.seq none .u (.seq none .u (.seq none (.seq none .u (.block (.loop ⟨[(7, .one (.int .i64)), (17, .one (.int .i64))], [0, 15, 16]⟩ (.seq none .u (.seq none (.cond .u .u) (.seq none (.block (.seq none .u (.seq none .u (.seq none .u (.cond .u .u))))) .u)))))) (.seq none .u .u))))
    [.slice a0p a0n a0c, .int .i64 a1, .slice a2p a2n a2c] R H := by kernel_rfl
  rw [e] at h
  exact call_of_zfun mixed h

/-- timebound/timeboundref43.Urgency -/
def F_ref43_Urgency (a0p : Option Addr) (a0n a0c : Nat) (a1 : Int) (a2p : Option Addr) (a2n a2c : Nat) (R : Value → LH → Prop) (H : LH) : Prop :=
  (XCall prog f_ref43_rank [(Value.slice a0p a0n a0c), (Value.int .i64 a1)] H (fun (v1 : Value) (H2 : LH) => ∃ x3 : Int, (v1 = (Value.int .i64 x3)) ∧ ((a2p = none) → (a2n = 0) ∧ (a2c = 0)) ∧ ∃ K4 : (Int → Int → LH →
    Prop), ∃ K5 : (Int → Int → LH → Nat), (K4 x3 (0 : Int) H2) ∧ ∀ x6 : Int, ∀ x7 : Int, ∀ H8 : LH, (K4 x6 x7 H8) → (((decide (x7 < (a2n : Int))) = true) → ∃ n9 n10 : Nat, (a2p = (some (Addr.mk n9 n10 none))) ∧ ((0 :
    Int) ≤ x7) ∧ (x7 < (a2n : Int)) ∧ ∃ b11 : Bool, (hAt H8 n9 (n10 + ((Int.toNat x7) * 1)) (Value.bool b11)) ∧ (XCall prog f_ref40_Ceiling [(Value.slice a0p a0n a0c), (Value.int .i64 x7)] H8 (fun (v12 : Value) (H13 :
    LH) => ∃ x14 : Int, ∃ b15 : Bool, (v12 = (Value.tuple #[(Value.int .i64 x14), (Value.bool b15)])) ∧ ((b15 = true) → ((b11 = true) → (XCall prog f_ref43_rank [(Value.slice a0p a0n a0c), (Value.int .i64 x14)] H13 (fun
    (v16 : Value) (H17 : LH) => ∃ x18 : Int, (v16 = (Value.int .i64 x18)) ∧ (K4 (if (x18 < x6) then x18 else x6) (IntKind.wrap .i64 (x7 + (1 : Int))) H17) ∧ ((K5 (if (x18 < x6) then x18 else x6) (IntKind.wrap .i64 (x7 +
    (1 : Int))) H17) < (K5 x6 x7 H8))))) ∧ ((b11 = false) → (K4 x6 (IntKind.wrap .i64 (x7 + (1 : Int))) H13) ∧ ((K5 x6 (IntKind.wrap .i64 (x7 + (1 : Int))) H13) < (K5 x6 x7 H8)))) ∧ ((b15 = false) → (K4 x6 (IntKind.wrap
    .i64 (x7 + (1 : Int))) H13) ∧ ((K5 x6 (IntKind.wrap .i64 (x7 + (1 : Int))) H13) < (K5 x6 x7 H8)))))) ∧ (((decide (x7 < (a2n : Int))) = false) → (R (Value.int .i64 x6) H8))))

theorem F_ref43_Urgency_call {R : Value → LH → Prop} {H : LH} (a0p : Option Addr) (a0n a0c : Nat) (a1 : Int) (a2p : Option Addr) (a2n a2c : Nat) (h : F_ref43_Urgency a0p a0n a0c a1 a2p a2n a2c R H) : Call prog f_ref43_Urgency [.slice a0p a0n a0c, .int .i64 a1, .slice a2p a2n a2c] H R := by
  have e : F_ref43_Urgency a0p a0n a0c a1 a2p a2n a2c R H = zfun prog f_ref43_Urgency []
    (.seq none .u (.seq none .u (.seq none (.seq none .u (.block (.loop ⟨[(7, .one (.int .i64)), (17, .one (.int .i64))], [0, 15, 16]⟩ (.seq none .u (.seq none (.cond .u .u) (.seq none (.block (.seq none .u (.seq none .u (.seq none .u (.cond .u .u))))) .u)))))) (.seq none .u .u))))
    [.slice a0p a0n a0c, .int .i64 a1, .slice a2p a2n a2c] R H := by kernel_rfl
  rw [e] at h
  exact call_of_zfun mixed h

/-- timebound/system.Budgets -/
def F_system_Budgets (a0p : Option Addr) (a0n a0c : Nat) (R : Value → LH → Prop) (H : LH) : Prop :=
  ((a0p = none) → (a0n = 0) ∧ (a0c = 0)) ∧ ∃ K1 : ((Option Addr) → Nat → Nat → Int → LH → Prop), ∃ K2 : ((Option Addr) → Nat → Nat → Int → LH → Nat), (K1 none 0 0 (0 : Int) H) ∧ ∀ p3 : (Option Addr), ∀ n4 : Nat, ∀ n5 :
    Nat, ∀ x6 : Int, ∀ H7 : LH, (K1 p3 n4 n5 x6 H7) → (((decide (x6 < (a0n : Int))) = true) → ∃ n8 n9 : Nat, (a0p = (some (Addr.mk n8 n9 none))) ∧ ((0 : Int) ≤ x6) ∧ (x6 < (a0n : Int)) ∧ ∃ x10 : Int, (hAt H7 n8 (n9 +
    ((Int.toNat x6) * 2)) (Value.int .i64 x10)) ∧ ∃ x11 : Int, (hAt H7 n8 ((n9 + ((Int.toNat x6) * 2)) + 1) (Value.int .i64 x11)) ∧ ∀ H12 : LH, (H12 = (LH.new H7 (LObj.cells [(Value.int .i64 x11)] 1 false))) → ∃ p13 :
    (Option Addr), ∃ n14 n15 : Nat, ∃ H16 : LH, ((appV H12 none 1 8 (Value.slice p3 n4 n5) (Value.slice (some (Addr.mk (LH.next H7) 0 none)) 1 1)) = (some ((Value.slice p13 n14 n15), H16))) ∧ (K1 p13 n14 n15
    (IntKind.wrap .i64 (x6 + (1 : Int))) H16) ∧ ((K2 p13 n14 n15 (IntKind.wrap .i64 (x6 + (1 : Int))) H16) < (K2 p3 n4 n5 x6 H7))) ∧ (((decide (x6 < (a0n : Int))) = false) → (R (Value.slice p3 n4 n5) H7))

theorem F_system_Budgets_call {R : Value → LH → Prop} {H : LH} (a0p : Option Addr) (a0n a0c : Nat) (h : F_system_Budgets a0p a0n a0c R H) : Call prog f_system_Budgets [.slice a0p a0n a0c] H R := by
  have e : F_system_Budgets a0p a0n a0c R H = zfun prog f_system_Budgets [5]
    (.seq none .u (.seq none .u (.seq none (.seq none .u (.block (.loop ⟨[(3, .one .sl), (8, .one (.int .i64))], [6, 7]⟩ (.seq none .u (.seq none (.cond .u .u) (.seq none (.block (.seq none .u .u)) .u)))))) (.seq none .u .u))))
    [.slice a0p a0n a0c] R H := by kernel_rfl
  rw [e] at h
  exact call_of_zfun mixed h

/-- timebound/timeboundref43.Budgets -/
def F_ref43_Budgets (a0p : Option Addr) (a0n a0c : Nat) (R : Value → LH → Prop) (H : LH) : Prop :=
  ((a0p = none) → (a0n = 0) ∧ (a0c = 0)) ∧ ∃ K1 : ((Option Addr) → Nat → Nat → Int → LH → Prop), ∃ K2 : ((Option Addr) → Nat → Nat → Int → LH → Nat), (K1 none 0 0 (0 : Int) H) ∧ ∀ p3 : (Option Addr), ∀ n4 : Nat, ∀ n5 :
    Nat, ∀ x6 : Int, ∀ H7 : LH, (K1 p3 n4 n5 x6 H7) → (((decide (x6 < (a0n : Int))) = true) → ∃ n8 n9 : Nat, (a0p = (some (Addr.mk n8 n9 none))) ∧ ((0 : Int) ≤ x6) ∧ (x6 < (a0n : Int)) ∧ ∃ x10 : Int, (hAt H7 n8 (n9 +
    ((Int.toNat x6) * 2)) (Value.int .i64 x10)) ∧ ∃ x11 : Int, (hAt H7 n8 ((n9 + ((Int.toNat x6) * 2)) + 1) (Value.int .i64 x11)) ∧ ∀ H12 : LH, (H12 = (LH.new H7 (LObj.cells [(Value.int .i64 x11)] 1 false))) → ∃ p13 :
    (Option Addr), ∃ n14 n15 : Nat, ∃ H16 : LH, ((appV H12 none 1 8 (Value.slice p3 n4 n5) (Value.slice (some (Addr.mk (LH.next H7) 0 none)) 1 1)) = (some ((Value.slice p13 n14 n15), H16))) ∧ (K1 p13 n14 n15
    (IntKind.wrap .i64 (x6 + (1 : Int))) H16) ∧ ((K2 p13 n14 n15 (IntKind.wrap .i64 (x6 + (1 : Int))) H16) < (K2 p3 n4 n5 x6 H7))) ∧ (((decide (x6 < (a0n : Int))) = false) → (R (Value.slice p3 n4 n5) H7))

theorem F_ref43_Budgets_call {R : Value → LH → Prop} {H : LH} (a0p : Option Addr) (a0n a0c : Nat) (h : F_ref43_Budgets a0p a0n a0c R H) : Call prog f_ref43_Budgets [.slice a0p a0n a0c] H R := by
  have e : F_ref43_Budgets a0p a0n a0c R H = zfun prog f_ref43_Budgets [5]
    (.seq none .u (.seq none .u (.seq none (.seq none .u (.block (.loop ⟨[(3, .one .sl), (8, .one (.int .i64))], [6, 7]⟩ (.seq none .u (.seq none (.cond .u .u) (.seq none (.block (.seq none .u .u)) .u)))))) (.seq none .u .u))))
    [.slice a0p a0n a0c] R H := by kernel_rfl
  rw [e] at h
  exact call_of_zfun mixed h

/-- timebound/timeboundmake.Mod -/
def F_make_Mod (a0 : Int) (a1 : Int) (R : Value → LH → Prop) (H : LH) : Prop :=
  (a1 ≠ (0 : Int)) ∧ (a1 ≠ (0 : Int)) ∧ (R (Value.int .i64 (Int.tmod (IntKind.wrap .i64 ((Int.tmod a0 a1) + a1)) a1)) H)

theorem F_make_Mod_call {R : Value → LH → Prop} {H : LH} (a0 : Int) (a1 : Int) (h : F_make_Mod a0 a1 R H) : Call prog f_make_Mod [.int .i64 a0, .int .i64 a1] H R := by
  have e : F_make_Mod a0 a1 R H = zfun prog f_make_Mod []
    (.seq none .u (.seq none .u .u))
    [.int .i64 a0, .int .i64 a1] R H := by kernel_rfl
  rw [e] at h
  exact call_of_zfun mixed h

/-- timebound/system.rank -/
def F_system_rank (a0p : Option Addr) (a0n a0c : Nat) (a1 : Int) (R : Value → LH → Prop) (H : LH) : Prop :=
  ((a0p = none) → (a0n = 0) ∧ (a0c = 0)) ∧ ∃ K1 : (Int → Int → LH → Prop), ∃ K2 : (Int → Int → LH → Nat), (K1 (0 : Int) (0 : Int) H) ∧ ∀ x3 : Int, ∀ x4 : Int, ∀ H5 : LH, (K1 x3 x4 H5) → (((decide (x4 < (a0n : Int))) =
    true) → (XCall prog f_blocking_Before [(Value.slice a0p a0n a0c), (Value.int .i64 x4), (Value.int .i64 a1)] H5 (fun (v6 : Value) (H7 : LH) => ∃ b8 : Bool, (v6 = (Value.bool b8)) ∧ ((b8 = true) → (K1 (IntKind.wrap
    .i64 (x3 + (1 : Int))) (IntKind.wrap .i64 (x4 + (1 : Int))) H7) ∧ ((K2 (IntKind.wrap .i64 (x3 + (1 : Int))) (IntKind.wrap .i64 (x4 + (1 : Int))) H7) < (K2 x3 x4 H5))) ∧ ((b8 = false) → (K1 x3 (IntKind.wrap .i64 (x4 +
    (1 : Int))) H7) ∧ ((K2 x3 (IntKind.wrap .i64 (x4 + (1 : Int))) H7) < (K2 x3 x4 H5)))))) ∧ (((decide (x4 < (a0n : Int))) = false) → (R (Value.int .i64 x3) H5))

theorem F_system_rank_call {R : Value → LH → Prop} {H : LH} (a0p : Option Addr) (a0n a0c : Nat) (a1 : Int) (h : F_system_rank a0p a0n a0c a1 R H) : Call prog f_system_rank [.slice a0p a0n a0c, .int .i64 a1] H R := by
  have e : F_system_rank a0p a0n a0c a1 R H = zfun prog f_system_rank []
    (.seq none .u (.seq none .u (.seq none (.seq none .u (.block (.loop ⟨[(5, .one (.int .i64)), (9, .one (.int .i64))], [0, 1, 8]⟩ (.seq none .u (.seq none (.cond .u .u) (.seq none (.block (.seq none .u (.seq none .u (.cond .u .u)))) .u)))))) (.seq none .u .u))))
    [.slice a0p a0n a0c, .int .i64 a1] R H := by kernel_rfl
  rw [e] at h
  exact call_of_zfun mixed h

/-- timebound/blocking.Ceiling -/
def F_blocking_Ceiling (a0p : Option Addr) (a0n a0c : Nat) (a1 : Int) (R : Value → LH → Prop) (H : LH) : Prop :=
  ∀ H1 : LH, (H1 = (LH.new H (LObj.cells [(Value.int .i64 a1)] 1 false))) → ((a0p = none) → (a0n = 0) ∧ (a0c = 0)) ∧ ∃ K2 : (Int → Bool → Int → LH → Prop), ∃ K3 : (Int → Bool → Int → LH → Nat), (K2 (0 : Int) false (0 :
    Int) H1) ∧ ∀ x4 : Int, ∀ b5 : Bool, ∀ x6 : Int, ∀ H7 : LH, (K2 x4 b5 x6 H7) → (((decide (x6 < (a0n : Int))) = true) → ∃ n8 n9 : Nat, (a0p = (some (Addr.mk n8 n9 none))) ∧ ((0 : Int) ≤ x6) ∧ (x6 < (a0n : Int)) ∧ ∃ x10
    : Int, (hAt H7 n8 (n9 + ((Int.toNat x6) * 7)) (Value.int .i64 x10)) ∧ ∃ x11 : Int, (hAt H7 n8 ((n9 + ((Int.toNat x6) * 7)) + 1) (Value.int .i64 x11)) ∧ ∃ x12 : Int, (hAt H7 n8 (((n9 + ((Int.toNat x6) * 7)) + 1) + 1)
    (Value.int .i64 x12)) ∧ ∃ x13 : Int, (hAt H7 n8 ((((n9 + ((Int.toNat x6) * 7)) + 1) + 1) + 1) (Value.int .i64 x13)) ∧ ∃ x14 : Int, (hAt H7 n8 (((((n9 + ((Int.toNat x6) * 7)) + 1) + 1) + 1) + 1) (Value.int .i64 x14))
    ∧ ∃ p15 : (Option Addr), ∃ n16 n17 : Nat, (hAt H7 n8 ((((((n9 + ((Int.toNat x6) * 7)) + 1) + 1) + 1) + 1) + 1) (Value.slice p15 n16 n17)) ∧ ∃ x18 : Int, (hAt H7 n8 (((((((n9 + ((Int.toNat x6) * 7)) + 1) + 1) + 1) +
    1) + 1) + 1) (Value.int .i64 x18)) ∧ (XCall prog f_slices_ContainsFunc_api_Hold_api_Hold [(Value.slice p15 n16 n17), (Value.func (Fn.func f_blocking_Ceiling_1) #[] #[(Value.pointer (some (Addr.mk (LH.next H) 0
    none)))])] H7 (fun (v19 : Value) (H20 : LH) => ∃ b21 : Bool, (v19 = (Value.bool b21)) ∧ ((b21 = true) → (((Bool.not b5) = true) → (K2 x6 true (IntKind.wrap .i64 (x6 + (1 : Int))) H20) ∧ ((K3 x6 true (IntKind.wrap
    .i64 (x6 + (1 : Int))) H20) < (K3 x4 b5 x6 H7))) ∧ (((Bool.not b5) = false) → (XCall prog f_blocking_Before [(Value.slice a0p a0n a0c), (Value.int .i64 x6), (Value.int .i64 x4)] H20 (fun (v22 : Value) (H23 : LH) => ∃
    b24 : Bool, (v22 = (Value.bool b24)) ∧ ((b24 = true) → (K2 x6 true (IntKind.wrap .i64 (x6 + (1 : Int))) H23) ∧ ((K3 x6 true (IntKind.wrap .i64 (x6 + (1 : Int))) H23) < (K3 x4 b5 x6 H7))) ∧ ((b24 = false) → (K2 x4 b5
    (IntKind.wrap .i64 (x6 + (1 : Int))) H23) ∧ ((K3 x4 b5 (IntKind.wrap .i64 (x6 + (1 : Int))) H23) < (K3 x4 b5 x6 H7))))))) ∧ ((b21 = false) → (K2 x4 b5 (IntKind.wrap .i64 (x6 + (1 : Int))) H20) ∧ ((K3 x4 b5
    (IntKind.wrap .i64 (x6 + (1 : Int))) H20) < (K3 x4 b5 x6 H7)))))) ∧ (((decide (x6 < (a0n : Int))) = false) → (R (Value.tuple #[(Value.int .i64 x4), (Value.bool b5)]) H7))

theorem F_blocking_Ceiling_call {R : Value → LH → Prop} {H : LH} (a0p : Option Addr) (a0n a0c : Nat) (a1 : Int) (h : F_blocking_Ceiling a0p a0n a0c a1 R H) : Call prog f_blocking_Ceiling [.slice a0p a0n a0c, .int .i64 a1] H R := by
  have e : F_blocking_Ceiling a0p a0n a0c a1 R H = zfun prog f_blocking_Ceiling [9]
    (.seq none .u (.seq none .u (.seq none (.seq none .u (.block (.loop ⟨[(6, .one (.int .i64)), (7, .one .bool), (12, .one (.int .i64))], [0, 3, 10, 11]⟩ (.seq none .u (.seq none (.cond .u .u) (.seq none (.block (.seq none .u (.seq none .u (.cond .u .u)))) .u)))))) (.seq none .u .u))))
    [.slice a0p a0n a0c, .int .i64 a1] R H := by kernel_rfl
  rw [e] at h
  exact call_of_zfun mixed h

/-- timebound/timeboundref43.rank -/
def F_ref43_rank (a0p : Option Addr) (a0n a0c : Nat) (a1 : Int) (R : Value → LH → Prop) (H : LH) : Prop :=
  ((a0p = none) → (a0n = 0) ∧ (a0c = 0)) ∧ ∃ K1 : (Int → Int → LH → Prop), ∃ K2 : (Int → Int → LH → Nat), (K1 (0 : Int) (0 : Int) H) ∧ ∀ x3 : Int, ∀ x4 : Int, ∀ H5 : LH, (K1 x3 x4 H5) → (((decide (x4 < (a0n : Int))) =
    true) → (XCall prog f_ref40_Before [(Value.slice a0p a0n a0c), (Value.int .i64 x4), (Value.int .i64 a1)] H5 (fun (v6 : Value) (H7 : LH) => ∃ b8 : Bool, (v6 = (Value.bool b8)) ∧ ((b8 = true) → (K1 (IntKind.wrap .i64
    (x3 + (1 : Int))) (IntKind.wrap .i64 (x4 + (1 : Int))) H7) ∧ ((K2 (IntKind.wrap .i64 (x3 + (1 : Int))) (IntKind.wrap .i64 (x4 + (1 : Int))) H7) < (K2 x3 x4 H5))) ∧ ((b8 = false) → (K1 x3 (IntKind.wrap .i64 (x4 + (1 :
    Int))) H7) ∧ ((K2 x3 (IntKind.wrap .i64 (x4 + (1 : Int))) H7) < (K2 x3 x4 H5)))))) ∧ (((decide (x4 < (a0n : Int))) = false) → (R (Value.int .i64 x3) H5))

theorem F_ref43_rank_call {R : Value → LH → Prop} {H : LH} (a0p : Option Addr) (a0n a0c : Nat) (a1 : Int) (h : F_ref43_rank a0p a0n a0c a1 R H) : Call prog f_ref43_rank [.slice a0p a0n a0c, .int .i64 a1] H R := by
  have e : F_ref43_rank a0p a0n a0c a1 R H = zfun prog f_ref43_rank []
    (.seq none .u (.seq none .u (.seq none (.seq none .u (.block (.loop ⟨[(5, .one (.int .i64)), (9, .one (.int .i64))], [0, 1, 8]⟩ (.seq none .u (.seq none (.cond .u .u) (.seq none (.block (.seq none .u (.seq none .u (.cond .u .u)))) .u)))))) (.seq none .u .u))))
    [.slice a0p a0n a0c, .int .i64 a1] R H := by kernel_rfl
  rw [e] at h
  exact call_of_zfun mixed h

/-- timebound/timeboundref40.Ceiling -/
def F_ref40_Ceiling (a0p : Option Addr) (a0n a0c : Nat) (a1 : Int) (R : Value → LH → Prop) (H : LH) : Prop :=
  ((a0p = none) → (a0n = 0) ∧ (a0c = 0)) ∧ ∃ K1 : (Int → Bool → Int → LH → Prop), ∃ K2 : (Int → Bool → Int → LH → Nat), (K1 (0 : Int) false (0 : Int) H) ∧ ∀ x3 : Int, ∀ b4 : Bool, ∀ x5 : Int, ∀ H6 : LH, (K1 x3 b4 x5 H6) →
    (((decide (x5 < (a0n : Int))) = true) → ∃ n7 n8 : Nat, (a0p = (some (Addr.mk n7 n8 none))) ∧ ((0 : Int) ≤ x5) ∧ (x5 < (a0n : Int)) ∧ ∃ x9 : Int, (hAt H6 n7 (n8 + ((Int.toNat x5) * 7)) (Value.int .i64 x9)) ∧ ∃ x10 :
    Int, (hAt H6 n7 ((n8 + ((Int.toNat x5) * 7)) + 1) (Value.int .i64 x10)) ∧ ∃ x11 : Int, (hAt H6 n7 (((n8 + ((Int.toNat x5) * 7)) + 1) + 1) (Value.int .i64 x11)) ∧ ∃ x12 : Int, (hAt H6 n7 ((((n8 + ((Int.toNat x5) * 7))
    + 1) + 1) + 1) (Value.int .i64 x12)) ∧ ∃ x13 : Int, (hAt H6 n7 (((((n8 + ((Int.toNat x5) * 7)) + 1) + 1) + 1) + 1) (Value.int .i64 x13)) ∧ ∃ p14 : (Option Addr), ∃ n15 n16 : Nat, (hAt H6 n7 ((((((n8 + ((Int.toNat x5)
    * 7)) + 1) + 1) + 1) + 1) + 1) (Value.slice p14 n15 n16)) ∧ ∃ x17 : Int, (hAt H6 n7 (((((((n8 + ((Int.toNat x5) * 7)) + 1) + 1) + 1) + 1) + 1) + 1) (Value.int .i64 x17)) ∧ (XCall prog f_ref40_uses [(Value.agg
    #[(Value.int .i64 x9), (Value.int .i64 x10), (Value.int .i64 x11), (Value.int .i64 x12), (Value.int .i64 x13), (Value.slice p14 n15 n16), (Value.int .i64 x17)]), (Value.int .i64 a1)] H6 (fun (v18 : Value) (H19 : LH)
    => ∃ b20 : Bool, (v18 = (Value.bool b20)) ∧ ((b20 = true) → (((Bool.not b4) = true) → (K1 x5 true (IntKind.wrap .i64 (x5 + (1 : Int))) H19) ∧ ((K2 x5 true (IntKind.wrap .i64 (x5 + (1 : Int))) H19) < (K2 x3 b4 x5
    H6))) ∧ (((Bool.not b4) = false) → (XCall prog f_ref40_Before [(Value.slice a0p a0n a0c), (Value.int .i64 x5), (Value.int .i64 x3)] H19 (fun (v21 : Value) (H22 : LH) => ∃ b23 : Bool, (v21 = (Value.bool b23)) ∧ ((b23
    = true) → (K1 x5 true (IntKind.wrap .i64 (x5 + (1 : Int))) H22) ∧ ((K2 x5 true (IntKind.wrap .i64 (x5 + (1 : Int))) H22) < (K2 x3 b4 x5 H6))) ∧ ((b23 = false) → (K1 x3 b4 (IntKind.wrap .i64 (x5 + (1 : Int))) H22) ∧
    ((K2 x3 b4 (IntKind.wrap .i64 (x5 + (1 : Int))) H22) < (K2 x3 b4 x5 H6))))))) ∧ ((b20 = false) → (K1 x3 b4 (IntKind.wrap .i64 (x5 + (1 : Int))) H19) ∧ ((K2 x3 b4 (IntKind.wrap .i64 (x5 + (1 : Int))) H19) < (K2 x3 b4
    x5 H6)))))) ∧ (((decide (x5 < (a0n : Int))) = false) → (R (Value.tuple #[(Value.int .i64 x3), (Value.bool b4)]) H6))

theorem F_ref40_Ceiling_call {R : Value → LH → Prop} {H : LH} (a0p : Option Addr) (a0n a0c : Nat) (a1 : Int) (h : F_ref40_Ceiling a0p a0n a0c a1 R H) : Call prog f_ref40_Ceiling [.slice a0p a0n a0c, .int .i64 a1] H R := by
  have e : F_ref40_Ceiling a0p a0n a0c a1 R H = zfun prog f_ref40_Ceiling [9]
    (.seq none .u (.seq none .u (.seq none (.seq none .u (.block (.loop ⟨[(6, .one (.int .i64)), (7, .one .bool), (12, .one (.int .i64))], [0, 1, 10, 11]⟩ (.seq none .u (.seq none (.cond .u .u) (.seq none (.block (.seq none .u (.seq none .u (.cond .u .u)))) .u)))))) (.seq none .u .u))))
    [.slice a0p a0n a0c, .int .i64 a1] R H := by kernel_rfl
  rw [e] at h
  exact call_of_zfun mixed h

/-- timebound/timeboundref22.Empty -/
def F_ref22_Empty (a0_0 : Int) (a0_1 : Int) (a0_2 : Int) (R : Value → LH → Prop) (H : LH) : Prop :=
  ∃ K1 : ((Option Addr) → Nat → Nat → Int → LH → Prop), ∃ K2 : ((Option Addr) → Nat → Nat → Int → LH → Nat), (K1 none 0 0 (0 : Int) H) ∧ ∀ p3 : (Option Addr), ∀ n4 : Nat, ∀ n5 : Nat, ∀ x6 : Int, ∀ H7 : LH, (K1 p3 n4 n5 x6
    H7) → (((decide (x6 < a0_0)) = true) → (XCall prog f_ref22_Check [(Value.agg #[(Value.int .i64 a0_0), (Value.int .i64 a0_1), (Value.int .i64 a0_2)])] H7 (fun (v8 : Value) (H9 : LH) => ∃ x10 : Int, (v8 = (Value.int
    .i64 x10)) ∧ (((decide (x10 = (0 : Int))) = true) → ∃ K11 : ((Option Addr) → Nat → Nat → Int → LH → Prop), ∃ K12 : ((Option Addr) → Nat → Nat → Int → LH → Nat), (K11 none 0 0 (0 : Int) H9) ∧ ∀ p13 : (Option Addr), ∀
    n14 : Nat, ∀ n15 : Nat, ∀ x16 : Int, ∀ H17 : LH, (K11 p13 n14 n15 x16 H17) → (((decide (x16 < a0_1)) = true) → ∀ H18 : LH, (H18 = (LH.new H17 (LObj.cells [(Value.int .i64 (-(1 : Int)))] 1 false))) → ∃ p19 : (Option
    Addr), ∃ n20 n21 : Nat, ∃ H22 : LH, ((appV H18 none 1 8 (Value.slice p13 n14 n15) (Value.slice (some (Addr.mk (LH.next H17) 0 none)) 1 1)) = (some ((Value.slice p19 n20 n21), H22))) ∧ (K11 p19 n20 n21 (IntKind.wrap
    .i64 (x16 + (1 : Int))) H22) ∧ ((K12 p19 n20 n21 (IntKind.wrap .i64 (x16 + (1 : Int))) H22) < (K12 p13 n14 n15 x16 H17))) ∧ (((decide (x16 < a0_1)) = false) → ∀ H23 : LH, (H23 = (LH.new H17 (LObj.cells [(Value.slice
    p13 n14 n15)] 1 false))) → ∃ p24 : (Option Addr), ∃ n25 n26 : Nat, ∃ H27 : LH, ((appV H23 none 1 24 (Value.slice p3 n4 n5) (Value.slice (some (Addr.mk (LH.next H17) 0 none)) 1 1)) = (some ((Value.slice p24 n25 n26),
    H27))) ∧ (K1 p24 n25 n26 (IntKind.wrap .i64 (x6 + (1 : Int))) H27) ∧ ((K2 p24 n25 n26 (IntKind.wrap .i64 (x6 + (1 : Int))) H27) < (K2 p3 n4 n5 x6 H7)))) ∧ (((decide (x10 = (0 : Int))) = false) → (R (Value.agg
    #[(Value.slice p3 n4 n5)]) H9))))) ∧ (((decide (x6 < a0_0)) = false) → (R (Value.agg #[(Value.slice p3 n4 n5)]) H7))

theorem F_ref22_Empty_call {R : Value → LH → Prop} {H : LH} (a0_0 : Int) (a0_1 : Int) (a0_2 : Int) (h : F_ref22_Empty a0_0 a0_1 a0_2 R H) : Call prog f_ref22_Empty [.agg #[.int .i64 a0_0, .int .i64 a0_1, .int .i64 a0_2]] H R := by
  have e : F_ref22_Empty a0_0 a0_1 a0_2 R H = zfun prog f_ref22_Empty [1, 2, 3]
    (.seq none .u (.seq none .u (.seq none (.seq none .u (.block (.loop ⟨[(3, .box [.sl]), (4, .one (.int .i64))], [1, 2]⟩ (.seq none (.seq none .u (.cond .u .u)) (.seq none (.block (.seq none .u (.seq none (.seq none .u (.block (.loop ⟨[(5, .one .sl), (6, .one (.int .i64))], [1, 2, 3, 4]⟩ (.seq none (.seq none .u (.cond .u .u)) (.seq none (.block .u) .u))))) .u))) .u))))) (.seq none .u .u))))
    [.agg #[.int .i64 a0_0, .int .i64 a0_1, .int .i64 a0_2]] R H := by kernel_rfl
  rw [e] at h
  exact call_of_zfun mixed h

/-- timebound/blocking.Before -/
def F_blocking_Before (a0p : Option Addr) (a0n a0c : Nat) (a1 : Int) (a2 : Int) (R : Value → LH → Prop) (H : LH) : Prop :=
  ((a0p = none) → (a0n = 0) ∧ (a0c = 0)) ∧ (XCall prog f_blocking_within [(Value.int .i64 a1), (Value.int .i64 (0 : Int)), (Value.int .i64 (IntKind.wrap .i64 ((a0n : Int) - (1 : Int))))] H (fun (v1 : Value) (H2 : LH) => ∃
    b3 : Bool, (v1 = (Value.bool b3)) ∧ (((Bool.not b3) = true) → (R (Value.bool false) H2)) ∧ (((Bool.not b3) = false) → ((a0p = none) → (a0n = 0) ∧ (a0c = 0)) ∧ (XCall prog f_blocking_within [(Value.int .i64 a2),
    (Value.int .i64 (0 : Int)), (Value.int .i64 (IntKind.wrap .i64 ((a0n : Int) - (1 : Int))))] H2 (fun (v4 : Value) (H5 : LH) => ∃ b6 : Bool, (v4 = (Value.bool b6)) ∧ (((Bool.not b6) = true) → (R (Value.bool false) H5))
    ∧ (((Bool.not b6) = false) → ∀ H7 : LH, (H7 = (LH.keep H5 30)) → ∃ n8 n9 : Nat, (a0p = (some (Addr.mk n8 n9 none))) ∧ ((0 : Int) ≤ a1) ∧ (a1 < (a0n : Int)) ∧ ∃ x10 : Int, (hAt H7 n8 ((n9 + ((Int.toNat a1) * 7)) + 3)
    (Value.int .i64 x10)) ∧ ∃ n11 n12 : Nat, (a0p = (some (Addr.mk n11 n12 none))) ∧ ((0 : Int) ≤ a2) ∧ (a2 < (a0n : Int)) ∧ ∃ x13 : Int, (hAt H7 n11 ((n12 + ((Int.toNat a2) * 7)) + 3) (Value.int .i64 x13)) ∧ (((decide
    (x13 < x10)) = true) → (R (Value.bool true) H7)) ∧ (((decide (x13 < x10)) = false) → ∃ n14 n15 : Nat, (a0p = (some (Addr.mk n14 n15 none))) ∧ ((0 : Int) ≤ a1) ∧ (a1 < (a0n : Int)) ∧ ∃ x16 : Int, (hAt H7 n14 ((n15 +
    ((Int.toNat a1) * 7)) + 3) (Value.int .i64 x16)) ∧ ∃ n17 n18 : Nat, (a0p = (some (Addr.mk n17 n18 none))) ∧ ((0 : Int) ≤ a2) ∧ (a2 < (a0n : Int)) ∧ ∃ x19 : Int, (hAt H7 n17 ((n18 + ((Int.toNat a2) * 7)) + 3)
    (Value.int .i64 x19)) ∧ (((decide (x16 = x19)) = true) → (R (Value.bool (decide (a1 < a2))) H7)) ∧ (((decide (x16 = x19)) = false) → (R (Value.bool false) H7)))))))))

theorem F_blocking_Before_call {R : Value → LH → Prop} {H : LH} (a0p : Option Addr) (a0n a0c : Nat) (a1 : Int) (a2 : Int) (h : F_blocking_Before a0p a0n a0c a1 a2 R H) : Call prog f_blocking_Before [.slice a0p a0n a0c, .int .i64 a1, .int .i64 a2] H R := by
  have e : F_blocking_Before a0p a0n a0c a1 a2 R H = zfun prog f_blocking_Before []
    (.seq none .u (.seq none (.seq none .u (.cond (.seq none .u .u) .u)) (.seq none (.draw [⟨0, [], []⟩, ⟨1, [], []⟩, ⟨2, [], []⟩, ⟨3, [], []⟩, ⟨4, [], []⟩, ⟨5, [], []⟩, ⟨6, [], []⟩, ⟨7, [], []⟩, ⟨8, [], []⟩, ⟨9, [], []⟩, ⟨10, [], []⟩, ⟨11, [], []⟩, ⟨12, [], []⟩, ⟨13, [], []⟩, ⟨14, [], []⟩, ⟨15, [], []⟩, ⟨16, [], []⟩, ⟨17, [], []⟩, ⟨18, [], []⟩, ⟨19, [], []⟩, ⟨20, [], []⟩, ⟨21, [], []⟩, ⟨22, [], []⟩, ⟨23, [], []⟩, ⟨24, [], []⟩, ⟨25, [], []⟩, ⟨26, [], []⟩, ⟨27, [], []⟩, ⟨28, [], []⟩, ⟨29, [], []⟩]) .u)))
    [.slice a0p a0n a0c, .int .i64 a1, .int .i64 a2] R H := by kernel_rfl
  rw [e] at h
  exact call_of_zfun mixed h

/-- slices.ContainsFunc[[]timebound/api.Hold,timebound/api.Hold] -/
def F_slices_ContainsFunc_api_Hold_api_Hold (a0p : Option Addr) (a0n a0c : Nat) (a1 : Value) (R : Value → LH → Prop) (H : LH) : Prop :=
  (XCall prog f_slices_IndexFunc_api_Hold_api_Hold [(Value.slice a0p a0n a0c), a1] H (fun (v1 : Value) (H2 : LH) => ∃ x3 : Int, (v1 = (Value.int .i64 x3)) ∧ (R (Value.bool (decide ((0 : Int) ≤ x3))) H2)))

theorem F_slices_ContainsFunc_api_Hold_api_Hold_call {R : Value → LH → Prop} {H : LH} (a0p : Option Addr) (a0n a0c : Nat) (a1 : Value) (h : F_slices_ContainsFunc_api_Hold_api_Hold a0p a0n a0c a1 R H) : Call prog f_slices_ContainsFunc_api_Hold_api_Hold [.slice a0p a0n a0c, a1] H R := by
  have e : F_slices_ContainsFunc_api_Hold_api_Hold a0p a0n a0c a1 R H = zfun prog f_slices_ContainsFunc_api_Hold_api_Hold []
    (.seq none .u (.seq none .u .u))
    [.slice a0p a0n a0c, a1] R H := by kernel_rfl
  rw [e] at h
  exact call_of_zfun mixed h

/-- timebound/blocking.Ceiling$1 -/
def F_blocking_Ceiling_1 (a0_0 : Int) (a0_1 : Int) (f0b f0i : Nat) (R : Value → LH → Prop) (H : LH) : Prop :=
  ∃ x1 : Int, (hAt H f0b f0i (Value.int .i64 x1)) ∧ (R (Value.bool (decide (a0_0 = x1))) H)

theorem F_blocking_Ceiling_1_call {R : Value → LH → Prop} {H : LH} (a0_0 : Int) (a0_1 : Int) (f0b f0i : Nat) (h : F_blocking_Ceiling_1 a0_0 a0_1 f0b f0i R H) : Call prog f_blocking_Ceiling_1 [.agg #[.int .i64 a0_0, .int .i64 a0_1], .pointer (some ⟨f0b, f0i, none⟩)] H R := by
  have e : F_blocking_Ceiling_1 a0_0 a0_1 f0b f0i R H = zfun prog f_blocking_Ceiling_1 [2]
    (.seq none .u (.seq none .u .u))
    [.agg #[.int .i64 a0_0, .int .i64 a0_1], .pointer (some ⟨f0b, f0i, none⟩)] R H := by kernel_rfl
  rw [e] at h
  exact call_of_zfun mixed h

/-- timebound/timeboundref40.Before -/
def F_ref40_Before (a0p : Option Addr) (a0n a0c : Nat) (a1 : Int) (a2 : Int) (R : Value → LH → Prop) (H : LH) : Prop :=
  (((decide (a1 < (0 : Int))) = true) → (R (Value.bool false) H)) ∧ (((decide (a1 < (0 : Int))) = false) → (((decide (a2 < (0 : Int))) = true) → (R (Value.bool false) H)) ∧ (((decide (a2 < (0 : Int))) = false) → ((a0p =
    none) → (a0n = 0) ∧ (a0c = 0)) ∧ (((decide ((a0n : Int) ≤ a1)) = true) → (R (Value.bool false) H)) ∧ (((decide ((a0n : Int) ≤ a1)) = false) → ((a0p = none) → (a0n = 0) ∧ (a0c = 0)) ∧ (((decide ((a0n : Int) ≤ a2)) =
    true) → (R (Value.bool false) H)) ∧ (((decide ((a0n : Int) ≤ a2)) = false) → (((decide (a1 = a2)) = true) → (R (Value.bool false) H)) ∧ (((decide (a1 = a2)) = false) → ∀ H1 : LH, (H1 = (LH.keep H 30)) → ∃ n2 n3 :
    Nat, (a0p = (some (Addr.mk n2 n3 none))) ∧ ((0 : Int) ≤ a1) ∧ (a1 < (a0n : Int)) ∧ ∃ x4 : Int, (hAt H1 n2 ((n3 + ((Int.toNat a1) * 7)) + 3) (Value.int .i64 x4)) ∧ ∃ n5 n6 : Nat, (a0p = (some (Addr.mk n5 n6 none))) ∧
    ((0 : Int) ≤ a2) ∧ (a2 < (a0n : Int)) ∧ ∃ x7 : Int, (hAt H1 n5 ((n6 + ((Int.toNat a2) * 7)) + 3) (Value.int .i64 x7)) ∧ (((decide (x7 < x4)) = true) → (R (Value.bool true) H1)) ∧ (((decide (x7 < x4)) = false) → ∃ n8
    n9 : Nat, (a0p = (some (Addr.mk n8 n9 none))) ∧ ((0 : Int) ≤ a1) ∧ (a1 < (a0n : Int)) ∧ ∃ x10 : Int, (hAt H1 n8 ((n9 + ((Int.toNat a1) * 7)) + 3) (Value.int .i64 x10)) ∧ ∃ n11 n12 : Nat, (a0p = (some (Addr.mk n11 n12
    none))) ∧ ((0 : Int) ≤ a2) ∧ (a2 < (a0n : Int)) ∧ ∃ x13 : Int, (hAt H1 n11 ((n12 + ((Int.toNat a2) * 7)) + 3) (Value.int .i64 x13)) ∧ (((decide (x10 = x13)) = true) → (R (Value.bool (decide (a1 < a2))) H1)) ∧
    (((decide (x10 = x13)) = false) → (R (Value.bool false) H1))))))))

theorem F_ref40_Before_call {R : Value → LH → Prop} {H : LH} (a0p : Option Addr) (a0n a0c : Nat) (a1 : Int) (a2 : Int) (h : F_ref40_Before a0p a0n a0c a1 a2 R H) : Call prog f_ref40_Before [.slice a0p a0n a0c, .int .i64 a1, .int .i64 a2] H R := by
  have e : F_ref40_Before a0p a0n a0c a1 a2 R H = zfun prog f_ref40_Before []
    (.seq none .u (.seq none (.seq none .u (.cond (.seq none .u .u) .u)) (.seq none (.draw [⟨0, [], []⟩, ⟨1, [], []⟩, ⟨2, [], []⟩, ⟨3, [], []⟩, ⟨4, [], []⟩, ⟨5, [], []⟩, ⟨6, [], []⟩, ⟨7, [], []⟩, ⟨8, [], []⟩, ⟨9, [], []⟩, ⟨10, [], []⟩, ⟨11, [], []⟩, ⟨12, [], []⟩, ⟨13, [], []⟩, ⟨14, [], []⟩, ⟨15, [], []⟩, ⟨16, [], []⟩, ⟨17, [], []⟩, ⟨18, [], []⟩, ⟨19, [], []⟩, ⟨20, [], []⟩, ⟨21, [], []⟩, ⟨22, [], []⟩, ⟨23, [], []⟩, ⟨24, [], []⟩, ⟨25, [], []⟩, ⟨26, [], []⟩, ⟨27, [], []⟩, ⟨28, [], []⟩, ⟨29, [], []⟩]) .u)))
    [.slice a0p a0n a0c, .int .i64 a1, .int .i64 a2] R H := by kernel_rfl
  rw [e] at h
  exact call_of_zfun mixed h

/-- timebound/timeboundref40.uses -/
def F_ref40_uses (a0_0 : Int) (a0_1 : Int) (a0_2 : Int) (a0_3 : Int) (a0_4 : Int) (a0_5p : Option Addr) (a0_5n a0_5c : Nat) (a0_6 : Int) (a1 : Int) (R : Value → LH → Prop) (H : LH) : Prop :=
  ((a0_5p = none) → (a0_5n = 0) ∧ (a0_5c = 0)) ∧ ∃ K1 : (Int → LH → Prop), ∃ K2 : (Int → LH → Nat), (K1 (0 : Int) H) ∧ ∀ x3 : Int, ∀ H4 : LH, (K1 x3 H4) → (((decide (x3 < (a0_5n : Int))) = true) → ∃ n5 n6 : Nat, (a0_5p =
    (some (Addr.mk n5 n6 none))) ∧ ((0 : Int) ≤ x3) ∧ (x3 < (a0_5n : Int)) ∧ ∃ x7 : Int, (hAt H4 n5 (n6 + ((Int.toNat x3) * 2)) (Value.int .i64 x7)) ∧ ∃ x8 : Int, (hAt H4 n5 ((n6 + ((Int.toNat x3) * 2)) + 1) (Value.int
    .i64 x8)) ∧ (((decide (x7 = a1)) = true) → (R (Value.bool true) H4)) ∧ (((decide (x7 = a1)) = false) → (K1 (IntKind.wrap .i64 (x3 + (1 : Int))) H4) ∧ ((K2 (IntKind.wrap .i64 (x3 + (1 : Int))) H4) < (K2 x3 H4)))) ∧
    (((decide (x3 < (a0_5n : Int))) = false) → (R (Value.bool false) H4))

theorem F_ref40_uses_call {R : Value → LH → Prop} {H : LH} (a0_0 : Int) (a0_1 : Int) (a0_2 : Int) (a0_3 : Int) (a0_4 : Int) (a0_5p : Option Addr) (a0_5n a0_5c : Nat) (a0_6 : Int) (a1 : Int) (h : F_ref40_uses a0_0 a0_1 a0_2 a0_3 a0_4 a0_5p a0_5n a0_5c a0_6 a1 R H) : Call prog f_ref40_uses [.agg #[.int .i64 a0_0, .int .i64 a0_1, .int .i64 a0_2, .int .i64 a0_3, .int .i64 a0_4, .slice a0_5p a0_5n a0_5c, .int .i64 a0_6], .int .i64 a1] H R := by
  have e : F_ref40_uses a0_0 a0_1 a0_2 a0_3 a0_4 a0_5p a0_5n a0_5c a0_6 a1 R H = zfun prog f_ref40_uses [2, 6]
    (.seq none .u (.seq none (.seq none .u (.block (.loop ⟨[(10, .one (.int .i64))], [1, 8, 9]⟩ (.seq none .u (.seq none (.cond .u .u) (.seq none (.block (.seq none .u (.seq none .u (.cond (.seq none .u .u) .u)))) .u)))))) (.seq none .u .u)))
    [.agg #[.int .i64 a0_0, .int .i64 a0_1, .int .i64 a0_2, .int .i64 a0_3, .int .i64 a0_4, .slice a0_5p a0_5n a0_5c, .int .i64 a0_6], .int .i64 a1] R H := by kernel_rfl
  rw [e] at h
  exact call_of_zfun mixed h

/-- timebound/blocking.within -/
def F_blocking_within (a0 : Int) (a1 : Int) (a2 : Int) (R : Value → LH → Prop) (H : LH) : Prop :=
  (((decide (a1 ≤ a0)) = true) → (R (Value.bool (decide (a0 ≤ a2))) H)) ∧ (((decide (a1 ≤ a0)) = false) → (R (Value.bool false) H))

theorem F_blocking_within_call {R : Value → LH → Prop} {H : LH} (a0 : Int) (a1 : Int) (a2 : Int) (h : F_blocking_within a0 a1 a2 R H) : Call prog f_blocking_within [.int .i64 a0, .int .i64 a1, .int .i64 a2] H R := by
  have e : F_blocking_within a0 a1 a2 R H = zfun prog f_blocking_within []
    (.seq none .u (.seq none .u .u))
    [.int .i64 a0, .int .i64 a1, .int .i64 a2] R H := by kernel_rfl
  rw [e] at h
  exact call_of_zfun mixed h

/-- slices.IndexFunc[[]timebound/api.Hold,timebound/api.Hold] -/
def F_slices_IndexFunc_api_Hold_api_Hold (a0p : Option Addr) (a0n a0c : Nat) (a1 : Value) (R : Value → LH → Prop) (H : LH) : Prop :=
  ((a0p = none) → (a0n = 0) ∧ (a0c = 0)) ∧ ∃ K1 : (Int → LH → Prop), ∃ K2 : (Int → LH → Nat), (K1 (0 : Int) H) ∧ ∀ x3 : Int, ∀ H4 : LH, (K1 x3 H4) → (((decide (x3 < (a0n : Int))) = true) → ∃ n5 n6 : Nat, (a0p = (some
    (Addr.mk n5 n6 none))) ∧ ((0 : Int) ≤ x3) ∧ (x3 < (a0n : Int)) ∧ ∃ x7 : Int, (hAt H4 n5 (n6 + ((Int.toNat x3) * 2)) (Value.int .i64 x7)) ∧ ∃ x8 : Int, (hAt H4 n5 ((n6 + ((Int.toNat x3) * 2)) + 1) (Value.int .i64 x8))
    ∧ ∃ n9 : Nat, ∃ l10 l11 : (List Value), (a1 = (Value.func (Fn.func n9) (Array.mk l10) (Array.mk l11))) ∧ ((okFn prog n9) = true) ∧ (XCall prog n9 ((l10 ++ [(Value.agg #[(Value.int .i64 x7), (Value.int .i64 x8)])]) ++
    l11) H4 (fun (v12 : Value) (H13 : LH) => ∃ b14 : Bool, (v12 = (Value.bool b14)) ∧ ((b14 = true) → (R (Value.int .i64 x3) H13)) ∧ ((b14 = false) → (K1 (IntKind.wrap .i64 (x3 + (1 : Int))) H13) ∧ ((K2 (IntKind.wrap
    .i64 (x3 + (1 : Int))) H13) < (K2 x3 H4)))))) ∧ (((decide (x3 < (a0n : Int))) = false) → (R (Value.int .i64 (-(1 : Int))) H4))

theorem F_slices_IndexFunc_api_Hold_api_Hold_call {R : Value → LH → Prop} {H : LH} (a0p : Option Addr) (a0n a0c : Nat) (a1 : Value) (h : F_slices_IndexFunc_api_Hold_api_Hold a0p a0n a0c a1 R H) : Call prog f_slices_IndexFunc_api_Hold_api_Hold [.slice a0p a0n a0c, a1] H R := by
  have e : F_slices_IndexFunc_api_Hold_api_Hold a0p a0n a0c a1 R H = zfun prog f_slices_IndexFunc_api_Hold_api_Hold []
    (.seq none .u (.seq none (.seq none .u (.block (.loop ⟨[(8, .one (.int .i64))], [0, 1, 7]⟩ (.seq none .u (.seq none (.cond .u .u) (.seq none (.block (.seq none .u (.seq none .u (.cond (.seq none .u .u) .u)))) .u)))))) (.seq none .u .u)))
    [.slice a0p a0n a0c, a1] R H := by kernel_rfl
  rw [e] at h
  exact call_of_zfun mixed h

end Go.Lg
