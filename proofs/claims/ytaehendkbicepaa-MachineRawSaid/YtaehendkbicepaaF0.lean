/- What each function asks, part 0. No condition. -/
import Derived.Test.YtaehendkbicepaaFN
set_option linter.unusedVariables false
set_option maxRecDepth 100000
namespace Go.Lg
open Go
/-- timebound/timeboundlaw21.MachineSteps -/
def F_law21_MachineSteps (a0p : Option Addr) (a0n a0c : Nat) (a1 : Int) (R : Value → LH → Prop) (H : LH) : Prop :=
  (XCall prog f_make_Few [(Value.slice a0p a0n a0c)] H (fun (v1 : Value) (H2 : LH) => ∃ b3 : Bool, (v1 = (Value.bool b3)) ∧ (((Bool.not b3) = true) → (XCall prog f_law21_awake [] H2 (fun (v4 : Value) (H5 : LH) => ∃ b6 :
    Bool, (v4 = (Value.bool b6)) ∧ (R (Value.bool b6) H5)))) ∧ (((Bool.not b3) = false) → (XCall prog f_make_New [(Value.slice a0p a0n a0c)] H2 (fun (v7 : Value) (H8 : LH) => ∃ p9 : (Option Addr), (v7 = (Value.pointer
    p9)) ∧ (XCall prog f_law21_straight [(Value.pointer p9)] H8 (fun (v10 : Value) (H11 : LH) => ∃ p12 : (Option Addr), ∃ n13 n14 : Nat, ∃ x15 : Int, ∃ p16 : (Option Addr), ∃ n17 n18 : Nat, ∃ p19 : (Option Addr), ∃ n20
    n21 : Nat, (v10 = (Value.agg #[(Value.slice p12 n13 n14), (Value.int .i64 x15), (Value.slice p16 n17 n18), (Value.slice p19 n20 n21)])) ∧ ∀ H22 : LH, (H22 = (LH.keep H11 13)) → ((p12 = none) → (n13 = 0) ∧ (n14 = 0))
    ∧ ((((0 : Int) ≤ (8 : Int)) ∧ ((8 : Int) = (8 : Int)) ∧ ((64 : Int) ≤ (281474976710656 : Int)) ∧ ((8 : Int) ≤ (9223372036854775807 : Int))) ∧ ∀ H23 : LH, (H23 = (LH.put H22 ((LH.next H11) + 0) (some (LObj.cells
    [(Value.int .i64 (0 : Int)), (Value.int .i64 (0 : Int)), (Value.int .i64 (0 : Int)), (Value.int .i64 (0 : Int)), (Value.int .i64 (0 : Int)), (Value.int .i64 (0 : Int)), (Value.int .i64 (0 : Int)), (Value.int .i64 (0
    : Int))] 1 false)))) → True) ∧ ((((0 : Int) ≤ x15) ∧ (x15 = x15) ∧ (((8 : Int) * x15) ≤ (281474976710656 : Int)) ∧ (x15 ≤ (9223372036854775807 : Int))) ∧ ∀ H24 : LH, (H24 = (LH.put H22 ((LH.next H11) + 3) (some
    (LObj.cells (List.flatten (List.replicate (Int.toNat x15) [(Value.int .i64 (0 : Int))])) 1 false)))) → True) ∧ ((((0 : Int) ≤ (4 : Int)) ∧ ((4 : Int) = (4 : Int)) ∧ ((4 : Int) ≤ (281474976710656 : Int)) ∧ ((4 : Int)
    ≤ (9223372036854775807 : Int))) ∧ ∀ H25 : LH, (H25 = (LH.put H22 ((LH.next H11) + 4) (some (LObj.cells [(Value.bool false), (Value.bool false), (Value.bool false), (Value.bool false)] 1 false)))) → True) ∧ True ∧
    (XCall prog f_make_Deck_Next [(Value.pointer p9), (Value.int .i64 (n13 : Int))] H22 (fun (v26 : Value) (H27 : LH) => ∃ x28 : Int, (v26 = (Value.int .i64 x28)) ∧ ((Value.int .i64 x15) = (Value.int .i64 x15)) ∧ (((0 :
    Int) ≤ (8 : Int)) ∧ ((8 : Int) = (8 : Int)) ∧ ((64 : Int) ≤ (281474976710656 : Int)) ∧ ((8 : Int) ≤ (9223372036854775807 : Int))) ∧ ∀ H29 : LH, (H29 = (LH.put H27 ((LH.next H11) + 0) (some (LObj.cells [(Value.int
    .i64 (0 : Int)), (Value.int .i64 (0 : Int)), (Value.int .i64 (0 : Int)), (Value.int .i64 (0 : Int)), (Value.int .i64 (0 : Int)), (Value.int .i64 (0 : Int)), (Value.int .i64 (0 : Int)), (Value.int .i64 (0 : Int))] 1
    false)))) → (((0 : Int) ≤ x15) ∧ (x15 = x15) ∧ (((8 : Int) * x15) ≤ (281474976710656 : Int)) ∧ (x15 ≤ (9223372036854775807 : Int))) ∧ ∀ H30 : LH, (H30 = (LH.put H29 ((LH.next H11) + 3) (some (LObj.cells (List.flatten
    (List.replicate (Int.toNat x15) [(Value.int .i64 (0 : Int))])) 1 false)))) → (((0 : Int) ≤ (4 : Int)) ∧ ((4 : Int) = (4 : Int)) ∧ ((4 : Int) ≤ (281474976710656 : Int)) ∧ ((4 : Int) ≤ (9223372036854775807 : Int))) ∧ ∀
    H31 : LH, (H31 = (LH.put H30 ((LH.next H11) + 4) (some (LObj.cells [(Value.bool false), (Value.bool false), (Value.bool false), (Value.bool false)] 1 false)))) → ∃ K32 : (Int → LH → Prop), ∃ K33 : (Int → LH → Nat),
    (K32 (1 : Int) H31) ∧ ∀ x34 : Int, ∀ H35 : LH, (K32 x34 H35) → (((decide (x34 < (8 : Int))) = true) → ∀ H36 : LH, (H36 = (LH.keep H35 7)) → (XCall prog f_make_Deck_Word [(Value.pointer p9)] H36 (fun (v37 : Value)
    (H38 : LH) => ∃ x39 : Int, (v37 = (Value.int .i64 x39)) ∧ ((Value.slice (some (Addr.mk ((LH.next H11) + 0) 0 none)) 8 8) = (Value.slice (some (Addr.mk ((LH.next H11) + 0) 0 none)) 8 8)) ∧ ∃ n40 n41 : Nat, ((some
    (Addr.mk ((LH.next H11) + 0) 0 none)) = (some (Addr.mk n40 n41 none))) ∧ ((0 : Int) ≤ x34) ∧ (x34 < (8 : Int)) ∧ ∃ l42 : (List Value), ∃ n43 : Nat, ((LH.get H38 n40) = (some (LObj.cells l42 n43 false))) ∧ (((n41 +
    ((Int.toNat x34) * 1)) + 1) ≤ (List.length l42)) ∧ ∀ H44 : LH, (H44 = (LH.put H38 n40 (some (LObj.cells (setMany l42 (n41 + ((Int.toNat x34) * 1)) [(Value.int .i64 x39)]) n43 false)))) → (K32 (IntKind.wrap .i64 (x34
    + (1 : Int))) H44) ∧ ((K33 (IntKind.wrap .i64 (x34 + (1 : Int))) H44) < (K33 x34 H35))))) ∧ (((decide (x34 < (8 : Int))) = false) → ∃ K45 : (Int → LH → Prop), ∃ K46 : (Int → LH → Nat), (K45 (0 : Int) H35) ∧ ∀ x47 :
    Int, ∀ H48 : LH, (K45 x47 H48) → (((some (Addr.mk ((LH.next H11) + 3) 0 none)) = none) → ((Int.toNat x15) = 0) ∧ ((Int.toNat x15) = 0)) ∧ (((decide (x47 < (((Int.toNat x15) : Nat) : Int))) = true) → ∀ H49 : LH, (H49
    = (LH.keep H48 7)) → (XCall prog f_make_Deck_Word [(Value.pointer p9)] H49 (fun (v50 : Value) (H51 : LH) => ∃ x52 : Int, (v50 = (Value.int .i64 x52)) ∧ ((Value.slice (some (Addr.mk ((LH.next H11) + 3) 0 none))
    (Int.toNat x15) (Int.toNat x15)) = (Value.slice (some (Addr.mk ((LH.next H11) + 3) 0 none)) (Int.toNat x15) (Int.toNat x15))) ∧ ∃ n53 n54 : Nat, ((some (Addr.mk ((LH.next H11) + 3) 0 none)) = (some (Addr.mk n53 n54
    none))) ∧ ((0 : Int) ≤ x47) ∧ (x47 < (((Int.toNat x15) : Nat) : Int)) ∧ ∃ l55 : (List Value), ∃ n56 : Nat, ((LH.get H51 n53) = (some (LObj.cells l55 n56 false))) ∧ (((n54 + ((Int.toNat x47) * 1)) + 1) ≤ (List.length
    l55)) ∧ ∀ H57 : LH, (H57 = (LH.put H51 n53 (some (LObj.cells (setMany l55 (n54 + ((Int.toNat x47) * 1)) [(Value.int .i64 x52)]) n56 false)))) → (K45 (IntKind.wrap .i64 (x47 + (1 : Int))) H57) ∧ ((K46 (IntKind.wrap
    .i64 (x47 + (1 : Int))) H57) < (K46 x47 H48))))) ∧ (((decide (x47 < (((Int.toNat x15) : Nat) : Int))) = false) → ∀ H58 : LH, (H58 = (LH.keep H48 7)) → (XCall prog f_make_Deck_Next [(Value.pointer p9), (Value.int .i64
    (2 : Int))] H58 (fun (v59 : Value) (H60 : LH) => ∃ x61 : Int, (v59 = (Value.int .i64 x61)) ∧ ((Value.slice (some (Addr.mk ((LH.next H11) + 4) 0 none)) 4 4) = (Value.slice (some (Addr.mk ((LH.next H11) + 4) 0 none)) 4
    4)) ∧ ∃ n62 n63 : Nat, ((some (Addr.mk ((LH.next H11) + 4) 0 none)) = (some (Addr.mk n62 n63 none))) ∧ ((0 : Int) ≤ (0 : Int)) ∧ ((0 : Int) < (4 : Int)) ∧ ∃ l64 : (List Value), ∃ n65 : Nat, ((LH.get H60 n62) = (some
    (LObj.cells l64 n65 false))) ∧ (((n63 + 0) + 1) ≤ (List.length l64)) ∧ ∀ H66 : LH, (H66 = (LH.put H60 n62 (some (LObj.cells (setMany l64 (n63 + 0) [(Value.bool (decide (x61 = (1 : Int))))]) n65 false)))) → ∀ K67 :
    (LH → Prop), (∀ H68 : LH, (∃ K69 : ((Option Addr) → Nat → Nat → (Option Addr) → Nat → Nat → (Option Addr) → Nat → Nat → Int → Bool → Int → LH → Prop), ∃ K70 : ((Option Addr) → Nat → Nat → (Option Addr) → Nat → Nat →
    (Option Addr) → Nat → Nat → Int → Bool → Int → LH → Nat), (K69 (some (Addr.mk ((LH.next H11) + 0) 0 none)) 8 8 (some (Addr.mk ((LH.next H11) + 3) 0 none)) (Int.toNat x15) (Int.toNat x15) (some (Addr.mk ((LH.next H11)
    + 4) 0 none)) 4 4 x28 false (0 : Int) H68) ∧ ∀ p71 : (Option Addr), ∀ n72 : Nat, ∀ n73 : Nat, ∀ p74 : (Option Addr), ∀ n75 : Nat, ∀ n76 : Nat, ∀ p77 : (Option Addr), ∀ n78 : Nat, ∀ n79 : Nat, ∀ x80 : Int, ∀ b81 :
    Bool, ∀ x82 : Int, ∀ H83 : LH, (K69 p71 n72 n73 p74 n75 n76 p77 n78 n79 x80 b81 x82 H83) → ((30 : Int) ≠ (0 : Int)) ∧ (((decide (x82 < (Int.tmod (IntKind.wrap .i64 a1) (30 : Int)))) = true) → (XCall prog
    f_machine_Step [(Value.agg #[(Value.slice p12 n13 n14), (Value.int .i64 x15), (Value.slice p16 n17 n18), (Value.slice p19 n20 n21)]), (Value.agg #[(Value.slice p71 n72 n73), (Value.slice p74 n75 n76), (Value.slice
    p77 n78 n79), (Value.int .i64 x80), (Value.bool b81)])] H83 (fun (v84 : Value) (H85 : LH) => ∃ p86 : (Option Addr), ∃ n87 n88 : Nat, ∃ p89 : (Option Addr), ∃ n90 n91 : Nat, ∃ p92 : (Option Addr), ∃ n93 n94 : Nat, ∃
    x95 : Int, ∃ b96 : Bool, ∃ x97 x98 : Int, ∃ b99 : Bool, ∃ x100 : Int, (v84 = (Value.tuple #[(Value.agg #[(Value.slice p86 n87 n88), (Value.slice p89 n90 n91), (Value.slice p92 n93 n94), (Value.int .i64 x95),
    (Value.bool b96)]), (Value.agg #[(Value.int .i64 x97), (Value.int .i64 x98), (Value.bool b99)]), (Value.int .i64 x100)])) ∧ (XCall prog f_ref21_Step [(Value.agg #[(Value.slice p12 n13 n14), (Value.int .i64 x15),
    (Value.slice p16 n17 n18), (Value.slice p19 n20 n21)]), (Value.agg #[(Value.slice p71 n72 n73), (Value.slice p74 n75 n76), (Value.slice p77 n78 n79), (Value.int .i64 x80), (Value.bool b81)])] H85 (fun (v101 : Value)
    (H102 : LH) => ∃ p103 : (Option Addr), ∃ n104 n105 : Nat, ∃ p106 : (Option Addr), ∃ n107 n108 : Nat, ∃ p109 : (Option Addr), ∃ n110 n111 : Nat, ∃ x112 : Int, ∃ b113 : Bool, ∃ x114 x115 : Int, ∃ b116 : Bool, ∃ x117 :
    Int, (v101 = (Value.tuple #[(Value.agg #[(Value.slice p103 n104 n105), (Value.slice p106 n107 n108), (Value.slice p109 n110 n111), (Value.int .i64 x112), (Value.bool b113)]), (Value.agg #[(Value.int .i64 x114),
    (Value.int .i64 x115), (Value.bool b116)]), (Value.int .i64 x117)])) ∧ ∀ H118 : LH, (H118 = (LH.keep H102 23)) → (((Bool.not (decide (x100 = x117))) = true) → ((Value.tuple #[]) = (Value.tuple #[])) ∧ ((Value.tuple
    #[]) = (Value.tuple #[])) ∧ (R (Value.bool false) H118)) ∧ (((Bool.not (decide (x100 = x117))) = false) → (((Bool.not (Bool.and (decide (x97 = x114)) (Bool.and (decide (x98 = x115)) (Bool.and (b99 == b116) true)))) =
    true) → ((Value.tuple #[]) = (Value.tuple #[])) ∧ ((Value.tuple #[]) = (Value.tuple #[])) ∧ (R (Value.bool false) H118)) ∧ (((Bool.not (Bool.and (decide (x97 = x114)) (Bool.and (decide (x98 = x115)) (Bool.and (b99 ==
    b116) true)))) = false) → (XCall prog f_ref21_Same [(Value.agg #[(Value.slice p86 n87 n88), (Value.slice p89 n90 n91), (Value.slice p92 n93 n94), (Value.int .i64 x95), (Value.bool b96)]), (Value.agg #[(Value.slice
    p103 n104 n105), (Value.slice p106 n107 n108), (Value.slice p109 n110 n111), (Value.int .i64 x112), (Value.bool b113)])] H118 (fun (v119 : Value) (H120 : LH) => ∃ b121 : Bool, (v119 = (Value.bool b121)) ∧ (((Bool.not
    b121) = true) → ((Value.tuple #[]) = (Value.tuple #[])) ∧ ((Value.tuple #[]) = (Value.tuple #[])) ∧ (R (Value.bool false) H120)) ∧ (((Bool.not b121) = false) → (XCall prog f_machine_Valid [(Value.agg #[(Value.slice
    p12 n13 n14), (Value.int .i64 x15), (Value.slice p16 n17 n18), (Value.slice p19 n20 n21)]), (Value.agg #[(Value.slice p71 n72 n73), (Value.slice p74 n75 n76), (Value.slice p77 n78 n79), (Value.int .i64 x80),
    (Value.bool b81)])] H120 (fun (v122 : Value) (H123 : LH) => ∃ b124 : Bool, (v122 = (Value.bool b124)) ∧ ((Value.agg #[(Value.slice p12 n13 n14), (Value.int .i64 x15), (Value.slice p16 n17 n18), (Value.slice p19 n20
    n21)]) = (Value.agg #[(Value.slice p12 n13 n14), (Value.int .i64 x15), (Value.slice p16 n17 n18), (Value.slice p19 n20 n21)])) ∧ ((Value.agg #[(Value.slice p71 n72 n73), (Value.slice p74 n75 n76), (Value.slice p77
    n78 n79), (Value.int .i64 x80), (Value.bool b81)]) = (Value.agg #[(Value.slice p71 n72 n73), (Value.slice p74 n75 n76), (Value.slice p77 n78 n79), (Value.int .i64 x80), (Value.bool b81)])) ∧ (XCall prog f_ref21_Valid
    [(Value.agg #[(Value.slice p12 n13 n14), (Value.int .i64 x15), (Value.slice p16 n17 n18), (Value.slice p19 n20 n21)]), (Value.agg #[(Value.slice p71 n72 n73), (Value.slice p74 n75 n76), (Value.slice p77 n78 n79),
    (Value.int .i64 x80), (Value.bool b81)])] H123 (fun (v125 : Value) (H126 : LH) => ∃ b127 : Bool, (v125 = (Value.bool b127)) ∧ (((Bool.not (b124 == b127)) = true) → (R (Value.bool false) H126)) ∧ (((Bool.not (b124 ==
    b127)) = false) → (((Bool.not (decide (x117 = (0 : Int)))) = true) → (XCall prog f_law21_awake [] H126 (fun (v128 : Value) (H129 : LH) => ∃ b130 : Bool, (v128 = (Value.bool b130)) ∧ (R (Value.bool b130) H129)))) ∧
    (((Bool.not (decide (x117 = (0 : Int)))) = false) → (K69 p103 n104 n105 p106 n107 n108 p109 n110 n111 x112 b113 (IntKind.wrap .i64 (x82 + (1 : Int))) H126) ∧ ((K70 p103 n104 n105 p106 n107 n108 p109 n110 n111 x112
    b113 (IntKind.wrap .i64 (x82 + (1 : Int))) H126) < (K70 p71 n72 n73 p74 n75 n76 p77 n78 n79 x80 b81 x82 H83)))))))))))))))))) ∧ (((decide (x82 < (Int.tmod (IntKind.wrap .i64 a1) (30 : Int)))) = false) → (XCall prog
    f_law21_awake [] H83 (fun (v131 : Value) (H132 : LH) => ∃ b133 : Bool, (v131 = (Value.bool b133)) ∧ (R (Value.bool b133) H132))))) → (K67 H68)) → (XCall prog f_make_Deck_Next [(Value.pointer p9), (Value.int .i64 (9 :
    Int))] H66 (fun (v135 : Value) (H136 : LH) => ∃ x137 : Int, (v135 = (Value.int .i64 x137)) ∧ (((decide (x137 = (8 : Int))) = true) → ∃ n138 n139 : Nat, ((some (Addr.mk ((LH.next H11) + 0) 0 none)) = (some (Addr.mk
    n138 n139 none))) ∧ ((0 : Int) ≤ (0 : Int)) ∧ ((0 : Int) < (8 : Int)) ∧ ∃ l140 : (List Value), ∃ n141 : Nat, ((LH.get H136 n138) = (some (LObj.cells l140 n141 false))) ∧ (((n139 + 0) + 1) ≤ (List.length l140)) ∧ ∀
    H142 : LH, (H142 = (LH.put H136 n138 (some (LObj.cells (setMany l140 (n139 + 0) [(Value.int .i64 (1 : Int))]) n141 false)))) → (K67 H142)) ∧ (((decide (x137 = (8 : Int))) = false) → (K67 H136)))))))))))))))))

theorem F_law21_MachineSteps_call {R : Value → LH → Prop} {H : LH} (a0p : Option Addr) (a0n a0c : Nat) (a1 : Int) (h : F_law21_MachineSteps a0p a0n a0c a1 R H) : Call prog f_law21_MachineSteps [.slice a0p a0n a0c, .int .u8 a1] H R := by
  have e : F_law21_MachineSteps a0p a0n a0c a1 R H = zfun prog f_law21_MachineSteps [6, 7, 11, 12, 14, 15]
    (.seq none .u (.seq none (.seq none .u (.cond (.seq none .u .u) .u)) (.seq none .u (.seq none .u (.seq none (.draw [⟨1, [], []⟩, ⟨2, [], []⟩, ⟨5, [], []⟩, ⟨6, [], []⟩, ⟨7, [], []⟩, ⟨8, [], []⟩, ⟨9, [2], [0, 3, 4, 11]⟩, ⟨0, [], []⟩, ⟨3, [], []⟩, ⟨4, [], []⟩, ⟨10, [], []⟩, ⟨11, [], []⟩, ⟨12, [], []⟩]) (.seq none (.seq none .u (.block (.loop ⟨[(8, .one (.int .i64))], [1, 5, 6, 7]⟩ (.seq none (.seq none .u (.cond .u .u)) (.seq none (.block (.draw [⟨0, [], []⟩, ⟨1, [], []⟩, ⟨2, [], []⟩, ⟨3, [], []⟩, ⟨4, [1], []⟩, ⟨5, [], []⟩, ⟨6, [], []⟩])) .u))))) (.seq none (.seq none .u (.block (.loop ⟨[(9, .one (.int .i64))], [1, 5, 6, 7]⟩ (.seq none (.seq none .u (.cond .u .u)) (.seq none (.block (.draw [⟨0, [], []⟩, ⟨1, [], []⟩, ⟨2, [], []⟩, ⟨3, [], []⟩, ⟨4, [1], []⟩, ⟨5, [], []⟩, ⟨6, [], []⟩])) .u))))) (.seq none (.draw [⟨0, [], []⟩, ⟨1, [], []⟩, ⟨2, [], []⟩, ⟨3, [1], []⟩, ⟨4, [], []⟩, ⟨5, [], []⟩, ⟨6, [], []⟩]) (.seq (some ⟨[], [1, 6, 7]⟩) (.seq none .u (.cond .u .u)) (.seq none (.seq none .u (.block (.loop ⟨[(7, .box [.sl, .sl, .sl, (.int .i64), .bool]), (10, .one (.int .i64))], [1, 6]⟩ (.seq none (.seq none .u (.cond .u .u)) (.seq none (.block (.seq none .u (.seq none .u (.seq none (.seq none (.draw [⟨0, [], []⟩, ⟨1, [], []⟩, ⟨2, [], []⟩, ⟨3, [], []⟩, ⟨4, [], []⟩, ⟨5, [], []⟩, ⟨6, [], []⟩, ⟨7, [], []⟩, ⟨8, [], []⟩, ⟨9, [], []⟩, ⟨10, [], []⟩, ⟨11, [], []⟩, ⟨12, [], []⟩, ⟨13, [], []⟩, ⟨14, [], []⟩, ⟨15, [], []⟩, ⟨16, [], []⟩, ⟨18, [], []⟩, ⟨19, [], []⟩, ⟨17, [18, 19], []⟩, ⟨20, [], []⟩, ⟨21, [], []⟩, ⟨22, [], []⟩]) (.cond (.seq none .u .u) .u)) (.seq none (.seq none .u (.cond .u .u)) .u))))) .u))))) (.seq none .u .u)))))))))))
    [.slice a0p a0n a0c, .int .u8 a1] R H := by kernel_rfl
  rw [e] at h
  exact call_of_zfun mixed h

/-- timebound/timeboundlaw21.MachineRaw -/
def F_law21_MachineRaw (a0p : Option Addr) (a0n a0c : Nat) (a1_0p : Option Addr) (a1_0n a1_0c : Nat) (a1_1p : Option Addr) (a1_1n a1_1c : Nat) (a1_2p : Option Addr) (a1_2n a1_2c : Nat) (a1_3 : Int) (a1_4 : Bool) (a2 : Int) (R : Value → LH → Prop) (H : LH) : Prop :=
  (XCall prog f_make_Few [(Value.slice a0p a0n a0c)] H (fun (v1 : Value) (H2 : LH) => ∃ b3 : Bool, (v1 = (Value.bool b3)) ∧ (((Bool.not b3) = true) → (XCall prog f_law21_awake [] H2 (fun (v4 : Value) (H5 : LH) => ∃ b6 :
    Bool, (v4 = (Value.bool b6)) ∧ (R (Value.bool b6) H5)))) ∧ (((Bool.not b3) = false) → ((a1_0p = none) → (a1_0n = 0) ∧ (a1_0c = 0)) ∧ ((a1_1p = none) → (a1_1n = 0) ∧ (a1_1c = 0)) ∧ ((a1_2p = none) → (a1_2n = 0) ∧
    (a1_2c = 0)) ∧ (((decide ((2000 : Int) < (IntKind.wrap .i64 ((IntKind.wrap .i64 ((a1_0n : Int) + (a1_1n : Int))) + (a1_2n : Int))))) = true) → (XCall prog f_law21_awake [] H2 (fun (v7 : Value) (H8 : LH) => ∃ b9 :
    Bool, (v7 = (Value.bool b9)) ∧ (R (Value.bool b9) H8)))) ∧ (((decide ((2000 : Int) < (IntKind.wrap .i64 ((IntKind.wrap .i64 ((a1_0n : Int) + (a1_1n : Int))) + (a1_2n : Int))))) = false) → (XCall prog f_make_New
    [(Value.slice a0p a0n a0c)] H2 (fun (v10 : Value) (H11 : LH) => ∃ p12 : (Option Addr), (v10 = (Value.pointer p12)) ∧ (XCall prog f_law21_straight [(Value.pointer p12)] H11 (fun (v13 : Value) (H14 : LH) => ∃ p15 :
    (Option Addr), ∃ n16 n17 : Nat, ∃ x18 : Int, ∃ p19 : (Option Addr), ∃ n20 n21 : Nat, ∃ p22 : (Option Addr), ∃ n23 n24 : Nat, (v13 = (Value.agg #[(Value.slice p15 n16 n17), (Value.int .i64 x18), (Value.slice p19 n20
    n21), (Value.slice p22 n23 n24)])) ∧ ∀ K25 : ((Option Addr) → Nat → Nat → Int → (Option Addr) → Nat → Nat → (Option Addr) → Nat → Nat → LH → Prop), (∀ p26 : (Option Addr), ∀ n27 : Nat, ∀ n28 : Nat, ∀ x29 : Int, ∀ p30
    : (Option Addr), ∀ n31 : Nat, ∀ n32 : Nat, ∀ p33 : (Option Addr), ∀ n34 : Nat, ∀ n35 : Nat, ∀ H36 : LH, (XCall prog f_machine_Step [(Value.agg #[(Value.slice p26 n27 n28), (Value.int .i64 x29), (Value.slice p30 n31
    n32), (Value.slice p33 n34 n35)]), (Value.agg #[(Value.slice a1_0p a1_0n a1_0c), (Value.slice a1_1p a1_1n a1_1c), (Value.slice a1_2p a1_2n a1_2c), (Value.int .i64 a1_3), (Value.bool a1_4)])] H36 (fun (v37 : Value)
    (H38 : LH) => ∃ p39 : (Option Addr), ∃ n40 n41 : Nat, ∃ p42 : (Option Addr), ∃ n43 n44 : Nat, ∃ p45 : (Option Addr), ∃ n46 n47 : Nat, ∃ x48 : Int, ∃ b49 : Bool, ∃ x50 x51 : Int, ∃ b52 : Bool, ∃ x53 : Int, (v37 =
    (Value.tuple #[(Value.agg #[(Value.slice p39 n40 n41), (Value.slice p42 n43 n44), (Value.slice p45 n46 n47), (Value.int .i64 x48), (Value.bool b49)]), (Value.agg #[(Value.int .i64 x50), (Value.int .i64 x51),
    (Value.bool b52)]), (Value.int .i64 x53)])) ∧ (XCall prog f_ref21_Step [(Value.agg #[(Value.slice p26 n27 n28), (Value.int .i64 x29), (Value.slice p30 n31 n32), (Value.slice p33 n34 n35)]), (Value.agg #[(Value.slice
    a1_0p a1_0n a1_0c), (Value.slice a1_1p a1_1n a1_1c), (Value.slice a1_2p a1_2n a1_2c), (Value.int .i64 a1_3), (Value.bool a1_4)])] H38 (fun (v54 : Value) (H55 : LH) => ∃ p56 : (Option Addr), ∃ n57 n58 : Nat, ∃ p59 :
    (Option Addr), ∃ n60 n61 : Nat, ∃ p62 : (Option Addr), ∃ n63 n64 : Nat, ∃ x65 : Int, ∃ b66 : Bool, ∃ x67 x68 : Int, ∃ b69 : Bool, ∃ x70 : Int, (v54 = (Value.tuple #[(Value.agg #[(Value.slice p56 n57 n58),
    (Value.slice p59 n60 n61), (Value.slice p62 n63 n64), (Value.int .i64 x65), (Value.bool b66)]), (Value.agg #[(Value.int .i64 x67), (Value.int .i64 x68), (Value.bool b69)]), (Value.int .i64 x70)])) ∧ ∀ H71 : LH, (H71
    = (LH.keep H55 26)) → (((decide (x53 = x70)) = true) → (((Bool.and (decide (x50 = x67)) (Bool.and (decide (x51 = x68)) (Bool.and (b52 == b69) true))) = true) → (XCall prog f_ref21_Same [(Value.agg #[(Value.slice p39
    n40 n41), (Value.slice p42 n43 n44), (Value.slice p45 n46 n47), (Value.int .i64 x48), (Value.bool b49)]), (Value.agg #[(Value.slice p56 n57 n58), (Value.slice p59 n60 n61), (Value.slice p62 n63 n64), (Value.int .i64
    x65), (Value.bool b66)])] H71 (fun (v72 : Value) (H73 : LH) => ∃ b74 : Bool, (v72 = (Value.bool b74)) ∧ ((b74 = true) → (XCall prog f_machine_Valid [(Value.agg #[(Value.slice p26 n27 n28), (Value.int .i64 x29),
    (Value.slice p30 n31 n32), (Value.slice p33 n34 n35)]), (Value.agg #[(Value.slice a1_0p a1_0n a1_0c), (Value.slice a1_1p a1_1n a1_1c), (Value.slice a1_2p a1_2n a1_2c), (Value.int .i64 a1_3), (Value.bool a1_4)])] H73
    (fun (v75 : Value) (H76 : LH) => ∃ b77 : Bool, (v75 = (Value.bool b77)) ∧ ((Value.agg #[(Value.slice p26 n27 n28), (Value.int .i64 x29), (Value.slice p30 n31 n32), (Value.slice p33 n34 n35)]) = (Value.agg
    #[(Value.slice p26 n27 n28), (Value.int .i64 x29), (Value.slice p30 n31 n32), (Value.slice p33 n34 n35)])) ∧ ((Value.agg #[(Value.slice a1_0p a1_0n a1_0c), (Value.slice a1_1p a1_1n a1_1c), (Value.slice a1_2p a1_2n
    a1_2c), (Value.int .i64 a1_3), (Value.bool a1_4)]) = (Value.agg #[(Value.slice a1_0p a1_0n a1_0c), (Value.slice a1_1p a1_1n a1_1c), (Value.slice a1_2p a1_2n a1_2c), (Value.int .i64 a1_3), (Value.bool a1_4)])) ∧
    (XCall prog f_ref21_Valid [(Value.agg #[(Value.slice p26 n27 n28), (Value.int .i64 x29), (Value.slice p30 n31 n32), (Value.slice p33 n34 n35)]), (Value.agg #[(Value.slice a1_0p a1_0n a1_0c), (Value.slice a1_1p a1_1n
    a1_1c), (Value.slice a1_2p a1_2n a1_2c), (Value.int .i64 a1_3), (Value.bool a1_4)])] H76 (fun (v78 : Value) (H79 : LH) => ∃ b80 : Bool, (v78 = (Value.bool b80)) ∧ (((b77 == b80) = true) → (XCall prog f_law21_awake []
    H79 (fun (v81 : Value) (H82 : LH) => ∃ b83 : Bool, (v81 = (Value.bool b83)) ∧ (R (Value.bool b83) H82)))) ∧ (((b77 == b80) = false) → (R (Value.bool false) H79))))))) ∧ ((b74 = false) → ((Value.tuple #[]) =
    (Value.tuple #[])) ∧ ((Value.tuple #[]) = (Value.tuple #[])) ∧ (R (Value.bool false) H73))))) ∧ (((Bool.and (decide (x50 = x67)) (Bool.and (decide (x51 = x68)) (Bool.and (b52 == b69) true))) = false) → ((Value.tuple
    #[]) = (Value.tuple #[])) ∧ ((Value.tuple #[]) = (Value.tuple #[])) ∧ (R (Value.bool false) H71))) ∧ (((decide (x53 = x70)) = false) → ((Value.tuple #[]) = (Value.tuple #[])) ∧ ((Value.tuple #[]) = (Value.tuple #[]))
    ∧ (R (Value.bool false) H71)))))) → (K25 p26 n27 n28 x29 p30 n31 n32 p33 n34 n35 H36)) → (((decide ((220 : Int) < a2)) = true) → (K25 p15 n16 n17 x18 p19 n20 n21 none 0 0 H14)) ∧ (((decide ((220 : Int) < a2)) =
    false) → (K25 p15 n16 n17 x18 p19 n20 n21 p22 n23 n24 H14))))))))))

theorem F_law21_MachineRaw_call {R : Value → LH → Prop} {H : LH} (a0p : Option Addr) (a0n a0c : Nat) (a1_0p : Option Addr) (a1_0n a1_0c : Nat) (a1_1p : Option Addr) (a1_1n a1_1c : Nat) (a1_2p : Option Addr) (a1_2n a1_2c : Nat) (a1_3 : Int) (a1_4 : Bool) (a2 : Int) (h : F_law21_MachineRaw a0p a0n a0c a1_0p a1_0n a1_0c a1_1p a1_1n a1_1c a1_2p a1_2n a1_2c a1_3 a1_4 a2 R H) : Call prog f_law21_MachineRaw [.slice a0p a0n a0c, .agg #[.slice a1_0p a1_0n a1_0c, .slice a1_1p a1_1n a1_1c, .slice a1_2p a1_2n a1_2c, .int .i64 a1_3, .bool a1_4], .int .u8 a2] H R := by
  have e : F_law21_MachineRaw a0p a0n a0c a1_0p a1_0n a1_0c a1_1p a1_1n a1_1c a1_2p a1_2n a1_2c a1_3 a1_4 a2 R H = zfun prog f_law21_MachineRaw [4, 7, 8, 9, 11, 12]
    (.seq none .u (.seq none (.seq none .u (.cond (.seq none .u .u) .u)) (.seq none .u (.seq (some ⟨[(7, .box [.sl, (.int .i64), .sl, .sl])], [4]⟩) (.seq none .u (.cond .u .u)) (.seq none .u (.seq none .u (.seq none (.draw [⟨0, [], []⟩, ⟨1, [], []⟩, ⟨2, [], []⟩, ⟨3, [], []⟩, ⟨4, [], []⟩, ⟨5, [], []⟩, ⟨6, [], []⟩, ⟨7, [], []⟩, ⟨8, [], []⟩, ⟨9, [], []⟩, ⟨10, [], []⟩, ⟨11, [], []⟩, ⟨12, [], []⟩, ⟨13, [], []⟩, ⟨14, [], []⟩, ⟨15, [], []⟩, ⟨17, [], []⟩, ⟨18, [], []⟩, ⟨16, [17, 18], []⟩, ⟨19, [], []⟩, ⟨20, [], []⟩, ⟨21, [], []⟩, ⟨22, [], []⟩, ⟨23, [], []⟩, ⟨24, [], []⟩, ⟨25, [], []⟩]) .u)))))))
    [.slice a0p a0n a0c, .agg #[.slice a1_0p a1_0n a1_0c, .slice a1_1p a1_1n a1_1c, .slice a1_2p a1_2n a1_2c, .int .i64 a1_3, .bool a1_4], .int .u8 a2] R H := by kernel_rfl
  rw [e] at h
  exact call_of_zfun mixed h

/-- timebound/timeboundmake.Few -/
def F_make_Few (a0p : Option Addr) (a0n a0c : Nat) (R : Value → LH → Prop) (H : LH) : Prop :=
  ((a0p = none) → (a0n = 0) ∧ (a0c = 0)) ∧ (R (Value.bool (decide ((a0n : Int) ≤ (400 : Int)))) H)

theorem F_make_Few_call {R : Value → LH → Prop} {H : LH} (a0p : Option Addr) (a0n a0c : Nat) (h : F_make_Few a0p a0n a0c R H) : Call prog f_make_Few [.slice a0p a0n a0c] H R := by
  have e : F_make_Few a0p a0n a0c R H = zfun prog f_make_Few []
    (.seq none .u (.seq none .u .u))
    [.slice a0p a0n a0c] R H := by kernel_rfl
  rw [e] at h
  exact call_of_zfun mixed h

/-- timebound/timeboundlaw21.awake -/
def F_law21_awake  (R : Value → LH → Prop) (H : LH) : Prop :=
  ∀ H1 : LH, (H1 = (LH.new H (LObj.cells [(Value.int .i64 (10 : Int)), (Value.int .i64 (0 : Int)), (Value.int .i64 (0 : Int)), (Value.int .i64 (0 : Int)), (Value.int .i64 (0 : Int)), (Value.int .i64 (0 : Int))] 6 false)))
    → ∀ H2 : LH, (H2 = (LH.new H1 (LObj.cells [(Value.int .i64 (0 : Int)), (Value.int .i64 (1 : Int)), (Value.slice none 0 0), (Value.slice none 0 0)] 4 false))) → ∀ H3 : LH, (H3 = (LH.new H2 (LObj.cells [(Value.string
    (ByteArray.mk #[])), (Value.slice (some (Addr.mk (LH.next H1) 0 none)) 1 1), (Value.slice none 0 0), (Value.slice none 0 0), (Value.slice none 0 0), (Value.slice none 0 0), (Value.slice none 0 0), (Value.slice none 0
    0), (Value.slice none 0 0), (Value.slice none 0 0)] 10 false))) → (XCall prog f_machine_Run [(Value.agg #[(Value.slice (some (Addr.mk (LH.next H) 0 none)) 1 1), (Value.int .i64 (0 : Int)), (Value.slice none 0 0),
    (Value.slice (some (Addr.mk (LH.next H2) 0 none)) 1 1)]), (Value.int .i64 (0 : Int)), (Value.slice none 0 0), (Value.slice none 0 0), (Value.int .i64 (9 : Int))] H3 (fun (v4 : Value) (H5 : LH) => ∃ p6 : (Option
    Addr), ∃ n7 n8 : Nat, ∃ p9 : (Option Addr), ∃ n10 n11 : Nat, ∃ p12 : (Option Addr), ∃ n13 n14 : Nat, ∃ p15 : (Option Addr), ∃ n16 n17 : Nat, ∃ x18 : Int, ∃ p19 : (Option Addr), ∃ n20 n21 : Nat, ∃ x22 : Int, (v4 =
    (Value.tuple #[(Value.agg #[(Value.slice p6 n7 n8), (Value.slice p9 n10 n11), (Value.slice p12 n13 n14), (Value.slice p15 n16 n17), (Value.int .i64 x18)]), (Value.slice p19 n20 n21), (Value.int .i64 x22)])) ∧
    (((decide (x22 = (0 : Int))) = true) → ((p19 = none) → (n20 = 0) ∧ (n21 = 0)) ∧ (((decide ((n20 : Int) = (1 : Int))) = true) → ∃ n23 n24 : Nat, (p19 = (some (Addr.mk n23 n24 none))) ∧ ((0 : Int) ≤ (0 : Int)) ∧ ((0 :
    Int) < (n20 : Int)) ∧ ∃ x25 : Int, (hAt H5 n23 (n24 + 0) (Value.int .i64 x25)) ∧ ∃ x26 : Int, (hAt H5 n23 ((n24 + 0) + 1) (Value.int .i64 x26)) ∧ ∃ b27 : Bool, (hAt H5 n23 (((n24 + 0) + 1) + 1) (Value.bool b27)) ∧
    (((Bool.and (decide (x25 = (0 : Int))) (Bool.and (decide (x26 = (-(1 : Int)))) (Bool.and (b27 == false) true))) = true) → (((decide (x18 = (1 : Int))) = true) → ∃ n28 n29 : Nat, ((some (Addr.mk (LH.next H2) 0 none))
    = (some (Addr.mk n28 n29 none))) ∧ ((0 : Int) ≤ (0 : Int)) ∧ ((0 : Int) < (1 : Int)) ∧ ∃ s30 : ByteArray, (hAt H5 n28 (n29 + 0) (Value.string s30)) ∧ ∃ p31 : (Option Addr), ∃ n32 n33 : Nat, (hAt H5 n28 ((n29 + 0) +
    1) (Value.slice p31 n32 n33)) ∧ ∃ p34 : (Option Addr), ∃ n35 n36 : Nat, (hAt H5 n28 (((n29 + 0) + 1) + 1) (Value.slice p34 n35 n36)) ∧ ∃ p37 : (Option Addr), ∃ n38 n39 : Nat, (hAt H5 n28 ((((n29 + 0) + 1) + 1) + 1)
    (Value.slice p37 n38 n39)) ∧ ∃ p40 : (Option Addr), ∃ n41 n42 : Nat, (hAt H5 n28 (((((n29 + 0) + 1) + 1) + 1) + 1) (Value.slice p40 n41 n42)) ∧ ∃ p43 : (Option Addr), ∃ n44 n45 : Nat, (hAt H5 n28 ((((((n29 + 0) + 1)
    + 1) + 1) + 1) + 1) (Value.slice p43 n44 n45)) ∧ ∃ p46 : (Option Addr), ∃ n47 n48 : Nat, (hAt H5 n28 (((((((n29 + 0) + 1) + 1) + 1) + 1) + 1) + 1) (Value.slice p46 n47 n48)) ∧ ∃ p49 : (Option Addr), ∃ n50 n51 : Nat,
    (hAt H5 n28 ((((((((n29 + 0) + 1) + 1) + 1) + 1) + 1) + 1) + 1) (Value.slice p49 n50 n51)) ∧ ∃ p52 : (Option Addr), ∃ n53 n54 : Nat, (hAt H5 n28 (((((((((n29 + 0) + 1) + 1) + 1) + 1) + 1) + 1) + 1) + 1) (Value.slice
    p52 n53 n54)) ∧ ∃ p55 : (Option Addr), ∃ n56 n57 : Nat, (hAt H5 n28 ((((((((((n29 + 0) + 1) + 1) + 1) + 1) + 1) + 1) + 1) + 1) + 1) (Value.slice p55 n56 n57)) ∧ (XCall prog f_machine_Nodes [(Value.agg #[(Value.string
    s30), (Value.slice p31 n32 n33), (Value.slice p34 n35 n36), (Value.slice p37 n38 n39), (Value.slice p40 n41 n42), (Value.slice p43 n44 n45), (Value.slice p46 n47 n48), (Value.slice p49 n50 n51), (Value.slice p52 n53
    n54), (Value.slice p55 n56 n57)]), (Value.slice p19 n20 n21)] H5 (fun (v58 : Value) (H59 : LH) => ∃ p60 : (Option Addr), ∃ n61 n62 : Nat, (v58 = (Value.slice p60 n61 n62)) ∧ ∀ H63 : LH, (H63 = (LH.new H59 (LObj.cells
    [(Value.int .i64 (0 : Int))] 1 false))) → (XCall prog f_ref01_SameInts [(Value.slice p60 n61 n62), (Value.slice (some (Addr.mk (LH.next H59) 0 none)) 1 1)] H63 (fun (v64 : Value) (H65 : LH) => ∃ b66 : Bool, (v64 =
    (Value.bool b66)) ∧ (R (Value.bool b66) H65)))))) ∧ (((decide (x18 = (1 : Int))) = false) → (R (Value.bool false) H5))) ∧ (((Bool.and (decide (x25 = (0 : Int))) (Bool.and (decide (x26 = (-(1 : Int)))) (Bool.and (b27
    == false) true))) = false) → (R (Value.bool false) H5))) ∧ (((decide ((n20 : Int) = (1 : Int))) = false) → (R (Value.bool false) H5))) ∧ (((decide (x22 = (0 : Int))) = false) → (R (Value.bool false) H5))))

theorem F_law21_awake_call {R : Value → LH → Prop} {H : LH}  (h : F_law21_awake  R H) : Call prog f_law21_awake [] H R := by
  have e : F_law21_awake  R H = zfun prog f_law21_awake [1, 2]
    (.seq none .u (.seq none .u (.seq none .u (.seq none .u .u))))
    [] R H := by kernel_rfl
  rw [e] at h
  exact call_of_zfun mixed h

/-- timebound/timeboundmake.New -/
def F_make_New (a0p : Option Addr) (a0n a0c : Nat) (R : Value → LH → Prop) (H : LH) : Prop :=
  ∀ H1 : LH, (H1 = (LH.new H (LObj.cells [(Value.slice a0p a0n a0c), (Value.int .i64 (0 : Int))] 2 false))) → (R (Value.pointer (some (Addr.mk (LH.next H) 0 none))) H1)

theorem F_make_New_call {R : Value → LH → Prop} {H : LH} (a0p : Option Addr) (a0n a0c : Nat) (h : F_make_New a0p a0n a0c R H) : Call prog f_make_New [.slice a0p a0n a0c] H R := by
  have e : F_make_New a0p a0n a0c R H = zfun prog f_make_New []
    (.seq none .u (.seq none .u .u))
    [.slice a0p a0n a0c] R H := by kernel_rfl
  rw [e] at h
  exact call_of_zfun mixed h

/-- timebound/timeboundlaw21.straight -/
def F_law21_straight (a0 : Option Addr) (R : Value → LH → Prop) (H : LH) : Prop :=
  (XCall prog f_make_Deck_Next [(Value.pointer a0), (Value.int .i64 (12 : Int))] H (fun (v1 : Value) (H2 : LH) => ∃ x3 : Int, (v1 = (Value.int .i64 x3)) ∧ ∃ K4 : ((Option Addr) → Nat → Nat → Int → (Option Addr) → Nat →
    Nat → (Option Addr) → Nat → Nat → ByteArray → (Option Addr) → Nat → Nat → (Option Addr) → Nat → Nat → (Option Addr) → Nat → Nat → (Option Addr) → Nat → Nat → (Option Addr) → Nat → Nat → (Option Addr) → Nat → Nat →
    (Option Addr) → Nat → Nat → (Option Addr) → Nat → Nat → (Option Addr) → Nat → Nat → Int → LH → Prop), ∃ K5 : ((Option Addr) → Nat → Nat → Int → (Option Addr) → Nat → Nat → (Option Addr) → Nat → Nat → ByteArray →
    (Option Addr) → Nat → Nat → (Option Addr) → Nat → Nat → (Option Addr) → Nat → Nat → (Option Addr) → Nat → Nat → (Option Addr) → Nat → Nat → (Option Addr) → Nat → Nat → (Option Addr) → Nat → Nat → (Option Addr) → Nat
    → Nat → (Option Addr) → Nat → Nat → Int → LH → Nat), (K4 none 0 0 (6 : Int) none 0 0 none 0 0 (ByteArray.mk #[]) none 0 0 none 0 0 none 0 0 none 0 0 none 0 0 none 0 0 none 0 0 none 0 0 none 0 0 (0 : Int) H2) ∧ ∀ p6 :
    (Option Addr), ∀ n7 : Nat, ∀ n8 : Nat, ∀ x9 : Int, ∀ p10 : (Option Addr), ∀ n11 : Nat, ∀ n12 : Nat, ∀ p13 : (Option Addr), ∀ n14 : Nat, ∀ n15 : Nat, ∀ s16 : ByteArray, ∀ p17 : (Option Addr), ∀ n18 : Nat, ∀ n19 : Nat,
    ∀ p20 : (Option Addr), ∀ n21 : Nat, ∀ n22 : Nat, ∀ p23 : (Option Addr), ∀ n24 : Nat, ∀ n25 : Nat, ∀ p26 : (Option Addr), ∀ n27 : Nat, ∀ n28 : Nat, ∀ p29 : (Option Addr), ∀ n30 : Nat, ∀ n31 : Nat, ∀ p32 : (Option
    Addr), ∀ n33 : Nat, ∀ n34 : Nat, ∀ p35 : (Option Addr), ∀ n36 : Nat, ∀ n37 : Nat, ∀ p38 : (Option Addr), ∀ n39 : Nat, ∀ n40 : Nat, ∀ p41 : (Option Addr), ∀ n42 : Nat, ∀ n43 : Nat, ∀ x44 : Int, ∀ H45 : LH, (K4 p6 n7
    n8 x9 p10 n11 n12 p13 n14 n15 s16 p17 n18 n19 p20 n21 n22 p23 n24 n25 p26 n27 n28 p29 n30 n31 p32 n33 n34 p35 n36 n37 p38 n39 n40 p41 n42 n43 x44 H45) → (((decide (x44 < (IntKind.wrap .i64 ((2 : Int) + x3)))) = true)
    → (XCall prog f_make_Deck_Next [(Value.pointer a0), (Value.int .i64 (10 : Int))] H45 (fun (v46 : Value) (H47 : LH) => ∃ x48 : Int, (v46 = (Value.int .i64 x48)) ∧ ∀ H49 : LH, (H49 = (LH.new H47 (LObj.cells [(Value.int
    .i64 (IntKind.wrap .i64 (x44 + (1 : Int))))] 1 false))) → (XCall prog f_make_Deck_Next [(Value.pointer a0), (Value.int .i64 (8 : Int))] H49 (fun (v50 : Value) (H51 : LH) => ∃ x52 : Int, (v50 = (Value.int .i64 x52)) ∧
    (XCall prog f_make_Deck_Next [(Value.pointer a0), (Value.int .i64 (8 : Int))] H51 (fun (v53 : Value) (H54 : LH) => ∃ x55 : Int, (v53 = (Value.int .i64 x55)) ∧ (XCall prog f_make_Deck_Next [(Value.pointer a0),
    (Value.int .i64 (8 : Int))] H54 (fun (v56 : Value) (H57 : LH) => ∃ x58 : Int, (v56 = (Value.int .i64 x58)) ∧ ∀ K59 : (Int → Int → Int → Int → Int → Int → Int → Int → (Option Addr) → Nat → Nat → (Option Addr) → Nat →
    Nat → LH → Prop), (∀ x60 : Int, ∀ x61 : Int, ∀ x62 : Int, ∀ x63 : Int, ∀ x64 : Int, ∀ x65 : Int, ∀ x66 : Int, ∀ x67 : Int, ∀ p68 : (Option Addr), ∀ n69 : Nat, ∀ n70 : Nat, ∀ p71 : (Option Addr), ∀ n72 : Nat, ∀ n73 :
    Nat, ∀ H74 : LH, (∀ H75 : LH, (H75 = (LH.new H74 (LObj.cells [(Value.int .i64 x60), (Value.int .i64 x61), (Value.int .i64 x62), (Value.int .i64 x63), (Value.int .i64 x64), (Value.int .i64 x65)] 6 false))) → ∃ p76 :
    (Option Addr), ∃ n77 n78 : Nat, ∃ H79 : LH, ((appV H75 none 6 48 (Value.slice p6 n7 n8) (Value.slice (some (Addr.mk (LH.next H74) 0 none)) 1 1)) = (some ((Value.slice p76 n77 n78), H79))) ∧ ∀ H80 : LH, (H80 = (LH.new
    H79 (LObj.cells [(Value.int .i64 x66), (Value.int .i64 x67), (Value.slice p68 n69 n70), (Value.slice p71 n72 n73)] 4 false))) → ∃ p81 : (Option Addr), ∃ n82 n83 : Nat, ∃ H84 : LH, ((appV H80 none 4 64 (Value.slice
    p17 n18 n19) (Value.slice (some (Addr.mk (LH.next H79) 0 none)) 1 1)) = (some ((Value.slice p81 n82 n83), H84))) ∧ (K4 p76 n77 n78 x9 p10 n11 n12 p13 n14 n15 s16 p81 n82 n83 p20 n21 n22 p23 n24 n25 p26 n27 n28 p29
    n30 n31 p32 n33 n34 p35 n36 n37 p38 n39 n40 p41 n42 n43 (IntKind.wrap .i64 (x44 + (1 : Int))) H84) ∧ ((K5 p76 n77 n78 x9 p10 n11 n12 p13 n14 n15 s16 p81 n82 n83 p20 n21 n22 p23 n24 n25 p26 n27 n28 p29 n30 n31 p32 n33
    n34 p35 n36 n37 p38 n39 n40 p41 n42 n43 (IntKind.wrap .i64 (x44 + (1 : Int))) H84) < (K5 p6 n7 n8 x9 p10 n11 n12 p13 n14 n15 s16 p17 n18 n19 p20 n21 n22 p23 n24 n25 p26 n27 n28 p29 n30 n31 p32 n33 n34 p35 n36 n37 p38
    n39 n40 p41 n42 n43 x44 H45))) → (K59 x60 x61 x62 x63 x64 x65 x66 x67 p68 n69 n70 p71 n72 n73 H74)) → (((decide (x48 = (1 : Int))) = true) → (XCall prog f_make_Deck_Word [(Value.pointer a0)] H57 (fun (v87 : Value)
    (H88 : LH) => ∃ x89 : Int, (v87 = (Value.int .i64 x89)) ∧ (K59 x48 x52 (0 : Int) (0 : Int) (0 : Int) x89 x44 (1 : Int) (some (Addr.mk (LH.next H47) 0 none)) 1 1 none 0 0 H88)))) ∧ (((decide (x48 = (1 : Int))) =
    false) → (((decide (x48 = (2 : Int))) = true) → (K59 x48 x52 x55 (0 : Int) (0 : Int) (0 : Int) x44 (1 : Int) (some (Addr.mk (LH.next H47) 0 none)) 1 1 none 0 0 H57)) ∧ (((decide (x48 = (2 : Int))) = false) →
    (((decide (x48 = (3 : Int))) = true) → (XCall prog f_make_Deck_Op [(Value.pointer a0)] H57 (fun (v90 : Value) (H91 : LH) => ∃ x92 : Int, (v90 = (Value.int .i64 x92)) ∧ (K59 x48 x52 x55 x58 x92 (0 : Int) x44 (1 : Int)
    (some (Addr.mk (LH.next H47) 0 none)) 1 1 none 0 0 H91)))) ∧ (((decide (x48 = (3 : Int))) = false) → ∀ K93 : (Bool → LH → Prop), (∀ b94 : Bool, ∀ H95 : LH, (((b94 = true) → (XCall prog f_make_Deck_Next
    [(Value.pointer a0), (Value.int .i64 (2 : Int))] H95 (fun (v96 : Value) (H97 : LH) => ∃ x98 : Int, (v96 = (Value.int .i64 x98)) ∧ (XCall prog f_make_Deck_Next [(Value.pointer a0), (Value.int .i64 (7 : Int))] H97 (fun
    (v99 : Value) (H100 : LH) => ∃ x101 : Int, (v99 = (Value.int .i64 x101)) ∧ ∀ H102 : LH, (H102 = (LH.new H100 (LObj.cells [(Value.int .i64 x44), (Value.int .i64 (0 : Int)), (Value.int .i64 (5 : Int))] 3 false))) →
    (K59 x48 x52 (IntKind.wrap .i64 (x55 * x98)) (0 : Int) (0 : Int) x101 x44 (1 : Int) (some (Addr.mk (LH.next H47) 0 none)) 1 1 (some (Addr.mk (LH.next H100) 0 none)) 1 1 H102)))))) ∧ ((b94 = false) → (((decide (x48 =
    (6 : Int))) = true) → ∀ H103 : LH, (H103 = (LH.new H95 (LObj.cells [(Value.int .i64 (IntKind.wrap .i64 ((2 : Int) + x3)))] 1 false))) → (K59 x48 (0 : Int) (0 : Int) (0 : Int) (0 : Int) (IntKind.wrap .i64 ((2 : Int) +
    x3)) x44 (1 : Int) (some (Addr.mk (LH.next H95) 0 none)) 1 1 none 0 0 H103)) ∧ (((decide (x48 = (6 : Int))) = false) → (((decide (x48 = (7 : Int))) = true) → (XCall prog f_make_Deck_Next [(Value.pointer a0),
    (Value.int .i64 (IntKind.wrap .i64 ((IntKind.wrap .i64 ((2 : Int) + x3)) + (1 : Int))))] H95 (fun (v104 : Value) (H105 : LH) => ∃ x106 : Int, (v104 = (Value.int .i64 x106)) ∧ ∀ H107 : LH, (H107 = (LH.new H105
    (LObj.cells [(Value.int .i64 (IntKind.wrap .i64 (x44 + (1 : Int)))), (Value.int .i64 x106)] 1 false))) → (K59 x48 x52 (0 : Int) (0 : Int) (0 : Int) x106 x44 (1 : Int) (some (Addr.mk (LH.next H105) 0 none)) 2 2 none 0
    0 H107)))) ∧ (((decide (x48 = (7 : Int))) = false) → (((decide (x48 = (8 : Int))) = true) → (XCall prog f_make_Deck_Next [(Value.pointer a0), (Value.int .i64 (2 : Int))] H95 (fun (v108 : Value) (H109 : LH) => ∃ x110
    : Int, (v108 = (Value.int .i64 x110)) ∧ (K59 x48 (0 : Int) (0 : Int) (0 : Int) (0 : Int) x110 x44 (1 : Int) (some (Addr.mk (LH.next H47) 0 none)) 1 1 none 0 0 H109)))) ∧ (((decide (x48 = (8 : Int))) = false) →
    (((decide (x48 = (9 : Int))) = true) → (XCall prog f_make_Deck_Next [(Value.pointer a0), (Value.int .i64 (2 : Int))] H95 (fun (v111 : Value) (H112 : LH) => ∃ x113 : Int, (v111 = (Value.int .i64 x113)) ∧ (K59 x48 (0 :
    Int) (0 : Int) (0 : Int) (0 : Int) x113 x44 (1 : Int) (some (Addr.mk (LH.next H47) 0 none)) 1 1 none 0 0 H112)))) ∧ (((decide (x48 = (9 : Int))) = false) → (K59 x48 (0 : Int) (0 : Int) (0 : Int) (0 : Int) (0 : Int)
    x44 (1 : Int) (some (Addr.mk (LH.next H47) 0 none)) 1 1 none 0 0 H95))))))) → (K93 b94 H95)) → (((decide (x48 = (4 : Int))) = true) → (K93 true H57)) ∧ (((decide (x48 = (4 : Int))) = false) → (K93 (decide (x48 = (5 :
    Int))) H57)))))))))))))) ∧ (((decide (x44 < (IntKind.wrap .i64 ((2 : Int) + x3)))) = false) → ∀ H115 : LH, (H115 = (LH.new H45 (LObj.cells [(Value.int .i64 (10 : Int)), (Value.int .i64 (0 : Int)), (Value.int .i64 (0
    : Int)), (Value.int .i64 (0 : Int)), (Value.int .i64 (0 : Int)), (Value.int .i64 (0 : Int))] 6 false))) → ∃ p116 : (Option Addr), ∃ n117 n118 : Nat, ∃ H119 : LH, ((appV H115 none 6 48 (Value.slice p6 n7 n8)
    (Value.slice (some (Addr.mk (LH.next H45) 0 none)) 1 1)) = (some ((Value.slice p116 n117 n118), H119))) ∧ ∀ H120 : LH, (H120 = (LH.new H119 (LObj.cells [(Value.int .i64 (IntKind.wrap .i64 ((2 : Int) + x3))),
    (Value.int .i64 (1 : Int)), (Value.slice none 0 0), (Value.slice none 0 0)] 4 false))) → ∃ p121 : (Option Addr), ∃ n122 n123 : Nat, ∃ H124 : LH, ((appV H120 none 4 64 (Value.slice p17 n18 n19) (Value.slice (some
    (Addr.mk (LH.next H119) 0 none)) 1 1)) = (some ((Value.slice p121 n122 n123), H124))) ∧ ∀ H125 : LH, (H125 = (LH.new H124 (LObj.cells [(Value.string s16), (Value.slice p121 n122 n123), (Value.slice p20 n21 n22),
    (Value.slice p23 n24 n25), (Value.slice p26 n27 n28), (Value.slice p29 n30 n31), (Value.slice p32 n33 n34), (Value.slice p35 n36 n37), (Value.slice p38 n39 n40), (Value.slice p41 n42 n43)] 10 false))) → (R (Value.agg
    #[(Value.slice p116 n117 n118), (Value.int .i64 x9), (Value.slice p10 n11 n12), (Value.slice (some (Addr.mk (LH.next H124) 0 none)) 1 1)]) H125))))

theorem F_law21_straight_call {R : Value → LH → Prop} {H : LH} (a0 : Option Addr) (h : F_law21_straight a0 R H) : Call prog f_law21_straight [.pointer a0] H R := by
  have e : F_law21_straight a0 R H = zfun prog f_law21_straight [2, 3, 4, 7, 8]
    (.seq none .u (.seq none .u (.seq none .u (.seq none .u (.seq none (.seq none .u (.block (.loop ⟨[(3, .box [.sl, (.int .i64), .sl, .sl]), (4, .box [.str, .sl, .sl, .sl, .sl, .sl, .sl, .sl, .sl, .sl]), (6, .one (.int .i64))], [0, 2, 5]⟩ (.seq none (.seq none .u (.cond .u .u)) (.seq none (.block (.seq none .u (.seq none .u (.seq none .u (.seq (some ⟨[(7, .box [(.int .i64), (.int .i64), (.int .i64), (.int .i64), (.int .i64), (.int .i64)]), (8, .box [(.int .i64), (.int .i64), .sl, .sl])], [0, 2, 3, 4, 5, 6]⟩) (.seq none .u (.block (.seq none .u (.cond .u (.seq none .u (.cond .u (.seq none .u (.cond .u (.seq (some ⟨[(61, .one .bool)], [0, 2, 3, 4, 5, 6, 7, 8, 9, 10, 36]⟩) (.seq none .u (.cond .u .u)) (.cond (.seq none .u .u) (.seq none .u (.cond (.seq none .u .u) (.seq none .u (.cond (.seq none .u .u) (.seq none (.seq none .u (.cond .u .u)) (.cond .u .u)))))))))))))))) (.seq none .u .u)))))) .u))))) (.seq none .u (.seq none .u (.seq none .u (.seq none .u .u)))))))))
    [.pointer a0] R H := by kernel_rfl
  rw [e] at h
  exact call_of_zfun mixed h

/-- (*timebound/timeboundmake.Deck).Next -/
def F_make_Deck_Next (a0 : Option Addr) (a1 : Int) (R : Value → LH → Prop) (H : LH) : Prop :=
  ∀ H1 : LH, (H1 = (LH.keep H 14)) → ∃ n2 n3 : Nat, (a0 = (some (Addr.mk n2 n3 none))) ∧ ∃ x4 : Int, (hAt H1 n2 (n3 + 1) (Value.int .i64 x4)) ∧ ∃ n5 n6 : Nat, (a0 = (some (Addr.mk n5 n6 none))) ∧ ∃ p7 : (Option Addr), ∃
    n8 n9 : Nat, (hAt H1 n5 (n6 + 0) (Value.slice p7 n8 n9)) ∧ ((p7 = none) → (n8 = 0) ∧ (n9 = 0)) ∧ (((decide ((n8 : Int) ≤ x4)) = true) → (R (Value.int .i64 (0 : Int)) H1)) ∧ (((decide ((n8 : Int) ≤ x4)) = false) →
    (((decide (a1 ≤ (1 : Int))) = true) → (R (Value.int .i64 (0 : Int)) H1)) ∧ (((decide (a1 ≤ (1 : Int))) = false) → ∃ n10 n11 : Nat, (a0 = (some (Addr.mk n10 n11 none))) ∧ ∃ x12 : Int, (hAt H1 n10 (n11 + 1) (Value.int
    .i64 x12)) ∧ ∃ n13 n14 : Nat, (a0 = (some (Addr.mk n13 n14 none))) ∧ ∃ l15 : (List Value), ∃ n16 : Nat, ((LH.get H1 n13) = (some (LObj.cells l15 n16 false))) ∧ (((n14 + 1) + 1) ≤ (List.length l15)) ∧ ∀ H17 : LH, (H17
    = (LH.put H1 n13 (some (LObj.cells (setMany l15 (n14 + 1) [(Value.int .i64 (IntKind.wrap .i64 (x12 + (1 : Int))))]) n16 false)))) → ∀ H18 : LH, (H18 = (LH.keep H17 14)) → ∃ n19 n20 : Nat, (a0 = (some (Addr.mk n19 n20
    none))) ∧ ∃ p21 : (Option Addr), ∃ n22 n23 : Nat, (hAt H18 n19 (n20 + 0) (Value.slice p21 n22 n23)) ∧ ∃ n24 n25 : Nat, (a0 = (some (Addr.mk n24 n25 none))) ∧ ∃ x26 : Int, (hAt H18 n24 (n25 + 1) (Value.int .i64 x26))
    ∧ ∃ n27 n28 : Nat, (p21 = (some (Addr.mk n27 n28 none))) ∧ ((0 : Int) ≤ (IntKind.wrap .i64 (x26 - (1 : Int)))) ∧ ((IntKind.wrap .i64 (x26 - (1 : Int))) < (n22 : Int)) ∧ ∃ x29 : Int, (hAt H18 n27 (n28 + ((Int.toNat
    (IntKind.wrap .i64 (x26 - (1 : Int)))) * 1)) (Value.int .i64 x29)) ∧ (XCall prog f_make_Mod [(Value.int .i64 x29), (Value.int .i64 a1)] H18 (fun (v30 : Value) (H31 : LH) => ∃ x32 : Int, (v30 = (Value.int .i64 x32)) ∧
    (R (Value.int .i64 x32) H31)))))

theorem F_make_Deck_Next_call {R : Value → LH → Prop} {H : LH} (a0 : Option Addr) (a1 : Int) (h : F_make_Deck_Next a0 a1 R H) : Call prog f_make_Deck_Next [.pointer a0, .int .i64 a1] H R := by
  have e : F_make_Deck_Next a0 a1 R H = zfun prog f_make_Deck_Next []
    (.seq none .u (.seq none (.seq none (.draw [⟨0, [], []⟩, ⟨1, [], []⟩, ⟨2, [], []⟩, ⟨3, [], []⟩, ⟨4, [], []⟩, ⟨5, [], []⟩, ⟨6, [], []⟩, ⟨7, [], []⟩, ⟨8, [], []⟩, ⟨9, [], []⟩, ⟨10, [], []⟩, ⟨11, [], []⟩, ⟨12, [], []⟩, ⟨13, [], []⟩]) (.cond (.seq none .u .u) .u)) (.seq none .u (.seq none (.draw [⟨0, [], []⟩, ⟨1, [], []⟩, ⟨2, [], []⟩, ⟨3, [], []⟩, ⟨4, [], []⟩, ⟨5, [], []⟩, ⟨6, [], []⟩, ⟨7, [], []⟩, ⟨8, [], []⟩, ⟨9, [], []⟩, ⟨10, [], []⟩, ⟨11, [], []⟩, ⟨12, [], []⟩, ⟨13, [], []⟩]) .u))))
    [.pointer a0, .int .i64 a1] R H := by kernel_rfl
  rw [e] at h
  exact call_of_zfun mixed h

/-- (*timebound/timeboundmake.Deck).Word -/
def F_make_Deck_Word (a0 : Option Addr) (R : Value → LH → Prop) (H : LH) : Prop :=
  (XCall prog f_make_Deck_Next [(Value.pointer a0), (Value.int .i64 (8 : Int))] H (fun (v1 : Value) (H2 : LH) => ∃ x3 : Int, (v1 = (Value.int .i64 x3)) ∧ (((decide (x3 = (0 : Int))) = true) → (XCall prog f_make_Deck_Next
    [(Value.pointer a0), (Value.int .i64 (20 : Int))] H2 (fun (v4 : Value) (H5 : LH) => ∃ x6 : Int, (v4 = (Value.int .i64 x6)) ∧ (R (Value.int .i64 (IntKind.wrap .i64 ((0 : Int) - x6))) H5)))) ∧ (((decide (x3 = (0 :
    Int))) = false) → (((decide (x3 = (1 : Int))) = true) → (XCall prog f_make_Deck_Next [(Value.pointer a0), (Value.int .i64 (5 : Int))] H2 (fun (v7 : Value) (H8 : LH) => ∃ x9 : Int, (v7 = (Value.int .i64 x9)) ∧ (R
    (Value.int .i64 (IntKind.wrap .i64 ((2147483647 : Int) - x9))) H8)))) ∧ (((decide (x3 = (1 : Int))) = false) → (((decide (x3 = (2 : Int))) = true) → (XCall prog f_make_Deck_Next [(Value.pointer a0), (Value.int .i64
    (5 : Int))] H2 (fun (v10 : Value) (H11 : LH) => ∃ x12 : Int, (v10 = (Value.int .i64 x12)) ∧ (R (Value.int .i64 (IntKind.wrap .i64 ((-(2147483648 : Int)) + x12))) H11)))) ∧ (((decide (x3 = (2 : Int))) = false) →
    (((decide (x3 = (3 : Int))) = true) → (XCall prog f_make_Deck_Next [(Value.pointer a0), (Value.int .i64 (31 : Int))] H2 (fun (v13 : Value) (H14 : LH) => ∃ x15 : Int, (v13 = (Value.int .i64 x15)) ∧ ((0 : Int) ≤
    (IntKind.wrap .u64 x15)) ∧ (R (Value.int .i64 (IntKind.wrap .i64 ((1 : Int) * ((2 : Int) ^ (Min.min (Int.toNat (IntKind.wrap .u64 x15)) 64))))) H14)))) ∧ (((decide (x3 = (3 : Int))) = false) → (XCall prog
    f_make_Deck_Next [(Value.pointer a0), (Value.int .i64 (20 : Int))] H2 (fun (v16 : Value) (H17 : LH) => ∃ x18 : Int, (v16 = (Value.int .i64 x18)) ∧ (R (Value.int .i64 x18) H17)))))))))

theorem F_make_Deck_Word_call {R : Value → LH → Prop} {H : LH} (a0 : Option Addr) (h : F_make_Deck_Word a0 R H) : Call prog f_make_Deck_Word [.pointer a0] H R := by
  have e : F_make_Deck_Word a0 R H = zfun prog f_make_Deck_Word []
    (.seq none .u (.seq none (.seq none .u (.block (.seq none .u (.cond (.seq none .u .u) (.seq none .u (.cond (.seq none .u .u) (.seq none .u (.cond (.seq none .u .u) (.seq none .u (.cond (.seq none .u .u) .u)))))))))) (.seq none .u .u)))
    [.pointer a0] R H := by kernel_rfl
  rw [e] at h
  exact call_of_zfun mixed h

/-- timebound/machine.Step -/
def F_machine_Step (a0_0p : Option Addr) (a0_0n a0_0c : Nat) (a0_1 : Int) (a0_2p : Option Addr) (a0_2n a0_2c : Nat) (a0_3p : Option Addr) (a0_3n a0_3c : Nat) (a1_0p : Option Addr) (a1_0n a1_0c : Nat) (a1_1p : Option Addr) (a1_1n a1_1c : Nat) (a1_2p : Option Addr) (a1_2n a1_2c : Nat) (a1_3 : Int) (a1_4 : Bool) (R : Value → LH → Prop) (H : LH) : Prop :=
  (XCall prog f_machine_Copy [(Value.agg #[(Value.slice a1_0p a1_0n a1_0c), (Value.slice a1_1p a1_1n a1_1c), (Value.slice a1_2p a1_2n a1_2c), (Value.int .i64 a1_3), (Value.bool a1_4)])] H (fun (v1 : Value) (H2 : LH) => ∃
    p3 : (Option Addr), ∃ n4 n5 : Nat, ∃ p6 : (Option Addr), ∃ n7 n8 : Nat, ∃ p9 : (Option Addr), ∃ n10 n11 : Nat, ∃ x12 : Int, ∃ b13 : Bool, (v1 = (Value.agg #[(Value.slice p3 n4 n5), (Value.slice p6 n7 n8),
    (Value.slice p9 n10 n11), (Value.int .i64 x12), (Value.bool b13)])) ∧ ∀ H14 : LH, (H14 = (LH.new H2 (LObj.cells [(Value.slice none 0 0), (Value.slice none 0 0), (Value.slice none 0 0), (Value.int .i64 (0 : Int)),
    (Value.bool false)] 5 false))) → ∃ l15 : (List Value), ∃ n16 : Nat, ((LH.get H14 (LH.next H2)) = (some (LObj.cells l15 n16 false))) ∧ ((0 + 5) ≤ (List.length l15)) ∧ ∀ H17 : LH, (H17 = (LH.put H14 (LH.next H2) (some
    (LObj.cells (setMany l15 0 [(Value.slice p3 n4 n5), (Value.slice p6 n7 n8), (Value.slice p9 n10 n11), (Value.int .i64 x12), (Value.bool b13)]) n16 false)))) → (XCall prog f_emit_Check [(Value.agg #[(Value.slice a0_0p
    a0_0n a0_0c), (Value.int .i64 a0_1), (Value.slice a0_2p a0_2n a0_2c), (Value.slice a0_3p a0_3n a0_3c)])] H17 (fun (v18 : Value) (H19 : LH) => ∃ x20 : Int, (v18 = (Value.int .i64 x20)) ∧ (((Bool.not (decide (x20 = (0
    : Int)))) = true) → ∃ p21 : (Option Addr), ∃ n22 n23 : Nat, (hAt H19 (LH.next H2) 0 (Value.slice p21 n22 n23)) ∧ ∃ p24 : (Option Addr), ∃ n25 n26 : Nat, (hAt H19 (LH.next H2) (0 + 1) (Value.slice p24 n25 n26)) ∧ ∃
    p27 : (Option Addr), ∃ n28 n29 : Nat, (hAt H19 (LH.next H2) ((0 + 1) + 1) (Value.slice p27 n28 n29)) ∧ ∃ x30 : Int, (hAt H19 (LH.next H2) (((0 + 1) + 1) + 1) (Value.int .i64 x30)) ∧ ∃ b31 : Bool, (hAt H19 (LH.next
    H2) ((((0 + 1) + 1) + 1) + 1) (Value.bool b31)) ∧ (R (Value.tuple #[(Value.agg #[(Value.slice p21 n22 n23), (Value.slice p24 n25 n26), (Value.slice p27 n28 n29), (Value.int .i64 x30), (Value.bool b31)]), (Value.agg
    #[(Value.int .i64 (0 : Int)), (Value.int .i64 (0 : Int)), (Value.bool false)]), (Value.int .i64 (10 : Int))]) H19)) ∧ (((Bool.not (decide (x20 = (0 : Int)))) = false) → (XCall prog f_machine_Valid [(Value.agg
    #[(Value.slice a0_0p a0_0n a0_0c), (Value.int .i64 a0_1), (Value.slice a0_2p a0_2n a0_2c), (Value.slice a0_3p a0_3n a0_3c)]), (Value.agg #[(Value.slice a1_0p a1_0n a1_0c), (Value.slice a1_1p a1_1n a1_1c),
    (Value.slice a1_2p a1_2n a1_2c), (Value.int .i64 a1_3), (Value.bool a1_4)])] H19 (fun (v32 : Value) (H33 : LH) => ∃ b34 : Bool, (v32 = (Value.bool b34)) ∧ (((Bool.not b34) = true) → ∃ p35 : (Option Addr), ∃ n36 n37 :
    Nat, (hAt H33 (LH.next H2) 0 (Value.slice p35 n36 n37)) ∧ ∃ p38 : (Option Addr), ∃ n39 n40 : Nat, (hAt H33 (LH.next H2) (0 + 1) (Value.slice p38 n39 n40)) ∧ ∃ p41 : (Option Addr), ∃ n42 n43 : Nat, (hAt H33 (LH.next
    H2) ((0 + 1) + 1) (Value.slice p41 n42 n43)) ∧ ∃ x44 : Int, (hAt H33 (LH.next H2) (((0 + 1) + 1) + 1) (Value.int .i64 x44)) ∧ ∃ b45 : Bool, (hAt H33 (LH.next H2) ((((0 + 1) + 1) + 1) + 1) (Value.bool b45)) ∧ (R
    (Value.tuple #[(Value.agg #[(Value.slice p35 n36 n37), (Value.slice p38 n39 n40), (Value.slice p41 n42 n43), (Value.int .i64 x44), (Value.bool b45)]), (Value.agg #[(Value.int .i64 (0 : Int)), (Value.int .i64 (0 :
    Int)), (Value.bool false)]), (Value.int .i64 (10 : Int))]) H33)) ∧ (((Bool.not b34) = false) → ((a1_4 = true) → ∃ p46 : (Option Addr), ∃ n47 n48 : Nat, (hAt H33 (LH.next H2) 0 (Value.slice p46 n47 n48)) ∧ ∃ p49 :
    (Option Addr), ∃ n50 n51 : Nat, (hAt H33 (LH.next H2) (0 + 1) (Value.slice p49 n50 n51)) ∧ ∃ p52 : (Option Addr), ∃ n53 n54 : Nat, (hAt H33 (LH.next H2) ((0 + 1) + 1) (Value.slice p52 n53 n54)) ∧ ∃ x55 : Int, (hAt
    H33 (LH.next H2) (((0 + 1) + 1) + 1) (Value.int .i64 x55)) ∧ ∃ b56 : Bool, (hAt H33 (LH.next H2) ((((0 + 1) + 1) + 1) + 1) (Value.bool b56)) ∧ (R (Value.tuple #[(Value.agg #[(Value.slice p46 n47 n48), (Value.slice
    p49 n50 n51), (Value.slice p52 n53 n54), (Value.int .i64 x55), (Value.bool b56)]), (Value.agg #[(Value.int .i64 (0 : Int)), (Value.int .i64 (0 : Int)), (Value.bool false)]), (Value.int .i64 (15 : Int))]) H33)) ∧
    ((a1_4 = false) → (XCall prog f_machine_Next [(Value.agg #[(Value.slice a0_0p a0_0n a0_0c), (Value.int .i64 a0_1), (Value.slice a0_2p a0_2n a0_2c), (Value.slice a0_3p a0_3n a0_3c)]), (Value.pointer (some (Addr.mk
    (LH.next H2) 0 none)))] H33 (fun (v57 : Value) (H58 : LH) => ∃ x59 x60 : Int, ∃ b61 : Bool, ∃ x62 : Int, (v57 = (Value.tuple #[(Value.agg #[(Value.int .i64 x59), (Value.int .i64 x60), (Value.bool b61)]), (Value.int
    .i64 x62)])) ∧ ∀ H63 : LH, (H63 = (LH.keep H58 6)) → ∃ p64 : (Option Addr), ∃ n65 n66 : Nat, (hAt H63 (LH.next H2) 0 (Value.slice p64 n65 n66)) ∧ ∃ p67 : (Option Addr), ∃ n68 n69 : Nat, (hAt H63 (LH.next H2) (0 + 1)
    (Value.slice p67 n68 n69)) ∧ ∃ p70 : (Option Addr), ∃ n71 n72 : Nat, (hAt H63 (LH.next H2) ((0 + 1) + 1) (Value.slice p70 n71 n72)) ∧ ∃ x73 : Int, (hAt H63 (LH.next H2) (((0 + 1) + 1) + 1) (Value.int .i64 x73)) ∧ ∃
    b74 : Bool, (hAt H63 (LH.next H2) ((((0 + 1) + 1) + 1) + 1) (Value.bool b74)) ∧ ((Value.agg #[(Value.int .i64 x59), (Value.int .i64 x60), (Value.bool b61)]) = (Value.agg #[(Value.int .i64 x59), (Value.int .i64 x60),
    (Value.bool b61)])) ∧ (R (Value.tuple #[(Value.agg #[(Value.slice p64 n65 n66), (Value.slice p67 n68 n69), (Value.slice p70 n71 n72), (Value.int .i64 x73), (Value.bool b74)]), (Value.agg #[(Value.int .i64 x59),
    (Value.int .i64 x60), (Value.bool b61)]), (Value.int .i64 x62)]) H63))))))))))))

theorem F_machine_Step_call {R : Value → LH → Prop} {H : LH} (a0_0p : Option Addr) (a0_0n a0_0c : Nat) (a0_1 : Int) (a0_2p : Option Addr) (a0_2n a0_2c : Nat) (a0_3p : Option Addr) (a0_3n a0_3c : Nat) (a1_0p : Option Addr) (a1_0n a1_0c : Nat) (a1_1p : Option Addr) (a1_1n a1_1c : Nat) (a1_2p : Option Addr) (a1_2n a1_2c : Nat) (a1_3 : Int) (a1_4 : Bool) (h : F_machine_Step a0_0p a0_0n a0_0c a0_1 a0_2p a0_2n a0_2c a0_3p a0_3n a0_3c a1_0p a1_0n a1_0c a1_1p a1_1n a1_1c a1_2p a1_2n a1_2c a1_3 a1_4 R H) : Call prog f_machine_Step [.agg #[.slice a0_0p a0_0n a0_0c, .int .i64 a0_1, .slice a0_2p a0_2n a0_2c, .slice a0_3p a0_3n a0_3c], .agg #[.slice a1_0p a1_0n a1_0c, .slice a1_1p a1_1n a1_1c, .slice a1_2p a1_2n a1_2c, .int .i64 a1_3, .bool a1_4]] H R := by
  have e : F_machine_Step a0_0p a0_0n a0_0c a0_1 a0_2p a0_2n a0_2c a0_3p a0_3n a0_3c a1_0p a1_0n a1_0c a1_1p a1_1n a1_1c a1_2p a1_2n a1_2c a1_3 a1_4 R H = zfun prog f_machine_Step [2, 3, 4, 5, 8]
    (.seq none .u (.seq none .u (.seq none (.seq none .u (.cond (.seq none .u .u) .u)) (.seq none (.seq none .u (.cond (.seq none .u .u) .u)) (.seq none .u (.seq none (.draw [⟨0, [], []⟩, ⟨1, [], []⟩, ⟨2, [], []⟩, ⟨3, [1], []⟩, ⟨4, [], []⟩, ⟨5, [], []⟩]) .u))))))
    [.agg #[.slice a0_0p a0_0n a0_0c, .int .i64 a0_1, .slice a0_2p a0_2n a0_2c, .slice a0_3p a0_3n a0_3c], .agg #[.slice a1_0p a1_0n a1_0c, .slice a1_1p a1_1n a1_1c, .slice a1_2p a1_2n a1_2c, .int .i64 a1_3, .bool a1_4]] R H := by kernel_rfl
  rw [e] at h
  exact call_of_zfun mixed h

/-- timebound/timeboundref21.Step -/
def F_ref21_Step (a0_0p : Option Addr) (a0_0n a0_0c : Nat) (a0_1 : Int) (a0_2p : Option Addr) (a0_2n a0_2c : Nat) (a0_3p : Option Addr) (a0_3n a0_3c : Nat) (a1_0p : Option Addr) (a1_0n a1_0c : Nat) (a1_1p : Option Addr) (a1_1n a1_1c : Nat) (a1_2p : Option Addr) (a1_2n a1_2c : Nat) (a1_3 : Int) (a1_4 : Bool) (R : Value → LH → Prop) (H : LH) : Prop :=
  (XCall prog f_ref20_Check [(Value.agg #[(Value.slice a0_0p a0_0n a0_0c), (Value.int .i64 a0_1), (Value.slice a0_2p a0_2n a0_2c), (Value.slice a0_3p a0_3n a0_3c)])] H (fun (v1 : Value) (H2 : LH) => ∃ x3 : Int, (v1 =
    (Value.int .i64 x3)) ∧ (((Bool.not (decide (x3 = (0 : Int)))) = true) → (R (Value.tuple #[(Value.agg #[(Value.slice a1_0p a1_0n a1_0c), (Value.slice a1_1p a1_1n a1_1c), (Value.slice a1_2p a1_2n a1_2c), (Value.int
    .i64 a1_3), (Value.bool a1_4)]), (Value.agg #[(Value.int .i64 (0 : Int)), (Value.int .i64 (0 : Int)), (Value.bool false)]), (Value.int .i64 (10 : Int))]) H2)) ∧ (((Bool.not (decide (x3 = (0 : Int)))) = false) →
    (XCall prog f_ref21_Valid [(Value.agg #[(Value.slice a0_0p a0_0n a0_0c), (Value.int .i64 a0_1), (Value.slice a0_2p a0_2n a0_2c), (Value.slice a0_3p a0_3n a0_3c)]), (Value.agg #[(Value.slice a1_0p a1_0n a1_0c),
    (Value.slice a1_1p a1_1n a1_1c), (Value.slice a1_2p a1_2n a1_2c), (Value.int .i64 a1_3), (Value.bool a1_4)])] H2 (fun (v4 : Value) (H5 : LH) => ∃ b6 : Bool, (v4 = (Value.bool b6)) ∧ (((Bool.not b6) = true) → (R
    (Value.tuple #[(Value.agg #[(Value.slice a1_0p a1_0n a1_0c), (Value.slice a1_1p a1_1n a1_1c), (Value.slice a1_2p a1_2n a1_2c), (Value.int .i64 a1_3), (Value.bool a1_4)]), (Value.agg #[(Value.int .i64 (0 : Int)),
    (Value.int .i64 (0 : Int)), (Value.bool false)]), (Value.int .i64 (10 : Int))]) H5)) ∧ (((Bool.not b6) = false) → ((a1_4 = true) → (R (Value.tuple #[(Value.agg #[(Value.slice a1_0p a1_0n a1_0c), (Value.slice a1_1p
    a1_1n a1_1c), (Value.slice a1_2p a1_2n a1_2c), (Value.int .i64 a1_3), (Value.bool a1_4)]), (Value.agg #[(Value.int .i64 (0 : Int)), (Value.int .i64 (0 : Int)), (Value.bool false)]), (Value.int .i64 (15 : Int))]) H5))
    ∧ ((a1_4 = false) → (XCall prog f_ref21_Copy [(Value.agg #[(Value.slice a1_0p a1_0n a1_0c), (Value.slice a1_1p a1_1n a1_1c), (Value.slice a1_2p a1_2n a1_2c), (Value.int .i64 a1_3), (Value.bool a1_4)])] H5 (fun (v7 :
    Value) (H8 : LH) => ∃ p9 : (Option Addr), ∃ n10 n11 : Nat, ∃ p12 : (Option Addr), ∃ n13 n14 : Nat, ∃ p15 : (Option Addr), ∃ n16 n17 : Nat, ∃ x18 : Int, ∃ b19 : Bool, (v7 = (Value.agg #[(Value.slice p9 n10 n11),
    (Value.slice p12 n13 n14), (Value.slice p15 n16 n17), (Value.int .i64 x18), (Value.bool b19)])) ∧ ∀ H20 : LH, (H20 = (LH.new H8 (LObj.cells [(Value.slice none 0 0), (Value.slice none 0 0), (Value.slice none 0 0),
    (Value.int .i64 (0 : Int)), (Value.bool false)] 5 false))) → ∃ l21 : (List Value), ∃ n22 : Nat, ((LH.get H20 (LH.next H8)) = (some (LObj.cells l21 n22 false))) ∧ ((0 + 5) ≤ (List.length l21)) ∧ ∀ H23 : LH, (H23 =
    (LH.put H20 (LH.next H8) (some (LObj.cells (setMany l21 0 [(Value.slice p9 n10 n11), (Value.slice p12 n13 n14), (Value.slice p15 n16 n17), (Value.int .i64 x18), (Value.bool b19)]) n22 false)))) → (XCall prog
    f_ref21_step [(Value.agg #[(Value.slice a0_0p a0_0n a0_0c), (Value.int .i64 a0_1), (Value.slice a0_2p a0_2n a0_2c), (Value.slice a0_3p a0_3n a0_3c)]), (Value.pointer (some (Addr.mk (LH.next H8) 0 none)))] H23 (fun
    (v24 : Value) (H25 : LH) => ∃ x26 x27 : Int, ∃ b28 : Bool, ∃ x29 : Int, (v24 = (Value.tuple #[(Value.agg #[(Value.int .i64 x26), (Value.int .i64 x27), (Value.bool b28)]), (Value.int .i64 x29)])) ∧ (((Bool.not (decide
    (x29 = (0 : Int)))) = true) → (R (Value.tuple #[(Value.agg #[(Value.slice a1_0p a1_0n a1_0c), (Value.slice a1_1p a1_1n a1_1c), (Value.slice a1_2p a1_2n a1_2c), (Value.int .i64 a1_3), (Value.bool a1_4)]), (Value.agg
    #[(Value.int .i64 (0 : Int)), (Value.int .i64 (0 : Int)), (Value.bool false)]), (Value.int .i64 x29)]) H25)) ∧ (((Bool.not (decide (x29 = (0 : Int)))) = false) → ∀ H30 : LH, (H30 = (LH.keep H25 5)) → ∃ p31 : (Option
    Addr), ∃ n32 n33 : Nat, (hAt H30 (LH.next H8) 0 (Value.slice p31 n32 n33)) ∧ ∃ p34 : (Option Addr), ∃ n35 n36 : Nat, (hAt H30 (LH.next H8) (0 + 1) (Value.slice p34 n35 n36)) ∧ ∃ p37 : (Option Addr), ∃ n38 n39 : Nat,
    (hAt H30 (LH.next H8) ((0 + 1) + 1) (Value.slice p37 n38 n39)) ∧ ∃ x40 : Int, (hAt H30 (LH.next H8) (((0 + 1) + 1) + 1) (Value.int .i64 x40)) ∧ ∃ b41 : Bool, (hAt H30 (LH.next H8) ((((0 + 1) + 1) + 1) + 1)
    (Value.bool b41)) ∧ ((Value.agg #[(Value.int .i64 x26), (Value.int .i64 x27), (Value.bool b28)]) = (Value.agg #[(Value.int .i64 x26), (Value.int .i64 x27), (Value.bool b28)])) ∧ (R (Value.tuple #[(Value.agg
    #[(Value.slice p31 n32 n33), (Value.slice p34 n35 n36), (Value.slice p37 n38 n39), (Value.int .i64 x40), (Value.bool b41)]), (Value.agg #[(Value.int .i64 x26), (Value.int .i64 x27), (Value.bool b28)]), (Value.int
    .i64 (0 : Int))]) H30)))))))))))))

theorem F_ref21_Step_call {R : Value → LH → Prop} {H : LH} (a0_0p : Option Addr) (a0_0n a0_0c : Nat) (a0_1 : Int) (a0_2p : Option Addr) (a0_2n a0_2c : Nat) (a0_3p : Option Addr) (a0_3n a0_3c : Nat) (a1_0p : Option Addr) (a1_0n a1_0c : Nat) (a1_1p : Option Addr) (a1_1n a1_1c : Nat) (a1_2p : Option Addr) (a1_2n a1_2c : Nat) (a1_3 : Int) (a1_4 : Bool) (h : F_ref21_Step a0_0p a0_0n a0_0c a0_1 a0_2p a0_2n a0_2c a0_3p a0_3n a0_3c a1_0p a1_0n a1_0c a1_1p a1_1n a1_1c a1_2p a1_2n a1_2c a1_3 a1_4 R H) : Call prog f_ref21_Step [.agg #[.slice a0_0p a0_0n a0_0c, .int .i64 a0_1, .slice a0_2p a0_2n a0_2c, .slice a0_3p a0_3n a0_3c], .agg #[.slice a1_0p a1_0n a1_0c, .slice a1_1p a1_1n a1_1c, .slice a1_2p a1_2n a1_2c, .int .i64 a1_3, .bool a1_4]] H R := by
  have e : F_ref21_Step a0_0p a0_0n a0_0c a0_1 a0_2p a0_2n a0_2c a0_3p a0_3n a0_3c a1_0p a1_0n a1_0c a1_1p a1_1n a1_1c a1_2p a1_2n a1_2c a1_3 a1_4 R H = zfun prog f_ref21_Step [2, 3, 4, 5, 8]
    (.seq none .u (.seq none (.seq none .u (.cond (.seq none .u .u) .u)) (.seq none (.seq none .u (.cond (.seq none .u .u) .u)) (.seq none .u (.seq none .u (.seq none (.seq none .u (.cond (.seq none .u .u) .u)) (.seq none (.draw [⟨0, [], []⟩, ⟨1, [], []⟩, ⟨2, [1], []⟩, ⟨3, [], []⟩, ⟨4, [], []⟩]) .u)))))))
    [.agg #[.slice a0_0p a0_0n a0_0c, .int .i64 a0_1, .slice a0_2p a0_2n a0_2c, .slice a0_3p a0_3n a0_3c], .agg #[.slice a1_0p a1_0n a1_0c, .slice a1_1p a1_1n a1_1c, .slice a1_2p a1_2n a1_2c, .int .i64 a1_3, .bool a1_4]] R H := by kernel_rfl
  rw [e] at h
  exact call_of_zfun mixed h

end Go.Lg
