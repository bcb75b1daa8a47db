/- Instructions that are right are found right, by both. No condition. -/
import Derived.Test.YtaehendkbicepaaC3
set_option linter.unusedVariables false
namespace Go.Lg
open Go

/-- An instruction that is right. -/
structure IOk (x : InstrD) : Prop where
  ins : 0 ≤ x.ins ∧ x.ins ≤ 10
  a : 0 ≤ x.a ∧ x.a < 8
  b : 0 ≤ x.b ∧ x.b < 8
  c : 0 ≤ x.c ∧ x.c < 8
  a0 : x.ins = 0 ∨ x.ins = 6 ∨ x.ins = 8 ∨ x.ins = 9 ∨ x.ins = 10 → x.a = 0
  b0 : ¬ (x.ins = 2 ∨ x.ins = 3 ∨ x.ins = 4 ∨ x.ins = 5) → x.b = 0
  c0 : x.ins ≠ 3 → x.c = 0
  op0 : x.ins ≠ 3 → x.op = 0
  op : x.ins = 3 → 1 ≤ x.op ∧ x.op ≤ 14
  imm0 : x.ins = 0 ∨ x.ins = 2 ∨ x.ins = 3 ∨ x.ins = 10 → x.imm = 0
  imm1 : x.ins = 1 → -2147483648 ≤ x.imm ∧ x.imm ≤ 2147483647
  imm4 : x.ins = 4 ∨ x.ins = 5 ∨ x.ins = 6 ∨ x.ins = 7 → 0 ≤ x.imm ∧ x.imm < 1024
  imm8 : x.ins = 8 ∨ x.ins = 9 → 0 ≤ x.imm ∧ x.imm < 4

theorem Fit.ok {n i : Int} {x : InstrD} {y : NodeD} (h : Fit n i x y) (h0 : 0 ≤ n) (hn : n ≤ 13) : IOk x where
  ins := h.ins
  a := h.a
  b := h.b
  c := h.c
  a0 := h.a0
  b0 := h.b0
  c0 := h.c0
  op0 := h.op0
  op := h.op
  imm0 := h.imm0
  imm1 := h.imm1
  imm4 := fun hh => by
    rcases hh with hh | hh | hh | hh
    · have := h.imm4 (.inl hh); omega
    · have := h.imm4 (.inr hh); omega
    · have := h.imm6 hh; omega
    · have := h.imm7 hh; omega
  imm8 := fun hh => by have := h.imm8 hh; omega

/-- What the table of instructions says. -/
structure Named (x : Int) (fa fb fc fo fi : Bool) (least most : Int) : Prop where
  a : fa = true ↔ x = 1 ∨ x = 2 ∨ x = 3 ∨ x = 4 ∨ x = 5 ∨ x = 7
  b : fb = true ↔ x = 2 ∨ x = 3 ∨ x = 4 ∨ x = 5
  c : fc = true ↔ x = 3
  o : fo = true ↔ x = 3
  least : least = if x = 1 then -2147483648 else 0
  most : most = if x = 1 then 2147483647 else if x = 4 ∨ x = 5 ∨ x = 6 ∨ x = 7 then 1023 else if x = 8 ∨ x = 9 then 3 else 0

theorem c_instr_named {H : LH} {x : Int} (h0 : 0 ≤ x) (h1 : x ≤ 10) :
    Call prog f_instr_named [.int .i64 x] H (fun v H' => ∃ fa fb fc fo fi least most, v = .tuple #[.agg #[.bool fa, .bool fb, .bool fc, .bool fo, .bool fi, .int .i64 least, .int .i64 most], .bool true] ∧ Named x fa fb fc fo fi least most ∧ Kp [] H H') := by
  refine F_instr_named_call _ ?_
  unfold F_instr_named
  intro K1 hK1
  have key : ∀ t : Bool, (t = true ↔ x = 0 ∨ x = 10) → K1 t H := by
    intro t ht
    refine hK1 _ _ ⟨fun h => ?_, fun h => ⟨fun g => ?_, fun g1 => ⟨fun g => ?_, fun g2 => ⟨fun g => ?_, fun g3 => ?_⟩⟩⟩⟩
    · refine ⟨_, _, _, _, _, _, _, rfl, ?_, Kp.refl⟩
      rcases ht.1 h with rfl | rfl <;> constructor <;> simp
    · obtain rfl : x = 1 := by simpa using g
      exact ⟨_, _, _, _, _, _, _, rfl, by constructor <;> simp, Kp.refl⟩
    · obtain rfl : x = 2 := by simpa using g
      exact ⟨_, _, _, _, _, _, _, rfl, by constructor <;> simp, Kp.refl⟩
    · obtain rfl : x = 3 := by simpa using g
      exact ⟨_, _, _, _, _, _, _, rfl, by constructor <;> simp, Kp.refl⟩
    have g1 : x ≠ 1 := by simpa using g1
    have g2 : x ≠ 2 := by simpa using g2
    have g3 : x ≠ 3 := by simpa using g3
    have g0 : ¬ (x = 0 ∨ x = 10) := fun hh => by have := ht.2 hh; rw [h] at this; cases this
    intro K4 hK4
    have key2 : ∀ u : Bool, (u = true ↔ x = 4 ∨ x = 5) → K4 u H := by
      intro u hu
      refine hK4 _ _ ⟨fun h => ?_, fun h => ⟨fun g => ?_, fun g6 => ⟨fun g => ?_, fun g7 => ⟨fun g => ?_, fun g8 => ⟨fun g => ?_, fun g9 => ?_⟩⟩⟩⟩⟩
      · refine ⟨_, _, _, _, _, _, _, rfl, ?_, Kp.refl⟩
        rcases hu.1 h with rfl | rfl <;> constructor <;> simp
      · obtain rfl : x = 6 := by simpa using g
        exact ⟨_, _, _, _, _, _, _, rfl, by constructor <;> simp, Kp.refl⟩
      · obtain rfl : x = 7 := by simpa using g
        exact ⟨_, _, _, _, _, _, _, rfl, by constructor <;> simp, Kp.refl⟩
      · obtain rfl : x = 8 := by simpa using g
        exact ⟨_, _, _, _, _, _, _, rfl, by constructor <;> simp, Kp.refl⟩
      · obtain rfl : x = 9 := by simpa using g
        exact ⟨_, _, _, _, _, _, _, rfl, by constructor <;> simp, Kp.refl⟩
      · have g6 : x ≠ 6 := by simpa using g6
        have g7 : x ≠ 7 := by simpa using g7
        have g8 : x ≠ 8 := by simpa using g8
        have g9 : x ≠ 9 := by simpa using g9
        have g4 : ¬ (x = 4 ∨ x = 5) := fun hh => by have := hu.2 hh; rw [h] at this; cases this
        omega
    refine ⟨fun h => key2 _ ?_, fun h => key2 _ ?_⟩
    · have : x = 4 := by simpa using h
      simp [this]
    · have : x ≠ 4 := by simpa using h
      simp [this]
  refine ⟨fun h => key _ ?_, fun h => key _ ?_⟩
  · have : x = 0 := by simpa using h
    simp [this]
  · have : x ≠ 0 := by simpa using h
    simp [this]

theorem c_instr_register {H : LH} {t : Bool} {x : Int} (h0 : 0 ≤ x) (h1 : x < 8) (ht : x ≠ 0 → t = true) :
    Call prog f_instr_register [.bool t, .int .i64 x] H (fun v H' => v = .bool true ∧ Kp [] H H') := by
  refine F_instr_register_call _ _ ⟨fun h => ⟨rfl, Kp.refl⟩, fun h => ?_⟩
  have h : x ≠ 0 := by simpa using h
  refine ⟨fun _ => ⟨fun _ => ⟨by simp [h1], Kp.refl⟩, fun g => ?_⟩, fun g => by rw [ht h] at g; cases g⟩
  have : ¬ 0 < x := by simpa using g
  omega

theorem c_word_Known {H : LH} {x : Int} : Call prog f_word_Known [.int .i64 x] H (fun v H' => v = .bool (decide (1 ≤ x ∧ x ≤ 14)) ∧ Kp [] H H') := by
  refine F_word_Known_call _ ⟨fun h => ⟨?_, Kp.refl⟩, fun h => ⟨?_, Kp.refl⟩⟩
  · have : 1 ≤ x := by simpa using h
    simp [this]
  · have : ¬ 1 ≤ x := by simpa using h
    simp [this]

theorem c_ref01_Known {H : LH} {x : Int} : Call prog f_ref01_Known [.int .i64 x] H (fun v H' => v = .bool (decide (1 ≤ x ∧ x ≤ 14)) ∧ Kp [] H H') := by
  refine F_ref01_Known_call _ ⟨fun h => ⟨?_, Kp.refl⟩, fun h => ⟨?_, Kp.refl⟩⟩
  · have : 1 ≤ x := by simpa using h
    simp [this]
  · have : ¬ 1 ≤ x := by simpa using h
    simp [this]

theorem c_instr_Check {H : LH} {x : InstrD} (h : IOk x) :
    Call prog f_instr_Check [.agg #[.int .i64 x.ins, .int .i64 x.a, .int .i64 x.b, .int .i64 x.c, .int .i64 x.op, .int .i64 x.imm]] H (fun v H' => v = .int .i64 0 ∧ Kp [] H H') := by
  refine F_instr_Check_call _ _ _ _ _ _ ?_
  unfold F_instr_Check
  refine XCall.by (c_instr_named h.ins.1 h.ins.2) ?_
  rintro _ H2 ⟨fa, fb, fc, fo, fi, least, most, rfl, hn, hk⟩
  refine ⟨_, _, _, _, _, _, _, _, rfl, fun g => by simp at g, fun _ => ?_⟩
  rintro _ rfl
  have hk := hk.keep 55
  have e1 := h.ins
  have e2 := h.a0
  have e3 := h.b0
  have e4 := h.c0
  have e5 := h.op0
  have e6 := h.imm0
  have e7 := h.imm1
  have e8 := h.imm4
  have e9 := h.imm8
  refine XCall.by (c_instr_register h.a.1 h.a.2 (fun hh => hn.a.2 (by omega))) ?_
  rintro _ H13 ⟨rfl, k1⟩
  have hk := hk.trans k1
  refine ⟨_, rfl, fun g => by simp at g, fun _ => XCall.by (c_instr_register h.b.1 h.b.2 (fun hh => hn.b.2 (by omega))) ?_⟩
  rintro _ H16 ⟨rfl, k1⟩
  have hk := hk.trans k1
  refine ⟨_, rfl, fun g => by simp at g, fun _ => XCall.by (c_instr_register h.c.1 h.c.2 (fun hh => hn.c.2 (by omega))) ?_⟩
  rintro _ H19 ⟨rfl, k1⟩
  have hk := hk.trans k1
  refine ⟨_, rfl, fun g => by simp at g, fun _ => XCall.by c_word_Known ?_⟩
  rintro _ H22 ⟨rfl, k1⟩
  have hk := hk.trans k1
  have hfo : fo = decide (1 ≤ x.op ∧ x.op ≤ 14) := by
    rw [Bool.eq_iff_iff, hn.o, decide_eq_true_eq]
    constructor
    · exact h.op
    · intro hh; apply Classical.byContradiction; intro hne; have := e5 hne; omega
  have hlo : least ≤ x.imm := by rw [hn.least]; split <;> omega
  have hhi : x.imm ≤ most := by
    rw [hn.most]
    split
    · omega
    · split
      · omega
      · split <;> omega
  have tail : ∀ Q : Prop, Q → (decide (x.imm < least) = true → False) ∧ (decide (most < x.imm) = true → False) := fun Q _ => by
    simp only [decide_eq_true_eq]; omega
  refine ⟨_, rfl, rfl, fun g => ?_, fun _ => ⟨fun g => ⟨fun g2 => ?_, fun _ => ⟨fun g3 => ?_, fun _ => ⟨fun g4 => ?_, fun _ => ⟨rfl, hk⟩⟩⟩⟩, fun _ => ⟨fun g3 => ?_, fun _ => ⟨fun g4 => ?_, fun _ => ⟨rfl, hk⟩⟩⟩⟩⟩
  · rw [← hfo] at g; simp at g
  · have g : fo = false := by simpa using g
    have g2 : x.op ≠ 0 := by simpa using g2
    have : ¬ x.ins = 3 := fun hh => by have := hn.o.2 hh; rw [g] at this; cases this
    exact absurd (e5 this) g2
  · simp only [decide_eq_true_eq] at g3; omega
  · simp only [decide_eq_true_eq] at g4; omega
  · simp only [decide_eq_true_eq] at g3; omega
  · simp only [decide_eq_true_eq] at g4; omega

theorem c_ref19_in {H : LH} {x n : Int} (h0 : 0 ≤ x) (h1 : x < n) : Call prog f_ref19_in [.int .i64 x, .int .i64 n] H (fun v H' => v = .bool true ∧ Kp [] H H') := by
  refine F_ref19_in_call _ _ ⟨fun h => ⟨by simp [h1], Kp.refl⟩, fun h => ?_⟩
  have : ¬ 0 ≤ x := by simpa using h
  omega

theorem c_ref19_Check {H : LH} {x : InstrD} (h : IOk x) :
    Call prog f_ref19_Check [.agg #[.int .i64 x.ins, .int .i64 x.a, .int .i64 x.b, .int .i64 x.c, .int .i64 x.op, .int .i64 x.imm]] H (fun v H' => v = .int .i64 0 ∧ Kp [] H H') := by
  refine F_ref19_Check_call _ _ _ _ _ _ ?_
  unfold F_ref19_Check
  have e1 := h.ins
  have e2 := h.a0
  have e3 := h.b0
  have e4 := h.c0
  have e5 := h.op0
  have e6 := h.imm0
  have e7 := h.imm1
  have e8 := h.imm4
  have e9 := h.imm8
  have e10 := h.op
  intro K1 hK1
  have key : ∀ H3, Kp [] H H3 → K1 true H3 := by
    intro H3 hk
    refine hK1 _ _ ?_
    intro K4 hK4
    have fin : ∀ (a b c op imm : Int) (H12 : LH), Kp [] H H12 → a = x.a → b = x.b → c = x.c → op = x.op → imm = x.imm → K4 x.ins a b c op imm true H12 := by
      rintro a b c op imm H12 hk rfl rfl rfl rfl rfl
      refine hK4 _ _ _ _ _ _ _ _ ⟨fun g => by simp at g, fun _ => ⟨fun g => by simp at g, fun _ => ⟨rfl, hk⟩⟩⟩
    intro K14 hK14
    have key2 : ∀ t : Bool, (t = true ↔ x.ins = 0 ∨ x.ins = 10) → K14 t H3 := by
      intro t ht
      refine hK14 _ _ ⟨fun g => ?_, fun g => ?_⟩
      · have := ht.1 g
        exact fin _ _ _ _ _ _ hk (by omega) (by omega) (by omega) (by omega) (by omega)
      have g0 : ¬ (x.ins = 0 ∨ x.ins = 10) := fun hh => by have := ht.2 hh; rw [g] at this; cases this
      refine ⟨fun g => ?_, fun g1 => ⟨fun g => ?_, fun g2 => ⟨fun g => ?_, fun g3 => ?_⟩⟩⟩
      · have g : x.ins = 1 := by simpa using g
        rintro _ rfl
        refine ⟨rfl, fun _ => XCall.by c_ref06_Word ?_, fun g => by cases g⟩
        rintro _ H19 ⟨rfl, k1⟩
        have hw : isW x.imm = true := by simp [isW]; omega
        rw [hw]
        exact ⟨_, rfl, fin _ _ _ _ _ _ ((hk.keep _).trans k1) rfl (by omega) (by omega) (by omega) rfl⟩
      · have g : x.ins = 2 := by simpa using g
        rintro _ rfl
        exact ⟨rfl, fin _ _ _ _ _ _ (hk.keep _) rfl rfl (by omega) (by omega) (by omega)⟩
      · have g : x.ins = 3 := by simpa using g
        rintro _ rfl
        refine ⟨rfl, rfl, rfl, rfl, rfl, rfl, fun _ => XCall.by c_ref01_Known ?_, fun g => by cases g⟩
        rintro _ H24 ⟨rfl, k1⟩
        have hw : decide (1 ≤ x.op ∧ x.op ≤ 14) = true := by simpa using e10 g
        rw [hw]
        exact ⟨_, rfl, fin _ _ _ _ _ _ ((hk.keep _).trans k1) rfl rfl rfl rfl (by omega)⟩
      have g1 : x.ins ≠ 1 := by simpa using g1
      have g2 : x.ins ≠ 2 := by simpa using g2
      have g3 : x.ins ≠ 3 := by simpa using g3
      intro K26 hK26
      have key3 : ∀ u : Bool, (u = true ↔ x.ins = 4 ∨ x.ins = 5) → K26 u H3 := by
        intro u hu
        refine hK26 _ _ ⟨fun g => ?_, fun g => ⟨fun g6 => ?_, fun g6 => ⟨fun g7 => ?_, fun g7 => ?_⟩⟩⟩
        · have g := hu.1 g
          rintro _ rfl
          refine ⟨rfl, rfl, rfl, fun _ => XCall.by (c_ref19_in (by omega) (by omega)) ?_, fun g => by cases g⟩
          rintro _ H31 ⟨rfl, k1⟩
          exact ⟨_, rfl, fin _ _ _ _ _ _ ((hk.keep _).trans k1) rfl rfl (by omega) (by omega) rfl⟩
        · have g6 : x.ins = 6 := by simpa using g6
          refine ⟨fun _ => XCall.by (c_ref19_in (by omega) (by omega)) ?_, fun g => by cases g⟩
          rintro _ H31 ⟨rfl, k1⟩
          exact ⟨_, rfl, fin _ _ _ _ _ _ (hk.trans k1) (by omega) (by omega) (by omega) (by omega) rfl⟩
        · have g7 : x.ins = 7 := by simpa using g7
          rintro _ rfl
          refine ⟨rfl, fun _ => XCall.by (c_ref19_in (by omega) (by omega)) ?_, fun g => by cases g⟩
          rintro _ H31 ⟨rfl, k1⟩
          exact ⟨_, rfl, fin _ _ _ _ _ _ ((hk.keep _).trans k1) rfl (by omega) (by omega) (by omega) rfl⟩
        have g4 : ¬ (x.ins = 4 ∨ x.ins = 5) := fun hh => by have := hu.2 hh; rw [g] at this; cases this
        have g6 : x.ins ≠ 6 := by simpa using g6
        have g7 : x.ins ≠ 7 := by simpa using g7
        intro K40 hK40
        have key4 : ∀ w : Bool, (w = true ↔ x.ins = 8 ∨ x.ins = 9) → K40 w H3 := by
          intro w hw
          refine hK40 _ _ ⟨fun g => ?_, fun g => ?_⟩
          · have g := hw.1 g
            refine ⟨fun _ => XCall.by (c_ref19_in (by omega) (by omega)) ?_, fun g => by cases g⟩
            rintro _ H31 ⟨rfl, k1⟩
            exact ⟨_, rfl, fin _ _ _ _ _ _ (hk.trans k1) (by omega) (by omega) (by omega) (by omega) rfl⟩
          · have g8 : ¬ (x.ins = 8 ∨ x.ins = 9) := fun hh => by have := hw.2 hh; rw [g] at this; cases this
            omega
        refine ⟨fun h => key4 _ ?_, fun h => key4 _ ?_⟩
        · have : x.ins = 8 := by simpa using h
          simp [this]
        · have : x.ins ≠ 8 := by simpa using h
          simp [this]
      refine ⟨fun h => key3 _ ?_, fun h => key3 _ ?_⟩
      · have : x.ins = 4 := by simpa using h
        simp [this]
      · have : x.ins ≠ 4 := by simpa using h
        simp [this]
    refine ⟨fun h => key2 _ ?_, fun h => key2 _ ?_⟩
    · have : x.ins = 0 := by simpa using h
      simp [this]
    · have : x.ins ≠ 0 := by simpa using h
      simp [this]
  refine XCall.by (c_ref19_in h.a.1 h.a.2) ?_
  rintro _ H52 ⟨rfl, k1⟩
  refine ⟨_, rfl, fun _ => XCall.by (c_ref19_in h.b.1 h.b.2) ?_, fun g => by cases g⟩
  rintro _ H55 ⟨rfl, k2⟩
  refine ⟨_, rfl, fun _ => XCall.by (c_ref19_in h.c.1 h.c.2) ?_, fun g => by cases g⟩
  rintro _ H58 ⟨rfl, k3⟩
  exact ⟨_, rfl, key _ ((k1.trans k2).trans k3)⟩

end Go.Lg
