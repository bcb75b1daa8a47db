/- Operators on words, by both. No condition. -/
import Derived.Test.YtaehendkbicepaaC6
set_option linter.unusedVariables false
namespace Go.Lg
open Go

def W32 (x : Int) : Int := IntKind.wrap .i64 (IntKind.wrap .i32 (IntKind.wrap .u32 x))

theorem W32_u64 (x : Int) : IntKind.wrap .i64 (IntKind.wrap .i32 (IntKind.wrap .u32 (IntKind.wrap .u64 x))) = W32 x := by
  have : IntKind.wrap .u32 (IntKind.wrap .u64 x) = IntKind.wrap .u32 x := by
    simp only [IntKind.wrap, IntKind.signed, IntKind.bits, Bool.false_and, Bool.false_eq_true, if_false]
    omega
  rw [this]; rfl

theorem W32_range (x : Int) : -2147483648 ≤ W32 x ∧ W32 x ≤ 2147483647 := by
  have h : -2147483648 ≤ IntKind.wrap .i32 (IntKind.wrap .u32 x) ∧ IntKind.wrap .i32 (IntKind.wrap .u32 x) ≤ 2147483647 := by
    generalize IntKind.wrap .u32 x = y
    simp only [IntKind.wrap, IntKind.signed, IntKind.bits, Bool.true_and, decide_eq_true_eq, ge_iff_le]
    split <;> omega
  unfold W32
  rw [wrap_id (by omega)]; exact h

theorem isW_W32 (x : Int) : isW (W32 x) = true := by
  have := W32_range x
  simp [isW]; omega

/-- How far a shift goes. -/
def shOf (b : Int) : Int := IntKind.wrap .i64 (((BitVec.toNat ((BitVec.ofInt 64 b) &&& (BitVec.ofInt 64 (31 : Int)))) : Nat) : Int)

theorem shOf_range (b : Int) : 0 ≤ shOf b ∧ shOf b ≤ 31 := by
  have h : BitVec.toNat ((BitVec.ofInt 64 b) &&& (BitVec.ofInt 64 (31 : Int))) ≤ 31 := by
    rw [BitVec.toNat_and]
    exact Nat.and_le_right
  unfold shOf
  rw [wrap_id (by omega)]
  omega

theorem shOf_u64 (b : Int) : IntKind.wrap .u64 (shOf b) = shOf b := by
  have := shOf_range b
  generalize shOf b = y at this
  simp only [IntKind.wrap, IntKind.signed, IntKind.bits, Bool.false_and, Bool.false_eq_true, if_false]
  omega

def truthV (t : Bool) : Int := if t then 1 else 0

/-- What an operator gives, before it is made a word. -/
def opR (op a b : Int) : Int :=
  if op = 1 then IntKind.wrap .i64 (a + b)
  else if op = 2 then IntKind.wrap .i64 (a - b)
  else if op = 3 then IntKind.wrap .i64 (a * b)
  else if op = 4 then (if b = 0 then 0 else IntKind.wrap .i64 (Int.tdiv a b))
  else if op = 5 then (if b = 0 then 0 else Int.tmod a b)
  else if op = 6 then IntKind.wrap .i64 (((BitVec.toNat ((BitVec.ofInt 64 a) &&& (BitVec.ofInt 64 b))) : Nat) : Int)
  else if op = 7 then IntKind.wrap .i64 (((BitVec.toNat ((BitVec.ofInt 64 a) ||| (BitVec.ofInt 64 b))) : Nat) : Int)
  else if op = 8 then IntKind.wrap .i64 (((BitVec.toNat ((BitVec.ofInt 64 a) ^^^ (BitVec.ofInt 64 b))) : Nat) : Int)
  else if op = 9 then IntKind.wrap .i64 (a * ((2 : Int) ^ (Min.min (Int.toNat (shOf b)) 64)))
  else if op = 10 then Int.fdiv a ((2 : Int) ^ (Min.min (Int.toNat (shOf b)) 64))
  else if op = 11 then truthV (decide (a < b))
  else if op = 12 then truthV (decide (a ≤ b))
  else if op = 13 then truthV (decide (a = b))
  else truthV (!decide (a = b))

def doV (op a b : Int) : Int := W32 (opR op (W32 a) (W32 b))

theorem c_word_Wrap {H : LH} {x : Int} : Call prog f_word_Wrap [.int .i64 x] H (fun v H' => v = .int .i64 (W32 x) ∧ Kp [] H H') := F_word_Wrap_call _ ⟨rfl, Kp.refl⟩
theorem c_ref01_Wrap {H : LH} {x : Int} : Call prog f_ref01_Wrap [.int .i64 x] H (fun v H' => v = .int .i64 (W32 x) ∧ Kp [] H H') :=
  F_ref01_Wrap_call _ ⟨by rw [W32_u64], Kp.refl⟩
theorem c_word_truth {H : LH} {t : Bool} : Call prog f_word_truth [.bool t] H (fun v H' => v = .int .i64 (truthV t) ∧ Kp [] H H') :=
  F_word_truth_call _ ⟨fun h => by subst h; exact ⟨rfl, Kp.refl⟩, fun h => by subst h; exact ⟨rfl, Kp.refl⟩⟩
theorem c_ref01_truth {H : LH} {t : Bool} : Call prog f_ref01_truth [.bool t] H (fun v H' => v = .int .i64 (truthV t) ∧ Kp [] H H') :=
  F_ref01_truth_call _ ⟨fun h => by subst h; exact ⟨rfl, Kp.refl⟩, fun h => by subst h; exact ⟨rfl, Kp.refl⟩⟩

/-- The functions of the table. -/
def opFns : List FuncId := [f_word_operators_1, f_word_operators_2, f_word_operators_3, f_word_divide, f_word_remain, f_word_operators_4, f_word_operators_5, f_word_operators_6, f_word_operators_7, f_word_operators_8,
  f_word_operators_9, f_word_operators_10, f_word_operators_11, f_word_operators_12]

theorem c_opFn {H : LH} {op a b : Int} (h0 : 1 ≤ op) (h1 : op ≤ 14) : ∃ g, opFns[(op - 1).toNat]? = some g ∧ okFn prog g = true ∧ Call prog g [.int .i64 a, .int .i64 b] H (fun v H' => v = .int .i64 (opR op a b) ∧ Kp [] H H') := by
  have hop : op = 1 ∨ op = 2 ∨ op = 3 ∨ op = 4 ∨ op = 5 ∨ op = 6 ∨ op = 7 ∨ op = 8 ∨ op = 9 ∨ op = 10 ∨ op = 11 ∨ op = 12 ∨ op = 13 ∨ op = 14 := by omega
  rcases hop with rfl | rfl | rfl | rfl | rfl | rfl | rfl | rfl | rfl | rfl | rfl | rfl | rfl | rfl
  · exact ⟨f_word_operators_1, rfl, by kernel_rfl, F_word_operators_1_call _ _ ⟨rfl, Kp.refl⟩⟩
  · exact ⟨f_word_operators_2, rfl, by kernel_rfl, F_word_operators_2_call _ _ ⟨rfl, Kp.refl⟩⟩
  · exact ⟨f_word_operators_3, rfl, by kernel_rfl, F_word_operators_3_call _ _ ⟨rfl, Kp.refl⟩⟩
  · refine ⟨f_word_divide, rfl, by kernel_rfl, F_word_divide_call _ _ ⟨fun h => ⟨?_, Kp.refl⟩, fun h => ?_⟩⟩
    · have h : b = 0 := by simpa using h
      simp [opR, h]
    · have h : b ≠ 0 := by simpa using h
      exact ⟨h, by simp [opR, h], Kp.refl⟩
  · refine ⟨f_word_remain, rfl, by kernel_rfl, F_word_remain_call _ _ ⟨fun h => ⟨?_, Kp.refl⟩, fun h => ?_⟩⟩
    · have h : b = 0 := by simpa using h
      simp [opR, h]
    · have h : b ≠ 0 := by simpa using h
      exact ⟨h, by simp [opR, h], Kp.refl⟩
  · exact ⟨f_word_operators_4, rfl, by kernel_rfl, F_word_operators_4_call _ _ ⟨rfl, Kp.refl⟩⟩
  · exact ⟨f_word_operators_5, rfl, by kernel_rfl, F_word_operators_5_call _ _ ⟨rfl, Kp.refl⟩⟩
  · exact ⟨f_word_operators_6, rfl, by kernel_rfl, F_word_operators_6_call _ _ ⟨rfl, Kp.refl⟩⟩
  · exact ⟨f_word_operators_7, rfl, by kernel_rfl, F_word_operators_7_call _ _ ⟨(shOf_range b).1, rfl, Kp.refl⟩⟩
  · exact ⟨f_word_operators_8, rfl, by kernel_rfl, F_word_operators_8_call _ _ ⟨(shOf_range b).1, rfl, Kp.refl⟩⟩
  · refine ⟨f_word_operators_9, rfl, by kernel_rfl, F_word_operators_9_call _ _ (XCall.by c_word_truth ?_)⟩
    rintro _ H' ⟨rfl, hk⟩; exact ⟨_, rfl, rfl, hk⟩
  · refine ⟨f_word_operators_10, rfl, by kernel_rfl, F_word_operators_10_call _ _ (XCall.by c_word_truth ?_)⟩
    rintro _ H' ⟨rfl, hk⟩; exact ⟨_, rfl, rfl, hk⟩
  · refine ⟨f_word_operators_11, rfl, by kernel_rfl, F_word_operators_11_call _ _ (XCall.by c_word_truth ?_)⟩
    rintro _ H' ⟨rfl, hk⟩; exact ⟨_, rfl, rfl, hk⟩
  · refine ⟨f_word_operators_12, rfl, by kernel_rfl, F_word_operators_12_call _ _ (XCall.by c_word_truth ?_)⟩
    rintro _ H' ⟨rfl, hk⟩; exact ⟨_, rfl, rfl, hk⟩

theorem c_word_Do {H : LH} {op a b : Int} (h0 : 1 ≤ op) (h1 : op ≤ 14) : Call prog f_word_Do [.int .i64 op, .int .i64 a, .int .i64 b] H (fun v H' => v = .tuple #[.int .i64 (doV op a b), .int .i64 0] ∧ Kp [] H H') := by
  refine F_word_Do_call _ _ _ ?_
  unfold F_word_Do
  refine XCall.by c_word_Known ?_
  rintro _ H2 ⟨rfl, hk2⟩
  have : decide (1 ≤ op ∧ op ≤ 14) = true := by simp; omega
  rw [this]
  refine ⟨_, rfl, fun h => by simp at h, fun _ => ?_⟩
  rintro _ rfl
  refine XCall.by (R := fun v H' => v = .agg (opFns.map fun g => Value.func (.func g) #[] #[]).toArray ∧ Kp [] (H2.keep 12) H') (F_word_operators_call ⟨rfl, Kp.refl⟩) ?_
  rintro _ H6 ⟨rfl, hk6⟩
  rw [wrap_id (x := op - 1) (by omega)]
  obtain ⟨g, hg, -, -⟩ := c_opFn (H := H) (a := a) (b := b) h0 h1
  refine ⟨_, _, _, _, _, _, _, _, _, _, _, _, _, _, rfl, by omega, by omega, .func (.func g) #[] #[], ?_, XCall.by c_word_Wrap ?_⟩
  · rw [Nat.mul_one]
    have : (opFns.map fun g => Value.func (.func g) #[] #[])[(op - 1).toNat]? = some (.func (.func g) #[] #[]) := by rw [List.getElem?_map, hg]; rfl
    exact this
  rintro _ H23 ⟨rfl, hk23⟩
  refine ⟨_, rfl, XCall.by c_word_Wrap ?_⟩
  rintro _ H26 ⟨rfl, hk26⟩
  obtain ⟨g', hg', hok, hcall⟩ := c_opFn (H := H26) (a := W32 a) (b := W32 b) h0 h1
  rw [hg] at hg'; cases hg'
  refine ⟨_, rfl, g, [], [], rfl, hok, XCall.by hcall ?_⟩
  rintro _ H32 ⟨rfl, hk32⟩
  refine ⟨_, rfl, XCall.by c_word_Wrap ?_⟩
  rintro _ H35 ⟨rfl, hk35⟩
  exact ⟨_, rfl, rfl, ((((hk2.keep 12).trans hk6).trans hk23).trans hk26).trans (hk32.trans hk35)⟩

theorem c_ref01_Do {H : LH} {op a b : Int} (h0 : 1 ≤ op) (h1 : op ≤ 14) : Call prog f_ref01_Do [.int .i64 op, .int .i64 a, .int .i64 b] H (fun v H' => v = .tuple #[.int .i64 (doV op a b), .int .i64 0] ∧ Kp [] H H') := by
  refine F_ref01_Do_call _ _ _ ?_
  unfold F_ref01_Do
  refine XCall.by c_ref01_Wrap ?_
  rintro _ H2 ⟨rfl, hk2⟩
  refine ⟨_, rfl, XCall.by c_ref01_Wrap ?_⟩
  rintro _ H5 ⟨rfl, hk5⟩
  have hk5 := hk2.trans hk5
  generalize ha : W32 a = x
  generalize hb : W32 b = y
  have fin : ∀ z, z = opR op x y → XCall prog f_ref01_Wrap [.int .i64 z] H5 (fun v H' => ∃ w : Int, v = .int .i64 w ∧ (Value.tuple #[.int .i64 w, .int .i64 0] = .tuple #[.int .i64 (doV op a b), .int .i64 0] ∧ Kp [] H H')) := by
    rintro z rfl
    refine XCall.by c_ref01_Wrap ?_
    rintro _ H' ⟨rfl, hk⟩
    exact ⟨_, rfl, by unfold doV; rw [ha, hb], hk5.trans hk⟩
  have fint : ∀ t, truthV t = opR op x y → XCall prog f_ref01_truth [.bool t] H5 (fun v H' => ∃ z : Int, v = .int .i64 z ∧ XCall prog f_ref01_Wrap [.int .i64 z] H' (fun v H' => ∃ w : Int, v = .int .i64 w ∧ (Value.tuple #[.int .i64 w, .int .i64 0] = .tuple #[.int .i64 (doV op a b), .int .i64 0] ∧ Kp [] H H'))) := by
    intro t ht
    refine XCall.by c_ref01_truth ?_
    rintro _ H' ⟨rfl, hk⟩
    refine ⟨_, rfl, XCall.by c_ref01_Wrap ?_⟩
    rintro _ H'' ⟨rfl, hk'⟩
    exact ⟨_, rfl, by rw [ht]; unfold doV; rw [ha, hb], (hk5.trans hk).trans hk'⟩
  have sh0 := (shOf_range y).1
  have shu := shOf_u64 y
  refine ⟨_, rfl, fun g => ?_, fun g1 => ⟨fun g => ?_, fun g2 => ⟨fun g => ?_, fun g3 => ⟨fun g => ?_, fun g4 => ⟨fun g => ?_, fun g5 => ⟨fun g => ?_, fun g6 => ⟨fun g => ?_, fun g7 => ⟨fun g => ?_, fun g8 => ⟨fun g => ?_, fun g9 => ⟨fun g => ?_, fun g10 =>
    ⟨fun g => ?_, fun g11 => ⟨fun g => ?_, fun g12 => ⟨fun g => ?_, fun g13 => ⟨fun g => ?_, fun g14 => ?_⟩⟩⟩⟩⟩⟩⟩⟩⟩⟩⟩⟩⟩⟩
  · obtain rfl : op = 1 := by simpa using g
    exact fin _ rfl
  · obtain rfl : op = 2 := by simpa using g
    exact fin _ rfl
  · obtain rfl : op = 3 := by simpa using g
    exact fin _ rfl
  · obtain rfl : op = 4 := by simpa using g
    refine ⟨fun h => ?_, fun h => ?_⟩
    · have h : y ≠ 0 := by simpa using h
      exact ⟨h, fin _ (by simp [opR, h])⟩
    · have h : y = 0 := by simpa using h
      exact fin _ (by simp [opR, h])
  · obtain rfl : op = 5 := by simpa using g
    refine ⟨fun h => ?_, fun h => ?_⟩
    · have h : y ≠ 0 := by simpa using h
      exact ⟨h, fin _ (by simp [opR, h])⟩
    · have h : y = 0 := by simpa using h
      exact fin _ (by simp [opR, h])
  · obtain rfl : op = 6 := by simpa using g
    exact fin _ rfl
  · obtain rfl : op = 7 := by simpa using g
    exact fin _ rfl
  · obtain rfl : op = 8 := by simpa using g
    exact fin _ rfl
  · obtain rfl : op = 9 := by simpa using g
    refine ⟨by show 0 ≤ IntKind.wrap .u64 (shOf y); rw [shu]; exact sh0, fin _ ?_⟩
    show IntKind.wrap .i64 (x * 2 ^ (min (IntKind.wrap .u64 (shOf y)).toNat 64)) = _
    rw [shu]; rfl
  · obtain rfl : op = 10 := by simpa using g
    refine ⟨by show 0 ≤ IntKind.wrap .u64 (shOf y); rw [shu]; exact sh0, fin _ ?_⟩
    show Int.fdiv x (2 ^ (min (IntKind.wrap .u64 (shOf y)).toNat 64)) = _
    rw [shu]; rfl
  · obtain rfl : op = 11 := by simpa using g
    exact fint _ rfl
  · obtain rfl : op = 12 := by simpa using g
    exact fint _ rfl
  · obtain rfl : op = 13 := by simpa using g
    exact fint _ rfl
  · obtain rfl : op = 14 := by simpa using g
    exact fint _ rfl
  · have g1 : op ≠ 1 := by simpa using g1
    have g2 : op ≠ 2 := by simpa using g2
    have g3 : op ≠ 3 := by simpa using g3
    have g4 : op ≠ 4 := by simpa using g4
    have g5 : op ≠ 5 := by simpa using g5
    have g6 : op ≠ 6 := by simpa using g6
    have g7 : op ≠ 7 := by simpa using g7
    have g8 : op ≠ 8 := by simpa using g8
    have g9 : op ≠ 9 := by simpa using g9
    have g10 : op ≠ 10 := by simpa using g10
    have g11 : op ≠ 11 := by simpa using g11
    have g12 : op ≠ 12 := by simpa using g12
    have g13 : op ≠ 13 := by simpa using g13
    have g14 : op ≠ 14 := by simpa using g14
    omega

end Go.Lg
