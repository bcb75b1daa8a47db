/- Decks, jobs, ranks, ceilings. No condition. -/
import Derived.Test.YtaehendkbicepaaGreatB1
import Derived.Test.YtaehendkbicepaaGreatB2
import Derived.Test.YtaehendkbicepaaGreatF0
set_option linter.unusedVariables false
namespace Go.Lg
open Go

def Ri (r : List Value) (x : Int) : Prop := r = [.int .i64 x]
def Rb (r : List Value) (x : Bool) : Prop := r = [.bool x]
abbrev Ints (H : LH) (p : Option Addr) (n c : Nat) (xs : List Int) : Prop := Ls Ri 1 H p n c xs
abbrev Bools (H : LH) (p : Option Addr) (n c : Nat) (xs : List Bool) : Prop := Ls Rb 1 H p n c xs

theorem tmod_mod {a b : Int} (hb : 0 < b) : Int.tmod (Int.tmod a b + b) b = a % b := by
  have h1 := Int.tmod_lt_of_pos a hb
  have h2 := Int.lt_tmod_of_pos a hb
  rw [Int.tmod_eq_emod_of_nonneg (by omega), Int.add_emod_right]
  have := Int.mul_tdiv_add_tmod a b
  rw [show a.tmod b = a - b * a.tdiv b by omega, Int.sub_mul_emod_self_left]

theorem c_make_Mod {H : LH} {a b : Int} (hb : 0 < b) (hb2 : b ≤ 4611686018427387904) : Call prog f_make_Mod [.int .i64 a, .int .i64 b] H (fun v H' => v = .int .i64 (a % b) ∧ H' = H) := by
  refine F_make_Mod_call _ _ ⟨by omega, by omega, ?_, rfl⟩
  have h1 := Int.tmod_lt_of_pos a hb
  have h2 := Int.lt_tmod_of_pos a hb
  rw [wrap_id (by omega), tmod_mod hb]

/-- A deck: its block, how far it is taken. -/
structure DeckAt (H : LH) (d : Nat) : Prop where
  is : ∃ p n c at_ xs, Blk H d 2 [.slice p n c, .int .i64 at_] ∧ Ints H p n c xs ∧ 0 ≤ at_ ∧ ∀ a, p = some a → a.block < d

theorem DeckAt.kp {S : List Nat} {H H' : LH} {d : Nat} (h : DeckAt H d) (hk : Kp S H H') (hs : ∀ b, b ∈ S → d < b) : DeckAt H' d := by
  obtain ⟨p, n, c, a, xs, h1, h2, h3, h4⟩ := h.is
  exact ⟨p, n, c, a, xs, h1.kp hk (fun hh => by have := hs _ hh; omega), h2.kp hk (fun a ha hh => by have := hs _ hh; have := h4 a ha; omega), h3, h4⟩

theorem DeckAt.kp0 {H H' : LH} {d : Nat} (h : DeckAt H d) (hk : Kp [] H H') : DeckAt H' d := h.kp hk (fun b hb => by cases hb)

theorem c_Deck_Next {H : LH} {d : Nat} {n : Int} (h : DeckAt H d) (hn : n ≤ 4611686018427387904) :
    Call prog f_make_Deck_Next [.pointer (some ⟨d, 0, none⟩), .int .i64 n] H (fun v H' => ∃ x, v = .int .i64 x ∧ 0 ≤ x ∧ (x = 0 ∨ x < n) ∧ DeckAt H' d ∧ Kp [d] H H') := by
  obtain ⟨p, m, c, a, xs, h1, h2, h3, h4⟩ := h.is
  refine F_make_Deck_Next_call _ _ ?_
  unfold F_make_Deck_Next
  rintro _ rfl
  have hk : Kp [d] H (H.keep 14) := Kp.refl.keep _
  have hD : DeckAt (H.keep 14) d := h.kp0 (Kp.refl.keep _)
  refine ⟨d, 0, rfl, a, h1.at rfl, d, 0, rfl, p, m, c, h1.at rfl, h2.nil, fun _ => ⟨0, rfl, by omega, .inl rfl, hD, hk⟩, fun hlt => ⟨fun _ => ⟨0, rfl, by omega, .inl rfl, hD, hk⟩, fun hn1 => ?_⟩⟩
  have hlt : a < m := by simpa using hlt
  have hn1 : 1 < n := by simpa using hn1
  have hb := h2.bound
  refine ⟨d, 0, rfl, a, h1.at rfl, d, 0, rfl, _, _, h1.is, by simp, ?_⟩
  rintro H17 rfl
  rw [wrap_id (by omega)]
  rintro H18 rfl
  have hk1 : Kp [d] H (((H.keep 14).put d (some (.cells (setMany [.slice p m c, .int .i64 a] (0 + 1) [.int .i64 (a + 1)]) 2 false))).keep 14) := ((Kp.refl.keep _).put (.inl (by simp)) _).keep _
  have hb1 : Blk (((H.keep 14).put d (some (.cells (setMany [.slice p m c, .int .i64 a] (0 + 1) [.int .i64 (a + 1)]) 2 false))).keep 14) d 2 [.slice p m c, .int .i64 (a + 1)] := by
    refine Blk.keep ?_ 14
    exact Blk.putAt (H := H.keep 14) (Nat.lt_of_lt_of_le h1.lt (Nat.le_add_right _ _))
  have hi := h2.kp hk1 (fun a ha => by have := h4 a ha; simp; omega)
  obtain ⟨b, i, r, t, rfl, ht, rfl, -, hat⟩ := hi.at h3 hlt
  refine ⟨d, 0, rfl, _, _, _, hb1.at rfl, d, 0, rfl, _, hb1.at rfl, b, i, rfl, ?_⟩
  rw [wrap_id (x := a + 1 - 1) (by omega), show a + 1 - 1 = a by omega]
  refine ⟨h3, hlt, _, hat 0 _ rfl, XCall.by (c_make_Mod (by omega) hn) ?_⟩
  rintro _ H' ⟨rfl, rfl⟩
  exact ⟨_, rfl, _, rfl, Int.emod_nonneg _ (by omega), .inr (Int.emod_lt_of_pos _ (by omega)), ⟨_, _, _, _, _, hb1, hi, by omega, h4⟩, hk1⟩

theorem c_make_New {H : LH} {p : Option Addr} {n c : Nat} {xs : List Int} (h : Ints H p n c xs) (hlt : ∀ a, p = some a → a.block < H.next) :
    Call prog f_make_New [.slice p n c] H (fun v H' => v = .pointer (some ⟨H.next, 0, none⟩) ∧ DeckAt H' H.next ∧ Kp [] H H') := by
  refine F_make_New_call _ _ _ ?_
  rintro _ rfl
  refine ⟨rfl, ⟨p, n, c, 0, xs, Blk.new _ _ _, h.kp0 (Kp.refl.new _), by omega, hlt⟩, Kp.refl.new _⟩

def within (x a b : Int) : Bool := decide (a ≤ x ∧ x ≤ b)

theorem c_blocking_within {H : LH} {x a b : Int} : Call prog f_blocking_within [.int .i64 x, .int .i64 a, .int .i64 b] H (fun v H' => v = .bool (within x a b) ∧ Kp [] H H') := by
  refine F_blocking_within_call _ _ _ ⟨fun h => ⟨?_, Kp.refl⟩, fun h => ⟨?_, Kp.refl⟩⟩
  · have : a ≤ x := by simpa using h
    simp [within, this]
  · have : ¬ a ≤ x := by simpa using h
    simp [within, this]

structure HoldD where
  res : Int
  len : Int
def RHold (r : List Value) (x : HoldD) : Prop := r = [.int .i64 x.res, .int .i64 x.len]

structure JobD where
  a : Int
  b : Int
  c : Int
  prio : Int
  e : Int
  holds : List HoldD
  g : Int

/-- A job: `ok` says in what block its sections may lie. -/
def RJob (ok : Nat → Prop) (H : LH) (r : List Value) (x : JobD) : Prop :=
  ∃ p n c, r = [.int .i64 x.a, .int .i64 x.b, .int .i64 x.c, .int .i64 x.prio, .int .i64 x.e, .slice p n c, .int .i64 x.g] ∧ Ls RHold 2 H p n c x.holds ∧ ∀ a, p = some a → ok a.block

theorem Ls.lt {T : Type} {R : List Value → T → Prop} {s : Nat} {H : LH} {p : Option Addr} {n c : Nat} {xs : List T} (hl : Ls R s H p n c xs) : ∀ a, p = some a → a.block < H.next := fun a ha => by
  obtain ⟨rows, -, -, -, -, k⟩ := hl.is
  exact (k a ha).2.lt

theorem RJob.kp {ok ok' : Nat → Prop} {S : List Nat} {H H' : LH} {r : List Value} {x : JobD} (h : RJob ok H r x) (hk : Kp S H H') (hs : ∀ b, ok b → b ∉ S) (ho : ∀ b, b < H.next → ok b → ok' b) : RJob ok' H' r x := by
  obtain ⟨p, n, c, rfl, h1, h2⟩ := h
  exact ⟨p, n, c, rfl, h1.kp hk (fun a ha => hs _ (h2 a ha)), fun a ha => ho _ (h1.lt a ha) (h2 a ha)⟩

abbrev JobsAt (H : LH) (p : Option Addr) (n c : Nat) (l : List JobD) : Prop := Ls (RJob (fun _ => True) H) 7 H p n c l

theorem JobsAt.kp0 {H H' : LH} {p : Option Addr} {n c : Nat} {l : List JobD} (h : JobsAt H p n c l) (hk : Kp [] H H') : JobsAt H' p n c l :=
  (Ls.kp0 h hk).mono fun r x _ hr => hr.kp hk (fun _ _ hb => by cases hb) (fun _ _ h => h)

/-! ### who is before whom -/
def prioAt (l : List JobD) (i : Int) : Int := ((l[i.toNat]?).map (·.prio)).getD 0
def beforeB (l : List JobD) (i j : Int) : Bool :=
  decide (0 ≤ i ∧ i < l.length ∧ 0 ≤ j ∧ j < l.length ∧ (prioAt l j < prioAt l i ∨ (prioAt l i = prioAt l j ∧ i < j)))

variable {H : LH} {p : Option Addr} {n c : Nat} {l : List JobD}

theorem c_blocking_Before {i j : Int} (h : JobsAt H p n c l) : Call prog f_blocking_Before [.slice p n c, .int .i64 i, .int .i64 j] H (fun v H' => v = .bool (beforeB l i j) ∧ Kp [] H H') := by
  refine F_blocking_Before_call _ _ _ _ _ ?_
  unfold F_blocking_Before
  have ll := h.len
  have bb := h.bound
  rw [wrap_id (x := (n : Int) - 1) (by omega)]
  refine ⟨h.nil, XCall.by c_blocking_within ?_⟩
  rintro _ H2 ⟨rfl, k2⟩
  refine ⟨_, rfl, fun g => ⟨?_, k2⟩, fun g => ⟨h.nil, XCall.by c_blocking_within ?_⟩⟩
  · have g : i < 0 ∨ (n : Int) - 1 < i := by simpa [within] using g
    simp only [Value.bool.injEq, beforeB, Bool.false_eq, decide_eq_false_iff_not]; omega
  have g : 0 ≤ i ∧ i ≤ (n : Int) - 1 := by simpa [within] using g
  rintro _ H5 ⟨rfl, k5⟩
  refine ⟨_, rfl, fun g2 => ⟨?_, k2.trans k5⟩, fun g2 => ?_⟩
  · have g2 : j < 0 ∨ (n : Int) - 1 < j := by simpa [within] using g2
    simp only [Value.bool.injEq, beforeB, Bool.false_eq, decide_eq_false_iff_not]; omega
  have g2 : 0 ≤ j ∧ j ≤ (n : Int) - 1 := by simpa [within] using g2
  rintro _ rfl
  have k7 : Kp [] H (H5.keep 30) := (k2.trans k5).keep _
  have h7 := h.kp0 k7
  obtain ⟨b, q, r, x, rfl, hx, ⟨p1, n1, c1, rfl, -, -⟩, -, hat⟩ := h7.at (x := i) g.1 (by omega)
  obtain ⟨b2, q2, r2, y, e2, hy, ⟨p2, n2, c2, rfl, -, -⟩, -, hat2⟩ := h7.at (x := j) g2.1 (by omega)
  cases e2
  have e1 : prioAt l i = x.prio := by simp [prioAt, hx]
  have e2 : prioAt l j = y.prio := by simp [prioAt, hy]
  refine ⟨b, q, rfl, g.1, by omega, x.prio, hat 3 _ rfl, b, q, rfl, g2.1, by omega, y.prio, hat2 3 _ rfl, fun g3 => ⟨?_, k7⟩, fun g3 => ⟨b, q, rfl, g.1, by omega, x.prio, hat 3 _ rfl, b, q, rfl, g2.1, by omega, y.prio, hat2 3 _ rfl, fun g4 => ⟨?_, k7⟩, fun g4 => ⟨?_, k7⟩⟩⟩
  · have g3 : y.prio < x.prio := by simpa using g3
    simp only [Value.bool.injEq, beforeB, Bool.true_eq, decide_eq_true_eq]; omega
  · have g3 : ¬ y.prio < x.prio := by simpa using g3
    have g4 : x.prio = y.prio := by simpa using g4
    simp only [Value.bool.injEq, beforeB, decide_eq_decide]; omega
  · have g3 : ¬ y.prio < x.prio := by simpa using g3
    have g4 : ¬ x.prio = y.prio := by simpa using g4
    simp only [Value.bool.injEq, beforeB, Bool.false_eq, decide_eq_false_iff_not]; omega

theorem c_ref40_Before {i j : Int} (h : JobsAt H p n c l) : Call prog f_ref40_Before [.slice p n c, .int .i64 i, .int .i64 j] H (fun v H' => v = .bool (beforeB l i j) ∧ Kp [] H H') := by
  refine F_ref40_Before_call _ _ _ _ _ ?_
  unfold F_ref40_Before
  have ll := h.len
  have no : ¬ (0 ≤ i ∧ i < l.length ∧ 0 ≤ j ∧ j < l.length ∧ (prioAt l j < prioAt l i ∨ (prioAt l i = prioAt l j ∧ i < j))) → Value.bool false = Value.bool (beforeB l i j) := fun hn => by
    simp only [Value.bool.injEq, beforeB, Bool.false_eq, decide_eq_false_iff_not]; exact hn
  refine ⟨fun g => ⟨no ?_, Kp.refl⟩, fun g => ⟨fun g2 => ⟨no ?_, Kp.refl⟩, fun g2 => ⟨h.nil, fun g3 => ⟨no ?_, Kp.refl⟩, fun g3 => ⟨h.nil, fun g4 => ⟨no ?_, Kp.refl⟩, fun g4 => ⟨fun g5 => ⟨no ?_, Kp.refl⟩, fun g5 => ?_⟩⟩⟩⟩⟩
  · have g : i < 0 := by simpa using g
    omega
  · have g2 : j < 0 := by simpa using g2
    omega
  · have g3 : (n : Int) ≤ i := by simpa using g3
    omega
  · have g4 : (n : Int) ≤ j := by simpa using g4
    omega
  · have g5 : i = j := by simpa using g5
    subst g5; omega
  have g : 0 ≤ i := by simpa using g
  have g2 : 0 ≤ j := by simpa using g2
  have g3 : i < (n : Int) := by simpa using g3
  have g4 : j < (n : Int) := by simpa using g4
  rintro _ rfl
  have k7 : Kp [] H (H.keep 30) := Kp.refl.keep _
  have h7 := h.kp0 k7
  obtain ⟨b, q, r, x, rfl, hx, ⟨p1, n1, c1, rfl, -, -⟩, -, hat⟩ := h7.at (x := i) g (by omega)
  obtain ⟨b2, q2, r2, y, e2, hy, ⟨p2, n2, c2, rfl, -, -⟩, -, hat2⟩ := h7.at (x := j) g2 (by omega)
  cases e2
  have e1 : prioAt l i = x.prio := by simp [prioAt, hx]
  have e2 : prioAt l j = y.prio := by simp [prioAt, hy]
  refine ⟨b, q, rfl, g, by omega, x.prio, hat 3 _ rfl, b, q, rfl, g2, by omega, y.prio, hat2 3 _ rfl, fun g3 => ⟨?_, k7⟩, fun g3 => ⟨b, q, rfl, g, by omega, x.prio, hat 3 _ rfl, b, q, rfl, g2, by omega, y.prio, hat2 3 _ rfl, fun g4 => ⟨?_, k7⟩, fun g4 => ⟨?_, k7⟩⟩⟩
  · have g3 : y.prio < x.prio := by simpa using g3
    simp only [Value.bool.injEq, beforeB, Bool.true_eq, decide_eq_true_eq]; omega
  · have g3 : ¬ y.prio < x.prio := by simpa using g3
    have g4 : x.prio = y.prio := by simpa using g4
    simp only [Value.bool.injEq, beforeB, decide_eq_decide]; omega
  · have g3 : ¬ y.prio < x.prio := by simpa using g3
    have g4 : ¬ x.prio = y.prio := by simpa using g4
    exact no (by omega)

/-! ### ranks -/
def rankF (l : List JobD) (i : Int) : Nat → Int
  | 0 => 0
  | k + 1 => if beforeB l k i = true then rankF l i k + 1 else rankF l i k

theorem rankF_le (l : List JobD) (i : Int) : ∀ k, 0 ≤ rankF l i k ∧ rankF l i k ≤ k
  | 0 => by simp [rankF]
  | k + 1 => by
    have := rankF_le l i k
    unfold rankF
    split <;> omega

theorem c_system_rank {i : Int} (h : JobsAt H p n c l) : Call prog f_system_rank [.slice p n c, .int .i64 i] H (fun v H' => v = .int .i64 (rankF l i n) ∧ Kp [] H H') := by
  refine F_system_rank_call _ _ _ _ ?_
  unfold F_system_rank
  have bb := h.bound
  refine ⟨h.nil, fun x k H' => 0 ≤ k ∧ k ≤ n ∧ x = rankF l i k.toNat ∧ Kp [] H H', fun x k _ => (n - k).toNat, ⟨by omega, by omega, rfl, Kp.refl⟩, ?_⟩
  rintro x k H5 ⟨h0, h1, rfl, k5⟩
  have hr := rankF_le l i k.toNat
  refine ⟨fun g => XCall.by (c_blocking_Before (h.kp0 k5)) ?_, fun g => ⟨?_, k5⟩⟩
  · have g : k < n := by simpa using g
    rintro _ H7 ⟨rfl, k7⟩
    rw [wrap_id (x := k + 1) (by omega), wrap_id (x := rankF l i k.toNat + 1) (by omega)]
    have e : (k + 1).toNat = k.toNat + 1 := by omega
    have e2 : ((k.toNat : Nat) : Int) = k := by omega
    refine ⟨_, rfl, fun g2 => ⟨⟨by omega, by omega, ?_, k5.trans k7⟩, by show (n - (k + 1)).toNat < (n - k).toNat; omega⟩, fun g2 => ⟨⟨by omega, by omega, ?_, k5.trans k7⟩, by show (n - (k + 1)).toNat < (n - k).toNat; omega⟩⟩
    · rw [e, rankF, e2, if_pos g2]
    · rw [e, rankF, e2, if_neg (by rw [g2]; simp)]
  · have g : n ≤ k := by simpa using g
    rw [show k.toNat = n by omega]

theorem c_ref43_rank {i : Int} (h : JobsAt H p n c l) : Call prog f_ref43_rank [.slice p n c, .int .i64 i] H (fun v H' => v = .int .i64 (rankF l i n) ∧ Kp [] H H') := by
  refine F_ref43_rank_call _ _ _ _ ?_
  unfold F_ref43_rank
  have bb := h.bound
  refine ⟨h.nil, fun x k H' => 0 ≤ k ∧ k ≤ n ∧ x = rankF l i k.toNat ∧ Kp [] H H', fun x k _ => (n - k).toNat, ⟨by omega, by omega, rfl, Kp.refl⟩, ?_⟩
  rintro x k H5 ⟨h0, h1, rfl, k5⟩
  have hr := rankF_le l i k.toNat
  refine ⟨fun g => XCall.by (c_ref40_Before (h.kp0 k5)) ?_, fun g => ⟨?_, k5⟩⟩
  · have g : k < n := by simpa using g
    rintro _ H7 ⟨rfl, k7⟩
    rw [wrap_id (x := k + 1) (by omega), wrap_id (x := rankF l i k.toNat + 1) (by omega)]
    have e : (k + 1).toNat = k.toNat + 1 := by omega
    have e2 : ((k.toNat : Nat) : Int) = k := by omega
    refine ⟨_, rfl, fun g2 => ⟨⟨by omega, by omega, ?_, k5.trans k7⟩, by show (n - (k + 1)).toNat < (n - k).toNat; omega⟩, fun g2 => ⟨⟨by omega, by omega, ?_, k5.trans k7⟩, by show (n - (k + 1)).toNat < (n - k).toNat; omega⟩⟩
    · rw [e, rankF, e2, if_pos g2]
    · rw [e, rankF, e2, if_neg (by rw [g2]; simp)]
  · have g : n ≤ k := by simpa using g
    rw [show k.toNat = n by omega]

end Go.Lg
