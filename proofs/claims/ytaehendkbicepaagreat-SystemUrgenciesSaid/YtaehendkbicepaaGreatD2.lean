/- Ceilings and urgencies. No condition. -/
import Derived.Test.YtaehendkbicepaaGreatD1
set_option linter.unusedVariables false
namespace Go.Lg
open Go

def usesB (j : JobD) (q : Int) : Bool := j.holds.any fun h => decide (h.res = q)

theorem usesB_iff {j : JobD} {q : Int} : usesB j q = true ↔ ∃ h ∈ j.holds, h.res = q := by
  simp [usesB]

theorem c_ref40_uses {H : LH} {x : JobD} {p : Option Addr} {n c : Nat} {q : Int} (h : Ls RHold 2 H p n c x.holds) :
    Call prog f_ref40_uses [.agg #[.int .i64 x.a, .int .i64 x.b, .int .i64 x.c, .int .i64 x.prio, .int .i64 x.e, .slice p n c, .int .i64 x.g], .int .i64 q] H (fun v H' => v = .bool (usesB x q) ∧ Kp [] H H') := by
  refine F_ref40_uses_call _ _ _ _ _ _ _ _ _ _ ?_
  unfold F_ref40_uses
  have bb := h.bound
  have ll := h.len
  refine ⟨h.nil, fun i H' => 0 ≤ i ∧ i ≤ n ∧ (∀ (j : Nat) y, j < i.toNat → x.holds[j]? = some y → y.res ≠ q) ∧ Kp [] H H', fun i _ => (n - i).toNat, ⟨by omega, by omega, fun j y hj => by omega, Kp.refl⟩, ?_⟩
  rintro i H4 ⟨h0, h1, h2, k4⟩
  refine ⟨fun g => ?_, fun g => ⟨?_, k4⟩⟩
  · have g : i < n := by simpa using g
    obtain ⟨b, k, r, y, rfl, hy, rfl, -, hat⟩ := (h.kp0 k4).at h0 g
    refine ⟨b, k, rfl, h0, g, _, hat 0 _ rfl, _, hat 1 _ rfl, fun g2 => ⟨?_, k4⟩, fun g2 => ?_⟩
    · have g2 : y.res = q := by simpa using g2
      rw [usesB_iff.2 ⟨y, List.mem_of_getElem? hy, g2⟩]
    · have g2 : y.res ≠ q := by simpa using g2
      rw [wrap_id (x := i + 1) (by omega)]
      refine ⟨⟨by omega, by omega, fun j z hj hz => ?_, k4⟩, by show (n - (i + 1)).toNat < (n - i).toNat; omega⟩
      by_cases e : j < i.toNat
      · exact h2 j z e hz
      · rw [show j = i.toNat by omega, hy] at hz; cases hz; exact g2
  · have g : n ≤ i := by simpa using g
    have : usesB x q = false := by
      rw [Bool.eq_false_iff]
      intro hu
      obtain ⟨y, hy, e⟩ := usesB_iff.1 hu
      obtain ⟨j, hj, rfl⟩ := List.getElem_of_mem hy
      exact h2 j _ (by omega) (List.getElem?_eq_getElem hj) e
    rw [this]

theorem c_Ceiling_1 {H : LH} {b i : Nat} {q : Int} {y : HoldD} (h : hAt H b i (.int .i64 q)) : Call prog f_blocking_Ceiling_1 [.agg #[.int .i64 y.res, .int .i64 y.len], .pointer (some ⟨b, i, none⟩)] H (fun v H' => v = .bool (decide (y.res = q)) ∧ Kp [] H H') := by
  refine F_blocking_Ceiling_1_call _ _ _ _ ?_
  exact ⟨q, h, rfl, Kp.refl⟩

theorem c_IndexFunc_holds {H : LH} {p : Option Addr} {n c : Nat} {xs : List HoldD} {b : Nat} {q : Int} (h : Ls RHold 2 H p n c xs) (hb : Blk H b 1 [.int .i64 q]) :
    Call prog f_slices_IndexFunc_api_Hold_api_Hold [.slice p n c, .func (.func f_blocking_Ceiling_1) #[] #[.pointer (some ⟨b, 0, none⟩)]] H
      (fun v H' => ∃ i : Int, v = .int .i64 i ∧ Kp [] H H' ∧ (0 ≤ i ↔ ∃ y ∈ xs, y.res = q)) := by
  refine F_slices_IndexFunc_api_Hold_api_Hold_call _ _ _ _ ?_
  unfold F_slices_IndexFunc_api_Hold_api_Hold
  have bb := h.bound
  have ll := h.len
  refine ⟨h.nil, fun i H' => 0 ≤ i ∧ i ≤ n ∧ (∀ (j : Nat) y, j < i.toNat → xs[j]? = some y → y.res ≠ q) ∧ Kp [] H H', fun i _ => (n - i).toNat, ⟨by omega, by omega, fun j y hj => by omega, Kp.refl⟩, ?_⟩
  rintro i H4 ⟨h0, h1, h2, k4⟩
  refine ⟨fun g => ?_, fun g => ⟨_, rfl, k4, ?_⟩⟩
  · have g : i < n := by simpa using g
    obtain ⟨b', k, r, y, rfl, hy, rfl, -, hat⟩ := (h.kp0 k4).at h0 g
    refine ⟨b', k, rfl, h0, g, _, hat 0 _ rfl, _, hat 1 _ rfl, f_blocking_Ceiling_1, [], [.pointer (some ⟨b, 0, none⟩)], rfl, by kernel_rfl, XCall.by (c_Ceiling_1 (q := q) ((hb.kp k4 (by simp)).at rfl)) ?_⟩
    rintro _ H12 ⟨rfl, k12⟩
    refine ⟨_, rfl, fun g2 => ⟨_, rfl, k4.trans k12, ?_⟩, fun g2 => ?_⟩
    · have g2 : y.res = q := by simpa using g2
      exact ⟨fun _ => ⟨y, List.mem_of_getElem? hy, g2⟩, fun _ => h0⟩
    · have g2 : y.res ≠ q := by simpa using g2
      rw [wrap_id (x := i + 1) (by omega)]
      refine ⟨⟨by omega, by omega, fun j z hj hz => ?_, k4.trans k12⟩, by show (n - (i + 1)).toNat < (n - i).toNat; omega⟩
      by_cases e : j < i.toNat
      · exact h2 j z e hz
      · rw [show j = i.toNat by omega, hy] at hz; cases hz; exact g2
  · have g : n ≤ i := by simpa using g
    constructor
    · intro hh; omega
    · rintro ⟨y, hy, e⟩
      obtain ⟨j, hj, rfl⟩ := List.getElem_of_mem hy
      exact absurd e (h2 j _ (by omega) (List.getElem?_eq_getElem hj))

theorem c_ContainsFunc_holds {H : LH} {p : Option Addr} {n c : Nat} {x : JobD} {b : Nat} {q : Int} (h : Ls RHold 2 H p n c x.holds) (hb : Blk H b 1 [.int .i64 q]) :
    Call prog f_slices_ContainsFunc_api_Hold_api_Hold [.slice p n c, .func (.func f_blocking_Ceiling_1) #[] #[.pointer (some ⟨b, 0, none⟩)]] H (fun v H' => v = .bool (usesB x q) ∧ Kp [] H H') := by
  refine F_slices_ContainsFunc_api_Hold_api_Hold_call _ _ _ _ ?_
  unfold F_slices_ContainsFunc_api_Hold_api_Hold
  refine XCall.by (c_IndexFunc_holds h hb) ?_
  rintro _ H2 ⟨i, rfl, hk, hi⟩
  refine ⟨_, rfl, ?_, hk⟩
  rw [Value.bool.injEq, Bool.eq_iff_iff, usesB_iff, ← hi]
  simp

def jobAt (l : List JobD) (k : Nat) (q : Int) : Bool := match l[k]? with | some j => usesB j q | none => false
/-- The first job that is before all others that use a resource. -/
def ceilF (l : List JobD) (q : Int) : Nat → Int × Bool
  | 0 => (0, false)
  | k + 1 => if jobAt l k q = true ∧ ((ceilF l q k).2 = false ∨ beforeB l k (ceilF l q k).1 = true) then (k, true) else ceilF l q k

variable {H : LH} {p : Option Addr} {n c : Nat} {l : List JobD}

theorem c_blocking_Ceiling {q : Int} (h : JobsAt H p n c l) : Call prog f_blocking_Ceiling [.slice p n c, .int .i64 q] H (fun v H' => v = .tuple #[.int .i64 (ceilF l q n).1, .bool (ceilF l q n).2] ∧ Kp [] H H') := by
  refine F_blocking_Ceiling_call _ _ _ _ ?_
  unfold F_blocking_Ceiling
  have bb := h.bound
  rintro H1 hH1
  have k1 : Kp [] H H1 := by rw [hH1]; exact Kp.refl.new _
  have b1 : Blk H1 H.next 1 [.int .i64 q] := by rw [hH1]; exact Blk.new _ _ _
  clear hH1
  refine ⟨h.nil, fun x b k H' => 0 ≤ k ∧ k ≤ n ∧ (x, b) = ceilF l q k.toNat ∧ Kp [] H1 H', fun x b k _ => (n - k).toNat, ⟨by omega, by omega, rfl, Kp.refl⟩, ?_⟩
  rintro x b k H7 ⟨h0, h1, hx, k7⟩
  have k17 := k1.trans k7
  have e : (k + 1).toNat = k.toNat + 1 := by omega
  have e2 : ((k.toNat : Nat) : Int) = k := by omega
  refine ⟨fun g => ?_, fun g => ⟨?_, k17⟩⟩
  · have g : k < n := by simpa using g
    obtain ⟨b', i, r, y, rfl, hy, ⟨p1, n1, c1, rfl, hh, -⟩, -, hat⟩ := (h.kp0 k17).at h0 g
    refine ⟨b', i, rfl, h0, g, _, hat 0 _ rfl, _, hat 1 _ rfl, _, hat 2 _ rfl, _, hat 3 _ rfl, _, hat 4 _ rfl, _, _, _, hat 5 _ rfl, _, hat 6 _ rfl, XCall.by (c_ContainsFunc_holds (x := y) hh (b1.kp k7 (by simp))) ?_⟩
    rintro _ H20 ⟨rfl, k20⟩
    have hj : jobAt l k.toNat q = usesB y q := by unfold jobAt; rw [hy]
    rw [wrap_id (x := k + 1) (by omega)]
    have hm : (n - (k + 1)).toNat < (n - k).toNat := by omega
    refine ⟨_, rfl, fun g2 => ⟨fun g3 => ⟨⟨by omega, by omega, ?_, k7.trans k20⟩, hm⟩, fun g3 => XCall.by (c_blocking_Before ((h.kp0 k17).kp0 k20)) ?_⟩, fun g2 => ⟨⟨by omega, by omega, ?_, k7.trans k20⟩, hm⟩⟩
    · have g3 : b = false := by simpa using g3
      rw [e, ceilF, ← hx, if_pos ⟨by rw [hj]; exact g2, .inl g3⟩, e2]
    · have g3 : b = true := by simpa using g3
      rintro _ H23 ⟨rfl, k23⟩
      refine ⟨_, rfl, fun g4 => ⟨⟨by omega, by omega, ?_, (k7.trans k20).trans k23⟩, hm⟩, fun g4 => ⟨⟨by omega, by omega, ?_, (k7.trans k20).trans k23⟩, hm⟩⟩
      · rw [e, ceilF, ← hx, if_pos ⟨by rw [hj]; exact g2, .inr (by rw [e2]; exact g4)⟩, e2]
      · rw [e, ceilF, ← hx, if_neg]
        rintro ⟨-, hh | hh⟩
        · rw [g3] at hh; cases hh
        · rw [e2, g4] at hh; cases hh
    · rw [e, ceilF, ← hx, if_neg]
      rintro ⟨hh, -⟩
      rw [hj, g2] at hh; cases hh
  · have g : n ≤ k := by simpa using g
    rw [show k.toNat = n by omega] at hx
    rw [← hx]

theorem c_ref40_Ceiling {q : Int} (h : JobsAt H p n c l) : Call prog f_ref40_Ceiling [.slice p n c, .int .i64 q] H (fun v H' => v = .tuple #[.int .i64 (ceilF l q n).1, .bool (ceilF l q n).2] ∧ Kp [] H H') := by
  refine F_ref40_Ceiling_call _ _ _ _ ?_
  unfold F_ref40_Ceiling
  have bb := h.bound
  refine ⟨h.nil, fun x b k H' => 0 ≤ k ∧ k ≤ n ∧ (x, b) = ceilF l q k.toNat ∧ Kp [] H H', fun x b k _ => (n - k).toNat, ⟨by omega, by omega, rfl, Kp.refl⟩, ?_⟩
  rintro x b k H7 ⟨h0, h1, hx, k7⟩
  have e : (k + 1).toNat = k.toNat + 1 := by omega
  have e2 : ((k.toNat : Nat) : Int) = k := by omega
  refine ⟨fun g => ?_, fun g => ⟨?_, k7⟩⟩
  · have g : k < n := by simpa using g
    obtain ⟨b', i, r, y, rfl, hy, ⟨p1, n1, c1, rfl, hh, -⟩, -, hat⟩ := (h.kp0 k7).at h0 g
    refine ⟨b', i, rfl, h0, g, _, hat 0 _ rfl, _, hat 1 _ rfl, _, hat 2 _ rfl, _, hat 3 _ rfl, _, hat 4 _ rfl, _, _, _, hat 5 _ rfl, _, hat 6 _ rfl, XCall.by (c_ref40_uses hh) ?_⟩
    rintro _ H20 ⟨rfl, k20⟩
    have hj : jobAt l k.toNat q = usesB y q := by unfold jobAt; rw [hy]
    rw [wrap_id (x := k + 1) (by omega)]
    have hm : (n - (k + 1)).toNat < (n - k).toNat := by omega
    refine ⟨_, rfl, fun g2 => ⟨fun g3 => ⟨⟨by omega, by omega, ?_, k7.trans k20⟩, hm⟩, fun g3 => XCall.by (c_ref40_Before ((h.kp0 k7).kp0 k20)) ?_⟩, fun g2 => ⟨⟨by omega, by omega, ?_, k7.trans k20⟩, hm⟩⟩
    · have g3 : b = false := by simpa using g3
      rw [e, ceilF, ← hx, if_pos ⟨by rw [hj]; exact g2, .inl g3⟩, e2]
    · have g3 : b = true := by simpa using g3
      rintro _ H23 ⟨rfl, k23⟩
      refine ⟨_, rfl, fun g4 => ⟨⟨by omega, by omega, ?_, (k7.trans k20).trans k23⟩, hm⟩, fun g4 => ⟨⟨by omega, by omega, ?_, (k7.trans k20).trans k23⟩, hm⟩⟩
      · rw [e, ceilF, ← hx, if_pos ⟨by rw [hj]; exact g2, .inr (by rw [e2]; exact g4)⟩, e2]
      · rw [e, ceilF, ← hx, if_neg]
        rintro ⟨-, hh | hh⟩
        · rw [g3] at hh; cases hh
        · rw [e2, g4] at hh; cases hh
    · rw [e, ceilF, ← hx, if_neg]
      rintro ⟨hh, -⟩
      rw [hj, g2] at hh; cases hh
  · have g : n ≤ k := by simpa using g
    rw [show k.toNat = n by omega] at hx
    rw [← hx]

/-- How urgent a job is. -/
def urgF (l : List JobD) (i : Int) (held : List Bool) : Nat → Int
  | 0 => rankF l i l.length
  | k + 1 => if held[k]? = some true ∧ (ceilF l k l.length).2 = true ∧ rankF l (ceilF l k l.length).1 l.length < urgF l i held k then rankF l (ceilF l k l.length).1 l.length else urgF l i held k

theorem c_system_Urgency {i : Int} {q : Option Addr} {m d : Nat} {held : List Bool} (h : JobsAt H p n c l) (hb : Bools H q m d held) :
    Call prog f_system_Urgency [.slice p n c, .int .i64 i, .slice q m d] H (fun v H' => v = .int .i64 (urgF l i held m) ∧ Kp [] H H') := by
  refine F_system_Urgency_call _ _ _ _ _ _ _ ?_
  unfold F_system_Urgency
  have bb := hb.bound
  have ll := h.len
  refine XCall.by (c_system_rank h) ?_
  rintro _ H2 ⟨rfl, k2⟩
  refine ⟨_, rfl, hb.nil, fun x k H' => 0 ≤ k ∧ k ≤ m ∧ x = urgF l i held k.toNat ∧ Kp [] H H', fun x k _ => (m - k).toNat, ⟨by omega, by omega, by rw [← ll]; rfl, k2⟩, ?_⟩
  rintro x k H8 ⟨h0, h1, rfl, k8⟩
  have e : (k + 1).toNat = k.toNat + 1 := by omega
  have e2 : ((k.toNat : Nat) : Int) = k := by omega
  refine ⟨fun g => ?_, fun g => ⟨?_, k8⟩⟩
  · have g : k < m := by simpa using g
    obtain ⟨b', j, r, y, rfl, hy, rfl, -, hat⟩ := (hb.kp0 k8).at h0 g
    refine ⟨b', j, rfl, h0, g, _, hat 0 _ rfl, XCall.by (c_blocking_Ceiling (q := k) (h.kp0 k8)) ?_⟩
    rintro _ H13 ⟨rfl, k13⟩
    rw [wrap_id (x := k + 1) (by omega)]
    have hm : (m - (k + 1)).toNat < (m - k).toNat := by omega
    have k813 := k8.trans k13
    refine ⟨_, _, rfl, fun g2 => ⟨fun g3 => XCall.by (c_system_rank (h.kp0 k813)) ?_, fun g3 => ⟨⟨by omega, by omega, ?_, k813⟩, hm⟩⟩, fun g2 => ⟨⟨by omega, by omega, ?_, k813⟩, hm⟩⟩
    · rintro _ H17 ⟨rfl, k17⟩
      refine ⟨_, rfl, ⟨by omega, by omega, ?_, k813.trans k17⟩, hm⟩
      rw [e, urgF, e2, ll]
      by_cases hlt : rankF l (ceilF l k n).1 n < urgF l i held k.toNat
      · rw [if_pos hlt, if_pos ⟨by rw [hy, g2], g3, hlt⟩]
      · rw [if_neg hlt, if_neg (fun hh => hlt hh.2.2)]
    · rw [e, urgF, e2, ll, if_neg (fun hh => by rw [g3] at hh; cases hh.2.1)]
    · rw [e, urgF, e2, ll, if_neg (fun hh => by rw [hy, g2] at hh; cases hh.1)]
  · have g : m ≤ k := by simpa using g
    rw [show k.toNat = m by omega]

theorem c_ref43_Urgency {i : Int} {q : Option Addr} {m d : Nat} {held : List Bool} (h : JobsAt H p n c l) (hb : Bools H q m d held) :
    Call prog f_ref43_Urgency [.slice p n c, .int .i64 i, .slice q m d] H (fun v H' => v = .int .i64 (urgF l i held m) ∧ Kp [] H H') := by
  refine F_ref43_Urgency_call _ _ _ _ _ _ _ ?_
  unfold F_ref43_Urgency
  have bb := hb.bound
  have ll := h.len
  refine XCall.by (c_ref43_rank h) ?_
  rintro _ H2 ⟨rfl, k2⟩
  refine ⟨_, rfl, hb.nil, fun x k H' => 0 ≤ k ∧ k ≤ m ∧ x = urgF l i held k.toNat ∧ Kp [] H H', fun x k _ => (m - k).toNat, ⟨by omega, by omega, by rw [← ll]; rfl, k2⟩, ?_⟩
  rintro x k H8 ⟨h0, h1, rfl, k8⟩
  have e : (k + 1).toNat = k.toNat + 1 := by omega
  have e2 : ((k.toNat : Nat) : Int) = k := by omega
  refine ⟨fun g => ?_, fun g => ⟨?_, k8⟩⟩
  · have g : k < m := by simpa using g
    obtain ⟨b', j, r, y, rfl, hy, rfl, -, hat⟩ := (hb.kp0 k8).at h0 g
    refine ⟨b', j, rfl, h0, g, _, hat 0 _ rfl, XCall.by (c_ref40_Ceiling (q := k) (h.kp0 k8)) ?_⟩
    rintro _ H13 ⟨rfl, k13⟩
    rw [wrap_id (x := k + 1) (by omega)]
    have hm : (m - (k + 1)).toNat < (m - k).toNat := by omega
    have k813 := k8.trans k13
    refine ⟨_, _, rfl, fun g3 => ⟨fun g2 => XCall.by (c_ref43_rank (h.kp0 k813)) ?_, fun g2 => ⟨⟨by omega, by omega, ?_, k813⟩, hm⟩⟩, fun g3 => ⟨⟨by omega, by omega, ?_, k813⟩, hm⟩⟩
    · rintro _ H17 ⟨rfl, k17⟩
      refine ⟨_, rfl, ⟨by omega, by omega, ?_, k813.trans k17⟩, hm⟩
      rw [e, urgF, e2, ll]
      by_cases hlt : rankF l (ceilF l k n).1 n < urgF l i held k.toNat
      · rw [if_pos hlt, if_pos ⟨by rw [hy, g2], g3, hlt⟩]
      · rw [if_neg hlt, if_neg (fun hh => hlt hh.2.2)]
    · rw [e, urgF, e2, ll, if_neg (fun hh => by rw [hy, g2] at hh; cases hh.1)]
    · rw [e, urgF, e2, ll, if_neg (fun hh => by rw [g3] at hh; cases hh.2.1)]
  · have g : m ≤ k := by simpa using g
    rw [show k.toNat = m by omega]

end Go.Lg
