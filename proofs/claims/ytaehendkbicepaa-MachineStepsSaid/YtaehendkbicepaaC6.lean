/- Straight images are found right by the reference. No condition. -/
import Derived.Test.YtaehendkbicepaaC5
set_option linter.unusedVariables false
namespace Go.Lg
open Go

theorem c_ref20_in {H : LH} {x n : Int} (h0 : 0 ≤ x) (h1 : x < n) : Call prog f_ref20_in [.int .i64 x, .int .i64 n] H (fun v H' => v = .bool true ∧ Kp [] H H') := by
  refine F_ref20_in_call _ _ ⟨fun h => ⟨by simp [h1], Kp.refl⟩, fun h => ?_⟩
  have : ¬ 0 ≤ x := by simpa using h
  omega

theorem c_ref20_all {H : LH} {p : Option Addr} {n c : Nat} {xs : List Int} {m : Int} (hx : Ints H p n c xs) (h : ∀ x ∈ xs, 0 ≤ x ∧ x < m) :
    Call prog f_ref20_all [.slice p n c, .int .i64 m] H (fun v H' => v = .bool true ∧ Kp [] H H') := by
  refine F_ref20_all_call _ _ _ _ ?_
  unfold F_ref20_all
  have lx := hx.len
  have bx := hx.bound
  refine ⟨fun i H' => 0 ≤ i ∧ i ≤ n ∧ Kp [] H H', fun i _ => (n - i).toNat, ⟨by omega, by omega, Kp.refl⟩, ?_⟩
  rintro i H4 ⟨h0, h1, hk⟩
  refine ⟨hx.nil, fun hlt => ?_, fun hge => ⟨rfl, hk⟩⟩
  have hlt : i < n := by simpa using hlt
  obtain ⟨b, k, r, x, rfl, ht, rfl, -, hat⟩ := (hx.kp0 hk).at h0 hlt
  have := h x (List.mem_of_getElem? ht)
  refine ⟨b, k, rfl, h0, hlt, x, hat 0 _ rfl, XCall.by (c_ref20_in this.1 this.2) ?_⟩
  rintro _ H12 ⟨rfl, hk12⟩
  rw [wrap_id (x := i + 1) (by omega)]
  exact ⟨_, rfl, fun g => by simp at g, fun _ => ⟨⟨by omega, by omega, hk.trans hk12⟩, by show (n - (i + 1)).toNat < (n - i).toNat; omega⟩⟩

theorem c_ref20_at {H : LH} {q : Option Addr} {m d : Nat} {nodes : List NodeD} {code : List InstrD} (hs : Straight code nodes) (hn : Ls (RNode (fun _ => True) H) 4 H q m d nodes) {x : Int} (h0 : 0 ≤ x) (h1 : x < m)
    (nm : ByteArray) (a2 : Option Addr) (b2 c2 : Nat) (a3 : Option Addr) (b3 c3 : Nat) (a4 : Option Addr) (b4 c4 : Nat) (a5 : Option Addr) (b5 c5 : Nat)
    (a6 : Option Addr) (b6 c6 : Nat) (a7 : Option Addr) (b7 c7 : Nat) (a8 : Option Addr) (b8 c8 : Nat) (a9 : Option Addr) (b9 c9 : Nat) :
    Call prog f_ref20_at [.agg #[.string nm, .slice q m d, .slice a2 b2 c2, .slice a3 b3 c3, .slice a4 b4 c4, .slice a5 b5 c5, .slice a6 b6 c6, .slice a7 b7 c7, .slice a8 b8 c8, .slice a9 b9 c9], .int .i64 x] H
      (fun v H' => v = .int .i64 x ∧ Kp [] H H') := by
  refine F_ref20_at_call _ _ _ _ _ _ _ _ _ _ _ _ _ _ _ _ _ _ _ _ _ _ _ _ _ _ _ _ _ ?_
  unfold F_ref20_at
  have ln := hn.len
  have bn := hn.bound
  refine ⟨fun i H' => 0 ≤ i ∧ i ≤ x ∧ Kp [] H H', fun i _ => (m - i).toNat, ⟨by omega, by omega, Kp.refl⟩, ?_⟩
  rintro i H4 ⟨i0, i1, hk⟩
  refine ⟨hn.nil, fun hlt => ?_, fun hge => ?_⟩
  · obtain ⟨b2, k, r, y, rfl, hy, hr, -, hat⟩ := (nodes_kp hn hk).at i0 (by omega)
    obtain ⟨p1, n1, c1, q1, m1, d1, rfl, -⟩ := hr
    have hf := hs.firsts hy
    refine ⟨b2, k, rfl, i0, by omega, _, hat 0 _ rfl, fun g => ?_, fun g => ?_⟩
    · have g : y.first = x := by simpa using g
      exact ⟨by congr 1; omega, hk⟩
    · have g : y.first ≠ x := by simpa using g
      rw [wrap_id (x := i + 1) (by omega)]
      exact ⟨⟨by omega, by omega, hk⟩, by show (m - (i + 1)).toNat < (m - i).toNat; omega⟩
  · have hge : m ≤ i := by simpa using hge
    omega

theorem c_ref20_node {H : LH} {p : Option Addr} {n c : Nat} {q : Option Addr} {m d : Nat} {code : List InstrD} {nodes : List NodeD} (hs : StrAt H p n c q m d code nodes) {i : Int} (hi0 : 0 ≤ i) (hi1 : i < m)
    (q2 : Option Addr) (m2 d2 : Nat) (q3 : Option Addr) (m3 d3 : Nat) (nm : ByteArray) (a2 : Option Addr) (b2 c2 : Nat) (a3 : Option Addr) (b3 c3 : Nat) (a4 : Option Addr) (b4 c4 : Nat) (a5 : Option Addr) (b5 c5 : Nat)
    (a6 : Option Addr) (b6 c6 : Nat) (a7 : Option Addr) (b7 c7 : Nat) (a8 : Option Addr) (b8 c8 : Nat) (a9 : Option Addr) (b9 c9 : Nat) :
    Call prog f_ref20_node [.agg #[.slice p n c, .int .i64 6, .slice q2 m2 d2, .slice q3 m3 d3], .agg #[.string nm, .slice q m d, .slice a2 b2 c2, .slice a3 b3 c3, .slice a4 b4 c4, .slice a5 b5 c5, .slice a6 b6 c6, .slice a7 b7 c7, .slice a8 b8 c8, .slice a9 b9 c9], .int .i64 i] H
      (fun v H' => v = .bool true ∧ Kp [] H H') := by
  obtain ⟨str, hc, hn⟩ := hs
  refine F_ref20_node_call _ _ _ _ _ _ _ _ _ _ _ _ _ _ _ _ _ _ _ _ _ _ _ _ _ _ _ _ _ _ _ _ _ _ _ _ _ _ _ ?_
  unfold F_ref20_node
  have ln := hn.len
  have lc := hc.len
  have bc := hc.bound
  have lcn := str.len
  have hhi := str.hi
  obtain ⟨x, y, hx, hy, fit⟩ := str.at (i := i.toNat) (by omega)
  have ei : ((i.toNat : Nat) : Int) = i := by omega
  rw [ei] at fit
  obtain ⟨b, k, r, t, rfl, ht, hr, -, hat⟩ := hn.at hi0 hi1
  rw [hy] at ht; cases ht
  obtain ⟨p1, n1, c1, q1, m1, d1, rfl, hnx, hac, -⟩ := hr
  have e1 := fit.first
  have e2 := fit.count
  have ea := fit.acc
  refine ⟨b, k, rfl, hi0, hi1, _, hat 0 _ rfl, _, hat 1 _ rfl, _, _, _, hat 2 _ rfl, _, _, _, hat 3 _ rfl, ?_⟩
  rw [e1, e2, wrap_id (x := i + 1) (by omega), wrap_id (x := i + 1 - 1) (by omega), show i + 1 - 1 = i by omega]
  -- what is wanted: the loads and stores
  refine ⟨fun u v e j H' => ((j = i ∧ u = none ∧ v = 0 ∧ e = 0) ∨ (j = i + 1 ∧ Ls (fun r z => r = [.int .i64 i, .int .i64 0, .int .i64 0]) 3 H' u v e y.acc ∧ ∀ a, u = some a → H.next ≤ a.block)) ∧ Kp [] H H', fun _ _ _ j _ => (i + 1 - j).toNat, ⟨.inl ⟨rfl, rfl, rfl, rfl⟩, Kp.refl⟩, ?_⟩
  rintro u v e j H17 ⟨hj, hk⟩
  refine ⟨fun hlt => ?_, fun hge => ?_⟩
  · have hlt : j < i + 1 := by simpa using hlt
    rcases hj with ⟨rfl, rfl, rfl, rfl⟩ | ⟨rfl, -⟩
    rotate_left
    · omega
    obtain ⟨b4, k4, r4, t4, rfl, ht4, rfl, -, hat4⟩ := (hc.kp0 hk).at (x := j) hi0 (by omega)
    rw [hx] at ht4; cases ht4
    refine ⟨b4, k4, rfl, hi0, by omega, _, hat4 0 _ rfl, _, hat4 1 _ rfl, _, hat4 2 _ rfl, _, hat4 3 _ rfl, _, hat4 4 _ rfl, _, hat4 5 _ rfl, ?_⟩
    rw [wrap_id (x := j + 1) (by omega)]
    intro K26 hK26
    have ms : (j + 1 - (j + 1)).toNat < (j + 1 - j).toNat := by omega
    have key : ∀ t : Bool, (t = true ↔ x.ins = 4 ∨ x.ins = 5) → K26 t H17 := by
      intro t ht
      refine hK26 _ _ ⟨fun g => ?_, fun g => ?_⟩
      · have g := ht.1 g
        rw [if_pos g] at ea
        rintro _ rfl
        obtain ⟨H33, g1, g2, -, g4, g5⟩ := (Ls.nilList (R := fun (r : List Value) (z : AccD) => r = [.int .i64 j, .int .i64 0, .int .i64 0]) (s := 3) (H := H17)).append1 (by_ := 24) (row := [.int .i64 j, .int .i64 0, .int .i64 0]) (x := (⟨j, 0, 5⟩ : AccD)) (fun a ha => by cases ha) rfl rfl (by omega) (by omega) (fun a ha => by cases ha)
        refine ⟨_, _, _, H33, g1, ⟨.inr ⟨rfl, by rw [ea]; exact g2, fun a ha => by cases ha; show H.next ≤ H17.next + 1; have := hk.next; omega⟩, hk.trans g5⟩, ms⟩
      · have g0 : ¬ (x.ins = 4 ∨ x.ins = 5) := fun hh => by have := ht.2 hh; rw [g] at this; cases this
        rw [if_neg g0] at ea
        have nx : ((j + 1 = j ∧ (none : Option Addr) = none ∧ 0 = 0 ∧ 0 = 0) ∨ (j + 1 = j + 1 ∧ Ls (fun (r : List Value) (z : AccD) => r = [.int .i64 j, .int .i64 0, .int .i64 0]) 3 H17 none 0 0 y.acc ∧ ∀ a, (none : Option Addr) = some a → H.next ≤ a.block)) ∧ Kp [] H H17 :=
          ⟨.inr ⟨rfl, by rw [ea]; exact Ls.nilList, fun a ha => by cases ha⟩, hk⟩
        intro K34 hK34
        have key2 : ∀ u : Bool, K34 u H17 := fun u => hK34 _ _ ⟨fun _ => ⟨fun hh => by simp at hh, fun _ => ⟨nx, ms⟩⟩, fun _ => ⟨nx, ms⟩⟩
        exact ⟨fun _ => key2 _, fun _ => ⟨fun _ => key2 _, fun _ => key2 _⟩⟩
    refine ⟨fun h => key _ ?_, fun h => key _ ?_⟩
    · have : x.ins = 4 := by simpa using h
      simp [this]
    · have : x.ins ≠ 4 := by simpa using h
      simp [this]
  have hge : i + 1 ≤ j := by simpa using hge
  rcases hj with ⟨rfl, -⟩ | ⟨rfl, hw, huge⟩
  · omega
  have lw := hw.len
  have la := hac.len
  have hac17 := hac.kp0 hk
  refine ⟨hw.nil, hac.nil, fun hh => ?_, fun _ => ⟨fun j H' => 0 ≤ j ∧ j ≤ v ∧ Kp [] H17 H', fun j _ => (v - j).toNat, ⟨by omega, by omega, Kp.refl⟩, ?_⟩⟩
  · have : ¬ (v : Int) = m1 := by simpa using hh
    omega
  rintro j H42 ⟨j0, j1, hk42⟩
  refine ⟨hw.nil, fun hlt => ?_, fun hge => ?_⟩
  · have hlt : j < v := by simpa using hlt
    have hkk := hk.trans hk42
    obtain ⟨b5, k5, r5, t5, hq1, ht5, rfl, -, hat5⟩ := (hac.kp0 hkk).at (x := j) j0 (by omega)
    have h45 : x.ins = 4 ∨ x.ins = 5 := by
      apply Classical.byContradiction
      intro hne
      rw [if_neg hne] at ea
      rw [ea] at lw; simp at lw; omega
    rw [if_pos h45] at ea
    have ht5' : t5 = ⟨i, 0, 5⟩ := by
      have := List.mem_of_getElem? ht5
      rw [ea] at this; simpa using this
    subst ht5'
    refine ⟨b5, k5, hq1, j0, by omega, _, hat5 0 _ rfl, _, hat5 1 _ rfl, _, hat5 2 _ rfl, ?_⟩
    rintro _ rfl
    have hb := hac.bound
    obtain ⟨b6, k6, r6, t6, rfl, ht6, rfl, -, hat6⟩ := (hw.kp0 (hk42.keep 27)).at (x := j) j0 (by omega)
    rw [wrap_id (x := j + 1) (by omega)]
    exact ⟨b6, k6, rfl, j0, by omega, _, hat6 0 _ rfl, fun hh => by simp at hh, fun _ => ⟨fun hh => by simp at hh, fun _ => ⟨fun hh => by simp at hh, fun _ => ⟨fun hh => by simp at hh, fun _ => ⟨⟨by omega, by omega, hk42.keep _⟩, by show (v - (j + 1)).toNat < (v - j).toNat; omega⟩⟩⟩⟩⟩
  -- where it leads
  have hkk := hk.trans hk42
  rintro _ rfl
  have hk52 := hkk.new (.cells [.int .i64 (i + 1)] 1 false)
  obtain ⟨b4, k4, r4, t4, rfl, ht4, rfl, -, hat4⟩ := (hc.kp0 hk52).at (x := i) hi0 (by omega)
  rw [hx] at ht4; cases ht4
  refine ⟨b4, k4, rfl, hi0, by omega, _, hat4 0 _ rfl, _, hat4 1 _ rfl, _, hat4 2 _ rfl, _, hat4 3 _ rfl, _, hat4 4 _ rfl, _, hat4 5 _ rfl, ?_⟩
  have enx := fit.next
  have el := fit.last
  have e6 := fit.imm6
  have e7 := fit.imm7
  intro K61 hK61
  have fin : ∀ (w : Option Addr) (f g : Nat) (H65 : LH), Ints H65 w f g y.next → Kp [] H H65 → K61 w f g H65 := by
    intro w f g H65 hi65 hk65
    refine hK61 _ _ _ _ (XCall.by (c_SameInts (hnx.kp0 hk65) hi65) ?_)
    rintro _ H67 ⟨b68, rfl, hb, hk67⟩
    have hb := hb.2 rfl
    subst hb
    refine ⟨_, rfl, fun _ => ⟨hn.nil, XCall.by (c_ref20_all (hi65.kp0 hk67) ?_) ?_⟩, fun hh => by cases hh⟩
    · intro z hz
      rw [enx] at hz
      split at hz
      · simp at hz
      · rename_i h10
        have : ¬ i = (code.length : Int) - 1 := fun hh => h10 (el.2 hh)
        split at hz
        · simp at hz; omega
        · split at hz
          · rename_i h7
            have := e7 h7
            simp at hz; omega
          · simp at hz; omega
    · rintro _ H70 ⟨rfl, hk70⟩
      exact ⟨_, rfl, rfl, (hk65.trans hk67).trans hk70⟩
  have hb52 : Blk (H42.new (.cells [.int .i64 (i + 1)] 1 false)) H42.next 1 [.int .i64 (i + 1)] := Blk.new _ _ _
  refine ⟨fun g => ?_, fun g1 => ⟨fun g => ?_, fun g2 => ⟨fun g => ?_, fun g3 => ?_⟩⟩⟩
  · have g : x.ins = 10 := by simpa using g
    rw [if_pos g] at enx
    exact fin _ _ _ _ (by rw [enx]; exact Ls.nilList) hk52
  · have g : x.ins = 6 := by simpa using g
    rw [if_neg (by omega), if_pos g] at enx
    have := e6 g
    refine XCall.by (c_ref20_at str (nodes_kp hn hk52) (by omega) (by omega) _ _ _ _ _ _ _ _ _ _ _ _ _ _ _ _ _ _ _ _ _ _ _ _ _) ?_
    rintro _ H74 ⟨rfl, hk74⟩
    refine ⟨_, rfl, ?_⟩
    rintro _ rfl
    refine fin _ _ _ _ ?_ ((hk52.trans hk74).new _)
    rw [enx, ← this]
    exact Ls.one (R := Ri) (Blk.new _ _ _) rfl rfl 1
  · have g : x.ins = 7 := by simpa using g
    have g1 : x.ins ≠ 10 := by simpa using g1
    rw [if_neg g1, if_neg (by omega), if_pos g] at enx
    have := e7 g
    refine XCall.by (c_ref20_at str (nodes_kp hn hk52) (by omega) (by omega) _ _ _ _ _ _ _ _ _ _ _ _ _ _ _ _ _ _ _ _ _ _ _ _ _) ?_
    rintro _ H78 ⟨rfl, hk78⟩
    refine ⟨_, rfl, ?_⟩
    rintro _ rfl
    have hone : Ints H78 (some ⟨H42.next, 0, none⟩) 1 1 [i + 1] := Ls.one (R := Ri) (hb52.kp hk78 (by simp)) rfl rfl 1
    obtain ⟨H84, g1, g2, -, g4, g5⟩ := hone.append1 (by_ := 8) (row := [.int .i64 x.imm]) (x := x.imm) (fun a ha hne => absurd rfl hne) rfl rfl (by omega) (by omega) (fun a ha => by cases ha; have := hk78.next; show H42.next < _; have h1 : (H42.new (.cells [.int .i64 (i + 1)] 1 false)).next = H42.next + 1 := rfl; omega)
    refine ⟨_, _, _, H84, g1, fin _ _ _ _ (by rw [enx]; exact g2) ?_⟩
    refine (hkk.trans ((Kp.refl.new _).trans hk78)).drop g5 (fun b hb => ?_)
    simp [blkOf] at hb
    have := hkk.next; omega
  · have g1 : x.ins ≠ 10 := by simpa using g1
    have g2 : x.ins ≠ 6 := by simpa using g2
    have g3 : x.ins ≠ 7 := by simpa using g3
    rw [if_neg g1, if_neg g2, if_neg g3] at enx
    refine fin _ _ _ _ ?_ hk52
    rw [enx]
    exact Ls.one (R := Ri) hb52 rfl rfl 1

theorem c_ref20_unit {H : LH} {q : Option Addr} {m d : Nat} (hq : q = none → m = 0 ∧ d = 0) (nm : ByteArray) (a6 : Option Addr) (b6 c6 : Nat) (a7 : Option Addr) (b7 c7 : Nat) (a8 : Option Addr) (b8 c8 : Nat) (a9 : Option Addr) (b9 c9 : Nat) :
    Call prog f_ref20_unit [.agg #[.string nm, .slice q m d, .slice none 0 0, .slice none 0 0, .slice none 0 0, .slice none 0 0, .slice a6 b6 c6, .slice a7 b7 c7, .slice a8 b8 c8, .slice a9 b9 c9]] H
      (fun v H' => v = .bool true ∧ Kp [] H H') := by
  refine F_ref20_unit_call _ _ _ _ _ _ _ _ _ _ _ _ _ _ _ _ _ _ _ _ _ _ _ _ _ _ _ _ ?_
  unfold F_ref20_unit
  have zero : ∀ {x : Int}, 0 ≤ x → ¬ decide (x < ((0 : Nat) : Int)) = true := fun h => by simp; omega
  have nl : (none : Option Addr) = none → 0 = 0 ∧ 0 = 0 := fun _ => ⟨rfl, rfl⟩
  refine ⟨hq, fun x H' => 0 ≤ x ∧ Kp [] H H', fun _ _ => 0, ⟨by omega, Kp.refl⟩, ?_⟩
  rintro x H12 ⟨hx, hk12⟩
  refine ⟨nl, fun hh => absurd hh (zero hx), fun _ => ⟨fun x H' => 0 ≤ x ∧ Kp [] H H', fun _ _ => 0, ⟨by omega, hk12⟩, ?_⟩⟩
  rintro x H26 ⟨hx, hk26⟩
  refine ⟨nl, fun hh => absurd hh (zero hx), fun _ => ⟨fun x H' => 0 ≤ x ∧ Kp [] H H', fun _ _ => 0, ⟨by omega, hk26⟩, ?_⟩⟩
  rintro x H38 ⟨hx, hk38⟩
  refine ⟨nl, fun hh => absurd hh (zero hx), fun _ => ⟨nl, fun hh => by simp at hh, fun _ => ⟨fun x H' => 0 ≤ x ∧ Kp [] H H', fun _ _ => 0, ⟨by omega, hk38⟩, ?_⟩⟩⟩
  rintro x H50 ⟨hx, hk50⟩
  exact ⟨nl, fun hh => absurd hh (zero hx), fun _ => ⟨rfl, hk50⟩⟩

theorem c_ref20_Check {H : LH} {p : Option Addr} {n c : Nat} {q : Option Addr} {m d : Nat} {code : List InstrD} {nodes : List NodeD} (str : Straight code nodes) (hc : Ls RInstr 6 H p n c code) (hu : UnitAt H q m d nodes ∨ (q = none ∧ m = 0 ∧ d = 0))
    (q2 : Option Addr) (m2 d2 : Nat) :
    Call prog f_ref20_Check [.agg #[.slice p n c, .int .i64 6, .slice q2 m2 d2, .slice q m d]] H (fun v H' => v = .int .i64 (if m = 0 then 10 else 0) ∧ Kp [] H H') := by
  refine F_ref20_Check_call _ _ _ _ _ _ _ _ _ _ ?_
  unfold F_ref20_Check
  have lc := hc.len
  have bc := hc.bound
  have lcn := str.len
  have hhi := str.hi
  have hlo := str.lo
  have hqn : q = none → m = 0 ∧ d = 0 := fun hq => by
    rcases hu with hu | ⟨-, h1, h2⟩
    · obtain ⟨b, i, s, _, _, _, h1, -⟩ := hu.is; rw [hq] at h1; cases h1
    · exact ⟨h1, h2⟩
  have hm : m ≤ 1 := by
    rcases hu with hu | ⟨-, h1, h2⟩
    · have := hu.one; omega
    · omega
  refine ⟨hc.nil, fun g => ?_, fun _ => ⟨fun g => by simp at g, fun _ => ⟨hqn, fun g => ?_, fun _ => ⟨fun i H' => 0 ≤ i ∧ i ≤ n ∧ Kp [] H H', fun i _ => (n - i).toNat, ⟨by omega, by omega, Kp.refl⟩, ?_⟩⟩⟩⟩
  · have : 1024 < (n : Int) := by simpa using g
    omega
  · have : 6 < (m : Int) := by simpa using g
    omega
  rintro i H4 ⟨h0, h1, hk⟩
  refine ⟨hc.nil, fun hlt => ?_, fun hge => ?_⟩
  · have hlt : i < n := by simpa using hlt
    obtain ⟨x, y, hx, hy, fit⟩ := str.at (i := i.toNat) (by omega)
    obtain ⟨b, k, r, t, hp, ht, rfl, -, hat⟩ := (hc.kp0 hk).at h0 hlt
    rw [hx] at ht; cases ht
    refine ⟨b, k, hp, h0, hlt, _, hat 0 _ rfl, _, hat 1 _ rfl, _, hat 2 _ rfl, _, hat 3 _ rfl, _, hat 4 _ rfl, _, hat 5 _ rfl, XCall.by (c_ref19_Check (fit.ok (by omega) (by omega))) ?_⟩
    rintro _ H14 ⟨rfl, hk14⟩
    rw [wrap_id (x := i + 1) (by omega)]
    exact ⟨_, rfl, fun g => by simp at g, fun _ => ⟨⟨by omega, by omega, hk.trans hk14⟩, by show (n - (i + 1)).toNat < (n - i).toNat; omega⟩⟩
  refine ⟨fun g => by simp at g, fun _ => ⟨fun a j H' => 0 ≤ j ∧ j ≤ m ∧ a = (if j = 0 then 0 else n) ∧ Kp [] H H', fun _ j _ => (m - j).toNat, ⟨by omega, by omega, rfl, hk⟩, ?_⟩⟩
  rintro a j H20 ⟨j0, j1, ha, hk20⟩
  refine ⟨hqn, fun hlt => ?_, fun hge => ⟨hc.nil, fun g => ⟨?_, hk20⟩, fun g => ⟨?_, hk20⟩⟩⟩
  rotate_left
  · have hge : m ≤ j := by simpa using hge
    have g : ¬ a = n := by simpa using g
    by_cases hj : j = 0
    · rw [if_pos (by omega)]
    · rw [if_neg hj] at ha; exact absurd ha g
  · have hge : m ≤ j := by simpa using hge
    have g : a = n := by simpa using g
    by_cases hj : j = 0
    · rw [if_pos hj] at ha; omega
    · rw [if_neg (by omega)]
  have hlt : j < m := by simpa using hlt
  obtain rfl : j = 0 := by omega
  rw [if_pos rfl] at ha
  subst ha
  rcases hu with hu | ⟨-, h1, h2⟩
  rotate_left
  · omega
  obtain ⟨b, k, s, q5, m5, d5, rfl, hrow, hns⟩ := (hu.kp hk20).is
  have hat := fun (j : Nat) (v : Value) hv => hrow.at (j := j) (v := v) hv
  have ln := hns.len
  refine ⟨b, k, rfl, by omega, hlt, _, hat 0 _ rfl, _, _, _, hat 1 _ rfl, _, _, _, hat 2 _ rfl, _, _, _, hat 3 _ rfl, _, _, _, hat 4 _ rfl, _, _, _, hat 5 _ rfl, _, _, _, hat 6 _ rfl, _, _, _, hat 7 _ rfl, _, _, _, hat 8 _ rfl, _, _, _, hat 9 _ rfl, ?_⟩
  refine ⟨hns.nil, fun g => ?_, fun _ => ⟨hns.nil, fun g => ?_, fun _ => ⟨fun a i H' => a = i ∧ 0 ≤ i ∧ i ≤ m5 ∧ Kp [] H20 H', fun _ i _ => (m5 - i).toNat, ⟨rfl, by omega, by omega, Kp.refl⟩, ?_⟩⟩⟩
  · have : (m5 : Int) = 0 := by simpa using g
    omega
  · have : 1024 < (m5 : Int) := by simpa using g
    omega
  rintro a i H55 ⟨rfl, i0, i1, hk55⟩
  refine ⟨hns.nil, fun hlt => ?_, fun hge => ?_⟩
  · have hlt : a < m5 := by simpa using hlt
    obtain ⟨x, y, hx, hy, fit⟩ := str.at (i := a.toNat) (by omega)
    obtain ⟨b, k, r, t, rfl, ht, hr, -, hat⟩ := (nodes_kp hns hk55).at i0 hlt
    rw [hy] at ht; cases ht
    obtain ⟨p1, n1, c1, q1, m1, d1, rfl, hnx, hac, -⟩ := hr
    have e1 := fit.first
    have e2 := fit.count
    refine ⟨b, k, rfl, i0, hlt, _, hat 0 _ rfl, _, hat 1 _ rfl, _, _, _, hat 2 _ rfl, _, _, _, hat 3 _ rfl, ?_⟩
    rw [e1, e2, show ((a.toNat : Nat) : Int) = a by omega, wrap_id (x := a + 1) (by omega), wrap_id (x := (n : Int) - a) (by omega)]
    refine ⟨fun g => by simp at g, fun _ => ⟨fun g => by simp at g, fun _ => ⟨hc.nil, fun g => ?_, fun _ => ⟨⟨rfl, by omega, by omega, hk55⟩, by show (m5 - (a + 1)).toNat < (m5 - a).toNat; omega⟩⟩⟩⟩
    have : (n : Int) - a < 1 := by simpa using g
    omega
  have hge : m5 ≤ a := by simpa using hge
  obtain rfl : a = n := by omega
  refine ⟨fun e i H' => e = (if i = m5 then 1 else 0) ∧ 0 ≤ i ∧ i ≤ m5 ∧ Kp [] H20 H', fun _ i _ => (m5 - i).toNat, ⟨by rw [if_neg (by omega)], by omega, by omega, hk55⟩, ?_⟩
  rintro e i H70 ⟨he, i0, i1, hk70⟩
  refine ⟨hns.nil, fun hlt => ?_, fun hge => ⟨fun g => ?_, fun g => ?_⟩⟩
  · have hlt : i < m5 := by simpa using hlt
    rw [if_neg (by omega)] at he
    subst he
    obtain ⟨x, y, hx, hy, fit⟩ := str.at (i := i.toNat) (by omega)
    have hs70 : StrAt H70 p n c q5 m5 d5 code nodes := ⟨str, hc.kp0 (hk20.trans hk70), nodes_kp hns hk70⟩
    obtain ⟨b, k, r, t, hq, ht, hr, -, hat⟩ := hs70.nodes.at i0 hlt
    rw [hy] at ht; cases ht
    obtain ⟨p1, n1, c1, q1, m1, d1, rfl, hnx, hac, -⟩ := hr
    have e1 := fit.first
    have e2 := fit.count
    refine ⟨b, k, hq, i0, hlt, _, hat 0 _ rfl, _, hat 1 _ rfl, _, _, _, hat 2 _ rfl, _, _, _, hat 3 _ rfl, ?_⟩
    refine XCall.by (c_ref20_node hs70 i0 hlt _ _ _ _ _ _ _ _ _ _ _ _ _ _ _ _ _ _ _ _ _ _ _ _ _ _ _ _ _ _ _) ?_
    rintro _ H82 ⟨rfl, hk82⟩
    rw [e1, e2, show ((i.toNat : Nat) : Int) = i by omega, wrap_id (x := i + 1) (by omega), wrap_id (x := i + 1 - 1) (by omega), show i + 1 - 1 = i by omega]
    obtain ⟨b7, k7, r7, t7, hp7, ht7, rfl, -, hat7⟩ := (hs70.code.kp0 hk82).at (x := i) i0 (by omega)
    rw [hx] at ht7; cases ht7
    have el := fit.last
    refine ⟨_, rfl, fun g => by simp at g, fun _ => ⟨b7, k7, hp7, i0, by omega, _, hat7 0 _ rfl, fun g => ?_, fun g => ?_⟩⟩
    · have g : x.ins = 10 := by simpa using g
      have := el.1 g
      rw [wrap_id (x := (0 : Int) + 1) (by omega)]
      exact ⟨⟨by rw [if_pos (by omega)]; rfl, by omega, by omega, hk70.trans hk82⟩, by show (m5 - (i + 1)).toNat < (m5 - i).toNat; omega⟩
    · have g : x.ins ≠ 10 := by simpa using g
      have : ¬ ((i.toNat : Nat) : Int) = (code.length : Int) - 1 := fun hh => g (el.2 hh)
      exact ⟨⟨by rw [if_neg (by omega)], by omega, by omega, hk70.trans hk82⟩, by show (m5 - (i + 1)).toNat < (m5 - i).toNat; omega⟩
  · have hge : m5 ≤ i := by simpa using hge
    rw [if_pos (by omega)] at he
    subst he
    simp at g
  · refine XCall.by (c_ref20_unit hns.nil _ _ _ _ _ _ _ _ _ _ _ _ _) ?_
    rintro _ H88 ⟨rfl, hk88⟩
    refine ⟨_, rfl, fun g => by simp at g, fun _ => ⟨⟨by rw [wrap_id (by omega)]; omega, by rw [wrap_id (by omega)]; omega, ?_, hk20.trans (hk70.trans hk88)⟩, ?_⟩⟩
    · rw [wrap_id (by omega), if_neg (by omega)]
    · rw [wrap_id (by omega)]; show ((m : Int) - ((0 : Int) + 1)).toNat < ((m : Int) - 0).toNat; omega

end Go.Lg
