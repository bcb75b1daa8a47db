/- Straight images are found right by emit.Check. No condition. -/
import Derived.Test.YtaehendkbicepaaC4
import Derived.Test.YtaehendkbicepaaB2
set_option linter.unusedVariables false
namespace Go.Lg
open Go

theorem c_slices_Equal {H : LH} {p q : Option Addr} {n c m d : Nat} {xs ys : List Int} (hx : Ints H p n c xs) (hy : Ints H q m d ys) :
    Call prog f_slices_Equal_int_int [.slice p n c, .slice q m d] H (fun v H' => ∃ b, v = .bool b ∧ (b = true ↔ xs = ys) ∧ Kp [] H H') := by
  refine F_slices_Equal_int_int_call _ _ _ _ _ _ ?_
  unfold F_slices_Equal_int_int
  have lx := hx.len
  have ly := hy.len
  have bx := hx.bound
  refine ⟨hx.nil, hy.nil, fun h => ⟨_, rfl, ?_, Kp.refl⟩, fun h => ?_⟩
  · have : ¬ (n : Int) = m := by simpa using h
    simp only [Bool.false_eq_true, false_iff]
    intro e; subst e; omega
  have hnm : (n : Int) = m := by simpa using h
  refine ⟨hx.nil, fun i H' => 0 ≤ i ∧ i ≤ n ∧ (∀ j : Nat, (j : Int) < i → xs[j]? = ys[j]?) ∧ Kp [] H H', fun i _ => (n - i).toNat, ⟨by omega, by omega, fun j hj => by omega, Kp.refl⟩, ?_⟩
  rintro i H4 ⟨h0, h1, h2, hk⟩
  refine ⟨fun hlt => ?_, fun hge => ⟨_, rfl, ?_, hk⟩⟩
  · have hlt : i < n := by simpa using hlt
    rintro _ rfl
    have hk5 : Kp [] H (H4.keep 9) := hk.keep 9
    obtain ⟨b, k, r, t, rfl, ht, rfl, -, hat⟩ := (hx.kp0 hk5).at h0 hlt
    obtain ⟨b2, k2, r2, t2, rfl, ht2, rfl, -, hat2⟩ := (hy.kp0 hk5).at h0 (by omega)
    refine ⟨b, k, rfl, h0, hlt, t, hat 0 _ rfl, b2, k2, rfl, h0, by omega, t2, hat2 0 _ rfl, fun hne => ⟨_, rfl, ?_, hk5⟩, fun heq => ⟨?_, ?_⟩⟩
    · have hne : t ≠ t2 := by simpa using hne
      simp only [Bool.false_eq_true, false_iff]
      rintro rfl; rw [ht] at ht2; cases ht2; exact hne rfl
    · have heq : t = t2 := by simpa using heq
      subst heq
      rw [wrap_id (by omega)]
      refine ⟨by omega, by omega, fun j hj => ?_, hk5⟩
      by_cases hji : (j : Int) < i
      · exact h2 j hji
      · have : j = i.toNat := by omega
        rw [this, ht, ht2]
    · rw [wrap_id (by omega)]
      show (n - (i + 1)).toNat < (n - i).toNat
      omega
  · have hge : n ≤ i := by simpa using hge
    simp only [true_iff]
    exact list_eq (by omega) (fun j hj => h2 j (by omega))

/-- An image's code and a unit, where calls take them. -/
structure StrAt (H : LH) (p : Option Addr) (n c : Nat) (q : Option Addr) (m d : Nat) (code : List InstrD) (nodes : List NodeD) : Prop where
  str : Straight code nodes
  code : Ls RInstr 6 H p n c code
  nodes : Ls (RNode (fun _ => True) H) 4 H q m d nodes

theorem nodes_kp {H H' : LH} {q : Option Addr} {m d : Nat} {nodes : List NodeD} (h : Ls (RNode (fun _ => True) H) 4 H q m d nodes) (hk : Kp [] H H') : Ls (RNode (fun _ => True) H') 4 H' q m d nodes :=
  (h.kp0 hk).mono fun r x _ hr => hr.kp hk (fun _ _ hb => by cases hb) (fun _ _ h => h)

theorem StrAt.kp {H H' : LH} {p : Option Addr} {n c : Nat} {q : Option Addr} {m d : Nat} {code : List InstrD} {nodes : List NodeD} (h : StrAt H p n c q m d code nodes) (hk : Kp [] H H') : StrAt H' p n c q m d code nodes :=
  ⟨h.str, h.code.kp0 hk, nodes_kp h.nodes hk⟩

/-- What is known at a node. -/
theorem Straight.at {code : List InstrD} {nodes : List NodeD} (h : Straight code nodes) {i : Nat} (hi : i < code.length) :
    ∃ x y, code[i]? = some x ∧ nodes[i]? = some y ∧ Fit ((code.length : Int) - 1) i x y := by
  have h1 : code[i]? = some code[i] := List.getElem?_eq_getElem hi
  have h2 : nodes[i]? = some (nodes[i]'(by have := h.len; omega)) := List.getElem?_eq_getElem _
  exact ⟨_, _, h1, h2, h.fit i _ _ h1 h2⟩

theorem Straight.firsts {code : List InstrD} {nodes : List NodeD} (h : Straight code nodes) {j : Nat} {y : NodeD} (hy : nodes[j]? = some y) : y.first = j := by
  have hj := getE hy
  obtain ⟨x, y', h1, h2, h3⟩ := h.at (i := j) (by have := h.len; omega)
  rw [hy] at h2; cases h2; exact h3.first

/-- The node that begins with an instruction is found. -/
theorem c_IndexFunc_Node {H : LH} {q : Option Addr} {m d : Nat} {nodes : List NodeD} {code : List InstrD} {b : Nat} {x : InstrD} (hs : Straight code nodes) (hn : Ls (RNode (fun _ => True) H) 4 H q m d nodes)
    (hb : Row H b 0 6 [.int .i64 x.ins, .int .i64 x.a, .int .i64 x.b, .int .i64 x.c, .int .i64 x.op, .int .i64 x.imm]) :
    Call prog f_slices_IndexFunc_api_Node_api_Node [.slice q m d, .func (.func f_emit_leads_1) #[] #[.pointer (some ⟨b, 0, none⟩)]] H
      (fun v H' => ∃ i : Int, v = .int .i64 i ∧ Kp [] H H' ∧ (0 ≤ x.imm → x.imm < m → i = x.imm)) := by
  refine F_slices_IndexFunc_api_Node_api_Node_call _ _ _ _ ?_
  unfold F_slices_IndexFunc_api_Node_api_Node
  have ln := hn.len
  have bn := hn.bound
  refine ⟨hn.nil, fun i H' => 0 ≤ i ∧ i ≤ m ∧ (0 ≤ x.imm → x.imm < m → i ≤ x.imm) ∧ Kp [] H H', fun i _ => (m - i).toNat, ⟨by omega, by omega, by omega, Kp.refl⟩, ?_⟩
  rintro i H4 ⟨h0, h1, h2, hk⟩
  refine ⟨fun hlt => ?_, fun hge => ⟨_, rfl, hk, ?_⟩⟩
  · have hlt : i < m := by simpa using hlt
    obtain ⟨b2, k, r, y, rfl, hy, hr, -, hat⟩ := (nodes_kp hn hk).at h0 hlt
    obtain ⟨p1, n1, c1, q1, m1, d1, rfl, -⟩ := hr
    refine ⟨b2, k, rfl, h0, hlt, _, hat 0 _ rfl, _, hat 1 _ rfl, _, _, _, hat 2 _ rfl, _, _, _, hat 3 _ rfl, f_emit_leads_1, [], [.pointer (some ⟨b, 0, none⟩)], rfl, by kernel_rfl, ?_⟩
    refine XCall.by (R := fun v H' => v = .bool (decide (y.first = x.imm)) ∧ Kp [] H4 H') (F_emit_leads_1_call _ _ _ _ _ _ _ _ _ _ ⟨x.imm, (hb.kp hk (by simp)).at (j := 5) rfl, rfl, Kp.refl⟩) ?_
    rintro _ H19 ⟨rfl, hk19⟩
    have hf := hs.firsts hy
    refine ⟨_, rfl, fun htx => ⟨_, rfl, hk.trans hk19, fun _ _ => ?_⟩, fun htx => ?_⟩
    · have htx : y.first = x.imm := by simpa using htx
      omega
    · have htx : y.first ≠ x.imm := by simpa using htx
      rw [wrap_id (by omega)]
      exact ⟨⟨by omega, by omega, fun g1 g2 => by have := h2 g1 g2; omega, hk.trans hk19⟩, by show (m - (i + 1)).toNat < (m - i).toNat; omega⟩
  · have hge : m ≤ i := by simpa using hge
    intro g1 g2
    have := h2 g1 g2
    omega

theorem c_emit_leads {H : LH} {p : Option Addr} {n c : Nat} {q : Option Addr} {m d : Nat} {code : List InstrD} {nodes : List NodeD} (hs : StrAt H p n c q m d code nodes) {i : Int} (hi0 : 0 ≤ i) (hi1 : i < m) {y : NodeD} (hy : nodes[i.toNat]? = some y)
    (dn : Int) (q2 : Option Addr) (m2 d2 : Nat) (q3 : Option Addr) (m3 d3 : Nat) (nm : ByteArray) (a2 : Option Addr) (b2 c2 : Nat) (a3 : Option Addr) (b3 c3 : Nat) (a4 : Option Addr) (b4 c4 : Nat) (a5 : Option Addr) (b5 c5 : Nat)
    (a6 : Option Addr) (b6 c6 : Nat) (a7 : Option Addr) (b7 c7 : Nat) (a8 : Option Addr) (b8 c8 : Nat) (a9 : Option Addr) (b9 c9 : Nat) :
    Call prog f_emit_leads [.agg #[.slice p n c, .int .i64 dn, .slice q2 m2 d2, .slice q3 m3 d3], .agg #[.string nm, .slice q m d, .slice a2 b2 c2, .slice a3 b3 c3, .slice a4 b4 c4, .slice a5 b5 c5, .slice a6 b6 c6, .slice a7 b7 c7, .slice a8 b8 c8, .slice a9 b9 c9], .int .i64 i] H
      (fun v H' => ∃ u k e, v = .tuple #[.slice u k e, .bool true] ∧ Ints H' u k e y.next ∧ Kp [] H H') := by
  obtain ⟨str, hc, hn⟩ := hs
  refine F_emit_leads_call _ _ _ _ _ _ _ _ _ _ _ _ _ _ _ _ _ _ _ _ _ _ _ _ _ _ _ _ _ _ _ _ _ _ _ _ _ _ _ ?_
  unfold F_emit_leads
  have ln := hn.len
  have lc := hc.len
  have bc := hc.bound
  have lcn := str.len
  have hhi := str.hi
  obtain ⟨x, y', hx, hy', fit⟩ := str.at (i := i.toNat) (by omega)
  rw [hy] at hy'; cases hy'
  obtain ⟨b, k, r, t, rfl, ht, hr, -, hat⟩ := hn.at hi0 hi1
  rw [hy] at ht; cases ht
  obtain ⟨p1, n1, c1, q1, m1, d1, rfl, hnx, hac, -⟩ := hr
  have e1 := fit.first
  have e2 := fit.count
  refine ⟨b, k, rfl, hi0, hi1, _, hat 0 _ rfl, _, hat 1 _ rfl, _, _, _, hat 2 _ rfl, _, _, _, hat 3 _ rfl, ?_⟩
  rw [e1, e2, show ((i.toNat : Nat) : Int) = i by omega, wrap_id (x := i + 1) (by omega), wrap_id (x := i + 1 - 1) (by omega), show i + 1 - 1 = i by omega]
  obtain ⟨p11, n13, hsl, hls, -⟩ := hc.slice (lo := i) (hi := i + 1) hi0 (by omega) (by omega)
  have hone : (i + 1).toNat - i.toNat = 1 := by omega
  rw [hone] at hsl hls
  refine ⟨p11, 1, n13, hsl, hls.nil, fun j H' => 0 ≤ j ∧ j ≤ 1 ∧ Kp [] H H', fun j _ => (1 - j).toNat, ⟨by omega, by omega, Kp.refl⟩, ?_⟩
  rintro j H17 ⟨j0, j1, hk⟩
  refine ⟨fun hlt => ?_, fun hge => ?_⟩
  · have hlt : j < ((1 : Nat) : Int) := by simpa using hlt
    obtain ⟨b3, k3, r3, t3, rfl, ht3, rfl, -, hat3⟩ := (hls.kp0 hk).at j0 hlt
    refine ⟨b3, k3, rfl, j0, hlt, _, hat3 0 _ rfl, _, hat3 1 _ rfl, _, hat3 2 _ rfl, _, hat3 3 _ rfl, _, hat3 4 _ rfl, _, hat3 5 _ rfl, ?_⟩
    rw [wrap_id (x := (1 : Int) - 1) (by omega), wrap_id (x := j + 1) (by omega)]
    have nx : (0 ≤ j + 1 ∧ j + 1 ≤ 1 ∧ Kp [] H H17) ∧ ((1 : Int) - (j + 1)).toNat < ((1 : Int) - j).toNat := ⟨⟨by omega, by omega, hk⟩, by omega⟩
    have no : ¬ decide (j < (1 : Int) - 1) = true := by simp; omega
    exact ⟨fun _ => ⟨fun g => absurd g no, fun _ => nx⟩, fun _ => ⟨fun _ => ⟨fun g => absurd g no, fun _ => nx⟩, fun _ => ⟨fun _ => ⟨fun g => absurd g no, fun _ => nx⟩, fun _ => nx⟩⟩⟩
  · obtain ⟨b4, k4, r4, t4, rfl, ht4, rfl, -, hat4⟩ := (hc.kp0 hk).at (x := i) hi0 (by omega)
    rw [hx] at ht4; cases ht4
    refine ⟨b4, k4, rfl, hi0, by omega, _, hat4 0 _ rfl, _, hat4 1 _ rfl, _, hat4 2 _ rfl, _, hat4 3 _ rfl, _, hat4 4 _ rfl, _, hat4 5 _ rfl, ?_⟩
    rintro _ rfl
    refine ⟨_, _, LH.new_get _ _, by simp, ?_⟩
    rintro _ rfl
    have hblk : Blk ((H17.new (.cells [.int .i64 0, .int .i64 0, .int .i64 0, .int .i64 0, .int .i64 0, .int .i64 0] 6 false)).put H17.next (some (.cells [.int .i64 x.ins, .int .i64 x.a, .int .i64 x.b, .int .i64 x.c, .int .i64 x.op, .int .i64 x.imm] 6 false))) H17.next 6
        [.int .i64 x.ins, .int .i64 x.a, .int .i64 x.b, .int .i64 x.c, .int .i64 x.op, .int .i64 x.imm] := (Blk.new _ _ _).put
    have hk37 : Kp [] H ((H17.new (.cells [.int .i64 0, .int .i64 0, .int .i64 0, .int .i64 0, .int .i64 0, .int .i64 0] 6 false)).put H17.next (some (.cells [.int .i64 x.ins, .int .i64 x.a, .int .i64 x.b, .int .i64 x.c, .int .i64 x.op, .int .i64 x.imm] 6 false))) :=
      (hk.new _).put (.inr hk.next) _
    refine XCall.by (c_IndexFunc_Node str (nodes_kp hn hk37) hblk.row) ?_
    rintro _ H39 ⟨w, rfl, hk39, hw⟩
    have hkk := hk37.trans hk39
    refine ⟨_, rfl, x.ins, (hblk.kp hk39 (by simp)).at rfl, ?_⟩
    have enx := fit.next
    have el := fit.last
    have e6 := fit.imm6
    have e7 := fit.imm7
    refine ⟨fun g => ?_, fun g1 => ⟨fun g => ?_, fun g2 => ⟨fun g => ?_, fun g3 => ?_⟩⟩⟩
    · have g : x.ins = 10 := by simpa using g
      rw [if_pos g] at enx
      exact ⟨_, _, _, rfl, by rw [enx]; exact Ls.nilList, hkk⟩
    · have g : x.ins = 6 := by simpa using g
      rintro _ rfl
      have := e6 g
      have hw := hw (by omega) (by omega)
      rw [if_neg (by omega), if_pos g] at enx
      refine ⟨_, _, _, by rw [show decide ((0 : Int) ≤ w) = true by simp; omega], ?_, hkk.new _⟩
      rw [enx, ← e6 g, ← hw]
      exact Ls.one (R := Ri) (Blk.new _ _ _) rfl rfl 1
    · have g : x.ins = 7 := by simpa using g
      have := e7 g
      have hw := hw (by omega) (by omega)
      have g1 : x.ins ≠ 10 := by simpa using g1
      have hiN : ¬ ((i.toNat : Nat) : Int) = (code.length : Int) - 1 := fun hh => g1 (el.2 hh)
      rw [if_neg g1, if_neg (by omega), if_pos g] at enx
      rintro _ rfl
      refine ⟨fun _ => ⟨hn.nil, ?_⟩, fun hh => by have : ¬ 0 ≤ w := by simpa using hh
                                                  omega⟩
      rintro _ rfl
      refine ⟨_, _, _, by rw [show decide (i + 1 < (m : Int)) = true by simp; omega], ?_, (hkk.keep _).put (.inr (by have := hkk.next; omega)) _⟩
      rw [enx, hw, show ((i.toNat : Nat) : Int) = i by omega]
      refine Ls.rows (R := Ri) (s := 1) (n := 2) (xs := [i + 1, x.imm]) (rows := [[.int .i64 (i + 1)], [.int .i64 x.imm]]) (Blk.putAt (by show H39.next + 3 < H39.next + 16; omega)).row (by simp) rfl rfl (by omega) ?_ 2
      intro j r y h1 h2
      match j with
      | 0 => simp at h1 h2; subst h1; subst h2; rfl
      | 1 => simp at h1 h2; subst h1; subst h2; rfl
      | j + 2 => simp at h1
    · have g1 : x.ins ≠ 10 := by simpa using g1
      have g2 : x.ins ≠ 6 := by simpa using g2
      have g3 : x.ins ≠ 7 := by simpa using g3
      have hiN : ¬ ((i.toNat : Nat) : Int) = (code.length : Int) - 1 := fun hh => g1 (el.2 hh)
      rw [if_neg g1, if_neg g2, if_neg g3] at enx
      rintro _ rfl
      refine ⟨hn.nil, ?_⟩
      rintro _ rfl
      refine ⟨_, _, _, by rw [show decide (i + 1 < (m : Int)) = true by simp; omega], ?_, (hkk.keep _).put (.inr (by have := hkk.next; omega)) _⟩
      rw [enx, show ((i.toNat : Nat) : Int) = i by omega]
      exact Ls.one (R := Ri) (Blk.putAt (by show H39.next + 2 < H39.next + 11; omega)) rfl rfl 1

theorem c_emit_touches {H : LH} {p : Option Addr} {n c : Nat} {q : Option Addr} {m d : Nat} {code : List InstrD} {nodes : List NodeD} (hs : StrAt H p n c q m d code nodes) {i : Int} (hi0 : 0 ≤ i) (hi1 : i < m) {y : NodeD} (hy : nodes[i.toNat]? = some y)
    {u : Option Addr} {k e : Nat} (hacc : Ls RAcc 3 H u k e y.acc)
    (q2 : Option Addr) (m2 d2 : Nat) (q3 : Option Addr) (m3 d3 : Nat) (a1 : Option Addr) (b1 c1 : Nat) :
    Call prog f_emit_touches [.agg #[.slice p n c, .int .i64 6, .slice q2 m2 d2, .slice q3 m3 d3], .agg #[.int .i64 y.first, .int .i64 y.count, .slice a1 b1 c1, .slice u k e]] H
      (fun v H' => v = .bool true ∧ Kp [] H H') := by
  obtain ⟨str, hc, hn⟩ := hs
  refine F_emit_touches_call _ _ _ _ _ _ _ _ _ _ _ _ _ _ _ _ _ _ ?_
  unfold F_emit_touches
  have ln := hn.len
  have lc := hc.len
  have bc := hc.bound
  have lcn := str.len
  have hhi := str.hi
  obtain ⟨x, y', hx, hy', fit⟩ := str.at (i := i.toNat) (by omega)
  rw [hy] at hy'; cases hy'
  have e1 := fit.first
  have e2 := fit.count
  have ea := fit.acc
  rw [show ((i.toNat : Nat) : Int) = i by omega] at ea
  rw [e1, e2, show ((i.toNat : Nat) : Int) = i by omega, wrap_id (x := i + 1) (by omega)]
  refine ⟨fun p3 n4 n5 j H' => ((j = i ∧ Ls RAcc 3 H' p3 n4 n5 y.acc) ∨ (j = i + 1 ∧ Ls RAcc 3 H' p3 n4 n5 [])) ∧ Kp [] H H', fun _ _ _ j _ => (i + 1 - j).toNat, ⟨.inl ⟨rfl, hacc⟩, Kp.refl⟩, ?_⟩
  rintro p3 n4 n5 j H7 ⟨hj, hk⟩
  refine ⟨fun hlt => ?_, fun hge => ?_⟩
  rotate_left
  · have hge : i + 1 ≤ j := by simpa using hge
    rcases hj with ⟨rfl, _⟩ | ⟨rfl, hl⟩
    · omega
    · have := hl.len
      simp at this
      exact ⟨hl.nil, by simp; omega, hk⟩
  have hlt : j < i + 1 := by simpa using hlt
  rcases hj with ⟨rfl, hl⟩ | ⟨rfl, hl⟩
  rotate_left
  · omega
  obtain ⟨b4, k4, r4, t4, rfl, ht4, rfl, -, hat4⟩ := (hc.kp0 hk).at (x := j) hi0 (by omega)
  rw [hx] at ht4; cases ht4
  refine ⟨b4, k4, rfl, hi0, by omega, _, hat4 0 _ rfl, _, hat4 1 _ rfl, _, hat4 2 _ rfl, _, hat4 3 _ rfl, _, hat4 4 _ rfl, _, hat4 5 _ rfl, ?_⟩
  rw [wrap_id (x := j + 1) (by omega)]
  have lll := hl.len
  have yes : x.ins = 4 ∨ x.ins = 5 → ∀ H35 : LH, H35 = H7.keep 38 → n4 = 1 ∧ Kp [] H H35 ∧ ∃ b k, p3 = some ⟨b, k, none⟩ ∧ hAt H35 b (k + 0 + 0) (.int .i64 j) ∧ hAt H35 b (k + 0 + 1) (.int .i64 0) ∧ hAt H35 b (k + 0 + 2) (.int .i64 5) ∧
      ∃ p51 n53, sliceV H35 3 (.slice p3 n4 n5) (some (.int .i64 1)) none none = some (.slice p51 0 n53) ∧ Ls RAcc 3 H35 p51 0 n53 [] := by
    rintro h45 H35 rfl
    rw [if_pos h45] at ea
    rw [ea] at hl lll
    simp at lll
    subst lll
    have hl35 := hl.kp0 (H' := H7.keep 38) (Kp.refl.keep _)
    obtain ⟨b5, k5, r5, t5, rfl, ht5, rfl, -, hat5⟩ := hl35.at (x := 0) (by omega) (by omega)
    simp at ht5
    subst ht5
    obtain ⟨p51, n53, g1, g2, -⟩ := hl35.sliceFrom (lo := 1) (by omega) (by omega)
    refine ⟨rfl, hk.keep _, b5, k5, rfl, ?_, ?_, ?_, p51, n53, g1, g2⟩
    · have := hat5 0 _ rfl; simpa using this
    · have := hat5 1 _ rfl; simpa using this
    · have := hat5 2 _ rfl; simpa using this
  have body : x.ins = 4 ∨ x.ins = 5 → ∀ H35 : LH, H35 = H7.keep 38 → True := fun _ _ _ => trivial
  have no : ¬ (x.ins = 4 ∨ x.ins = 5) → Ls RAcc 3 H7 p3 n4 n5 [] := fun h => by rw [if_neg h] at ea; rw [ea] at hl; exact hl
  refine ⟨fun g4 => ⟨fun g5 => ?_, fun g5 => ?_⟩, fun g4 => ?_⟩
  · have g4 : x.ins ≠ 4 := by simpa using g4
    have g5 : x.ins ≠ 5 := by simpa using g5
    exact ⟨⟨.inr ⟨rfl, no (by omega)⟩, hk⟩, by show (j + 1 - (j + 1)).toNat < (j + 1 - j).toNat; omega⟩
  all_goals
    rintro H35 hH35
    obtain ⟨rfl, hk35, b, k, rfl, h1, h2, h3, p51, n53, h4, h5⟩ := yes (by first | (left; simpa using g4) | (right; simpa using g5)) H35 hH35
    refine ⟨fun hh => (by cases hh), fun hh => (by simp at hh), fun _ => ⟨b, k, rfl, by omega, by omega, _, h1, fun hh => (by simp at hh), fun _ => ⟨b, k, rfl, by omega, by omega, _, h2, fun hh => (by simp at hh), fun _ =>
      ⟨b, k, rfl, by omega, by omega, _, h2, b, k, rfl, by omega, by omega, _, h3, fun hh => (by simp at hh), fun _ => ⟨b, k, rfl, by omega, by omega, _, h3, fun hh => (by simp at hh), fun _ => ⟨p51, 0, n53, h4, ⟨.inr ⟨rfl, h5⟩, hk35⟩, ?_⟩⟩⟩⟩⟩⟩
    show (j + 1 - (j + 1)).toNat < (j + 1 - j).toNat
    omega

theorem c_emit_names {H : LH} {q : Option Addr} {m d : Nat} (nm : ByteArray) (a7 : Option Addr) (b7 c7 : Nat) (a8 : Option Addr) (b8 c8 : Nat) (a9 : Option Addr) (b9 c9 : Nat) (a6 : Option Addr) (b6 c6 : Nat) :
    Call prog f_emit_names [.agg #[.string nm, .slice q m d, .slice none 0 0, .slice none 0 0, .slice none 0 0, .slice none 0 0, .slice a6 b6 c6, .slice a7 b7 c7, .slice a8 b8 c8, .slice a9 b9 c9]] H
      (fun v H' => v = .bool true ∧ Kp [] H H') := by
  refine F_emit_names_call _ _ _ _ _ _ _ _ _ _ _ _ _ _ _ _ _ _ _ _ _ _ _ _ _ _ _ _ ?_
  unfold F_emit_names
  rintro _ rfl _ rfl
  refine ⟨_, _, LH.new_get _ _, by simp, ?_⟩
  rintro _ rfl
  obtain ⟨B, hB⟩ : ∃ B : List Value, B = [.string nm, .slice q m d, .slice none 0 0, .slice none 0 0, .slice none 0 0, .slice none 0 0, .slice a6 b6 c6, .slice a7 b7 c7, .slice a8 b8 c8, .slice a9 b9 c9] := ⟨_, rfl⟩
  rw [← hB]
  obtain ⟨H5, hH5⟩ : ∃ H5, H5 = ((H.new (.cells B 10 false)).new (.cells [.nilFunc] 1 false)).put (H.new (.cells B 10 false)).next (some (.cells (setMany [.nilFunc] 0 [.func (.func f_emit_names_1) #[] #[.pointer (some ⟨H.next, 0, none⟩)]]) 1 false)) := ⟨_, rfl⟩
  rw [← hH5]
  have hk5 : Kp [] H H5 := by rw [hH5]; exact ((Kp.refl.new _).new _).put (.inr (by show H.next ≤ H.next + 1; omega)) _
  have hb5 : Blk H5 H.next 10 B := by
    rw [hH5]
    refine ⟨by show H.next < H.next + 1 + 1; omega, ?_⟩
    rw [LH.put_ne _ _ (by show H.next ≠ H.next + 1; omega), LH.new_ne _ _ (by show H.next ≠ H.next + 1; omega)]
    exact LH.new_get _ _
  have at_ : ∀ {H' : LH}, Kp [] H5 H' → ∀ j v, B[j]? = some v → hAt H' H.next j v := fun hk j v hv => (hb5.kp hk (by simp)).at hv
  have zero : ∀ {x : Int}, 0 ≤ x → ¬ decide (x < ((0 : Nat) : Int)) = true := fun h => by simp; omega
  have nl : (none : Option Addr) = none → 0 = 0 ∧ 0 = 0 := fun _ => ⟨rfl, rfl⟩
  refine ⟨none, 0, 0, at_ Kp.refl 2 _ (by rw [hB]; rfl), nl, fun x H' => 0 ≤ x ∧ Kp [] H5 H', fun _ _ => 0, ⟨by omega, Kp.refl⟩, ?_⟩
  rintro x H12 ⟨hx, hk12⟩
  refine ⟨fun hh => absurd hh (zero hx), fun _ => ⟨none, 0, 0, at_ hk12 3 _ (by rw [hB]; rfl), nl, fun x H' => 0 ≤ x ∧ Kp [] H5 H', fun _ _ => 0, ⟨by omega, hk12⟩, ?_⟩⟩
  rintro x H46 ⟨hx, hk46⟩
  refine ⟨fun hh => absurd hh (zero hx), fun _ => ⟨none, 0, 0, at_ hk46 4 _ (by rw [hB]; rfl), nl, fun x H' => 0 ≤ x ∧ Kp [] H5 H', fun _ _ => 0, ⟨by omega, hk46⟩, ?_⟩⟩
  rintro x H66 ⟨hx, hk66⟩
  refine ⟨fun hh => absurd hh (zero hx), fun _ => ⟨none, 0, 0, at_ hk66 5 _ (by rw [hB]; rfl), nl, fun x H' => 0 ≤ x ∧ Kp [] H5 H', fun _ _ => 0, ⟨by omega, hk66⟩, ?_⟩⟩
  rintro x H85 ⟨hx, hk85⟩
  exact ⟨fun hh => absurd hh (zero hx), fun _ => ⟨none, 0, 0, at_ hk85 5 _ (by rw [hB]; rfl), nl, by simp, hk5.trans hk85⟩⟩

theorem c_emit_unit {H : LH} {p : Option Addr} {n c : Nat} {q : Option Addr} {m d : Nat} {code : List InstrD} {nodes : List NodeD} (hs : StrAt H p n c q m d code nodes) 
    (q2 : Option Addr) (m2 d2 : Nat) (q3 : Option Addr) (m3 d3 : Nat) (nm : ByteArray) (a6 : Option Addr) (b6 c6 : Nat) (a7 : Option Addr) (b7 c7 : Nat) (a8 : Option Addr) (b8 c8 : Nat) (a9 : Option Addr) (b9 c9 : Nat) :
    Call prog f_emit_unit [.agg #[.slice p n c, .int .i64 6, .slice q2 m2 d2, .slice q3 m3 d3], .agg #[.string nm, .slice q m d, .slice none 0 0, .slice none 0 0, .slice none 0 0, .slice none 0 0, .slice a6 b6 c6, .slice a7 b7 c7, .slice a8 b8 c8, .slice a9 b9 c9], .int .i64 0] H
      (fun v H' => v = .tuple #[.int .i64 n, .bool true] ∧ Kp [] H H') := by
  refine F_emit_unit_call _ _ _ _ _ _ _ _ _ _ _ _ _ _ _ _ _ _ _ _ _ _ _ _ _ _ _ _ _ _ _ _ _ _ _ _ _ _ _ ?_
  unfold F_emit_unit
  have str := hs.str
  have hc := hs.code
  have hn := hs.nodes
  have ln := hn.len
  have lc := hc.len
  have bc := hc.bound
  have lcn := str.len
  have hhi := str.hi
  have hlo := str.lo
  refine ⟨hn.nil, fun a i H' => a = i ∧ 0 ≤ i ∧ i ≤ m ∧ Kp [] H H', fun _ i _ => (m - i).toNat, ⟨rfl, by omega, by omega, Kp.refl⟩, ?_⟩
  rintro a i H5 ⟨rfl, h0, h1, hk⟩
  refine ⟨fun hlt => ?_, fun hge => ?_⟩
  · have hlt : a < m := by simpa using hlt
    obtain ⟨x, y, hx, hy, fit⟩ := str.at (i := a.toNat) (by omega)
    obtain ⟨b, k, r, t, rfl, ht, hr, -, hat⟩ := (nodes_kp hn hk).at h0 hlt
    rw [hy] at ht; cases ht
    obtain ⟨p1, n1, c1, q1, m1, d1, rfl, hnx, hac, -⟩ := hr
    have e1 := fit.first
    have e2 := fit.count
    refine ⟨b, k, rfl, h0, hlt, _, hat 0 _ rfl, _, hat 1 _ rfl, _, _, _, hat 2 _ rfl, _, _, _, hat 3 _ rfl, ?_⟩
    rw [e1, e2, show ((a.toNat : Nat) : Int) = a by omega, wrap_id (x := a + 1) (by omega), wrap_id (x := (n : Int) - a) (by omega)]
    refine ⟨fun g => by simp at g, fun _ => ⟨fun g => by simp at g, fun _ => ⟨hc.nil, fun g => ?_, fun _ => ⟨⟨rfl, by omega, by omega, hk⟩, by show (m - (a + 1)).toNat < (m - a).toNat; omega⟩⟩⟩⟩
    have : (n : Int) - a < 1 := by simpa using g
    omega
  have hge : m ≤ a := by simpa using hge
  obtain rfl : a = n := by omega
  refine ⟨hn.nil, fun e i H' => e = (if i = m then 1 else 0) ∧ 0 ≤ i ∧ i ≤ m ∧ Kp [] H H', fun _ i _ => (m - i).toNat, ⟨by rw [if_neg (by omega)], by omega, by omega, hk⟩, ?_⟩
  rintro e i H20 ⟨he, i0, i1, hk20⟩
  refine ⟨fun hlt => ?_, fun hge => ?_⟩
  · have hlt : i < m := by simpa using hlt
    rw [if_neg (by omega)] at he
    subst he
    obtain ⟨x, y, hx, hy, fit⟩ := str.at (i := i.toNat) (by omega)
    have hs20 := hs.kp hk20
    obtain ⟨b, k, r, t, hq, ht, hr, -, hat⟩ := hs20.nodes.at i0 hlt
    rw [hy] at ht; cases ht
    obtain ⟨p1, n1, c1, q1, m1, d1, rfl, hnx, hac, -⟩ := hr
    refine ⟨b, k, hq, i0, hlt, _, hat 0 _ rfl, _, hat 1 _ rfl, _, _, _, hat 2 _ rfl, _, _, _, hat 3 _ rfl, ?_⟩
    refine XCall.by (c_emit_leads hs20 i0 hlt hy _ _ _ _ _ _ _ _ _ _ _ _ _ _ _ _ _ _ _ _ _ _ _ _ _ _ _ _ _ _ _ _) ?_
    rintro _ H32 ⟨u, k2, e2, rfl, hu, hk32⟩
    refine ⟨_, _, _, _, rfl, fun g => by simp at g, fun _ => XCall.by (c_slices_Equal hu (hnx.kp0 hk32)) ?_⟩
    rintro _ H38 ⟨b39, rfl, hb39, hk38⟩
    have hb39 := hb39.2 rfl
    subst hb39
    have hk2038 := hk32.trans hk38
    refine ⟨_, rfl, fun g => by simp at g, fun _ => XCall.by (c_emit_touches (hs20.kp hk2038) i0 hlt hy (hac.kp0 hk2038) _ _ _ _ _ _ _ _ _) ?_⟩
    rintro _ H41 ⟨rfl, hk41⟩
    have hkk := (hk20.trans hk2038).trans hk41
    have lu := hu.len
    have enx := fit.next
    have el := fit.last
    refine ⟨_, rfl, fun g => by simp at g, fun _ => ⟨hu.nil, fun g => ?_, fun g => ?_⟩⟩
    · have g : (k2 : Int) = 0 := by simpa using g
      have hlast : x.ins = 10 := by
        apply Classical.byContradiction
        intro hne
        rw [if_neg hne] at enx
        have : y.next ≠ [] := by rw [enx]; split <;> (try split) <;> simp
        have : y.next = [] := List.eq_nil_of_length_eq_zero (by omega)
        contradiction
      have := el.1 hlast
      rw [wrap_id (x := (0 : Int) + 1) (by omega), wrap_id (x := i + 1) (by omega)]
      exact ⟨⟨by rw [if_pos (by omega)]; rfl, by omega, by omega, hkk⟩, by show (m - (i + 1)).toNat < (m - i).toNat; omega⟩
    · have g : ¬ (k2 : Int) = 0 := by simpa using g
      have hlast : x.ins ≠ 10 := by
        intro hh
        rw [if_pos hh] at enx
        rw [enx] at lu; simp at lu; omega
      have : ¬ ((i.toNat : Nat) : Int) = (code.length : Int) - 1 := fun hh => hlast (el.2 hh)
      rw [wrap_id (x := i + 1) (by omega)]
      exact ⟨⟨by rw [if_neg (by omega)], by omega, by omega, hkk⟩, by show (m - (i + 1)).toNat < (m - i).toNat; omega⟩
  · have hge : m ≤ i := by simpa using hge
    rw [if_pos (by omega)] at he
    subst he
    refine ⟨fun _ => XCall.by (c_emit_names _ _ _ _ _ _ _ _ _ _ _ _ _) ?_, fun g => by simp at g⟩
    rintro _ H44 ⟨rfl, hk44⟩
    exact ⟨_, rfl, rfl, hk20.trans hk44⟩

/-- A straight image: right as it is, with a unit; not right without one. -/
theorem c_emit_Check {H : LH} {p : Option Addr} {n c : Nat} {q : Option Addr} {m d : Nat} {code : List InstrD} {nodes : List NodeD} (str : Straight code nodes) (hc : Ls RInstr 6 H p n c code) (hu : UnitAt H q m d nodes ∨ (q = none ∧ m = 0 ∧ d = 0))
    (q2 : Option Addr) (m2 d2 : Nat) :
    Call prog f_emit_Check [.agg #[.slice p n c, .int .i64 6, .slice q2 m2 d2, .slice q m d]] H (fun v H' => v = .int .i64 (if m = 0 then 10 else 0) ∧ Kp [] H H') := by
  refine F_emit_Check_call _ _ _ _ _ _ _ _ _ _ ?_
  unfold F_emit_Check
  have lc := hc.len
  have bc := hc.bound
  have lcn := str.len
  have hhi := str.hi
  have hlo := str.lo
  have hqn : q = none → m = 0 ∧ d = 0 := fun hq => by
    rcases hu with hu | ⟨-, h1, h2⟩
    · obtain ⟨b, i, s, _, _, _, h1, -⟩ := hu.is; rw [hq] at h1; cases h1
    · exact ⟨h1, h2⟩
  have hm : m ≤ 1 := by
    rcases hu with hu | ⟨-, h1, h2⟩
    · have := hu.one; omega
    · omega
  refine ⟨hc.nil, fun g => ?_, fun _ => ⟨fun g => by simp at g, fun _ => ⟨hqn, fun g => ?_, fun _ => ⟨hc.nil, fun i H' => 0 ≤ i ∧ i ≤ n ∧ Kp [] H H', fun i _ => (n - i).toNat, ⟨by omega, by omega, Kp.refl⟩, ?_⟩⟩⟩⟩
  · have : 1024 < (n : Int) := by simpa using g
    omega
  · have : 6 < (m : Int) := by simpa using g
    omega
  rintro i H4 ⟨h0, h1, hk⟩
  refine ⟨fun hlt => ?_, fun hge => ?_⟩
  · have hlt : i < n := by simpa using hlt
    obtain ⟨x, y, hx, hy, fit⟩ := str.at (i := i.toNat) (by omega)
    obtain ⟨b, k, r, t, hp, ht, rfl, -, hat⟩ := (hc.kp0 hk).at h0 hlt
    rw [hx] at ht; cases ht
    refine ⟨b, k, hp, h0, hlt, _, hat 0 _ rfl, _, hat 1 _ rfl, _, hat 2 _ rfl, _, hat 3 _ rfl, _, hat 4 _ rfl, _, hat 5 _ rfl, XCall.by (c_instr_Check (fit.ok (by omega) (by omega))) ?_⟩
    rintro _ H14 ⟨rfl, hk14⟩
    rw [wrap_id (x := i + 1) (by omega)]
    exact ⟨_, rfl, fun g => by simp at g, fun _ => ⟨⟨by omega, by omega, hk.trans hk14⟩, by show (n - (i + 1)).toNat < (n - i).toNat; omega⟩⟩
  refine ⟨fun g => by simp at g, fun _ => ⟨hqn, fun a j H' => 0 ≤ j ∧ j ≤ m ∧ a = (if j = 0 then 0 else n) ∧ Kp [] H H', fun _ j _ => (m - j).toNat, ⟨by omega, by omega, rfl, hk⟩, ?_⟩⟩
  rintro a j H20 ⟨j0, j1, ha, hk20⟩
  refine ⟨fun hlt => ?_, fun hge => ⟨hc.nil, fun g => ⟨?_, hk20⟩, fun g => ⟨?_, hk20⟩⟩⟩
  · have hlt : j < m := by simpa using hlt
    obtain rfl : j = 0 := by omega
    rw [if_pos rfl] at ha
    subst ha
    rcases hu with hu | ⟨-, h1, h2⟩
    rotate_left
    · omega
    obtain ⟨b, k, s, q5, m5, d5, rfl, hrow, hns⟩ := (hu.kp hk20).is
    have hat := fun (j : Nat) (v : Value) hv => hrow.at (j := j) (v := v) hv
    refine ⟨b, k, rfl, by omega, hlt, _, hat 0 _ rfl, _, _, _, hat 1 _ rfl, _, _, _, hat 2 _ rfl, _, _, _, hat 3 _ rfl, _, _, _, hat 4 _ rfl, _, _, _, hat 5 _ rfl, _, _, _, hat 6 _ rfl, _, _, _, hat 7 _ rfl, _, _, _, hat 8 _ rfl, _, _, _, hat 9 _ rfl, ?_⟩
    refine XCall.by (c_emit_unit ⟨str, hc.kp0 hk20, hns⟩ _ _ _ _ _ _ _ _ _ _ _ _ _ _ _ _ _ _ _) ?_
    rintro _ H52 ⟨rfl, hk52⟩
    refine ⟨_, _, rfl, fun g => by simp at g, fun _ => ⟨⟨by rw [wrap_id (by omega)]; omega, by rw [wrap_id (by omega)]; omega, ?_, hk20.trans hk52⟩, ?_⟩⟩
    · rw [wrap_id (by omega), if_neg (by omega)]
    · rw [wrap_id (by omega)]; show ((m : Int) - ((0 : Int) + 1)).toNat < ((m : Int) - 0).toNat; omega
  · have hge : m ≤ j := by simpa using hge
    have g : ¬ a = n := by simpa using g
    by_cases hj : j = 0
    · rw [if_pos (by omega)]
    · rw [if_neg hj] at ha; exact absurd ha g
  · have hge : m ≤ j := by simpa using hge
    have g : a = n := by simpa using g
    by_cases hj : j = 0
    · rw [if_pos hj] at ha; omega
    · rw [if_neg (by omega)]

end Go.Lg
