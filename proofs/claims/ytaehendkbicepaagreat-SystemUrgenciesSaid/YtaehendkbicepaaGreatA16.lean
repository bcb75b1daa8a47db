/- The logical machine, part 16: a region whose order is drawn comes to what its canonical order comes to. No condition. -/
import Derived.Test.YtaehendkbicepaaGreatA15
set_option linter.unusedVariables false
set_option linter.unusedSimpArgs false
namespace Go.Lg
variable {P : Program} {φ0 φ : Phi} {H0 H H' H2 Hn : LH} {w0 w w' : World} {e e' e2 : Env} {tmps : Array Value} {n base : Nat} {al : Option Nat} {pr : List Nat} {ops : Array Oper}

def DS.strip (i : Nat) (x : DS) : DS := { x with as := x.as.filter (· != i) }

theorem stp_dead {o : Oper} {a b : Nat} {K : Env → LH → Prop} (h : stp P n pr (some a) ops o K e H) (hb : b ≠ a) (hn : H.get b = none) (hlt : b < H.next) : stp P n pr (some a) ops o (fun e' H' => H'.get b = none ∧ b < H'.next ∧ K e' H') e H := by
  by_cases hc : isCall o = true ∧ wantL ops e o = some true
  · obtain ⟨g, l, k1, k2, k3, k4⟩ := (stp_call hc.1 hc.2 _ _).1 h
    exact (stp_call hc.1 hc.2 _ _).2 ⟨g, l, k1, k2, k3, k4.mono fun v H' hnx hd hk => ⟨hd b hlt hn, by omega, hk⟩⟩
  · have hc' : isCall o = false ∨ wantL ops e o = some false := by
      cases hcc : isCall o with
      | false => exact .inl rfl
      | true =>
        right
        cases hww : wantL ops e o with
        | none => exfalso; have g5 := h; unfold stp at g5; rw [hww] at g5; exact g5
        | some t => cases t with
          | false => rfl
          | true => exact absurd ⟨hcc, hww⟩ hc
    have h2 := stp_mono h (K' := fun e' H' => H.next ≤ H'.next ∧ K e' H') (fun e' H' hnx hk => ⟨hnx, hk⟩)
    obtain ⟨r, k1, k2, k3, k4⟩ := (stp_res hc' _ _).1 h2
    exact (stp_res hc' _ _).2 ⟨r, k1, k2, res_dead k1 hb hn, by omega, k4⟩

def DS.only (s : DS) (p : Nat → Bool) : DS := { s with re := s.re.filter p }

/-- What is ahead of a step can change places with it, the steps between them gone. -/
def FOk (pr : List Nat) (ops : Array Oper) (s : DS) : List DS → Prop
  | [] => True
  | x :: p => swapOk pr ops x (s.only fun j => !(p.map (·.i)).contains j) = true ∧ FOk pr ops s p

theorem FOk.of {s : DS} : ∀ {pre : List DS}, (∀ q x p, pre = q ++ x :: p → swapOk pr ops x (s.only fun j => !(p.map (·.i)).contains j) = true) → FOk pr ops s pre
  | [], _ => trivial
  | x :: p, h => ⟨h [] x p rfl, FOk.of fun q y r hp => h (x :: q) y r (by rw [hp]; rfl)⟩

theorem swapOk_re {x s : DS} {f g : Nat → Bool} (h : swapOk pr ops x (s.only g) = true) (hfg : ∀ y ∈ s.re, f y = true → g y = true) (hx : x.i ∈ s.re → f x.i = true) : swapOk pr ops x (s.only f) = true := by
  have hi : ∀ f, (s.only f).i = s.i := fun _ => rfl
  have sub : ∀ y, y ∈ (s.only f).re → y ∈ (s.only g).re := by
    intro y hy
    obtain ⟨h1, h2⟩ := List.mem_filter.1 hy
    exact List.mem_filter.2 ⟨h1, hfg y h1 h2⟩
  unfold swapOk at h ⊢
  rw [hi] at h ⊢
  split at h
  · rename_i ox oi _ _
    simp only [Bool.and_eq_true, List.all_eq_true] at h ⊢
    obtain ⟨⟨⟨⟨h1, h5⟩, h6⟩, h7⟩, h8⟩ := h
    refine ⟨⟨⟨⟨h1, fun y hy => h5 y (sub y hy)⟩, h6⟩, ?_⟩, ?_⟩
    · rw [Bool.or_eq_true] at h7 ⊢
      rcases h7 with h7 | h7
      · exact .inl h7
      · right
        rw [List.isEmpty_iff] at h7 ⊢
        exact List.eq_nil_iff_forall_not_mem.2 fun y hy => by have := sub y hy; rw [h7] at this; cases this
    · split at h8 <;> try rfl
      all_goals try exact h8
      · rename_i hR hE
        simp only [Bool.and_eq_true] at h8 ⊢
        refine ⟨?_, h8.2⟩
        have h9 : x.i ∈ (s.only g).re := by simpa using h8.1
        have h10 : x.i ∈ s.re := (List.mem_filter.1 h9).1
        have : x.i ∈ (s.only f).re := List.mem_filter.2 ⟨h10, hx h10⟩
        simpa using this
  · cases h

theorem front {s : DS} {os : Oper} (hs : ops[s.i]? = some os) {K : Env → LH → Prop} (post : List DS) (pre : List DS) : ∀ (e : Env) (H : LH), FOk pr ops s pre → (pre.map (·.i)).Nodup → H.get (base + s.i) = none → base + s.i < H.next →
    drwR P n pr ops base (pre ++ s :: post) K e H →
    stp P n pr (some (base + s.i)) ops os (fun e1 H1 => (∀ j ∈ s.re.filter (fun j => !(pre.map (·.i)).contains j), rechk P pr ops j e1 H1) ∧ drwR P n pr ops base (pre.map (DS.strip s.i) ++ post) K e1 H1) e H := by
  induction pre with
  | nil =>
    intro e H _ _ _ _ h
    simp only [List.nil_append, drwR] at h
    rw [hs] at h
    refine stp_mono h.2 (fun e' H' _ hk => ⟨fun j hj => hk.1 j ((List.mem_filter.1 hj).1), hk.2⟩)
  | cons x pre ih =>
    intro e H hsw hnd hid hlt h
    have hx := hsw.1
    obtain ⟨ox, hox⟩ : ∃ ox, ops[x.i]? = some ox := by
      cases hox : ops[x.i]? with
      | some ox => exact ⟨ox, rfl⟩
      | none => unfold swapOk at hx; rw [hox] at hx; simp at hx
    have hne : x.i ≠ s.i := (swapOk_spec (s := s.only _) hox hs hx).1
    simp only [List.cons_append, drwR] at h
    rw [hox] at h
    obtain ⟨h1, h2⟩ := h
    simp only [List.map_cons, List.nodup_cons] at hnd
    have h3 := stp_dead h2 (b := base + s.i) (by omega) hid hlt
    have ih' : ∀ e1 H1, H1.get (base + s.i) = none → base + s.i < H1.next → drwR P n pr ops base (pre ++ s :: post) K e1 H1 →
        stp P n pr (some (base + s.i)) ops os (fun e1 H1 => (∀ j ∈ s.re.filter (fun j => !(pre.map (·.i)).contains j), rechk P pr ops j e1 H1) ∧ drwR P n pr ops base (pre.map (DS.strip s.i) ++ post) K e1 H1) e1 H1 :=
      fun e1 H1 k1 k2 k3 => ih e1 H1 hsw.2 hnd.2 k1 k2 k3
    generalize hLL : s.re.filter (fun j => !(pre.map (·.i)).contains j) = L at ih'
    have h4 : stp P n pr (some (base + x.i)) ops ox (fun e1 H1 => (∀ j ∈ x.re, rechk P pr ops j e1 H1) ∧ stp P n pr (some (base + s.i)) ops os (fun e2 H2 => (∀ j ∈ L, rechk P pr ops j e2 H2) ∧ drwR P n pr ops base (pre.map (DS.strip s.i) ++ post) K e2 H2) e1 H1) e H := by
      refine stp_mono h3 ?_
      rintro e1 H1 _ ⟨k1, k2, k3, k4⟩
      exact ⟨k3, ih' e1 H1 k1 k2 k4⟩
    have h5 := swap (s := s.only fun j => !(pre.map (·.i)).contains j) hox hs hx hid hlt (L := L) (fun j hj => by rw [← hLL] at hj; exact hj) (fun hm => by rw [← hLL]; exact hm) h1 h4
    refine stp_mono h5 (fun e1 H1 _ hk => ⟨fun j hj => ?_, ?_⟩)
    · obtain ⟨g1, g2⟩ := List.mem_filter.1 hj
      have g3 : j ≠ x.i ∧ j ∉ pre.map (·.i) := by simpa using g2
      exact hk.1 j (by rw [← hLL]; exact List.mem_filter.2 ⟨g1, by simpa using g3.2⟩) g3.1
    · simp only [List.map_cons, List.cons_append, drwR]
      have : (DS.strip s.i x).i = x.i := rfl
      rw [this, hox]
      refine ⟨fun a ha => ?_, hk.2.2⟩
      obtain ⟨g1, g2⟩ := List.mem_filter.1 ha
      exact hk.2.1 a g1 (by show a ≠ s.i; simpa using g2)

theorem drwR_strip (i : Nat) {K : Env → LH → Prop} : ∀ (l : List DS) (e : Env) (H : LH), drwR P n pr ops base l K e H → drwR P n pr ops base (l.map (DS.strip i)) K e H
  | [], e, H, h => h
  | x :: l, e, H, h => by
    simp only [List.map_cons, drwR] at h ⊢
    refine ⟨fun a ha => h.1 a (List.mem_filter.1 ha).1, ?_⟩
    have h2 := h.2
    show match ops[x.i]? with | some o => _ | none => _
    cases ho : ops[x.i]? with
    | none => rw [ho] at h2; exact h2
    | some o => rw [ho] at h2; exact stp_mono h2 (fun e' H' _ hk => ⟨hk.1, drwR_strip i l e' H' hk.2⟩)

theorem strip_strip (i : Nat) (x : DS) : DS.strip i (DS.strip i x) = DS.strip i x := by
  unfold DS.strip; simp

theorem swapOk_strip {x y : DS} {i : Nat} (h : swapOk pr ops x y = true) (hy : y.i ≠ i) : swapOk pr ops (DS.strip i x) (DS.strip i y) = true := by
  unfold swapOk at h ⊢
  have e1 : (DS.strip i x).i = x.i := rfl
  have e2 : (DS.strip i y).i = y.i := rfl
  rw [e1, e2]
  split at h
  · rename_i ox oy h1 h2
    simp only [Bool.and_eq_true] at h ⊢
    obtain ⟨⟨⟨⟨⟨⟨⟨g1, g2⟩, g3⟩, g4⟩, g5⟩, g6⟩, g7⟩, g8⟩ := h
    refine ⟨⟨⟨⟨⟨⟨⟨g1, g2⟩, g3⟩, ?_⟩, g5⟩, ?_⟩, g7⟩, ?_⟩
    · rw [List.all_eq_true] at g4 ⊢
      intro a ha
      exact g4 a (List.mem_filter.1 ha).1
    · simp only [Bool.or_eq_true, Bool.and_eq_true, List.isEmpty_iff] at g6 ⊢
      rcases g6 with g | g
      · exact .inl g
      · refine .inr ⟨g.1, ?_⟩
        show x.as.filter _ = []
        rw [g.2]; rfl
    · cases hc1 : clo pr ox <;> cases hc2 : clo pr oy <;> rw [hc1, hc2] at g8 <;> simp only [] at g8 ⊢ <;> try exact g8
      rw [List.contains_iff_mem] at g8 ⊢
      exact List.mem_filter.2 ⟨g8, by simpa using hy⟩
  · cases h

/-! ### who comes before whom -/
def preds (o : Oper) : List Nat := (o.after.toList.filter (Region.binds .any)).map (·.on)

/-- Sets of numbers, as bits. -/
def ancBit (acc : List Nat) (ds : List Nat) (m : Nat) : Nat := match ds with
  | [] => m
  | d :: r => ancBit acc r (m ||| 2 ^ d ||| acc.getD d 0)

def ancGo : List (List Nat) → List Nat → List Nat
  | [], acc => acc
  | ds :: r, acc => ancGo r (acc ++ [ancBit acc ds 0])

/-- All that must come before each operation. -/
def ancs (ops : Array Oper) : List Nat := ancGo (ops.toList.map preds) []

theorem ancBit_spec (acc : List Nat) : ∀ (ds : List Nat) (m x : Nat), (ancBit acc ds m).testBit x = true → m.testBit x = true ∨ ∃ d ∈ ds, x = d ∨ (acc.getD d 0).testBit x = true
  | [], m, x, h => .inl h
  | d :: r, m, x, h => by
    rcases ancBit_spec acc r _ x h with h | ⟨d', h1, h2⟩
    · rw [Nat.testBit_or, Nat.testBit_or, Bool.or_eq_true, Bool.or_eq_true, Nat.testBit_two_pow] at h
      rcases h with (h | h) | h
      · exact .inl h
      · exact .inr ⟨d, by simp, .inl (by simpa using h : d = x).symm⟩
      · exact .inr ⟨d, by simp, .inr h⟩
    · exact .inr ⟨d', by simp [h1], h2⟩

theorem ancGo_old : ∀ (es : List (List Nat)) (acc : List Nat) (j : Nat), j < acc.length → (ancGo es acc).getD j 0 = acc.getD j 0
  | [], acc, j, _ => rfl
  | ds :: r, acc, j, h => by
    simp only [ancGo]
    rw [ancGo_old r _ j (by simp; omega)]
    simp [List.getD, List.getElem?_append, h]

theorem ancGo_spec : ∀ (es : List (List Nat)) (acc : List Nat) (k x : Nat), k < es.length → ((ancGo es acc).getD (acc.length + k) 0).testBit x = true →
    ∃ d ∈ es.getD k [], x = d ∨ (d < acc.length + k ∧ ((ancGo es acc).getD d 0).testBit x = true)
  | [], acc, k, x, h, _ => by simp at h
  | ds :: r, acc, 0, x, _, hx => by
    simp only [ancGo, Nat.add_zero] at hx ⊢
    rw [ancGo_old r _ acc.length (by simp)] at hx
    have : (acc ++ [ancBit acc ds 0]).getD acc.length 0 = ancBit acc ds 0 := by simp [List.getD]
    rw [this] at hx
    rcases ancBit_spec acc ds 0 x hx with h | ⟨d, h1, h2⟩
    · simp at h
    · refine ⟨d, by simpa [List.getD] using h1, ?_⟩
      rcases h2 with h2 | h2
      · exact .inl h2
      · have hd : d < acc.length := by
          rcases Nat.lt_or_ge d acc.length with hh | hh
          · exact hh
          · rw [List.getD, List.getElem?_eq_none hh] at h2; simp at h2
        refine .inr ⟨hd, ?_⟩
        rw [ancGo_old r _ d (by simp; omega)]
        have : (acc ++ [ancBit acc ds 0]).getD d 0 = acc.getD d 0 := by simp [List.getD, List.getElem?_append, hd]
        rw [this]; exact h2
  | ds :: r, acc, k + 1, x, h, hx => by
    simp only [ancGo] at hx ⊢
    rw [show acc.length + (k + 1) = (acc ++ [ancBit acc ds 0]).length + k by simp; omega] at hx ⊢
    obtain ⟨d, h1, h2⟩ := ancGo_spec r (acc ++ [ancBit acc ds 0]) k x (by simpa using h) hx
    exact ⟨d, by simpa [List.getD] using h1, h2⟩

theorem ancs_spec {i : Nat} {o : Oper} (ho : ops[i]? = some o) {x : Nat} (hx : ((ancs ops).getD i 0).testBit x = true) : ∃ d ∈ preds o, x = d ∨ (d < i ∧ ((ancs ops).getD d 0).testBit x = true) := by
  have hi : i < ops.toList.length := by
    have := (Array.getElem?_eq_some_iff.1 ho).1; simpa using this
  obtain ⟨d, h1, h2⟩ := ancGo_spec (ops.toList.map preds) [] i x (by simpa using hi) (by simp only [List.length_nil, Nat.zero_add]; exact hx)
  have hp : (ops.toList.map preds).getD i [] = preds o := by
    simp [List.getD, ho]
  rw [hp] at h1
  simp only [List.length_nil, Nat.zero_add] at h2
  exact ⟨d, h1, h2⟩

theorem anc_listed {listed : Nat → Bool} (hcl : ∀ j o, ops[j]? = some o → listed j = true → ∀ d ∈ preds o, listed d = true) (hok : ∀ j o, ops[j]? = some o → ∀ d ∈ preds o, d < j) :
    ∀ (i : Nat) (o : Oper), ops[i]? = some o → (∀ d ∈ preds o, listed d = true) → ∀ x, ((ancs ops).getD i 0).testBit x = true → listed x = true := by
  intro i
  induction i using Nat.strongRecOn with
  | _ i ih =>
    intro o ho hp x hx
    obtain ⟨d, hd, h2⟩ := ancs_spec ho hx
    rcases h2 with rfl | ⟨hdi, hx2⟩
    · exact hp _ hd
    · cases hod : ops[d]? with
      | none =>
        have hds : ops.size ≤ d := by
          rcases Nat.lt_or_ge d ops.size with hh | hh
          · rw [Array.getElem?_eq_getElem hh] at hod; cases hod
          · exact hh
        have := (Array.getElem?_eq_some_iff.1 ho).1
        omega
      | some od => exact ih d hdi od hod (hcl d od hod (hp d hd)) x hx2

def posOf : List DS → Nat → Nat
  | [], _ => 0
  | x :: r, y => match Nat.beq x.i y with
    | true => 0
    | false => posOf r y + 1

/-- A look again that has gone by when `x` and `s` meet. -/
def gone (ops : Array Oper) (pos : Nat → Nat) (x s y : Nat) : Bool :=
  ((ancs ops).getD y 0).testBit x && Nat.blt (pos x) (pos y) && Nat.blt (pos y) (pos s) && Nat.blt y ops.size

def pairOk (pr : List Nat) (ops : Array Oper) (pos : Nat → Nat) (x s : DS) : Bool :=
  Nat.blt (pos x.i) (pos s.i) && (((ancs ops).getD s.i 0).testBit x.i || swapOk pr ops x (s.only fun y => !gone ops pos x.i s.i y))

/-- The canonical order may stand for every order. -/
def drawOk (pr : List Nat) (ops : Array Oper) (C : List DS) : Bool :=
  C.length == ops.size && (List.range ops.size).all (fun i => (C.map (·.i)).contains i) && (C.map (·.i)).all (fun i => decide (i < ops.size)) && decide ((C.map (·.i)).Nodup) &&
  ops.toList.zipIdx.all (fun (o, i) => (preds o).all (fun d => decide (d < i))) &&
  pairs (pairOk pr ops (posOf C)) C
where
  pairs (R : DS → DS → Bool) : List DS → Bool
    | [] => true
    | x :: l => l.all (R x) && pairs R l

theorem pairs_spec {R : DS → DS → Bool} : ∀ {l : List DS}, drawOk.pairs R l = true → l.Pairwise (fun a b => R a b = true)
  | [], _ => .nil
  | x :: l, h => by
    simp only [drawOk.pairs, Bool.and_eq_true, List.all_eq_true] at h
    exact .cons h.1 (pairs_spec h.2)

end Go.Lg
