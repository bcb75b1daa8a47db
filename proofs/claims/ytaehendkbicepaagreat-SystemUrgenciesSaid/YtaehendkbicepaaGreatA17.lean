/- The logical machine, part 17: regions, code and functions. No condition. -/
import Derived.Test.YtaehendkbicepaaGreatA16
set_option linter.unusedVariables false
set_option linter.unusedSimpArgs false
namespace Go.Lg
variable {P : Program} {φ0 φ : Phi} {H0 H H' H2 Hn : LH} {w0 w w' : World} {e e' e2 : Env} {tmps : Array Value} {n base : Nat} {al : Option Nat} {pr : List Nat} {ops : Array Oper}

theorem ready_mem {listed : Array Bool} {i : Nat} (h : i ∈ Region.ready .any ops listed) : i < ops.size ∧ listed.getD i true = false ∧ ∃ o, ops[i]? = some o ∧ ∀ d ∈ preds o, listed.getD d false = true := by
  unfold Region.ready at h
  obtain ⟨h1, h2⟩ := List.mem_filter.1 h
  have hi : i < ops.size := by simpa using h1
  simp only [Bool.and_eq_true, Bool.not_eq_true'] at h2
  obtain ⟨h3, h4⟩ := h2
  rw [Array.getElem?_eq_getElem hi] at h4
  simp only [Option.map_some, Option.getD_some, Array.all_eq_true_iff_forall_mem] at h4
  refine ⟨hi, h3, ops[i], Array.getElem?_eq_getElem hi, fun d hd => ?_⟩
  obtain ⟨e, he, rfl⟩ := List.mem_map.1 hd
  obtain ⟨he1, he2⟩ := List.mem_filter.1 he
  have := h4 e (by simpa using he1)
  simpa [he2] using this

theorem mem_ready {listed : Array Bool} {i : Nat} {o : Oper} (hi : ops[i]? = some o) (h1 : listed.getD i true = false) (h2 : ∀ d ∈ preds o, listed.getD d false = true) : i ∈ Region.ready .any ops listed := by
  unfold Region.ready
  have hlt := (Array.getElem?_eq_some_iff.1 hi).1
  refine List.mem_filter.2 ⟨by simpa using hlt, ?_⟩
  rw [hi]
  simp only [Bool.and_eq_true, Bool.not_eq_true', Option.map_some, Option.getD_some, Array.all_eq_true_iff_forall_mem]
  refine ⟨h1, fun e he => ?_⟩
  by_cases hb : Region.binds .any e = true
  · have := h2 e.on (List.mem_map.2 ⟨e, List.mem_filter.2 ⟨by simpa using he, hb⟩, rfl⟩)
    simp [this]
  · simp [hb]

theorem draw_any {K : Env → LH → Prop} {Q : Exit → Act → World → Prop} (hK : ∀ a w, Cz φ0 H0 w0 n (fun _ => False) K a w → Q .normal a w) (hback : ∀ j o, ops[j]? = some o → ∀ d ∈ preds o, d < j) :
    ∀ (pos : Nat → Nat) (fuel : Nat) (listed : Array Bool) (rs : List DS) (a : Act) (w : World), rs.length = fuel → listed.size = ops.size → (rs.map (·.i)).Nodup → (∀ x ∈ rs, x.i < ops.size) → (∀ i, i < ops.size → (listed.getD i true = false ↔ i ∈ rs.map (·.i))) →
      (∀ j o, ops[j]? = some o → listed.getD j false = true → ∀ d ∈ preds o, listed.getD d false = true) → rs.Pairwise (fun x s => pairOk pr ops pos x s = true) →
      Cz φ0 H0 w0 n (fun b => ∃ x ∈ rs, b = base + x.i) (drwR P n pr ops base rs K) a w → wpAny P .any ops Q fuel listed a w := by
  intro pos fuel
  induction fuel with
  | zero =>
    intro listed rs a w hlen hsz hnd hlt hl hcl hpw hc
    have : rs = [] := List.eq_nil_of_length_eq_zero hlen
    subst this
    refine ⟨?_, ?_⟩
    · apply List.eq_nil_iff_forall_not_mem.2
      intro i hi
      obtain ⟨h1, h2, -⟩ := ready_mem hi
      have := (hl i h1).1 h2
      simp at this
    · obtain ⟨h1, h2, φ, e, H, h3, h4, h5⟩ := hc
      exact hK a w ⟨h1, h2, φ, e, H, h3, fun b hb => hb.elim, h5⟩
  | succ fuel ih =>
    intro listed rs a w hlen hsz hnd hlt hl hcl hpw hc
    have lt_of : ∀ {i : Nat} {o : Oper}, ops[i]? = some o → i < ops.size := fun h => (Array.getElem?_eq_some_iff.1 h).1
    have conv : ∀ i, i < ops.size → (listed.getD i true = false ↔ listed.getD i false = false) := fun i hi => by
      have : i < listed.size := by omega
      simp [Array.getD, this]
    refine ⟨fun hr => ?_, ?_⟩
    · -- some operation is ready
      exfalso
      have key : ∀ i, i < ops.size → listed.getD i true = false → False := by
        intro i
        induction i using Nat.strongRecOn with
        | _ i ihi =>
          intro hi hli
          have ho : ops[i]? = some ops[i] := Array.getElem?_eq_getElem hi
          by_cases hall : ∀ d ∈ preds ops[i], listed.getD d false = true
          · have := mem_ready ho hli hall
            rw [hr] at this; cases this
          · simp only [Classical.not_forall, Bool.not_eq_true] at hall
            obtain ⟨d, hd, hdl⟩ := hall
            have hdi := hback i _ ho d hd
            exact ihi d hdi (by omega) ((conv d (by omega)).2 hdl)
      cases rs with
      | nil => simp at hlen
      | cons x l => exact key x.i (hlt x (by simp)) ((hl x.i (hlt x (by simp))).2 (by simp))
    · intro i hi
      obtain ⟨hi1, hi2, o, ho, hip⟩ := ready_mem hi
      have hmem := (hl i hi1).1 hi2
      obtain ⟨s, hs, hsi⟩ := List.mem_map.1 hmem
      obtain ⟨pre, post, rfl⟩ := List.append_of_mem hs
      subst hsi
      have hlisted : ∀ x, ((ancs ops).getD s.i 0).testBit x = true → listed.getD x false = true := anc_listed (listed := fun j => listed.getD j false) hcl hback s.i o ho hip
      have hsw : FOk pr ops s pre := by
        refine FOk.of fun q x p hqp => ?_
        subst hqp
        have hx : x ∈ q ++ x :: p := by simp
        have hp := (List.pairwise_append.1 hpw).2.2 x hx s (by simp)
        have hxl : x.i < ops.size := hlt x (by simp)
        have h2 := (hl x.i hxl).2 (by simp)
        have h3 := (conv x.i hxl).1 h2
        unfold pairOk at hp
        rw [Bool.and_eq_true, Bool.or_eq_true] at hp
        rcases hp.2 with hp2 | hp2
        · exfalso
          have h1 := hlisted x.i (by simpa using hp2)
          rw [h1] at h3; cases h3
        · refine swapOk_re hp2 ?_ ?_
          · intro y hy hyp
            have hyp : y ∉ p.map (·.i) := by simpa using hyp
            rw [Bool.not_eq_true']
            apply Classical.byContradiction
            intro hg
            have hg : gone ops pos x.i s.i y = true := by simpa using hg
            unfold gone at hg
            simp only [Bool.and_eq_true, Nat.blt_eq] at hg
            obtain ⟨⟨⟨g1, g2⟩, g3⟩, g4⟩ := hg
            have hyo : ops[y]? = some ops[y] := Array.getElem?_eq_getElem g4
            have hyl : listed.getD y false = false := by
              cases hh : listed.getD y false with
              | false => rfl
              | true =>
                have := anc_listed (listed := fun j => listed.getD j false) hcl hback y _ hyo (hcl y _ hyo hh) x.i g1
                rw [h3] at this; cases this
            have hym := (hl y g4).1 ((conv y g4).2 hyl)
            obtain ⟨z, hz, rfl⟩ := List.mem_map.1 hym
            have plt : ∀ {u v : DS}, pairOk pr ops pos u v = true → pos u.i < pos v.i := by
              intro u v huv
              unfold pairOk at huv
              rw [Bool.and_eq_true, Nat.blt_eq] at huv
              exact huv.1
            obtain ⟨pw1, pw2, pw3⟩ := List.pairwise_append.1 hpw
            obtain ⟨qw1, qw2, qw3⟩ := List.pairwise_append.1 pw1
            rcases List.mem_append.1 hz with hz | hz
            · rcases List.mem_append.1 hz with hz | hz
              · have := plt (qw3 z hz x (by simp)); omega
              · rcases List.mem_cons.1 hz with rfl | hz
                · omega
                · exact hyp (List.mem_map.2 ⟨z, hz, rfl⟩)
            · rcases List.mem_cons.1 hz with rfl | hz
              · omega
              · have := plt ((List.pairwise_cons.1 pw2).1 z hz); omega
          · intro _
            have : x.i ∉ p.map (·.i) := by
              have h5 := hnd
              rw [List.map_append, List.map_append, List.map_cons] at h5
              have h6 := (List.nodup_append.1 (List.nodup_append.1 h5).1).2.1
              exact (List.nodup_cons.1 h6).1
            simpa using this
      have hnd' : (pre.map (·.i)).Nodup := by
        rw [List.map_append] at hnd
        exact (List.nodup_append.1 hnd).1
      have hnotin : s.i ∉ pre.map (·.i) ∧ s.i ∉ post.map (·.i) := by
        rw [List.map_append, List.map_cons] at hnd
        obtain ⟨n1, n2, n3⟩ := List.nodup_append.1 hnd
        refine ⟨fun hh => n3 _ hh _ (List.mem_cons_self ..) rfl, (List.nodup_cons.1 n2).1⟩
      obtain ⟨c1, c2, φ, e, H, c3, c4, c5⟩ := hc
      have hSs := c4 (base + s.i) ⟨s, by simp, rfl⟩
      have hHs : H.get (base + s.i) = none := by
        cases hg : H.get (base + s.i) with
        | none => rfl
        | some x => obtain ⟨m, hm, -⟩ := c3.rel.live _ _ hg; rw [hSs.1] at hm; cases hm
      have hf := front ho post pre e H hsw hnd' hHs hSs.2.1 c5
      have hf2 := stp_mono hf (K' := fun e1 H1 => drwR P n pr ops base ((pre ++ post).map (DS.strip s.i)) K e1 H1) (fun e1 H1 _ hk => by
        have := drwR_strip s.i _ _ _ hk.2
        simp only [List.map_append, List.map_map] at this ⊢
        have e1 : (DS.strip s.i ∘ DS.strip s.i) = DS.strip s.i := funext (strip_strip s.i)
        rw [e1] at this; exact this)
      unfold wpOp
      rw [ho]
      have hids : ((pre ++ post).map (DS.strip s.i)).map (·.i) = (pre ++ post).map (·.i) := by
        rw [List.map_map]; rfl
      refine stp_sound (S := fun b => ∃ x ∈ pre ++ s :: post, b = base + x.i) (S' := fun b => ∃ x ∈ (pre ++ post).map (DS.strip s.i), b = base + x.i) (al := some (base + s.i)) c3 c1 c2 c4 (fun b hb => by cases hb; exact ⟨s, by simp, rfl⟩) ?_ hf2 ?_
      · rintro b ⟨x, hx, rfl⟩
        obtain ⟨x0, hx0, rfl⟩ := List.mem_map.1 hx
        have hne : x0.i ≠ s.i := by
          rcases List.mem_append.1 hx0 with hh | hh
          · exact fun hq => hnotin.1 (hq ▸ List.mem_map.2 ⟨x0, hh, rfl⟩)
          · exact fun hq => hnotin.2 (hq ▸ List.mem_map.2 ⟨x0, hh, rfl⟩)
        refine ⟨⟨x0, ?_, rfl⟩, ?_⟩
        · rcases List.mem_append.1 hx0 with hh | hh
          · simp [hh]
          · simp [hh]
        · have : (DS.strip s.i x0).i = x0.i := rfl
          rw [this]; intro hh; injection hh with hh; omega
      · intro a2 w2 hc2
        have hsub : (pre ++ post).Sublist (pre ++ s :: post) := List.Sublist.append (List.Sublist.refl _) (List.sublist_cons_self ..)
        refine ih (listed.setIfInBounds s.i true) ((pre ++ post).map (DS.strip s.i)) a2 w2 ?_ (by simpa using hsz) ?_ ?_ ?_ ?_ ?_ hc2
        · simp at hlen ⊢; omega
        · rw [hids]; exact hnd.sublist (hsub.map _)
        · intro x hx
          obtain ⟨x0, hx0, rfl⟩ := List.mem_map.1 hx
          exact hlt x0 (hsub.subset hx0)
        · intro j hj
          rw [hids]
          by_cases hjs : j = s.i
          · subst hjs
            have : s.i < listed.size := by omega
            constructor
            · intro hh; simp [Array.getD, this] at hh
            · intro hh
              rw [List.map_append, List.mem_append] at hh
              rcases hh with hh | hh
              · exact absurd hh hnotin.1
              · exact absurd hh hnotin.2
          · have h0 := hl j hj
            have hjl : j < listed.size := by omega
            have e1 : (listed.setIfInBounds s.i true).getD j true = listed.getD j true := by
              simp [Array.getD, hjl, Array.getElem_setIfInBounds, Ne.symm hjs]
            rw [e1, h0]
            simp only [List.map_append, List.map_cons, List.mem_append, List.mem_cons]
            constructor
            · rintro (h | h | h)
              · exact .inl h
              · exact absurd h hjs
              · exact .inr h
            · rintro (h | h)
              · exact .inl h
              · exact .inr (.inr h)
        · intro j oj hoj hlj d hd
          have hjl : j < listed.size := by have := lt_of hoj; omega
          have get : ∀ k, k < listed.size → ((listed.setIfInBounds s.i true).getD k false = true ↔ k = s.i ∨ listed.getD k false = true) := by
            intro k hk
            by_cases hks : k = s.i
            · subst hks; simp [Array.getD, hk]
            · simp [Array.getD, hk, Array.getElem_setIfInBounds, Ne.symm hks, hks]
          have hdl : d < listed.size := by have := hback j oj hoj d hd; omega
          rw [get d hdl]
          rcases (get j hjl).1 hlj with hh | hh
          · subst hh; rw [ho] at hoj; cases hoj; exact .inr (hip d hd)
          · exact .inr (hcl j oj hoj hh d hd)
        · rw [List.pairwise_map]
          have hp2 := hpw.sublist hsub
          refine (List.Pairwise.imp_of_mem ?_ hp2)
          intro x y hx hy hxy
          unfold pairOk at hxy ⊢
          rw [Bool.and_eq_true, Bool.or_eq_true] at hxy ⊢
          refine ⟨hxy.1, ?_⟩
          rcases hxy.2 with h | h
          · exact .inl h
          · refine .inr (swapOk_strip h ?_)
            rcases List.mem_append.1 hy with hh | hh
            · exact fun hq => hnotin.1 (hq ▸ List.mem_map.2 ⟨y, hh, rfl⟩)
            · exact fun hq => hnotin.2 (hq ▸ List.mem_map.2 ⟨y, hh, rfl⟩)

/-- A region whose order is drawn. -/
def drawR (P : Program) (n : Nat) (pr : List Nat) (ops : Array Oper) (C : List DS) (K : Env → LH → Prop) (e : Env) (H : LH) : Prop :=
  drawOk pr ops C = true ∧ drwR P n pr ops H.next C K e (H.keep ops.size)

theorem St.keep (h : St φ0 H0 w0 φ e H tmps w) (k : Nat) : St φ0 H0 w0 φ e (H.keep k) tmps w :=
  ⟨⟨h.fr.os, h.fr.tape, h.fr.output, h.fr.size, h.fr.ext, Nat.le_trans h.fr.next (Nat.le_add_right _ _), h.fr.same, h.fr.im, h.fr.wr⟩, ⟨fun b m hb => ⟨Nat.lt_of_lt_of_le (h.rel.dom b m hb).1 (Nat.le_add_right _ _), (h.rel.dom b m hb).2⟩, h.rel.live, h.rel.sep⟩, ⟨h.env.val, h.env.box, h.env.ref, h.env.apart⟩, h.old, h.dead⟩

theorem drawR_sound {K : Env → LH → Prop} {Q : Exit → Act → World → Prop} (hm : P.follows .mixedOrders = true) (hK : ∀ a w, Cz φ0 H0 w0 n (fun _ => False) K a w → Q .normal a w) {C : List DS} {id : Nat} {a : Act} {w : World}
    (h : Cz φ0 H0 w0 n (fun _ => False) (drawR P n pr ops C K) a w) : (Code.region id ops true).wp P Q a w := by
  obtain ⟨c1, c2, φ, e, H, c3, c4, c5, c6⟩ := h
  simp only [drawOk, Bool.and_eq_true, beq_iff_eq, List.all_eq_true, decide_eq_true_eq] at c5
  obtain ⟨⟨⟨⟨⟨d1, d2⟩, d3⟩, d4⟩, d5⟩, d6⟩ := c5
  refine wp_region_any hm ?_
  have hback : ∀ j o, ops[j]? = some o → ∀ d ∈ preds o, d < j := by
    intro j o ho d hd
    have hj := (Array.getElem?_eq_some_iff.1 ho)
    have := d5 (o, j) (by
      rw [List.mem_zipIdx_iff_getElem?]
      simpa using ho) d hd
    simpa using this
  refine draw_any (base := H.next) (K := K) (pr := pr) hK hback (posOf C) ops.size _ C a _ d1 (by simp) d4 (fun x hx => by have := d3 x.i (List.mem_map.2 ⟨x, hx, rfl⟩); simpa using this) ?_ ?_ ?_ ?_
  · intro i hi
    have h1 := d2 i (by simpa using hi)
    constructor
    · intro _; simpa using h1
    · intro _; simp [Array.getD, hi]
  · intro j o ho hl
    simp [Array.getD] at hl
  · exact pairs_spec d6
  · refine ⟨c1, c2, φ, e, H.keep ops.size, (c3.drawn _).keep _, ?_, c6⟩
    rintro b ⟨x, hx, rfl⟩
    have hxl : x.i < ops.size := by have := d3 x.i (List.mem_map.2 ⟨x, hx, rfl⟩); simpa using this
    refine ⟨?_, by simp [LH.keep]; omega, by have := c3.fr.next; omega⟩
    cases hp : φ (H.next + x.i) with
    | none => rfl
    | some m => have := (c3.rel.dom _ m hp).1; omega

end Go.Lg
