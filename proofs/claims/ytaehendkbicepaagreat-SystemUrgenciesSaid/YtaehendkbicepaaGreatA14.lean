/- The logical machine, part 14: steps that change places. No condition. -/
import Derived.Test.YtaehendkbicepaaGreatA13
set_option linter.unusedVariables false
set_option linter.unusedSimpArgs false
namespace Go.Lg
variable {P : Program} {φ0 φ : Phi} {H0 H H' H2 Hn : LH} {w0 w w' : World} {e e' e2 : Env} {tmps : Array Value} {n base : Nat} {al : Option Nat} {pr : List Nat} {ops : Array Oper}

theorem notBox_of {d : Nat} (h : okDst n e (some d) = true) : isBox (e d) = false := by
  simp only [okDst, Bool.and_eq_true, Bool.not_eq_true'] at h; exact h.2

/-- A step that reads, carried out behind another one. -/
theorem after {ox : Oper} {ax : Nat} (hx : clo pr ox = .P ∨ clo pr ox = .R) {rx : LRes} (h : res P pr (some ax) ops ox e H = some rx) (hok : okRes n e ox.dst rx = true) {A : Env → Env} {di : Option Nat} (hA : Tr di e A) (hA1 : Tr di (actE ox.dst rx e) A)
    (h1 : ∀ d, ox.dst = some d → di ≠ some d) (h2 : ∀ d, di = some d → d ∉ ox.looksAt ops)
    (hR : clo pr ox = .R → ∃ d v, ox.dst = some d ∧ d ∉ ox.looksAt ops ∧ (A (actE ox.dst rx e)) d = .val v ∧ res P pr none ops ox (A (actE ox.dst rx e)) Hn = some (.val v Hn)) :
    ∃ rx', res P pr (some ax) ops ox (A e) Hn = some rx' ∧ okRes n (A e) ox.dst rx' = true ∧ actE ox.dst rx' (A e) = A (actE ox.dst rx e) ∧ rx'.heap Hn = Hn := by
  have hd := okRes_dst hok
  have hnb : ∀ t, ox.dst = some t → isBox (e t) = false := fun t ht => by rw [ht] at hd; exact notBox_of hd
  have hbx : ∀ d, ox.dst = some d → isBox (A e d) = isBox (e d) := fun d hd => (hA.lk d (h1 d hd)).isBox
  rcases hx with hx | hx
  · obtain ⟨f, hf, rfl, hp, hg⟩ := res_lk (.inl hx) h
    refine ⟨f Hn, hg (A e) Hn (fun t ht => hA.lk t (fun hh => h2 t hh ht)), ?_, ?_, (hp hx Hn).1⟩
    · rw [hf.ok ox.dst (A e) Hn H, okRes_of hbx]; exact hok
    · obtain ⟨y, hy⟩ := hf.at_ ox.dst H
      rw [hf.act ox.dst (A e) Hn H, hy, hy]
      exact (hA.comm ox.dst y hnb h1).symm
  · obtain ⟨hw, ⟨vx, rfl⟩, hal, -⟩ := res_R hx h
    obtain ⟨d, v, g1, g2, g3, g4⟩ := hR hx
    have e1d : actE ox.dst (.val vx H) e d = .val vx := by simp only [actE, g1, putE, upd_same]
    have hv : A (actE ox.dst (.val vx H) e) d = .val vx := by rw [hA1.keep d (h1 d g1) (by rw [e1d]; rfl)]; exact e1d
    rw [hv] at g3; cases g3
    have hr : res P pr none ops ox (A e) Hn = some (.val vx Hn) := by
      refine res_loc g4 (fun t ht => ?_) (fun t f cs ht => ?_) (fun hh => by rw [hx] at hh; cases hh)
      · have htd : t ≠ d := fun hh => g2 (hh ▸ ht)
        exact (hA.only _ t (by simp only [actE]; rw [putE_ne _ (by rw [g1]; intro hh; cases hh; exact htd rfl)]) (fun hh => h2 t hh ht)).symm
      · have htd : t ≠ d := fun hh => by rw [hh, hv] at ht; cases ht
        by_cases hdi : di = some t
        · rw [← ht]; exact (hA.at_ _ t hdi).symm
        · rw [← ht]; exact (hA.only _ t (by simp only [actE]; rw [putE_ne _ (by rw [g1]; intro hh; cases hh; exact htd rfl)]) hdi).symm
    refine ⟨.val vx Hn, (res_R hx hr).2.2.1 _, ?_, ?_, rfl⟩
    · show okDst n (A e) ox.dst = true
      rw [okDst_of hbx]; exact hd
    · exact (hA.comm ox.dst _ hnb h1).symm

theorem res_dead {o : Oper} {a b : Nat} {r : LRes} (h : res P pr (some a) ops o e H = some r) (hb : b ≠ a) (hn : H.get b = none) : (r.heap H).get b = none := by
  unfold res at h
  split at h
  · cases hc : clo pr o with
    | P => rw [withH_heap (lop_P hc (fun t _ => Lk.refl _) h).1]; exact hn
    | R => rw [withH_heap (lop_R hc h).1]; exact hn
    | A =>
      obtain ⟨q, rfl, -⟩ := lop_A hc h
      cases q with
      | inl cs => exact hn
      | inr q => obtain ⟨v, x⟩ := q; simp [mkA, LRes.heap, LH.put, hb, hn]
    | E =>
      have pt : ∀ {c : Nat} {x : LObj} {y : Option LObj}, H.get c = some x → (H.put c y).get b = none := fun {c x y} hc' => by
        have : b ≠ c := fun hh => by rw [hh, hc'] at hn; cases hn
        simp [LH.put, this, hn]
      have pa : ∀ {x : LObj}, (H.alloc (some a) x).get b = none := fun {x} => by simp [LH.alloc, LH.put, hb, hn]
      unfold clo at hc
      generalize o.op = op at h hc
      cases op <;> simp only [cls] at hc <;> try (first | (cases hc; done) | (split at hc <;> first | (cases hc; done) | (split at hc <;> cases hc; done)))
      all_goals try (simp [lopC] at h; done)
      case store t x y =>
        simp only [lopC] at h
        split at h
        · rename_i l v hx hv
          split at h
          · cases l with
            | heap c i =>
              simp only [wrC] at h
              split at h
              · rename_i cs sz hg
                split at h
                · cases h; exact pt hg
                · cases h
              · cases h
            | box s i => simp only [wrC] at h; (repeat' split at h) <;> first | (cases h; exact hn) | cases h
          · cases h
        · cases h
      case mapUpdate t m k x =>
        simp only [lopC] at h
        split at h
        · split at h
          · rename_i H' hu; cases h
            unfold updV at hu
            split at hu
            · split at hu
              · split at hu
                · rename_i es hg
                  cases hm : mapPut es _ _ with
                  | none => rw [hm] at hu; simp at hu
                  | some es' => rw [hm] at hu; simp at hu; subst hu; exact pt hg
                · cases hu
              · cases hu
            · cases hu
          · cases h
        · cases h
      case call c =>
        obtain ⟨callee, args, argTypes⟩ := c
        cases callee <;> simp only [lopC] at h <;> try (cases h; done)
        rename_i bi
        cases bi <;> simp only at hc h <;> try (first | (cases hc; done) | (cases h; done))
        case append =>
          split at h
          · split at h
            · split at h
              · split at h
                · split at h
                  · rename_i hap; cases h
                    unfold appV at hap
                    split at hap
                    · split at hap
                      · cases hap; exact hn
                      · split at hap
                        · split at hap
                          · split at hap
                            · cases hap; exact pa
                            · split at hap
                              · rename_i hg; cases hap
                                have := pt (y := none) hg
                                simp [LRes.heap, LH.alloc, LH.put, hb] at this ⊢
                                exact this
                              · cases hap
                          · cases hap; exact pa
                        · cases hap
                    · cases hap
                  · cases h
                · cases h
              · cases h
            · cases h
          · cases h
        case copy =>
          split at h
          · split at h
            · split at h
              · split at h
                · rename_i hap; cases h
                  unfold copyV at hap
                  split at hap
                  · dsimp only at hap
                    split at hap
                    · cases hap; exact hn
                    · split at hap
                      · split at hap
                        · rename_i hg
                          split at hap
                          · cases hap; exact pt hg
                          · cases hap
                        · cases hap
                      · cases hap
                  · cases hap
                · cases h
              · cases h
            · cases h
          · cases h
  · cases h; exact hn
  · cases h

theorem rechk_move {j : Nat} {oj : Oper} (hj : ops[j]? = some oj) (hc : clo pr oj = .R) (h : rechk P pr ops j e H) (h1 : ∀ t ∈ oj.looksAt ops, e2 t = e t) (h2 : BxOn e e2) (h3 : ∀ d, oj.dst = some d → e2 d = e d) : rechk P pr ops j e2 H := by
  unfold rechk at h ⊢
  rw [hj] at h ⊢
  obtain ⟨v, d, g1, g2, g3⟩ := h
  exact ⟨v, d, g1, by rw [h3 d g1]; exact g2, res_loc g3 h1 h2 (fun hh => by rw [hc] at hh; cases hh)⟩

theorem rechk_fresh {j : Nat} {oj : Oper} (hj : ops[j]? = some oj) (hc : clo pr oj = .R) (h : rechk P pr ops j e H) {id : Nat} {x : LObj} (hid : H.get id = none) : rechk P pr ops j e (H.put id (some x)) := by
  unfold rechk at h ⊢
  rw [hj] at h ⊢
  obtain ⟨v, d, g1, g2, g3⟩ := h
  exact ⟨v, d, g1, g2, (res_R hc g3).2.2.2 id x hid⟩

end Go.Lg
