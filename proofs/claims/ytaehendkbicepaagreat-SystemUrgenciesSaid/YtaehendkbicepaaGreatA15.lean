/- The logical machine, part 15: the swap. No condition. -/
import Derived.Test.YtaehendkbicepaaGreatA14
set_option linter.unusedVariables false
set_option linter.unusedSimpArgs false
namespace Go.Lg
variable {P : Program} {φ0 φ : Phi} {H0 H H' H2 Hn : LH} {w0 w w' : World} {e e' e2 : Env} {tmps : Array Value} {n base : Nat} {al : Option Nat} {pr : List Nat} {ops : Array Oper}

theorem xfwd {ox : Oper} {ax id : Nat} (hne : ax ≠ id) (hid : H.get id = none) {rx : LRes} (h : res P pr (some ax) ops ox e H = some rx) (hok : okRes n e ox.dst rx = true) {f : LH → LRes} (hf : Fn id f) {y : EV} {ds : Option Nat}
    (hds : okDst n e ds = true) (p2 : ∀ d, ox.dst = some d → ds ≠ some d) (p3 : ∀ d, ds = some d → d ∉ ox.looksAt ops) (hfR : clo pr ox = .R ∨ clo pr ox = .P ∨ clo pr ox = .A ∨ clo pr ox = .E) :
    ∃ rx', res P pr (some ax) ops ox (putE e ds y) ((f H).heap H) = some rx' ∧ okRes n (putE e ds y) ox.dst rx' = true ∧ actE ox.dst rx' (putE e ds y) = putE (actE ox.dst rx e) ds y ∧ rx'.heap ((f H).heap H) = (f (rx.heap H)).heap (rx.heap H) := by
  have hloc : res P pr (some ax) ops ox (putE e ds y) H = some rx := res_loc h (fun t ht => putE_ne y (fun hh => p3 t hh ht)) (BxOn.putE y hds) (fun _ hh => by cases hh)
  have hokx : ∀ r, okRes n (putE e ds y) ox.dst r = okRes n e ox.dst r := fun r => okRes_of (fun d hd => isBox_putE y (p2 d hd))
  have hcomm : actE ox.dst rx (putE e ds y) = putE (actE ox.dst rx e) ds y := (Tr.act (res_skip h)).comm ds y (fun t ht => by rw [ht] at hds; exact notBox_of hds) (fun t ht hh => p2 t hh ht)
  rcases hf.heap with hh | ⟨o, hh⟩
  · rw [hh, hh]; exact ⟨rx, hloc, by rw [hokx]; exact hok, hcomm, rfl⟩
  · rw [hh, hh]
    have hPA : (clo pr ox = .P ∨ clo pr ox = .A) → ∃ rx', res P pr (some ax) ops ox (putE e ds y) (H.put id (some o)) = some rx' ∧ okRes n (putE e ds y) ox.dst rx' = true ∧ actE ox.dst rx' (putE e ds y) = putE (actE ox.dst rx e) ds y ∧ rx'.heap (H.put id (some o)) = (rx.heap H).put id (some o) := by
      intro hc
      obtain ⟨g, hg, rfl, -, hgg⟩ := res_lk hc hloc
      refine ⟨g (H.put id (some o)), hgg _ _ (fun t _ => Lk.refl _), ?_, ?_, ?_⟩
      · rw [hokx, hg.ok ox.dst e _ H]; exact hok
      · rw [hg.act ox.dst _ _ H]; exact hcomm
      · rcases hg.heap with k | ⟨o', k⟩
        · rw [k, k]
        · rw [k, k, put_comm _ (Ne.symm hne)]
    rcases hfR with hc | hc | hc | hc
    · obtain ⟨k1, ⟨v, rfl⟩, -, k2⟩ := res_R hc hloc
      refine ⟨_, k2 id o hid, ?_, ?_, rfl⟩
      · rw [hokx]; exact hok
      · exact hcomm
    · exact hPA (.inl hc)
    · exact hPA (.inr hc)
    · refine ⟨_, res_E hc hne hid o hloc, ?_, ?_, ?_⟩
      · rw [hokx]; cases rx <;> exact hok
      · rw [← hcomm]
        cases rx with
        | skip b H1 => cases b <;> rfl
        | _ => rfl
      · cases rx <;> rfl

/-- What the look at two steps gives. -/
theorem swapOk_spec {x s : DS} {ox os : Oper} (hx : ops[x.i]? = some ox) (hs : ops[s.i]? = some os) (h : swapOk pr ops x s = true) :
    x.i ≠ s.i ∧ ox.apart ops os = true ∧ (∀ y ∈ x.re, ∃ oy, ops[y]? = some oy ∧ clearOf ops os oy = true ∧ clo pr oy = .R) ∧ (∀ y ∈ x.as, ∃ oy, ops[y]? = some oy ∧ (y = s.i ∨ clearOf ops os oy = true) ∧ clo pr oy = .A) ∧
    (∀ y ∈ s.re, y = x.i ∨ ∃ oy, ops[y]? = some oy ∧ clearOf ops ox oy = true ∧ clo pr oy = .R) ∧ (clo pr ox ≠ .E → x.re = [] ∧ x.as = []) ∧ (clo pr os ≠ .E → s.re = []) ∧
    (((clo pr ox = .P ∨ clo pr ox = .R) ∧ (clo pr os = .P ∨ clo pr os = .R)) ∨ (clo pr ox = .P ∧ clo pr os = .E) ∨ (clo pr ox = .R ∧ clo pr os = .E ∧ x.i ∈ s.re ∧ ∃ d, ox.dst = some d ∧ d ∉ ox.looksAt ops) ∨
      ((clo pr ox = .P ∨ clo pr ox = .R ∨ clo pr ox = .A) ∧ clo pr os = .A) ∨ (clo pr ox = .E ∧ clo pr os = .A ∧ s.i ∈ x.as)) := by
  unfold swapOk at h
  rw [hx, hs] at h
  simp only [Bool.and_eq_true, List.all_eq_true, bne_iff_ne, ne_eq] at h
  obtain ⟨⟨⟨⟨⟨⟨⟨h1, h2⟩, h3⟩, h4⟩, h5⟩, h6⟩, h7⟩, h8⟩ := h
  refine ⟨h1, h2, ?_, ?_, ?_, ?_, ?_, ?_⟩
  · intro y hy
    have := h3 y hy
    split at this
    · rename_i oy hoy
      simp only [Bool.and_eq_true, beq_iff_eq] at this
      exact ⟨oy, hoy, this.1.1, this.1.2⟩
    · cases this
  · intro y hy
    have := h4 y hy
    split at this
    · rename_i oy hoy
      simp only [Bool.and_eq_true, beq_iff_eq, Bool.or_eq_true] at this
      exact ⟨oy, hoy, this.1.1, this.1.2⟩
    · cases this
  · intro y hy
    have := h5 y hy
    simp only [Bool.or_eq_true, beq_iff_eq] at this
    rcases this with this | this
    · exact .inl this
    · right
      split at this
      · rename_i oy hoy
        simp only [Bool.and_eq_true, beq_iff_eq] at this
        exact ⟨oy, hoy, this.1.1, this.1.2⟩
      · cases this
  · intro hne
    simp only [Bool.or_eq_true, beq_iff_eq, Bool.and_eq_true, List.isEmpty_iff] at h6
    exact h6.resolve_left hne
  · intro hne
    simp only [Bool.or_eq_true, beq_iff_eq, List.isEmpty_iff] at h7
    exact h7.resolve_left hne
  · cases hcx : clo pr ox <;> cases hcs : clo pr os <;> rw [hcx, hcs] at h8 <;> simp only [Bool.and_eq_true, List.contains_iff_mem] at h8 <;> try (cases h8; done)
    · exact .inl ⟨.inl rfl, .inl rfl⟩
    · exact .inl ⟨.inl rfl, .inr rfl⟩
    · exact .inr (.inr (.inr (.inl ⟨.inl rfl, rfl⟩)))
    · exact .inr (.inl ⟨rfl, rfl⟩)
    · exact .inl ⟨.inr rfl, .inl rfl⟩
    · exact .inl ⟨.inr rfl, .inr rfl⟩
    · exact .inr (.inr (.inr (.inl ⟨.inr (.inl rfl), rfl⟩)))
    · refine .inr (.inr (.inl ⟨rfl, rfl, h8.1, ?_⟩))
      have := h8.2
      split at this
      · rename_i d hd
        exact ⟨d, hd, by simpa using this⟩
      · cases this
    · exact .inr (.inr (.inr (.inl ⟨.inr (.inr rfl), rfl⟩)))
    · exact .inr (.inr (.inr (.inr ⟨rfl, rfl, h8⟩)))

theorem swap {x s : DS} {ox os : Oper} (hx : ops[x.i]? = some ox) (hs : ops[s.i]? = some os) (hsw : swapOk pr ops x s = true) (hid : H.get (base + s.i) = none) (hlt : base + s.i < H.next) {L : List Nat} (hL : ∀ j ∈ L, j ∈ s.re) (hLx : x.i ∈ s.re → x.i ∈ L) {K2 : Env → LH → Prop}
    (hpre : ∀ a ∈ x.as, preA P n pr ops base a e H)
    (h : stp P n pr (some (base + x.i)) ops ox (fun e1 H1 => (∀ j ∈ x.re, rechk P pr ops j e1 H1) ∧ stp P n pr (some (base + s.i)) ops os (fun e2 H2 => (∀ j ∈ L, rechk P pr ops j e2 H2) ∧ K2 e2 H2) e1 H1) e H) :
    stp P n pr (some (base + s.i)) ops os (fun e1 H1 => (∀ j ∈ L, j ≠ x.i → rechk P pr ops j e1 H1) ∧ (∀ a ∈ x.as, a ≠ s.i → preA P n pr ops base a e1 H1) ∧
      stp P n pr (some (base + x.i)) ops ox (fun e2 H2 => (∀ j ∈ x.re, rechk P pr ops j e2 H2) ∧ K2 e2 H2) e1 H1) e H := by
  obtain ⟨hne, hap, hxre, hxas, hsre, hxE, hsE, hcls⟩ := swapOk_spec hx hs hsw
  obtain ⟨p1, p2, p3⟩ := Oper.apart_spec hap
  have hidne : base + x.i ≠ base + s.i := by omega
  -- what the first step leaves of the environment, seen by the second
  have lkx : ∀ {A : Env → Env}, Tr ox.dst e A → ∀ t ∈ os.looksAt ops, Lk (e t) (A e t) := fun hA t ht => hA.lk t (fun hh => p1 t hh ht)
  -- the second step's slot is no box before and behind the first
  have bx2 : ∀ {A : Env → Env}, Tr ox.dst e A → ∀ d, os.dst = some d → isBox (A e d) = isBox (e d) := fun hA d hd => (hA.lk d (fun hh => p2 d hh hd)).isBox
  -- the checks of an environment that differ by the second step's slot
  have rmove : ∀ {e1 : Env} {H1 : LH} {y : EV}, okDst n e1 os.dst = true → (∀ j ∈ x.re, rechk P pr ops j e1 H1) → ∀ j ∈ x.re, rechk P pr ops j (putE e1 os.dst y) H1 := by
    intro e1 H1 y hok hr j hj
    obtain ⟨oy, hoy, hapy, hcy⟩ := hxre j hj
    obtain ⟨q1, q2⟩ := clearOf_spec hapy
    exact rechk_move hoy hcy (hr j hj) (fun t ht => putE_ne y (fun hh => q1 t hh ht)) (BxOn.putE y hok) (fun d hd => putE_ne y (fun hh => q2 d hh hd))
  have pmove : ∀ {f : LH → LRes} {y : EV}, Fn (base + s.i) f → (∀ a ∈ x.as, a ≠ s.i → preA P n pr ops base a (putE e os.dst y) ((f H).heap H)) := by
    intro f y hf a ha hai
    obtain ⟨oy, hoy, hor, hcy⟩ := hxas a ha
    obtain ⟨q1, q2⟩ := clearOf_spec (hor.resolve_left hai)
    have := hpre a ha
    unfold preA at this ⊢
    rw [hoy] at this ⊢
    obtain ⟨r, g1, g2⟩ := this
    obtain ⟨fa, hfa, rfl, -, hga⟩ := res_lk (.inr hcy) g1
    refine ⟨_, hga _ _ (fun t ht => by rw [putE_ne y (fun hh => q1 t hh ht)]; exact Lk.refl _), ?_⟩
    rw [hfa.ok oy.dst _ _ H, okRes_of (fun d hd => isBox_putE y (fun hh => q2 d hh hd))]; exact g2
  -- the second step makes something or reads; the first is no call that is carried out
  have caseF : (isCall ox = false ∨ wantL ops e ox = some false) → clo pr os ≠ .E → (clo pr ox = .R ∨ clo pr ox = .P ∨ clo pr ox = .A ∨ clo pr ox = .E) →
      (∀ rx, res P pr (some (base + x.i)) ops ox e H = some rx → ∀ rs, res P pr (some (base + s.i)) ops os (actE ox.dst rx e) (rx.heap H) = some rs → ∃ f, Fn (base + s.i) f ∧ rs = f (rx.heap H) ∧ res P pr (some (base + s.i)) ops os e H = some (f H)) →
      stp P n pr (some (base + s.i)) ops os (fun e1 H1 => (∀ j ∈ L, j ≠ x.i → rechk P pr ops j e1 H1) ∧ (∀ a ∈ x.as, a ≠ s.i → preA P n pr ops base a e1 H1) ∧
        stp P n pr (some (base + x.i)) ops ox (fun e2 H2 => (∀ j ∈ x.re, rechk P pr ops j e2 H2) ∧ K2 e2 H2) e1 H1) e H := by
    intro hcx hcs hclx hF
    have hLe : L = [] := by
      have := hsE hcs
      cases L with
      | nil => rfl
      | cons j L => have := hL j (by simp); rw [hsE hcs] at this; cases this
    obtain ⟨rx, g1, g2, g3, g4⟩ := (stp_res hcx _ _).1 h
    have hsc := notCall hcs
    obtain ⟨rs, k1, k2, k3, k4⟩ := (stp_res (.inl hsc) _ _).1 g4
    obtain ⟨f, hf, rfl, hfe⟩ := hF rx g1 rs k1
    have hTr : Tr ox.dst e (actE ox.dst rx) := Tr.act (res_skip g1)
    have hoks : okRes n e os.dst (f H) = true := by
      rw [hf.ok os.dst e H (rx.heap H), ← okRes_of (bx2 hTr)]; exact k2
    obtain ⟨y, hy⟩ := hf.at_ os.dst H
    obtain ⟨rx', m1, m2, m3, m4⟩ := xfwd (ops := ops) hidne hid g1 g2 hf (y := y) (okRes_dst hoks) p2 p3 hclx
    refine (stp_res (.inl hsc) _ _).2 ⟨f H, hfe, hoks, ?_⟩
    rw [hy]
    refine ⟨by rw [hLe]; simp, pmove hf, ?_⟩
    have hwx : wantL ops (putE e os.dst y) ox = wantL ops e ox := wantL_lk (fun t ht => by rw [putE_ne y (fun hh => p3 t hh ht)]; exact Lk.refl _)
    refine (stp_res (by rw [hwx]; exact hcx) _ _).2 ⟨rx', m1, m2, ?_⟩
    rw [m3, m4]
    have henv : putE (actE ox.dst rx e) os.dst y = actE os.dst (f (rx.heap H)) (actE ox.dst rx e) := by
      rw [hf.act os.dst _ _ H, hy]
    refine ⟨?_, by rw [henv]; exact k4⟩
    have hr1 := rmove (y := y) (by rw [okDst_of (bx2 hTr)]; exact okRes_dst hoks) g3
    rcases hf.heap with hh | ⟨o, hh⟩
    · rw [hh]; exact hr1
    · rw [hh]
      intro j hj
      obtain ⟨oy, hoy, hapy, hcy⟩ := hxre j hj
      exact rechk_fresh hoy hcy (hr1 j hj) (res_dead g1 (Ne.symm hidne) hid)
  -- the second step writes or calls; the first reads
  have caseE : (clo pr ox = .P ∨ clo pr ox = .R) → clo pr os = .E → (clo pr ox = .R → x.i ∈ s.re ∧ ∃ d, ox.dst = some d ∧ d ∉ ox.looksAt ops) →
      stp P n pr (some (base + s.i)) ops os (fun e1 H1 => (∀ j ∈ L, j ≠ x.i → rechk P pr ops j e1 H1) ∧ (∀ a ∈ x.as, a ≠ s.i → preA P n pr ops base a e1 H1) ∧
        stp P n pr (some (base + x.i)) ops ox (fun e2 H2 => (∀ j ∈ x.re, rechk P pr ops j e2 H2) ∧ K2 e2 H2) e1 H1) e H := by
    intro hcx hcs hR
    have hxn : clo pr ox ≠ .E := by rcases hcx with h | h <;> rw [h] <;> intro hh <;> cases hh
    obtain ⟨hre, has⟩ := hxE hxn
    have hxc := notCall hxn
    obtain ⟨rx, g1, g2, g3, g4⟩ := (stp_res (.inl hxc) _ _).1 h
    have hplain : rx.heap H = H ∧ rx.plain = true := by
      rcases hcx with hc | hc
      · obtain ⟨f, hf, rfl, hp, -⟩ := res_lk (.inl hc) g1; exact hp hc H
      · obtain ⟨-, ⟨v, rfl⟩, -⟩ := res_R hc g1; exact ⟨rfl, rfl⟩
    rw [hplain.1] at g3 g4
    have hTr : Tr ox.dst e (actE ox.dst rx) := Tr.act (res_skip g1)
    obtain ⟨xx, hxx, hxb⟩ : ∃ xx, actE ox.dst rx e = putE e ox.dst xx ∧ isBox xx = false := by
      cases rx with
      | val v H1 => exact ⟨_, rfl, rfl⟩
      | ref s i => exact ⟨_, rfl, rfl⟩
      | box cs => cases hplain.2
      | skip b H1 => cases hplain.2
    have hw : wantL ops (actE ox.dst rx e) os = wantL ops e os := wantL_lk (lkx hTr)
    have hdok : okDst n (actE ox.dst rx e) os.dst = okDst n e os.dst := okDst_of (bx2 hTr)
    -- behind the second step
    have tail : ∀ {A : Env → Env} {Hn : LH}, Tr os.dst e A → Tr os.dst (actE ox.dst rx e) A → (∀ j ∈ L, rechk P pr ops j (A (actE ox.dst rx e)) Hn) ∧ K2 (A (actE ox.dst rx e)) Hn →
        (∀ j ∈ L, j ≠ x.i → rechk P pr ops j (A e) Hn) ∧ (∀ a ∈ x.as, a ≠ s.i → preA P n pr ops base a (A e) Hn) ∧ stp P n pr (some (base + x.i)) ops ox (fun e2 H2 => (∀ j ∈ x.re, rechk P pr ops j e2 H2) ∧ K2 e2 H2) (A e) Hn := by
      intro A Hn hA hA1 hk
      have same : ∀ t, ox.dst ≠ some t → A (actE ox.dst rx e) t = A e t := fun t ht => by
        by_cases hd : os.dst = some t
        · exact hA.at_ _ t hd
        · exact hA.only _ t (by rw [hxx, putE_ne xx ht]) hd
      have nbx : ∀ t, ox.dst = some t → isBox (A (actE ox.dst rx e) t) = false := fun t ht => by
        have h0 : isBox (actE ox.dst rx e t) = false := by rw [hxx, ht]; simp only [putE, upd_same]; exact hxb
        rw [hA1.keep t (p2 t ht) h0]; exact h0
      have bxo : BxOn (A (actE ox.dst rx e)) (A e) := by
        intro t f cs ht
        have : ox.dst ≠ some t := fun hh => by have := nbx t hh; rw [ht] at this; cases this
        rw [← same t this]; exact ht
      refine ⟨fun j hj hjx => ?_, by rw [has]; simp, ?_⟩
      · obtain ⟨oy, hoy, hapy, hcy⟩ := (hsre j (hL j hj)).resolve_left hjx
        obtain ⟨q1, q2⟩ := clearOf_spec hapy
        exact rechk_move hoy hcy (hk.1 j hj) (fun t ht => (same t (fun hh => q1 t hh ht)).symm) bxo (fun d hd => (same d (fun hh => q2 d hh hd)).symm)
      · obtain ⟨rx', m1, m2, m3, m4⟩ := after (Hn := Hn) hcx g1 g2 hA hA1 p2 p3 (fun hcR => by
          obtain ⟨hmem, d, hd, hdl⟩ := hR hcR
          have hrk := hk.1 x.i (hLx hmem)
          unfold rechk at hrk
          rw [hx] at hrk
          obtain ⟨v, d', k1, k2, k3⟩ := hrk
          rw [hd] at k1; cases k1
          exact ⟨d, v, hd, hdl, k2, k3⟩)
        refine (stp_res (.inl hxc) _ _).2 ⟨rx', m1, m2, ?_⟩
        rw [m3, m4, hre]
        exact ⟨by simp, hk.2⟩
    by_cases hsc : isCall os = true ∧ wantL ops e os = some true
    · obtain ⟨g, l, k1, k2, k3, k4⟩ := (stp_call hsc.1 (by rw [hw]; exact hsc.2) _ _).1 g4
      refine (stp_call hsc.1 hsc.2 _ _).2 ⟨g, l, by rw [← callOf_lk (lkx hTr)]; exact k1, k2, by rw [← hdok]; exact k3, k4.mono fun v H' _ _ hk => ?_⟩
      exact tail (A := fun e => putE e os.dst (.val v)) (Tr.put _) (Tr.put _) hk
    · have hsc' : isCall os = false ∨ wantL ops e os = some false := by
        cases hc : isCall os with
        | false => exact .inl rfl
        | true =>
          right
          cases hww : wantL ops e os with
          | none =>
            exfalso
            have g5 := g4
            unfold stp at g5
            rw [hw, hww] at g5; exact g5
          | some b => cases b with
            | false => rfl
            | true => exact absurd ⟨hc, hww⟩ hsc
      obtain ⟨rs, k1, k2, k3⟩ := (stp_res (by rw [hw]; exact hsc') _ _).1 g4
      have k1' : res P pr (some (base + s.i)) ops os e H = some rs := by
        refine res_loc k1 (fun t ht => ?_) ?_ (fun hh => by rw [hcs] at hh; cases hh)
        · rw [hxx, putE_ne xx (fun hh => p1 t hh ht)]
        · rw [hxx]; exact BxOn.unput hxb
      refine (stp_res hsc' _ _).2 ⟨rs, k1', by rw [← okRes_of (bx2 hTr)]; exact k2, ?_⟩
      exact tail (Tr.act (res_skip k1')) (Tr.act (res_skip k1)) k3
  rcases hcls with ⟨hcx, hcs⟩ | ⟨hcx, hcs⟩ | ⟨hcx, hcs, hm, hd⟩ | ⟨hcx, hcs⟩ | ⟨hcx, hcs, hm⟩
  · -- both read
    have hxn : clo pr ox ≠ .E := by rcases hcx with h | h <;> rw [h] <;> intro hh <;> cases hh
    have hsn : clo pr os ≠ .E := by rcases hcs with h | h <;> rw [h] <;> intro hh <;> cases hh
    refine caseF (.inl (notCall hxn)) hsn (by rcases hcx with h | h <;> simp [h]) ?_
    intro rx g1 rs g2
    have hTr : Tr ox.dst e (actE ox.dst rx) := Tr.act (res_skip g1)
    rcases hcs with hcs | hcs
    · obtain ⟨f, hf, rfl, -, hg⟩ := res_lk (.inl hcs) g2
      exact ⟨f, hf, rfl, hg e H (fun t ht => (lkx hTr t ht).symm)⟩
    · obtain ⟨-, ⟨v, rfl⟩, -⟩ := res_R hcs g2
      have hplain : rx.heap H = H ∧ rx.plain = true := by
        rcases hcx with hc | hc
        · obtain ⟨f, hf, rfl, hp, -⟩ := res_lk (.inl hc) g1; exact hp hc H
        · obtain ⟨-, ⟨v, rfl⟩, -⟩ := res_R hc g1; exact ⟨rfl, rfl⟩
      refine ⟨fun H => .val v H, .val v, rfl, ?_⟩
      rw [hplain.1] at g2
      refine res_loc g2 (fun t ht => ?_) ?_ (fun hh => by rw [hcs] at hh; cases hh)
      · cases rx with
        | val v H1 => exact (putE_ne _ (fun hh => p1 t hh ht)).symm
        | ref s i => exact (putE_ne _ (fun hh => p1 t hh ht)).symm
        | box cs => cases hplain.2
        | skip b H1 => cases hplain.2
      · cases rx with
        | val v H1 => exact BxOn.unput rfl
        | ref s i => exact BxOn.unput rfl
        | box cs => cases hplain.2
        | skip b H1 => cases hplain.2
  · exact caseE (.inl hcx) hcs (fun hh => by rw [hcx] at hh; cases hh)
  · exact caseE (.inr hcx) hcs (fun _ => ⟨hm, hd⟩)
  · have hxn : clo pr ox ≠ .E := by rcases hcx with h | h | h <;> rw [h] <;> intro hh <;> cases hh
    refine caseF (.inl (notCall hxn)) (by rw [hcs]; intro hh; cases hh) (by rcases hcx with h | h | h <;> simp [h]) ?_
    intro rx g1 rs g2
    have hTr : Tr ox.dst e (actE ox.dst rx) := Tr.act (res_skip g1)
    obtain ⟨f, hf, rfl, -, hg⟩ := res_lk (.inr hcs) g2
    exact ⟨f, hf, rfl, hg e H (fun t ht => (lkx hTr t ht).symm)⟩
  · have hsn : clo pr os ≠ .E := by rw [hcs]; intro hh; cases hh
    by_cases hxc : isCall ox = true ∧ wantL ops e ox = some true
    · -- a call that is carried out
      obtain ⟨g, l, k1, k2, k3, k4⟩ := (stp_call hxc.1 hxc.2 _ _).1 h
      have hp := hpre s.i hm
      unfold preA at hp
      rw [hs] at hp
      obtain ⟨r0, q1, q2⟩ := hp
      obtain ⟨f, hf, rfl, -, hg⟩ := res_lk (.inr hcs) q1
      obtain ⟨y, hy⟩ := hf.at_ os.dst H
      have hsc := notCall hsn
      have hLe : L = [] := by
        cases L with
        | nil => rfl
        | cons j L => have := hL j (by simp); rw [hsE hsn] at this; cases this
      refine (stp_res (.inl hsc) _ _).2 ⟨f H, q1, q2, ?_⟩
      rw [hy]
      refine ⟨by rw [hLe]; simp, pmove hf, ?_⟩
      have lkp : ∀ t ∈ ox.looksAt ops, Lk (e t) (putE e os.dst y t) := fun t ht => by rw [putE_ne y (fun hh => p3 t hh ht)]; exact Lk.refl _
      have hcont : ∀ v H1, ((∀ j ∈ x.re, rechk P pr ops j (putE e ox.dst (.val v)) H1) ∧ stp P n pr (some (base + s.i)) ops os (fun e2 H2 => (∀ j ∈ L, rechk P pr ops j e2 H2) ∧ K2 e2 H2) (putE e ox.dst (.val v)) H1) → H1.get (base + s.i) = none →
          (∀ j ∈ x.re, rechk P pr ops j (putE (putE e os.dst y) ox.dst (.val v)) ((f H1).heap H1)) ∧ K2 (putE (putE e os.dst y) ox.dst (.val v)) ((f H1).heap H1) := by
        rintro v H1 ⟨m1, m2⟩ hd1
        obtain ⟨rs, c1, c2, c3, c4⟩ := (stp_res (.inl hsc) _ _).1 m2
        have hTr : Tr ox.dst e (fun e => putE e ox.dst (.val v)) := Tr.put _
        have hrs := hg (putE e ox.dst (.val v)) H1 (lkx hTr)
        rw [hrs] at c1; cases c1
        have henv : putE (putE e os.dst y) ox.dst (.val v) = putE (putE e ox.dst (.val v)) os.dst y := putE_comm (fun d hd hh => p2 d hh hd) _ _
        have henv2 : putE (putE e ox.dst (.val v)) os.dst y = actE os.dst (f H1) (putE e ox.dst (.val v)) := by rw [hf.act os.dst _ _ H, hy]
        refine ⟨?_, by rw [henv, henv2]; exact c4⟩
        have hr1 := rmove (y := y) (e1 := putE e ox.dst (.val v)) (by rw [okDst_of (bx2 hTr)]; exact okRes_dst q2) m1
        rw [henv]
        rcases hf.heap with hh | ⟨o, hh⟩
        · rw [hh]; exact hr1
        · rw [hh]
          intro j hj
          obtain ⟨oy, hoy, hapy, hcy⟩ := hxre j hj
          exact rechk_fresh hoy hcy (hr1 j hj) hd1
      refine (stp_call hxc.1 (by rw [wantL_lk lkp]; exact hxc.2) _ _).2 ⟨g, l, by rw [callOf_lk lkp]; exact k1, k2, by rw [okDst_of (fun d hd => isBox_putE y (p2 d hd))]; exact k3, ?_⟩
      rcases hf.heap with hh | ⟨o, hh⟩
      · rw [hh]
        refine k4.mono fun v H1 _ hdead hk => ?_
        have := hcont v H1 hk (hdead _ hlt hid)
        rw [hh] at this; exact this
      · rw [hh]
        refine (k4.frame hid hlt).mono ?_
        rintro v H' _ _ ⟨H1, hk, rfl, hdead⟩
        have := hcont v H1 hk hdead
        rw [hh] at this; exact this
    · have hxc' : isCall ox = false ∨ wantL ops e ox = some false := by
        cases hc : isCall ox with
        | false => exact .inl rfl
        | true =>
          right
          cases hww : wantL ops e ox with
          | none => exfalso; have g5 := h; unfold stp at g5; rw [hww] at g5; exact g5
          | some b => cases b with
            | false => rfl
            | true => exact absurd ⟨hc, hww⟩ hxc
      refine caseF hxc' hsn (.inr (.inr (.inr hcx))) ?_
      intro rx g1 rs g2
      have hTr : Tr ox.dst e (actE ox.dst rx) := Tr.act (res_skip g1)
      obtain ⟨f, hf, rfl, -, hg⟩ := res_lk (.inr hcs) g2
      exact ⟨f, hf, rfl, hg e H (fun t ht => (lkx hTr t ht).symm)⟩

end Go.Lg
