/- The logical machine, part 12: calls, steps, and regions in the order of their text. No condition. -/
import Derived.Test.YtaehendkbicepaaGreatA11
set_option linter.unusedVariables false
set_option linter.unusedSimpArgs false
namespace Go.Lg
variable {P : Program} {φ0 φ : Phi} {H0 H H' H2 : LH} {w0 w w' : World} {e e' e2 : Env} {tmps : Array Value} {n base : Nat} {al : Option Nat} {pr : List Nat}

/-- A call on a logical heap. -/
def Call (P : Program) (f : FuncId) (args : List Value) (H : LH) (R : Value → LH → Prop) : Prop :=
  ∀ (φ : Phi) (w : World) (args' : List Value), Rel φ H w → VRs φ args args' →
    Calls P f args'.toArray w fun en w' => ∃ v v' φ' H', en = .returned v' ∧ VR φ' v v' ∧ Rel φ' H' w' ∧ Fr φ H w φ' H' w' ∧
      (∀ b, b < H.next → φ b = none → φ' b = none) ∧ (∀ b, b < H.next → H.get b = none → H'.get b = none) ∧ R v H'

theorem Call.mono {f : FuncId} {args : List Value} {R R' : Value → LH → Prop} (h : Call P f args H R) (hr : ∀ v H', H.next ≤ H'.next → (∀ b, b < H.next → H.get b = none → H'.get b = none) → R v H' → R' v H') : Call P f args H R' := by
  intro φ w args' hrel hargs
  refine (h φ w args' hrel hargs).mono ?_
  rintro en w' ⟨v, v', φ', H', h1, h2, h3, h4, h5, h6, h7⟩
  exact ⟨v, v', φ', H', h1, h2, h3, h4, h5, h6, hr v H' h4.next h6 h7⟩

/-- A call leaves an object alone that is not in its heap. -/
theorem Call.frame {f : FuncId} {args : List Value} {R : Value → LH → Prop} (h : Call P f args H R) {id : Nat} {o : LObj} (hid : H.get id = none) (hlt : id < H.next) :
    Call P f args (H.put id (some o)) (fun v H' => ∃ H'', R v H'' ∧ H' = H''.put id (some o) ∧ H''.get id = none) := by
  intro φ w args' hrel hargs
  obtain ⟨m, hm, hobj⟩ := hrel.live id o (by simp [LH.put])
  have lift : ∀ {b : Nat} {x : LObj}, H.get b = some x → (H.put id (some o)).get b = some x := fun hb => look_fresh hid hb
  have hr : Rel φ H w := by
    refine ⟨hrel.dom, fun b x hb => hrel.live b x (lift hb), fun b b' x x' m m' hne hb ho hb' g g' => hrel.sep b b' x x' m m' hne (lift hb) ho (lift hb') g g'⟩
  have hnw : ¬ Wr φ H m.blk := by
    rintro ⟨b, x, m1, h1, h2, h3, h4⟩
    exact hrel.sep b id x o m1 m (live_ne hid h1) (lift h1) h2 (by simp [LH.put]) h3 hm h4
  have hni : o.own = true → ¬ Im φ H m.blk := by
    rintro ho ⟨b, x, m1, h1, h3, h4⟩
    exact hrel.sep id b o x m m1 (Ne.symm (live_ne hid h1)) (by simp [LH.put]) ho (lift h1) hm h3 h4.symm
  have hblt := (hrel.dom id m hm).2
  refine (h φ w args' hr hargs).mono ?_
  rintro en w' ⟨v, v', φ', H'', h1, h2, h3, h4, h5, h6, h7⟩
  have hid'' := h6 id hlt hid
  have hm' := h4.ext id m hm
  have hsame := h4.same m.blk hblt hnw
  have putget : ∀ {b : Nat} {x : LObj}, (H''.put id (some o)).get b = some x → (b = id ∧ x = o) ∨ (b ≠ id ∧ H''.get b = some x) := by
    intro b x hb
    by_cases e : b = id
    · subst e; simp [LH.put] at hb; exact .inl ⟨rfl, hb.symm⟩
    · simp [LH.put, e] at hb; exact .inr ⟨e, hb⟩
  have hmb : ∀ {b : Nat} {x : LObj} {m1 : Place}, H''.get b = some x → φ' b = some m1 → (x.own = true ∨ o.own = true) → m1.blk ≠ m.blk := by
    intro b x m1 hb hp hor e
    rcases hor with ho | ho
    · rcases h4.wr m1.blk ⟨b, x, m1, hb, ho, hp, rfl⟩ with hw | hw
      · rw [e] at hw; exact hnw hw
      · rw [e] at hw; omega
    · rcases h4.im m1.blk ⟨b, x, m1, hb, hp, rfl⟩ with hw | hw
      · rw [e] at hw; exact hni ho hw
      · rw [e] at hw; omega
  refine ⟨v, v', φ', H''.put id (some o), h1, h2, ⟨h3.dom, ?_, ?_⟩, ⟨h4.os, h4.tape, h4.output, h4.size, h4.ext, h4.next, ?_, ?_, ?_⟩, h5, ?_, H'', h7, rfl, hid''⟩
  · intro b x hb
    rcases putget hb with ⟨rfl, rfl⟩ | ⟨e, hb⟩
    · exact ⟨m, hm', by rw [hsame]; exact hobj.ext h4.ext⟩
    · exact h3.live b x hb
  · intro b b' x x' m1 m2 hne hb ho hb' g g'
    by_cases e1 : b = id
    · subst e1
      rcases putget hb with ⟨-, k⟩ | ⟨k, -⟩
      · subst k
        rcases putget hb' with ⟨k2, -⟩ | ⟨-, k2⟩
        · exact absurd k2.symm hne
        · rw [hm'] at g; cases g; exact Ne.symm (hmb k2 g' (.inr ho))
      · exact absurd rfl k
    · rcases putget hb with ⟨k, -⟩ | ⟨-, k⟩
      · exact absurd k e1
      · by_cases e2 : b' = id
        · subst e2; rw [hm'] at g'; cases g'; exact hmb k g (.inl ho)
        · rcases putget hb' with ⟨k3, -⟩ | ⟨-, k3⟩
          · exact absurd k3 e2
          · exact h3.sep b b' x x' m1 m2 hne k ho k3 g g'
  · intro B hB hnB
    refine h4.same B hB (fun hw => hnB ?_)
    obtain ⟨b, x, m1, k1, k2, k3, k4⟩ := hw
    exact ⟨b, x, m1, lift k1, k2, k3, k4⟩
  · rintro B ⟨b, x, m1, k1, k2, k3⟩
    rcases putget k1 with ⟨rfl, rfl⟩ | ⟨e, hb⟩
    · rw [hm'] at k2; cases k2; exact .inl ⟨b, x, m, by simp [LH.put], hm, k3⟩
    · rcases h4.im B ⟨b, x, m1, hb, k2, k3⟩ with ⟨c, y, m2, q1, q2, q3⟩ | hh
      · exact .inl ⟨c, y, m2, lift q1, q2, q3⟩
      · exact .inr hh
  · rintro B ⟨b, x, m1, k1, k1', k2, k3⟩
    rcases putget k1 with ⟨rfl, rfl⟩ | ⟨e, hb⟩
    · rw [hm'] at k2; cases k2; exact .inl ⟨b, x, m, by simp [LH.put], k1', hm, k3⟩
    · rcases h4.wr B ⟨b, x, m1, hb, k1', k2, k3⟩ with ⟨c, y, m2, q1, q1', q2, q3⟩ | hh
      · exact .inl ⟨c, y, m2, lift q1, q1', q2, q3⟩
      · exact .inr hh
  · intro b hb hn
    by_cases e : b = id
    · subst e; simp [LH.put] at hn
    · simp [LH.put, e] at hn; simp [LH.put, e]; exact h6 b hb hn

theorem appV_next {s b : Nat} {x y v : Value} (h : appV H al s b x y = some (v, H')) : H.next ≤ H'.next := by
  unfold appV at h
  split at h
  · split at h
    · cases h; exact Nat.le_refl _
    · split at h
      · split at h
        · split at h
          · cases h; exact alloc_next _ _ _
          · split at h
            · cases h; exact alloc_next (H.put _ none) _ _
            · cases h
        · cases h; exact alloc_next _ _ _
      · cases h
  · cases h

theorem copyV_next {s : Nat} {x y v : Value} (h : copyV H s x y = some (v, H')) : H.next ≤ H'.next := by
  unfold copyV at h
  split at h
  · dsimp only at h
    split at h
    · cases h; exact Nat.le_refl _
    · split at h
      · split at h
        · split at h
          · cases h; exact Nat.le_refl _
          · cases h
        · cases h
      · cases h
  · cases h

def LRes.heap : LRes → LH → LH
  | .val _ H, _ => H
  | .ref _ _, H => H
  | .box _, H => H
  | .skip _ H, _ => H

theorem withH_heap {r : LRes} (h : r.withH H = r) : r.heap H = H := by
  cases r <;> simp only [LRes.withH] at h <;> simp only [LRes.heap]
  · cases h; rfl
  · cases h; rfl

theorem lopC_next {dst : Option Nat} {op : Op} {r : LRes} (h : lopC P pr al dst op e H = some r) : H.next ≤ (r.heap H).next := by
  cases hc : cls pr dst op with
  | P => rw [withH_heap (lop_P hc (fun t _ => Lk.refl _) h).1]; exact Nat.le_refl _
  | R => rw [withH_heap (lop_R hc h).1]; exact Nat.le_refl _
  | A =>
    have fr : ∀ cs, cFresh pr al H dst cs = some r → H.next ≤ (r.heap H).next := by
      intro cs h
      unfold cFresh at h
      split at h
      · split at h
        · split at h
          · cases h; exact Nat.le_refl _
          · cases h; exact alloc_next _ _ _
        · cases h
      · cases h
    have ro : ∀ s k cs, cRow al H s k cs = some r → H.next ≤ (r.heap H).next := by
      intro s k cs h
      unfold cRow at h
      split at h
      · cases h; exact alloc_next _ _ _
      · cases h
    cases op <;> simp only [cls] at hc <;> try (first | (cases hc; done) | (split at hc <;> first | (cases hc; done) | (split at hc <;> cases hc; done)))
    case alloc t => simp only [lopC] at h; split at h <;> first | exact fr _ h | cases h
    case box t x => simp only [lopC] at h; split at h <;> first | exact fr _ h | cases h
    case buildSlice t len ps =>
      simp only [lopC] at h
      split at h
      · split at h
        · split at h
          · split at h
            · exact ro _ _ _ h
            · cases h
          · cases h
        · cases h
      · cases h
    case makeMap t x =>
      cases x with
      | some x => simp [lopC] at h
      | none => simp only [lopC] at h; cases h; exact alloc_next _ _ _
    case makeSlice t l c =>
      simp only [lopC] at h
      split at h
      · split at h
        · split at h
          · exact ro _ _ _ h
          · cases h
        · cases h
      · cases h
  | E =>
    cases op <;> simp only [cls] at hc <;> try (first | (cases hc; done) | (split at hc <;> first | (cases hc; done) | (split at hc <;> cases hc; done)))
    all_goals try (simp [lopC] at h; done)
    case store t x y =>
      simp only [lopC] at h
      split at h
      · rename_i l v hx hv
        split at h
        · cases l with
          | heap b i =>
            simp only [wrC] at h
            split at h
            · split at h
              · cases h; exact Nat.le_refl _
              · cases h
            · cases h
          | box s i =>
            simp only [wrC] at h
            split at h
            · split at h
              · cases h; exact Nat.le_refl _
              · cases h
            · cases h
        · cases h
      · cases h
    case mapUpdate t m k x =>
      simp only [lopC] at h
      split at h
      · split at h
        · rename_i H' hu; cases h
          unfold updV at hu
          split at hu
          · split at hu
            · split at hu
              · rename_i es hg
                cases hm : mapPut es _ _ with
                | none => rw [hm] at hu; simp at hu
                | some es' => rw [hm] at hu; simp at hu; subst hu; exact Nat.le_refl _
              · cases hu
            · cases hu
          · cases hu
        · cases h
      · cases h
    case call c =>
      obtain ⟨callee, args, argTypes⟩ := c
      cases callee <;> simp only [lopC] at h <;> try (cases h; done)
      rename_i b
      cases b <;> simp only at hc h <;> try (first | (cases hc; done) | (cases h; done))
      case append =>
        split at h
        · split at h
          · split at h
            · split at h
              · split at h
                · rename_i hap; cases h; exact appV_next hap
                · cases h
              · cases h
            · cases h
          · cases h
        · cases h
      case copy =>
        split at h
        · split at h
          · split at h
            · split at h
              · rename_i hap; cases h; exact copyV_next hap
              · cases h
            · cases h
          · cases h
        · cases h

theorem fin_heap {dst : Option Nat} {r : LRes} (h : fin n e H dst r = some (e', H')) : H' = r.heap H := by
  cases r with
  | val v H1 => simp only [fin] at h; split at h <;> cases h; rfl
  | ref s i => simp only [fin] at h; split at h <;> try cases h
               split at h <;> cases h; rfl
  | box cs => simp only [fin] at h; split at h <;> try cases h
              split at h <;> cases h; rfl
  | skip b H1 =>
    cases b with
    | none => simp only [fin] at h; split at h <;> cases h; rfl
    | some q => obtain ⟨s, cs⟩ := q; simp only [fin] at h; split at h <;> cases h; rfl

theorem lop_next {o : Oper} (h : lop P n pr al o e H = some (e', H')) : H.next ≤ H'.next := by
  unfold lop at h
  split at h
  · rename_i r hr; rw [fin_heap h]; exact lopC_next hr
  · cases h

/-! ### one step -/
def wantL (ops : Array Oper) (e : Env) (o : Oper) : Option Bool :=
  match o.guard with
  | none => some true
  | some (j, b) => match (ops[j]?).bind (·.dst) with
    | some d => match e d with
      | .val (.bool t) => some (t == b)
      | .val _ => some false
      | _ => none
    | none => some false

theorem wantL_sound (h : ER base φ e H tmps w) {ops : Array Oper} {o : Oper} {b : Bool} (hw : wantL ops e o = some b) : Region.wanted o (yielded ops tmps) = b := by
  unfold wantL at hw
  unfold Region.wanted
  split at hw
  · rename_i hg; rw [hg]; cases hw; rfl
  · rename_i j t hg
    rw [hg]
    simp only [yielded]
    split at hw
    · rename_i d hd
      rw [hd]
      simp only [Option.bind_some]
      split at hw
      · rename_i c hc
        obtain ⟨v', h1, h2⟩ := h.val d _ hc
        cases h2; rw [h1]; cases hw; rfl
      · rename_i v hv hc
        obtain ⟨v', h1, h2⟩ := h.val d _ hc
        rw [h1]
        cases hw
        cases h2 <;> first | rfl | (exfalso; exact hv _ rfl)
      · cases hw
    · rename_i hd; rw [hd]; cases hw; rfl

/-- A function that can be entered. -/
def okFn (P : Program) (g : FuncId) : Bool :=
  match P.funcs[g]? with
  | some fn => fn.name != "runtime.NumGoroutine" && fn.body.isSome
  | none => false

theorem run_callFunc {g : FuncId} (h : okFn P g = true) (args : Array Value) (w : World) : (callFunc g args).run P w = .ok (.enter g args) w := by
  unfold okFn at h
  split at h
  · rename_i fn hf
    simp only [Bool.and_eq_true, bne_iff_ne, ne_eq] at h
    obtain ⟨c, hc⟩ := Option.isSome_iff_exists.1 h.2
    simp [callFunc, hf, h.1, hc]
  · cases h

/-- A step that is carried out. -/
def stpOp (P : Program) (n : Nat) (pr : List Nat) (al : Option Nat) (o : Oper) (K : Env → LH → Prop) (e : Env) (H : LH) : Prop :=
  match o.op with
  | .call c => match c.callee with
    | .value f => match opd e f, opds e c.args.toList with
      | some (.func (.func g) fs cs), some vs => okFn P g = true ∧ okDst n e o.dst = true ∧ Call P g (fs.toList ++ vs ++ cs.toList) H (fun v H' => K (putE e o.dst (.val v)) H')
      | _, _ => False
    | _ => match lop P n pr al o e H with
      | some (e', H') => K e' H'
      | none => False
  | _ => match lop P n pr al o e H with
    | some (e', H') => K e' H'
    | none => False

/-- A step. -/
def stp (P : Program) (n : Nat) (pr : List Nat) (al : Option Nat) (ops : Array Oper) (o : Oper) (K : Env → LH → Prop) (e : Env) (H : LH) : Prop :=
  match wantL ops e o with
  | some true => stpOp P n pr al o K e H
  | some false => okDst n e o.dst = true ∧ K (putE e o.dst (.val undef)) H
  | none => False

/-- What is known of a frame: a state that fits and has a property; numbers that are kept back. -/
def Cz (φ0 : Phi) (H0 : LH) (w0 : World) (n : Nat) (S : Nat → Prop) (K : Env → LH → Prop) (a : Act) (w : World) : Prop :=
  a.defers = [] ∧ a.tmps.size = n ∧ ∃ φ e H, St φ0 H0 w0 φ e H a.tmps w ∧ (∀ b, S b → φ b = none ∧ b < H.next ∧ H0.next ≤ b) ∧ K e H

theorem undef_vr (φ : Phi) : VR φ undef undef := .tuple rfl (by simp)

theorem put_defers (a : Act) (dst : Option Nat) (v : Value) : (a.put dst v).defers = a.defers := by cases dst <;> rfl

/-- A step is what the model does. -/
theorem stp_sound {ops : Array Oper} {o : Oper} {K : Env → LH → Prop} {S S' : Nat → Prop} {a : Act} {Q : Exit → Act → World → Prop} {K' : Act → World → Prop}
    (hst : St φ0 H0 w0 φ e H a.tmps w) (hd : a.defers = []) (hn : a.tmps.size = n) (hS : ∀ b, S b → φ b = none ∧ b < H.next ∧ H0.next ≤ b) (hal : ∀ b, al = some b → S b) (hS' : ∀ b, S' b → S b ∧ al ≠ some b)
    (h : stp P n pr al ops o K e H) (hK : ∀ a w, Cz φ0 H0 w0 n S' K a w → K' a w) :
    if Region.wanted o (yielded ops a.tmps) then o.wp P a w K' Q ∨ (o.asks P a w ∧ LetsOut Q) else K' (a.put o.dst undef) w := by
  unfold stp at h
  have hal' : OkAl φ H0 H al := fun b hb => hS b (hal b hb)
  split at h
  · rename_i hw
    rw [wantL_sound hst.env hw, if_pos rfl]
    refine .inl ?_
    have useLop : (match lop P n pr al o e H with | some (e', H') => K e' H' | none => False) → o.wp P a w K' Q := by
      intro h
      split at h
      · rename_i e1 H1 hl
        obtain ⟨nx, u, w1, φ1, h1, h2, h3, h4⟩ := lop_sound hl hst hn hal' a rfl
        unfold Oper.wp
        rw [h1]
        have fin : K' (a.put o.dst u) w1 := by
          refine hK _ _ ⟨by rw [put_defers]; exact hd, by rw [put_tmps, putT_size]; exact hn, φ1, e1, H1, by rw [put_tmps]; exact h3, fun b hb => ?_, h⟩
          obtain ⟨g1, g2⟩ := hS' b hb
          obtain ⟨k1, k2, k3⟩ := hS b g1
          have hnx : H.next ≤ H1.next := lop_next hl
          exact ⟨h4 b k2 k1 g2, by omega, k3⟩
        rcases h2 with rfl | ⟨rfl, rfl⟩
        · exact fin
        · exact fin
      · exact h.elim
    unfold stpOp at h
    split at h
    · rename_i c hop
      split at h
      · rename_i f hcal
        split at h
        · rename_i g fs cs vs hf hv
          obtain ⟨h1, h2, h3⟩ := h
          have ef := eval_opd hst.env a rfl hf
          have ev := eval_opds hst.env a rfl hv
          cases g1 : a.eval f <;> rw [g1] at ef <;> cases ef
          rename_i fs' cs' e1 e2 e3 e4
          have hfs : VRs φ fs.toList fs'.toList := VRs.mk (by simpa using e1) (fun i v v' p q => e2 i v v' (by simpa using p) (by simpa using q))
          have hcs : VRs φ cs.toList cs'.toList := VRs.mk (by simpa using e3) (fun i v v' p q => e4 i v v' (by simpa using p) (by simpa using q))
          have hcall := h3 φ w _ hst.rel ((hfs.append ev).append hcs)
          unfold Oper.wp
          have hrun : (execOp a.eval o).run P w = .ok (.enter g (fs'.toList ++ c.args.toList.map a.eval ++ cs'.toList).toArray) w := by
            have harg : fs' ++ Array.map a.eval c.args ++ cs' = (fs'.toList ++ c.args.toList.map a.eval ++ cs'.toList).toArray := by
              apply Array.toList_inj.1; simp
            simp only [execOp, hop, resolve, hcal, g1, Deferred.ofValue, Sem.run_bind, Sem.run_pure, Result.andThen_ok, invoke, run_callFunc h1, harg]
          rw [hrun]
          refine hcall.mono ?_
          rintro en w1 ⟨v, v', φ1, H1, rfl, k2, k3, k4, k5, k6, k7⟩
          refine hK _ _ ⟨by rw [put_defers]; exact hd, by rw [put_tmps, putT_size]; exact hn, φ1, _, H1, ?_, fun b hb => ?_, k7⟩
          · rw [put_tmps]
            have hst1 := hst.step k4 k3 (fun b hb hn => k5 b (by have := hst.fr.next; omega) hn) (fun b hb hn => k6 b (by have := hst.fr.next; omega) hn)
            exact hst1.val hn h2 k2
          · obtain ⟨q1, q2⟩ := hS' b hb
            obtain ⟨p1, p2, p3⟩ := hS b q1
            exact ⟨k5 b p2 p1, by have := k4.next; omega, p3⟩
        · exact h.elim
      · exact useLop h
    · exact useLop h
  · rename_i hw
    rw [wantL_sound hst.env hw, if_neg (by simp)]
    obtain ⟨h1, h2⟩ := h
    refine hK _ _ ⟨by rw [put_defers]; exact hd, by rw [put_tmps, putT_size]; exact hn, φ, _, H, by rw [put_tmps]; exact hst.val hn h1 (undef_vr φ), fun b hb => hS b (hS' b hb).1, h2⟩
  · exact h.elim

end Go.Lg
