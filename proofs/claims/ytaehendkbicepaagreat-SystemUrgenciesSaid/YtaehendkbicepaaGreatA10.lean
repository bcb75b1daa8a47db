/- The logical machine, part 10: the soundness of all operations. No condition. -/
import Derived.Test.YtaehendkbicepaaGreatA9
set_option linter.unusedVariables false
set_option linter.unusedSimpArgs false
namespace Go.Lg
variable {P : Program} {φ0 φ : Phi} {H0 H H' : LH} {w0 w w' : World} {e e' : Env} {tmps : Array Value} {n base : Nat} {al : Option Nat} {pr : List Nat}

theorem lopVal_some {dst : Option Nat} {r : Option Value} (h : lopVal n e H dst r = some (e', H')) : ∃ v, r = some v := by
  cases r with
  | none => simp [lopVal] at h
  | some v => exact ⟨v, rfl⟩

theorem good_tail {dst : Option Nat} {v v' : Value} {s : Sem Next} {φ' : Phi} (hs : s.run P w = .ok (.value v') w') (hv : VR φ' v v') (hst : St φ0 H0 w0 φ' e H' tmps w') (hn : tmps.size = n) (hd : okDst n e dst = true)
    (ho : ∀ b, b < H.next → φ b = none → al ≠ some b → φ' b = none) : Good P φ0 H0 w0 φ al H dst tmps (putE e dst (.val v)) H' s w :=
  ⟨_, v', w', φ', hs, .inl rfl, hst.val hn hd hv, ho⟩

set_option maxHeartbeats 1000000 in
theorem lop_sound {o : Oper} (hl : lop P n pr al o e H = some (e', H')) (h : St φ0 H0 w0 φ e H tmps w) (hn : tmps.size = n) (hal : OkAl φ H0 H al) (a : Act) (ha : a.tmps = tmps) :
    Good P φ0 H0 w0 φ al H o.dst tmps e' H' (execOp a.eval o) w := by
  obtain ⟨dst, op, type, pos, after, guard⟩ := o
  have ev : ∀ {x : Operand} {v : Value}, opd e x = some v → VR φ v (a.eval x) := fun hx => eval_opd h.env a ha hx
  obtain ⟨r, hc, hf⟩ : ∃ r, lopC P pr al dst op e H = some r ∧ fin n e H dst r = some (e', H') := by
    unfold lop at hl
    split at hl
    · rename_i r hr; exact ⟨r, hr, hl⟩
    · cases hl
  clear hl
  have kv : ∀ {x : Option Value}, cVal H x = some r → lopVal n e H dst x = some (e', H') := by
    intro x hx; cases x with
    | none => simp [cVal] at hx
    | some v => simp only [cVal] at hx; cases hx; exact hf
  have kf : ∀ {cs : List Value}, cFresh pr al H dst cs = some r → lopFresh n pr al e H dst cs = some (e', H') := by
    intro cs hx
    unfold cFresh at hx
    split at hx
    · split at hx
      · rename_i hcell
        split at hx
        · rename_i hpr; cases hx
          simp only [fin] at hf; split at hf
          · rename_i hd; cases hf; simp only [lopFresh, hcell, hd, Bool.and_self, if_true, hpr]
          · cases hf
        · rename_i hpr; cases hx
          simp only [fin] at hf; split at hf
          · rename_i hd; cases hf; simp only [lopFresh, hcell, hd, Bool.and_self, if_true, putE]; rw [if_neg hpr]
          · cases hf
      · cases hx
    · cases hx
  have kr : ∀ {s k : Nat} {cs : List Value}, cRow al H s k cs = some r → lopRow n al e H dst s k cs = some (e', H') := by
    intro s k cs hx
    unfold cRow at hx
    split at hx
    · rename_i hcell; cases hx
      simp only [fin] at hf; split at hf
      · rename_i hd; cases hf; simp [lopRow, hcell, hd]
      · cases hf
    · cases hx
  have kref : ∀ {s i : Nat}, some (LRes.ref s i) = some r → lopRef n e H dst s i = some (e', H') := by
    intro s i hx; cases hx; exact hf
  have ka : ∀ {l : AL} {k : Nat}, cAddr H l k = some r → lopAddr n e H dst l k = some (e', H') := by
    intro l k hx; cases l with
    | heap b i => exact kv (x := some (.pointer (some ⟨b, i + k, none⟩))) hx
    | box s i => exact kref hx
  have hl := hc
  clear hc
  cases op <;> simp only [lopC] at hl <;> try (cases hl; done)
  case move x => exact good_val h hn (kv hl) (fun v hv => ⟨_, rfl, ev hv⟩)
  case assign x => exact good_val h hn (kv hl) (fun v hv => ⟨_, rfl, ev hv⟩)
  case pick c x y =>
    split at hl
    · rename_i t hc
      have hb := ev hc
      refine good_val h hn (kv hl) (fun v hv => ?_)
      cases hb' : a.eval c <;> rw [hb'] at hb <;> cases hb
      cases t
      · exact ⟨a.eval y, by simp [execOp, hb', asBool], ev hv⟩
      · exact ⟨a.eval x, by simp [execOp, hb', asBool], ev hv⟩
    · cases hl
  case alloc t =>
    split at hl
    · rename_i z hz
      obtain ⟨rz, vz⟩ := run_zero (φ := φ) hz w
      refine good_fresh h hn hal (kf hl) (c := z.cells) (el := t) vz.cells ?_
      simp [execOp, Instr.alloc, rz, newVar, newRow]
    · cases hl
  case box t x =>
    split at hl
    · rename_i v hv
      refine good_fresh h hn hal (kf hl) (c := (a.eval x).cells) (el := t) (ev hv).cells ?_
      simp [execOp, Instr.box, newVar, newRow]
    · cases hl
  case build t parts =>
    split at hl
    · rename_i ps hps
      refine good_val h hn (kv hl) (fun v hv => ?_)
      unfold buildV at hv
      split at hv
      · rename_i z hz
        cases hb : P.built t ps with
        | none => simp [hb] at hv
        | some r =>
          simp [hb] at hv; subst hv
          obtain ⟨r', h1, h2⟩ := built_rel hz (eval_parts h.env a ha hps) hb
          have := run_build (P := P) w t (parts.map fun (i, x) => (i, a.eval x)) r' (by simpa using h1)
          exact ⟨.agg r', by simp only [execOp, Sem.run_bind, this, Result.andThen_ok, Sem.run_pure], VR.agg_list h2⟩
      · cases hv
    · cases hl
  case buildSlice t len parts =>
    split at hl
    · rename_i elem ps hu hps
      split at hl
      · rename_i s z hs hz
        split at hl
        · rename_i hcond
          obtain ⟨hc1, hc2, hc3⟩ := hcond
          split at hl
          · rename_i cs hf
            obtain ⟨rz, vz⟩ := run_zero (φ := φ) hz w
            have hbase : VRs φ ((Array.range (len * s)).map (z.cells[· % z.cells.size]!)).toList ((Array.range (len * s)).map (z.cells[· % z.cells.size]!)).toList := by
              have : ((Array.range (len * s)).map (z.cells[· % z.cells.size]!)) = madeCells z.cells (len * s) := rfl
              rw [this, hc2, made_toList _ _ (by omega)]
              exact flat_vrs vz.cells len
            obtain ⟨r', f1, f2⟩ := fill_rel _ (eval_parts h.env a ha hps) _ _ _ hbase hf
            have hsz : ∀ (place : Nat → Option (Nat × Nat)) (l : List (Nat × Value)) (c r : Array Value), Instr.fill place c l = some r → r.size = c.size := by
              intro place l
              induction l with
              | nil => intro c r hr; simp [Instr.fill] at hr; rw [hr]
              | cons p l ih =>
                intro c r hr
                obtain ⟨i, v⟩ := p
                simp only [Instr.fill] at hr
                split at hr
                · cases hr
                · split at hr
                  · cases hr
                  · have := ih _ _ hr
                    rw [this]
                    have key : ∀ (l : List (Value × Nat)) (off : Nat) (c : Array Value), (l.foldl (fun cs (x : Value × Nat) => cs.setIfInBounds (off + x.2) x.1) c).size = c.size := by
                      intro l off
                      induction l with
                      | nil => intro c; rfl
                      | cons q l ih => intro c; simp only [List.foldl_cons]; rw [ih]; simp
                    rename_i off size _ _
                    have e1 : v.cells.zipIdx.foldl (fun cs (x : Value × Nat) => cs.setIfInBounds (off + x.2) x.1) c = (v.cells.zipIdx.toList).foldl (fun cs (x : Value × Nat) => cs.setIfInBounds (off + x.2) x.1) c := by rw [← Array.foldl_toList]
                    show (v.cells.zipIdx.foldl (fun cs (x : Value × Nat) => cs.setIfInBounds (off + x.2) x.1) c).size = c.size
                    rw [e1]; exact key _ _ _
            have hcs : cs.size = len * s := by rw [hsz _ _ _ _ hf]; simp
            refine good_row h hn hal (kr hl) (c := r') (el := elem) f2 (by simpa using hcs) ?_
            have nlt : ¬ (16777216 < len * s) := by omega
            have r0 : Array.range 0 = #[] := rfl
            by_cases h0 : len * s = 0
            · rw [h0, r0] at f1
              have f1' : Instr.fill (fun i => some (i * s, s)) #[] (List.map (fun x => (x.fst, a.eval x.snd)) parts.toList) = some r' := by simpa using f1
              simp [execOp, Instr.buildSlice, run_underlying hu, run_sz hs, h0, r0, f1', newRow]
            · have f1' : Instr.fill (fun i => some (i * s, s)) (Array.map (fun x => z.cells[x % z.cells.size]!) (Array.range (len * s))) (List.map (fun x => (x.fst, a.eval x.snd)) parts.toList) = some r' := by simpa using f1
              simp [execOp, Instr.buildSlice, run_underlying hu, run_sz hs, h0, rz, nlt, f1', newRow]
          · cases hl
        · cases hl
      · cases hl
    · cases hl
  case load t x =>
    split at hl
    · rename_i l hx
      obtain ⟨B, o, h1, h2⟩ := addr_sound h.env a ha hx
      split at hl
      · rename_i cs i hr
        refine good_val h hn (kv hl) (fun v hv => ?_)
        obtain ⟨v', g1, g2⟩ := load_sound (P := P) h h2 hr hv
        exact ⟨v', by simp [execOp, h1, g1], g2⟩
      · cases hl
    · cases hl
  case store t x y =>
    split at hl
    · rename_i l v hx hv
      obtain ⟨B, o, h1, h2⟩ := addr_sound h.env a ha hx
      split at hl
      · rename_i hc
        simp only [Bool.and_eq_true, decide_eq_true_eq] at hc
        obtain ⟨w2, bx, H2, rfl, g1, g2, g3, g4⟩ := store_sound (P := P) h h2 (ev hv).cells hc.2 hl
        have hlen : (a.eval y).cells.size = v.cells.size := by have := (ev hv).cells.length; simpa using this.symm
        have hrun : (execOp a.eval ⟨dst, .store t x y, type, pos, after, guard⟩).run P w = .ok .skip w2 := by
          simp [execOp, Instr.storeAt, Instr.sureAddr, storeVar, h1, run_sz hc.1, hlen, g1]
        cases bx with
        | none =>
          simp only [fin] at hf
          split at hf
          · rename_i hd; cases hf
            exact ⟨.skip, undef, w2, φ, hrun, .inr ⟨rfl, rfl⟩, g2.none hd undef, fun _ _ hh _ => hh⟩
          · cases hf
        | some q =>
          obtain ⟨s, cs⟩ := q
          simp only [fin] at hf
          split at hf
          · rename_i hd; cases hf
            obtain ⟨cs0, hs0⟩ := g4 s cs rfl
            have hd' : okDst n (upd e s (.box false cs)) dst = true := by
              cases dst with
              | none => rfl
              | some d =>
                obtain ⟨k1, k2⟩ := okDst_spec hd
                have hds : d ≠ s := fun hh => k2 _ _ (hh ▸ hs0)
                simp only [okDst, upd_ne _ _ hds] at hd ⊢; exact hd
            exact ⟨.skip, undef, w2, φ, hrun, .inr ⟨rfl, rfl⟩, g2.none hd' undef, fun _ _ hh _ => hh⟩
          · cases hf
      · cases hl
    · cases hl
  case nilCheck x =>
    split at hl
    · rename_i t
      split at hl
      · rename_i p hp
        refine good_val h hn (kv hl) (fun v hv => ?_)
        cases hv
        obtain ⟨v', h1, h2⟩ := h.env.val t _ hp
        have he : a.eval (.tmp t) = v' := by simp [Act.eval, ha, h1]
        cases h2 with
        | ptr hm => exact ⟨_, by simp [execOp, he], .ptr hm⟩
      · rename_i f c d hp
        refine good_val h hn (kv hl) (fun v hv => ?_)
        cases hv
        obtain ⟨v', h1, h2⟩ := h.env.val t _ hp
        have he : a.eval (.tmp t) = v' := by simp [Act.eval, ha, h1]
        have h3 := h2
        cases h2 with
        | func => exact ⟨_, by simp [execOp, he], h3⟩
      · rename_i f cs hp
        obtain ⟨B, c, el, h1, _⟩ := h.env.box t f cs hp
        refine good_ref h hn (kref hl) h1 ⟨f, cs, hp⟩ ?_
        unfold BoxAt at h1
        have he : a.eval (.tmp t) = .pointer (some ⟨B, 0, none⟩) := by simp [Act.eval, ha, h1]
        simp [execOp, he]
      · rename_i s i hp
        obtain ⟨B, f, cs, h1, h2, h3⟩ := h.env.ref t s i hp
        refine good_ref h hn (kref hl) h1 ⟨f, cs, h3⟩ ?_
        have he : a.eval (.tmp t) = .pointer (some ⟨B, i, none⟩) := by simp [Act.eval, ha, h2]
        simp [execOp, he]
      · cases hl
    · cases hl
  case binOp bop t x y yt =>
    split at hl
    · rename_i p q hx hy
      refine good_val h hn (kv hl) (fun v hv => ?_)
      obtain ⟨h1, h2⟩ := binV_sound (P := P) (ev hx) (ev hy) hv x y w
      exact ⟨v, by simp only [execOp, Sem.run_bind] at h1 ⊢; rw [h1]; rfl, h2 φ⟩
    · cases hl
  case unOp uop t x =>
    split at hl
    · rename_i p hx
      refine good_val h hn (kv hl) (fun v hv => ?_)
      obtain ⟨h1, h2⟩ := unV_sound (P := P) (ev hx) hv w
      exact ⟨v, by simp [execOp, h1], h2 φ⟩
    · cases hl
  case convert s d x =>
    split at hl
    · rename_i p hx
      refine good_val h hn (kv hl) (fun v hv => ?_)
      obtain ⟨h1, h2⟩ := convV_sound (P := P) (ev hx) hv w
      exact ⟨v, by simp [execOp, h1], h2 φ⟩
    · cases hl
  case makeFunc fn f c =>
    split at hl
    · rename_i vf vc hf hc
      refine good_val h hn (kv hl) (fun v hv => ?_)
      cases hv
      have k1 := eval_opds h.env a ha hf
      have k2 := eval_opds h.env a ha hc
      refine ⟨.func fn (f.map a.eval) (c.map a.eval), by simp [execOp, Instr.makeFunc], ?_⟩
      refine .func ?_ ?_ ?_ ?_
      · have := k1.length; simpa using this
      · intro i u u' g1 g2
        exact k1.get2 i (by simpa using g1) (by simpa [← Array.getElem?_toList] using g2)
      · have := k2.length; simpa using this
      · intro i u u' g1 g2
        exact k2.get2 i (by simpa using g1) (by simpa [← Array.getElem?_toList] using g2)
    · cases hl
  case makeMap t r =>
    cases r with
    | some x => simp at hl
    | none =>
      simp only at hl
      cases hl
      simp only [fin] at hf
      split at hf
      · rename_i hd; cases hf
        let pl : Place := ⟨w.heap.size, 0, 0, 0⟩
        have hst := alloc_sound h hal (o := .map []) (m := pl) (x := .map #[] 0) rfl ⟨#[], 0, rfl, .nil, .nil⟩ (w' := w.alloc (.map #[] 0)) ⟨rfl, rfl, rfl, rfl⟩
        refine good_tail (v' := .map (some w.heap.size)) (w' := w.alloc (.map #[] 0)) ?_ (VR.map (φ := φ.put (al.getD H.next) pl) (m := pl) (by simp [Phi.put])) hst hn hd (fun b hb hh hne => put_old hb hh hne rfl)
        simp [execOp, Instr.makeMap]
      · cases hf
  case makeSlice t l c =>
    split at hl
    · rename_i elem k1 x k2 y hu hx hy
      split at hl
      · rename_i s z by_ hs hz hby
        split at hl
        · rename_i hc
          obtain ⟨c1, c2, c3, c4, c5, c6⟩ := hc
          have e1 := ev hx
          have e2 := ev hy
          cases g1 : a.eval l <;> rw [g1] at e1 <;> cases e1
          cases g2 : a.eval c <;> rw [g2] at e2 <;> cases e2
          subst c2
          obtain ⟨i, hi, his⟩ := info_of_sz hs
          have hib : i.bytes = by_ := by unfold bytOf at hby; simpa [hi] using hby
          have hiz : i.zero = some z := by
            unfold zeroOf at hz; simp only [hi] at hz
            split at hz
            · split at hz
              · rename_i hzz _; cases hz; exact hzz
              · cases hz
            · cases hz
          obtain ⟨-, vz⟩ := run_zero (φ := φ) hz w
          have hrun := run_make (P := P) w t elem i z hu hi hiz k1 k2 x x c1 (Int.le_refl _) (by rw [hib]; exact c5) c6
          refine good_row h hn hal (kr hl) (c := madeCells z.cells (x.toNat * i.size)) (el := elem) ?_ ?_ ?_
          · rw [his, c3, made_toList _ _ (by omega)]; exact flat_vrs vz.cells _
          · rw [flat_len, c3]; simp
          · simp only [execOp, g1, g2, Sem.run_bind, hrun, Result.andThen_ok, Sem.run_pure]
        · cases hl
      · cases hl
    · cases hl
  case slice t x lo hi mx =>
    have evb : ∀ {b : Option Operand} {r : Option Value}, bnd e b = some r → b.map a.eval = r := by
      intro b r hb
      cases b with
      | none => simp [bnd] at hb; subst hb; rfl
      | some q =>
        simp only [bnd] at hb
        split at hb
        · rename_i k i hq; cases hb
          have := ev hq
          cases g : a.eval q <;> rw [g] at this <;> cases this
          simp [g]
        · cases hb
    split at hl
    · rename_i v l h' m hx h1 h2 h3
      have e1 := evb h1
      have e2 := evb h2
      have e3 := evb h3
      split at hl
      · rename_i elem hu
        split at hl
        · rename_i s hs
          split at hl
          · rename_i p q c
            refine good_val h hn (kv hl) (fun v hv => ?_)
            have hel : P.elem t = elem := by simp [Program.elem, hu]
            have hu' : P.underlying t = some (.slice (P.elem t)) := by rw [hel]; exact hu
            obtain ⟨r', g1, g2⟩ := sliceV_sound (P := P) h.rel hu' (by rw [hel]; exact hs) (ev hx) hv
            refine ⟨r', ?_, g2⟩
            simp only [execOp, e1, e2, e3, Sem.run_bind, run_sliceAt_slice w t _ _ _ _ hu', g1, Result.andThen_ok, Sem.run_pure]
          · cases hl
        · cases hl
      · rename_i hu
        split at hl
        · rename_i bs
          refine good_val h hn (kv hl) (fun v hv => ?_)
          have e4 := ev hx
          cases g : a.eval x <;> rw [g] at e4 <;> cases e4
          unfold sliceV at hv
          simp only [] at hv
          split at hv
          · rename_i lo' hi' hl1 hl2
            have f1 : bdV l 0 = some lo' := hl1
            have f2 : bdV h' bs.size = some hi' := hl2
            split at hv
            · rename_i hle; cases hv
              refine ⟨_, ?_, .string _⟩
              simp only [execOp, e1, e2, e3, g, Sem.run_bind, run_sliceAt_string w t _ _ _ _ hu, run_slice_str hu f1 f2 hle.1 hle.2 w, Result.andThen_ok, Sem.run_pure]
            · cases hv
          · cases hv
        · cases hl
      · cases hl
    · cases hl
  case fieldAddr t x f =>
    split at hl
    · rename_i fs l hu hx
      split at hl
      · rename_i g hg
        split at hl
        · rename_i k hs
          obtain ⟨B, o, h1, h2⟩ := addr_sound h.env a ha hx
          refine good_addr h hn (ka hl) h2 (addr_box hx h.env) ?_
          simp [execOp, Instr.fieldAt, run_underlying hu, hg, Instr.sureAddr, h1, fieldPlace, run_sz hs, Addr.add_lit]
        · cases hl
      · cases hl
    · cases hl
  case field t x f =>
    split at hl
    · rename_i fs cs hu hx
      split at hl
      · rename_i g hg
        refine good_val h hn (kv hl) (fun v hv => ?_)
        obtain ⟨ys, h1, h2⟩ := (ev hx).agg_inv
        obtain ⟨v', g1, g2⟩ := partV_sound (P := P) h2 hv w
        exact ⟨v', by simp [execOp, Instr.field, run_underlying hu, hg, h1, asAgg, g1], g2⟩
      · cases hl
    · cases hl
  case indexAddr t x ix =>
    split at hl
    · rename_i elem k i hu hix
      have e1 := ev hix
      cases g1 : a.eval ix <;> rw [g1] at e1 <;> cases e1
      split at hl
      · rename_i s b j m c hs hx
        split at hl
        · rename_i hc
          refine good_val h hn (kv hl) (fun v hv => ?_)
          cases hv
          have e2 := ev hx
          cases g2 : a.eval x <;> rw [g2] at e2 <;> cases e2
          · rename_i c' pl hm h3 h4 h5
            refine ⟨.pointer (some ⟨pl.blk, pl.off + (j + i.toNat * s), none⟩), ?_, .ptr hm⟩
            simp [execOp, Instr.indexAt, run_underlying hu, g1, g2, asIntOf, hc.1, hc.2, run_sz hs, Addr.add_lit, Nat.add_assoc]
          · omega
        · cases hl
      · cases hl
    · rename_i m elem k i hu hix
      have e1 := ev hix
      cases g1 : a.eval ix <;> rw [g1] at e1 <;> cases e1
      split at hl
      · rename_i s l hs hx
        split at hl
        · rename_i hc
          obtain ⟨B, o, h1, h2⟩ := addr_sound h.env a ha hx
          refine good_addr h hn (ka hl) h2 (addr_box hx h.env) ?_
          simp [execOp, Instr.indexAt, run_underlying hu, g1, h1, asIntOf, Instr.sureAddr, hc.1, hc.2, run_sz hs, Addr.add_lit]
        · cases hl
      · cases hl
    · cases hl
  case index t x ix =>
    split at hl
    · rename_i m elem cs k i hu hx hix
      have e1 := ev hix
      cases g1 : a.eval ix <;> rw [g1] at e1 <;> cases e1
      split at hl
      · rename_i s hs
        split at hl
        · rename_i hc
          refine good_val h hn (kv hl) (fun v hv => ?_)
          obtain ⟨ys, h1, h2⟩ := (ev hx).agg_inv
          obtain ⟨v', g2, g3⟩ := partV_sound (P := P) h2 hv w
          exact ⟨v', by simp [execOp, Instr.index, run_underlying hu, h1, g1, asIntOf, hc.1, hc.2, run_sz hs, g2], g3⟩
        · cases hl
      · cases hl
    · rename_i s k i hu hx hix
      have e1 := ev hix
      cases g1 : a.eval ix <;> rw [g1] at e1 <;> cases e1
      have e2 := ev hx
      cases g2 : a.eval x <;> rw [g2] at e2 <;> cases e2
      split at hl
      · rename_i h0
        split at hl
        · rename_i c hc
          refine good_val h hn (kv hl) (fun v hv => ?_)
          cases hv
          exact ⟨.int .u8 c.toNat, by simp [execOp, Instr.index, run_underlying hu, g1, g2, asIntOf, h0, hc], .int _ _⟩
        · cases hl
      · cases hl
    · cases hl
  case lookup t m k ok =>
    split at hl
    · rename_i p q hp hq
      refine good_val h hn (kv hl) (fun v hv => ?_)
      obtain ⟨v', g1, g2⟩ := look_sound (P := P) h.rel (ev hp) (ev hq) hv
      exact ⟨v', by simp [execOp, g1], g2⟩
    · cases hl
  case mapUpdate t m k x =>
    split at hl
    · rename_i p q r hp hq hr
      split at hl
      · rename_i H2 hu
        cases hl
        simp only [fin] at hf
        split at hf
        · rename_i hd; cases hf
          obtain ⟨w2, g1, g2, g3⟩ := upd_sound (P := P) h (ev hp) (ev hq) (ev hr) hu
          exact ⟨.skip, undef, w2, φ, by simp [execOp, g1], .inr ⟨rfl, rfl⟩, g2.none hd undef, fun _ _ hh _ => hh⟩
        · cases hf
      · cases hl
    · cases hl
  case extract x i =>
    split at hl
    · rename_i vs hx
      refine good_val h hn (kv hl) (fun v hv => ?_)
      obtain ⟨ys, h1, h2⟩ := (ev hx).tuple_inv
      obtain ⟨v', g1, g2⟩ := h2.get i (by simpa using hv)
      have g1' : ys[i]? = some v' := by simpa using g1
      exact ⟨v', by simp [execOp, Instr.extract, h1, g1'], g2⟩
    · cases hl
  case call c =>
    obtain ⟨callee, args, argTypes⟩ := c
    cases callee <;> simp only at hl <;> try (cases hl; done)
    rename_i b
    have arr : ∀ {vs : List Value}, opds e args.toList = some vs → ∃ ys : List Value, args.map a.eval = ys.toArray ∧ VRs φ vs ys := fun hv => by
      refine ⟨args.toList.map a.eval, ?_, eval_opds h.env a ha hv⟩
      apply Array.toList_inj.1; simp
    cases b <;> simp only at hl <;> try (cases hl; done)
    case len =>
      split at hl
      · rename_i v t hv ht
        obtain ⟨ys, h1, h2⟩ := arr hv
        refine good_val h hn (kv hl) (fun r hr => ?_)
        cases h2 with
        | cons hx hnil =>
          cases hnil
          obtain ⟨g1, g2⟩ := len_sound (P := P) (ty := type) h.rel ht hx hr
          exact ⟨r, by simp only [execOp, resolve, Sem.run_bind, Sem.run_pure, Result.andThen_ok, invoke, builtin, h1, g1], g2 φ⟩
      · cases hl
    case cap =>
      split at hl
      · rename_i v t hv ht
        obtain ⟨ys, h1, h2⟩ := arr hv
        refine good_val h hn (kv hl) (fun r hr => ?_)
        cases h2 with
        | cons hx hnil =>
          cases hnil
          obtain ⟨g1, g2⟩ := cap_sound (P := P) (ty := type) (w := w) ht hx hr
          exact ⟨r, by simp only [execOp, resolve, Sem.run_bind, Sem.run_pure, Result.andThen_ok, invoke, builtin, h1, g1], g2 φ⟩
      · cases hl
    case append =>
      split at hl
      · rename_i x y t t2 hv ht ht2
        obtain ⟨ys, h1, h2⟩ := arr hv
        split at hl
        · rename_i elem e2 hu hu2
          split at hl
          · rename_i s by_ z hs hb hz
            split at hl
            · rename_i hc
              split at hl
              · rename_i v H2 hap
                cases hl
                simp only [fin] at hf
                split at hf
                · rename_i hd; cases hf
                  cases h2 with
                  | cons hx h3 =>
                    cases h3 with
                    | cons hy hnil =>
                      cases hnil
                      obtain ⟨v', w2, φ2, g1, g2, g3, g4⟩ := app_sound (P := P) (ty := type) h hal ht ht2 hu hu2 hs hb hz hc.1 hc.2 hx hy hap
                      refine good_tail (v' := v') (w' := w2) ?_ g2 g3 hn hd g4
                      simp only [execOp, resolve, Sem.run_bind, Sem.run_pure, Result.andThen_ok, invoke, builtin, h1, g1]
                · cases hf
              · cases hl
            · cases hl
          · cases hl
        · cases hl
      · cases hl
    case copy =>
      split at hl
      · rename_i x y t hv ht
        obtain ⟨ys, h1, h2⟩ := arr hv
        split at hl
        · rename_i elem hu
          split at hl
          · rename_i s hs
            split at hl
            · rename_i v H2 hap
              cases hl
              simp only [fin] at hf
              split at hf
              · rename_i hd; cases hf
                cases h2 with
                | cons hx h3 =>
                  cases h3 with
                  | cons hy hnil =>
                    cases hnil
                    obtain ⟨v', w2, g1, g2, g3, g4⟩ := copy_sound (P := P) (ty := type) h ht hu hs hx hy hap
                    refine good_tail (v' := v') (w' := w2) ?_ g2 g3 hn hd (fun _ _ hh _ => hh)
                    simp only [execOp, resolve, Sem.run_bind, Sem.run_pure, Result.andThen_ok, invoke, builtin, h1, g1]
              · cases hf
            · cases hl
          · cases hl
        · cases hl
      · cases hl
    case max =>
      split at hl
      · rename_i k i vs hv
        obtain ⟨ys, h1, h2⟩ := arr hv
        refine good_val h hn (kv hl) (fun r hr => ?_)
        cases h2 with
        | cons hx h3 =>
          cases hx
          obtain ⟨g1, b, rfl⟩ := minmax_sound true _ _ _ _ _ h3 hr (P := P) w
          refine ⟨_, ?_, .int _ _⟩
          simp only [if_true] at g1
          simp only [execOp, resolve, Sem.run_bind, Sem.run_pure, Result.andThen_ok, invoke, builtin, h1, Builtin.max_, g1]
      · cases hl
    case min =>
      split at hl
      · rename_i k i vs hv
        obtain ⟨ys, h1, h2⟩ := arr hv
        refine good_val h hn (kv hl) (fun r hr => ?_)
        cases h2 with
        | cons hx h3 =>
          cases hx
          obtain ⟨g1, b, rfl⟩ := minmax_sound false _ _ _ _ _ h3 hr (P := P) w
          refine ⟨_, ?_, .int _ _⟩
          simp only [Bool.false_eq_true, if_false] at g1
          simp only [execOp, resolve, Sem.run_bind, Sem.run_pure, Result.andThen_ok, invoke, builtin, h1, Builtin.min_, g1]
      · cases hl

end Go.Lg
