/- The logical machine, part 4: each operation on a logical state is what the model does. No condition. -/
import Derived.Test.YtaehendkbicepaaGreatA3
set_option linter.unusedVariables false
set_option linter.unusedSimpArgs false
namespace Go.Lg
variable {P : Program} {φ0 φ : Phi} {H0 H : LH} {w0 w : World} {e : Env} {tmps : Array Value} {n base : Nat}

def putT (tmps : Array Value) (dst : Option Nat) (v : Value) : Array Value :=
  match dst with
  | some d => tmps.setIfInBounds d v
  | none => tmps

theorem put_tmps (a : Act) (dst : Option Nat) (v : Value) : (a.put dst v).tmps = putT a.tmps dst v := by cases dst <;> rfl

theorem putT_size (tmps : Array Value) (dst : Option Nat) (v : Value) : (putT tmps dst v).size = tmps.size := by cases dst <;> simp [putT]

theorem okDst_spec {d : Nat} (h : okDst n e (some d) = true) : d < n ∧ ∀ f cs, e d ≠ .box f cs := by
  simp only [okDst, Bool.and_eq_true, decide_eq_true_eq] at h
  refine ⟨h.1, fun f cs hb => ?_⟩
  rw [hb] at h; simp [isBox] at h

theorem St.val (h : St φ0 H0 w0 φ e H tmps w) (hn : tmps.size = n) {dst : Option Nat} (hd : okDst n e dst = true) {v v' : Value} (hv : VR φ v v') :
    St φ0 H0 w0 φ (putE e dst (.val v)) H (putT tmps dst v') w := by
  cases dst with
  | none => exact h
  | some d =>
    obtain ⟨h1, h2⟩ := okDst_spec hd
    exact ⟨h.fr, h.rel, h.env.putVal h2 (by omega) hv, h.old, h.dead⟩

theorem St.none (h : St φ0 H0 w0 φ e H tmps w) {dst : Option Nat} (hd : okDst n e dst = true) (v' : Value) : St φ0 H0 w0 φ (putE e dst .none) H (putT tmps dst v') w := by
  cases dst with
  | none => exact h
  | some d =>
    obtain ⟨h1, h2⟩ := okDst_spec hd
    exact ⟨h.fr, h.rel, h.env.putNone h2 v', h.old, h.dead⟩

/-- What an operation is to show. -/
def Good (P : Program) (φ0 : Phi) (H0 : LH) (w0 : World) (φ : Phi) (al : Option Nat) (H : LH) (dst : Option Nat) (tmps : Array Value) (e' : Env) (H' : LH) (s : Sem Next) (w : World) : Prop :=
  ∃ nx u w' φ', s.run P w = .ok nx w' ∧ (nx = .value u ∨ nx = .skip ∧ u = undef) ∧ St φ0 H0 w0 φ' e' H' (putT tmps dst u) w' ∧
    (∀ b, b < H.next → φ b = none → al ≠ some b → φ' b = none)

theorem eval_opd (h : ER base φ e H tmps w) (a : Act) (ha : a.tmps = tmps) {x : Operand} {v : Value} (hx : opd e x = some v) : VR φ v (a.eval x) := by
  cases x with
  | tmp t =>
    simp only [opd] at hx
    split at hx
    · rename_i u hu; cases hx
      obtain ⟨v', h1, h2⟩ := h.val t _ hu
      simp [Act.eval, ha, h1]; exact h2
    · cases hx
  | const c =>
    simp only [opd] at hx
    split at hx
    · rename_i hc; cases hx; exact VR.of_closed _ _ hc
    · cases hx
  | func f => simp only [opd] at hx; cases hx; exact .func rfl (by simp) rfl (by simp)
  | global g => simp [opd] at hx

theorem eval_opds (h : ER base φ e H tmps w) (a : Act) (ha : a.tmps = tmps) : ∀ {xs : List Operand} {vs : List Value}, opds e xs = some vs → VRs φ vs (xs.map a.eval)
  | [], vs, hx => by simp [opds] at hx; subst hx; exact .nil
  | x :: xs, vs, hx => by
    simp only [opds] at hx
    split at hx
    · rename_i v vs' h1 h2; cases hx; exact .cons (eval_opd h a ha h1) (eval_opds h a ha h2)
    · cases hx

theorem eval_parts (h : ER base φ e H tmps w) (a : Act) (ha : a.tmps = tmps) : ∀ {xs : List (Nat × Operand)} {vs : List (Nat × Value)}, partsV e xs = some vs → PRs φ vs (xs.map fun (i, x) => (i, a.eval x))
  | [], vs, hx => by simp [partsV] at hx; subst hx; exact .nil
  | (i, x) :: xs, vs, hx => by
    simp only [partsV] at hx
    split at hx
    · rename_i v vs' h1 h2; cases hx; exact .cons (eval_opd h a ha h1) (eval_parts h a ha h2)
    · cases hx

/-! ### addresses, loads and stores -/
/-- Where a logical address leads in the world. -/
def ALRel (φ : Phi) (tmps : Array Value) : AL → Nat → Nat → Prop
  | .heap b i, B, o => ∃ m, φ b = some m ∧ B = m.blk ∧ o = m.off + i
  | .box s i, B, o => BoxAt tmps s B ∧ o = i

theorem addr_sound (h : ER base φ e H tmps w) (a : Act) (ha : a.tmps = tmps) {x : Operand} {l : AL} (hx : addrOf e x = some l) : ∃ B o, a.eval x = .pointer (some ⟨B, o, none⟩) ∧ ALRel φ tmps l B o := by
  cases x with
  | tmp t =>
    simp only [addrOf] at hx
    split at hx
    · rename_i a' hu
      split at hx
      · rename_i hsp; cases hx
        obtain ⟨b, i, sp⟩ := a'
        simp at hsp; subst hsp
        obtain ⟨v', h1, h2⟩ := h.val t _ hu
        cases h2 with
        | ptr hm => exact ⟨_, _, by simp [Act.eval, ha, h1], _, hm, rfl, rfl⟩
      · cases hx
    · rename_i f cs hu; cases hx
      obtain ⟨B, c, el, h1, _⟩ := h.box t f cs hu
      have h1' := h1
      unfold BoxAt at h1'
      exact ⟨B, 0, by simp [Act.eval, ha, h1'], h1, rfl⟩
    · rename_i s o hu; cases hx
      obtain ⟨B, f, cs, h1, h2, h3⟩ := h.ref t s o hu
      exact ⟨B, o, by simp [Act.eval, ha, h2], h1, rfl⟩
    · cases hx
  | _ => simp [addrOf] at hx

/-- The cells that an address leads to. -/
theorem rd_sound (h : St φ0 H0 w0 φ e H tmps w) {l : AL} {B o : Nat} (hl : ALRel φ tmps l B o) {cs : List Value} {i : Nat} (hr : rdCells e H l = some (cs, i)) :
    ∃ c el fz k, w.heap[B]? = some (.cells c el fz) ∧ o = k + i ∧ k + cs.length ≤ c.size ∧ VRs φ cs ((c.toList.drop k).take cs.length) := by
  cases l with
  | heap b j =>
    obtain ⟨m, hm, rfl, rfl⟩ := hl
    simp only [rdCells] at hr
    split at hr
    · rename_i cs' sz ro hg; cases hr
      obtain ⟨m', h1, h2⟩ := h.rel.live b _ hg
      rw [hm] at h1; cases h1
      obtain ⟨c, el, fz, g1, g2, g3, g4, g5, g6, g7⟩ := h2
      exact ⟨c, el, fz, m.off, g1, rfl, g4, g5⟩
    · cases hr
  | box s j =>
    obtain ⟨hB, rfl⟩ := hl
    simp only [rdCells] at hr
    split at hr
    · rename_i f cs' he; cases hr
      obtain ⟨B', c, el, g1, g2, g3, g4, g5, g6⟩ := h.env.box s f _ he
      have := hB.inj g1; subst this
      have hlen := g3.length
      refine ⟨c, el, (0, 0), 0, g2, by simp, by simp [hlen], ?_⟩
      have : (c.toList.drop 0).take cs.length = c.toList := by rw [hlen, List.drop_zero]; exact List.take_of_length_le (Nat.le_refl _)
      rw [this]; exact g3
    · cases hr

theorem cell_at {B : Nat} {c : Array Value} {el : TypeId} {fz : Nat × Nat} (h : w.heap[B]? = some (.cells c el fz)) (j : Nat) : w.cell? ⟨B, j, none⟩ = c[j]? := by simp [World.cell?, h]

theorem run_load_cell {B j : Nat} {v : Value} (h : w.cell? ⟨B, j, none⟩ = some v) : (load ⟨B, j, none⟩).run P w = .ok v w := by simp [load, Sem.run, h]

theorem VRs.win {xs : List Value} {c : Array Value} {k : Nat} (h : VRs φ xs ((c.toList.drop k).take xs.length)) {i : Nat} {v : Value} (hv : xs[i]? = some v) : ∃ v', c[k + i]? = some v' ∧ VR φ v v' := by
  obtain ⟨v', h1, h2⟩ := h.get i hv
  have hi : i < xs.length := by
    rcases Nat.lt_or_ge i xs.length with hh | hh
    · exact hh
    · rw [List.getElem?_eq_none hh] at hv; cases hv
  rw [List.getElem?_take, if_pos hi, List.getElem?_drop] at h1
  exact ⟨v', by simpa using h1, h2⟩

theorem load_sound (h : St φ0 H0 w0 φ e H tmps w) {t : TypeId} {l : AL} {B o : Nat} (hl : ALRel φ tmps l B o) {cs : List Value} {i : Nat} (hr : rdCells e H l = some (cs, i)) {v : Value} (hp : partV P t cs i = some v) :
    ∃ v', (Instr.loadAt t (.pointer (some ⟨B, o, none⟩))).run P w = .ok v' w ∧ VR φ v v' := by
  obtain ⟨c, el, fz, k, h1, rfl, h3, h4⟩ := rd_sound h hl hr
  unfold partV at hp
  split at hp
  · rename_i s ha hs
    split at hp
    · rename_i hle; cases hp
      have hw : VRs φ ((cs.drop i).take s) (((c.toList.drop k).take cs.length).drop i |>.take s) := (h4.drop i).take s
      have hwl := hw.length
      have hlen : ((cs.drop i).take s).length = s := by simp; omega
      have hload := run_loadCells_list (P := P) w ⟨B, k + i, none⟩ ((((c.toList.drop k).take cs.length).drop i).take s) (fun j v hv => by
        rw [Addr.add_lit, cell_at h1]
        rw [List.getElem?_take] at hv
        split at hv
        · rw [List.getElem?_drop, List.getElem?_take] at hv
          split at hv
          · rw [List.getElem?_drop] at hv
            rw [show k + i + j = k + (i + j) by omega]; simpa using hv
          · cases hv
        · cases hv)
      rw [← hwl, hlen] at hload
      exact ⟨.agg (((c.toList.drop k).take cs.length).drop i |>.take s).toArray, by simp [Instr.loadAt, Instr.sureAddr, loadVar, run_agg ha, run_sz hs, hload], VR.agg_list (by simpa using hw)⟩
    · cases hp
  · rename_i _ ha
    obtain ⟨v', g1, g2⟩ := h4.win hp
    have hc : w.cell? ⟨B, k + i, none⟩ = some v' := by rw [cell_at h1]; exact g1
    exact ⟨v', by simp [Instr.loadAt, Instr.sureAddr, loadVar, run_agg ha, hc], g2⟩
  · cases hp

theorem setMany_length : ∀ (vs cs : List Value) (i : Nat), (setMany cs i vs).length = cs.length
  | [], _, _ => rfl
  | v :: vs, cs, i => by simp [setMany, setMany_length vs]

theorem setMany_cell : ∀ (vs cs : List Value) (i : Nat), cs.all isCell = true → vs.all isCell = true → (setMany cs i vs).all isCell = true
  | [], _, _, h, _ => h
  | v :: vs, cs, i, h, hv => by
    simp only [List.all_cons, Bool.and_eq_true] at hv
    refine setMany_cell vs _ _ ?_ hv.2
    rw [List.all_eq_true] at h ⊢
    intro x hx
    rcases List.mem_or_eq_of_mem_set hx with hx | hx
    · exact h x hx
    · subst hx; exact hv.1

theorem setMany_rel : ∀ {vs vs' cs cs' : List Value} (i : Nat), VRs φ vs vs' → VRs φ cs cs' → VRs φ (setMany cs i vs) (setMany cs' i vs')
  | _, _, _, _, i, .nil, h => h
  | _, _, _, _, i, .cons hv ht, h => setMany_rel (i + 1) ht (h.set i hv)

theorem oneCell_isCell {v : Value} (h : isCell v = true) : v.oneCell' = true := by cases v <;> simp [isCell] at h <;> rfl

/-- A row written from some place on. -/
theorem setCells_turned : ∀ (vs : List Value) (w : World) (B o : Nat) (c : Array Value) (el : TypeId) (fz : Nat × Nat), w.heap[B]? = some (.cells c el fz) →
    ∃ c', Turned w (w.setCells B o vs) B (.cells c' el fz) ∧ c'.toList = setMany c.toList o vs
  | [], w, B, o, c, el, fz, h => ⟨c, ⟨rfl, rfl, rfl, rfl, h, fun _ _ => rfl⟩, rfl⟩
  | v :: vs, w, B, o, c, el, fz, h => by
    have h1 : (w.setCell ⟨B, o, none⟩ v).heap[B]? = some (.cells (c.setIfInBounds o v) el fz) := by
      simp [World.setCell, Array.getElem?_modify, h]
    obtain ⟨c', ht, hc⟩ := setCells_turned vs (w.setCell ⟨B, o, none⟩ v) B (o + 1) _ el fz h1
    refine ⟨c', ⟨ht.os, ht.tape, ht.output, by rw [World.setCells, ht.size]; simp [World.setCell], ht.at_, fun k hk => ?_⟩, ?_⟩
    · rw [World.setCells, ht.other k hk]; simp [World.setCell, Array.getElem?_modify, Ne.symm hk]
    · rw [hc]; simp [setMany]

theorem run_storeCells_row {B o : Nat} {c : Array Value} {el : TypeId} (h : w.heap[B]? = some (.cells c el (0, 0))) {vs : List Value} (hv : vs.all isCell = true) (hb : o + vs.length ≤ c.size) :
    (storeCells ⟨B, o, none⟩ vs).run P w = .ok () (w.setCells B o vs) := by
  have := run_storeCells_cells (P := P) B o vs 0 w (fun j hj => by rw [cell_at h]; simp; omega) (fun j hj => by simp [World.frozen?, h]) (fun v hm => oneCell_isCell (List.all_eq_true.1 hv v hm))
  simpa using this

theorem take_drop_all {l : List Value} {k n : Nat} (h : k + n ≤ l.length) : ((l.drop k).take n).length = n := by simp; omega

/-- A window of a row, written. -/
theorem setMany_win : ∀ (vs l : List Value) (k i n : Nat), i + vs.length ≤ n → k + n ≤ l.length → ((setMany l (k + i) vs).drop k).take n = setMany ((l.drop k).take n) i vs
  | [], l, k, i, n, _, _ => rfl
  | v :: vs, l, k, i, n, hi, hk => by
    simp only [List.length_cons] at hi
    simp only [setMany]
    rw [show k + i + 1 = k + (i + 1) by omega, setMany_win vs (l.set (k + i) v) k (i + 1) n (by omega) (by simpa using hk)]
    congr 1
    apply List.ext_getElem?
    intro j
    simp only [List.getElem?_take, List.getElem?_drop, List.getElem?_set, List.length_take, List.length_drop, List.length_set]
    by_cases hj : j < n
    · simp only [hj, if_true]
      by_cases hij : i = j
      · subst hij; rw [if_pos rfl, if_pos rfl, if_pos (by omega), if_pos (by omega)]
      · rw [if_neg (by omega), if_neg hij]
    · simp [hj]; omega

theorem put_next (H : LH) (b : Nat) (o : Option LObj) : (H.put b o).next = H.next := rfl

theorem store_sound (h : St φ0 H0 w0 φ e H tmps w) {l : AL} {B o : Nat} (hl : ALRel φ tmps l B o) {vs vs' : List Value} (hv : VRs φ vs vs') (hc : vs.all isCell = true) {r : LRes} (hw : wrC e H vs l = some r) :
    ∃ w' bx H', r = .skip bx H' ∧ (storeCells ⟨B, o, none⟩ vs').run P w = .ok () w' ∧ St φ0 H0 w0 φ (match bx with | some (s, cs) => upd e s (.box false cs) | none => e) H' tmps w' ∧ H'.next = H.next ∧ (∀ s cs, bx = some (s, cs) → ∃ cs0, e s = .box false cs0) := by
  have hlen := hv.length
  have hc' := hv.isCell hc
  cases l with
  | heap b j =>
    obtain ⟨m, hm, rfl, rfl⟩ := hl
    simp only [wrC] at hw
    split at hw
    · rename_i cs sz hg
      split at hw
      · rename_i hle; cases hw
        obtain ⟨m', h1, h2⟩ := h.rel.live b _ hg
        rw [hm] at h1; cases h1
        obtain ⟨c, el, fz, g1, g2, g3, g4, g5, g6, g7⟩ := h2
        have := g6 rfl; subst this
        obtain ⟨c', ht, hct⟩ := setCells_turned vs' w m.blk (m.off + j) c el (0, 0) g1
        have hsz : c'.size = c.size := by have := congrArg List.length hct; simpa [setMany_length] using this
        have hobj : ObjRel φ m (.cells (setMany cs j vs) sz false) (some (.cells c' el (0, 0))) := by
          refine ⟨c', el, (0, 0), rfl, by omega, g3, by rw [setMany_length]; omega, ?_, fun _ => rfl, setMany_cell _ _ _ g7 hc⟩
          rw [setMany_length, hct, setMany_win vs' c.toList m.off j cs.length (by omega) (by simpa using g4)]
          exact setMany_rel j hv g5
        refine ⟨_, none, _, rfl, run_storeCells_row g1 hc' (by omega), ?_, rfl, fun _ _ hh => by cases hh⟩
        exact h.step (Fr.turned hg rfl hm ht) (h.rel.turned hg rfl hm rfl ht hobj) (fun _ _ h => h) (dead_put hg)
      · cases hw
    · cases hw
  | box s j =>
    obtain ⟨hB, rfl⟩ := hl
    simp only [wrC] at hw
    split at hw
    · rename_i cs he
      split at hw
      · rename_i hle; cases hw
        obtain ⟨B', c, el, g1, g2, g3, g4, g5, g6⟩ := h.env.box s false cs he
        have := hB.inj g1; subst this
        obtain ⟨c', ht, hct⟩ := setCells_turned vs' w B o c el (0, 0) g2
        have hcl := g3.length
        refine ⟨_, some (s, setMany cs o vs), H, rfl, run_storeCells_row g2 hc' (by simp at hcl; omega), ?_, rfl, ?_⟩
        · refine ⟨h.fr.turnedPrivate g5 ht, h.rel.turnedPrivate g4 ht, h.env.setBox he hB ht ?_ (setMany_cell _ _ _ g6 hc), h.old, h.dead⟩
          rw [hct]; exact setMany_rel o hv g3
        · intro s' cs' hh; cases hh; exact ⟨cs, he⟩
      · cases hw
    · cases hw

end Go.Lg
