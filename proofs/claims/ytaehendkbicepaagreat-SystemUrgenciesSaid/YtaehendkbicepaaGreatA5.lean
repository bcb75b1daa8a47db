/- The logical machine, part 5: new rows, appends, copies, maps. No condition. -/
import Derived.Test.YtaehendkbicepaaGreatA4
set_option linter.unusedVariables false
set_option linter.unusedSimpArgs false
namespace Go.Lg
variable {P : Program} {φ0 φ : Phi} {H0 H : LH} {w0 w w' : World} {e : Env} {tmps : Array Value} {n base : Nat} {al : Option Nat}

theorem alloc_get (H : LH) (al : Option Nat) (o : LObj) : (H.alloc al o).get = fun y => if y = al.getD H.next then some o else H.get y := by
  cases al <;> rfl
theorem alloc_next (H : LH) (al : Option Nat) (o : LObj) : H.next ≤ (H.alloc al o).next := by
  cases al with
  | none => exact Nat.le_succ _
  | some b => exact Nat.le_refl _

/-- A number for a new object. -/
def OkAl (φ : Phi) (H0 H : LH) (al : Option Nat) : Prop := ∀ b, al = some b → φ b = none ∧ b < H.next ∧ H0.next ≤ b

theorem OkAl.id (hal : OkAl φ H0 H al) (h : St φ0 H0 w0 φ e H tmps w) (o : LObj) : φ (al.getD H.next) = none ∧ al.getD H.next < (H.alloc al o).next ∧ H0.next ≤ al.getD H.next := by
  cases al with
  | none =>
    refine ⟨?_, Nat.lt_succ_self _, h.fr.next⟩
    cases hx : φ H.next with
    | none => exact hx
    | some m => have := (h.rel.dom _ m hx).1; omega
  | some b => exact hal b rfl

theorem put_old {m : Place} {id b : Nat} (hb : b < H.next) (hn : φ b = none) (hne : al ≠ some b) (hid : id = al.getD H.next) : (φ.put id m) b = none := by
  have : b ≠ id := by
    subst hid
    cases al with
    | none => simp; omega
    | some c => intro e; apply hne; simp at e; rw [e]
  simp [Phi.put, this, hn]

theorem alloc_sound (h : St φ0 H0 w0 φ e H tmps w) (hal : OkAl φ H0 H al) {o : LObj} {x : Obj} {m : Place} (hm : m.blk = w.heap.size)
    (ho : ObjRel (φ.put (al.getD H.next) m) m o (some x)) (hp : Pushed w w' x) : St φ0 H0 w0 (φ.put (al.getD H.next) m) e (H.alloc al o) tmps w' := by
  obtain ⟨h1, h2, h3⟩ := hal.id h o
  refine h.step (Fr.push h1 (alloc_get H al o) (alloc_next H al o) hm hp) (h.rel.push h1 (alloc_get H al o) (alloc_next H al o) h2 hm ho hp) ?_ (fun c hc hn => by rw [alloc_get]; show (if c = al.getD H.next then _ else _) = _; rw [if_neg (by omega)]; exact hn)
  intro b hb hn
  have : b ≠ al.getD H.next := by omega
  simp [Phi.put, this, hn]

theorem row_obj {m : Place} {cs : List Value} {c : Array Value} {el : TypeId} {sz : Nat} (h1 : m.off = 0) (h2 : m.size = c.size) (h3 : m.sz = sz) (hc : VRs φ cs c.toList) (hcell : cs.all isCell = true) :
    ObjRel φ m (.cells cs sz false) (some (.cells c el (0, 0))) := by
  have hl : cs.length = c.size := by simpa using hc.length
  refine ⟨c, el, (0, 0), rfl, h2.symm, h3, by omega, ?_, fun _ => rfl, hcell⟩
  rw [h1, List.drop_zero, hc.length, List.take_of_length_le (Nat.le_refl _)]; exact hc

/-- A row that is handed on under a new number. -/
theorem Rel.renew (h : Rel φ H w) {b id : Nat} {o o' : LObj} {m m2 : Place} {x : Obj} (hb : H.get b = some o) (ho : o.own = true) (hm : φ b = some m) (hid : φ id = none) (h2 : m2.blk = m.blk) (ho' : o'.own = true)
    {H' : LH} (hg : H'.get = fun y => if y = id then some o' else (H.put b none).get y) (hn : H.next ≤ H'.next) (hlt : id < H'.next) (ht : Turned w w' m.blk x) (hx : ObjRel (φ.put id m2) m2 o' (some x)) : Rel (φ.put id m2) H' w' where
  dom b' m' hb' := by
    by_cases e : b' = id
    · subst e; simp [Phi.put] at hb'; subst hb'; exact ⟨hlt, by rw [h2, ht.size]; exact (h.dom b m hm).2⟩
    · simp [Phi.put, e] at hb'; have := h.dom b' m' hb'; exact ⟨by omega, by rw [ht.size]; exact this.2⟩
  live b' o1 hb' := by
    by_cases e : b' = id
    · subst e; simp [hg] at hb'; subst hb'; exact ⟨m2, by simp [Phi.put], by rw [h2, ht.at_]; exact hx⟩
    · simp only [hg, if_neg e, LH.put] at hb'
      split at hb'
      · cases hb'
      · rename_i hne
        obtain ⟨m', g1, g2⟩ := h.live b' o1 hb'
        have hne' : m'.blk ≠ m.blk := fun e' => h.sep b b' o o1 m m' (Ne.symm hne) hb ho hb' hm g1 e'.symm
        exact ⟨m', by simp [Phi.put, e, g1], by rw [ht.other _ hne']; exact g2.ext (Phi.ext_put hid)⟩
  sep b1 b2 o1 o2 m1 m3 hne h1 hown h3 g1 g2 := by
    by_cases e1 : b1 = id
    · subst e1
      have e2 : b2 ≠ b1 := Ne.symm hne
      simp [Phi.put] at g1; subst g1
      simp [Phi.put, e2] at g2
      simp only [hg, if_neg e2, LH.put] at h3
      split at h3
      · cases h3
      · rename_i hne2; rw [h2]; exact h.sep b b2 o o2 m m3 (Ne.symm hne2) hb ho h3 hm g2
    · simp [Phi.put, e1] at g1
      simp only [hg, if_neg e1, LH.put] at h1
      split at h1
      · cases h1
      · rename_i hne1
        by_cases e2 : b2 = id
        · subst e2; simp [Phi.put] at g2; subst g2; rw [h2]; exact h.sep b1 b o1 o m1 m hne1 h1 hown hb g1 hm
        · simp [Phi.put, e2] at g2
          simp only [hg, if_neg e2, LH.put] at h3
          split at h3
          · cases h3
          · exact h.sep b1 b2 o1 o2 m1 m3 hne h1 hown h3 g1 g2

theorem Fr.renew {b id : Nat} {o o' : LObj} {m m2 : Place} {x : Obj} (hb : H.get b = some o) (ho : o.own = true) (hm : φ b = some m) (hid : φ id = none) (h2 : m2.blk = m.blk)
    {H' : LH} (hg : H'.get = fun y => if y = id then some o' else (H.put b none).get y) (hn : H.next ≤ H'.next) (ht : Turned w w' m.blk x) : Fr φ H w (φ.put id m2) H' w' where
  os := ht.os
  tape := ht.tape
  output := ht.output
  size := by rw [ht.size]; exact Nat.le_refl _
  ext := Phi.ext_put hid
  next := hn
  same k hk hw := ht.other k (fun e => hw ⟨b, o, m, hb, ho, hm, e.symm⟩)
  im B h := by
    obtain ⟨b', o1, m', h1, h3, h4⟩ := h
    by_cases e : b' = id
    · subst e; simp [Phi.put] at h3; subst h3; exact .inl ⟨b, o, m, hb, hm, by rw [← h4, h2]⟩
    · simp [Phi.put, e] at h3
      simp only [hg, if_neg e, LH.put] at h1
      split at h1
      · cases h1
      · exact .inl ⟨b', o1, m', h1, h3, h4⟩
  wr B h := by
    obtain ⟨b', o1, m', h1, h1', h3, h4⟩ := h
    by_cases e : b' = id
    · subst e; simp [Phi.put] at h3; subst h3; exact .inl ⟨b, o, m, hb, ho, hm, by rw [← h4, h2]⟩
    · simp [Phi.put, e] at h3
      simp only [hg, if_neg e, LH.put] at h1
      split at h1
      · cases h1
      · exact .inl ⟨b', o1, m', h1, h1', h3, h4⟩

/-! ### slices -/
theorem slCells_sound (h : Rel φ H w) {s : Nat} {v v' : Value} {cs : List Value} (hv : VR φ v v') (hc : slCells H s v = some cs) {k : Nat} (hk : slLen v = some k) :
    ∃ a c' cs', v' = .slice a k c' ∧ k ≤ c' ∧ VRs φ cs cs' ∧ cs.length = k * s ∧ cs.all isCell = true ∧ ((Builtin.firstCells s k v').run P w = .ok cs'.toArray w) ∧ (∀ w2 : World, w2.heap = w.heap → (Builtin.firstCells s k v').run P w2 = .ok cs'.toArray w2) ∧ (∀ k', k' ≤ k → (Builtin.firstCells s k' v').run P w = .ok (cs'.take (k' * s)).toArray w) := by
  cases hv <;> simp only [slCells] at hc <;> try (cases hc; done)
  case slNil =>
    cases hc; simp [slLen] at hk; subst hk
    exact ⟨none, 0, [], rfl, Nat.le_refl _, .nil, by simp, rfl, by simp [Builtin.firstCells], fun w2 _ => by simp [Builtin.firstCells], fun k' _ => by simp [Builtin.firstCells]⟩
  case slEnd b i c A =>
    simp [slLen] at hk; subst hk
    split at hc
    · split at hc
      · rename_i hs; cases hc
        refine ⟨some A, 0, [], rfl, Nat.le_refl _, by simpa using VRs.nil, by simp, by simp, ?_, fun w2 _ => ?_, fun k' hk' => ?_⟩
        · simp [Builtin.firstCells, loadCells, loadCellsFrom]
        · simp [Builtin.firstCells, loadCells, loadCellsFrom]
        · obtain rfl : k' = 0 := by omega
          simp [Builtin.firstCells, loadCells, loadCellsFrom]
      · cases hc
    · cases hc
  case sl b i k' c c' m hm hn ht hs =>
    simp [slLen] at hk; subst hk
    split at hc
    · rename_i cs0 sz ro hg
      split at hc
      · rename_i hcond; obtain ⟨rfl, hle⟩ := hcond; cases hc
        obtain ⟨m', h1, h2⟩ := h.live b _ hg
        rw [hm] at h1; cases h1
        obtain ⟨c0, el, fz, g1, g2, g3, g4, g5, g6, g7⟩ := h2
        have hw := (g5.drop i).take (k' * sz)
        have hlen : ((cs0.drop i).take (k' * sz)).length = k' * sz := by simp; omega
        have hrunk : ∀ w2 : World, w2.heap = w.heap → ∀ q, q ≤ k' → (Builtin.firstCells sz q (.slice (some ⟨m.blk, m.off + i, none⟩) k' c')).run P w2 = .ok (((((c0.toList.drop m.off).take cs0.length).drop i).take (k' * sz)).take (q * sz)).toArray w2 := by
          intro w2 hw2 q hq
          have := run_loadCells_list (P := P) w2 ⟨m.blk, m.off + i, none⟩ (((((c0.toList.drop m.off).take cs0.length).drop i).take (k' * sz)).take (q * sz)) (fun j v hv => by
            rw [Addr.add_lit, cell_at (w := w2) (by rw [hw2]; exact g1)]
            rw [List.getElem?_take] at hv
            split at hv
            · rw [List.getElem?_take] at hv
              split at hv
              · rw [List.getElem?_drop, List.getElem?_take] at hv
                split at hv
                · rw [List.getElem?_drop] at hv
                  rw [show m.off + i + j = m.off + (i + j) by omega]; simpa using hv
                · cases hv
              · cases hv
            · cases hv)
          have hq2 : (((((c0.toList.drop m.off).take cs0.length).drop i).take (k' * sz)).take (q * sz)).length = q * sz := by
            rw [List.length_take, ← hw.length, hlen]
            have := Nat.mul_le_mul_right sz hq
            omega
          rw [hq2] at this
          simpa [Builtin.firstCells] using this
        have hrun : ∀ w2 : World, w2.heap = w.heap → (Builtin.firstCells sz k' (.slice (some ⟨m.blk, m.off + i, none⟩) k' c')).run P w2 = .ok ((((c0.toList.drop m.off).take cs0.length).drop i).take (k' * sz)).toArray w2 := by
          intro w2 hw2
          have := hrunk w2 hw2 k' (Nat.le_refl _)
          rwa [List.take_of_length_le (l := (((c0.toList.drop m.off).take cs0.length).drop i).take (k' * sz)) (by rw [← hw.length, hlen]; exact Nat.le_refl _)] at this
        refine ⟨_, c', _, rfl, hn, hw, hlen, ?_, hrun w rfl, hrun, hrunk w rfl⟩
        rw [List.all_eq_true] at g7 ⊢
        exact fun x hx => g7 x (List.mem_of_mem_drop (List.mem_of_mem_take hx))
      · cases hc
    · cases hc

theorem lenOf_slice (a : Option Addr) (k c : Nat) (w : World) : (Builtin.lenOf (.slice a k c)).run P w = .ok k w := rfl

end Go.Lg
