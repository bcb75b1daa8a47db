/- The logical machine, part 6: append, copy, make. No condition. -/
import Derived.Test.YtaehendkbicepaaGreatA5
set_option linter.unusedVariables false
set_option linter.unusedSimpArgs false
namespace Go.Lg
variable {P : Program} {φ0 φ : Phi} {H0 H : LH} {w0 w w' : World} {e : Env} {tmps : Array Value} {n base : Nat} {al : Option Nat}

theorem run_askRoom (k : Nat) (w : World) : (askRoom k).run P w = .ok () w := by
  unfold askRoom; split <;> rfl

theorem run_appendCap (need old : Nat) (el : TypeId) (w : World) : ∃ c, need ≤ c ∧ (choose (.appendCap need old el)).run P w = .ok c { w with drawn := w.drawn + 1 } :=
  ⟨_, Nat.le_add_right _ _, rfl⟩

theorem setMany_app : ∀ (vs l : List Value) (k a : Nat), k + a + vs.length ≤ l.length → ((setMany l (k + a) vs).drop k).take (a + vs.length) = (l.drop k).take a ++ vs
  | [], l, k, a, h => by simp [setMany]
  | v :: vs, l, k, a, h => by
    simp only [List.length_cons] at h ⊢
    simp only [setMany]
    have ih := setMany_app vs (l.set (k + a) v) k (a + 1) (by simp; omega)
    rw [show k + a + 1 = k + (a + 1) by omega, show a + (vs.length + 1) = a + 1 + vs.length by omega, ih]
    have : ((l.set (k + a) v).drop k).take (a + 1) = (l.drop k).take a ++ [v] := by
      apply List.ext_getElem?
      intro j
      simp only [List.getElem?_take, List.getElem?_drop, List.getElem?_set, List.getElem?_append, List.length_take, List.length_drop]
      by_cases hj : j < a
      · rw [if_pos (by omega), if_neg (by omega), if_pos (by omega), if_pos hj]
      · by_cases hja : j = a
        · subst hja; rw [if_pos (by omega), if_pos rfl, if_pos (by omega), if_neg (by omega)]
          rw [show j - min j (l.length - k) = 0 by omega]; rfl
        · rw [if_neg (by omega), if_neg (by omega)]
          symm; rw [List.getElem?_eq_none]; simp; omega
    rw [this]; simp

/-- The arm that makes a new row. -/
theorem app_grow (h : St φ0 H0 w0 φ e H tmps w) (hal : OkAl φ H0 H al) {t t2 elem e2 ty : TypeId} {ats : Array TypeId} (ha0 : ats[0]? = some t) (ha1 : ats[1]? = some t2) {s bytes : Nat} {z : Value} (ht : P.underlying t = some (.slice elem)) (ht2 : P.underlying t2 = some (.slice e2))
    (hs : szOf P elem = some s) (hb : bytOf P elem = some bytes) (hz : zeroOf P elem = some z) (hsz : s = z.cells.size) (hpos : 0 < s)
    {a0 a1 : Option Addr} {k m c0 c1 : Nat} {old new old' new' : List Value} (ho : VRs φ old old') (hw : VRs φ new new') (hol : old.length = k * s) (hnl : new.length = m * s) (hoc : old.all isCell = true) (hnc : new.all isCell = true)
    (hro : ∀ w2 : World, w2.heap = w.heap → (Builtin.firstCells s k (.slice a0 k c0)).run P w2 = .ok old'.toArray w2)
    (hrn : ∀ w2 : World, w2.heap = w.heap → (Builtin.firstCells s m (.slice a1 m c1)).run P w2 = .ok new'.toArray w2)
    (hg : c0 < k + m) (hby : (k + m) * bytes ≤ 140737488355328) (hmx : k + m ≤ 9223372036854775807) :
    ∃ v' w' φ', (Builtin.append_ ats ty #[.slice a0 k c0, .slice a1 m c1]).run P w = .ok v' w' ∧ VR φ' (.slice (some ⟨al.getD H.next, 0, none⟩) (k + m) (k + m + 1)) v' ∧
      St φ0 H0 w0 φ' e (H.alloc al (.cells (old ++ new) s false)) tmps w' ∧ (∀ b, b < H.next → φ b = none → al ≠ some b → φ' b = none) := by
  obtain ⟨i, hi, his⟩ := info_of_sz hs
  have hib : i.bytes = bytes := by unfold bytOf at hb; simpa [hi] using hb
  obtain ⟨hzr, -⟩ := run_zero (φ := φ) hz w
  have hgf := growslice_fits (bytes := bytes) hg hby
  have n1 : ¬ (k + m ≤ c0) := by omega
  have n2 : ¬ (281474976710656 < Builtin.nextslicecap (k + m) c0 * bytes) := by omega
  have n3 : ¬ (IntKind.i64.max < (k : Int) + (m : Int)) := by
    have : IntKind.i64.max = 9223372036854775807 := by decide
    rw [this]; omega
  have hfo : (Question.appendCap (k + m) c0 elem).forced = false := rfl
  obtain ⟨c, hceq, hc⟩ : ∃ c, (Question.appendCap (k + m) c0 elem).cut (w.tape w.drawn (Question.appendCap (k + m) c0 elem)) = c ∧ k + m ≤ c := ⟨_, rfl, Nat.le_add_right _ _⟩
  have ro := hro w.drew rfl
  have rn := hrn w.drew rfl
  have hz1 := (run_zero (P := P) (φ := φ) hz w.drew).1
  have hrun : (Builtin.append_ ats ty #[.slice a0 k c0, .slice a1 m c1]).run P w = .ok (.slice (some ⟨w.heap.size, 0, none⟩) (k + m) c) (w.drew.alloc (.cells (old'.toArray ++ (new'.toArray ++ Builtin.zeroCells z.cells (c - (k + m)))) elem)) := by
    simp only [Builtin.append_, ha0, ha1, List.getElem?_toArray, List.getElem?_cons_zero, List.getElem?_cons_succ, Sem.run_bind, run_underlying ht, run_underlying ht2, Result.andThen_ok, run_sz hs, Sem.run_pure, Builtin.lenOf]
    simp [n1, n3, typeInfo, hi, hib, n2, hfo, hceq, run_askRoom, ro, rn, hz1, newRow]
    intro hh; omega
  have hzl : (Builtin.zeroCells z.cells (c - (k + m))).size = (c - (k + m)) * s := by simp [Builtin.zeroCells, hsz]
  have hol' := ho.length
  have hnl' := hw.length
  let pl : Place := ⟨w.heap.size, 0, s, c * s⟩
  have hext : Ext φ (φ.put (al.getD H.next) pl) := Phi.ext_put (hal.id h (.cells [] s false)).1
  have hobj : ObjRel (φ.put (al.getD H.next) pl) pl (.cells (old ++ new) s false) (some (.cells (old'.toArray ++ (new'.toArray ++ Builtin.zeroCells z.cells (c - (k + m)))) elem (0, 0))) := by
    refine ⟨_, elem, (0, 0), rfl, ?_, rfl, ?_, ?_, fun _ => rfl, by simp only [List.all_append, Bool.and_eq_true]; exact ⟨hoc, hnc⟩⟩
    · simp only [Array.size_append, List.size_toArray, hzl]
      show old'.length + (new'.length + (c - (k + m)) * s) = c * s
      rw [← hol', ← hnl', hol, hnl, ← Nat.add_mul, ← Nat.add_mul]; congr 1; omega
    · simp only [Array.size_append, List.size_toArray, List.length_append]
      show 0 + (old.length + new.length) ≤ _
      omega
    · have : (((old'.toArray ++ (new'.toArray ++ Builtin.zeroCells z.cells (c - (k + m)))).toList.drop pl.off).take (old ++ new).length) = old' ++ new' := by
        show ((_ : List Value).drop 0).take _ = _
        simp only [Array.toList_append, List.drop_zero, List.length_append]
        rw [← List.append_assoc, List.take_append_of_le_length (by simp; omega)]
        exact List.take_of_length_le (by simp; omega)
      rw [this]; exact (ho.append hw).ext hext
  have hst := alloc_sound (h.drawn (w.drawn + 1)) hal (m := pl) rfl hobj (w' := w.drew.alloc (.cells (old'.toArray ++ (new'.toArray ++ Builtin.zeroCells z.cells (c - (k + m)))) elem)) ⟨rfl, rfl, rfl, rfl⟩
  refine ⟨_, _, _, hrun, ?_, hst, fun b hb hn hne => put_old hb hn hne rfl⟩
  have hp : (φ.put (al.getD H.next) pl) (al.getD H.next) = some pl := by simp [Phi.put]
  have := VR.sl (φ := φ.put (al.getD H.next) pl) (i := 0) (n := k + m) (c := k + m + 1) (c' := c) hp hc (by omega) (by show 0 + 0 + c * s ≤ c * s; omega)
  simpa using this

/-- The arm that writes behind the row's end. -/
theorem app_room (h : St φ0 H0 w0 φ e H tmps w) (hal : OkAl φ H0 H al) {t t2 elem e2 ty : TypeId} {ats : Array TypeId} (ha0 : ats[0]? = some t) (ha1 : ats[1]? = some t2) {s : Nat} (ht : P.underlying t = some (.slice elem)) (ht2 : P.underlying t2 = some (.slice e2))
    (hs : szOf P elem = some s) {b i k m c1 c' : Nat} {a1 : Option Addr} {cs : List Value} {pl : Place} (hg : H.get b = some (.cells cs s false)) (hpl : φ b = some pl)
    {new new' : List Value} (hw : VRs φ new new') (hnl : new.length = m * s) (hnc : new.all isCell = true)
    (hrn : (Builtin.firstCells s m (.slice a1 m c1)).run P w = .ok new'.toArray w) (hin : i + k * s ≤ cs.length) (hsp : pl.off + i + c' * pl.sz ≤ pl.size)
    (hroom : k + m ≤ c') :
    ∃ v' w' φ', (Builtin.append_ ats ty #[.slice (some ⟨pl.blk, pl.off + i, none⟩) k c', .slice a1 m c1]).run P w = .ok v' w' ∧ VR φ' (.slice (some ⟨al.getD H.next, 0, none⟩) (k + m) (k + m + 1)) v' ∧
      St φ0 H0 w0 φ' e ((H.put b none).alloc al (.cells ((cs.drop i).take (k * s) ++ new) s false)) tmps w' ∧ (∀ b, b < H.next → φ b = none → al ≠ some b → φ' b = none) := by
  obtain ⟨pl', h1, h2⟩ := h.rel.live b _ hg
  rw [hpl] at h1; cases h1
  obtain ⟨c0, el, fz, g1, g2, g3, g4, g5, g6, g7⟩ := h2
  have := g6 rfl; subst this
  have hnl' := hw.length
  have hcc : k * s + m * s ≤ c' * pl.sz := by rw [g3, ← Nat.add_mul]; exact Nat.mul_le_mul_right _ hroom
  obtain ⟨c2, htu, hct⟩ := setCells_turned new' w pl.blk (pl.off + i + k * s) c0 el (0, 0) g1
  have hst := run_storeCells_row (P := P) (o := pl.off + i + k * s) g1 (hw.isCell hnc) (by omega)
  have hrun : (Builtin.append_ ats ty #[.slice (some ⟨pl.blk, pl.off + i, none⟩) k c', .slice a1 m c1]).run P w = .ok (.slice (some ⟨pl.blk, pl.off + i, none⟩) (k + m) c') (w.setCells pl.blk (pl.off + i + k * s) new') := by
    simp only [Builtin.append_, ha0, ha1, List.getElem?_toArray, List.getElem?_cons_zero, List.getElem?_cons_succ, Sem.run_bind, run_underlying ht, run_underlying ht2, Result.andThen_ok, run_sz hs, Sem.run_pure, Builtin.lenOf]
    simp [hroom, hrn, Addr.add_lit, hst]
  obtain ⟨k1, k2, k3⟩ := hal.id h (.cells [] s false)
  let id := al.getD H.next
  let p2 : Place := ⟨pl.blk, pl.off + i, s, pl.size⟩
  have hext : Ext φ (φ.put id p2) := Phi.ext_put k1
  have hsz2 : c2.size = c0.size := by have := congrArg List.length hct; simpa [setMany_length] using this
  have hcl : c0.toList.length = c0.size := by simp
  have holen : ((cs.drop i).take (k * s)).length = k * s := by simp; omega
  have hold : VRs φ ((cs.drop i).take (k * s)) ((c0.toList.drop (pl.off + i)).take (k * s)) := by
    have hh := (g5.drop i).take (k * s)
    have : (((c0.toList.drop pl.off).take cs.length).drop i).take (k * s) = (c0.toList.drop (pl.off + i)).take (k * s) := by
      apply List.ext_getElem?
      intro j
      simp only [List.getElem?_take, List.getElem?_drop]
      by_cases hj : j < k * s
      · rw [if_pos hj, if_pos hj, if_pos (by omega), Nat.add_assoc]
      · rw [if_neg hj, if_neg hj]
    rw [this] at hh; exact hh
  have hobj : ObjRel (φ.put id p2) p2 (.cells ((cs.drop i).take (k * s) ++ new) s false) (some (.cells c2 el (0, 0))) := by
    refine ⟨c2, el, (0, 0), rfl, by show c2.size = pl.size; omega, rfl, ?_, ?_, fun _ => rfl, ?_⟩
    · show pl.off + i + _ ≤ _
      rw [List.length_append, holen]; omega
    · rw [List.length_append, holen, hct]
      show VRs _ _ (((setMany c0.toList (pl.off + i + k * s) new').drop (pl.off + i)).take _)
      rw [hnl', setMany_app new' c0.toList (pl.off + i) (k * s) (by omega)]
      exact (hold.append hw).ext hext
    · simp only [List.all_append, Bool.and_eq_true]
      refine ⟨?_, hnc⟩
      rw [List.all_eq_true] at g7 ⊢
      exact fun x hx => g7 x (List.mem_of_mem_drop (List.mem_of_mem_take hx))
  have hn2 : H.next ≤ ((H.put b none).alloc al (.cells ((cs.drop i).take (k * s) ++ new) s false)).next := alloc_next (H.put b none) al _
  have hid2 : id < ((H.put b none).alloc al (.cells ((cs.drop i).take (k * s) ++ new) s false)).next := by
    cases al with
    | none => exact Nat.lt_succ_self _
    | some q => exact k2
  have hgg := alloc_get (H.put b none) al (.cells ((cs.drop i).take (k * s) ++ new) s false)
  refine ⟨_, _, φ.put id p2, hrun, ?_, ?_, fun b hb hn hne => put_old hb hn hne rfl⟩
  · have hp : (φ.put id p2) id = some p2 := by simp [Phi.put]
    exact VR.sl (φ := φ.put id p2) (b := id) (i := 0) (n := k + m) (c := k + m + 1) (c' := c') hp hroom (by omega) (by show pl.off + i + 0 + c' * s ≤ pl.size; rw [← g3]; omega)
  · refine h.step (Fr.renew (m2 := p2) hg rfl hpl k1 rfl hgg hn2 htu) (h.rel.renew (m2 := p2) hg rfl hpl k1 rfl rfl hgg hn2 hid2 htu hobj) ?_ (fun c hc hn => by rw [hgg]; show (if c = id then _ else _) = _; rw [if_neg (by omega)]; exact dead_kill (H0 := H0) c hc hn)
    intro b' hb hn
    have : b' ≠ id := by omega
    simp [Phi.put, this, hn]

theorem slLen_inv {v v' : Value} (hv : VR φ v v') {k : Nat} (hk : slLen v = some k) : ∃ a c, v' = .slice a k c := by
  cases hv <;> simp [slLen] at hk <;> subst hk
  · exact ⟨none, 0, rfl⟩
  · exact ⟨_, _, rfl⟩
  · exact ⟨_, _, rfl⟩

theorem app_sound (h : St φ0 H0 w0 φ e H tmps w) (hal : OkAl φ H0 H al) {t t2 elem e2 ty : TypeId} {ats : Array TypeId} (ha0 : ats[0]? = some t) (ha1 : ats[1]? = some t2) {s bytes : Nat} {z : Value} (ht : P.underlying t = some (.slice elem)) (ht2 : P.underlying t2 = some (.slice e2))
    (hs : szOf P elem = some s) (hb : bytOf P elem = some bytes) (hz : zeroOf P elem = some z) (hsz : s = z.cells.size) (hpos : 0 < s) {x y x' y' v : Value} {H' : LH} (hx : VR φ x x') (hy : VR φ y y') (ha : appV H al s bytes x y = some (v, H')) :
    ∃ v' w' φ', (Builtin.append_ ats ty #[x', y']).run P w = .ok v' w' ∧ VR φ' v v' ∧ St φ0 H0 w0 φ' e H' tmps w' ∧ (∀ b, b < H.next → φ b = none → al ≠ some b → φ' b = none) := by
  unfold appV at ha
  split at ha
  · rename_i k m old new hk hm ho hn
    obtain ⟨a0, c0, old', rfl, hkc, vo, hol, hoc, ro, rro, -⟩ := slCells_sound (P := P) h.rel hx ho hk
    obtain ⟨a1, c1, new', rfl, hmc, vn, hnl, hnc, rn, rrn, -⟩ := slCells_sound (P := P) h.rel hy hn hm
    split at ha
    · rename_i hm0; cases ha; subst hm0
      have hnil : new' = [] := by
        have := vn.length; rw [hnl] at this; simp at this; exact List.eq_nil_of_length_eq_zero this.symm
      subst hnil
      refine ⟨.slice a0 k c0, w, φ, ?_, hx, h, fun _ _ hh _ => hh⟩
      simp only [Builtin.append_, ha0, ha1, List.getElem?_toArray, List.getElem?_cons_zero, List.getElem?_cons_succ, Sem.run_bind, run_underlying ht, run_underlying ht2, Result.andThen_ok, run_sz hs, Sem.run_pure, Builtin.lenOf]
      cases a0 <;> simp [hkc, rn, storeCells]
    · rename_i hm0
      split at ha
      · rename_i hcond; obtain ⟨hby, hmx⟩ := hcond
        have grow : c0 < k + m → ∃ v' w' φ', (Builtin.append_ ats ty #[.slice a0 k c0, .slice a1 m c1]).run P w = .ok v' w' ∧ VR φ' (.slice (some ⟨al.getD H.next, 0, none⟩) (k + m) (k + m + 1)) v' ∧
            St φ0 H0 w0 φ' e (H.alloc al (.cells (old ++ new) s false)) tmps w' ∧ (∀ b, b < H.next → φ b = none → al ≠ some b → φ' b = none) := fun hg =>
          app_grow h hal ha0 ha1 ht ht2 hs hb hz hsz hpos vo vn hol hnl hoc hnc rro rrn hg hby hmx
        split at ha
        · rename_i b off' n' c
          simp [slLen] at hk; subst hk
          split at ha
          · rename_i hct; cases ha
            refine grow ?_
            cases hx with
            | sl hm1 hn1 ht1 hs1 => have := ht1 hct; omega
            | slEnd => omega
          · rename_i hct
            split at ha
            · rename_i cs sz hgb; cases ha
              simp only [slCells, hgb] at ho
              split at ho
              · rename_i hcc; obtain ⟨rfl, hin⟩ := hcc; cases ho
                by_cases hroom : c0 < n' + m
                · have hk := h.step (Fr.kill φ H w b) (h.rel.kill b) (fun _ _ hh => hh) dead_kill
                  exact app_grow hk (H := H.put b none) hal ha0 ha1 ht ht2 hs hb hz hsz hpos vo vn hol hnl hoc hnc rro rrn hroom hby hmx
                · cases hx with
                  | sl hm1 hn1 ht1 hs1 => exact app_room h hal ha0 ha1 ht ht2 hs hgb hm1 vn hnl hnc rn hin hs1 (by omega)
                  | slEnd => omega
              · cases ho
            · cases ha
        · rename_i hne
          cases ha
          refine grow ?_
          cases hx with
          | slNil => omega
          | sl hm1 => exact absurd rfl (hne _ _ _ _)
          | slEnd => exact absurd rfl (hne _ _ _ _)
      · cases ha
  · cases ha

end Go.Lg
