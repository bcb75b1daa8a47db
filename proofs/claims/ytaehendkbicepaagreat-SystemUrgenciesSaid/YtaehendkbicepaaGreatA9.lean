/- The logical machine, part 9: every operation of the list is what the model does. No condition. -/
import Derived.Test.YtaehendkbicepaaGreatA8
set_option linter.unusedVariables false
set_option linter.unusedSimpArgs false
namespace Go.Lg

def lopVal (n : Nat) (e : Env) (H : LH) (dst : Option Nat) (r : Option Value) : Option (Env × LH) :=
  match r with
  | some v => if okDst n e dst then some (putE e dst (.val v), H) else none
  | none => none
def lopFresh (n : Nat) (pr : List Nat) (al : Option Nat) (e : Env) (H : LH) (dst : Option Nat) (cs : List Value) : Option (Env × LH) :=
  match dst with
  | some d =>
    if cs.all isCell && okDst n e dst then
      if pr.contains d then some (upd e d (.box false cs), H)
      else some (upd e d (.val (.pointer (some ⟨al.getD H.next, 0, none⟩))), H.alloc al (.cells cs cs.length false))
    else none
  | none => none
def lopRow (n : Nat) (al : Option Nat) (e : Env) (H : LH) (dst : Option Nat) (s : Nat) (k : Nat) (cs : List Value) : Option (Env × LH) :=
  if cs.all isCell && okDst n e dst then some (putE e dst (.val (.slice (some ⟨al.getD H.next, 0, none⟩) k k)), H.alloc al (.cells cs s false)) else none
def lopRef (n : Nat) (e : Env) (H : LH) (dst : Option Nat) (s i : Nat) : Option (Env × LH) :=
  match dst with
  | some d => if okDst n e dst then some (upd e d (.ref s i), H) else none
  | none => none
def lopAddr (n : Nat) (e : Env) (H : LH) (dst : Option Nat) (l : AL) (k : Nat) : Option (Env × LH) :=
  match l with
  | .heap b i => lopVal n e H dst (some (.pointer (some ⟨b, i + k, none⟩)))
  | .box s i => lopRef n e H dst s (i + k)
variable {P : Program} {φ0 φ : Phi} {H0 H H' : LH} {w0 w w' : World} {e e' : Env} {tmps : Array Value} {n base : Nat} {al : Option Nat} {pr : List Nat}

theorem good_val (h : St φ0 H0 w0 φ e H tmps w) (hn : tmps.size = n) {dst : Option Nat} {r : Option Value} (hl : lopVal n e H dst r = some (e', H')) {s : Sem Next}
    (hr : ∀ v, r = some v → ∃ v', s.run P w = .ok (.value v') w ∧ VR φ v v') : Good P φ0 H0 w0 φ al H dst tmps e' H' s w := by
  unfold lopVal at hl
  split at hl
  · rename_i v
    split at hl
    · rename_i hd; cases hl
      obtain ⟨v', h1, h2⟩ := hr v rfl
      exact ⟨.value v', v', w, φ, h1, .inl rfl, h.val hn hd h2, fun _ _ hh _ => hh⟩
    · cases hl
  · cases hl

theorem good_ref (h : St φ0 H0 w0 φ e H tmps w) (hn : tmps.size = n) {dst : Option Nat} {s' i : Nat} (hl : lopRef n e H dst s' i = some (e', H')) {s : Sem Next} {B : Nat}
    (hB : BoxAt tmps s' B) (hb : ∃ f cs, e s' = .box f cs) (hr : s.run P w = .ok (.value (.pointer (some ⟨B, i, none⟩))) w) : Good P φ0 H0 w0 φ al H dst tmps e' H' s w := by
  unfold lopRef at hl
  split at hl
  · rename_i d
    split at hl
    · rename_i hd; cases hl
      obtain ⟨h1, h2⟩ := okDst_spec hd
      obtain ⟨f, cs, he⟩ := hb
      exact ⟨_, _, w, φ, hr, .inl rfl, ⟨h.fr, h.rel, h.env.putRef h2 (by omega) he hB, h.old, h.dead⟩, fun _ _ hh _ => hh⟩
    · cases hl
  · cases hl

theorem good_addr (h : St φ0 H0 w0 φ e H tmps w) (hn : tmps.size = n) {dst : Option Nat} {l : AL} {k B o : Nat} (hl : lopAddr n e H dst l k = some (e', H')) (ha : ALRel φ tmps l B o) (hbx : ∀ s i, l = .box s i → ∃ f cs, e s = .box f cs) {s : Sem Next}
    (hr : s.run P w = .ok (.value (.pointer (some ⟨B, o + k, none⟩))) w) : Good P φ0 H0 w0 φ al H dst tmps e' H' s w := by
  cases l with
  | heap b i =>
    obtain ⟨m, hm, rfl, rfl⟩ := ha
    have hl' : lopVal n e H dst (some (.pointer (some ⟨b, i + k, none⟩))) = some (e', H') := hl
    refine good_val h hn hl' (fun v hv => ?_)
    cases hv
    exact ⟨_, hr, by rw [Nat.add_assoc]; exact .ptr hm⟩
  | box s' i =>
    obtain ⟨hB, rfl⟩ := ha
    exact good_ref h hn hl hB (hbx _ _ rfl) hr

theorem addr_box {x : Operand} {l : AL} (hx : addrOf e x = some l) (h : ER base φ e H tmps w) : ∀ s i, l = .box s i → ∃ f cs, e s = .box f cs := by
  intro s i hl; subst hl
  cases x with
  | tmp t =>
    simp only [addrOf] at hx
    split at hx
    · split at hx <;> cases hx
    · rename_i f cs hu; cases hx; exact ⟨f, cs, hu⟩
    · rename_i s o hu; cases hx
      obtain ⟨B, f, cs, _, _, h3⟩ := h.ref t _ _ hu; exact ⟨f, cs, h3⟩
    · cases hx
  | _ => simp [addrOf] at hx

theorem good_fresh (h : St φ0 H0 w0 φ e H tmps w) (hn : tmps.size = n) (hal : OkAl φ H0 H al) {dst : Option Nat} {cs : List Value} (hl : lopFresh n pr al e H dst cs = some (e', H')) {s : Sem Next} {c : Array Value} {el : TypeId}
    (hc : VRs φ cs c.toList) (hr : s.run P w = .ok (.value (.pointer (some ⟨w.heap.size, 0, none⟩))) (w.alloc (.cells c el))) : Good P φ0 H0 w0 φ al H dst tmps e' H' s w := by
  unfold lopFresh at hl
  have hp : Pushed w (w.alloc (.cells c el)) (.cells c el (0, 0)) := ⟨rfl, rfl, rfl, rfl⟩
  split at hl
  · rename_i d
    split at hl
    · rename_i hd
      simp only [Bool.and_eq_true] at hd
      obtain ⟨hcell, hd⟩ := hd
      obtain ⟨h1, h2⟩ := okDst_spec hd
      split at hl
      · cases hl
        refine ⟨_, _, _, φ, hr, .inl rfl, ⟨h.fr.pushPrivate hp, h.rel.pushPrivate hp, h.env.putBox h.rel h.fr.size h2 (by omega) hc hcell hp, h.old, h.dead⟩, fun _ _ hh _ => hh⟩
      · cases hl
        let pl : Place := ⟨w.heap.size, 0, cs.length, c.size⟩
        have hex := Phi.ext_put (m := pl) (hal.id h (.cells cs cs.length false)).1
        have hst := alloc_sound h hal (m := pl) rfl (row_obj (el := el) rfl rfl rfl (hc.ext hex) hcell) hp
        refine ⟨_, _, _, φ.put (al.getD H.next) pl, hr, .inl rfl, ?_, fun b hb hh hne => put_old hb hh hne rfl⟩
        have := hst.val (dst := some d) (n := n) hn (by simpa [okDst] using hd) (v := .pointer (some ⟨al.getD H.next, 0, none⟩)) (v' := .pointer (some ⟨w.heap.size, 0, none⟩)) (VR.ptr (φ := φ.put (al.getD H.next) pl) (i := 0) (m := pl) (by simp [Phi.put]))
        exact this
    · cases hl
  · cases hl

theorem good_row (h : St φ0 H0 w0 φ e H tmps w) (hn : tmps.size = n) (hal : OkAl φ H0 H al) {dst : Option Nat} {sz k : Nat} {cs : List Value} (hl : lopRow n al e H dst sz k cs = some (e', H')) {s : Sem Next} {c : Array Value} {el : TypeId}
    (hc : VRs φ cs c.toList) (hk : cs.length = k * sz) (hr : s.run P w = .ok (.value (.slice (some ⟨w.heap.size, 0, none⟩) k k)) (w.alloc (.cells c el))) : Good P φ0 H0 w0 φ al H dst tmps e' H' s w := by
  unfold lopRow at hl
  have hp : Pushed w (w.alloc (.cells c el)) (.cells c el (0, 0)) := ⟨rfl, rfl, rfl, rfl⟩
  split at hl
  · rename_i hd
    simp only [Bool.and_eq_true] at hd
    obtain ⟨hcell, hd⟩ := hd
    cases hl
    let pl : Place := ⟨w.heap.size, 0, sz, c.size⟩
    have hex := Phi.ext_put (m := pl) (hal.id h (.cells cs sz false)).1
    have hst := alloc_sound h hal (m := pl) rfl (row_obj (el := el) rfl rfl rfl (hc.ext hex) hcell) hp
    refine ⟨_, _, _, φ.put (al.getD H.next) pl, hr, .inl rfl, ?_, fun b hb hh hne => put_old hb hh hne rfl⟩
    have hcs : c.size = k * sz := by rw [← hk]; have := hc.length; simpa using this.symm
    exact hst.val hn hd (VR.sl (φ := φ.put (al.getD H.next) pl) (i := 0) (m := pl) (by simp [Phi.put]) (Nat.le_refl _) (fun _ => rfl) (by show 0 + 0 + k * sz ≤ c.size; omega))
  · cases hl

theorem flat_get (l : List Value) (hl : 0 < l.length) : ∀ (k j : Nat), j < k * l.length → ((List.replicate k l).flatten)[j]? = l[j % l.length]?
  | 0, j, h => by simp at h
  | k + 1, j, h => by
    rw [List.replicate_succ, List.flatten_cons, List.getElem?_append]
    split
    · rename_i hj; rw [Nat.mod_eq_of_lt hj]
    · rename_i hj
      rw [flat_get l hl k (j - l.length) (by rw [Nat.add_mul] at h; omega)]
      rw [Nat.mod_eq_sub_mod (by omega : l.length ≤ j)]

theorem flat_len (l : List Value) : ∀ k, ((List.replicate k l).flatten).length = k * l.length
  | 0 => by simp
  | k + 1 => by rw [List.replicate_succ, List.flatten_cons, List.length_append, flat_len l k, Nat.add_mul]; omega

theorem made_toList (z : Array Value) (k : Nat) (hz : 0 < z.size) : (madeCells z (k * z.size)).toList = (List.replicate k z.toList).flatten := by
  apply List.ext_getElem?
  intro j
  by_cases hj : j < k * z.size
  · have := flat_get z.toList (by simpa using hz) k j (by simpa using hj)
    rw [this]
    have hm : j % z.size < z.size := Nat.mod_lt _ hz
    simp [madeCells, hj, hm]
  · rw [List.getElem?_eq_none (by simp [size_madeCells]; omega), List.getElem?_eq_none (by rw [flat_len]; simp; omega)]

theorem flat_vrs {l l' : List Value} (h : VRs φ l l') : ∀ k, VRs φ ((List.replicate k l).flatten) ((List.replicate k l').flatten)
  | 0 => .nil
  | k + 1 => by rw [List.replicate_succ, List.replicate_succ, List.flatten_cons, List.flatten_cons]; exact h.append (flat_vrs h k)

theorem run_slice_str {t : TypeId} (ht : P.underlying t = some .string) {s : ByteArray} {lo hi : Option Value} {l h : Nat} (hl : bdV lo 0 = some l) (hh : bdV hi s.size = some h) (h1 : l ≤ h) (h2 : h ≤ s.size) (w : World) :
    (Instr.slice t (.string s) lo hi none).run P w = .ok (.string (s.extract l h)) w := by
  have bd : ∀ (x : Value) (y : Nat) (code : BoundsCode) (k : Nat), bdV (some x) 0 = some k → k ≤ y → (Instr.sliceBound x y code).run P w = .ok k w := by
    intro x y code k hk hy
    cases x <;> simp only [bdV] at hk <;> try (cases hk; done)
    split at hk
    · rename_i kk i h0; cases hk; simpa using run_sliceBound (P := P) w kk i y code h0 (by omega)
    · cases hk
  have : (Instr.sliceBounds false s.size s.size lo hi none).run P w = .ok (l, h, s.size) w := by
    cases lo with
    | none =>
      simp [bdV] at hl; subst hl
      cases hi with
      | none => simp [bdV] at hh; subst hh; simp [Instr.sliceBounds]
      | some y => simp [Instr.sliceBounds, bd y s.size _ h ((bdV_some _ _ _).trans hh) (by omega)]
    | some x =>
      cases hi with
      | none => simp [bdV] at hh; subst hh; simp [Instr.sliceBounds, bd x s.size _ l hl h1]
      | some y => simp [Instr.sliceBounds, bd y s.size _ h ((bdV_some _ _ _).trans hh) (by omega), bd x h _ l hl h1]
  simp [Instr.slice, run_underlying ht, this]

end Go.Lg
