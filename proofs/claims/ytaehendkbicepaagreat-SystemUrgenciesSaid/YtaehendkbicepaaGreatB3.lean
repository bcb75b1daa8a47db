/- A call's arguments as a logical heap, of which nothing may be written; what a law's call leaves, as the statement says it. No condition. -/
import Derived.Test.YtaehendkbicepaaGreatB1
import Derived.Carry
import Derived.ChangeSame
import Derived.ChangeSlices
import Derived.JoinedOf
import Derived.SizedLaws
set_option linter.unusedVariables false
namespace Go.Lg
open Go Go.ChangeShapes Go.WideShapes Go.RowKit

/-- A logical heap over a world, of which nothing may be written. -/
structure Br (φ : Phi) (H : LH) (W : World) : Prop where
  rel : Rel φ H W
  ro : ∀ b o, H.get b = some o → o.own = false

theorem Br.nil (W : World) : Br (fun _ => none) ⟨0, fun _ => none⟩ W :=
  ⟨⟨fun b m h => (by cases h), fun b o h => (by cases h), fun b b' o o' m m' _ h => (by cases h)⟩, fun b o h => (by cases h)⟩

theorem Br.wr {φ : Phi} {H : LH} {W : World} (h : Br φ H W) (B : Nat) : ¬ Wr φ H B := by
  rintro ⟨b, o, m, h1, h2, -⟩
  rw [h.ro b o h1] at h2; cases h2

/-- One object more. -/
theorem Br.add {φ : Phi} {H : LH} {W : World} (h : Br φ H W) {m : Place} {o : LObj} (ho : o.own = false) (hm : m.blk < W.heap.size) (hr : ObjRel φ m o W.heap[m.blk]?) :
    ∃ ψ, Br ψ (H.new o) W ∧ Ext φ ψ ∧ ψ H.next = some m := by
  have hx : Ext φ (fun x => if x = H.next then some m else φ x) := by
    intro b m' hb
    have := (h.rel.dom b m' hb).1
    show (if b = H.next then some m else φ b) = some m'
    rw [if_neg (by omega)]; exact hb
  refine ⟨fun x => if x = H.next then some m else φ x, ⟨⟨?_, ?_, ?_⟩, ?_⟩, hx, by simp⟩
  · intro b m' hb
    by_cases e : b = H.next
    · subst e
      simp only [if_true] at hb
      cases hb; exact ⟨Nat.lt_succ_self _, hm⟩
    · simp only [if_neg e] at hb
      have := h.rel.dom b m' hb; exact ⟨Nat.lt_succ_of_lt this.1, this.2⟩
  · intro b x hb
    by_cases e : b = H.next
    · subst e
      rw [LH.new_get] at hb; cases hb
      exact ⟨m, by simp, hr.ext hx⟩
    · rw [LH.new_ne _ _ e] at hb
      obtain ⟨m', h1, h2⟩ := h.rel.live b x hb
      exact ⟨m', by simp only [if_neg e]; exact h1, h2.ext hx⟩
  · intro b b' x x' m1 m2 hne hb hox
    exfalso
    by_cases e : b = H.next
    · subst e; rw [LH.new_get] at hb; cases hb; rw [ho] at hox; cases hox
    · rw [LH.new_ne _ _ e] at hb; rw [h.ro b x hb] at hox; cases hox
  · intro b x hb
    by_cases e : b = H.next
    · subst e; rw [LH.new_get] at hb; cases hb; exact ho
    · rw [LH.new_ne _ _ e] at hb; exact h.ro b x hb

theorem flat1 {T V : Type} (enc : T → V) (xs : List T) : (xs.map fun x => [enc x]).flatten = xs.map enc := by
  induction xs with
  | nil => rfl
  | cons a l ih => simp only [List.map_cons, List.flatten_cons, ih]; rfl

/-- A slice of plain cells. -/
theorem Br.list {φ : Phi} {H : LH} {W : World} {T : Type} {enc : T → Value} (hcell : ∀ x, isCell (enc x) = true) (href : ∀ φ x, VR φ (enc x) (enc x)) (h : Br φ H W)
    {a : Addr} {len cap : Nat} {zs : List T} (hs : a.spot = none) (hblk : ∃ c el fz, W.heap[a.block]? = some (.cells c el fz)) (hl : len ≤ cap) (hm : cap ≤ 140737488351232) (hz : zs.length = cap)
    (hc : ∀ (i : Nat) (x : T), zs[i]? = some x → W.cell? (a.add i) = some (enc x)) :
    ∃ φ' H' p c', Br φ' H' W ∧ Ext φ φ' ∧ Kp [] H H' ∧ VR φ' (.slice p len c') (.slice (some a) len cap) ∧ Ls (fun r x => r = [enc x]) 1 H' p len c' (zs.take len) := by
  obtain ⟨c, el, fz, hblk⟩ := hblk
  obtain ⟨b, off, spot⟩ := a
  simp only at hs hblk
  subst hs
  have hbl : b < W.heap.size := by
    rcases Nat.lt_or_ge b W.heap.size with hh | hh
    · exact hh
    · rw [Array.getElem?_eq_none hh] at hblk; cases hblk
  by_cases h0 : cap = 0
  · subst h0
    obtain rfl : len = 0 := by omega
    have hzs : zs = [] := List.eq_nil_of_length_eq_zero hz
    subst hzs
    obtain ⟨ψ, h1, h2, h3⟩ := h.add (m := ⟨b, 0, 1, c.size⟩) (o := .cells [] 1 true) rfl hbl ⟨c, el, fz, hblk, rfl, rfl, by simp, .nil, (fun hh => by cases hh), rfl⟩
    refine ⟨ψ, _, some ⟨H.next, 0, none⟩, 0, h1, h2, Kp.refl.new _, .slEnd, ?_⟩
    rw [List.take_nil]
    exact Ls.rows (n := 0) (rows := []) (Row.of (H := H.new (.cells [] 1 true)) (by rw [LH.new_next]; omega) (LH.new_get _ _)) (by simp) rfl rfl (by omega) (by simp) 0
  · have cellAt : ∀ (i : Nat) (x : T), zs[i]? = some x → c[off + i]? = some (enc x) := by
      intro i x hx
      have := hc i x hx
      have e1 : (⟨b, off, none⟩ : Addr).add i = ⟨b, off + i, none⟩ := by unfold Addr.add; split <;> simp_all
      rw [e1] at this
      simp only [World.cell?, hblk] at this
      exact this
    have hsz : off + cap ≤ c.size := by
      obtain ⟨x, hx⟩ : ∃ x, zs[cap - 1]? = some x := ⟨_, List.getElem?_eq_getElem (by omega)⟩
      have := (Array.getElem?_eq_some_iff.1 (cellAt _ _ hx)).1
      omega
    obtain ⟨ψ, h1, h2, h3⟩ := h.add (m := ⟨b, off, 1, c.size⟩) (o := .cells (zs.map enc) 1 true) rfl hbl
      ⟨c, el, fz, hblk, rfl, rfl, by simpa [hz] using hsz, VRs.mk (by simp; omega) (by
        intro i v v' hv hv'
        rw [List.getElem?_map] at hv
        obtain ⟨x, hx, rfl⟩ := Option.map_eq_some_iff.1 hv
        have := cellAt i x hx
        rw [List.getElem?_take, List.getElem?_drop] at hv'
        split at hv'
        · rw [Array.getElem?_toList, this] at hv'; cases hv'; exact href _ _
        · cases hv'), (fun hh => by cases hh), by simp [hcell]⟩
    refine ⟨ψ, _, some ⟨H.next, 0, none⟩, cap, h1, h2, Kp.refl.new _, VR.sl (i := 0) (m := ⟨b, off, 1, c.size⟩) h3 hl (fun hh => hh) (by show off + 0 + cap * 1 ≤ c.size; omega), ?_⟩
    refine Ls.rows (rows := (zs.take len).map fun x => [enc x]) ?_ (by intro r hr; obtain ⟨x, -, rfl⟩ := List.mem_map.1 hr; rfl) (by simp; omega) (by simp; omega) (by omega) ?_ cap
    · rw [flat1]
      refine ⟨by rw [LH.new_next]; omega, zs.map enc, true, LH.new_get _ _, by simp; omega, ?_⟩
      rw [List.drop_zero, List.map_take, List.length_take, List.length_map]
      rw [Nat.min_eq_left (by omega)]
    · intro i r x h1 h2
      rw [List.getElem?_map, h2] at h1
      simpa using h1.symm

theorem add_at (b off i : Nat) : (⟨b, off, none⟩ : Addr).add i = ⟨b, off + i, none⟩ := by unfold Addr.add; split <;> simp_all

/-- A slice of rows of plain cells, `s` cells each. -/
theorem Br.rows {φ : Phi} {H : LH} {W : World} (h : Br φ H W) {a : Addr} {len cap s : Nat} {rows : List (List Value)} (hs0 : 0 < s) (hs : a.spot = none) (hblk : ∃ c el fz, W.heap[a.block]? = some (.cells c el fz)) (hl : len ≤ cap) (hm : cap ≤ 140737488351232)
    (hz : rows.length = cap) (hrow : ∀ r ∈ rows, r.length = s) (hcell : ∀ r ∈ rows, ∀ v ∈ r, isCell v = true ∧ ∀ φ, VR φ v v)
    (hc : ∀ (i : Nat) (r : List Value), rows[i]? = some r → ∀ (j : Nat) (v : Value), r[j]? = some v → W.cell? (a.add (i * s + j)) = some v) :
    ∃ φ' H' p c', Br φ' H' W ∧ Ext φ φ' ∧ Kp [] H H' ∧ VR φ' (.slice p len c') (.slice (some a) len cap) ∧
      ∀ {T : Type} {R : List Value → T → Prop} {xs : List T}, xs.length = len → (∀ (i : Nat) (r : List Value) (x : T), rows[i]? = some r → xs[i]? = some x → R r x) → Ls R s H' p len c' xs := by
  obtain ⟨c, el, fz, hblk⟩ := hblk
  obtain ⟨b, off, spot⟩ := a
  simp only at hs hblk
  subst hs
  have hbl : b < W.heap.size := by
    rcases Nat.lt_or_ge b W.heap.size with hh | hh
    · exact hh
    · rw [Array.getElem?_eq_none hh] at hblk; cases hblk
  by_cases h0 : cap = 0
  · subst h0
    obtain rfl : len = 0 := by omega
    obtain ⟨ψ, h1, h2, h3⟩ := h.add (m := ⟨b, 0, s, c.size⟩) (o := .cells [] s true) rfl hbl ⟨c, el, fz, hblk, rfl, rfl, by simp, .nil, (fun hh => by cases hh), rfl⟩
    refine ⟨ψ, _, some ⟨H.next, 0, none⟩, 0, h1, h2, Kp.refl.new _, .slEnd, fun {T R xs} hx hR => ?_⟩
    exact Ls.rows (n := 0) (rows := []) (Row.of (H := H.new (.cells [] s true)) (by rw [LH.new_next]; omega) (LH.new_get _ _)) (by simp) rfl hx (by omega) (by simp) 0
  · have hfl := flatten_length hrow
    have cellAt : ∀ (k : Nat) (v : Value), rows.flatten[k]? = some v → c[off + k]? = some v := by
      intro k v hv
      have hk := (List.getElem?_eq_some_iff.1 hv).1
      have hi : k / s < rows.length := by rw [hfl] at hk; exact (Nat.div_lt_iff_lt_mul hs0).2 hk
      have hr : rows[k / s]? = some rows[k / s] := List.getElem?_eq_getElem hi
      have hlen := hrow _ (List.getElem_mem hi)
      have hj : k % s < (rows[k / s]).length := by rw [hlen]; exact Nat.mod_lt _ hs0
      have hkk : k / s * s + k % s = k := by rw [Nat.mul_comm]; exact Nat.div_add_mod k s
      have h1 := flatten_at hrow hr (List.getElem?_eq_getElem hj)
      rw [hkk, hv] at h1
      cases h1
      have := hc (k / s) _ hr (k % s) _ (List.getElem?_eq_getElem hj)
      rw [add_at, hkk] at this
      simp only [World.cell?, hblk] at this
      exact this
    have hmem : ∀ v ∈ rows.flatten, isCell v = true ∧ ∀ φ, VR φ v v := by
      intro v hv
      obtain ⟨r, hr, hv⟩ := List.mem_flatten.1 hv
      exact hcell r hr v hv
    have hpos : 0 < cap * s := Nat.mul_pos (by omega) hs0
    have hsz : off + cap * s ≤ c.size := by
      have hlt : cap * s - 1 < rows.flatten.length := by rw [hfl, hz]; omega
      have := (Array.getElem?_eq_some_iff.1 (cellAt _ _ (List.getElem?_eq_getElem hlt))).1
      omega
    obtain ⟨ψ, h1, h2, h3⟩ := h.add (m := ⟨b, off, s, c.size⟩) (o := .cells rows.flatten s true) rfl hbl
      ⟨c, el, fz, hblk, rfl, rfl, by rw [hfl, hz]; exact hsz, VRs.mk (by rw [hfl, hz]; simp; omega) (by
        intro i v v' hv hv'
        have := cellAt i v hv
        rw [List.getElem?_take, List.getElem?_drop] at hv'
        split at hv'
        · rw [Array.getElem?_toList, this] at hv'; cases hv'; exact (hmem v (List.mem_of_getElem? hv)).2 _
        · cases hv'), (fun hh => by cases hh), List.all_eq_true.2 fun v hv => (hmem v hv).1⟩
    refine ⟨ψ, _, some ⟨H.next, 0, none⟩, cap, h1, h2, Kp.refl.new _, VR.sl (i := 0) (m := ⟨b, off, s, c.size⟩) h3 hl (fun hh => hh) (by show off + 0 + cap * s ≤ c.size; omega), fun {T R xs} hx hR => ?_⟩
    have htk : ∀ r ∈ rows.take len, r.length = s := fun r hr => hrow r (List.mem_of_mem_take hr)
    refine Ls.rows (rows := rows.take len) ?_ htk (by simp; omega) hx (by omega) ?_ cap
    · refine ⟨by rw [LH.new_next]; omega, rows.flatten, true, LH.new_get _ _, ?_, ?_⟩
      · rw [flatten_length htk, hfl, List.length_take, hz, Nat.min_eq_left hl, Nat.zero_add]; exact Nat.mul_le_mul_right _ hl
      · rw [List.drop_zero, flatten_length htk, List.length_take, hz, Nat.min_eq_left hl]
        have e : rows.flatten = (rows.take len).flatten ++ (rows.drop len).flatten := by rw [← List.flatten_append, List.take_append_drop]
        have el : (rows.take len).flatten.length = len * s := by rw [flatten_length htk, List.length_take, hz, Nat.min_eq_left hl]
        rw [e, List.take_append_of_le_length (by omega), List.take_of_length_le (by omega)]
    · intro i r x h1 h2
      rw [List.getElem?_take] at h1
      split at h1
      · exact hR i r x h1 h2
      · cases h1

section
variable {H : Type} {enc : TypeId × Value → H} {P : Program} {w : World} {base : Nat} {spare : Nat → Bool} {held : Bool}
def boolOf (y : DataW H × List MemPlace) : Bool := match y.1 with | .lit (.bool b) => b | _ => false

theorem open_bools {t e : TypeId} {fuel : Nat} {cs : List Value} {x : DataW H × List MemPlace} (ht : P.underlying t = some (.slice e)) (he : P.underlying e = some .bool) (hc : P.cellsOf e = 1)
    (h : DataW.trod enc P w base spare held fuel t cs = some x) (hsp : ∀ b, spare b = true) :
    cs = [.slice none 0 0] ∨
    ∃ (a : Addr) (len cap : Nat) (zs : List Bool), cs = [.slice (some a) len cap] ∧ len ≤ cap ∧ cap ≤ maxLen ∧ zs.length = cap ∧ (∀ (i : Nat) (x : Bool), zs[i]? = some x → w.cell? (a.add i) = some (.bool x)) := by
  rcases DataW.trod_slice ht h with h0 | ⟨a, len, cap, elems, rest, n, _, rfl, rfl, hb, hl, hm, hlen, hel, hsp', hns⟩
  · exact Or.inl h0.1
  right
  obtain ⟨hrl, hr⟩ := hsp' (hsp _)
  have each : ∀ (i : Nat) y, (elems ++ rest)[i]? = some y → w.cell? (a.add i) = some (.bool (boolOf y)) := by
    intro i y hy
    have hb' : (w.cells? base (a.add (i * P.cellsOf e)) (P.cellsOf e)).bind (DataW.trod enc P w base spare held n e) = some y := by
      by_cases hi : i < len
      · rw [hel i hi, ← hy, List.getElem?_append_left (by omega)]
      · have hi' : i - len < rest.length := by
          have := (List.getElem?_eq_some_iff.1 hy).1
          simp at this
          omega
        have := hr (i - len) (by omega)
        rw [show len + (i - len) = i by omega] at this
        rw [this, ← hy, List.getElem?_append_right (by omega), hlen]
    rw [hc, Nat.mul_one, Option.bind_eq_some_iff] at hb'
    obtain ⟨cs', hcs, hy'⟩ := hb'
    obtain ⟨m, rfl, rfl⟩ := DataW.trod_bool he hy'
    exact cell_of_cells?_one hcs
  refine ⟨a, len, cap, (elems ++ rest).map boolOf, rfl, hl, hm, by simp; omega, ?_⟩
  intro i x hx
  rw [List.getElem?_map] at hx
  obtain ⟨y, hy, rfl⟩ := Option.map_eq_some_iff.1 hx
  exact each i y hy
end

theorem blk_of_ok {P : Program} {W : World} {base : Nat} {t e : TypeId} {a : Addr} {n c : Nat} (ht : P.underlying t = some (.slice e)) (h : Cell.okWide P W .any base t (.slice (some a) n c)) :
    a.spot = none ∧ ∃ cs el fz, W.heap[a.block]? = some (.cells cs el fz) := by
  unfold Cell.okWide at h
  rw [ht] at h
  have h : Cell.ok P W .any base t (.slice (some a) n c) := h
  unfold Cell.ok at h
  rw [ht] at h
  obtain ⟨-, -, -, h2, row, cells, h3, -⟩ := h
  refine ⟨h2, ?_⟩
  unfold World.shape? at h3
  split at h3
  · rename_i cs el fz e; exact ⟨cs, el, fz, e⟩
  · cases h3

theorem cellOk_of {P : Program} {W : World} {r : Reach} {base : Nat} {t e : TypeId} {v : Value} (ht : P.underlying t = some (.slice e)) (h : Value.okWide P W r base t v) : Cell.okWide P W r base t v := by
  unfold Value.okWide at h
  rw [ht] at h
  exact h

section
variable {D : Type} {enc : TypeId × Value → D} {P : Program} {W : World} {φ : Phi} {H : LH} {base : Nat}

/-- No slice is longer than what is within reach. -/
theorem cap_le {t e : TypeId} {fuel : Nat} {a : Addr} {n c : Nat} {y : DataW D × List MemPlace} (ht : P.underlying t = some (.slice e)) (hf : DataW.trod enc P W 0 (fun _ => true) true fuel t [.slice (some a) n c] = some y)
    (hw : (y.1.weights P t).all (· ≤ reachBytes) = true) (hb : 0 < P.bytesOf e) : c ≤ 140737488351232 := by
  rcases DataW.trod_slice ht hf with ⟨h0, -⟩ | ⟨a, len, cap, elems, rest, m, _, hcs, rfl, -, hl, -, hlen, -, hsp, -⟩
  · simp at h0
  · simp only [List.cons.injEq, Value.slice.injEq, and_true] at hcs
    obtain ⟨-, rfl, rfl⟩ := hcs
    obtain ⟨hrl, -⟩ := hsp rfl
    have h1 := List.all_eq_true.1 hw (((elems.map (·.1)).length + (rest.map (·.1)).length) * P.bytesOf e) (by simp [DataW.weights, ht])
    simp only [List.length_map, decide_eq_true_eq, reachBytes] at h1
    have h2 : elems.length + rest.length = c := by omega
    rw [h2] at h1
    exact Nat.le_trans (Nat.le_mul_of_pos_right _ hb) h1

/-- A slice of integers as an argument, or in one. -/
theorem Br.ints {t e : TypeId} {k : IntKind} {fuel : Nat} {p : Option Addr} {n c : Nat} {y : DataW D × List MemPlace} (h : Br φ H W) (ht : P.underlying t = some (.slice e)) (he : P.underlying e = some (.int k)) (hc : P.cellsOf e = 1)
    (hf : DataW.trod enc P W 0 (fun _ => true) true fuel t [.slice p n c] = some y) (hok : Cell.okWide P W .any base t (.slice p n c))
    (hw : (y.1.weights P t).all (· ≤ reachBytes) = true) (hbe : 0 < P.bytesOf e) :
    ∃ φ' H' p' n' c' zs, Br φ' H' W ∧ Ext φ φ' ∧ Kp [] H H' ∧ VR φ' (.slice p' n' c') (.slice p n c) ∧ Ls (fun r (x : Int) => r = [.int k x]) 1 H' p' n' c' zs ∧ n' ≤ 140737488351232 ∧ ∀ z ∈ zs, (Lit.int k z).wf = true := by
  rcases open_ints ht he hc hf with ⟨hcs, -⟩ | ⟨a, len, cap, zs, hcs, -, hl, -, hz, -, hcell, hwf⟩
  · simp only [List.cons.injEq, Value.slice.injEq, and_true] at hcs
    obtain ⟨rfl, rfl, rfl⟩ := hcs
    exact ⟨φ, H, none, 0, 0, [], h, Ext.refl _, Kp.refl, .slNil, Ls.nilList, by omega, by simp⟩
  · simp only [List.cons.injEq, Value.slice.injEq, and_true] at hcs
    obtain ⟨rfl, rfl, rfl⟩ := hcs
    simp only [if_true] at hz
    have hm := cap_le ht hf hw hbe
    obtain ⟨hs, hb⟩ := blk_of_ok ht hok
    obtain ⟨φ', H', p', c', g1, g2, g3, g4, g5⟩ := h.list (enc := fun x => Value.int k x) (fun _ => rfl) (fun _ _ => .int _ _) hs hb hl hm hz (fun i x hx => by
      have hi := (List.getElem?_eq_some_iff.1 hx).1
      rw [hcell i hi]
      simp [List.getD, hx])
    exact ⟨φ', H', p', n, c', _, g1, g2, g3, g4, g5, by omega, fun z hz => hwf z (List.mem_of_mem_take hz)⟩

theorem Br.bools {t e : TypeId} {fuel : Nat} {p : Option Addr} {n c : Nat} {y : DataW D × List MemPlace} (h : Br φ H W) (ht : P.underlying t = some (.slice e)) (he : P.underlying e = some .bool) (hc : P.cellsOf e = 1)
    (hf : DataW.trod enc P W 0 (fun _ => true) true fuel t [.slice p n c] = some y) (hok : Cell.okWide P W .any base t (.slice p n c))
    (hw : (y.1.weights P t).all (· ≤ reachBytes) = true) (hbe : 0 < P.bytesOf e) :
    ∃ φ' H' p' n' c' zs, Br φ' H' W ∧ Ext φ φ' ∧ Kp [] H H' ∧ VR φ' (.slice p' n' c') (.slice p n c) ∧ Ls (fun r (x : Bool) => r = [.bool x]) 1 H' p' n' c' zs ∧ n' ≤ 140737488351232 := by
  rcases open_bools ht he hc hf (fun _ => rfl) with hcs | ⟨a, len, cap, zs, hcs, hl, -, hz, hcell⟩
  · simp only [List.cons.injEq, Value.slice.injEq, and_true] at hcs
    obtain ⟨rfl, rfl, rfl⟩ := hcs
    exact ⟨φ, H, none, 0, 0, [], h, Ext.refl _, Kp.refl, .slNil, Ls.nilList, by omega⟩
  · simp only [List.cons.injEq, Value.slice.injEq, and_true] at hcs
    obtain ⟨rfl, rfl, rfl⟩ := hcs
    have hm := cap_le ht hf hw hbe
    obtain ⟨hs, hb⟩ := blk_of_ok ht hok
    obtain ⟨φ', H', p', c', g1, g2, g3, g4, g5⟩ := h.list (enc := fun x => Value.bool x) (fun _ => rfl) (fun _ _ => .bool _) hs hb hl hm hz hcell
    exact ⟨φ', H', p', n, c', _, g1, g2, g3, g4, g5, by omega⟩

/-- A slice whose elements are two integers each. -/
theorem Br.pairs {t e : TypeId} {f0 f1 : Field} {k0 k1 : IntKind} {fuel : Nat} {p : Option Addr} {n c : Nat} {y : DataW D × List MemPlace} (h : Br φ H W) (ht : P.underlying t = some (.slice e)) (he : P.underlying e = some (.struct #[f0, f1]))
    (h0 : P.underlying f0.type = some (.int k0)) (h1 : P.underlying f1.type = some (.int k1)) (hc : P.cellsOf e = 2) (hc0 : P.cellsOf f0.type = 1) (hc1 : P.cellsOf f1.type = 1) (o0 : f0.offset = 0) (o1 : f1.offset = 1)
    (hf : DataW.trod enc P W 0 (fun _ => true) true fuel t [.slice p n c] = some y) (hok : Cell.okWide P W .any base t (.slice p n c)) (hw : (y.1.weights P t).all (· ≤ reachBytes) = true) (hbe : 0 < P.bytesOf e) :
    ∃ φ' H' p' n' c' zs, Br φ' H' W ∧ Ext φ φ' ∧ Kp [] H H' ∧ VR φ' (.slice p' n' c') (.slice p n c) ∧ Ls (fun r (x : Int × Int) => r = [.int k0 x.1, .int k1 x.2]) 2 H' p' n' c' zs := by
  rcases DataW.trod_slice ht hf with ⟨hcs, -⟩ | ⟨a, len, cap, elems, rest, m, _, hcs, rfl, -, hl, -, hlen, hel, hsp, -⟩
  · simp only [List.cons.injEq, Value.slice.injEq, and_true] at hcs
    obtain ⟨rfl, rfl, rfl⟩ := hcs
    exact ⟨φ, H, none, 0, 0, [], h, Ext.refl _, Kp.refl, .slNil, Ls.nilList⟩
  · simp only [List.cons.injEq, Value.slice.injEq, and_true] at hcs
    obtain ⟨rfl, rfl, rfl⟩ := hcs
    have hm := cap_le ht hf hw hbe
    obtain ⟨hs, hb⟩ := blk_of_ok ht hok
    obtain ⟨hrl, hr⟩ := hsp rfl
    have each : ∀ i, i < c → ∃ z : Int × Int, W.cell? (a.add (i * 2)) = some (.int k0 z.1) ∧ W.cell? (a.add (i * 2 + 1)) = some (.int k1 z.2) := by
      intro i hi
      have hb' : ∃ y, (W.cells? 0 (a.add (i * 2)) 2).bind (DataW.trod enc P W 0 (fun _ => true) true m e) = some y := by
        rw [hc] at hel hr
        by_cases h2 : i < n
        · have := hel i h2
          rw [List.getElem?_eq_getElem (by omega)] at this
          exact ⟨_, this⟩
        · have := hr (i - n) (by omega)
          rw [show n + (i - n) = i by omega, List.getElem?_eq_getElem (by omega)] at this
          exact ⟨_, this⟩
      obtain ⟨y, hy⟩ := hb'
      rw [Option.bind_eq_some_iff] at hy
      obtain ⟨cs, hcs, hy⟩ := hy
      obtain ⟨-, hcl, hcell⟩ := World.cells?_some hcs
      match cs, hcl with
      | [u, v], _ =>
      obtain ⟨y0, y1, m', -, -, g0, g1⟩ := trod_struct2 he hy
      rw [hc0, o0] at g0
      rw [hc1, o1] at g1
      simp only [List.drop_zero, List.take_succ_cons, List.take_zero, List.drop_succ_cons] at g0 g1
      obtain ⟨z0, e0, -⟩ := DataW.trod_int h0 g0
      obtain ⟨z1, e1, -⟩ := DataW.trod_int h1 g1
      simp only [List.cons.injEq, and_true] at e0 e1
      subst e0; subst e1
      obtain ⟨b, off, spot⟩ := a
      simp only at hs; subst hs
      refine ⟨(z0, z1), ?_, ?_⟩
      · have := hcell 0 (by omega)
        rw [add_at, add_at] at this
        rw [add_at]; simpa using this
      · have := hcell 1 (by omega)
        rw [add_at, add_at] at this
        rw [add_at]; simpa [Nat.add_assoc] using this
    obtain ⟨zf, hzf⟩ : ∃ zf : Nat → Int × Int, ∀ i, i < c → W.cell? (a.add (i * 2)) = some (.int k0 (zf i).1) ∧ W.cell? (a.add (i * 2 + 1)) = some (.int k1 (zf i).2) := by
      classical
      exact ⟨fun i => if hi : i < c then (each i hi).choose else (0, 0), fun i hi => by simp only [dif_pos hi]; exact (each i hi).choose_spec⟩
    obtain ⟨φ', H', p', c', g1, g2, g3, g4, g5⟩ := h.rows (s := 2) (rows := (List.range c).map fun i => [.int k0 (zf i).1, .int k1 (zf i).2]) (by omega) hs hb hl hm (by simp)
      (by intro r hr; obtain ⟨i, -, rfl⟩ := List.mem_map.1 hr; rfl)
      (by
        intro r hr v hv
        obtain ⟨i, -, rfl⟩ := List.mem_map.1 hr
        simp only [List.mem_cons, List.not_mem_nil, or_false] at hv
        rcases hv with rfl | rfl <;> exact ⟨rfl, fun _ => .int _ _⟩)
      (by
        intro i r hr j v hv
        rw [List.getElem?_map] at hr
        obtain ⟨i', hi', rfl⟩ := Option.map_eq_some_iff.1 hr
        have hi := (List.getElem?_eq_some_iff.1 hi').1
        rw [List.length_range] at hi
        rw [List.getElem?_range hi] at hi'
        cases hi'
        match j with
        | 0 => simp at hv; subst hv; simpa using (hzf i hi).1
        | 1 => simp at hv; subst hv; exact (hzf i hi).2
        | j + 2 => simp at hv)
    refine ⟨φ', H', p', n, c', (List.range n).map zf, g1, g2, g3, g4, g5 (by simp) ?_⟩
    intro i r x h1 h2
    rw [List.getElem?_map] at h1 h2
    obtain ⟨i1, hi1, rfl⟩ := Option.map_eq_some_iff.1 h1
    obtain ⟨i2, hi2, rfl⟩ := Option.map_eq_some_iff.1 h2
    have a1 := (List.getElem?_eq_some_iff.1 hi1)
    have a2 := (List.getElem?_eq_some_iff.1 hi2)
    obtain ⟨w1, a1⟩ := a1
    obtain ⟨w2, a2⟩ := a2
    rw [List.getElem_range] at a1 a2
    rw [← a1, ← a2]

/-- All that is read of the arguments reads behind the call as it did. -/
theorem trodAll_stays (hl : laidOutB P = true) : ∀ {ts : List TypeId} {vs : List Value} {ds : List (DataW D)} {ps : List MemPlace} {W' : World}, (∀ t ∈ ts, P.readableRec t = true ∧ t < P.types.size) → DataW.TrodAll enc P W 0 (fun _ => true) true ts vs ds ps →
    Below W.heap.size W W' → (∀ x ∈ ps, x.block < W.heap.size) → DataW.TrodAll enc P W' 0 (fun b => decide (b < W.heap.size)) true ts vs ds ps
  | [], _, _, _, _, _, h, _, _ => by obtain ⟨rfl, rfl, rfl⟩ := trodAll_nil h; rfl
  | t :: ts, _, _, _, W', ht, h, hb, hlt => by
    obtain ⟨v, vs, d, ds, p, q, rfl, rfl, rfl, h1, h2⟩ := trodAll_cons h
    have h3 := ht t (by simp)
    exact ⟨p, q, Below.trod hl h3.1 h3.2 h1 hb (fun x hx => hlt x (by simp [hx])), trodAll_stays hl (fun u hu => ht u (by simp [hu])) h2 hb (fun x hx => hlt x (by simp [hx])), rfl⟩

/-- A law's call that is true, as the statement says it. -/
theorem law_post {f : FuncId} {fn : Func} {s : ChangeSpec} {apart fresh handsOn : Bool} {args : Array Value} {ds gs : List (DataW D)} {before : List MemPlace} {largs : List Value} {R : Value → LH → Prop} {tb : TypeId}
    (hl : laidOutB P = true) (hr : ∀ t ∈ fn.params.toList, P.readableRec t = true ∧ t < P.types.size) (hres : fn.resultTypes = #[tb]) (htb : P.underlying tb = some .bool) (hv : s.vars = [])
    (hs : s.fn D (ds ++ gs) = { results := [.lit (.bool true)], args := ds })
    (hW : DataW.Whole enc P fn.params.toList s.vars apart W args.toList ds gs before) (hbr : Br φ H W) (hvr : VRs φ largs args.toList) (hcall : Call P f largs H R) (hR : ∀ v H', R v H' → v = .bool true) :
    Calls P f args W fun e W' => ∃ v, e = .returned v ∧ s.post enc P fn apart fresh handsOn false W args v W' := by
  refine (hcall φ W args.toList hbr.rel hvr).mono ?_
  rintro e W' ⟨v, v', φ', H', rfl, h2, h3, h4, -, -, h7⟩
  have := hR v H' h7; subst this
  cases h2
  have hb : Below W.heap.size W W' := ⟨h4.os, h4.tape, h4.output, h4.size, fun k hk => h4.same k hk (hbr.wr k)⟩
  have hlt := hW.lt
  have hW' := hW
  obtain ⟨p, q, hA, hV, rfl, -, -⟩ := hW
  rw [hv] at hV
  obtain ⟨rfl, rfl⟩ := trodVars_none hV
  refine ⟨_, rfl, ds, [], p ++ [], [], p, [], hW', ?_, ?_, ?_, hb.frame _, fun h => by cases h⟩
  · rw [hs, hres]; exact trodAll_mk1 (shut_bool htb true)
  · rw [hs]; exact trodAll_stays hl hr hA hb (fun x hx => hlt x (by simp [hx]))
  · rw [hs, hv]; rfl
end
end Go.Lg
