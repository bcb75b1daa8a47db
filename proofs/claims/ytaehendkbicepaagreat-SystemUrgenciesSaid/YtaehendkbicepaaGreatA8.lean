/- The logical machine, part 8: map updates, slices of slices, rows that are made. No condition. -/
import Derived.Test.YtaehendkbicepaaGreatA7
set_option linter.unusedVariables false
set_option linter.unusedSimpArgs false
namespace Go.Lg
variable {P : Program} {φ0 φ : Phi} {H0 H : LH} {w0 w w' : World} {e : Env} {tmps : Array Value} {n base : Nat} {al : Option Nat}

theorem setObj_turned {B : Nat} {x : Obj} {ents : Array MapEntry} {clk : Nat} (h : w.heap[B]? = some (.map ents clk)) :
    (setObj B x).run P w = .ok () { w with heap := w.heap.setIfInBounds B x } ∧ Turned w { w with heap := w.heap.setIfInBounds B x } B x := by
  have hlt := lt_of_get h
  refine ⟨by simp [setObj, Sem.run, h], ⟨rfl, rfl, rfl, by simp, by simp [hlt], fun k hk => by simp [Ne.symm hk]⟩⟩

theorem sameBits_refl {kt : TypeId} {k : Value} (h : keyTy P kt k = true) (m : Nat) : Instr.sameBits (m + 1) k k = true := by
  cases k <;> simp [keyTy] at h <;> simp [Instr.sameBits, beq_toListBytes]

theorem upd_sound (h : St φ0 H0 w0 φ e H tmps w) {t : TypeId} {m m' k k' v v' : Value} {H' : LH} (hm : VR φ m m') (hk : VR φ k k') (hv : VR φ v v') (hu : updV P H t m k v = some H') :
    ∃ w', (Instr.mapUpdate t m' k' v').run P w = .ok () w' ∧ St φ0 H0 w0 φ e H' tmps w' ∧ H'.next = H.next := by
  unfold updV at hu
  split at hu
  · rename_i kt et r hut
    split at hu
    · rename_i hkt
      have := keyTy_vr hkt hk; subst this
      obtain ⟨d, hd⟩ := keyTy_und hkt
      cases hm with
      | map hm1 =>
        split at hu
        · rename_i es hg
          obtain ⟨pl, g1, g2⟩ := h.rel.live r _ hg
          rw [hm1] at g1; cases g1
          obtain ⟨ents, clk, k1, k2, k3⟩ := g2
          cases hp : mapPut es k' v with
          | none => simp [hp] at hu
          | some es' =>
            simp [hp] at hu; subst hu
            unfold mapPut at hp
            split at hp
            · rename_i hf
              cases hp
              obtain ⟨r', f1, f2, f3⟩ := findNow_sound hkt hd es ents.toList 0 _ k2 k3 hf
              have := f2 rfl; subst this
              obtain ⟨s1, s2⟩ := setObj_turned (P := P) (x := .map (ents.push { key := k', val := v', born := clk }) (clk + 1)) k1
              refine ⟨_, ?_, h.step (Fr.turned hg rfl hm1 s2) (h.rel.turned hg rfl hm1 rfl s2 ⟨_, _, rfl, ?_, ?_⟩) (fun _ _ hh => hh) (dead_put hg), rfl⟩
              · simp [Instr.mapUpdate, run_underlying hut, run_getObj_map k1, run_checkKey hkt, run_findKey hd f1, s1]
              · simpa using k2.append (.cons hk .nil)
              · simpa using k3.append (.cons hv .nil)
            · rename_i i u hf
              cases hp
              obtain ⟨r', f1, f2, f3⟩ := findNow_sound hkt hd es ents.toList 0 _ k2 k3 hf
              obtain ⟨u', rfl, a2, a3, a4, a5⟩ := f3 _ _ rfl
              simp only [Nat.sub_zero, Nat.zero_add, Array.length_toList] at a4 a5
              obtain ⟨s1, s2⟩ := setObj_turned (P := P) (x := .map (ents.modify i fun e => { e with key := k', val := v' }) clk) k1
              have hks : (Instr.keyThatStays ((Option.map (fun x => x.key) ents[i]?).getD k') k').run P w = .ok k' w := by
                have : (Option.map (fun x => x.key) ents[i]?) = some k' := by simpa using a5
                rw [this]
                simp only [Option.getD_some, Instr.keyThatStays]
                rw [if_pos (sameBits_refl hkt 9999)]; rfl
              refine ⟨_, ?_, h.step (Fr.turned hg rfl hm1 s2) (h.rel.turned hg rfl hm1 rfl s2 ⟨_, _, rfl, ?_, ?_⟩) (fun _ _ hh => hh) (dead_put hg), rfl⟩
              · simp [Instr.mapUpdate, run_underlying hut, run_getObj_map k1, run_checkKey hkt, run_findKey hd f1, hks, s1]
              · have : ((ents.modify i fun e => { e with key := k', val := v' }).toList.map (·.key)) = (ents.toList.map (·.key)).set i k' := by
                  apply List.ext_getElem?
                  intro j
                  simp only [Array.toList_modify, List.getElem?_map, List.getElem?_modify, List.getElem?_set, List.length_map]
                  by_cases hij : i = j
                  · subst hij
                    have hl : i < ents.toList.length := by simpa using a4
                    rw [if_pos rfl, if_pos hl, List.getElem?_eq_getElem hl]; simp
                  · rw [if_neg hij]; cases ents.toList[j]? <;> simp [hij]
                rw [this, List.map_set]; exact k2.set i hk
              · have : ((ents.modify i fun e => { e with key := k', val := v' }).toList.map (·.val)) = (ents.toList.map (·.val)).set i v' := by
                  apply List.ext_getElem?
                  intro j
                  simp only [Array.toList_modify, List.getElem?_map, List.getElem?_modify, List.getElem?_set, List.length_map]
                  by_cases hij : i = j
                  · subst hij
                    have hl : i < ents.toList.length := by simpa using a4
                    rw [if_pos rfl, if_pos hl, List.getElem?_eq_getElem hl]; simp
                  · rw [if_neg hij]; cases ents.toList[j]? <;> simp [hij]
                rw [this, List.map_set]; exact k3.set i hv
            · cases hp
        · cases hu
    · cases hu
  · cases hu

/-- A bound as the logical machine reads it. -/
def bdV : Option Value → Nat → Option Nat
  | none, d => some d
  | some (.int _ i), _ => if 0 ≤ i then some i.toNat else none
  | _, _ => none

theorem bdV_some (x : Value) (a b : Nat) : bdV (some x) a = bdV (some x) b := by cases x <;> rfl

theorem run_slice_nat (t : TypeId) (a : Option Addr) (len cap s : Nat) (ht : P.underlying t = some (.slice (P.elem t))) (hs : szOf P (P.elem t) = some s) {lo hi : Option Value} {l h : Nat} (hl : bdV lo 0 = some l) (hh : bdV hi len = some h)
    (h1 : l ≤ h) (h2 : h ≤ len) (h3 : len ≤ cap) (w : World) : (Instr.slice t (.slice a len cap) lo hi none).run P w = .ok (sliced a l h cap s) w := by
  have bd : ∀ (x : Value) (y : Nat) (code : BoundsCode) (k : Nat), bdV (some x) 0 = some k → k ≤ y → (Instr.sliceBound x y code).run P w = .ok k w := by
    intro x y code k hk hy
    cases x <;> simp only [bdV] at hk <;> try (cases hk; done)
    split at hk
    · rename_i kk i h0; cases hk; simpa using run_sliceBound (P := P) w kk i y code h0 (by omega)
    · cases hk
  rw [run_slice_any w t a len cap ht]
  have : (Instr.sliceBounds true len cap lo hi none).run P w = .ok (l, h, cap) w := by
    cases lo with
    | none =>
      simp [bdV] at hl; subst hl
      cases hi with
      | none => simp [bdV] at hh; subst hh; simp [Instr.sliceBounds]
      | some y => simp [Instr.sliceBounds, bd y cap _ h ((bdV_some _ _ _).trans hh) (by omega)]
    | some x =>
      cases hi with
      | none => simp [bdV] at hh; subst hh; simp [Instr.sliceBounds, bd x len _ l hl h1]
      | some y => simp [Instr.sliceBounds, bd y cap _ h ((bdV_some _ _ _).trans hh) (by omega), bd x h _ l hl h1]
  rw [this]; simp [run_sz hs]

theorem run_slice_nat3 (t : TypeId) (a : Option Addr) (len cap s : Nat) (ht : P.underlying t = some (.slice (P.elem t))) (hs : szOf P (P.elem t) = some s) {lo : Option Value} {hi mx : Value} {l h m : Nat} (hl : bdV lo 0 = some l) (hh : bdV (some hi) len = some h) (hm : bdV (some mx) 0 = some m)
    (h1 : l ≤ h) (h2 : h ≤ m) (h3 : m ≤ cap) (w : World) : (Instr.slice t (.slice a len cap) lo (some hi) (some mx)).run P w = .ok (sliced a l h m s) w := by
  have bd : ∀ (x : Value) (y : Nat) (code : BoundsCode) (k : Nat), bdV (some x) 0 = some k → k ≤ y → (Instr.sliceBound x y code).run P w = .ok k w := by
    intro x y code k hk hy
    cases x <;> simp only [bdV] at hk <;> try (cases hk; done)
    split at hk
    · rename_i kk i h0; cases hk; simpa using run_sliceBound (P := P) w kk i y code h0 (by omega)
    · cases hk
  rw [run_slice_any w t a len cap ht]
  have : (Instr.sliceBounds true len cap lo (some hi) (some mx)).run P w = .ok (l, h, m) w := by
    cases lo with
    | none =>
      simp [bdV] at hl; subst hl
      simp [Instr.sliceBounds, bd mx cap _ m hm h3, bd hi m _ h ((bdV_some _ _ _).trans hh) h2]
    | some x => simp [Instr.sliceBounds, bd mx cap _ m hm h3, bd hi m _ h ((bdV_some _ _ _).trans hh) h2, bd x h _ l hl h1]
  rw [this]; simp [run_sz hs]

/-- The value that a slice of a slice reads as. -/
theorem sliced_vr {b i k c c' l h m s : Nat} {pl : Place} (hm : φ b = some pl) (hn : k ≤ c') (hs : pl.off + i + c' * pl.sz ≤ pl.size) (hsz : pl.sz = s) (h1 : l ≤ h) (h2 : h ≤ m) (h3 : m ≤ c') (hc : c = h - l → m = h) :
    VR φ (.slice (some ⟨b, i + l * s, none⟩) (h - l) c) (sliced (some ⟨pl.blk, pl.off + i, none⟩) l h m s) := by
  unfold sliced
  by_cases hml : m = l
  · rw [if_pos hml, show h - l = 0 by omega, show m - l = 0 by omega]; exact .slEnd
  · rw [if_neg hml]
    simp only [Option.map_some, Addr.add_lit]
    rw [show pl.off + i + l * s = pl.off + (i + l * s) by omega]
    refine VR.sl hm (by omega) (fun hh => by have := hc hh; omega) ?_
    have e1 : l * s + (m - l) * pl.sz = m * s := by rw [hsz, ← Nat.add_mul]; congr 1; omega
    have e2 := Nat.mul_le_mul_right s h3
    rw [hsz] at hs e1
    rw [hsz]; omega

theorem sliceV_sound (h : Rel φ H w) {t : TypeId} {s : Nat} (ht : P.underlying t = some (.slice (P.elem t))) (hs : szOf P (P.elem t) = some s) {a : Option Addr} {k c : Nat} {v' r : Value} {lo hi mx : Option Value} (hv : VR φ (.slice a k c) v') (hr : sliceV H s (.slice a k c) lo hi mx = some r) :
    ∃ r', (Instr.slice t v' lo hi mx).run P w = .ok r' w ∧ VR φ r r' := by
  have hbd : (fun (x : Option Value) (d : Nat) => match x, d with | none, d => some d | some (.int _ i), _ => if 0 ≤ i then some i.toNat else none | _, _ => none : Option Value → Nat → Option Nat) = bdV := by
    funext x d; unfold bdV; rfl
  unfold sliceV at hr
  simp only [] at hr
  split at hr
  · -- nil
    rename_i heq; cases heq
    cases hv
    split at hr
    · rename_i h1 h2; cases hr
      have e1 : bdV lo 0 = some 0 := h1
      have e2 : bdV hi 0 = some 0 := h2
      exact ⟨_, run_slice_nat t none 0 0 s ht hs e1 e2 (Nat.le_refl _) (Nat.le_refl _) (Nat.le_refl _) w, by simpa [sliced] using VR.slNil⟩
    · cases hr
  · rename_i b i n' c' heq; cases heq
    split at hr
    · rename_i cs sz ro hg
      split at hr
      · rename_i hsz; subst hsz
        split at hr
        · rename_i l hh e1 e2
          have e1 : bdV lo 0 = some l := e1
          have e2 : bdV hi k = some hh := e2
          split at hr
          · rename_i hle
            obtain ⟨pl, g1, g2⟩ := h.live b _ hg
            obtain ⟨c0, el, fz, k1, k2, k3, k4, -⟩ := g2
            split at hr
            · cases hr
              cases hv with
              | sl hm hn ht' hs' =>
                rw [g1] at hm; cases hm
                refine ⟨_, run_slice_nat t _ _ _ _ ht hs e1 e2 hle.1 hle.2 hn w, ?_⟩
                refine sliced_vr g1 hn hs' k3 hle.1 (by omega) (Nat.le_refl _) ?_
                intro hcc
                split at hcc
                · rename_i hc2; have := ht' hc2.1; omega
                · omega
              | slEnd =>
                refine ⟨_, run_slice_nat t _ _ _ _ ht hs e1 e2 hle.1 hle.2 (Nat.le_refl _) w, ?_⟩
                have : l = 0 := by omega
                subst this
                have : hh = 0 := by omega
                subst this
                simpa [sliced] using VR.slEnd
            · rename_i kk mi
              split at hr
              · rename_i hm2; cases hr
                obtain ⟨hi1, hm3, hm4⟩ := hm2
                obtain ⟨hq, rfl⟩ := Option.isSome_iff_exists.1 hi1
                have e3 : bdV (some (Value.int kk mi)) 0 = some mi.toNat := by simp [bdV]; omega
                have e4 : ((mi.toNat : Nat) : Int) = mi := Int.toNat_of_nonneg (by omega)
                have hcap : ∀ {q : Nat}, q = (if mi = (hh : Int) then hh - l else hh - l + 1) → q = hh - l → mi.toNat = hh := by
                  intro q hq1 hq2; split at hq1 <;> omega
                cases hv with
                | sl hm hn ht' hs' =>
                  rw [g1] at hm; cases hm
                  exact ⟨_, run_slice_nat3 t _ _ _ _ ht hs e1 e2 e3 hle.1 (by omega) (by omega) w, sliced_vr g1 hn hs' k3 hle.1 (by omega) (by omega) (hcap rfl)⟩
                | slEnd =>
                  refine ⟨_, run_slice_nat3 t _ _ _ _ ht hs e1 e2 e3 hle.1 (by omega) (by omega) w, ?_⟩
                  have : l = 0 := by omega
                  subst this
                  have : hh = 0 := by omega
                  subst this
                  have : mi.toNat = 0 := by omega
                  rw [this]
                  simpa [sliced] using VR.slEnd
              · cases hr
            · cases hr
          · cases hr
        · cases hr
      · cases hr
    · cases hr
  · rename_i heq; cases heq
  · cases hr

end Go.Lg
