/- The logical machine, part 7: copies, lengths, maps, slices of slices. No condition. -/
import Derived.Test.YtaehendkbicepaaGreatA6
set_option linter.unusedVariables false
set_option linter.unusedSimpArgs false
namespace Go.Lg
variable {P : Program} {φ0 φ : Phi} {H0 H : LH} {w0 w w' : World} {e : Env} {tmps : Array Value} {n base : Nat} {al : Option Nat}

theorem copy_sound (h : St φ0 H0 w0 φ e H tmps w) {t elem ty : TypeId} {ats : Array TypeId} (ha0 : ats[0]? = some t) {s : Nat} (ht : P.underlying t = some (.slice elem)) (hs : szOf P elem = some s)
    {x y x' y' v : Value} {H' : LH} (hx : VR φ x x') (hy : VR φ y y') (ha : copyV H s x y = some (v, H')) :
    ∃ v' w', (Builtin.copy_ ats ty #[x', y']).run P w = .ok v' w' ∧ VR φ v v' ∧ St φ0 H0 w0 φ e H' tmps w' ∧ H'.next = H.next := by
  unfold copyV at ha
  split at ha
  · rename_i k m new hk hm hn
    obtain ⟨a1, c1, new', rfl, hmc, vn, hnl, hnc, rn, rrn, rk⟩ := slCells_sound (P := P) h.rel hy hn hm
    obtain ⟨a0, c0, rfl⟩ := slLen_inv hx hk
    have hread := rk (min m k) (Nat.min_le_left _ _)
    have hmin : Nat.min m k = min m k := rfl
    dsimp only at ha
    split at ha
    · rename_i h0; cases ha
      rw [h0] at hread
      refine ⟨.int .i64 0, w, ?_, .int _ _, h, rfl⟩
      have h0' : Nat.min m k = 0 := h0
      simp only [Nat.zero_mul, List.take_zero] at hread
      cases a0 <;> simp [Builtin.copy_, ha0, run_underlying ht, Builtin.lenOf, run_sz hs, h0', h0, hread, storeCells, goInt]
    · rename_i h0
      split at ha
      · rename_i b i n' c
        simp [slLen] at hk; subst hk
        split at ha
        · rename_i cs sz hg
          split at ha
          · rename_i hcond; obtain ⟨rfl, hle⟩ := hcond; cases ha
            cases hx with
            | slEnd => simp at h0
            | sl hm1 hn1 ht1 hs1 =>
              have hvt := vn.take (min m n' * sz)
              have hct : (new.take (min m n' * sz)).all isCell = true := by
                rw [List.all_eq_true] at hnc ⊢
                exact fun x hx => hnc x (List.mem_of_mem_take hx)
              have hlt : (new.take (min m n' * sz)).length ≤ n' * sz := by
                rw [List.length_take]
                have := Nat.mul_le_mul_right sz (Nat.min_le_right m n')
                omega
              have hw : wrC e H (new.take (min m n' * sz)) (.heap b i) = some (.skip none (H.put b (some (.cells (setMany cs i (new.take (min m n' * sz))) sz false)))) := by
                simp only [wrC, hg]; rw [if_pos (by omega)]
              obtain ⟨w2, bx, H2, hr2, hrun, hst, hnx, -⟩ := store_sound (P := P) h (l := .heap b i) ⟨_, hm1, rfl, rfl⟩ hvt hct hw
              cases hr2
              refine ⟨.int .i64 (min m n' : Nat), w2, ?_, .int _ _, hst, rfl⟩
              simp only [Builtin.copy_, ha0, List.getElem?_toArray, List.getElem?_cons_zero, List.getElem?_cons_succ, Sem.run_bind, run_underlying ht, Result.andThen_ok, Builtin.lenOf, Sem.run_pure, run_sz hs, hmin, hread, goInt]
              rw [hrun]; simp
          · cases ha
        · cases ha
      · cases ha
  · cases ha

theorem minmax_sound (mx : Bool) : ∀ (vs vs' : List Value) (k : IntKind) (a : Int) (r : Value), VRs φ vs vs' → minmax mx (.int k a) vs = some r → ∀ w, ((vs'.foldlM (if mx then Builtin.max2 else Builtin.min2) (.int k a)).run P w = .ok r w) ∧ ∃ b, r = .int k b
  | [], _, k, a, r, .nil, h, w => by
    simp [minmax] at h; subst h; exact ⟨by simp, _, rfl⟩
  | v :: vs, v' :: vs', k, a, r, .cons ha ht, h, w => by
    cases v <;> simp only [minmax] at h <;> try (cases h; done)
    cases ha
    have ih := minmax_sound mx vs vs' k _ r ht h w
    refine ⟨?_, ih.2⟩
    have h1 := ih.1
    cases mx
    · simp only [Bool.false_eq_true, if_false] at h1 ⊢
      simp only [List.foldlM_cons, Builtin.min2, pure_bind]
      exact h1
    · simp only [if_true] at h1 ⊢
      simp only [List.foldlM_cons, Builtin.max2, pure_bind]
      exact h1

theorem run_getObj_map {r : Nat} {ents : Array MapEntry} {clk : Nat} (h : w.heap[r]? = some (.map ents clk)) : (getObj r).run P w = .ok (.map ents clk) w := by simp [getObj, Sem.run, h]

theorem len_sound (h : Rel φ H w) {t ty : TypeId} {ats : Array TypeId} (ha0 : ats[0]? = some t) {x x' v : Value} (hx : VR φ x x') (hl : lenV P H t x = some v) : (Builtin.len_ ats ty #[x']).run P w = .ok v w ∧ ∀ ψ, VR ψ v v := by
  cases hx <;> simp only [lenV] at hl <;> try (cases hl; done)
  case string s => split at hl <;> cases hl; rename_i hu; exact ⟨by simp [Builtin.len_, ha0, run_underlying hu, goInt], fun ψ => .int _ _⟩
  case slNil => split at hl <;> cases hl; rename_i hu; exact ⟨by simp [Builtin.len_, ha0, run_underlying hu, goInt], fun ψ => .int _ _⟩
  case sl => split at hl <;> cases hl; rename_i hu; exact ⟨by simp [Builtin.len_, ha0, run_underlying hu, goInt], fun ψ => .int _ _⟩
  case slEnd => split at hl <;> cases hl; rename_i hu; exact ⟨by simp [Builtin.len_, ha0, run_underlying hu, goInt], fun ψ => .int _ _⟩
  case mapNil => split at hl <;> cases hl; rename_i hu; exact ⟨by simp [Builtin.len_, ha0, run_underlying hu, goInt], fun ψ => .int _ _⟩
  case map r m hm =>
    split at hl <;> cases hl
    rename_i kt et es hu hg
    obtain ⟨m', g1, g2⟩ := h.live r _ hg
    rw [hm] at g1; cases g1
    obtain ⟨ents, clk, k1, k2, k3⟩ := g2
    have : es.length = ents.size := by have := k2.length; simpa using this
    exact ⟨by simp [Builtin.len_, ha0, run_underlying hu, run_getObj_map k1, goInt, this], fun ψ => .int _ _⟩
  case agg => split at hl <;> cases hl; rename_i hu; exact ⟨by simp [Builtin.len_, ha0, run_underlying hu, goInt], fun ψ => .int _ _⟩

theorem cap_sound {t ty : TypeId} {ats : Array TypeId} (ha0 : ats[0]? = some t) {x x' v : Value} (hx : VR φ x x') (hl : capV P t x = some v) : (Builtin.cap_ ats ty #[x']).run P w = .ok v w ∧ ∀ ψ, VR ψ v v := by
  cases hx <;> simp only [capV] at hl <;> try (cases hl; done)
  case slNil => split at hl <;> cases hl; rename_i hu; exact ⟨by simp [Builtin.cap_, ha0, run_underlying hu, goInt], fun ψ => .int _ _⟩
  case sl =>
    rename_i h1 h2 h3 h4
    split at hl
    · rename_i hu
      split at hl
      · rename_i hc; cases hl
        have := h3 hc; subst this
        exact ⟨by simp [Builtin.cap_, ha0, run_underlying hu, goInt], fun ψ => .int _ _⟩
      · cases hl
    · cases hl
  case slEnd =>
    split at hl
    · rename_i hu
      split at hl
      · cases hl; exact ⟨by simp [Builtin.cap_, ha0, run_underlying hu, goInt], fun ψ => .int _ _⟩
      · cases hl
    · cases hl

/-! ### maps -/
theorem keyTy_vr {kt : TypeId} {k k' : Value} (h : keyTy P kt k = true) (hk : VR φ k k') : k' = k := by
  cases hk <;> simp [keyTy] at h <;> rfl

theorem run_checkKey' {kt : TypeId} {k : Value} (h : keyTy P kt k = true) (emp : Bool) (m : Nat) (w : World) : (Instr.checkKey emp (m + 1) kt k).run P w = .ok () w := by
  cases k <;> simp only [keyTy] at h <;> try (cases h; done)
  all_goals
    split at h <;> try (cases h; done)
    rename_i hu
    simp [Instr.checkKey, run_underlying hu]
theorem run_checkKey {kt : TypeId} {k : Value} (h : keyTy P kt k = true) (emp : Bool) (w : World) : (Instr.checkKey emp 10000 kt k).run P w = .ok () w := run_checkKey' h emp 9999 w

theorem bytes_ext {s t : ByteArray} (h : s.toList = t.toList) : s = t := by
  rw [ByteArray.toList_eq, ByteArray.toList_eq] at h
  obtain ⟨⟨x⟩⟩ := s
  obtain ⟨⟨y⟩⟩ := t
  simp at h; rw [h]

theorem findNow_sound {kt : TypeId} {k : Value} (hk : keyTy P kt k = true) {d : TypeDesc} (hd : P.underlying kt = some d) : ∀ (es : List (Value × Value)) (ents : List MapEntry) (i : Nat) (r : Option (Nat × Value)),
    VRs φ (es.map (·.1)) (ents.map (·.key)) → VRs φ (es.map (·.2)) (ents.map (·.val)) → findK k es i = some r →
    ∃ r', Instr.findNow d k ents i = some r' ∧ (r = none → r' = none) ∧ (∀ j v, r = some (j, v) → ∃ v', r' = some (j, v') ∧ VR φ v v' ∧ i ≤ j ∧ j < i + ents.length ∧ (ents[j - i]?).map (·.key) = some k)
  | [], [], i, r, _, _, h => by
    simp [findK] at h; subst h; exact ⟨none, rfl, fun _ => rfl, fun _ _ h => by cases h⟩
  | [], _ :: _, _, _, h, _, _ => by cases h
  | _ :: _, [], _, _, h, _, _ => by cases h
  | (q, v) :: es, en :: ents, i, r, h1, h2, h => by
    simp only [List.map_cons] at h1 h2
    cases h1 with
    | cons hq ht =>
      cases h2 with
      | cons hv ht2 =>
        simp only [findK] at h
        have same : ∀ t, keyEq k q = some t → Instr.sameNow d k en.key = some t := by
          intro t hkq
          cases k <;> simp only [keyTy] at hk <;> try (cases hk; done)
          · cases q <;> simp only [keyEq] at hkq <;> try (cases hkq; done)
            generalize en.key = ek at hq
            cases hq
            split at hkq
            · rename_i hkk; subst hkk
              split at hk
              · rename_i k0 hu; rw [hu] at hd; cases hd
                cases hkq; simp [Instr.sameNow]; rfl
              · cases hk
            · cases hkq
          · cases q <;> simp only [keyEq] at hkq <;> try (cases hkq; done)
            generalize en.key = ek at hq
            cases hq
            split at hk
            · rename_i hu; rw [hu] at hd; cases hd
              cases hkq; simp [Instr.sameNow, beq_toListBytes]
            · cases hk
        have keyq : keyEq k q = some true → en.key = k := by
          intro hkq
          cases k <;> simp only [keyTy] at hk <;> try (cases hk; done)
          · cases q <;> simp only [keyEq] at hkq <;> try (cases hkq; done)
            generalize en.key = ek at hq ⊢
            cases hq
            split at hkq
            · rename_i hkk; subst hkk; simp at hkq; subst hkq; rfl
            · cases hkq
          · rename_i s
            cases q <;> simp only [keyEq] at hkq <;> try (cases hkq; done)
            rename_i s2
            generalize en.key = ek at hq ⊢
            cases hq
            simp at hkq
            rw [bytes_ext hkq]
        simp only [Instr.findNow]
        split at h
        · rename_i hkq; cases h
          rw [same true hkq]
          exact ⟨some (i, en.val), rfl, (fun hh => by cases hh), fun j u hh => by
            cases hh; exact ⟨en.val, rfl, hv, Nat.le_refl _, by simp, by simp [keyq hkq]⟩⟩
        · rename_i hkq
          rw [same false hkq]
          obtain ⟨r', g1, g2, g3⟩ := findNow_sound hk hd es ents (i + 1) r ht ht2 h
          refine ⟨r', g1, g2, fun j u hh => ?_⟩
          obtain ⟨v', a1, a2, a3, a4, a5⟩ := g3 j u hh
          refine ⟨v', a1, a2, by omega, by simp; omega, ?_⟩
          rw [show j - i = (j - (i + 1)) + 1 by omega]; simpa using a5
        · cases h

theorem run_findKey {kt : TypeId} {k : Value} {d : TypeDesc} (hd : P.underlying kt = some d) {ents : List MapEntry} {r : Option (Nat × Value)} (h : Instr.findNow d k ents 0 = some r) (w : World) : (Instr.findKey kt k ents).run P w = .ok r w := by
  simp [Instr.findKey, run_underlying hd, h]

theorem keyTy_und {kt : TypeId} {k : Value} (h : keyTy P kt k = true) : ∃ d, P.underlying kt = some d := by
  cases hu : P.underlying kt with
  | none => cases k <;> simp [keyTy, hu] at h
  | some d => exact ⟨d, rfl⟩

theorem look_sound (h : Rel φ H w) {t : TypeId} {m m' k k' v : Value} {ok : Bool} (hm : VR φ m m') (hk : VR φ k k') (hl : lookV P H t m k ok = some v) :
    ∃ v', (Instr.lookup t m' k' ok).run P w = .ok v' w ∧ VR φ v v' := by
  unfold lookV at hl
  split at hl
  · rename_i kt et hu
    split at hl
    · rename_i hkt
      have := keyTy_vr hkt hk; subst this
      obtain ⟨d, hd⟩ := keyTy_und hkt
      split at hl
      · rename_i z hz hf
        cases hl
        obtain ⟨rz, vz⟩ := run_zero (φ := φ) hz w
        have hvr : VR φ (if ok = true then .tuple #[z, .bool false] else z) (if ok = true then .tuple #[z, .bool false] else z) := by
          cases ok
          · exact vz
          · exact VR.tuple_list (.cons vz (.cons (.bool _) .nil))
        refine ⟨_, ?_, hvr⟩
        split at hf
        · cases hm
          simp [Instr.lookup, run_underlying hu, run_checkKey hkt, run_findKey hd (ents := []) rfl, rz]
        · rename_i r
          cases hm with
          | map hm1 =>
            split at hf
            · rename_i es hg
              obtain ⟨m2, g1, g2⟩ := h.live r _ hg
              rw [hm1] at g1; cases g1
              obtain ⟨ents, clk, k1, k2, k3⟩ := g2
              obtain ⟨r', f1, f2, f3⟩ := findNow_sound hkt hd es ents.toList 0 _ k2 k3 hf
              have := f2 rfl; subst this
              simp [Instr.lookup, run_underlying hu, run_getObj_map k1, run_checkKey hkt, run_findKey hd f1, rz]
            · cases hf
        · cases hf
      · rename_i j u hz hf
        cases hl
        split at hf
        · cases hf
        · rename_i r
          cases hm with
          | map hm1 =>
            split at hf
            · rename_i es hg
              obtain ⟨m2, g1, g2⟩ := h.live r _ hg
              rw [hm1] at g1; cases g1
              obtain ⟨ents, clk, k1, k2, k3⟩ := g2
              obtain ⟨r', f1, f2, f3⟩ := findNow_sound hkt hd es ents.toList 0 _ k2 k3 hf
              obtain ⟨v', rfl, a2, -⟩ := f3 _ _ rfl
              refine ⟨if ok = true then .tuple #[v', .bool true] else v', ?_, ?_⟩
              · simp [Instr.lookup, run_underlying hu, run_getObj_map k1, run_checkKey hkt, run_findKey hd f1]
              · cases ok
                · exact a2
                · exact VR.tuple_list (.cons a2 (.cons (.bool _) .nil))
            · cases hf
        · cases hf
      · cases hl
    · cases hl
  · cases hl

end Go.Lg
