/- The logical machine, part 3: what is computed of values alone is what the model computes. No condition. -/
import Derived.Test.YtaehendkbicepaaGreatA2
set_option linter.unusedVariables false
set_option linter.unusedSimpArgs false
namespace Go.Lg
variable {P : Program} {φ : Phi}

theorem run_sz {t n : Nat} (h : szOf P t = some n) (w : World) : (sizeOf t).run P w = .ok n w := by
  unfold szOf at h
  cases hi : P.info? t with
  | none => simp [hi] at h
  | some i => simp [hi] at h; simp [sizeOf, typeInfo, hi, h]

theorem info_of_sz {t n : Nat} (h : szOf P t = some n) : ∃ i, P.info? t = some i ∧ i.size = n := by
  unfold szOf at h
  cases hi : P.info? t with
  | none => simp [hi] at h
  | some i => exact ⟨i, rfl, by simpa [hi] using h⟩

theorem run_zero {t : Nat} {z : Value} (h : zeroOf P t = some z) (w : World) : (zeroValue t).run P w = .ok z w ∧ VR φ z z := by
  unfold zeroOf at h
  cases hi : P.info? t with
  | none => simp [hi] at h
  | some i =>
    simp only [hi] at h
    cases hz : i.zero with
    | none => simp [hz] at h
    | some z' =>
      simp only [hz] at h
      split at h
      · rename_i hc; cases h
        exact ⟨by simp [zeroValue, typeInfo, hi, hz], VR.of_closed _ _ hc⟩
      · cases h

theorem run_agg {t : Nat} {b : Bool} (h : isAggB P t = some b) (w : World) : (isAgg t).run P w = .ok b w := by
  unfold isAggB at h
  cases hu : P.underlying t with
  | none => simp [hu] at h
  | some d => cases d <;> simp [hu] at h <;> subst h <;> simp [isAgg, run_underlying hu]

theorem VRs.arr {xs : List Value} {ys : Array Value} (h : VRs φ xs ys.toList) (i : Nat) {v : Value} (hv : xs[i]? = some v) : ∃ v', ys[i]? = some v' ∧ VR φ v v' := by
  obtain ⟨v', h1, h2⟩ := h.get i hv; exact ⟨v', by simpa using h1, h2⟩

theorem partV_sound {t off : Nat} {cs : List Value} {cs' : Array Value} {v : Value} (hr : VRs φ cs cs'.toList) (h : partV P t cs off = some v) (w : World) :
    ∃ v', (part t cs' off).run P w = .ok v' w ∧ VR φ v v' := by
  unfold partV at h
  split at h
  · rename_i n ha hs
    split at h
    · rename_i hle; cases h
      refine ⟨.agg (cs'.extract off (off + n)), by simp [part, run_agg ha, run_sz hs], ?_⟩
      refine VR.agg_list ?_
      have : (cs'.extract off (off + n)).toList = (cs'.toList.drop off).take n := by simp [List.extract]
      rw [this]
      exact (hr.drop off).take n
    · cases h
  · rename_i _ ha
    obtain ⟨v', h1, h2⟩ := hr.arr off h
    exact ⟨v', by simp [part, run_agg ha, h1], h2⟩
  · cases h

theorem eqFs_sound {f : TypeId → Value → Value → Option Bool} {D : Nat} (hf : ∀ t x y x' y' r, VR φ x x' → VR φ y y' → f t x y = some r → ∀ w, (Op.equalIn D t x' y').run P w = .ok r w) {xs ys : List Value} {xs' ys' : Array Value}
    (hx : VRs φ xs xs'.toList) (hy : VRs φ ys ys'.toList) : ∀ (gs : List Field) (r : Bool), eqFs P f xs ys gs = some r → ∀ w, (Op.eqFields D xs' ys' gs).run P w = .ok r w
  | [], r, h, w => by simp [eqFs] at h; subst h; simp [Op.eqFields]
  | g :: gs, r, h, w => by
    simp only [eqFs] at h
    split at h
    · cases h
    · rename_i hn
      split at h
      · rename_i a b ha hb
        split at h
        · rename_i r1 r2 h1 h2
          cases h
          obtain ⟨a', ra, va⟩ := partV_sound hx ha w
          obtain ⟨b', rb, vb⟩ := partV_sound hy hb w
          have h3 := hf _ _ _ _ _ _ va vb h1 w
          have h4 := eqFs_sound hf hx hy gs r2 h2 w
          simp only [Op.eqFields, ne_eq, hn, not_false_eq_true, if_true, Sem.run_bind, ra, rb, Result.andThen_ok, h3]
          cases r1
          · simp
          · simpa using h4
        · cases h
      · cases h

theorem eqV_sound : ∀ (d D : Nat) (t : TypeId) (x y x' y' : Value) (r : Bool), d ≤ D → VR φ x x' → VR φ y y' → eqV P d t x y = some r → ∀ w, (Op.equalIn D t x' y').run P w = .ok r w
  | 0, _, _, _, _, _, _, _, _, _, _, h, _ => by simp [eqV] at h
  | d + 1, D, t, x, y, x', y', r, hd, hx, hy, h, w => by
    obtain ⟨D, rfl⟩ : ∃ m, D = m + 1 := ⟨D - 1, by omega⟩
    simp only [eqV] at h
    split at h
    · rename_i hu; cases hx; cases hy; cases h; simp [Op.equalIn, run_underlying hu]
    · rename_i hu; cases hx; cases hy
      split at h
      · rename_i hk; cases h; subst hk; simp [Op.equalIn, run_underlying hu]; congr
      · cases h
    · rename_i hu; cases hx; cases hy; cases h; simp [Op.equalIn, run_underlying hu, beq_toListBytes]
    · rename_i fs _ _ hu
      split at h
      · cases h
      · rename_i hp
        obtain ⟨xs', rfl, hxs⟩ := hx.agg_inv
        obtain ⟨ys', rfl, hys⟩ := hy.agg_inv
        have hfo : P.fieldsOf t = fs := by simp [Program.fieldsOf, hu]
        rw [run_equalIn_struct w D t xs' ys' (by rw [hfo]; exact hu) (by simpa using hp), hfo]
        exact eqFs_sound (fun t x y x' y' r hx hy h w => eqV_sound d D t x y x' y' r (by omega) hx hy h w) hxs hys _ _ h w
    · rename_i hu; cases h; cases hx; cases hy <;> simp [Op.equalIn, run_underlying hu]
    · rename_i hu; cases h; cases hy; cases hx <;> simp [Op.equalIn, run_underlying hu]
    · rename_i hu; cases h; cases hx; cases hy <;> simp [Op.equalIn, run_underlying hu]
    · rename_i hu; cases h; cases hy; cases hx; simp [Op.equalIn, run_underlying hu]
    · rename_i hu; cases h; cases hx; cases hy <;> simp [Op.equalIn, run_underlying hu]
    · rename_i hu; cases h; cases hy; cases hx; simp [Op.equalIn, run_underlying hu]
    · rename_i hu; cases h; cases hx; cases hy; simp [Op.equalIn, run_underlying hu]
    · rename_i hu; cases h; cases hx; cases hy; simp [Op.equalIn, run_underlying hu]
    · rename_i hu; cases h; cases hx; cases hy; simp [Op.equalIn, run_underlying hu]
    · cases h


theorem isB {φ : Phi} (b : Bool) : VR φ (.bool b) (.bool b) := .bool b

theorem ibin_sound {op : BinOp} {k : IntKind} {a b : Int} {v : Value} (hop : op ≠ .shl ∧ op ≠ .shr) (h : ibin op k a b = some v) (t : TypeId) (w : World) : (binOp op t (.int k a) (.int k b)).run P w = .ok v w ∧ ∀ φ, VR φ v v := by
  cases op <;> simp only [ibin] at h
  case shl => exact absurd rfl hop.1
  case shr => exact absurd rfl hop.2
  case quo =>
    split at h
    · cases h
    · rename_i hb; cases h; exact ⟨by simp [binOp_quo, Op.intDiv, hb], fun φ => .int _ _⟩
  case rem =>
    split at h
    · cases h
    · rename_i hb; cases h; exact ⟨by simp [binOp_rem, Op.intDiv, hb], fun φ => .int _ _⟩
  case eql => cases h; exact ⟨by simp [binOp_eql]; rfl, fun φ => .bool _⟩
  case neq => cases h; exact ⟨by simp [binOp_neq]; rfl, fun φ => .bool _⟩
  case lss => cases h; exact ⟨by simp [binOp_lss], fun φ => .bool _⟩
  case leq => cases h; exact ⟨by simp [binOp_leq], fun φ => .bool _⟩
  case gtr => cases h; exact ⟨by simp [binOp_gtr], fun φ => .bool _⟩
  case geq => cases h; exact ⟨by simp [binOp_geq], fun φ => .bool _⟩
  all_goals (cases h; refine ⟨?_, fun φ => .int _ _⟩)
  · simp [binOp_add, Op.intArith]
  · simp [binOp_sub, Op.intArith]
  · simp [binOp_mul, Op.intArith]
  · simp [binOp_and, Op.intBits]
  · simp [binOp_or, Op.intBits]
  · simp [binOp_xor, Op.intBits]
  · simp [binOp_andNot, Op.intBits]

theorem ishift_sound {op : BinOp} {k k' : IntKind} {a b : Int} {v : Value} (hop : op = .shl ∨ op = .shr) (h : ishift op k a b = some v) (t : TypeId) (w : World) : (binOp op t (.int k a) (.int k' b)).run P w = .ok v w ∧ ∀ φ, VR φ v v := by
  unfold ishift at h
  split at h
  · cases h
  · rename_i hb
    rcases hop with rfl | rfl <;> simp at h <;> subst h <;> exact ⟨by simp [binOp_shl, binOp_shr, Op.shift, hb], fun φ => .int _ _⟩

theorem sbin_sound {op : BinOp} {a b : ByteArray} {v : Value} (h : sbin op a b = some v) (t : TypeId) (w : World) : (binOp op t (.string a) (.string b)).run P w = .ok v w ∧ ∀ φ, VR φ v v := by
  cases op <;> simp only [sbin] at h
  case add =>
    split at h
    · cases h
    · rename_i hb; cases h; exact ⟨by simp only [binOp, Op.stringOp]; rw [if_neg hb]; rfl, fun φ => .string _⟩
  all_goals first | (cases h; exact ⟨rfl, fun φ => .bool _⟩) | cases h

theorem eqOp_sound {op : BinOp} {t : TypeId} {x y x' y' v : Value} (hx : VR φ x x') (hy : VR φ y y') (h : eqOp P op t x y = some v) (X Y : Operand) (w : World) (hg : (eqGuard op t X Y x' y').run P w = .ok () w)
    (h1 : binOp .eql t x' y' = (do pure (.bool (← Op.equal t x' y')))) (h2 : binOp .neq t x' y' = (do pure (.bool (!(← Op.equal t x' y'))))) :
    (do eqGuard op t X Y x' y'; binOp op t x' y' : Sem Value).run P w = .ok v w ∧ ∀ ψ, VR ψ v v := by
  unfold eqOp at h
  split at h
  · cases he : eqV P 100 t x y with
    | none => simp [he] at h
    | some r =>
      simp [he] at h; subst h
      have hq := eqV_sound 100 10000 t x y x' y' r (by omega) hx hy he w
      refine ⟨?_, fun ψ => .bool _⟩
      rw [h1]; simp only [Sem.run_bind, hg, Result.andThen_ok, Op.equal, Op.maxDepth, hq, Sem.run_pure]
  · cases he : eqV P 100 t x y with
    | none => simp [he] at h
    | some r =>
      simp [he] at h; subst h
      have hq := eqV_sound 100 10000 t x y x' y' r (by omega) hx hy he w
      refine ⟨?_, fun ψ => .bool _⟩
      rw [h2]; simp only [Sem.run_bind, hg, Result.andThen_ok, Op.equal, Op.maxDepth, hq, Sem.run_pure]
  · cases h

theorem binV_sound {op : BinOp} {t : TypeId} {x y x' y' v : Value} (hx : VR φ x x') (hy : VR φ y y') (h : binV P op t x y = some v) (X Y : Operand) (w : World) :
    (do eqGuard op t X Y x' y'; binOp op t x' y' : Sem Value).run P w = .ok v w ∧ ∀ ψ, VR ψ v v := by
  unfold binV at h
  split at h
  · rename_i k a k' b
    cases hx; cases hy
    have hg : eqGuard op t X Y (.int k a) (.int k' b) = pure () := by cases op <;> rfl
    rw [hg]
    split at h
    · have := ishift_sound (P := P) (k' := k') (.inl rfl) h t w; exact this
    · have := ishift_sound (P := P) (k' := k') (.inr rfl) h t w; exact this
    · rename_i h1 h2
      split at h
      · rename_i hk; subst hk; exact ibin_sound ⟨h1, h2⟩ h t w
      · cases h
  · rename_i a b
    cases hx; cases hy
    have hg : eqGuard op t X Y (.string a) (.string b) = pure () := by cases op <;> rfl
    rw [hg]; exact sbin_sound h t w
  · rename_i xs ys
    split at h
    · cases h
    · rename_i hg
      have hx' := hx; have hy' := hy
      obtain ⟨xs', rfl, hxs⟩ := hx.agg_inv
      obtain ⟨ys', rfl, hys⟩ := hy.agg_inv
      exact eqOp_sound hx' hy' h X Y w (run_eqGuard_agg w op t X Y xs' ys' (P := P) (by simpa using hg)) rfl rfl
  · refine eqOp_sound hx hy h X Y w ?_ ?_ ?_ <;> (cases hx; cases hy; first | rfl | (cases op <;> rfl))
  · refine eqOp_sound hx hy h X Y w ?_ ?_ ?_ <;> (cases hx <;> cases hy <;> first | rfl | (cases op <;> rfl))
  · have key : op = .eql ∨ op = .neq := by
      unfold eqOp at h; split at h
      · exact .inl rfl
      · exact .inr rfl
      · cases h
    refine eqOp_sound hx hy h X Y w ?_ ?_ ?_ <;> (cases hx <;> cases hy <;> first | rfl | (cases op <;> rfl))
  · refine eqOp_sound hx hy h X Y w ?_ ?_ ?_ <;> (cases hx <;> cases hy <;> first | rfl | (cases op <;> rfl))
  · refine eqOp_sound hx hy h X Y w ?_ ?_ ?_ <;> (cases hx <;> cases hy <;> first | rfl | (cases op <;> rfl))
  · refine eqOp_sound hx hy h X Y w ?_ ?_ ?_ <;> (cases hx <;> cases hy <;> first | rfl | (cases op <;> rfl))
  · refine eqOp_sound hx hy h X Y w ?_ ?_ ?_ <;> (cases hx <;> cases hy <;> first | rfl | (cases op <;> rfl))
  · cases h

theorem unV_sound {op : UnOp} {x x' v : Value} (hx : VR φ x x') (h : unV op x = some v) (w : World) : (Op.unary op x').run P w = .ok v w ∧ ∀ ψ, VR ψ v v := by
  unfold unV at h
  split at h
  · cases hx
    split at h
    · cases h; exact ⟨by simp [Op.unary, Op.intArith], fun ψ => .int _ _⟩
    · simp only [ibin] at h; cases h; exact ⟨by simp [Op.unary, Op.intBits], fun ψ => .int _ _⟩
    · cases h
  · cases hx
    split at h
    · cases h; exact ⟨by simp [Op.unary], fun ψ => .bool _⟩
    · cases h
  · cases h

theorem convV_sound {s d : TypeId} {x x' v : Value} (hx : VR φ x x') (h : convV P s d x = some v) (w : World) : (convert s d x').run P w = .ok v w ∧ ∀ ψ, VR ψ v v := by
  unfold convV at h
  split at h
  · cases hx
    split at h
    · rename_i k h1 h2; cases h; exact ⟨by simp [convert, run_underlying h1, run_underlying h2, Conv.intToInt], fun ψ => .int _ _⟩
    · cases h
  · cases hx
    split at h
    · rename_i h1 h2; cases h; refine ⟨?_, fun ψ => .string _⟩
      simp [convert, run_underlying h1, run_underlying h2]
    · cases h
  · cases h

theorem VRs.toArr {xs ys : List Value} (h : VRs φ xs ys) : VRs φ xs.toArray.toList ys.toArray.toList := by simpa using h

theorem foldSet_rel (off : Nat) : ∀ (vs vs' : List Value) (k : Nat) (cs cs' : Array Value), VRs φ vs vs' → VRs φ cs.toList cs'.toList →
    VRs φ ((vs.zipIdx k).foldl (fun cs (x : Value × Nat) => cs.setIfInBounds (off + x.2) x.1) cs).toList ((vs'.zipIdx k).foldl (fun cs (x : Value × Nat) => cs.setIfInBounds (off + x.2) x.1) cs').toList
  | [], _, k, cs, cs', h, hc => by cases h; simpa using hc
  | v :: vs, _, k, cs, cs', h, hc => by
    cases h with
    | cons hv ht =>
      simp only [List.zipIdx_cons, List.foldl_cons]
      refine foldSet_rel off vs _ (k + 1) _ _ ht ?_
      simpa using hc.set (off + k) hv

inductive PRs (φ : Phi) : List (Nat × Value) → List (Nat × Value) → Prop
  | nil : PRs φ [] []
  | cons {i : Nat} {v v' : Value} {a b : List (Nat × Value)} (h : VR φ v v') (t : PRs φ a b) : PRs φ ((i, v) :: a) ((i, v') :: b)

theorem fill_rel (place : Nat → Option (Nat × Nat)) {ps ps' : List (Nat × Value)} (h : PRs φ ps ps') : ∀ (cs cs' : Array Value) (r : Array Value), VRs φ cs.toList cs'.toList → Instr.fill place cs ps = some r →
    ∃ r', Instr.fill place cs' ps' = some r' ∧ VRs φ r.toList r'.toList := by
  induction h with
  | nil => intro cs cs' r hc hr; simp [Instr.fill] at hr; subst hr; exact ⟨cs', rfl, hc⟩
  | @cons i v v' a b hv ht ih =>
    intro cs cs' r hc hr
    simp only [Instr.fill] at hr ⊢
    cases hp : place i with
    | none => simp [hp] at hr
    | some p =>
      obtain ⟨off, size⟩ := p
      simp only [hp] at hr ⊢
      have hl : v.cells.size = v'.cells.size := by simpa using hv.cells.length
      have hcl : cs.size = cs'.size := by simpa using hc.length
      rw [← hl, ← hcl]
      split at hr
      · cases hr
      · rename_i hcond
        rw [if_neg hcond]
        refine ih _ _ r ?_ hr
        have := foldSet_rel (φ := φ) off v.cells.toList v'.cells.toList 0 cs cs' hv.cells hc
        have e : ∀ (c b : Array Value), c.zipIdx.foldl (fun cs (x : Value × Nat) => cs.setIfInBounds (off + x.2) x.1) b = (c.toList.zipIdx 0).foldl (fun cs (x : Value × Nat) => cs.setIfInBounds (off + x.2) x.1) b := by
          intro c b; rw [← Array.foldl_toList]; simp
        have e1 := e v.cells cs
        have e2 := e v'.cells cs'
        show VRs φ (v.cells.zipIdx.foldl (fun cs (x : Value × Nat) => cs.setIfInBounds (off + x.2) x.1) cs).toList (v'.cells.zipIdx.foldl (fun cs (x : Value × Nat) => cs.setIfInBounds (off + x.2) x.1) cs').toList
        rw [e1, e2]; exact this

theorem built_rel {t : TypeId} {ps ps' : List (Nat × Value)} {z : Value} (hz : zeroOf P t = some z) (h : PRs φ ps ps') {r : Array Value} (hr : P.built t ps = some r) :
    ∃ r', P.built t ps' = some r' ∧ VRs φ r.toList r'.toList := by
  unfold zeroOf at hz
  unfold Program.built at hr ⊢
  cases hi : P.info? t with
  | none => simp [hi] at hz
  | some it =>
    simp only [hi] at hz hr ⊢
    cases hz' : it.zero with
    | none => simp [hz'] at hz
    | some z' =>
      simp only [hz'] at hz
      split at hz
      · rename_i hc
        have hzz : VRs φ z'.cells.toList z'.cells.toList := (VR.of_closed (φ := φ) _ _ hc).cells
        cases hu : P.underlying t with
        | none => simp [hu] at hr
        | some d =>
          cases d <;> simp only [hu] at hr ⊢ <;> try (simp at hr; done)
          case array n e =>
            cases hie : P.info? e with
            | none => simp [hz', hie] at hr
            | some ie =>
              simp only [hz', hie] at hr ⊢
              exact fill_rel _ h _ _ _ hzz hr
          case struct fields =>
            cases hp : fields.toList.mapM (fun f => (P.info? f.type).map fun i => (f.offset, i.size)) with
            | none => simp [hz', hp] at hr
            | some places =>
              simp only [hz', hp] at hr ⊢
              exact fill_rel _ h _ _ _ hzz hr
      · cases hz

end Go.Lg
