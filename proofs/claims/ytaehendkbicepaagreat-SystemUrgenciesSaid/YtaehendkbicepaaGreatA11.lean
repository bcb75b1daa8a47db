/- The logical machine, part 11: on what an operation hangs. No condition. -/
import Derived.Test.YtaehendkbicepaaGreatA10
set_option linter.unusedVariables false
set_option linter.unusedSimpArgs false
namespace Go.Lg
variable {P : Program} {H H2 : LH} {e e2 : Env} {al al2 : Option Nat} {pr : List Nat} {dst : Option Nat} {op : Op} {r : LRes}

inductive Cl
  | P | R | A | E
  deriving DecidableEq

def cls (pr : List Nat) (dst : Option Nat) : Op → Cl
  | .move _ | .assign _ | .pick _ _ _ | .build _ _ | .binOp _ _ _ _ _ | .unOp _ _ _ | .convert _ _ _ | .makeFunc _ _ _ | .fieldAddr _ _ _ | .field _ _ _ | .indexAddr _ _ _ | .index _ _ _ | .extract _ _ | .nilCheck _ => .P
  | .alloc _ | .box _ _ | .buildSlice _ _ _ | .makeSlice _ _ _ | .makeMap _ _ => .A
  | .load _ _ | .lookup _ _ _ _ | .slice _ _ _ _ _ => .R
  | .call c => match c.callee with
    | .builtin b => match b with
      | .len => .R
      | .max | .min | .cap => .P
      | _ => .E
    | _ => .E
  | _ => .E

def LRes.withH : LRes → LH → LRes
  | .val v _, H => .val v H
  | .ref s i, _ => .ref s i
  | .box cs, _ => .box cs
  | .skip b _, H => .skip b H

/-- Two slots that look alike. -/
def Lk : EV → EV → Prop
  | .none, .none => True
  | .val v, .val u => v = u
  | .box _ _, .box _ _ => True
  | .ref s i, .ref s' i' => s = s' ∧ i = i'
  | _, _ => False

theorem Lk.refl (x : EV) : Lk x x := by cases x <;> simp [Lk]

def LkOn (xs : List Operand) (e e2 : Env) : Prop := ∀ t, .tmp t ∈ xs → Lk (e t) (e2 t)

theorem opd_lk {x : Operand} (h : LkOn [x] e e2) : opd e2 x = opd e x := by
  cases x with
  | tmp t =>
    have := h t (by simp)
    simp only [opd]
    cases h1 : e t <;> cases h2 : e2 t <;> rw [h1, h2] at this <;> simp [Lk] at this <;> simp [this]
  | _ => rfl

theorem addrOf_lk {x : Operand} (h : LkOn [x] e e2) : addrOf e2 x = addrOf e x := by
  cases x with
  | tmp t =>
    have := h t (by simp)
    simp only [addrOf]
    cases h1 : e t <;> cases h2 : e2 t <;> rw [h1, h2] at this <;> simp [Lk] at this <;> simp [this]
  | _ => rfl

theorem LkOn.sub {xs ys : List Operand} (h : LkOn xs e e2) (hs : ∀ x ∈ ys, x ∈ xs) : LkOn ys e e2 := fun t ht => h t (hs _ ht)

theorem opds_lk : ∀ {xs : List Operand}, LkOn xs e e2 → opds e2 xs = opds e xs
  | [], _ => rfl
  | x :: xs, h => by
    simp only [opds]
    rw [opd_lk (h.sub (ys := [x]) (by simp)), opds_lk (h.sub (ys := xs) (by simp +contextual))]

theorem partsV_lk : ∀ {xs : List (Nat × Operand)}, LkOn (xs.map (·.2)) e e2 → partsV e2 xs = partsV e xs
  | [], _ => rfl
  | (i, x) :: xs, h => by
    simp only [partsV]
    rw [opd_lk (h.sub (ys := [x]) (by simp)), partsV_lk (h.sub (ys := xs.map (·.2)) (by simp +contextual))]

theorem bnd_lk {b : Option Operand} (h : LkOn b.toList e e2) : bnd e2 b = bnd e b := by
  cases b with
  | none => rfl
  | some q => simp only [bnd]; rw [opd_lk (by simpa using h)]

theorem cVal_eq {x : Option Value} (h : cVal H x = some r) : r.withH H = r ∧ ∀ H2, cVal H2 x = some (r.withH H2) := by
  cases x with
  | none => simp [cVal] at h
  | some v => simp [cVal] at h; subst h; exact ⟨rfl, fun _ => rfl⟩

theorem cAddr_eq {l : AL} {k : Nat} (h : cAddr H l k = some r) : r.withH H = r ∧ ∀ H2, cAddr H2 l k = some (r.withH H2) := by
  cases l with
  | heap b i => exact cVal_eq (x := some (.pointer (some ⟨b, i + k, none⟩))) h
  | box s i => simp [cAddr] at h; subst h; exact ⟨rfl, fun _ => rfl⟩

theorem lop_P (hc : cls pr dst op = .P) (hk : LkOn op.operands.toList e e2) (h : lopC P pr al dst op e H = some r) : r.withH H = r ∧ ∀ al2 H2, lopC P pr al2 dst op e2 H2 = some (r.withH H2) := by
  have o1 : ∀ x, x ∈ op.operands.toList → opd e2 x = opd e x := fun x hx => opd_lk (hk.sub (by simpa using hx))
  have a1 : ∀ x, x ∈ op.operands.toList → addrOf e2 x = addrOf e x := fun x hx => addrOf_lk (hk.sub (by simpa using hx))
  cases op <;> simp only [cls] at hc <;> try (cases hc; done)
  case move x => simp only [lopC] at h ⊢; rw [o1 x (by simp [Op.operands])]; exact ⟨(cVal_eq h).1, fun _ => (cVal_eq h).2⟩
  case assign x => simp only [lopC] at h ⊢; rw [o1 x (by simp [Op.operands])]; exact ⟨(cVal_eq h).1, fun _ => (cVal_eq h).2⟩
  case pick c x y =>
    simp only [lopC] at h ⊢; rw [o1 c (by simp [Op.operands]), o1 x (by simp [Op.operands]), o1 y (by simp [Op.operands])]
    split at h
    · exact ⟨(cVal_eq h).1, fun _ => (cVal_eq h).2⟩
    · cases h
  case build t ps =>
    simp only [lopC] at h ⊢; rw [partsV_lk (e := e) (e2 := e2) (by simpa [Op.operands] using hk)]
    split at h
    · exact ⟨(cVal_eq h).1, fun _ => (cVal_eq h).2⟩
    · cases h
  case nilCheck x =>
    simp only [lopC] at h ⊢
    split at h
    · rename_i t
      have ht := hk t (by simp [Op.operands])
      split at h
      · rename_i p hp
        cases h2 : e2 t <;> rw [hp, h2] at ht <;> simp only [Lk] at ht
        subst ht; exact ⟨(cVal_eq h).1, fun _ => (cVal_eq h).2⟩
      · rename_i p q s hp
        cases h2 : e2 t <;> rw [hp, h2] at ht <;> simp only [Lk] at ht
        subst ht; exact ⟨(cVal_eq h).1, fun _ => (cVal_eq h).2⟩
      · rename_i p q hp
        cases h2 : e2 t <;> rw [hp, h2] at ht <;> simp only [Lk] at ht
        cases h; exact ⟨rfl, fun _ _ => rfl⟩
      · rename_i p q hp
        cases h2 : e2 t <;> rw [hp, h2] at ht <;> simp only [Lk] at ht
        obtain ⟨rfl, rfl⟩ := ht
        cases h; exact ⟨rfl, fun _ _ => rfl⟩
      · cases h
    · cases h
  case binOp b t x y yt =>
    simp only [lopC] at h ⊢; rw [o1 x (by simp [Op.operands]), o1 y (by simp [Op.operands])]
    split at h
    · exact ⟨(cVal_eq h).1, fun _ => (cVal_eq h).2⟩
    · cases h
  case unOp u t x =>
    simp only [lopC] at h ⊢; rw [o1 x (by simp [Op.operands])]
    split at h
    · exact ⟨(cVal_eq h).1, fun _ => (cVal_eq h).2⟩
    · cases h
  case convert s d x =>
    simp only [lopC] at h ⊢; rw [o1 x (by simp [Op.operands])]
    split at h
    · exact ⟨(cVal_eq h).1, fun _ => (cVal_eq h).2⟩
    · cases h
  case makeFunc fn f c =>
    simp only [lopC] at h ⊢
    rw [opds_lk (e := e) (e2 := e2) (hk.sub (ys := f.toList) (by simp +contextual [Op.operands])), opds_lk (e := e) (e2 := e2) (hk.sub (ys := c.toList) (by simp +contextual [Op.operands]))]
    split at h
    · exact ⟨(cVal_eq h).1, fun _ => (cVal_eq h).2⟩
    · cases h
  case fieldAddr t x f =>
    simp only [lopC] at h ⊢; rw [a1 x (by simp [Op.operands])]
    split at h
    · split at h
      · split at h
        · exact ⟨(cAddr_eq h).1, fun _ => (cAddr_eq h).2⟩
        · cases h
      · cases h
    · cases h
  case field t x f =>
    simp only [lopC] at h ⊢; rw [o1 x (by simp [Op.operands])]
    split at h
    · split at h
      · exact ⟨(cVal_eq h).1, fun _ => (cVal_eq h).2⟩
      · cases h
    · cases h
  case indexAddr t x ix =>
    simp only [lopC] at h ⊢; rw [a1 x (by simp [Op.operands]), o1 x (by simp [Op.operands]), o1 ix (by simp [Op.operands])]
    split at h
    · split at h
      · split at h
        · rename_i hcond; simp only [if_pos hcond]; exact ⟨(cVal_eq h).1, fun _ => (cVal_eq h).2⟩
        · cases h
      · cases h
    · split at h
      · split at h
        · rename_i hcond; simp only [if_pos hcond]; exact ⟨(cAddr_eq h).1, fun _ => (cAddr_eq h).2⟩
        · cases h
      · cases h
    · cases h
  case index t x ix =>
    simp only [lopC] at h ⊢; rw [o1 x (by simp [Op.operands]), o1 ix (by simp [Op.operands])]
    split at h
    · split at h
      · split at h
        · rename_i hcond; simp only [if_pos hcond]; exact ⟨(cVal_eq h).1, fun _ => (cVal_eq h).2⟩
        · cases h
      · cases h
    · split at h
      · rename_i hcond
        simp only [if_pos hcond]
        split at h
        · exact ⟨(cVal_eq h).1, fun _ => (cVal_eq h).2⟩
        · cases h
      · cases h
    · cases h
  case extract x i =>
    simp only [lopC] at h ⊢; rw [o1 x (by simp [Op.operands])]
    split at h
    · exact ⟨(cVal_eq h).1, fun _ => (cVal_eq h).2⟩
    · cases h
  case call c =>
    obtain ⟨callee, args, argTypes⟩ := c
    cases callee <;> simp only at hc <;> try (cases hc; done)
    rename_i b
    have hargs : opds e2 args.toList = opds e args.toList := opds_lk (hk.sub (by simp +contextual [Op.operands, Call.operands]))
    cases b <;> simp only at hc <;> try (cases hc; done)
    all_goals
      simp only [lopC] at h ⊢
      rw [hargs]
      split at h
      · exact ⟨(cVal_eq h).1, fun _ => (cVal_eq h).2⟩
      · cases h

def EqOn (xs : List Operand) (e e2 : Env) : Prop := ∀ t, .tmp t ∈ xs → e2 t = e t
def BxOn (e e2 : Env) : Prop := ∀ t f cs, e t = .box f cs → e2 t = .box f cs

theorem EqOn.lk {xs : List Operand} (h : EqOn xs e e2) : LkOn xs e e2 := fun t ht => by rw [h t ht]; exact Lk.refl _

theorem rdCells_bx {l : AL} (hb : BxOn e e2) {x : List Value × Nat} (h : rdCells e H l = some x) : rdCells e2 H l = some x := by
  cases l with
  | heap b i => exact h
  | box s i =>
    simp only [rdCells] at h ⊢
    split at h
    · rename_i f cs he; rw [hb _ _ _ he]; exact h
    · cases h

theorem wrC_bx {l : AL} (hb : BxOn e e2) {vs : List Value} (h : wrC e H vs l = some r) : wrC e2 H vs l = some r := by
  cases l with
  | heap b i => exact h
  | box s i =>
    simp only [wrC] at h ⊢
    split at h
    · rename_i cs he; rw [hb _ _ _ he]; exact h
    · cases h

theorem look_fresh {b id : Nat} {o : LObj} {x : LObj} (hid : H.get id = none) (h : H.get b = some x) : (H.put id (some o)).get b = some x := by
  have : b ≠ id := fun e => by rw [e, hid] at h; cases h
  simp [LH.put, this, h]

theorem rdCells_fresh {id : Nat} {o : LObj} (hid : H.get id = none) {l : AL} {x : List Value × Nat} (h : rdCells e H l = some x) : rdCells e (H.put id (some o)) l = some x := by
  cases l with
  | heap b i =>
    simp only [rdCells] at h ⊢
    split at h
    · rename_i cs sz ro hg; rw [look_fresh hid hg]; exact h
    · cases h
  | box s i => exact h

theorem sliceV_fresh {id : Nat} {o : LObj} (hid : H.get id = none) {s : Nat} {v : Value} {lo hi mx : Option Value} {x : Value} (h : sliceV H s v lo hi mx = some x) : sliceV (H.put id (some o)) s v lo hi mx = some x := by
  unfold sliceV at h ⊢
  simp only [] at h ⊢
  split at h
  · exact h
  · split at h
    · rename_i cs sz ro hg
      rw [look_fresh hid hg]; exact h
    · cases h
  · exact h
  · cases h

theorem lookV_fresh {id : Nat} {o : LObj} (hid : H.get id = none) {t : TypeId} {m k : Value} {ok : Bool} {x : Value} (h : lookV P H t m k ok = some x) : lookV P (H.put id (some o)) t m k ok = some x := by
  unfold lookV at h ⊢
  split at h
  · split at h
    · rename_i kt et hu hk
      rw [if_pos hk]
      cases m
      case map r =>
        cases r with
        | none => exact h
        | some r =>
          simp only at h ⊢
          cases hg : H.get r with
          | none => rw [hg] at h; simp at h
          | some q => rw [hg] at h; rw [look_fresh hid hg]; exact h
      all_goals exact h
    · cases h
  · cases h

theorem lenV_fresh {id : Nat} {o : LObj} (hid : H.get id = none) {t : TypeId} {v x : Value} (h : lenV P H t v = some x) : lenV P (H.put id (some o)) t v = some x := by
  cases v
  case map r =>
    cases r with
    | none => exact h
    | some r =>
      simp only [lenV] at h ⊢
      cases hg : H.get r with
      | none =>
        rw [hg] at h
        split at h
        · rename_i h1; cases h1
        · cases h
      | some q => rw [hg] at h; rw [look_fresh hid hg]; exact h
  case slice a l c =>
    cases a with
    | none => cases l <;> cases c <;> exact h
    | some a => exact h
  all_goals exact h

theorem slCells_fresh {id : Nat} {o : LObj} (hid : H.get id = none) {s : Nat} {v : Value} {x : List Value} (h : slCells H s v = some x) : slCells (H.put id (some o)) s v = some x := by
  unfold slCells at h ⊢
  split at h
  · exact h
  · split at h
    · rename_i cs sz ro hg; rw [look_fresh hid hg]; exact h
    · cases h
  · cases h

/-- An operation that only reads. -/
theorem lop_R (hc : cls pr dst op = .R) (h : lopC P pr al dst op e H = some r) : r.withH H = r ∧ (∀ al2, lopC P pr al2 dst op e H = some r) ∧
    (∀ id o, H.get id = none → lopC P pr al dst op e (H.put id (some o)) = some (r.withH (H.put id (some o)))) ∧ (∀ e2, EqOn op.operands.toList e e2 → BxOn e e2 → lopC P pr al dst op e2 H = some r) := by
  cases op <;> simp only [cls] at hc <;> try (first | (cases hc; done) | (split at hc <;> first | (cases hc; done) | (split at hc <;> cases hc; done)))
  case load t x =>
    have h0 := h
    simp only [lopC] at h ⊢
    split at h
    · rename_i l hx
      split at h
      · rename_i cs i hr
        refine ⟨(cVal_eq h).1, fun _ => h, fun id o hid => ?_, fun e2 h1 h2 => ?_⟩
        · rw [rdCells_fresh hid hr]; exact (cVal_eq h).2 _
        · rw [addrOf_lk (e := e) (e2 := e2) (h1.lk.sub (ys := [x]) (by simp [Op.operands])), hx]
          simp only []
          rw [rdCells_bx h2 hr]; exact h
      · cases h
    · cases h
  case slice t x lo hi mx =>
    simp only [lopC] at h ⊢
    split at h
    · rename_i v l h' m hx h1 h2 h3
      have key : ∀ e2, EqOn (Op.slice t x lo hi mx).operands.toList e e2 → opd e2 x = some v ∧ bnd e2 lo = some l ∧ bnd e2 hi = some h' ∧ bnd e2 mx = some m := by
        intro e2 h4
        have k := h4.lk
        refine ⟨by rw [opd_lk (e := e) (k.sub (by simp [Op.operands]))]; exact hx, by rw [bnd_lk (e := e) (k.sub (by simp +contextual [Op.operands]))]; exact h1, by rw [bnd_lk (e := e) (k.sub (by simp +contextual [Op.operands]))]; exact h2, by rw [bnd_lk (e := e) (k.sub (by simp +contextual [Op.operands]))]; exact h3⟩
      split at h
      · rename_i elem hu
        split at h
        · rename_i s hs
          split at h
          · rename_i p q c
            refine ⟨(cVal_eq h).1, fun _ => h, fun id o hid => ?_, fun e2 h4 h5 => ?_⟩
            · cases hv : sliceV H s (.slice p q c) l h' m with
              | none => rw [hv] at h; simp [cVal] at h
              | some y => rw [hv] at h; rw [sliceV_fresh hid hv]; exact (cVal_eq h).2 _
            · obtain ⟨k1, k2, k3, k4⟩ := key e2 h4
              rw [k1, k2, k3, k4]; exact h
          · cases h
        · cases h
      · rename_i hu
        split at h
        · rename_i bs
          refine ⟨(cVal_eq h).1, fun _ => h, fun id o hid => ?_, fun e2 h4 h5 => ?_⟩
          · cases hv : sliceV H 0 (.string bs) l h' m with
            | none => rw [hv] at h; simp [cVal] at h
            | some y => rw [hv] at h; rw [sliceV_fresh hid hv]; exact (cVal_eq h).2 _
          · obtain ⟨k1, k2, k3, k4⟩ := key e2 h4
            rw [k1, k2, k3, k4]; exact h
        · cases h
      · cases h
    · cases h
  case lookup t m k ok =>
    simp only [lopC] at h ⊢
    split at h
    · rename_i p q hp hq
      refine ⟨(cVal_eq h).1, fun _ => h, fun id o hid => ?_, fun e2 h1 h2 => ?_⟩
      · cases hv : lookV P H t p q ok with
        | none => rw [hv] at h; simp [cVal] at h
        | some y => rw [hv] at h; rw [lookV_fresh hid hv]; exact (cVal_eq h).2 _
      · rw [opd_lk (e := e) (h1.lk.sub (ys := [m]) (by simp [Op.operands])), opd_lk (e := e) (h1.lk.sub (ys := [k]) (by simp [Op.operands])), hp, hq]; exact h
    · cases h
  case call c =>
    obtain ⟨callee, args, argTypes⟩ := c
    cases callee <;> simp only at hc <;> try (cases hc; done)
    rename_i b
    cases b <;> simp only at hc <;> try (cases hc; done)
    simp only [lopC] at h ⊢
    split at h
    · rename_i v t hv ht
      refine ⟨(cVal_eq h).1, fun _ => h, fun id o hid => ?_, fun e2 h1 h2 => ?_⟩
      · cases hl : lenV P H t v with
        | none => rw [hl] at h; simp [cVal] at h
        | some y => rw [hl] at h; rw [lenV_fresh hid hl]; exact (cVal_eq h).2 _
      · rw [opds_lk (e := e) (h1.lk.sub (ys := args.toList) (by simp +contextual [Op.operands, Call.operands])), hv, ht]; exact h
    · cases h

def LRes.mapH : LRes → (LH → LH) → LRes
  | .val v H, f => .val v (f H)
  | .ref s i, _ => .ref s i
  | .box cs, _ => .box cs
  | .skip b H, f => .skip b (f H)

/-- What an operation that makes one thing leaves: a box, or an object at a number that was kept back. -/
def mkA (a : Nat) (q : List Value ⊕ (Value × LObj)) (H : LH) : LRes :=
  match q with
  | .inl cs => .box cs
  | .inr (v, o) => .val v (H.put a (some o))

theorem lop_A (hc : cls pr dst op = .A) {a : Nat} (h : lopC P pr (some a) dst op e H = some r) : ∃ q, r = mkA a q H ∧ ∀ e2 H2, LkOn op.operands.toList e e2 → lopC P pr (some a) dst op e2 H2 = some (mkA a q H2) := by
  have o1 : ∀ e2, LkOn op.operands.toList e e2 → ∀ x, x ∈ op.operands.toList → opd e2 x = opd e x := fun e2 hk x hx => opd_lk (hk.sub (by simpa using hx))
  have fr : ∀ cs, cFresh pr (some a) H dst cs = some r → ∃ q, r = mkA a q H ∧ ∀ H2, cFresh pr (some a) H2 dst cs = some (mkA a q H2) := by
    intro cs h
    unfold cFresh at h ⊢
    split at h
    · split at h
      · rename_i hcell
        split at h
        · rename_i hp; cases h; exact ⟨.inl cs, rfl, fun H2 => by rw [if_pos hcell, if_pos hp]; rfl⟩
        · rename_i hp; cases h; exact ⟨.inr (_, _), rfl, fun H2 => by rw [if_pos hcell, if_neg hp]; rfl⟩
      · cases h
    · cases h
  cases op <;> simp only [cls] at hc <;> try (first | (cases hc; done) | (split at hc <;> first | (cases hc; done) | (split at hc <;> cases hc; done)))
  case alloc t =>
    simp only [lopC] at h ⊢
    split at h
    · rename_i z hz
      obtain ⟨q, h1, h2⟩ := fr _ h
      exact ⟨q, h1, fun e2 H2 _ => h2 H2⟩
    · cases h
  case box t x =>
    simp only [lopC] at h ⊢
    split at h
    · rename_i z hz
      obtain ⟨q, h1, h2⟩ := fr _ h
      exact ⟨q, h1, fun e2 H2 hk => by rw [o1 e2 hk x (by simp [Op.operands]), hz]; exact h2 H2⟩
    · cases h
  case buildSlice t len ps =>
    simp only [lopC] at h ⊢
    split at h
    · rename_i elem qs hu hq
      split at h
      · rename_i s z hs hz
        split at h
        · rename_i hcond
          split at h
          · rename_i cs hf
            unfold cRow at h ⊢
            split at h
            · rename_i hcell; cases h
              refine ⟨.inr (_, _), rfl, fun e2 H2 hk => ?_⟩
              rw [partsV_lk (e := e) (e2 := e2) (by simpa [Op.operands] using hk), hq, hu]
              simp only [hs, hz, if_pos hcond, hf]
              rw [if_pos hcell]; rfl
            · cases h
          · cases h
        · cases h
      · cases h
    · cases h
  case makeMap t rs =>
    cases rs with
    | some x => simp [lopC] at h
    | none => simp only [lopC] at h ⊢; cases h; exact ⟨.inr (_, _), rfl, fun _ _ _ => rfl⟩
  case makeSlice t l c =>
    simp only [lopC] at h ⊢
    split at h
    · rename_i elem k1 x k2 y hu hx hy
      split at h
      · rename_i s z b hs hz hb
        split at h
        · rename_i hcond
          unfold cRow at h ⊢
          split at h
          · rename_i hcell; cases h
            refine ⟨.inr (_, _), rfl, fun e2 H2 hk => ?_⟩
            rw [o1 e2 hk l (by simp [Op.operands]), o1 e2 hk c (by simp [Op.operands]), hx, hy, hu]
            simp only [hs, hz, hb]
            rw [if_pos hcond, if_pos hcell]; rfl
          · cases h
        · cases h
      · cases h
    · cases h

theorem put_comm (H : LH) {a b : Nat} (h : a ≠ b) (x y : Option LObj) : (H.put a x).put b y = (H.put b y).put a x := by
  simp only [LH.put]
  congr 1
  funext z
  by_cases h1 : z = a
  · subst h1; simp [h]
  · by_cases h2 : z = b
    · subst h2; simp [h1]
    · simp [h1, h2]

theorem live_ne {b id : Nat} {x : LObj} (hid : H.get id = none) (h : H.get b = some x) : b ≠ id := fun e => by rw [e, hid] at h; cases h

/-- An operation that writes, in a heap with one object more. -/
theorem lop_E (hc : cls pr dst op = .E) {a id : Nat} (hai : a ≠ id) (hid : H.get id = none) (o : LObj) (h : lopC P pr (some a) dst op e H = some r) :
    lopC P pr (some a) dst op e (H.put id (some o)) = some (r.mapH fun H' => H'.put id (some o)) := by
  cases op <;> simp only [cls] at hc <;> try (first | (cases hc; done) | (split at hc <;> first | (cases hc; done) | (split at hc <;> cases hc; done)))
  all_goals try (simp [lopC] at h; done)
  case store t x y =>
    simp only [lopC] at h ⊢
    split at h
    · rename_i l v hx hv
      split at h
      · rename_i hcond
        rw [if_pos hcond]
        cases l with
        | heap b i =>
          simp only [wrC] at h ⊢
          split at h
          · rename_i cs sz hg
            split at h
            · rename_i hle; cases h
              rw [look_fresh hid hg]
              simp only []
              rw [if_pos hle]
              simp only [LRes.mapH]
              rw [put_comm _ (live_ne hid hg)]
            · cases h
          · cases h
        | box s i =>
          simp only [wrC] at h ⊢
          split at h
          · split at h
            · rename_i hle; cases h; rw [if_pos hle]; rfl
            · cases h
          · cases h
      · cases h
    · cases h
  case mapUpdate t m k x =>
    simp only [lopC] at h ⊢
    split at h
    · rename_i p q u hp hq hu
      split at h
      · rename_i H' hupd; cases h
        unfold updV at hupd ⊢
        split at hupd
        · rename_i kt et r hut
          split at hupd
          · rename_i hk
            split at hupd
            · rename_i es hg
              cases hm : mapPut es q u with
              | none => simp [hm] at hupd
              | some es' =>
                simp [hm] at hupd; subst hupd
                rw [if_pos hk, look_fresh hid hg]
                simp only [hm, Option.map_some, LRes.mapH]
                rw [put_comm _ (live_ne hid hg)]
            · cases hupd
          · cases hupd
        · cases hupd
      · cases h
    · cases h
  case call c =>
    obtain ⟨callee, args, argTypes⟩ := c
    cases callee <;> simp only [lopC] at h ⊢ <;> try (cases h; done)
    rename_i b
    cases b <;> simp only at hc h ⊢ <;> try (first | (cases hc; done) | (cases h; done))
    case append =>
      split at h
      · rename_i x y t t2 hv ht ht2
        split at h
        · rename_i elem e2 hu hu2
          split at h
          · rename_i s by_ z hs hb hz
            split at h
            · rename_i hcond
              rw [if_pos hcond]
              split at h
              · rename_i v H' hap; cases h
                unfold appV at hap ⊢
                split at hap
                · rename_i k m old new hk hm ho hn
                  rw [slCells_fresh hid ho, slCells_fresh hid hn]
                  simp only [hk, hm]
                  split at hap
                  · rename_i hm0; cases hap; rw [if_pos hm0]; rfl
                  · rename_i hm0
                    rw [if_neg hm0]
                    split at hap
                    · rename_i hsz
                      rw [if_pos hsz]
                      split at hap
                      · rename_i b' off' n' c'
                        split at hap
                        · rename_i hct; cases hap; rw [if_pos hct]
                          simp only [LRes.mapH, LH.alloc, Option.getD_some]
                          rw [put_comm _ hai]
                        · rename_i hct
                          rw [if_neg hct]
                          split at hap
                          · rename_i cs sz hgb; cases hap
                            rw [look_fresh hid hgb]
                            simp only [LRes.mapH, LH.alloc, Option.getD_some]
                            rw [put_comm _ hai, put_comm _ (live_ne hid hgb)]
                          · cases hap
                      · cases hap
                        simp only [LRes.mapH, LH.alloc, Option.getD_some]
                        rw [put_comm _ hai]
                    · cases hap
                · cases hap
              · cases h
            · cases h
          · cases h
        · cases h
      · cases h
    case copy =>
      split at h
      · rename_i x y t hv ht
        split at h
        · rename_i elem hu
          split at h
          · rename_i s hs
            split at h
            · rename_i v H' hap; cases h
              unfold copyV at hap ⊢
              split at hap
              · rename_i k m new hk hm hn
                rw [slCells_fresh hid hn]
                simp only [hk, hm]
                dsimp only at hap
                split at hap
                · rename_i h0; cases hap; rw [if_pos h0]; rfl
                · rename_i h0
                  rw [if_neg h0]
                  split at hap
                  · split at hap
                    · rename_i cs sz hg
                      split at hap
                      · rename_i hcc; cases hap
                        rw [look_fresh hid hg]
                        simp only []
                        rw [if_pos hcc]
                        simp only [LRes.mapH]
                        rw [put_comm _ (live_ne hid hg)]
                      · cases hap
                    · cases hap
                  · cases hap
              · cases hap
            · cases h
          · cases h
        · cases h
      · cases h

/-- An operation that writes hangs on its operands and on the boxes. -/
theorem lop_Eloc (hc : cls pr dst op = .E) (h : lopC P pr al dst op e H = some r) (h1 : EqOn op.operands.toList e e2) (h2 : BxOn e e2) : lopC P pr al dst op e2 H = some r := by
  have o1 : ∀ x, x ∈ op.operands.toList → opd e2 x = opd e x := fun x hx => opd_lk (h1.lk.sub (by simpa using hx))
  cases op <;> simp only [cls] at hc <;> try (first | (cases hc; done) | (split at hc <;> first | (cases hc; done) | (split at hc <;> cases hc; done)))
  all_goals try (simp [lopC] at h; done)
  case store t x y =>
    simp only [lopC] at h ⊢
    rw [addrOf_lk (e := e) (e2 := e2) (h1.lk.sub (ys := [x]) (by simp [Op.operands])), o1 y (by simp [Op.operands])]
    split at h
    · split at h
      · rename_i hcond; simp only [if_pos hcond]; exact wrC_bx h2 h
      · cases h
    · cases h
  case mapUpdate t m k x =>
    simp only [lopC] at h ⊢
    rw [o1 m (by simp [Op.operands]), o1 k (by simp [Op.operands]), o1 x (by simp [Op.operands])]; exact h
  case call c =>
    obtain ⟨callee, args, argTypes⟩ := c
    have hargs : opds e2 args.toList = opds e args.toList := opds_lk (h1.lk.sub (by simp +contextual [Op.operands, Call.operands]))
    cases callee <;> simp only [lopC] at h ⊢ <;> try (cases h; done)
    rename_i b
    cases b <;> simp only at h ⊢ <;> first | (cases h; done) | (rw [hargs]; exact h)

theorem lop_loc (h : lopC P pr al dst op e H = some r) (h1 : EqOn op.operands.toList e e2) (h2 : BxOn e e2) (ha : cls pr dst op = .A → al ≠ none) : lopC P pr al dst op e2 H = some r := by
  cases hc : cls pr dst op with
  | P => have := (lop_P hc h1.lk h).2 al H; rwa [(lop_P hc h1.lk h).1] at this
  | R => exact (lop_R hc h).2.2.2 e2 h1 h2
  | A =>
    cases al with
    | none => exact absurd rfl (ha hc)
    | some a => obtain ⟨q, rfl, g⟩ := lop_A hc h; exact g e2 H h1.lk
  | E => exact lop_Eloc hc h h1 h2

end Go.Lg
