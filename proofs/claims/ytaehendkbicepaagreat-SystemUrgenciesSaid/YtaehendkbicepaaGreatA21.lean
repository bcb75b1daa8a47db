/- The logical machine, part 21: code as what is asked. No condition. -/
import Derived.Test.YtaehendkbicepaaGreatA20
set_option linter.unusedVariables false
set_option linter.unusedSimpArgs false
namespace Go.Lg
variable {P : Program} {H H' H2 : LH} {n : Nat} {pr : List Nat} {ops : Array Oper} {l l' : EL}

/-- Code, from a list of slots. -/
structure XW (P : Program) (n : Nat) (pr : List Nat) (c : Code) (Q : Exit → EL → LH → Prop) (l : EL) (H : LH) : Prop where
  run : LW P n c (fun x e H => ∃ l, e = getL l ∧ Q x l H) (getL l) H

theorem XW.mono {c : Code} {Q Q' : Exit → EL → LH → Prop} (h : XW P n pr c Q l H) (hq : ∀ x l H, Q x l H → Q' x l H) : XW P n pr c Q' l H :=
  ⟨h.run.mono fun x e H ⟨l, he, hh⟩ => ⟨l, he, hq x l H hh⟩⟩

def XThen (K : EL → LH → Prop) (Q : Exit → EL → LH → Prop) : Exit → EL → LH → Prop
  | .normal, l, H => K l H
  | x, l, H => Q x l H

def XBlock (id : Nat) (Q : Exit → EL → LH → Prop) : Exit → EL → LH → Prop
  | .exit id', l, H => match Nat.beq id' id with
    | true => Q .normal l H
    | false => Q (.exit id') l H
  | x, l, H => Q x l H

theorem XW.skip {Q : Exit → EL → LH → Prop} (h : Q .normal l H) : XW P n pr .skip Q l H := ⟨LW.skip ⟨l, rfl, h⟩⟩
theorem XW.exit {id : Nat} {Q : Exit → EL → LH → Prop} (h : Q (.exit id) l H) : XW P n pr (.exit id) Q l H := ⟨LW.exit ⟨l, rfl, h⟩⟩
theorem XW.ret {Q : Exit → EL → LH → Prop} (h : Q .ret l H) : XW P n pr .ret Q l H := ⟨LW.ret ⟨l, rfl, h⟩⟩

theorem XW.seq {x y : Code} {Q : Exit → EL → LH → Prop} (h : XW P n pr x (XThen (XW P n pr y Q) Q) l H) : XW P n pr (.seq x y) Q l H :=
  ⟨LW.seq (h.run.mono fun x e H ⟨l, he, hh⟩ => by
    cases x <;> simp only [XThen, LThen] at hh ⊢
    case normal => subst he; exact hh.run
    all_goals exact ⟨l, he, hh⟩)⟩

theorem XW.block {id : Nat} {c : Code} {Q : Exit → EL → LH → Prop} (h : XW P n pr c (XBlock id Q) l H) : XW P n pr (.block id c) Q l H :=
  ⟨LW.block (h.run.mono fun x e H ⟨l, he, hh⟩ => by
    cases x with
    | exit i =>
      simp only [XBlock, LBlock, nbeq] at hh ⊢
      by_cases hi : i = id
      · rw [if_pos hi]; rw [decide_eq_true hi] at hh; exact ⟨l, he, hh⟩
      · rw [if_neg hi]; rw [decide_eq_false hi] at hh; exact ⟨l, he, hh⟩
    | normal => exact ⟨l, he, hh⟩
    | goto i => exact ⟨l, he, hh⟩
    | ret => exact ⟨l, he, hh⟩
    | panic i => exact ⟨l, he, hh⟩
    | outgrown => exact ⟨l, he, hh⟩)⟩

theorem XW.cond {c : Operand} {x y : Code} {Q : Exit → EL → LH → Prop} {b : Bool} (hv : opd (getL l) c = some (.bool b)) (h1 : b = true → XW P n pr x Q l H) (h2 : b = false → XW P n pr y Q l H) :
    XW P n pr (.cond c x y) Q l H := ⟨LW.xcond hv (fun h => (h1 h).run) (fun h => (h2 h).run)⟩

theorem XW.region {id : Nat} {Q : Exit → EL → LH → Prop} (h : xseq P n pr ops ops.toList (Q .normal) l H) : XW P n pr (.region id ops false) Q l H := by
  refine ⟨LW.region pr ?_⟩
  have := xseq_sound (K' := fun e H => ∃ l, e = getL l ∧ Q .normal l H) (fun l H h => ⟨l, rfl, h⟩) ops.toList 0 (fun j => by simp) h
  rw [List.range_eq_range']
  simpa using this

theorem XW.draw {id : Nat} {Q : Exit → EL → LH → Prop} (hm : P.follows .mixedOrders = true) (C : List DS) (hC : drawOk pr ops C = true)
    (h : ∀ H', H' = H.keep ops.size → xdrw P n pr ops H.next C (Q .normal) l H') : XW P n pr (.region id ops true) Q l H :=
  ⟨LW.draw hm pr C ⟨hC, xdrw_sound (K' := fun e H => ∃ l, e = getL l ∧ Q .normal l H) (fun l H h => ⟨l, rfl, h⟩) C (h _ rfl)⟩⟩

/-- A list that holds less. -/
def XSub (l : EL) : EL → Prop
  | [] => True
  | (k, v) :: r => getL l k = v ∧ XSub l r

theorem XSub.get : ∀ {l' : EL}, XSub l l' → ∀ t, getL l' t = .none ∨ getL l' t = getL l t
  | [], _, t => .inl rfl
  | (k, v) :: r, h, t => by
    simp only [getL, nbeq]
    by_cases hk : k = t
    · subst hk; simp only [decide_true]; exact .inr h.1.symm
    · simp only [hk, decide_false]; exact XSub.get h.2 t

/-- References keep their boxes. -/
def refsOk (l : EL) : EL → Bool
  | [] => true
  | (_, v) :: r => (match v with
    | .ref s _ => isBox (getL l s)
    | _ => true) && refsOk l r

theorem refsOk_spec : ∀ {r : EL}, refsOk l r = true → ∀ t s o, getL r t = .ref s o → isBox (getL l s) = true
  | [], _, t, s, o, h => by simp [getL] at h
  | (k, v) :: r, h, t, s, o, hg => by
    simp only [refsOk, Bool.and_eq_true] at h
    simp only [getL, nbeq] at hg
    by_cases hk : k = t
    · simp only [hk, decide_true] at hg; subst hg; exact h.1
    · simp only [hk, decide_false] at hg; exact refsOk_spec h.2 t s o hg

theorem XW.keep {c : Code} {Q : Exit → EL → LH → Prop} (l' : EL) (hs : XSub l l') (hr : refsOk l' l' = true) (h : XW P n pr c Q l' H) : XW P n pr c Q l H :=
  ⟨LW.sub (fun t => hs.get t) (fun t s o hh => refsOk_spec hr t s o hh) h.run⟩

/-- A state among a family of states. -/
structure XAt {σ : Type} (L : σ → EL) (I : σ → LH → Prop) (l : EL) (H : LH) : Prop where
  is : ∃ s, XSub l (L s) ∧ I s H

theorem XW.mid {σ : Type} (L : σ → EL) (I : σ → LH → Prop) (hr : ∀ s, refsOk (L s) (L s) = true) {x y : Code} {Q : Exit → EL → LH → Prop} (h : XW P n pr x (XThen (XAt L I) Q) l H)
    (hy : ∀ s H, I s H → XW P n pr y Q (L s) H) : XW P n pr (.seq x y) Q l H :=
  XW.seq (h.mono fun x l H hx => by
    cases x <;> simp only [XThen] at hx ⊢
    case normal => obtain ⟨s, hs, hi⟩ := hx.is; exact XW.keep _ hs (hr s) (hy s H hi)
    all_goals exact hx)

/-- The next round of a loop. -/
structure XNext {σ : Type} (L : σ → EL) (I : σ → LH → Prop) (μ : σ → Nat) (s : σ) (l : EL) (H : LH) : Prop where
  is : ∃ s', XSub l (L s') ∧ I s' H ∧ μ s' < μ s

theorem XW.loop {σ : Type} (L : σ → EL) (I : σ → LH → Prop) (μ : σ → Nat) (hr : ∀ s, refsOk (L s) (L s) = true) {c : Code} {Q : Exit → EL → LH → Prop} (s0 : σ) (h0 : XSub l (L s0)) (hi : I s0 H)
    (round : ∀ s H, I s H → XW P n pr c (XThen (XNext L I μ s) Q) (L s) H) : XW P n pr (.loop c) Q l H := by
  refine XW.keep _ h0 (hr s0) ⟨LW.loop (fun m e H => ∃ s l, e = getL l ∧ (l = L s ∨ XSub l (L s)) ∧ I s H ∧ m = μ s) (m := μ s0) ⟨s0, L s0, rfl, .inl rfl, hi, rfl⟩ ?_⟩
  rintro m e H ⟨s, l, rfl, hs, hI, rfl⟩
  have : XW P n pr c (XThen (XNext L I μ s) Q) l H := by
    rcases hs with rfl | hs
    · exact round s H hI
    · exact XW.keep _ hs (hr s) (round s H hI)
  exact this.run.mono fun x e H ⟨l, he, hh⟩ => by
    subst he
    cases x <;> simp only [XThen, LThen] at hh ⊢
    case normal => obtain ⟨s', k1, k2, k3⟩ := hh.is; exact ⟨μ s', k3, s', l, rfl, .inr k1, k2, rfl⟩
    all_goals exact ⟨l, rfl, hh⟩

/-! ### functions -/
structure XDone (R : Value → LH → Prop) (v : Value) (H : LH) : Prop where
  is : R v H

def XRet (P : Program) (fn : Func) (R : Value → LH → Prop) : Exit → EL → LH → Prop
  | .normal, l, H => om (resVs P (getL l) fn.results.toList) fun vs => XDone R (resOne vs) H
  | .ret, l, H => om (resVs P (getL l) fn.results.toList) fun vs => XDone R (resOne vs) H
  | _, _, _ => False

def argL : Nat → List Value → EL
  | _, [] => []
  | i, v :: r => (i, .val v) :: argL (i + 1) r

theorem getL_arg : ∀ (args : List Value) (i t : Nat), getL (argL i args) t = (if t < i then .none else (match args[t - i]? with
  | some v => .val v
  | none => .none))
  | [], i, t => by simp [argL, getL]
  | v :: r, i, t => by
    simp only [argL, getL, nbeq, getL_arg r]
    by_cases h : i = t
    · subst h; simp
    · simp only [h, decide_false]
      by_cases h2 : t < i
      · rw [if_pos (by omega), if_pos h2]
      · rw [if_neg (by omega), if_neg h2, show t - i = (t - (i + 1)) + 1 by omega, List.getElem?_cons_succ]

theorem XW.call {f : FuncId} {fn : Func} {c : Code} {args : List Value} {R : Value → LH → Prop} (pr : List Nat) (hf : P.funcs[f]? = some fn) (hb : fn.body = some c) (hsz : Nat.ble args.length fn.ntmps = true)
    (h : XW P fn.ntmps pr c (XRet P fn R) (argL 0 args) H) : Call P f args H R := by
  refine call_of_LW hf hb (by simpa using hsz) ?_
  have he : argE args = getL (argL 0 args) := by
    funext t; rw [getL_arg]; simp only [argE, Nat.not_lt_zero, if_false, Nat.sub_zero]; cases args[t]? <;> rfl
  rw [he]
  refine h.run.mono fun x e H ⟨l, he, hh⟩ => ?_
  subst he
  cases x <;> simp only [XRet, LRet] at hh ⊢ <;> try exact hh
  all_goals
    obtain ⟨vs, h1, h2⟩ := om_spec hh
    exact ⟨vs, h1, h2.is⟩

/-- A call whose law is known. -/
theorem XCall.of {f : FuncId} {args : List Value} {R R' : Value → LH → Prop} (h : Call P f args H R) (hk : ∀ v H', R v H' → H.next ≤ H'.next → (∀ b, b < H.next → H.get b = none → H'.get b = none) → R' v H') : XCall P f args H R' :=
  ⟨h.mono fun v H' a b c => hk v H' c a b⟩

end Go.Lg
