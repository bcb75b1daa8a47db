/- The logical machine, part 20: regions as what is asked, one thing after another. No condition. -/
import Derived.Test.YtaehendkbicepaaGreatA19
set_option linter.unusedVariables false
set_option linter.unusedSimpArgs false
namespace Go.Lg
variable {P : Program} {φ0 φ : Phi} {H0 H H' H2 : LH} {w0 w w' : World} {e e' e2 : Env} {tmps : Array Value} {n base : Nat} {al : Option Nat} {pr : List Nat} {ops : Array Oper}

abbrev EL := List (Nat × EV)

def getL : EL → Nat → EV
  | [], _ => .none
  | (k, v) :: r, t => match Nat.beq k t with
    | true => v
    | false => getL r t

def setL : EL → Nat → EV → EL
  | [], d, x => [(d, x)]
  | (k, v) :: r, d, x => match Nat.beq k d with
    | true => (d, x) :: r
    | false => (k, v) :: setL r d x

theorem nbeq (a b : Nat) : Nat.beq a b = decide (a = b) := by
  by_cases h : a = b
  · subst h; simp
  · rw [decide_eq_false h]
    cases hh : Nat.beq a b with
    | false => rfl
    | true => exact absurd (Nat.eq_of_beq_eq_true hh) h

theorem getL_set (d : Nat) (x : EV) : ∀ (l : EL), getL (setL l d x) = upd (getL l) d x
  | [] => by
    funext t
    simp only [setL, getL, nbeq, upd]
    by_cases h : d = t
    · simp [h]
    · simp [h, Ne.symm h]
  | (k, v) :: r => by
    funext t
    have ih := congrFun (getL_set d x r) t
    simp only [setL, nbeq]
    by_cases hk : k = d
    · subst hk
      simp only [decide_true, getL, nbeq, upd]
      by_cases h : k = t
      · simp [h]
      · simp [h, Ne.symm h]
    · simp only [hk, decide_false, getL, nbeq, upd]
      by_cases h : k = t
      · subst h; simp [hk]
      · simp only [h, decide_false, ih, upd]

def putL (l : EL) : Option Nat → EV → EL
  | none, _ => l
  | some d, x => setL l d x

theorem getL_put (l : EL) (dst : Option Nat) (x : EV) : getL (putL l dst x) = putE (getL l) dst x := by
  cases dst with
  | none => rfl
  | some d => exact getL_set d x l

def xact (dst : Option Nat) : LRes → EL → EL
  | .val v _, e => putL e dst (.val v)
  | .ref s i, e => putL e dst (.ref s i)
  | .box cs, e => putL e dst (.box false cs)
  | .skip none _, e => putL e dst .none
  | .skip (some (s, cs)) _, e => putL (setL e s (.box false cs)) dst .none

theorem getL_act (l : EL) (dst : Option Nat) (r : LRes) : getL (xact dst r l) = actE dst r (getL l) := by
  cases r with
  | skip b H1 =>
    cases b with
    | none => exact getL_put _ _ _
    | some q => obtain ⟨s, cs⟩ := q; simp only [xact, actE, getL_put, getL_set]
  | _ => exact getL_put _ _ _

def xwant (ops : Array Oper) (l : EL) (o : Oper) (Kt Kf : Prop) : Prop :=
  match o.guard with
  | none => Kt
  | some (j, b) => match (ops[j]?).bind (·.dst) with
    | some d => match getL l d with
      | .val (.bool t) => (t = b → Kt) ∧ (t = !b → Kf)
      | .val _ => Kf
      | _ => False
    | none => Kf

theorem xwant_spec {l : EL} {o : Oper} {Kt Kf : Prop} (h : xwant ops l o Kt Kf) : (wantL ops (getL l) o = some true ∧ Kt) ∨ (wantL ops (getL l) o = some false ∧ Kf) := by
  unfold xwant at h
  unfold wantL
  split at h
  · rename_i hg; rw [hg]; exact .inl ⟨rfl, h⟩
  · rename_i j b hg
    rw [hg]
    simp only
    split at h
    · rename_i d hd
      rw [hd]
      simp only
      split at h
      · rename_i t ht
        rw [ht]
        by_cases hb : t = b
        · exact .inl ⟨by simp [hb], h.1 hb⟩
        · exact .inr ⟨by simp [hb], h.2 (by cases t <;> cases b <;> simp_all)⟩
      · rename_i v hv ht; rw [ht]
        right
        refine ⟨?_, h⟩
        cases v <;> first | rfl | (exfalso; exact hv _ rfl)
      · exact h.elim
    · rename_i hd; rw [hd]; exact .inr ⟨rfl, h⟩

/-- A call, as what is asked. -/
structure XCall (P : Program) (f : FuncId) (args : List Value) (H : LH) (R : Value → LH → Prop) : Prop where
  call : Call P f args H R

def xgen (P : Program) (n : Nat) (pr : List Nat) (al : Option Nat) (o : Oper) (K : EL → LH → Prop) (l : EL) (H : LH) : Prop :=
  xop P pr al o.dst o.op (getL l) H fun r => ob (okRes n (getL l) o.dst r) (K (xact o.dst r l) (r.heap H))

def xstpOp (P : Program) (n : Nat) (pr : List Nat) (al : Option Nat) (o : Oper) (K : EL → LH → Prop) (l : EL) (H : LH) : Prop :=
  match o.op with
  | .call c => match c.callee with
    | .value f => om (opd (getL l) f) fun
      | .func (.func g) fs cs => om (opds (getL l) c.args.toList) fun vs => ob (okFn P g && okDst n (getL l) o.dst) (XCall P g (fs.toList ++ vs ++ cs.toList) H (fun v H' => K (putL l o.dst (.val v)) H'))
      | _ => False
    | _ => xgen P n pr al o K l H
  | _ => xgen P n pr al o K l H

def xstp (P : Program) (n : Nat) (pr : List Nat) (al : Option Nat) (ops : Array Oper) (o : Oper) (K : EL → LH → Prop) (l : EL) (H : LH) : Prop :=
  xwant ops l o (xstpOp P n pr al o K l H) (ob (okDst n (getL l) o.dst) (K (putL l o.dst (.val undef)) H))

theorem xstp_sound {o : Oper} {K : EL → LH → Prop} {K' : Env → LH → Prop} (hk : ∀ l H, K l H → K' (getL l) H) {l : EL} (h : xstp P n pr al ops o K l H) : stp P n pr al ops o K' (getL l) H := by
  have gen : xgen P n pr al o K l H → (match lop P n pr al o (getL l) H with | some (e', H') => K' e' H' | none => False) := by
    intro h
    obtain ⟨r, hr, h⟩ := xop_spec h
    obtain ⟨h1, h⟩ := ob_spec h
    unfold lop
    rw [hr]
    simp only [fin_eq, h1, if_true]
    have := hk _ _ h
    rwa [getL_act] at this
  unfold stp
  rcases xwant_spec h with ⟨hw, h⟩ | ⟨hw, h⟩
  · rw [hw]
    simp only
    unfold xstpOp at h
    unfold stpOp
    split at h
    · rename_i c hop
      rw [hop]
      split at h
      · rename_i f hf
        obtain ⟨q, hq, h⟩ := om_spec h
        simp only [hf]
        rw [hq]
        cases q <;> try exact h.elim
        rename_i fn fs cs
        cases fn <;> try exact h.elim
        obtain ⟨vs, hvs, h⟩ := om_spec h
        obtain ⟨hb, h⟩ := ob_spec h
        rw [Bool.and_eq_true] at hb
        rw [hvs]
        refine ⟨hb.1, hb.2, h.call.mono fun v H' _ _ hh => ?_⟩
        have := hk _ _ hh
        rwa [getL_put] at this
      · rename_i hne
        have := gen h
        obtain ⟨callee, args, tys⟩ := c
        cases callee <;> first | exact this | exact (hne _ rfl).elim
    · rename_i hne
      have := gen h
      split
      · rename_i c hc; exact absurd hc (hne c)
      · exact this
  · rw [hw]
    obtain ⟨h1, h⟩ := ob_spec h
    have := hk _ _ h
    rw [getL_put] at this
    exact ⟨h1, this⟩

def xseq (P : Program) (n : Nat) (pr : List Nat) (ops : Array Oper) : List Oper → (EL → LH → Prop) → EL → LH → Prop
  | [], K, l, H => K l H
  | o :: r, K, l, H => xstp P n pr none ops o (xseq P n pr ops r K) l H

theorem xseq_sound {K : EL → LH → Prop} {K' : Env → LH → Prop} (hk : ∀ l H, K l H → K' (getL l) H) : ∀ (r : List Oper) (k : Nat), (∀ j, ops[k + j]? = r[j]?) → ∀ {l : EL} {H : LH},
    xseq P n pr ops r K l H → seqR P n pr ops (List.range' k r.length) K' (getL l) H
  | [], k, _, l, H, h => hk _ _ h
  | o :: r, k, hr, l, H, h => by
    simp only [List.length_cons, List.range'_succ, seqR]
    have := hr 0
    simp only [Nat.add_zero, List.getElem?_cons_zero] at this
    rw [this]
    exact xstp_sound (fun l H h => xseq_sound hk r (k + 1) (fun j => by have := hr (j + 1); simp only [List.getElem?_cons_succ] at this; rw [← this]; congr 1; omega) h) h

theorem LW.xregion {id : Nat} {Q : Exit → Env → LH → Prop} (pr : List Nat) {l : EL} (h : xseq P n pr ops ops.toList (fun l H => Q .normal (getL l) H) l H) : LW P n (.region id ops false) Q (getL l) H := by
  refine LW.region pr ?_
  have := xseq_sound (K' := Q .normal) (fun l H h => h) ops.toList 0 (fun j => by simp) h
  rw [List.range_eq_range']
  simpa using this

/-! ### drawn regions -/
def xres (P : Program) (pr : List Nat) (al : Option Nat) (ops : Array Oper) (o : Oper) (l : EL) (H : LH) (K : LRes → Prop) : Prop :=
  xwant ops l o (match isCall o with | true => False | false => xop P pr al o.dst o.op (getL l) H K) (K (.val undef H))

theorem xres_spec {o : Oper} {l : EL} {K : LRes → Prop} (h : xres P pr al ops o l H K) : ∃ r, res P pr al ops o (getL l) H = some r ∧ K r := by
  unfold res
  rcases xwant_spec h with ⟨hw, h⟩ | ⟨hw, h⟩
  · rw [hw]
    split at h
    · exact h.elim
    · exact xop_spec h
  · rw [hw]; exact ⟨_, rfl, h⟩

def xpreA (P : Program) (n : Nat) (pr : List Nat) (ops : Array Oper) (base : Nat) (l : EL) (H : LH) : List Nat → Prop → Prop
  | [], K => K
  | a :: r, K => (match ops[a]? with
    | some o => xres P pr (some (base + a)) ops o l H fun r => ob (okRes n (getL l) o.dst r) True
    | none => False) ∧ xpreA P n pr ops base l H r K

def xrechk (P : Program) (pr : List Nat) (ops : Array Oper) (l : EL) (H : LH) : List Nat → Prop → Prop
  | [], K => K
  | j :: r, K => (match ops[j]? with
    | some o => match o.dst with
      | some d => match getL l d with
        | .val v => xres P pr none ops o l H fun
          | .val v' H' => v' = v ∧ H' = H
          | _ => False
        | _ => False
      | none => False
    | none => False) ∧ xrechk P pr ops l H r K

theorem xpreA_spec {l : EL} {K : Prop} : ∀ {as : List Nat}, xpreA P n pr ops base l H as K → (∀ a ∈ as, preA P n pr ops base a (getL l) H) ∧ K
  | [], h => ⟨by simp, h⟩
  | a :: r, h => by
    obtain ⟨h1, h2⟩ := h
    obtain ⟨k1, k2⟩ := xpreA_spec h2
    refine ⟨?_, k2⟩
    intro b hb
    rcases List.mem_cons.1 hb with rfl | hb
    · unfold preA
      split at h1
      · rename_i o ho
        obtain ⟨r, hr, hk⟩ := xres_spec h1
        rw [ho]; exact ⟨r, hr, (ob_spec hk).1⟩
      · exact h1.elim
    · exact k1 b hb

theorem xrechk_spec {l : EL} {K : Prop} : ∀ {as : List Nat}, xrechk P pr ops l H as K → (∀ a ∈ as, rechk P pr ops a (getL l) H) ∧ K
  | [], h => ⟨by simp, h⟩
  | a :: r, h => by
    obtain ⟨h1, h2⟩ := h
    obtain ⟨k1, k2⟩ := xrechk_spec h2
    refine ⟨?_, k2⟩
    intro b hb
    rcases List.mem_cons.1 hb with rfl | hb
    · unfold rechk
      split at h1
      · rename_i o ho
        rw [ho]
        split at h1
        · rename_i d hd
          split at h1
          · rename_i v hv
            obtain ⟨r, hr, hk⟩ := xres_spec h1
            cases r <;> try exact hk.elim
            obtain ⟨rfl, rfl⟩ := hk
            exact ⟨_, d, hd, hv, hr⟩
          · exact h1.elim
        · exact h1.elim
      · exact h1.elim
    · exact k1 b hb

def xdrw (P : Program) (n : Nat) (pr : List Nat) (ops : Array Oper) (base : Nat) : List DS → (EL → LH → Prop) → EL → LH → Prop
  | [], K, l, H => K l H
  | s :: r, K, l, H => xpreA P n pr ops base l H s.as (match ops[s.i]? with
    | some o => xstp P n pr (some (base + s.i)) ops o (fun l' H' => xrechk P pr ops l' H' s.re (xdrw P n pr ops base r K l' H')) l H
    | none => False)

theorem xdrw_sound {K : EL → LH → Prop} {K' : Env → LH → Prop} (hk : ∀ l H, K l H → K' (getL l) H) : ∀ (r : List DS) {l : EL} {H : LH},
    xdrw P n pr ops base r K l H → drwR P n pr ops base r K' (getL l) H
  | [], l, H, h => hk _ _ h
  | s :: r, l, H, h => by
    obtain ⟨h1, h2⟩ := xpreA_spec h
    refine ⟨h1, ?_⟩
    split at h2
    · rename_i o ho
      rw [ho]
      exact xstp_sound (fun l H h => by
        obtain ⟨k1, k2⟩ := xrechk_spec h
        exact ⟨k1, xdrw_sound hk r k2⟩) h2
    · exact h2.elim

/-- A drawn region: the heap keeps numbers back. -/
theorem LW.xdraw {id : Nat} {Q : Exit → Env → LH → Prop} (hm : P.follows .mixedOrders = true) (pr : List Nat) (C : List DS) (hC : drawOk pr ops C = true) {l : EL}
    (h : ∀ H', H' = H.keep ops.size → xdrw P n pr ops H.next C (fun l H => Q .normal (getL l) H) l H') : LW P n (.region id ops true) Q (getL l) H :=
  LW.draw hm pr C ⟨hC, xdrw_sound (K' := Q .normal) (fun l H h => h) C (h _ rfl)⟩

theorem LW.xcond {c : Operand} {x y : Code} {Q : Exit → Env → LH → Prop} {l : EL} {b : Bool} (hv : opd (getL l) c = some (.bool b)) (h1 : b = true → LW P n x Q (getL l) H) (h2 : b = false → LW P n y Q (getL l) H) :
    LW P n (.cond c x y) Q (getL l) H := by
  refine LW.cond hv ?_
  cases b
  · exact h2 rfl
  · exact h1 rfl

/-- Code with a middle. -/
theorem LW.mid {x y : Code} {Q : Exit → Env → LH → Prop} (M : Env → LH → Prop) (h : LW P n x (LThen M Q) e H) (hy : ∀ e H, M e H → LW P n y Q e H) : LW P n (.seq x y) Q e H := by
  refine LW.seq (h.mono fun x e H hx => ?_)
  cases x <;> simp only [LThen] at hx ⊢ <;> first | exact hx | exact hy _ _ hx

/-- Forgetting, on lists. -/
def subL (l l' : EL) : Prop := ∀ t, getL l' t = .none ∨ getL l' t = getL l t

def keepL (p : Nat → Bool) : EL → EL
  | [] => []
  | (k, v) :: r => match p k with
    | true => (k, v) :: keepL p r
    | false => keepL p r

theorem getL_keep (p : Nat → Bool) (t : Nat) : ∀ (l : EL), getL (keepL p l) t = if p t then getL l t else .none
  | [] => by simp [keepL, getL]
  | (k, v) :: r => by
    have ih := getL_keep p t r
    simp only [keepL]
    by_cases h : k = t
    · subst h
      cases hp : p k <;> simp [getL, nbeq, hp, ih]
    · cases hp : p k <;> simp [getL, nbeq, h, ih]

/-- A slot that a kept reference needs is kept. -/
def keepOk (p : Nat → Bool) : EL → Bool
  | [] => true
  | (k, v) :: r => (match p k, v with
    | true, .ref s _ => p s
    | _, _ => true) && keepOk p r

theorem keepOk_spec {p : Nat → Bool} : ∀ {l : EL}, keepOk p l = true → ∀ t s o, p t = true → getL l t = .ref s o → p s = true
  | [], _, t, s, o, _, h => by simp [getL] at h
  | (k, v) :: r, h, t, s, o, hp, hg => by
    simp only [keepOk, Bool.and_eq_true] at h
    simp only [getL, nbeq] at hg
    by_cases hk : k = t
    · subst hk
      simp only [decide_true] at hg
      subst hg
      have := h.1
      simpa [hp] using this
    · simp only [hk, decide_false] at hg
      exact keepOk_spec h.2 t s o hp hg

end Go.Lg
