/- The logical machine, part 22: whole bodies as what is asked, with a part of the slots held fast. No condition. -/
import Derived.Test.YtaehendkbicepaaGreatA21
set_option linter.unusedVariables false
set_option linter.unusedSimpArgs false
namespace Go.Lg
variable {P : Program} {φ0 φ : Phi} {H0 H H' H2 : LH} {w0 w w' : World} {n base : Nat} {al : Option Nat} {pr : List Nat} {ops : Array Oper}

def getC : EL → EL → Nat → EV
  | [], l, t => getL l t
  | (k, v) :: r, l, t => match Nat.beq k t with
    | true => v
    | false => getC r l t

/-- Slots: those that are held fast come first. -/
abbrev getB (l b : EL) : Nat → EV := getC b l

theorem getC_app : ∀ (b l : EL), getC b l = getL (b ++ l)
  | [], l => rfl
  | (k, v) :: r, l => by
    funext t
    have ih := congrFun (getC_app r l) t
    simp only [getC, List.cons_append, getL]
    cases Nat.beq k t
    · exact ih
    · rfl

theorem getL_app (a b : EL) : getL (a ++ b) = getC a b := (getC_app a b).symm

def noKey : EL → Nat → Bool
  | [], _ => true
  | (k, _) :: r, t => match Nat.beq k t with
    | true => false
    | false => noKey r t

theorem getB_set {d : Nat} (x : EV) (l : EL) : ∀ {b : EL}, noKey b d = true → getB (setL l d x) b = upd (getB l b) d x
  | [], _ => getL_set d x l
  | (k, v) :: r, h => by
    simp only [noKey, nbeq] at h
    have hk : ¬ k = d := fun hk => by simp [hk] at h
    simp only [hk, decide_false] at h
    have ih := getB_set x l h
    funext t
    have ih := congrFun ih t
    simp only [getC, nbeq, upd] at ih ⊢
    by_cases hd : k = t
    · subst hd; simp [hk]
    · simp only [hd, decide_false, ih]

def hasN : List Nat → Nat → Bool
  | [], _ => false
  | k :: r, t => match Nat.beq k t with
    | true => true
    | false => hasN r t

def dropN : List Nat → Nat → List Nat
  | [], _ => []
  | k :: r, t => match Nat.beq k t with
    | true => dropN r t
    | false => k :: dropN r t

/-- The state that is handed on: slots whose truth value is known, slots, heap. -/
abbrev ZK := List Nat → EL → LH → Prop

/-- Writing a slot. -/
def zput (n : Nat) (b : EL) (dst : Option Nat) (x : EV) (kn : List Nat) (l : EL) (H : LH) (known : Bool) (K : ZK) : Prop :=
  match dst with
  | none => K kn l H
  | some d => ob (Nat.blt d n && noKey b d && !isBox (getB l b d)) (K (match known with | true => d :: kn | false => dropN kn d) (setL l d x) H)

/-- What a result does. -/
def zact (n : Nat) (b : EL) (dst : Option Nat) (r : LRes) (kn : List Nat) (l : EL) (H : LH) (known : Bool) (K : ZK) : Prop :=
  match r with
  | .val v H' => zput n b dst (.val v) kn l H' known K
  | .ref s i => ob dst.isSome (zput n b dst (.ref s i) kn l H known K)
  | .box cs => ob dst.isSome (zput n b dst (.box false cs) kn l H known K)
  | .skip none H' => zput n b dst .none kn l H' known K
  | .skip (some (s, cs)) H' => ob (noKey b s) (match dst with
    | none => K kn (setL l s (.box false cs)) H'
    | some d => ob (Nat.blt d n && noKey b d && !isBox (getB l b d)) (K (dropN kn d) (setL (setL l s (.box false cs)) d .none) H'))

def setT (b l : EL) (d : Nat) (g : Bool) : EL := match noKey b d with
  | true => setL l d (.val (.bool g))
  | false => l

theorem setT_eq {b l : EL} {d : Nat} {g : Bool} (h : getB l b d = .val (.bool g)) : getB (setT b l d g) b = getB l b := by
  unfold setT
  split
  · rename_i hb
    rw [getB_set _ _ hb]
    funext t
    simp only [upd]
    split
    · rename_i ht; rw [ht, h]
    · rfl
  · rfl

/-- A known truth value is not asked again. -/
def zsplit (b : EL) (d : Nat) (t : Bool) (kn : List Nat) (l : EL) (Kt Kf : List Nat → EL → Prop) : Prop :=
  match hasN kn d with
  | true => match t with
    | true => Kt kn l
    | false => Kf kn l
  | false => (t = true → Kt (d :: kn) (setT b l d true)) ∧ (t = false → Kf (d :: kn) (setT b l d false))

theorem zsplit_spec {b l : EL} {d : Nat} {t : Bool} {kn : List Nat} {Kt Kf : List Nat → EL → Prop} (h : zsplit b d t kn l Kt Kf) (hd : getB l b d = .val (.bool t)) :
    ∃ kn' l', getB l' b = getB l b ∧ (if t then Kt kn' l' else Kf kn' l') := by
  unfold zsplit at h
  split at h
  · split at h
    · exact ⟨kn, l, rfl, h⟩
    · exact ⟨kn, l, rfl, h⟩
  · cases t with
    | true => exact ⟨_, _, setT_eq hd, h.1 rfl⟩
    | false => exact ⟨_, _, setT_eq hd, h.2 rfl⟩

def zwant (ops : Array Oper) (b : EL) (o : Oper) (kn : List Nat) (l : EL) (Kt Kf : List Nat → EL → Prop) : Prop :=
  match o.guard with
  | none => Kt kn l
  | some (j, g) => match (ops[j]?).bind (·.dst) with
    | some d => match getB l b d with
      | .val (.bool t) => match g with
        | true => zsplit b d t kn l Kt Kf
        | false => zsplit b d t kn l Kf Kt
      | .val _ => Kf kn l
      | _ => False
    | none => Kf kn l

theorem zwant_spec {b l : EL} {o : Oper} {kn : List Nat} {Kt Kf : List Nat → EL → Prop} (h : zwant ops b o kn l Kt Kf) :
    ∃ kn' l', getB l' b = getB l b ∧ ((wantL ops (getB l b) o = some true ∧ Kt kn' l') ∨ (wantL ops (getB l b) o = some false ∧ Kf kn' l')) := by
  unfold zwant at h
  unfold wantL
  split at h
  · rename_i hg; rw [hg]; exact ⟨kn, l, rfl, .inl ⟨rfl, h⟩⟩
  · rename_i j g hg
    rw [hg]
    simp only
    split at h
    · rename_i d hd
      rw [hd]
      simp only
      split at h
      · rename_i t ht
        rw [ht]
        split at h
        · obtain ⟨kn', l', h1, h2⟩ := zsplit_spec h ht
          refine ⟨kn', l', h1, ?_⟩
          cases t
          · exact .inr ⟨rfl, h2⟩
          · exact .inl ⟨rfl, h2⟩
        · obtain ⟨kn', l', h1, h2⟩ := zsplit_spec h ht
          refine ⟨kn', l', h1, ?_⟩
          cases t
          · exact .inl ⟨rfl, h2⟩
          · exact .inr ⟨rfl, h2⟩
      · rename_i v hv ht; rw [ht]
        refine ⟨kn, l, rfl, .inr ⟨?_, h⟩⟩
        cases v <;> first | rfl | (exfalso; exact hv _ rfl)
      · exact h.elim
    · rename_i hd; rw [hd]; exact ⟨kn, l, rfl, .inr ⟨rfl, h⟩⟩

/-- The zero values of types. -/
def zerosOf (P : Program) : List TypeId → Option (List Value)
  | [] => some []
  | t :: ts => match zeroOf P t, zerosOf P ts with
    | some z, some zs => some (z :: zs)
    | _, _ => none

/-- The results of a call, by their types. -/
def zcallV (P : Program) (g : FuncId) (v : Value) (K : Value → Prop) : Prop :=
  match P.funcs[g]? with
  | some fn => match fn.resultTypes.toList with
    | [] => K v
    | [t] => om (zeroOf P t) fun z => xsomeA z fun u => v = u ∧ K u
    | ts => om (zerosOf P ts) fun zs => xsomesA zs fun us => v = .tuple us.toArray ∧ K (.tuple us.toArray)
  | none => K v

theorem zcallV_spec {g : FuncId} {v : Value} {K : Value → Prop} (h : zcallV P g v K) : K v := by
  unfold zcallV at h
  split at h
  · split at h
    · exact h
    · obtain ⟨z, _, h⟩ := om_spec h; obtain ⟨u, hv, hk⟩ := xsomeA_spec h; rw [hv]; exact hk
    · obtain ⟨zs, _, h⟩ := om_spec h; obtain ⟨us, hv, hk⟩ := xsomesA_spec h; rw [hv]; exact hk
  · exact h

def knX (kn : List Nat) : Operand → Bool
  | .const _ => true
  | .tmp t => hasN kn t
  | _ => false

def knOp (kn : List Nat) : Op → Bool
  | .move x | .assign x => knX kn x
  | _ => false

def zgen (P : Program) (n : Nat) (pr : List Nat) (al : Option Nat) (b : EL) (o : Oper) (K : ZK) (kn : List Nat) (l : EL) (H : LH) : Prop :=
  match o.op with
  | .pick (.tmp d) x y => match getB l b d with
    | .val (.bool t) => zsplit b d t kn l (fun kn l => om (opd (getB l b) x) fun v => zput n b o.dst (.val v) kn l H (knX kn x) K)
        (fun kn l => om (opd (getB l b) y) fun v => zput n b o.dst (.val v) kn l H (knX kn y) K)
    | _ => False
  | _ => xop P pr al o.dst o.op (getB l b) H fun r => zact n b o.dst r kn l H (knOp kn o.op) K

def zstpOp (P : Program) (n : Nat) (pr : List Nat) (al : Option Nat) (b : EL) (o : Oper) (K : ZK) (kn : List Nat) (l : EL) (H : LH) : Prop :=
  match o.op with
  | .call c => match c.callee with
    | .value (.func g) => om (opds (getB l b) c.args.toList) fun vs => ob (okFn P g && okDst n (getB l b) o.dst) (XCall P g vs H (fun v H' => zcallV P g v fun v' => zput n b o.dst (.val v') kn l H' false K))
    | .value f => om (opd (getB l b) f) fun v => om (opds (getB l b) c.args.toList) fun vs => ∃ (g : FuncId) (fs cs : List Value), v = .func (.func g) fs.toArray cs.toArray ∧ okFn P g = true ∧ ob (okDst n (getB l b) o.dst) (
        XCall P g (fs ++ vs ++ cs) H (fun v H' => om (zeroOf P o.type) fun z => xsomeA z fun v' => v = v' ∧ zput n b o.dst (.val v') kn l H' false K))
    | _ => zgen P n pr al b o K kn l H
  | _ => zgen P n pr al b o K kn l H

def zstp (P : Program) (n : Nat) (pr : List Nat) (al : Option Nat) (ops : Array Oper) (b : EL) (o : Oper) (K : ZK) (kn : List Nat) (l : EL) (H : LH) : Prop :=
  zwant ops b o kn l (fun kn l => zstpOp P n pr al b o K kn l H) (fun kn l => zput n b o.dst (.val undef) kn l H false K)

theorem zput_spec {b : EL} {dst : Option Nat} {x : EV} {kn : List Nat} {l : EL} {known : Bool} {K : ZK} (h : zput n b dst x kn l H known K) :
    okDst n (getB l b) dst = true ∧ ∃ kn' l', getB l' b = putE (getB l b) dst x ∧ K kn' l' H := by
  unfold zput at h
  split at h
  · exact ⟨rfl, kn, l, rfl, h⟩
  · rename_i d
    obtain ⟨h1, h⟩ := ob_spec h
    rw [Bool.and_eq_true, Bool.and_eq_true, Nat.blt_eq] at h1
    exact ⟨by simp only [okDst, h1.1.1, decide_true, Bool.true_and]; exact h1.2, _, _, getB_set x l h1.1.2, h⟩

theorem zact_spec {b : EL} {dst : Option Nat} {r : LRes} {kn : List Nat} {l : EL} {known : Bool} {K : ZK} (h : zact n b dst r kn l H known K) :
    okRes n (getB l b) dst r = true ∧ ∃ kn' l', getB l' b = actE dst r (getB l b) ∧ K kn' l' (r.heap H) := by
  unfold zact at h
  split at h
  · exact zput_spec h
  · obtain ⟨h1, h⟩ := ob_spec h
    obtain ⟨h2, h3⟩ := zput_spec h
    exact ⟨by simp only [okRes, h1, h2]; rfl, h3⟩
  · obtain ⟨h1, h⟩ := ob_spec h
    obtain ⟨h2, h3⟩ := zput_spec h
    exact ⟨by simp only [okRes, h1, h2]; rfl, h3⟩
  · exact zput_spec h
  · rename_i s cs H'
    obtain ⟨h1, h⟩ := ob_spec h
    split at h
    · exact ⟨rfl, _, _, getB_set _ l h1, h⟩
    · rename_i d
      obtain ⟨h2, h⟩ := ob_spec h
      rw [Bool.and_eq_true, Bool.and_eq_true, Nat.blt_eq] at h2
      refine ⟨by simp only [okRes, okDst, h2.1.1, decide_true, Bool.true_and]; exact h2.2, _, _, ?_, h⟩
      rw [getB_set _ _ h2.1.2, getB_set _ _ h1]; rfl

theorem zgen_spec {b : EL} {o : Oper} {K : ZK} {kn : List Nat} {l : EL} (h : zgen P n pr al b o K kn l H) :
    ∃ r kn' l', lopC P pr al o.dst o.op (getB l b) H = some r ∧ okRes n (getB l b) o.dst r = true ∧ getB l' b = actE o.dst r (getB l b) ∧ K kn' l' (r.heap H) := by
  unfold zgen at h
  split at h
  · rename_i d x y hop
    split at h
    · rename_i t ht
      obtain ⟨kn1, l1, h1, h2⟩ := zsplit_spec h ht
      have key : ∀ {z : Operand}, (om (opd (getB l1 b) z) fun v => zput n b o.dst (.val v) kn1 l1 H (knX kn1 z) K) → z = (if t then x else y) →
          ∃ r kn' l', lopC P pr al o.dst o.op (getB l b) H = some r ∧ okRes n (getB l b) o.dst r = true ∧ getB l' b = actE o.dst r (getB l b) ∧ K kn' l' (r.heap H) := by
        rintro z h hz
        obtain ⟨v, hv, h⟩ := om_spec h
        obtain ⟨k1, kn2, l2, k2, k3⟩ := zput_spec h
        rw [h1] at k1 k2 hv
        refine ⟨.val v H, kn2, l2, ?_, k1, k2, k3⟩
        rw [hop]
        have hd : opd (getB l b) (.tmp d) = some (.bool t) := by simp only [opd, ht]
        simp only [lopC, hd]
        cases t
        · simp only [Bool.false_eq_true, if_false] at hz ⊢; subst hz; rw [hv]; rfl
        · simp only [if_true] at hz ⊢; subst hz; rw [hv]; rfl
      cases t with
      | true => exact key h2 rfl
      | false => exact key h2 rfl
    · exact h.elim
  · obtain ⟨r, hr, h⟩ := xop_spec h
    obtain ⟨h1, kn', l', h2, h3⟩ := zact_spec h
    exact ⟨r, kn', l', hr, h1, h2, h3⟩

theorem zstp_sound {b : EL} {o : Oper} {K : ZK} {K' : Env → LH → Prop} (hk : ∀ kn l H, K kn l H → K' (getB l b) H) {kn : List Nat} {l : EL} (h : zstp P n pr al ops b o K kn l H) :
    stp P n pr al ops o K' (getB l b) H := by
  have gen : ∀ {kn : List Nat} {l : EL}, zgen P n pr al b o K kn l H → (match lop P n pr al o (getB l b) H with | some (e', H') => K' e' H' | none => False) := by
    intro kn l h
    obtain ⟨r, kn', l', hr, h1, h2, h3⟩ := zgen_spec h
    unfold lop
    rw [hr]
    simp only [fin_eq, h1, if_true]
    have := hk _ _ _ h3
    rwa [h2] at this
  unfold stp
  obtain ⟨kn1, l1, he, hh⟩ := zwant_spec h
  rcases hh with ⟨hw, h⟩ | ⟨hw, h⟩
  · rw [hw]
    simp only
    rw [← he]
    unfold zstpOp at h
    unfold stpOp
    split at h
    · rename_i c hop
      rw [hop]
      split at h
      · rename_i g hf
        obtain ⟨vs, hvs, h⟩ := om_spec h
        obtain ⟨hb, h⟩ := ob_spec h
        rw [Bool.and_eq_true] at hb
        have ho : opd (getB l1 b) (.func g) = some (.func (.func g) #[] #[]) := rfl
        simp only [hf, ho, hvs]
        refine ⟨hb.1, hb.2, ?_⟩
        have hc := h.call
        simp only [List.nil_append, List.append_nil]
        refine hc.mono fun v H' _ _ hh => ?_
        obtain ⟨k1, kn2, l2, k2, k3⟩ := zput_spec (zcallV_spec hh)
        rw [← k2]; exact hk _ _ _ k3
      · rename_i f hnf hf
        obtain ⟨q, hq, h⟩ := om_spec h
        obtain ⟨vs, hvs, h⟩ := om_spec h
        obtain ⟨g, fs, cs, rfl, h1, h⟩ := h
        obtain ⟨h2, h⟩ := ob_spec h
        simp only [hf, hq, hvs]
        refine ⟨h1, h2, ?_⟩
        have hc := h.call
        refine hc.mono fun v H' _ _ hh => ?_
        obtain ⟨z, _, hh⟩ := om_spec hh
        obtain ⟨u, rfl, hh⟩ := xsomeA_spec hh
        obtain ⟨k1, kn2, l2, k2, k3⟩ := zput_spec hh
        rw [← k2]; exact hk _ _ _ k3
      · rename_i hne1 hne2
        have := gen h
        obtain ⟨callee, args, tys⟩ := c
        cases callee <;> first | exact this | exact (hne2 _ rfl).elim
    · rename_i hne
      have := gen h
      split
      · rename_i c hc; exact absurd hc (hne c)
      · exact this
  · rw [hw]
    obtain ⟨k1, kn2, l2, k2, k3⟩ := zput_spec h
    rw [he] at k1 k2
    have := hk _ _ _ k3
    rw [k2] at this
    exact ⟨k1, this⟩

end Go.Lg
