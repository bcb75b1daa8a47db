/- The logical machine, part 24: whole bodies as what is asked. No condition. -/
import Derived.Test.YtaehendkbicepaaGreatA23
set_option linter.unusedVariables false
set_option linter.unusedSimpArgs false
namespace Go.Lg
variable {P : Program} {φ0 φ : Phi} {H0 H H' H2 : LH} {w0 w w' : World} {n base : Nat} {al : Option Nat} {pr : List Nat} {ops : Array Oper}

/-- What is carried over a join, and what is held fast meanwhile. -/
structure Jn where
  ks : List (Nat × Sh)
  kept : List Nat

/-- Notes on code. -/
inductive AC
  | u
  | draw (C : List DS)
  | cond (x y : AC)
  | block (x : AC)
  | seq (j : Option Jn) (x y : AC)
  | rot (j : Option Jn) (x y z : AC)
  | loop (j : Jn) (x : AC)

def keptOf (ts : List Nat) : EL → EL
  | [] => []
  | (k, v) :: r => match hasN ts k with
    | true => (k, v) :: keptOf ts r
    | false => keptOf ts r

def restOf (ts : List Nat) : EL → EL
  | [] => []
  | (k, v) :: r => match hasN ts k with
    | true => restOf ts r
    | false => (k, v) :: restOf ts r

def noRefs : EL → Bool
  | [] => true
  | (_, v) :: r => match v with
    | .ref _ _ => false
    | _ => noRefs r

theorem noRefs_spec : ∀ {l : EL}, noRefs l = true → ∀ t s o, getL l t ≠ .ref s o
  | [], _, t, s, o => by simp [getL]
  | (k, v) :: r, h, t, s, o => by
    simp only [noRefs] at h
    split at h
    · cases h
    · rename_i hv
      simp only [getL, nbeq]
      by_cases hk : k = t
      · subst hk; simp only [decide_true]; exact hv s o
      · simp only [hk, decide_false]; exact noRefs_spec h t s o

theorem getL_split (ts : List Nat) : ∀ (l : EL) (t : Nat), getL (keptOf ts l ++ restOf ts l) t = getL l t
  | [], t => rfl
  | (k, v) :: r, t => by
    have ih := getL_split ts r t
    have key : ∀ (ts : List Nat) (a b : Nat), hasN ts a = true → hasN ts b = false → a ≠ b := by
      intro ts a b h1 h2 e; rw [e] at h1; rw [h1] at h2; cases h2
    have nok : ∀ (l : EL) (t : Nat), hasN ts t = false → ∀ m : EL, getL (keptOf ts l ++ m) t = getL m t := by
      intro l t ht m
      induction l with
      | nil => rfl
      | cons p l ih =>
        obtain ⟨k, v⟩ := p
        simp only [keptOf]
        split
        · rename_i hk
          simp only [List.cons_append, getL, nbeq, key ts k t hk ht, decide_false]
          exact ih
        · exact ih
    simp only [keptOf, restOf]
    split
    · rename_i hk
      simp only [List.cons_append, getL, nbeq]
      by_cases h : k = t
      · simp [h]
      · simp only [h, decide_false]; exact ih
    · rename_i hk
      by_cases h : k = t
      · subst h
        rw [nok _ _ hk]
        simp [getL]
      · rw [show getL ((k, v) :: r) t = getL r t by simp [getL, nbeq, h], ← ih]
        have : ∀ (l m : EL), getL (l ++ (k, v) :: m) t = getL (l ++ m) t := by
          intro l m
          induction l with
          | nil => simp [getL, nbeq, h]
          | cons p l ih => obtain ⟨k', v'⟩ := p; simp only [List.cons_append, getL, ih]
        exact this _ _

theorem getL_congr {a b c : EL} (h : getL b = getL c) : getL (a ++ b) = getL (a ++ c) := by
  induction a with
  | nil => exact h
  | cons p a ih =>
    obtain ⟨k, v⟩ := p
    funext t
    have := congrFun ih t
    simp only [List.cons_append, getL, this]

def zthen (K : ZK) (Q : Exit → ZK) : Exit → ZK
  | .normal => K
  | x => Q x

def zblock (id : Nat) (Q : Exit → ZK) : Exit → ZK
  | .exit i => match Nat.beq i id with
    | true => Q .normal
    | false => Q (.exit i)
  | x => Q x

/-- Behind code that runs with `kept` held fast. -/
def zkept (kept : EL) (K : ZK) (Q : Exit → ZK) : Exit → ZK
  | .normal => K
  | x => fun kn l H => Q x kn (kept ++ l) H

def zjoin (j : Jn) (b : EL) (K : FL (flat j.ks) (LH → Prop)) : ZK := fun _ l H => gath j.ks l b fun vs => apL (fun _ => False) (flat j.ks) K vs H

/-- Code with a middle. -/
def zmid (j : Option Jn) (x : EL → (Exit → ZK) → ZK) (y : EL → (Exit → ZK) → ZK) (b : EL) (Q : Exit → ZK) : ZK :=
  match j with
  | none => x b (zthen (y b Q) Q)
  | some j => fun kn l H =>
    ob (noRefs b && noRefs (keptOf j.kept l)) (∀ K : FL (flat j.ks) (LH → Prop),
      (alL (flat j.ks) fun vs => ∀ H, y b Q [] (keptOf j.kept l ++ rebuild j.ks vs) H → apL (fun _ => False) (flat j.ks) K vs H) →
      x (b ++ keptOf j.kept l) (zkept (keptOf j.kept l) (zjoin j (b ++ keptOf j.kept l) K) Q) kn (restOf j.kept l) H)

/-- The next round: what holds at its head, and a number that falls. -/
def znext (j : Jn) (b : EL) (I : FL (flat j.ks) (LH → Prop)) (μ : FL (flat j.ks) (LH → Nat)) (vs : List Value) (H : LH) : ZK := fun _ l' H' =>
  gath j.ks l' b fun vs' => apL (fun _ => False) (flat j.ks) I vs' H' ∧ apL (fun _ => 0) (flat j.ks) μ vs' H' < apL (fun _ => 0) (flat j.ks) μ vs H

def zloop (j : Jn) (x : EL → (Exit → ZK) → ZK) (b : EL) (Q : Exit → ZK) : ZK := fun kn l H =>
  ob (noRefs b && noRefs (keptOf j.kept l)) (∃ (I : FL (flat j.ks) (LH → Prop)) (μ : FL (flat j.ks) (LH → Nat)),
    gath j.ks l b (fun vs => apL (fun _ => False) (flat j.ks) I vs H) ∧
    alL (flat j.ks) fun vs => ∀ H, apL (fun _ => False) (flat j.ks) I vs H →
      x (b ++ keptOf j.kept l) (zkept (keptOf j.kept l) (znext j (b ++ keptOf j.kept l) I μ vs H) Q) [] (rebuild j.ks vs) H)

def zcond (c : Operand) (x y : EL → (Exit → ZK) → ZK) (b : EL) (Q : Exit → ZK) : ZK := fun kn l H =>
  match c with
  | .tmp t => match getB l b t with
    | .val (.bool v) => zsplit b t v kn l (fun kn l => x b Q kn l H) (fun kn l => y b Q kn l H)
    | _ => False
  | .const (.bool v) => match v with
    | true => x b Q kn l H
    | false => y b Q kn l H
  | _ => False

def zdraw (P : Program) (n : Nat) (pr : List Nat) (ops : Array Oper) (C : List DS) (b : EL) (Q : Exit → ZK) : ZK := fun kn l H =>
  ob (drawOk pr ops C) (∀ H', H' = H.keep ops.size → zdrw P n pr ops H.next b C (Q .normal) kn l H')

/-- What a body asks. -/
def zcode (P : Program) (n : Nat) (pr : List Nat) : AC → Code → EL → (Exit → ZK) → ZK
  | .draw C, c => match c with
    | .region _ ops true => zdraw P n pr ops C
    | _ => fun _ _ _ _ _ => False
  | .cond x y, c => match c with
    | .cond o d e => zcond o (zcode P n pr x d) (zcode P n pr y e)
    | _ => fun _ _ _ _ _ => False
  | .block x, c => match c with
    | .block id d => fun b Q => zcode P n pr x d b (zblock id Q)
    | _ => fun _ _ _ _ _ => False
  | .seq j x y, c => match c with
    | .seq d e => zmid j (zcode P n pr x d) (zcode P n pr y e)
    | _ => fun _ _ _ _ _ => False
  | .rot j x y z, c => match c with
    | .seq d (.seq e f) => zmid j (fun b Q => zcode P n pr x d b (zthen (zcode P n pr y e b Q) Q)) (zcode P n pr z f)
    | _ => fun _ _ _ _ _ => False
  | .loop j x, c => match c with
    | .loop d => zloop j (zcode P n pr x d)
    | _ => fun _ _ _ _ _ => False
  | .u, c => match c with
    | .skip => fun _ Q => Q .normal
    | .exit id => fun _ Q => Q (.exit id)
    | .ret => fun _ Q => Q .ret
    | .region _ ops false => fun b Q => zseq P n pr ops b ops.toList (Q .normal)
    | _ => fun _ _ _ _ _ => False

/-- A way to run on. -/
abbrev LTr := (Exit → Env → LH → Prop) → Env → LH → Prop

def LTr.Mono (T : LTr) : Prop := ∀ (Q Q' : Exit → Env → LH → Prop) (e : Env) (H : LH), (∀ x e H, Q x e H → Q' x e H) → T Q e H → T Q' e H

/-- The post condition without its list. -/
def unl (b : EL) (Q : Exit → ZK) : Exit → Env → LH → Prop := fun x e H => ∃ kn l, e = getB l b ∧ Q x kn l H

/-- What is asked is enough. -/
def Snd (T : LTr) (x : EL → (Exit → ZK) → ZK) : Prop :=
  ∀ (b : EL) (Q : Exit → ZK) (kn : List Nat) (l : EL) (H : LH), x b Q kn l H → T (unl b Q) (getB l b) H

theorem Snd.none {T : LTr} : Snd T (fun _ _ _ _ _ => False) := fun b Q kn l H h => h.elim

theorem LW.Mono {c : Code} : LTr.Mono (LW P n c) := fun Q Q' e H hq h => h.mono hq

theorem getB_rest (ts : List Nat) (l b : EL) : getB (restOf ts l) (b ++ keptOf ts l) = getB l b := by
  show getC _ _ = getC _ _
  rw [getC_app, getC_app, List.append_assoc]
  exact getL_congr (funext fun t => getL_split ts l t)

theorem getB_kept (kept l b : EL) : getB l (b ++ kept) = getB (kept ++ l) b := by
  show getC _ _ = getC _ _
  rw [getC_app, getC_app, List.append_assoc]

theorem sub_app {r l' : EL} : ∀ {a : EL} {t : Nat}, (getL r t = .none ∨ getL r t = getL (a ++ l') t) → (getL (a ++ r) t = .none ∨ getL (a ++ r) t = getL (a ++ l') t)
  | [], t, h => h
  | (k, v) :: a, t, h => by
    simp only [List.cons_append, getL, nbeq] at h ⊢
    by_cases hk : k = t
    · simp [hk]
    · simp only [hk, decide_false] at h ⊢; exact sub_app h

theorem app_refs {r : EL} (hr : ∀ t s o, getL r t ≠ .ref s o) : ∀ {a : EL}, noRefs a = true → ∀ t s o, getL (a ++ r) t ≠ .ref s o
  | [], _ => hr
  | (k, v) :: a, h => by
    intro t s o
    simp only [noRefs] at h
    split at h
    · cases h
    · rename_i hv
      simp only [List.cons_append, getL, nbeq]
      by_cases hk : k = t
      · simp only [hk, decide_true]; exact hv s o
      · simp only [hk, decide_false]; exact app_refs hr h t s o

theorem noRefs_app : ∀ {a b : EL}, noRefs a = true → noRefs b = true → noRefs (a ++ b) = true
  | [], b, _, h => h
  | (k, v) :: a, b, h, h2 => by
    simp only [noRefs] at h
    split at h
    · cases h
    · rename_i hv
      simp only [List.cons_append, noRefs]
      first
        | exact noRefs_app h h2
        | (split
           · rename_i s o; exact absurd rfl (hv s o)
           · exact noRefs_app h h2)

/-- Slots that were gathered. -/
theorem gath_sub {ks : List (Nat × Sh)} {l b kept : EL} {K : List Value → Prop} (hb : noRefs b = true) (hk : noRefs kept = true) (h : gath ks l (b ++ kept) K) :
    ∃ vs, K vs ∧ Sub (getB l (b ++ kept)) (getB (rebuild ks vs) (b ++ kept)) ∧ ∀ t s o, getB (rebuild ks vs) (b ++ kept) t ≠ .ref s o := by
  obtain ⟨vs, h1, h2, h3⟩ := gath_spec h
  refine ⟨vs, h1, fun t => ?_, fun t s o => ?_⟩
  · show getC _ _ t = _ ∨ getC _ _ t = getC _ _ t
    rw [getC_app, getC_app]
    refine sub_app ?_
    have := h2 t
    rwa [show getB l (b ++ kept) = getL ((b ++ kept) ++ l) from getC_app _ _] at this
  · show getC _ _ t ≠ _
    rw [getC_app]
    exact app_refs h3 (noRefs_app hb hk) t s o

theorem zmid_sound {T : LTr} (hT : LTr.Mono T) {f : Code} {j : Option Jn} {x y : EL → (Exit → ZK) → ZK} (hx : Snd T x) (hy : Snd (LW P n f) y) {b : EL} {Q : Exit → ZK} {kn : List Nat} {l : EL}
    (h : zmid j x y b Q kn l H) : T (LThen (LW P n f (unl b Q)) (unl b Q)) (getB l b) H := by
  unfold zmid at h
  split at h
  · refine hT _ _ _ _ ?_ (hx _ _ _ _ _ h)
    rintro x e H ⟨kn, l, rfl, hh⟩
    cases x <;> simp only [zthen, LThen] at hh ⊢
    case normal => exact hy _ _ _ _ _ hh
    all_goals exact ⟨kn, l, rfl, hh⟩
  · rename_i j
    obtain ⟨hr, h⟩ := ob_spec h
    rw [Bool.and_eq_true] at hr
    have h := h (mkL (flat j.ks) fun vs H => y b Q [] (keptOf j.kept l ++ rebuild j.ks vs) H) (alL_intro fun vs hf H hh => by rw [apL_mk hf]; exact hh)
    have := hx _ _ _ _ _ h
    rw [getB_rest] at this
    refine hT _ _ _ _ ?_ this
    rintro x e H ⟨kn, l', rfl, hh⟩
    cases x <;> simp only [zkept, LThen] at hh ⊢
    case normal =>
      obtain ⟨vs, h1, h2, h3⟩ := gath_sub hr.1 hr.2 hh
      have hf := apL_fits h1
      rw [apL_mk hf] at h1
      have := hy _ _ _ _ _ h1
      rw [← getB_kept] at this
      exact LW.sub h2 (fun t s o he => absurd he (h3 t s o)) this
    all_goals exact ⟨kn, keptOf j.kept l ++ l', getB_kept _ _ _, hh⟩

theorem zloop_sound {d : Code} {j : Jn} {x : EL → (Exit → ZK) → ZK} (hx : Snd (LW P n d) x) : Snd (LW P n (.loop d)) (zloop j x) := by
  intro b Q kn l H h
  obtain ⟨hr, I, μ, h0, hall⟩ := ob_spec h
  rw [Bool.and_eq_true] at hr
  have h0' : gath j.ks (restOf j.kept l) (b ++ keptOf j.kept l) fun vs => apL (fun _ => False) (flat j.ks) I vs H := by
    have aux : ∀ (ks : List (Nat × Sh)) (l1 b1 l2 b2 : EL) (K : List Value → Prop), getB l1 b1 = getB l2 b2 → gath ks l1 b1 K → gath ks l2 b2 K := by
      intro ks
      induction ks with
      | nil => intro l1 b1 l2 b2 K he h; exact h
      | cons k r ih =>
        intro l1 b1 l2 b2 K he h
        obtain ⟨t, s⟩ := k
        cases s <;> simp only [gath] at h ⊢
        case one s =>
          rw [← he]
          split at h <;> try exact h.elim
          rename_i v hv; exact ih _ _ _ _ _ he h
        case box s =>
          rw [← he]
          split at h <;> try exact h.elim
          rename_i v hv
          obtain ⟨q1, q2⟩ := ob_spec h
          simp only [q1, ob]; exact ih _ _ _ _ _ he q2
        case agg s =>
          rw [← he]
          split at h <;> try exact h.elim
          rename_i v hv
          obtain ⟨q1, q2⟩ := ob_spec h
          simp only [q1, ob]; exact ih _ _ _ _ _ he q2
    exact aux _ _ _ _ _ _ (getB_rest _ _ _).symm h0
  obtain ⟨vs0, k1, k2, k3⟩ := gath_sub hr.1 hr.2 h0'
  rw [getB_rest] at k2
  refine LW.loop (fun m e H => ∃ vs, Sub e (getB (rebuild j.ks vs) (b ++ keptOf j.kept l)) ∧ (∀ t s o, getB (rebuild j.ks vs) (b ++ keptOf j.kept l) t ≠ .ref s o) ∧
    apL (fun _ => False) (flat j.ks) I vs H ∧ m = apL (fun _ => 0) (flat j.ks) μ vs H) ⟨vs0, k2, k3, k1, rfl⟩ ?_
  rintro m e H ⟨vs, q1, q2, q3, rfl⟩
  refine LW.sub q1 (fun t s o he => absurd he (q2 t s o)) ?_
  have := alL_get hall (apL_fits q3) H q3
  refine (hx _ _ _ _ _ this).mono ?_
  rintro x e H ⟨kn, l', rfl, hh⟩
  cases x <;> simp only [zkept, LThen] at hh ⊢
  case normal =>
    obtain ⟨vs', ⟨r1, r2⟩, r3, r4⟩ := gath_sub hr.1 hr.2 hh
    exact ⟨_, r2, vs', r3, r4, r1, rfl⟩
  all_goals exact ⟨kn, keptOf j.kept l ++ l', getB_kept _ _ _, hh⟩

theorem zcond_sound {c : Operand} {d e : Code} {x y : EL → (Exit → ZK) → ZK} (hx : Snd (LW P n d) x) (hy : Snd (LW P n e) y) : Snd (LW P n (.cond c d e)) (zcond c x y) := by
  intro b Q kn l H h
  unfold zcond at h
  split at h
  · rename_i t
    split at h
    · rename_i v hv
      obtain ⟨kn', l', h1, h2⟩ := zsplit_spec h hv
      refine LW.cond (b := v) (by simp only [opd, hv]) ?_
      rw [← h1]
      cases v
      · exact hy _ _ _ _ _ h2
      · exact hx _ _ _ _ _ h2
    · exact h.elim
  · rename_i v
    refine LW.cond (b := v) (by simp [opd, closed]) ?_
    cases v
    · exact hy _ _ _ _ _ h
    · exact hx _ _ _ _ _ h
  · exact h.elim

theorem zblock_sound {id : Nat} {d : Code} {x : EL → (Exit → ZK) → ZK} (hx : Snd (LW P n d) x) : Snd (LW P n (.block id d)) (fun b Q => x b (zblock id Q)) := by
  intro b Q kn l H h
  refine LW.block ((hx _ _ _ _ _ h).mono ?_)
  rintro x e H ⟨kn, l', rfl, hh⟩
  cases x with
  | exit i =>
    simp only [zblock, LBlock, nbeq] at hh ⊢
    by_cases hi : i = id
    · rw [if_pos hi]; rw [decide_eq_true hi] at hh; exact ⟨kn, l', rfl, hh⟩
    · rw [if_neg hi]; rw [decide_eq_false hi] at hh; exact ⟨kn, l', rfl, hh⟩
  | normal => exact ⟨kn, l', rfl, hh⟩
  | goto i => exact ⟨kn, l', rfl, hh⟩
  | ret => exact ⟨kn, l', rfl, hh⟩
  | panic i => exact ⟨kn, l', rfl, hh⟩
  | outgrown => exact ⟨kn, l', rfl, hh⟩

theorem zdraw_sound (hm : P.follows .mixedOrders = true) {id : Nat} {C : List DS} : Snd (LW P n (.region id ops true)) (zdraw P n pr ops C) := by
  intro b Q kn l H h
  obtain ⟨hC, h⟩ := ob_spec h
  exact LW.draw hm pr C ⟨hC, zdrw_sound (K' := unl b Q .normal) (fun kn l H h => ⟨kn, l, rfl, h⟩) C (h _ rfl)⟩

theorem zreg_sound {id : Nat} : Snd (LW P n (.region id ops false)) (fun b Q => zseq P n pr ops b ops.toList (Q .normal)) := by
  intro b Q kn l H h
  refine LW.region pr ?_
  have := zseq_sound (K' := unl b Q .normal) (fun kn l H h => ⟨kn, l, rfl, h⟩) ops.toList 0 (fun j => by simp) h
  rw [List.range_eq_range']
  simpa using this

theorem zcode_sound (hm : P.follows .mixedOrders = true) : ∀ (A : AC) (c : Code), Snd (LW P n c) (zcode P n pr A c) := by
  intro A
  induction A with
  | u => intro c
         cases c <;> simp only [zcode] <;> try exact Snd.none
         case skip => exact fun b Q kn l H h => LW.skip ⟨kn, l, rfl, h⟩
         case exit id => exact fun b Q kn l H h => LW.exit ⟨kn, l, rfl, h⟩
         case ret => exact fun b Q kn l H h => LW.ret ⟨kn, l, rfl, h⟩
         case region id ops dr =>
           cases dr
           · exact zreg_sound
           · exact Snd.none
  | draw C => intro c
              cases c <;> simp only [zcode] <;> try exact Snd.none
              rename_i id ops dr
              cases dr
              · exact Snd.none
              · exact zdraw_sound hm
  | cond x y ihx ihy => intro c
                        cases c <;> simp only [zcode] <;> try exact Snd.none
                        exact zcond_sound (ihx _) (ihy _)
  | block x ihx => intro c
                   cases c <;> simp only [zcode] <;> try exact Snd.none
                   exact zblock_sound (ihx _)
  | seq j x y ihx ihy => intro c
                         cases c <;> simp only [zcode] <;> try exact Snd.none
                         exact fun b Q kn l H h => LW.seq (zmid_sound LW.Mono (ihx _) (ihy _) h)
  | rot j x y z ihx ihy ihz => intro c
                               cases c <;> simp only [zcode] <;> try exact Snd.none
                               rename_i d e
                               cases e <;> simp only <;> try exact Snd.none
                               rename_i e f
                               intro b Q kn l H h
                               have hT : LTr.Mono (fun Q e' H => LW P n d (LThen (LW P n e Q) Q) e' H) := by
                                 intro Q Q' e' H hq h
                                 refine h.mono fun x e1 H1 hx => ?_
                                 cases x <;> simp only [LThen] at hx ⊢
                                 case normal => exact hx.mono hq
                                 all_goals exact hq _ _ _ hx
                               have := zmid_sound hT (x := fun b Q => zcode P n pr x d b (zthen (zcode P n pr y e b Q) Q)) (fun b Q kn l H h => by
                                 refine (ihx d _ _ _ _ _ h).mono ?_
                                 rintro x e1 H1 ⟨kn, l, rfl, hh⟩
                                 cases x <;> simp only [zthen, LThen] at hh ⊢
                                 case normal => exact ihy _ _ _ _ _ _ hh
                                 all_goals exact ⟨kn, l, rfl, hh⟩) (ihz f) h
                               refine LW.seq (this.mono fun x e1 H1 hx => ?_)
                               cases x <;> simp only [LThen] at hx ⊢
                               case normal => exact LW.seq hx
                               all_goals exact hx
  | loop j x ihx => intro c
                    cases c <;> simp only [zcode] <;> try exact Snd.none
                    exact zloop_sound (ihx _)

/-! ### functions -/
def zret (P : Program) (fn : Func) (R : Value → LH → Prop) : Exit → ZK
  | .normal => fun _ l H => om (resVs P (getL l) fn.results.toList) fun vs => R (resOne vs) H
  | .ret => fun _ l H => om (resVs P (getL l) fn.results.toList) fun vs => R (resOne vs) H
  | _ => fun _ _ _ => False

/-- What a function asks. -/
def zfun (P : Program) (f : FuncId) (pr : List Nat) (A : AC) (args : List Value) (R : Value → LH → Prop) (H : LH) : Prop :=
  match P.funcs[f]? with
  | some fn => match fn.body with
    | some c => ob (Nat.ble args.length fn.ntmps) (zcode P fn.ntmps pr A c [] (zret P fn R) [] (argL 0 args) H)
    | none => False
  | none => False

theorem call_of_zfun (hm : P.follows .mixedOrders = true) {f : FuncId} {A : AC} {args : List Value} {R : Value → LH → Prop} (h : zfun P f pr A args R H) : Call P f args H R := by
  unfold zfun at h
  split at h
  · rename_i fn hf
    split at h
    · rename_i c hb
      obtain ⟨h1, h⟩ := ob_spec h
      refine call_of_LW hf hb (by simpa using h1) ?_
      have he : argE args = getL (argL 0 args) := by
        funext t; rw [getL_arg]; simp only [argE, Nat.not_lt_zero, if_false, Nat.sub_zero]; cases args[t]? <;> rfl
      rw [he]
      refine (zcode_sound hm A c [] _ _ _ _ h).mono ?_
      rintro x e H ⟨kn, l, rfl, hh⟩
      cases x <;> simp only [zret, LRet] at hh ⊢
      case normal => obtain ⟨vs, h1, h2⟩ := om_spec hh; exact ⟨vs, h1, h2⟩
      case ret => obtain ⟨vs, h1, h2⟩ := om_spec hh; exact ⟨vs, h1, h2⟩
    · exact h.elim
  · exact h.elim

end Go.Lg
