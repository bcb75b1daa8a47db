/- The logical machine, part 23: whole bodies: regions, joins, loops. No condition. -/
import Derived.Test.YtaehendkbicepaaGreatA22
set_option linter.unusedVariables false
set_option linter.unusedSimpArgs false
namespace Go.Lg
variable {P : Program} {φ0 φ : Phi} {H0 H H' H2 : LH} {w0 w w' : World} {n base : Nat} {al : Option Nat} {pr : List Nat} {ops : Array Oper}

def zseq (P : Program) (n : Nat) (pr : List Nat) (ops : Array Oper) (b : EL) : List Oper → ZK → ZK
  | [], K, kn, l, H => K kn l H
  | o :: r, K, kn, l, H => zstp P n pr none ops b o (zseq P n pr ops b r K) kn l H

theorem zseq_sound {b : EL} {K : ZK} {K' : Env → LH → Prop} (hk : ∀ kn l H, K kn l H → K' (getB l b) H) : ∀ (r : List Oper) (k : Nat), (∀ j, ops[k + j]? = r[j]?) → ∀ {kn : List Nat} {l : EL} {H : LH},
    zseq P n pr ops b r K kn l H → seqR P n pr ops (List.range' k r.length) K' (getB l b) H
  | [], k, _, kn, l, H, h => hk _ _ _ h
  | o :: r, k, hr, kn, l, H, h => by
    simp only [List.length_cons, List.range'_succ, seqR]
    have := hr 0
    simp only [Nat.add_zero, List.getElem?_cons_zero] at this
    rw [this]
    exact zstp_sound (fun kn l H h => zseq_sound hk r (k + 1) (fun j => by have := hr (j + 1); simp only [List.getElem?_cons_succ] at this; rw [← this]; congr 1; omega) h) h

/-! ### drawn regions -/
def zpre (P : Program) (n : Nat) (pr : List Nat) (ops : Array Oper) (base : Nat) (b : EL) (kn : List Nat) (l : EL) (H : LH) : List Nat → Prop → Prop
  | [], K => K
  | a :: r, K => (match ops[a]? with
    | some o => zwant ops b o kn l (fun _ l => match isCall o with
        | true => False
        | false => xop P pr (some (base + a)) o.dst o.op (getB l b) H fun r => ob (okRes n (getB l b) o.dst r) True) (fun _ l => ob (okDst n (getB l b) o.dst) True)
    | none => False) ∧ zpre P n pr ops base b kn l H r K

def zre (P : Program) (pr : List Nat) (ops : Array Oper) (b : EL) (kn : List Nat) (l : EL) (H : LH) : List Nat → Prop → Prop
  | [], K => K
  | j :: r, K => (match ops[j]? with
    | some o => match o.dst with
      | some d => match getB l b d with
        | .val v => zwant ops b o kn l (fun _ l => match clo pr o with
            | .R => xop P pr none o.dst o.op (getB l b) H fun
              | .val v' _ => v' = v
              | _ => False
            | _ => False) (fun _ _ => undef = v)
        | _ => False
      | none => False
    | none => False) ∧ zre P pr ops b kn l H r K

theorem zpre_spec {b l : EL} {kn : List Nat} {K : Prop} : ∀ {as : List Nat}, zpre P n pr ops base b kn l H as K → (∀ a ∈ as, preA P n pr ops base a (getB l b) H) ∧ K
  | [], h => ⟨by simp, h⟩
  | a :: r, h => by
    obtain ⟨h1, h2⟩ := h
    obtain ⟨k1, k2⟩ := zpre_spec h2
    refine ⟨?_, k2⟩
    intro c hc
    rcases List.mem_cons.1 hc with rfl | hc
    · unfold preA
      split at h1
      · rename_i o ho
        rw [ho]
        simp only
        unfold res
        obtain ⟨kn', l', he, hh⟩ := zwant_spec h1
        rcases hh with ⟨hw, hh⟩ | ⟨hw, hh⟩
        · rw [hw]
          split at hh
          · exact hh.elim
          · obtain ⟨r, hr, hk⟩ := xop_spec hh
            rw [he] at hr hk
            exact ⟨r, hr, (ob_spec hk).1⟩
        · rw [hw]; rw [he] at hh; exact ⟨_, rfl, (ob_spec hh).1⟩
      · exact h1.elim
    · exact k1 c hc

theorem zre_spec {b l : EL} {kn : List Nat} {K : Prop} : ∀ {as : List Nat}, zre P pr ops b kn l H as K → (∀ a ∈ as, rechk P pr ops a (getB l b) H) ∧ K
  | [], h => ⟨by simp, h⟩
  | a :: r, h => by
    obtain ⟨h1, h2⟩ := h
    obtain ⟨k1, k2⟩ := zre_spec h2
    refine ⟨?_, k2⟩
    intro c hc
    rcases List.mem_cons.1 hc with rfl | hc
    · unfold rechk
      split at h1
      · rename_i o ho
        rw [ho]
        split at h1
        · rename_i d hd
          split at h1
          · rename_i v hv
            obtain ⟨kn', l', he, hh⟩ := zwant_spec h1
            rcases hh with ⟨hw, hh⟩ | ⟨hw, hh⟩
            · split at hh
              · rename_i hcl
                obtain ⟨r, hr, hk⟩ := xop_spec hh
                rw [he] at hr
                have hres : res P pr none ops o (getB l b) H = some r := by unfold res; rw [hw]; exact hr
                obtain ⟨q1, ⟨u, q2⟩, -⟩ := res_R hcl hres
                subst q2
                have hk : u = v := hk
                subst hk
                exact ⟨_, d, hd, hv, hres⟩
              · exact hh.elim
            · have hh : undef = v := hh
              subst hh
              exact ⟨_, d, hd, hv, by unfold res; rw [hw]⟩
          · exact h1.elim
        · exact h1.elim
      · exact h1.elim
    · exact k1 c hc

def zdrw (P : Program) (n : Nat) (pr : List Nat) (ops : Array Oper) (base : Nat) (b : EL) : List DS → ZK → ZK
  | [], K, kn, l, H => K kn l H
  | s :: r, K, kn, l, H => zpre P n pr ops base b kn l H s.as (match ops[s.i]? with
    | some o => zstp P n pr (some (base + s.i)) ops b o (fun kn l' H' => zre P pr ops b kn l' H' s.re (zdrw P n pr ops base b r K kn l' H')) kn l H
    | none => False)

theorem zdrw_sound {b : EL} {K : ZK} {K' : Env → LH → Prop} (hk : ∀ kn l H, K kn l H → K' (getB l b) H) : ∀ (r : List DS) {kn : List Nat} {l : EL} {H : LH},
    zdrw P n pr ops base b r K kn l H → drwR P n pr ops base r K' (getB l b) H
  | [], kn, l, H, h => hk _ _ _ h
  | s :: r, kn, l, H, h => by
    obtain ⟨h1, h2⟩ := zpre_spec h
    refine ⟨h1, ?_⟩
    split at h2
    · rename_i o ho
      rw [ho]
      exact zstp_sound (fun kn l H h => by
        obtain ⟨k1, k2⟩ := zre_spec h
        exact ⟨k1, zdrw_sound hk r k2⟩) h2
    · exact h2.elim

/-! ### what is carried over a join -/
inductive ShL
  | int (k : IntKind) | bool | str | sl | ptr | map | val

inductive Sh
  | one (s : ShL) | box (ss : List ShL) | agg (ss : List ShL)

def F1 (T : Type) : ShL → Type
  | .int _ => Int → T
  | .bool => Bool → T
  | .str => ByteArray → T
  | .sl => Option Addr → Nat → Nat → T
  | .ptr => Option Addr → T
  | .map => Option Nat → T
  | .val => Value → T

def mk1 {T : Type} : (s : ShL) → (Value → T) → F1 T s
  | .int k, f => fun x => f (.int k x)
  | .bool, f => fun x => f (.bool x)
  | .str, f => fun x => f (.string x)
  | .sl, f => fun p m c => f (.slice p m c)
  | .ptr, f => fun x => f (.pointer x)
  | .map, f => fun x => f (.map x)
  | .val, f => f

def al1 : ShL → (Value → Prop) → Prop
  | .int k, F => ∀ x : Int, F (.int k x)
  | .bool, F => ∀ x : Bool, F (.bool x)
  | .str, F => ∀ x : ByteArray, F (.string x)
  | .sl, F => ∀ p m c, F (.slice p m c)
  | .ptr, F => ∀ x : Option Addr, F (.pointer x)
  | .map, F => ∀ x, F (.map x)
  | .val, F => ∀ x : Value, F x

def ikEq (k k' : IntKind) : Bool := decide (k = k')

def ap1 {T : Type} (D : T) : (s : ShL) → F1 T s → Value → T
  | .int k, K, v => match v with | .int k' x => (match ikEq k k' with | true => K x | false => D) | _ => D
  | .bool, K, v => match v with | .bool x => K x | _ => D
  | .str, K, v => match v with | .string x => K x | _ => D
  | .sl, K, v => match v with | .slice p m c => K p m c | _ => D
  | .ptr, K, v => match v with | .pointer x => K x | _ => D
  | .map, K, v => match v with | .map x => K x | _ => D
  | .val, K, v => K v

def fit1 : ShL → Value → Prop
  | .int k, v => ∃ x, v = .int k x
  | .bool, v => ∃ x, v = .bool x
  | .str, v => ∃ x, v = .string x
  | .sl, v => ∃ p m c, v = .slice p m c
  | .ptr, v => ∃ x, v = .pointer x
  | .map, v => ∃ x, v = .map x
  | .val, v => True

theorem ap1_mk {T : Type} {D : T} {s : ShL} {v : Value} {f : Value → T} (h : fit1 s v) : ap1 D s (mk1 s f) v = f v := by
  cases s <;> simp only [fit1] at h
  case int k => obtain ⟨x, rfl⟩ := h; simp [ap1, mk1, ikEq]
  case sl => obtain ⟨p, m, c, rfl⟩ := h; rfl
  case val => rfl
  all_goals (obtain ⟨x, rfl⟩ := h; rfl)

theorem al1_get {s : ShL} {v : Value} {F : Value → Prop} (h : al1 s F) (hf : fit1 s v) : F v := by
  cases s <;> simp only [fit1] at hf
  case sl => obtain ⟨p, m, c, rfl⟩ := hf; exact h p m c
  case val => exact h v
  all_goals (obtain ⟨x, rfl⟩ := hf; exact h x)

theorem al1_intro {s : ShL} {F : Value → Prop} (h : ∀ v, fit1 s v → F v) : al1 s F := by
  cases s
  case sl => intro p m c; exact h _ ⟨p, m, c, rfl⟩
  case val => intro v; exact h v trivial
  all_goals (intro x; exact h _ ⟨x, rfl⟩)

theorem ap1_fits {T : Type} {D : T} {s : ShL} {K : F1 T s} {v : Value} (h : ap1 D s K v ≠ D) : fit1 s v := by
  cases s
  case int k =>
    cases v <;> simp only [ap1] at h <;> try exact (h rfl).elim
    rename_i k' x
    by_cases hk : k = k'
    · subst hk; exact ⟨x, rfl⟩
    · exact absurd (by simp [ikEq, hk]) h
  case val => trivial
  all_goals (cases v <;> simp only [ap1] at h <;> first | exact (h rfl).elim | exact ⟨_, rfl⟩ | exact ⟨_, _, _, rfl⟩)

def FL : List ShL → Type → Type
  | [], T => T
  | s :: r, T => F1 (FL r T) s

def mkL {T : Type} : (ss : List ShL) → (List Value → T) → FL ss T
  | [], f => f []
  | s :: r, f => mk1 s fun v => mkL r fun vs => f (v :: vs)

def alL : List ShL → (List Value → Prop) → Prop
  | [], F => F []
  | s :: r, F => al1 s fun v => alL r fun vs => F (v :: vs)

def cstL {T : Type} (D : T) : (ss : List ShL) → FL ss T
  | [] => D
  | s :: r => mk1 s fun _ => cstL D r

/-- Applied to values; `D` where they do not fit. -/
def apL {T : Type} (D : T) : (ss : List ShL) → FL ss T → List Value → T
  | [], K, vs => match vs with
    | [] => K
    | _ => D
  | s :: r, K, vs => match vs with
    | v :: vs => apL D r (ap1 (cstL D r) s K v) vs
    | [] => D

def fits : List ShL → List Value → Prop
  | [], vs => vs = []
  | s :: r, vs => match vs with
    | v :: vs => fit1 s v ∧ fits r vs
    | [] => False

theorem apL_cons {T : Type} {D : T} {s : ShL} {r : List ShL} {K : FL (s :: r) T} {v : Value} {vs : List Value} : apL D (s :: r) K (v :: vs) = apL D r (ap1 (cstL D r) s K v) vs := rfl

theorem ap1_cst {T : Type} {D : T} {s : ShL} {v : Value} : ap1 D s (mk1 s fun _ => D) v = D := by
  cases s
  case int k => cases v <;> first | rfl | (simp only [ap1, mk1]; split <;> rfl)
  all_goals (cases v <;> rfl)

theorem apL_cst {T : Type} {D : T} : ∀ {ss : List ShL} {vs : List Value}, apL D ss (cstL D ss) vs = D := by
  intro ss
  induction ss with
  | nil => intro vs; cases vs <;> rfl
  | cons s r ih =>
    intro vs
    cases vs with
    | nil => rfl
    | cons v vs =>
      rw [apL_cons]
      have : ap1 (cstL D r) s (cstL D (s :: r)) v = cstL D r := ap1_cst
      rw [this]; exact ih

theorem apL_mk {T : Type} {D : T} : ∀ {ss : List ShL} {vs : List Value} {f : List Value → T}, fits ss vs → apL D ss (mkL ss f) vs = f vs := by
  intro ss
  induction ss with
  | nil => intro vs f h; cases h; rfl
  | cons s r ih =>
    intro vs f h
    cases vs with
    | nil => exact h.elim
    | cons v vs =>
      rw [apL_cons]
      have : ap1 (cstL D r) s (mkL (s :: r) f) v = mkL r fun vs => f (v :: vs) := ap1_mk (f := fun v => mkL r fun vs => f (v :: vs)) h.1
      rw [this]; exact ih h.2

theorem apL_fits : ∀ {ss : List ShL} {vs : List Value} {K : FL ss (LH → Prop)}, apL (fun _ => False) ss K vs H → fits ss vs := by
  intro ss
  induction ss with
  | nil => intro vs K h; cases vs with
           | nil => rfl
           | cons v vs => exact h.elim
  | cons s r ih =>
    intro vs K h
    cases vs with
    | nil => exact h.elim
    | cons v vs =>
      rw [apL_cons] at h
      refine ⟨?_, ih h⟩
      apply Classical.byContradiction
      intro hn
      have : ap1 (cstL (fun _ => False) r) s K v = cstL (fun _ => False) r := by
        apply Classical.byContradiction
        intro hne
        exact hn (ap1_fits hne)
      rw [this, apL_cst] at h
      exact h

theorem alL_get : ∀ {ss : List ShL} {vs : List Value} {F : List Value → Prop}, alL ss F → fits ss vs → F vs := by
  intro ss
  induction ss with
  | nil => intro vs F h hf; cases hf; exact h
  | cons s r ih =>
    intro vs F h hf
    cases vs with
    | nil => exact hf.elim
    | cons v vs => exact ih (F := fun vs => F (v :: vs)) (al1_get (F := fun v => alL r fun vs => F (v :: vs)) h hf.1) hf.2

theorem alL_intro : ∀ {ss : List ShL} {F : List Value → Prop}, (∀ vs, fits ss vs → F vs) → alL ss F := by
  intro ss
  induction ss with
  | nil => intro F h; exact h [] rfl
  | cons s r ih => intro F h; exact al1_intro fun v hv => ih fun vs hf => h _ ⟨hv, hf⟩

def flat : List (Nat × Sh) → List ShL
  | [] => []
  | (_, .one s) :: r => s :: flat r
  | (_, .box ss) :: r => ss ++ flat r
  | (_, .agg ss) :: r => ss ++ flat r

/-- The values of slots, in a row. -/
def gath : List (Nat × Sh) → EL → EL → (List Value → Prop) → Prop
  | [], _, _, K => K []
  | (t, .one _) :: r, l, b, K => match getB l b t with
    | .val v => gath r l b fun vs => K (v :: vs)
    | _ => False
  | (t, .box ss) :: r, l, b, K => match getB l b t with
    | .box false cs => ob (Nat.beq cs.length ss.length) (gath r l b fun vs => K (cs ++ vs))
    | _ => False
  | (t, .agg ss) :: r, l, b, K => match getB l b t with
    | .val (.agg cs) => ob (Nat.beq cs.toList.length ss.length) (gath r l b fun vs => K (cs.toList ++ vs))
    | _ => False

def rebuild : List (Nat × Sh) → List Value → EL
  | [], _ => []
  | (t, .one _) :: r, vs => match vs with
    | v :: vs => (t, .val v) :: rebuild r vs
    | [] => []
  | (t, .box ss) :: r, vs => (t, .box false (vs.take ss.length)) :: rebuild r (vs.drop ss.length)
  | (t, .agg ss) :: r, vs => (t, .val (.agg (vs.take ss.length).toArray)) :: rebuild r (vs.drop ss.length)

theorem gath_spec {l b : EL} : ∀ {ks : List (Nat × Sh)} {K : List Value → Prop}, gath ks l b K → ∃ vs, K vs ∧ (∀ t, getL (rebuild ks vs) t = .none ∨ getL (rebuild ks vs) t = getB l b t) ∧ ∀ t s o, getL (rebuild ks vs) t ≠ .ref s o := by
  intro ks
  induction ks with
  | nil => intro K h; exact ⟨[], h, fun t => .inl rfl, fun t s o => by simp [rebuild, getL]⟩
  | cons k r ih =>
    intro K h
    obtain ⟨t, s⟩ := k
    have fin : ∀ {x : EV} {l' : EL}, getB l b t = x → (∀ s o, x ≠ .ref s o) → ((∀ t, getL l' t = .none ∨ getL l' t = getB l b t) ∧ ∀ t s o, getL l' t ≠ .ref s o) →
        (∀ u, getL ((t, x) :: l') u = .none ∨ getL ((t, x) :: l') u = getB l b u) ∧ ∀ u s o, getL ((t, x) :: l') u ≠ .ref s o := by
      intro x l' hx hr hh
      refine ⟨fun u => ?_, fun u s o => ?_⟩
      · simp only [getL, nbeq]
        by_cases hu : t = u
        · subst hu; simp only [decide_true]; exact .inr hx.symm
        · simp only [hu, decide_false]; exact hh.1 u
      · simp only [getL, nbeq]
        by_cases hu : t = u
        · subst hu; simp only [decide_true]; exact hr s o
        · simp only [hu, decide_false]; exact hh.2 u s o
    cases s with
    | one s =>
      simp only [gath] at h
      split at h
      · rename_i v hv
        obtain ⟨vs, h1, h2⟩ := ih h
        exact ⟨v :: vs, h1, fin hv (by intro s o; simp) h2⟩
      · exact h.elim
    | box ss =>
      simp only [gath] at h
      split at h
      · rename_i cs hv
        obtain ⟨hl, h⟩ := ob_spec h
        have hl := Nat.eq_of_beq_eq_true hl
        obtain ⟨vs, h1, h2⟩ := ih h
        refine ⟨cs ++ vs, h1, ?_⟩
        simp only [rebuild, ← hl, List.take_left', List.drop_left']
        exact fin hv (by intro s o; simp) h2
      · exact h.elim
    | agg ss =>
      simp only [gath] at h
      split at h
      · rename_i cs hv
        obtain ⟨hl, h⟩ := ob_spec h
        have hl := Nat.eq_of_beq_eq_true hl
        obtain ⟨vs, h1, h2⟩ := ih h
        refine ⟨cs.toList ++ vs, h1, ?_⟩
        simp only [rebuild, ← hl, List.take_left', List.drop_left']
        exact fin hv (by intro s o; simp) h2
      · exact h.elim

end Go.Lg
