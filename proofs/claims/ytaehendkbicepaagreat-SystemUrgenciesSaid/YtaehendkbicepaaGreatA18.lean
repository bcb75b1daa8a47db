/- The logical machine, part 18: code and functions. No condition. -/
import Derived.Test.YtaehendkbicepaaGreatA17
set_option linter.unusedVariables false
set_option linter.unusedSimpArgs false
namespace Go.Lg
variable {P : Program} {φ0 φ : Phi} {H0 H H' H2 : LH} {w0 w w' : World} {e e' e2 : Env} {tmps : Array Value} {n base : Nat} {al : Option Nat} {pr : List Nat} {ops : Array Oper}

/-- A post condition on a logical state, as one on the model's. -/
def LX (φ0 : Phi) (H0 : LH) (w0 : World) (n : Nat) (Q : Exit → Env → LH → Prop) : Exit → Act → World → Prop :=
  fun x a w => Cz φ0 H0 w0 n (fun _ => False) (Q x) a w

/-- Code that starts in a logical state and ends as `Q` says. -/
def LW (P : Program) (n : Nat) (c : Code) (Q : Exit → Env → LH → Prop) (e : Env) (H : LH) : Prop :=
  ∀ (φ0 : Phi) (H0 : LH) (w0 : World) (a : Act) (w : World), Cz φ0 H0 w0 n (fun _ => False) (fun e' H' => e' = e ∧ H' = H) a w → c.wp P (LX φ0 H0 w0 n Q) a w

theorem Cz.imp {S : Nat → Prop} {K K' : Env → LH → Prop} {a : Act} (h : Cz φ0 H0 w0 n S K a w) (hk : ∀ e H, K e H → K' e H) : Cz φ0 H0 w0 n S K' a w := by
  obtain ⟨c1, c2, φ, e, H, c3, c4, c5⟩ := h
  exact ⟨c1, c2, φ, e, H, c3, c4, hk _ _ c5⟩

/-- From a state of which `K` is known. -/
theorem LW.from {c : Code} {Q : Exit → Env → LH → Prop} {K : Env → LH → Prop} (h : ∀ e H, K e H → LW P n c Q e H) {a : Act} (hc : Cz φ0 H0 w0 n (fun _ => False) K a w) : c.wp P (LX φ0 H0 w0 n Q) a w := by
  obtain ⟨c1, c2, φ, e, H, c3, c4, c5⟩ := hc
  exact h e H c5 _ _ _ _ _ ⟨c1, c2, φ, e, H, c3, c4, rfl, rfl⟩

theorem LW.mono {c : Code} {Q Q' : Exit → Env → LH → Prop} (h : LW P n c Q e H) (hq : ∀ x e H, Q x e H → Q' x e H) : LW P n c Q' e H :=
  fun φ0 H0 w0 a w hc => wp_mono (h φ0 H0 w0 a w hc) fun x a w hx => Cz.imp hx (hq x)

theorem LW.skip {Q : Exit → Env → LH → Prop} (h : Q .normal e H) : LW P n .skip Q e H :=
  fun φ0 H0 w0 a w hc => wp_skip (hc.imp fun e' H' hh => by obtain ⟨rfl, rfl⟩ := hh; exact h)

theorem LW.exit {id : Nat} {Q : Exit → Env → LH → Prop} (h : Q (.exit id) e H) : LW P n (.exit id) Q e H :=
  fun φ0 H0 w0 a w hc => wp_exit (hc.imp fun e' H' hh => by obtain ⟨rfl, rfl⟩ := hh; exact h)

theorem LW.ret {Q : Exit → Env → LH → Prop} (h : Q .ret e H) : LW P n .ret Q e H :=
  fun φ0 H0 w0 a w hc => wp_ret (hc.imp fun e' H' hh => by obtain ⟨rfl, rfl⟩ := hh; exact h)

/-- One thing and then another. -/
def LThen (K : Env → LH → Prop) (Q : Exit → Env → LH → Prop) : Exit → Env → LH → Prop
  | .normal, e, H => K e H
  | x, e, H => Q x e H

theorem LW.seq {x y : Code} {Q : Exit → Env → LH → Prop} (h : LW P n x (LThen (LW P n y Q) Q) e H) : LW P n (.seq x y) Q e H := by
  intro φ0 H0 w0 a w hc
  refine wp_seq (wp_mono (h φ0 H0 w0 a w hc) fun x a w hx => ?_)
  cases x <;> simp only [Exit.then]
  case normal => exact LW.from (K := LW P n y Q) (fun e H h => h) hx
  all_goals exact hx

def LBlock (id : Nat) (Q : Exit → Env → LH → Prop) : Exit → Env → LH → Prop
  | .exit id', e, H => if id' = id then Q .normal e H else Q (.exit id') e H
  | x, e, H => Q x e H

theorem LW.block {id : Nat} {c : Code} {Q : Exit → Env → LH → Prop} (h : LW P n c (LBlock id Q) e H) : LW P n (.block id c) Q e H := by
  intro φ0 H0 w0 a w hc
  refine wp_block (wp_mono (h φ0 H0 w0 a w hc) fun x a w hx => ?_)
  cases x <;> simp only [Exit.inBlock]
  case exit id' =>
    by_cases e : id' = id
    · rw [if_pos e]; exact hx.imp fun e' H' hh => by simpa [LBlock, e] using hh
    · rw [if_neg e]; exact hx.imp fun e' H' hh => by simpa [LBlock, e] using hh
  all_goals exact hx

theorem LW.cond {c : Operand} {x y : Code} {b : Bool} {Q : Exit → Env → LH → Prop} (hv : opd e c = some (.bool b)) (h : LW P n (if b then x else y) Q e H) : LW P n (.cond c x y) Q e H := by
  intro φ0 H0 w0 a w hc
  have hc' := hc
  obtain ⟨c1, c2, φ, e1, H1, c3, c4, rfl, rfl⟩ := hc
  have hev := eval_opd c3.env a rfl hv
  have : a.eval c = .bool b := by
    cases hh : a.eval c <;> rw [hh] at hev <;> cases hev; rfl
  exact wp_cond this (h _ _ _ _ _ hc')

/-- Values may be forgotten. -/
def Sub (e e' : Env) : Prop := ∀ t, e' t = .none ∨ e' t = e t

theorem ER.sub {H : LH} (h : ER base φ e H tmps w) (hs : Sub e e') (hr : ∀ t s o, e' t = .ref s o → isBox (e' s) = true) : ER base φ e' H tmps w where
  val t v he := by rcases hs t with k | k
                   · rw [k] at he; cases he
                   · rw [k] at he; exact h.val t v he
  box t f cs he := by rcases hs t with k | k
                      · rw [k] at he; cases he
                      · rw [k] at he; exact h.box t f cs he
  ref t s o he := by
    have hb := hr t s o he
    rcases hs t with k | k
    · rw [k] at he; cases he
    · rw [k] at he
      obtain ⟨B, f, cs, h1, h2, h3⟩ := h.ref t s o he
      rcases hs s with k' | k'
      · rw [k'] at hb; simp [isBox] at hb
      · exact ⟨B, f, cs, h1, h2, by rw [k', h3]⟩
  apart t t' f f' cs cs' B B' hne he he' := by
    rcases hs t with k | k
    · rw [k] at he; cases he
    · rcases hs t' with k' | k'
      · rw [k'] at he'; cases he'
      · rw [k] at he; rw [k'] at he'; exact h.apart t t' f f' cs cs' B B' hne he he'

theorem LW.sub {c : Code} {Q : Exit → Env → LH → Prop} (hs : Sub e e') (hr : ∀ t s o, e' t = .ref s o → isBox (e' s) = true) (h : LW P n c Q e' H) : LW P n c Q e H := by
  intro φ0 H0 w0 a w hc
  obtain ⟨c1, c2, φ, e1, H1, c3, c4, rfl, rfl⟩ := hc
  exact h _ _ _ _ _ ⟨c1, c2, φ, e', H1, ⟨c3.fr, c3.rel, c3.env.sub hs hr, c3.old, c3.dead⟩, c4, rfl, rfl⟩

/-- A region in the order of its text. -/
theorem LW.region {id : Nat} {Q : Exit → Env → LH → Prop} (pr : List Nat) (h : seqR P n pr ops (List.range ops.size) (Q .normal) e H) : LW P n (.region id ops false) Q e H := by
  intro φ0 H0 w0 a w hc
  refine wp_region (seqR_sound (pr := pr) (K := Q .normal) (fun a w h => h) _ _ _ (hc.imp fun e' H' hh => ?_))
  obtain ⟨rfl, rfl⟩ := hh
  exact h

/-- A region whose order is drawn. -/
theorem LW.draw {id : Nat} {Q : Exit → Env → LH → Prop} (hm : P.follows .mixedOrders = true) (pr : List Nat) (C : List DS) (h : drawR P n pr ops C (Q .normal) e H) : LW P n (.region id ops true) Q e H := by
  intro φ0 H0 w0 a w hc
  refine drawR_sound (pr := pr) (C := C) (K := Q .normal) hm (fun a w h => h) (hc.imp fun e' H' hh => ?_)
  obtain ⟨rfl, rfl⟩ := hh
  exact h

/-- A loop, with what holds at its head and a number that falls. -/
theorem LW.loop {c : Code} {Q : Exit → Env → LH → Prop} (I : Nat → Env → LH → Prop) {m : Nat} (h0 : I m e H)
    (round : ∀ m e H, I m e H → LW P n c (LThen (fun e' H' => ∃ m', m' < m ∧ I m' e' H') Q) e H) : LW P n (.loop c) Q e H := by
  intro φ0 H0 w0 a w hc
  classical
  have key : ∀ (m : Nat) (a : Act) (w : World), Cz φ0 H0 w0 n (fun _ => False) (I m) a w →
      ∀ (b : Frame) (k : List Item) (cs : List Frame), ∃ x a' w', LX φ0 H0 w0 n Q x a' w' ∧ Arrives P (lone (b.at a (.code c :: .inLoop c :: k)) cs w) b k cs x a' w' := by
    intro m
    induction m using Nat.strongRecOn with
    | _ m ih =>
      intro a w hI b k cs
      obtain ⟨x, a₁, w₁, hq, harr⟩ := LW.from (fun e H => round m e H) hI b (.inLoop c :: k) cs
      cases x with
      | normal =>
        obtain ⟨c1, c2, φ, e1, H1, c3, c4, m', hlt, hI'⟩ := hq
        obtain ⟨x2, a₂, w₂, hq₂, harr₂⟩ := ih m' hlt a₁ w₁ ⟨c1, c2, φ, e1, H1, c3, c4, hI'⟩ b k cs
        exact ⟨x2, a₂, w₂, hq₂, .of_steps (Steps.trans harr (.one step_inLoop)) harr₂⟩
      | exit id => exact ⟨_, a₁, w₁, hq, .pass (x := .inLoop c) rfl (fun _ _ => .inl (by simp)) harr⟩
      | goto l => exact ⟨_, a₁, w₁, hq, .pass (x := .inLoop c) rfl (fun _ _ => .inl (by simp)) harr⟩
      | ret => exact ⟨_, a₁, w₁, hq, .pass (x := .inLoop c) rfl (fun _ _ => .inl (by simp)) harr⟩
      | panic ch => exact ⟨_, a₁, w₁, hq, .pass (x := .inLoop c) rfl (fun _ _ => .inl (by simp)) harr⟩
      | outgrown => exact ⟨_, a₁, w₁, hq, .pass (x := .inLoop c) rfl (fun _ _ => .inl (by simp)) harr⟩
  intro b k cs
  obtain ⟨x, a', w', hq, harr⟩ := key m a w (hc.imp fun e' H' hh => by obtain ⟨rfl, rfl⟩ := hh; exact h0) b k cs
  exact ⟨x, a', w', hq, .of_steps (.one step_loop) harr⟩

/-! ### what a function gives -/
def resV (P : Program) (e : Env) : ResultVar → Option Value
  | .tmp t => opd e (.tmp t)
  | .cell a t => match e a with
    | .box _ cs => partV P t cs 0
    | _ => none

def resVs (P : Program) (e : Env) : List ResultVar → Option (List Value)
  | [] => some []
  | x :: r => match resV P e x, resVs P e r with
    | some v, some vs => some (v :: vs)
    | _, _ => none

def resOne : List Value → Value
  | [v] => v
  | vs => .tuple vs.toArray

/-- How a function's body ends. -/
def LRet (P : Program) (fn : Func) (R : Value → LH → Prop) : Exit → Env → LH → Prop
  | .normal, e, H | .ret, e, H => ∃ vs, resVs P e fn.results.toList = some vs ∧ R (resOne vs) H
  | _, _, _ => False

/-- The temporaries that a body begins with. -/
def argE (args : List Value) : Env := fun i => match args[i]? with
  | some v => .val v
  | none => .none

def resM (tmps : Array Value) : ResultVar → Sem Value
  | .tmp t => pure (tmps.getD t undef)
  | .cell b t => do loadVar t (← asAddr (tmps.getD b undef))

theorem ofResult {P : Program} {x : ResultVar} {v : Value} {a : Act} {w : World} (hst : St φ0 H0 w0 φ e H a.tmps w) (h : resV P e x = some v) :
    ∃ v', (resM a.tmps x).run P w = .ok v' w ∧ VR φ v v' := by
  cases x with
  | tmp t =>
    have := eval_opd hst.env a rfl (x := .tmp t) h
    exact ⟨_, by simp only [resM, Sem.run_pure]; rfl, this⟩
  | cell b t =>
    simp only [resV] at h
    split at h
    · rename_i f cs he
      obtain ⟨B, c, el, h1, h2, h3, h4, h5, h6⟩ := hst.env.box b f cs he
      have hl : ALRel φ a.tmps (.box b 0) B 0 := ⟨h1, rfl⟩
      obtain ⟨v', g1, g2⟩ := load_sound hst (t := t) hl (cs := cs) (i := 0) (by simp [rdCells, he]) h
      refine ⟨v', ?_, g2⟩
      have : a.tmps.getD b undef = .pointer (some ⟨B, 0, none⟩) := by
        unfold BoxAt at h1
        simp only [Array.getD_eq_getD_getElem?, h1, Option.getD_some]
      simp only [resM, this, asAddr]
      simpa [Instr.loadAt, Instr.sureAddr, asAddr] using g1
    · cases h

theorem ofResults {P : Program} {a : Act} {w : World} (hst : St φ0 H0 w0 φ e H a.tmps w) : ∀ {l : List ResultVar} {vs : List Value}, resVs P e l = some vs →
    ∃ vs', (l.mapM (resM a.tmps)).run P w = .ok vs' w ∧ VRs φ vs vs'
  | [], vs, h => by cases h; exact ⟨[], by simp, .nil⟩
  | x :: l, vs, h => by
    simp only [resVs] at h
    split at h
    · rename_i v vs1 hv hvs
      cases h
      obtain ⟨v', g1, g2⟩ := ofResult hst hv
      obtain ⟨vs', k1, k2⟩ := ofResults hst hvs
      refine ⟨v' :: vs', ?_, .cons g2 k2⟩
      rw [List.mapM_cons]
      simp only [Sem.run_bind, g1, Result.andThen_ok, k1, Sem.run_pure]
    · cases h

theorem resOne_rel {vs vs' : List Value} (h : VRs φ vs vs') : VR φ (resOne vs) (if h : vs'.toArray.size = 1 then vs'.toArray[0] else .tuple vs'.toArray) := by
  cases h with
  | nil => exact VR.tuple_list .nil
  | cons a t =>
    cases t with
    | nil => exact a
    | cons b t => simp only [resOne]; exact VR.tuple_list (.cons a (.cons b t))

/-- A function from its body. -/
theorem call_of_LW {f : FuncId} {fn : Func} {c : Code} {args : List Value} {R : Value → LH → Prop} (hf : P.funcs[f]? = some fn) (hb : fn.body = some c) (hsz : args.length ≤ fn.ntmps)
    (h : LW P fn.ntmps c (LRet P fn R) (argE args) H) : Call P f args H R := by
  intro φ w args' hrel hargs
  refine calls_of_wp hf hb ?_
  have hlen := hargs.length
  have hs : ({ tmps := args'.toArray ++ Array.replicate (fn.ntmps - args'.toArray.size) undef, defers := [] } : Act).tmps.size = fn.ntmps := by simp; omega
  refine wp_mono (h φ H w _ w ⟨rfl, hs, φ, argE args, H, ⟨Fr.refl _ _ _, hrel, ⟨?_, ?_, ?_, ?_⟩, fun _ _ h => h, fun _ _ h => h⟩, fun _ h => h.elim, rfl, rfl⟩) ?_
  · intro t v he
    simp only [argE] at he
    split at he
    · rename_i v1 hv; cases he
      obtain ⟨v', h1, h2⟩ := hargs.get t hv
      refine ⟨v', ?_, h2⟩
      have := (List.getElem?_eq_some_iff.1 h1).1
      rw [Array.getElem?_append_left (by simpa using this)]
      simpa using h1
    · cases he
  · intro t f cs he; simp only [argE] at he; split at he <;> cases he
  · intro t f cs he; simp only [argE] at he; split at he <;> cases he
  · intro t t' f f' cs cs' B B' _ he; simp only [argE] at he; split at he <;> cases he
  · intro x a w' hx
    have key : Cz φ H w fn.ntmps (fun _ => False) (fun e H' => ∃ vs, resVs P e fn.results.toList = some vs ∧ R (resOne vs) H') a w' →
        a.defers = [] ∧ ∃ v, (results fn a.tmps).run P w' = .ok v w' ∧ (∃ u u' φ' H', Ending.returned v = .returned u' ∧ VR φ' u u' ∧ Rel φ' H' w' ∧ Fr φ H w φ' H' w' ∧
      (∀ b, b < H.next → φ b = none → φ' b = none) ∧ (∀ b, b < H.next → H.get b = none → H'.get b = none) ∧ R u H') := by
      rintro ⟨c1, c2, φ', e, H', c3, c4, vs, c5, c6⟩
      obtain ⟨vs', g1, g2⟩ := ofResults c3 c5
      refine ⟨c1, (if h : vs'.toArray.size = 1 then vs'.toArray[0] else .tuple vs'.toArray), ?_, _, _, φ', H', rfl, resOne_rel g2, c3.rel, c3.fr, c3.old, c3.dead, c6⟩
      have hfn : results fn a.tmps = (do let vs ← fn.results.mapM (resM a.tmps); pure (if h : vs.size = 1 then vs[0] else .tuple vs)) := by
        unfold results
        congr 2
      rw [hfn, Array.mapM_eq_mapM_toList]
      simp only [Sem.run_bind, Sem.run_map, g1, Result.andThen_ok, Sem.run_pure]
    cases x with
    | normal => exact key hx
    | ret => exact key hx
    | exit id => obtain ⟨_, _, _, _, _, _, _, c⟩ := hx; exact c.elim
    | goto l => obtain ⟨_, _, _, _, _, _, _, c⟩ := hx; exact c.elim
    | panic ch => obtain ⟨_, _, _, _, _, _, _, c⟩ := hx; exact c.elim
    | outgrown => obtain ⟨_, _, _, _, _, _, _, c⟩ := hx; exact c.elim

end Go.Lg
