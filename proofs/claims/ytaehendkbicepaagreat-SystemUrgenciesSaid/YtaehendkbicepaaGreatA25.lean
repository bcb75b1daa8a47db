/- The logical machine, part 25: closed calls, reckoned. No condition. -/
import Derived.Test.YtaehendkbicepaaGreatA24
set_option linter.unusedVariables false
set_option linter.unusedSimpArgs false
namespace Go.Lg
variable {P : Program} {φ0 φ : Phi} {H0 H H' H2 : LH} {w0 w w' : World} {n base : Nat} {al : Option Nat} {pr : List Nat} {ops : Array Oper}

/-! ### slots in a tree: found in few steps -/
inductive ET
  | leaf (l : EL)
  | node (a b : ET)

def trGet : ET → Nat → EV
  | .leaf l, t => getL l t
  | .node a b, t => match Nat.beq (t % 2) 0 with
    | true => trGet a (t / 2)
    | false => trGet b (t / 2)

def trSet : ET → Nat → EV → ET
  | .leaf l, d, x => .leaf (setL l d x)
  | .node a b, d, x => match Nat.beq (d % 2) 0 with
    | true => .node (trSet a (d / 2) x) b
    | false => .node a (trSet b (d / 2) x)

theorem trGet_set (d : Nat) (x : EV) : ∀ (T : ET), trGet (trSet T d x) = upd (trGet T) d x := by
  intro T
  induction T generalizing d with
  | leaf l => exact getL_set d x l
  | node a b iha ihb =>
    funext t
    simp only [trSet, nbeq, upd]
    by_cases hd : d % 2 = 0
    · simp only [hd, decide_true]
      by_cases ht : t % 2 = 0
      · simp only [trGet, nbeq, ht, decide_true, iha, upd]
        by_cases e : t = d
        · subst e; simp
        · rw [if_neg (by omega), if_neg e]
      · simp only [trGet, nbeq, ht, decide_false]
        rw [if_neg (by rintro rfl; exact ht hd)]
    · simp only [hd, decide_false]
      by_cases ht : t % 2 = 0
      · simp only [trGet, nbeq, ht, decide_true]
        rw [if_neg (by rintro rfl; exact hd ht)]
      · simp only [trGet, nbeq, ht, decide_false, ihb, upd]
        by_cases e : t = d
        · subst e; simp
        · rw [if_neg (by omega), if_neg e]

def trPut (T : ET) : Option Nat → EV → ET
  | none, _ => T
  | some d, x => trSet T d x

theorem trGet_put (T : ET) (dst : Option Nat) (x : EV) : trGet (trPut T dst x) = putE (trGet T) dst x := by
  cases dst with
  | none => rfl
  | some d => exact trGet_set d x T

def trAct (dst : Option Nat) : LRes → ET → ET
  | .val v _, e => trPut e dst (.val v)
  | .ref s i, e => trPut e dst (.ref s i)
  | .box cs, e => trPut e dst (.box false cs)
  | .skip none _, e => trPut e dst .none
  | .skip (some (s, cs)) _, e => trPut (trSet e s (.box false cs)) dst .none

theorem trGet_act (T : ET) (dst : Option Nat) (r : LRes) : trGet (trAct dst r T) = actE dst r (trGet T) := by
  cases r with
  | skip b H1 =>
    cases b with
    | none => exact trGet_put _ _ _
    | some q => obtain ⟨s, cs⟩ := q; simp only [trAct, actE, trGet_put, trGet_set]
  | _ => exact trGet_put _ _ _

def trKeep (p : Nat → Bool) : ET → ET
  | .leaf l => .leaf (keepL p l)
  | .node a b => .node (trKeep (fun t => p (2 * t)) a) (trKeep (fun t => p (2 * t + 1)) b)

theorem trGet_keep (p : Nat → Bool) (t : Nat) : ∀ (T : ET), trGet (trKeep p T) t = if p t then trGet T t else .none := by
  intro T
  induction T generalizing p t with
  | leaf l => exact getL_keep p t l
  | node a b iha ihb =>
    simp only [trKeep, trGet, nbeq]
    by_cases ht : t % 2 = 0
    · simp only [ht, decide_true, iha]
      rw [show 2 * (t / 2) = t by omega]
    · simp only [ht, decide_false, ihb]
      rw [show 2 * (t / 2) + 1 = t by omega]

def trNew : Nat → ET
  | 0 => .leaf []
  | k + 1 => .node (trNew k) (trNew k)

theorem trGet_empty (t : Nat) : ∀ k, trGet (trNew k) t = .none := by
  intro k
  induction k generalizing t with
  | zero => rfl
  | succ k ih =>
    simp only [trNew, trGet]
    split <;> exact ih _

def trArg : Nat → List Value → ET → ET
  | _, [], T => T
  | i, v :: r, T => trArg (i + 1) r (trSet T i (.val v))

theorem trGet_arg : ∀ (args : List Value) (i t : Nat) (T : ET), trGet (trArg i args T) t = (if t < i then trGet T t else (match args[t - i]? with
  | some v => .val v
  | none => trGet T t))
  | [], i, t, T => by simp [trArg]
  | v :: r, i, t, T => by
    simp only [trArg, trGet_arg r, trGet_set, upd]
    by_cases h : t = i
    · subst h; simp
    · by_cases h2 : t < i
      · rw [if_pos (by omega), if_pos h2, if_neg h]
      · rw [if_neg (by omega), if_neg h2, if_neg h, show t - i = (t - (i + 1)) + 1 by omega, List.getElem?_cons_succ]

/-- What a call comes to. -/
abbrev EvC := FuncId → List Value → LH → Option (Value × LH)

def OkC (P : Program) (cl : EvC) : Prop := ∀ f args H v H', cl f args H = some (v, H') → Call P f args H (fun u H2 => u = v ∧ H2 = H')

def evStp (P : Program) (cl : EvC) (n : Nat) (pr : List Nat) (al : Option Nat) (ops : Array Oper) (o : Oper) (l : ET) (H : LH) : Option (ET × LH) :=
  match wantL ops (trGet l) o with
  | some true => match isCall o with
    | true => match callOf (trGet l) o with
      | some (g, vs) => match okFn P g && okDst n (trGet l) o.dst with
        | true => match cl g vs H with
          | some (v, H') => some (trPut l o.dst (.val v), H')
          | none => none
        | false => none
      | none => none
    | false => match lopC P pr al o.dst o.op (trGet l) H with
      | some r => match okRes n (trGet l) o.dst r with
        | true => some (trAct o.dst r l, r.heap H)
        | false => none
      | none => none
  | some false => match okDst n (trGet l) o.dst with
    | true => some (trPut l o.dst (.val undef), H)
    | false => none
  | none => none

theorem evStp_sound {cl : EvC} (hc : OkC P cl) {o : Oper} {l l' : ET} {K : Env → LH → Prop} (h : evStp P cl n pr al ops o l H = some (l', H')) (hk : K (trGet l') H') : stp P n pr al ops o K (trGet l) H := by
  unfold evStp at h
  split at h
  · rename_i hw
    split at h
    · rename_i hcall
      split at h
      · rename_i g vs hco
        split at h
        · rename_i hok
          rw [Bool.and_eq_true] at hok
          split at h
          · rename_i v H1 hcl
            cases h
            refine (stp_call hcall hw _ _).2 ⟨g, vs, hco, hok.1, hok.2, (hc _ _ _ _ _ hcl).mono ?_⟩
            rintro u H2 _ _ ⟨rfl, rfl⟩
            rw [trGet_put] at hk
            exact hk
          · cases h
        · cases h
      · cases h
    · rename_i hcall
      split at h
      · rename_i r hr
        split at h
        · rename_i hok
          cases h
          refine (stp_res (.inl hcall) _ _).2 ⟨r, ?_, hok, ?_⟩
          · unfold res; rw [hw]; exact hr
          · rw [trGet_act] at hk; exact hk
        · cases h
      · cases h
  · rename_i hw
    split at h
    · rename_i hok
      cases h
      rw [trGet_put] at hk
      unfold stp
      rw [hw]
      exact ⟨hok, hk⟩
    · cases h
  · cases h

def evSeq (P : Program) (cl : EvC) (n : Nat) (pr : List Nat) (ops : Array Oper) : List Oper → ET → LH → Option (ET × LH)
  | [], l, H => some (l, H)
  | o :: r, l, H => match evStp P cl n pr none ops o l H with
    | some (l', H') => evSeq P cl n pr ops r l' H'
    | none => none

theorem evSeq_sound {cl : EvC} (hc : OkC P cl) {K : Env → LH → Prop} : ∀ (r : List Oper) (k : Nat), (∀ j, ops[k + j]? = r[j]?) → ∀ {l l' : ET} {H H' : LH},
    evSeq P cl n pr ops r l H = some (l', H') → K (trGet l') H' → seqR P n pr ops (List.range' k r.length) K (trGet l) H
  | [], k, _, l, l', H, H', h, hk => by
    simp only [evSeq, Option.some.injEq, Prod.mk.injEq] at h
    obtain ⟨rfl, rfl⟩ := h; exact hk
  | o :: r, k, hr, l, l', H, H', h, hk => by
    simp only [List.length_cons, List.range'_succ, seqR]
    have h0 := hr 0
    simp only [Nat.add_zero, List.getElem?_cons_zero] at h0
    rw [h0]
    simp only [evSeq] at h
    split at h
    · rename_i l1 H1 h1
      exact evStp_sound hc h1 (evSeq_sound hc r (k + 1) (fun j => by have := hr (j + 1); simp only [List.getElem?_cons_succ] at this; rw [← this]; congr 1; omega) h hk)
    · cases h

/-! ### drawn regions -/
/-- Values that are plainly equal. -/
def veq : Value → Value → Bool
  | .int k a, .int k' b => decide (k = k') && decide (a = b)
  | .bool a, .bool b => a == b
  | .string a, .string b => decide (a = b)
  | .pointer a, .pointer b => decide (a = b)
  | .slice a n c, .slice b m d => decide (a = b) && decide (n = m) && decide (c = d)
  | .map a, .map b => decide (a = b)
  | .nilFunc, .nilFunc => true
  | .nilIface, .nilIface => true
  | _, _ => false

theorem veq_eq : ∀ {x y : Value}, veq x y = true → x = y := by
  intro x y h
  cases x <;> cases y <;> simp only [veq, Bool.false_eq_true, Bool.and_eq_true, decide_eq_true_eq, beq_iff_eq] at h <;> simp_all

def veqL : List Value → List Value → Bool
  | [], [] => true
  | x :: xs, y :: ys => veq x y && veqL xs ys
  | _, _ => false

theorem veqL_eq : ∀ {xs ys : List Value}, veqL xs ys = true → xs = ys
  | [], [], _ => rfl
  | x :: xs, y :: ys, h => by
    simp only [veqL, Bool.and_eq_true] at h
    rw [veq_eq h.1, veqL_eq h.2]
  | [], _ :: _, h => by simp [veqL] at h
  | _ :: _, [], h => by simp [veqL] at h

def veq2 (x y : Value) : Bool :=
  match x, y with
  | .agg a, .agg b => veqL a.toList b.toList
  | .tuple a, .tuple b => veqL a.toList b.toList
  | x, y => veq x y

theorem veq2_eq {x y : Value} (h : veq2 x y = true) : x = y := by
  unfold veq2 at h
  split at h
  · rw [Array.toList_inj.1 (veqL_eq h)]
  · rw [Array.toList_inj.1 (veqL_eq h)]
  · exact veq_eq h

def evPre (P : Program) (n : Nat) (pr : List Nat) (ops : Array Oper) (base : Nat) (l : ET) (H : LH) : List Nat → Bool
  | [] => true
  | a :: r => match ops[a]? with
    | some o => match res P pr (some (base + a)) ops o (trGet l) H with
      | some x => match okRes n (trGet l) o.dst x with
        | true => evPre P n pr ops base l H r
        | false => false
      | none => false
    | none => false

theorem evPre_spec {l : ET} : ∀ {as : List Nat}, evPre P n pr ops base l H as = true → ∀ a ∈ as, preA P n pr ops base a (trGet l) H
  | [], _, a, ha => by cases ha
  | b :: r, h, a, ha => by
    simp only [evPre] at h
    split at h
    · rename_i o ho
      split at h
      · rename_i x hx
        split at h
        · rename_i hok
          rcases List.mem_cons.1 ha with rfl | ha
          · unfold preA; rw [ho]; exact ⟨x, hx, hok⟩
          · exact evPre_spec h a ha
        · cases h
      · cases h
    · cases h

def evRe (P : Program) (pr : List Nat) (ops : Array Oper) (l : ET) (H : LH) : List Nat → Bool
  | [] => true
  | j :: r => match ops[j]? with
    | some o => match o.dst with
      | some d => match trGet l d with
        | .val v => match clo pr o with
          | .R => match res P pr none ops o (trGet l) H with
            | some (.val v' _) => match veq2 v' v with
              | true => evRe P pr ops l H r
              | false => false
            | _ => false
          | _ => false
        | _ => false
      | none => false
    | none => false

theorem evRe_spec {l : ET} : ∀ {as : List Nat}, evRe P pr ops l H as = true → ∀ a ∈ as, rechk P pr ops a (trGet l) H
  | [], _, a, ha => by cases ha
  | b :: r, h, a, ha => by
    simp only [evRe] at h
    split at h <;> try (cases h; done)
    rename_i o ho
    split at h <;> try (cases h; done)
    rename_i d hd
    split at h <;> try (cases h; done)
    rename_i v hv
    split at h <;> try (cases h; done)
    rename_i hcl
    split at h <;> try (cases h; done)
    rename_i v' H1 hr
    split at h <;> try (cases h; done)
    rename_i hveq
    rcases List.mem_cons.1 ha with rfl | ha
    · have hv' := veq2_eq hveq
      subst hv'
      obtain ⟨q1, ⟨u, q2⟩, -⟩ := res_R hcl hr
      cases q2
      unfold rechk
      rw [ho]
      exact ⟨_, d, hd, hv, hr⟩
    · exact evRe_spec h a ha

def evDrw (P : Program) (cl : EvC) (n : Nat) (pr : List Nat) (ops : Array Oper) (base : Nat) : List DS → ET → LH → Option (ET × LH)
  | [], l, H => some (l, H)
  | s :: r, l, H => match evPre P n pr ops base l H s.as with
    | true => match ops[s.i]? with
      | some o => match evStp P cl n pr (some (base + s.i)) ops o l H with
        | some (l', H') => match evRe P pr ops l' H' s.re with
          | true => evDrw P cl n pr ops base r l' H'
          | false => none
        | none => none
      | none => none
    | false => none

theorem evDrw_sound {cl : EvC} (hc : OkC P cl) {K : Env → LH → Prop} : ∀ (r : List DS) {l l' : ET} {H H' : LH},
    evDrw P cl n pr ops base r l H = some (l', H') → K (trGet l') H' → drwR P n pr ops base r K (trGet l) H
  | [], l, l', H, H', h, hk => by
    simp only [evDrw, Option.some.injEq, Prod.mk.injEq] at h
    obtain ⟨rfl, rfl⟩ := h; exact hk
  | s :: r, l, l', H, H', h, hk => by
    simp only [evDrw] at h
    split at h <;> try (cases h; done)
    rename_i hp
    split at h <;> try (cases h; done)
    rename_i o ho
    split at h <;> try (cases h; done)
    rename_i l1 H1 h1
    split at h <;> try (cases h; done)
    rename_i hre
    refine ⟨evPre_spec hp, ?_⟩
    rw [ho]
    exact evStp_sound hc h1 ⟨evRe_spec hre, evDrw_sound hc r h hk⟩

/-! ### the order -/
def rankC (pr : List Nat) (o : Oper) : Nat := match clo pr o with
  | .P => 0 | .R => 0 | .E => 1 | .A => 2

def allIn (done : List Nat) : List Nat → Bool
  | [] => true
  | d :: r => match hasN done d with
    | true => allIn done r
    | false => false

def bestC (pr : List Nat) (ops : Array Oper) (done : List Nat) : List Nat → Option (Nat × Nat) → Option (Nat × Nat)
  | [], b => b
  | i :: r, b => match ops[i]? with
    | some o => match allIn done (preds o) with
      | true => match b with
        | none => bestC pr ops done r (some (rankC pr o, i))
        | some (k, j) => match Nat.blt (rankC pr o) k with
          | true => bestC pr ops done r (some (rankC pr o, i))
          | false => bestC pr ops done r (some (k, j))
      | false => bestC pr ops done r b
    | none => bestC pr ops done r b

def orderC (pr : List Nat) (ops : Array Oper) : Nat → List Nat → List Nat → List Nat
  | 0, done, _ => done.reverse
  | k + 1, done, todo => match bestC pr ops done todo none with
    | some (_, i) => orderC pr ops k (i :: done) (dropN todo i)
    | none => done.reverse

def isE (pr : List Nat) (ops : Array Oper) (i : Nat) : Bool := match ops[i]? with | some o => (match clo pr o with | .E => true | _ => false) | none => false
def isR (pr : List Nat) (ops : Array Oper) (i : Nat) : Bool := match ops[i]? with | some o => (match clo pr o with | .R => true | _ => false) | none => false
def isA (pr : List Nat) (ops : Array Oper) (i : Nat) : Bool := match ops[i]? with | some o => (match clo pr o with | .A => true | _ => false) | none => false

def canonGo (pr : List Nat) (ops : Array Oper) (an : List Nat) : List Nat → List Nat → List DS
  | _, [] => []
  | before, i :: r => (match isE pr ops i with
      | true => DS.mk i (before.filter fun j => isR pr ops j && !((an.getD i 0).testBit j)) (r.filter fun j => isA pr ops j && !((an.getD j 0).testBit i))
      | false => DS.mk i [] []) :: canonGo pr ops an (i :: before) r

/-- An order that may stand for all. -/
def canon (pr : List Nat) (ops : Array Oper) : List DS :=
  canonGo pr ops (ancs ops) [] (orderC pr ops ops.size [] (List.range ops.size))

/-! ### code -/
/-! ### slots that are made anew -/
def clashD (l : ET) : List Oper → Bool
  | [] => false
  | o :: r => match o.dst with
    | some t => match isBox (trGet l t) with
      | true => true
      | false => clashD l r
    | none => clashD l r

def hasDst (t : Nat) : List Oper → Bool
  | [] => false
  | o :: r => match o.dst with
    | some d => match Nat.beq d t with
      | true => true
      | false => hasDst t r
    | none => hasDst t r

def bse (ops : List Oper) (l : ET) (t : Nat) : Bool := match isBox (trGet l t) with
  | true => !(hasDst t ops)
  | false => true

def dropP (ops : List Oper) (l : ET) (t : Nat) : Bool := match bse ops l t with
  | true => match trGet l t with
    | .ref s _ => match isBox (trGet l s) with
      | true => bse ops l s
      | false => false
    | _ => true
  | false => false

/-- Without the boxes in whose slots something is made anew. -/
def dropE (ops : List Oper) (l : ET) : ET := match clashD l ops with
  | true => trKeep (dropP ops l) l
  | false => l

theorem LW.dropE {c : Code} {Q : Exit → Env → LH → Prop} {os : List Oper} {l : ET} (h : LW P n c Q (trGet (dropE os l)) H) : LW P n c Q (trGet l) H := by
  unfold Lg.dropE at h
  split at h
  · refine LW.sub (e' := trGet (trKeep (dropP os l) l)) ?_ ?_ h
    · intro t
      rw [trGet_keep]
      split
      · exact .inr rfl
      · exact .inl rfl
    · intro t s o ht
      rw [trGet_keep] at ht
      split at ht
      · rename_i hp
        unfold dropP at hp
        split at hp
        · rw [ht] at hp
          simp only at hp
          split at hp
          · rename_i hb
            have hps : dropP os l s = true := by
              unfold dropP
              rw [hp]
              simp only
              split
              · rename_i g; rw [g] at hb; simp [isBox] at hb
              · rfl
            rw [trGet_keep, hps]
            exact hb
          · cases hp
        · cases hp
      · cases ht
  · exact h

def evLoop (body : ET → LH → Option (Exit × ET × LH)) : Nat → ET → LH → Option (Exit × ET × LH)
  | 0, _, _ => none
  | k + 1, l, H => match body l H with
    | some (.normal, l', H') => evLoop body k l' H'
    | r => r

def evCode (P : Program) (cl : EvC) (n : Nat) (pr : List Nat) : Code → ET → LH → Option (Exit × ET × LH)
  | .skip, l, H => some (.normal, l, H)
  | .exit id, l, H => some (.exit id, l, H)
  | .ret, l, H => some (.ret, l, H)
  | .seq a b, l, H => match evCode P cl n pr a l H with
    | some (.normal, l', H') => evCode P cl n pr b l' H'
    | r => r
  | .cond c a b, l, H => match opd (trGet l) c with
    | some (.bool true) => evCode P cl n pr a l H
    | some (.bool false) => evCode P cl n pr b l H
    | _ => none
  | .block id c, l, H => match evCode P cl n pr c l H with
    | some (.exit i, l', H') => match Nat.beq i id with
      | true => some (.normal, l', H')
      | false => some (.exit i, l', H')
    | r => r
  | .loop c, l, H => evLoop (evCode P cl n pr c) 100000 l H
  | .region _ ops false, l, H => match evSeq P cl n pr ops ops.toList (dropE ops.toList l) H with
    | some (l', H') => some (.normal, l', H')
    | none => none
  | .region _ ops true, l, H => match drawOk pr ops (canon pr ops) with
    | true => match evDrw P cl n pr ops H.next (canon pr ops) (dropE ops.toList l) (H.keep ops.size) with
      | some (l', H') => some (.normal, l', H')
      | none => none
    | false => none
  | _, _, _ => none

theorem evLoop_sound {c : Code} {body : ET → LH → Option (Exit × ET × LH)} (hb : ∀ l H x l' H', body l H = some (x, l', H') → ∀ Q : Exit → Env → LH → Prop, Q x (trGet l') H' → LW P n c Q (trGet l) H) :
    ∀ {k : Nat} {l : ET} {H : LH} {x : Exit} {l' : ET} {H' : LH}, evLoop body k l H = some (x, l', H') → ∀ Q : Exit → Env → LH → Prop, Q x (trGet l') H' → LW P n (.loop c) Q (trGet l) H := by
  intro k l H x l' H' h Q hq
  refine LW.loop (fun m e H => ∃ l, e = trGet l ∧ evLoop body m l H = some (x, l', H')) (m := k) ⟨l, rfl, h⟩ ?_
  rintro m e H ⟨l, rfl, h⟩
  cases m with
  | zero => cases h
  | succ m =>
    simp only [evLoop] at h
    split at h
    · rename_i l1 H1 h1
      exact hb _ _ _ _ _ h1 _ ⟨m, Nat.lt_succ_self m, l1, rfl, h⟩
    · rename_i r hne
      refine hb _ _ _ _ _ h _ ?_
      cases x with
      | normal => exact absurd h (hne _ _)
      | _ => exact hq

theorem evCode_sound (hm : P.follows .mixedOrders = true) {cl : EvC} (hc : OkC P cl) : ∀ (c : Code) (l : ET) (H : LH) (x : Exit) (l' : ET) (H' : LH), evCode P cl n pr c l H = some (x, l', H') →
    ∀ Q : Exit → Env → LH → Prop, Q x (trGet l') H' → LW P n c Q (trGet l) H := by
  intro c
  induction c <;> intro l H x l' H' h Q hq <;> try simp only [evCode] at h
  all_goals try (cases h; done)
  case skip => cases h; exact LW.skip hq
  case exit id => cases h; exact LW.exit hq
  case ret => cases h; exact LW.ret hq
  case seq a b iha ihb =>
    split at h
    · rename_i l1 H1 h1
      exact LW.seq (iha _ _ _ _ _ h1 _ (ihb _ _ _ _ _ h _ hq))
    · rename_i r hne
      refine LW.seq (iha _ _ _ _ _ h _ ?_)
      cases x with
      | normal => exact absurd h (hne _ _)
      | _ => exact hq
  case cond o a b iha ihb =>
    split at h
    · rename_i hv; exact LW.cond (b := true) hv (iha _ _ _ _ _ h _ hq)
    · rename_i hv; exact LW.cond (b := false) hv (ihb _ _ _ _ _ h _ hq)
    · cases h
  case block id c ih =>
    split at h
    · rename_i i l1 H1 h1
      refine LW.block (ih _ _ _ _ _ h1 _ ?_)
      split at h
      · rename_i hi
        cases h
        simp only [LBlock]; rw [if_pos (Nat.eq_of_beq_eq_true hi)]; exact hq
      · rename_i hi
        cases h
        simp only [LBlock]
        rw [if_neg (fun hh => by rw [hh] at hi; simp at hi)]; exact hq
    · rename_i r hne
      refine LW.block (ih _ _ _ _ _ h _ ?_)
      cases x with
      | exit i => exact absurd h (hne _ _ _)
      | _ => exact hq
  case loop c ih => exact evLoop_sound (fun l H x l' H' h Q hq => ih l H x l' H' h Q hq) h Q hq
  case region id ops dr =>
    cases dr <;> simp only [evCode] at h
    · split at h
      · rename_i l1 H1 h1
        cases h
        refine LW.dropE (os := ops.toList) (LW.region pr ?_)
        have := evSeq_sound (K := Q .normal) hc ops.toList 0 (fun j => by simp) h1 hq
        rw [List.range_eq_range']
        simpa using this
      · cases h
    · split at h <;> try (cases h; done)
      rename_i hd
      split at h <;> try (cases h; done)
      rename_i l1 H1 h1
      cases h
      exact LW.dropE (os := ops.toList) (LW.draw hm pr _ ⟨hd, evDrw_sound hc _ h1 hq⟩)

/-- Calls, so many deep. The second list: which boxes of a function may be slots. -/
def evCall (P : Program) (prs : FuncId → List Nat) : Nat → EvC
  | 0 => fun _ _ _ => none
  | k + 1 => fun f args H => match P.funcs[f]? with
    | some fn => match fn.body with
      | some c => match Nat.ble args.length fn.ntmps with
        | true => match evCode P (evCall P prs k) fn.ntmps (prs f) c (trArg 0 args (trNew 5)) H with
          | some (.normal, l, H') => match resVs P (trGet l) fn.results.toList with
            | some vs => some (resOne vs, H')
            | none => none
          | some (.ret, l, H') => match resVs P (trGet l) fn.results.toList with
            | some vs => some (resOne vs, H')
            | none => none
          | _ => none
        | false => none
      | none => none
    | none => none

theorem evCall_ok (hm : P.follows .mixedOrders = true) {prs : FuncId → List Nat} : ∀ (k : Nat), OkC P (evCall P prs k)
  | 0 => fun f args H v H' h => by cases h
  | k + 1 => fun f args H v H' h => by
    simp only [evCall] at h
    split at h <;> try (cases h; done)
    rename_i fn hf
    split at h <;> try (cases h; done)
    rename_i c hb
    split at h <;> try (cases h; done)
    rename_i hsz
    have he : argE args = trGet (trArg 0 args (trNew 5)) := by
      funext t; rw [trGet_arg]; simp only [argE, Nat.not_lt_zero, if_false, Nat.sub_zero]; cases args[t]? <;> simp [trGet_empty]
    refine call_of_LW hf hb (by simpa using hsz) ?_
    rw [he]
    split at h <;> try (cases h; done)
    all_goals
      rename_i l H1 h1
      split at h <;> try (cases h; done)
      rename_i vs hvs
      cases h
      exact evCode_sound hm (evCall_ok hm k) _ _ _ _ _ _ h1 _ ⟨vs, hvs, rfl, rfl⟩

/-! ### from the empty heap to every heap -/
theorem VR.again {ψ : Phi} : ∀ {v v' : Value}, VR φ v v' → ∀ n, closed n v = true → VR ψ v v' := by
  intro v v' h
  induction h with
  | bool b => exact fun _ _ => .bool b
  | int k n => exact fun _ _ => .int k n
  | string s => exact fun _ _ => .string s
  | ptrNil => exact fun _ _ => .ptrNil
  | ptr h => intro n hn; cases n <;> simp [closed] at hn
  | slNil => exact fun _ _ => .slNil
  | sl h hn ht hs => intro n hn; cases n <;> simp [closed] at hn
  | slEnd => intro n hn; cases n <;> simp [closed] at hn
  | mapNil => exact fun _ _ => .mapNil
  | map h => intro n hn; cases n <;> simp [closed] at hn
  | nilFunc => exact fun _ _ => .nilFunc
  | func hf h1 hc h2 ih1 ih2 =>
    intro n hn
    cases n with
    | zero => simp [closed] at hn
    | succ n =>
      simp only [closed, Bool.and_eq_true, List.all_eq_true] at hn
      exact .func hf (fun i v v' a b => ih1 i v v' a b n (hn.1 v (by rw [Array.mem_toList_iff]; exact Array.mem_of_getElem? a))) hc
        (fun i v v' a b => ih2 i v v' a b n (hn.2 v (by rw [Array.mem_toList_iff]; exact Array.mem_of_getElem? a)))
  | nilIface => exact fun _ _ => .nilIface
  | iface t h ih =>
    intro n hn
    cases n with
    | zero => simp [closed] at hn
    | succ n => simp only [closed] at hn; exact .iface t (ih n hn)
  | agg hc h ih =>
    intro n hn
    cases n with
    | zero => simp [closed] at hn
    | succ n =>
      simp only [closed, List.all_eq_true] at hn
      exact .agg hc (fun i v v' a b => ih i v v' a b n (hn v (by rw [Array.mem_toList_iff]; exact Array.mem_of_getElem? a)))
  | tuple hc h ih =>
    intro n hn
    cases n with
    | zero => simp [closed] at hn
    | succ n =>
      simp only [closed, List.all_eq_true] at hn
      exact .tuple hc (fun i v v' a b => ih i v v' a b n (hn v (by rw [Array.mem_toList_iff]; exact Array.mem_of_getElem? a)))

theorem VRs.again {ψ : Phi} {n : Nat} : ∀ {xs ys : List Value}, VRs φ xs ys → xs.all (closed n) = true → VRs ψ xs ys
  | _, _, .nil, _ => .nil
  | _, _, .cons h t, hn => by
    simp only [List.all_cons, Bool.and_eq_true] at hn
    exact .cons (h.again n hn.1) (t.again hn.2)

def LH.empty : LH := { next := 0, get := fun _ => none }

/-- A closed call, wherever it is made. -/
theorem Call.closed {f : FuncId} {args : List Value} {v : Value} {n : Nat} (ha : args.all (Lg.closed n) = true) (hv : Lg.closed n v = true) (h : Call P f args LH.empty (fun u _ => u = v)) :
    Call P f args H (fun u H' => u = v ∧ H' = H) := by
  intro φ w args' hrel hargs
  refine (h (fun _ => none) w args' ⟨fun b m hb => (by cases hb), fun b o hb => (by cases hb), fun b b' o o' m m' _ hb => (by cases hb)⟩ (hargs.again ha)).mono ?_
  rintro en w1 ⟨u, u', φ1, H1, h1, h2, h3, h4, h5, h6, rfl⟩
  have hw : ∀ B, B < w.heap.size → w1.heap[B]? = w.heap[B]? := fun B hB => h4.same B hB (by rintro ⟨b, o, m, hb, -⟩; cases hb)
  refine ⟨u, u', φ, H, h1, h2.again n hv, ⟨fun b m hb => ⟨(hrel.dom b m hb).1, Nat.lt_of_lt_of_le (hrel.dom b m hb).2 h4.size⟩, fun b o hb => ?_, hrel.sep⟩, ?_, fun b _ hb => hb, fun b _ hb => hb, rfl, rfl⟩
  · obtain ⟨m, hm, ho⟩ := hrel.live b o hb
    exact ⟨m, hm, by rw [hw _ (hrel.dom b m hm).2]; exact ho⟩
  · exact ⟨h4.os, h4.tape, h4.output, h4.size, fun _ _ hb => hb, Nat.le_refl _, fun B hB _ => hw B hB, fun B hB => .inl hB, fun B hB => .inl hB⟩

/-- A closed call that was reckoned. -/
def evIs (P : Program) (prs : FuncId → List Nat) (k : Nat) (f : FuncId) (args : List Value) (v : Value) : Bool :=
  args.all (Lg.closed 5) && Lg.closed 5 v && match evCall P prs k f args LH.empty with
  | some (u, _) => veq2 u v
  | none => false

theorem call_of_evIs (hm : P.follows .mixedOrders = true) {prs : FuncId → List Nat} {k : Nat} {f : FuncId} {args : List Value} {v : Value} (h : evIs P prs k f args v = true) :
    Call P f args H (fun u H' => u = v ∧ H' = H) := by
  unfold evIs at h
  simp only [Bool.and_eq_true] at h
  obtain ⟨⟨h1, h2⟩, h3⟩ := h
  refine Call.closed h1 h2 ?_
  split at h3
  · rename_i u H1 hc
    rw [← veq2_eq h3]
    exact (evCall_ok hm k _ _ _ _ _ hc).mono fun _ _ _ _ hh => hh.1
  · cases h3

end Go.Lg
