/- The logical machine, part 13: regions whose order is drawn. No condition. -/
import Derived.Test.YtaehendkbicepaaGreatA12
set_option linter.unusedVariables false
set_option linter.unusedSimpArgs false
namespace Go.Lg
variable {P : Program} {φ0 φ : Phi} {H0 H H' H2 : LH} {w0 w w' : World} {e e' e2 : Env} {tmps : Array Value} {n base : Nat} {al : Option Nat} {pr : List Nat} {ops : Array Oper}

/-- A region in the order of its text. -/
def seqR (P : Program) (n : Nat) (pr : List Nat) (ops : Array Oper) : List Nat → (Env → LH → Prop) → Env → LH → Prop
  | [], K, e, H => K e H
  | i :: r, K, e, H => match ops[i]? with
    | some o => stp P n pr none ops o (seqR P n pr ops r K) e H
    | none => False

theorem seqR_sound {K : Env → LH → Prop} {Q : Exit → Act → World → Prop} (hK : ∀ a w, Cz φ0 H0 w0 n (fun _ => False) K a w → Q .normal a w) : ∀ (l : List Nat) (a : Act) (w : World),
    Cz φ0 H0 w0 n (fun _ => False) (seqR P n pr ops l K) a w → wpOps P ops Q l a w
  | [], a, w, h => hK a w h
  | i :: r, a, w, ⟨hd, hn, φ, e, H, hst, hS, h⟩ => by
    simp only [seqR] at h
    simp only [wpOps]
    cases ho : ops[i]? with
    | none => rw [ho] at h; exact h.elim
    | some o =>
      rw [ho] at h
      simp only
      exact stp_sound (S := fun _ => False) (S' := fun _ => False) (al := none) hst hd hn hS (fun b hb => by cases hb) (fun b hb => hb.elim) h (fun a w hc => seqR_sound hK r a w hc)

/-! ### what a result does to an environment -/
def actE (dst : Option Nat) : LRes → Env → Env
  | .val v _, e => putE e dst (.val v)
  | .ref s i, e => putE e dst (.ref s i)
  | .box cs, e => putE e dst (.box false cs)
  | .skip none _, e => putE e dst .none
  | .skip (some (s, cs)) _, e => putE (upd e s (.box false cs)) dst .none

/-- A result needs a slot if it is no plain value. -/
def okRes (n : Nat) (e : Env) (dst : Option Nat) : LRes → Bool
  | .val _ _ => okDst n e dst
  | .ref _ _ => dst.isSome && okDst n e dst
  | .box _ => dst.isSome && okDst n e dst
  | .skip _ _ => okDst n e dst

theorem fin_eq (e : Env) (H : LH) (dst : Option Nat) (r : LRes) : fin n e H dst r = if okRes n e dst r then some (actE dst r e, r.heap H) else none := by
  cases r with
  | val v H1 => simp only [fin, okRes, actE, LRes.heap]; rfl
  | ref s i => cases dst <;> simp [fin, okRes, actE, LRes.heap, putE]
  | box cs => cases dst <;> simp [fin, okRes, actE, LRes.heap, putE]
  | skip b H1 =>
    cases b with
    | none => simp only [fin, okRes, actE, LRes.heap]; rfl
    | some q => obtain ⟨s, cs⟩ := q; simp only [fin, okRes, actE, LRes.heap]; rfl

/-- What a step comes to that is no call of a function: its result. -/
def res (P : Program) (pr : List Nat) (al : Option Nat) (ops : Array Oper) (o : Oper) (e : Env) (H : LH) : Option LRes :=
  match wantL ops e o with
  | some true => lopC P pr al o.dst o.op e H
  | some false => some (.val undef H)
  | none => none

def isCall (o : Oper) : Bool :=
  match o.op with
  | .call c => match c.callee with
    | .value _ => true
    | _ => false
  | _ => false

theorem stp_res {o : Oper} (hc : isCall o = false ∨ wantL ops e o = some false) (K : Env → LH → Prop) (H : LH) :
    stp P n pr al ops o K e H ↔ ∃ r, res P pr al ops o e H = some r ∧ okRes n e o.dst r = true ∧ K (actE o.dst r e) (r.heap H) := by
  have key : ∀ K : Env → LH → Prop, (match lop P n pr al o e H with | some (e', H') => K e' H' | none => False) ↔ ∃ r, lopC P pr al o.dst o.op e H = some r ∧ okRes n e o.dst r = true ∧ K (actE o.dst r e) (r.heap H) := by
    intro K
    unfold lop
    cases hr : lopC P pr al o.dst o.op e H with
    | none => simp
    | some r =>
      simp only [fin_eq]
      cases hok : okRes n e o.dst r
      · simp [hok]
      · simp [hok]
  unfold stp res
  cases hw : wantL ops e o with
  | none => simp
  | some b =>
    cases b
    · simp only [Option.some.injEq]
      constructor
      · rintro ⟨h1, h2⟩; exact ⟨_, rfl, h1, h2⟩
      · rintro ⟨r, rfl, h1, h2⟩; exact ⟨h1, h2⟩
    · simp only
      have hc' : isCall o = false := by
        rcases hc with hc | hc
        · exact hc
        · rw [hw] at hc; cases hc
      unfold stpOp
      unfold isCall at hc'
      split
      · rename_i c hop
        rw [hop] at hc'
        split
        · rename_i f hf; simp [hf] at hc'
        · exact key K
      · exact key K

/-- The function that a step calls, and with what. -/
def callOf (e : Env) (o : Oper) : Option (FuncId × List Value) :=
  match o.op with
  | .call c => match c.callee with
    | .value f => match opd e f, opds e c.args.toList with
      | some (.func (.func g) fs cs), some vs => some (g, fs.toList ++ vs ++ cs.toList)
      | _, _ => none
    | _ => none
  | _ => none

theorem stp_call {o : Oper} (hc : isCall o = true) (hw : wantL ops e o = some true) (K : Env → LH → Prop) (H : LH) :
    stp P n pr al ops o K e H ↔ ∃ g l, callOf e o = some (g, l) ∧ okFn P g = true ∧ okDst n e o.dst = true ∧ Call P g l H (fun v H' => K (putE e o.dst (.val v)) H') := by
  unfold stp callOf
  rw [hw]
  unfold isCall at hc
  simp only
  unfold stpOp
  split at hc
  · rename_i c hop
    split at hc
    · rename_i f hf
      simp only [hop, hf]
      cases h1 : opd e f with
      | none => simp
      | some q =>
        cases h2 : opds e c.args.toList with
        | none => cases q <;> simp
        | some vs =>
          cases q with
          | func fn fs cs =>
            cases fn with
            | func g =>
              simp only
              constructor
              · rintro ⟨h1, h2, h3⟩; exact ⟨_, _, rfl, h1, h2, h3⟩
              · rintro ⟨g, l, h, h1, h2, h3⟩; cases h; exact ⟨h1, h2, h3⟩
            | _ => simp
          | _ => simp
    · cases hc
  · cases hc

theorem callOf_lk {o : Oper} (h : ∀ t ∈ o.looksAt ops, Lk (e t) (e2 t)) : callOf e2 o = callOf e o := by
  unfold callOf
  split
  · rename_i c hop
    have hk : LkOn (Op.call c).operands.toList e e2 := fun t ht => h t (by simp only [Oper.looksAt, List.mem_append, List.mem_filterMap]; exact .inl ⟨_, by rw [hop]; exact ht, rfl⟩)
    split
    · rename_i f hf
      rw [opd_lk (e := e) (e2 := e2) (hk.sub (ys := [f]) (by simp [Op.operands, Call.operands, hf])), opds_lk (e := e) (e2 := e2) (hk.sub (ys := c.args.toList) (by simp +contextual [Op.operands, Call.operands]))]
    · rfl
  · rfl

theorem stp_mono {o : Oper} {K K' : Env → LH → Prop} (h : stp P n pr al ops o K e H) (hk : ∀ e' H', H.next ≤ H'.next → K e' H' → K' e' H') : stp P n pr al ops o K' e H := by
  unfold stp at h ⊢
  split at h
  · unfold stpOp at h ⊢
    have key : (match lop P n pr al o e H with | some (e', H') => K e' H' | none => False) → (match lop P n pr al o e H with | some (e', H') => K' e' H' | none => False) := by
      intro h
      split at h
      · rename_i e' H' hl; exact hk _ _ (lop_next hl) h
      · exact h
    split at h
    · split at h
      · split at h
        · obtain ⟨h1, h2, h3⟩ := h
          exact ⟨h1, h2, h3.mono fun v H' hn _ hr => hk _ _ hn hr⟩
        · exact h
      · exact key h
    · exact key h
  · exact ⟨h.1, hk _ _ (Nat.le_refl _) h.2⟩
  · exact h

/-! ### the drawn order -/
def preA (P : Program) (n : Nat) (pr : List Nat) (ops : Array Oper) (base a : Nat) (e : Env) (H : LH) : Prop :=
  match ops[a]? with
  | some o => ∃ r, res P pr (some (base + a)) ops o e H = some r ∧ okRes n e o.dst r = true
  | none => False

def rechk (P : Program) (pr : List Nat) (ops : Array Oper) (j : Nat) (e : Env) (H : LH) : Prop :=
  match ops[j]? with
  | some o => ∃ v d, o.dst = some d ∧ e d = .val v ∧ res P pr none ops o e H = some (.val v H)
  | none => False

/-- A step of the canonical order: the operation, what is looked at again behind it, and what must be possible before it. -/
structure DS where
  i : Nat
  re : List Nat
  as : List Nat

def drwR (P : Program) (n : Nat) (pr : List Nat) (ops : Array Oper) (base : Nat) : List DS → (Env → LH → Prop) → Env → LH → Prop
  | [], K, e, H => K e H
  | s :: r, K, e, H => (∀ a ∈ s.as, preA P n pr ops base a e H) ∧ match ops[s.i]? with
    | some o => stp P n pr (some (base + s.i)) ops o (fun e' H' => (∀ j ∈ s.re, rechk P pr ops j e' H') ∧ drwR P n pr ops base r K e' H') e H
    | none => False

/-- The class of a step. -/
def clo (pr : List Nat) (o : Oper) : Cl := cls pr o.dst o.op

/-- What a step writes is no concern of another one's. -/
def clearOf (ops : Array Oper) (o y : Oper) : Bool :=
  match o.dst with
  | none => true
  | some d => !(y.looksAt ops).contains d && !(y.dst == some d)

theorem clearOf_spec {o y : Oper} (h : clearOf ops o y = true) : (∀ d, o.dst = some d → d ∉ y.looksAt ops) ∧ (∀ d, o.dst = some d → y.dst ≠ some d) := by
  unfold clearOf at h
  split at h
  · rename_i hd; rw [hd]; exact ⟨fun d hd => (by cases hd), fun d hd => (by cases hd)⟩
  · rename_i d hd
    simp only [Bool.and_eq_true, Bool.not_eq_true', List.contains_eq_mem, decide_eq_false_iff_not, beq_eq_false_iff_ne, ne_eq] at h
    rw [hd]
    exact ⟨fun t ht => (by cases ht; exact h.1), fun t ht => (by cases ht; exact h.2)⟩

/-- Two steps may change places. -/
def swapOk (pr : List Nat) (ops : Array Oper) (x s : DS) : Bool :=
  match ops[x.i]?, ops[s.i]? with
  | some ox, some oi =>
    x.i != s.i && ox.apart ops oi && x.re.all (fun y => match ops[y]? with
      | some oy => clearOf ops oi oy && clo pr oy == .R && !isCall oy
      | none => false) &&
    x.as.all (fun y => match ops[y]? with
      | some oy => (y == s.i || clearOf ops oi oy) && clo pr oy == .A && !isCall oy
      | none => false) &&
    s.re.all (fun y => y == x.i || match ops[y]? with
      | some oy => clearOf ops ox oy && clo pr oy == .R && !isCall oy
      | none => false) &&
    (clo pr ox == .E || (x.re.isEmpty && x.as.isEmpty)) && (clo pr oi == .E || s.re.isEmpty) &&
    (match clo pr ox, clo pr oi with
     | .P, .P | .P, .R | .R, .P | .R, .R | .P, .E => true
     | .R, .E => s.re.contains x.i && (match ox.dst with | some d => !(ox.looksAt ops).contains d | none => false)
     | .P, .A | .R, .A | .A, .A => true
     | .E, .A => x.as.contains s.i
     | _, _ => false)
  | _, _ => false

theorem isCall_E {o : Oper} (h : isCall o = true) : clo pr o = .E := by
  obtain ⟨dst, op, ty, pos, after, guard⟩ := o
  unfold isCall at h
  cases op <;> simp only at h <;> try (cases h; done)
  rename_i c
  obtain ⟨callee, args, ats⟩ := c
  cases callee <;> simp only at h <;> try (cases h; done)
  rfl

theorem notCall {o : Oper} (h : clo pr o ≠ .E) : isCall o = false := by
  cases hc : isCall o with
  | false => rfl
  | true => exact absurd (isCall_E hc) h

theorem cVal_val {H : LH} {x : Option Value} {r : LRes} (h : cVal H x = some r) : ∃ v, r = .val v H := by
  cases x with
  | none => simp [cVal] at h
  | some v => simp only [cVal] at h; cases h; exact ⟨v, rfl⟩

def LRes.plain : LRes → Bool
  | .val _ _ => true
  | .ref _ _ => true
  | _ => false

theorem lopP_plain {dst : Option Nat} {op : Op} {r : LRes} (hc : cls pr dst op = .P) (h : lopC P pr al dst op e H = some r) : r.plain = true := by
  have kv : ∀ {x : Option Value}, cVal H x = some r → r.plain = true := fun hx => by
    obtain ⟨v, rfl⟩ := cVal_val hx; rfl
  have kr : ∀ {s i : Nat}, some (LRes.ref s i) = some r → r.plain = true := fun hx => by cases hx; rfl
  have ka : ∀ {l : AL} {k : Nat}, cAddr H l k = some r → r.plain = true := fun {l k} hx => by
    cases l with
    | heap b i => exact kv (x := some (.pointer (some ⟨b, i + k, none⟩))) hx
    | box s i => exact kr hx
  cases op <;> simp only [cls] at hc <;> try (cases hc; done)
  case call c =>
    obtain ⟨callee, args, argTypes⟩ := c
    cases callee <;> simp only at hc <;> try (cases hc; done)
    rename_i b
    cases b <;> simp only at hc <;> try (cases hc; done)
    all_goals
      simp only [lopC] at h
      split at h
      · exact kv h
      · cases h
  all_goals
    simp only [lopC] at h
    first
      | exact kv h
      | ((repeat' split at h) <;> first | exact kv h | exact ka h | exact kr h | (cases h; done))

theorem lopR_val {dst : Option Nat} {op : Op} {r : LRes} (hc : cls pr dst op = .R) (h : lopC P pr al dst op e H = some r) : ∃ v, r = .val v H := by
  cases op <;> simp only [cls] at hc <;> try (cases hc; done)
  case call c =>
    obtain ⟨callee, args, argTypes⟩ := c
    cases callee <;> simp only at hc <;> try (cases hc; done)
    rename_i b
    cases b <;> simp only at hc <;> try (cases hc; done)
    simp only [lopC] at h
    split at h
    · exact cVal_val h
    · cases h
  all_goals
    simp only [lopC] at h
    (repeat' split at h) <;> first | exact cVal_val h | (cases h; done)

/-! ### on what a step hangs -/
theorem wantL_lk {o : Oper} (h : ∀ t ∈ o.looksAt ops, Lk (e t) (e2 t)) : wantL ops e2 o = wantL ops e o := by
  unfold wantL
  split
  · rfl
  · rename_i j b hg
    split
    · rename_i d hd
      have := h d (by simp [Oper.looksAt, hg, hd])
      cases h1 : e d <;> cases h2 : e2 d <;> rw [h1, h2] at this <;> simp only [Lk] at this
      subst this; rfl
    · rfl

theorem looks_opd {o : Oper} {t : Nat} (h : Operand.tmp t ∈ o.op.operands.toList) : t ∈ o.looksAt ops := by
  simp only [Oper.looksAt, List.mem_append, List.mem_filterMap]
  exact .inl ⟨_, h, rfl⟩

theorem res_loc {o : Oper} {r : LRes} (h : res P pr al ops o e H = some r) (h1 : ∀ t ∈ o.looksAt ops, e2 t = e t) (h2 : BxOn e e2) (ha : clo pr o = .A → al ≠ none) : res P pr al ops o e2 H = some r := by
  unfold res at h ⊢
  rw [wantL_lk (e := e) (e2 := e2) (fun t ht => by rw [h1 t ht]; exact Lk.refl _)]
  split at h
  · exact lop_loc h (fun t ht => h1 t (looks_opd ht)) h2 ha
  · exact h
  · cases h

/-- Results that leave the heap alone, or make one object. -/
inductive Fn (a : Nat) : (LH → LRes) → Prop
  | val (v : Value) : Fn a (fun H => .val v H)
  | ref (s i : Nat) : Fn a (fun _ => .ref s i)
  | box (cs : List Value) : Fn a (fun _ => .box cs)
  | new (v : Value) (o : LObj) : Fn a (fun H => .val v (H.put a (some o)))

theorem Fn.act {a : Nat} {f : LH → LRes} (h : Fn a f) (dst : Option Nat) (e : Env) (H H' : LH) : actE dst (f H) e = actE dst (f H') e := by cases h <;> rfl
theorem Fn.ok {a : Nat} {f : LH → LRes} (h : Fn a f) (dst : Option Nat) (e : Env) (H H' : LH) : okRes n e dst (f H) = okRes n e dst (f H') := by cases h <;> rfl
theorem Fn.at_ {a : Nat} {f : LH → LRes} (h : Fn a f) (dst : Option Nat) (H : LH) : ∃ x, ∀ e, actE dst (f H) e = putE e dst x := by
  cases h with
  | val v => exact ⟨_, fun _ => rfl⟩
  | ref s i => exact ⟨_, fun _ => rfl⟩
  | box cs => exact ⟨_, fun _ => rfl⟩
  | new v o => exact ⟨_, fun _ => rfl⟩
theorem Fn.heap {a : Nat} {f : LH → LRes} (h : Fn a f) : (∀ H, (f H).heap H = H) ∨ ∃ o, ∀ H, (f H).heap H = H.put a (some o) := by
  cases h with
  | val v => exact .inl fun _ => rfl
  | ref s i => exact .inl fun _ => rfl
  | box cs => exact .inl fun _ => rfl
  | new v o => exact .inr ⟨o, fun _ => rfl⟩

theorem res_lk {o : Oper} {a : Nat} {r : LRes} (hc : clo pr o = .P ∨ clo pr o = .A) (h : res P pr (some a) ops o e H = some r) :
    ∃ f, Fn a f ∧ r = f H ∧ (clo pr o = .P → ∀ H, (f H).heap H = H ∧ (f H).plain = true) ∧ ∀ e2 H2, (∀ t ∈ o.looksAt ops, Lk (e t) (e2 t)) → res P pr (some a) ops o e2 H2 = some (f H2) := by
  unfold res at h
  split at h
  · rename_i hw
    rcases hc with hc | hc
    · obtain ⟨h1, -⟩ := lop_P hc (fun t _ => Lk.refl _) h
      have hf : Fn a (fun H => r.withH H) := by
        cases r with
        | val v H1 => exact .val v
        | ref s i => exact .ref s i
        | box cs => exact .box cs
        | skip b H1 => have := lopP_plain hc h; cases this
      refine ⟨_, hf, h1.symm, fun _ H2 => ⟨withH_heap (by cases r <;> rfl), by have := lopP_plain hc h; cases r <;> exact this⟩, fun e2 H2 hk => ?_⟩
      unfold res
      rw [wantL_lk hk, hw]
      exact (lop_P hc (fun t ht => hk t (looks_opd ht)) h).2 _ _
    · obtain ⟨q, rfl, g⟩ := lop_A hc h
      refine ⟨fun H => mkA a q H, ?_, rfl, (fun hp => by rw [hc] at hp; cases hp), fun e2 H2 hk => ?_⟩
      · cases q with
        | inl cs => exact .box cs
        | inr q => obtain ⟨v, o⟩ := q; exact .new v o
      · unfold res
        rw [wantL_lk hk, hw]
        exact g e2 H2 (fun t ht => hk t (looks_opd ht))
  · rename_i hw
    cases h
    refine ⟨fun H => .val undef H, .val _, rfl, fun _ _ => ⟨rfl, rfl⟩, fun e2 H2 hk => ?_⟩
    unfold res; rw [wantL_lk hk, hw]
  · cases h

theorem res_R {o : Oper} {r : LRes} (hc : clo pr o = .R) (h : res P pr al ops o e H = some r) : r.withH H = r ∧ (∃ v, r = .val v H) ∧ (∀ al2, res P pr al2 ops o e H = some r) ∧
    (∀ id x, H.get id = none → res P pr al ops o e (H.put id (some x)) = some (r.withH (H.put id (some x)))) := by
  unfold res at h ⊢
  split at h
  · rename_i hw
    obtain ⟨h1, h2, h3, -⟩ := lop_R hc h
    refine ⟨h1, ?_, fun al2 => h2 al2, h3⟩
    obtain ⟨v, hv⟩ := lopR_val hc h
    exact ⟨v, hv⟩
  · rename_i hw; cases h
    exact ⟨rfl, ⟨undef, rfl⟩, fun _ => rfl, fun _ _ _ => rfl⟩
  · cases h

theorem res_E {o : Oper} {a id : Nat} {r : LRes} (hc : clo pr o = .E) (hai : a ≠ id) (hid : H.get id = none) (x : LObj) (h : res P pr (some a) ops o e H = some r) :
    res P pr (some a) ops o e (H.put id (some x)) = some (r.mapH fun H' => H'.put id (some x)) := by
  unfold res at h ⊢
  split at h
  · exact lop_E hc hai hid x h
  · cases h; rfl
  · cases h

/-! ### environments -/
theorem putE_ne {dst : Option Nat} {t : Nat} (x : EV) (h : dst ≠ some t) : putE e dst x t = e t := by
  cases dst with
  | none => rfl
  | some d => exact upd_ne _ _ (fun hh => h (by rw [hh]))

theorem upd_comm {a b : Nat} (h : a ≠ b) (x y : EV) : upd (upd e a x) b y = upd (upd e b y) a x := by
  funext t
  by_cases h1 : t = a
  · subst h1; rw [upd_ne _ _ h, upd_same, upd_same]
  · by_cases h2 : t = b
    · subst h2; rw [upd_same, upd_ne _ _ h1, upd_same]
    · rw [upd_ne _ _ h2, upd_ne _ _ h1, upd_ne _ _ h1, upd_ne _ _ h2]

theorem putE_comm {d1 d2 : Option Nat} (h : ∀ d, d1 = some d → d2 ≠ some d) (x y : EV) : putE (putE e d1 x) d2 y = putE (putE e d2 y) d1 x := by
  cases d1 with
  | none => rfl
  | some a =>
    cases d2 with
    | none => rfl
    | some b => exact upd_comm (fun hh => h a rfl (by rw [hh])) x y

theorem isBox_putE {d : Nat} {dst : Option Nat} (x : EV) (h : dst ≠ some d) : isBox (putE e dst x d) = isBox (e d) := by rw [putE_ne x h]

theorem okDst_of {dst : Option Nat} (h : ∀ d, dst = some d → isBox (e2 d) = isBox (e d)) : okDst n e2 dst = okDst n e dst := by
  cases dst with
  | none => rfl
  | some d => simp only [okDst]; rw [h d rfl]

theorem okRes_of {dst : Option Nat} {r : LRes} (h : ∀ d, dst = some d → isBox (e2 d) = isBox (e d)) : okRes n e2 dst r = okRes n e dst r := by
  cases r <;> simp only [okRes, okDst_of h]

theorem okRes_dst {dst : Option Nat} {r : LRes} (h : okRes n e dst r = true) : okDst n e dst = true := by
  cases r <;> simp only [okRes, Bool.and_eq_true] at h <;> first | exact h | exact h.2

theorem BxOn.putE {dst : Option Nat} (x : EV) (h : okDst n e dst = true) : BxOn e (putE e dst x) := by
  intro t f cs ht
  rw [putE_ne]
  · exact ht
  · intro hd; subst hd
    exact (okDst_spec h).2 f cs ht

theorem BxOn.unput {dst : Option Nat} {x : EV} (h : isBox x = false) : BxOn (Lg.putE e dst x) e := by
  intro t f cs ht
  cases dst with
  | none => exact ht
  | some d =>
    by_cases htd : t = d
    · subst htd; simp only [Lg.putE, upd_same] at ht; rw [ht] at h; cases h
    · simp only [Lg.putE] at ht; rwa [upd_ne _ _ htd] at ht

theorem Lk.symm {x y : EV} (h : Lk x y) : Lk y x := by
  cases x <;> cases y <;> simp only [Lk] at h ⊢ <;> first | exact h.symm | exact ⟨h.1.symm, h.2.symm⟩ | exact h

theorem Lk.isBox {x y : EV} (h : Lk x y) : isBox y = isBox x := by cases x <;> cases y <;> simp only [Lk] at h <;> rfl

/-- A change of the environment that a step makes: a box may be written, then a slot is. -/
structure Tr (dst : Option Nat) (e : Env) (A : Env → Env) : Prop where
  lk : ∀ t, dst ≠ some t → Lk (e t) (A e t)
  only : ∀ e2 t, e2 t = e t → dst ≠ some t → A e2 t = A e t
  keep : ∀ t, dst ≠ some t → isBox (e t) = false → A e t = e t
  comm : ∀ d x, (∀ t, d = some t → isBox (e t) = false) → (∀ t, d = some t → dst ≠ some t) → A (putE e d x) = putE (A e) d x
  at_ : ∀ e2 t, dst = some t → A e2 t = A e t

theorem Tr.put {dst : Option Nat} (x : EV) : Tr dst e (fun e => putE e dst x) where
  lk t ht := by rw [putE_ne x ht]; exact Lk.refl _
  only e2 t h ht := by rw [putE_ne x ht, putE_ne x ht]; exact h
  keep t ht _ := putE_ne x ht
  comm d y _ h2 := putE_comm (fun t ht => by intro hd; exact h2 t ht hd) y x
  at_ e2 t ht := by subst ht; simp only [Lg.putE, upd_same]

theorem Tr.act {dst : Option Nat} {r : LRes} (hv : ∀ s cs H', r = .skip (some (s, cs)) H' → ∃ cs0, e s = .box false cs0) : Tr dst e (actE dst r) := by
  cases r with
  | val v H1 => exact Tr.put _
  | ref s i => exact Tr.put _
  | box cs => exact Tr.put _
  | skip b H1 =>
    cases b with
    | none => exact Tr.put _
    | some q =>
      obtain ⟨s, cs⟩ := q
      obtain ⟨cs0, hs⟩ := hv s cs H1 rfl
      refine ⟨fun t ht => ?_, fun e2 t h ht => ?_, fun t ht hb => ?_, fun d y h1 h2 => ?_, fun e2 t ht => by subst ht; simp only [actE, Lg.putE, upd_same]⟩
      · simp only [actE]; rw [putE_ne _ ht]
        by_cases hts : t = s
        · subst hts; rw [upd_same, hs]; trivial
        · rw [upd_ne _ _ hts]; exact Lk.refl _
      · simp only [actE]; rw [putE_ne _ ht, putE_ne _ ht]
        by_cases hts : t = s
        · subst hts; rw [upd_same, upd_same]
        · rw [upd_ne _ _ hts, upd_ne _ _ hts]; exact h
      · simp only [actE]; rw [putE_ne _ ht]
        have : t ≠ s := fun hh => by rw [hh, hs] at hb; cases hb
        rw [upd_ne _ _ this]
      · simp only [actE]
        cases d with
        | none => rfl
        | some d =>
          have hds : d ≠ s := fun hh => by have := h1 d rfl; rw [hh, hs] at this; cases this
          simp only [Lg.putE]
          rw [upd_comm hds]
          cases dst with
          | none => rfl
          | some t => exact upd_comm (fun hh => h2 d rfl (by rw [hh])) _ _

theorem lopC_skip {dst : Option Nat} {op : Op} {s : Nat} {cs : List Value} (h : lopC P pr al dst op e H = some (.skip (some (s, cs)) H')) : ∃ cs0, e s = .box false cs0 := by
  cases hc : cls pr dst op with
  | P => have := lopP_plain hc h; cases this
  | R => obtain ⟨v, hv⟩ := lopR_val hc h; cases hv
  | A =>
    exfalso
    have fr : ∀ cs', cFresh pr al H dst cs' = some (.skip (some (s, cs)) H') → False := by
      intro cs' h
      unfold cFresh at h
      (repeat' split at h) <;> cases h
    have ro : ∀ a b c, cRow al H a b c = some (.skip (some (s, cs)) H') → False := by
      intro a b c h
      unfold cRow at h
      split at h <;> cases h
    cases op <;> simp only [cls] at hc <;> try (first | (cases hc; done) | (split at hc <;> first | (cases hc; done) | (split at hc <;> cases hc; done)))
    case makeMap t x => cases x <;> simp [lopC] at h
    all_goals
      simp only [lopC] at h
      (repeat' split at h) <;> first | exact fr _ h | exact ro _ _ _ h | (cases h; done)
  | E =>
    cases op <;> simp only [cls] at hc <;> try (first | (cases hc; done) | (split at hc <;> first | (cases hc; done) | (split at hc <;> cases hc; done)))
    all_goals try (simp [lopC] at h; done)
    case store t x y =>
      simp only [lopC] at h
      split at h
      · rename_i l v hx hv
        split at h
        · cases l with
          | heap b i => simp only [wrC] at h; (repeat' split at h) <;> cases h
          | box s' i =>
            simp only [wrC] at h
            split at h
            · rename_i cs0 he
              split at h
              · cases h; exact ⟨cs0, he⟩
              · cases h
            · cases h
        · cases h
      · cases h
    case mapUpdate t m k x => simp only [lopC] at h; (repeat' split at h) <;> cases h
    case call c =>
      obtain ⟨callee, args, argTypes⟩ := c
      cases callee <;> simp only [lopC] at h <;> try (cases h; done)
      rename_i b
      cases b <;> simp only at h hc <;> try (first | (cases hc; done) | (cases h; done))
      all_goals (repeat' split at h) <;> cases h

theorem res_skip {o : Oper} {r : LRes} (h : res P pr al ops o e H = some r) : ∀ s cs H', r = .skip (some (s, cs)) H' → ∃ cs0, e s = .box false cs0 := by
  intro s cs H' hr
  subst hr
  unfold res at h
  split at h
  · exact lopC_skip h
  · cases h
  · cases h

end Go.Lg
