/- Lists of numbers: equal, all of a kind; cores that are valid, or the same. No condition. -/
import Derived.Test.YtaehendkbicepaaC2
set_option linter.unusedVariables false
namespace Go.Lg
open Go

theorem getE {T : Type} {l : List T} {i : Nat} {x : T} (h : l[i]? = some x) : i < l.length := (List.getElem?_eq_some_iff.1 h).1

/-- Element by element. -/
theorem list_eq {T : Type} {xs ys : List T} (hl : xs.length = ys.length) (h : ∀ j : Nat, j < xs.length → xs[j]? = ys[j]?) : xs = ys := by
  apply List.ext_getElem? ; intro j
  by_cases hj : j < xs.length
  · exact h j hj
  · rw [List.getElem?_eq_none (by omega), List.getElem?_eq_none (by omega)]

theorem c_SameInts {H : LH} {p q : Option Addr} {n c m d : Nat} {xs ys : List Int} (hx : Ints H p n c xs) (hy : Ints H q m d ys) :
    Call prog f_ref01_SameInts [.slice p n c, .slice q m d] H (fun v H' => ∃ b, v = .bool b ∧ (b = true ↔ xs = ys) ∧ Kp [] H H') := by
  refine F_ref01_SameInts_call _ _ _ _ _ _ ?_
  unfold F_ref01_SameInts
  have lx := hx.len
  have ly := hy.len
  have bx := hx.bound
  refine ⟨hx.nil, hy.nil, fun h => ⟨_, rfl, ?_, Kp.refl⟩, fun h => ?_⟩
  · have : ¬ (n : Int) = m := by simpa using h
    simp only [Bool.false_eq_true, false_iff]
    intro e; subst e; omega
  have hnm : (n : Int) = m := by simpa using h
  refine ⟨fun i H' => 0 ≤ i ∧ i ≤ n ∧ (∀ j : Nat, (j : Int) < i → xs[j]? = ys[j]?) ∧ Kp [] H H', fun i _ => (n - i).toNat, ⟨by omega, by omega, fun j hj => by omega, Kp.refl⟩, ?_⟩
  rintro i H4 ⟨h0, h1, h2, hk⟩
  refine ⟨hx.nil, fun hlt => ?_, fun hge => ⟨_, rfl, ?_, hk⟩⟩
  · have hlt : i < n := by simpa using hlt
    rintro _ rfl
    have hk5 : Kp [] H (H4.keep 9) := hk.keep 9
    obtain ⟨b, k, r, t, rfl, ht, rfl, -, hat⟩ := (hx.kp0 hk5).at h0 hlt
    obtain ⟨b2, k2, r2, t2, rfl, ht2, rfl, -, hat2⟩ := (hy.kp0 hk5).at h0 (by omega)
    refine ⟨b, k, rfl, h0, hlt, t, hat 0 _ rfl, b2, k2, rfl, h0, by omega, t2, hat2 0 _ rfl, fun hne => ⟨_, rfl, ?_, hk5⟩, fun heq => ⟨?_, ?_⟩⟩
    · have hne : t ≠ t2 := by simpa using hne
      simp only [Bool.false_eq_true, false_iff]
      rintro rfl; rw [ht] at ht2; cases ht2; exact hne rfl
    · have heq : t = t2 := by simpa using heq
      subst heq
      rw [wrap_id (by omega)]
      refine ⟨by omega, by omega, fun j hj => ?_, hk5⟩
      by_cases hji : (j : Int) < i
      · exact h2 j hji
      · have : j = i.toNat := by omega
        rw [this, ht, ht2]
    · rw [wrap_id (by omega)]
      show (n - (i + 1)).toNat < (n - i).toNat
      omega
  · have hge : n ≤ i := by simpa using hge
    simp only [true_iff]
    exact list_eq (by omega) (fun j hj => h2 j (by omega))

/-! ### words -/
def isW (x : Int) : Bool := decide (-2147483648 ≤ x ∧ x ≤ 2147483647)

theorem c_word_Is {H : LH} {x : Int} : Call prog f_word_Is [.int .i64 x] H (fun v H' => v = .bool (isW x) ∧ Kp [] H H') := by
  refine F_word_Is_call _ ⟨fun h => ⟨?_, Kp.refl⟩, fun h => ⟨?_, Kp.refl⟩⟩
  · have : -2147483648 ≤ x := by simpa using h
    simp [isW, this]
  · have : ¬ -2147483648 ≤ x := by simpa using h
    simp [isW, this]

theorem c_ref06_Word {H : LH} {x : Int} : Call prog f_ref06_Word [.int .i64 x] H (fun v H' => v = .bool (isW x) ∧ Kp [] H H') := by
  refine F_ref06_Word_call _ ⟨fun h => ⟨?_, Kp.refl⟩, fun h => ⟨?_, Kp.refl⟩⟩
  · have : -2147483648 ≤ x := by simpa using h
    simp only [isW, this, true_and, Value.bool.injEq, decide_eq_decide]; omega
  · have : ¬ -2147483648 ≤ x := by simpa using h
    simp [isW, this]

theorem c_Valid_1 {H : LH} {x : Int} : Call prog f_machine_Valid_1 [.int .i64 x] H (fun v H' => v = .bool (!isW x) ∧ Kp [] H H') := by
  refine F_machine_Valid_1_call _ (XCall.by c_word_Is ?_)
  rintro _ H' ⟨rfl, hk⟩
  exact ⟨_, rfl, rfl, hk⟩

/-! ### functions on elements -/
/-- A function value that tells of each element whether it is meant. -/
structure Tells (H : LH) (f : Value) {T : Type} (enc : T → Value) (t : T → Bool) : Prop where
  is : ∃ (g : FuncId) (l1 l2 : List Value), f = .func (.func g) l1.toArray l2.toArray ∧ okFn prog g = true ∧
    ∀ x H1, Kp [] H H1 → Call prog g (l1 ++ [enc x] ++ l2) H1 (fun v H' => v = .bool (t x) ∧ Kp [] H1 H')

theorem c_IndexFunc_ints {H : LH} {p : Option Addr} {n c : Nat} {xs : List Int} {f : Value} {t : Int → Bool} (hx : Ints H p n c xs) (hf : Tells H f (Value.int .i64) t) :
    Call prog f_slices_IndexFunc_int_int [.slice p n c, f] H (fun v H' => ∃ i : Int, v = .int .i64 i ∧ Kp [] H H' ∧
      ((i = -1 ∧ ∀ x ∈ xs, t x = false) ∨ (0 ≤ i ∧ ∃ x, xs[i.toNat]? = some x ∧ t x = true ∧ ∀ j y, j < i.toNat → xs[j]? = some y → t y = false))) := by
  obtain ⟨g, l1, l2, rfl, hok, hcall⟩ := hf.is
  refine F_slices_IndexFunc_int_int_call _ _ _ _ ?_
  unfold F_slices_IndexFunc_int_int
  have lx := hx.len
  have bx := hx.bound
  refine ⟨hx.nil, fun i H' => 0 ≤ i ∧ i ≤ n ∧ (∀ j y, (j : Nat) < i.toNat → xs[j]? = some y → t y = false) ∧ Kp [] H H', fun i _ => (n - i).toNat, ⟨by omega, by omega, fun j y hj => by omega, Kp.refl⟩, ?_⟩
  rintro i H4 ⟨h0, h1, h2, hk⟩
  refine ⟨fun hlt => ?_, fun hge => ⟨_, rfl, hk, .inl ⟨rfl, ?_⟩⟩⟩
  · have hlt : i < n := by simpa using hlt
    obtain ⟨b, k, r, x, rfl, ht, rfl, -, hat⟩ := (hx.kp0 hk).at h0 hlt
    refine ⟨b, k, rfl, h0, hlt, x, hat 0 _ rfl, g, l1, l2, rfl, hok, XCall.by (hcall x H4 hk) ?_⟩
    rintro _ H12 ⟨rfl, hk12⟩
    refine ⟨_, rfl, fun htx => ⟨_, rfl, hk.trans hk12, .inr ⟨h0, x, ht, htx, h2⟩⟩, fun htx => ?_⟩
    rw [wrap_id (by omega)]
    refine ⟨⟨by omega, by omega, fun j y hj hy => ?_, hk.trans hk12⟩, by show (n - (i + 1)).toNat < (n - i).toNat; omega⟩
    by_cases hji : j < i.toNat
    · exact h2 j y hji hy
    · have : j = i.toNat := by omega
      rw [this, ht] at hy; cases hy; exact htx
  · have hge : n ≤ i := by simpa using hge
    intro x hx'
    obtain ⟨j, hj, rfl⟩ := List.getElem_of_mem hx'
    exact h2 j _ (by omega) (List.getElem?_eq_getElem hj)

theorem c_ContainsFunc_ints {H : LH} {p : Option Addr} {n c : Nat} {xs : List Int} {f : Value} {t : Int → Bool} (hx : Ints H p n c xs) (hf : Tells H f (Value.int .i64) t) :
    Call prog f_slices_ContainsFunc_int_int [.slice p n c, f] H (fun v H' => ∃ b, v = .bool b ∧ (b = true ↔ ∃ x ∈ xs, t x = true) ∧ Kp [] H H') := by
  refine F_slices_ContainsFunc_int_int_call _ _ _ _ ?_
  unfold F_slices_ContainsFunc_int_int
  refine XCall.by (c_IndexFunc_ints hx hf) ?_
  rintro _ H2 ⟨i, rfl, hk, h⟩
  refine ⟨_, rfl, _, rfl, ?_, hk⟩
  rcases h with ⟨rfl, h⟩ | ⟨h0, x, hx, ht, -⟩
  · simp only [decide_eq_true_eq]
    constructor
    · intro h; omega
    · rintro ⟨x, hx, ht⟩; rw [h x hx] at ht; cases ht
  · simp only [decide_eq_true_eq]
    exact ⟨fun _ => ⟨x, List.mem_of_getElem? hx, ht⟩, fun _ => h0⟩

theorem tells_Valid_1 {H : LH} : Tells H (.func (.func f_machine_Valid_1) #[] #[]) (Value.int .i64) (fun x => !isW x) :=
  ⟨f_machine_Valid_1, [], [], rfl, by kernel_rfl, fun x H1 _ => c_Valid_1⟩

theorem c_words {H : LH} {p : Option Addr} {n c : Nat} {xs : List Int} (hx : Ints H p n c xs) :
    Call prog f_ref21_words [.slice p n c] H (fun v H' => ∃ b, v = .bool b ∧ (b = true ↔ ∀ x ∈ xs, isW x = true) ∧ Kp [] H H') := by
  refine F_ref21_words_call _ _ _ ?_
  unfold F_ref21_words
  have lx := hx.len
  have bx := hx.bound
  refine ⟨fun i H' => 0 ≤ i ∧ i ≤ n ∧ (∀ j y, (j : Nat) < i.toNat → xs[j]? = some y → isW y = true) ∧ Kp [] H H', fun i _ => (n - i).toNat, ⟨by omega, by omega, fun j y hj => by omega, Kp.refl⟩, ?_⟩
  rintro i H4 ⟨h0, h1, h2, hk⟩
  refine ⟨hx.nil, fun hlt => ?_, fun hge => ⟨_, rfl, ?_, hk⟩⟩
  · have hlt : i < n := by simpa using hlt
    obtain ⟨b, k, r, x, rfl, ht, rfl, -, hat⟩ := (hx.kp0 hk).at h0 hlt
    refine ⟨b, k, rfl, h0, hlt, x, hat 0 _ rfl, XCall.by c_ref06_Word ?_⟩
    rintro _ H12 ⟨rfl, hk12⟩
    refine ⟨_, rfl, fun htx => ⟨_, rfl, ?_, hk.trans hk12⟩, fun htx => ?_⟩
    · have htx : isW x = false := by simpa using htx
      simp only [Bool.false_eq_true, false_iff]
      intro hh; have := hh x (List.mem_of_getElem? ht); rw [htx] at this; cases this
    · have htx : isW x = true := by simpa using htx
      rw [wrap_id (by omega)]
      refine ⟨⟨by omega, by omega, fun j y hj hy => ?_, hk.trans hk12⟩, by show (n - (i + 1)).toNat < (n - i).toNat; omega⟩
      by_cases hji : j < i.toNat
      · exact h2 j y hji hy
      · have : j = i.toNat := by omega
        rw [this, ht] at hy; cases hy; exact htx
  · have hge : n ≤ i := by simpa using hge
    simp only [true_iff]
    intro x hx'
    obtain ⟨j, hj, rfl⟩ := List.getElem_of_mem hx'
    exact h2 j _ (by omega) (List.getElem?_eq_getElem hj)

/-! ### cores -/
structure CoreD where
  regs : List Int
  data : List Int
  held : List Bool
  pc : Int
  ended : Bool

/-- A core in memory. -/
structure CoreAt (H : LH) (p1 : Option Addr) (n1 c1 : Nat) (p2 : Option Addr) (n2 c2 : Nat) (p3 : Option Addr) (n3 c3 : Nat) (pc : Int) (ended : Bool) (C : CoreD) : Prop where
  regs : Ints H p1 n1 c1 C.regs
  data : Ints H p2 n2 c2 C.data
  held : Bools H p3 n3 c3 C.held
  pc : pc = C.pc
  ended : ended = C.ended

theorem CoreAt.kp0 {H H' : LH} {p1 : Option Addr} {n1 c1 : Nat} {p2 : Option Addr} {n2 c2 : Nat} {p3 : Option Addr} {n3 c3 : Nat} {pc : Int} {ended : Bool} {C : CoreD} (h : CoreAt H p1 n1 c1 p2 n2 c2 p3 n3 c3 pc ended C) (hk : Kp [] H H') :
    CoreAt H' p1 n1 c1 p2 n2 c2 p3 n3 c3 pc ended C := ⟨h.regs.kp0 hk, h.data.kp0 hk, h.held.kp0 hk, h.pc, h.ended⟩

/-- A valid core of an image with so many instructions and words of data. -/
structure CoreOk (k : Nat) (dn : Int) (C : CoreD) : Prop where
  rlen : C.regs.length = 8
  r0 : C.regs[0]? = some 0
  regs : ∀ x ∈ C.regs, isW x = true
  dlen : (C.data.length : Int) = dn
  data : ∀ x ∈ C.data, isW x = true
  hlen : C.held.length = 4
  pc0 : 0 ≤ C.pc
  pc1 : C.pc < k

theorem c_machine_Valid {H : LH} {p : Option Addr} {n c : Nat} {dn : Int} {q1 : Option Addr} {m1 e1 : Nat} {q2 : Option Addr} {m2 e2 : Nat} {p1 : Option Addr} {n1 c1 : Nat} {p2 : Option Addr} {n2 c2 : Nat} {p3 : Option Addr} {n3 c3 : Nat} {pc : Int} {ended : Bool} {C : CoreD}
    (hp : p = none → n = 0 ∧ c = 0) (hc : CoreAt H p1 n1 c1 p2 n2 c2 p3 n3 c3 pc ended C) :
    Call prog f_machine_Valid [.agg #[.slice p n c, .int .i64 dn, .slice q1 m1 e1, .slice q2 m2 e2], .agg #[.slice p1 n1 c1, .slice p2 n2 c2, .slice p3 n3 c3, .int .i64 pc, .bool ended]] H
      (fun v H' => ∃ b, v = .bool b ∧ (b = true ↔ CoreOk n dn C) ∧ Kp [] H H') := by
  refine F_machine_Valid_call _ _ _ _ _ _ _ _ _ _ _ _ _ _ _ _ _ _ _ _ _ ?_
  unfold F_machine_Valid
  obtain ⟨hr, hd, hh, rfl, rfl⟩ := hc
  have lr := hr.len
  have ld := hd.len
  have lh := hh.len
  refine ⟨hr.nil, fun h8 => ?_, fun h8 => ⟨_, rfl, ?_, Kp.refl⟩⟩
  rotate_left
  · have : ¬ n1 = 8 := by intro e; subst e; simp at h8
    simp only [Bool.false_eq_true, false_iff]; intro ok; have := ok.rlen; omega
  have h8 : n1 = 8 := by
    have : (n1 : Int) = 8 := by simpa using h8
    omega
  obtain ⟨b, k, r, x, rfl, ht, rfl, -, hat⟩ := hr.at (x := 0) (by omega) (by omega)
  refine ⟨b, k, rfl, by omega, by omega, x, by have := hat 0 _ rfl; simpa using this, fun hx0 => ?_, fun hx0 => ⟨_, rfl, ?_, Kp.refl⟩⟩
  rotate_left
  · have : x ≠ 0 := by simpa using hx0
    simp only [Bool.false_eq_true, false_iff]; intro ok; have := ok.r0; rw [show (0 : Int).toNat = 0 from rfl] at ht; rw [ht] at this; cases this; contradiction
  have hx0 : x = 0 := by simpa using hx0
  subst hx0
  refine XCall.by (c_ContainsFunc_ints hr tells_Valid_1) ?_
  rintro _ H5 ⟨b6, rfl, hb6, hk5⟩
  refine ⟨_, rfl, fun h6 => ⟨hd.nil, fun hdn => ?_, fun hdn => ⟨_, rfl, ?_, hk5⟩⟩, fun h6 => ⟨_, rfl, ?_, hk5⟩⟩
  rotate_left
  · have : ¬ (n2 : Int) = dn := by simpa using hdn
    simp only [Bool.false_eq_true, false_iff]; intro ok; have := ok.dlen; omega
  · have h6 : b6 = true := by simpa using h6
    obtain ⟨y, hy, hy2⟩ := hb6.1 h6
    simp only [Bool.false_eq_true, false_iff]; intro ok; have := ok.regs y hy; rw [this] at hy2; cases hy2
  have hregs : ∀ x ∈ C.regs, isW x = true := by
    have h6 : ¬ b6 = true := by simpa using h6
    intro y hy
    cases hw : isW y with
    | true => rfl
    | false => exact absurd (hb6.2 ⟨y, hy, by rw [hw]; rfl⟩) h6
  have hdn : (n2 : Int) = dn := by simpa using hdn
  refine XCall.by (c_ContainsFunc_ints (hd.kp0 hk5) tells_Valid_1) ?_
  rintro _ H8 ⟨b9, rfl, hb9, hk8⟩
  have hk8 := hk5.trans hk8
  refine ⟨_, rfl, fun h9 => ⟨hh.nil, fun h4 => ⟨fun hp0 => ⟨hp, _, rfl, ?_, hk8⟩, fun hp0 => ⟨_, rfl, ?_, hk8⟩⟩, fun h4 => ⟨_, rfl, ?_, hk8⟩⟩, fun h9 => ⟨_, rfl, ?_, hk8⟩⟩
  · have hdata : ∀ x ∈ C.data, isW x = true := by
      have h9 : ¬ b9 = true := by simpa using h9
      intro y hy
      cases hw : isW y with
      | true => rfl
      | false => exact absurd (hb9.2 ⟨y, hy, by rw [hw]; rfl⟩) h9
    have h4 : (n3 : Int) = 4 := by simpa using h4
    have hp0 : 0 ≤ C.pc := by simpa using hp0
    simp only [decide_eq_true_eq]
    exact ⟨fun h => ⟨by omega, ht, hregs, by omega, hdata, by omega, hp0, h⟩, fun ok => ok.pc1⟩
  · have hp0 : ¬ 0 ≤ C.pc := by simpa using hp0
    simp only [Bool.false_eq_true, false_iff]; intro ok; exact hp0 ok.pc0
  · have h4 : ¬ (n3 : Int) = 4 := by simpa using h4
    simp only [Bool.false_eq_true, false_iff]; intro ok; have := ok.hlen; omega
  · have h9 : b9 = true := by simpa using h9
    obtain ⟨y, hy, hy2⟩ := hb9.1 h9
    simp only [Bool.false_eq_true, false_iff]; intro ok; have := ok.data y hy; rw [this] at hy2; cases hy2

theorem c_ref21_Valid {H : LH} {p : Option Addr} {n c : Nat} {dn : Int} {q1 : Option Addr} {m1 e1 : Nat} {q2 : Option Addr} {m2 e2 : Nat} {p1 : Option Addr} {n1 c1 : Nat} {p2 : Option Addr} {n2 c2 : Nat} {p3 : Option Addr} {n3 c3 : Nat} {pc : Int} {ended : Bool} {C : CoreD}
    (hp : p = none → n = 0 ∧ c = 0) (hc : CoreAt H p1 n1 c1 p2 n2 c2 p3 n3 c3 pc ended C) :
    Call prog f_ref21_Valid [.agg #[.slice p n c, .int .i64 dn, .slice q1 m1 e1, .slice q2 m2 e2], .agg #[.slice p1 n1 c1, .slice p2 n2 c2, .slice p3 n3 c3, .int .i64 pc, .bool ended]] H
      (fun v H' => ∃ b, v = .bool b ∧ (b = true ↔ CoreOk n dn C) ∧ Kp [] H H') := by
  refine F_ref21_Valid_call _ _ _ _ _ _ _ _ _ _ _ _ _ _ _ _ _ _ _ _ _ ?_
  unfold F_ref21_Valid
  obtain ⟨hr, hd, hh, rfl, rfl⟩ := hc
  have lr := hr.len
  have ld := hd.len
  have lh := hh.len
  refine ⟨hr.nil, fun h8 => ?_, fun h8 => ⟨_, rfl, ?_, Kp.refl⟩⟩
  rotate_left
  · have : ¬ n1 = 8 := by intro e; subst e; simp at h8
    simp only [Bool.false_eq_true, false_iff]; intro ok; have := ok.rlen; omega
  have h8 : n1 = 8 := by
    have : (n1 : Int) = 8 := by simpa using h8
    omega
  refine XCall.by (c_words hr) ?_
  rintro _ H2 ⟨b3, rfl, hb3, hk2⟩
  refine ⟨_, rfl, fun h3 => ?_, fun h3 => ⟨_, rfl, ?_, hk2⟩⟩
  rotate_left
  · simp only [Bool.false_eq_true, false_iff]; intro ok; have := hb3.2 ok.regs; rw [h3] at this; cases this
  have hregs := hb3.1 h3
  obtain ⟨b, k, r, x, rfl, ht, rfl, -, hat⟩ := (hr.kp0 hk2).at (x := 0) (by omega) (by omega)
  refine ⟨b, k, rfl, by omega, by omega, x, by have := hat 0 _ rfl; simpa using this, fun hx0 => ⟨hd.nil, fun hdn => ?_, fun hdn => ⟨_, rfl, ?_, hk2⟩⟩, fun hx0 => ⟨_, rfl, ?_, hk2⟩⟩
  rotate_left
  · have : ¬ (n2 : Int) = dn := by simpa using hdn
    simp only [Bool.false_eq_true, false_iff]; intro ok; have := ok.dlen; omega
  · have : x ≠ 0 := by simpa using hx0
    simp only [Bool.false_eq_true, false_iff]; intro ok; have := ok.r0; rw [show (0 : Int).toNat = 0 from rfl] at ht; rw [ht] at this; cases this; contradiction
  have hx0 : x = 0 := by simpa using hx0
  subst hx0
  have hdn : (n2 : Int) = dn := by simpa using hdn
  refine XCall.by (c_words (hd.kp0 hk2)) ?_
  rintro _ H8 ⟨b9, rfl, hb9, hk8⟩
  have hk8 := hk2.trans hk8
  refine ⟨_, rfl, fun h9 => ⟨hh.nil, fun h4 => ⟨fun hp0 => ⟨hp, _, rfl, ?_, hk8⟩, fun hp0 => ⟨_, rfl, ?_, hk8⟩⟩, fun h4 => ⟨_, rfl, ?_, hk8⟩⟩, fun h9 => ⟨_, rfl, ?_, hk8⟩⟩
  · have h4 : (n3 : Int) = 4 := by simpa using h4
    have hp0 : 0 ≤ C.pc := by simpa using hp0
    simp only [decide_eq_true_eq]
    exact ⟨fun h => ⟨by omega, ht, hregs, by omega, hb9.1 h9, by omega, hp0, h⟩, fun ok => ok.pc1⟩
  · have hp0 : ¬ 0 ≤ C.pc := by simpa using hp0
    simp only [Bool.false_eq_true, false_iff]; intro ok; exact hp0 ok.pc0
  · have h4 : ¬ (n3 : Int) = 4 := by simpa using h4
    simp only [Bool.false_eq_true, false_iff]; intro ok; have := ok.hlen; omega
  · simp only [Bool.false_eq_true, false_iff]; intro ok; have := hb9.2 ok.data; rw [h9] at this; cases this

/-- Cores that hold the same are the same. -/
theorem c_ref21_Same {H : LH} {p1 : Option Addr} {n1 c1 : Nat} {p2 : Option Addr} {n2 c2 : Nat} {p3 : Option Addr} {n3 c3 : Nat} {pc : Int} {ended : Bool} {q1 : Option Addr} {m1 e1 : Nat} {q2 : Option Addr} {m2 e2 : Nat} {q3 : Option Addr} {m3 e3 : Nat} {pc2 : Int} {ended2 : Bool} {C : CoreD}
    (ha : CoreAt H p1 n1 c1 p2 n2 c2 p3 n3 c3 pc ended C) (hb : CoreAt H q1 m1 e1 q2 m2 e2 q3 m3 e3 pc2 ended2 C) :
    Call prog f_ref21_Same [.agg #[.slice p1 n1 c1, .slice p2 n2 c2, .slice p3 n3 c3, .int .i64 pc, .bool ended], .agg #[.slice q1 m1 e1, .slice q2 m2 e2, .slice q3 m3 e3, .int .i64 pc2, .bool ended2]] H
      (fun v H' => v = .bool true ∧ Kp [] H H') := by
  refine F_ref21_Same_call _ _ _ _ _ _ _ _ _ _ _ _ _ _ _ _ _ _ _ _ _ _ ?_
  unfold F_ref21_Same
  obtain ⟨hr, hd, hh, rfl, rfl⟩ := ha
  obtain ⟨kr, kd, kh, rfl, rfl⟩ := hb
  have lh := hh.len
  have lk := kh.len
  have bh := hh.bound
  refine ⟨fun h => by simp at h, fun _ => ⟨fun h => by simp at h, fun _ => ⟨hh.nil, kh.nil, fun h => ?_, fun _ => ?_⟩⟩⟩
  · have : ¬ (n3 : Int) = m3 := by simpa using h
    omega
  refine XCall.by (c_SameInts hr kr) ?_
  rintro _ H2 ⟨b, rfl, hb, hk2⟩
  have hb := hb.2 rfl
  subst hb
  refine ⟨_, rfl, fun h => by simp at h, fun _ => XCall.by (c_SameInts (hd.kp0 hk2) (kd.kp0 hk2)) ?_⟩
  rintro _ H5 ⟨b, rfl, hb, hk5⟩
  have hb := hb.2 rfl
  subst hb
  have hk5 := hk2.trans hk5
  refine ⟨_, rfl, fun h => by simp at h, fun _ => ⟨fun i H' => 0 ≤ i ∧ i ≤ n3 ∧ Kp [] H H', fun i _ => (n3 - i).toNat, ⟨by omega, by omega, hk5⟩, ?_⟩⟩
  rintro i H10 ⟨h0, h1, hk⟩
  refine ⟨hh.nil, fun hlt => ?_, fun _ => ⟨rfl, hk⟩⟩
  have hlt : i < n3 := by simpa using hlt
  rintro _ rfl
  have hk11 := hk.keep 11
  obtain ⟨b, k, r, t, rfl, ht, rfl, -, hat⟩ := (hh.kp0 hk11).at h0 hlt
  obtain ⟨b2, k2, r2, t2, rfl, ht2, rfl, -, hat2⟩ := (kh.kp0 hk11).at h0 (by omega)
  rw [ht] at ht2; cases ht2
  refine ⟨b, k, rfl, h0, hlt, t, hat 0 _ rfl, b2, k2, rfl, h0, by omega, t, hat2 0 _ rfl, fun h => by simp at h, fun _ => ?_⟩
  rw [wrap_id (by omega)]
  exact ⟨⟨by omega, by omega, hk11⟩, by show (n3 - (i + 1)).toNat < (n3 - i).toNat; omega⟩

end Go.Lg
