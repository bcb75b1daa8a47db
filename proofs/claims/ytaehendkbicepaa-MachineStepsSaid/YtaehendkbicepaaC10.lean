/- Whole steps, by both. No condition. -/
import Derived.Test.YtaehendkbicepaaC9
set_option linter.unusedVariables false
namespace Go.Lg
open Go

theorem flat_one {T V : Type} (enc : T → V) (xs : List T) : (xs.map fun x => [enc x]).flatten = xs.map enc := by
  induction xs with
  | nil => rfl
  | cons a l ih => simp only [List.map_cons, List.flatten_cons, ih]; rfl

/-- The cells of a list of simple values. -/
theorem Ls.cells {T : Type} {enc : T → Value} {H : LH} {p : Option Addr} {n c : Nat} {xs : List T} (h : Ls (fun r x => r = [enc x]) 1 H p n c xs) : slCells H 1 (.slice p n c) = some (xs.map enc) := by
  obtain ⟨rows, x1, x2, x3, x4, x5⟩ := h.is
  have hfl : rows.flatten = xs.map enc := by
    have : rows = xs.map fun x => [enc x] := by
      apply List.ext_getElem?
      intro i
      rw [List.getElem?_map]
      by_cases hi : i < n
      · rw [List.getElem?_eq_getElem (by omega), List.getElem?_eq_getElem (by omega)]
        have := x4 i _ _ (List.getElem?_eq_getElem (by omega)) (List.getElem?_eq_getElem (by omega))
        simp only [Option.map_some, this]
      · rw [List.getElem?_eq_none (by omega), List.getElem?_eq_none (by omega)]; rfl
    rw [this, flat_one]
  cases p with
  | none =>
    obtain ⟨rfl, rfl⟩ := h.nil rfl
    have : xs = [] := List.eq_nil_of_length_eq_zero x2
    subst this; rfl
  | some a =>
    obtain ⟨g1, g2⟩ := x5 a rfl
    obtain ⟨b, i, sp⟩ := a
    simp only at g1 g2; subst g1
    obtain ⟨cs, ro, k1, k2, k3⟩ := g2.is
    have hl := flatten_length x3
    simp only [slCells, k1]
    rw [if_pos ⟨trivial, by rw [hl, x1] at k2; exact k2⟩]
    rw [hl, x1] at k3; rw [k3, hfl]

/-- A list in a block of its own, from number `B` on. -/
structure OwnV {T : Type} (enc : T → Value) (B : Nat) (H : LH) (q : Option Addr) (m d : Nat) (xs : List T) : Prop where
  len : xs.length = m
  nil : q = none → m = 0 ∧ d = 0
  is : ∀ a, q = some a → a.spot = none ∧ a.off = 0 ∧ Blk H a.block 1 (xs.map enc) ∧ B ≤ a.block

variable {T : Type} {enc : T → Value} {H H' H0 : LH} {p : Option Addr} {n c : Nat} {xs : List T}

theorem OwnV.kp {B m d : Nat} {q : Option Addr} (h : OwnV enc B H q m d xs) (hk : Kp [] H H') : OwnV enc B H' q m d xs :=
  ⟨h.len, h.nil, fun a ha => by obtain ⟨h1, h2, h3, h4⟩ := h.is a ha; exact ⟨h1, h2, h3.kp hk (by simp), h4⟩⟩
theorem OwnV.lower {B B' m d : Nat} {q : Option Addr} (h : OwnV enc B H q m d xs) (hb : B' ≤ B) : OwnV enc B' H q m d xs :=
  ⟨h.len, h.nil, fun a ha => by obtain ⟨h1, h2, h3, h4⟩ := h.is a ha; exact ⟨h1, h2, h3, by omega⟩⟩

theorem OwnV.ls {B m d : Nat} {q : Option Addr} (h : OwnV enc B H q m d xs) (hm : m ≤ 4611686018427387904) : Ls (fun r x => r = [enc x]) 1 H q m d xs := by
  refine ⟨h.nil, hm, xs.map fun x => [enc x], by simp [h.len], h.len, by simp, ?_, fun a ha => ?_⟩
  · intro i r x h1 h2
    rw [List.getElem?_map, h2] at h1
    simpa using h1.symm
  · obtain ⟨h1, h2, h3, h4⟩ := h.is a ha
    refine ⟨h1, ?_⟩
    rw [flat_one, h2]; exact h3.row

/-- An append to an empty slice of its own: a copy. -/
theorem Ls.clone {by_ : Nat} (h : Ls (fun r x => r = [enc x]) 1 H p n c xs) (hb : n * by_ ≤ 140737488355328) (hby : 0 < by_) :
    ∃ q m d H', appV (H.new (.cells [] 1 false)) none 1 by_ (.slice (some ⟨H.next, 0, none⟩) 0 0) (.slice p n c) = some (.slice q m d, H') ∧ OwnV enc H.next H' q m d xs ∧ q ≠ none ∧ Kp [] H H' := by
  have hk : Kp [] H (H.new (.cells [] 1 false)) := Kp.refl.new _
  have h1 := h.kp0 hk
  have hc := h1.cells
  have hl := h1.slLen
  have hn := h.len
  have h0 : slCells (H.new (.cells [] 1 false)) 1 (.slice (some ⟨H.next, 0, none⟩) 0 0) = some [] := by
    simp only [slCells, LH.new_get, if_true]
    rw [if_pos ⟨trivial, by simp⟩]; rfl
  unfold appV
  simp only [hl, hc, h0]
  have hl0 : Lg.slLen (.slice (some ⟨H.next, 0, none⟩) 0 0) = some 0 := rfl
  simp only [hl0]
  by_cases hz : n = 0
  · subst hz
    have : xs = [] := List.eq_nil_of_length_eq_zero hn
    subst this
    rw [if_pos rfl]
    exact ⟨_, _, _, _, rfl, ⟨rfl, fun hh => (by cases hh), fun a ha => (by cases ha; exact ⟨rfl, rfl, Blk.new _ _ _, Nat.le_refl _⟩)⟩, by simp, hk⟩
  · have hb2 : n ≤ 140737488355328 := Nat.le_trans (Nat.le_mul_of_pos_right _ hby) hb
    rw [if_neg hz, if_pos ⟨by simpa using hb, by omega⟩]
    simp only [Option.getD_none, if_true]
    refine ⟨_, _, _, _, rfl, ⟨by omega, fun hh => (by cases hh), fun a ha => ?_⟩, by simp, hk.new _⟩
    cases ha
    refine ⟨rfl, rfl, ?_, by show H.next ≤ H.next + 1; omega⟩
    have := Blk.new (H.new (.cells [] 1 false)) 1 ([] ++ xs.map enc)
    exact this

theorem c_Clone_ints {H : LH} {p : Option Addr} {n c : Nat} {xs : List Int} (h : Ints H p n c xs) (hb : n ≤ 1000000) :
    Call prog f_slices_Clone_int_int [.slice p n c] H (fun v H' => ∃ q m d, v = .slice q m d ∧ OwnV (Value.int .i64) H.next H' q m d xs ∧ Kp [] H H') := by
  refine F_slices_Clone_int_int_call _ _ _ ⟨fun g => ?_, fun g => ?_⟩
  · have hp : p = none := by cases p <;> simp_all
    subst hp
    have := h.nil rfl
    have hl := h.len
    have : xs = [] := List.eq_nil_of_length_eq_zero (by omega)
    subst this
    exact ⟨_, _, _, rfl, ⟨rfl, fun _ => ⟨rfl, rfl⟩, fun a ha => (by cases ha)⟩, Kp.refl⟩
  · rintro _ rfl
    obtain ⟨q, m, d, H', e, h1, -, h2⟩ := Ls.clone (enc := Value.int .i64) h (by_ := 8) (by omega) (by omega)
    exact ⟨_, _, _, _, e, _, _, _, rfl, h1, h2⟩

theorem c_Clone_bools {H : LH} {p : Option Addr} {n c : Nat} {xs : List Bool} (h : Bools H p n c xs) (hb : n ≤ 1000000) :
    Call prog f_slices_Clone_bool_bool [.slice p n c] H (fun v H' => ∃ q m d, v = .slice q m d ∧ OwnV Value.bool H.next H' q m d xs ∧ Kp [] H H') := by
  refine F_slices_Clone_bool_bool_call _ _ _ ⟨fun g => ?_, fun g => ?_⟩
  · have hp : p = none := by cases p <;> simp_all
    subst hp
    have := h.nil rfl
    have hl := h.len
    have : xs = [] := List.eq_nil_of_length_eq_zero (by omega)
    subst this
    exact ⟨_, _, _, rfl, ⟨rfl, fun _ => ⟨rfl, rfl⟩, fun a ha => (by cases ha)⟩, Kp.refl⟩
  · rintro _ rfl
    obtain ⟨q, m, d, H', e, h1, -, h2⟩ := Ls.clone (enc := Value.bool) h (by_ := 1) (by omega) (by omega)
    exact ⟨_, _, _, _, e, _, _, _, rfl, h1, h2⟩

/-- Cores whose lists lie in blocks of their own, one behind the other. -/
structure OwnCore (B : Nat) (H : LH) (q1 : Option Addr) (m1 d1 : Nat) (q2 : Option Addr) (m2 d2 : Nat) (q3 : Option Addr) (m3 d3 : Nat) (C : CoreD) : Prop where
  regs : OwnV (Value.int .i64) B H q1 m1 d1 C.regs
  data : OwnV (Value.int .i64) B H q2 m2 d2 C.data
  held : OwnV Value.bool B H q3 m3 d3 C.held
  rd : ∀ a b, q1 = some a → q2 = some b → a.block ≠ b.block
  rh : ∀ a b, q1 = some a → q3 = some b → a.block ≠ b.block
  dh : ∀ a b, q2 = some a → q3 = some b → a.block ≠ b.block

theorem OwnV.lt {B m d : Nat} {q : Option Addr} (h : OwnV enc B H q m d xs) : ∀ a, q = some a → a.block < H.next := fun a ha => by obtain ⟨-, -, h3, -⟩ := h.is a ha; exact h3.lt

theorem c_machine_Copy {H : LH} {p1 : Option Addr} {n1 c1 : Nat} {p2 : Option Addr} {n2 c2 : Nat} {p3 : Option Addr} {n3 c3 : Nat} {pc : Int} {ended : Bool} {C : CoreD} (h : CoreAt H p1 n1 c1 p2 n2 c2 p3 n3 c3 pc ended C) (b1 : n1 ≤ 1000000) (b2 : n2 ≤ 1000000) (b3 : n3 ≤ 1000000) :
    Call prog f_machine_Copy [.agg #[.slice p1 n1 c1, .slice p2 n2 c2, .slice p3 n3 c3, .int .i64 pc, .bool ended]] H
      (fun v H' => ∃ q1 m1 d1 q2 m2 d2 q3 m3 d3, v = .agg #[.slice q1 m1 d1, .slice q2 m2 d2, .slice q3 m3 d3, .int .i64 C.pc, .bool C.ended] ∧ OwnCore H.next H' q1 m1 d1 q2 m2 d2 q3 m3 d3 C ∧ Kp [] H H') := by
  refine F_machine_Copy_call _ _ _ _ _ _ _ _ _ _ _ ?_
  unfold F_machine_Copy
  obtain ⟨hr, hd, hh, rfl, rfl⟩ := h
  rintro _ rfl
  have k1 : Kp [] H (H.keep 15) := Kp.refl.keep _
  refine XCall.by (c_Clone_ints (hr.kp0 k1) b1) ?_
  rintro _ H3 ⟨q1, m1, d1, rfl, o1, k3⟩
  refine ⟨_, _, _, rfl, rfl, rfl, XCall.by (c_Clone_ints (hd.kp0 (k1.trans k3)) b2) ?_⟩
  rintro _ H8 ⟨q2, m2, d2, rfl, o2, k8⟩
  refine ⟨_, _, _, rfl, rfl, XCall.by (c_Clone_bools (hh.kp0 ((k1.trans k3).trans k8)) b3) ?_⟩
  rintro _ H13 ⟨q3, m3, d3, rfl, o3, k13⟩
  have n3' := k3.next
  have n8' := k8.next
  have e1 : (H.keep 15).next = H.next + 15 := rfl
  refine ⟨_, _, _, rfl, _, _, _, _, _, _, _, _, _, rfl, ⟨((o1.kp k8).kp k13).lower (by omega), (o2.kp k13).lower (by omega), o3.lower (by omega), ?_, ?_, ?_⟩, (k1.trans k3).trans (k8.trans k13)⟩
  · intro a b ha hb
    have := o1.lt a ha
    obtain ⟨-, -, -, h4⟩ := o2.is b hb
    omega
  · intro a b ha hb
    have := o1.lt a ha
    obtain ⟨-, -, -, h4⟩ := o3.is b hb
    omega
  · intro a b ha hb
    have := o2.lt a ha
    obtain ⟨-, -, -, h4⟩ := o3.is b hb
    omega

theorem c_ref21_Copy {H : LH} {p1 : Option Addr} {n1 c1 : Nat} {p2 : Option Addr} {n2 c2 : Nat} {p3 : Option Addr} {n3 c3 : Nat} {pc : Int} {ended : Bool} {C : CoreD} (h : CoreAt H p1 n1 c1 p2 n2 c2 p3 n3 c3 pc ended C) (b1 : n1 ≤ 1000000) (b2 : n2 ≤ 1000000) (b3 : n3 ≤ 1000000) :
    Call prog f_ref21_Copy [.agg #[.slice p1 n1 c1, .slice p2 n2 c2, .slice p3 n3 c3, .int .i64 pc, .bool ended]] H
      (fun v H' => ∃ q1 m1 d1 q2 m2 d2 q3 m3 d3, v = .agg #[.slice q1 m1 d1, .slice q2 m2 d2, .slice q3 m3 d3, .int .i64 C.pc, .bool C.ended] ∧ OwnCore H.next H' q1 m1 d1 q2 m2 d2 q3 m3 d3 C ∧ Kp [] H H') := by
  refine F_ref21_Copy_call _ _ _ _ _ _ _ _ _ _ _ ?_
  unfold F_ref21_Copy
  obtain ⟨hr, hd, hh, rfl, rfl⟩ := h
  rintro _ rfl
  obtain ⟨q1, m1, d1, H5, e1, o1, -, k5⟩ := Ls.clone (enc := Value.int .i64) hr (by_ := 8) (by omega) (by omega)
  refine ⟨_, _, _, _, e1, ?_⟩
  rintro _ rfl
  obtain ⟨q2, m2, d2, H10, e2, o2, -, k10⟩ := Ls.clone (enc := Value.int .i64) (hd.kp0 k5) (by_ := 8) (by omega) (by omega)
  refine ⟨_, _, _, _, e2, ?_⟩
  rintro _ rfl
  obtain ⟨q3, m3, d3, H15, e3, o3, -, k15⟩ := Ls.clone (enc := Value.bool) (hh.kp0 (k5.trans k10)) (by_ := 1) (by omega) (by omega)
  refine ⟨_, _, _, _, e3, ?_⟩
  have n5' := k5.next
  have n10' := k10.next
  refine ⟨_, _, _, _, _, _, _, _, _, rfl, ⟨(o1.kp k10).kp k15, (o2.kp k15).lower (by omega), o3.lower (by omega), ?_, ?_, ?_⟩, (k5.trans k10).trans k15⟩
  · intro a b ha hb
    have := o1.lt a ha
    obtain ⟨-, -, -, h4⟩ := o2.is b hb
    omega
  · intro a b ha hb
    have := o1.lt a ha
    obtain ⟨-, -, -, h4⟩ := o3.is b hb
    omega
  · intro a b ha hb
    have := o2.lt a ha
    obtain ⟨-, -, -, h4⟩ := o3.is b hb
    omega

/-- A copy of a valid core, as it is worked on. -/
theorem OwnCore.cb {B : Nat} {H : LH} {q1 : Option Addr} {m1 d1 : Nat} {q2 : Option Addr} {m2 d2 : Nat} {q3 : Option Addr} {m3 d3 : Nat} {C : CoreD} {k cb : Nat} (h : OwnCore B H q1 m1 d1 q2 m2 d2 q3 m3 d3 C) (ok : CoreOk k 6 C)
    (hc : Blk H' cb 5 [.slice q1 m1 d1, .slice q2 m2 d2, .slice q3 m3 d3, .int .i64 C.pc, .bool C.ended]) (hk : Kp [] H H') (hcb : H.next ≤ cb) :
    ∃ rb db hb, q1 = some ⟨rb, 0, none⟩ ∧ m1 = 8 ∧ q2 = some ⟨db, 0, none⟩ ∧ m2 = 6 ∧ q3 = some ⟨hb, 0, none⟩ ∧ m3 = 4 ∧ B ≤ rb ∧ B ≤ db ∧ B ≤ hb ∧ CB H' cb rb d1 db d2 hb d3 C := by
  have e1 := h.regs.len
  have e2 := h.data.len
  have e3 := h.held.len
  have f1 := ok.rlen
  have f2 := ok.dlen
  have f3 := ok.hlen
  have some_ : ∀ {q : Option Addr} {m d : Nat}, (q = none → m = 0 ∧ d = 0) → 0 < m → ∃ a, q = some a := fun {q m d} hq hm => by
    cases q with
    | none => have := hq rfl; omega
    | some a => exact ⟨a, rfl⟩
  obtain ⟨a1, rfl⟩ := some_ h.regs.nil (by omega)
  obtain ⟨a2, rfl⟩ := some_ h.data.nil (by omega)
  obtain ⟨a3, rfl⟩ := some_ h.held.nil (by omega)
  obtain ⟨s1, o1, g1, l1⟩ := h.regs.is a1 rfl
  obtain ⟨s2, o2, g2, l2⟩ := h.data.is a2 rfl
  obtain ⟨s3, o3, g3, l3⟩ := h.held.is a3 rfl
  obtain ⟨rb, i1, t1⟩ := a1
  obtain ⟨db, i2, t2⟩ := a2
  obtain ⟨hb, i3, t3⟩ := a3
  simp only at s1 o1 g1 l1 s2 o2 g2 l2 s3 o3 g3 l3
  subst s1; subst o1; subst s2; subst o2; subst s3; subst o3
  obtain rfl : m1 = 8 := by omega
  obtain rfl : m2 = 6 := by omega
  obtain rfl : m3 = 4 := by omega
  have h1 := g1.lt
  have h2 := g2.lt
  have h3 := g3.lt
  exact ⟨rb, db, hb, rfl, rfl, rfl, rfl, rfl, rfl, l1, l2, l3, hc, g1.kp hk (by simp), g2.kp hk (by simp), g3.kp hk (by simp), ok.rlen, by omega, ok.hlen, by omega, by omega, by omega,
    h.rd _ _ rfl rfl, h.rh _ _ rfl rfl, h.dh _ _ rfl rfl⟩

/-- A core that was worked on, as a core in memory. -/
theorem CB.at {H : LH} {cb rb rc db dc hb hc : Nat} {C : CoreD} (h : CB H cb rb rc db dc hb hc C) : CoreAt H (some ⟨rb, 0, none⟩) 8 rc (some ⟨db, 0, none⟩) 6 dc (some ⟨hb, 0, none⟩) 4 hc C.pc C.ended C := by
  refine ⟨?_, ?_, ?_, rfl, rfl⟩
  · exact (OwnV.ls (enc := Value.int .i64) (B := 0) ⟨h.rlen, fun hh => (by cases hh), fun a ha => (by cases ha; exact ⟨rfl, rfl, h.regs, Nat.zero_le _⟩)⟩ (by omega))
  · exact (OwnV.ls (enc := Value.int .i64) (B := 0) ⟨h.dlen, fun hh => (by cases hh), fun a ha => (by cases ha; exact ⟨rfl, rfl, h.data, Nat.zero_le _⟩)⟩ (by omega))
  · exact (OwnV.ls (enc := Value.bool) (B := 0) ⟨h.hlen, fun hh => (by cases hh), fun a ha => (by cases ha; exact ⟨rfl, rfl, h.held, Nat.zero_le _⟩)⟩ (by omega))

theorem OwnCore.at {B : Nat} {H : LH} {q1 : Option Addr} {m1 d1 : Nat} {q2 : Option Addr} {m2 d2 : Nat} {q3 : Option Addr} {m3 d3 : Nat} {C : CoreD} (h : OwnCore B H q1 m1 d1 q2 m2 d2 q3 m3 d3 C) (b1 : m1 ≤ 1000000) (b2 : m2 ≤ 1000000) (b3 : m3 ≤ 1000000) :
    CoreAt H q1 m1 d1 q2 m2 d2 q3 m3 d3 C.pc C.ended C :=
  ⟨OwnV.ls (enc := Value.int .i64) h.regs (by omega), OwnV.ls (enc := Value.int .i64) h.data (by omega), OwnV.ls (enc := Value.bool) h.held (by omega), rfl, rfl⟩

open Classical in
/-- What a step of a straight image comes to; `m`: how many units it has. -/
noncomputable def stepS (code : List InstrD) (m : Nat) (C : CoreD) : (Int × Int × Bool) × Int × CoreD :=
  if m = 0 ∨ ¬ CoreOk code.length 6 C then ((0, 0, false), 10, C)
  else if C.ended = true then ((0, 0, false), 15, C)
  else match code[C.pc.toNat]? with
    | some x => stepF x code.length C
    | none => ((0, 0, false), 10, C)

theorem stepF_err {x : InstrD} {n : Nat} {C : CoreD} (h : (stepF x n C).2.1 ≠ 0) : (stepF x n C).1 = (0, 0, false) ∧ (stepF x n C).2.2 = C := by
  unfold stepF at h ⊢
  split
  · exact ⟨rfl, rfl⟩
  · rename_i h1
    rw [if_neg h1] at h
    split
    · exact ⟨rfl, rfl⟩
    · rename_i h2
      rw [if_neg h2] at h
      split
      · exact ⟨rfl, rfl⟩
      · rename_i h3
        rw [if_neg h3] at h
        exact absurd rfl h

/-- What both leave: the same. -/
structure SteppedTo (H0 H' : LH) (v : Value) (S : (Int × Int × Bool) × Int × CoreD) : Prop where
  is : ∃ p1 n1 c1 p2 n2 c2 p3 n3 c3, v = .tuple #[.agg #[.slice p1 n1 c1, .slice p2 n2 c2, .slice p3 n3 c3, .int .i64 S.2.2.pc, .bool S.2.2.ended], .agg #[.int .i64 S.1.1, .int .i64 S.1.2.1, .bool S.1.2.2], .int .i64 S.2.1] ∧
    CoreAt H' p1 n1 c1 p2 n2 c2 p3 n3 c3 S.2.2.pc S.2.2.ended S.2.2
  kp : Kp [] H0 H'

variable {q : Option Addr} {m d : Nat} {code : List InstrD} {nodes : List NodeD} {p1 : Option Addr} {n1 c1 : Nat} {p2 : Option Addr} {n2 c2 : Nat} {p3 : Option Addr} {n3 c3 : Nat} {pc : Int} {ended : Bool} {C : CoreD}

theorem c_machine_Step (str : Straight code nodes) (hcode : Ls RInstr 6 H p n c code) (hu : UnitAt H q m d nodes ∨ (q = none ∧ m = 0 ∧ d = 0)) (hC : CoreAt H p1 n1 c1 p2 n2 c2 p3 n3 c3 pc ended C) (b1 : n1 ≤ 1000000) (b2 : n2 ≤ 1000000) (b3 : n3 ≤ 1000000) (u : Option Addr) (v w : Nat) :
    Call prog f_machine_Step [.agg #[.slice p n c, .int .i64 6, .slice u v w, .slice q m d], .agg #[.slice p1 n1 c1, .slice p2 n2 c2, .slice p3 n3 c3, .int .i64 pc, .bool ended]] H (fun r H' => SteppedTo H H' r (stepS code m C)) := by
  refine F_machine_Step_call _ _ _ _ _ _ _ _ _ _ _ _ _ _ _ _ _ _ _ _ _ ?_
  unfold F_machine_Step
  have lc := hcode.len
  refine XCall.by (c_machine_Copy hC b1 b2 b3) ?_
  rintro _ H2 ⟨q1, m1, d1, q2, m2, d2, q3, m3, d3, rfl, oc, k2⟩
  refine ⟨_, _, _, _, _, _, _, _, _, _, _, rfl, ?_⟩
  rintro H14 hH14
  have k14 : Kp [] H2 H14 := by rw [hH14]; exact Kp.refl.new _
  have b14 : Blk H14 H2.next 5 [.slice none 0 0, .slice none 0 0, .slice none 0 0, .int .i64 0, .bool false] := by rw [hH14]; exact Blk.new _ _ _
  clear hH14
  refine ⟨_, _, b14.is, by simp, ?_⟩
  rintro H17 hH17
  have k17 : Kp [] H2 H17 := by rw [hH17]; exact k14.put (.inr (Nat.le_refl _)) _
  have b17 : Blk H17 H2.next 5 [.slice q1 m1 d1, .slice q2 m2 d2, .slice q3 m3 d3, .int .i64 C.pc, .bool C.ended] := by rw [hH17]; exact b14.put
  clear hH17 b14 k14
  have kk := k2.trans k17
  have e1 := oc.regs.len
  have e2 := oc.data.len
  have e3 := oc.held.len
  have l1 := hC.regs.len
  have l2 := hC.data.len
  have l3 := hC.held.len
  have hu17 : UnitAt H17 q m d nodes ∨ (q = none ∧ m = 0 ∧ d = 0) := hu.imp (fun h => h.kp kk) id
  refine XCall.by (c_emit_Check str (hcode.kp0 kk) hu17 u v w) ?_
  rintro _ H19 ⟨rfl, k19⟩
  -- where nothing has been done
  have back : ∀ (H' : LH), Kp [] H17 H' → ∀ e : Int, stepS code m C = ((0, 0, false), e, C) → ∃ (p21 : Option Addr) (n22 n23 : Nat), hAt H' H2.next 0 (.slice p21 n22 n23) ∧ ∃ (p24 : Option Addr) (n25 n26 : Nat), hAt H' H2.next (0 + 1) (.slice p24 n25 n26) ∧
      ∃ (p27 : Option Addr) (n28 n29 : Nat), hAt H' H2.next (0 + 1 + 1) (.slice p27 n28 n29) ∧ ∃ x30 : Int, hAt H' H2.next (0 + 1 + 1 + 1) (.int .i64 x30) ∧ ∃ b31 : Bool, hAt H' H2.next (0 + 1 + 1 + 1 + 1) (.bool b31) ∧
        SteppedTo H H' (.tuple #[.agg #[.slice p21 n22 n23, .slice p24 n25 n26, .slice p27 n28 n29, .int .i64 x30, .bool b31], .agg #[.int .i64 0, .int .i64 0, .bool false], .int .i64 e]) (stepS code m C) := by
    intro H' hk e hS
    have b := b17.kp hk (by simp)
    refine ⟨_, _, _, b.at rfl, _, _, _, b.at rfl, _, _, _, b.at rfl, _, b.at rfl, _, b.at rfl, ?_⟩
    rw [hS]
    refine ⟨⟨_, _, _, _, _, _, _, _, _, rfl, ?_⟩, kk.trans hk⟩
    exact (oc.at (by omega) (by omega) (by omega)).kp0 (k17.trans hk)
  refine ⟨_, rfl, fun g => ?_, fun g => ?_⟩
  · have hm : m = 0 := by
      apply Classical.byContradiction; intro hne; rw [if_neg hne] at g; simp at g
    exact back _ k19 10 (by unfold stepS; rw [if_pos (.inl hm)])
  have hm : m ≠ 0 := fun hh => by rw [if_pos hh] at g; simp at g
  refine XCall.by (c_machine_Valid (hcode.kp0 (kk.trans k19)).nil (hC.kp0 (kk.trans k19))) ?_
  rintro _ H33 ⟨b34, rfl, hb, k33⟩
  have k1733 := k19.trans k33
  refine ⟨_, rfl, fun g => ?_, fun g => ?_⟩
  · have g : ¬ b34 = true := by simpa using g
    exact back _ k1733 10 (by unfold stepS; rw [if_pos (.inr (by rw [lc]; exact fun hh => g (hb.2 hh)))])
  have g : b34 = true := by simpa using g
  have ok := hb.1 g
  have hend := hC.ended
  refine ⟨fun g2 => ?_, fun g2 => ?_⟩
  · exact back _ k1733 15 (by unfold stepS; rw [if_neg (fun hh => by rcases hh with hh | hh; exact hm hh; exact hh (by rw [lc]; exact ok)), if_pos (by rw [← hend]; exact g2)])
  obtain ⟨rb, db, hb', rfl, rfl, rfl, rfl, rfl, rfl, hl1, hl2, hl3, cb⟩ := oc.cb ok (b17.kp k1733 (by simp)) (k17.trans k1733) (Nat.le_refl _)
  have hpc0 := ok.pc0
  have hpc1 := ok.pc1
  obtain ⟨x, y, hx, hy, fit⟩ := str.at (i := C.pc.toNat) (by omega)
  have hhi := str.hi
  have hlo := str.lo
  have hS : stepS code m C = stepF x n C := by
    unfold stepS
    rw [if_neg (fun hh => by rcases hh with hh | hh; exact hm hh; exact hh (by rw [lc]; exact ok)), if_neg (by rw [← hend, g2]; simp), hx, lc]
  have hnx := k2.next
  refine XCall.by (c_machine_Next (H0 := H) hcode (kk.trans k1733) cb ok hx (fit.ok (by omega) (by omega)) ⟨by omega, hl1, hl2, hl3⟩ _ _ _ _ _ _) ?_
  rintro _ H58 ⟨rfl, c58, k58⟩
  refine ⟨_, _, _, _, rfl, ?_⟩
  rintro _ rfl
  have c63 := c58.kp0 (H' := H58.keep 6) (Kp.refl.keep _)
  refine ⟨_, _, _, c63.core.at rfl, _, _, _, c63.core.at rfl, _, _, _, c63.core.at rfl, _, c63.core.at rfl, _, c63.core.at rfl, rfl, ?_⟩
  rw [hS]
  exact ⟨⟨_, _, _, _, _, _, _, _, _, rfl, c63.at⟩, k58.keep _⟩

theorem c_ref21_Step (str : Straight code nodes) (hcode : Ls RInstr 6 H p n c code) (hu : UnitAt H q m d nodes ∨ (q = none ∧ m = 0 ∧ d = 0)) (hC : CoreAt H p1 n1 c1 p2 n2 c2 p3 n3 c3 pc ended C) (b1 : n1 ≤ 1000000) (b2 : n2 ≤ 1000000) (b3 : n3 ≤ 1000000) (u : Option Addr) (v w : Nat) :
    Call prog f_ref21_Step [.agg #[.slice p n c, .int .i64 6, .slice u v w, .slice q m d], .agg #[.slice p1 n1 c1, .slice p2 n2 c2, .slice p3 n3 c3, .int .i64 pc, .bool ended]] H (fun r H' => SteppedTo H H' r (stepS code m C)) := by
  refine F_ref21_Step_call _ _ _ _ _ _ _ _ _ _ _ _ _ _ _ _ _ _ _ _ _ ?_
  unfold F_ref21_Step
  have lc := hcode.len
  refine XCall.by (c_ref20_Check str hcode hu u v w) ?_
  rintro _ H2 ⟨rfl, k2⟩
  have hpc := hC.pc
  have hend := hC.ended
  subst hpc
  subst hend
  have back : ∀ (H' : LH), Kp [] H H' → ∀ e : Int, stepS code m C = ((0, 0, false), e, C) → SteppedTo H H' (.tuple #[.agg #[.slice p1 n1 c1, .slice p2 n2 c2, .slice p3 n3 c3, .int .i64 C.pc, .bool C.ended], .agg #[.int .i64 0, .int .i64 0, .bool false], .int .i64 e]) (stepS code m C) := by
    intro H' hk e hS
    rw [hS]
    exact ⟨⟨_, _, _, _, _, _, _, _, _, rfl, hC.kp0 hk⟩, hk⟩
  refine ⟨_, rfl, fun g => ?_, fun g => ?_⟩
  · have hm : m = 0 := by
      apply Classical.byContradiction; intro hne; rw [if_neg hne] at g; simp at g
    exact back _ k2 10 (by unfold stepS; rw [if_pos (.inl hm)])
  have hm : m ≠ 0 := fun hh => by rw [if_pos hh] at g; simp at g
  refine XCall.by (c_ref21_Valid (hcode.kp0 k2).nil (hC.kp0 k2)) ?_
  rintro _ H5 ⟨b6, rfl, hb, k5⟩
  have k05 := k2.trans k5
  refine ⟨_, rfl, fun g => ?_, fun g => ?_⟩
  · have g : ¬ b6 = true := by simpa using g
    exact back _ k05 10 (by unfold stepS; rw [if_pos (.inr (by rw [lc]; exact fun hh => g (hb.2 hh)))])
  have g : b6 = true := by simpa using g
  have ok := hb.1 g
  refine ⟨fun g2 => ?_, fun g2 => ?_⟩
  · exact back _ k05 15 (by unfold stepS; rw [if_neg (fun hh => by rcases hh with hh | hh; exact hm hh; exact hh (by rw [lc]; exact ok)), if_pos g2])
  refine XCall.by (c_ref21_Copy (hC.kp0 k05) b1 b2 b3) ?_
  rintro _ H8 ⟨q1, m1, d1, q2, m2, d2, q3, m3, d3, rfl, oc, k8⟩
  refine ⟨_, _, _, _, _, _, _, _, _, _, _, rfl, ?_⟩
  rintro H20 hH20
  have k20 : Kp [] H8 H20 := by rw [hH20]; exact Kp.refl.new _
  have b20 : Blk H20 H8.next 5 [.slice none 0 0, .slice none 0 0, .slice none 0 0, .int .i64 0, .bool false] := by rw [hH20]; exact Blk.new _ _ _
  clear hH20
  refine ⟨_, _, b20.is, by simp, ?_⟩
  rintro H23 hH23
  have k23 : Kp [] H8 H23 := by rw [hH23]; exact k20.put (.inr (Nat.le_refl _)) _
  have b23 : Blk H23 H8.next 5 [.slice q1 m1 d1, .slice q2 m2 d2, .slice q3 m3 d3, .int .i64 C.pc, .bool C.ended] := by rw [hH23]; exact b20.put
  clear hH23 b20 k20
  obtain ⟨rb, db, hb', rfl, rfl, rfl, rfl, rfl, rfl, hl1, hl2, hl3, cb⟩ := oc.cb ok b23 k23 (Nat.le_refl _)
  have hpc0 := ok.pc0
  have hpc1 := ok.pc1
  obtain ⟨x, y, hx, hy, fit⟩ := str.at (i := C.pc.toNat) (by omega)
  have hhi := str.hi
  have hlo := str.lo
  have hS : stepS code m C = stepF x n C := by
    unfold stepS
    rw [if_neg (fun hh => by rcases hh with hh | hh; exact hm hh; exact hh (by rw [lc]; exact ok)), if_neg (by rw [g2]; simp), hx, lc]
  have hn5 := k05.next
  have hn8 := k8.next
  have k023 := (k05.trans k8).trans k23
  refine XCall.by (c_ref21_step (H0 := H) hcode k023 cb ok hx (fit.ok (by omega) (by omega)) ⟨by omega, by omega, by omega, by omega⟩ _ _ _ _ _ _) ?_
  rintro _ H25 ⟨rfl, c25, k25⟩
  refine ⟨_, _, _, _, rfl, fun g3 => ?_, fun g3 => ?_⟩
  · have g3 : (stepF x n C).2.1 ≠ 0 := by simpa using g3
    obtain ⟨s1, s2⟩ := stepF_err g3
    rw [hS]
    refine ⟨⟨_, _, _, _, _, _, _, _, _, ?_, by rw [s2]; exact hC.kp0 k25⟩, k25⟩
    rw [s1, s2]
  · have g3 : (stepF x n C).2.1 = 0 := by simpa using g3
    rintro _ rfl
    have c30 := c25.kp0 (H' := H25.keep 5) (Kp.refl.keep _)
    refine ⟨_, _, _, c30.core.at rfl, _, _, _, c30.core.at rfl, _, _, _, c30.core.at rfl, _, c30.core.at rfl, _, c30.core.at rfl, rfl, ?_⟩
    rw [hS]
    exact ⟨⟨_, _, _, _, _, _, _, _, _, by rw [g3], c30.at⟩, k25.keep _⟩

end Go.Lg
