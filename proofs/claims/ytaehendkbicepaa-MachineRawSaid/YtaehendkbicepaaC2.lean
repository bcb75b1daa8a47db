/- Straight images: what they are, and that they are made so. No condition. -/
import Derived.Test.YtaehendkbicepaaC1
set_option linter.unusedVariables false
namespace Go.Lg
open Go

structure InstrD where
  ins : Int
  a : Int
  b : Int
  c : Int
  op : Int
  imm : Int

def RInstr (r : List Value) (x : InstrD) : Prop := r = [.int .i64 x.ins, .int .i64 x.a, .int .i64 x.b, .int .i64 x.c, .int .i64 x.op, .int .i64 x.imm]

structure AccD where
  at_ : Int
  lo : Int
  hi : Int

def RAcc (r : List Value) (x : AccD) : Prop := r = [.int .i64 x.at_, .int .i64 x.lo, .int .i64 x.hi]

structure NodeD where
  first : Int
  count : Int
  next : List Int
  acc : List AccD

/-- A node: `ok` says in what blocks its lists may lie. -/
def RNode (ok : Nat → Prop) (H : LH) (r : List Value) (x : NodeD) : Prop :=
  ∃ p n c q m d, r = [.int .i64 x.first, .int .i64 x.count, .slice p n c, .slice q m d] ∧ Ints H p n c x.next ∧ Ls RAcc 3 H q m d x.acc ∧
    (∀ a, p = some a → ok a.block) ∧ (∀ a, q = some a → ok a.block)

theorem RNode.kp {ok ok' : Nat → Prop} {S : List Nat} {H H' : LH} {r : List Value} {x : NodeD} (h : RNode ok H r x) (hk : Kp S H H') (hs : ∀ b, ok b → b ∉ S) (ho : ∀ b, b < H.next → ok b → ok' b) : RNode ok' H' r x := by
  obtain ⟨p, n, c, q, m, d, rfl, h1, h2, h3, h4⟩ := h
  have lt : ∀ {T : Type} {R : List Value → T → Prop} {s : Nat} {p : Option Addr} {n c : Nat} {xs : List T}, Ls R s H p n c xs → ∀ a, p = some a → a.block < H.next := fun hl a ha => by
    obtain ⟨rows, -, -, -, -, k⟩ := hl.is
    exact (k a ha).2.lt
  exact ⟨p, n, c, q, m, d, rfl, h1.kp hk (fun a ha => hs _ (h3 a ha)), h2.kp hk (fun a ha => hs _ (h4 a ha)), fun a ha => ho _ (lt h1 a ha) (h3 a ha), fun a ha => ho _ (lt h2 a ha) (h4 a ha)⟩

theorem Ls.lt {T : Type} {R : List Value → T → Prop} {s : Nat} {H : LH} {p : Option Addr} {n c : Nat} {xs : List T} (hl : Ls R s H p n c xs) : ∀ a, p = some a → a.block < H.next := fun a ha => by
  obtain ⟨rows, -, -, -, -, k⟩ := hl.is
  exact (k a ha).2.lt

/-- An instruction that is right, and the node that it makes at `i`; `n`: where the end is. -/
structure Fit (n i : Int) (x : InstrD) (y : NodeD) : Prop where
  first : y.first = i
  count : y.count = 1
  ins : 0 ≤ x.ins ∧ x.ins ≤ 10
  a : 0 ≤ x.a ∧ x.a < 8
  b : 0 ≤ x.b ∧ x.b < 8
  c : 0 ≤ x.c ∧ x.c < 8
  a0 : x.ins = 0 ∨ x.ins = 6 ∨ x.ins = 8 ∨ x.ins = 9 ∨ x.ins = 10 → x.a = 0
  b0 : ¬ (x.ins = 2 ∨ x.ins = 3 ∨ x.ins = 4 ∨ x.ins = 5) → x.b = 0
  c0 : x.ins ≠ 3 → x.c = 0
  op0 : x.ins ≠ 3 → x.op = 0
  op : x.ins = 3 → 1 ≤ x.op ∧ x.op ≤ 14
  imm0 : x.ins = 0 ∨ x.ins = 2 ∨ x.ins = 3 ∨ x.ins = 10 → x.imm = 0
  imm1 : x.ins = 1 → -2147483648 ≤ x.imm ∧ x.imm ≤ 2147483647
  imm4 : x.ins = 4 ∨ x.ins = 5 → 0 ≤ x.imm ∧ x.imm < 7
  imm6 : x.ins = 6 → x.imm = n
  imm7 : x.ins = 7 → 0 ≤ x.imm ∧ x.imm ≤ n
  imm8 : x.ins = 8 ∨ x.ins = 9 → 0 ≤ x.imm ∧ x.imm < 2
  acc : y.acc = if x.ins = 4 ∨ x.ins = 5 then [⟨i, 0, 5⟩] else []
  next : y.next = if x.ins = 10 then [] else if x.ins = 6 then [n] else if x.ins = 7 then [i + 1, x.imm] else [i + 1]
  last : x.ins = 10 ↔ i = n

structure Straight (code : List InstrD) (nodes : List NodeD) : Prop where
  len : code.length = nodes.length
  lo : 3 ≤ code.length
  hi : code.length ≤ 14
  fit : ∀ (j : Nat) x y, code[j]? = some x → nodes[j]? = some y → Fit ((code.length : Int) - 1) j x y

theorem get_snoc {T : Type} {l : List T} {x y : T} {j : Nat} (h : (l ++ [x])[j]? = some y) : (j < l.length ∧ l[j]? = some y) ∨ (j = l.length ∧ y = x) := by
  rcases Nat.lt_trichotomy j l.length with hj | hj | hj
  · rw [List.getElem?_append_left hj] at h; exact .inl ⟨hj, h⟩
  · subst hj; simp at h; exact .inr ⟨rfl, h.symm⟩
  · rw [List.getElem?_eq_none (by simp; omega)] at h; cases h

/-- What a unit of a straight image is. -/
structure UnitAt (H : LH) (p : Option Addr) (n c : Nat) (nodes : List NodeD) : Prop where
  one : n = 1
  is : ∃ b i s q m d, p = some ⟨b, i, none⟩ ∧ Row H b i 10 [.string s, .slice q m d, .slice none 0 0, .slice none 0 0, .slice none 0 0, .slice none 0 0, .slice none 0 0, .slice none 0 0, .slice none 0 0, .slice none 0 0] ∧
    Ls (RNode (fun _ => True) H) 4 H q m d nodes

theorem UnitAt.kp {H H' : LH} {p : Option Addr} {n c : Nat} {nodes : List NodeD} (h : UnitAt H p n c nodes) (hk : Kp [] H H') : UnitAt H' p n c nodes := by
  obtain ⟨b, i, s, q, m, d, h1, h2, h3⟩ := h.is
  exact ⟨h.one, b, i, s, q, m, d, h1, h2.kp hk (by simp), (h3.kp0 hk).mono fun r x _ hr => hr.kp hk (fun _ _ hb => by cases hb) (fun _ _ h => h)⟩

/-- The same, and nothing of it lies in block `o`. -/
structure UnitOff (o : Nat) (H : LH) (p : Option Addr) (n c : Nat) (nodes : List NodeD) : Prop where
  one : n = 1
  is : ∃ b i s q m d, p = some ⟨b, i, none⟩ ∧ b ≠ o ∧ Row H b i 10 [.string s, .slice q m d, .slice none 0 0, .slice none 0 0, .slice none 0 0, .slice none 0 0, .slice none 0 0, .slice none 0 0, .slice none 0 0, .slice none 0 0] ∧
    Ls (RNode (fun b => b ≠ o) H) 4 H q m d nodes ∧ ∀ a, q = some a → a.block ≠ o

theorem UnitOff.kp {o : Nat} {H H' : LH} {p : Option Addr} {n c : Nat} {nodes : List NodeD} (h : UnitOff o H p n c nodes) (hk : Kp [o] H H') : UnitOff o H' p n c nodes := by
  obtain ⟨b, i, s, q, m, d, h1, h2, h3, h4, h5⟩ := h.is
  refine ⟨h.one, b, i, s, q, m, d, h1, h2, h3.kp hk (by simpa using h2), ?_, h5⟩
  exact (h4.kp hk (fun a ha => by simpa using h5 a ha)).mono fun r x _ hr => hr.kp hk (fun b hb => by simpa using hb) (fun _ _ h => h)

theorem UnitOff.at {o : Nat} {H : LH} {p : Option Addr} {n c : Nat} {nodes : List NodeD} (h : UnitOff o H p n c nodes) : UnitAt H p n c nodes := by
  obtain ⟨b, i, s, q, m, d, h1, h2, h3, h4, h5⟩ := h.is
  exact ⟨h.one, b, i, s, q, m, d, h1, h3, h4.mono fun r x _ hr => hr.kp (S := []) Kp.refl (fun _ _ hb => by cases hb) (fun _ _ _ => trivial)⟩

theorem c_straight {H : LH} {d : Nat} (hd : DeckAt H d) (hdl : d < H.next) :
    Call prog f_law21_straight [.pointer (some ⟨d, 0, none⟩)] H (fun v H' => ∃ p n c q m e code nodes, v = .agg #[.slice p n c, .int .i64 6, .slice none 0 0, .slice q m e] ∧
      Straight code nodes ∧ Ls RInstr 6 H' p n c code ∧ (∀ a, p = some a → a.block ≠ d) ∧ UnitOff d H' q m e nodes ∧ Kp [d] H H' ∧ DeckAt H' d) := by
  refine F_law21_straight_call _ ?_
  unfold F_law21_straight
  refine XCall.by (c_Deck_Next hd (by omega)) ?_
  rintro _ H2 ⟨x3, rfl, hx0, hx1, hD2, hk2⟩
  refine ⟨_, rfl, ?_⟩
  rw [wrap_id (x := 2 + x3) (by omega), wrap_id (x := 2 + x3 + 1) (by omega)]
  obtain ⟨N, hN⟩ : ∃ N : Int, N = 2 + x3 := ⟨_, rfl⟩
  rw [← hN]
  have hN2 : 2 ≤ N := by omega
  have hN13 : N ≤ 13 := by omega
  -- the loop
  refine ⟨fun p n c x q m e u k v s p2 n2 c2 q1 m1 e1 q2 m2 e2 q3 m3 e3 q4 m4 e4 q5 m5 e5 q6 m6 e6 q7 m7 e7 q8 m8 e8 i H' =>
      0 ≤ i ∧ i ≤ N ∧ x = 6 ∧ q = none ∧ m = 0 ∧ e = 0 ∧ u = none ∧ k = 0 ∧ v = 0 ∧
      (q1 = none ∧ m1 = 0 ∧ e1 = 0 ∧ q2 = none ∧ m2 = 0 ∧ e2 = 0 ∧ q3 = none ∧ m3 = 0 ∧ e3 = 0 ∧ q4 = none ∧ m4 = 0 ∧ e4 = 0 ∧ q5 = none ∧ m5 = 0 ∧ e5 = 0 ∧ q6 = none ∧ m6 = 0 ∧ e6 = 0 ∧ q7 = none ∧ m7 = 0 ∧ e7 = 0 ∧ q8 = none ∧ m8 = 0 ∧ e8 = 0) ∧
      ∃ code nodes, (code.length : Int) = i ∧ (nodes.length : Int) = i ∧ Ls RInstr 6 H' p n c code ∧ Own H' 6 p n c ∧ (∀ a, p = some a → H.next ≤ a.block) ∧
        Ls (RNode (fun b => H.next ≤ b ∧ (∀ a, p = some a → b ≠ a.block) ∧ (∀ a, p2 = some a → b ≠ a.block)) H') 4 H' p2 n2 c2 nodes ∧ Own H' 4 p2 n2 c2 ∧ (∀ a, p2 = some a → H.next ≤ a.block ∧ ∀ b, p = some b → a.block ≠ b.block) ∧
        (∀ (j : Nat) x y, code[j]? = some x → nodes[j]? = some y → Fit N j x y) ∧ DeckAt H' d ∧ Kp [d] H H',
    fun p n c x q m e u k v s p2 n2 c2 q1 m1 e1 q2 m2 e2 q3 m3 e3 q4 m4 e4 q5 m5 e5 q6 m6 e6 q7 m7 e7 q8 m8 e8 i H' => (N - i).toNat, ?_, ?_⟩
  · refine ⟨by omega, by omega, rfl, rfl, rfl, rfl, rfl, rfl, rfl, by simp, [], [], rfl, rfl, Ls.nilList, fun a h => (by cases h), fun a h => (by cases h), Ls.nilList, fun a h => (by cases h), fun a h => (by cases h), fun j x y h => (by simp at h), hD2, hk2⟩
  rintro p6 n7 n8 x9 p10 n11 n12 p13 n14 n15 s16 p17 n18 n19 p20 n21 n22 p23 n24 n25 p26 n27 n28 p29 n30 n31 p32 n33 n34 p35 n36 n37 p38 n39 n40 p41 n42 n43 i H45
    ⟨hi0, hiN, rfl, rfl, rfl, rfl, rfl, rfl, rfl, ⟨rfl, rfl, rfl, rfl, rfl, rfl, rfl, rfl, rfl, rfl, rfl, rfl, rfl, rfl, rfl, rfl, rfl, rfl, rfl, rfl, rfl, rfl, rfl, rfl⟩, code, nodes, hcl, hnl, hcode, hcown, hcge, hnodes, hnown, hnge, hfit, hD, hK⟩
  have hcn := hcode.len
  have hnn := hnodes.len
  refine ⟨fun hlt => ?_, fun hge => ?_⟩
  · have hlt : i < N := by simpa using hlt
    rw [wrap_id (x := i + 1) (by omega)]
    refine XCall.by (c_Deck_Next hD (by omega)) ?_
    rintro _ H47 ⟨ins, rfl, hins0, hins1, hD47, hk47⟩
    refine ⟨_, rfl, ?_⟩
    rintro _ rfl
    have hb49 := Blk.new H47 1 [.int .i64 (i + 1)]
    have hnx : H.next ≤ H47.next := Nat.le_trans hK.next hk47.next
    have hnx45 := hK.next
    have nx47 := hk47.next
    refine XCall.by (c_Deck_Next (hD47.kp0 (Kp.refl.new _)) (by omega)) ?_
    rintro _ H51 ⟨a, rfl, ha0, ha1, hD51, hk51⟩
    refine ⟨_, rfl, XCall.by (c_Deck_Next hD51 (by omega)) ?_⟩
    rintro _ H54 ⟨b, rfl, hb0, hb1, hD54, hk54⟩
    refine ⟨_, rfl, XCall.by (c_Deck_Next hD54 (by omega)) ?_⟩
    rintro _ H57 ⟨c, rfl, hc0, hc1, hD57, hk57⟩
    refine ⟨_, rfl, ?_⟩
    have k4557 : Kp [d] H45 H57 := (((hk47.trans ((Kp.refl.new _).trans hk51)).trans hk54).trans hk57)
    have k4957 : Kp [d] (H47.new (.cells [.int .i64 (i + 1)] 1 false)) H57 := (hk51.trans hk54).trans hk57
    have hdn : H47.next ≠ d := by omega
    have hnext1 : Ints H57 (some ⟨H47.next, 0, none⟩) 1 1 [i + 1] := Ls.one (R := Ri) (hb49.kp k4957 (by simpa using hdn)) rfl rfl 1
    intro K59 hK59
    -- behind the switch
    have fin : ∀ (x : InstrD) (nl : List Int) (al : List AccD) (p68 : Option Addr) (n69 n70 : Nat) (p71 : Option Addr) (n72 n73 : Nat) (H74 : LH), Fit N i x ⟨i, 1, nl, al⟩ → Ints H74 p68 n69 n70 nl → Ls RAcc 3 H74 p71 n72 n73 al →
        (∀ a, p68 = some a → H45.next ≤ a.block) → (∀ a, p71 = some a → H45.next ≤ a.block) → DeckAt H74 d → Kp [d] H45 H74 → K59 x.ins x.a x.b x.c x.op x.imm i 1 p68 n69 n70 p71 n72 n73 H74 := by
      intro x nl al p68 n69 n70 p71 n72 n73 H74 hx hnl hal hp68 hp71 hD74 hk74
      refine hK59 _ _ _ _ _ _ _ _ _ _ _ _ _ _ _ ?_
      rintro _ rfl
      have hpd : ∀ a, p6 = some a → a.block ∉ [d] := fun a ha => by have := hcge a ha; simp; omega
      have hcode74 := hcode.kp hk74 hpd
      have own74 : ∀ {s : Nat} {p : Option Addr} {n c : Nat}, Own H45 s p n c → (∀ a, p = some a → a.block < H45.next ∧ H.next ≤ a.block) → Own H74 s p n c := fun ho hge a ha hc => by
        obtain ⟨cs, hcs⟩ := ho a ha hc
        obtain ⟨g1, g2⟩ := hge a ha
        exact ⟨cs, by rw [hk74.get _ g1 (by simp; omega)]; exact hcs⟩
      have hclt := hcode.lt
      have hnlt := hnodes.lt
      obtain ⟨H79, e1, hc79, ho79, hnx79, hkx⟩ := hcode74.append1 (row := [.int .i64 x.ins, .int .i64 x.a, .int .i64 x.b, .int .i64 x.c, .int .i64 x.op, .int .i64 x.imm]) (x := x) (by_ := 48) (own74 hcown (fun a ha => ⟨hclt a ha, hcge a ha⟩)) rfl rfl (by omega) (by omega)
        (fun a ha => Nat.lt_of_lt_of_le (hclt a ha) hk74.next)
      refine ⟨_, _, _, H79, e1, ?_⟩
      rintro _ rfl
      have nx74 := hk74.next
      -- what is kept
      have hnodes79 : Ls (RNode (fun b => H.next ≤ b ∧ (∀ a, (some ⟨H74.next + 1, 0, none⟩ : Option Addr) = some a → b ≠ a.block) ∧ (∀ a, p17 = some a → b ≠ a.block)) H79) 4 H79 p17 n18 n19 nodes := by
        have h1 : Ls (RNode (fun b => (H.next ≤ b ∧ (∀ a, p6 = some a → b ≠ a.block) ∧ (∀ a, p17 = some a → b ≠ a.block)) ∧ b < H45.next) H74) 4 H74 p17 n18 n19 nodes :=
          (hnodes.kp hk74 (fun a ha => by have := (hnge a ha).1; simp; omega)).mono fun r y _ hr => hr.kp hk74 (fun b hb => by simp; omega) (fun b hlt hb => ⟨hb, hlt⟩)
        refine (h1.kp hkx (fun a ha => blkOf_not (fun b hb => (hnge a ha).2 b hb))).mono fun r y _ hr => hr.kp hkx (fun b hb => blkOf_not hb.1.2.1) (fun b hlt hb => ⟨hb.1.1, fun a ha => (by cases ha; show b ≠ H74.next + 1; omega), hb.1.2.2⟩)
      have hnown79 : Own H79 4 p17 n18 n19 := fun a ha hc => by
        obtain ⟨cs, hcs⟩ := own74 hnown (fun a ha => ⟨hnlt a ha, (hnge a ha).1⟩) a ha hc
        exact ⟨cs, by rw [hkx.get _ (Nat.lt_of_lt_of_le (hnlt a ha) hk74.next) (blkOf_not fun b hb => (hnge a ha).2 b hb)]; exact hcs⟩
      have hrow : RNode (fun b => H.next ≤ b ∧ (∀ a, (some ⟨H74.next + 1, 0, none⟩ : Option Addr) = some a → b ≠ a.block) ∧ (∀ a, p17 = some a → b ≠ a.block)) H79 [.int .i64 i, .int .i64 1, .slice p68 n69 n70, .slice p71 n72 n73] ⟨i, 1, nl, al⟩ := by
        have key : ∀ a : Addr, H45.next ≤ a.block → a.block < H74.next → (H.next ≤ a.block ∧ (∀ a', (some ⟨H74.next + 1, 0, none⟩ : Option Addr) = some a' → a.block ≠ a'.block) ∧ (∀ a', p17 = some a' → a.block ≠ a'.block)) ∧ a.block ∉ blkOf p6 := by
          intro a h1 h2
          refine ⟨⟨by omega, fun a' ha' => (by cases ha'; show a.block ≠ H74.next + 1; omega), fun a' ha' => (by have := hnlt a' ha'; omega)⟩, blkOf_not (fun a' ha' => by have := hclt a' ha'; omega)⟩
        exact ⟨_, _, _, _, _, _, rfl, hnl.kp hkx (fun a ha => (key a (hp68 a ha) (hnl.lt a ha)).2), hal.kp hkx (fun a ha => (key a (hp71 a ha) (hal.lt a ha)).2), fun a ha => (key a (hp68 a ha) (hnl.lt a ha)).1, fun a ha => (key a (hp71 a ha) (hal.lt a ha)).1⟩
      obtain ⟨H84, e2, hn84, hno84, hnx84, hkx2⟩ := hnodes79.append1 (by_ := 64) hnown79 rfl hrow (by omega) (by omega) (fun a ha => by have := hnlt a ha; omega)
      refine ⟨_, _, _, H84, e2, ?_, by show (N - (i + 1)).toNat < (N - i).toNat; omega⟩
      have hKp : Kp [d] H H84 := by
        refine ⟨by omega, fun b h1 h2 => ?_⟩
        rw [hkx2.get b (by omega) (blkOf_not fun a ha => by have := (hnge a ha).1; omega), hkx.get b (by omega) (blkOf_not fun a ha => by have := hcge a ha; omega), hk74.get b (by omega) h2, hK.get b h1 h2]
      have hD84 : DeckAt H84 d := by
        have big : ∀ {p : Option Addr}, (∀ a, p = some a → H.next ≤ a.block) → ∀ b, b ∈ blkOf p → d < b := fun {p} hp b hb => by
          cases p with
          | none => simp [blkOf] at hb
          | some a => simp [blkOf] at hb; have := hp a rfl; omega
        exact (hD74.kp hkx (big hcge)).kp hkx2 (big fun a ha => (hnge a ha).1)
      refine ⟨by omega, by omega, rfl, rfl, rfl, rfl, rfl, rfl, rfl, by simp, code ++ [x], nodes ++ [⟨i, 1, nl, al⟩], by simp; omega, by simp; omega, ?_, ?_, ?_, ?_, hno84, ?_, ?_, hD84, hKp⟩
      · exact hc79.kp hkx2 (fun a ha => blkOf_not (fun b hb => by cases ha; have := hnlt b hb; show H74.next + 1 ≠ _; omega))
      · intro a ha hc
        obtain ⟨cs, hcs⟩ := ho79 a ha hc
        cases ha
        exact ⟨cs, by rw [hkx2.get _ (by show H74.next + 1 < _; omega) (blkOf_not (fun b hb => by have := hnlt b hb; show H74.next + 1 ≠ _; omega))]; exact hcs⟩
      · intro a ha; cases ha; show H.next ≤ H74.next + 1; omega
      · refine hn84.mono fun r y _ hr => ?_
        refine hr.kp hkx2 (fun b hb => blkOf_not hb.2.2) (fun b hlt hb => ⟨hb.1, hb.2.1, fun a ha => (by cases ha; show b ≠ H79.next + 1; omega)⟩)
      · intro a ha; cases ha
        refine ⟨by show H.next ≤ H79.next + 1; omega, fun b hb => (by cases hb; show H79.next + 1 ≠ H74.next + 1; omega)⟩
      · intro j y z h1 h2
        rcases get_snoc h1 with ⟨g1, g2⟩ | ⟨g1, g2⟩
        · rcases get_snoc h2 with ⟨g3, g4⟩ | ⟨g3, g4⟩
          · exact hfit j y z g2 g4
          · omega
        · rcases get_snoc h2 with ⟨g3, g4⟩ | ⟨g3, g4⟩
          · omega
          · subst g2; subst g4
            rw [g1, hcl]; exact hx
    have ge47 : ∀ a : Addr, (some ⟨H47.next, 0, none⟩ : Option Addr) = some a → H45.next ≤ a.block := fun a ha => by cases ha; exact nx47
    have nilge : ∀ a : Addr, (none : Option Addr) = some a → H45.next ≤ a.block := fun a ha => by cases ha
    have hn47 : ∀ a : Addr, (some ⟨H47.next, 0, none⟩ : Option Addr) = some a → a.block ∉ [d] := fun a ha => by cases ha; simpa using hdn
    have nx57 := k4557.next
    refine ⟨fun h => ?_, fun g1 => ⟨fun h => ?_, fun g2 => ⟨fun h => ?_, fun g3 => ?_⟩⟩⟩
    · obtain rfl : ins = 1 := by simpa using h
      refine XCall.by (c_Deck_Word hD57) ?_
      rintro _ H88 ⟨w, rfl, w0, w1, hD88, hk88⟩
      refine ⟨_, rfl, fin ⟨1, a, 0, 0, 0, w⟩ [i + 1] [] _ _ _ _ _ _ _ ?_ (hnext1.kp hk88 hn47) Ls.nilList ge47 nilge hD88 (k4557.trans hk88)⟩
      constructor <;> first | rfl | omega | (simp <;> omega) | simp
    · obtain rfl : ins = 2 := by simpa using h
      refine fin ⟨2, a, b, 0, 0, 0⟩ [i + 1] [] _ _ _ _ _ _ _ ?_ hnext1 Ls.nilList ge47 nilge hD57 k4557
      constructor <;> first | rfl | omega | (simp <;> omega) | simp
    · obtain rfl : ins = 3 := by simpa using h
      refine XCall.by (c_Deck_Op hD57) ?_
      rintro _ H91 ⟨w, rfl, w0, w1, hD91, hk91⟩
      refine ⟨_, rfl, fin ⟨3, a, b, c, w, 0⟩ [i + 1] [] _ _ _ _ _ _ _ ?_ (hnext1.kp hk91 hn47) Ls.nilList ge47 nilge hD91 (k4557.trans hk91)⟩
      constructor <;> first | rfl | omega | (simp <;> omega) | simp
    intro K93 hK93
    have key : ∀ t : Bool, (t = true ↔ ins = 4 ∨ ins = 5) → K93 t H57 := by
      intro t ht
      refine hK93 _ _ ⟨fun h => ?_, fun h => ?_⟩
      · have h45 := ht.1 h
        refine XCall.by (c_Deck_Next hD57 (by omega)) ?_
        rintro _ H97 ⟨w, rfl, w0, w1, hD97, hk97⟩
        refine ⟨_, rfl, XCall.by (c_Deck_Next hD97 (by omega)) ?_⟩
        rintro _ H100 ⟨u, rfl, u0, u1, hD100, hk100⟩
        refine ⟨_, rfl, ?_⟩
        rintro _ rfl
        have kk : Kp [d] H57 (H100.new (.cells [.int .i64 i, .int .i64 0, .int .i64 5] 3 false)) := (hk97.trans hk100).new _
        have nx97 := hk97.next
        have nx100 := hk100.next
        have hw : w = 0 ∨ w = 1 := by omega
        have hbw : 0 ≤ b * w ∧ b * w < 8 := by rcases hw with rfl | rfl <;> omega
        rw [wrap_id (x := b * w) (by omega)]
        refine fin ⟨ins, a, b * w, 0, 0, u⟩ [i + 1] [⟨i, 0, 5⟩] _ _ _ _ _ _ _ ?_ (hnext1.kp kk hn47) (Ls.one (R := RAcc) (row := [.int .i64 i, .int .i64 0, .int .i64 5]) (x := (⟨i, 0, 5⟩ : AccD)) (Blk.new _ _ _) rfl rfl 1) ge47 (fun a ha => by cases ha; show H45.next ≤ H100.next; omega) (hD100.kp0 (Kp.refl.new _)) (k4557.trans kk)
        constructor <;> first | rfl | omega | (simp [h45]; done) | (rcases h45 with rfl | rfl <;> simp <;> omega)
      · have h45 : ¬ (ins = 4 ∨ ins = 5) := fun hh => by have := ht.2 hh; rw [h] at this; cases this
        refine ⟨fun h => ?_, fun g6 => ⟨fun h => ?_, fun g7 => ⟨fun h => ?_, fun g8 => ⟨fun h => ?_, fun g9 => ?_⟩⟩⟩⟩
        · obtain rfl : ins = 6 := by simpa using h
          rintro _ rfl
          refine fin ⟨6, 0, 0, 0, 0, N⟩ [N] [] _ _ _ _ _ _ _ ?_ (Ls.one (R := Ri) (Blk.new _ _ _) rfl rfl 1) Ls.nilList (fun a ha => by cases ha; exact nx57) nilge (hD57.kp0 (Kp.refl.new _)) (k4557.new _)
          constructor <;> first | rfl | omega | (simp <;> omega) | simp
        · obtain rfl : ins = 7 := by simpa using h
          refine XCall.by (c_Deck_Next hD57 (by omega)) ?_
          rintro _ H105 ⟨w, rfl, w0, w1, hD105, hk105⟩
          refine ⟨_, rfl, ?_⟩
          rintro _ rfl
          have nx105 := hk105.next
          refine fin ⟨7, a, 0, 0, 0, w⟩ [i + 1, w] [] _ _ _ _ _ _ _ ?_ ?_ Ls.nilList (fun a ha => by cases ha; show H45.next ≤ H105.next; omega) nilge (hD105.kp0 (Kp.refl.new _)) ((k4557.trans hk105).new _)
          · constructor <;> first | rfl | omega | (simp <;> omega) | simp
          · refine Ls.rows (R := Ri) (s := 1) (n := 2) (xs := [i + 1, w]) (rows := [[.int .i64 (i + 1)], [.int .i64 w]]) (Blk.new _ _ _).row (by simp) rfl rfl (by omega) ?_ 2
            intro j r y h1 h2
            match j with
            | 0 => simp at h1 h2; subst h1; subst h2; rfl
            | 1 => simp at h1 h2; subst h1; subst h2; rfl
            | j + 2 => simp at h1
        · obtain rfl : ins = 8 := by simpa using h
          refine XCall.by (c_Deck_Next hD57 (by omega)) ?_
          rintro _ H109 ⟨w, rfl, w0, w1, hD109, hk109⟩
          refine ⟨_, rfl, fin ⟨8, 0, 0, 0, 0, w⟩ [i + 1] [] _ _ _ _ _ _ _ ?_ (hnext1.kp hk109 hn47) Ls.nilList ge47 nilge hD109 (k4557.trans hk109)⟩
          constructor <;> first | rfl | omega | (simp <;> omega) | simp
        · obtain rfl : ins = 9 := by simpa using h
          refine XCall.by (c_Deck_Next hD57 (by omega)) ?_
          rintro _ H109 ⟨w, rfl, w0, w1, hD109, hk109⟩
          refine ⟨_, rfl, fin ⟨9, 0, 0, 0, 0, w⟩ [i + 1] [] _ _ _ _ _ _ _ ?_ (hnext1.kp hk109 hn47) Ls.nilList ge47 nilge hD109 (k4557.trans hk109)⟩
          constructor <;> first | rfl | omega | (simp <;> omega) | simp
        · have g1 : ins ≠ 1 := by simpa using g1
          have g2 : ins ≠ 2 := by simpa using g2
          have g3 : ins ≠ 3 := by simpa using g3
          have g6 : ins ≠ 6 := by simpa using g6
          have g7 : ins ≠ 7 := by simpa using g7
          have g8 : ins ≠ 8 := by simpa using g8
          have g9 : ins ≠ 9 := by simpa using g9
          obtain rfl : ins = 0 := by omega
          refine fin ⟨0, 0, 0, 0, 0, 0⟩ [i + 1] [] _ _ _ _ _ _ _ ?_ hnext1 Ls.nilList ge47 nilge hD57 k4557
          constructor <;> first | rfl | omega | (simp <;> omega) | simp
    refine ⟨fun h => key _ ?_, fun h => key _ ?_⟩
    · have : ins = 4 := by simpa using h
      simp [this]
    · have : ins ≠ 4 := by simpa using h
      simp [this]
  · have hge : N ≤ i := by simpa using hge
    obtain rfl : i = N := by omega
    rintro _ rfl
    have hclt := hcode.lt
    have hnlt := hnodes.lt
    have nxK := hK.next
    obtain ⟨H119, e1, hc119, ho119, hnx119, hkx⟩ := hcode.append1 (row := [.int .i64 10, .int .i64 0, .int .i64 0, .int .i64 0, .int .i64 0, .int .i64 0]) (x := (⟨10, 0, 0, 0, 0, 0⟩ : InstrD)) (by_ := 48) hcown rfl rfl (by omega) (by omega) hclt
    refine ⟨_, _, _, H119, e1, ?_⟩
    rintro _ rfl
    have hnodes119 : Ls (RNode (fun b => H.next ≤ b ∧ (∀ a, (some ⟨H45.next + 1, 0, none⟩ : Option Addr) = some a → b ≠ a.block) ∧ (∀ a, p17 = some a → b ≠ a.block)) H119) 4 H119 p17 n18 n19 nodes := by
      refine (hnodes.kp hkx (fun a ha => blkOf_not (fun b hb => (hnge a ha).2 b hb))).mono fun r y _ hr => hr.kp hkx (fun b hb => blkOf_not hb.2.1) (fun b hlt hb => ⟨hb.1, fun a ha => (by cases ha; show b ≠ H45.next + 1; omega), hb.2.2⟩)
    have hnown119 : Own H119 4 p17 n18 n19 := fun a ha hc => by
      obtain ⟨cs, hcs⟩ := hnown a ha hc
      exact ⟨cs, by rw [hkx.get _ (hnlt a ha) (blkOf_not fun b hb => (hnge a ha).2 b hb)]; exact hcs⟩
    have hrow : RNode (fun b => H.next ≤ b ∧ (∀ a, (some ⟨H45.next + 1, 0, none⟩ : Option Addr) = some a → b ≠ a.block) ∧ (∀ a, p17 = some a → b ≠ a.block)) H119 [.int .i64 i, .int .i64 1, .slice none 0 0, .slice none 0 0] ⟨i, 1, [], []⟩ :=
      ⟨_, _, _, _, _, _, rfl, Ls.nilList, Ls.nilList, fun a ha => (by cases ha), fun a ha => (by cases ha)⟩
    obtain ⟨H124, e2, hn124, hno124, hnx124, hkx2⟩ := hnodes119.append1 (by_ := 64) hnown119 rfl hrow (by omega) (by omega) (fun a ha => by have := hnlt a ha; omega)
    refine ⟨_, _, _, H124, e2, ?_⟩
    rintro _ rfl
    refine ⟨_, _, _, _, _, _, code ++ [⟨10, 0, 0, 0, 0, 0⟩], nodes ++ [⟨i, 1, [], []⟩], rfl, ⟨by simp; omega, by simp; omega, by simp; omega, ?_⟩, ?_, ?_, ⟨rfl, _, _, _, _, _, _, rfl, ?_, (Blk.new _ _ _).row, ?_, ?_⟩, ?_, ?_⟩
    · intro j x y h1 h2
      have hl : (((code ++ [(⟨10, 0, 0, 0, 0, 0⟩ : InstrD)]).length : Nat) : Int) - 1 = i := by simp; omega
      rw [hl]
      rcases get_snoc h1 with ⟨g1, g2⟩ | ⟨g1, g2⟩
      · rcases get_snoc h2 with ⟨g3, g4⟩ | ⟨g3, g4⟩
        · exact hfit j x y g2 g4
        · omega
      · rcases get_snoc h2 with ⟨g3, g4⟩ | ⟨g3, g4⟩
        · omega
        · subst g2; subst g4
          rw [g1, hcl]
          constructor <;> first | rfl | omega | (simp <;> omega) | simp
    · exact (hc119.kp hkx2 (fun a ha => blkOf_not (fun b hb => by cases ha; have := hnlt b hb; show H45.next + 1 ≠ _; omega))).kp0 (Kp.refl.new _)
    · intro a ha; cases ha; show H45.next + 1 ≠ d; omega
    · omega
    · exact (hn124.kp0 (Kp.refl.new _)).mono fun r y _ hr => (hr.kp (ok' := fun b => b ≠ d) hkx2 (fun b hb => blkOf_not hb.2.2) (fun b _ hb => by have := hb.1; omega)).kp (S := []) (Kp.refl.new _) (fun _ _ hb => by cases hb) (fun _ _ h => h)
    · intro a ha; cases ha; show H119.next + 1 ≠ d; omega
    · refine Kp.new ?_ _
      refine ⟨by omega, fun b h1 h2 => ?_⟩
      rw [hkx2.get b (by omega) (blkOf_not fun a ha => by have := (hnge a ha).1; omega), hkx.get b (by omega) (blkOf_not fun a ha => by have := hcge a ha; omega), hK.get b h1 h2]
    · have big : ∀ {p : Option Addr}, (∀ a, p = some a → H.next ≤ a.block) → ∀ b, b ∈ blkOf p → d < b := fun {p} hp b hb => by
        cases p with
        | none => simp [blkOf] at hb
        | some a => simp [blkOf] at hb; have := hp a rfl; omega
      exact ((hD.kp hkx (big hcge)).kp hkx2 (big fun a ha => (hnge a ha).1)).kp0 (Kp.refl.new _)

end Go.Lg
