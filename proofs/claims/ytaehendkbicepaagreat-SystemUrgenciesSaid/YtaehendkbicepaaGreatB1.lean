/- What a logical heap holds: blocks, rows, lists. No condition. -/
import Derived.Test.YtaehendkbicepaaGreatA25
set_option linter.unusedVariables false
namespace Go.Lg
open Go

/-! ### what is kept -/
/-- Blocks below the number of `H` are as in `H`, but for those in `S`. -/
structure Kp (S : List Nat) (H H' : LH) : Prop where
  next : H.next ≤ H'.next
  get : ∀ b, b < H.next → b ∉ S → H'.get b = H.get b

theorem Kp.refl {S : List Nat} {H : LH} : Kp S H H := ⟨Nat.le_refl _, fun _ _ _ => rfl⟩
theorem Kp.trans {S : List Nat} {H H1 H2 : LH} (h : Kp S H H1) (k : Kp S H1 H2) : Kp S H H2 :=
  ⟨Nat.le_trans h.next k.next, fun b hb hs => (k.get b (Nat.lt_of_lt_of_le hb h.next) hs).trans (h.get b hb hs)⟩
theorem Kp.sub {S T : List Nat} {H H' : LH} (h : Kp S H H') (hs : ∀ b, b ∈ S → b ∈ T) : Kp T H H' := ⟨h.next, fun b hb ht => h.get b hb fun hh => ht (hs b hh)⟩
theorem Kp.any {S : List Nat} {H H' : LH} (h : Kp [] H H') : Kp S H H' := h.sub (fun b hb => by cases hb)
theorem Kp.new {S : List Nat} {H H1 : LH} (h : Kp S H H1) (o : LObj) : Kp S H (H1.new o) :=
  ⟨Nat.le_succ_of_le h.next, fun b hb hs => by
    have : b ≠ H1.next := by have := h.next; omega
    simp only [LH.new, if_neg this]; exact h.get b hb hs⟩
theorem Kp.keep {S : List Nat} {H H1 : LH} (h : Kp S H H1) (n : Nat) : Kp S H (H1.keep n) := ⟨Nat.le_trans h.next (Nat.le_add_right _ _), h.get⟩
theorem Kp.put {S : List Nat} {H H1 : LH} (h : Kp S H H1) {b : Nat} (hb : b ∈ S ∨ H.next ≤ b) (x : Option LObj) : Kp S H (H1.put b x) :=
  ⟨h.next, fun c hc hs => by
    have : c ≠ b := by
      rintro rfl
      rcases hb with hb | hb
      · exact hs hb
      · omega
    simp only [LH.put, if_neg this]; exact h.get c hc hs⟩
/-- Blocks that have come meanwhile may change. -/
theorem Kp.drop {S : List Nat} {H H1 H2 : LH} (h : Kp [] H H1) (k : Kp S H1 H2) (hs : ∀ b, b ∈ S → H.next ≤ b) : Kp [] H H2 :=
  ⟨Nat.le_trans h.next k.next, fun b hb _ => (k.get b (Nat.lt_of_lt_of_le hb h.next) (fun hh => by have := hs b hh; omega)).trans (h.get b hb (by simp))⟩

theorem LH.new_next (H : LH) (o : LObj) : (H.new o).next = H.next + 1 := rfl
theorem LH.new_get (H : LH) (o : LObj) : (H.new o).get H.next = some o := by simp [LH.new]
theorem LH.new_ne (H : LH) (o : LObj) {b : Nat} (h : b ≠ H.next) : (H.new o).get b = H.get b := by simp [LH.new, h]
theorem LH.put_next (H : LH) (b : Nat) (x : Option LObj) : (H.put b x).next = H.next := rfl
theorem LH.put_get (H : LH) (b : Nat) (x : Option LObj) : (H.put b x).get b = x := by simp [LH.put]
theorem LH.put_ne (H : LH) {b c : Nat} (x : Option LObj) (h : c ≠ b) : (H.put b x).get c = H.get c := by simp [LH.put, h]
theorem LH.keep_next (H : LH) (n : Nat) : (H.keep n).next = H.next + n := rfl
theorem LH.keep_get (H : LH) (n : Nat) : (H.keep n).get = H.get := rfl

/-! ### rows of cells -/
/-- The cells of block `b` from `k` on; `s`: the size of its elements. -/
structure Row (H : LH) (b k s : Nat) (vs : List Value) : Prop where
  lt : b < H.next
  is : ∃ cs ro, H.get b = some (.cells cs s ro) ∧ k + vs.length ≤ cs.length ∧ (cs.drop k).take vs.length = vs

theorem Row.at {H : LH} {b k s : Nat} {vs : List Value} (h : Row H b k s vs) {j : Nat} {v : Value} (hv : vs[j]? = some v) : hAt H b (k + j) v := by
  obtain ⟨cs, ro, h1, h2, h3⟩ := h.is
  refine ⟨cs, s, ro, h1, ?_⟩
  obtain ⟨hj, -⟩ := List.getElem?_eq_some_iff.1 hv
  rw [← h3, List.getElem?_take, if_pos hj, List.getElem?_drop] at hv
  exact hv

theorem Row.kp {S : List Nat} {H H' : LH} {b k s : Nat} {vs : List Value} (h : Row H b k s vs) (hk : Kp S H H') (hb : b ∉ S) : Row H' b k s vs :=
  ⟨Nat.lt_of_lt_of_le h.lt hk.next, by rw [hk.get b h.lt hb]; exact h.is⟩

theorem Row.of {H : LH} {b s : Nat} {cs : List Value} {ro : Bool} (hlt : b < H.next) (h : H.get b = some (.cells cs s ro)) : Row H b 0 s cs :=
  ⟨hlt, cs, ro, h, by simp, by simp⟩

/-- A block that is known whole, and may be written. -/
structure Blk (H : LH) (b s : Nat) (cs : List Value) : Prop where
  lt : b < H.next
  is : H.get b = some (.cells cs s false)

theorem Blk.row {H : LH} {b s : Nat} {cs : List Value} (h : Blk H b s cs) : Row H b 0 s cs := Row.of h.lt h.is
theorem Blk.at {H : LH} {b s : Nat} {cs : List Value} (h : Blk H b s cs) {j : Nat} {v : Value} (hv : cs[j]? = some v) : hAt H b j v := ⟨cs, s, false, h.is, hv⟩
theorem Blk.kp {S : List Nat} {H H' : LH} {b s : Nat} {cs : List Value} (h : Blk H b s cs) (hk : Kp S H H') (hb : b ∉ S) : Blk H' b s cs :=
  ⟨Nat.lt_of_lt_of_le h.lt hk.next, by rw [hk.get b h.lt hb]; exact h.is⟩
theorem Blk.new (H : LH) (s : Nat) (cs : List Value) : Blk (H.new (.cells cs s false)) H.next s cs := ⟨by simp [LH.new], LH.new_get _ _⟩
theorem Blk.put {H : LH} {b s : Nat} {cs cs' : List Value} (h : Blk H b s cs) : Blk (H.put b (some (.cells cs' s false))) b s cs' := ⟨h.lt, LH.put_get _ _ _⟩
theorem Blk.keep {H : LH} {b s : Nat} {cs : List Value} (h : Blk H b s cs) (n : Nat) : Blk (H.keep n) b s cs := ⟨Nat.lt_of_lt_of_le h.lt (Nat.le_add_right _ _), h.is⟩
theorem Blk.putAt {H : LH} {b s : Nat} {cs : List Value} (hb : b < H.next) : Blk (H.put b (some (.cells cs s false))) b s cs := ⟨hb, LH.put_get _ _ _⟩

/-! ### lists -/
/-- A list in memory: `R` says what cells stand for an element. -/
structure Ls {T : Type} (R : List Value → T → Prop) (s : Nat) (H : LH) (p : Option Addr) (n c : Nat) (xs : List T) : Prop where
  nil : p = none → n = 0 ∧ c = 0
  bound : n ≤ 4611686018427387904
  is : ∃ rows : List (List Value), rows.length = n ∧ xs.length = n ∧ (∀ r ∈ rows, r.length = s) ∧ (∀ (i : Nat) (r : List Value) (x : T), rows[i]? = some r → xs[i]? = some x → R r x) ∧
    ∀ a, p = some a → a.spot = none ∧ Row H a.block a.off s rows.flatten

variable {T : Type} {R R' : List Value → T → Prop} {s : Nat} {H H' : LH} {p : Option Addr} {n c : Nat} {xs : List T} {S : List Nat}

theorem Ls.len (h : Ls R s H p n c xs) : xs.length = n := by obtain ⟨rows, -, h2, -⟩ := h.is; exact h2
theorem Ls.nil' (h : Ls R s H p n c xs) : p = none → n = 0 ∧ c = 0 := h.nil

theorem Ls.mono (h : Ls R s H p n c xs) (hr : ∀ r x, x ∈ xs → R r x → R' r x) : Ls R' s H p n c xs := by
  obtain ⟨rows, h1, h2, h3, h4, h5⟩ := h.is
  exact ⟨h.nil, h.bound, rows, h1, h2, h3, fun i r x a b => hr r x (List.mem_of_getElem? b) (h4 i r x a b), h5⟩

theorem Ls.kp (h : Ls R s H p n c xs) (hk : Kp S H H') (hp : ∀ a, p = some a → a.block ∉ S) : Ls R s H' p n c xs := by
  obtain ⟨rows, h1, h2, h3, h4, h5⟩ := h.is
  exact ⟨h.nil, h.bound, rows, h1, h2, h3, h4, fun a ha => ⟨(h5 a ha).1, (h5 a ha).2.kp hk (hp a ha)⟩⟩

theorem Ls.kp0 (h : Ls R s H p n c xs) (hk : Kp [] H H') : Ls R s H' p n c xs := h.kp hk (fun _ _ hh => by cases hh)

theorem flatten_at : ∀ {rows : List (List Value)} {s : Nat}, (∀ r ∈ rows, r.length = s) → ∀ {i : Nat} {r : List Value}, rows[i]? = some r → ∀ {j : Nat} {v : Value}, r[j]? = some v → rows.flatten[i * s + j]? = some v
  | [], s, hs, i, r, hr, j, v, hv => by simp at hr
  | q :: rows, s, hs, 0, r, hr, j, v, hv => by
    simp at hr; subst hr
    obtain ⟨hj, -⟩ := List.getElem?_eq_some_iff.1 hv
    rw [List.flatten_cons, Nat.zero_mul, Nat.zero_add, List.getElem?_append_left hj]; exact hv
  | q :: rows, s, hs, i + 1, r, hr, j, v, hv => by
    have hq := hs q (by simp)
    rw [List.flatten_cons, List.getElem?_append_right (by rw [hq, Nat.add_mul]; omega), hq, show (i + 1) * s + j - s = i * s + j by rw [Nat.add_mul]; omega]
    exact flatten_at (fun r hr => hs r (by simp [hr])) (by simpa using hr) hv

/-- An element that is looked at. -/
theorem Ls.at (h : Ls R s H p n c xs) {x : Int} (h0 : 0 ≤ x) (h1 : x < n) :
    ∃ b i r t, p = some ⟨b, i, none⟩ ∧ xs[x.toNat]? = some t ∧ R r t ∧ r.length = s ∧ ∀ j v, r[j]? = some v → hAt H b (i + x.toNat * s + j) v := by
  obtain ⟨rows, k1, k2, k3, k4, k5⟩ := h.is
  have hx : x.toNat < n := by omega
  cases p with
  | none => have := h.nil rfl; omega
  | some a =>
    obtain ⟨q1, q2⟩ := k5 a rfl
    obtain ⟨b, i, sp⟩ := a
    simp only at q1 q2
    subst q1
    have hr : rows[x.toNat]? = some (rows[x.toNat]'(by omega)) := List.getElem?_eq_getElem _
    have ht : xs[x.toNat]? = some (xs[x.toNat]'(by omega)) := List.getElem?_eq_getElem _
    refine ⟨b, i, _, _, rfl, ht, k4 _ _ _ hr ht, k3 _ (List.mem_of_getElem? hr), fun j v hv => ?_⟩
    have := q2.at (flatten_at k3 hr hv)
    rwa [← Nat.add_assoc] at this

theorem Ls.nilList {R : List Value → T → Prop} {s : Nat} {H : LH} : Ls R s H none 0 0 [] :=
  ⟨fun _ => ⟨rfl, rfl⟩, by omega, [], rfl, rfl, by simp, by simp, by simp⟩

/-- One element in a block of its own. -/
theorem Ls.one {row : List Value} {x : T} {b : Nat} (hb : Blk H b s row) (hl : row.length = s) (hr : R row x) (c : Nat) : Ls R s H (some ⟨b, 0, none⟩) 1 c [x] := by
  refine ⟨fun h => (by cases h), by omega, [row], rfl, rfl, by simpa using hl, ?_, ?_⟩
  · intro i r y h1 h2
    cases i with
    | zero => simp at h1 h2; subst h1; subst h2; exact hr
    | succ i => simp at h1
  · intro a ha; cases ha; exact ⟨rfl, by simpa using hb.row⟩

/-- Rows that are written out. -/
theorem Ls.rows {rows : List (List Value)} {b : Nat} (hb : Row H b 0 s rows.flatten) (hl : ∀ r ∈ rows, r.length = s) (hn : rows.length = n) (hx : xs.length = n) (hbd : n ≤ 4611686018427387904)
    (hr : ∀ (i : Nat) (r : List Value) (x : T), rows[i]? = some r → xs[i]? = some x → R r x) (c : Nat) : Ls R s H (some ⟨b, 0, none⟩) n c xs :=
  ⟨fun h => (by cases h), hbd, rows, hn, hx, hl, hr, fun a ha => (by cases ha; exact ⟨rfl, hb⟩)⟩

/-! ### append -/
/-- A slice whose block is its own. -/
def Own (H : LH) (s : Nat) (p : Option Addr) (n c : Nat) : Prop := ∀ a, p = some a → c ≠ n → ∃ cs, H.get a.block = some (.cells cs s false)

theorem Ls.slLen (h : Ls R s H p n c xs) : Lg.slLen (.slice p n c) = some n := by
  cases p with
  | none => obtain ⟨rfl, rfl⟩ := h.nil rfl; rfl
  | some a => rfl

theorem flatten_length : ∀ {rows : List (List Value)} {s : Nat}, (∀ r ∈ rows, r.length = s) → rows.flatten.length = rows.length * s
  | [], s, _ => by simp
  | r :: rows, s, h => by
    rw [List.flatten_cons, List.length_append, h r (by simp), flatten_length (fun r hr => h r (by simp [hr])), List.length_cons, Nat.add_mul]; omega

theorem Ls.append {q : Option Addr} {m d : Nat} {ys : List T} {by_ : Nat} {al : Option Nat} (hx : Ls R s H p n c xs) (hown : Own H s p n c) (hy : Ls R s H q m d ys) (hm : 0 < m)
    (hb : (n + m) * by_ ≤ 140737488355328) (hby : 0 < by_) (hal : ∀ b, al = some b → b < H.next ∧ (∀ a, p = some a → c ≠ n → a.block ≠ b)) :
    ∃ H', appV H al s by_ (.slice p n c) (.slice q m d) = some (.slice (some ⟨al.getD H.next, 0, none⟩) (n + m) (n + m + 1), H') ∧
      Ls R s H' (some ⟨al.getD H.next, 0, none⟩) (n + m) (n + m + 1) (xs ++ ys) ∧ Own H' s (some ⟨al.getD H.next, 0, none⟩) (n + m) (n + m + 1) ∧ H.next ≤ H'.next ∧ al.getD H.next < H'.next ∧
      ∀ b, b ≠ al.getD H.next → (∀ a, p = some a → c ≠ n → b ≠ a.block) → H'.get b = H.get b := by
  obtain ⟨rx, x1, x2, x3, x4, x5⟩ := hx.is
  obtain ⟨ry, y1, y2, y3, y4, y5⟩ := hy.is
  have hsx : slCells H s (.slice p n c) = some rx.flatten := by
    cases p with
    | none =>
      obtain ⟨rfl, rfl⟩ := hx.nil rfl
      have : rx = [] := List.eq_nil_of_length_eq_zero x1
      subst this; rfl
    | some a =>
      obtain ⟨g1, g2⟩ := x5 a rfl
      obtain ⟨b, i, sp⟩ := a
      simp only at g1 g2; subst g1
      obtain ⟨cs, ro, k1, k2, k3⟩ := g2.is
      have hl := flatten_length x3
      simp only [slCells, k1]
      rw [if_pos ⟨trivial, by rw [hl, x1] at k2; exact k2⟩]
      rw [hl, x1] at k3; rw [k3]
  have hsy : slCells H s (.slice q m d) = some ry.flatten := by
    cases q with
    | none => have := (hy.nil rfl).1; omega
    | some a =>
      obtain ⟨g1, g2⟩ := y5 a rfl
      obtain ⟨b, i, sp⟩ := a
      simp only at g1 g2; subst g1
      obtain ⟨cs, ro, k1, k2, k3⟩ := g2.is
      have hl := flatten_length y3
      simp only [slCells, k1]
      rw [if_pos ⟨trivial, by rw [hl, y1] at k2; exact k2⟩]
      rw [hl, y1] at k3; rw [k3]
  have hnm : n + m ≤ 140737488355328 := Nat.le_trans (Nat.le_mul_of_pos_right _ hby) hb
  have fin : ∀ H1 : LH, H1.next = H.next → (∀ b, (∀ a, p = some a → c ≠ n → b ≠ a.block) → H1.get b = H.get b) →
      let H' := H1.alloc al (.cells (rx.flatten ++ ry.flatten) s false)
      Ls R s H' (some ⟨al.getD H.next, 0, none⟩) (n + m) (n + m + 1) (xs ++ ys) ∧ Own H' s (some ⟨al.getD H.next, 0, none⟩) (n + m) (n + m + 1) ∧ H.next ≤ H'.next ∧ al.getD H.next < H'.next ∧
      ∀ b, b ≠ al.getD H.next → (∀ a, p = some a → c ≠ n → b ≠ a.block) → H'.get b = H.get b := by
    intro H1 hn1 hg1 H'
    have hget : H'.get (al.getD H.next) = some (.cells (rx.flatten ++ ry.flatten) s false) := by
      cases al with
      | none => show (H1.new _).get H.next = _; rw [← hn1]; exact LH.new_get _ _
      | some b => exact LH.put_get _ _ _
    have hnx : H.next ≤ H'.next := by
      cases al with
      | none => show H.next ≤ H1.next + 1; omega
      | some b => show H.next ≤ H1.next; omega
    have hlt : al.getD H.next < H'.next := by
      cases al with
      | none => show H.next < H1.next + 1; omega
      | some b => show b < H1.next; have := (hal b rfl).1; omega
    refine ⟨?_, ?_, hnx, hlt, ?_⟩
    · refine Ls.rows (rows := rx ++ ry) (Row.of hlt (by rw [List.flatten_append]; exact hget)) ?_ (by simp [x1, y1]) (by simp [x2, y2]) (by omega) ?_ _
      · intro r hr; rcases List.mem_append.1 hr with hr | hr
        · exact x3 r hr
        · exact y3 r hr
      · intro i r x h1 h2
        by_cases hi : i < n
        · rw [List.getElem?_append_left (by omega)] at h1 h2
          exact x4 i r x h1 h2
        · rw [List.getElem?_append_right (by omega)] at h1 h2
          rw [x1] at h1; rw [x2] at h2
          exact y4 _ r x h1 h2
    · intro a ha _; cases ha; exact ⟨_, hget⟩
    · intro b hb1 hb2
      rw [← hg1 b hb2]
      cases al with
      | none => exact LH.new_ne _ _ (by rw [hn1]; exact hb1)
      | some b' => exact LH.put_ne _ _ hb1
  unfold appV
  rw [hx.slLen, hy.slLen, hsx, hsy]
  simp only
  rw [if_neg (by omega), if_pos ⟨hb, by omega⟩]
  cases p with
  | none =>
    simp only
    exact ⟨_, rfl, fin H rfl (fun _ _ => rfl)⟩
  | some a =>
    obtain ⟨g1, -⟩ := x5 a rfl
    obtain ⟨b, i, sp⟩ := a
    simp only at g1; subst g1
    simp only
    by_cases hc : c = n
    · rw [if_pos hc]
      exact ⟨_, rfl, fin H rfl (fun _ _ => rfl)⟩
    · rw [if_neg hc]
      obtain ⟨cs, hcs⟩ := hown _ rfl hc
      simp only at hcs
      rw [hcs]
      simp only
      refine ⟨_, rfl, ?_⟩
      exact fin (H.put b none) rfl (fun b' hb' => LH.put_ne _ _ (hb' _ rfl hc))

def blkOf : Option Addr → List Nat
  | some a => [a.block]
  | none => []

theorem blkOf_not {p : Option Addr} {b : Nat} (h : ∀ a, p = some a → b ≠ a.block) : b ∉ blkOf p := by
  cases p with
  | none => simp [blkOf]
  | some a => simpa [blkOf] using h a rfl

theorem blkOf_ne {p : Option Addr} {b : Nat} (h : b ∉ blkOf p) : ∀ a, p = some a → b ≠ a.block := by
  rintro a rfl; simpa [blkOf] using h

/-- One more element, in a block that has just been made. -/
theorem Ls.append1 {row : List Value} {x : T} {by_ : Nat} (hx : Ls R s H p n c xs) (hown : Own H s p n c) (hl : row.length = s) (hr : R row x) (hb : (n + 1) * by_ ≤ 140737488355328) (hby : 0 < by_)
    (hp : ∀ a, p = some a → a.block < H.next) :
    ∃ H', appV (H.new (.cells row s false)) none s by_ (.slice p n c) (.slice (some ⟨H.next, 0, none⟩) 1 1) = some (.slice (some ⟨H.next + 1, 0, none⟩) (n + 1) (n + 2), H') ∧
      Ls R s H' (some ⟨H.next + 1, 0, none⟩) (n + 1) (n + 2) (xs ++ [x]) ∧ Own H' s (some ⟨H.next + 1, 0, none⟩) (n + 1) (n + 2) ∧ H.next + 2 ≤ H'.next ∧ Kp (blkOf p) H H' := by
  have hk : Kp [] H (H.new (.cells row s false)) := Kp.refl.new _
  have hx' := hx.kp0 hk
  have hown' : Own (H.new (.cells row s false)) s p n c := fun a ha hc => by
    obtain ⟨cs, h⟩ := hown a ha hc
    exact ⟨cs, by rw [LH.new_ne _ _ (by have := hp a ha; omega)]; exact h⟩
  obtain ⟨H', h1, h2, h3, h4, h5, h6⟩ := hx'.append (al := none) hown' (Ls.one (R := R) (Blk.new H s row) hl hr 1) (by omega) hb hby (fun b hb => by cases hb)
  refine ⟨H', h1, h2, h3, ?_, ?_⟩
  · have : (H.new (.cells row s false)).next = H.next + 1 := rfl
    simp only [Option.getD_none, this] at h5
    omega
  · refine ⟨by have : (H.new (.cells row s false)).next = H.next + 1 := rfl; omega, fun b hb1 hb2 => ?_⟩
    rw [h6 b (by show b ≠ H.next + 1; omega) (fun a ha _ => blkOf_ne hb2 a ha)]
    exact LH.new_ne _ _ (by omega)

/-! ### calls -/
theorem XCall.by {P : Program} {f : FuncId} {args : List Value} {R R' : Value → LH → Prop} (h : Call P f args H R) (hk : ∀ v H', R v H' → R' v H') : XCall P f args H R' := ⟨h.mono fun v H' _ _ c => hk v H' c⟩

theorem wrap_id {x : Int} (h : -9223372036854775808 ≤ x ∧ x ≤ 9223372036854775807) : IntKind.wrap .i64 x = x := by
  simp only [IntKind.wrap, IntKind.signed, IntKind.bits, Bool.true_and, decide_eq_true_eq, ge_iff_le]
  split <;> omega

end Go.Lg
