/- The logical machine, part 1: values, heaps and states that a concrete world represents. No condition. -/
import Derived.Orders
import Derived.Below
set_option linter.unusedVariables false
set_option linter.unusedSimpArgs false
namespace Go.Lg

structure Place where
  blk : Nat
  off : Nat
  sz : Nat
  size : Nat

abbrev Phi := Nat → Option Place

inductive VR (φ : Phi) : Value → Value → Prop
  | bool (b : Bool) : VR φ (.bool b) (.bool b)
  | int (k : IntKind) (n : Int) : VR φ (.int k n) (.int k n)
  | string (s : ByteArray) : VR φ (.string s) (.string s)
  | ptrNil : VR φ (.pointer none) (.pointer none)
  | ptr {b i : Nat} {m : Place} (h : φ b = some m) : VR φ (.pointer (some ⟨b, i, none⟩)) (.pointer (some ⟨m.blk, m.off + i, none⟩))
  | slNil : VR φ (.slice none 0 0) (.slice none 0 0)
  | sl {b i n c c' : Nat} {m : Place} (h : φ b = some m) (hn : n ≤ c') (ht : c = n → c' = n) (hs : m.off + i + c' * m.sz ≤ m.size) :
      VR φ (.slice (some ⟨b, i, none⟩) n c) (.slice (some ⟨m.blk, m.off + i, none⟩) n c')
  | slEnd {b i c : Nat} {A : Addr} : VR φ (.slice (some ⟨b, i, none⟩) 0 c) (.slice (some A) 0 0)
  | mapNil : VR φ (.map none) (.map none)
  | map {r : Nat} {m : Place} (h : φ r = some m) : VR φ (.map (some r)) (.map (some m.blk))
  | nilFunc : VR φ .nilFunc .nilFunc
  | func {fn : Fn} {f f' c c' : Array Value} (hf : f.size = f'.size) (hf' : ∀ (i : Nat) (v v' : Value), f[i]? = some v → f'[i]? = some v' → VR φ v v')
      (hc : c.size = c'.size) (hc' : ∀ (i : Nat) (v v' : Value), c[i]? = some v → c'[i]? = some v' → VR φ v v') : VR φ (.func fn f c) (.func fn f' c')
  | nilIface : VR φ .nilIface .nilIface
  | iface (t : TypeId) {v v' : Value} (h : VR φ v v') : VR φ (.iface t v) (.iface t v')
  | agg {c c' : Array Value} (hc : c.size = c'.size) (hc' : ∀ (i : Nat) (v v' : Value), c[i]? = some v → c'[i]? = some v' → VR φ v v') : VR φ (.agg c) (.agg c')
  | tuple {c c' : Array Value} (hc : c.size = c'.size) (hc' : ∀ (i : Nat) (v v' : Value), c[i]? = some v → c'[i]? = some v' → VR φ v v') : VR φ (.tuple c) (.tuple c')

def Ext (φ ψ : Phi) : Prop := ∀ b m, φ b = some m → ψ b = some m

theorem Ext.refl (φ : Phi) : Ext φ φ := fun _ _ h => h
theorem Ext.trans {φ ψ χ : Phi} (h : Ext φ ψ) (k : Ext ψ χ) : Ext φ χ := fun b m hb => k b m (h b m hb)

theorem VR.ext {φ ψ : Phi} (hx : Ext φ ψ) {v v' : Value} (h : VR φ v v') : VR ψ v v' := by
  induction h with
  | bool b => exact .bool b
  | int k n => exact .int k n
  | string s => exact .string s
  | ptrNil => exact .ptrNil
  | ptr h => exact .ptr (hx _ _ h)
  | slNil => exact .slNil
  | sl h hn ht hs => exact .sl (hx _ _ h) hn ht hs
  | slEnd => exact .slEnd
  | mapNil => exact .mapNil
  | map h => exact .map (hx _ _ h)
  | nilFunc => exact .nilFunc
  | func hf _ hc _ ih1 ih2 => exact .func hf (fun i v v' a b => ih1 i v v' a b) hc (fun i v v' a b => ih2 i v v' a b)
  | nilIface => exact .nilIface
  | iface t _ ih => exact .iface t ih
  | agg hc _ ih => exact .agg hc (fun i v v' a b => ih i v v' a b)
  | tuple hc _ ih => exact .tuple hc (fun i v v' a b => ih i v v' a b)

/-- Lists of values, one by one. -/
inductive VRs (φ : Phi) : List Value → List Value → Prop
  | nil : VRs φ [] []
  | cons {x y : Value} {xs ys : List Value} (h : VR φ x y) (t : VRs φ xs ys) : VRs φ (x :: xs) (y :: ys)

theorem VRs.ext {φ ψ : Phi} (hx : Ext φ ψ) {xs ys : List Value} (h : VRs φ xs ys) : VRs ψ xs ys := by
  induction h with
  | nil => exact .nil
  | cons a _ ih => exact .cons (a.ext hx) ih

theorem VRs.length {φ : Phi} {xs ys : List Value} (h : VRs φ xs ys) : xs.length = ys.length := by
  induction h with
  | nil => rfl
  | cons _ _ ih => simp [ih]

theorem VRs.get {φ : Phi} {xs ys : List Value} (h : VRs φ xs ys) (i : Nat) {v : Value} (hv : xs[i]? = some v) : ∃ v', ys[i]? = some v' ∧ VR φ v v' := by
  induction h generalizing i with
  | nil => simp at hv
  | cons a _ ih =>
    cases i with
    | zero => simp at hv; subst hv; exact ⟨_, by simp, a⟩
    | succ i => simp at hv; obtain ⟨v', h1, h2⟩ := ih i hv; exact ⟨v', by simpa using h1, h2⟩

theorem VRs.mk {φ : Phi} : ∀ {xs ys : List Value}, xs.length = ys.length → (∀ (i : Nat) (v v' : Value), xs[i]? = some v → ys[i]? = some v' → VR φ v v') → VRs φ xs ys
  | [], [], _, _ => .nil
  | x :: xs, y :: ys, hl, h => .cons (h 0 x y (by simp) (by simp)) (VRs.mk (by simpa using hl) (fun i v v' a b => h (i + 1) v v' (by simpa using a) (by simpa using b)))
  | [], _ :: _, hl, _ => by simp at hl
  | _ :: _, [], hl, _ => by simp at hl

theorem VRs.get2 {φ : Phi} {xs ys : List Value} (h : VRs φ xs ys) (i : Nat) {v v' : Value} (hv : xs[i]? = some v) (hv' : ys[i]? = some v') : VR φ v v' := by
  obtain ⟨u, h1, h2⟩ := h.get i hv
  rw [h1] at hv'; cases hv'; exact h2

theorem VRs.append {φ : Phi} {a b c d : List Value} (h : VRs φ a b) (k : VRs φ c d) : VRs φ (a ++ c) (b ++ d) := by
  induction h with
  | nil => exact k
  | cons x _ ih => exact .cons x ih

theorem VRs.take {φ : Phi} {a b : List Value} (h : VRs φ a b) (n : Nat) : VRs φ (a.take n) (b.take n) := by
  refine VRs.mk (by simp [h.length]) ?_
  intro i v v' hv hv'
  rw [List.getElem?_take] at hv hv'
  split at hv
  · rename_i hlt; rw [if_pos hlt] at hv'; exact h.get2 i hv hv'
  · simp at hv

theorem VRs.drop {φ : Phi} {a b : List Value} (h : VRs φ a b) (n : Nat) : VRs φ (a.drop n) (b.drop n) := by
  refine VRs.mk (by simp [h.length]) ?_
  intro i v v' hv hv'
  rw [List.getElem?_drop] at hv hv'
  exact h.get2 _ hv hv'

theorem VRs.set {φ : Phi} {a b : List Value} (h : VRs φ a b) (n : Nat) {v v' : Value} (hv : VR φ v v') : VRs φ (a.set n v) (b.set n v') := by
  refine VRs.mk (by simp [h.length]) ?_
  intro i x x' hx hx'
  rw [List.getElem?_set] at hx hx'
  split at hx
  · rename_i e; rw [if_pos e] at hx'
    split at hx
    · split at hx'
      · cases hx; cases hx'; exact hv
      · cases hx'
    · cases hx
  · rename_i e; rw [if_neg e] at hx'; exact h.get2 _ hx hx'

theorem VR.agg_list {φ : Phi} {xs ys : Array Value} (h : VRs φ xs.toList ys.toList) : VR φ (.agg xs) (.agg ys) :=
  .agg (by simpa using h.length) (fun i v v' a b => h.get2 i (by simpa using a) (by simpa using b))
theorem VR.tuple_list {φ : Phi} {xs ys : Array Value} (h : VRs φ xs.toList ys.toList) : VR φ (.tuple xs) (.tuple ys) :=
  .tuple (by simpa using h.length) (fun i v v' a b => h.get2 i (by simpa using a) (by simpa using b))

theorem VR.agg_inv {φ : Phi} {xs : Array Value} {v : Value} (h : VR φ (.agg xs) v) : ∃ ys, v = .agg ys ∧ VRs φ xs.toList ys.toList := by
  cases h with
  | agg hc hc' => exact ⟨_, rfl, VRs.mk (by simpa using hc) (fun i v v' a b => hc' i v v' (by simpa using a) (by simpa using b))⟩
theorem VR.tuple_inv {φ : Phi} {xs : Array Value} {v : Value} (h : VR φ (.tuple xs) v) : ∃ ys, v = .tuple ys ∧ VRs φ xs.toList ys.toList := by
  cases h with
  | tuple hc hc' => exact ⟨_, rfl, VRs.mk (by simpa using hc) (fun i v v' a b => hc' i v v' (by simpa using a) (by simpa using b))⟩

/-- The cells of two values that fit. -/
theorem VR.cells {φ : Phi} {v v' : Value} (h : VR φ v v') : VRs φ v.cells.toList v'.cells.toList := by
  cases h with
  | agg hc hc' => exact VRs.mk (by simpa [Value.cells] using hc) (fun i v v' a b => hc' i v v' (by simpa [Value.cells] using a) (by simpa [Value.cells] using b))
  | bool b => exact .cons (.bool b) .nil
  | int k n => exact .cons (.int k n) .nil
  | string s => exact .cons (.string s) .nil
  | ptrNil => exact .cons .ptrNil .nil
  | ptr h => exact .cons (.ptr h) .nil
  | slNil => exact .cons .slNil .nil
  | sl h hn ht hs => exact .cons (.sl h hn ht hs) .nil
  | slEnd => exact .cons .slEnd .nil
  | mapNil => exact .cons .mapNil .nil
  | map h => exact .cons (.map h) .nil
  | nilFunc => exact .cons .nilFunc .nil
  | func hf hf' hc hc' => exact .cons (.func hf hf' hc hc') .nil
  | nilIface => exact .cons .nilIface .nil
  | iface t h => exact .cons (.iface t h) .nil
  | tuple hc hc' => exact .cons (.tuple hc hc') .nil

/-- A value that bears no address. -/
def closed : Nat → Value → Bool
  | 0, _ => false
  | _ + 1, .bool _ => true
  | _ + 1, .int _ _ => true
  | _ + 1, .string _ => true
  | _ + 1, .pointer none => true
  | _ + 1, .slice none 0 0 => true
  | _ + 1, .map none => true
  | _ + 1, .nilFunc => true
  | _ + 1, .nilIface => true
  | n + 1, .func _ f c => f.toList.all (closed n) && c.toList.all (closed n)
  | n + 1, .iface _ v => closed n v
  | n + 1, .agg c => c.toList.all (closed n)
  | n + 1, .tuple c => c.toList.all (closed n)
  | _ + 1, _ => false

theorem VR.of_closed {φ : Phi} : ∀ (n : Nat) (v : Value), closed n v = true → VR φ v v
  | 0, _, h => by simp [closed] at h
  | n + 1, v, h => by
    have arr : ∀ c : Array Value, c.toList.all (closed n) = true → ∀ (i : Nat) (v v' : Value), c[i]? = some v → c[i]? = some v' → VR φ v v' := by
      intro c hc i v v' hv hv'
      rw [hv] at hv'; cases hv'
      have hm : v ∈ c.toList := by
        have : c.toList[i]? = some v := by simpa using hv
        exact List.mem_of_getElem? this
      exact VR.of_closed n v (List.all_eq_true.1 hc v hm)
    cases v with
    | bool b => exact .bool b
    | int k m => exact .int k m
    | string s => exact .string s
    | pointer a => cases a with
      | none => exact .ptrNil
      | some a => simp [closed] at h
    | slice a l c =>
      cases a with
      | none => cases l <;> cases c <;> simp [closed] at h; exact .slNil
      | some a => simp [closed] at h
    | map r => cases r with
      | none => exact .mapNil
      | some a => simp [closed] at h
    | nilFunc => exact .nilFunc
    | nilIface => exact .nilIface
    | func fn f c =>
      simp only [closed, Bool.and_eq_true] at h
      exact .func rfl (arr f h.1) rfl (arr c h.2)
    | iface t v => exact .iface t (VR.of_closed n v (by simpa [closed] using h))
    | agg c => exact .agg rfl (arr c (by simpa only [closed] using h))
    | tuple c => exact .tuple rfl (arr c (by simpa only [closed] using h))
    | float k b => simp [closed] at h
    | complex k a b => simp [closed] at h
    | chan r => simp [closed] at h

/-- The value of one cell. -/
def isCell : Value → Bool
  | .agg _ => false
  | .tuple _ => false
  | _ => true

theorem VR.isCell {φ : Phi} {v v' : Value} (h : VR φ v v') : isCell v' = isCell v := by cases h <;> rfl

theorem VRs.isCell {φ : Phi} {xs ys : List Value} (h : VRs φ xs ys) (hx : xs.all isCell = true) : ys.all Lg.isCell = true := by
  induction h with
  | nil => rfl
  | cons a _ ih =>
    simp only [List.all_cons, Bool.and_eq_true] at hx ⊢
    exact ⟨by rw [a.isCell]; exact hx.1, ih hx.2⟩

/-! ### logical heaps -/
inductive LObj
  | cells (cs : List Value) (sz : Nat) (ro : Bool)
  | map (es : List (Value × Value))

def LObj.own : LObj → Bool
  | .cells _ _ ro => !ro
  | .map _ => true

structure LH where
  next : Nat
  get : Nat → Option LObj

def LH.put (H : LH) (b : Nat) (o : Option LObj) : LH := { next := H.next, get := fun x => if x = b then o else H.get x }
def LH.new (H : LH) (o : LObj) : LH := { next := H.next + 1, get := fun x => if x = H.next then some o else H.get x }
/-- A new object at a number that was kept back. -/
def LH.newAt (H : LH) (b : Nat) (o : LObj) : LH := H.put b (some o)
def LH.keep (H : LH) (n : Nat) : LH := { next := H.next + n, get := H.get }

def ObjRel (φ : Phi) (m : Place) (o : LObj) (x : Option Obj) : Prop :=
  match o with
  | .cells cs sz ro => ∃ c el fz, x = some (.cells c el fz) ∧ c.size = m.size ∧ m.sz = sz ∧ m.off + cs.length ≤ c.size ∧
      VRs φ cs ((c.toList.drop m.off).take cs.length) ∧ (ro = false → fz = (0, 0)) ∧ cs.all isCell = true
  | .map es => ∃ ents clk, x = some (.map ents clk) ∧ VRs φ (es.map (·.1)) (ents.toList.map (·.key)) ∧ VRs φ (es.map (·.2)) (ents.toList.map (·.val))

theorem ObjRel.ext {φ ψ : Phi} (hx : Ext φ ψ) {m : Place} {o : LObj} {x : Option Obj} (h : ObjRel φ m o x) : ObjRel ψ m o x := by
  cases o with
  | cells cs sz ro => obtain ⟨c, el, fz, h1, h2, h3, h4, h5, h6, h7⟩ := h; exact ⟨c, el, fz, h1, h2, h3, h4, h5.ext hx, h6, h7⟩
  | map es => obtain ⟨ents, clk, h1, h2, h3⟩ := h; exact ⟨ents, clk, h1, h2.ext hx, h3.ext hx⟩

structure Rel (φ : Phi) (H : LH) (w : World) : Prop where
  dom : ∀ b m, φ b = some m → b < H.next ∧ m.blk < w.heap.size
  live : ∀ b o, H.get b = some o → ∃ m, φ b = some m ∧ ObjRel φ m o w.heap[m.blk]?
  sep : ∀ b b' o o' m m', b ≠ b' → H.get b = some o → o.own = true → H.get b' = some o' → φ b = some m → φ b' = some m' → m.blk ≠ m'.blk

/-- The blocks that the logical heap may write. -/
def Wr (φ : Phi) (H : LH) (B : Nat) : Prop := ∃ b o m, H.get b = some o ∧ o.own = true ∧ φ b = some m ∧ m.blk = B
/-- The blocks that the logical heap speaks of. -/
def Im (φ : Phi) (H : LH) (B : Nat) : Prop := ∃ b o m, H.get b = some o ∧ φ b = some m ∧ m.blk = B

theorem Wr.im {φ : Phi} {H : LH} {B : Nat} (h : Wr φ H B) : Im φ H B := by
  obtain ⟨b, o, m, h1, _, h3, h4⟩ := h; exact ⟨b, o, m, h1, h3, h4⟩

/-- What a step may have turned. -/
structure Fr (φ : Phi) (H : LH) (w : World) (φ' : Phi) (H' : LH) (w' : World) : Prop where
  os : w'.os = w.os
  tape : w'.tape = w.tape
  output : w'.output = w.output
  size : w.heap.size ≤ w'.heap.size
  ext : Ext φ φ'
  next : H.next ≤ H'.next
  same : ∀ B, B < w.heap.size → ¬ Wr φ H B → w'.heap[B]? = w.heap[B]?
  im : ∀ B, Im φ' H' B → Im φ H B ∨ w.heap.size ≤ B
  wr : ∀ B, Wr φ' H' B → Wr φ H B ∨ w.heap.size ≤ B

theorem Fr.refl (φ : Phi) (H : LH) (w : World) : Fr φ H w φ H w :=
  ⟨rfl, rfl, rfl, Nat.le_refl _, Ext.refl _, Nat.le_refl _, fun _ _ _ => rfl, fun _ h => .inl h, fun _ h => .inl h⟩

theorem Fr.trans {φ φ' φ'' : Phi} {H H' H'' : LH} {w w' w'' : World} (a : Fr φ H w φ' H' w') (b : Fr φ' H' w' φ'' H'' w'') : Fr φ H w φ'' H'' w'' where
  os := b.os.trans a.os
  tape := b.tape.trans a.tape
  output := b.output.trans a.output
  size := Nat.le_trans a.size b.size
  ext := a.ext.trans b.ext
  next := Nat.le_trans a.next b.next
  same B hB hW := by
    rw [b.same B (Nat.lt_of_lt_of_le hB a.size) (fun h => by rcases a.wr B h with h | h; exact hW h; omega), a.same B hB hW]
  im B h := by
    rcases b.im B h with h | h
    · exact a.im B h
    · exact .inr (Nat.le_trans a.size h)
  wr B h := by
    rcases b.wr B h with h | h
    · exact a.wr B h
    · exact .inr (Nat.le_trans a.size h)

/-! ### environments -/
inductive EV
  | none
  | val (v : Value)
  | box (fz : Bool) (cells : List Value)
  | ref (slot off : Nat)

abbrev Env := Nat → EV
def upd (e : Env) (t : Nat) (x : EV) : Env := fun i => if i = t then x else e i

/-- The block of a box. -/
def BoxAt (tmps : Array Value) (t B : Nat) : Prop := tmps[t]? = some (.pointer (some ⟨B, 0, none⟩))

theorem BoxAt.inj {tmps : Array Value} {t B B' : Nat} (h : BoxAt tmps t B) (h' : BoxAt tmps t B') : B = B' := by
  unfold BoxAt at *; rw [h] at h'; cases h'; rfl

structure ER (base : Nat) (φ : Phi) (e : Env) (H : LH) (tmps : Array Value) (w : World) : Prop where
  val : ∀ t v, e t = .val v → ∃ v', tmps[t]? = some v' ∧ VR φ v v'
  box : ∀ t f cs, e t = .box f cs → ∃ B c el, BoxAt tmps t B ∧ w.heap[B]? = some (.cells c el (0, 0)) ∧ VRs φ cs c.toList ∧ ¬ Im φ H B ∧ base ≤ B ∧ cs.all isCell = true
  ref : ∀ t s o, e t = .ref s o → ∃ B f cs, BoxAt tmps s B ∧ tmps[t]? = some (.pointer (some ⟨B, o, none⟩)) ∧ e s = .box f cs
  apart : ∀ t t' f f' cs cs' B B', t ≠ t' → e t = .box f cs → e t' = .box f' cs' → BoxAt tmps t B → BoxAt tmps t' B' → B ≠ B'

/-- Behind a step that turned what it may. -/
theorem ER.frame {base : Nat} {φ φ' : Phi} {e : Env} {H H' : LH} {tmps : Array Value} {w w' : World} (h : ER base φ e H tmps w) (hf : Fr φ H w φ' H' w') : ER base φ' e H' tmps w' where
  val t v he := by obtain ⟨v', h1, h2⟩ := h.val t v he; exact ⟨v', h1, h2.ext hf.ext⟩
  box t f cs he := by
    obtain ⟨B, c, el, h1, h2, h3, h4, h5, h6⟩ := h.box t f cs he
    have hB : B < w.heap.size := by
      rcases Nat.lt_or_ge B w.heap.size with hh | hh
      · exact hh
      · rw [Array.getElem?_eq_none hh] at h2; cases h2
    refine ⟨B, c, el, h1, ?_, h3.ext hf.ext, ?_, h5, h6⟩
    · rw [hf.same B hB (fun hw => h4 hw.im)]; exact h2
    · intro hi; rcases hf.im B hi with hi | hi
      · exact h4 hi
      · omega
  ref t s o he := h.ref t s o he
  apart := h.apart

theorem size_put (tmps : Array Value) (d : Nat) (v : Value) : (tmps.setIfInBounds d v).size = tmps.size := by simp

theorem get_put_same {tmps : Array Value} {d : Nat} (h : d < tmps.size) (v : Value) : (tmps.setIfInBounds d v)[d]? = some v := by
  simp [h]
theorem get_put_ne {tmps : Array Value} {d t : Nat} (h : t ≠ d) (v : Value) : (tmps.setIfInBounds d v)[t]? = tmps[t]? := by
  simp [Ne.symm h]

theorem BoxAt.put {tmps : Array Value} {d t B : Nat} (h : t ≠ d) (v : Value) : BoxAt (tmps.setIfInBounds d v) t B ↔ BoxAt tmps t B := by
  unfold BoxAt; rw [get_put_ne h]

/-- No reference leads to a slot that is no box. -/
theorem ER.noRef {base : Nat} {φ : Phi} {e : Env} {H : LH} {tmps : Array Value} {w : World} (h : ER base φ e H tmps w) {d : Nat} (hd : ∀ f cs, e d ≠ .box f cs) (t o : Nat) : e t ≠ .ref d o := by
  intro he
  obtain ⟨B, f, cs, _, _, hb⟩ := h.ref t d o he
  exact hd f cs hb

theorem upd_same (e : Env) (t : Nat) (x : EV) : upd e t x t = x := by simp [upd]
theorem upd_ne (e : Env) {t i : Nat} (x : EV) (h : i ≠ t) : upd e t x i = e i := by simp [upd, h]

/-- A slot is written with whatever; nothing is said of it then. -/
theorem ER.putNone {base : Nat} {φ : Phi} {e : Env} {H : LH} {tmps : Array Value} {w : World} (h : ER base φ e H tmps w) {d : Nat} (hd : ∀ f cs, e d ≠ .box f cs) (v' : Value) :
    ER base φ (upd e d .none) H (tmps.setIfInBounds d v') w where
  val t v he := by
    by_cases ht : t = d
    · subst ht; rw [upd_same] at he; cases he
    · rw [upd_ne _ _ ht] at he; rw [get_put_ne ht]; exact h.val t v he
  box t f cs he := by
    by_cases ht : t = d
    · subst ht; rw [upd_same] at he; cases he
    · rw [upd_ne _ _ ht] at he
      obtain ⟨B, c, el, h1, h2⟩ := h.box t f cs he
      exact ⟨B, c, el, (BoxAt.put ht v').2 h1, h2⟩
  ref t s o he := by
    by_cases ht : t = d
    · subst ht; rw [upd_same] at he; cases he
    · rw [upd_ne _ _ ht] at he
      obtain ⟨B, f, cs, h1, h2, h3⟩ := h.ref t s o he
      have hs : s ≠ d := fun hs => hd f cs (hs ▸ h3)
      exact ⟨B, f, cs, (BoxAt.put hs v').2 h1, by rw [get_put_ne ht]; exact h2, by rw [upd_ne _ _ hs]; exact h3⟩
  apart t t' f f' cs cs' B B' hn he he' hb hb' := by
    by_cases ht : t = d
    · subst ht; rw [upd_same] at he; cases he
    · by_cases ht' : t' = d
      · subst ht'; rw [upd_same] at he'; cases he'
      · rw [upd_ne _ _ ht] at he; rw [upd_ne _ _ ht'] at he'
        exact h.apart t t' f f' cs cs' B B' hn he he' ((BoxAt.put ht v').1 hb) ((BoxAt.put ht' v').1 hb')

theorem ER.putVal {base : Nat} {φ : Phi} {e : Env} {H : LH} {tmps : Array Value} {w : World} (h : ER base φ e H tmps w) {d : Nat} (hd : ∀ f cs, e d ≠ .box f cs)
    (hlt : d < tmps.size) {v v' : Value} (hv : VR φ v v') : ER base φ (upd e d (.val v)) H (tmps.setIfInBounds d v') w where
  val t u he := by
    by_cases ht : t = d
    · subst ht; rw [upd_same] at he; cases he; exact ⟨v', get_put_same hlt v', hv⟩
    · rw [upd_ne _ _ ht] at he; rw [get_put_ne ht]; exact h.val t u he
  box t f cs he := by
    by_cases ht : t = d
    · subst ht; rw [upd_same] at he; cases he
    · rw [upd_ne _ _ ht] at he
      obtain ⟨B, c, el, h1, h2⟩ := h.box t f cs he
      exact ⟨B, c, el, (BoxAt.put ht v').2 h1, h2⟩
  ref t s o he := by
    by_cases ht : t = d
    · subst ht; rw [upd_same] at he; cases he
    · rw [upd_ne _ _ ht] at he
      obtain ⟨B, f, cs, h1, h2, h3⟩ := h.ref t s o he
      have hs : s ≠ d := fun hs => hd f cs (hs ▸ h3)
      exact ⟨B, f, cs, (BoxAt.put hs v').2 h1, by rw [get_put_ne ht]; exact h2, by rw [upd_ne _ _ hs]; exact h3⟩
  apart t t' f f' cs cs' B B' hn he he' hb hb' := by
    by_cases ht : t = d
    · subst ht; rw [upd_same] at he; cases he
    · by_cases ht' : t' = d
      · subst ht'; rw [upd_same] at he'; cases he'
      · rw [upd_ne _ _ ht] at he; rw [upd_ne _ _ ht'] at he'
        exact h.apart t t' f f' cs cs' B B' hn he he' ((BoxAt.put ht v').1 hb) ((BoxAt.put ht' v').1 hb')

theorem ER.putRef {base : Nat} {φ : Phi} {e : Env} {H : LH} {tmps : Array Value} {w : World} (h : ER base φ e H tmps w) {d : Nat} (hd : ∀ f cs, e d ≠ .box f cs)
    (hlt : d < tmps.size) {s o B : Nat} {f : Bool} {cs : List Value} (hs : e s = .box f cs) (hB : BoxAt tmps s B) :
    ER base φ (upd e d (.ref s o)) H (tmps.setIfInBounds d (.pointer (some ⟨B, o, none⟩))) w where
  val t u he := by
    by_cases ht : t = d
    · subst ht; rw [upd_same] at he; cases he
    · rw [upd_ne _ _ ht] at he; rw [get_put_ne ht]; exact h.val t u he
  box t f cs he := by
    by_cases ht : t = d
    · subst ht; rw [upd_same] at he; cases he
    · rw [upd_ne _ _ ht] at he
      obtain ⟨B, c, el, h1, h2⟩ := h.box t f cs he
      exact ⟨B, c, el, (BoxAt.put ht _).2 h1, h2⟩
  ref t s' o' he := by
    by_cases ht : t = d
    · subst ht; rw [upd_same] at he; cases he
      have hsd : s ≠ t := fun e' => hd f cs (e' ▸ hs)
      exact ⟨B, f, cs, (BoxAt.put hsd _).2 hB, get_put_same hlt _, by rw [upd_ne _ _ hsd]; exact hs⟩
    · rw [upd_ne _ _ ht] at he
      obtain ⟨B, f, cs, h1, h2, h3⟩ := h.ref t s' o' he
      have hs : s' ≠ d := fun hs => hd f cs (hs ▸ h3)
      exact ⟨B, f, cs, (BoxAt.put hs _).2 h1, by rw [get_put_ne ht]; exact h2, by rw [upd_ne _ _ hs]; exact h3⟩
  apart t t' f f' cs cs' B B' hn he he' hb hb' := by
    by_cases ht : t = d
    · subst ht; rw [upd_same] at he; cases he
    · by_cases ht' : t' = d
      · subst ht'; rw [upd_same] at he'; cases he'
      · rw [upd_ne _ _ ht] at he; rw [upd_ne _ _ ht'] at he'
        exact h.apart t t' f f' cs cs' B B' hn he he' ((BoxAt.put ht _).1 hb) ((BoxAt.put ht' _).1 hb')

/-- A world with one block more. -/
structure Pushed (w w' : World) (x : Obj) : Prop where
  os : w'.os = w.os
  tape : w'.tape = w.tape
  output : w'.output = w.output
  heap : w'.heap = w.heap.push x

/-- A new box: its block is the world's last. -/
theorem ER.putBox {base : Nat} {φ : Phi} {e : Env} {H : LH} {tmps : Array Value} {w w' : World} (h : ER base φ e H tmps w) (hr : Rel φ H w) (hbase : base ≤ w.heap.size) {d : Nat} (hd : ∀ f cs, e d ≠ .box f cs)
    (hlt : d < tmps.size) {cs : List Value} {c : Array Value} {el : TypeId} (hc : VRs φ cs c.toList) (hcell : cs.all isCell = true) (hp : Pushed w w' (.cells c el (0, 0))) :
    ER base φ (upd e d (.box false cs)) H (tmps.setIfInBounds d (.pointer (some ⟨w.heap.size, 0, none⟩))) w' := by
  have hph := hp.heap
  have hold : ∀ B, B < w.heap.size → (w.heap.push (Obj.cells c el (0, 0)))[B]? = w.heap[B]? := fun B hB => by
    rw [Array.getElem?_push, if_neg (by omega)]
  have hlt' : ∀ {B : Nat} {x : Obj}, w.heap[B]? = some x → B < w.heap.size := fun {B x} hx => by
    rcases Nat.lt_or_ge B w.heap.size with hh | hh
    · exact hh
    · rw [Array.getElem?_eq_none hh] at hx; cases hx
  refine ⟨?_, ?_, ?_, ?_⟩
  · intro t u he
    by_cases ht : t = d
    · subst ht; rw [upd_same] at he; cases he
    · rw [upd_ne _ _ ht] at he; rw [get_put_ne ht]; exact h.val t u he
  · intro t f' cs' he
    by_cases ht : t = d
    · subst ht; rw [upd_same] at he; cases he
      refine ⟨w.heap.size, c, el, get_put_same hlt _, by simp [hph], hc, ?_, hbase, hcell⟩
      rintro ⟨b, o, m, _, h2, h3⟩
      have := (hr.dom b m h2).2
      omega
    · rw [upd_ne _ _ ht] at he
      obtain ⟨B, c', el', h1, h2, h3, h4⟩ := h.box t f' cs' he
      exact ⟨B, c', el', (BoxAt.put ht _).2 h1, by rw [← h2, hph]; exact hold B (hlt' h2), h3, h4⟩
  · intro t s' o' he
    by_cases ht : t = d
    · subst ht; rw [upd_same] at he; cases he
    · rw [upd_ne _ _ ht] at he
      obtain ⟨B, f, cs, h1, h2, h3⟩ := h.ref t s' o' he
      have hs : s' ≠ d := fun hs => hd f cs (hs ▸ h3)
      exact ⟨B, f, cs, (BoxAt.put hs _).2 h1, by rw [get_put_ne ht]; exact h2, by rw [upd_ne _ _ hs]; exact h3⟩
  · intro t t' f f' cs1 cs2 B B' hn he he' hb hb'
    by_cases ht : t = d
    · subst ht
      rw [upd_ne _ _ (Ne.symm hn)] at he'
      obtain ⟨B2, c2, el2, h1, h2, _⟩ := h.box t' f' cs2 he'
      have e1 := ((BoxAt.put (Ne.symm hn) _).1 hb').inj h1
      have e2 : B = w.heap.size := by
        unfold BoxAt at hb; rw [get_put_same hlt] at hb; cases hb; rfl
      have := hlt' h2
      omega
    · by_cases ht' : t' = d
      · subst ht'
        rw [upd_ne _ _ hn] at he
        obtain ⟨B2, c2, el2, h1, h2, _⟩ := h.box t f cs1 he
        have e1 := ((BoxAt.put hn _).1 hb).inj h1
        have e2 : B' = w.heap.size := by
          unfold BoxAt at hb'; rw [get_put_same hlt] at hb'; cases hb'; rfl
        have := hlt' h2
        omega
      · rw [upd_ne _ _ ht] at he; rw [upd_ne _ _ ht'] at he'
        exact h.apart t t' f f' cs1 cs2 B B' hn he he' ((BoxAt.put ht _).1 hb) ((BoxAt.put ht' _).1 hb')

theorem lt_of_get {w : World} {B : Nat} {x : Obj} (h : w.heap[B]? = some x) : B < w.heap.size := by
  rcases Nat.lt_or_ge B w.heap.size with hh | hh
  · exact hh
  · rw [Array.getElem?_eq_none hh] at h; cases h

/-- A world in which one block was turned. -/
structure Turned (w w' : World) (B : Nat) (x : Obj) : Prop where
  os : w'.os = w.os
  tape : w'.tape = w.tape
  output : w'.output = w.output
  size : w'.heap.size = w.heap.size
  at_ : w'.heap[B]? = some x
  other : ∀ k, k ≠ B → w'.heap[k]? = w.heap[k]?

/-- A store into a box. -/
theorem ER.setBox {base : Nat} {φ : Phi} {e : Env} {H : LH} {tmps : Array Value} {w w' : World} (h : ER base φ e H tmps w) {d B : Nat} {f : Bool} {cs cs' : List Value} {c : Array Value} {el : TypeId}
    (hd : e d = .box f cs) (hB : BoxAt tmps d B) (ht : Turned w w' B (.cells c el (0, 0))) (hc : VRs φ cs' c.toList) (hcell : cs'.all isCell = true) : ER base φ (upd e d (.box f cs')) H tmps w' where
  val t v he := by
    by_cases htd : t = d
    · subst htd; rw [upd_same] at he; cases he
    · rw [upd_ne _ _ htd] at he; exact h.val t v he
  box t f' cs1 he := by
    by_cases htd : t = d
    · subst htd; rw [upd_same] at he; cases he
      obtain ⟨B', c', el', h1, h2, h3, h4, h5, _⟩ := h.box t f cs hd
      have := hB.inj h1; subst this
      exact ⟨B, c, el, hB, ht.at_, hc, h4, h5, hcell⟩
    · rw [upd_ne _ _ htd] at he
      obtain ⟨B', c', el', h1, h2, h3, h4⟩ := h.box t f' cs1 he
      have hne : B' ≠ B := fun e' => h.apart t d f' f cs1 cs B' B htd he hd h1 hB e'
      exact ⟨B', c', el', h1, by rw [ht.other B' hne]; exact h2, h3, h4⟩
  ref t s o he := by
    by_cases htd : t = d
    · subst htd; rw [upd_same] at he; cases he
    · rw [upd_ne _ _ htd] at he
      obtain ⟨B', f', cs1, h1, h2, h3⟩ := h.ref t s o he
      by_cases hs : s = d
      · subst hs; exact ⟨B', f, cs', h1, h2, by rw [upd_same]⟩
      · exact ⟨B', f', cs1, h1, h2, by rw [upd_ne _ _ hs]; exact h3⟩
  apart t t' f1 f2 cs1 cs2 B1 B2 hn he he' hb hb' := by
    have old : ∀ {x : Nat} {g : Bool} {q : List Value}, upd e d (.box f cs') x = .box g q → ∃ g' q', e x = .box g' q' := fun {x g q} hx => by
      by_cases hxd : x = d
      · subst hxd; exact ⟨f, cs, hd⟩
      · rw [upd_ne _ _ hxd] at hx; exact ⟨g, q, hx⟩
    obtain ⟨g1, q1, k1⟩ := old he
    obtain ⟨g2, q2, k2⟩ := old he'
    exact h.apart t t' g1 g2 q1 q2 B1 B2 hn k1 k2 hb hb'

theorem Rel.turnedPrivate {φ : Phi} {H : LH} {w w' : World} (h : Rel φ H w) {B : Nat} {x : Obj} (hB : ¬ Im φ H B) (ht : Turned w w' B x) : Rel φ H w' where
  dom b m hb := by have := h.dom b m hb; rw [ht.size]; exact this
  live b o hb := by
    obtain ⟨m, h1, h2⟩ := h.live b o hb
    have hne : m.blk ≠ B := fun e => hB ⟨b, o, m, hb, h1, e⟩
    exact ⟨m, h1, by rw [ht.other _ hne]; exact h2⟩
  sep := h.sep

theorem Fr.turnedPrivate {φ0 φ : Phi} {H0 H : LH} {w0 w w' : World} (h : Fr φ0 H0 w0 φ H w) {B : Nat} {x : Obj} (hB : w0.heap.size ≤ B) (ht : Turned w w' B x) : Fr φ0 H0 w0 φ H w' where
  os := ht.os.trans h.os
  tape := ht.tape.trans h.tape
  output := ht.output.trans h.output
  size := by rw [ht.size]; exact h.size
  ext := h.ext
  next := h.next
  same k hk hw := by rw [ht.other k (by omega)]; exact h.same k hk hw
  im := h.im
  wr := h.wr

/-- A block of the logical heap is turned. -/
theorem Rel.turned {φ : Phi} {H : LH} {w w' : World} (h : Rel φ H w) {b : Nat} {o o' : LObj} {m : Place} {x : Obj} (hb : H.get b = some o) (ho : o.own = true) (hm : φ b = some m) (ho' : o'.own = true)
    (ht : Turned w w' m.blk x) (hx : ObjRel φ m o' (some x)) : Rel φ (H.put b (some o')) w' where
  dom b' m' hb' := by have := h.dom b' m' hb'; rw [ht.size]; exact this
  live b' o1 hb' := by
    by_cases e : b' = b
    · subst e; simp [LH.put] at hb'; subst hb'; exact ⟨m, hm, by rw [ht.at_]; exact hx⟩
    · simp [LH.put, e] at hb'
      obtain ⟨m', h1, h2⟩ := h.live b' o1 hb'
      have hne : m'.blk ≠ m.blk := fun e' => h.sep b b' o o1 m m' (Ne.symm e) hb ho hb' hm h1 e'.symm
      exact ⟨m', h1, by rw [ht.other _ hne]; exact h2⟩
  sep b1 b2 o1 o2 m1 m2 hne h1 hown h2 g1 g2 := by
    by_cases e1 : b1 = b
    · subst e1
      have e2 : b2 ≠ b1 := Ne.symm hne
      simp [LH.put, e2] at h2
      exact h.sep b1 b2 o o2 m1 m2 hne hb ho h2 g1 g2
    · simp [LH.put, e1] at h1
      by_cases e2 : b2 = b
      · subst e2; exact h.sep b1 b2 o1 o m1 m2 hne h1 hown hb g1 g2
      · simp [LH.put, e2] at h2; exact h.sep b1 b2 o1 o2 m1 m2 hne h1 hown h2 g1 g2

theorem Fr.turned {φ : Phi} {H : LH} {w w' : World} {b : Nat} {o o' : LObj} {m : Place} {x : Obj} (hb : H.get b = some o) (ho : o.own = true) (hm : φ b = some m)
    (ht : Turned w w' m.blk x) : Fr φ H w φ (H.put b (some o')) w' where
  os := ht.os
  tape := ht.tape
  output := ht.output
  size := by rw [ht.size]; exact Nat.le_refl _
  ext := Ext.refl _
  next := Nat.le_refl _
  same k hk hw := ht.other k (fun e => hw ⟨b, o, m, hb, ho, hm, e.symm⟩)
  im B h := by
    obtain ⟨b', o1, m', h1, h2, h3⟩ := h
    by_cases e : b' = b
    · subst e; exact .inl ⟨b', o, m', hb, h2, h3⟩
    · simp [LH.put, e] at h1; exact .inl ⟨b', o1, m', h1, h2, h3⟩
  wr B h := by
    obtain ⟨b', o1, m', h1, h1', h2, h3⟩ := h
    by_cases e : b' = b
    · subst e; exact .inl ⟨b', o, m', hb, ho, h2, h3⟩
    · simp [LH.put, e] at h1; exact .inl ⟨b', o1, m', h1, h1', h2, h3⟩

/-- A logical block is given up. -/
theorem Rel.kill {φ : Phi} {H : LH} {w : World} (h : Rel φ H w) (b : Nat) : Rel φ (H.put b none) w where
  dom := h.dom
  live b' o1 hb' := by
    by_cases e : b' = b
    · subst e; simp [LH.put] at hb'
    · simp [LH.put, e] at hb'; exact h.live b' o1 hb'
  sep b1 b2 o1 o2 m1 m2 hne h1 hown h2 g1 g2 := by
    by_cases e1 : b1 = b
    · subst e1; simp [LH.put] at h1
    · by_cases e2 : b2 = b
      · subst e2; simp [LH.put] at h2
      · simp [LH.put, e1] at h1; simp [LH.put, e2] at h2; exact h.sep b1 b2 o1 o2 m1 m2 hne h1 hown h2 g1 g2

theorem Fr.kill (φ : Phi) (H : LH) (w : World) (b : Nat) : Fr φ H w φ (H.put b none) w where
  os := rfl
  tape := rfl
  output := rfl
  size := Nat.le_refl _
  ext := Ext.refl _
  next := Nat.le_refl _
  same _ _ _ := rfl
  im B h := by
    obtain ⟨b', o1, m', h1, h2, h3⟩ := h
    by_cases e : b' = b
    · subst e; simp [LH.put] at h1
    · simp [LH.put, e] at h1; exact .inl ⟨b', o1, m', h1, h2, h3⟩
  wr B h := by
    obtain ⟨b', o1, m', h1, h1', h2, h3⟩ := h
    by_cases e : b' = b
    · subst e; simp [LH.put] at h1
    · simp [LH.put, e] at h1; exact .inl ⟨b', o1, m', h1, h1', h2, h3⟩

def Phi.put (φ : Phi) (b : Nat) (m : Place) : Phi := fun x => if x = b then some m else φ x

theorem Phi.ext_put {φ : Phi} {b : Nat} {m : Place} (h : φ b = none) : Ext φ (φ.put b m) := fun x y hx => by
  by_cases e : x = b
  · subst e; rw [h] at hx; cases hx
  · simp [Phi.put, e, hx]

/-- A new block for the logical heap, the world's last. -/
theorem Rel.push {φ : Phi} {H H' : LH} {w w' : World} (h : Rel φ H w) {b : Nat} {o : LObj} {m : Place} {x : Obj} (hb : φ b = none) (hg : H'.get = fun y => if y = b then some o else H.get y) (hn : H.next ≤ H'.next) (hbn : b < H'.next)
    (hm : m.blk = w.heap.size) (hx : ObjRel (φ.put b m) m o (some x)) (hp : Pushed w w' x) : Rel (φ.put b m) H' w' where
  dom b' m' hb' := by
    by_cases e : b' = b
    · subst e; simp [Phi.put] at hb'; subst hb'; simp [hm, hp.heap]; omega
    · simp [Phi.put, e] at hb'
      have := h.dom b' m' hb'
      simp [hp.heap]; omega
  live b' o1 hb' := by
    by_cases e : b' = b
    · subst e; simp [hg] at hb'; subst hb'; exact ⟨m, by simp [Phi.put], by simp [hm, hp.heap]; exact hx⟩
    · simp [hg, e] at hb'
      obtain ⟨m', h1, h2⟩ := h.live b' o1 hb'
      have hlt := (h.dom b' m' h1).2
      refine ⟨m', by simp [Phi.put, e, h1], ?_⟩
      have : (w.heap.push x)[m'.blk]? = w.heap[m'.blk]? := by rw [Array.getElem?_push, if_neg (by omega)]
      rw [hp.heap, this]; exact h2.ext (Phi.ext_put hb)
  sep b1 b2 o1 o2 m1 m2 hne h1 hown h2 g1 g2 := by
    by_cases e1 : b1 = b
    · subst e1
      have e2 : b2 ≠ b1 := Ne.symm hne
      simp [Phi.put] at g1; subst g1
      simp [Phi.put, e2] at g2
      have := (h.dom b2 m2 g2).2
      omega
    · simp [Phi.put, e1] at g1
      have k1 := (h.dom b1 m1 g1).2
      by_cases e2 : b2 = b
      · subst e2; simp [Phi.put] at g2; subst g2; omega
      · simp [hg, e1] at h1; simp [hg, e2] at h2; simp [Phi.put, e2] at g2
        exact h.sep b1 b2 o1 o2 m1 m2 hne h1 hown h2 g1 g2

theorem Fr.push {φ : Phi} {H H' : LH} {w w' : World} {b : Nat} {o : LObj} {m : Place} {x : Obj} (hb : φ b = none) (hg : H'.get = fun y => if y = b then some o else H.get y) (hn : H.next ≤ H'.next)
    (hm : m.blk = w.heap.size) (hp : Pushed w w' x) : Fr φ H w (φ.put b m) H' w' where
  os := hp.os
  tape := hp.tape
  output := hp.output
  size := by simp [hp.heap]
  ext := Phi.ext_put hb
  next := hn
  same k hk _ := by rw [hp.heap, Array.getElem?_push, if_neg (by omega)]
  im B h := by
    obtain ⟨b', o1, m', h1, h2, h3⟩ := h
    by_cases e : b' = b
    · subst e; simp [Phi.put] at h2; subst h2; exact .inr (by omega)
    · simp [hg, e] at h1; simp [Phi.put, e] at h2; exact .inl ⟨b', o1, m', h1, h2, h3⟩
  wr B h := by
    obtain ⟨b', o1, m', h1, h1', h2, h3⟩ := h
    by_cases e : b' = b
    · subst e; simp [Phi.put] at h2; subst h2; exact .inr (by omega)
    · simp [hg, e] at h1; simp [Phi.put, e] at h2; exact .inl ⟨b', o1, m', h1, h1', h2, h3⟩

/-- A new block outside the logical heap. -/
theorem Fr.pushPrivate {φ0 φ : Phi} {H0 H : LH} {w0 w w' : World} (h : Fr φ0 H0 w0 φ H w) {x : Obj} (hp : Pushed w w' x) : Fr φ0 H0 w0 φ H w' where
  os := hp.os.trans h.os
  tape := hp.tape.trans h.tape
  output := hp.output.trans h.output
  size := by simp [hp.heap]; have := h.size; omega
  ext := h.ext
  next := h.next
  same k hk hw := by rw [hp.heap, Array.getElem?_push, if_neg (by have := h.size; omega)]; exact h.same k hk hw
  im := h.im
  wr := h.wr

theorem Rel.pushPrivate {φ : Phi} {H : LH} {w w' : World} (h : Rel φ H w) {x : Obj} (hp : Pushed w w' x) : Rel φ H w' where
  dom b m hb := by have := h.dom b m hb; simp [hp.heap]; omega
  live b o hb := by
    obtain ⟨m, h1, h2⟩ := h.live b o hb
    have hlt := (h.dom b m h1).2
    exact ⟨m, h1, by rw [hp.heap, Array.getElem?_push, if_neg (by omega)]; exact h2⟩
  sep := h.sep

/-- The state of a frame, and what has become of the world since it began. -/
structure St (φ0 : Phi) (H0 : LH) (w0 : World) (φ : Phi) (e : Env) (H : LH) (tmps : Array Value) (w : World) : Prop where
  fr : Fr φ0 H0 w0 φ H w
  rel : Rel φ H w
  env : ER w0.heap.size φ e H tmps w
  old : ∀ b, b < H0.next → φ0 b = none → φ b = none
  dead : ∀ b, b < H0.next → H0.get b = none → H.get b = none

theorem St.step {φ0 φ φ' : Phi} {H0 H H' : LH} {w0 w w' : World} {e : Env} {tmps : Array Value} (h : St φ0 H0 w0 φ e H tmps w) (hf : Fr φ H w φ' H' w') (hr : Rel φ' H' w')
    (ho : ∀ b, b < H0.next → φ b = none → φ' b = none) (hd : ∀ b, b < H0.next → H.get b = none → H'.get b = none) : St φ0 H0 w0 φ' e H' tmps w' :=
  ⟨h.fr.trans hf, hr, h.env.frame hf, fun b hb hn => ho b hb (h.old b hb hn), fun b hb hn => hd b hb (h.dead b hb hn)⟩

/-- Nothing is given up and taken again. -/
theorem dead_put {H0 H : LH} {b : Nat} {o : LObj} {x : Option LObj} (hb : H.get b = some o) : ∀ c, c < H0.next → H.get c = none → (H.put b x).get c = none := by
  intro c _ hc
  have : c ≠ b := fun e => by rw [e, hb] at hc; cases hc
  simp [LH.put, this, hc]

theorem dead_kill {H0 H : LH} {b : Nat} : ∀ c, c < H0.next → H.get c = none → (H.put b none).get c = none := by
  intro c _ hc
  simp only [LH.put]; split <;> simp [hc]

/-- A world that differs in its draws alone. -/
theorem St.drawn {φ0 φ : Phi} {H0 H : LH} {w0 w : World} {e : Env} {tmps : Array Value} (h : St φ0 H0 w0 φ e H tmps w) (n : Nat) : St φ0 H0 w0 φ e H tmps { w with drawn := n } :=
  ⟨⟨h.fr.os, h.fr.tape, h.fr.output, h.fr.size, h.fr.ext, h.fr.next, h.fr.same, h.fr.im, h.fr.wr⟩, ⟨h.rel.dom, h.rel.live, h.rel.sep⟩, ⟨h.env.val, h.env.box, h.env.ref, h.env.apart⟩, h.old, h.dead⟩

end Go.Lg
