/- The logical machine, part 19: an operation as what is asked before the next one. No condition. -/
import Derived.Test.YtaehendkbicepaaGreatA18
set_option linter.unusedVariables false
set_option linter.unusedSimpArgs false
namespace Go.Lg
variable {P : Program} {φ0 φ : Phi} {H0 H H' H2 : LH} {w0 w w' : World} {e e' e2 : Env} {tmps : Array Value} {n base : Nat} {al : Option Nat} {pr : List Nat} {ops : Array Oper}

def om {α : Type} (o : Option α) (K : α → Prop) : Prop := match o with
  | some a => K a
  | none => False

theorem om_spec {α : Type} {o : Option α} {K : α → Prop} (h : om o K) : ∃ a, o = some a ∧ K a := by
  cases o with
  | none => exact h.elim
  | some a => exact ⟨a, rfl, h⟩

def ob (b : Bool) (K : Prop) : Prop := match b with
  | true => K
  | false => False

theorem ob_spec {b : Bool} {K : Prop} (h : ob b K) : b = true ∧ K := by
  cases b with
  | false => exact h.elim
  | true => exact ⟨rfl, h⟩

/-- A value of a known shape. -/
def xshape (z v : Value) (K : Value → Prop) : Prop :=
  match z with
  | .int k _ => ∃ x, v = .int k x ∧ K (.int k x)
  | .bool _ => ∃ x, v = .bool x ∧ K (.bool x)
  | .string _ => ∃ x, v = .string x ∧ K (.string x)
  | .slice _ _ _ => ∃ p n c, v = .slice p n c ∧ K (.slice p n c)
  | .pointer _ => ∃ p, v = .pointer p ∧ K (.pointer p)
  | .map _ => ∃ r, v = .map r ∧ K (.map r)
  | _ => K v

theorem xshape_spec {z v : Value} {K : Value → Prop} (h : xshape z v K) : K v := by
  unfold xshape at h
  split at h
  all_goals first | exact h | (obtain ⟨_, rfl, h⟩ := h; exact h) | (obtain ⟨_, _, _, rfl, h⟩ := h; exact h)

/-- Cells, one by one. -/
def xcells (cs : List Value) : Nat → List Value → (List Value → Prop) → Prop
  | _, [], K => K []
  | i, z :: zs, K => ∃ v, cs[i]? = some v ∧ xshape z v fun v' => xcells cs (i + 1) zs fun vs => K (v' :: vs)

theorem xcells_spec {cs : List Value} : ∀ {zs : List Value} {i : Nat} {K : List Value → Prop}, xcells cs i zs K → (zs.length = 0 ∨ i + zs.length ≤ cs.length) ∧ K ((cs.drop i).take zs.length)
  | [], i, K, h => ⟨.inl rfl, by simpa [xcells] using h⟩
  | z :: zs, i, K, h => by
    obtain ⟨v, hv, h⟩ := h
    obtain ⟨h1, h2⟩ := xcells_spec (xshape_spec h)
    have hi := (List.getElem?_eq_some_iff.1 hv)
    obtain ⟨hlt, he⟩ := hi
    refine ⟨.inr ?_, ?_⟩
    · rcases h1 with h1 | h1
      · simp [h1]; omega
      · simp; omega
    · rw [List.drop_eq_getElem_cons hlt, List.length_cons, List.take_succ_cons, he]; exact h2

/-- A part of cells that are not known one by one. -/
def xpart (P : Program) (t : TypeId) (cs : List Value) (i : Nat) (K : Value → Prop) : Prop :=
  match isAggB P t, szOf P t, zeroOf P t with
  | some true, some n, some z => ob (Nat.beq z.cells.toList.length n && Nat.blt 0 n) (xcells cs i z.cells.toList fun vs => K (.agg vs.toArray))
  | some false, _, some z => ∃ v, cs[i]? = some v ∧ xshape z v K
  | _, _, _ => False

theorem xpart_spec {t : TypeId} {cs : List Value} {i : Nat} {K : Value → Prop} (h : xpart P t cs i K) : ∃ v, partV P t cs i = some v ∧ K v := by
  unfold xpart at h
  unfold partV
  split at h
  · rename_i n z h1 h2 h3
    obtain ⟨hb, h⟩ := ob_spec h
    rw [Bool.and_eq_true] at hb
    obtain ⟨hb1, hb2⟩ := hb
    have hb1 := Nat.eq_of_beq_eq_true hb1
    have hb2 : 0 < n := by simpa [Nat.blt_eq] using hb2
    obtain ⟨k1, k2⟩ := xcells_spec h
    rw [h1, h2]
    simp only
    rw [if_pos (by omega), ← hb1]
    exact ⟨_, rfl, k2⟩
  · rename_i h1 h2
    obtain ⟨v, hv, h⟩ := h
    rw [h1]
    exact ⟨v, hv, xshape_spec h⟩
  · exact h.elim

/-- Some value of a shape. -/
def xsome (z : Value) (K : Value → Prop) : Prop :=
  match z with
  | .int k _ => ∃ x, K (.int k x)
  | .bool _ => ∃ x, K (.bool x)
  | .string _ => ∃ x, K (.string x)
  | .slice _ _ _ => ∃ p n c, K (.slice p n c)
  | .pointer _ => ∃ p, K (.pointer p)
  | .map _ => ∃ r, K (.map r)
  | _ => ∃ v, K v

theorem xsome_spec {z : Value} {K : Value → Prop} (h : xsome z K) : ∃ v, K v := by
  unfold xsome at h
  split at h
  all_goals first | (obtain ⟨_, h⟩ := h; exact ⟨_, h⟩) | (obtain ⟨_, _, _, h⟩ := h; exact ⟨_, h⟩)

def xsomes : List Value → (List Value → Prop) → Prop
  | [], K => K []
  | z :: zs, K => xsome z fun v => xsomes zs fun vs => K (v :: vs)

theorem xsomes_spec : ∀ {zs : List Value} {K : List Value → Prop}, xsomes zs K → ∃ vs, K vs
  | [], K, h => ⟨_, h⟩
  | z :: zs, K, h => by
    obtain ⟨v, h⟩ := xsome_spec h
    obtain ⟨vs, h⟩ := xsomes_spec h
    exact ⟨_, h⟩

def xsomeA (z : Value) (K : Value → Prop) : Prop :=
  match z with
  | .agg cs => xsomes cs.toList fun vs => K (.agg vs.toArray)
  | z => xsome z K

theorem xsomeA_spec {z : Value} {K : Value → Prop} (h : xsomeA z K) : ∃ v, K v := by
  unfold xsomeA at h
  split at h
  · obtain ⟨vs, h⟩ := xsomes_spec h; exact ⟨_, h⟩
  · exact xsome_spec h

def xsomesA : List Value → (List Value → Prop) → Prop
  | [], K => K []
  | z :: zs, K => xsomeA z fun v => xsomesA zs fun vs => K (v :: vs)

theorem xsomesA_spec : ∀ {zs : List Value} {K : List Value → Prop}, xsomesA zs K → ∃ vs, K vs
  | [], K, h => ⟨_, h⟩
  | z :: zs, K, h => by
    obtain ⟨v, h⟩ := xsomeA_spec h
    obtain ⟨vs, h⟩ := xsomesA_spec h
    exact ⟨_, h⟩

/-- A cell of a block. -/
def hAt (H : LH) (b k : Nat) (v : Value) : Prop := ∃ cs sz ro, H.get b = some (.cells cs sz ro) ∧ cs[k]? = some v

/-- Cells of a block, one by one. -/
def xcellsH (H : LH) (b : Nat) : Nat → List Value → (List Value → Prop) → Prop
  | _, [], K => K []
  | i, z :: zs, K => xsome z fun v => hAt H b i v ∧ xcellsH H b (i + 1) zs fun vs => K (v :: vs)

theorem xcellsH_spec {b : Nat} : ∀ {zs : List Value} {i : Nat} {K : List Value → Prop}, xcellsH H b i zs K → zs.length = 0 ∧ K [] ∨ ∃ cs sz ro, H.get b = some (.cells cs sz ro) ∧ i + zs.length ≤ cs.length ∧ K ((cs.drop i).take zs.length)
  | [], i, K, h => .inl ⟨rfl, h⟩
  | z :: zs, i, K, h => by
    obtain ⟨v, ⟨cs, sz, ro, hg, hv⟩, h⟩ := xsome_spec h
    obtain ⟨hlt, he⟩ := List.getElem?_eq_some_iff.1 hv
    have key : (cs.drop i).take (z :: zs).length = v :: (cs.drop (i + 1)).take zs.length := by
      rw [List.drop_eq_getElem_cons hlt, List.length_cons, List.take_succ_cons, he]
    rcases xcellsH_spec h with ⟨h1, h2⟩ | ⟨cs', sz', ro', h1, h2, h3⟩
    · refine .inr ⟨cs, sz, ro, hg, by simp [h1]; omega, ?_⟩
      rw [key, h1, List.take_zero]; exact h2
    · rw [hg] at h1; cases h1
      refine .inr ⟨cs, sz, ro, hg, by simp; omega, ?_⟩
      rw [key]; exact h3

/-- A part of a block. -/
def xpartH (P : Program) (t : TypeId) (H : LH) (b i : Nat) (K : Value → Prop) : Prop :=
  match isAggB P t, szOf P t, zeroOf P t with
  | some true, some n, some z => ob (Nat.beq z.cells.toList.length n && Nat.blt 0 n) (xcellsH H b i z.cells.toList fun vs => K (.agg vs.toArray))
  | some false, _, some z => xsome z fun v => hAt H b i v ∧ K v
  | _, _, _ => False

theorem xpartH_spec {t : TypeId} {b i : Nat} {K : Value → Prop} (h : xpartH P t H b i K) : ∃ cs sz ro v, H.get b = some (.cells cs sz ro) ∧ partV P t cs i = some v ∧ K v := by
  unfold xpartH at h
  split at h
  · rename_i n z h1 h2 h3
    obtain ⟨hb, h⟩ := ob_spec h
    rw [Bool.and_eq_true] at hb
    obtain ⟨hb1, hb2⟩ := hb
    have hb1 := Nat.eq_of_beq_eq_true hb1
    have hb2 : 0 < n := by simpa [Nat.blt_eq] using hb2
    rcases xcellsH_spec h with ⟨k1, k2⟩ | ⟨cs, sz, ro, k1, k2, k3⟩
    · omega
    · refine ⟨cs, sz, ro, _, k1, ?_, k3⟩
      unfold partV
      rw [h1, h2]
      simp only
      rw [if_pos (by omega), ← hb1]
  · rename_i h1 h2
    obtain ⟨v, ⟨cs, sz, ro, hg, hv⟩, h⟩ := xsome_spec h
    exact ⟨cs, sz, ro, v, hg, by unfold partV; rw [h1]; exact hv, h⟩
  · exact h.elim

def xbin (P : Program) (op : BinOp) (t : TypeId) (a b : Value) (K : Value → Prop) : Prop :=
  match a, b with
  | .int k x, .int k' y => match op with
    | .quo => ob (decide (k = k')) (y ≠ 0 ∧ K (.int k (k.wrap (x.tdiv y))))
    | .rem => ob (decide (k = k')) (y ≠ 0 ∧ K (.int k (x.tmod y)))
    | .shl => 0 ≤ y ∧ K (.int k (k.wrap (x * 2 ^ (min y.toNat k.bits))))
    | .shr => 0 ≤ y ∧ K (.int k (x.fdiv (2 ^ (min y.toNat k.bits))))
    | _ => om (binV P op t (.int k x) (.int k' y)) K
  | .string x, .string y => match op with
    | .add => ((x.size + y.size : Nat) : Int) ≤ IntKind.i64.max ∧ K (.string (x ++ y))
    | _ => om (sbin op x y) K
  | .bool x, .bool y => om (binV P op t (.bool x) (.bool y)) K
  | .slice p n c, .slice none m d => match P.underlying t, op with
    | some (.slice _), .eql => K (.bool p.isNone)
    | some (.slice _), .neq => K (.bool !p.isNone)
    | _, _ => False
  | .pointer p, .pointer none => match P.underlying t, op with
    | some (.pointer _), .eql => K (.bool p.isNone)
    | some (.pointer _), .neq => K (.bool !p.isNone)
    | _, _ => False
  | .map p, .map none => match P.underlying t, op with
    | some (.map _ _), .eql => K (.bool p.isNone)
    | some (.map _ _), .neq => K (.bool !p.isNone)
    | _, _ => False
  | .agg x, .agg y => om (binV P op t (.agg x) (.agg y)) K
  | _, _ => ∃ v, binV P op t a b = some v ∧ K v

theorem xbin_spec {op : BinOp} {t : TypeId} {a b : Value} {K : Value → Prop} (h : xbin P op t a b K) : ∃ v, binV P op t a b = some v ∧ K v := by
  unfold xbin at h
  split at h
  · split at h
    · obtain ⟨hk, hy, hK⟩ := ob_spec h; have hk := of_decide_eq_true hk; subst hk; exact ⟨_, by simp [binV, ibin, hy], hK⟩
    · obtain ⟨hk, hy, hK⟩ := ob_spec h; have hk := of_decide_eq_true hk; subst hk; exact ⟨_, by simp [binV, ibin, hy], hK⟩
    · obtain ⟨hy, h⟩ := h; exact ⟨_, by simp [binV, ishift, Int.not_lt.2 hy], h⟩
    · obtain ⟨hy, h⟩ := h; exact ⟨_, by simp [binV, ishift, Int.not_lt.2 hy], h⟩
    · exact om_spec h
  · split at h
    · rename_i x y
      obtain ⟨hy, h⟩ := h
      exact ⟨_, by simp only [binV, sbin]; rw [if_neg (by omega)], h⟩
    · exact om_spec h
  · exact om_spec h
  · rename_i p n c m d
    split at h
    · rename_i hu; exact ⟨_, by cases p <;> simp [binV, eqOp, eqV, hu], h⟩
    · rename_i hu; exact ⟨_, by cases p <;> simp [binV, eqOp, eqV, hu], h⟩
    · exact h.elim
  · rename_i p
    split at h
    · rename_i hu; exact ⟨_, by cases p <;> simp [binV, eqOp, eqV, hu], h⟩
    · rename_i hu; exact ⟨_, by cases p <;> simp [binV, eqOp, eqV, hu], h⟩
    · exact h.elim
  · rename_i p
    split at h
    · rename_i hu; exact ⟨_, by cases p <;> simp [binV, eqOp, eqV, hu], h⟩
    · rename_i hu; exact ⟨_, by cases p <;> simp [binV, eqOp, eqV, hu], h⟩
    · exact h.elim
  · exact om_spec h
  · exact h

/-- A new object. -/
def xnew (al : Option Nat) (H : LH) (o : LObj) (K : Nat → LH → Prop) : Prop :=
  match al with
  | none => ∀ H', H' = H.new o → K H.next H'
  | some b => ∀ H', H' = H.put b (some o) → K b H'

theorem xnew_spec {o : LObj} {K : Nat → LH → Prop} (h : xnew al H o K) : K (al.getD H.next) (H.alloc al o) := by
  cases al with
  | none => exact h _ rfl
  | some b => exact h _ rfl

def xfresh (pr : List Nat) (al : Option Nat) (H : LH) (dst : Option Nat) (cs : List Value) (K : LRes → Prop) : Prop :=
  match dst with
  | some d => ob (cs.all isCell) (match pr.contains d with
    | true => K (.box cs)
    | false => xnew al H (.cells cs cs.length false) fun id H' => K (.val (.pointer (some ⟨id, 0, none⟩)) H'))
  | none => False

theorem xfresh_spec {dst : Option Nat} {cs : List Value} {K : LRes → Prop} (h : xfresh pr al H dst cs K) : ∃ r, cFresh pr al H dst cs = some r ∧ K r := by
  unfold xfresh at h
  unfold cFresh
  split at h
  · obtain ⟨h1, h⟩ := ob_spec h
    simp only [h1, if_true]
    split at h
    · rename_i hp; rw [if_pos hp]; exact ⟨_, rfl, h⟩
    · rename_i hp; rw [if_neg (by rw [hp]; exact Bool.false_ne_true)]; exact ⟨_, rfl, xnew_spec h⟩
  · exact h.elim

def xrow (al : Option Nat) (H : LH) (s k : Nat) (cs : List Value) (K : LRes → Prop) : Prop :=
  xnew al H (.cells cs s false) fun id H' => K (.val (.slice (some ⟨id, 0, none⟩) k k) H')

/-- A store in the heap. -/
def xwr (e : Env) (H : LH) (vs : List Value) (l : AL) (K : LRes → Prop) : Prop :=
  match l with
  | .heap b i => ∃ cs sz, H.get b = some (.cells cs sz false) ∧ i + vs.length ≤ cs.length ∧ ∀ H', H' = H.put b (some (.cells (setMany cs i vs) sz false)) → K (.skip none H')
  | .box s i => match e s with
    | .box false cs => ob (Nat.ble (i + vs.length) cs.length) (K (.skip (some (s, setMany cs i vs)) H))
    | _ => False

theorem xwr_spec {vs : List Value} {l : AL} {K : LRes → Prop} (h : xwr e H vs l K) : ∃ r, wrC e H vs l = some r ∧ K r := by
  cases l with
  | heap b i =>
    obtain ⟨cs, sz, h1, h2, h⟩ := h
    exact ⟨_, by simp only [wrC, h1]; rw [if_pos h2], h _ rfl⟩
  | box s i =>
    simp only [xwr] at h
    split at h
    · rename_i cs he
      obtain ⟨h1, h⟩ := ob_spec h
      exact ⟨_, by simp only [wrC, he]; rw [if_pos (by simpa using h1)], h⟩
    · exact h.elim

def xlen (P : Program) (H : LH) (t : TypeId) (v : Value) (K : Value → Prop) : Prop :=
  match v with
  | .slice p n c => match P.underlying t with
    | some (.slice _) => (p = none → n = 0 ∧ c = 0) ∧ K (.int .i64 n)
    | _ => False
  | .map p => match P.underlying t with
    | some (.map _ _) => match p with
      | none => K (.int .i64 0)
      | some r => ∃ es, H.get r = some (.map es) ∧ K (.int .i64 es.length)
    | _ => False
  | v => om (lenV P H t v) K

theorem xlen_spec {t : TypeId} {v : Value} {K : Value → Prop} (h : xlen P H t v K) : ∃ u, lenV P H t v = some u ∧ K u := by
  unfold xlen at h
  split at h
  · rename_i p n c
    split at h
    · rename_i hu
      obtain ⟨h1, h⟩ := h
      cases p with
      | none => obtain ⟨rfl, rfl⟩ := h1 rfl; exact ⟨_, by simp only [lenV, hu]; rfl, h⟩
      | some a => exact ⟨_, by simp only [lenV, hu], h⟩
    · exact h.elim
  · rename_i p
    split at h
    · rename_i hu
      cases p with
      | none => exact ⟨_, by simp only [lenV, hu], h⟩
      | some r => obtain ⟨es, h1, h⟩ := h; exact ⟨_, by simp only [lenV, hu, h1], h⟩
    · exact h.elim
  · exact om_spec h

def xcap (P : Program) (t : TypeId) (v : Value) (K : Value → Prop) : Prop :=
  match v with
  | .slice p n c => match P.underlying t with
    | some (.slice _) => (p = none → n = 0) ∧ c = n ∧ K (.int .i64 n)
    | _ => False
  | _ => False

theorem xcap_spec {t : TypeId} {v : Value} {K : Value → Prop} (h : xcap P t v K) : ∃ u, capV P t v = some u ∧ K u := by
  unfold xcap at h
  split at h
  · rename_i p n c
    split at h
    · rename_i hu
      obtain ⟨h1, rfl, h⟩ := h
      cases p with
      | none => have := h1 rfl; subst this; exact ⟨_, by simp only [capV, hu]; rfl, h⟩
      | some a => exact ⟨_, by simp only [capV, hu, if_true], h⟩
    · exact h.elim
  · exact h.elim

/-- What a map holds under a key. -/
def lookM (H : LH) (q : Option Nat) (k z : Value) : Option (Value × Bool) :=
  match q with
  | none => some (z, false)
  | some r => match H.get r with
    | some (.map es) => match findK k es 0 with
      | some none => some (z, false)
      | some (some (_, v)) => some (v, true)
      | none => none
    | _ => none

theorem lookV_of {t kt et : TypeId} {q : Option Nat} {k z v : Value} {f : Bool} (hu : P.underlying t = some (.map kt et)) (hk : keyTy P kt k = true) (hz : zeroOf P et = some z) (h : lookM H q k z = some (v, f)) (ok : Bool) :
    lookV P H t (.map q) k ok = some (if ok then .tuple #[v, .bool f] else v) := by
  unfold lookM at h
  unfold lookV
  rw [hu]
  simp only [hk, if_true, hz]
  cases q with
  | none => cases h; rfl
  | some r =>
    simp only at h ⊢
    split at h
    · rename_i es hg
      rw [hg]
      simp only
      split at h
      · rename_i hf; rw [hf]; cases h; rfl
      · rename_i i u hf; rw [hf]; cases h; rfl
      · cases h
    · cases h

/-- What an operation asks. -/
def xop (P : Program) (pr : List Nat) (al : Option Nat) (dst : Option Nat) (op : Op) (e : Env) (H : LH) (K : LRes → Prop) : Prop :=
  match op with
  | .pick c a b => om (opd e c) fun
    | .bool t => (t = true → om (opd e a) fun v => K (.val v H)) ∧ (t = false → om (opd e b) fun v => K (.val v H))
    | _ => False
  | .alloc t => om (zeroOf P t) fun z => xfresh pr al H dst z.cells.toList K
  | .box t x => om (opd e x) fun v => xfresh pr al H dst v.cells.toList K
  | .load t a => om (addrOf e a) fun
    | .heap b i => xpartH P t H b i fun v => K (.val v H)
    | .box s i => om (rdCells e H (.box s i)) fun (cs, i) => om (partV P t cs i) fun v => K (.val v H)
  | .store t a x => om (addrOf e a) fun l => om (opd e x) fun v => ob (szOf P t == some v.cells.size && v.cells.toList.all isCell) (xwr e H v.cells.toList l K)
  | .nilCheck x => match x with
    | .tmp t => match e t with
      | .val (.pointer p) => ∃ b i, p = some ⟨b, i, none⟩ ∧ K (.val (.pointer (some ⟨b, i, none⟩)) H)
      | .val (.func (.func f) c d) => K (.val (.func (.func f) c d) H)
      | .box _ _ => K (.ref t 0)
      | .ref s i => K (.ref s i)
      | _ => False
    | _ => False
  | .binOp op t x y _ => om (opd e x) fun a => om (opd e y) fun b => xbin P op t a b fun v => K (.val v H)
  | .makeMap t none => xnew al H (.map []) fun id H' => K (.val (.map (some id)) H')
  | .makeSlice t l c => om (P.underlying t) fun
    | .slice elem => om (opd e l) fun
      | .int _ a => om (opd e c) fun
        | .int _ b => om (szOf P elem) fun s => om (zeroOf P elem) fun z => om (bytOf P elem) fun by_ =>
          ob (Nat.beq s z.cells.size && Nat.blt 0 s && z.cells.toList.all isCell) ((0 ≤ a ∧ a = b ∧ (by_ : Int) * b ≤ 281474976710656 ∧ b ≤ 9223372036854775807) ∧
            xrow al H s a.toNat ((List.replicate a.toNat z.cells.toList).flatten) K)
        | _ => False
      | _ => False
    | _ => False
  | .buildSlice t len parts => om (P.underlying t) fun
    | .slice elem => om (partsV e parts.toList) fun ps => om (szOf P elem) fun s => om (zeroOf P elem) fun z =>
      ob (Nat.ble (len * s) 16777216 && Nat.beq s z.cells.size && Nat.blt 0 s) (om (Instr.fill (fun i => some (i * s, s)) ((Array.range (len * s)).map (z.cells[· % z.cells.size]!)) ps) fun cs =>
        ob (cs.toList.all isCell) (xrow al H s len cs.toList K))
    | _ => False
  | .indexAddr t x ix => om (P.underlying t) fun
    | .slice elem => om (opd e ix) fun
      | .int _ i => om (szOf P elem) fun s => om (opd e x) fun
        | .slice p m _ => ∃ b j, p = some ⟨b, j, none⟩ ∧ 0 ≤ i ∧ i < m ∧ K (.val (.pointer (some ⟨b, j + i.toNat * s, none⟩)) H)
        | _ => False
      | _ => False
    | .array m elem => om (opd e ix) fun
      | .int _ i => om (szOf P elem) fun s => om (addrOf e x) fun l => 0 ≤ i ∧ i < m ∧ om (cAddr H l (i.toNat * s)) K
      | _ => False
    | _ => False
  | .index t x ix => om (P.underlying t) fun
    | .array m elem => om (opd e x) fun
      | .agg cs => om (opd e ix) fun
        | .int _ i => om (szOf P elem) fun s => 0 ≤ i ∧ i < m ∧ xpart P elem cs.toList (i.toNat * s) fun v => K (.val v H)
        | _ => False
      | _ => False
    | .string => om (opd e x) fun
      | .string s => om (opd e ix) fun
        | .int _ i => 0 ≤ i ∧ ∃ c, s[i.toNat]? = some c ∧ K (.val (.int .u8 c.toNat) H)
        | _ => False
      | _ => False
    | _ => False
  | .slice t x lo hi mx => om (opd e x) fun v => om (bnd e lo) fun l => om (bnd e hi) fun h => om (bnd e mx) fun m => om (P.underlying t) fun
    | .slice elem => om (szOf P elem) fun s => match v with
      | .slice q i j => ∃ p n c, sliceV H s (.slice q i j) l h m = some (.slice p n c) ∧ K (.val (.slice p n c) H)
      | _ => False
    | .string => match v with
      | .string b => ∃ r, sliceV H 0 (.string b) l h m = some (.string r) ∧ K (.val (.string r) H)
      | _ => False
    | _ => False
  | .lookup t m k ok => om (opd e m) fun
    | .map q => om (opd e k) fun b => om (P.underlying t) fun
      | .map kt et => ob (keyTy P kt b) (om (zeroOf P et) fun z => match ok with
        | true => ∃ f, xsome z fun v => lookM H q b z = some (v, f) ∧ K (.val (.tuple #[v, .bool f]) H)
        | false => ∃ f, xsome z fun v => lookM H q b z = some (v, f) ∧ K (.val v H))
      | _ => False
    | _ => False
  | .mapUpdate t m k x => om (opd e m) fun
    | .map q => om (opd e k) fun b => om (opd e x) fun v => om (P.underlying t) fun
      | .map kt et => ob (keyTy P kt b) (∃ r es es', q = some r ∧ H.get r = some (.map es) ∧ mapPut es b v = some es' ∧ ∀ H', H' = H.put r (some (.map es')) → K (.skip none H'))
      | _ => False
    | _ => False
  | .call c => match c.callee with
    | .builtin .len => om (opds e c.args.toList) fun
      | [v] => om c.argTypes[0]? fun t => xlen P H t v fun u => K (.val u H)
      | _ => False
    | .builtin .cap => om (opds e c.args.toList) fun
      | [v] => om c.argTypes[0]? fun t => xcap P t v fun u => K (.val u H)
      | _ => False
    | .builtin .append => om (opds e c.args.toList) fun
      | [x, y] => om c.argTypes[0]? fun t => om c.argTypes[1]? fun t2 => om (P.underlying t) fun
        | .slice elem => om (P.underlying t2) fun
          | .slice _ => om (szOf P elem) fun s => om (bytOf P elem) fun by_ => om (zeroOf P elem) fun z =>
            ob (Nat.beq s z.cells.size && Nat.blt 0 s) (∃ p n c H', appV H al s by_ x y = some (.slice p n c, H') ∧ K (.val (.slice p n c) H'))
          | _ => False
        | _ => False
      | _ => False
    | .builtin .copy => om (opds e c.args.toList) fun
      | [x, y] => om c.argTypes[0]? fun t => om (P.underlying t) fun
        | .slice elem => om (szOf P elem) fun s => ∃ n H', copyV H s x y = some (.int .i64 n, H') ∧ K (.val (.int .i64 n) H')
        | _ => False
      | _ => False
    | _ => om (lopC P pr al dst (.call c) e H) K
  | op => om (lopC P pr al dst op e H) K

theorem xop_spec {dst : Option Nat} {op : Op} {K : LRes → Prop} (h : xop P pr al dst op e H K) : ∃ r, lopC P pr al dst op e H = some r ∧ K r := by
  cases op <;> simp only [xop] at h <;> try exact om_spec h
  case pick c a b =>
    obtain ⟨v, hv, h⟩ := om_spec h
    cases v <;> try exact h.elim
    rename_i t
    obtain ⟨h1, h2⟩ := h
    cases t with
    | true => obtain ⟨u, hu, h⟩ := om_spec (h1 rfl); exact ⟨_, by simp only [lopC, hv, hu, cVal, if_true], h⟩
    | false => obtain ⟨u, hu, h⟩ := om_spec (h2 rfl); exact ⟨_, by simp [lopC, hv, hu, cVal], h⟩
  case alloc t =>
    obtain ⟨z, hz, h⟩ := om_spec h
    obtain ⟨r, hr, h⟩ := xfresh_spec h
    exact ⟨r, by simp only [lopC, hz, hr], h⟩
  case box t x =>
    obtain ⟨z, hz, h⟩ := om_spec h
    obtain ⟨r, hr, h⟩ := xfresh_spec h
    exact ⟨r, by simp only [lopC, hz, hr], h⟩
  case load t a =>
    obtain ⟨l, hl, h⟩ := om_spec h
    cases l with
    | heap b i =>
      obtain ⟨cs, sz, ro, v, hg, hv, h⟩ := xpartH_spec h
      exact ⟨_, by simp only [lopC, hl, rdCells, hg, hv, cVal], h⟩
    | box s i =>
      obtain ⟨⟨cs, j⟩, hr, h⟩ := om_spec h
      obtain ⟨v, hv, h⟩ := om_spec h
      exact ⟨_, by simp only [lopC, hl, hr, hv, cVal], h⟩
  case store t a x =>
    obtain ⟨l, hl, h⟩ := om_spec h
    obtain ⟨v, hv, h⟩ := om_spec h
    obtain ⟨hb, h⟩ := ob_spec h
    obtain ⟨r, hr, h⟩ := xwr_spec h
    refine ⟨r, ?_, h⟩
    simp only [lopC, hl, hv]
    rw [if_pos (by simpa using hb), hr]
  case nilCheck x =>
    cases x <;> try exact h.elim
    rename_i t
    simp only at h
    simp only [lopC]
    split at h
    · rename_i p he; obtain ⟨b, i, rfl, h⟩ := h; exact ⟨_, by simp only [he, cVal], h⟩
    · rename_i f c d he; exact ⟨_, by simp only [he, cVal], h⟩
    · rename_i he; exact ⟨_, by simp only [he], h⟩
    · rename_i he; exact ⟨_, by simp only [he], h⟩
    · exact h.elim
  case binOp op t x y f =>
    obtain ⟨a, ha, h⟩ := om_spec h
    obtain ⟨b, hb, h⟩ := om_spec h
    obtain ⟨v, hv, h⟩ := xbin_spec h
    exact ⟨_, by simp only [lopC, ha, hb, hv, cVal], h⟩
  case makeMap t r =>
    cases r with
    | none => simp only at h; exact ⟨_, by simp only [lopC], xnew_spec h⟩
    | some r => exact om_spec h
  case makeSlice t l c =>
    obtain ⟨u, hu, h⟩ := om_spec h
    cases u <;> try exact h.elim
    obtain ⟨a, ha, h⟩ := om_spec h
    cases a <;> try exact h.elim
    obtain ⟨b, hb, h⟩ := om_spec h
    cases b <;> try exact h.elim
    obtain ⟨s, hs, h⟩ := om_spec h
    obtain ⟨z, hz, h⟩ := om_spec h
    obtain ⟨y, hy, h⟩ := om_spec h
    obtain ⟨hk, h⟩ := ob_spec h
    rw [Bool.and_eq_true, Bool.and_eq_true, Nat.blt_eq] at hk
    obtain ⟨⟨hk1, hk2⟩, hk3⟩ := hk
    have hk1 := Nat.eq_of_beq_eq_true hk1
    obtain ⟨⟨h1, h2, h3, h4⟩, h⟩ := h
    refine ⟨_, ?_, xnew_spec h⟩
    simp only [lopC, hu, ha, hb, hs, hz, hy]
    rw [if_pos ⟨h1, h2, hk1, hk2, h3, h4⟩]
    unfold cRow
    rw [if_pos]
    simp only [List.all_flatten, List.all_replicate, Bool.if_true_right, decide_not] 
    simp [hk3]
  case buildSlice t len parts =>
    obtain ⟨u, hu, h⟩ := om_spec h
    cases u <;> try exact h.elim
    obtain ⟨ps, hp, h⟩ := om_spec h
    obtain ⟨s, hs, h⟩ := om_spec h
    obtain ⟨z, hz, h⟩ := om_spec h
    obtain ⟨hk, h⟩ := ob_spec h
    rw [Bool.and_eq_true, Bool.and_eq_true, Nat.blt_eq] at hk
    obtain ⟨⟨hk1, hk2⟩, hk3⟩ := hk
    have hk1 := Nat.le_of_ble_eq_true hk1
    have hk2 := Nat.eq_of_beq_eq_true hk2
    obtain ⟨cs, hc, h⟩ := om_spec h
    obtain ⟨ha, h⟩ := ob_spec h
    refine ⟨_, ?_, xnew_spec h⟩
    simp only [lopC, hu, hp, hs, hz]
    rw [if_pos ⟨hk1, hk2, hk3⟩, hc]
    simp only [cRow]
    rw [if_pos ha]
  case slice t x lo hi mx =>
    obtain ⟨v, hv, h⟩ := om_spec h
    obtain ⟨l, hl, h⟩ := om_spec h
    obtain ⟨i, hi, h⟩ := om_spec h
    obtain ⟨m, hm, h⟩ := om_spec h
    obtain ⟨u, hu, h⟩ := om_spec h
    cases u <;> try exact h.elim
    · cases v <;> try exact h.elim
      obtain ⟨r, hr, h⟩ := h
      exact ⟨_, by simp only [lopC, hv, hl, hi, hm, hu, hr, cVal], h⟩
    · obtain ⟨s, hs, h⟩ := om_spec h
      cases v <;> try exact h.elim
      obtain ⟨p, n, c, hr, h⟩ := h
      exact ⟨_, by simp only [lopC, hv, hl, hi, hm, hu, hs, hr, cVal], h⟩
  case indexAddr t x ix =>
    obtain ⟨u, hu, h⟩ := om_spec h
    cases u <;> try exact h.elim
    · obtain ⟨a, ha, h⟩ := om_spec h
      cases a <;> try exact h.elim
      obtain ⟨s, hs, h⟩ := om_spec h
      obtain ⟨v, hv, h⟩ := om_spec h
      cases v <;> try exact h.elim
      obtain ⟨b, j, rfl, h1, h2, h⟩ := h
      exact ⟨_, by simp only [lopC, hu, ha, hs, hv]; rw [if_pos ⟨h1, h2⟩]; rfl, h⟩
    · obtain ⟨a, ha, h⟩ := om_spec h
      cases a <;> try exact h.elim
      obtain ⟨s, hs, h⟩ := om_spec h
      obtain ⟨l, hl, h⟩ := om_spec h
      obtain ⟨h1, h2, h⟩ := h
      obtain ⟨r, hr, h⟩ := om_spec h
      exact ⟨r, by simp only [lopC, hu, ha, hs, hl]; rw [if_pos ⟨h1, h2⟩, hr], h⟩
  case index t x ix =>
    obtain ⟨u, hu, h⟩ := om_spec h
    cases u <;> try exact h.elim
    · obtain ⟨a, ha, h⟩ := om_spec h
      cases a <;> try exact h.elim
      obtain ⟨b, hb, h⟩ := om_spec h
      cases b <;> try exact h.elim
      obtain ⟨h1, c, h2, h⟩ := h
      exact ⟨_, by simp only [lopC, hu, ha, hb]; rw [if_pos h1, h2]; rfl, h⟩
    · obtain ⟨a, ha, h⟩ := om_spec h
      cases a <;> try exact h.elim
      obtain ⟨b, hb, h⟩ := om_spec h
      cases b <;> try exact h.elim
      obtain ⟨s, hs, h⟩ := om_spec h
      obtain ⟨h1, h2, h⟩ := h
      obtain ⟨v, hv, h⟩ := xpart_spec h
      exact ⟨_, by simp only [lopC, hu, ha, hb, hs]; rw [if_pos ⟨h1, h2⟩, hv]; rfl, h⟩
  case lookup t m k ok =>
    obtain ⟨a, ha, h⟩ := om_spec h
    cases a <;> try exact h.elim
    obtain ⟨b, hb, h⟩ := om_spec h
    obtain ⟨u, hu, h⟩ := om_spec h
    cases u <;> try exact h.elim
    obtain ⟨hk, h⟩ := ob_spec h
    obtain ⟨z, hz, h⟩ := om_spec h
    cases ok
    · obtain ⟨f, h⟩ := h
      obtain ⟨v, hv, hK⟩ := xsome_spec h
      have := lookV_of hu hk hz hv false
      exact ⟨.val v H, by simp only [lopC, ha, hb, this, cVal]; rfl, hK⟩
    · obtain ⟨f, h⟩ := h
      obtain ⟨v, hv, hK⟩ := xsome_spec h
      have := lookV_of hu hk hz hv true
      exact ⟨.val (.tuple #[v, .bool f]) H, by simp only [lopC, ha, hb, this, cVal]; rfl, hK⟩
  case mapUpdate t m k x =>
    obtain ⟨a, ha, h⟩ := om_spec h
    cases a <;> try exact h.elim
    obtain ⟨b, hb, h⟩ := om_spec h
    obtain ⟨v, hv, h⟩ := om_spec h
    obtain ⟨u, hu, h⟩ := om_spec h
    cases u <;> try exact h.elim
    obtain ⟨hk, h⟩ := ob_spec h
    obtain ⟨r, es, es', rfl, h1, h2, h⟩ := h
    refine ⟨_, ?_, h _ rfl⟩
    simp only [lopC, ha, hb, hv, updV, hu, hk, if_true, h1, h2, Option.map_some]
  case call c =>
    obtain ⟨callee, args, argTypes⟩ := c
    cases callee <;> simp only at h <;> try exact om_spec h
    rename_i b
    cases b <;> simp only at h <;> try exact om_spec h
    case len =>
      obtain ⟨l, hl, h⟩ := om_spec h
      match l, h with
      | [v], h =>
        obtain ⟨t, ht, h⟩ := om_spec h
        obtain ⟨u, hu, h⟩ := xlen_spec h
        exact ⟨_, by simp only [lopC, hl, ht, hu, cVal], h⟩
    case cap =>
      obtain ⟨l, hl, h⟩ := om_spec h
      match l, h with
      | [v], h =>
        obtain ⟨t, ht, h⟩ := om_spec h
        obtain ⟨u, hu, h⟩ := xcap_spec h
        exact ⟨_, by simp only [lopC, hl, ht, hu, cVal], h⟩
    case append =>
      obtain ⟨l, hl, h⟩ := om_spec h
      match l, h with
      | [x, y], h =>
        obtain ⟨t, ht, h⟩ := om_spec h
        obtain ⟨t2, ht2, h⟩ := om_spec h
        obtain ⟨u, hu, h⟩ := om_spec h
        cases u <;> try exact h.elim
        obtain ⟨u2, hu2, h⟩ := om_spec h
        cases u2 <;> try exact h.elim
        obtain ⟨s, hs, h⟩ := om_spec h
        obtain ⟨y, hy, h⟩ := om_spec h
        obtain ⟨z, hz, h⟩ := om_spec h
        obtain ⟨hk, h⟩ := ob_spec h
        rw [Bool.and_eq_true, Nat.blt_eq] at hk
        replace hk := And.imp_left Nat.eq_of_beq_eq_true hk
        obtain ⟨p, n, c, H', hv, h⟩ := h
        exact ⟨_, by simp only [lopC, hl, ht, ht2, hu, hu2, hs, hy, hz]; rw [if_pos hk, hv], h⟩
    case copy =>
      obtain ⟨l, hl, h⟩ := om_spec h
      match l, h with
      | [x, y], h =>
        obtain ⟨t, ht, h⟩ := om_spec h
        obtain ⟨u, hu, h⟩ := om_spec h
        cases u <;> try exact h.elim
        obtain ⟨s, hs, h⟩ := om_spec h
        obtain ⟨v, H', hv, h⟩ := h
        exact ⟨_, by simp only [lopC, hl, ht, hu, hs, hv], h⟩

end Go.Lg
