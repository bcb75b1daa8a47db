/- The logical machine, part 2: the operations on logical states. No condition. -/
import Derived.Test.YtaehendkbicepaaGreatA1
import Derived.Laws.IdiomCopy
import Derived.Laws.StructEq
import Derived.Laws.Cells
import Derived.Laws.Tables
import Derived.Laws.MakeOwn
import Derived.Laws.Slices
import Derived.Laws.Append
set_option linter.unusedVariables false
set_option linter.unusedSimpArgs false
namespace Go.Lg

/-! ### reading what the tables say -/
def isAggB (P : Program) (t : TypeId) : Option Bool :=
  match P.underlying t with
  | some (.struct _) | some (.array _ _) => some true
  | some _ => some false
  | none => none
def szOf (P : Program) (t : TypeId) : Option Nat := (P.info? t).map (·.size)
def zeroOf (P : Program) (t : TypeId) : Option Value :=
  match P.info? t with
  | some i => match i.zero with
    | some z => if closed 5 z then some z else none
    | none => none
  | none => none
def bytOf (P : Program) (t : TypeId) : Option Nat := (P.info? t).map (·.bytes)

def opd (e : Env) : Operand → Option Value
  | .tmp t => match e t with
    | .val v => some v
    | _ => none
  | .const v => if closed 5 v then some v else none
  | .func f => some (.func (.func f) #[] #[])
  | .global _ => none

def opds (e : Env) : List Operand → Option (List Value)
  | [] => some []
  | x :: xs => match opd e x, opds e xs with
    | some v, some vs => some (v :: vs)
    | _, _ => none

/-- Where an address leads. -/
inductive AL
  | heap (b i : Nat)
  | box (s i : Nat)

def addrOf (e : Env) : Operand → Option AL
  | .tmp t => match e t with
    | .val (.pointer (some a)) => match a.spot with
      | none => some (.heap a.block a.off)
      | some _ => none
    | .box _ _ => some (.box t 0)
    | .ref s o => some (.box s o)
    | _ => none
  | _ => none

def rdCells (e : Env) (H : LH) : AL → Option (List Value × Nat)
  | .heap b i => match H.get b with
    | some (.cells cs _ _) => some (cs, i)
    | _ => none
  | .box s i => match e s with
    | .box _ cs => some (cs, i)
    | _ => none

def setMany (cs : List Value) : Nat → List Value → List Value
  | _, [] => cs
  | i, v :: vs => setMany (cs.set i v) (i + 1) vs


def isBox : EV → Bool
  | .box _ _ => true
  | _ => false

def okDst (n : Nat) (e : Env) : Option Nat → Bool
  | none => true
  | some d => decide (d < n) && !isBox (e d)

def putE (e : Env) : Option Nat → EV → Env
  | none, _ => e
  | some d, x => upd e d x

def LH.alloc (H : LH) (al : Option Nat) (o : LObj) : LH :=
  match al with
  | none => H.new o
  | some b => H.put b (some o)

def partV (P : Program) (t : TypeId) (cs : List Value) (off : Nat) : Option Value :=
  match isAggB P t, szOf P t with
  | some true, some n => if off + n ≤ cs.length then some (.agg ((cs.drop off).take n).toArray) else none
  | some false, _ => cs[off]?
  | _, _ => none

/-! ### values alone -/
def ibin (op : BinOp) (k : IntKind) (a b : Int) : Option Value :=
  match op with
  | .add => some (.int k (k.wrap (a + b)))
  | .sub => some (.int k (k.wrap (a - b)))
  | .mul => some (.int k (k.wrap (a * b)))
  | .quo => if b = 0 then none else some (.int k (k.wrap (a.tdiv b)))
  | .rem => if b = 0 then none else some (.int k (a.tmod b))
  | .and => some (.int k (k.wrap (BitVec.ofInt k.bits a &&& BitVec.ofInt k.bits b).toNat))
  | .or => some (.int k (k.wrap (BitVec.ofInt k.bits a ||| BitVec.ofInt k.bits b).toNat))
  | .xor => some (.int k (k.wrap (BitVec.ofInt k.bits a ^^^ BitVec.ofInt k.bits b).toNat))
  | .andNot => some (.int k (k.wrap (BitVec.ofInt k.bits a &&& ~~~ BitVec.ofInt k.bits b).toNat))
  | .eql => some (.bool (decide (a = b)))
  | .neq => some (.bool (!decide (a = b)))
  | .lss => some (.bool (decide (a < b)))
  | .leq => some (.bool (decide (a ≤ b)))
  | .gtr => some (.bool (decide (b < a)))
  | .geq => some (.bool (decide (b ≤ a)))
  | _ => none

def ishift (op : BinOp) (k : IntKind) (a b : Int) : Option Value :=
  if b < 0 then none else
  match op with
  | .shl => some (.int k (k.wrap (a * 2 ^ (min b.toNat k.bits))))
  | .shr => some (.int k (a.fdiv (2 ^ (min b.toNat k.bits))))
  | _ => none

def sbin (op : BinOp) (x y : ByteArray) : Option Value :=
  let eq := x.toList == y.toList
  let lt := Op.bytesLess x.toList y.toList
  match op with
  | .add => if ((x.size + y.size : Nat) : Int) > IntKind.i64.max then none else some (.string (x ++ y))
  | .eql => some (.bool eq)
  | .neq => some (.bool !eq)
  | .lss => some (.bool lt)
  | .leq => some (.bool (lt || eq))
  | .gtr => some (.bool !(lt || eq))
  | .geq => some (.bool !lt)
  | _ => none

def eqFs (P : Program) (f : TypeId → Value → Value → Option Bool) (xs ys : List Value) : List Field → Option Bool
  | [] => some true
  | g :: gs =>
    if g.name = "_" then none else
    match partV P g.type xs g.offset, partV P g.type ys g.offset with
    | some a, some b => match f g.type a b, eqFs P f xs ys gs with
      | some r, some s => some (r && s)
      | _, _ => none
    | _, _ => none

def eqV (P : Program) : Nat → TypeId → Value → Value → Option Bool
  | 0, _, _, _ => none
  | d + 1, t, x, y =>
    match P.underlying t, x, y with
    | some .bool, .bool a, .bool b => some (a == b)
    | some (.int _), .int k a, .int k' b => if k = k' then some (decide (a = b)) else none
    | some .string, .string a, .string b => some (a.toList == b.toList)
    | some (.struct fs), .agg xs, .agg ys => if P.stoodInHeld t then none else eqFs P (eqV P d) xs.toList ys.toList fs.toList
    | some (.slice _), .slice none _ _, .slice b _ _ => some b.isNone
    | some (.slice _), .slice (some _) _ _, .slice none _ _ => some false
    | some (.pointer _), .pointer none, .pointer b => some b.isNone
    | some (.pointer _), .pointer (some _), .pointer none => some false
    | some (.map _ _), .map none, .map b => some b.isNone
    | some (.map _ _), .map (some _), .map none => some false
    | some (.func _ _ _), .nilFunc, .nilFunc => some true
    | some (.func _ _ _), .nilFunc, .func _ _ _ => some false
    | some (.func _ _ _), .func _ _ _, .nilFunc => some false
    | _, _, _ => none

def eqOp (P : Program) (op : BinOp) (t : TypeId) (x y : Value) : Option Value :=
  match op with
  | .eql => (eqV P 100 t x y).map Value.bool
  | .neq => (eqV P 100 t x y).map fun b => Value.bool (!b)
  | _ => none

def binV (P : Program) (op : BinOp) (t : TypeId) : Value → Value → Option Value
  | .int k a, .int k' b =>
    match op with
    | .shl | .shr => ishift op k a b
    | _ => if k = k' then ibin op k a b else none
  | .string a, .string b => sbin op a b
  | .agg xs, .agg ys => if P.eqGuardType P.depth t then none else eqOp P op t (.agg xs) (.agg ys)
  | .bool a, .bool b => eqOp P op t (.bool a) (.bool b)
  | .slice a n c, .slice b m d => eqOp P op t (.slice a n c) (.slice b m d)
  | .pointer a, .pointer b => eqOp P op t (.pointer a) (.pointer b)
  | .map a, .map b => eqOp P op t (.map a) (.map b)
  | .nilFunc, .nilFunc => eqOp P op t .nilFunc .nilFunc
  | .nilFunc, .func a b c => eqOp P op t .nilFunc (.func a b c)
  | .func a b c, .nilFunc => eqOp P op t (.func a b c) .nilFunc
  | _, _ => none

def unV (op : UnOp) : Value → Option Value
  | .int k n => match op with
    | .neg => some (.int k (k.wrap (0 - n)))
    | .xor => ibin .xor k (if k.signed then -1 else k.max) n
    | _ => none
  | .bool b => match op with
    | .not => some (.bool (!b))
    | _ => none
  | _ => none

def convV (P : Program) (src dst : TypeId) : Value → Option Value
  | .int _ n => match P.underlying src, P.underlying dst with
    | some _, some (.int k) => some (.int k (k.wrap n))
    | _, _ => none
  | .string s => match P.underlying src, P.underlying dst with
    | some _, some .string => some (.string s)
    | _, _ => none
  | _ => none

/-- A struct or an array, filled. -/
def buildV (P : Program) (t : TypeId) (parts : List (Nat × Value)) : Option Value :=
  match zeroOf P t with
  | some _ => (P.built t parts).map Value.agg
  | none => none

def partsV (e : Env) : List (Nat × Operand) → Option (List (Nat × Value))
  | [] => some []
  | (i, x) :: r => match opd e x, partsV e r with
    | some v, some vs => some ((i, v) :: vs)
    | _, _ => none

/-- A slice of a slice. -/
def sliceV (H : LH) (s : Nat) (v : Value) (lo hi mx : Option Value) : Option Value :=
  let bd : Option Value → Nat → Option Nat := fun
    | none, d => some d
    | some (.int _ i), _ => if 0 ≤ i then some i.toNat else none
    | _, _ => none
  match v with
  | .slice none 0 0 => match mx, bd lo 0, bd hi 0 with
    | none, some 0, some 0 => some (.slice none 0 0)
    | _, _, _ => none
  | .slice (some ⟨b, i, none⟩) n c =>
    match H.get b with
    | some (.cells _ sz _) =>
      if sz = s then
        match bd lo 0, bd hi n with
        | some l, some h =>
          if l ≤ h ∧ h ≤ n then
            match mx with
            | none => some (.slice (some ⟨b, i + l * s, none⟩) (h - l) (if c = n ∧ h = n then h - l else h - l + 1))
            | some (.int _ m) => if hi.isSome = true ∧ (h : Int) ≤ m ∧ m ≤ n then some (.slice (some ⟨b, i + l * s, none⟩) (h - l) (if m = h then h - l else h - l + 1)) else none
            | _ => none
          else none
        | _, _ => none
      else none
    | _ => none
  | .string bs => match mx, bd lo 0, bd hi bs.size with
    | none, some l, some h => if l ≤ h ∧ h ≤ bs.size then some (.string (bs.extract l h)) else none
    | _, _, _ => none
  | _ => none

/-- The cells of a slice's elements. -/
def slCells (H : LH) (s : Nat) : Value → Option (List Value)
  | .slice none 0 0 => some []
  | .slice (some ⟨b, i, none⟩) n _ => match H.get b with
    | some (.cells cs sz _) => if sz = s ∧ i + n * s ≤ cs.length then some ((cs.drop i).take (n * s)) else none
    | _ => none
  | _ => none

def slLen : Value → Option Nat
  | .slice none 0 0 => some 0
  | .slice (some _) n _ => some n
  | _ => none

/-- What an append leaves: the value and the heap. -/
def appV (H : LH) (al : Option Nat) (s bytes : Nat) (x y : Value) : Option (Value × LH) :=
  match slLen x, slLen y, slCells H s x, slCells H s y with
  | some n, some m, some old, some new =>
    if m = 0 then some (x, H) else
    if (n + m) * bytes ≤ 140737488355328 ∧ n + m ≤ 9223372036854775807 then
      let id := al.getD H.next
      let r := Value.slice (some ⟨id, 0, none⟩) (n + m) (n + m + 1)
      match x with
      | .slice (some ⟨b, _, none⟩) _ c =>
        if c = n then some (r, H.alloc al (.cells (old ++ new) s false))
        else match H.get b with
          | some (.cells _ _ false) => some (r, (H.put b none).alloc al (.cells (old ++ new) s false))
          | _ => none
      | _ => some (r, H.alloc al (.cells (old ++ new) s false))
    else none
  | _, _, _, _ => none

/-- What a copy leaves. -/
def copyV (H : LH) (s : Nat) (x y : Value) : Option (Value × LH) :=
  match slLen x, slLen y, slCells H s y with
  | some n, some m, some new =>
    let k := min m n
    if k = 0 then some (.int .i64 0, H) else
    match x with
    | .slice (some ⟨b, i, none⟩) _ _ => match H.get b with
      | some (.cells cs sz false) => if sz = s ∧ i + n * s ≤ cs.length then some (.int .i64 k, H.put b (some (.cells (setMany cs i (new.take (k * s))) sz false))) else none
      | _ => none
    | _ => none
  | _, _, _ => none

/-- Keys that the map's law covers. -/
def keyEq : Value → Value → Option Bool
  | .int k a, .int k' b => if k = k' then some (decide (a = b)) else none
  | .string a, .string b => some (a.toList == b.toList)
  | _, _ => none

def findK (k : Value) : List (Value × Value) → Nat → Option (Option (Nat × Value))
  | [], _ => some none
  | (q, v) :: r, i => match keyEq k q with
    | some true => some (some (i, v))
    | some false => findK k r (i + 1)
    | none => none

def keyTy (P : Program) (t : TypeId) : Value → Bool
  | .int _ _ => match P.underlying t with | some (.int _) => true | _ => false
  | .string _ => match P.underlying t with | some .string => true | _ => false
  | _ => false

def lookV (P : Program) (H : LH) (t : TypeId) (m k : Value) (ok : Bool) : Option Value :=
  match P.underlying t with
  | some (.map kt et) =>
    if keyTy P kt k then
      match zeroOf P et, (match m with
        | .map none => some none
        | .map (some r) => match H.get r with
          | some (.map es) => findK k es 0
          | _ => none
        | _ => none) with
      | some z, some none => some (if ok then .tuple #[z, .bool false] else z)
      | some _, some (some (_, v)) => some (if ok then .tuple #[v, .bool true] else v)
      | _, _ => none
    else none
  | _ => none

def mapPut (es : List (Value × Value)) (k v : Value) : Option (List (Value × Value)) :=
  match findK k es 0 with
  | some none => some (es ++ [(k, v)])
  | some (some (i, _)) => some (es.set i (k, v))
  | none => none

def updV (P : Program) (H : LH) (t : TypeId) (m k v : Value) : Option LH :=
  match P.underlying t, m with
  | some (.map kt _), .map (some r) =>
    if keyTy P kt k then
      match H.get r with
      | some (.map es) => (mapPut es k v).map fun es' => H.put r (some (.map es'))
      | _ => none
    else none
  | _, _ => none

def lenV (P : Program) (H : LH) (t : TypeId) : Value → Option Value
  | .slice none 0 0 => match P.underlying t with | some (.slice _) => some (.int .i64 0) | _ => none
  | .slice (some _) n _ => match P.underlying t with | some (.slice _) => some (.int .i64 n) | _ => none
  | .string s => match P.underlying t with | some .string => some (.int .i64 s.size) | _ => none
  | .map none => match P.underlying t with | some (.map _ _) => some (.int .i64 0) | _ => none
  | .map (some r) => match P.underlying t, H.get r with
    | some (.map _ _), some (.map es) => some (.int .i64 es.length)
    | _, _ => none
  | .agg _ => match P.underlying t with | some (.array n _) => some (.int .i64 n) | _ => none
  | _ => none

/-- A capacity, where it is known. -/
def capV (P : Program) (t : TypeId) : Value → Option Value
  | .slice none 0 0 => match P.underlying t with | some (.slice _) => some (.int .i64 0) | _ => none
  | .slice (some _) n c => match P.underlying t with | some (.slice _) => if c = n then some (.int .i64 n) else none | _ => none
  | _ => none

def minmax (mx : Bool) : Value → List Value → Option Value
  | v, [] => some v
  | .int k a, .int _ b :: r => minmax mx (.int k (if mx then (if b > a then b else a) else (if b < a then b else a))) r
  | _, _ => none

/-- What an operation leaves, in itself. -/
inductive LRes
  | val (v : Value) (H : LH)
  | ref (s i : Nat)
  | box (cs : List Value)
  | skip (bx : Option (Nat × List Value)) (H : LH)

/-- A store. -/
def wrC (e : Env) (H : LH) (vs : List Value) : AL → Option LRes
  | .heap b i => match H.get b with
    | some (.cells cs sz false) => if i + vs.length ≤ cs.length then some (.skip none (H.put b (some (.cells (setMany cs i vs) sz false)))) else none
    | _ => none
  | .box s i => match e s with
    | .box false cs => if i + vs.length ≤ cs.length then some (.skip (some (s, setMany cs i vs)) H) else none
    | _ => none

def fin (n : Nat) (e : Env) (H : LH) (dst : Option Nat) : LRes → Option (Env × LH)
  | .val v H' => if okDst n e dst then some (putE e dst (.val v), H') else none
  | .ref s i => match dst with
    | some d => if okDst n e dst then some (upd e d (.ref s i), H) else none
    | none => none
  | .box cs => match dst with
    | some d => if okDst n e dst then some (upd e d (.box false cs), H) else none
    | none => none
  | .skip none H' => if okDst n e dst then some (putE e dst .none, H') else none
  | .skip (some (s, cs)) H' => if okDst n e dst then some (putE (upd e s (.box false cs)) dst .none, H') else none

def cVal (H : LH) : Option Value → Option LRes
  | some v => some (.val v H)
  | none => none
def cFresh (pr : List Nat) (al : Option Nat) (H : LH) (dst : Option Nat) (cs : List Value) : Option LRes :=
  match dst with
  | some d =>
    if cs.all isCell then
      if pr.contains d then some (.box cs)
      else some (.val (.pointer (some ⟨al.getD H.next, 0, none⟩)) (H.alloc al (.cells cs cs.length false)))
    else none
  | none => none
def cRow (al : Option Nat) (H : LH) (s : Nat) (k : Nat) (cs : List Value) : Option LRes :=
  if cs.all isCell then some (.val (.slice (some ⟨al.getD H.next, 0, none⟩) k k) (H.alloc al (.cells cs s false))) else none
def cAddr (H : LH) (l : AL) (k : Nat) : Option LRes :=
  match l with
  | .heap b i => cVal H (some (.pointer (some ⟨b, i + k, none⟩)))
  | .box s i => some (.ref s (i + k))

/-- A bound of a slice expression. -/
def bnd (e : Env) : Option Operand → Option (Option Value)
  | none => some none
  | some q => match opd e q with
    | some (.int k i) => some (some (.int k i))
    | _ => none

def lopC (P : Program) (pr : List Nat) (al : Option Nat) (dst : Option Nat) (op : Op) (e : Env) (H : LH) : Option LRes :=
  match op with
  | .move x | .assign x => cVal H (opd e x)
  | .pick c a b => match opd e c with
    | some (.bool t) => cVal H (if t then opd e a else opd e b)
    | _ => none
  | .alloc t => match zeroOf P t with
    | some z => cFresh pr al H dst z.cells.toList
    | none => none
  | .box t x => match opd e x with
    | some v => cFresh pr al H dst v.cells.toList
    | none => none
  | .build t parts => match partsV e parts.toList with
    | some ps => cVal H (buildV P t ps)
    | none => none
  | .buildSlice t len parts => match P.underlying t, partsV e parts.toList with
    | some (.slice elem), some ps => match szOf P elem, zeroOf P elem with
      | some s, some z =>
        if len * s ≤ 16777216 ∧ s = z.cells.size ∧ 0 < s then
          match Instr.fill (fun i => some (i * s, s)) ((Array.range (len * s)).map (z.cells[· % z.cells.size]!)) ps with
          | some cs => cRow al H s len cs.toList
          | none => none
        else none
      | _, _ => none
    | _, _ => none
  | .load t a => match addrOf e a with
    | some l => match rdCells e H l with
      | some (cs, i) => cVal H (partV P t cs i)
      | none => none
    | none => none
  | .store t a x => match addrOf e a, opd e x with
    | some l, some v =>
      if szOf P t = some v.cells.size && v.cells.toList.all isCell then
        wrC e H v.cells.toList l
      else none
    | _, _ => none
  | .nilCheck x => match x with
    | .tmp t => match e t with
      | .val (.pointer (some a)) => cVal H (some (.pointer (some a)))
      | .val (.func (.func f) c d) => cVal H (some (.func (.func f) c d))
      | .box _ _ => some (.ref t 0)
      | .ref s i => some (.ref s i)
      | _ => none
    | _ => none
  | .binOp op t x y _ => match opd e x, opd e y with
    | some a, some b => cVal H (binV P op t a b)
    | _, _ => none
  | .unOp op _ x => match opd e x with
    | some a => cVal H (unV op a)
    | _ => none
  | .convert s d x => match opd e x with
    | some a => cVal H (convV P s d a)
    | _ => none
  | .makeFunc fn a c => match opds e a.toList, opds e c.toList with
    | some va, some vc => cVal H (some (.func fn va.toArray vc.toArray))
    | _, _ => none
  | .makeMap t none => some (.val (.map (some (al.getD H.next))) (H.alloc al (.map [])))
  | .makeSlice t l c => match P.underlying t, opd e l, opd e c with
    | some (.slice elem), some (.int _ a), some (.int _ b) => match szOf P elem, zeroOf P elem, bytOf P elem with
      | some s, some z, some by_ =>
        if 0 ≤ a ∧ a = b ∧ s = z.cells.size ∧ 0 < s ∧ (by_ : Int) * b ≤ 281474976710656 ∧ b ≤ 9223372036854775807 then
          cRow al H s a.toNat ((List.replicate a.toNat z.cells.toList).flatten)
        else none
      | _, _, _ => none
    | _, _, _ => none
  | .slice t x lo hi mx =>
    match opd e x, bnd e lo, bnd e hi, bnd e mx with
    | some v, some l, some h, some m => match P.underlying t with
      | some (.slice elem) => match szOf P elem with
        | some s => match v with
          | .slice _ _ _ => cVal H (sliceV H s v l h m)
          | _ => none
        | none => none
      | some .string => match v with
        | .string _ => cVal H (sliceV H 0 v l h m)
        | _ => none
      | _ => none
    | _, _, _, _ => none
  | .fieldAddr t x f => match P.underlying t, addrOf e x with
    | some (.struct fs), some l => match fs[f]? with
      | some g => match szOf P g.type with
        | some (_ + 1) => cAddr H l g.offset
        | _ => none
      | none => none
    | _, _ => none
  | .field t x f => match P.underlying t, opd e x with
    | some (.struct fs), some (.agg cs) => match fs[f]? with
      | some g => cVal H (partV P g.type cs.toList g.offset)
      | none => none
    | _, _ => none
  | .indexAddr t x ix => match P.underlying t, opd e ix with
    | some (.slice elem), some (.int _ i) => match szOf P elem, opd e x with
      | some s, some (.slice (some ⟨b, j, none⟩) m _) =>
        if 0 ≤ i ∧ i < m then cVal H (some (.pointer (some ⟨b, j + i.toNat * s, none⟩))) else none
      | _, _ => none
    | some (.array m elem), some (.int _ i) => match szOf P elem, addrOf e x with
      | some s, some l => if 0 ≤ i ∧ i < m then cAddr H l (i.toNat * s) else none
      | _, _ => none
    | _, _ => none
  | .index t x ix => match P.underlying t, opd e x, opd e ix with
    | some (.array m elem), some (.agg cs), some (.int _ i) => match szOf P elem with
      | some s => if 0 ≤ i ∧ i < m then cVal H (partV P elem cs.toList (i.toNat * s)) else none
      | none => none
    | some .string, some (.string s), some (.int _ i) =>
      if 0 ≤ i then match s[i.toNat]? with
        | some c => cVal H (some (.int .u8 c.toNat))
        | none => none
      else none
    | _, _, _ => none
  | .lookup t m k ok => match opd e m, opd e k with
    | some a, some b => cVal H (lookV P H t a b ok)
    | _, _ => none
  | .mapUpdate t m k x => match opd e m, opd e k, opd e x with
    | some a, some b, some v => match updV P H t a b v with
      | some H' => some (.skip none H')
      | none => none
    | _, _, _ => none
  | .extract x i => match opd e x with
    | some (.tuple vs) => cVal H vs[i]?
    | _ => none
  | .call c => match c.callee with
    | .builtin b => match b with
      | .len => match opds e c.args.toList, c.argTypes[0]? with
        | some [v], some t => cVal H (lenV P H t v)
        | _, _ => none
      | .append => match opds e c.args.toList, c.argTypes[0]?, c.argTypes[1]? with
        | some [x, y], some t, some t2 => match P.underlying t, P.underlying t2 with
          | some (.slice elem), some (.slice _) => match szOf P elem, bytOf P elem, zeroOf P elem with
            | some s, some by_, some z =>
              if s = z.cells.size ∧ 0 < s then
                match appV H al s by_ x y with
                | some (v, H') => some (.val v H')
                | none => none
              else none
            | _, _, _ => none
          | _, _ => none
        | _, _, _ => none
      | .copy => match opds e c.args.toList, c.argTypes[0]? with
        | some [x, y], some t => match P.underlying t with
          | some (.slice elem) => match szOf P elem with
            | some s => match copyV H s x y with
              | some (v, H') => some (.val v H')
              | none => none
            | none => none
          | _ => none
        | _, _ => none
      | .cap => match opds e c.args.toList, c.argTypes[0]? with
        | some [v], some t => cVal H (capV P t v)
        | _, _ => none
      | .max => match opds e c.args.toList with
        | some (.int k a :: vs) => cVal H (minmax true (.int k a) vs)
        | _ => none
      | .min => match opds e c.args.toList with
        | some (.int k a :: vs) => cVal H (minmax false (.int k a) vs)
        | _ => none
      | _ => none
    | _ => none
  | _ => none

/-- What an operation that is no call leaves. -/
def lop (P : Program) (n : Nat) (pr : List Nat) (al : Option Nat) (o : Oper) (e : Env) (H : LH) : Option (Env × LH) :=
  match lopC P pr al o.dst o.op e H with
  | some r => fin n e H o.dst r
  | none => none

end Go.Lg
