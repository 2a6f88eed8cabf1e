/- The abstract machine: its operations and its runner. -/
import Derived.Test.YtgjdmlhgapmflaaDoorGt
namespace Go.Proofs.YtgjdmlhgapmflaaDoor
set_option linter.unusedVariables false
set_option linter.unusedSimpArgs false

/-- more operations -/
inductive AOp2 where
  | bad
  | callM (f : FuncId) (args : List Operand)
  | callV (x : Operand) (args : List Operand)
  | mkfn (f : FuncId) (first caps : List Operand)
  | mkmap
  | mlook (z : AV) (ok : Bool) (x k : Operand)
  | mset (x k v : Operand)
  | mdel (x k : Operand)
  | mlen (x : Operand)
  | aeq (ne : Bool) (n : Nat) (offs : List (Nat × Nat)) (x y : Operand)
  | isnil (ne : Bool) (c : Value) (x : Operand)
  | cpy (sz : Nat) (x y : Operand)
  | nilchk (x : Operand)
  | appS (x y : Operand)
  | mkif (t : TypeId) (x : Operand)
  | ifeq (ne : Bool) (ts : List TypeId) (x y : Operand)
  | bx (n : Nat) (x : Operand)
  | allocR (zero : List Value) (offs : List (Nat × Nat))
  | storeR (n : Nat) (offs : List (Nat × Nat)) (a v : Operand)

inductive AOp where
  | x (o : AOp2)
  | mov (x : Operand)
  | nilrow (sz : Nat)
  | pick (c a b : Operand)
  | bin (op : BinOp) (x y : Operand)
  | beq (ne : Bool) (x y : Operand)
  | un (op : UnOp) (x : Operand)
  | cint (k : IntKind) (x : Operand)
  | cstr (x : Operand)
  | s2b (x : Operand)
  | b2s (x : Operand)
  | alloc (zero : List Value)
  | load (n : Nat) (ag : Bool) (a : Operand)
  | store (n : Nat) (a v : Operand)
  | faddr (off : Nat) (x : Operand)
  | fld (off n : Nat) (ag : Bool) (x : Operand)
  | iaddr (sz : Nat) (x i : Operand)
  | aaddr (cnt sz : Nat) (x i : Operand)
  | sidx (x i : Operand)
  | aidx (cnt sz : Nat) (ag : Bool) (x i : Operand)
  | len (x : Operand)
  | slen (x : Operand)
  | slc (sz : Nat) (x : Operand) (lo hi : Option Operand)
  | sslc (x : Operand) (lo hi : Option Operand)
  | app (sz bytes : Nat) (x y : Operand)
  | mks (sz : Nat) (zero : List Value) (ag : Bool) (bytes : Nat) (l c : Operand)
  | build (zero : List Value) (parts : List (Nat × Nat × Operand))
  | bslice (sz : Nat) (own : Bool) (zero : List Value) (ag : Bool) (cnt : Nat) (parts : List (Nat × Operand))
  | call (f : FuncId) (args : List Operand)
  | ext (x : Operand) (i : Nat)
  | mn (x : Operand) (ys : List Operand)
  | mx (x : Operand) (ys : List Operand)

structure AOper where
  dst : Option Nat
  op : AOp
  guard : Option (Nat × Bool)

inductive ACode where
  | skip
  | region (ops : List AOper) (drops : List Nat)
  | dregion (ops tail : List AOper) (drops : List Nat)
  | seq (a b : ACode)
  | cond (c : Operand) (a b : ACode)
  | block (id : Nat) (c : ACode)
  | loop (c : ACode) (keep : List Nat)
  | join (c : ACode) (keep : List Nat)
  | exit (id : Nat)
  | ret

inductive AExit where
  | normal
  | exit (id : Nat)
  | ret

structure St where
  fr : List (Nat × AV)
  m : List MObj

def look : List (Nat × AV) → Nat → AV
  | [], _ => .any
  | (k, v) :: r, s => if k = s then v else look r s
def setf (d : Nat) (v : AV) : List (Nat × AV) → List (Nat × AV)
  | [] => [(d, v)]
  | (k, u) :: r => if k = d then (d, v) :: r else (k, u) :: setf d v r
def putf (d : Option Nat) (v : AV) (fr : List (Nat × AV)) : List (Nat × AV) := match d with | some d => setf d v fr | none => fr

def AV.ofV : Value → AV
  | .agg cs => .agg (cs.toList.map .val)
  | v => .val v
def evA (fr : List (Nat × AV)) : Operand → AV
  | .tmp t => look fr t
  | .const v => AV.ofV v
  | .func f => .val (.func (.func f) #[] #[])
  | .global g => match GT g with | some l => .rptr l | none => .any
def valsOf : List AV → Option (List Value)
  | [] => some []
  | .val v :: r => (valsOf r).map (v :: ·)
  | _ => none
def AV.toVal : AV → Option Value
  | .val v => some v
  | .agg l => (valsOf l).map fun vs => .agg vs.toArray
  | _ => none
def AV.toI : AV → Option Int
  | .val (.int _ n) => some n
  | _ => none
/-- an index: an int that is not negative -/
def AV.toN (v : AV) : Option Nat := match v.toI with | some n => if 0 ≤ n then some n.toNat else none | none => none
def Sem.now {α : Type} : Sem α → Option α
  | .pure a => some a
  | _ => none

/-- the elements of a slice -/
def elems (m : List MObj) : AV → Option (List AV)
  | .slice _ l => some l
  | .val (.slice none 0 0) => some []
  | .row id ver used off len => match m[id]? with
    | some (.row v _ l _ _) => if v = ver ∧ l.length = used then some ((l.drop off).take len) else none
    | _ => none
  | _ => none
/-- the elements of a slice, of sz cells each -/
def elemsS (m : List MObj) (sz : Nat) : AV → Option (List AV)
  | .slice s l => if s = sz then some l else none
  | .val (.slice none 0 0) => some []
  | .row id ver used off len => match m[id]? with
    | some (.row v s l _ _) => if v = ver ∧ l.length = used ∧ s = sz then some ((l.drop off).take len) else none
    | _ => none
  | _ => none
/-- the cells that lie at an address -/
def cellsAt (m : List MObj) : AV → Option (List AV)
  | .rptr l => some l
  | .ptr id off => match m[id]? with
    | some (.box cs) => some (cs.drop off)
    | _ => none
  | .elt id ver used i fo => match m[id]? with
    | some (.row v _ l _ _) => if v = ver ∧ l.length = used then (l[i]?).map fun x => x.cells.drop fo else none
    | _ => none
  | _ => none
/-- n cells as a value -/
def mkV (n : Nat) (ag : Bool) (l : List AV) : Option AV :=
  if l.length < n then none else if ag then some (.agg (l.take n)) else match l with | x :: _ => (if n = 1 then some x else none) | [] => none

def binV : BinOp → Value → Value → Option Value
  | .shl, .int k a, .int yk b => Sem.now (Op.shift .shl k a yk b)
  | .shr, .int k a, .int yk b => Sem.now (Op.shift .shr k a yk b)
  | .add, .int k a, .int k' b => if k = k' then some (.int k (k.wrap (a + b))) else none
  | .sub, .int k a, .int k' b => if k = k' then some (.int k (k.wrap (a - b))) else none
  | .mul, .int k a, .int k' b => if k = k' then some (.int k (k.wrap (a * b))) else none
  | .quo, .int k a, .int k' b => if k = k' then (if b = 0 then none else some (.int k (k.wrap (a.tdiv b)))) else none
  | .rem, .int k a, .int k' b => if k = k' then (if b = 0 then none else some (.int k (a.tmod b))) else none
  | .eql, .int k a, .int k' b => if k = k' then some (.bool (a == b)) else none
  | .neq, .int k a, .int k' b => if k = k' then some (.bool (a != b)) else none
  | .lss, .int k a, .int k' b => if k = k' then some (.bool (decide (a < b))) else none
  | .leq, .int k a, .int k' b => if k = k' then some (.bool (decide (a ≤ b))) else none
  | .gtr, .int k a, .int k' b => if k = k' then some (.bool (decide (b < a))) else none
  | .geq, .int k a, .int k' b => if k = k' then some (.bool (decide (b ≤ a))) else none
  | .and, .int k a, .int k' b => if k = k' then Sem.now (Op.intBits .and k a b) else none
  | .or, .int k a, .int k' b => if k = k' then Sem.now (Op.intBits .or k a b) else none
  | .xor, .int k a, .int k' b => if k = k' then Sem.now (Op.intBits .xor k a b) else none
  | .andNot, .int k a, .int k' b => if k = k' then Sem.now (Op.intBits .andNot k a b) else none
  | .add, .string a, .string b => if a.size + b.size ≤ 9223372036854775807 then some (.string (a ++ b)) else none
  | .eql, .string a, .string b => some (.bool (a.toList == b.toList))
  | .neq, .string a, .string b => some (.bool (!(a.toList == b.toList)))
  | .lss, .string a, .string b => some (.bool (Op.bytesLess a.toList b.toList))
  | .leq, .string a, .string b => some (.bool (Op.bytesLess a.toList b.toList || a.toList == b.toList))
  | .gtr, .string a, .string b => some (.bool (!(Op.bytesLess a.toList b.toList || a.toList == b.toList)))
  | .geq, .string a, .string b => some (.bool (!Op.bytesLess a.toList b.toList))
  | _, _, _ => none

def lowOf (fr : List (Nat × AV)) : Option Operand → Option Nat
  | none => some 0
  | some x => (evA fr x).toN
def highOf (fr : List (Nat × AV)) (n : Nat) : Option Operand → Option Nat
  | none => some n
  | some x => (evA fr x).toN

/-- the parts of a value that is built -/
def fillA (fr : List (Nat × AV)) (cells : List AV) : List (Nat × Nat × Operand) → Option (List AV)
  | [] => some cells
  | (off, sz, x) :: r =>
    let cs := (evA fr x).cells
    if cs.length = sz ∧ off + sz ≤ cells.length ∧ cs.all AV.isCell then fillA fr (cells.take off ++ cs ++ cells.drop (off + sz)) r else none
def minI : Int → List AV → Option Int
  | a, [] => some a
  | a, v :: r => match v with | .val (.int _ b) => minI (if b < a then b else a) r | _ => none
def maxI : Int → List AV → Option Int
  | a, [] => some a
  | a, v :: r => match v with | .val (.int _ b) => maxI (if b > a then b else a) r | _ => none

def rowOk (m : List MObj) (id ver used : Nat) : Bool := match m[id]? with
  | some (.row v _ l _ _) => decide (v = ver ∧ l.length = used)
  | _ => false
/-- the address of a field -/
def faddrA (m : List MObj) (off : Nat) : AV → Option AV
  | .ptr id o => some (.ptr id (o + off))
  | .rptr l => some (.rptr (l.drop off))
  | .elt id ver used i fo => if rowOk m id ver used then some (.elt id ver used i (fo + off)) else none
  | _ => none
/-- the address of an element of a slice -/
def iaddrA (m : List MObj) (sz n : Nat) : AV → Option AV
  | .row id ver used off len => (match m[id]? with
    | some (.row v s l _ _) => if v = ver ∧ l.length = used ∧ n < len ∧ s = sz then some (.elt id ver used (off + n) 0) else none
    | _ => none)
  | .slice s l => (match l[n]? with
    | some e => if s = sz then some (.rptr e.cells) else none
    | none => none)
  | _ => none
/-- a part of a slice -/
def slcA (m : List MObj) (fr : List (Nat × AV)) (sz : Nat) (lo hi : Option Operand) : AV → Option AV
  | .slice s l => (match lowOf fr lo, highOf fr l.length hi with
    | some a, some b => if a ≤ b ∧ b ≤ l.length ∧ s = sz then some (.slice s ((l.take b).drop a)) else none
    | _, _ => none)
  | .row id ver used off len => (match m[id]? with
    | some (.row v s l _ _) => if v = ver ∧ l.length = used ∧ s = sz then (match lowOf fr lo, highOf fr len hi with
      | some a, some b => if a ≤ b ∧ b ≤ len then some (.row id ver used (off + a) (b - a)) else none
      | _, _ => none) else none
    | _ => none)
  | .val (.slice none 0 0) => (match lowOf fr lo, highOf fr 0 hi with
    | some a, some b => if a ≤ b ∧ b ≤ 0 then some (.val (.slice none 0 0)) else none
    | _, _ => none)
  | _ => none
def sslcA (fr : List (Nat × AV)) (lo hi : Option Operand) : AV → Option AV
  | .val (.string s) => (match lowOf fr lo, highOf fr s.size hi with
    | some a, some b => if a ≤ b ∧ b ≤ s.size then some (.val (.string (s.extract a b))) else none
    | _, _ => none)
  | _ => none
def sidxA (n : Nat) : AV → Option AV
  | .val (.string s) => (s[n]?).map fun b => .val (.int .u8 b.toNat)
  | _ => none
def lenA (m : List MObj) (v : AV) : Option AV := (elems m v).map fun l => .val (.int .i64 l.length)
def slenA : AV → Option AV
  | .val (.string s) => some (.val (.int .i64 s.size))
  | _ => none
def bytesL : List AV → Option (List UInt8)
  | [] => some []
  | .val (.int .u8 n) :: r => (bytesL r).map (UInt8.ofNat n.toNat :: ·)
  | _ => none
def vEq : Value → Value → Option Bool
  | .string a, .string b => some (decide (a.data.toList = b.data.toList))
  | .int k a, .int k' b => if k = k' then some (decide (a = b)) else none
  | .bool a, .bool b => some (decide (a = b))
  | _, _ => none
/-- where a key stands in a map -/
def findE (k : Value) : List (Value × AV) → Nat → Option (Option (Nat × AV))
  | [], _ => some none
  | (k', y) :: r, i => match vEq k k' with
    | some true => some (some (i, y))
    | some false => findE k r (i + 1)
    | none => none
def mapOf (m : List MObj) : AV → Option (List (Value × AV))
  | .mp id => (match m[id]? with | some (.mp es) => some es | _ => none)
  | .val (.map none) => some []
  | _ => none
def mlookA (m : List MObj) (z : AV) (ok : Bool) (x : AV) : AV → Option AV
  | .val (.string s) => (match mapOf m x with
    | some es => (match findE (.string s) es 0 with
      | some (some (_, y)) => some (if ok then .tuple [y, .val (.bool true)] else y)
      | some none => some (if ok then .tuple [z, .val (.bool false)] else z)
      | none => none)
    | none => none)
  | _ => none
/-- == on cells: 0 strings, 1 ints, 2 bools -/
def vEqT : Nat → Value → Value → Option Bool
  | 0, .string a, .string b => some (decide (a.data.toList = b.data.toList))
  | 1, .int k a, .int k' b => if k = k' then some (decide (a = b)) else none
  | 2, .bool a, .bool b => some (decide (a = b))
  | _, _, _ => none
/-- are the cells at some places equal? -/
def aeqL (x y : List AV) : List (Nat × Nat) → Option Bool
  | [] => some true
  | (o, k) :: r => match x[o]?, y[o]? with
    | some (.val a), some (.val b) => (match vEqT k a b with
      | some true => aeqL x y r
      | some false => some false
      | none => none)
    | _, _ => none
/-- is it nil? c: the nil value of its type -/
def isnilA : Value → AV → Option Bool
  | .pointer none, .ptr _ _ => some false
  | .pointer none, .rptr _ => some false
  | .pointer none, .val (.pointer none) => some true
  | .nilFunc, .fn .. => some false
  | .nilFunc, .val (.func _ _ _) => some false
  | .nilFunc, .val .nilFunc => some true
  | .map none, .mp _ => some false
  | .map none, .val (.map none) => some true
  | .nilIface, .val .nilIface => some true
  | .nilIface, .val (.iface _ _) => some false
  | .nilIface, .nif => some false
  | .slice none 0 0, .val (.slice none 0 0) => some true
  | _, _ => none
/-- are two interface values equal? ts: the types of ints that may be compared -/
def ifeqA (ts : List TypeId) : AV → AV → Option Bool
  | .val (.iface t (.int k a)), .val (.iface t' (.int k' b)) => if t = t' then (if ts.contains t ∧ k = k' then some (decide (a = b)) else none) else some false
  | .val .nilIface, .val (.iface _ _) => some false
  | .val (.iface _ _), .val .nilIface => some false
  | .val .nilIface, .nif => some false
  | .nif, .val .nilIface => some false
  | _, _ => none
def ifOf (t : TypeId) : AV → AV
  | .val v => .val (.iface t v)
  | _ => .nif
def pure2 (m : List MObj) (fr : List (Nat × AV)) : AOp2 → Option AV
  | .mkfn f first caps => some (.fn (.func f) (first.map (evA fr)) (caps.map (evA fr)))
  | .mlook z ok x k => mlookA m z ok (evA fr x) (evA fr k)
  | .mlen x => (mapOf m (evA fr x)).map fun es => .val (.int .i64 es.length)
  | .aeq ne n offs x y => (match evA fr x, evA fr y with
    | .agg l, .agg l' => if n ≤ l.length ∧ n ≤ l'.length then (aeqL l l' offs).map fun t => .val (.bool (if ne then !t else t)) else none
    | _, _ => none)
  | .nilchk x => (match evA fr x with
    | .ptr id off => some (.ptr id off)
    | .rptr l => some (.rptr l)
    | .fn (.func f) first caps => some (.fn (.func f) first caps)
    | _ => none)
  | .isnil ne c x => (isnilA c (evA fr x)).map fun t => .val (.bool (if ne then !t else t))
  | .mkif t x => some (ifOf t (evA fr x))
  | .ifeq ne ts x y => (ifeqA ts (evA fr x) (evA fr y)).map fun t => .val (.bool (if ne then !t else t))
  | _ => none
/-- operations that leave the memory alone -/
def pureOp (m : List MObj) (fr : List (Nat × AV)) : AOp → Option AV
  | .x o => pure2 m fr o
  | .mov x => some (evA fr x)
  | .pick c a b => match evA fr c with
    | .val (.bool t) => some (if t then evA fr a else evA fr b)
    | _ => none
  | .bin op x y => match (evA fr x).toVal, (evA fr y).toVal with
    | some a, some b => (binV op a b).map .val
    | _, _ => none
  | .beq ne x y => match evA fr x, evA fr y with
    | .val (.bool a), .val (.bool b) => some (.val (.bool (if ne then !(a == b) else (a == b))))
    | _, _ => none
  | .un op x => match evA fr x with
    | .val (.int k n) => (match op with | .not => none | op => (Sem.now (Op.unary op (.int k n))).map .val)
    | .val (.bool b) => (match op with | .not => some (.val (.bool (!b))) | _ => none)
    | _ => none
  | .cint k x => match evA fr x with
    | .val (.int _ n) => some (.val (.int k (k.wrap n)))
    | _ => none
  | .cstr x => match evA fr x with
    | .val (.string s) => some (.val (.string s))
    | _ => none
  | .load n ag a => (cellsAt m (evA fr a)).bind (mkV n ag)
  | .faddr off x => faddrA m off (evA fr x)
  | .fld off n ag x => match evA fr x with
    | .agg l => mkV n ag (l.drop off)
    | _ => none
  | .iaddr sz x i => match (evA fr i).toN with
    | some n => iaddrA m sz n (evA fr x)
    | none => none
  | .aaddr cnt sz x i => match (evA fr i).toN with
    | some n => if n < cnt then faddrA m (n * sz) (evA fr x) else none
    | none => none
  | .sidx x i => match (evA fr i).toN with
    | some n => sidxA n (evA fr x)
    | none => none
  | .aidx cnt sz ag x i => match (evA fr i).toN, evA fr x with
    | some n, .agg l => if n < cnt then mkV sz ag (l.drop (n * sz)) else none
    | _, _ => none
  | .len x => lenA m (evA fr x)
  | .slen x => slenA (evA fr x)
  | .slc sz x lo hi => slcA m fr sz lo hi (evA fr x)
  | .sslc x lo hi => sslcA fr lo hi (evA fr x)
  | .build zero parts => (fillA fr (zero.map .val) parts).map .agg
  | .ext x i => match evA fr x with
    | .tuple l => l[i]?
    | _ => none
  | .mn x ys => match evA fr x with
    | .val (.int k n) => (minI n (ys.map (evA fr))).map fun r => .val (.int k r)
    | _ => none
  | .mx x ys => match evA fr x with
    | .val (.int k n) => (maxI n (ys.map (evA fr))).map fun r => .val (.int k r)
    | _ => none
  | .b2s x => (elems m (evA fr x)).bind fun l => (bytesL l).map fun s => .val (.string ⟨s.toArray⟩)
  | _ => none

/-- a value without handles; rows are read -/
def frzCell (m : List MObj) : AV → Option AV
  | .row id ver used off len => (match m[id]? with
    | some (.row v s l _ _) => if v = ver ∧ l.length = used then some (.slice s ((l.drop off).take len)) else none
    | _ => none)
  | v => if v.grCell then some v else none
def frzCells (m : List MObj) : List AV → Option (List AV)
  | [] => some []
  | v :: r => match frzCell m v, frzCells m r with | some a, some b => some (a :: b) | _, _ => none
def frz (m : List MObj) : AV → Option AV
  | .agg l => (frzCells m l).map .agg
  | v => frzCell m v
def frzL (m : List MObj) : List AV → Option (List AV)
  | [] => some []
  | v :: r => match frz m v, frzL m r with | some a, some b => some (a :: b) | _, _ => none
/-- nothing of a value lies in memory -/
def AV.flatCell : AV → Bool
  | .val (.agg _) | .val (.tuple _) => false
  | .val _ => true
  | _ => false
def AV.flat : AV → Bool
  | .agg l => l.all AV.flatCell
  | v => v.flatCell
def AV.flatT : AV → Bool
  | .tuple l => l.all AV.flat
  | v => v.flat
/-- the rows of a value may only grow from now on -/
def shutCell (m : List MObj) : AV → List MObj
  | .row id _ _ _ _ => match m[id]? with
    | some (.row v s l _ ap) => m.set id (.row v s l false ap)
    | _ => m
  | _ => m
def shutV (m : List MObj) (v : AV) : List MObj := v.cells.foldl shutCell m

def zeroEl (zero : List Value) (ag : Bool) : AV := if ag then .agg (zero.map .val) else match zero with | [v] => .val v | _ => .any
def setAt (l : List AV) (i : Nat) (cs : List AV) : List AV := l.take i ++ cs ++ l.drop (i + cs.length)
def setEl (x : AV) (fo : Nat) (cs : List AV) : Option AV := match x with
  | .agg l => if fo + cs.length ≤ l.length then some (.agg (setAt l fo cs)) else none
  | _ => match cs with | [c] => if fo = 0 then some c else none | _ => none
/-- the bytes of a string as cells -/
def bcA (s : ByteArray) : List AV := s.data.toList.map fun b => .val (.int .u8 b.toNat)
/-- the elements of a slice that is built -/
def bsEls (fr : List (Nat × AV)) (m : List MObj) (sz : Nat) : List AV → List (Nat × Operand) → Option (List AV)
  | l, [] => some l
  | l, (i, x) :: r => match frz m (evA fr x) with
    | some v => if v.cells.length = sz ∧ i < l.length then bsEls fr m sz (l.set i v) r else none
    | none => none

structure CallF where
  f : FuncId → List AV → Option AV
  m : FuncId → List AV → List MObj → Option (AV × List MObj)

/-- what is called, with what stands ahead of and behind the arguments -/
def fnOf : AV → Option (FuncId × List AV × List AV)
  | .fn (.func f) first caps => some (f, first, caps)
  | .val (.func (.func f) a b) => if a.size = 0 ∧ b.size = 0 then some (f, [], []) else none
  | _ => none
def setKey (es : List (Value × AV)) (k : Value) (v : AV) : Option (List (Value × AV)) := match findE k es 0 with
  | some (some (i, _)) => some (es.set i (k, v))
  | some none => some (es ++ [(k, v)])
  | none => none
def delKey (es : List (Value × AV)) (k : Value) : Option (List (Value × AV)) := match findE k es 0 with
  | some (some (i, _)) => some (es.eraseIdx i)
  | some none => some es
  | none => none
def AV.storable : AV → Bool
  | .agg _ => true
  | x => x.isCell
/-- nil slices as new rows -/
def nilRows (n0 : Nat) : List (Nat × Nat) → List AV → List AV × List MObj
  | [], cs => (cs, [])
  | (o, sz) :: r, cs => match cs[o]? with
    | some (.val (.slice none 0 0)) => match nilRows (n0 + 1) r (cs.set o (.row n0 0 0 0 0)) with
      | (cs', os) => (cs', .row 0 sz [] true true :: os)
    | _ => nilRows n0 r cs
def stepOp2 (call : CallF) (st : St) (dst : Option Nat) : AOp2 → Option St
  | .callM f args => (call.m f (args.map (evA st.fr)) st.m).map fun r => ⟨putf dst r.1 st.fr, r.2⟩
  | .callV x args => (match fnOf (evA st.fr x) with
    | some (f, first, caps) => (call.m f (first ++ args.map (evA st.fr) ++ caps) st.m).map fun r => ⟨putf dst r.1 st.fr, r.2⟩
    | none => none)
  | .bx n x =>
    let cs := (evA st.fr x).cells
    if cs.length = n ∧ cs.all AV.isCell then some ⟨putf dst (.ptr st.m.length 0) st.fr, st.m ++ [.box cs]⟩ else none
  | .allocR zero offs => (match nilRows st.m.length offs (zero.map .val) with
    | (cs, os) => if cs.all AV.isCell then some ⟨putf dst (.ptr (st.m.length + os.length) 0) st.fr, st.m ++ os ++ [.box cs]⟩ else none)
  | .storeR n offs a v => (match nilRows st.m.length offs (evA st.fr v).cells with
    | (cs, os) => if (evA st.fr v).storable = true ∧ cs.length = n ∧ cs.all AV.isCell then
      (match evA st.fr a with
      | .ptr id off => (match (st.m ++ os)[id]? with
        | some (.box l) => if off + n ≤ l.length then some ⟨putf dst .any st.fr, (st.m ++ os).set id (.box (setAt l off cs))⟩ else none
        | _ => none)
      | _ => none) else none)
  | .mkmap => some ⟨putf dst (.mp st.m.length) st.fr, st.m ++ [.mp []]⟩
  | .appS x y => (match evA st.fr y with
    | .val (.string s) => (match evA st.fr x with
      | .val (.slice none 0 0) => if s.size ≤ 140737488355328 ∧ s.size ≤ maxLen then some ⟨putf dst (.row st.m.length 0 s.size 0 s.size) st.fr, st.m ++ [.row 0 1 (bcA s) true true]⟩ else none
      | .row id ver used off len => (match st.m[id]? with
        | some (.row v sz l wr ap) => if v = ver ∧ l.length = used ∧ off = 0 ∧ len = used ∧ sz = 1 ∧ ap ∧ used + s.size ≤ 140737488355328 ∧ used + s.size ≤ maxLen then
            some ⟨putf dst (.row id ver (used + s.size) 0 (used + s.size)) st.fr, st.m.set id (.row v sz (l ++ bcA s) wr ap)⟩ else none
        | _ => none)
      | _ => none)
    | _ => none)
  | .mset x k v => (match evA st.fr x, evA st.fr k, frz st.m (evA st.fr v) with
    | .mp id, .val (.string k), some g => (match (shutV st.m (evA st.fr v))[id]? with
      | some (.mp es) => if g.ground then (setKey es (.string k) g).map fun es' => ⟨putf dst .any st.fr, (shutV st.m (evA st.fr v)).set id (.mp es')⟩ else none
      | _ => none)
    | _, _, _ => none)
  | .mdel x k => (match evA st.fr x, evA st.fr k with
    | .mp id, .val (.string k) => (match st.m[id]? with
      | some (.mp es) => (delKey es (.string k)).map fun es' => ⟨putf dst .any st.fr, st.m.set id (.mp es')⟩
      | _ => none)
    | _, _ => none)
  | .cpy sz x y => (match evA st.fr x, elemsS st.m sz (evA st.fr y) with
    | .row id ver used off len, some ly => (match st.m[id]? with
      | some (.row v s l true ap) => if v = ver ∧ l.length = used ∧ s = sz then
          some ⟨putf dst (.val (.int .i64 (min ly.length len : Nat))) st.fr, st.m.set id (.row v s (setAt l off (ly.take (min ly.length len))) true ap)⟩ else none
      | _ => none)
    | _, _ => none)
  | o => (pure2 st.m st.fr o).map fun v => ⟨putf dst v st.fr, st.m⟩

def stepOp (call : CallF) (st : St) (dst : Option Nat) (o : AOp) : Option St :=
  match o with
  | .x o => stepOp2 call st dst o
  | .nilrow sz => some ⟨putf dst (.row st.m.length 0 0 0 0) st.fr, st.m ++ [.row 0 sz [] true true]⟩
  | .alloc zero => some ⟨putf dst (.ptr st.m.length 0) st.fr, st.m ++ [.box (zero.map .val)]⟩
  | .store n a v =>
    let cs := (evA st.fr v).cells
    if cs.length = n ∧ cs.all AV.isCell then
      match evA st.fr a with
      | .ptr id off => (match st.m[id]? with
        | some (.box l) => if off + n ≤ l.length then some ⟨putf dst .any st.fr, st.m.set id (.box (setAt l off cs))⟩ else none
        | _ => none)
      | .elt id ver used i fo => (match (cs.foldl shutCell st.m)[id]? with
        | some (.row v s l true ap) => if v = ver ∧ l.length = used then
            (match frzCells st.m cs, l[i]? with
            | some gs, some x => (setEl x fo gs).map fun x' => ⟨putf dst .any st.fr, (cs.foldl shutCell st.m).set id (.row v s (l.set i x') true ap)⟩
            | _, _ => none) else none
        | _ => none)
      | _ => none
    else none
  | .app sz bytes x y =>
    (match elemsS st.m sz (evA st.fr y) with
    | some ly =>
      (match evA st.fr x with
      | .val (.slice none 0 0) => if ly.length * bytes ≤ 140737488355328 ∧ ly.length ≤ maxLen then some ⟨putf dst (.row st.m.length 0 ly.length 0 ly.length) st.fr, st.m ++ [.row 0 sz ly true true]⟩ else none
      | .row id ver used off len => (match st.m[id]? with
        | some (.row v s l wr ap) => if v = ver ∧ l.length = used ∧ off = 0 ∧ len = used ∧ s = sz ∧ ap ∧ (used + ly.length) * bytes ≤ 140737488355328 ∧ used + ly.length ≤ maxLen then
            some ⟨putf dst (.row id ver (used + ly.length) 0 (used + ly.length)) st.fr, st.m.set id (.row v s (l ++ ly) wr ap)⟩ else none
        | _ => none)
      | _ => none)
    | none => none)
  | .mks sz zero ag bytes l c =>
    (match (evA st.fr l).toN, (evA st.fr c).toN with
    | some n, some k => if n = k ∧ n ≤ maxLen ∧ bytes * n ≤ 281474976710656 then some ⟨putf dst (.row st.m.length 0 n 0 n) st.fr, st.m ++ [.row 0 sz (List.replicate n (zeroEl zero ag)) true true]⟩ else none
    | _, _ => none)
  | .bslice sz own zero ag cnt parts =>
    (match bsEls st.fr st.m sz (List.replicate cnt (zeroEl zero ag)) parts with
    | some l => if own then some ⟨putf dst (.row st.m.length 0 cnt 0 cnt) st.fr, (parts.foldl (fun m p => shutV m (evA st.fr p.2)) st.m) ++ [.row 0 sz l true true]⟩
      else some ⟨putf dst (.slice sz l) st.fr, parts.foldl (fun m p => shutV m (evA st.fr p.2)) st.m⟩
    | none => none)
  | .s2b x => (match evA st.fr x with
    | .val (.string s) => some ⟨putf dst (.row st.m.length 0 s.size 0 s.size) st.fr, st.m ++ [.row 0 1 (s.data.toList.map fun b => .val (.int .u8 b.toNat)) true false]⟩
    | _ => none)
  | .call f args =>
    (match frzL st.m (args.map (evA st.fr)) with
    | some vs => (match call.f f vs with
      | some r => some ⟨putf dst r st.fr, if r.flatT then st.m else (args.map (evA st.fr)).foldl shutV st.m⟩
      | none => none)
    | none => none)
  | o => (pureOp st.m st.fr o).map fun v => ⟨putf dst v st.fr, st.m⟩

def wantedA (fr : List (Nat × AV)) : Option (Nat × Bool) → Option Bool
  | none => some true
  | some (s, b) => match look fr s with
    | .val (.bool c) => some (c == b)
    | .val (.tuple _) => some false
    | _ => none
def runOps (call : CallF) : List AOper → St → Option St
  | [], st => some st
  | o :: r, st => match wantedA st.fr o.guard with
    | some true => (match stepOp call st o.dst o.op with | some st' => runOps call r st' | none => none)
    | some false => runOps call r ⟨putf o.dst (.val undef) st.fr, st.m⟩
    | none => none

/-- an operation of a region that draws its order -/
def quietOp (call : CallF) (m : List MObj) (fr : List (Nat × AV)) : AOp → Option AV
  | .call f args => (match frzL m (args.map (evA fr)) with
    | some vs => (match call.f f vs with
      | some r => if r.toVal.isSome then some r else none
      | none => none)
    | none => none)
  | o => pureOp m fr o
def runQ (call : CallF) (m : List MObj) : List AOper → List (Nat × AV) → Option (List (Nat × AV))
  | [], fr => some fr
  | o :: r, fr => match wantedA fr o.guard with
    | some true => (match quietOp call m fr o.op with | some v => runQ call m r (putf o.dst v fr) | none => none)
    | some false => runQ call m r (putf o.dst (.val undef) fr)
    | none => none

def keepF (fr : List (Nat × AV)) : List Nat → List (Nat × AV)
  | [] => []
  | s :: r => (s, look fr s) :: keepF fr r
def AOp.isEff : AOp → Bool
  | .x _ | .nilrow _ | .alloc _ | .store .. | .app .. | .mks .. | .bslice .. | .s2b _ | .call .. => true
  | _ => false
def AV.noRow (v : AV) : Bool := v.cells.all fun | .row .. => false | _ => true
/-- an operation that only adds to the memory -/
def extOp (call : CallF) (m : List MObj) (fr : List (Nat × AV)) (o : AOp) : Option AV := match o with
  | .call f args => if (args.map (evA fr)).all AV.noRow then (frzL m (args.map (evA fr))).bind (call.f f) else none
  | .bslice sz false zero ag cnt parts => if parts.all (fun p => (evA fr p.2).noRow) then (bsEls fr m sz (List.replicate cnt (zeroEl zero ag)) parts).map (.slice sz) else none
  | .x o => pure2 m fr o
  | o => if o.isEff then none else pureOp m fr o
def opT : Operand → List Nat
  | .tmp t => [t]
  | _ => []
def opsT (l : List Operand) : List Nat := l.flatMap opT
def AOp2.uses : AOp2 → List Nat
  | .bad | .mkmap | .allocR .. => []
  | .callM _ l => opsT l
  | .callV x l => opsT (x :: l)
  | .mkfn _ a b => opsT (a ++ b)
  | .mlook _ _ x k => opsT [x, k]
  | .mset x k v => opsT [x, k, v]
  | .mdel x k => opsT [x, k]
  | .mlen x => opsT [x]
  | .aeq _ _ _ x y => opsT [x, y]
  | .isnil _ _ x => opsT [x]
  | .cpy _ x y => opsT [x, y]
  | .nilchk x => opsT [x]
  | .appS x y => opsT [x, y]
  | .mkif _ x => opsT [x]
  | .ifeq _ _ x y => opsT [x, y]
  | .bx _ x => opsT [x]
  | .storeR _ _ a v => opsT [a, v]
def AOp.uses : AOp → List Nat
  | .x o => o.uses
  | .nilrow _ | .alloc _ => []
  | .mov z | .un _ z | .cint _ z | .cstr z | .s2b z | .b2s z | .load _ _ z | .faddr _ z | .fld _ _ _ z | .len z | .slen z | .ext z _ => opsT [z]
  | .pick c a b => opsT [c, a, b]
  | .bin _ z y | .beq _ z y | .store _ z y | .iaddr _ z y | .aaddr _ _ z y | .sidx z y | .aidx _ _ _ z y | .app _ _ z y => opsT [z, y]
  | .slc _ z lo hi | .sslc z lo hi => opsT (z :: (lo.toList ++ hi.toList))
  | .mks _ _ _ _ l c => opsT [l, c]
  | .build _ parts => opsT (parts.map fun p => p.2.2)
  | .bslice _ _ _ _ _ parts => opsT (parts.map fun p => p.2)
  | .call _ l => opsT l
  | .mn z ys | .mx z ys => opsT (z :: ys)
/-- the slots that an operation reads -/
def AOper.uses (o : AOper) : List Nat := (match o.guard with | some (s, _) => [s] | none => []) ++ o.op.uses
/-- what an operation puts into its slot -/
def oneX (call : CallF) (m : List MObj) (fr : List (Nat × AV)) (o : AOper) : Option AV := match wantedA fr o.guard with
  | some true => extOp call m fr o.op
  | some false => some (.val undef)
  | none => none
/-- the operations one after the other, each with the slots that it reads alone -/
def runX (call : CallF) (m : List MObj) : List AOper → List (Nat × AV) → Option (List (Nat × AV))
  | [], fr => some fr
  | o :: r, fr => match oneX call m (keepF fr o.uses) o with
    | some v => runX call m r (putf o.dst v fr)
    | none => none
def dropF (ds : List Nat) : List (Nat × AV) → List (Nat × AV)
  | [] => []
  | (k, v) :: r => if ds.contains k then dropF ds r else (k, v) :: dropF ds r
def AV.refB (n : Nat) : AV → Nat
  | .row id _ _ _ _ => id + 1
  | .ptr id _ => id + 1
  | .elt id _ _ _ _ => id + 1
  | .mp id => id + 1
  | .val _ | .slice _ _ | .rptr _ | .any | .nif => 0
  | _ => n
def maxRefB (n : Nat) : List AV → Nat
  | [] => 0
  | v :: r => max (v.refB n) (maxRefB n r)
def AV.refCell (n : Nat) : AV → Nat
  | .fn _ a b => max (maxRefB n a) (maxRefB n b)
  | v => v.refB n
def maxRef (n : Nat) : List AV → Nat
  | [] => 0
  | v :: r => max (v.refCell n) (maxRef n r)
def AV.ref (n : Nat) : AV → Nat
  | .agg l => maxRef n l
  | .tuple l => maxRef n (l.flatMap AV.cells)
  | v => v.refCell n
def MObj.ref (n : Nat) : MObj → Nat
  | .box cs => maxRef n cs
  | _ => 0
def frRef (n : Nat) : List (Nat × AV) → Nat
  | [] => 0
  | p :: r => max (p.2.ref n) (frRef n r)
def mRef (n : Nat) : List MObj → Nat
  | [] => 0
  | o :: r => max (o.ref n) (mRef n r)
/-- the objects at the end that nobody names are let go -/
def gc (b : Nat) (fr : List (Nat × AV)) (m : List MObj) : List MObj := m.take (max b (max (frRef m.length fr) (mRef m.length m)))
def normSt (b : Nat) (keep : List Nat) (st : St) : St := let fr := keepF st.fr keep; ⟨fr, gc b fr st.m⟩

abbrev LoopF := ACode → List Nat → St → Option (AExit × St)
def aexec (call : CallF) (base : Nat) (loop : LoopF) : ACode → St → Option (AExit × St)
  | .skip, st => some (.normal, st)
  | .region ops drops, st => match runOps call ops st with
    | some st' => some (.normal, ⟨dropF drops st'.fr, st'.m⟩)
    | none => none
  | .dregion ops tail drops, st => match runX call st.m ops st.fr with
    | some fr => (match runOps call tail ⟨fr, st.m⟩ with
      | some st' => some (.normal, ⟨dropF drops st'.fr, st'.m⟩)
      | none => none)
    | none => none
  | .seq a b, st => match aexec call base loop a st with
    | some (.normal, st') => aexec call base loop b st'
    | r => r
  | .cond c a b, st => match evA st.fr c with
    | .val (.bool true) => aexec call base loop a st
    | .val (.bool false) => aexec call base loop b st
    | _ => none
  | .block id c, st => match aexec call base loop c st with
    | some (.exit i, st') => if i = id then some (.normal, st') else some (.exit i, st')
    | r => r
  | .loop c keep, st => loop c keep st
  | .join c keep, st => match aexec call base loop c st with
    | some (.normal, st') => some (.normal, normSt base keep st')
    | r => r
  | .exit id, st => some (.exit id, st)
  | .ret, st => some (.ret, st)

inductive ARes where
  | tmp (t : Nat) (offs : List (Nat × Nat))
  | cell (t : Nat) (n : Nat) (ag : Bool) (offs : List (Nat × Nat))
structure AFunc where
  params : Nat
  ntmps : Nat
  results : List ARes
  body : ACode

/-- nil slices as empty ones -/
def nilCell (sz : Nat) : AV → AV
  | .val (.slice none 0 0) => .slice sz []
  | v => v
def nilCells : List (Nat × Nat) → List AV → List AV
  | [], l => l
  | (o, sz) :: r, l => match l[o]? with
    | some x => nilCells r (l.set o (nilCell sz x))
    | none => nilCells r l
def nilN (offs : List (Nat × Nat)) : AV → AV
  | .agg l => .agg (nilCells offs l)
  | v => match offs with
    | [(0, sz)] => nilCell sz v
    | _ => v
def resOf (st : St) : ARes → Option AV
  | .tmp t offs => (frz st.m (look st.fr t)).map (nilN offs)
  | .cell t n ag offs => (((cellsAt st.m (look st.fr t)).bind (mkV n ag)).bind (frz st.m)).map (nilN offs)
def resL (st : St) : List ARes → Option (List AV)
  | [] => some []
  | x :: r => match resOf st x, resL st r with | some a, some b => some (a :: b) | _, _ => none
def mkRes : List AV → AV
  | [v] => v
  | l => .tuple l
def enterF (params : Nat) : Nat → List AV → List (Nat × AV)
  | _, [] => []
  | i, v :: r => (i, v) :: enterF params (i + 1) r

def runBody (call : CallF) (loop : LoopF) (fn : AFunc) (args : List AV) : Option AV :=
  if args.length = fn.params then
    match aexec call 0 loop fn.body ⟨enterF fn.params 0 args, []⟩ with
    | some (.normal, st) | some (.ret, st) => (resL st fn.results).map mkRes
    | _ => none
  else none
/-- results that may name objects -/
def resOfM (st : St) : ARes → Option AV
  | .tmp t _ => some (look st.fr t)
  | .cell t n ag _ => (cellsAt st.m (look st.fr t)).bind (mkV n ag)
def resLM (st : St) : List ARes → Option (List AV)
  | [] => some []
  | x :: r => match resOfM st x, resLM st r with | some a, some b => some (a :: b) | _, _ => none
def runBodyM (call : CallF) (loop : LoopF) (fn : AFunc) (args : List AV) (m : List MObj) : Option (AV × List MObj) :=
  if args.length = fn.params then
    match aexec call m.length loop fn.body ⟨enterF fn.params 0 args, m⟩ with
    | some (.normal, st) | some (.ret, st) => (resLM st fn.results).map fun l => (mkRes l, st.m)
    | _ => none
  else none

/-- the rounds of a loop, with so many rounds and calls; b: how many objects there were at the function's entry -/
def loopK (call : CallF) (b : Nat) : Nat → LoopF
  | 0, _, _, _ => none
  | n + 1, c, keep, st => match aexec call b (loopK call b n) c (normSt b keep st) with
    | some (.normal, st') => loopK call b n c keep st'
    | r => r
def runF (F : FuncId → Option AFunc) (X : CallF) : Nat → CallF
  | 0 => ⟨fun _ _ => none, fun _ _ _ => none⟩
  | n + 1 => ⟨fun f args => match F f with
      | some fn => runBody (runF F X n) (loopK (runF F X n) 0 n) fn args
      | none => X.f f args,
    fun f args m => match F f with
      | some fn => runBodyM (runF F X n) (loopK (runF F X n) m.length n) fn args m
      | none => X.m f args m⟩
end Go.Proofs.YtgjdmlhgapmflaaDoor
