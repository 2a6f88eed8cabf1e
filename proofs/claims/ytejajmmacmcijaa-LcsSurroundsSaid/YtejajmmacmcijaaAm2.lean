/- The abstract machine: its operations and its runner. -/
import Derived.Test.YtejajmmacmcijaaAm1
namespace Go.Proofs.Ytejajmmacmcijaa

inductive AOp where
  | mov (x : Operand)
  | nilrow (sz : Nat)
  | pick (c a b : Operand)
  | bin (op : BinOp) (x y : Operand)
  | beq (ne : Bool) (x y : Operand)
  | un (op : UnOp) (x : Operand)
  | cint (k : IntKind) (x : Operand)
  | cstr (x : Operand)
  | s2b (x : Operand)
  | b2s (x : Operand)
  | alloc (zero : List Value)
  | load (n : Nat) (ag : Bool) (a : Operand)
  | store (n : Nat) (a v : Operand)
  | faddr (off : Nat) (x : Operand)
  | fld (off n : Nat) (ag : Bool) (x : Operand)
  | iaddr (sz : Nat) (x i : Operand)
  | aaddr (cnt sz : Nat) (x i : Operand)
  | sidx (x i : Operand)
  | aidx (cnt sz : Nat) (ag : Bool) (x i : Operand)
  | len (x : Operand)
  | slen (x : Operand)
  | slc (sz : Nat) (x : Operand) (lo hi : Option Operand)
  | sslc (x : Operand) (lo hi : Option Operand)
  | app (sz bytes : Nat) (x y : Operand)
  | mks (sz : Nat) (zero : List Value) (ag : Bool) (bytes : Nat) (l c : Operand)
  | build (zero : List Value) (parts : List (Nat × Nat × Operand))
  | bslice (sz : Nat) (own : Bool) (zero : List Value) (ag : Bool) (cnt : Nat) (parts : List (Nat × Operand))
  | call (f : FuncId) (args : List Operand)
  | ext (x : Operand) (i : Nat)
  | mn (x : Operand) (ys : List Operand)
  | mx (x : Operand) (ys : List Operand)

structure AOper where
  dst : Option Nat
  op : AOp
  guard : Option (Nat × Bool)

inductive ACode where
  | skip
  | region (ops : List AOper) (drops : List Nat)
  | dregion (ops tail : List AOper) (drops : List Nat)
  | seq (a b : ACode)
  | cond (c : Operand) (a b : ACode)
  | block (id : Nat) (c : ACode)
  | loop (c : ACode) (keep : List Nat)
  | exit (id : Nat)
  | ret

inductive AExit where
  | normal
  | exit (id : Nat)
  | ret

structure St where
  fr : List (Nat × AV)
  m : List MObj

def look : List (Nat × AV) → Nat → AV
  | [], _ => .any
  | (k, v) :: r, s => if k = s then v else look r s
def setf (d : Nat) (v : AV) : List (Nat × AV) → List (Nat × AV)
  | [] => [(d, v)]
  | (k, u) :: r => if k = d then (d, v) :: r else (k, u) :: setf d v r
def putf (d : Option Nat) (v : AV) (fr : List (Nat × AV)) : List (Nat × AV) := match d with | some d => setf d v fr | none => fr

def AV.ofV : Value → AV
  | .agg cs => .agg (cs.toList.map .val)
  | v => .val v
def evA (fr : List (Nat × AV)) : Operand → AV
  | .tmp t => look fr t
  | .const v => AV.ofV v
  | .func f => .val (.func (.func f) #[] #[])
  | .global _ => .any
def valsOf : List AV → Option (List Value)
  | [] => some []
  | .val v :: r => (valsOf r).map (v :: ·)
  | _ => none
def AV.toVal : AV → Option Value
  | .val v => some v
  | .agg l => (valsOf l).map fun vs => .agg vs.toArray
  | _ => none
def AV.toI : AV → Option Int
  | .val (.int _ n) => some n
  | _ => none
/-- an index: an int that is not negative -/
def AV.toN (v : AV) : Option Nat := match v.toI with | some n => if 0 ≤ n then some n.toNat else none | none => none
def Sem.now {α : Type} : Sem α → Option α
  | .pure a => some a
  | _ => none

/-- the elements of a slice -/
def elems (m : List MObj) : AV → Option (List AV)
  | .slice _ l => some l
  | .val (.slice none 0 0) => some []
  | .row id ver used off len => match m[id]? with
    | some (.row v _ l _ _) => if v = ver ∧ l.length = used then some ((l.drop off).take len) else none
    | _ => none
  | _ => none
/-- the elements of a slice, of sz cells each -/
def elemsS (m : List MObj) (sz : Nat) : AV → Option (List AV)
  | .slice s l => if s = sz then some l else none
  | .val (.slice none 0 0) => some []
  | .row id ver used off len => match m[id]? with
    | some (.row v s l _ _) => if v = ver ∧ l.length = used ∧ s = sz then some ((l.drop off).take len) else none
    | _ => none
  | _ => none
/-- the cells that lie at an address -/
def cellsAt (m : List MObj) : AV → Option (List AV)
  | .rptr l => some l
  | .ptr id off => match m[id]? with
    | some (.box cs) => some (cs.drop off)
    | _ => none
  | .elt id ver used i fo => match m[id]? with
    | some (.row v _ l _ _) => if v = ver ∧ l.length = used then (l[i]?).map fun x => x.cells.drop fo else none
    | _ => none
  | _ => none
/-- n cells as a value -/
def mkV (n : Nat) (ag : Bool) (l : List AV) : Option AV :=
  if l.length < n then none else if ag then some (.agg (l.take n)) else match l with | x :: _ => (if n = 1 then some x else none) | [] => none

def binV : BinOp → Value → Value → Option Value
  | .shl, .int k a, .int yk b => Sem.now (Op.shift .shl k a yk b)
  | .shr, .int k a, .int yk b => Sem.now (Op.shift .shr k a yk b)
  | .add, .int k a, .int k' b => if k = k' then some (.int k (k.wrap (a + b))) else none
  | .sub, .int k a, .int k' b => if k = k' then some (.int k (k.wrap (a - b))) else none
  | .mul, .int k a, .int k' b => if k = k' then some (.int k (k.wrap (a * b))) else none
  | .quo, .int k a, .int k' b => if k = k' then (if b = 0 then none else some (.int k (k.wrap (a.tdiv b)))) else none
  | .rem, .int k a, .int k' b => if k = k' then (if b = 0 then none else some (.int k (a.tmod b))) else none
  | .eql, .int k a, .int k' b => if k = k' then some (.bool (a == b)) else none
  | .neq, .int k a, .int k' b => if k = k' then some (.bool (a != b)) else none
  | .lss, .int k a, .int k' b => if k = k' then some (.bool (decide (a < b))) else none
  | .leq, .int k a, .int k' b => if k = k' then some (.bool (decide (a ≤ b))) else none
  | .gtr, .int k a, .int k' b => if k = k' then some (.bool (decide (b < a))) else none
  | .geq, .int k a, .int k' b => if k = k' then some (.bool (decide (b ≤ a))) else none
  | .and, .int k a, .int k' b => if k = k' then Sem.now (Op.intBits .and k a b) else none
  | .or, .int k a, .int k' b => if k = k' then Sem.now (Op.intBits .or k a b) else none
  | .xor, .int k a, .int k' b => if k = k' then Sem.now (Op.intBits .xor k a b) else none
  | .andNot, .int k a, .int k' b => if k = k' then Sem.now (Op.intBits .andNot k a b) else none
  | .add, .string a, .string b => if a.size + b.size ≤ 9223372036854775807 then some (.string (a ++ b)) else none
  | .eql, .string a, .string b => some (.bool (a.toList == b.toList))
  | .neq, .string a, .string b => some (.bool (!(a.toList == b.toList)))
  | .lss, .string a, .string b => some (.bool (Op.bytesLess a.toList b.toList))
  | .leq, .string a, .string b => some (.bool (Op.bytesLess a.toList b.toList || a.toList == b.toList))
  | .gtr, .string a, .string b => some (.bool (!(Op.bytesLess a.toList b.toList || a.toList == b.toList)))
  | .geq, .string a, .string b => some (.bool (!Op.bytesLess a.toList b.toList))
  | _, _, _ => none

def lowOf (fr : List (Nat × AV)) : Option Operand → Option Nat
  | none => some 0
  | some x => (evA fr x).toN
def highOf (fr : List (Nat × AV)) (n : Nat) : Option Operand → Option Nat
  | none => some n
  | some x => (evA fr x).toN

/-- the parts of a value that is built -/
def fillA (fr : List (Nat × AV)) (cells : List AV) : List (Nat × Nat × Operand) → Option (List AV)
  | [] => some cells
  | (off, sz, x) :: r =>
    let cs := (evA fr x).cells
    if cs.length = sz ∧ off + sz ≤ cells.length ∧ cs.all AV.isCell then fillA fr (cells.take off ++ cs ++ cells.drop (off + sz)) r else none
def minI : Int → List AV → Option Int
  | a, [] => some a
  | a, v :: r => match v with | .val (.int _ b) => minI (if b < a then b else a) r | _ => none
def maxI : Int → List AV → Option Int
  | a, [] => some a
  | a, v :: r => match v with | .val (.int _ b) => maxI (if b > a then b else a) r | _ => none

def rowOk (m : List MObj) (id ver used : Nat) : Bool := match m[id]? with
  | some (.row v _ l _ _) => decide (v = ver ∧ l.length = used)
  | _ => false
/-- the address of a field -/
def faddrA (m : List MObj) (off : Nat) : AV → Option AV
  | .ptr id o => some (.ptr id (o + off))
  | .rptr l => some (.rptr (l.drop off))
  | .elt id ver used i fo => if rowOk m id ver used then some (.elt id ver used i (fo + off)) else none
  | _ => none
/-- the address of an element of a slice -/
def iaddrA (m : List MObj) (sz n : Nat) : AV → Option AV
  | .row id ver used off len => (match m[id]? with
    | some (.row v s l _ _) => if v = ver ∧ l.length = used ∧ n < len ∧ s = sz then some (.elt id ver used (off + n) 0) else none
    | _ => none)
  | .slice s l => (match l[n]? with
    | some e => if s = sz then some (.rptr e.cells) else none
    | none => none)
  | _ => none
/-- a part of a slice -/
def slcA (m : List MObj) (fr : List (Nat × AV)) (sz : Nat) (lo hi : Option Operand) : AV → Option AV
  | .slice s l => (match lowOf fr lo, highOf fr l.length hi with
    | some a, some b => if a ≤ b ∧ b ≤ l.length ∧ s = sz then some (.slice s ((l.take b).drop a)) else none
    | _, _ => none)
  | .row id ver used off len => (match m[id]? with
    | some (.row v s l _ _) => if v = ver ∧ l.length = used ∧ s = sz then (match lowOf fr lo, highOf fr len hi with
      | some a, some b => if a ≤ b ∧ b ≤ len then some (.row id ver used (off + a) (b - a)) else none
      | _, _ => none) else none
    | _ => none)
  | _ => none
def sslcA (fr : List (Nat × AV)) (lo hi : Option Operand) : AV → Option AV
  | .val (.string s) => (match lowOf fr lo, highOf fr s.size hi with
    | some a, some b => if a ≤ b ∧ b ≤ s.size then some (.val (.string (s.extract a b))) else none
    | _, _ => none)
  | _ => none
def sidxA (n : Nat) : AV → Option AV
  | .val (.string s) => (s[n]?).map fun b => .val (.int .u8 b.toNat)
  | _ => none
def lenA (m : List MObj) (v : AV) : Option AV := (elems m v).map fun l => .val (.int .i64 l.length)
def slenA : AV → Option AV
  | .val (.string s) => some (.val (.int .i64 s.size))
  | _ => none
def bytesL : List AV → Option (List UInt8)
  | [] => some []
  | .val (.int .u8 n) :: r => (bytesL r).map (UInt8.ofNat n.toNat :: ·)
  | _ => none
/-- operations that leave the memory alone -/
def pureOp (m : List MObj) (fr : List (Nat × AV)) : AOp → Option AV
  | .mov x => some (evA fr x)
  | .pick c a b => match evA fr c with
    | .val (.bool t) => some (if t then evA fr a else evA fr b)
    | _ => none
  | .bin op x y => match (evA fr x).toVal, (evA fr y).toVal with
    | some a, some b => (binV op a b).map .val
    | _, _ => none
  | .beq ne x y => match evA fr x, evA fr y with
    | .val (.bool a), .val (.bool b) => some (.val (.bool (if ne then !(a == b) else (a == b))))
    | _, _ => none
  | .un op x => match evA fr x with
    | .val (.int k n) => (match op with | .not => none | op => (Sem.now (Op.unary op (.int k n))).map .val)
    | .val (.bool b) => (match op with | .not => some (.val (.bool (!b))) | _ => none)
    | _ => none
  | .cint k x => match evA fr x with
    | .val (.int _ n) => some (.val (.int k (k.wrap n)))
    | _ => none
  | .cstr x => match evA fr x with
    | .val (.string s) => some (.val (.string s))
    | _ => none
  | .load n ag a => (cellsAt m (evA fr a)).bind (mkV n ag)
  | .faddr off x => faddrA m off (evA fr x)
  | .fld off n ag x => match evA fr x with
    | .agg l => mkV n ag (l.drop off)
    | _ => none
  | .iaddr sz x i => match (evA fr i).toN with
    | some n => iaddrA m sz n (evA fr x)
    | none => none
  | .aaddr cnt sz x i => match (evA fr i).toN with
    | some n => if n < cnt then faddrA m (n * sz) (evA fr x) else none
    | none => none
  | .sidx x i => match (evA fr i).toN with
    | some n => sidxA n (evA fr x)
    | none => none
  | .aidx cnt sz ag x i => match (evA fr i).toN, evA fr x with
    | some n, .agg l => if n < cnt then mkV sz ag (l.drop (n * sz)) else none
    | _, _ => none
  | .len x => lenA m (evA fr x)
  | .slen x => slenA (evA fr x)
  | .slc sz x lo hi => slcA m fr sz lo hi (evA fr x)
  | .sslc x lo hi => sslcA fr lo hi (evA fr x)
  | .build zero parts => (fillA fr (zero.map .val) parts).map .agg
  | .ext x i => match evA fr x with
    | .tuple l => l[i]?
    | _ => none
  | .mn x ys => match evA fr x with
    | .val (.int k n) => (minI n (ys.map (evA fr))).map fun r => .val (.int k r)
    | _ => none
  | .mx x ys => match evA fr x with
    | .val (.int k n) => (maxI n (ys.map (evA fr))).map fun r => .val (.int k r)
    | _ => none
  | .b2s x => (elems m (evA fr x)).bind fun l => (bytesL l).map fun s => .val (.string ⟨s.toArray⟩)
  | _ => none

/-- a value without handles; rows are read -/
def frzCell (m : List MObj) : AV → Option AV
  | .row id ver used off len => (match m[id]? with
    | some (.row v s l _ _) => if v = ver ∧ l.length = used then some (.slice s ((l.drop off).take len)) else none
    | _ => none)
  | v => if v.grCell then some v else none
def frzCells (m : List MObj) : List AV → Option (List AV)
  | [] => some []
  | v :: r => match frzCell m v, frzCells m r with | some a, some b => some (a :: b) | _, _ => none
def frz (m : List MObj) : AV → Option AV
  | .agg l => (frzCells m l).map .agg
  | v => frzCell m v
def frzL (m : List MObj) : List AV → Option (List AV)
  | [] => some []
  | v :: r => match frz m v, frzL m r with | some a, some b => some (a :: b) | _, _ => none
/-- nothing of a value lies in memory -/
def AV.flatCell : AV → Bool
  | .val (.agg _) | .val (.tuple _) => false
  | .val _ => true
  | _ => false
def AV.flat : AV → Bool
  | .agg l => l.all AV.flatCell
  | v => v.flatCell
def AV.flatT : AV → Bool
  | .tuple l => l.all AV.flat
  | v => v.flat
/-- the rows of a value may only grow from now on -/
def shutCell (m : List MObj) : AV → List MObj
  | .row id _ _ _ _ => match m[id]? with
    | some (.row v s l _ ap) => m.set id (.row v s l false ap)
    | _ => m
  | _ => m
def shutV (m : List MObj) (v : AV) : List MObj := v.cells.foldl shutCell m

def zeroEl (zero : List Value) (ag : Bool) : AV := if ag then .agg (zero.map .val) else match zero with | [v] => .val v | _ => .any
def setAt (l : List AV) (i : Nat) (cs : List AV) : List AV := l.take i ++ cs ++ l.drop (i + cs.length)
def setEl (x : AV) (fo : Nat) (cs : List AV) : Option AV := match x with
  | .agg l => if fo + cs.length ≤ l.length then some (.agg (setAt l fo cs)) else none
  | _ => match cs with | [c] => if fo = 0 then some c else none | _ => none
/-- the elements of a slice that is built -/
def bsEls (fr : List (Nat × AV)) (m : List MObj) (sz : Nat) : List AV → List (Nat × Operand) → Option (List AV)
  | l, [] => some l
  | l, (i, x) :: r => match frz m (evA fr x) with
    | some v => if v.cells.length = sz ∧ i < l.length then bsEls fr m sz (l.set i v) r else none
    | none => none

abbrev CallF := FuncId → List AV → Option AV

def stepOp (call : CallF) (st : St) (dst : Option Nat) (o : AOp) : Option St :=
  match o with
  | .nilrow sz => some ⟨putf dst (.row st.m.length 0 0 0 0) st.fr, st.m ++ [.row 0 sz [] true true]⟩
  | .alloc zero => some ⟨putf dst (.ptr st.m.length 0) st.fr, st.m ++ [.box (zero.map .val)]⟩
  | .store n a v =>
    let cs := (evA st.fr v).cells
    if cs.length = n ∧ cs.all AV.isCell then
      match evA st.fr a with
      | .ptr id off => (match st.m[id]? with
        | some (.box l) => if off + n ≤ l.length then some ⟨putf dst .any st.fr, st.m.set id (.box (setAt l off cs))⟩ else none
        | _ => none)
      | .elt id ver used i fo => (match (cs.foldl shutCell st.m)[id]? with
        | some (.row v s l true ap) => if v = ver ∧ l.length = used then
            (match frzCells st.m cs, l[i]? with
            | some gs, some x => (setEl x fo gs).map fun x' => ⟨putf dst .any st.fr, (cs.foldl shutCell st.m).set id (.row v s (l.set i x') true ap)⟩
            | _, _ => none) else none
        | _ => none)
      | _ => none
    else none
  | .app sz bytes x y =>
    (match elemsS st.m sz (evA st.fr y) with
    | some ly =>
      (match evA st.fr x with
      | .val (.slice none 0 0) => if ly.length * bytes ≤ 140737488355328 ∧ ly.length ≤ maxLen then some ⟨putf dst (.row st.m.length 0 ly.length 0 ly.length) st.fr, st.m ++ [.row 0 sz ly true true]⟩ else none
      | .row id ver used off len => (match st.m[id]? with
        | some (.row v s l wr ap) => if v = ver ∧ l.length = used ∧ off = 0 ∧ len = used ∧ s = sz ∧ ap ∧ (used + ly.length) * bytes ≤ 140737488355328 ∧ used + ly.length ≤ maxLen then
            some ⟨putf dst (.row id ver (used + ly.length) 0 (used + ly.length)) st.fr, st.m.set id (.row v s (l ++ ly) wr ap)⟩ else none
        | _ => none)
      | _ => none)
    | none => none)
  | .mks sz zero ag bytes l c =>
    (match (evA st.fr l).toN, (evA st.fr c).toN with
    | some n, some k => if n = k ∧ n ≤ maxLen ∧ bytes * n ≤ 281474976710656 then some ⟨putf dst (.row st.m.length 0 n 0 n) st.fr, st.m ++ [.row 0 sz (List.replicate n (zeroEl zero ag)) true true]⟩ else none
    | _, _ => none)
  | .bslice sz own zero ag cnt parts =>
    (match bsEls st.fr st.m sz (List.replicate cnt (zeroEl zero ag)) parts with
    | some l => if own then some ⟨putf dst (.row st.m.length 0 cnt 0 cnt) st.fr, (parts.foldl (fun m p => shutV m (evA st.fr p.2)) st.m) ++ [.row 0 sz l true true]⟩
      else some ⟨putf dst (.slice sz l) st.fr, parts.foldl (fun m p => shutV m (evA st.fr p.2)) st.m⟩
    | none => none)
  | .s2b x => (match evA st.fr x with
    | .val (.string s) => some ⟨putf dst (.row st.m.length 0 s.size 0 s.size) st.fr, st.m ++ [.row 0 1 (s.data.toList.map fun b => .val (.int .u8 b.toNat)) true false]⟩
    | _ => none)
  | .call f args =>
    (match frzL st.m (args.map (evA st.fr)) with
    | some vs => (match call f vs with
      | some r => some ⟨putf dst r st.fr, if r.flatT then st.m else (args.map (evA st.fr)).foldl shutV st.m⟩
      | none => none)
    | none => none)
  | o => (pureOp st.m st.fr o).map fun v => ⟨putf dst v st.fr, st.m⟩

def wantedA (fr : List (Nat × AV)) : Option (Nat × Bool) → Option Bool
  | none => some true
  | some (s, b) => match look fr s with
    | .val (.bool c) => some (c == b)
    | _ => none
def runOps (call : CallF) : List AOper → St → Option St
  | [], st => some st
  | o :: r, st => match wantedA st.fr o.guard with
    | some true => (match stepOp call st o.dst o.op with | some st' => runOps call r st' | none => none)
    | some false => runOps call r ⟨putf o.dst (.val undef) st.fr, st.m⟩
    | none => none

/-- an operation of a region that draws its order -/
def quietOp (call : CallF) (m : List MObj) (fr : List (Nat × AV)) : AOp → Option AV
  | .call f args => (match frzL m (args.map (evA fr)) with
    | some vs => (match call f vs with
      | some r => if r.toVal.isSome then some r else none
      | none => none)
    | none => none)
  | o => pureOp m fr o
def runQ (call : CallF) (m : List MObj) : List AOper → List (Nat × AV) → Option (List (Nat × AV))
  | [], fr => some fr
  | o :: r, fr => match wantedA fr o.guard with
    | some true => (match quietOp call m fr o.op with | some v => runQ call m r (putf o.dst v fr) | none => none)
    | some false => runQ call m r (putf o.dst (.val undef) fr)
    | none => none

def dropF (ds : List Nat) : List (Nat × AV) → List (Nat × AV)
  | [] => []
  | (k, v) :: r => if ds.contains k then dropF ds r else (k, v) :: dropF ds r
def keepF (fr : List (Nat × AV)) : List Nat → List (Nat × AV)
  | [] => []
  | s :: r => (s, look fr s) :: keepF fr r
def AV.refCell (n : Nat) : AV → Nat
  | .row id _ _ _ _ => id + 1
  | .ptr id _ => id + 1
  | .elt id _ _ _ _ => id + 1
  | .mp id => id + 1
  | .val _ | .slice _ _ | .rptr _ | .any => 0
  | _ => n
def maxRef (n : Nat) : List AV → Nat
  | [] => 0
  | v :: r => max (v.refCell n) (maxRef n r)
def AV.ref (n : Nat) : AV → Nat
  | .agg l => maxRef n l
  | .tuple l => maxRef n (l.flatMap AV.cells)
  | v => v.refCell n
def MObj.ref (n : Nat) : MObj → Nat
  | .box cs => maxRef n cs
  | _ => 0
def frRef (n : Nat) : List (Nat × AV) → Nat
  | [] => 0
  | p :: r => max (p.2.ref n) (frRef n r)
def mRef (n : Nat) : List MObj → Nat
  | [] => 0
  | o :: r => max (o.ref n) (mRef n r)
/-- the objects at the end that nobody names are let go -/
def gc (fr : List (Nat × AV)) (m : List MObj) : List MObj := m.take (max (frRef m.length fr) (mRef m.length m))
def normSt (keep : List Nat) (st : St) : St := let fr := keepF st.fr keep; ⟨fr, gc fr st.m⟩

abbrev LoopF := ACode → List Nat → St → Option (AExit × St)
def aexec (call : CallF) (loop : LoopF) : ACode → St → Option (AExit × St)
  | .skip, st => some (.normal, st)
  | .region ops drops, st => match runOps call ops st with
    | some st' => some (.normal, ⟨dropF drops st'.fr, st'.m⟩)
    | none => none
  | .dregion ops tail drops, st => match runQ call st.m ops st.fr with
    | some fr => (match runOps call tail ⟨fr, st.m⟩ with
      | some st' => some (.normal, ⟨dropF drops st'.fr, st'.m⟩)
      | none => none)
    | none => none
  | .seq a b, st => match aexec call loop a st with
    | some (.normal, st') => aexec call loop b st'
    | r => r
  | .cond c a b, st => match evA st.fr c with
    | .val (.bool true) => aexec call loop a st
    | .val (.bool false) => aexec call loop b st
    | _ => none
  | .block id c, st => match aexec call loop c st with
    | some (.exit i, st') => if i = id then some (.normal, st') else some (.exit i, st')
    | r => r
  | .loop c keep, st => loop c keep (normSt keep st)
  | .exit id, st => some (.exit id, st)
  | .ret, st => some (.ret, st)

inductive ARes where
  | tmp (t : Nat)
  | cell (t : Nat) (n : Nat) (ag : Bool)
structure AFunc where
  params : Nat
  ntmps : Nat
  results : List ARes
  body : ACode

def resOf (st : St) : ARes → Option AV
  | .tmp t => frz st.m (look st.fr t)
  | .cell t n ag => ((cellsAt st.m (look st.fr t)).bind (mkV n ag)).bind (frz st.m)
def resL (st : St) : List ARes → Option (List AV)
  | [] => some []
  | x :: r => match resOf st x, resL st r with | some a, some b => some (a :: b) | _, _ => none
def mkRes : List AV → AV
  | [v] => v
  | l => .tuple l
def enterF (params : Nat) : Nat → List AV → List (Nat × AV)
  | _, [] => []
  | i, v :: r => (i, v) :: enterF params (i + 1) r

def runBody (call : CallF) (loop : LoopF) (fn : AFunc) (args : List AV) : Option AV :=
  if args.length = fn.params then
    match aexec call loop fn.body ⟨enterF fn.params 0 args, []⟩ with
    | some (.normal, st) | some (.ret, st) => (resL st fn.results).map mkRes
    | _ => none
  else none

mutual
def runF (F : FuncId → Option AFunc) (X : CallF) : Nat → CallF
  | 0, _, _ => none
  | n + 1, f, args => match F f with
    | some fn => runBody (runF F X n) (loopN F X n) fn args
    | none => X f args
def loopN (F : FuncId → Option AFunc) (X : CallF) : Nat → LoopF
  | 0, _, _, _ => none
  | n + 1, c, keep, st => match aexec (runF F X n) (loopN F X n) c st with
    | some (.normal, st') => loopN F X n c keep (normSt keep st')
    | r => r
end
end Go.Proofs.Ytejajmmacmcijaa
