/- The abstract machine: how code is turned into its own: which slots live on, which literals are rows. What is chosen here needs no proof. -/
import Derived.Test.YtgjdmlhgapmflaaDoorAm18
namespace Go.Proofs.YtgjdmlhgapmflaaDoor
set_option linter.unusedVariables false
set_option linter.unusedSimpArgs false

def insL (x : Nat) : List Nat → List Nat
  | [] => [x]
  | y :: r => if x ≤ y then x :: y :: r else y :: insL x r
def sortL (l : List Nat) : List Nat := l.foldr insL []
def tmpsOf (xs : List Operand) : List Nat := xs.filterMap fun | .tmp t => some t | _ => none
def opReads (ops : Array Oper) (o : Oper) : List Nat := tmpsOf o.op.operands.toList ++ (match o.guard with | some (j, _) => ((ops[j]?).bind (·.dst)).toList | none => [])
def addL (l : List Nat) (x : Nat) : List Nat := if l.contains x then l else l ++ [x]
def unionL (l k : List Nat) : List Nat := k.foldl addL l
def regUE (ops : Array Oper) : List Nat := (ops.toList.foldl (fun (s : List Nat × List Nat) o => ((opReads ops o).foldl (fun u t => if s.2.contains t then u else addL u t) s.1, s.2 ++ o.dst.toList)) ([], [])).1
def regDsts (ops : Array Oper) : List Nat := ops.toList.filterMap (·.dst)
def regAll (ops : Array Oper) : List Nat := ops.toList.foldl (fun l o => unionL (unionL l (opReads ops o)) o.dst.toList) []
def lvE (ex : List (Nat × List Nat)) (id : Nat) : List Nat := assocL ex id
def lv (res : List Nat) : Code → List Nat → List (Nat × List Nat) → List Nat
  | .region _ ops _, out, _ => unionL (regUE ops) (out.filter fun s => !(regDsts ops).contains s)
  | .seq a b, out, ex => lv res a (lv res b out ex) ex
  | .cond c a b, out, ex => unionL (unionL (tmpsOf [c]) (lv res a out ex)) (lv res b out ex)
  | .block id c, out, ex => lv res c out ((id, out) :: ex)
  | .loop c, _, ex => lv res c [] ex
  | .scope c, out, ex => lv res c out ex
  | .exit id, _, ex => lvE ex id
  | .ret, _, _ => res
  | _, out, _ => out
structure Joins where
  c : List (Nat × List Nat) := []
  b : List (Nat × List Nat) := []
  s : List (Nat × List Nat) := []
  r : List (Nat × List Nat) := []
def Joins.app (x y : Joins) : Joins := ⟨x.c ++ y.c, x.b ++ y.b, x.s ++ y.s, x.r ++ y.r⟩
def isCond : Code → Bool
  | .cond .. => true
  | _ => false
/-- the slots that are kept where ways meet: behind a choice, behind a block -/
def joinsC (res : List Nat) : Code → List Nat → List (Nat × List Nat) → Joins
  | .region id ops _, out, _ => if ops.toList.any (fun o => o.guard.isSome) then { r := [(id, sortL out)] } else {}
  | .seq a b, out, ex =>
    let la := lv res b out ex
    let x := joinsC res a la ex
    let y := joinsC res b out ex
    if isCond b then
      let x := match a with | .region .. => { x with r := [] } | _ => x
      match firstR a with
      | some k => ({ s := [(k, sortL (unionL out (assocL x.s k)))] } : Joins).app (x.app y)
      | none => x.app y
    else x.app y
  | .cond _ a b, out, ex =>
    let x := joinsC res a out ex
    let y := joinsC res b out ex
    match (firstR a).orElse fun _ => firstR b with
    | some k => ({ c := [(k, sortL (unionL (unionL out (assocL x.c k)) (assocL y.c k)))] } : Joins).app (x.app y)
    | none => x.app y
  | .block id c, out, ex => ({ b := [(id, sortL out)] } : Joins).app (joinsC res c out ((id, out) :: ex))
  | .loop c, _, ex => joinsC res c (lv res c [] ex) ex
  | .scope c, out, ex => joinsC res c out ex
  | _, _, _ => {}
/-- the slots to let go behind each region, those to keep at each loop's head -/
def hintsC (res : List Nat) : Code → List Nat → List (Nat × List Nat) → List (Nat × List Nat) × List (Nat × List Nat)
  | .region id ops _, out, _ => ([(id, (regAll ops).filter fun s => !out.contains s)], [])
  | .seq a b, out, ex =>
    let x := hintsC res a (lv res b out ex) ex
    let y := hintsC res b out ex
    (x.1 ++ y.1, x.2 ++ y.2)
  | .cond _ a b, out, ex =>
    let x := hintsC res a out ex
    let y := hintsC res b out ex
    (x.1 ++ y.1, x.2 ++ y.2)
  | .block id c, out, ex => hintsC res c out ((id, out) :: ex)
  | .loop c, _, ex =>
    let l := lv res c [] ex
    let x := hintsC res c l ex
    (x.1, (firstId c, sortL l) :: x.2)
  | .scope c, out, ex => hintsC res c out ex
  | _, _, _ => ([], [])
def regionsOf : Code → List (Nat × Array Oper × Bool)
  | .region id ops d => [(id, ops, d)]
  | .seq a b => regionsOf a ++ regionsOf b
  | .cond _ a b => regionsOf a ++ regionsOf b
  | .block _ c => regionsOf c
  | .loop c => regionsOf c
  | .scope c => regionsOf c
  | _ => []
def isAppend (o : Oper) : Option (Operand × Operand) := match o.op with
  | .call ⟨.builtin .append, args, _⟩ => match args.toList with | [x, y] => some (x, y) | _ => none
  | _ => none
def backVars (ops : Array Oper) (t : Nat) : List Nat := t :: (ops.toList.flatMap fun p => match p.dst, p.op with | some d, .move (.tmp s) => if d = t then [s] else [] | _, _ => [])
/-- the variables onto which something is appended in a region, and those that are handed to a function that works on its caller's memory -/
def appVars (ms : List Nat) (ops : Array Oper) : List Nat := ops.toList.flatMap fun o => match isAppend o with
  | some (.tmp t, _) => backVars ops t
  | _ => match o.op with
    | .call ⟨.value (.func f), args, _⟩ => if ms.contains f then (tmpsOf args.toList).flatMap (backVars ops) else []
    | _ => []
def rowHints (ms : List Nat) (c : Code) : List Nat :=
  let rs := regionsOf c
  let av := rs.flatMap fun r => appVars ms r.2.1
  rs.flatMap fun r => r.2.1.toList.filterMap fun o => match o.dst, o.op with
    | some d, .assign (.const (.slice none 0 0)) => if av.contains d then some d else none
    | some d, .buildSlice .. => if r.2.1.toList.any (fun p => match isAppend p with | some (_, .tmp t) => t == d | _ => false) then none else some d
    | _, _ => none
def effOp (ms rows : List Nat) (o : Oper) : Bool := match o.op with
  | .store .. | .alloc _ | .makeSlice .. | .mapUpdate .. | .makeMap .. | .box .. => true
  | .buildSlice .. => (match o.dst with | some d => rows.contains d | none => false)
  | .call ⟨.builtin .append, _, _⟩ | .call ⟨.builtin .copy, _, _⟩ | .call ⟨.builtin .delete, _, _⟩ => true
  | .call ⟨.value (.func f), _, _⟩ => ms.contains f
  | .call ⟨.value _, _, _⟩ => true
  | _ => false
/-- how many operations of a region that draws come ahead of its tail -/
def tailOf (ms rows : List Nat) (ops : Array Oper) : Option Nat := (List.range (ops.size + 1)).reverse.find? fun n =>
  (ops.toList.take n).all (fun o => !effOp ms rows o) && backB .any ops n && (decide (n = ops.size) || (Region.sinkB .any ops n && Region.chainB .any ops n)) && Region.seqB .any ops (ops.size - n) n (fillB ops.size n)
/-- is something appended to what lies in a variable's cell, or are there functions in it? -/
def boxApp (c : Code) : Bool :=
  let ops := (regionsOf c).flatMap fun r => r.2.1.toList
  ops.any fun (o : Oper) => match o.op with
    | .makeFunc .. => true
    | .call ⟨.builtin .append, args, _⟩ => (match (args.toList.head? : Option Operand) with
      | some (Operand.tmp t) => ops.any fun (p : Oper) => p.dst == some t && (match p.op with | .load .. => true | _ => false)
      | _ => false)
    | _ => false
def hintsOf (ms : List Nat) (fn : Func) : Hints := match fn.body with
  | some c =>
    let ms := if boxApp c then 1000000 :: ms else ms
    let res := fn.results.toList.map fun | .tmp t => t | .cell t _ => t
    let h := hintsC res c res []
    let js := joinsC res c res []
    ⟨ms, rowHints ms c, h.1, h.2, js.c, js.b, js.s, js.r, (regionsOf c).filterMap fun r => if r.2.2 then (tailOf ms (rowHints ms c) r.2.1).map fun n => (r.1, n) else none⟩
  | none => ⟨[], [], [], [], [], [], [], [], []⟩
def comp (P : Program) (ms : List Nat) (f : FuncId) : Option AFunc := match P.funcs[f]? with
  | some fn => compFunc P (hintsOf ms fn) f
  | none => none

theorem comp_ok {P : Program} {ms : List Nat} {f : FuncId} {af : AFunc} (h : comp P ms f = some af) : ∃ hn, compFunc P hn f = some af := by
  unfold comp at h
  split at h
  · exact ⟨_, h⟩
  · cases h
end Go.Proofs.YtgjdmlhgapmflaaDoor
