/- Regions that draw their order: what is to be checked of them. -/
import Derived.StillTail
import Derived.Test.YtgjdmlhgapmflaaDoorAm15
namespace Go.Proofs.YtgjdmlhgapmflaaDoor
set_option linter.unusedVariables false
set_option linter.unusedSimpArgs false
/-- every slot is written once, and who reads it waits for its writer or comes before it -/
def slotB (md : Region.Mode) (ops : Array Oper) (al : List AOper) (n : Nat) : Bool :=
  (List.range n).all fun i => (List.range n).all fun j => (i == j) || match al[i]?, al[j]? with
    | some oi, some oj => (match oj.dst with
      | some t => oi.dst != some t && (!(oi.uses.contains t) || (decide (j < i) && Region.waitsFor md ops i j) || (decide (i < j) && Region.waitsFor md ops j i))
      | none => true)
    | _, _ => false
/-- an operation waits for earlier ones alone -/
def backB (md : Region.Mode) (ops : Array Oper) (n : Nat) : Bool :=
  (List.range n).all fun i => match ops[i]? with
    | some o => o.after.all fun e => !(Region.binds md e) || decide (e.on < i)
    | none => false
def fillB (size n : Nat) : Array Bool := ((List.range size).map fun i => decide (i < n)).toArray
def xB (md : Region.Mode) (ops : Array Oper) (al : List AOper) (n : Nat) : Bool :=
  decide (n ≤ ops.size) && decide (al.length = n) && slotB md ops al n && backB md ops n && (decide (n = ops.size) || (Region.sinkB md ops n && Region.chainB md ops n)) && Region.seqB md ops (ops.size - n) n (fillB ops.size n)
end Go.Proofs.YtgjdmlhgapmflaaDoor
