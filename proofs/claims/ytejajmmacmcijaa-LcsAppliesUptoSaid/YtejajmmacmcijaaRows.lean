/-
  No cell of these rows narrows 'for every input' (looked for: loops, veiled, ifaces, maps, wideKeys, modest, calm, conditions, laid).
  DERIVED. THE GIVEN ROWS OF THIS SEAT. 10 by the template 'for every input the law returns true; each argument reads behind the call as it read before'; 0 by the template 'total and deterministic' (their statements: YtejajmmacmcijaaTotals.lean).
  GIVEN WITH THE SEED: the statements are not yours to turn. If you find one false, say at which input.
  Laid BY PROGRAM, IN A SANDBOX (cutbox-rows.mjs): the forced cells as the released guide's own fill.sh prints them over the translation a71e14a5f0684e3d… (all of the seat's roots in one cut). By AI agents, Wed Nov 11 2026. No macro, syntax, notation, axiom, sorry.
-/
import Derived.Test.YtejajmmacmcijaaChecked
import GoSem.Claim
import GoSem.ClaimJoined
import GoSem.ClaimMapViews
import Derived.JoinedTies
import Derived.KernelRfl
namespace Go.Proofs.Ytejajmmacmcijaa
/- THE CELL 'sum', in the pinned program and in every row, IS THE sha256 OF THE DUMP (.gsa) THAT YtejajmmacmcijaaProg.lean LOADS. Nothing in Lean hashes anything: it is a label: what it is worth is what the hold of that sum in a sandbox is worth. -/
noncomputable def Try.pinned : Pinned := { name := "ytejajmmacmcijaa", sum := "a71e14a5f0684e3dc2d98331c6823f42551bfac0c89595ecb20d14e7de980ccf", checked := Try.checked }
namespace Rows
def none {H : Type} : Left H := { results := [], args := [] }

/-- 'texttoolslaw45.ArraysKeep': WHATEVER THE INPUT: true; the input reads as it did. -/
def arraysKeepSpec : ChangeSpec := { name := "arraysKeep", fn := fun _ => fun
  | [d1, d2, d3, d4] => { results := [.lit (.bool true)], args := [d1, d2, d3, d4] }
  | _ => none }
def arraysKeepRow : OpenClaim := { program := "ytejajmmacmcijaa", sum := "a71e14a5f0684e3dc2d98331c6823f42551bfac0c89595ecb20d14e7de980ccf", func := "texttools/texttoolslaw45.ArraysKeep", spec := "arraysKeep", apart := false }
def ArraysKeepSaid : Prop := arraysKeepRow.holds Try.pinned (OpenSpec.ofChange arraysKeepSpec)

/-- ITS FALSE NEIGHBOUR: 'it returns false'. Refute it at one input. -/
def arraysKeepWrong : ChangeSpec := { name := "arraysKeep", fn := fun _ => fun
  | [d1, d2, d3, d4] => { results := [.lit (.bool false)], args := [d1, d2, d3, d4] }
  | _ => none }
def ArraysKeepWrongFalsely : Prop := arraysKeepRow.holds Try.pinned (OpenSpec.ofChange arraysKeepWrong)

/-- 'texttoolslaw45.ArraysBounds': WHATEVER THE INPUT: true; the input reads as it did. -/
def arraysBoundsSpec : ChangeSpec := { name := "arraysBounds", fn := fun _ => fun
  | [d1, d2] => { results := [.lit (.bool true)], args := [d1, d2] }
  | _ => none }
def arraysBoundsRow : OpenClaim := { program := "ytejajmmacmcijaa", sum := "a71e14a5f0684e3dc2d98331c6823f42551bfac0c89595ecb20d14e7de980ccf", func := "texttools/texttoolslaw45.ArraysBounds", spec := "arraysBounds", apart := false }
def ArraysBoundsSaid : Prop := arraysBoundsRow.holds Try.pinned (OpenSpec.ofChange arraysBoundsSpec)

/-- ITS FALSE NEIGHBOUR: 'it returns false'. Refute it at one input. -/
def arraysBoundsWrong : ChangeSpec := { name := "arraysBounds", fn := fun _ => fun
  | [d1, d2] => { results := [.lit (.bool false)], args := [d1, d2] }
  | _ => none }
def ArraysBoundsWrongFalsely : Prop := arraysBoundsRow.holds Try.pinned (OpenSpec.ofChange arraysBoundsWrong)

/-- 'texttoolslaw32.LcsScripts': WHATEVER THE INPUT: true; the input reads as it did. -/
def lcsScriptsSpec : ChangeSpec := { name := "lcsScripts", fn := fun _ => fun
  | [d1, d2] => { results := [.lit (.bool true)], args := [d1, d2] }
  | _ => none }
def lcsScriptsRow : OpenClaim := { program := "ytejajmmacmcijaa", sum := "a71e14a5f0684e3dc2d98331c6823f42551bfac0c89595ecb20d14e7de980ccf", func := "texttools/texttoolslaw32.LcsScripts", spec := "lcsScripts", unfollowed := true, recurses := true, apart := false }
def LcsScriptsSaid : Prop := lcsScriptsRow.holds Try.pinned (OpenSpec.ofChange lcsScriptsSpec)

/-- ITS FALSE NEIGHBOUR: 'it returns false'. Refute it at one input. -/
def lcsScriptsWrong : ChangeSpec := { name := "lcsScripts", fn := fun _ => fun
  | [d1, d2] => { results := [.lit (.bool false)], args := [d1, d2] }
  | _ => none }
def LcsScriptsWrongFalsely : Prop := lcsScriptsRow.holds Try.pinned (OpenSpec.ofChange lcsScriptsWrong)

/-- 'texttoolslaw32.LcsChecks': WHATEVER THE INPUT: true; the input reads as it did. -/
def lcsChecksSpec : ChangeSpec := { name := "lcsChecks", fn := fun _ => fun
  | [d1, d2, d3] => { results := [.lit (.bool true)], args := [d1, d2, d3] }
  | _ => none }
def lcsChecksRow : OpenClaim := { program := "ytejajmmacmcijaa", sum := "a71e14a5f0684e3dc2d98331c6823f42551bfac0c89595ecb20d14e7de980ccf", func := "texttools/texttoolslaw32.LcsChecks", spec := "lcsChecks", unfollowed := true, recurses := true, apart := false }
def LcsChecksSaid : Prop := lcsChecksRow.holds Try.pinned (OpenSpec.ofChange lcsChecksSpec)

/-- ITS FALSE NEIGHBOUR: 'it returns false'. Refute it at one input. -/
def lcsChecksWrong : ChangeSpec := { name := "lcsChecks", fn := fun _ => fun
  | [d1, d2, d3] => { results := [.lit (.bool false)], args := [d1, d2, d3] }
  | _ => none }
def LcsChecksWrongFalsely : Prop := lcsChecksRow.holds Try.pinned (OpenSpec.ofChange lcsChecksWrong)

/-- 'texttoolslaw32.LcsShortest': WHATEVER THE INPUT: true; the input reads as it did. -/
def lcsShortestSpec : ChangeSpec := { name := "lcsShortest", fn := fun _ => fun
  | [d1, d2, d3] => { results := [.lit (.bool true)], args := [d1, d2, d3] }
  | _ => none }
def lcsShortestRow : OpenClaim := { program := "ytejajmmacmcijaa", sum := "a71e14a5f0684e3dc2d98331c6823f42551bfac0c89595ecb20d14e7de980ccf", func := "texttools/texttoolslaw32.LcsShortest", spec := "lcsShortest", unfollowed := true, recurses := true, apart := false }
def LcsShortestSaid : Prop := lcsShortestRow.holds Try.pinned (OpenSpec.ofChange lcsShortestSpec)

/-- ITS FALSE NEIGHBOUR: 'it returns false'. Refute it at one input. -/
def lcsShortestWrong : ChangeSpec := { name := "lcsShortest", fn := fun _ => fun
  | [d1, d2, d3] => { results := [.lit (.bool false)], args := [d1, d2, d3] }
  | _ => none }
def LcsShortestWrongFalsely : Prop := lcsShortestRow.holds Try.pinned (OpenSpec.ofChange lcsShortestWrong)

/-- 'texttoolslaw32.LcsApplies': WHATEVER THE INPUT: true; the input reads as it did. -/
def lcsAppliesSpec : ChangeSpec := { name := "lcsApplies", fn := fun _ => fun
  | [d1, d2, d3] => { results := [.lit (.bool true)], args := [d1, d2, d3] }
  | _ => none }
def lcsAppliesRow : OpenClaim := { program := "ytejajmmacmcijaa", sum := "a71e14a5f0684e3dc2d98331c6823f42551bfac0c89595ecb20d14e7de980ccf", func := "texttools/texttoolslaw32.LcsApplies", spec := "lcsApplies", unfollowed := true, recurses := true, apart := false }
def LcsAppliesSaid : Prop := lcsAppliesRow.holds Try.pinned (OpenSpec.ofChange lcsAppliesSpec)

/-- ITS FALSE NEIGHBOUR: 'it returns false'. Refute it at one input. -/
def lcsAppliesWrong : ChangeSpec := { name := "lcsApplies", fn := fun _ => fun
  | [d1, d2, d3] => { results := [.lit (.bool false)], args := [d1, d2, d3] }
  | _ => none }
def LcsAppliesWrongFalsely : Prop := lcsAppliesRow.holds Try.pinned (OpenSpec.ofChange lcsAppliesWrong)

/-- 'texttoolslaw32.LcsMetric': WHATEVER THE INPUT: true; the input reads as it did. -/
def lcsMetricSpec : ChangeSpec := { name := "lcsMetric", fn := fun _ => fun
  | [d1, d2, d3] => { results := [.lit (.bool true)], args := [d1, d2, d3] }
  | _ => none }
def lcsMetricRow : OpenClaim := { program := "ytejajmmacmcijaa", sum := "a71e14a5f0684e3dc2d98331c6823f42551bfac0c89595ecb20d14e7de980ccf", func := "texttools/texttoolslaw32.LcsMetric", spec := "lcsMetric", unfollowed := true, recurses := true, apart := false }
def LcsMetricSaid : Prop := lcsMetricRow.holds Try.pinned (OpenSpec.ofChange lcsMetricSpec)

/-- ITS FALSE NEIGHBOUR: 'it returns false'. Refute it at one input. -/
def lcsMetricWrong : ChangeSpec := { name := "lcsMetric", fn := fun _ => fun
  | [d1, d2, d3] => { results := [.lit (.bool false)], args := [d1, d2, d3] }
  | _ => none }
def LcsMetricWrongFalsely : Prop := lcsMetricRow.holds Try.pinned (OpenSpec.ofChange lcsMetricWrong)

/-- 'texttoolslaw32.LcsSurrounds': WHATEVER THE INPUT: true; the input reads as it did. -/
def lcsSurroundsSpec : ChangeSpec := { name := "lcsSurrounds", fn := fun _ => fun
  | [d1, d2, d3] => { results := [.lit (.bool true)], args := [d1, d2, d3] }
  | _ => none }
def lcsSurroundsRow : OpenClaim := { program := "ytejajmmacmcijaa", sum := "a71e14a5f0684e3dc2d98331c6823f42551bfac0c89595ecb20d14e7de980ccf", func := "texttools/texttoolslaw32.LcsSurrounds", spec := "lcsSurrounds", unfollowed := true, recurses := true, apart := false }
def LcsSurroundsSaid : Prop := lcsSurroundsRow.holds Try.pinned (OpenSpec.ofChange lcsSurroundsSpec)

/-- ITS FALSE NEIGHBOUR: 'it returns false'. Refute it at one input. -/
def lcsSurroundsWrong : ChangeSpec := { name := "lcsSurrounds", fn := fun _ => fun
  | [d1, d2, d3] => { results := [.lit (.bool false)], args := [d1, d2, d3] }
  | _ => none }
def LcsSurroundsWrongFalsely : Prop := lcsSurroundsRow.holds Try.pinned (OpenSpec.ofChange lcsSurroundsWrong)

/-- 'texttoolslaw45.ArraysPlays': WHATEVER THE INPUT: true; the input reads as it did. -/
def arraysPlaysSpec : ChangeSpec := { name := "arraysPlays", fn := fun _ => fun
  | [d1, d2] => { results := [.lit (.bool true)], args := [d1, d2] }
  | _ => none }
def arraysPlaysRow : OpenClaim := { program := "ytejajmmacmcijaa", sum := "a71e14a5f0684e3dc2d98331c6823f42551bfac0c89595ecb20d14e7de980ccf", func := "texttools/texttoolslaw45.ArraysPlays", spec := "arraysPlays", inPlace := ["internal/bytealg.abigen_runtime_cmpstring"], unfollowed := true, recurses := true, apart := false }
def ArraysPlaysSaid : Prop := arraysPlaysRow.holds Try.pinned (OpenSpec.ofChange arraysPlaysSpec)

/-- ITS FALSE NEIGHBOUR: 'it returns false'. Refute it at one input. -/
def arraysPlaysWrong : ChangeSpec := { name := "arraysPlays", fn := fun _ => fun
  | [d1, d2] => { results := [.lit (.bool false)], args := [d1, d2] }
  | _ => none }
def ArraysPlaysWrongFalsely : Prop := arraysPlaysRow.holds Try.pinned (OpenSpec.ofChange arraysPlaysWrong)

/-- 'texttoolslaw45.ArraysSorts': WHATEVER THE INPUT: true; the input reads as it did. -/
def arraysSortsSpec : ChangeSpec := { name := "arraysSorts", fn := fun _ => fun
  | [d1, d2, d3, d4] => { results := [.lit (.bool true)], args := [d1, d2, d3, d4] }
  | _ => none }
def arraysSortsRow : OpenClaim := { program := "ytejajmmacmcijaa", sum := "a71e14a5f0684e3dc2d98331c6823f42551bfac0c89595ecb20d14e7de980ccf", func := "texttools/texttoolslaw45.ArraysSorts", spec := "arraysSorts", inPlace := ["internal/bytealg.abigen_runtime_cmpstring"], unfollowed := true, recurses := true, apart := false }
def ArraysSortsSaid : Prop := arraysSortsRow.holds Try.pinned (OpenSpec.ofChange arraysSortsSpec)

/-- ITS FALSE NEIGHBOUR: 'it returns false'. Refute it at one input. -/
def arraysSortsWrong : ChangeSpec := { name := "arraysSorts", fn := fun _ => fun
  | [d1, d2, d3, d4] => { results := [.lit (.bool false)], args := [d1, d2, d3, d4] }
  | _ => none }
def ArraysSortsWrongFalsely : Prop := arraysSortsRow.holds Try.pinned (OpenSpec.ofChange arraysSortsWrong)

/- THE SECOND FORM. 'bulk': how many values and letters a reading holds, each counted each time it is reached (what is shared counts as often as it is met; a slice's spare places count too). A statement '..UptoSaid' is the law's where the arguments, and the package variables that the reading takes, are together of bulk at most 1048576: NARROWER than '..Said'. Prove '..Said' where nothing that the law and all that it calls make is longer than what came in: it says more and counts as full. Else prove '..UptoSaid'. A law counts once. -/
mutual
def uptoBulk {H : Type} : DataW H → Nat
  | .lit (.string bytes) => bytes.length + 1
  | .lit _ => 1
  | .nil => 1
  | .ptr d => uptoBulk d + 1
  | .slice elems spare => uptoBulkAll elems + uptoBulkAll spare + 1
  | .agg parts => uptoBulkAll parts + 1
  | .iface _ d => uptoBulk d + 1
  | .map entries => uptoBulkEntries entries + 1
  | .held _ => 1
def uptoBulkAll {H : Type} : List (DataW H) → Nat
  | [] => 0
  | d :: r => uptoBulk d + uptoBulkAll r
def uptoBulkEntries {H : Type} : List (Lit × DataW H) → Nat
  | [] => 0
  | x :: r => uptoBulkEntry x + uptoBulkEntries r
def uptoBulkEntry {H : Type} : Lit × DataW H → Nat
  | (.string bytes, d) => bytes.length + uptoBulk d + 1
  | (_, d) => uptoBulk d + 1
 end
def uptoSmall : (H : Type) → List (DataW H) → Bool := fun _ ds => decide (uptoBulkAll ds ≤ 1048576)
def OpenSpec.upto (s : _root_.Go.ChangeSpec) : _root_.Go.OpenSpec := { _root_.Go.OpenSpec.ofChange s with cond := some uptoSmall }

/-- 'texttoolslaw45.ArraysKeep', WHERE WHAT IT READS IS OF BULK AT MOST 1048576: true; the input reads as it did. -/
def arraysKeepUptoRow : OpenClaim := { program := "ytejajmmacmcijaa", sum := "a71e14a5f0684e3dc2d98331c6823f42551bfac0c89595ecb20d14e7de980ccf", func := "texttools/texttoolslaw45.ArraysKeep", spec := "arraysKeep", apart := false, narrowed := true }
def ArraysKeepUptoSaid : Prop := arraysKeepUptoRow.holds Try.pinned (OpenSpec.upto arraysKeepSpec)

/-- 'texttoolslaw45.ArraysBounds', WHERE WHAT IT READS IS OF BULK AT MOST 1048576: true; the input reads as it did. -/
def arraysBoundsUptoRow : OpenClaim := { program := "ytejajmmacmcijaa", sum := "a71e14a5f0684e3dc2d98331c6823f42551bfac0c89595ecb20d14e7de980ccf", func := "texttools/texttoolslaw45.ArraysBounds", spec := "arraysBounds", apart := false, narrowed := true }
def ArraysBoundsUptoSaid : Prop := arraysBoundsUptoRow.holds Try.pinned (OpenSpec.upto arraysBoundsSpec)

/-- 'texttoolslaw32.LcsScripts', WHERE WHAT IT READS IS OF BULK AT MOST 1048576: true; the input reads as it did. -/
def lcsScriptsUptoRow : OpenClaim := { program := "ytejajmmacmcijaa", sum := "a71e14a5f0684e3dc2d98331c6823f42551bfac0c89595ecb20d14e7de980ccf", func := "texttools/texttoolslaw32.LcsScripts", spec := "lcsScripts", unfollowed := true, recurses := true, apart := false, narrowed := true }
def LcsScriptsUptoSaid : Prop := lcsScriptsUptoRow.holds Try.pinned (OpenSpec.upto lcsScriptsSpec)

/-- 'texttoolslaw32.LcsChecks', WHERE WHAT IT READS IS OF BULK AT MOST 1048576: true; the input reads as it did. -/
def lcsChecksUptoRow : OpenClaim := { program := "ytejajmmacmcijaa", sum := "a71e14a5f0684e3dc2d98331c6823f42551bfac0c89595ecb20d14e7de980ccf", func := "texttools/texttoolslaw32.LcsChecks", spec := "lcsChecks", unfollowed := true, recurses := true, apart := false, narrowed := true }
def LcsChecksUptoSaid : Prop := lcsChecksUptoRow.holds Try.pinned (OpenSpec.upto lcsChecksSpec)

/-- 'texttoolslaw32.LcsShortest', WHERE WHAT IT READS IS OF BULK AT MOST 1048576: true; the input reads as it did. -/
def lcsShortestUptoRow : OpenClaim := { program := "ytejajmmacmcijaa", sum := "a71e14a5f0684e3dc2d98331c6823f42551bfac0c89595ecb20d14e7de980ccf", func := "texttools/texttoolslaw32.LcsShortest", spec := "lcsShortest", unfollowed := true, recurses := true, apart := false, narrowed := true }
def LcsShortestUptoSaid : Prop := lcsShortestUptoRow.holds Try.pinned (OpenSpec.upto lcsShortestSpec)

/-- 'texttoolslaw32.LcsApplies', WHERE WHAT IT READS IS OF BULK AT MOST 1048576: true; the input reads as it did. -/
def lcsAppliesUptoRow : OpenClaim := { program := "ytejajmmacmcijaa", sum := "a71e14a5f0684e3dc2d98331c6823f42551bfac0c89595ecb20d14e7de980ccf", func := "texttools/texttoolslaw32.LcsApplies", spec := "lcsApplies", unfollowed := true, recurses := true, apart := false, narrowed := true }
def LcsAppliesUptoSaid : Prop := lcsAppliesUptoRow.holds Try.pinned (OpenSpec.upto lcsAppliesSpec)

/-- 'texttoolslaw32.LcsMetric', WHERE WHAT IT READS IS OF BULK AT MOST 1048576: true; the input reads as it did. -/
def lcsMetricUptoRow : OpenClaim := { program := "ytejajmmacmcijaa", sum := "a71e14a5f0684e3dc2d98331c6823f42551bfac0c89595ecb20d14e7de980ccf", func := "texttools/texttoolslaw32.LcsMetric", spec := "lcsMetric", unfollowed := true, recurses := true, apart := false, narrowed := true }
def LcsMetricUptoSaid : Prop := lcsMetricUptoRow.holds Try.pinned (OpenSpec.upto lcsMetricSpec)

/-- 'texttoolslaw32.LcsSurrounds', WHERE WHAT IT READS IS OF BULK AT MOST 1048576: true; the input reads as it did. -/
def lcsSurroundsUptoRow : OpenClaim := { program := "ytejajmmacmcijaa", sum := "a71e14a5f0684e3dc2d98331c6823f42551bfac0c89595ecb20d14e7de980ccf", func := "texttools/texttoolslaw32.LcsSurrounds", spec := "lcsSurrounds", unfollowed := true, recurses := true, apart := false, narrowed := true }
def LcsSurroundsUptoSaid : Prop := lcsSurroundsUptoRow.holds Try.pinned (OpenSpec.upto lcsSurroundsSpec)

/-- 'texttoolslaw45.ArraysPlays', WHERE WHAT IT READS IS OF BULK AT MOST 1048576: true; the input reads as it did. -/
def arraysPlaysUptoRow : OpenClaim := { program := "ytejajmmacmcijaa", sum := "a71e14a5f0684e3dc2d98331c6823f42551bfac0c89595ecb20d14e7de980ccf", func := "texttools/texttoolslaw45.ArraysPlays", spec := "arraysPlays", inPlace := ["internal/bytealg.abigen_runtime_cmpstring"], unfollowed := true, recurses := true, apart := false, narrowed := true }
def ArraysPlaysUptoSaid : Prop := arraysPlaysUptoRow.holds Try.pinned (OpenSpec.upto arraysPlaysSpec)

/-- 'texttoolslaw45.ArraysSorts', WHERE WHAT IT READS IS OF BULK AT MOST 1048576: true; the input reads as it did. -/
def arraysSortsUptoRow : OpenClaim := { program := "ytejajmmacmcijaa", sum := "a71e14a5f0684e3dc2d98331c6823f42551bfac0c89595ecb20d14e7de980ccf", func := "texttools/texttoolslaw45.ArraysSorts", spec := "arraysSorts", inPlace := ["internal/bytealg.abigen_runtime_cmpstring"], unfollowed := true, recurses := true, apart := false, narrowed := true }
def ArraysSortsUptoSaid : Prop := arraysSortsUptoRow.holds Try.pinned (OpenSpec.upto arraysSortsSpec)

end Rows
end Go.Proofs.Ytejajmmacmcijaa
