/-
  No cell of these rows narrows 'for every input' (looked for: loops, veiled, ifaces, maps, wideKeys, modest, calm, conditions, laid).
  DERIVED. THE GIVEN ROWS OF THIS SEAT. 12 by the template 'for every input the law returns true; each argument reads behind the call as it read before'; 0 by the template 'total and deterministic' (their statements: YtbdmioekohmcnaaTotals.lean).
  GIVEN WITH THE SEED: the statements are not yours to turn. If you find one false, say at which input.
  Laid BY PROGRAM, IN A SANDBOX (cutbox-rows.mjs): the forced cells as the released guide's own fill.sh prints them over the translation 7a95dc26af148f98… (all of the seat's roots in one cut). By AI agents, Wed Nov 11 2026. No macro, syntax, notation, axiom, sorry.
-/
import Derived.Test.YtbdmioekohmcnaaChecked
import GoSem.Claim
import GoSem.ClaimJoined
import GoSem.ClaimMapViews
import Derived.JoinedTies
import Derived.KernelRfl
namespace Go.Proofs.Ytbdmioekohmcnaa
/- THE CELL 'sum', in the pinned program and in every row, IS THE sha256 OF THE DUMP (.gsa) THAT YtbdmioekohmcnaaProg.lean LOADS. Nothing in Lean hashes anything: it is a label: what it is worth is what the hold of that sum in a sandbox is worth. -/
noncomputable def Try.pinned : Pinned := { name := "ytbdmioekohmcnaa", sum := "7a95dc26af148f9892de1e86490fb15296a16db9723901400ad6ea680e8cfc8a", checked := Try.checked }
namespace Rows
def none {H : Type} : Left H := { results := [], args := [] }

/-- 'texttoolslaw05.LocaleChecks': WHATEVER THE INPUT: true; the input reads as it did. -/
def localeChecksSpec : ChangeSpec := { name := "localeChecks", fn := fun _ => fun
  | [d] => { results := [.lit (.bool true)], args := [d] }
  | _ => none }
def localeChecksRow : OpenClaim := { program := "ytbdmioekohmcnaa", sum := "7a95dc26af148f9892de1e86490fb15296a16db9723901400ad6ea680e8cfc8a", func := "texttools/texttoolslaw05.LocaleChecks", spec := "localeChecks", inPlace := ["internal/bytealg.abigen_runtime_cmpstring"], unfollowed := true, recurses := true, apart := false }
def LocaleChecksSaid : Prop := localeChecksRow.holds Try.pinned (OpenSpec.ofChange localeChecksSpec)

/-- ITS FALSE NEIGHBOUR: 'it returns false'. Refute it at one input. -/
def localeChecksWrong : ChangeSpec := { name := "localeChecks", fn := fun _ => fun
  | [d] => { results := [.lit (.bool false)], args := [d] }
  | _ => none }
def LocaleChecksWrongFalsely : Prop := localeChecksRow.holds Try.pinned (OpenSpec.ofChange localeChecksWrong)

/-- 'texttoolslaw05.LocaleSplits': WHATEVER THE INPUT: true; the input reads as it did. -/
def localeSplitsSpec : ChangeSpec := { name := "localeSplits", fn := fun _ => fun
  | [d1, d2] => { results := [.lit (.bool true)], args := [d1, d2] }
  | _ => none }
def localeSplitsRow : OpenClaim := { program := "ytbdmioekohmcnaa", sum := "7a95dc26af148f9892de1e86490fb15296a16db9723901400ad6ea680e8cfc8a", func := "texttools/texttoolslaw05.LocaleSplits", spec := "localeSplits", inPlace := ["internal/bytealg.abigen_runtime_cmpstring"], unfollowed := true, recurses := true, apart := false }
def LocaleSplitsSaid : Prop := localeSplitsRow.holds Try.pinned (OpenSpec.ofChange localeSplitsSpec)

/-- ITS FALSE NEIGHBOUR: 'it returns false'. Refute it at one input. -/
def localeSplitsWrong : ChangeSpec := { name := "localeSplits", fn := fun _ => fun
  | [d1, d2] => { results := [.lit (.bool false)], args := [d1, d2] }
  | _ => none }
def LocaleSplitsWrongFalsely : Prop := localeSplitsRow.holds Try.pinned (OpenSpec.ofChange localeSplitsWrong)

/-- 'texttoolslaw05.LocaleCompares': WHATEVER THE INPUT: true; the input reads as it did. -/
def localeComparesSpec : ChangeSpec := { name := "localeCompares", fn := fun _ => fun
  | [d1, d2, d3] => { results := [.lit (.bool true)], args := [d1, d2, d3] }
  | _ => none }
def localeComparesRow : OpenClaim := { program := "ytbdmioekohmcnaa", sum := "7a95dc26af148f9892de1e86490fb15296a16db9723901400ad6ea680e8cfc8a", func := "texttools/texttoolslaw05.LocaleCompares", spec := "localeCompares", inPlace := ["internal/bytealg.abigen_runtime_cmpstring"], unfollowed := true, recurses := true, apart := false }
def LocaleComparesSaid : Prop := localeComparesRow.holds Try.pinned (OpenSpec.ofChange localeComparesSpec)

/-- ITS FALSE NEIGHBOUR: 'it returns false'. Refute it at one input. -/
def localeComparesWrong : ChangeSpec := { name := "localeCompares", fn := fun _ => fun
  | [d1, d2, d3] => { results := [.lit (.bool false)], args := [d1, d2, d3] }
  | _ => none }
def LocaleComparesWrongFalsely : Prop := localeComparesRow.holds Try.pinned (OpenSpec.ofChange localeComparesWrong)

/-- 'texttoolslaw05.LocaleJoins': WHATEVER THE INPUT: true; the input reads as it did. -/
def localeJoinsSpec : ChangeSpec := { name := "localeJoins", fn := fun _ => fun
  | [d1, d2] => { results := [.lit (.bool true)], args := [d1, d2] }
  | _ => none }
def localeJoinsRow : OpenClaim := { program := "ytbdmioekohmcnaa", sum := "7a95dc26af148f9892de1e86490fb15296a16db9723901400ad6ea680e8cfc8a", func := "texttools/texttoolslaw05.LocaleJoins", spec := "localeJoins", inPlace := ["internal/bytealg.abigen_runtime_cmpstring"], unfollowed := true, recurses := true, apart := false }
def LocaleJoinsSaid : Prop := localeJoinsRow.holds Try.pinned (OpenSpec.ofChange localeJoinsSpec)

/-- ITS FALSE NEIGHBOUR: 'it returns false'. Refute it at one input. -/
def localeJoinsWrong : ChangeSpec := { name := "localeJoins", fn := fun _ => fun
  | [d1, d2] => { results := [.lit (.bool false)], args := [d1, d2] }
  | _ => none }
def LocaleJoinsWrongFalsely : Prop := localeJoinsRow.holds Try.pinned (OpenSpec.ofChange localeJoinsWrong)

/-- 'texttoolslaw05.LocaleOrders': WHATEVER THE INPUT: true; the input reads as it did. -/
def localeOrdersSpec : ChangeSpec := { name := "localeOrders", fn := fun _ => fun
  | [d1, d2] => { results := [.lit (.bool true)], args := [d1, d2] }
  | _ => none }
def localeOrdersRow : OpenClaim := { program := "ytbdmioekohmcnaa", sum := "7a95dc26af148f9892de1e86490fb15296a16db9723901400ad6ea680e8cfc8a", func := "texttools/texttoolslaw05.LocaleOrders", spec := "localeOrders", inPlace := ["internal/bytealg.abigen_runtime_cmpstring"], unfollowed := true, recurses := true, apart := false }
def LocaleOrdersSaid : Prop := localeOrdersRow.holds Try.pinned (OpenSpec.ofChange localeOrdersSpec)

/-- ITS FALSE NEIGHBOUR: 'it returns false'. Refute it at one input. -/
def localeOrdersWrong : ChangeSpec := { name := "localeOrders", fn := fun _ => fun
  | [d1, d2] => { results := [.lit (.bool false)], args := [d1, d2] }
  | _ => none }
def LocaleOrdersWrongFalsely : Prop := localeOrdersRow.holds Try.pinned (OpenSpec.ofChange localeOrdersWrong)

/-- 'texttoolslaw05.LocaleBytes': WHATEVER THE INPUT: true; the input reads as it did. -/
def localeBytesSpec : ChangeSpec := { name := "localeBytes", fn := fun _ => fun
  | [d1, d2] => { results := [.lit (.bool true)], args := [d1, d2] }
  | _ => none }
def localeBytesRow : OpenClaim := { program := "ytbdmioekohmcnaa", sum := "7a95dc26af148f9892de1e86490fb15296a16db9723901400ad6ea680e8cfc8a", func := "texttools/texttoolslaw05.LocaleBytes", spec := "localeBytes", inPlace := ["internal/bytealg.abigen_runtime_cmpstring"], unfollowed := true, recurses := true, apart := false }
def LocaleBytesSaid : Prop := localeBytesRow.holds Try.pinned (OpenSpec.ofChange localeBytesSpec)

/-- ITS FALSE NEIGHBOUR: 'it returns false'. Refute it at one input. -/
def localeBytesWrong : ChangeSpec := { name := "localeBytes", fn := fun _ => fun
  | [d1, d2] => { results := [.lit (.bool false)], args := [d1, d2] }
  | _ => none }
def LocaleBytesWrongFalsely : Prop := localeBytesRow.holds Try.pinned (OpenSpec.ofChange localeBytesWrong)

/-- 'texttoolslaw05.LocaleSets': WHATEVER THE INPUT: true; the input reads as it did. -/
def localeSetsSpec : ChangeSpec := { name := "localeSets", fn := fun _ => fun
  | [d1, d2] => { results := [.lit (.bool true)], args := [d1, d2] }
  | _ => none }
def localeSetsRow : OpenClaim := { program := "ytbdmioekohmcnaa", sum := "7a95dc26af148f9892de1e86490fb15296a16db9723901400ad6ea680e8cfc8a", func := "texttools/texttoolslaw05.LocaleSets", spec := "localeSets", inPlace := ["internal/bytealg.abigen_runtime_cmpstring"], unfollowed := true, recurses := true, apart := false }
def LocaleSetsSaid : Prop := localeSetsRow.holds Try.pinned (OpenSpec.ofChange localeSetsSpec)

/-- ITS FALSE NEIGHBOUR: 'it returns false'. Refute it at one input. -/
def localeSetsWrong : ChangeSpec := { name := "localeSets", fn := fun _ => fun
  | [d1, d2] => { results := [.lit (.bool false)], args := [d1, d2] }
  | _ => none }
def LocaleSetsWrongFalsely : Prop := localeSetsRow.holds Try.pinned (OpenSpec.ofChange localeSetsWrong)

/-- 'texttoolslaw05.LocaleRanges': WHATEVER THE INPUT: true; the input reads as it did. -/
def localeRangesSpec : ChangeSpec := { name := "localeRanges", fn := fun _ => fun
  | [d1, d2, d3] => { results := [.lit (.bool true)], args := [d1, d2, d3] }
  | _ => none }
def localeRangesRow : OpenClaim := { program := "ytbdmioekohmcnaa", sum := "7a95dc26af148f9892de1e86490fb15296a16db9723901400ad6ea680e8cfc8a", func := "texttools/texttoolslaw05.LocaleRanges", spec := "localeRanges", inPlace := ["internal/bytealg.abigen_runtime_cmpstring"], unfollowed := true, recurses := true, apart := false }
def LocaleRangesSaid : Prop := localeRangesRow.holds Try.pinned (OpenSpec.ofChange localeRangesSpec)

/-- ITS FALSE NEIGHBOUR: 'it returns false'. Refute it at one input. -/
def localeRangesWrong : ChangeSpec := { name := "localeRanges", fn := fun _ => fun
  | [d1, d2, d3] => { results := [.lit (.bool false)], args := [d1, d2, d3] }
  | _ => none }
def LocaleRangesWrongFalsely : Prop := localeRangesRow.holds Try.pinned (OpenSpec.ofChange localeRangesWrong)

/-- 'texttoolslaw28.CommCompares': WHATEVER THE INPUT: true; the input reads as it did. -/
def commComparesSpec : ChangeSpec := { name := "commCompares", fn := fun _ => fun
  | [d1, d2, d3] => { results := [.lit (.bool true)], args := [d1, d2, d3] }
  | _ => none }
def commComparesRow : OpenClaim := { program := "ytbdmioekohmcnaa", sum := "7a95dc26af148f9892de1e86490fb15296a16db9723901400ad6ea680e8cfc8a", func := "texttools/texttoolslaw28.CommCompares", spec := "commCompares", inPlace := ["internal/bytealg.abigen_runtime_cmpstring", "internal/abi.NoEscape", "internal/bytealg.MakeNoZero"], unfollowed := true, recurses := true, apart := false }
def CommComparesSaid : Prop := commComparesRow.holds Try.pinned (OpenSpec.ofChange commComparesSpec)

/-- ITS FALSE NEIGHBOUR: 'it returns false'. Refute it at one input. -/
def commComparesWrong : ChangeSpec := { name := "commCompares", fn := fun _ => fun
  | [d1, d2, d3] => { results := [.lit (.bool false)], args := [d1, d2, d3] }
  | _ => none }
def CommComparesWrongFalsely : Prop := commComparesRow.holds Try.pinned (OpenSpec.ofChange commComparesWrong)

/-- 'texttoolslaw28.CommPrints': WHATEVER THE INPUT: true; the input reads as it did. -/
def commPrintsSpec : ChangeSpec := { name := "commPrints", fn := fun _ => fun
  | [d1, d2] => { results := [.lit (.bool true)], args := [d1, d2] }
  | _ => none }
def commPrintsRow : OpenClaim := { program := "ytbdmioekohmcnaa", sum := "7a95dc26af148f9892de1e86490fb15296a16db9723901400ad6ea680e8cfc8a", func := "texttools/texttoolslaw28.CommPrints", spec := "commPrints", inPlace := ["internal/bytealg.abigen_runtime_cmpstring", "internal/abi.NoEscape", "internal/bytealg.MakeNoZero"], unfollowed := true, recurses := true, apart := false }
def CommPrintsSaid : Prop := commPrintsRow.holds Try.pinned (OpenSpec.ofChange commPrintsSpec)

/-- ITS FALSE NEIGHBOUR: 'it returns false'. Refute it at one input. -/
def commPrintsWrong : ChangeSpec := { name := "commPrints", fn := fun _ => fun
  | [d1, d2] => { results := [.lit (.bool false)], args := [d1, d2] }
  | _ => none }
def CommPrintsWrongFalsely : Prop := commPrintsRow.holds Try.pinned (OpenSpec.ofChange commPrintsWrong)

/-- 'texttoolslaw28.CommMerges': WHATEVER THE INPUT: true; the input reads as it did. -/
def commMergesSpec : ChangeSpec := { name := "commMerges", fn := fun _ => fun
  | [d1, d2, d3] => { results := [.lit (.bool true)], args := [d1, d2, d3] }
  | _ => none }
def commMergesRow : OpenClaim := { program := "ytbdmioekohmcnaa", sum := "7a95dc26af148f9892de1e86490fb15296a16db9723901400ad6ea680e8cfc8a", func := "texttools/texttoolslaw28.CommMerges", spec := "commMerges", inPlace := ["internal/bytealg.abigen_runtime_cmpstring", "internal/abi.NoEscape", "internal/bytealg.MakeNoZero"], unfollowed := true, recurses := true, apart := false }
def CommMergesSaid : Prop := commMergesRow.holds Try.pinned (OpenSpec.ofChange commMergesSpec)

/-- ITS FALSE NEIGHBOUR: 'it returns false'. Refute it at one input. -/
def commMergesWrong : ChangeSpec := { name := "commMerges", fn := fun _ => fun
  | [d1, d2, d3] => { results := [.lit (.bool false)], args := [d1, d2, d3] }
  | _ => none }
def CommMergesWrongFalsely : Prop := commMergesRow.holds Try.pinned (OpenSpec.ofChange commMergesWrong)

/-- 'texttoolslaw28.CommSorted': WHATEVER THE INPUT: true; the input reads as it did. -/
def commSortedSpec : ChangeSpec := { name := "commSorted", fn := fun _ => fun
  | [d1, d2, d3] => { results := [.lit (.bool true)], args := [d1, d2, d3] }
  | _ => none }
def commSortedRow : OpenClaim := { program := "ytbdmioekohmcnaa", sum := "7a95dc26af148f9892de1e86490fb15296a16db9723901400ad6ea680e8cfc8a", func := "texttools/texttoolslaw28.CommSorted", spec := "commSorted", inPlace := ["internal/bytealg.abigen_runtime_cmpstring", "internal/abi.NoEscape", "internal/bytealg.MakeNoZero"], unfollowed := true, recurses := true, apart := false }
def CommSortedSaid : Prop := commSortedRow.holds Try.pinned (OpenSpec.ofChange commSortedSpec)

/-- ITS FALSE NEIGHBOUR: 'it returns false'. Refute it at one input. -/
def commSortedWrong : ChangeSpec := { name := "commSorted", fn := fun _ => fun
  | [d1, d2, d3] => { results := [.lit (.bool false)], args := [d1, d2, d3] }
  | _ => none }
def CommSortedWrongFalsely : Prop := commSortedRow.holds Try.pinned (OpenSpec.ofChange commSortedWrong)

/- THE SECOND FORM. 'bulk': how many values and letters a reading holds, each counted each time it is reached (what is shared counts as often as it is met; a slice's spare places count too). A statement '..UptoSaid' is the law's where the arguments, and the package variables that the reading takes, are together of bulk at most 1048576: NARROWER than '..Said'. Prove '..Said' where nothing that the law and all that it calls make is longer than what came in: it says more and counts as full. Else prove '..UptoSaid'. A law counts once. -/
mutual
def uptoBulk {H : Type} : DataW H → Nat
  | .lit (.string bytes) => bytes.length + 1
  | .lit _ => 1
  | .nil => 1
  | .ptr d => uptoBulk d + 1
  | .slice elems spare => uptoBulkAll elems + uptoBulkAll spare + 1
  | .agg parts => uptoBulkAll parts + 1
  | .iface _ d => uptoBulk d + 1
  | .map entries => uptoBulkEntries entries + 1
  | .held _ => 1
def uptoBulkAll {H : Type} : List (DataW H) → Nat
  | [] => 0
  | d :: r => uptoBulk d + uptoBulkAll r
def uptoBulkEntries {H : Type} : List (Lit × DataW H) → Nat
  | [] => 0
  | x :: r => uptoBulkEntry x + uptoBulkEntries r
def uptoBulkEntry {H : Type} : Lit × DataW H → Nat
  | (.string bytes, d) => bytes.length + uptoBulk d + 1
  | (_, d) => uptoBulk d + 1
 end
def uptoSmall : (H : Type) → List (DataW H) → Bool := fun _ ds => decide (uptoBulkAll ds ≤ 1048576)
def OpenSpec.upto (s : _root_.Go.ChangeSpec) : _root_.Go.OpenSpec := { _root_.Go.OpenSpec.ofChange s with cond := some uptoSmall }

/-- 'texttoolslaw05.LocaleChecks', WHERE WHAT IT READS IS OF BULK AT MOST 1048576: true; the input reads as it did. -/
def localeChecksUptoRow : OpenClaim := { program := "ytbdmioekohmcnaa", sum := "7a95dc26af148f9892de1e86490fb15296a16db9723901400ad6ea680e8cfc8a", func := "texttools/texttoolslaw05.LocaleChecks", spec := "localeChecks", inPlace := ["internal/bytealg.abigen_runtime_cmpstring"], unfollowed := true, recurses := true, apart := false, narrowed := true }
def LocaleChecksUptoSaid : Prop := localeChecksUptoRow.holds Try.pinned (OpenSpec.upto localeChecksSpec)

/-- 'texttoolslaw05.LocaleSplits', WHERE WHAT IT READS IS OF BULK AT MOST 1048576: true; the input reads as it did. -/
def localeSplitsUptoRow : OpenClaim := { program := "ytbdmioekohmcnaa", sum := "7a95dc26af148f9892de1e86490fb15296a16db9723901400ad6ea680e8cfc8a", func := "texttools/texttoolslaw05.LocaleSplits", spec := "localeSplits", inPlace := ["internal/bytealg.abigen_runtime_cmpstring"], unfollowed := true, recurses := true, apart := false, narrowed := true }
def LocaleSplitsUptoSaid : Prop := localeSplitsUptoRow.holds Try.pinned (OpenSpec.upto localeSplitsSpec)

/-- 'texttoolslaw05.LocaleCompares', WHERE WHAT IT READS IS OF BULK AT MOST 1048576: true; the input reads as it did. -/
def localeComparesUptoRow : OpenClaim := { program := "ytbdmioekohmcnaa", sum := "7a95dc26af148f9892de1e86490fb15296a16db9723901400ad6ea680e8cfc8a", func := "texttools/texttoolslaw05.LocaleCompares", spec := "localeCompares", inPlace := ["internal/bytealg.abigen_runtime_cmpstring"], unfollowed := true, recurses := true, apart := false, narrowed := true }
def LocaleComparesUptoSaid : Prop := localeComparesUptoRow.holds Try.pinned (OpenSpec.upto localeComparesSpec)

/-- 'texttoolslaw05.LocaleJoins', WHERE WHAT IT READS IS OF BULK AT MOST 1048576: true; the input reads as it did. -/
def localeJoinsUptoRow : OpenClaim := { program := "ytbdmioekohmcnaa", sum := "7a95dc26af148f9892de1e86490fb15296a16db9723901400ad6ea680e8cfc8a", func := "texttools/texttoolslaw05.LocaleJoins", spec := "localeJoins", inPlace := ["internal/bytealg.abigen_runtime_cmpstring"], unfollowed := true, recurses := true, apart := false, narrowed := true }
def LocaleJoinsUptoSaid : Prop := localeJoinsUptoRow.holds Try.pinned (OpenSpec.upto localeJoinsSpec)

/-- 'texttoolslaw05.LocaleOrders', WHERE WHAT IT READS IS OF BULK AT MOST 1048576: true; the input reads as it did. -/
def localeOrdersUptoRow : OpenClaim := { program := "ytbdmioekohmcnaa", sum := "7a95dc26af148f9892de1e86490fb15296a16db9723901400ad6ea680e8cfc8a", func := "texttools/texttoolslaw05.LocaleOrders", spec := "localeOrders", inPlace := ["internal/bytealg.abigen_runtime_cmpstring"], unfollowed := true, recurses := true, apart := false, narrowed := true }
def LocaleOrdersUptoSaid : Prop := localeOrdersUptoRow.holds Try.pinned (OpenSpec.upto localeOrdersSpec)

/-- 'texttoolslaw05.LocaleBytes', WHERE WHAT IT READS IS OF BULK AT MOST 1048576: true; the input reads as it did. -/
def localeBytesUptoRow : OpenClaim := { program := "ytbdmioekohmcnaa", sum := "7a95dc26af148f9892de1e86490fb15296a16db9723901400ad6ea680e8cfc8a", func := "texttools/texttoolslaw05.LocaleBytes", spec := "localeBytes", inPlace := ["internal/bytealg.abigen_runtime_cmpstring"], unfollowed := true, recurses := true, apart := false, narrowed := true }
def LocaleBytesUptoSaid : Prop := localeBytesUptoRow.holds Try.pinned (OpenSpec.upto localeBytesSpec)

/-- 'texttoolslaw05.LocaleSets', WHERE WHAT IT READS IS OF BULK AT MOST 1048576: true; the input reads as it did. -/
def localeSetsUptoRow : OpenClaim := { program := "ytbdmioekohmcnaa", sum := "7a95dc26af148f9892de1e86490fb15296a16db9723901400ad6ea680e8cfc8a", func := "texttools/texttoolslaw05.LocaleSets", spec := "localeSets", inPlace := ["internal/bytealg.abigen_runtime_cmpstring"], unfollowed := true, recurses := true, apart := false, narrowed := true }
def LocaleSetsUptoSaid : Prop := localeSetsUptoRow.holds Try.pinned (OpenSpec.upto localeSetsSpec)

/-- 'texttoolslaw05.LocaleRanges', WHERE WHAT IT READS IS OF BULK AT MOST 1048576: true; the input reads as it did. -/
def localeRangesUptoRow : OpenClaim := { program := "ytbdmioekohmcnaa", sum := "7a95dc26af148f9892de1e86490fb15296a16db9723901400ad6ea680e8cfc8a", func := "texttools/texttoolslaw05.LocaleRanges", spec := "localeRanges", inPlace := ["internal/bytealg.abigen_runtime_cmpstring"], unfollowed := true, recurses := true, apart := false, narrowed := true }
def LocaleRangesUptoSaid : Prop := localeRangesUptoRow.holds Try.pinned (OpenSpec.upto localeRangesSpec)

/-- 'texttoolslaw28.CommCompares', WHERE WHAT IT READS IS OF BULK AT MOST 1048576: true; the input reads as it did. -/
def commComparesUptoRow : OpenClaim := { program := "ytbdmioekohmcnaa", sum := "7a95dc26af148f9892de1e86490fb15296a16db9723901400ad6ea680e8cfc8a", func := "texttools/texttoolslaw28.CommCompares", spec := "commCompares", inPlace := ["internal/bytealg.abigen_runtime_cmpstring", "internal/abi.NoEscape", "internal/bytealg.MakeNoZero"], unfollowed := true, recurses := true, apart := false, narrowed := true }
def CommComparesUptoSaid : Prop := commComparesUptoRow.holds Try.pinned (OpenSpec.upto commComparesSpec)

/-- 'texttoolslaw28.CommPrints', WHERE WHAT IT READS IS OF BULK AT MOST 1048576: true; the input reads as it did. -/
def commPrintsUptoRow : OpenClaim := { program := "ytbdmioekohmcnaa", sum := "7a95dc26af148f9892de1e86490fb15296a16db9723901400ad6ea680e8cfc8a", func := "texttools/texttoolslaw28.CommPrints", spec := "commPrints", inPlace := ["internal/bytealg.abigen_runtime_cmpstring", "internal/abi.NoEscape", "internal/bytealg.MakeNoZero"], unfollowed := true, recurses := true, apart := false, narrowed := true }
def CommPrintsUptoSaid : Prop := commPrintsUptoRow.holds Try.pinned (OpenSpec.upto commPrintsSpec)

/-- 'texttoolslaw28.CommMerges', WHERE WHAT IT READS IS OF BULK AT MOST 1048576: true; the input reads as it did. -/
def commMergesUptoRow : OpenClaim := { program := "ytbdmioekohmcnaa", sum := "7a95dc26af148f9892de1e86490fb15296a16db9723901400ad6ea680e8cfc8a", func := "texttools/texttoolslaw28.CommMerges", spec := "commMerges", inPlace := ["internal/bytealg.abigen_runtime_cmpstring", "internal/abi.NoEscape", "internal/bytealg.MakeNoZero"], unfollowed := true, recurses := true, apart := false, narrowed := true }
def CommMergesUptoSaid : Prop := commMergesUptoRow.holds Try.pinned (OpenSpec.upto commMergesSpec)

/-- 'texttoolslaw28.CommSorted', WHERE WHAT IT READS IS OF BULK AT MOST 1048576: true; the input reads as it did. -/
def commSortedUptoRow : OpenClaim := { program := "ytbdmioekohmcnaa", sum := "7a95dc26af148f9892de1e86490fb15296a16db9723901400ad6ea680e8cfc8a", func := "texttools/texttoolslaw28.CommSorted", spec := "commSorted", inPlace := ["internal/bytealg.abigen_runtime_cmpstring", "internal/abi.NoEscape", "internal/bytealg.MakeNoZero"], unfollowed := true, recurses := true, apart := false, narrowed := true }
def CommSortedUptoSaid : Prop := commSortedUptoRow.holds Try.pinned (OpenSpec.upto commSortedSpec)

end Rows
end Go.Proofs.Ytbdmioekohmcnaa
