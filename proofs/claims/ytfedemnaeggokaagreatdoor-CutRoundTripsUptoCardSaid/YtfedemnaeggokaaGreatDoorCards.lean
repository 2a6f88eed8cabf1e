/-
  DERIVED. GIVEN WITH THE SEED: THE CARDS: each row of YtfedemnaeggokaaGreatDoorRows.lean that lists a variable, with what it lists TIED to the program's text (the seventh form; the later family's looks); each row that meets fmt, with fmt's text TOLD by the authors' own Lean function (tested against real Go, not proved from fmt's source: count such statements apart). THE CARD IS WHAT COUNTS. Prove the row's statement (the work); the ties are given (YtfedemnaeggokaaGreatDoorTie.lean); close each card by the builder's one call (the guide's Derived/Test/ToyasCard.lean, 'card_holds'). Laid BY PROGRAM, IN A SANDBOX (cutbox-door.mjs). By AI agents, Wed Nov 11 2026. No macro, syntax, notation, axiom, sorry.
-/
import Derived.Test.YtfedemnaeggokaaGreatDoorRows
import GoSem.ClaimSeven
namespace Go.Proofs.YtfedemnaeggokaaGreatDoor
namespace Rows

/-- THE TIED CARD OF 'texttoolslaw26.CutLists'. -/
def cutListsCard : Claim7 := { stood := { row := cutListsRow, standIns := [], harness := (true, "072f68c413363aa4e6f915deed00c17755e5cfae40574f7dd1350fd74277d3b0"), looks := true }, kinds := [], alts := [], laidByText := true, laidKinds := [.data, .data, .data, .data, .sentinel, .sentinel, .pinned], laidTests := true, laidLooks := .later }
def CutListsCardSaid : Prop := Claim7.holds Tryz.pinned (.plain (OpenSpec.ofChange cutListsSpec)) cutListsCard

/-- THE TIED CARD OF 'texttoolslaw26.CutLines'. -/
def cutLinesCard : Claim7 := { stood := { row := cutLinesRow, standIns := [], harness := (true, "072f68c413363aa4e6f915deed00c17755e5cfae40574f7dd1350fd74277d3b0"), looks := true }, kinds := [], alts := [], laidByText := true, laidKinds := [.data, .data, .data, .data, .sentinel, .sentinel, .pinned], laidTests := true, laidLooks := .later }
def CutLinesCardSaid : Prop := Claim7.holds Tryz.pinned (.plain (OpenSpec.ofChange cutLinesSpec)) cutLinesCard

/-- THE TIED CARD OF 'texttoolslaw26.CutApplies'. -/
def cutAppliesCard : Claim7 := { stood := { row := cutAppliesRow, standIns := [], harness := (true, "072f68c413363aa4e6f915deed00c17755e5cfae40574f7dd1350fd74277d3b0"), looks := true }, kinds := [], alts := [], laidByText := true, laidKinds := [.data, .data, .data, .data, .sentinel, .sentinel, .pinned], laidTests := true, laidLooks := .later }
def CutAppliesCardSaid : Prop := Claim7.holds Tryz.pinned (.plain (OpenSpec.ofChange cutAppliesSpec)) cutAppliesCard

/-- THE TIED CARD OF 'texttoolslaw26.CutPastes'. -/
def cutPastesCard : Claim7 := { stood := { row := cutPastesRow, standIns := [], harness := (true, "072f68c413363aa4e6f915deed00c17755e5cfae40574f7dd1350fd74277d3b0"), looks := true }, kinds := [], alts := [], laidByText := true, laidKinds := [.data, .data, .data, .data, .sentinel, .sentinel, .pinned], laidTests := true, laidLooks := .later }
def CutPastesCardSaid : Prop := Claim7.holds Tryz.pinned (.plain (OpenSpec.ofChange cutPastesSpec)) cutPastesCard

/-- THE TIED CARD OF 'texttoolslaw26.CutRoundTrips'. -/
def cutRoundTripsCard : Claim7 := { stood := { row := cutRoundTripsRow, standIns := [], harness := (true, "072f68c413363aa4e6f915deed00c17755e5cfae40574f7dd1350fd74277d3b0"), looks := true }, kinds := [], alts := [], laidByText := true, laidKinds := [.data, .data, .data, .data, .sentinel, .sentinel, .pinned], laidTests := true, laidLooks := .later }
def CutRoundTripsCardSaid : Prop := Claim7.holds Tryz.pinned (.plain (OpenSpec.ofChange cutRoundTripsSpec)) cutRoundTripsCard

/-- THE TIED CARD OF 'texttoolslaw26.CutSelects'. -/
def cutSelectsCard : Claim7 := { stood := { row := cutSelectsRow, standIns := [], harness := (true, "072f68c413363aa4e6f915deed00c17755e5cfae40574f7dd1350fd74277d3b0"), looks := true }, kinds := [], alts := [], laidByText := true, laidKinds := [.data, .data, .data, .data, .sentinel, .sentinel, .pinned], laidTests := true, laidLooks := .later }
def CutSelectsCardSaid : Prop := Claim7.holds Tryz.pinned (.plain (OpenSpec.ofChange cutSelectsSpec)) cutSelectsCard

/-- THE TIED CARD OF 'texttoolslaw26.CutUndoes'. -/
def cutUndoesCard : Claim7 := { stood := { row := cutUndoesRow, standIns := [], harness := (true, "072f68c413363aa4e6f915deed00c17755e5cfae40574f7dd1350fd74277d3b0"), looks := true }, kinds := [], alts := [], laidByText := true, laidKinds := [.data, .data, .data, .data, .sentinel, .sentinel, .pinned], laidTests := true, laidLooks := .later }
def CutUndoesCardSaid : Prop := Claim7.holds Tryz.pinned (.plain (OpenSpec.ofChange cutUndoesSpec)) cutUndoesCard

/-- THE SECOND FORM's CARD OF 'texttoolslaw26.CutLists'. -/
def cutListsUptoCard : Claim7 := { stood := { row := cutListsUptoRow, standIns := [], harness := (true, "072f68c413363aa4e6f915deed00c17755e5cfae40574f7dd1350fd74277d3b0"), looks := true }, kinds := [], alts := [], laidByText := true, laidKinds := [.data, .data, .data, .data, .sentinel, .sentinel, .pinned], laidTests := true, laidLooks := .later }
def CutListsUptoCardSaid : Prop := Claim7.holds Tryz.pinned (.plain (OpenSpec.upto cutListsSpec)) cutListsUptoCard

/-- THE SECOND FORM's CARD OF 'texttoolslaw26.CutLines'. -/
def cutLinesUptoCard : Claim7 := { stood := { row := cutLinesUptoRow, standIns := [], harness := (true, "072f68c413363aa4e6f915deed00c17755e5cfae40574f7dd1350fd74277d3b0"), looks := true }, kinds := [], alts := [], laidByText := true, laidKinds := [.data, .data, .data, .data, .sentinel, .sentinel, .pinned], laidTests := true, laidLooks := .later }
def CutLinesUptoCardSaid : Prop := Claim7.holds Tryz.pinned (.plain (OpenSpec.upto cutLinesSpec)) cutLinesUptoCard

/-- THE SECOND FORM's CARD OF 'texttoolslaw26.CutApplies'. -/
def cutAppliesUptoCard : Claim7 := { stood := { row := cutAppliesUptoRow, standIns := [], harness := (true, "072f68c413363aa4e6f915deed00c17755e5cfae40574f7dd1350fd74277d3b0"), looks := true }, kinds := [], alts := [], laidByText := true, laidKinds := [.data, .data, .data, .data, .sentinel, .sentinel, .pinned], laidTests := true, laidLooks := .later }
def CutAppliesUptoCardSaid : Prop := Claim7.holds Tryz.pinned (.plain (OpenSpec.upto cutAppliesSpec)) cutAppliesUptoCard

/-- THE SECOND FORM's CARD OF 'texttoolslaw26.CutPastes'. -/
def cutPastesUptoCard : Claim7 := { stood := { row := cutPastesUptoRow, standIns := [], harness := (true, "072f68c413363aa4e6f915deed00c17755e5cfae40574f7dd1350fd74277d3b0"), looks := true }, kinds := [], alts := [], laidByText := true, laidKinds := [.data, .data, .data, .data, .sentinel, .sentinel, .pinned], laidTests := true, laidLooks := .later }
def CutPastesUptoCardSaid : Prop := Claim7.holds Tryz.pinned (.plain (OpenSpec.upto cutPastesSpec)) cutPastesUptoCard

/-- THE SECOND FORM's CARD OF 'texttoolslaw26.CutRoundTrips'. -/
def cutRoundTripsUptoCard : Claim7 := { stood := { row := cutRoundTripsUptoRow, standIns := [], harness := (true, "072f68c413363aa4e6f915deed00c17755e5cfae40574f7dd1350fd74277d3b0"), looks := true }, kinds := [], alts := [], laidByText := true, laidKinds := [.data, .data, .data, .data, .sentinel, .sentinel, .pinned], laidTests := true, laidLooks := .later }
def CutRoundTripsUptoCardSaid : Prop := Claim7.holds Tryz.pinned (.plain (OpenSpec.upto cutRoundTripsSpec)) cutRoundTripsUptoCard

/-- THE SECOND FORM's CARD OF 'texttoolslaw26.CutSelects'. -/
def cutSelectsUptoCard : Claim7 := { stood := { row := cutSelectsUptoRow, standIns := [], harness := (true, "072f68c413363aa4e6f915deed00c17755e5cfae40574f7dd1350fd74277d3b0"), looks := true }, kinds := [], alts := [], laidByText := true, laidKinds := [.data, .data, .data, .data, .sentinel, .sentinel, .pinned], laidTests := true, laidLooks := .later }
def CutSelectsUptoCardSaid : Prop := Claim7.holds Tryz.pinned (.plain (OpenSpec.upto cutSelectsSpec)) cutSelectsUptoCard

/-- THE SECOND FORM's CARD OF 'texttoolslaw26.CutUndoes'. -/
def cutUndoesUptoCard : Claim7 := { stood := { row := cutUndoesUptoRow, standIns := [], harness := (true, "072f68c413363aa4e6f915deed00c17755e5cfae40574f7dd1350fd74277d3b0"), looks := true }, kinds := [], alts := [], laidByText := true, laidKinds := [.data, .data, .data, .data, .sentinel, .sentinel, .pinned], laidTests := true, laidLooks := .later }
def CutUndoesUptoCardSaid : Prop := Claim7.holds Tryz.pinned (.plain (OpenSpec.upto cutUndoesSpec)) cutUndoesUptoCard
end Rows
end Go.Proofs.YtfedemnaeggokaaGreatDoor
