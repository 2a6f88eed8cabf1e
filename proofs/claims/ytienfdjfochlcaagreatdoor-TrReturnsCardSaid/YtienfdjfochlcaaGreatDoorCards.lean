/-
  DERIVED. GIVEN WITH THE SEED: THE CARDS: each row of YtienfdjfochlcaaGreatDoorRows.lean that lists a variable, with what it lists TIED to the program's text (the seventh form; the later family's looks); each row that meets fmt, with fmt's text TOLD by the authors' own Lean function (tested against real Go, not proved from fmt's source: count such statements apart). THE CARD IS WHAT COUNTS. Prove the row's statement (the work); the ties are given (YtienfdjfochlcaaGreatDoorTie.lean); close each card by the builder's one call (the guide's Derived/Test/ToyasCard.lean, 'card_holds'). Laid BY PROGRAM, IN A SANDBOX (cutbox-door.mjs). By AI agents, Wed Nov 11 2026. No macro, syntax, notation, axiom, sorry.
-/
import Derived.Test.YtienfdjfochlcaaGreatDoorRows
import GoSem.ClaimSeven
namespace Go.Proofs.YtienfdjfochlcaaGreatDoor
namespace Rows

/-- THE TIED CARD OF 'texttoolslaw06.LocaletextParses'. -/
def localetextParsesCard : Claim7 := { stood := { row := localetextParsesRow, standIns := [], harness := (true, "d42fab654b135b8780c66e9e80d5e94753297736285972ec4ee0cc96306326a7"), looks := true }, kinds := [], alts := [], laidByText := true, laidKinds := [.data, .data, .data, .data, .sentinel, .sentinel, .pinned], laidTests := true, laidLooks := .later }
def LocaletextParsesCardSaid : Prop := Claim7.holds Tryz.pinned (.plain (OpenSpec.ofChange localetextParsesSpec)) localetextParsesCard

/-- THE TIED CARD OF 'texttoolslaw06.LocaletextFormats'. -/
def localetextFormatsCard : Claim7 := { stood := { row := localetextFormatsRow, standIns := [], harness := (true, "d42fab654b135b8780c66e9e80d5e94753297736285972ec4ee0cc96306326a7"), looks := true }, kinds := [], alts := [], laidByText := true, laidKinds := [.data, .data, .data, .data, .sentinel, .sentinel, .pinned], laidTests := true, laidLooks := .later }
def LocaletextFormatsCardSaid : Prop := Claim7.holds Tryz.pinned (.plain (OpenSpec.ofChange localetextFormatsSpec)) localetextFormatsCard

/-- THE TIED CARD OF 'texttoolslaw06.LocaletextRoundTrips'. -/
def localetextRoundTripsCard : Claim7 := { stood := { row := localetextRoundTripsRow, standIns := [], harness := (true, "d42fab654b135b8780c66e9e80d5e94753297736285972ec4ee0cc96306326a7"), looks := true }, kinds := [], alts := [], laidByText := true, laidKinds := [.data, .data, .data, .data, .sentinel, .sentinel, .pinned], laidTests := true, laidLooks := .later }
def LocaletextRoundTripsCardSaid : Prop := Claim7.holds Tryz.pinned (.plain (OpenSpec.ofChange localetextRoundTripsSpec)) localetextRoundTripsCard

/-- THE TIED CARD OF 'texttoolslaw06.LocaletextReads'. -/
def localetextReadsCard : Claim7 := { stood := { row := localetextReadsRow, standIns := [], harness := (true, "d42fab654b135b8780c66e9e80d5e94753297736285972ec4ee0cc96306326a7"), looks := true }, kinds := [], alts := [], laidByText := true, laidKinds := [.data, .data, .data, .data, .sentinel, .sentinel, .pinned], laidTests := true, laidLooks := .later }
def LocaletextReadsCardSaid : Prop := Claim7.holds Tryz.pinned (.plain (OpenSpec.ofChange localetextReadsSpec)) localetextReadsCard

/-- THE TIED CARD OF 'texttoolslaw06.LocaletextSkips'. -/
def localetextSkipsCard : Claim7 := { stood := { row := localetextSkipsRow, standIns := [], harness := (true, "d42fab654b135b8780c66e9e80d5e94753297736285972ec4ee0cc96306326a7"), looks := true }, kinds := [], alts := [], laidByText := true, laidKinds := [.data, .data, .data, .data, .sentinel, .sentinel, .pinned], laidTests := true, laidLooks := .later }
def LocaletextSkipsCardSaid : Prop := Claim7.holds Tryz.pinned (.plain (OpenSpec.ofChange localetextSkipsSpec)) localetextSkipsCard

/-- THE TIED CARD OF 'texttoolslaw06.LocaletextChanges'. -/
def localetextChangesCard : Claim7 := { stood := { row := localetextChangesRow, standIns := [], harness := (true, "d42fab654b135b8780c66e9e80d5e94753297736285972ec4ee0cc96306326a7"), looks := true }, kinds := [], alts := [], laidByText := true, laidKinds := [.data, .data, .data, .data, .sentinel, .sentinel, .pinned], laidTests := true, laidLooks := .later }
def LocaletextChangesCardSaid : Prop := Claim7.holds Tryz.pinned (.plain (OpenSpec.ofChange localetextChangesSpec)) localetextChangesCard

/-- THE TIED CARD OF 'texttoolslaw25.TrExpands'. -/
def trExpandsCard : Claim7 := { stood := { row := trExpandsRow, standIns := [], harness := (true, "d42fab654b135b8780c66e9e80d5e94753297736285972ec4ee0cc96306326a7"), looks := true }, kinds := [], alts := [], laidByText := true, laidKinds := [.data, .data, .data, .sentinel, .sentinel], laidTests := true, laidLooks := .later }
def TrExpandsCardSaid : Prop := Claim7.holds Tryz.pinned (.plain (OpenSpec.ofChange trExpandsSpec)) trExpandsCard

/-- THE TIED CARD OF 'texttoolslaw25.TrParses'. -/
def trParsesCard : Claim7 := { stood := { row := trParsesRow, standIns := [], harness := (true, "d42fab654b135b8780c66e9e80d5e94753297736285972ec4ee0cc96306326a7"), looks := true }, kinds := [], alts := [], laidByText := true, laidKinds := [.data, .data, .data, .sentinel, .sentinel], laidTests := true, laidLooks := .later }
def TrParsesCardSaid : Prop := Claim7.holds Tryz.pinned (.plain (OpenSpec.ofChange trParsesSpec)) trParsesCard

/-- THE TIED CARD OF 'texttoolslaw25.TrReturns'. -/
def trReturnsCard : Claim7 := { stood := { row := trReturnsRow, standIns := [], harness := (true, "d42fab654b135b8780c66e9e80d5e94753297736285972ec4ee0cc96306326a7"), looks := true }, kinds := [], alts := [], laidByText := true, laidKinds := [.data, .data, .data, .sentinel, .sentinel], laidTests := true, laidLooks := .later }
def TrReturnsCardSaid : Prop := Claim7.holds Tryz.pinned (.plain (OpenSpec.ofChange trReturnsSpec)) trReturnsCard

/-- THE SECOND FORM's CARD OF 'texttoolslaw06.LocaletextParses'. -/
def localetextParsesUptoCard : Claim7 := { stood := { row := localetextParsesUptoRow, standIns := [], harness := (true, "d42fab654b135b8780c66e9e80d5e94753297736285972ec4ee0cc96306326a7"), looks := true }, kinds := [], alts := [], laidByText := true, laidKinds := [.data, .data, .data, .data, .sentinel, .sentinel, .pinned], laidTests := true, laidLooks := .later }
def LocaletextParsesUptoCardSaid : Prop := Claim7.holds Tryz.pinned (.plain (OpenSpec.upto localetextParsesSpec)) localetextParsesUptoCard

/-- THE SECOND FORM's CARD OF 'texttoolslaw06.LocaletextFormats'. -/
def localetextFormatsUptoCard : Claim7 := { stood := { row := localetextFormatsUptoRow, standIns := [], harness := (true, "d42fab654b135b8780c66e9e80d5e94753297736285972ec4ee0cc96306326a7"), looks := true }, kinds := [], alts := [], laidByText := true, laidKinds := [.data, .data, .data, .data, .sentinel, .sentinel, .pinned], laidTests := true, laidLooks := .later }
def LocaletextFormatsUptoCardSaid : Prop := Claim7.holds Tryz.pinned (.plain (OpenSpec.upto localetextFormatsSpec)) localetextFormatsUptoCard

/-- THE SECOND FORM's CARD OF 'texttoolslaw06.LocaletextRoundTrips'. -/
def localetextRoundTripsUptoCard : Claim7 := { stood := { row := localetextRoundTripsUptoRow, standIns := [], harness := (true, "d42fab654b135b8780c66e9e80d5e94753297736285972ec4ee0cc96306326a7"), looks := true }, kinds := [], alts := [], laidByText := true, laidKinds := [.data, .data, .data, .data, .sentinel, .sentinel, .pinned], laidTests := true, laidLooks := .later }
def LocaletextRoundTripsUptoCardSaid : Prop := Claim7.holds Tryz.pinned (.plain (OpenSpec.upto localetextRoundTripsSpec)) localetextRoundTripsUptoCard

/-- THE SECOND FORM's CARD OF 'texttoolslaw06.LocaletextReads'. -/
def localetextReadsUptoCard : Claim7 := { stood := { row := localetextReadsUptoRow, standIns := [], harness := (true, "d42fab654b135b8780c66e9e80d5e94753297736285972ec4ee0cc96306326a7"), looks := true }, kinds := [], alts := [], laidByText := true, laidKinds := [.data, .data, .data, .data, .sentinel, .sentinel, .pinned], laidTests := true, laidLooks := .later }
def LocaletextReadsUptoCardSaid : Prop := Claim7.holds Tryz.pinned (.plain (OpenSpec.upto localetextReadsSpec)) localetextReadsUptoCard

/-- THE SECOND FORM's CARD OF 'texttoolslaw06.LocaletextSkips'. -/
def localetextSkipsUptoCard : Claim7 := { stood := { row := localetextSkipsUptoRow, standIns := [], harness := (true, "d42fab654b135b8780c66e9e80d5e94753297736285972ec4ee0cc96306326a7"), looks := true }, kinds := [], alts := [], laidByText := true, laidKinds := [.data, .data, .data, .data, .sentinel, .sentinel, .pinned], laidTests := true, laidLooks := .later }
def LocaletextSkipsUptoCardSaid : Prop := Claim7.holds Tryz.pinned (.plain (OpenSpec.upto localetextSkipsSpec)) localetextSkipsUptoCard

/-- THE SECOND FORM's CARD OF 'texttoolslaw06.LocaletextChanges'. -/
def localetextChangesUptoCard : Claim7 := { stood := { row := localetextChangesUptoRow, standIns := [], harness := (true, "d42fab654b135b8780c66e9e80d5e94753297736285972ec4ee0cc96306326a7"), looks := true }, kinds := [], alts := [], laidByText := true, laidKinds := [.data, .data, .data, .data, .sentinel, .sentinel, .pinned], laidTests := true, laidLooks := .later }
def LocaletextChangesUptoCardSaid : Prop := Claim7.holds Tryz.pinned (.plain (OpenSpec.upto localetextChangesSpec)) localetextChangesUptoCard

/-- THE SECOND FORM's CARD OF 'texttoolslaw25.TrExpands'. -/
def trExpandsUptoCard : Claim7 := { stood := { row := trExpandsUptoRow, standIns := [], harness := (true, "d42fab654b135b8780c66e9e80d5e94753297736285972ec4ee0cc96306326a7"), looks := true }, kinds := [], alts := [], laidByText := true, laidKinds := [.data, .data, .data, .sentinel, .sentinel], laidTests := true, laidLooks := .later }
def TrExpandsUptoCardSaid : Prop := Claim7.holds Tryz.pinned (.plain (OpenSpec.upto trExpandsSpec)) trExpandsUptoCard

/-- THE SECOND FORM's CARD OF 'texttoolslaw25.TrParses'. -/
def trParsesUptoCard : Claim7 := { stood := { row := trParsesUptoRow, standIns := [], harness := (true, "d42fab654b135b8780c66e9e80d5e94753297736285972ec4ee0cc96306326a7"), looks := true }, kinds := [], alts := [], laidByText := true, laidKinds := [.data, .data, .data, .sentinel, .sentinel], laidTests := true, laidLooks := .later }
def TrParsesUptoCardSaid : Prop := Claim7.holds Tryz.pinned (.plain (OpenSpec.upto trParsesSpec)) trParsesUptoCard

/-- THE SECOND FORM's CARD OF 'texttoolslaw25.TrReturns'. -/
def trReturnsUptoCard : Claim7 := { stood := { row := trReturnsUptoRow, standIns := [], harness := (true, "d42fab654b135b8780c66e9e80d5e94753297736285972ec4ee0cc96306326a7"), looks := true }, kinds := [], alts := [], laidByText := true, laidKinds := [.data, .data, .data, .sentinel, .sentinel], laidTests := true, laidLooks := .later }
def TrReturnsUptoCardSaid : Prop := Claim7.holds Tryz.pinned (.plain (OpenSpec.upto trReturnsSpec)) trReturnsUptoCard
end Rows
end Go.Proofs.YtienfdjfochlcaaGreatDoor
