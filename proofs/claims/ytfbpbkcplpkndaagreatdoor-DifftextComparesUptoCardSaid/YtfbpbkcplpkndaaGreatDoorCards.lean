/-
  DERIVED. GIVEN WITH THE SEED: THE CARDS: each row of YtfbpbkcplpkndaaGreatDoorRows.lean that lists a variable, with what it lists TIED to the program's text (the seventh form; the later family's looks); each row that meets fmt, with fmt's text TOLD by the authors' own Lean function (tested against real Go, not proved from fmt's source: count such statements apart). THE CARD IS WHAT COUNTS. Prove the row's statement (the work); the ties are given (YtfbpbkcplpkndaaGreatDoorTie.lean); close each card by the builder's one call (the guide's Derived/Test/ToyasCard.lean, 'card_holds'). Laid BY PROGRAM, IN A SANDBOX (cutbox-door.mjs). By AI agents, Wed Nov 11 2026. No macro, syntax, notation, axiom, sorry.
-/
import Derived.Test.YtfbpbkcplpkndaaGreatDoorRows
import GoSem.ClaimSeven
namespace Go.Proofs.YtfbpbkcplpkndaaGreatDoor
namespace Rows

/-- THE TIED CARD OF 'texttoolslaw33.DifftextCompares'. -/
def difftextComparesCard : Claim7 := { stood := { row := difftextComparesRow, standIns := [], harness := (true, "716adcaabbd27813a03fcd2d4a1399ef73c2702623facf6f03bb98e68aff527e"), looks := true }, kinds := [], alts := [], laidByText := true, laidKinds := [.data, .data, .data, .data, .sentinel, .sentinel, .pinned], laidTests := true, laidLooks := .later }
def DifftextComparesCardSaid : Prop := Claim7.holds Tryz.pinned (.plain (OpenSpec.ofChange difftextComparesSpec)) difftextComparesCard

/-- THE TIED CARD OF 'texttoolslaw33.DifftextWrites'. -/
def difftextWritesCard : Claim7 := { stood := { row := difftextWritesRow, standIns := [], harness := (true, "716adcaabbd27813a03fcd2d4a1399ef73c2702623facf6f03bb98e68aff527e"), looks := true }, kinds := [], alts := [], laidByText := true, laidKinds := [.data, .data, .data, .data, .sentinel, .sentinel, .pinned], laidTests := true, laidLooks := .later }
def DifftextWritesCardSaid : Prop := Claim7.holds Tryz.pinned (.plain (OpenSpec.ofChange difftextWritesSpec)) difftextWritesCard

/-- THE TIED CARD OF 'texttoolslaw33.DifftextParses'. -/
def difftextParsesCard : Claim7 := { stood := { row := difftextParsesRow, standIns := [], harness := (true, "716adcaabbd27813a03fcd2d4a1399ef73c2702623facf6f03bb98e68aff527e"), looks := true }, kinds := [], alts := [], laidByText := true, laidKinds := [.data, .data, .data, .data, .sentinel, .sentinel, .pinned], laidTests := true, laidLooks := .later }
def DifftextParsesCardSaid : Prop := Claim7.holds Tryz.pinned (.plain (OpenSpec.ofChange difftextParsesSpec)) difftextParsesCard

/-- THE TIED CARD OF 'texttoolslaw33.DifftextRoundTrips'. -/
def difftextRoundTripsCard : Claim7 := { stood := { row := difftextRoundTripsRow, standIns := [], harness := (true, "716adcaabbd27813a03fcd2d4a1399ef73c2702623facf6f03bb98e68aff527e"), looks := true }, kinds := [], alts := [], laidByText := true, laidKinds := [.data, .data, .data, .data, .sentinel, .sentinel, .pinned], laidTests := true, laidLooks := .later }
def DifftextRoundTripsCardSaid : Prop := Claim7.holds Tryz.pinned (.plain (OpenSpec.ofChange difftextRoundTripsSpec)) difftextRoundTripsCard

/-- THE TIED CARD OF 'texttoolslaw33.DifftextReads'. -/
def difftextReadsCard : Claim7 := { stood := { row := difftextReadsRow, standIns := [], harness := (true, "716adcaabbd27813a03fcd2d4a1399ef73c2702623facf6f03bb98e68aff527e"), looks := true }, kinds := [], alts := [], laidByText := true, laidKinds := [.data, .data, .data, .data, .sentinel, .sentinel, .pinned], laidTests := true, laidLooks := .later }
def DifftextReadsCardSaid : Prop := Claim7.holds Tryz.pinned (.plain (OpenSpec.ofChange difftextReadsSpec)) difftextReadsCard

/-- THE TIED CARD OF 'texttoolslaw33.DifftextRebuilds'. -/
def difftextRebuildsCard : Claim7 := { stood := { row := difftextRebuildsRow, standIns := [], harness := (true, "716adcaabbd27813a03fcd2d4a1399ef73c2702623facf6f03bb98e68aff527e"), looks := true }, kinds := [], alts := [], laidByText := true, laidKinds := [.data, .data, .data, .data, .sentinel, .sentinel, .pinned], laidTests := true, laidLooks := .later }
def DifftextRebuildsCardSaid : Prop := Claim7.holds Tryz.pinned (.plain (OpenSpec.ofChange difftextRebuildsSpec)) difftextRebuildsCard

/-- THE TIED CARD OF 'texttoolslaw33.DifftextConcise'. -/
def difftextConciseCard : Claim7 := { stood := { row := difftextConciseRow, standIns := [], harness := (true, "716adcaabbd27813a03fcd2d4a1399ef73c2702623facf6f03bb98e68aff527e"), looks := true }, kinds := [], alts := [], laidByText := true, laidKinds := [.data, .data, .data, .data, .sentinel, .sentinel, .pinned], laidTests := true, laidLooks := .later }
def DifftextConciseCardSaid : Prop := Claim7.holds Tryz.pinned (.plain (OpenSpec.ofChange difftextConciseSpec)) difftextConciseCard

/-- THE SECOND FORM's CARD OF 'texttoolslaw33.DifftextCompares'. -/
def difftextComparesUptoCard : Claim7 := { stood := { row := difftextComparesUptoRow, standIns := [], harness := (true, "716adcaabbd27813a03fcd2d4a1399ef73c2702623facf6f03bb98e68aff527e"), looks := true }, kinds := [], alts := [], laidByText := true, laidKinds := [.data, .data, .data, .data, .sentinel, .sentinel, .pinned], laidTests := true, laidLooks := .later }
def DifftextComparesUptoCardSaid : Prop := Claim7.holds Tryz.pinned (.plain (OpenSpec.upto difftextComparesSpec)) difftextComparesUptoCard

/-- THE SECOND FORM's CARD OF 'texttoolslaw33.DifftextWrites'. -/
def difftextWritesUptoCard : Claim7 := { stood := { row := difftextWritesUptoRow, standIns := [], harness := (true, "716adcaabbd27813a03fcd2d4a1399ef73c2702623facf6f03bb98e68aff527e"), looks := true }, kinds := [], alts := [], laidByText := true, laidKinds := [.data, .data, .data, .data, .sentinel, .sentinel, .pinned], laidTests := true, laidLooks := .later }
def DifftextWritesUptoCardSaid : Prop := Claim7.holds Tryz.pinned (.plain (OpenSpec.upto difftextWritesSpec)) difftextWritesUptoCard

/-- THE SECOND FORM's CARD OF 'texttoolslaw33.DifftextParses'. -/
def difftextParsesUptoCard : Claim7 := { stood := { row := difftextParsesUptoRow, standIns := [], harness := (true, "716adcaabbd27813a03fcd2d4a1399ef73c2702623facf6f03bb98e68aff527e"), looks := true }, kinds := [], alts := [], laidByText := true, laidKinds := [.data, .data, .data, .data, .sentinel, .sentinel, .pinned], laidTests := true, laidLooks := .later }
def DifftextParsesUptoCardSaid : Prop := Claim7.holds Tryz.pinned (.plain (OpenSpec.upto difftextParsesSpec)) difftextParsesUptoCard

/-- THE SECOND FORM's CARD OF 'texttoolslaw33.DifftextRoundTrips'. -/
def difftextRoundTripsUptoCard : Claim7 := { stood := { row := difftextRoundTripsUptoRow, standIns := [], harness := (true, "716adcaabbd27813a03fcd2d4a1399ef73c2702623facf6f03bb98e68aff527e"), looks := true }, kinds := [], alts := [], laidByText := true, laidKinds := [.data, .data, .data, .data, .sentinel, .sentinel, .pinned], laidTests := true, laidLooks := .later }
def DifftextRoundTripsUptoCardSaid : Prop := Claim7.holds Tryz.pinned (.plain (OpenSpec.upto difftextRoundTripsSpec)) difftextRoundTripsUptoCard

/-- THE SECOND FORM's CARD OF 'texttoolslaw33.DifftextReads'. -/
def difftextReadsUptoCard : Claim7 := { stood := { row := difftextReadsUptoRow, standIns := [], harness := (true, "716adcaabbd27813a03fcd2d4a1399ef73c2702623facf6f03bb98e68aff527e"), looks := true }, kinds := [], alts := [], laidByText := true, laidKinds := [.data, .data, .data, .data, .sentinel, .sentinel, .pinned], laidTests := true, laidLooks := .later }
def DifftextReadsUptoCardSaid : Prop := Claim7.holds Tryz.pinned (.plain (OpenSpec.upto difftextReadsSpec)) difftextReadsUptoCard

/-- THE SECOND FORM's CARD OF 'texttoolslaw33.DifftextRebuilds'. -/
def difftextRebuildsUptoCard : Claim7 := { stood := { row := difftextRebuildsUptoRow, standIns := [], harness := (true, "716adcaabbd27813a03fcd2d4a1399ef73c2702623facf6f03bb98e68aff527e"), looks := true }, kinds := [], alts := [], laidByText := true, laidKinds := [.data, .data, .data, .data, .sentinel, .sentinel, .pinned], laidTests := true, laidLooks := .later }
def DifftextRebuildsUptoCardSaid : Prop := Claim7.holds Tryz.pinned (.plain (OpenSpec.upto difftextRebuildsSpec)) difftextRebuildsUptoCard

/-- THE SECOND FORM's CARD OF 'texttoolslaw33.DifftextConcise'. -/
def difftextConciseUptoCard : Claim7 := { stood := { row := difftextConciseUptoRow, standIns := [], harness := (true, "716adcaabbd27813a03fcd2d4a1399ef73c2702623facf6f03bb98e68aff527e"), looks := true }, kinds := [], alts := [], laidByText := true, laidKinds := [.data, .data, .data, .data, .sentinel, .sentinel, .pinned], laidTests := true, laidLooks := .later }
def DifftextConciseUptoCardSaid : Prop := Claim7.holds Tryz.pinned (.plain (OpenSpec.upto difftextConciseSpec)) difftextConciseUptoCard
end Rows
end Go.Proofs.YtfbpbkcplpkndaaGreatDoor
