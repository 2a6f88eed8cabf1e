/-
  DERIVED. GIVEN WITH THE SEED: THE CARDS: each row of YtgjdmlhgapmflaaDoorRows.lean that lists a variable, with what it lists TIED to the program's text (the seventh form; the later family's looks); each row that meets fmt, with fmt's text TOLD by the authors' own Lean function (tested against real Go, not proved from fmt's source: count such statements apart). THE CARD IS WHAT COUNTS. Prove the row's statement (the work); the ties are given (YtgjdmlhgapmflaaDoorTie.lean); close each card by the builder's one call (the guide's Derived/Test/ToyasCard.lean, 'card_holds'). Laid BY PROGRAM, IN A SANDBOX (cutbox-door.mjs). By AI agents, Wed Nov 11 2026. No macro, syntax, notation, axiom, sorry.
-/
import Derived.Test.YtgjdmlhgapmflaaDoorRows
import GoSem.ClaimSeven
namespace Go.Proofs.YtgjdmlhgapmflaaDoor
namespace Rows

/-- THE TIED CARD OF 'texttoolslaw01.NumDivides'. -/
def numDividesCard : Claim7 := { stood := { row := numDividesRow, standIns := [], harness := (true, "7ae944dbb5814da7f71599e2a0d850bb7f683783f482a44cdf829d455495cdd4"), looks := true }, kinds := [], alts := [], laidByText := true, laidKinds := [.data, .data, .data, .sentinel, .sentinel], laidTests := true, laidLooks := .later }
def NumDividesCardSaid : Prop := Claim7.holds Tryd.pinned (.plain (OpenSpec.ofChange numDividesSpec)) numDividesCard

/-- THE TIED CARD OF 'texttoolslaw01.NumParses'. -/
def numParsesCard : Claim7 := { stood := { row := numParsesRow, standIns := [], harness := (true, "7ae944dbb5814da7f71599e2a0d850bb7f683783f482a44cdf829d455495cdd4"), looks := true }, kinds := [], alts := [], laidByText := true, laidKinds := [.data, .data, .data, .sentinel, .sentinel], laidTests := true, laidLooks := .later }
def NumParsesCardSaid : Prop := Claim7.holds Tryd.pinned (.plain (OpenSpec.ofChange numParsesSpec)) numParsesCard

/-- THE TIED CARD OF 'texttoolslaw01.NumReturns'. -/
def numReturnsCard : Claim7 := { stood := { row := numReturnsRow, standIns := [], harness := (true, "7ae944dbb5814da7f71599e2a0d850bb7f683783f482a44cdf829d455495cdd4"), looks := true }, kinds := [], alts := [], laidByText := true, laidKinds := [.data, .data, .data, .sentinel, .sentinel], laidTests := true, laidLooks := .later }
def NumReturnsCardSaid : Prop := Claim7.holds Tryd.pinned (.plain (OpenSpec.ofChange numReturnsSpec)) numReturnsCard

/-- THE TIED CARD OF 'texttoolslaw01.NumAdds'. -/
def numAddsCard : Claim7 := { stood := { row := numAddsRow, standIns := [], harness := (true, "7ae944dbb5814da7f71599e2a0d850bb7f683783f482a44cdf829d455495cdd4"), looks := true }, kinds := [], alts := [], laidByText := true, laidKinds := [.data, .data, .data, .sentinel, .sentinel], laidTests := true, laidLooks := .later }
def NumAddsCardSaid : Prop := Claim7.holds Tryd.pinned (.plain (OpenSpec.ofChange numAddsSpec)) numAddsCard

/-- THE TIED CARD OF 'texttoolslaw01.NumUndoes'. -/
def numUndoesCard : Claim7 := { stood := { row := numUndoesRow, standIns := [], harness := (true, "7ae944dbb5814da7f71599e2a0d850bb7f683783f482a44cdf829d455495cdd4"), looks := true }, kinds := [], alts := [], laidByText := true, laidKinds := [.data, .data, .data, .sentinel, .sentinel], laidTests := true, laidLooks := .later }
def NumUndoesCardSaid : Prop := Claim7.holds Tryd.pinned (.plain (OpenSpec.ofChange numUndoesSpec)) numUndoesCard

/-- THE TIED CARD OF 'texttoolslaw57.DiagnosticDiffers'. -/
def diagnosticDiffersCard : Claim7 := { stood := { row := diagnosticDiffersRow, standIns := [], harness := (true, "7ae944dbb5814da7f71599e2a0d850bb7f683783f482a44cdf829d455495cdd4"), looks := true }, kinds := [], alts := [], laidByText := true, laidKinds := [.data, .data, .data, .data], laidTests := true, laidLooks := .later }
def DiagnosticDiffersCardSaid : Prop := Claim7.holds Tryd.pinned (.plain (OpenSpec.ofChange diagnosticDiffersSpec)) diagnosticDiffersCard

/-- THE SECOND FORM's CARD OF 'texttoolslaw01.NumDivides'. -/
def numDividesUptoCard : Claim7 := { stood := { row := numDividesUptoRow, standIns := [], harness := (true, "7ae944dbb5814da7f71599e2a0d850bb7f683783f482a44cdf829d455495cdd4"), looks := true }, kinds := [], alts := [], laidByText := true, laidKinds := [.data, .data, .data, .sentinel, .sentinel], laidTests := true, laidLooks := .later }
def NumDividesUptoCardSaid : Prop := Claim7.holds Tryd.pinned (.plain (OpenSpec.upto numDividesSpec)) numDividesUptoCard

/-- THE SECOND FORM's CARD OF 'texttoolslaw01.NumParses'. -/
def numParsesUptoCard : Claim7 := { stood := { row := numParsesUptoRow, standIns := [], harness := (true, "7ae944dbb5814da7f71599e2a0d850bb7f683783f482a44cdf829d455495cdd4"), looks := true }, kinds := [], alts := [], laidByText := true, laidKinds := [.data, .data, .data, .sentinel, .sentinel], laidTests := true, laidLooks := .later }
def NumParsesUptoCardSaid : Prop := Claim7.holds Tryd.pinned (.plain (OpenSpec.upto numParsesSpec)) numParsesUptoCard

/-- THE SECOND FORM's CARD OF 'texttoolslaw01.NumReturns'. -/
def numReturnsUptoCard : Claim7 := { stood := { row := numReturnsUptoRow, standIns := [], harness := (true, "7ae944dbb5814da7f71599e2a0d850bb7f683783f482a44cdf829d455495cdd4"), looks := true }, kinds := [], alts := [], laidByText := true, laidKinds := [.data, .data, .data, .sentinel, .sentinel], laidTests := true, laidLooks := .later }
def NumReturnsUptoCardSaid : Prop := Claim7.holds Tryd.pinned (.plain (OpenSpec.upto numReturnsSpec)) numReturnsUptoCard

/-- THE SECOND FORM's CARD OF 'texttoolslaw01.NumAdds'. -/
def numAddsUptoCard : Claim7 := { stood := { row := numAddsUptoRow, standIns := [], harness := (true, "7ae944dbb5814da7f71599e2a0d850bb7f683783f482a44cdf829d455495cdd4"), looks := true }, kinds := [], alts := [], laidByText := true, laidKinds := [.data, .data, .data, .sentinel, .sentinel], laidTests := true, laidLooks := .later }
def NumAddsUptoCardSaid : Prop := Claim7.holds Tryd.pinned (.plain (OpenSpec.upto numAddsSpec)) numAddsUptoCard

/-- THE SECOND FORM's CARD OF 'texttoolslaw01.NumUndoes'. -/
def numUndoesUptoCard : Claim7 := { stood := { row := numUndoesUptoRow, standIns := [], harness := (true, "7ae944dbb5814da7f71599e2a0d850bb7f683783f482a44cdf829d455495cdd4"), looks := true }, kinds := [], alts := [], laidByText := true, laidKinds := [.data, .data, .data, .sentinel, .sentinel], laidTests := true, laidLooks := .later }
def NumUndoesUptoCardSaid : Prop := Claim7.holds Tryd.pinned (.plain (OpenSpec.upto numUndoesSpec)) numUndoesUptoCard

/-- THE SECOND FORM's CARD OF 'texttoolslaw57.DiagnosticDiffers'. -/
def diagnosticDiffersUptoCard : Claim7 := { stood := { row := diagnosticDiffersUptoRow, standIns := [], harness := (true, "7ae944dbb5814da7f71599e2a0d850bb7f683783f482a44cdf829d455495cdd4"), looks := true }, kinds := [], alts := [], laidByText := true, laidKinds := [.data, .data, .data, .data], laidTests := true, laidLooks := .later }
def DiagnosticDiffersUptoCardSaid : Prop := Claim7.holds Tryd.pinned (.plain (OpenSpec.upto diagnosticDiffersSpec)) diagnosticDiffersUptoCard
end Rows
end Go.Proofs.YtgjdmlhgapmflaaDoor
