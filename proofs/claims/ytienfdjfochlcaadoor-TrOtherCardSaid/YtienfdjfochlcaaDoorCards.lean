/-
  DERIVED. GIVEN WITH THE SEED: THE CARDS: each row of YtienfdjfochlcaaDoorRows.lean that lists a variable, with what it lists TIED to the program's text (the seventh form; the later family's looks); each row that meets fmt, with fmt's text TOLD by the authors' own Lean function (tested against real Go, not proved from fmt's source: count such statements apart). THE CARD IS WHAT COUNTS. Prove the row's statement (the work); the ties are given (YtienfdjfochlcaaDoorTie.lean); close each card by the builder's one call (the guide's Derived/Test/ToyasCard.lean, 'card_holds'). Laid BY PROGRAM, IN A SANDBOX (cutbox-door.mjs). By AI agents, Wed Nov 11 2026. No macro, syntax, notation, axiom, sorry.
-/
import Derived.Test.YtienfdjfochlcaaDoorRows
import GoSem.ClaimSeven
namespace Go.Proofs.YtienfdjfochlcaaDoor
namespace Rows

/-- THE TIED CARD OF 'texttoolslaw25.TrTranslates'. -/
def trTranslatesCard : Claim7 := { stood := { row := trTranslatesRow, standIns := [], harness := (true, "54aa2bc80472950e5c4614fd679c29714613f3a6e5f517b84a9380f4c7960a6e"), looks := true }, kinds := [], alts := [], laidByText := true, laidKinds := [.data, .data, .data, .sentinel, .sentinel], laidTests := true, laidLooks := .later }
def TrTranslatesCardSaid : Prop := Claim7.holds Tryd.pinned (.plain (OpenSpec.ofChange trTranslatesSpec)) trTranslatesCard

/-- THE TIED CARD OF 'texttoolslaw25.TrOther'. -/
def trOtherCard : Claim7 := { stood := { row := trOtherRow, standIns := [], harness := (true, "54aa2bc80472950e5c4614fd679c29714613f3a6e5f517b84a9380f4c7960a6e"), looks := true }, kinds := [], alts := [], laidByText := true, laidKinds := [.data, .data, .data, .sentinel, .sentinel], laidTests := true, laidLooks := .later }
def TrOtherCardSaid : Prop := Claim7.holds Tryd.pinned (.plain (OpenSpec.ofChange trOtherSpec)) trOtherCard

/-- THE TIED CARD OF 'texttoolslaw25.TrDeletes'. -/
def trDeletesCard : Claim7 := { stood := { row := trDeletesRow, standIns := [], harness := (true, "54aa2bc80472950e5c4614fd679c29714613f3a6e5f517b84a9380f4c7960a6e"), looks := true }, kinds := [], alts := [], laidByText := true, laidKinds := [.data, .data, .data, .sentinel, .sentinel], laidTests := true, laidLooks := .later }
def TrDeletesCardSaid : Prop := Claim7.holds Tryd.pinned (.plain (OpenSpec.ofChange trDeletesSpec)) trDeletesCard

/-- THE SECOND FORM's CARD OF 'texttoolslaw25.TrTranslates'. -/
def trTranslatesUptoCard : Claim7 := { stood := { row := trTranslatesUptoRow, standIns := [], harness := (true, "54aa2bc80472950e5c4614fd679c29714613f3a6e5f517b84a9380f4c7960a6e"), looks := true }, kinds := [], alts := [], laidByText := true, laidKinds := [.data, .data, .data, .sentinel, .sentinel], laidTests := true, laidLooks := .later }
def TrTranslatesUptoCardSaid : Prop := Claim7.holds Tryd.pinned (.plain (OpenSpec.upto trTranslatesSpec)) trTranslatesUptoCard

/-- THE SECOND FORM's CARD OF 'texttoolslaw25.TrOther'. -/
def trOtherUptoCard : Claim7 := { stood := { row := trOtherUptoRow, standIns := [], harness := (true, "54aa2bc80472950e5c4614fd679c29714613f3a6e5f517b84a9380f4c7960a6e"), looks := true }, kinds := [], alts := [], laidByText := true, laidKinds := [.data, .data, .data, .sentinel, .sentinel], laidTests := true, laidLooks := .later }
def TrOtherUptoCardSaid : Prop := Claim7.holds Tryd.pinned (.plain (OpenSpec.upto trOtherSpec)) trOtherUptoCard

/-- THE SECOND FORM's CARD OF 'texttoolslaw25.TrDeletes'. -/
def trDeletesUptoCard : Claim7 := { stood := { row := trDeletesUptoRow, standIns := [], harness := (true, "54aa2bc80472950e5c4614fd679c29714613f3a6e5f517b84a9380f4c7960a6e"), looks := true }, kinds := [], alts := [], laidByText := true, laidKinds := [.data, .data, .data, .sentinel, .sentinel], laidTests := true, laidLooks := .later }
def TrDeletesUptoCardSaid : Prop := Claim7.holds Tryd.pinned (.plain (OpenSpec.upto trDeletesSpec)) trDeletesUptoCard
end Rows
end Go.Proofs.YtienfdjfochlcaaDoor
