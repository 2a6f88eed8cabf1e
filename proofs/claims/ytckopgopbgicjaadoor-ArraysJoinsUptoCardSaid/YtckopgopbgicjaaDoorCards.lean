/-
  DERIVED. GIVEN WITH THE SEED: THE CARDS: each row of YtckopgopbgicjaaDoorRows.lean that lists a variable, with what it lists TIED to the program's text (the seventh form; the later family's looks); each row that meets fmt, with fmt's text TOLD by the authors' own Lean function (tested against real Go, not proved from fmt's source: count such statements apart). THE CARD IS WHAT COUNTS. Prove the row's statement (the work); the ties are given (YtckopgopbgicjaaDoorTie.lean); close each card by the builder's one call (the guide's Derived/Test/ToyasCard.lean, 'card_holds'). Laid BY PROGRAM, IN A SANDBOX (cutbox-door.mjs). By AI agents, Wed Nov 11 2026. No macro, syntax, notation, axiom, sorry.
-/
import Derived.Test.YtckopgopbgicjaaDoorRows
import GoSem.ClaimSeven
namespace Go.Proofs.YtckopgopbgicjaaDoor
namespace Rows

/-- THE TIED CARD OF 'texttoolslaw45.ArraysJoins'. -/
def arraysJoinsCard : Claim7 := { stood := { row := arraysJoinsRow, standIns := [], harness := (true, "b43501322e9d56fe9c8f38e8d173424f74f9d37899595998f710c1ab4e36d678"), looks := false }, kinds := [], alts := [], laidByText := true, laidKinds := [.data, .data, .data], laidTests := true, laidLooks := .later }
def ArraysJoinsCardSaid : Prop := Claim7.holds Tryd.pinned (.plain (OpenSpec.ofChange arraysJoinsSpec)) arraysJoinsCard

/-- THE SECOND FORM's CARD OF 'texttoolslaw45.ArraysJoins'. -/
def arraysJoinsUptoCard : Claim7 := { stood := { row := arraysJoinsUptoRow, standIns := [], harness := (true, "b43501322e9d56fe9c8f38e8d173424f74f9d37899595998f710c1ab4e36d678"), looks := false }, kinds := [], alts := [], laidByText := true, laidKinds := [.data, .data, .data], laidTests := true, laidLooks := .later }
def ArraysJoinsUptoCardSaid : Prop := Claim7.holds Tryd.pinned (.plain (OpenSpec.upto arraysJoinsSpec)) arraysJoinsUptoCard
end Rows
end Go.Proofs.YtckopgopbgicjaaDoor
