/- The card of NumParses holds. -/
import Derived.Test.YtgjdmlhgapmflaaDoorNuC
import Derived.Test.YtgjdmlhgapmflaaDoorTie
import Derived.Test.YtgjdmlhgapmflaaDoorCards
import Derived.SevenTiedAt
namespace Go.Proofs.YtgjdmlhgapmflaaDoor
set_option linter.unusedVariables false
set_option linter.unusedSimpArgs false
open Go.RowKit Go.ChangeShapes Go.WideShapes Go.ChangeAt Go.Deep

set_option maxRecDepth 100000 in
theorem nparses_lifted (os : Os) (started : os.Started) (H : Type) (enc : TypeId × Value → H) :
    ReturnsInHanded {} Tryd.checked os 4 .any (fun w args => (Rows.numParsesSpec.pre enc Tryd.prog Tryd.f4 Rows.numParsesRow.domain false w args ∧ laidMetH Tryd.prog Rows.numParsesRow.laid w) ∧ sizedMet enc Tryd.prog Tryd.f4 (OpenSpec.ofChange Rows.numParsesSpec) false w args) (Rows.numParsesSpec.post enc Tryd.prog Tryd.f4 false true false false) := by
  refine law_liftedL started (by kernel_rfl) Tryd.func4 rfl ?_ rfl (of_decide_eq_true (by kernel_rfl))
    (ChangeSpec.witness_shaped (enc := enc) (C := Tryd.checked) (os := os) (X := fun w _ => laidMetH Tryd.prog Rows.numParsesRow.laid w) false (World.doorLaid Tryd.prog 2000 os) #[.string .empty] 8 rfl (World.shaped_of_RefB (by kernel_rfl) (by kernel_rfl)) (by kernel_rfl) (by kernel_rfl) (by kernel_rfl) (door_met os _)) ?_
  · intro ds hl
    match ds, hl with
    | [d0], _ => rfl
  · intro W base args ds p hval hA hsz hL
    rw [Tryd.params4] at hA hval
    obtain ⟨v0, d0, rfl, rfl, h0⟩ := trodAll_one hA
    obtain ⟨s0, l0, r0, -⟩ := rep_str (hval 0 9 v0 rfl rfl) h0
    exact calls_true (R_sound FT_ok XS_ok (parses_law XS_num s0 l0)) (gr_num hL) (repL_of1 r0)
theorem nparses_row : Rows.NumParsesSaid :=
  OpenClaim.holds_of_wide 4 Tryd.f4 rfl rfl rfl rfl rfl rfl rfl ⟨rfl, rfl, rfl, rfl, rfl⟩ rfl rfl rfl rfl rfl (by kernel_rfl) Tryd.func4 (by kernel_rfl)
    (of_decide_eq_true (by kernel_rfl)) (by unfold Func.isWrapper; first | (rw [if_pos (by decide +kernel)]; kernel_rfl) | (rw [if_neg (by decide +kernel)]; exact ⟨rfl, rfl⟩))
    (fun os started H enc _ => nparses_lifted os started H enc)
theorem nparses_holds : Rows.NumParsesCardSaid :=
  Claim7.holds_tied_plain_at .later [] Rows.numParsesCard.laidKinds true Rows.numParsesCard.stood.harness true
    nparses_row (fun _ h => by cases h) (by kernel_rfl) (fun _ h => by cases h) numParses_row_tie rfl ⟨rfl, rfl⟩ (by kernel_rfl) rfl
    (fun f fn hf hfn => by
      obtain rfl : f = 4 := Option.some.inj ((show Tryd.prog.funcNamed Rows.numParsesRow.func = some 4 by kernel_rfl).symm.trans hf) |>.symm
      obtain rfl : fn = Tryd.f4 := (Option.some.inj (Tryd.func4.symm.trans hfn)).symm
      exact ⟨by kernel_rfl, fun j t ht => by
        rw [Tryd.params4] at ht
        have hm : t ∈ [9] := by simpa using Array.mem_of_getElem? ht
        have hall : ([9].all fun u => !Tryd.prog.wantsStandIn u) = true := by kernel_rfl
        exact (show Tryd.prog.wantsStandIn t = false by simpa using List.all_eq_true.1 hall t hm)⟩)
    (by kernel_rfl)
#print axioms nparses_holds
end Go.Proofs.YtgjdmlhgapmflaaDoor
