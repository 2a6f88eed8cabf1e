/- The card of NumUndoes holds. -/
import Derived.Test.YtgjdmlhgapmflaaDoorNuC
import Derived.Test.YtgjdmlhgapmflaaDoorTie
import Derived.Test.YtgjdmlhgapmflaaDoorCards
import Derived.SevenTiedAt
namespace Go.Proofs.YtgjdmlhgapmflaaDoor
set_option linter.unusedVariables false
set_option linter.unusedSimpArgs false
open Go.RowKit Go.ChangeShapes Go.WideShapes Go.ChangeAt Go.Deep

set_option maxRecDepth 100000 in
theorem nundoes_lifted (os : Os) (started : os.Started) (H : Type) (enc : TypeId × Value → H) :
    ReturnsInHanded {} Tryd.checked os 7 .any (fun w args => (Rows.numUndoesSpec.pre enc Tryd.prog Tryd.f7 Rows.numUndoesRow.domain false w args ∧ laidMetH Tryd.prog Rows.numUndoesRow.laid w) ∧ sizedMet enc Tryd.prog Tryd.f7 (OpenSpec.ofChange Rows.numUndoesSpec) false w args) (Rows.numUndoesSpec.post enc Tryd.prog Tryd.f7 false true false false) := by
  refine law_liftedL started (by kernel_rfl) Tryd.func7 rfl ?_ rfl (of_decide_eq_true (by kernel_rfl))
    (ChangeSpec.witness_shaped (enc := enc) (C := Tryd.checked) (os := os) (X := fun w _ => laidMetH Tryd.prog Rows.numUndoesRow.laid w) false (World.doorLaid Tryd.prog 2000 os) #[.int .i64 0, .int .i64 0] 8 rfl (World.shaped_of_RefB (by kernel_rfl) (by kernel_rfl)) (by kernel_rfl) (by kernel_rfl) (by kernel_rfl) (door_met os _)) ?_
  · intro ds hl
    match ds, hl with
    | [d0, d1], _ => rfl
  · intro W base args ds p hval hA hsz hL
    rw [Tryd.params7] at hA hval
    obtain ⟨v0, v1, d0, d1, p0, p1, rfl, rfl, rfl, h0, h1⟩ := trodAll_two hA
    obtain ⟨n0, i0, r0⟩ := rep_i64 (hval 0 3 v0 rfl rfl) h0
    obtain ⟨n1, i1, r1⟩ := rep_i64 (hval 1 3 v1 rfl rfl) h1
    exact calls_true (R_sound FT_ok XS_ok (undoes_law XS_num n0 n1 i0 i1)) (gr_num hL) (repL_of2 r0 r1)
theorem nundoes_row : Rows.NumUndoesSaid :=
  OpenClaim.holds_of_wide 7 Tryd.f7 rfl rfl rfl rfl rfl rfl rfl ⟨rfl, rfl, rfl, rfl, rfl⟩ rfl rfl rfl rfl rfl (by kernel_rfl) Tryd.func7 (by kernel_rfl)
    (of_decide_eq_true (by kernel_rfl)) (by unfold Func.isWrapper; first | (rw [if_pos (by decide +kernel)]; kernel_rfl) | (rw [if_neg (by decide +kernel)]; exact ⟨rfl, rfl⟩))
    (fun os started H enc _ => nundoes_lifted os started H enc)
theorem nundoes_holds : Rows.NumUndoesCardSaid :=
  Claim7.holds_tied_plain_at .later [] Rows.numUndoesCard.laidKinds true Rows.numUndoesCard.stood.harness true
    nundoes_row (fun _ h => by cases h) (by kernel_rfl) (fun _ h => by cases h) numUndoes_row_tie rfl ⟨rfl, rfl⟩ (by kernel_rfl) rfl
    (fun f fn hf hfn => by
      obtain rfl : f = 7 := Option.some.inj ((show Tryd.prog.funcNamed Rows.numUndoesRow.func = some 7 by kernel_rfl).symm.trans hf) |>.symm
      obtain rfl : fn = Tryd.f7 := (Option.some.inj (Tryd.func7.symm.trans hfn)).symm
      exact ⟨by kernel_rfl, fun j t ht => by
        rw [Tryd.params7] at ht
        have hm : t ∈ [3, 3] := by simpa using Array.mem_of_getElem? ht
        have hall : ([3, 3].all fun u => !Tryd.prog.wantsStandIn u) = true := by kernel_rfl
        exact (show Tryd.prog.wantsStandIn t = false by simpa using List.all_eq_true.1 hall t hm)⟩)
    (by kernel_rfl)
#print axioms nundoes_holds
end Go.Proofs.YtgjdmlhgapmflaaDoor
