/- The card of TrDeletes holds. -/
import Derived.Test.YtienfdjfochlcaaDoorPde
import Derived.Test.YtienfdjfochlcaaDoorTie
import Derived.Test.YtienfdjfochlcaaDoorCards
import Derived.SevenTiedAt
namespace Go.Proofs.YtienfdjfochlcaaDoor
set_option linter.unusedVariables false
set_option linter.unusedSimpArgs false
open Go.RowKit Go.ChangeShapes Go.WideShapes Go.ChangeAt Go.Deep

set_option maxRecDepth 100000 in
theorem trdeletes_lifted (os : Os) (started : os.Started) (H : Type) (enc : TypeId × Value → H) :
    ReturnsInHanded {} Tryd.checked os 5 .any (fun w args => (Rows.trDeletesSpec.pre enc Tryd.prog Tryd.f5 Rows.trDeletesRow.domain false w args ∧ laidMetH Tryd.prog Rows.trDeletesRow.laid w) ∧ sizedMet enc Tryd.prog Tryd.f5 (OpenSpec.ofChange Rows.trDeletesSpec) false w args) (Rows.trDeletesSpec.post enc Tryd.prog Tryd.f5 false true false false) := by
  refine law_liftedO started (by kernel_rfl) Tryd.func5 rfl ?_ rfl (of_decide_eq_true (by kernel_rfl))
    (ChangeSpec.witness_shaped (enc := enc) (C := Tryd.checked) (os := os) (X := fun w _ => laidMetH Tryd.prog Rows.trDeletesRow.laid w) false (World.laidAll Tryd.prog os Rows.trDeletesRow.laid) #[.string .empty, .string .empty] 8 (World.laidAll_os _ _ _) (World.shaped_of_ZipB (by kernel_rfl) (by kernel_rfl)) (by kernel_rfl) (by kernel_rfl) (by kernel_rfl) (door_met os _)) ?_
  · intro ds hl
    match ds, hl with
    | [d0, d1], _ => rfl
  · intro W base args ds p hval hA hL hSh
    rw [Tryd.params5] at hA hval
    obtain ⟨v0, v1, d0, d1, p0, p1, rfl, rfl, rfl, h0, h1⟩ := trodAll_two hA
    obtain ⟨l0, r0, e0⟩ := rep_str (hval 0 9 v0 rfl rfl) h0
    obtain ⟨l1, r1, e1⟩ := rep_str (hval 1 9 v1 rfl rfl) h1
    exact calls_true (R_sound FT_ok XS_ok (deletes_law awake_run (dStr d0) l0 (dStr d1) l1)) (gr_tr hL hSh) (repL_of2 r0 r1)
theorem trdeletes_row : Rows.TrDeletesSaid :=
  OpenClaim.holds_of_wide 5 Tryd.f5 rfl rfl rfl rfl rfl rfl rfl ⟨rfl, rfl, rfl, rfl, rfl⟩ rfl rfl rfl rfl rfl (by kernel_rfl) Tryd.func5 (by kernel_rfl)
    (of_decide_eq_true (by kernel_rfl)) (by unfold Func.isWrapper; first | (rw [if_pos (by decide +kernel)]; kernel_rfl) | (rw [if_neg (by decide +kernel)]; exact ⟨rfl, rfl⟩))
    (fun os started H enc _ => trdeletes_lifted os started H enc)
theorem trdeletes_holds : Rows.TrDeletesCardSaid :=
  Claim7.holds_tied_plain_at .later [] Rows.trDeletesCard.laidKinds true Rows.trDeletesCard.stood.harness true
    trdeletes_row (fun _ h => by cases h) (by kernel_rfl) (fun _ h => by cases h) trDeletes_row_tie rfl ⟨rfl, rfl⟩ (by kernel_rfl) rfl
    (fun f fn hf hfn => by
      obtain rfl : f = 5 := Option.some.inj ((show Tryd.prog.funcNamed Rows.trDeletesRow.func = some 5 by kernel_rfl).symm.trans hf) |>.symm
      obtain rfl : fn = Tryd.f5 := (Option.some.inj (Tryd.func5.symm.trans hfn)).symm
      exact ⟨by kernel_rfl, fun j t ht => by
        rw [Tryd.params5] at ht
        have hm : t ∈ [9, 9] := by simpa using Array.mem_of_getElem? ht
        have hall : ([9, 9].all fun u => !Tryd.prog.wantsStandIn u) = true := by kernel_rfl
        exact (show Tryd.prog.wantsStandIn t = false by simpa using List.all_eq_true.1 hall t hm)⟩)
    (by kernel_rfl)
#print axioms trdeletes_holds
end Go.Proofs.YtienfdjfochlcaaDoor
