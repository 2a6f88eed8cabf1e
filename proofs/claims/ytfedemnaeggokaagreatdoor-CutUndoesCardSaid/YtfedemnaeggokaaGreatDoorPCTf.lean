/- The card of CutSelects holds. -/
import Derived.Test.YtfedemnaeggokaaGreatDoorPf
import Derived.Test.YtfedemnaeggokaaGreatDoorTie
import Derived.Test.YtfedemnaeggokaaGreatDoorCards
import Derived.SevenTiedAt
namespace Go.Proofs.YtfedemnaeggokaaGreatDoor
set_option linter.unusedVariables false
set_option linter.unusedSimpArgs false
open Go.RowKit Go.ChangeShapes Go.WideShapes Go.ChangeAt Go.Deep

set_option maxRecDepth 100000 in
theorem cselects_lifted (os : Os) (started : os.Started) (H : Type) (enc : TypeId × Value → H) :
    ReturnsInHanded {} Tryz.checked os 8 .any (fun w args => (Rows.cutSelectsSpec.pre enc Tryz.prog Tryz.f8 Rows.cutSelectsRow.domain false w args ∧ laidMetH Tryz.prog Rows.cutSelectsRow.laid w) ∧ sizedMet enc Tryz.prog Tryz.f8 (OpenSpec.ofChange Rows.cutSelectsSpec) false w args) (Rows.cutSelectsSpec.post enc Tryz.prog Tryz.f8 false true false false) := by
  refine law_liftedL started (by kernel_rfl) Tryz.func8 rfl ?_ rfl (of_decide_eq_true (by kernel_rfl))
    (ChangeSpec.witness_shaped (enc := enc) (C := Tryz.checked) (os := os) (X := fun w _ => laidMetH Tryz.prog Rows.cutSelectsRow.laid w) false (World.laidAll Tryz.prog os Rows.cutSelectsRow.laid) #[.slice none 0 0, .int .u8 0, .string .empty] 8 (World.laidAll_os _ _ _) (World.shaped_of_ZipB (by kernel_rfl) (by kernel_rfl)) (by kernel_rfl) (by kernel_rfl) (by kernel_rfl) (door_met os _)) ?_
  · intro ds hl
    match ds, hl with
    | [d0, d1, d2], _ => rfl
  · intro W base args ds p hval hA hsz hL
    rw [Tryz.params8] at hA hval
    obtain ⟨v0, v1, v2, d0, d1, d2, p0, p1, p2, rfl, rfl, rfl, h0, h1, h2⟩ := trodAll_three hA
    obtain ⟨l0, i0, r0, t0⟩ := rep_spans (hval 0 22 v0 rfl rfl) h0
    obtain ⟨c1, r1⟩ := rep_u8 (hval 1 5 v1 rfl rfl) h1
    obtain ⟨l2, r2, e2⟩ := rep_str (hval 2 9 v2 rfl rfl) h2
    exact calls_true (R_sound FT_ok XS_ok (selects_law XS_cut ((dEls d0).map spOf) l0 i0 c1 (dStr d2) l2)) (gr_cut hL) (repL_of3 r0 r1 r2)
theorem cselects_row : Rows.CutSelectsSaid :=
  OpenClaim.holds_of_wide 8 Tryz.f8 rfl rfl rfl rfl rfl rfl rfl ⟨rfl, rfl, rfl, rfl, rfl⟩ rfl rfl rfl rfl rfl (by kernel_rfl) Tryz.func8 (by kernel_rfl)
    (of_decide_eq_true (by kernel_rfl)) (by unfold Func.isWrapper; first | (rw [if_pos (by decide +kernel)]; kernel_rfl) | (rw [if_neg (by decide +kernel)]; exact ⟨rfl, rfl⟩))
    (fun os started H enc _ => cselects_lifted os started H enc)
theorem cselects_holds : Rows.CutSelectsCardSaid :=
  Claim7.holds_tied_plain_at .later [] Rows.cutSelectsCard.laidKinds true Rows.cutSelectsCard.stood.harness true
    cselects_row (fun _ h => by cases h) (by kernel_rfl) (fun _ h => by cases h) cutSelects_row_tie rfl ⟨rfl, rfl⟩ (by kernel_rfl) rfl
    (fun f fn hf hfn => by
      obtain rfl : f = 8 := Option.some.inj ((show Tryz.prog.funcNamed Rows.cutSelectsRow.func = some 8 by kernel_rfl).symm.trans hf) |>.symm
      obtain rfl : fn = Tryz.f8 := (Option.some.inj (Tryz.func8.symm.trans hfn)).symm
      exact ⟨by kernel_rfl, fun j t ht => by
        rw [Tryz.params8] at ht
        have hm : t ∈ [22, 5, 9] := by simpa using Array.mem_of_getElem? ht
        have hall : ([22, 5, 9].all fun u => !Tryz.prog.wantsStandIn u) = true := by kernel_rfl
        exact (show Tryz.prog.wantsStandIn t = false by simpa using List.all_eq_true.1 hall t hm)⟩)
    (by kernel_rfl)
#print axioms cselects_holds
end Go.Proofs.YtfedemnaeggokaaGreatDoor
