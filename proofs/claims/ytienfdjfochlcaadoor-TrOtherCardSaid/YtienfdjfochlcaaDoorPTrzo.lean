/- The card of TrOther holds. -/
import Derived.Test.YtienfdjfochlcaaDoorPod
import Derived.Test.YtienfdjfochlcaaDoorTie
import Derived.Test.YtienfdjfochlcaaDoorCards
import Derived.SevenTiedAt
namespace Go.Proofs.YtienfdjfochlcaaDoor
set_option linter.unusedVariables false
set_option linter.unusedSimpArgs false
open Go.RowKit Go.ChangeShapes Go.WideShapes Go.ChangeAt Go.Deep

set_option maxRecDepth 100000 in
theorem trother_lifted (os : Os) (started : os.Started) (H : Type) (enc : TypeId × Value → H) :
    ReturnsInHanded {} Tryd.checked os 4 .any (fun w args => (Rows.trOtherSpec.pre enc Tryd.prog Tryd.f4 Rows.trOtherRow.domain false w args ∧ laidMetH Tryd.prog Rows.trOtherRow.laid w) ∧ sizedMet enc Tryd.prog Tryd.f4 (OpenSpec.ofChange Rows.trOtherSpec) false w args) (Rows.trOtherSpec.post enc Tryd.prog Tryd.f4 false true false false) := by
  refine law_liftedO started (by kernel_rfl) Tryd.func4 rfl ?_ rfl (of_decide_eq_true (by kernel_rfl))
    (ChangeSpec.witness_shaped (enc := enc) (C := Tryd.checked) (os := os) (X := fun w _ => laidMetH Tryd.prog Rows.trOtherRow.laid w) false (World.laidAll Tryd.prog os Rows.trOtherRow.laid) #[.agg #[.int .u64 0, .int .u64 0, .int .u64 0, .int .u64 0, .string .empty, .int .u64 0, .int .u64 0, .int .u64 0, .int .u64 0], .string .empty, .string .empty] 8 (World.laidAll_os _ _ _) (World.shaped_of_ZipB (by kernel_rfl) (by kernel_rfl)) (by kernel_rfl) (by kernel_rfl) (by kernel_rfl) (door_met os _)) ?_
  · intro ds hl
    match ds, hl with
    | [d0, d1, d2], _ => rfl
  · intro W base args ds p hval hA hL hSh
    rw [Tryd.params4] at hA hval
    obtain ⟨v0, v1, v2, d0, d1, d2, p0, p1, p2, rfl, rfl, rfl, h0, h1, h2⟩ := trodAll_three hA
    obtain ⟨D0, M0, Q0, l0, r0⟩ := rep_sp (hval 0 27 v0 rfl rfl) h0
    obtain ⟨l1, r1, e1⟩ := rep_str (hval 1 9 v1 rfl rfl) h1
    obtain ⟨l2, r2, e2⟩ := rep_str (hval 2 9 v2 rfl rfl) h2
    exact calls_true (R_sound FT_ok XS_ok (other_law awake_run D0 M0 Q0 l0 (dStr d1) (dStr d2))) (gr_tr hL hSh) (repL_of3 r0 r1 r2)
theorem trother_row : Rows.TrOtherSaid :=
  OpenClaim.holds_of_wide 4 Tryd.f4 rfl rfl rfl rfl rfl rfl rfl ⟨rfl, rfl, rfl, rfl, rfl⟩ rfl rfl rfl rfl rfl (by kernel_rfl) Tryd.func4 (by kernel_rfl)
    (of_decide_eq_true (by kernel_rfl)) (by unfold Func.isWrapper; first | (rw [if_pos (by decide +kernel)]; kernel_rfl) | (rw [if_neg (by decide +kernel)]; exact ⟨rfl, rfl⟩))
    (fun os started H enc _ => trother_lifted os started H enc)
theorem trother_holds : Rows.TrOtherCardSaid :=
  Claim7.holds_tied_plain_at .later [] Rows.trOtherCard.laidKinds true Rows.trOtherCard.stood.harness true
    trother_row (fun _ h => by cases h) (by kernel_rfl) (fun _ h => by cases h) trOther_row_tie rfl ⟨rfl, rfl⟩ (by kernel_rfl) rfl
    (fun f fn hf hfn => by
      obtain rfl : f = 4 := Option.some.inj ((show Tryd.prog.funcNamed Rows.trOtherRow.func = some 4 by kernel_rfl).symm.trans hf) |>.symm
      obtain rfl : fn = Tryd.f4 := (Option.some.inj (Tryd.func4.symm.trans hfn)).symm
      exact ⟨by kernel_rfl, fun j t ht => by
        rw [Tryd.params4] at ht
        have hm : t ∈ [27, 9, 9] := by simpa using Array.mem_of_getElem? ht
        have hall : ([27, 9, 9].all fun u => !Tryd.prog.wantsStandIn u) = true := by kernel_rfl
        exact (show Tryd.prog.wantsStandIn t = false by simpa using List.all_eq_true.1 hall t hm)⟩)
    (by kernel_rfl)
#print axioms trother_holds
end Go.Proofs.YtienfdjfochlcaaDoor
