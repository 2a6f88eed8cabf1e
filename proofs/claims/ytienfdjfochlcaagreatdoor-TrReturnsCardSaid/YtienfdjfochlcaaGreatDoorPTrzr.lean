/- The card of TrReturns holds. -/
import Derived.Test.YtienfdjfochlcaaGreatDoorPre
import Derived.Test.YtienfdjfochlcaaGreatDoorTie
import Derived.Test.YtienfdjfochlcaaGreatDoorCards
import Derived.SevenTiedAt
namespace Go.Proofs.YtienfdjfochlcaaGreatDoor
set_option linter.unusedVariables false
set_option linter.unusedSimpArgs false
open Go.RowKit Go.ChangeShapes Go.WideShapes Go.ChangeAt Go.Deep

set_option maxRecDepth 100000 in
theorem trreturns_lifted (os : Os) (started : os.Started) (H : Type) (enc : TypeId × Value → H) :
    ReturnsInHanded {} Tryz.checked os 11 .any (fun w args => (Rows.trReturnsSpec.pre enc Tryz.prog Tryz.f11 Rows.trReturnsRow.domain false w args ∧ laidMetH Tryz.prog Rows.trReturnsRow.laid w) ∧ sizedMet enc Tryz.prog Tryz.f11 (OpenSpec.ofChange Rows.trReturnsSpec) false w args) (Rows.trReturnsSpec.post enc Tryz.prog Tryz.f11 false true false false) := by
  refine law_liftedO started (by kernel_rfl) Tryz.func11 rfl ?_ rfl (of_decide_eq_true (by kernel_rfl))
    (ChangeSpec.witness_shaped (enc := enc) (C := Tryz.checked) (os := os) (X := fun w _ => laidMetH Tryz.prog Rows.trReturnsRow.laid w) false (World.laidAll Tryz.prog os Rows.trReturnsRow.laid) #[.string .empty, .string .empty, .string .empty] 8 (World.laidAll_os _ _ _) (World.shaped_of_ZipB (by kernel_rfl) (by kernel_rfl)) (by kernel_rfl) (by kernel_rfl) (by kernel_rfl) (door_met os _)) ?_
  · intro ds hl
    match ds, hl with
    | [d0, d1, d2], _ => rfl
  · intro W base args ds p hval hA hL hSh
    rw [Tryz.params11] at hA hval
    obtain ⟨v0, v1, v2, d0, d1, d2, p0, p1, p2, rfl, rfl, rfl, h0, h1, h2⟩ := trodAll_three hA
    obtain ⟨l0, r0, e0⟩ := rep_str (hval 0 9 v0 rfl rfl) h0
    obtain ⟨l1, r1, e1⟩ := rep_str (hval 1 9 v1 rfl rfl) h1
    obtain ⟨l2, r2, e2⟩ := rep_str (hval 2 9 v2 rfl rfl) h2
    exact calls_true (R_sound FT_ok XS_ok (returns_law awake_run (dStr d0) l0 (dStr d1) l1 (dStr d2) l2)) (gr_tr hL hSh) (repL_of3 r0 r1 r2)
theorem trreturns_row : Rows.TrReturnsSaid :=
  OpenClaim.holds_of_wide 11 Tryz.f11 rfl rfl rfl rfl rfl rfl rfl ⟨rfl, rfl, rfl, rfl, rfl⟩ rfl rfl rfl rfl rfl (by kernel_rfl) Tryz.func11 (by kernel_rfl)
    (of_decide_eq_true (by kernel_rfl)) (by unfold Func.isWrapper; first | (rw [if_pos (by decide +kernel)]; kernel_rfl) | (rw [if_neg (by decide +kernel)]; exact ⟨rfl, rfl⟩))
    (fun os started H enc _ => trreturns_lifted os started H enc)
theorem trreturns_holds : Rows.TrReturnsCardSaid :=
  Claim7.holds_tied_plain_at .later [] Rows.trReturnsCard.laidKinds true Rows.trReturnsCard.stood.harness true
    trreturns_row (fun _ h => by cases h) (by kernel_rfl) (fun _ h => by cases h) trReturns_row_tie rfl ⟨rfl, rfl⟩ (by kernel_rfl) rfl
    (fun f fn hf hfn => by
      obtain rfl : f = 11 := Option.some.inj ((show Tryz.prog.funcNamed Rows.trReturnsRow.func = some 11 by kernel_rfl).symm.trans hf) |>.symm
      obtain rfl : fn = Tryz.f11 := (Option.some.inj (Tryz.func11.symm.trans hfn)).symm
      exact ⟨by kernel_rfl, fun j t ht => by
        rw [Tryz.params11] at ht
        have hm : t ∈ [9, 9, 9] := by simpa using Array.mem_of_getElem? ht
        have hall : ([9, 9, 9].all fun u => !Tryz.prog.wantsStandIn u) = true := by kernel_rfl
        exact (show Tryz.prog.wantsStandIn t = false by simpa using List.all_eq_true.1 hall t hm)⟩)
    (by kernel_rfl)
#print axioms trreturns_holds
end Go.Proofs.YtienfdjfochlcaaGreatDoor
