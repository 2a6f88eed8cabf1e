/- The card of NumReturns holds. -/
import Derived.Test.YtgjdmlhgapmflaaDoorNuC
import Derived.Test.YtgjdmlhgapmflaaDoorTie
import Derived.Test.YtgjdmlhgapmflaaDoorCards
import Derived.SevenTiedAt
namespace Go.Proofs.YtgjdmlhgapmflaaDoor
set_option linter.unusedVariables false
set_option linter.unusedSimpArgs false
open Go.RowKit Go.ChangeShapes Go.WideShapes Go.ChangeAt Go.Deep

set_option maxRecDepth 100000 in
theorem nreturns_lifted (os : Os) (started : os.Started) (H : Type) (enc : TypeId × Value → H) :
    ReturnsInHanded {} Tryd.checked os 5 .any (fun w args => (Rows.numReturnsSpec.pre enc Tryd.prog Tryd.f5 Rows.numReturnsRow.domain false w args ∧ laidMetH Tryd.prog Rows.numReturnsRow.laid w) ∧ sizedMet enc Tryd.prog Tryd.f5 (OpenSpec.ofChange Rows.numReturnsSpec) false w args) (Rows.numReturnsSpec.post enc Tryd.prog Tryd.f5 false true false false) := by
  refine law_liftedL started (by kernel_rfl) Tryd.func5 rfl ?_ rfl (of_decide_eq_true (by kernel_rfl))
    (ChangeSpec.witness_shaped (enc := enc) (C := Tryd.checked) (os := os) (X := fun w _ => laidMetH Tryd.prog Rows.numReturnsRow.laid w) false (World.doorLaid Tryd.prog 2000 os) #[.int .i64 0, .string .empty] 8 rfl (World.shaped_of_RefB (by kernel_rfl) (by kernel_rfl)) (by kernel_rfl) (by kernel_rfl) (by kernel_rfl) (door_met os _)) ?_
  · intro ds hl
    match ds, hl with
    | [d0, d1], _ => rfl
  · intro W base args ds p hval hA hsz hL
    rw [Tryd.params5] at hA hval
    obtain ⟨v0, v1, d0, d1, p0, p1, rfl, rfl, rfl, h0, h1⟩ := trodAll_two hA
    obtain ⟨n0, i0, r0⟩ := rep_i64 (hval 0 3 v0 rfl rfl) h0
    obtain ⟨s1, l1, r1, -⟩ := rep_str (hval 1 9 v1 rfl rfl) h1
    exact calls_true (R_sound FT_ok XS_ok (returns_law XS_num n0 s1 i0 l1)) (gr_num hL) (repL_of2 r0 r1)
theorem nreturns_row : Rows.NumReturnsSaid :=
  OpenClaim.holds_of_wide 5 Tryd.f5 rfl rfl rfl rfl rfl rfl rfl ⟨rfl, rfl, rfl, rfl, rfl⟩ rfl rfl rfl rfl rfl (by kernel_rfl) Tryd.func5 (by kernel_rfl)
    (of_decide_eq_true (by kernel_rfl)) (by unfold Func.isWrapper; first | (rw [if_pos (by decide +kernel)]; kernel_rfl) | (rw [if_neg (by decide +kernel)]; exact ⟨rfl, rfl⟩))
    (fun os started H enc _ => nreturns_lifted os started H enc)
theorem nreturns_holds : Rows.NumReturnsCardSaid :=
  Claim7.holds_tied_plain_at .later [] Rows.numReturnsCard.laidKinds true Rows.numReturnsCard.stood.harness true
    nreturns_row (fun _ h => by cases h) (by kernel_rfl) (fun _ h => by cases h) numReturns_row_tie rfl ⟨rfl, rfl⟩ (by kernel_rfl) rfl
    (fun f fn hf hfn => by
      obtain rfl : f = 5 := Option.some.inj ((show Tryd.prog.funcNamed Rows.numReturnsRow.func = some 5 by kernel_rfl).symm.trans hf) |>.symm
      obtain rfl : fn = Tryd.f5 := (Option.some.inj (Tryd.func5.symm.trans hfn)).symm
      exact ⟨by kernel_rfl, fun j t ht => by
        rw [Tryd.params5] at ht
        have hm : t ∈ [3, 9] := by simpa using Array.mem_of_getElem? ht
        have hall : ([3, 9].all fun u => !Tryd.prog.wantsStandIn u) = true := by kernel_rfl
        exact (show Tryd.prog.wantsStandIn t = false by simpa using List.all_eq_true.1 hall t hm)⟩)
    (by kernel_rfl)
#print axioms nreturns_holds
end Go.Proofs.YtgjdmlhgapmflaaDoor
