/- The card of DifftextRoundTrips holds for every input of bounded bulk. -/
import Derived.Test.YtfbpbkcplpkndaaGreatDoorPrg
import Derived.Test.YtfbpbkcplpkndaaGreatDoorTie
import Derived.Test.YtfbpbkcplpkndaaGreatDoorCards
import Derived.SevenTiedAt
namespace Go.Proofs.YtfbpbkcplpkndaaGreatDoor
set_option linter.unusedVariables false
set_option linter.unusedSimpArgs false
open Go.RowKit Go.ChangeShapes Go.WideShapes Go.ChangeAt Go.Deep

set_option maxRecDepth 100000 in
theorem dtrips_lifted (os : Os) (started : os.Started) (H : Type) (enc : TypeId × Value → H) (J : Stop.Interp) :
    ReturnsInHanded {} Tryz.checked os 6 .any ((Rows.OpenSpec.upto Rows.difftextRoundTripsSpec).preRow enc Tryz.prog Tryz.f6 Rows.difftextRoundTripsUptoRow.domain false Rows.difftextRoundTripsUptoRow.laid) (((Rows.OpenSpec.upto Rows.difftextRoundTripsSpec).at J).post enc Tryz.prog Tryz.f6 false true false false) := by
  obtain ⟨places, hx⟩ : ∃ places, DataW.whole enc Tryz.prog ((World.laidAll Tryz.prog os Rows.difftextRoundTripsUptoRow.laid).forCall (fun _ _ => 0) ⟨#[], #[.agg #[.string .empty, .string .empty, .slice none 0 0], .agg #[.string .empty, .string .empty, .slice none 0 0]], []⟩).memory Tryz.f6.params.toList Rows.difftextRoundTripsSpec.vars false (#[.agg #[.string .empty, .string .empty, .slice none 0 0], .agg #[.string .empty, .string .empty, .slice none 0 0]] : Array Value).toList 8 = some ([.agg [.lit (.string []), .lit (.string []), .nil], .agg [.lit (.string []), .lit (.string []), .nil]], [], places) := ⟨[], by kernel_rfl⟩
  have wit : ∃ (w : World) (tape : Tape) (i : Input), w.os = os ∧ (w.forCall tape i).Shaped Tryz.checked.prog ∧ i.vars = [] ∧ Input.okWide Tryz.checked.prog (w.forCall tape i) .any w.heap.size 6 i ∧
      (Rows.OpenSpec.upto Rows.difftextRoundTripsSpec).preRow enc Tryz.checked.prog Tryz.f6 Rows.difftextRoundTripsUptoRow.domain false Rows.difftextRoundTripsUptoRow.laid (w.forCall tape i).memory i.args ∧ Assume.holds {} Tryz.checked.prog (lone (Frame.enter Tryz.checked.prog 6 i.args .normal) [] (w.forCall tape i)) :=
    have hok : Input.okWideB Tryz.checked.prog ((World.laidAll Tryz.prog os Rows.difftextRoundTripsUptoRow.laid).forCall (fun _ _ => 0) ⟨#[], #[.agg #[.string .empty, .string .empty, .slice none 0 0], .agg #[.string .empty, .string .empty, .slice none 0 0]], []⟩) 6 ⟨#[], #[.agg #[.string .empty, .string .empty, .slice none 0 0], .agg #[.string .empty, .string .empty, .slice none 0 0]], []⟩ = true := by kernel_rfl
    ⟨(World.laidAll Tryz.prog os Rows.difftextRoundTripsUptoRow.laid), fun _ _ => 0, ⟨#[], #[.agg #[.string .empty, .string .empty, .slice none 0 0], .agg #[.string .empty, .string .empty, .slice none 0 0]], []⟩, World.laidAll_os _ _ _, World.shaped_of_ZipB (by kernel_rfl) (by kernel_rfl), (Input.okWide_of_okWideB (base := 0) hok).1, (Input.okWide_of_okWideB hok).2,
      OpenSpec.preRow_of_cond 8 hx (by kernel_rfl) (fun k hk => by cases hk; kernel_rfl) (by kernel_rfl) (door_met os _), by
        simp only [Assume.holds]
        exact ⟨by simp, by simp, fun _ => Modest.zero, by simp, by simp⟩⟩
  refine law_liftedUL started (by kernel_rfl) Tryz.func6 rfl ?_ rfl (of_decide_eq_true (by kernel_rfl)) wit ?_
  · intro ds hl
    match ds, hl with
    | [d0, d1], _ => rfl
  · intro W base args ds p hval hA hk hL hSh
    rw [Tryz.params6] at hA hval
    obtain ⟨v0, v1, d0, d1, p0, p1, rfl, rfl, rfl, h0, h1⟩ := trodAll_two hA
    obtain ⟨z0, r0⟩ := rep_pt (hval 0 29 v0 rfl rfl) h0
    obtain ⟨z1, r1⟩ := rep_pt (hval 1 29 v1 rfl rfl) h1
    have k0 : Rows.uptoBulk d0 ≤ 1048576 := Nat.le_trans (bulk_mem (d := d0) (l := [d0, d1]) (by simp)) hk
    have k1 : Rows.uptoBulk d1 ≤ 1048576 := Nat.le_trans (bulk_mem (d := d1) (l := [d0, d1]) (by simp)) hk
    exact calls_true (R_sound FT_ok XS_ok (trips_run (ptOf d0) (ptOf d1) (z0 k0) (z1 k1))) (gr_df hL hSh) (repL_of2 r0 r1)
theorem dtrips_row : Rows.DifftextRoundTripsUptoSaid :=
  OpenClaim.holds_of_cond 6 Tryz.f6 rfl rfl rfl rfl rfl rfl rfl ⟨rfl, rfl, rfl, rfl, rfl⟩ rfl rfl rfl rfl rfl (by kernel_rfl) Tryz.func6 (by kernel_rfl)
    (of_decide_eq_true (by kernel_rfl)) (by unfold Func.isWrapper; first | (rw [if_pos (by decide +kernel)]; kernel_rfl) | (rw [if_neg (by decide +kernel)]; exact ⟨rfl, rfl⟩))
    (fun os started H enc _ J => by rw [OpenClaim.pre_eq_preRow]; exact dtrips_lifted os started H enc J)
theorem dtrips_holds : Rows.DifftextRoundTripsUptoCardSaid :=
  Claim7.holds_tied_plain_at .later [] Rows.difftextRoundTripsUptoCard.laidKinds true Rows.difftextRoundTripsUptoCard.stood.harness true
    dtrips_row (fun _ h => by cases h) (by kernel_rfl) (fun _ h => by cases h) difftextRoundTripsUpto_row_tie rfl ⟨rfl, rfl⟩ (by kernel_rfl) rfl
    (fun f fn hf hfn => by
      obtain rfl : f = 6 := Option.some.inj ((show Tryz.prog.funcNamed Rows.difftextRoundTripsUptoRow.func = some 6 by kernel_rfl).symm.trans hf) |>.symm
      obtain rfl : fn = Tryz.f6 := (Option.some.inj (Tryz.func6.symm.trans hfn)).symm
      exact ⟨by kernel_rfl, fun j t ht => by
        rw [Tryz.params6] at ht
        have hm : t ∈ [29, 29] := by simpa using Array.mem_of_getElem? ht
        have hall : ([29, 29].all fun u => !Tryz.prog.wantsStandIn u) = true := by kernel_rfl
        exact (show Tryz.prog.wantsStandIn t = false by simpa using List.all_eq_true.1 hall t hm)⟩)
    (by kernel_rfl)
#print axioms dtrips_holds
end Go.Proofs.YtfbpbkcplpkndaaGreatDoor
