/- The card of DifftextReads holds for every input of bounded bulk. -/
import Derived.Test.YtfbpbkcplpkndaaGreatDoorPdg
import Derived.Test.YtfbpbkcplpkndaaGreatDoorTie
import Derived.Test.YtfbpbkcplpkndaaGreatDoorCards
import Derived.SevenTiedAt
namespace Go.Proofs.YtfbpbkcplpkndaaGreatDoor
set_option linter.unusedVariables false
set_option linter.unusedSimpArgs false
open Go.RowKit Go.ChangeShapes Go.WideShapes Go.ChangeAt Go.Deep

set_option maxRecDepth 100000 in
theorem dreads_lifted (os : Os) (started : os.Started) (H : Type) (enc : TypeId × Value → H) (J : Stop.Interp) :
    ReturnsInHanded {} Tryz.checked os 7 .any ((Rows.OpenSpec.upto Rows.difftextReadsSpec).preRow enc Tryz.prog Tryz.f7 Rows.difftextReadsUptoRow.domain false Rows.difftextReadsUptoRow.laid) (((Rows.OpenSpec.upto Rows.difftextReadsSpec).at J).post enc Tryz.prog Tryz.f7 false true false false) := by
  obtain ⟨places, hx⟩ : ∃ places, DataW.whole enc Tryz.prog ((World.laidAll Tryz.prog os Rows.difftextReadsUptoRow.laid).forCall (fun _ _ => 0) ⟨#[], #[.string .empty], []⟩).memory Tryz.f7.params.toList Rows.difftextReadsSpec.vars false (#[.string .empty] : Array Value).toList 8 = some ([.lit (.string [])], [], places) := ⟨[], by kernel_rfl⟩
  have wit : ∃ (w : World) (tape : Tape) (i : Input), w.os = os ∧ (w.forCall tape i).Shaped Tryz.checked.prog ∧ i.vars = [] ∧ Input.okWide Tryz.checked.prog (w.forCall tape i) .any w.heap.size 7 i ∧
      (Rows.OpenSpec.upto Rows.difftextReadsSpec).preRow enc Tryz.checked.prog Tryz.f7 Rows.difftextReadsUptoRow.domain false Rows.difftextReadsUptoRow.laid (w.forCall tape i).memory i.args ∧ Assume.holds {} Tryz.checked.prog (lone (Frame.enter Tryz.checked.prog 7 i.args .normal) [] (w.forCall tape i)) :=
    have hok : Input.okWideB Tryz.checked.prog ((World.laidAll Tryz.prog os Rows.difftextReadsUptoRow.laid).forCall (fun _ _ => 0) ⟨#[], #[.string .empty], []⟩) 7 ⟨#[], #[.string .empty], []⟩ = true := by kernel_rfl
    ⟨(World.laidAll Tryz.prog os Rows.difftextReadsUptoRow.laid), fun _ _ => 0, ⟨#[], #[.string .empty], []⟩, World.laidAll_os _ _ _, World.shaped_of_ZipB (by kernel_rfl) (by kernel_rfl), (Input.okWide_of_okWideB (base := 0) hok).1, (Input.okWide_of_okWideB hok).2,
      OpenSpec.preRow_of_cond 8 hx (by kernel_rfl) (fun k hk => by cases hk; kernel_rfl) (by kernel_rfl) (door_met os _), by
        simp only [Assume.holds]
        exact ⟨by simp, by simp, fun _ => Modest.zero, by simp, by simp⟩⟩
  refine law_liftedUL started (by kernel_rfl) Tryz.func7 rfl ?_ rfl (of_decide_eq_true (by kernel_rfl)) wit ?_
  · intro ds hl
    match ds, hl with
    | [d0], _ => rfl
  · intro W base args ds p hval hA hk hL hSh
    rw [Tryz.params7] at hA hval
    obtain ⟨v0, d0, rfl, rfl, h0⟩ := trodAll_one hA
    obtain ⟨l0, r0, e0⟩ := rep_str (hval 0 9 v0 rfl rfl) h0
    have k0 : Rows.uptoBulk d0 ≤ 1048576 := Nat.le_trans (bulk_mem (d := d0) (l := [d0]) (by simp)) hk
    exact calls_true (R_sound FT_ok XS_ok (reads_run (dStr d0) (bulk_str e0 k0))) (gr_df hL hSh) (repL_of1 r0)
theorem dreads_row : Rows.DifftextReadsUptoSaid :=
  OpenClaim.holds_of_cond 7 Tryz.f7 rfl rfl rfl rfl rfl rfl rfl ⟨rfl, rfl, rfl, rfl, rfl⟩ rfl rfl rfl rfl rfl (by kernel_rfl) Tryz.func7 (by kernel_rfl)
    (of_decide_eq_true (by kernel_rfl)) (by unfold Func.isWrapper; first | (rw [if_pos (by decide +kernel)]; kernel_rfl) | (rw [if_neg (by decide +kernel)]; exact ⟨rfl, rfl⟩))
    (fun os started H enc _ J => by rw [OpenClaim.pre_eq_preRow]; exact dreads_lifted os started H enc J)
theorem dreads_holds : Rows.DifftextReadsUptoCardSaid :=
  Claim7.holds_tied_plain_at .later [] Rows.difftextReadsUptoCard.laidKinds true Rows.difftextReadsUptoCard.stood.harness true
    dreads_row (fun _ h => by cases h) (by kernel_rfl) (fun _ h => by cases h) difftextReadsUpto_row_tie rfl ⟨rfl, rfl⟩ (by kernel_rfl) rfl
    (fun f fn hf hfn => by
      obtain rfl : f = 7 := Option.some.inj ((show Tryz.prog.funcNamed Rows.difftextReadsUptoRow.func = some 7 by kernel_rfl).symm.trans hf) |>.symm
      obtain rfl : fn = Tryz.f7 := (Option.some.inj (Tryz.func7.symm.trans hfn)).symm
      exact ⟨by kernel_rfl, fun j t ht => by
        rw [Tryz.params7] at ht
        have hm : t ∈ [9] := by simpa using Array.mem_of_getElem? ht
        have hall : ([9].all fun u => !Tryz.prog.wantsStandIn u) = true := by kernel_rfl
        exact (show Tryz.prog.wantsStandIn t = false by simpa using List.all_eq_true.1 hall t hm)⟩)
    (by kernel_rfl)
#print axioms dreads_holds
end Go.Proofs.YtfbpbkcplpkndaaGreatDoor
