/- The card of DifftextCompares holds for every input of bounded bulk. -/
import Derived.Test.YtfbpbkcplpkndaaGreatDoorPoh
import Derived.Test.YtfbpbkcplpkndaaGreatDoorTie
import Derived.Test.YtfbpbkcplpkndaaGreatDoorCards
import Derived.SevenTiedAt
namespace Go.Proofs.YtfbpbkcplpkndaaGreatDoor
set_option linter.unusedVariables false
set_option linter.unusedSimpArgs false
open Go.RowKit Go.ChangeShapes Go.WideShapes Go.ChangeAt Go.Deep

set_option maxRecDepth 100000 in
theorem dcompares_lifted (os : Os) (started : os.Started) (H : Type) (enc : TypeId × Value → H) (J : Stop.Interp) :
    ReturnsInHanded {} Tryz.checked os 3 .any ((Rows.OpenSpec.upto Rows.difftextComparesSpec).preRow enc Tryz.prog Tryz.f3 Rows.difftextComparesUptoRow.domain false Rows.difftextComparesUptoRow.laid) (((Rows.OpenSpec.upto Rows.difftextComparesSpec).at J).post enc Tryz.prog Tryz.f3 false true false false) := by
  obtain ⟨places, hx⟩ : ∃ places, DataW.whole enc Tryz.prog ((World.laidAll Tryz.prog os Rows.difftextComparesUptoRow.laid).forCall (fun _ _ => 0) ⟨#[], #[.agg #[.string .empty, .string .empty], .agg #[.string .empty, .string .empty], .int .i64 0], []⟩).memory Tryz.f3.params.toList Rows.difftextComparesSpec.vars false (#[.agg #[.string .empty, .string .empty], .agg #[.string .empty, .string .empty], .int .i64 0] : Array Value).toList 8 = some ([.agg [.lit (.string []), .lit (.string [])], .agg [.lit (.string []), .lit (.string [])], .lit (.int .i64 0)], [], places) := ⟨[], by kernel_rfl⟩
  have wit : ∃ (w : World) (tape : Tape) (i : Input), w.os = os ∧ (w.forCall tape i).Shaped Tryz.checked.prog ∧ i.vars = [] ∧ Input.okWide Tryz.checked.prog (w.forCall tape i) .any w.heap.size 3 i ∧
      (Rows.OpenSpec.upto Rows.difftextComparesSpec).preRow enc Tryz.checked.prog Tryz.f3 Rows.difftextComparesUptoRow.domain false Rows.difftextComparesUptoRow.laid (w.forCall tape i).memory i.args ∧ Assume.holds {} Tryz.checked.prog (lone (Frame.enter Tryz.checked.prog 3 i.args .normal) [] (w.forCall tape i)) :=
    have hok : Input.okWideB Tryz.checked.prog ((World.laidAll Tryz.prog os Rows.difftextComparesUptoRow.laid).forCall (fun _ _ => 0) ⟨#[], #[.agg #[.string .empty, .string .empty], .agg #[.string .empty, .string .empty], .int .i64 0], []⟩) 3 ⟨#[], #[.agg #[.string .empty, .string .empty], .agg #[.string .empty, .string .empty], .int .i64 0], []⟩ = true := by kernel_rfl
    ⟨(World.laidAll Tryz.prog os Rows.difftextComparesUptoRow.laid), fun _ _ => 0, ⟨#[], #[.agg #[.string .empty, .string .empty], .agg #[.string .empty, .string .empty], .int .i64 0], []⟩, World.laidAll_os _ _ _, World.shaped_of_ZipB (by kernel_rfl) (by kernel_rfl), (Input.okWide_of_okWideB (base := 0) hok).1, (Input.okWide_of_okWideB hok).2,
      OpenSpec.preRow_of_cond 8 hx (by kernel_rfl) (fun k hk => by cases hk; kernel_rfl) (by kernel_rfl) (door_met os _), by
        simp only [Assume.holds]
        exact ⟨by simp, by simp, fun _ => Modest.zero, by simp, by simp⟩⟩
  refine law_liftedUL started (by kernel_rfl) Tryz.func3 rfl ?_ rfl (of_decide_eq_true (by kernel_rfl)) wit ?_
  · intro ds hl
    match ds, hl with
    | [d0, d1, d2], _ => rfl
  · intro W base args ds p hval hA hk hL hSh
    rw [Tryz.params3] at hA hval
    obtain ⟨v0, v1, v2, d0, d1, d2, p0, p1, p2, rfl, rfl, rfl, h0, h1, h2⟩ := trodAll_three hA
    obtain ⟨z0, r0⟩ := rep_nm (hval 0 23 v0 rfl rfl) h0
    obtain ⟨z1, r1⟩ := rep_nm (hval 1 23 v1 rfl rfl) h1
    obtain ⟨n2, i2, r2⟩ := rep_i64 (hval 2 3 v2 rfl rfl) h2
    have k0 : Rows.uptoBulk d0 ≤ 1048576 := Nat.le_trans (bulk_mem (d := d0) (l := [d0, d1, d2]) (by simp)) hk
    have k1 : Rows.uptoBulk d1 ≤ 1048576 := Nat.le_trans (bulk_mem (d := d1) (l := [d0, d1, d2]) (by simp)) hk
    have k2 : Rows.uptoBulk d2 ≤ 1048576 := Nat.le_trans (bulk_mem (d := d2) (l := [d0, d1, d2]) (by simp)) hk
    exact calls_true (R_sound FT_ok XS_ok (compares_run (dStr (dPart d0 0)) (dStr (dPart d0 1)) (dStr (dPart d1 0)) (dStr (dPart d1 1)) n2 i2 (z0 k0) (z1 k1))) (gr_df hL hSh) (repL_of3 r0 r1 r2)
theorem dcompares_row : Rows.DifftextComparesUptoSaid :=
  OpenClaim.holds_of_cond 3 Tryz.f3 rfl rfl rfl rfl rfl rfl rfl ⟨rfl, rfl, rfl, rfl, rfl⟩ rfl rfl rfl rfl rfl (by kernel_rfl) Tryz.func3 (by kernel_rfl)
    (of_decide_eq_true (by kernel_rfl)) (by unfold Func.isWrapper; first | (rw [if_pos (by decide +kernel)]; kernel_rfl) | (rw [if_neg (by decide +kernel)]; exact ⟨rfl, rfl⟩))
    (fun os started H enc _ J => by rw [OpenClaim.pre_eq_preRow]; exact dcompares_lifted os started H enc J)
theorem dcompares_holds : Rows.DifftextComparesUptoCardSaid :=
  Claim7.holds_tied_plain_at .later [] Rows.difftextComparesUptoCard.laidKinds true Rows.difftextComparesUptoCard.stood.harness true
    dcompares_row (fun _ h => by cases h) (by kernel_rfl) (fun _ h => by cases h) difftextComparesUpto_row_tie rfl ⟨rfl, rfl⟩ (by kernel_rfl) rfl
    (fun f fn hf hfn => by
      obtain rfl : f = 3 := Option.some.inj ((show Tryz.prog.funcNamed Rows.difftextComparesUptoRow.func = some 3 by kernel_rfl).symm.trans hf) |>.symm
      obtain rfl : fn = Tryz.f3 := (Option.some.inj (Tryz.func3.symm.trans hfn)).symm
      exact ⟨by kernel_rfl, fun j t ht => by
        rw [Tryz.params3] at ht
        have hm : t ∈ [23, 23, 3] := by simpa using Array.mem_of_getElem? ht
        have hall : ([23, 23, 3].all fun u => !Tryz.prog.wantsStandIn u) = true := by kernel_rfl
        exact (show Tryz.prog.wantsStandIn t = false by simpa using List.all_eq_true.1 hall t hm)⟩)
    (by kernel_rfl)
#print axioms dcompares_holds
end Go.Proofs.YtfbpbkcplpkndaaGreatDoor
