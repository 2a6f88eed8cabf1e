/- The card of ArraysJoins holds for every input of bounded bulk. -/
import Derived.Test.YtckopgopbgicjaaDoorPd
import Derived.Test.YtckopgopbgicjaaDoorTie
import Derived.Test.YtckopgopbgicjaaDoorCards
import Derived.SevenTiedAt
namespace Go.Proofs.YtckopgopbgicjaaDoor
set_option linter.unusedVariables false
set_option linter.unusedSimpArgs false
open Go.RowKit Go.ChangeShapes Go.WideShapes Go.ChangeAt Go.Deep

set_option maxRecDepth 100000 in
theorem ajoins_lifted (os : Os) (started : os.Started) (H : Type) (enc : TypeId × Value → H) (J : Stop.Interp) :
    ReturnsInHanded {} Tryd.checked os 3 .any ((Rows.OpenSpec.upto Rows.arraysJoinsSpec).preRow enc Tryd.prog Tryd.f3 Rows.arraysJoinsUptoRow.domain false Rows.arraysJoinsUptoRow.laid) (((Rows.OpenSpec.upto Rows.arraysJoinsSpec).at J).post enc Tryd.prog Tryd.f3 false true false false) := by
  obtain ⟨places, hx⟩ : ∃ places, DataW.whole enc Tryd.prog ((World.laidAll Tryd.prog os Rows.arraysJoinsUptoRow.laid).forCall (fun _ _ => 0) ⟨#[], #[.slice none 0 0], []⟩).memory Tryd.f3.params.toList Rows.arraysJoinsSpec.vars false (#[.slice none 0 0] : Array Value).toList 8 = some ([.nil], [], places) := ⟨[], by kernel_rfl⟩
  have wit : ∃ (w : World) (tape : Tape) (i : Input), w.os = os ∧ (w.forCall tape i).Shaped Tryd.checked.prog ∧ i.vars = [] ∧ Input.okWide Tryd.checked.prog (w.forCall tape i) .any w.heap.size 3 i ∧
      (Rows.OpenSpec.upto Rows.arraysJoinsSpec).preRow enc Tryd.checked.prog Tryd.f3 Rows.arraysJoinsUptoRow.domain false Rows.arraysJoinsUptoRow.laid (w.forCall tape i).memory i.args ∧ Assume.holds {} Tryd.checked.prog (lone (Frame.enter Tryd.checked.prog 3 i.args .normal) [] (w.forCall tape i)) :=
    have hok : Input.okWideB Tryd.checked.prog ((World.laidAll Tryd.prog os Rows.arraysJoinsUptoRow.laid).forCall (fun _ _ => 0) ⟨#[], #[.slice none 0 0], []⟩) 3 ⟨#[], #[.slice none 0 0], []⟩ = true := by kernel_rfl
    ⟨(World.laidAll Tryd.prog os Rows.arraysJoinsUptoRow.laid), fun _ _ => 0, ⟨#[], #[.slice none 0 0], []⟩, World.laidAll_os _ _ _, World.shaped_of_ZipB (by kernel_rfl) (by kernel_rfl), (Input.okWide_of_okWideB (base := 0) hok).1, (Input.okWide_of_okWideB hok).2,
      OpenSpec.preRow_of_cond 8 hx (by kernel_rfl) (fun k hk => by cases hk; kernel_rfl) (by kernel_rfl) (door_met os _), by
        simp only [Assume.holds]
        exact ⟨by simp, by simp, fun _ => Modest.zero, by simp, by simp⟩⟩
  refine law_liftedUL started (by kernel_rfl) Tryd.func3 rfl ?_ rfl (of_decide_eq_true (by kernel_rfl)) wit ?_
  · intro ds hl
    match ds, hl with
    | [d0], _ => rfl
  · intro W base args ds p hval hA hk hL hSh
    rw [Tryd.params3] at hA hval
    obtain ⟨v0, d0, rfl, rfl, h0⟩ := trodAll_one hA
    obtain ⟨z0, i0, r0⟩ := rep_vls (hval 0 22 v0 rfl rfl) h0
    have k0 : Rows.uptoBulk d0 ≤ 1048576 := Nat.le_trans (bulk_mem (d := d0) (l := [d0]) (by simp)) hk
    exact calls_true (R_sound FT_ok XS_ok (joins_law ((dEls d0).map vlOf) i0 (z0 k0).1 (z0 k0).2)) (gr_aj hL hSh) (repL_of1 r0)
theorem ajoins_row : Rows.ArraysJoinsUptoSaid :=
  OpenClaim.holds_of_cond 3 Tryd.f3 rfl rfl rfl rfl rfl rfl rfl ⟨rfl, rfl, rfl, rfl, rfl⟩ rfl rfl rfl rfl rfl (by kernel_rfl) Tryd.func3 (by kernel_rfl)
    (of_decide_eq_true (by kernel_rfl)) (by unfold Func.isWrapper; first | (rw [if_pos (by decide +kernel)]; kernel_rfl) | (rw [if_neg (by decide +kernel)]; exact ⟨rfl, rfl⟩))
    (fun os started H enc _ J => by rw [OpenClaim.pre_eq_preRow]; exact ajoins_lifted os started H enc J)
theorem ajoins_holds : Rows.ArraysJoinsUptoCardSaid :=
  Claim7.holds_tied_plain_at .later [] Rows.arraysJoinsUptoCard.laidKinds true Rows.arraysJoinsUptoCard.stood.harness false
    ajoins_row (fun _ h => by cases h) (by kernel_rfl) (fun _ h => by cases h) arraysJoinsUpto_row_tie rfl ⟨rfl, rfl⟩ (by kernel_rfl) rfl
    (fun f fn hf hfn => by
      obtain rfl : f = 3 := Option.some.inj ((show Tryd.prog.funcNamed Rows.arraysJoinsUptoRow.func = some 3 by kernel_rfl).symm.trans hf) |>.symm
      obtain rfl : fn = Tryd.f3 := (Option.some.inj (Tryd.func3.symm.trans hfn)).symm
      exact ⟨by kernel_rfl, fun j t ht => by
        rw [Tryd.params3] at ht
        have hm : t ∈ [22] := by simpa using Array.mem_of_getElem? ht
        have hall : ([22].all fun u => !Tryd.prog.wantsStandIn u) = true := by kernel_rfl
        exact (show Tryd.prog.wantsStandIn t = false by simpa using List.all_eq_true.1 hall t hm)⟩)
    (by kernel_rfl)
#print axioms ajoins_holds
end Go.Proofs.YtckopgopbgicjaaDoor
