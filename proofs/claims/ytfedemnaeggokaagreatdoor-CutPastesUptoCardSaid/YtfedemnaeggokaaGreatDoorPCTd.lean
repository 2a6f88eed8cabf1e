/- The card of CutPastes holds for every input of bounded bulk. -/
import Derived.Test.YtfedemnaeggokaaGreatDoorPg
import Derived.Test.YtfedemnaeggokaaGreatDoorTie
import Derived.Test.YtfedemnaeggokaaGreatDoorCards
import Derived.SevenTiedAt
namespace Go.Proofs.YtfedemnaeggokaaGreatDoor
set_option linter.unusedVariables false
set_option linter.unusedSimpArgs false
open Go.RowKit Go.ChangeShapes Go.WideShapes Go.ChangeAt Go.Deep

set_option maxRecDepth 100000 in
theorem cpastes_lifted (os : Os) (started : os.Started) (H : Type) (enc : TypeId × Value → H) (J : Stop.Interp) :
    ReturnsInHanded {} Tryz.checked os 6 .any ((Rows.OpenSpec.upto Rows.cutPastesSpec).preRow enc Tryz.prog Tryz.f6 Rows.cutPastesUptoRow.domain false Rows.cutPastesUptoRow.laid) (((Rows.OpenSpec.upto Rows.cutPastesSpec).at J).post enc Tryz.prog Tryz.f6 false true false false) := by
  obtain ⟨places, hx⟩ : ∃ places, DataW.whole enc Tryz.prog ((World.laidAll Tryz.prog os Rows.cutSelectsRow.laid).forCall (fun _ _ => 0) ⟨#[], #[.slice none 0 0, .string .empty, .bool false], []⟩).memory Tryz.f6.params.toList Rows.cutPastesSpec.vars false (#[.slice none 0 0, .string .empty, .bool false] : Array Value).toList 8 = some ([.nil, .lit (.string []), .lit (.bool false)], [], places) := ⟨[], by kernel_rfl⟩
  have wit : ∃ (w : World) (tape : Tape) (i : Input), w.os = os ∧ (w.forCall tape i).Shaped Tryz.checked.prog ∧ i.vars = [] ∧ Input.okWide Tryz.checked.prog (w.forCall tape i) .any w.heap.size 6 i ∧
      (Rows.OpenSpec.upto Rows.cutPastesSpec).preRow enc Tryz.checked.prog Tryz.f6 Rows.cutPastesUptoRow.domain false Rows.cutPastesUptoRow.laid (w.forCall tape i).memory i.args ∧ Assume.holds {} Tryz.checked.prog (lone (Frame.enter Tryz.checked.prog 6 i.args .normal) [] (w.forCall tape i)) :=
    have hok : Input.okWideB Tryz.checked.prog ((World.laidAll Tryz.prog os Rows.cutSelectsRow.laid).forCall (fun _ _ => 0) ⟨#[], #[.slice none 0 0, .string .empty, .bool false], []⟩) 6 ⟨#[], #[.slice none 0 0, .string .empty, .bool false], []⟩ = true := by kernel_rfl
    ⟨(World.laidAll Tryz.prog os Rows.cutSelectsRow.laid), fun _ _ => 0, ⟨#[], #[.slice none 0 0, .string .empty, .bool false], []⟩, World.laidAll_os _ _ _, World.shaped_of_ZipB (by kernel_rfl) (by kernel_rfl), (Input.okWide_of_okWideB (base := 0) hok).1, (Input.okWide_of_okWideB hok).2,
      OpenSpec.preRow_of_cond 8 hx (by kernel_rfl) (fun k hk => by cases hk; kernel_rfl) (by kernel_rfl) (door_met os _), by
        simp only [Assume.holds]
        exact ⟨by simp, by simp, fun _ => Modest.zero, by simp, by simp⟩⟩
  refine law_liftedUL started (by kernel_rfl) Tryz.func6 rfl ?_ rfl (of_decide_eq_true (by kernel_rfl)) wit ?_
  · intro ds hl
    match ds, hl with
    | [d0, d1, d2], _ => rfl
  · intro W base args ds p hval hA hk hL
    rw [Tryz.params6] at hA hval
    obtain ⟨v0, v1, v2, d0, d1, d2, p0, p1, p2, rfl, rfl, rfl, h0, h1, h2⟩ := trodAll_three hA
    obtain ⟨l0, r0, t0⟩ := rep_strsI (hval 0 37 v0 rfl rfl) h0
    obtain ⟨l1, r1, e1⟩ := rep_str (hval 1 9 v1 rfl rfl) h1
    obtain ⟨c2, r2⟩ := rep_bool (hval 2 4 v2 rfl rfl) h2
    have k0 : Rows.uptoBulk d0 ≤ 1048576 := Nat.le_trans (bulk_mem (d := d0) (l := [d0, d1, d2]) (by simp)) hk
    have k1 : Rows.uptoBulk d1 ≤ 1048576 := Nat.le_trans (bulk_mem (d := d1) (l := [d0, d1, d2]) (by simp)) hk
    have k2 : Rows.uptoBulk d2 ≤ 1048576 := Nat.le_trans (bulk_mem (d := d2) (l := [d0, d1, d2]) (by simp)) hk
    exact calls_true (R_sound FT_ok XS_ok (pastes_law XS_cut ((dEls d0).map dStr) (dStr d1) c2 (bulk_strs t0 k0) l1)) (gr_cut hL) (repL_of3 r0 r1 r2)
theorem cpastes_row : Rows.CutPastesUptoSaid :=
  OpenClaim.holds_of_cond 6 Tryz.f6 rfl rfl rfl rfl rfl rfl rfl ⟨rfl, rfl, rfl, rfl, rfl⟩ rfl rfl rfl rfl rfl (by kernel_rfl) Tryz.func6 (by kernel_rfl)
    (of_decide_eq_true (by kernel_rfl)) (by unfold Func.isWrapper; first | (rw [if_pos (by decide +kernel)]; kernel_rfl) | (rw [if_neg (by decide +kernel)]; exact ⟨rfl, rfl⟩))
    (fun os started H enc _ J => by rw [OpenClaim.pre_eq_preRow]; exact cpastes_lifted os started H enc J)
theorem cpastes_holds : Rows.CutPastesUptoCardSaid :=
  Claim7.holds_tied_plain_at .later [] Rows.cutPastesUptoCard.laidKinds true Rows.cutPastesUptoCard.stood.harness true
    cpastes_row (fun _ h => by cases h) (by kernel_rfl) (fun _ h => by cases h) cutPastesUpto_row_tie rfl ⟨rfl, rfl⟩ (by kernel_rfl) rfl
    (fun f fn hf hfn => by
      obtain rfl : f = 6 := Option.some.inj ((show Tryz.prog.funcNamed Rows.cutPastesUptoRow.func = some 6 by kernel_rfl).symm.trans hf) |>.symm
      obtain rfl : fn = Tryz.f6 := (Option.some.inj (Tryz.func6.symm.trans hfn)).symm
      exact ⟨by kernel_rfl, fun j t ht => by
        rw [Tryz.params6] at ht
        have hm : t ∈ [37, 9, 4] := by simpa using Array.mem_of_getElem? ht
        have hall : ([37, 9, 4].all fun u => !Tryz.prog.wantsStandIn u) = true := by kernel_rfl
        exact (show Tryz.prog.wantsStandIn t = false by simpa using List.all_eq_true.1 hall t hm)⟩)
    (by kernel_rfl)
#print axioms cpastes_holds
end Go.Proofs.YtfedemnaeggokaaGreatDoor
