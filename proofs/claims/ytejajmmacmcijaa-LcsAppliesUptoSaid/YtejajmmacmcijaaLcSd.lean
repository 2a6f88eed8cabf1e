/- The statement LcsApplies holds for every input of bounded bulk. -/
import Derived.Test.YtejajmmacmcijaaLcC
namespace Go.Proofs.Ytejajmmacmcijaa
set_option linter.unusedVariables false
set_option linter.unusedSimpArgs false
open Go.RowKit Go.ChangeShapes Go.WideShapes Go.ChangeAt Go.Deep

set_option maxRecDepth 100000 in
theorem lapplies_lifted (os : Os) (started : os.Started) (H : Type) (enc : TypeId × Value → H) (J : Stop.Interp) :
    ReturnsInHanded {} Try.checked os 8 .any ((Rows.OpenSpec.upto Rows.lcsAppliesSpec).pre6 enc Try.prog Try.f8 Rows.lcsAppliesUptoRow.domain false) (((Rows.OpenSpec.upto Rows.lcsAppliesSpec).at J).post enc Try.prog Try.f8 false true false false) := by
  refine law_liftedU started (by kernel_rfl) Try.func8 rfl ?_ rfl (of_decide_eq_true (by kernel_rfl))
    (OpenSpec.witness (enc := enc) (C := Try.checked) (s := Rows.OpenSpec.upto Rows.lcsAppliesSpec) (k := Rows.uptoSmall) rfl false ⟨#[], #[.slice none 0 0, .slice none 0 0, .slice none 0 0], []⟩ 8 (by kernel_rfl) (by kernel_rfl) (by kernel_rfl)
      (x := ([.nil, .nil, .nil], [], [])) (by kernel_rfl) rfl (by kernel_rfl)) ?_
  · intro ds hl
    match ds, hl with
    | [d0, d1, d2], _ => rfl
  · intro W base args ds p hval hA hk
    rw [Try.params8] at hA hval
    obtain ⟨v0, v1, v2, d0, d1, d2, p0, p1, p2, rfl, rfl, rfl, h0, h1, h2⟩ := trodAll_three hA
    obtain ⟨l0, r0, t0⟩ := rep_strsI (hval 0 41 v0 rfl rfl) h0
    obtain ⟨l1, r1, t1⟩ := rep_strsI (hval 1 41 v1 rfl rfl) h1
    obtain ⟨l2, i2, r2, t2⟩ := rep_eds (hval 2 44 v2 rfl rfl) h2
    have q0 := bulk_sl t0 (Nat.le_refl _)
    have q1 := bulk_sl t1 (Nat.le_refl _)
    have q2 := bulk_sl t2 (Nat.le_refl _)
    simp only [Rows.uptoBulkAll] at hk
    exact calls_true (R_sound FT_ok XS_ok (applies_run _ _ _ l0 (by simp only [List.length_map]; omega) l2)) (repL_of3 r0 r1 r2)

theorem lapplies_holds : Rows.LcsAppliesUptoSaid :=
  OpenClaim.holds_of_cond 8 Try.f8 rfl rfl rfl rfl rfl rfl rfl ⟨rfl, rfl, rfl, rfl, rfl⟩ rfl rfl rfl rfl rfl (by kernel_rfl) Try.func8 (by kernel_rfl)
    (of_decide_eq_true (by kernel_rfl)) (by unfold Func.isWrapper; first | (rw [if_pos (by decide +kernel)]; kernel_rfl) | (rw [if_neg (by decide +kernel)]; exact ⟨rfl, rfl⟩))
    (fun os started H enc _ J => lapplies_lifted os started H enc J)
#print axioms lapplies_holds
end Go.Proofs.Ytejajmmacmcijaa
