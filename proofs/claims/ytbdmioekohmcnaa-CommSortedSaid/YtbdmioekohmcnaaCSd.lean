/- The statement CommSorted holds for every input. -/
import Derived.Test.YtbdmioekohmcnaaCoC
import Derived.Test.YtbdmioekohmcnaaCo4
namespace Go.Proofs.Ytbdmioekohmcnaa
set_option linter.unusedVariables false
set_option linter.unusedSimpArgs false
open Go.RowKit Go.ChangeShapes Go.WideShapes Go.ChangeAt Go.Deep

set_option maxRecDepth 100000 in
theorem csorted_lifted (os : Os) (started : os.Started) (H : Type) (enc : TypeId × Value → H) :
    ReturnsInHanded {} Try.checked os 14 .any (Rows.commSortedSpec.pre6 enc Try.prog Try.f14 Rows.commSortedRow.domain false) (Rows.commSortedSpec.post enc Try.prog Try.f14 false true false false) := by
  refine law_lifted started (by kernel_rfl) Try.func14 rfl ?_ rfl (of_decide_eq_true (by kernel_rfl))
    (ChangeSpec.witness6 (enc := enc) (C := Try.checked) false ⟨#[], #[.agg #[.string .empty, .slice none 0 0, .string .empty, .string .empty, .slice none 0 0, .slice none 0 0], .slice none 0 0, .slice none 0 0], []⟩ 8 (by kernel_rfl) (by kernel_rfl) (by kernel_rfl) (by kernel_rfl)) ?_
  · intro ds hl
    match ds, hl with
    | [d0, d1, d2], _ => rfl
  · intro W base args ds p hval hA hsz
    rw [Try.params14] at hA hval
    obtain ⟨v0, v1, v2, d0, d1, d2, p0, p1, p2, rfl, rfl, rfl, h0, h1, h2⟩ := trodAll_three hA
    obtain ⟨l0, r0⟩ := rep_loc (hval 0 26 v0 rfl rfl) h0
    obtain ⟨l1, r1, t1⟩ := rep_strsI (hval 1 32 v1 rfl rfl) h1
    obtain ⟨l2, r2, t2⟩ := rep_strsI (hval 2 32 v2 rfl rfl) h2
    exact calls_true (R_sound FT_ok XS_ok (sorted_law (locOf d0) ((dEls d1).map dStr) ((dEls d2).map dStr) l0 l1 l2 XS_cmp)) (repL_of3 r0 r1 r2)

theorem csorted_holds : Rows.CommSortedSaid :=
  OpenClaim.holds_of_wide 14 Try.f14 rfl rfl rfl rfl rfl rfl rfl ⟨rfl, rfl, rfl, rfl, rfl⟩ rfl rfl rfl rfl rfl (by kernel_rfl) Try.func14 (by kernel_rfl)
    (of_decide_eq_true (by kernel_rfl)) (by unfold Func.isWrapper; first | (rw [if_pos (by decide +kernel)]; kernel_rfl) | (rw [if_neg (by decide +kernel)]; exact ⟨rfl, rfl⟩))
    (fun os started H enc _ => csorted_lifted os started H enc)
#print axioms csorted_holds
end Go.Proofs.Ytbdmioekohmcnaa
