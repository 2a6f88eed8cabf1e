/- The statement CommSame holds for every input. -/
import Derived.Test.YtbdmioekohmcnabCoC
import Derived.Test.YtbdmioekohmcnabCo5
namespace Go.Proofs.Ytbdmioekohmcnab
set_option linter.unusedVariables false
set_option linter.unusedSimpArgs false
open Go.RowKit Go.ChangeShapes Go.WideShapes Go.ChangeAt Go.Deep

set_option maxRecDepth 100000 in
theorem csame_lifted (os : Os) (started : os.Started) (H : Type) (enc : TypeId × Value → H) :
    ReturnsInHanded {} Try.checked os 3 .any (Rows.commSameSpec.pre6 enc Try.prog Try.f3 Rows.commSameRow.domain false) (Rows.commSameSpec.post enc Try.prog Try.f3 false true false false) := by
  refine law_lifted started (by kernel_rfl) Try.func3 rfl ?_ rfl (of_decide_eq_true (by kernel_rfl))
    (ChangeSpec.witness6 (enc := enc) (C := Try.checked) false ⟨#[], #[.agg #[.string .empty, .slice none 0 0, .string .empty, .string .empty, .slice none 0 0, .slice none 0 0], .slice none 0 0], []⟩ 8 (by kernel_rfl) (by kernel_rfl) (by kernel_rfl) (by kernel_rfl)) ?_
  · intro ds hl
    match ds, hl with
    | [d0, d1], _ => rfl
  · intro W base args ds p hval hA hsz
    rw [Try.params3] at hA hval
    obtain ⟨v0, v1, d0, d1, p0, p1, rfl, rfl, rfl, h0, h1⟩ := trodAll_two hA
    obtain ⟨l0, r0⟩ := rep_loc (hval 0 26 v0 rfl rfl) h0
    obtain ⟨l1, r1, t1⟩ := rep_strsI (hval 1 27 v1 rfl rfl) h1
    exact calls_true (R_sound FT_ok XS_ok (csame_law (locOf d0) ((dEls d1).map dStr) l0 l1 XS_cmp)) (repL_of2 r0 r1)

theorem csame_holds : Rows.CommSameSaid :=
  OpenClaim.holds_of_wide 3 Try.f3 rfl rfl rfl rfl rfl rfl rfl ⟨rfl, rfl, rfl, rfl, rfl⟩ rfl rfl rfl rfl rfl (by kernel_rfl) Try.func3 (by kernel_rfl)
    (of_decide_eq_true (by kernel_rfl)) (by unfold Func.isWrapper; first | (rw [if_pos (by decide +kernel)]; kernel_rfl) | (rw [if_neg (by decide +kernel)]; exact ⟨rfl, rfl⟩))
    (fun os started H enc _ => csame_lifted os started H enc)
#print axioms csame_holds
end Go.Proofs.Ytbdmioekohmcnab
