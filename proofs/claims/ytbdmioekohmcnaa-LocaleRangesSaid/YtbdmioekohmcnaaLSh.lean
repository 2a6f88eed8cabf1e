/- The statement LocaleRanges holds for every input. -/
import Derived.Test.YtbdmioekohmcnaaLoC
import Derived.Test.YtbdmioekohmcnaaLo17
namespace Go.Proofs.Ytbdmioekohmcnaa
set_option linter.unusedVariables false
set_option linter.unusedSimpArgs false
open Go.RowKit Go.ChangeShapes Go.WideShapes Go.ChangeAt Go.Deep

set_option maxRecDepth 100000 in
theorem lranges_lifted (os : Os) (started : os.Started) (H : Type) (enc : TypeId × Value → H) :
    ReturnsInHanded {} Try.checked os 10 .any (Rows.localeRangesSpec.pre6 enc Try.prog Try.f10 Rows.localeRangesRow.domain false) (Rows.localeRangesSpec.post enc Try.prog Try.f10 false true false false) := by
  refine law_lifted started (by kernel_rfl) Try.func10 rfl ?_ rfl (of_decide_eq_true (by kernel_rfl))
    (ChangeSpec.witness6 (enc := enc) (C := Try.checked) false ⟨#[], #[.agg #[.string .empty, .slice none 0 0, .string .empty, .string .empty, .slice none 0 0, .slice none 0 0], .int .u8 0, .int .u8 0], []⟩ 8 (by kernel_rfl) (by kernel_rfl) (by kernel_rfl) (by kernel_rfl)) ?_
  · intro ds hl
    match ds, hl with
    | [d0, d1, d2], _ => rfl
  · intro W base args ds p hval hA hsz
    rw [Try.params10] at hA hval
    obtain ⟨v0, v1, v2, d0, d1, d2, p0, p1, p2, rfl, rfl, rfl, h0, h1, h2⟩ := trodAll_three hA
    obtain ⟨l0, r0⟩ := rep_loc (hval 0 26 v0 rfl rfl) h0
    obtain ⟨c1, r1⟩ := rep_u8 (hval 1 5 v1 rfl rfl) h1
    obtain ⟨c2, r2⟩ := rep_u8 (hval 2 5 v2 rfl rfl) h2
    exact calls_true (R_sound FT_ok XS_ok (ranges_law (locOf d0) c1 c2 l0 XS_cmp)) (repL_of3 r0 r1 r2)

theorem lranges_holds : Rows.LocaleRangesSaid :=
  OpenClaim.holds_of_wide 10 Try.f10 rfl rfl rfl rfl rfl rfl rfl ⟨rfl, rfl, rfl, rfl, rfl⟩ rfl rfl rfl rfl rfl (by kernel_rfl) Try.func10 (by kernel_rfl)
    (of_decide_eq_true (by kernel_rfl)) (by unfold Func.isWrapper; first | (rw [if_pos (by decide +kernel)]; kernel_rfl) | (rw [if_neg (by decide +kernel)]; exact ⟨rfl, rfl⟩))
    (fun os started H enc _ => lranges_lifted os started H enc)
#print axioms lranges_holds
end Go.Proofs.Ytbdmioekohmcnaa
