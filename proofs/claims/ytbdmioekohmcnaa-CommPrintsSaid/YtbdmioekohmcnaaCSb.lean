/- The statement CommPrints holds for every input. -/
import Derived.Test.YtbdmioekohmcnaaCoC
import Derived.Test.YtbdmioekohmcnaaCo4
namespace Go.Proofs.Ytbdmioekohmcnaa
set_option linter.unusedVariables false
set_option linter.unusedSimpArgs false
open Go.RowKit Go.ChangeShapes Go.WideShapes Go.ChangeAt Go.Deep

set_option maxRecDepth 100000 in
theorem cprints_lifted (os : Os) (started : os.Started) (H : Type) (enc : TypeId × Value → H) :
    ReturnsInHanded {} Try.checked os 12 .any (Rows.commPrintsSpec.pre6 enc Try.prog Try.f12 Rows.commPrintsRow.domain false) (Rows.commPrintsSpec.post enc Try.prog Try.f12 false true false false) := by
  refine law_lifted started (by kernel_rfl) Try.func12 rfl ?_ rfl (of_decide_eq_true (by kernel_rfl))
    (ChangeSpec.witness6 (enc := enc) (C := Try.checked) false ⟨#[], #[.slice none 0 0, .agg #[.bool false, .bool false, .bool false]], []⟩ 8 (by kernel_rfl) (by kernel_rfl) (by kernel_rfl) (by kernel_rfl)) ?_
  · intro ds hl
    match ds, hl with
    | [d0, d1], _ => rfl
  · intro W base args ds p hval hA hsz
    rw [Try.params12] at hA hval
    obtain ⟨v0, v1, d0, d1, p0, p1, rfl, rfl, rfl, h0, h1⟩ := trodAll_two hA
    obtain ⟨l0, r0, i0⟩ := rep_cls (hval 0 59 v0 rfl rfl) h0
    obtain ⟨x1, y1, z1, r1⟩ := rep_b3 (hval 1 63 v1 rfl rfl) h1
    exact calls_true (R_sound FT_ok XS_ok (prints_law ((dEls d0).map clOf) x1 y1 z1 l0 i0 XS_cmp)) (repL_of2 r0 r1)

theorem cprints_holds : Rows.CommPrintsSaid :=
  OpenClaim.holds_of_wide 12 Try.f12 rfl rfl rfl rfl rfl rfl rfl ⟨rfl, rfl, rfl, rfl, rfl⟩ rfl rfl rfl rfl rfl (by kernel_rfl) Try.func12 (by kernel_rfl)
    (of_decide_eq_true (by kernel_rfl)) (by unfold Func.isWrapper; first | (rw [if_pos (by decide +kernel)]; kernel_rfl) | (rw [if_neg (by decide +kernel)]; exact ⟨rfl, rfl⟩))
    (fun os started H enc _ => cprints_lifted os started H enc)
#print axioms cprints_holds
end Go.Proofs.Ytbdmioekohmcnaa
