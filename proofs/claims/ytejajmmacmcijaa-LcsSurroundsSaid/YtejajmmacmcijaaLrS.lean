/- The statement LcsSurrounds holds for every input. -/
import Derived.Test.YtejajmmacmcijaaAmC
import Derived.Test.YtejajmmacmcijaaLr
namespace Go.Proofs.Ytejajmmacmcijaa
open Go.RowKit Go.ChangeShapes Go.WideShapes Go.ChangeAt Go.Deep

set_option maxRecDepth 100000 in
theorem surrounds_lifted (os : Os) (started : os.Started) (H : Type) (enc : TypeId × Value → H) :
    ReturnsInHanded {} Try.checked os 10 .any (Rows.lcsSurroundsSpec.pre6 enc Try.prog Try.f10 Rows.lcsSurroundsRow.domain false) (Rows.lcsSurroundsSpec.post enc Try.prog Try.f10 false true false false) := by
  refine law_lifted started (by kernel_rfl) Try.func10 rfl ?_ rfl (of_decide_eq_true (by kernel_rfl))
    (ChangeSpec.witness6 (enc := enc) (C := Try.checked) false ⟨#[], #[.slice none 0 0, .slice none 0 0, .slice none 0 0], []⟩ 8 (by kernel_rfl) (by kernel_rfl) (by kernel_rfl) (by kernel_rfl)) ?_
  · intro ds hl
    match ds, hl with
    | [d1, d2, d3], _ => rfl
  · intro W base args ds p hval hA hsz
    rw [Try.params10] at hA hval
    obtain ⟨v0, v1, v2, d0, d1, d2, p0, p1, p2, rfl, rfl, rfl, h0, h1, h2⟩ := trodAll_three hA
    obtain ⟨a, -, ra⟩ := rep_strings Try.underlying41 Try.underlying9 (by kernel_rfl) (hval 0 41 v0 rfl rfl) h0
    obtain ⟨b, -, rb⟩ := rep_strings Try.underlying41 Try.underlying9 (by kernel_rfl) (hval 1 41 v1 rfl rfl) h1
    obtain ⟨c, -, rc⟩ := rep_strings Try.underlying41 Try.underlying9 (by kernel_rfl) (hval 2 41 v2 rfl rfl) h2
    exact calls_true (R_sound FT_ok XL_ok (surrounds_run a b c)) (repL_of3 ra rb rc)

theorem surrounds_holds : Rows.LcsSurroundsSaid :=
  OpenClaim.holds_of_wide 10 Try.f10 rfl rfl rfl rfl rfl rfl rfl ⟨rfl, rfl, rfl, rfl, rfl⟩ rfl rfl rfl rfl rfl (by kernel_rfl) Try.func10 (by kernel_rfl)
    (of_decide_eq_true (by kernel_rfl)) (by unfold Func.isWrapper; first | (rw [if_pos (by decide +kernel)]; kernel_rfl) | (rw [if_neg (by decide +kernel)]; exact ⟨rfl, rfl⟩))
    (fun os started H enc _ => surrounds_lifted os started H enc)
#print axioms surrounds_holds
end Go.Proofs.Ytejajmmacmcijaa
