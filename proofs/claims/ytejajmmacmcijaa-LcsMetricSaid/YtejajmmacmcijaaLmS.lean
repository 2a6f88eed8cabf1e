/- The statement LcsMetric holds for every input. -/
import Derived.Test.YtejajmmacmcijaaAmC
import Derived.Test.YtejajmmacmcijaaLm
namespace Go.Proofs.Ytejajmmacmcijaa
open Go.RowKit Go.ChangeShapes Go.WideShapes Go.ChangeAt Go.Deep

set_option maxRecDepth 100000 in
theorem metric_lifted (os : Os) (started : os.Started) (H : Type) (enc : TypeId × Value → H) :
    ReturnsInHanded {} Try.checked os 9 .any (Rows.lcsMetricSpec.pre6 enc Try.prog Try.f9 Rows.lcsMetricRow.domain false) (Rows.lcsMetricSpec.post enc Try.prog Try.f9 false true false false) := by
  refine law_lifted started (by kernel_rfl) Try.func9 rfl ?_ rfl (of_decide_eq_true (by kernel_rfl))
    (ChangeSpec.witness6 (enc := enc) (C := Try.checked) false ⟨#[], #[.slice none 0 0, .slice none 0 0, .slice none 0 0], []⟩ 8 (by kernel_rfl) (by kernel_rfl) (by kernel_rfl) (by kernel_rfl)) ?_
  · intro ds hl
    match ds, hl with
    | [d1, d2, d3], _ => rfl
  · intro W base args ds p hval hA hsz
    rw [Try.params9] at hA hval
    obtain ⟨v0, v1, v2, d0, d1, d2, p0, p1, p2, rfl, rfl, rfl, h0, h1, h2⟩ := trodAll_three hA
    obtain ⟨a, -, ra⟩ := rep_strings Try.underlying41 Try.underlying9 (by kernel_rfl) (hval 0 41 v0 rfl rfl) h0
    obtain ⟨b, -, rb⟩ := rep_strings Try.underlying41 Try.underlying9 (by kernel_rfl) (hval 1 41 v1 rfl rfl) h1
    obtain ⟨c, -, rc⟩ := rep_strings Try.underlying41 Try.underlying9 (by kernel_rfl) (hval 2 41 v2 rfl rfl) h2
    exact calls_true (R_sound FT_ok XL_ok (metric_run a b c)) (repL_of3 ra rb rc)

theorem metric_holds : Rows.LcsMetricSaid :=
  OpenClaim.holds_of_wide 9 Try.f9 rfl rfl rfl rfl rfl rfl rfl ⟨rfl, rfl, rfl, rfl, rfl⟩ rfl rfl rfl rfl rfl (by kernel_rfl) Try.func9 (by kernel_rfl)
    (of_decide_eq_true (by kernel_rfl)) (by unfold Func.isWrapper; first | (rw [if_pos (by decide +kernel)]; kernel_rfl) | (rw [if_neg (by decide +kernel)]; exact ⟨rfl, rfl⟩))
    (fun os started H enc _ => metric_lifted os started H enc)
#print axioms metric_holds
end Go.Proofs.Ytejajmmacmcijaa
