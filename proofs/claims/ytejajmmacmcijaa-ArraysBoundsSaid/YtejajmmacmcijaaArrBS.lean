/- The statement ArraysBounds holds for every input. -/
import Derived.Test.YtejajmmacmcijaaArrS
import Derived.Test.YtejajmmacmcijaaArrB
namespace Go.Proofs.Ytejajmmacmcijaa
open Go.RowKit Go.ChangeShapes Go.WideShapes Go.ChangeAt Go.Deep

set_option maxRecDepth 100000 in
theorem bounds_lifted (os : Os) (started : os.Started) (H : Type) (enc : TypeId × Value → H) :
    ReturnsInHanded {} Try.checked os 4 .any (Rows.arraysBoundsSpec.pre6 enc Try.prog Try.f4 Rows.arraysBoundsRow.domain false) (Rows.arraysBoundsSpec.post enc Try.prog Try.f4 false true false false) := by
  refine law_lifted started (by kernel_rfl) Try.func4 rfl ?_ rfl (of_decide_eq_true (by kernel_rfl))
    (ChangeSpec.witness6 (enc := enc) (C := Try.checked) false ⟨#[], #[.int .i64 0, .slice none 0 0], []⟩ 8 (by kernel_rfl) (by kernel_rfl) (by kernel_rfl) (by kernel_rfl)) ?_
  · intro ds hl
    match ds, hl with
    | [d1, d2], _ => rfl
  · intro W base args ds p hval hA hsz
    rw [Try.params4] at hA hval
    obtain ⟨v0, v1, d0, d1, p0, p1, rfl, rfl, rfl, h0, h1⟩ := trodAll_two hA
    obtain ⟨x, rfl, rfl, rfl, wx⟩ := open_int Try.underlying3 (hval 0 3 v0 rfl rfl) h0
    obtain ⟨A, n, c, rfl, hm, hnc, hnil, css, D, hS, hcs, -⟩ := open_sl (size := 6) Try.underlying22 (by kernel_rfl) (by omega) (hval 1 22 v1 rfl rfl) h1
    obtain ⟨cs, hC⟩ := open_cls hS hcs
    rcases Nat.lt_or_ge 80 n with hn | hn
    · exact (Bounds_long x A n c W hn).mono fun e w' ⟨h1, h2⟩ => ⟨h1, h2.none_below⟩
    · exact (Bounds_main x A n c cs W hn hC).mono fun e w' ⟨h1, h2⟩ => ⟨h1, h2.none_below⟩

theorem bounds_holds : Rows.ArraysBoundsSaid :=
  OpenClaim.holds_of_wide 4 Try.f4 rfl rfl rfl rfl rfl rfl rfl ⟨rfl, rfl, rfl, rfl, rfl⟩ rfl rfl rfl rfl rfl (by kernel_rfl) Try.func4 (by kernel_rfl)
    (of_decide_eq_true (by kernel_rfl)) (by unfold Func.isWrapper; first | (rw [if_pos (by decide +kernel)]; kernel_rfl) | (rw [if_neg (by decide +kernel)]; exact ⟨rfl, rfl⟩))
    (fun os started H enc _ => bounds_lifted os started H enc)
#print axioms bounds_holds
end Go.Proofs.Ytejajmmacmcijaa
