/- The statement LocaleCompares holds for every input of bounded bulk. -/
import Derived.Test.YtbdmioekohmcnaaLoC
import Derived.Test.YtbdmioekohmcnaaLo13
namespace Go.Proofs.Ytbdmioekohmcnaa
set_option linter.unusedVariables false
set_option linter.unusedSimpArgs false
open Go.RowKit Go.ChangeShapes Go.WideShapes Go.ChangeAt Go.Deep

set_option maxRecDepth 100000 in
theorem lcompares_lifted (os : Os) (started : os.Started) (H : Type) (enc : TypeId × Value → H) (J : Stop.Interp) :
    ReturnsInHanded {} Try.checked os 5 .any ((Rows.OpenSpec.upto Rows.localeComparesSpec).pre6 enc Try.prog Try.f5 Rows.localeComparesUptoRow.domain false) (((Rows.OpenSpec.upto Rows.localeComparesSpec).at J).post enc Try.prog Try.f5 false true false false) := by
  refine law_liftedU started (by kernel_rfl) Try.func5 rfl ?_ rfl (of_decide_eq_true (by kernel_rfl))
    (OpenSpec.witness (enc := enc) (C := Try.checked) (s := Rows.OpenSpec.upto Rows.localeComparesSpec) (k := Rows.uptoSmall) rfl false ⟨#[], #[.agg #[.string .empty, .slice none 0 0, .string .empty, .string .empty, .slice none 0 0, .slice none 0 0], .string .empty, .string .empty], []⟩ 8 (by kernel_rfl) (by kernel_rfl) (by kernel_rfl)
      (x := ([.agg [.lit (.string []), .nil, .lit (.string []), .lit (.string []), .nil, .nil], .lit (.string []), .lit (.string [])], [], [])) (by kernel_rfl) rfl (by kernel_rfl)) ?_
  · intro ds hl
    match ds, hl with
    | [d0, d1, d2], _ => rfl
  · intro W base args ds p hval hA hk
    rw [Try.params5] at hA hval
    obtain ⟨v0, v1, v2, d0, d1, d2, p0, p1, p2, rfl, rfl, rfl, h0, h1, h2⟩ := trodAll_three hA
    obtain ⟨l0, r0⟩ := rep_loc (hval 0 26 v0 rfl rfl) h0
    obtain ⟨l1, r1, e1⟩ := rep_str (hval 1 9 v1 rfl rfl) h1
    obtain ⟨l2, r2, e2⟩ := rep_str (hval 2 9 v2 rfl rfl) h2
    have b1 : (dStr d1).length ≤ 1048576 := by
      have := bulk_mem (d := d1) (l := [d0, d1, d2]) (by simp)
      exact bulk_str e1 (Nat.le_trans this hk)
    have b2 : (dStr d2).length ≤ 1048576 := by
      have := bulk_mem (d := d2) (l := [d0, d1, d2]) (by simp)
      exact bulk_str e2 (Nat.le_trans this hk)
    exact calls_true (R_sound FT_ok XS_ok (compares_law (locOf d0) (dStr d1) (dStr d2) l0 b1 b2 XS_cmp)) (repL_of3 r0 r1 r2)

theorem lcompares_holds : Rows.LocaleComparesUptoSaid :=
  OpenClaim.holds_of_cond 5 Try.f5 rfl rfl rfl rfl rfl rfl rfl ⟨rfl, rfl, rfl, rfl, rfl⟩ rfl rfl rfl rfl rfl (by kernel_rfl) Try.func5 (by kernel_rfl)
    (of_decide_eq_true (by kernel_rfl)) (by unfold Func.isWrapper; first | (rw [if_pos (by decide +kernel)]; kernel_rfl) | (rw [if_neg (by decide +kernel)]; exact ⟨rfl, rfl⟩))
    (fun os started H enc _ J => lcompares_lifted os started H enc J)
#print axioms lcompares_holds
end Go.Proofs.Ytbdmioekohmcnaa
