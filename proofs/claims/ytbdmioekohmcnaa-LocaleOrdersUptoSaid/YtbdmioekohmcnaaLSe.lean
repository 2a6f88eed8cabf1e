/- The statement LocaleOrders holds for every input of bounded bulk. -/
import Derived.Test.YtbdmioekohmcnaaLoC
import Derived.Test.YtbdmioekohmcnaaLo15
namespace Go.Proofs.Ytbdmioekohmcnaa
set_option linter.unusedVariables false
set_option linter.unusedSimpArgs false
open Go.RowKit Go.ChangeShapes Go.WideShapes Go.ChangeAt Go.Deep

set_option maxRecDepth 100000 in
theorem lorders_lifted (os : Os) (started : os.Started) (H : Type) (enc : TypeId × Value → H) (J : Stop.Interp) :
    ReturnsInHanded {} Try.checked os 7 .any ((Rows.OpenSpec.upto Rows.localeOrdersSpec).pre6 enc Try.prog Try.f7 Rows.localeOrdersUptoRow.domain false) (((Rows.OpenSpec.upto Rows.localeOrdersSpec).at J).post enc Try.prog Try.f7 false true false false) := by
  refine law_liftedU started (by kernel_rfl) Try.func7 rfl ?_ rfl (of_decide_eq_true (by kernel_rfl))
    (OpenSpec.witness (enc := enc) (C := Try.checked) (s := Rows.OpenSpec.upto Rows.localeOrdersSpec) (k := Rows.uptoSmall) rfl false ⟨#[], #[.agg #[.string .empty, .slice none 0 0, .string .empty, .string .empty, .slice none 0 0, .slice none 0 0], .slice none 0 0], []⟩ 8 (by kernel_rfl) (by kernel_rfl) (by kernel_rfl)
      (x := ([.agg [.lit (.string []), .nil, .lit (.string []), .lit (.string []), .nil, .nil], .nil], [], [])) (by kernel_rfl) rfl (by kernel_rfl)) ?_
  · intro ds hl
    match ds, hl with
    | [d0, d1], _ => rfl
  · intro W base args ds p hval hA hk
    rw [Try.params7] at hA hval
    obtain ⟨v0, v1, d0, d1, p0, p1, rfl, rfl, rfl, h0, h1⟩ := trodAll_two hA
    obtain ⟨l0, r0⟩ := rep_loc (hval 0 26 v0 rfl rfl) h0
    obtain ⟨l1, r1, t1⟩ := rep_strsI (hval 1 32 v1 rfl rfl) h1
    have b1 : ∀ x ∈ (dEls d1).map dStr, x.length ≤ 1048576 := bulk_strs t1 (by have := bulk_mem (d := d1) (l := [d0, d1]) (by simp); omega)
    exact calls_true (R_sound FT_ok XS_ok (orders_law (locOf d0) ((dEls d1).map dStr) l0 l1 b1 XS_cmp)) (repL_of2 r0 r1)

theorem lorders_holds : Rows.LocaleOrdersUptoSaid :=
  OpenClaim.holds_of_cond 7 Try.f7 rfl rfl rfl rfl rfl rfl rfl ⟨rfl, rfl, rfl, rfl, rfl⟩ rfl rfl rfl rfl rfl (by kernel_rfl) Try.func7 (by kernel_rfl)
    (of_decide_eq_true (by kernel_rfl)) (by unfold Func.isWrapper; first | (rw [if_pos (by decide +kernel)]; kernel_rfl) | (rw [if_neg (by decide +kernel)]; exact ⟨rfl, rfl⟩))
    (fun os started H enc _ J => lorders_lifted os started H enc J)
#print axioms lorders_holds
end Go.Proofs.Ytbdmioekohmcnaa
