/- The statement LocaleBytes holds for every input of bounded bulk. -/
import Derived.Test.YtbdmioekohmcnaaLoC
import Derived.Test.YtbdmioekohmcnaaLo16
namespace Go.Proofs.Ytbdmioekohmcnaa
set_option linter.unusedVariables false
set_option linter.unusedSimpArgs false
open Go.RowKit Go.ChangeShapes Go.WideShapes Go.ChangeAt Go.Deep

set_option maxRecDepth 100000 in
theorem lbytes_lifted (os : Os) (started : os.Started) (H : Type) (enc : TypeId × Value → H) (J : Stop.Interp) :
    ReturnsInHanded {} Try.checked os 8 .any ((Rows.OpenSpec.upto Rows.localeBytesSpec).pre6 enc Try.prog Try.f8 Rows.localeBytesUptoRow.domain false) (((Rows.OpenSpec.upto Rows.localeBytesSpec).at J).post enc Try.prog Try.f8 false true false false) := by
  refine law_liftedU started (by kernel_rfl) Try.func8 rfl ?_ rfl (of_decide_eq_true (by kernel_rfl))
    (OpenSpec.witness (enc := enc) (C := Try.checked) (s := Rows.OpenSpec.upto Rows.localeBytesSpec) (k := Rows.uptoSmall) rfl false ⟨#[], #[.string .empty, .string .empty], []⟩ 8 (by kernel_rfl) (by kernel_rfl) (by kernel_rfl)
      (x := ([.lit (.string []), .lit (.string [])], [], [])) (by kernel_rfl) rfl (by kernel_rfl)) ?_
  · intro ds hl
    match ds, hl with
    | [d0, d1], _ => rfl
  · intro W base args ds p hval hA hk
    rw [Try.params8] at hA hval
    obtain ⟨v0, v1, d0, d1, p0, p1, rfl, rfl, rfl, h0, h1⟩ := trodAll_two hA
    obtain ⟨l0, r0, e0⟩ := rep_str (hval 0 9 v0 rfl rfl) h0
    obtain ⟨l1, r1, e1⟩ := rep_str (hval 1 9 v1 rfl rfl) h1
    have b0 : (dStr d0).length ≤ 1048576 := by
      have := bulk_mem (d := d0) (l := [d0, d1]) (by simp)
      exact bulk_str e0 (Nat.le_trans this hk)
    have b1 : (dStr d1).length ≤ 1048576 := by
      have := bulk_mem (d := d1) (l := [d0, d1]) (by simp)
      exact bulk_str e1 (Nat.le_trans this hk)
    exact calls_true (R_sound FT_ok XS_ok (bytes_law (dStr d0) (dStr d1) b0 b1 XS_cmp)) (repL_of2 r0 r1)

theorem lbytes_holds : Rows.LocaleBytesUptoSaid :=
  OpenClaim.holds_of_cond 8 Try.f8 rfl rfl rfl rfl rfl rfl rfl ⟨rfl, rfl, rfl, rfl, rfl⟩ rfl rfl rfl rfl rfl (by kernel_rfl) Try.func8 (by kernel_rfl)
    (of_decide_eq_true (by kernel_rfl)) (by unfold Func.isWrapper; first | (rw [if_pos (by decide +kernel)]; kernel_rfl) | (rw [if_neg (by decide +kernel)]; exact ⟨rfl, rfl⟩))
    (fun os started H enc _ J => lbytes_lifted os started H enc J)
#print axioms lbytes_holds
end Go.Proofs.Ytbdmioekohmcnaa
