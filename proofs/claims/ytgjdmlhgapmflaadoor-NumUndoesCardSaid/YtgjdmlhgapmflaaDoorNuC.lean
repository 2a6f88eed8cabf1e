/- Numbers: what came in, the library, and the package variables. -/
import Derived.Test.YtgjdmlhgapmflaaDoorRep
import Derived.Test.YtgjdmlhgapmflaaDoorLaid
import Derived.Test.YtgjdmlhgapmflaaDoorNuX
import Derived.Test.YtgjdmlhgapmflaaDoorNu3
namespace Go.Proofs.YtgjdmlhgapmflaaDoor
set_option linter.unusedVariables false
set_option linter.unusedSimpArgs false
open Go.RowKit Go.ChangeShapes Go.WideShapes Go.ChangeAt Go.Deep
set_option maxRecDepth 100000
/-- the functions of the library -/
def XS : CallF := ⟨fun f vs => if f = 28 then itoaX vs else if f = 26 then atoiX vs else none, fun _ _ _ => none⟩
theorem XS_ok : CallsOk Tryd.prog XS := by
  refine ⟨fun f vs r h => ?_, fun f vs m r m' h => by cases h⟩
  simp only [XS] at h
  split at h
  · rename_i hf
    subst hf
    exact itoaX_ok h
  · split at h
    · rename_i hf
      subst hf
      exact atoiX_ok h
    · cases h
theorem XS_num : NumC XS where
  itoa n hn := R_ext rfl (by
    show itoaX [intA n] = _
    simp only [itoaX, intA]
    rw [if_pos hn])
  ok s hs hd hi := R_ext rfl (by
    show atoiX [strL s] = _
    have e : (ofL s).data.toList = s := rfl
    simp only [atoiX, strL]
    rw [if_pos (by show s.length ≤ _; omega), e, atoi_dec hd, if_pos hi])
  over s hs hd hi := R_ext rfl (by
    show atoiX [strL s] = _
    have e : (ofL s).data.toList = s := rfl
    simp only [atoiX, strL]
    rw [if_pos (by show s.length ≤ _; omega), e, atoi_dec hd, if_neg hi])
section
variable {H : Type} {enc : TypeId × Value → H} {w : World}
theorem rep_i64 {v : Value} {d : DataW H} {p : List MemPlace} {b0 : Nat} (hv : Value.okWide Tryd.prog w .any b0 3 v)
    (h : DataW.Trod enc Tryd.prog w 0 (fun _ => true) true 3 v d p) : ∃ n : Int, InI64 n ∧ Rep (S0 w) w [] v (intA n) := by
  obtain ⟨h1, h2⟩ := rep_arg (s := .int .i64) (by kernel_rfl) hv h
  obtain ⟨n, rfl, hl⟩ := Ty_int h1
  have := wf_i64 hl
  exact ⟨n, this, h2⟩
theorem rep_str {v : Value} {d : DataW H} {p : List MemPlace} {b0 : Nat} (hv : Value.okWide Tryd.prog w .any b0 9 v)
    (h : DataW.Trod enc Tryd.prog w 0 (fun _ => true) true 9 v d p) : ∃ s : Bs, s.length ≤ maxLen ∧ Rep (S0 w) w [] v (strL s) ∧ d = .lit (.string s) := by
  obtain ⟨h1, h2⟩ := rep_arg (s := .str) (by kernel_rfl) hv h
  obtain ⟨l, rfl, hl⟩ := Ty_str h1
  exact ⟨l, hl, h2, rfl⟩
end
/-- the package variables, off what is listed -/
theorem gr_num {W : World} (h : laidMetH Tryd.prog Rows.numDividesRow.laid W) : GR (S0 W) W [] := by
  rw [MakeChecks.laidMetH_plain _ _ _ (by kernel_rfl)] at h
  intro g l hg
  unfold GT at hg
  split at hg
  · rename_i e
    cases hg
    subst e
    have := gr_ints (n := "internal/strconv.uint64pow10") (g := 3) (t := 107) (e := 84) (k := .u64) (zs := pow10L.map fun (n : Nat) => (n : Int)) h (List.mem_of_getElem? (i := 2) rfl) (by kernel_rfl) (by kernel_rfl) (c := 20) (by kernel_rfl) (by kernel_rfl) (by kernel_rfl) (by kernel_rfl)
    exact this
  · split at hg
    · rename_i e
      cases hg
      subst e
      exact gr_err (t := 40) (n := "strconv.ErrRange") h (List.mem_of_getElem? (i := 3) rfl) (by kernel_rfl) (by kernel_rfl) Tryd.underlying40
    · split at hg
      · rename_i e
        cases hg
        subst e
        exact gr_err (t := 40) (n := "strconv.ErrSyntax") h (List.mem_of_getElem? (i := 4) rfl) (by kernel_rfl) (by kernel_rfl) Tryd.underlying40
      · cases hg
theorem door_met (os : Os) (args : Array Value) : laidMetH Tryd.prog Rows.numDividesRow.laid ((World.doorLaid Tryd.prog 2000 os).forCall (fun _ _ => 0) ⟨#[], args, []⟩).memory :=
  laidMetH_of_parts3 (fuel := 8) (laidMet_of_run' 8 (by kernel_rfl) (by kernel_rfl)) (by kernel_rfl) (by kernel_rfl)
end Go.Proofs.YtgjdmlhgapmflaaDoor
