/- Lcs: what comes in. -/
import Derived.Test.YtejajmmacmcijaaCl
import Derived.Test.YtejajmmacmcijaaLc6
namespace Go.Proofs.Ytejajmmacmcijaa
set_option linter.unusedVariables false
set_option linter.unusedSimpArgs false
open Go.RowKit Go.ChangeShapes Go.WideShapes Go.ChangeAt Go.Deep
set_option maxRecDepth 100000
section
variable {H : Type} {enc : TypeId × Value → H} {w : World}
def sEd : Sh := .st [.int .i64, .int .i64, .int .i64, .int .i64]
def edOf (d : DataW H) : Ed := ⟨dInt (dPart d 0), dInt (dPart d 1), dInt (dPart d 2), dInt (dPart d 3)⟩
theorem ed_ok {d : DataW H} (h : Ty sEd d) : sEd.mk (dAV sEd d) = encEd (edOf d) ∧ InI64 (edOf d).a ∧ InI64 (edOf d).b := by
  obtain ⟨l, rfl, h⟩ := Ty_st h
  obtain ⟨a, l, rfl, ha, h⟩ := Tys_cons h
  obtain ⟨b, l, rfl, hb, h⟩ := Tys_cons h
  obtain ⟨c, l, rfl, hc, h⟩ := Tys_cons h
  obtain ⟨e, l, rfl, he, h⟩ := Tys_cons h
  obtain rfl := Tys_nil h
  refine ⟨?_, wf_i64 (int_ok hb).2, wf_i64 (int_ok hc).2⟩
  simp only [sEd, dAV, dAVs, (int_ok ha).1, (int_ok hb).1, (int_ok hc).1, (int_ok he).1]
  rfl
theorem rep_eds {v : Value} {d : DataW H} {p : List MemPlace} {b0 : Nat} (hv : Value.okWide Try.prog w .any b0 44 v)
    (h : DataW.Trod enc Try.prog w 0 (fun _ => true) true 44 v d p) : ((dEls d).map edOf).length ≤ maxLen ∧ (∀ e ∈ (dEls d).map edOf, InI64 e.a ∧ InI64 e.b) ∧ Rep (S0 w) w [] v (.slice 4 (((dEls d).map edOf).map encEd)) ∧ Ty (.sl sEd) d := by
  obtain ⟨h1, h2⟩ := rep_arg (s := .sl sEd) (by kernel_rfl) hv h
  obtain ⟨h3, h4, h5⟩ := sl_ok h1 encEd edOf fun x hx => (ed_ok hx).1
  rw [h3] at h2
  refine ⟨h4, fun e he => ?_, h2, h1⟩
  obtain ⟨y, hy, rfl⟩ := List.mem_map.1 he
  exact (ed_ok (h5 y hy)).2
theorem bulk_sl {s : Sh} {d : DataW H} (h : Ty (.sl s) d) {n : Nat} (hn : Rows.uptoBulk d ≤ n) : (dEls d).length ≤ n := by
  rcases Ty_sl h with rfl | ⟨elems, spare, rfl, hl, hty⟩
  · exact Nat.zero_le _
  · have := bulk_len elems
    simp only [Rows.uptoBulk] at hn
    simp only [dEls]; omega
end
theorem piece_len {a b : List Bs} {e : Ed} {p : List Bs} (h : piece a b e = some p) : p.length ≤ a.length + b.length := by
  unfold piece at h
  (repeat' split at h) <;> first | (injection h with h; subst h; first | (simp only [List.length_take, List.length_drop]; omega) | (simp only [List.length_nil]; omega)) | cases h
theorem apR_len {a b : List Bs} : ∀ (l : List Ed) (out : List Bs), apR a b l = some out → out.length ≤ l.length * (a.length + b.length) := fun l => by
  induction l using list_snoc with
  | h0 => intro out h; cases h; simp
  | h1 l e ih =>
    intro out h
    rw [apR_app] at h
    simp only [List.foldl_cons, List.foldl_nil] at h
    cases h1 : apR a b l with
    | none => rw [h1] at h; simp [apS] at h
    | some o =>
      rw [h1] at h
      simp only [apS, Option.map_eq_some_iff] at h
      obtain ⟨p, hp, rfl⟩ := h
      have h2 := ih o h1
      have h3 := piece_len hp
      simp only [List.length_append, List.length_cons, List.length_nil, Nat.zero_add, Nat.add_mul, Nat.one_mul]
      simp only [Nat.mul_add] at h2 ⊢
      omega
theorem ap_upto {a b : List Bs} {l : List Ed} (hab : a.length + b.length ≤ 1048576) (hl : l.length ≤ 1048576) : ∀ k out, apR a b (l.take k) = some out → out.length ≤ 1099511627776 := fun k out h => by
  have h1 := apR_len _ _ h
  have h2 : (l.take k).length * (a.length + b.length) ≤ 1048576 * 1048576 := Nat.mul_le_mul (by rw [List.length_take]; omega) hab
  omega
end Go.Proofs.Ytejajmmacmcijaa
