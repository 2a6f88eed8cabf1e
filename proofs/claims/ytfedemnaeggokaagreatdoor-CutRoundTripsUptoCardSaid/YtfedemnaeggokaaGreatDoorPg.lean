/- Own texts of this claim, merged: CuD. -/
import Derived.Test.YtfedemnaeggokaaGreatDoorPf
section
namespace Go.Proofs.YtfedemnaeggokaaGreatDoor
set_option linter.unusedVariables false
set_option linter.unusedSimpArgs false
open Go.RowKit Go.ChangeShapes Go.WideShapes Go.ChangeAt Go.Deep
set_option maxRecDepth 100000
section
variable {H : Type}
def dBool : DataW H → Bool
 | .lit (.bool b) => b
 | _ => false
theorem bool_ok {d : DataW H} (h : Ty .bool d) : dAV .bool d = [boolA (dBool d)] := by
 obtain ⟨b, rfl⟩ := Ty_bool h; rfl
def sSp : Sh := .st [.int .i64, .int .i64]
def sSpec : Sh := .st [.int .i64, .sl sSp, .int .u8, .str, .bool, .bool]
def specOf (d : DataW H) : Spec := ⟨dInt (dPart d 0), (dEls (dPart d 1)).map spOf, UInt8.ofNat (dInt (dPart d 2)).toNat, dStr (dPart d 3), dBool (dPart d 4), dBool (dPart d 5)⟩
theorem spec_ok {d : DataW H} (h : Ty sSpec d) : sSpec.mk (dAV sSpec d) = encSc (specOf d) ∧ (specOf d).spans.length ≤ maxLen ∧ (∀ x ∈ (specOf d).spans, InI64 x.f ∧ InI64 x.t) ∧ ∀ n, Rows.uptoBulk d ≤ n → (specOf d).out.length ≤ n := by
 obtain ⟨l, rfl, h⟩ := Ty_st h
 obtain ⟨a, l, rfl, ha, h⟩ := Tys_cons h
 obtain ⟨b, l, rfl, hb, h⟩ := Tys_cons h
 obtain ⟨c, l, rfl, hc, h⟩ := Tys_cons h
 obtain ⟨e, l, rfl, he, h⟩ := Tys_cons h
 obtain ⟨f, l, rfl, hf, h⟩ := Tys_cons h
 obtain ⟨g, l, rfl, hg, h⟩ := Tys_cons h
 obtain rfl := Tys_nil h
 obtain ⟨q1, q2, q3⟩ := sl_ok hb encSp spOf fun x hx => (sp_ok hx).1
 have u8 : ((UInt8.ofNat (dInt c).toNat).toNat : Int) = dInt c := by
  have := wf_u8 (int_ok hc).2
  rw [UInt8.toNat_ofNat']; omega
 refine ⟨?_, q2, fun x hx => ?_, fun n hn => ?_⟩
 ·simp only [sSpec, dAV, dAVs, (int_ok ha).1, q1, (int_ok hc).1, (str_ok he).1, bool_ok hf, bool_ok hg]
  rw [← u8]
  rfl
 ·obtain ⟨y, hy, rfl⟩ := List.mem_map.1 hx
  exact (sp_ok (q3 y hy)).2
 ·obtain ⟨s, rfl, -⟩ := Ty_str he
  have h1 := bulk_mem (d := DataW.lit (.string s)) (l := [a, b, c, .lit (.string s), f, g]) (by simp)
  simp only [Rows.uptoBulk] at hn
  exact bulk_str (H := H) (d := .lit (.string s)) rfl (by simp only [Rows.uptoBulk] at h1 ⊢; omega)
theorem bulk_sl {s : Sh} {d : DataW H} (h : Ty (.sl s) d) {n : Nat} (hn : Rows.uptoBulk d ≤ n) : (dEls d).length ≤ n := by
 rcases Ty_sl h with rfl | ⟨elems, spare, rfl, hl, hty⟩
 ·exact Nat.zero_le _
 ·have := bulk_len elems
  simp only [Rows.uptoBulk] at hn
  show elems.length ≤ n
  omega
theorem bulk_strs {d : DataW H} (h : Ty (.sl .str) d) {n : Nat} (hn : Rows.uptoBulk d ≤ n) : ∀ x ∈ (dEls d).map dStr, x.length ≤ n := fun x hx => by
 rcases Ty_sl h with rfl | ⟨elems, spare, rfl, hl, hty⟩
 ·cases hx
 ·obtain ⟨y, hy, rfl⟩ := List.mem_map.1 hx
  obtain ⟨l, rfl, -⟩ := Ty_str (hty y hy)
  have h1 := bulk_mem (show DataW.lit (.string l) ∈ elems from hy)
  simp only [Rows.uptoBulk] at hn
  exact bulk_str (d := .lit (.string l)) rfl (by omega)
variable {enc : TypeId × Value → H} {w : World}
theorem rep_spec {v : Value} {d : DataW H} {p : List MemPlace} {b0 : Nat} (hv : Value.okWide Tryz.prog w .any b0 31 v)
    (h : DataW.Trod enc Tryz.prog w 0 (fun _ => true) true 31 v d p) : ((specOf d).spans.length ≤ maxLen ∧ (∀ x ∈ (specOf d).spans, InI64 x.f ∧ InI64 x.t) ∧ ∀ n, Rows.uptoBulk d ≤ n → (specOf d).out.length ≤ n) ∧ Rep (S0 w) w [] v (encSc (specOf d)) := by
  obtain ⟨h1, h2⟩ := rep_arg (s := sSpec) (by kernel_rfl) hv h
  obtain ⟨h3, h4⟩ := spec_ok h1
  rw [h3] at h2
  exact ⟨h4, h2⟩
theorem rep_bool {v : Value} {d : DataW H} {p : List MemPlace} {b0 : Nat} (hv : Value.okWide Tryz.prog w .any b0 4 v)
    (h : DataW.Trod enc Tryz.prog w 0 (fun _ => true) true 4 v d p) : ∃ b : Bool, Rep (S0 w) w [] v (boolA b) := by
  obtain ⟨h1, h2⟩ := rep_arg (s := .bool) (by kernel_rfl) hv h
  obtain ⟨b, rfl⟩ := Ty_bool h1
  exact ⟨b, h2⟩
end
theorem lnok {p : Spec} {s : Bs} (h1 : p.spans.length ≤ maxLen) (h2 : ∀ x ∈ p.spans, InI64 x.f ∧ InI64 x.t) (h3 : p.out.length ≤ 1048576) (h4 : s.length ≤ 1048576) : LnOk p s :=
 ⟨h1, fun x hx => (h2 x hx).1.2, by omega, Nat.le_trans (Nat.mul_le_mul h4 (show p.out.length + 1 ≤ 1048577 by omega)) (by decide)⟩
theorem aplok {p : Spec} {s : Bs} (h1 : p.spans.length ≤ maxLen) (h2 : ∀ x ∈ p.spans, InI64 x.f ∧ InI64 x.t) (h3 : p.out.length ≤ 1048576) (h4 : s.length ≤ 1048576) : AplOk p s :=
 ⟨h1, fun x hx => (h2 x hx).1.2, by omega, Nat.le_trans (Nat.mul_le_mul h4 (show 2 * p.out.length + 1 ≤ 2097153 by omega)) (by decide)⟩
end Go.Proofs.YtfedemnaeggokaaGreatDoor
end
