/- What comes in: strings, numbers, lists. -/
import Derived.Test.YtejajmmacmcijaaUp
namespace Go.Proofs.Ytejajmmacmcijaa
set_option linter.unusedVariables false
set_option linter.unusedSimpArgs false
open Go.RowKit Go.ChangeShapes Go.WideShapes Go.ChangeAt Go.Deep
set_option maxRecDepth 100000
section
variable {H : Type}
theorem Tys_cons {s : Sh} {r : List Sh} {l : List (DataW H)} (h : Tys (s :: r) l) : ∃ d l', l = d :: l' ∧ Ty s d ∧ Tys r l' := by
  cases l with
  | nil => simp [Tys] at h
  | cons d l => exact ⟨d, l, rfl, by simpa [Tys] using h⟩
theorem Tys_nil {l : List (DataW H)} (h : Tys [] l) : l = [] := by
  cases l with
  | nil => rfl
  | cons d l => simp [Tys] at h
def dStr : DataW H → Bs
  | .lit (.string l) => l
  | _ => []
def dInt : DataW H → Int
  | .lit (.int _ n) => n
  | _ => 0
def dEls : DataW H → List (DataW H)
  | .slice l _ => l
  | _ => []
def dPart (d : DataW H) (i : Nat) : DataW H := match d with
  | .agg l => l.getD i .nil
  | _ => .nil
theorem str_ok {d : DataW H} (h : Ty .str d) : dAV .str d = [strL (dStr d)] ∧ (dStr d).length ≤ maxLen := by
  obtain ⟨l, rfl, hl⟩ := Ty_str h; exact ⟨rfl, hl⟩
theorem int_ok {k : IntKind} {d : DataW H} (h : Ty (.int k) d) : dAV (.int k) d = [.val (.int k (dInt d))] ∧ (Lit.int k (dInt d)).wf = true := by
  obtain ⟨n, rfl, hl⟩ := Ty_int h; exact ⟨rfl, hl⟩
/-- a slice, element by element -/
theorem sl_ok {α : Type} {e : Sh} {d : DataW H} (h : Ty (.sl e) d) (g : α → AV) (f : DataW H → α) (hf : ∀ x, Ty e x → e.mk (dAV e x) = g (f x)) : dAV (.sl e) d = [.slice e.n (((dEls d).map f).map g)] ∧ ((dEls d).map f).length ≤ maxLen ∧ ∀ x ∈ dEls d, Ty e x := by
  rcases Ty_sl h with rfl | ⟨elems, spare, rfl, hl, hx⟩
  · exact ⟨rfl, Nat.zero_le _, fun x hx => by cases hx⟩
  · refine ⟨?_, by simpa [dEls] using hl, hx⟩
    simp only [dAV, dEls, List.map_map]
    congr 2
    exact List.map_congr_left fun x hm => hf x (hx x hm)
variable {enc : TypeId × Value → H} {w : World}
theorem rep_str {v : Value} {d : DataW H} {p : List MemPlace} {b0 : Nat} (hv : Value.okWide Try.prog w .any b0 9 v)
    (h : DataW.Trod enc Try.prog w 0 (fun _ => true) true 9 v d p) : (dStr d).length ≤ maxLen ∧ Rep (S0 w) w [] v (strL (dStr d)) ∧ d = .lit (.string (dStr d)) := by
  obtain ⟨h1, h2⟩ := rep_arg (s := .str) (by kernel_rfl) hv h
  obtain ⟨l, rfl, hl⟩ := Ty_str h1
  exact ⟨hl, h2, rfl⟩
theorem rep_strsI {v : Value} {d : DataW H} {p : List MemPlace} {b0 : Nat} (hv : Value.okWide Try.prog w .any b0 41 v)
    (h : DataW.Trod enc Try.prog w 0 (fun _ => true) true 41 v d p) : ((dEls d).map dStr).length ≤ maxLen ∧ Rep (S0 w) w [] v (.slice 1 (((dEls d).map dStr).map strL)) ∧ Ty (.sl .str) d := by
  obtain ⟨h1, h2⟩ := rep_arg (s := .sl .str) (by kernel_rfl) hv h
  obtain ⟨h3, h4, h5⟩ := sl_ok h1 strL dStr fun x hx => by rw [(str_ok hx).1]; rfl
  rw [h3] at h2
  exact ⟨h4, h2, h1⟩
theorem bulk_strs {d : DataW H} (h : Ty (.sl .str) d) {n : Nat} (hn : Rows.uptoBulk d ≤ n) : ∀ x ∈ (dEls d).map dStr, x.length ≤ n := fun x hx => by
  rcases Ty_sl h with rfl | ⟨elems, spare, rfl, hl, hty⟩
  · cases hx
  · obtain ⟨y, hy, rfl⟩ := List.mem_map.1 hx
    obtain ⟨l, rfl, -⟩ := Ty_str (hty y hy)
    have h1 := bulk_mem (show DataW.lit (.string l) ∈ elems from hy)
    simp only [Rows.uptoBulk] at hn
    exact bulk_str (d := .lit (.string l)) rfl (by omega)
end
end Go.Proofs.Ytejajmmacmcijaa
