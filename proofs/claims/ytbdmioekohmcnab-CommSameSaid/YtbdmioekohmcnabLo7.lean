/- Locales: the collating elements of a string, and their weights. -/
import Derived.Test.YtbdmioekohmcnabLo6
namespace Go.Proofs.Ytbdmioekohmcnab
set_option linter.unusedVariables false
set_option linter.unusedSimpArgs false
set_option maxRecDepth 100000
theorem fIx_neg {E : List El} {s : Bs} {i : Nat} (h : fIx E s i < 0) : lkAt E s i = none := by
  unfold fIx at h; unfold lkAt
  split at h
  · rename_i hi
    rw [if_pos hi]
    cases hx : ix E ((s.drop i).take 2) with
    | none => exact ix_none.1 hx
    | some j => rw [hx] at h; simp at h; omega
  · rename_i hi; rw [if_neg hi]
theorem fIx_pos {E : List El} {s : Bs} {i : Nat} (h : ¬ fIx E s i < 0) : i + 2 ≤ s.length ∧ ∃ e, E[(fIx E s i).toNat]? = some e ∧ e.text = (s.drop i).take 2 ∧ lkAt E s i = some e.weight := by
  unfold fIx at h ⊢; unfold lkAt
  split at h
  · rename_i hi
    rw [if_pos hi, if_pos hi]
    cases hx : ix E ((s.drop i).take 2) with
    | none => rw [hx] at h; simp at h
    | some j =>
      obtain ⟨e, h1, h2, h3⟩ := ix_some hx
      exact ⟨hi, e, by simpa using h1, h2, h3⟩
  · simp at h
theorem sub1 {s : Bs} {i : Nat} {c : UInt8} (h : s[i]? = some c) : (s.take (i + 1)).drop i = [c] := by
  obtain ⟨hi, rfl⟩ := get_of h
  rw [List.drop_take, show i + 1 - i = 1 by omega, List.drop_eq_getElem_cons hi]; rfl
theorem len2 {s : Bs} {i : Nat} (h : i + 2 ≤ s.length) : ((s.take (i + 2)).drop i).length = 2 := by simp; omega
theorem len1 {s : Bs} {i : Nat} (h : i + 1 ≤ s.length) : ((s.take (i + 1)).drop i).length = 1 := by simp; omega
theorem map_snoc {α β : Type} (f : α → β) (g : β → AV) (l : List α) (x : α) (v : AV) (h : v = g (f x)) : (l.map f).map g ++ [v] = ((l ++ [x]).map f).map g := by
  subst h; rw [List.map_append, List.map_append]; rfl
theorem app_next {α : Type} {a b c : List α} {x : α} (h : a = b ++ c) {d : List α} (hd : c = x :: d) : a = (b ++ [x]) ++ d := by rw [h, hd, List.append_assoc]; rfl
def boxL (l : Loc) : MObj := .box [strL l.name, .slice 1 (l.weights.map intA), strL l.lower, strL l.upper, .slice 5 (l.classes.map encCls), .slice 2 (l.elements.map encEl)]
section
variable {X : CallF}
end
end Go.Proofs.Ytbdmioekohmcnab
