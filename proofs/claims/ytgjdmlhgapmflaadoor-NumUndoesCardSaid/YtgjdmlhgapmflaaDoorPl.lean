/- Small facts on lists and bytes, for the leaves of walks. -/
import Derived.Test.YtgjdmlhgapmflaaDoorAmW4
namespace Go.Proofs.YtgjdmlhgapmflaaDoor
set_option linter.unusedVariables false
set_option linter.unusedSimpArgs false
theorem same_at {α : Type} {l : List α} {k : Nat} {x y : α} (h : l[k]? = some x) (h' : l[k]? = some y) : y = x := by rw [h] at h'; exact (Option.some.inj h').symm
theorem all_of {α : Type} {P : α → Prop} {l : List α} {k : Nat} {x : α} (h : l[k]? = some x) (hI : ∀ y ∈ l.take k, P y) (hx : P x) : ∀ y ∈ l.take (k + 1), P y := fun y hy => by
  obtain ⟨hk, rfl⟩ := get_of h
  rw [List.take_succ_eq_append_getElem hk] at hy
  rcases List.mem_append.1 hy with h1 | h1
  · exact hI y h1
  · rw [List.mem_singleton.1 h1]; exact hx
theorem take_succ_get {α : Type} {l : List α} {k : Nat} {x : α} (h : l[k]? = some x) : l.take (k + 1) = l.take k ++ [x] := by
  obtain ⟨hk, rfl⟩ := get_of h
  rw [List.take_succ_eq_append_getElem hk]
theorem drop_get {α : Type} {l : List α} {k : Nat} {x : α} (h : l[k]? = some x) : l.drop k = x :: l.drop (k + 1) := by
  obtain ⟨hk, rfl⟩ := get_of h
  exact List.drop_eq_getElem_cons hk
theorem getD_of {α : Type} {l : List α} {k : Nat} {c z : α} (h : l[k]? = some c) : l.getD k z = c := by rw [List.getD_eq_getElem?_getD, h]; rfl
theorem mem_take_get {α : Type} {P : α → Prop} {l : List α} {k i : Nat} {x : α} (hI : ∀ y ∈ l.take k, P y) (hi : l[i]? = some x) (hk : i < k) : P x := by
  refine hI x (List.mem_of_getElem? (i := i) ?_)
  rw [List.getElem?_take, if_pos hk]; exact hi
theorem pw_at {α : Type} {m : List α} {P : α → α → Prop} (h : m.Pairwise P) {i j : Nat} {x y : α} (hij : i < j) (hi : m[i]? = some x) (hj : m[j]? = some y) : P x y := by
  obtain ⟨hi', rfl⟩ := get_of hi
  obtain ⟨hj', rfl⟩ := get_of hj
  exact List.pairwise_iff_getElem.1 h _ _ hi' hj' hij
theorem u8_of {c : UInt8} {n : Nat} (h : (c.toNat : Int) = n) (hn : n < 256) : c = UInt8.ofNat n := by
  apply UInt8.toNat_inj.1
  rw [UInt8.toNat_ofNat']; omega
/-- are they the same? -/
noncomputable def sameB {α : Type} (a b : α) : Bool := @decide (a = b) (Classical.propDecidable _)
theorem sameB_n {α : Type} {a b : α} (h : a ≠ b) : false = sameB a b := by unfold sameB; simp [h]
theorem sameB_y {α : Type} {a b : α} (h : a = b) : true = sameB a b := by unfold sameB; simp [h]
theorem take_eq {α : Type} {a b : List α} {k : Nat} {x : α} (h : a.take k = b.take k) (ha : a[k]? = some x) (hb : b[k]? = some x) : a.take (k + 1) = b.take (k + 1) := by
  obtain ⟨h1, e1⟩ := get_of ha
  obtain ⟨h2, e2⟩ := get_of hb
  rw [List.take_succ_eq_append_getElem h1, List.take_succ_eq_append_getElem h2, h, e1, e2]
theorem take_all {α : Type} {a b : List α} {k : Nat} (h : a.take k = b.take k) (ha : a.length ≤ k) (hb : b.length ≤ k) : a = b := by
  rw [List.take_of_length_le ha, List.take_of_length_le hb] at h; exact h
theorem at_ne {α : Type} {a b : List α} {k : Nat} {x y : α} (ha : a[k]? = some x) (hb : b[k]? = some y) (h : x ≠ y) : a ≠ b := fun e => by
  subst e; rw [ha] at hb; cases hb; exact h rfl
end Go.Proofs.YtgjdmlhgapmflaaDoor
