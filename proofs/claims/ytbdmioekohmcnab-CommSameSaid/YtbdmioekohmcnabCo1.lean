/- Comm: small functions, and what the comparison of lists is. -/
import Derived.Test.YtbdmioekohmcnabLo8
namespace Go.Proofs.Ytbdmioekohmcnab
set_option linter.unusedVariables false
set_option linter.unusedSimpArgs false
set_option maxRecDepth 100000
structure CLn where
  col : Int
  text : Bs
def encCL (c : CLn) : AV := .agg [intA c.col, strL c.text]
/-- are they the same? -/
noncomputable def sameB {α : Type} (a b : α) : Bool := @decide (a = b) (Classical.propDecidable _)
theorem sameB_n {α : Type} {a b : α} (h : a ≠ b) : false = sameB a b := by unfold sameB; simp [h]
theorem sameB_y {α : Type} {a b : α} (h : a = b) : true = sameB a b := by unfold sameB; simp [h]
theorem take_eq {α : Type} {a b : List α} {k : Nat} {x : α} (h : a.take k = b.take k) (ha : a[k]? = some x) (hb : b[k]? = some x) : a.take (k + 1) = b.take (k + 1) := by
  obtain ⟨h1, e1⟩ := get_of ha
  obtain ⟨h2, e2⟩ := get_of hb
  rw [List.take_succ_eq_append_getElem h1, List.take_succ_eq_append_getElem h2, h, e1, e2]
theorem take_all {α : Type} {a b : List α} {k : Nat} (h : a.take k = b.take k) (ha : a.length ≤ k) (hb : b.length ≤ k) : a = b := by
  rw [List.take_of_length_le ha, List.take_of_length_le hb] at h; exact h
theorem at_ne {α : Type} {a b : List α} {k : Nat} {x y : α} (ha : a[k]? = some x) (hb : b[k]? = some y) (h : x ≠ y) : a ≠ b := fun e => by
  subst e; rw [ha] at hb; cases hb; exact h rfl
theorem all_of {α : Type} {P : α → Prop} {l : List α} {k : Nat} {x : α} (h : l[k]? = some x) (hI : ∀ y ∈ l.take k, P y) (hx : P x) : ∀ y ∈ l.take (k + 1), P y := fun y hy => by
  obtain ⟨hk, rfl⟩ := get_of h
  rw [List.take_succ_eq_append_getElem hk] at hy
  rcases List.mem_append.1 hy with h1 | h1
  · exact hI y h1
  · rw [List.mem_singleton.1 h1]; exact hx
theorem same_at {α : Type} {l : List α} {k : Nat} {x y : α} (h : l[k]? = some x) (h' : l[k]? = some y) : y = x := by rw [h] at h'; exact (Option.some.inj h').symm
theorem getD_of {α : Type} {l : List α} {k : Nat} {c z : α} (h : l[k]? = some c) : l.getD k z = c := by rw [List.getD_eq_getElem?_getD, h]; rfl
def fewB (w : List Bs) : Bool := decide (w.length ≤ 30) && w.all fun x => decide (x.length ≤ 40)
def lightB (l : Loc) : Bool := decide (l.weights.length ≤ 300) && (decide (l.lower.length ≤ 300) && (decide (l.upper.length ≤ 300) && (decide (l.classes.length ≤ 30) && decide (l.elements.length ≤ 70))))
theorem cl_eq {x y : CLn} (h1 : x.col = y.col) (h2 : x.text = y.text) : x = y := by cases x; cases y; cases h1; cases h2; rfl
theorem fewB_y {w : List Bs} (h : w.length ≤ 30) (h2 : ∀ x ∈ w, x.length ≤ 40) : true = fewB w := by
  unfold fewB; rw [decide_eq_true h, Bool.true_and]; exact (List.all_eq_true.2 fun x hx => by simpa using h2 x hx).symm
theorem fewB_of {w : List Bs} (h : fewB w = true) : w.length ≤ 30 ∧ ∀ x ∈ w, x.length ≤ 40 := by
  unfold fewB at h
  simp only [Bool.and_eq_true, decide_eq_true_eq, List.all_eq_true] at h
  exact h
section
variable {X : CallF}
theorem few_run (w : List Bs) (hw : w.length ≤ maxLen) : (R FT X).f 4 [.slice 1 (w.map strL)] = some (boolA (fewB w)) := by
  have hm := maxLen_i64
  refine R_wp ((Tr.inv (fun (k : Nat) ↦ St.mk [((0 : Nat), AV.slice (1 : Nat) (List.map strL w)), ((3 : Nat), intA (↑k : Int))] []) (fun (k : Nat) ↦ k ≤ w.length ∧ k ≤ (30 : Nat) ∧ ∀ (x : Bs), x ∈ List.take k w → List.length x ≤ (40 : Nat)) (fun (k : Nat) ↦ w.length - k) fun (k : Nat) ↦ (Tr.k w.length (((Tr.b true Tr.nil).w.br (Tr.ix strL w k fun (x8 : Bs) ↦ (Tr.nil.br Tr.nil.w).w)).w.w.br Tr.nil)).w).w) rfl ?_
  refine Eq.mpr (by kernel_rfl : _ = ((∃ (j1 : Nat), ((List.map strL w = List.map strL w ∧ (0 : Int) = (↑j1 : Int) ∧ True) ∧ True) ∧ j1 ≤ w.length ∧ j1 ≤ (30 : Nat) ∧ ∀ (x2 : Bs), x2 ∈ List.take j1 w → List.length x2 ≤ (40 : Nat)) ∧ ∀ (k : Nat), (k ≤ w.length ∧ k ≤ (30 : Nat) ∧ ∀ (x : Bs), x ∈ List.take k w → List.length x ≤ (40 : Nat)) → (List.map strL w).length = w.length ∧ (decide ((↑k : Int) < (↑w.length : Int)) = true → (decide ((30 : Int) ≤ (↑k : Int)) = true → true = true ∧ false = fewB w) ∧ (decide ((30 : Int) ≤ (↑k : Int)) = false → List.map strL w = List.map strL w ∧ (↑k : Int) = (↑k : Int) ∧ k < w.length ∧ ∀ (x8 : Bs), w[k]? = some x8 → (decide ((40 : Int) < (↑(List.length x8) : Int)) = true → false = fewB w) ∧ (decide ((40 : Int) < (↑(List.length x8) : Int)) = false → InI64 ((↑k : Int) + (1 : Int)) ∧ ∃ (j12 : Nat), ((List.map strL w = List.map strL w ∧ (↑k : Int) + (1 : Int) = (↑j12 : Int) ∧ True) ∧ True) ∧ (j12 ≤ w.length ∧ j12 ≤ (30 : Nat) ∧ ∀ (x13 : Bs), x13 ∈ List.take j12 w → List.length x13 ≤ (40 : Nat)) ∧ w.length - j12 < w.length - k))) ∧ (decide ((↑k : Int) < (↑w.length : Int)) = false → true = fewB w))) ?_
  refine ⟨⟨(0 : Nat), ⟨⟨rfl, (by omega), trivial⟩, trivial⟩, ⟨(by omega), (by omega), fun x2 => fun h3 => ?_⟩⟩, fun k => fun h4 => have h4a := h4.1; have h4b := h4.2.1; have h4c := h4.2.2; ⟨(by simp), fun h5_ => have h5 := dT h5_; ⟨fun h6_ => have h6 := dT h6_; ⟨rfl, ?_⟩, fun h7_ => have h7 := dF h7_; ⟨rfl, rfl, (by omega), fun x8 => fun h9 => ⟨fun h10_ => have h10 := dT h10_; ?_, fun h11_ => have h11 := dF h11_; ⟨(by unfold InI64; omega), ⟨k + (1 : Nat), ⟨⟨rfl, (by omega), trivial⟩, trivial⟩, ⟨⟨(by omega), (by omega), fun x13 => fun h14 => ?_⟩, (by omega)⟩⟩⟩⟩⟩⟩, fun h15_ => have h15 := dF h15_; ?_⟩⟩
  · simp at h3
  · unfold fewB; rw [decide_eq_false (by omega)]; rfl
  · unfold fewB
    rw [show (w.all fun x => decide (x.length ≤ 40)) = false from List.all_eq_false.2 ⟨x8, List.mem_of_getElem? h9, by simp; omega⟩, Bool.and_false]
  · exact all_of (P := fun x : Bs => x.length ≤ 40) h9 h4c (by omega) _ h14
  · exact fewB_y (by omega) (by rw [List.take_of_length_le (by omega)] at h4c; exact h4c)
theorem light7_run (l : Loc) : (R FT X).f 5 [encLoc l] = some (boolA (lightB l)) := by
  refine R_wp ((Tr.k l.weights.length ((((Tr.k l.classes.length ((Tr.k l.elements.length Tr.nil).br Tr.nil)).br (Tr.b false Tr.nil)).br (Tr.b false (Tr.b false Tr.nil))).br (Tr.b false (Tr.b false (Tr.b false Tr.nil))))).w) rfl ?_
  refine Eq.mpr (by kernel_rfl : _ = ((List.map intA l.weights).length = l.weights.length ∧ (decide ((↑l.weights.length : Int) ≤ (300 : Int)) = true → (decide ((↑(List.length l.lower) : Int) ≤ (300 : Int)) = true → (decide ((↑(List.length l.upper) : Int) ≤ (300 : Int)) = true → (List.map encCls l.classes).length = l.classes.length ∧ (decide ((↑l.classes.length : Int) ≤ (30 : Int)) = true → (List.map encEl l.elements).length = l.elements.length ∧ decide ((↑l.elements.length : Int) ≤ (70 : Int)) = lightB l) ∧ (decide ((↑l.classes.length : Int) ≤ (30 : Int)) = false → false = lightB l)) ∧ (decide ((↑(List.length l.upper) : Int) ≤ (300 : Int)) = false → false = false ∧ false = lightB l)) ∧ (decide ((↑(List.length l.lower) : Int) ≤ (300 : Int)) = false → false = false ∧ false = false ∧ false = lightB l)) ∧ (decide ((↑l.weights.length : Int) ≤ (300 : Int)) = false → false = false ∧ false = false ∧ false = false ∧ false = lightB l))) ?_
  refine ⟨(by simp), fun h1_ => have h1 := dT h1_; ⟨fun h2_ => have h2 := dT h2_; ⟨fun h3_ => have h3 := dT h3_; ⟨(by simp), fun h4_ => have h4 := dT h4_; ⟨(by simp), ?_⟩, fun h5_ => have h5 := dF h5_; ?_⟩, fun h6_ => have h6 := dF h6_; ⟨rfl, ?_⟩⟩, fun h7_ => have h7 := dF h7_; ⟨rfl, rfl, ?_⟩⟩, fun h8_ => have h8 := dF h8_; ⟨rfl, rfl, rfl, ?_⟩⟩
  all_goals
    unfold lightB
    rw [Bool.eq_iff_iff]
    simp only [Bool.and_eq_true, decide_eq_true_eq, Bool.false_eq_true, false_iff]
    omega
theorem same21_run (a b : List Bs) (ha : a.length ≤ maxLen) (hb : b.length ≤ maxLen) : (R FT X).f 10 [.slice 1 (a.map strL), .slice 1 (b.map strL)] = some (boolA (sameB a b)) := by
  have hm := maxLen_i64
  refine R_wp ((Tr.k a.length (Tr.k b.length (Tr.nil.br (Tr.inv (fun (k : Nat) ↦ St.mk [((0 : Nat), AV.slice (1 : Nat) (List.map strL a)), ((1 : Nat), AV.slice (1 : Nat) (List.map strL b)), ((5 : Nat), intA (↑k : Int))] []) (fun (k : Nat) ↦ k ≤ a.length ∧ List.take k a = List.take k b) (fun (k : Nat) ↦ a.length - k) fun (k : Nat) ↦ (Tr.k a.length ((Tr.ix strL a k fun (x6 : Bs) ↦ Tr.ix strL b k fun (x8 : Bs) ↦ (Tr.nil.br Tr.nil.w).w).w.w.br Tr.nil)).w).w).w)).w) rfl ?_
  refine Eq.mpr (by kernel_rfl : _ = ((List.map strL a).length = a.length ∧ (List.map strL b).length = b.length ∧ ((!decide ((↑a.length : Int) = (↑b.length : Int))) = true → false = sameB a b) ∧ ((!decide ((↑a.length : Int) = (↑b.length : Int))) = false → (∃ (j3 : Nat), ((List.map strL a = List.map strL a ∧ List.map strL b = List.map strL b ∧ (0 : Int) = (↑j3 : Int) ∧ True) ∧ True) ∧ j3 ≤ a.length ∧ List.take j3 a = List.take j3 b) ∧ ∀ (k : Nat), k ≤ a.length ∧ List.take k a = List.take k b → (List.map strL a).length = a.length ∧ (decide ((↑k : Int) < (↑a.length : Int)) = true → List.map strL a = List.map strL a ∧ (↑k : Int) = (↑k : Int) ∧ k < a.length ∧ ∀ (x6 : Bs), a[k]? = some x6 → List.map strL b = List.map strL b ∧ (↑k : Int) = (↑k : Int) ∧ k < b.length ∧ ∀ (x8 : Bs), b[k]? = some x8 → ((!decide (x6 = x8)) = true → false = sameB a b) ∧ ((!decide (x6 = x8)) = false → InI64 ((↑k : Int) + (1 : Int)) ∧ ∃ (j12 : Nat), ((List.map strL a = List.map strL a ∧ List.map strL b = List.map strL b ∧ (↑k : Int) + (1 : Int) = (↑j12 : Int) ∧ True) ∧ True) ∧ (j12 ≤ a.length ∧ List.take j12 a = List.take j12 b) ∧ a.length - j12 < a.length - k)) ∧ (decide ((↑k : Int) < (↑a.length : Int)) = false → true = sameB a b)))) ?_
  refine ⟨(by simp), (by simp), fun h1_ => have h1 := dnT h1_; ?_, fun h2_ => have h2 := dnF h2_; ⟨⟨(0 : Nat), ⟨⟨rfl, rfl, (by omega), trivial⟩, trivial⟩, ⟨(by omega), rfl⟩⟩, fun k => fun h4 => have h4a := h4.1; have h4b := h4.2; ⟨(by simp), fun h5_ => have h5 := dT h5_; ⟨rfl, rfl, (by omega), fun x6 => fun h7 => ⟨rfl, rfl, (by omega), fun x8 => fun h9 => ⟨fun h10_ => have h10 := dnT h10_; ?_, fun h11_ => have h11 := dnF h11_; ⟨(by unfold InI64; omega), ⟨k + (1 : Nat), ⟨⟨rfl, rfl, (by omega), trivial⟩, trivial⟩, ⟨⟨(by omega), ?_⟩, (by omega)⟩⟩⟩⟩⟩⟩, fun h13_ => have h13 := dF h13_; ?_⟩⟩⟩
  · exact sameB_n fun e => h1 (by rw [e])
  · exact sameB_n (at_ne h7 h9 h10)
  · exact take_eq h4b h7 (h11 ▸ h9)
  · exact sameB_y (take_all h4b (by omega) (by omega))
theorem same28_run (a b : List CLn) (ha : a.length ≤ maxLen) (hb : b.length ≤ maxLen) : (R FT X).f 9 [.slice 2 (a.map encCL), .slice 2 (b.map encCL)] = some (boolA (sameB a b)) := by
  have hm := maxLen_i64
  refine R_wp ((Tr.k a.length (Tr.k b.length (Tr.nil.br (Tr.inv (fun (k : Nat) ↦ St.mk [((0 : Nat), AV.slice (2 : Nat) (List.map encCL a)), ((1 : Nat), AV.slice (2 : Nat) (List.map encCL b)), ((5 : Nat), intA (↑k : Int))] []) (fun (k : Nat) ↦ k ≤ a.length ∧ List.take k a = List.take k b) (fun (k : Nat) ↦ a.length - k) fun (k : Nat) ↦ (Tr.k a.length ((Tr.ix encCL a k fun (x6 : CLn) ↦ Tr.ix encCL b k fun (x8 : CLn) ↦ (Tr.nil.br Tr.nil.w).w).w.w.br Tr.nil)).w).w).w)).w) rfl ?_
  refine Eq.mpr (by kernel_rfl : _ = ((List.map encCL a).length = a.length ∧ (List.map encCL b).length = b.length ∧ ((!decide ((↑a.length : Int) = (↑b.length : Int))) = true → false = sameB a b) ∧ ((!decide ((↑a.length : Int) = (↑b.length : Int))) = false → (∃ (j3 : Nat), ((List.map encCL a = List.map encCL a ∧ List.map encCL b = List.map encCL b ∧ (0 : Int) = (↑j3 : Int) ∧ True) ∧ True) ∧ j3 ≤ a.length ∧ List.take j3 a = List.take j3 b) ∧ ∀ (k : Nat), k ≤ a.length ∧ List.take k a = List.take k b → (List.map encCL a).length = a.length ∧ (decide ((↑k : Int) < (↑a.length : Int)) = true → List.map encCL a = List.map encCL a ∧ (↑k : Int) = (↑k : Int) ∧ k < a.length ∧ ∀ (x6 : CLn), a[k]? = some x6 → List.map encCL b = List.map encCL b ∧ (↑k : Int) = (↑k : Int) ∧ k < b.length ∧ ∀ (x8 : CLn), b[k]? = some x8 → ((!(decide (x6.col = x8.col) && decide ((ofL x6.text).data.toList = (ofL x8.text).data.toList))) = true → false = sameB a b) ∧ ((!(decide (x6.col = x8.col) && decide ((ofL x6.text).data.toList = (ofL x8.text).data.toList))) = false → InI64 ((↑k : Int) + (1 : Int)) ∧ ∃ (j12 : Nat), ((List.map encCL a = List.map encCL a ∧ List.map encCL b = List.map encCL b ∧ (↑k : Int) + (1 : Int) = (↑j12 : Int) ∧ True) ∧ True) ∧ (j12 ≤ a.length ∧ List.take j12 a = List.take j12 b) ∧ a.length - j12 < a.length - k)) ∧ (decide ((↑k : Int) < (↑a.length : Int)) = false → true = sameB a b)))) ?_
  refine ⟨(by simp), (by simp), fun h1_ => have h1 := dnT h1_; ?_, fun h2_ => have h2 := dnF h2_; ⟨⟨(0 : Nat), ⟨⟨rfl, rfl, (by omega), trivial⟩, trivial⟩, ⟨(by omega), rfl⟩⟩, fun k => fun h4 => have h4a := h4.1; have h4b := h4.2; ⟨(by simp), fun h5_ => have h5 := dT h5_; ⟨rfl, rfl, (by omega), fun x6 => fun h7 => ⟨rfl, rfl, (by omega), fun x8 => fun h9 => ⟨fun h10_ => have h10 := nT h10_; ?_, fun h11_ => have h11 := nF h11_; ⟨(by unfold InI64; omega), ⟨k + (1 : Nat), ⟨⟨rfl, rfl, (by omega), trivial⟩, trivial⟩, ⟨⟨(by omega), ?_⟩, (by omega)⟩⟩⟩⟩⟩⟩, fun h13_ => have h13 := dF h13_; ?_⟩⟩⟩
  · exact sameB_n fun e => h1 (by rw [e])
  · refine sameB_n fun e => ?_
    subst e
    obtain rfl := same_at h7 h9
    simp at h10
  · simp only [Bool.and_eq_true, decide_eq_true_eq] at h11
    have e := cl_eq h11.1 h11.2
    exact take_eq h4b h7 (e ▸ h9)
  · exact sameB_y (take_all h4b (by omega) (by omega))
end
end Go.Proofs.Ytbdmioekohmcnab
