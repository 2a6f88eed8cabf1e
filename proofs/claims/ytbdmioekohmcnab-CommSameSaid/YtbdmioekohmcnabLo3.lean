/- Locales: the error of a locale. -/
import Derived.Test.YtbdmioekohmcnabLo2
namespace Go.Proofs.Ytbdmioekohmcnab
set_option linter.unusedVariables false
set_option linter.unusedSimpArgs false
set_option maxRecDepth 100000
structure Loc where
  name : Bs
  weights : List Int
  lower : Bs
  upper : Bs
  classes : List Cls
  elements : List El
def encLoc (l : Loc) : AV := .agg [strL l.name, .slice 1 (l.weights.map intA), strL l.lower, strL l.upper, .slice 5 (l.classes.map encCls), .slice 2 (l.elements.map encEl)]
def wOk (n : Int) : Bool := decide (0 ≤ n) && decide (n ≤ 65535)
/-- the error of a locale -/
def errLoc (l : Loc) : Int :=
  if isName l.name = false then 4
  else if ¬ (l.weights.length = 256 ∧ l.lower.length = 256 ∧ l.upper.length = 256) then 2
  else if l.weights.all wOk = false then 2
  else if errCl l.classes ≠ 0 then errCl l.classes
  else errEl l.elements
structure LocOk (l : Loc) : Prop where
  name : l.name.length ≤ maxLen
  weights : l.weights.length ≤ maxLen
  lower : l.lower.length ≤ maxLen
  upper : l.upper.length ≤ maxLen
  classes : l.classes.length ≤ maxLen ∧ ∀ x ∈ l.classes, x.name.length ≤ maxLen
  elements : l.elements.length ≤ maxLen ∧ ∀ x ∈ l.elements, x.text.length ≤ maxLen
theorem all_take_succ {α : Type} {P : α → Prop} {l : List α} {k : Nat} {x : α} (h : l[k]? = some x) (hI : ∀ y ∈ l.take k, P y) (hx : P x) : ∀ y ∈ l.take (k + 1), P y := fun y hy => by
  rw [List.take_succ_eq_append_getElem (get_of h).1, (get_of h).2] at hy
  rcases List.mem_append.1 hy with h | h
  · exact hI y h
  · simp at h; subst h; exact hx
theorem all_take_end {α : Type} {P : α → Prop} {l : List α} {k : Nat} (hk : l.length ≤ k) (hI : ∀ y ∈ l.take k, P y) : ∀ y ∈ l, P y := fun y hy => hI y (by rw [List.take_of_length_le hk]; exact hy)
theorem errLoc_w {l : Loc} (hn : isName l.name = true) {x : Int} (hx : x ∈ l.weights) (hw : wOk x = false) : errLoc l = 2 := by
  have : l.weights.all wOk = false := List.all_eq_false.2 ⟨x, hx, by simp [hw]⟩
  simp only [errLoc, hn, this]
  simp
theorem errLoc_ok {l : Loc} (hn : isName l.name = true) (hs : l.weights.length = 256 ∧ l.lower.length = 256 ∧ l.upper.length = 256) (hw : ∀ x ∈ l.weights, wOk x = true) : errLoc l = if errCl l.classes ≠ 0 then errCl l.classes else errEl l.elements := by
  have : l.weights.all wOk = true := List.all_eq_true.2 hw
  simp [errLoc, hn, this, hs]
theorem errLoc_size {l : Loc} (hn : isName l.name = true) (hs : ¬ (l.weights.length = 256 ∧ l.lower.length = 256 ∧ l.upper.length = 256)) : errLoc l = 2 := by
  simp only [errLoc, hn, if_pos hs]; simp
theorem errLoc_name {l : Loc} (hn : isName l.name = false) : errLoc l = 4 := by simp [errLoc, hn]
section
variable {X : CallF}
theorem check_run (l : Loc) (hl : LocOk l) : (R FT X).f 27 [encLoc l] = some (intA (errLoc l)) := by
  have hm := maxLen_i64
  refine R_wp ((Tr.c (boolA (isName l.name))
    (Tr.nil.br
        (Tr.k l.weights.length
            ((Tr.b true (Tr.b true Tr.nil).w).br
              ((Tr.b true Tr.nil).w.br
                (Tr.nil.br
                    (Tr.k l.weights.length
                      (Tr.inv
                          (fun (k : Nat) ↦
                            St.mk
                              [((1 : Nat), AV.ptr (0 : Nat) (0 : Nat)),
                                ((27 : Nat), AV.slice (1 : Nat) (List.map intA l.weights)),
                                ((28 : Nat), intA (↑l.weights.length : Int)), ((29 : Nat), intA (↑k : Int))]
                              [MObj.box
                                  [strL l.name, AV.slice (1 : Nat) (List.map intA l.weights), strL l.lower,
                                    strL l.upper, AV.slice (5 : Nat) (List.map encCls l.classes),
                                    AV.slice (2 : Nat) (List.map encEl l.elements)]])
                          (fun (k : Nat) ↦
                            k ≤ l.weights.length ∧
                              isName l.name = true ∧
                                (l.weights.length = (256 : Nat) ∧
                                    List.length l.lower = (256 : Nat) ∧ List.length l.upper = (256 : Nat)) ∧
                                  ∀ (x : Int), x ∈ List.take k l.weights → wOk x = true)
                          (fun (k : Nat) ↦ l.weights.length - k) fun (k : Nat) ↦
                          (Tr.ix intA l.weights k fun (x14 : Int) ↦
                                  ((Tr.b true Tr.nil).w.br (Tr.nil.br Tr.nil.w).w).w).w.br
                            (Tr.c (intA (errCl l.classes))
                              (Tr.nil.br (Tr.c (intA (errEl l.elements)) Tr.nil)).w.w)).w)).w))).w).w).w) rfl ?_
  refine Eq.mpr (by kernel_rfl : _ = ((R FT X).f (35 : FuncId) [AV.val (Value.string (ofL l.name))] = some (boolA (isName l.name)) ∧
  ((!isName l.name) = true → (4 : Int) = errLoc l) ∧
    ((!isName l.name) = false →
      (List.map intA l.weights).length = l.weights.length ∧
        ((!decide ((↑l.weights.length : Int) = (256 : Int))) = true →
            true = true ∧ true = true ∧ (2 : Int) = errLoc l) ∧
          ((!decide ((↑l.weights.length : Int) = (256 : Int))) = false →
            ((!decide ((↑(List.length l.lower) : Int) = (256 : Int))) = true → true = true ∧ (2 : Int) = errLoc l) ∧
              ((!decide ((↑(List.length l.lower) : Int) = (256 : Int))) = false →
                ((!decide ((↑(List.length l.upper) : Int) = (256 : Int))) = true → (2 : Int) = errLoc l) ∧
                  ((!decide ((↑(List.length l.upper) : Int) = (256 : Int))) = false →
                    (List.map intA l.weights).length = l.weights.length ∧
                      (∃ (j9 : Nat),
                          ((True ∧
                                List.map intA l.weights = List.map intA l.weights ∧
                                  (↑l.weights.length : Int) = (↑l.weights.length : Int) ∧
                                    (0 : Int) = (↑j9 : Int) ∧ True) ∧
                              l.name = l.name ∧
                                List.map intA l.weights = List.map intA l.weights ∧
                                  l.lower = l.lower ∧
                                    l.upper = l.upper ∧
                                      List.map encCls l.classes = List.map encCls l.classes ∧
                                        List.map encEl l.elements = List.map encEl l.elements) ∧
                            j9 ≤ l.weights.length ∧
                              isName l.name = true ∧
                                (l.weights.length = (256 : Nat) ∧
                                    List.length l.lower = (256 : Nat) ∧ List.length l.upper = (256 : Nat)) ∧
                                  ∀ (x10 : Int), x10 ∈ List.take j9 l.weights → wOk x10 = true) ∧
                        ∀ (k : Nat),
                          (k ≤ l.weights.length ∧
                              isName l.name = true ∧
                                (l.weights.length = (256 : Nat) ∧
                                    List.length l.lower = (256 : Nat) ∧ List.length l.upper = (256 : Nat)) ∧
                                  ∀ (x : Int), x ∈ List.take k l.weights → wOk x = true) →
                            (decide ((↑k : Int) < (↑l.weights.length : Int)) = true →
                                List.map intA l.weights = List.map intA l.weights ∧
                                  (↑k : Int) = (↑k : Int) ∧
                                    k < l.weights.length ∧
                                      ∀ (x14 : Int),
                                        l.weights[k]? = some x14 →
                                          (decide (x14 < (0 : Int)) = true → true = true ∧ (2 : Int) = errLoc l) ∧
                                            (decide (x14 < (0 : Int)) = false →
                                              (decide ((65535 : Int) < x14) = true → (2 : Int) = errLoc l) ∧
                                                (decide ((65535 : Int) < x14) = false →
                                                  InI64 ((↑k : Int) + (1 : Int)) ∧
                                                    ∃ (j20 : Nat),
                                                      ((True ∧
                                                            List.map intA l.weights = List.map intA l.weights ∧
                                                              (↑l.weights.length : Int) = (↑l.weights.length : Int) ∧
                                                                (↑k : Int) + (1 : Int) = (↑j20 : Int) ∧ True) ∧
                                                          l.name = l.name ∧
                                                            List.map intA l.weights = List.map intA l.weights ∧
                                                              l.lower = l.lower ∧
                                                                l.upper = l.upper ∧
                                                                  List.map encCls l.classes =
                                                                      List.map encCls l.classes ∧
                                                                    List.map encEl l.elements =
                                                                      List.map encEl l.elements) ∧
                                                        (j20 ≤ l.weights.length ∧
                                                            isName l.name = true ∧
                                                              (l.weights.length = (256 : Nat) ∧
                                                                  List.length l.lower = (256 : Nat) ∧
                                                                    List.length l.upper = (256 : Nat)) ∧
                                                                ∀ (x21 : Int),
                                                                  x21 ∈ List.take j20 l.weights → wOk x21 = true) ∧
                                                          l.weights.length - j20 < l.weights.length - k))) ∧
                              (decide ((↑k : Int) < (↑l.weights.length : Int)) = false →
                                (R FT X).f (36 : FuncId) [AV.slice (5 : Nat) (List.map encCls l.classes)] =
                                    some (intA (errCl l.classes)) ∧
                                  ((!decide (errCl l.classes = (0 : Int))) = true → errCl l.classes = errLoc l) ∧
                                    ((!decide (errCl l.classes = (0 : Int))) = false →
                                      (R FT X).f (37 : FuncId) [AV.slice (2 : Nat) (List.map encEl l.elements)] =
                                          some (intA (errEl l.elements)) ∧
                                        errEl l.elements = errLoc l)))))))) ?_
  refine ⟨(name_run _ ?_), fun h1_ => have h1 := nT h1_; ?_, fun h2_ => have h2 := nF h2_; ⟨(by simp), fun h3_ => have h3 := dnT h3_; ⟨rfl, rfl, ?_⟩, fun h4_ => have h4 := dnF h4_; ⟨fun h5_ => have h5 := dnT h5_; ⟨rfl, ?_⟩, fun h6_ => have h6 := dnF h6_; ⟨fun h7_ => have h7 := dnT h7_; ?_, fun h8_ => have h8 := dnF h8_; ⟨(by simp), ⟨(0 : Nat), ⟨⟨trivial, rfl, rfl, (by omega), trivial⟩, rfl, rfl, rfl, rfl, rfl, rfl⟩, ⟨(by omega), h2, ⟨(by omega), (by omega), (by omega)⟩, fun x10 => fun h11 => ?_⟩⟩, fun k => fun h12 => have h12a := h12.1; have h12b := h12.2.1; have h12c := h12.2.2.1; have h12d := h12.2.2.2; ⟨fun h13_ => have h13 := dT h13_; ⟨rfl, rfl, (by omega), fun x14 => fun h15 => ⟨fun h16_ => have h16 := dT h16_; ⟨rfl, ?_⟩, fun h17_ => have h17 := dF h17_; ⟨fun h18_ => have h18 := dT h18_; ?_, fun h19_ => have h19 := dF h19_; ⟨(by unfold InI64; omega), ⟨k + (1 : Nat), ⟨⟨trivial, rfl, rfl, (by omega), trivial⟩, rfl, rfl, rfl, rfl, rfl, rfl⟩, ⟨⟨(by omega), h2, ⟨(by omega), (by omega), (by omega)⟩, fun x21 => fun h22 => ?_⟩, (by omega)⟩⟩⟩⟩⟩⟩, fun h23_ => have h23 := dF h23_; ⟨(clss_run _ ?_ ?_), fun h24_ => have h24 := dnT h24_; ?_, fun h25_ => have h25 := dnF h25_; ⟨(els_run _ ?_ ?_), ?_⟩⟩⟩⟩⟩⟩⟩⟩
  · exact hl.name
  · exact (errLoc_name h1).symm
  iterate 3
    · exact (errLoc_size h2 (by omega)).symm
  · simp at h11
  · exact (errLoc_w h12b (List.mem_of_getElem? h15) (by simp [wOk]; omega)).symm
  · exact (errLoc_w h12b (List.mem_of_getElem? h15) (by simp [wOk]; omega)).symm
  · exact all_take_succ (P := fun x => wOk x = true) h15 h12d (by simp [wOk]; omega) _ h22
  · exact hl.classes.1
  · exact hl.classes.2
  · rw [errLoc_ok h12b h12c (all_take_end (by omega) h12d), if_pos h24]
  · exact hl.elements.1
  · exact hl.elements.2
  · rw [errLoc_ok h12b h12c (all_take_end (by omega) h12d), if_neg (by simpa using h25)]
end
end Go.Proofs.Ytbdmioekohmcnab
