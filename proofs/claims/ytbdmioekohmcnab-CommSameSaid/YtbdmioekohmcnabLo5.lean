/- Locales: the locale that counts; small and capital letters. -/
import Derived.Test.YtbdmioekohmcnabLo4
namespace Go.Proofs.Ytbdmioekohmcnab
set_option linter.unusedVariables false
set_option linter.unusedSimpArgs false
set_option maxRecDepth 100000
/-- the locale itself, or the default one -/
def valL (l : Loc) : Loc := if errLoc l = 0 then l else defL
theorem valL_y {l : Loc} (h : errLoc l = 0) : valL l = l := if_pos h
theorem valL_n {l : Loc} (h : errLoc l ≠ 0) : valL l = defL := if_neg h
/-- what a locale without an error is like -/
structure Good (l : Loc) : Prop where
  ok : LocOk l
  weights : l.weights.length = 256
  lower : l.lower.length = 256
  upper : l.upper.length = 256
  wok : ∀ x ∈ l.weights, wOk x = true
  name : isName l.name = true
  cl : errCl l.classes = 0
  el : errEl l.elements = 0
theorem good_of {l : Loc} (hl : LocOk l) (h : errLoc l = 0) : Good l := by
  unfold errLoc at h
  by_cases h1 : isName l.name = false
  · rw [if_pos h1] at h; omega
  rw [if_neg h1] at h
  by_cases h2 : (l.weights.length = 256 ∧ l.lower.length = 256 ∧ l.upper.length = 256)
  · rw [if_neg (by simpa using h2)] at h
    by_cases h3 : l.weights.all wOk = false
    · rw [if_pos h3] at h; omega
    rw [if_neg h3] at h
    by_cases h4 : errCl l.classes ≠ 0
    · rw [if_pos h4] at h; exact absurd h h4
    rw [if_neg h4] at h
    exact ⟨hl, h2.1, h2.2.1, h2.2.2, List.all_eq_true.1 (by simpa using h3), by simpa using h1, by omega, h⟩
  · rw [if_pos h2] at h; omega
theorem defL_ok : LocOk defL := by
  have hm := maxLen_le
  refine ⟨?_, ?_, ?_, ?_, ⟨?_, ?_⟩, ?_, ?_⟩ <;> simp [defL] <;> omega
theorem defL_err : errLoc defL = 0 := by decide +kernel
theorem defL_good : Good defL := good_of defL_ok defL_err
theorem valL_good {l : Loc} (hl : LocOk l) : Good (valL l) := by
  by_cases h : errLoc l = 0
  · rw [valL_y h]; exact good_of hl h
  · rw [valL_n h]; exact defL_good
theorem setAt_all (A B : List AV) (h : A.length = B.length) : setAt A 0 B = B := by
  unfold setAt; simp [h.symm]
theorem setAtL_all {α : Type} (A B : List α) (h : A.length = B.length) : setAtL A 0 B = B := by
  unfold setAtL; simp [h.symm]
section
variable {X : CallF}
theorem valid_run' (l L : Loc) (hl : LocOk l) (hL : L = valL l) : (R FT X).f 16 [encLoc l] = some (encLoc L) := by
  have hm := maxLen_le
  refine R_wp ((Tr.c (intA (errLoc l)) ((Tr.c (encLoc defL) Tr.nil).br (Tr.k (256 : Nat) (Tr.k (List.map intA l.weights).length (Tr.g (List.map intA (List.take (256 : Nat) (setAtL (List.replicate (256 : Nat) (0 : Int)) (0 : Nat) (List.take (List.map intA l.weights).length l.weights)))) Tr.nil)))).w).w) rfl ?_
  refine Eq.mpr (by kernel_rfl : _ = ((R FT X).f (27 : FuncId) [AV.agg [strL l.name, AV.slice (1 : Nat) (List.map intA l.weights), strL l.lower, strL l.upper, AV.slice (5 : Nat) (List.map encCls l.classes), AV.slice (2 : Nat) (List.map encEl l.elements)]] = some (intA (errLoc l)) ∧ ((!decide (errLoc l = (0 : Int))) = true → (R FT X).f (28 : FuncId) [] = some (AV.agg [strL [(112 : UInt8), (111 : UInt8), (115 : UInt8), (105 : UInt8), (120 : UInt8)], AV.slice (1 : Nat) (List.map intA defL.weights), strL defL.lower, strL defL.upper, AV.slice (5 : Nat) (List.map encCls defL.classes), AV.slice (2 : Nat) (List.map encEl defL.elements)]) ∧ [(112 : UInt8), (111 : UInt8), (115 : UInt8), (105 : UInt8), (120 : UInt8)] = L.name ∧ List.map intA defL.weights = List.map intA L.weights ∧ defL.lower = L.lower ∧ defL.upper = L.upper ∧ List.map encCls defL.classes = List.map encCls L.classes ∧ List.map encEl defL.elements = List.map encEl L.elements) ∧ ((!decide (errLoc l = (0 : Int))) = false → (256 : Int) = (256 : Int) ∧ (256 : Int) = (256 : Int) ∧ (256 : Nat) ≤ (9223372036854775807 : Nat) ∧ (2048 : Nat) ≤ (281474976710656 : Nat) ∧ (256 : Nat) = (256 : Nat) ∧ min (List.map intA l.weights).length (256 : Nat) = (List.map intA l.weights).length ∧ (setAt (List.replicate (256 : Nat) (zeroEl [Value.int IntKind.i64 (0 : Int)] false)) (0 : Nat) (List.take (List.map intA l.weights).length (List.map intA l.weights))).length = (256 : Nat) ∧ List.take (256 : Nat) (List.drop (0 : Nat) (setAt (List.replicate (256 : Nat) (zeroEl [Value.int IntKind.i64 (0 : Int)] false)) (0 : Nat) (List.take (List.map intA l.weights).length (List.map intA l.weights)))) = List.map intA (List.take (256 : Nat) (setAtL (List.replicate (256 : Nat) (0 : Int)) (0 : Nat) (List.take (List.map intA l.weights).length l.weights))) ∧ l.name = L.name ∧ List.map intA (List.take (256 : Nat) (setAtL (List.replicate (256 : Nat) (0 : Int)) (0 : Nat) (List.take (List.map intA l.weights).length l.weights))) = List.map intA L.weights ∧ l.lower = L.lower ∧ l.upper = L.upper ∧ List.map encCls l.classes = List.map encCls L.classes ∧ List.map encEl l.elements = List.map encEl L.elements))) ?_
  refine ⟨(check_run _ hl), fun h1_ => have h1 := dnT h1_; ⟨(def_run), ?_, ?_, ?_, ?_, ?_, ?_⟩, fun h2_ => have h2 := dnF h2_; ⟨rfl, rfl, (by omega), (by omega), rfl, ?_, ?_, ?_, ?_, ?_, ?_, ?_, ?_, ?_⟩⟩
  · rw [hL, valL_n h1]; rfl
  iterate 5 · rw [hL, valL_n h1]
  all_goals have hg := (good_of hl h2).weights
  · simp [hg]
  · rw [setAt_all _ _ (by simp [hg]), List.take_of_length_le (Nat.le_refl _)]; simp [hg]
  · rw [List.take_of_length_le (Nat.le_refl _), List.take_of_length_le (l := l.weights) (by simp), setAt_all _ _ (by simp [hg]), setAtL_all _ _ (by simp [hg]), List.drop_zero, List.take_of_length_le (by simp [hg]), List.take_of_length_le (by simp [hg])]
  · rw [hL, valL_y h2]
  · rw [List.take_of_length_le (l := l.weights) (by simp), setAtL_all _ _ (by simp [hg]), hL, valL_y h2, List.take_of_length_le (by simp [hg])]
  all_goals rw [hL, valL_y h2]
theorem valid_run (l : Loc) (hl : LocOk l) : (R FT X).f 16 [encLoc l] = some (encLoc (valL l)) := valid_run' l _ hl rfl
/-- a string, byte by byte through a table -/
def mapB (t s : Bs) : Bs := s.map (fun c => t.getD c.toNat 0)
@[simp] theorem mapB_length (t s : Bs) : (mapB t s).length = s.length := by simp [mapB]
theorem mapB_succ {t s : Bs} {k : Nat} {c d : UInt8} (hc : s[k]? = some c) (hd : t[c.toNat]? = some d) : mapB t (s.take (k + 1)) = mapB t (s.take k) ++ [d] := by
  obtain ⟨hk, rfl⟩ := get_of hc
  obtain ⟨hk', rfl⟩ := get_of hd
  rw [List.take_succ_eq_append_getElem hk, mapB, List.map_append]
  show _ ++ [_] = _ ++ [_]
  simp only [List.getD_eq_getElem?_getD, hd]; rfl
theorem tab_lt {t : Bs} (ht : t.length = 256) (c : UInt8) : c.toNat < t.length := by
  have := c.toNat_lt; omega
theorem swap_get {t s : Bs} {k : Nat} {c : UInt8} (h : (mapB t (s.take k) ++ s.drop k)[0 + k]? = some c) (hk : k < s.length) : s[k]? = some c := by
  rw [Nat.zero_add, List.getElem?_append_right (by simp; omega), mapB_length, List.length_take, List.getElem?_drop] at h
  rw [← h]; congr 1; omega
theorem swap_set {t s : Bs} {k : Nat} {c d : UInt8} (hc : s[k]? = some c) (hd : t[c.toNat]? = some d) : ((mapB t (s.take k) ++ s.drop k).map u8A).set (0 + k) (AV.val (Value.int IntKind.u8 (d.toNat : Int))) = (mapB t (s.take (k + 1)) ++ s.drop (k + 1)).map u8A := by
  have hk := (get_of hc).1
  rw [show AV.val (Value.int IntKind.u8 (d.toNat : Int)) = u8A d from rfl, ← List.map_set, Nat.zero_add, List.set_append, if_neg (by simp; omega), mapB_succ hc hd, show k - (mapB t (s.take k)).length = 0 by simp; omega, List.drop_eq_getElem_cons hk, List.set_cons_zero, List.append_assoc]
  rfl
end
end Go.Proofs.Ytbdmioekohmcnab
