/- Locales: the locale that counts; small and capital letters. -/
import Derived.Test.YtbdmioekohmcnaaLo4
namespace Go.Proofs.Ytbdmioekohmcnaa
set_option linter.unusedVariables false
set_option linter.unusedSimpArgs false
set_option maxRecDepth 100000
/-- the locale itself, or the default one -/
def valL (l : Loc) : Loc := if errLoc l = 0 then l else defL
theorem valL_y {l : Loc} (h : errLoc l = 0) : valL l = l := if_pos h
theorem valL_n {l : Loc} (h : errLoc l ≠ 0) : valL l = defL := if_neg h
/-- what a locale without an error is like -/
structure Good (l : Loc) : Prop where
  ok : LocOk l
  weights : l.weights.length = 256
  lower : l.lower.length = 256
  upper : l.upper.length = 256
  wok : ∀ x ∈ l.weights, wOk x = true
  name : isName l.name = true
  cl : errCl l.classes = 0
  el : errEl l.elements = 0
theorem good_of {l : Loc} (hl : LocOk l) (h : errLoc l = 0) : Good l := by
  unfold errLoc at h
  by_cases h1 : isName l.name = false
  · rw [if_pos h1] at h; omega
  rw [if_neg h1] at h
  by_cases h2 : (l.weights.length = 256 ∧ l.lower.length = 256 ∧ l.upper.length = 256)
  · rw [if_neg (by simpa using h2)] at h
    by_cases h3 : l.weights.all wOk = false
    · rw [if_pos h3] at h; omega
    rw [if_neg h3] at h
    by_cases h4 : errCl l.classes ≠ 0
    · rw [if_pos h4] at h; exact absurd h h4
    rw [if_neg h4] at h
    exact ⟨hl, h2.1, h2.2.1, h2.2.2, List.all_eq_true.1 (by simpa using h3), by simpa using h1, by omega, h⟩
  · rw [if_pos h2] at h; omega
theorem defL_ok : LocOk defL := by
  have hm := maxLen_le
  refine ⟨?_, ?_, ?_, ?_, ⟨?_, ?_⟩, ?_, ?_⟩ <;> simp [defL] <;> omega
theorem defL_err : errLoc defL = 0 := by decide +kernel
theorem defL_good : Good defL := good_of defL_ok defL_err
theorem valL_good {l : Loc} (hl : LocOk l) : Good (valL l) := by
  by_cases h : errLoc l = 0
  · rw [valL_y h]; exact good_of hl h
  · rw [valL_n h]; exact defL_good
theorem setAt_all (A B : List AV) (h : A.length = B.length) : setAt A 0 B = B := by
  unfold setAt; simp [h.symm]
theorem setAtL_all {α : Type} (A B : List α) (h : A.length = B.length) : setAtL A 0 B = B := by
  unfold setAtL; simp [h.symm]
section
variable {X : CallF}
theorem valid_run' (l L : Loc) (hl : LocOk l) (hL : L = valL l) : (R FT X).f 63 [encLoc l] = some (encLoc L) := by
  have hm := maxLen_le
  refine R_wp ((Tr.c (intA (errLoc l)) ((Tr.c (encLoc defL) Tr.nil).br (Tr.k (256 : Nat) (Tr.k (List.map intA l.weights).length (Tr.g (List.map intA (List.take (256 : Nat) (setAtL (List.replicate (256 : Nat) (0 : Int)) (0 : Nat) (List.take (List.map intA l.weights).length l.weights)))) Tr.nil)))).w).w) rfl ?_
  refine Eq.mpr (by kernel_rfl : _ = ((R FT X).f (15 : FuncId) [AV.agg [strL l.name, AV.slice (1 : Nat) (List.map intA l.weights), strL l.lower, strL l.upper, AV.slice (5 : Nat) (List.map encCls l.classes), AV.slice (2 : Nat) (List.map encEl l.elements)]] = some (intA (errLoc l)) ∧ ((!decide (errLoc l = (0 : Int))) = true → (R FT X).f (29 : FuncId) [] = some (AV.agg [strL [(112 : UInt8), (111 : UInt8), (115 : UInt8), (105 : UInt8), (120 : UInt8)], AV.slice (1 : Nat) (List.map intA defL.weights), strL defL.lower, strL defL.upper, AV.slice (5 : Nat) (List.map encCls defL.classes), AV.slice (2 : Nat) (List.map encEl defL.elements)]) ∧ [(112 : UInt8), (111 : UInt8), (115 : UInt8), (105 : UInt8), (120 : UInt8)] = L.name ∧ List.map intA defL.weights = List.map intA L.weights ∧ defL.lower = L.lower ∧ defL.upper = L.upper ∧ List.map encCls defL.classes = List.map encCls L.classes ∧ List.map encEl defL.elements = List.map encEl L.elements) ∧ ((!decide (errLoc l = (0 : Int))) = false → (256 : Int) = (256 : Int) ∧ (256 : Int) = (256 : Int) ∧ (256 : Nat) ≤ (9223372036854775807 : Nat) ∧ (2048 : Nat) ≤ (281474976710656 : Nat) ∧ (256 : Nat) = (256 : Nat) ∧ min (List.map intA l.weights).length (256 : Nat) = (List.map intA l.weights).length ∧ (setAt (List.replicate (256 : Nat) (zeroEl [Value.int IntKind.i64 (0 : Int)] false)) (0 : Nat) (List.take (List.map intA l.weights).length (List.map intA l.weights))).length = (256 : Nat) ∧ List.take (256 : Nat) (List.drop (0 : Nat) (setAt (List.replicate (256 : Nat) (zeroEl [Value.int IntKind.i64 (0 : Int)] false)) (0 : Nat) (List.take (List.map intA l.weights).length (List.map intA l.weights)))) = List.map intA (List.take (256 : Nat) (setAtL (List.replicate (256 : Nat) (0 : Int)) (0 : Nat) (List.take (List.map intA l.weights).length l.weights))) ∧ l.name = L.name ∧ List.map intA (List.take (256 : Nat) (setAtL (List.replicate (256 : Nat) (0 : Int)) (0 : Nat) (List.take (List.map intA l.weights).length l.weights))) = List.map intA L.weights ∧ l.lower = L.lower ∧ l.upper = L.upper ∧ List.map encCls l.classes = List.map encCls L.classes ∧ List.map encEl l.elements = List.map encEl L.elements))) ?_
  refine ⟨(check_run _ hl), fun h1_ => have h1 := dnT h1_; ⟨(def_run), ?_, ?_, ?_, ?_, ?_, ?_⟩, fun h2_ => have h2 := dnF h2_; ⟨rfl, rfl, (by omega), (by omega), rfl, ?_, ?_, ?_, ?_, ?_, ?_, ?_, ?_, ?_⟩⟩
  · rw [hL, valL_n h1]; rfl
  iterate 5 · rw [hL, valL_n h1]
  all_goals have hg := (good_of hl h2).weights
  · simp [hg]
  · rw [setAt_all _ _ (by simp [hg]), List.take_of_length_le (Nat.le_refl _)]; simp [hg]
  · rw [List.take_of_length_le (Nat.le_refl _), List.take_of_length_le (l := l.weights) (by simp), setAt_all _ _ (by simp [hg]), setAtL_all _ _ (by simp [hg]), List.drop_zero, List.take_of_length_le (by simp [hg]), List.take_of_length_le (by simp [hg])]
  · rw [hL, valL_y h2]
  · rw [List.take_of_length_le (l := l.weights) (by simp), setAtL_all _ _ (by simp [hg]), hL, valL_y h2, List.take_of_length_le (by simp [hg])]
  all_goals rw [hL, valL_y h2]
theorem valid2_run (l : Loc) (hl : LocOk l) : (R FT X).f 65 [encLoc l] = some (encLoc (valL l)) := by
  have hm := maxLen_le
  refine R_wp ((Tr.c (intA (errLoc l)) ((Tr.c (encLoc defL) Tr.nil).br Tr.nil).w).w) rfl ?_
  refine Eq.mpr (by kernel_rfl : _ = ((R FT X).f (16 : FuncId) [AV.agg [strL l.name, AV.slice (1 : Nat) (List.map intA l.weights), strL l.lower, strL l.upper, AV.slice (5 : Nat) (List.map encCls l.classes), AV.slice (2 : Nat) (List.map encEl l.elements)]] = some (intA (errLoc l)) ∧ ((!decide (errLoc l = (0 : Int))) = true → (R FT X).f (27 : FuncId) [] = some (AV.agg [strL [(112 : UInt8), (111 : UInt8), (115 : UInt8), (105 : UInt8), (120 : UInt8)], AV.slice (1 : Nat) (List.map intA defL.weights), strL defL.lower, strL defL.upper, AV.slice (5 : Nat) (List.map encCls defL.classes), AV.slice (2 : Nat) (List.map encEl defL.elements)]) ∧ [(112 : UInt8), (111 : UInt8), (115 : UInt8), (105 : UInt8), (120 : UInt8)] = (valL l).name ∧ List.map intA defL.weights = List.map intA (valL l).weights ∧ defL.lower = (valL l).lower ∧ defL.upper = (valL l).upper ∧ List.map encCls defL.classes = List.map encCls (valL l).classes ∧ List.map encEl defL.elements = List.map encEl (valL l).elements) ∧ ((!decide (errLoc l = (0 : Int))) = false → l.name = (valL l).name ∧ List.map intA l.weights = List.map intA (valL l).weights ∧ l.lower = (valL l).lower ∧ l.upper = (valL l).upper ∧ List.map encCls l.classes = List.map encCls (valL l).classes ∧ List.map encEl l.elements = List.map encEl (valL l).elements))) ?_
  refine ⟨(check2_run _ hl), fun h1_ => have h1 := dnT h1_; ⟨(def2_run), ?_, ?_, ?_, ?_, ?_, ?_⟩, fun h2_ => have h2 := dnF h2_; ⟨?_, ?_, ?_, ?_, ?_, ?_⟩⟩
  · rw [valL_n h1]; rfl
  iterate 5 · rw [valL_n h1]
  all_goals rw [valL_y h2]
theorem valid_run (l : Loc) (hl : LocOk l) : (R FT X).f 63 [encLoc l] = some (encLoc (valL l)) := valid_run' l _ hl rfl
/-- a string, byte by byte through a table -/
def mapB (t s : Bs) : Bs := s.map (fun c => t.getD c.toNat 0)
@[simp] theorem mapB_length (t s : Bs) : (mapB t s).length = s.length := by simp [mapB]
theorem mapB_succ {t s : Bs} {k : Nat} {c d : UInt8} (hc : s[k]? = some c) (hd : t[c.toNat]? = some d) : mapB t (s.take (k + 1)) = mapB t (s.take k) ++ [d] := by
  obtain ⟨hk, rfl⟩ := get_of hc
  obtain ⟨hk', rfl⟩ := get_of hd
  rw [List.take_succ_eq_append_getElem hk, mapB, List.map_append]
  show _ ++ [_] = _ ++ [_]
  simp only [List.getD_eq_getElem?_getD, hd]; rfl
theorem tab_lt {t : Bs} (ht : t.length = 256) (c : UInt8) : c.toNat < t.length := by
  have := c.toNat_lt; omega
theorem swap_get {t s : Bs} {k : Nat} {c : UInt8} (h : (mapB t (s.take k) ++ s.drop k)[0 + k]? = some c) (hk : k < s.length) : s[k]? = some c := by
  rw [Nat.zero_add, List.getElem?_append_right (by simp; omega), mapB_length, List.length_take, List.getElem?_drop] at h
  rw [← h]; congr 1; omega
theorem swap_set {t s : Bs} {k : Nat} {c d : UInt8} (hc : s[k]? = some c) (hd : t[c.toNat]? = some d) : ((mapB t (s.take k) ++ s.drop k).map u8A).set (0 + k) (AV.val (Value.int IntKind.u8 (d.toNat : Int))) = (mapB t (s.take (k + 1)) ++ s.drop (k + 1)).map u8A := by
  have hk := (get_of hc).1
  rw [show AV.val (Value.int IntKind.u8 (d.toNat : Int)) = u8A d from rfl, ← List.map_set, Nat.zero_add, List.set_append, if_neg (by simp; omega), mapB_succ hc hd, show k - (mapB t (s.take k)).length = 0 by simp; omega, List.drop_eq_getElem_cons hk, List.set_cons_zero, List.append_assoc]
  rfl
theorem mapped_run (t s : Bs) (ht : t.length = 256) (hs : s.length ≤ maxLen) : (R FT X).f 72 [strL t, strL s] = some (strL (mapB t s)) := by
  have hm := maxLen_i64
  refine R_wp (Tr.k (List.length s) (Tr.inv (fun (k : Nat) ↦ St.mk [((0 : Nat), strL t), ((5 : Nat), AV.row (0 : Nat) (0 : Nat) (List.length s) (0 : Nat) (List.length s)), ((10 : Nat), intA (↑(List.length s) : Int)), ((11 : Nat), intA (↑k : Int))] [MObj.row (0 : Nat) (1 : Nat) (List.map u8A (mapB t (List.take k s) ++ List.drop k s)) true false]) (fun (k : Nat) ↦ k ≤ List.length s) (fun (k : Nat) ↦ List.length s - k) fun (k : Nat) ↦ (Tr.k k (Tr.ix u8A (mapB t (List.take k s) ++ List.drop k s) ((0 : Nat) + k) fun (x4 : UInt8) ↦ Tr.y x4.toNat fun (c6 : UInt8) ↦ Tr.k k (Tr.ix u8A (mapB t (List.take k s) ++ List.drop k s) ((0 : Nat) + k) fun (x8 : UInt8) ↦ Tr.nil.w))).w.br (Tr.bs (List.take (List.length s) (List.drop (0 : Nat) (mapB t (List.take k s) ++ List.drop k s))) Tr.nil)).w) rfl ?_
  refine Eq.mpr (by kernel_rfl : _ = ((List.map u8A s).length = List.length s ∧ (List.take (List.length s) (List.drop (0 : Nat) (List.map u8A s))).length = List.length s ∧ (∃ (j1 : Nat), ((t = t ∧ (List.length s = List.length s ∧ (0 : Nat) = (0 : Nat) ∧ List.length s = List.length s) ∧ (↑(List.length s) : Int) = (↑(List.length s) : Int) ∧ (0 : Int) = (↑j1 : Int) ∧ True) ∧ List.map u8A s = List.map u8A (mapB t (List.take j1 s) ++ List.drop j1 s)) ∧ j1 ≤ List.length s) ∧ ∀ (k : Nat), k ≤ List.length s → (decide ((↑k : Int) < (↑(List.length s) : Int)) = true → (List.map u8A (mapB t (List.take k s) ++ List.drop k s)).length = List.length s ∧ (↑k : Int) = (↑k : Int) ∧ k < List.length s ∧ List.map u8A (mapB t (List.take k s) ++ List.drop k s) = List.map u8A (mapB t (List.take k s) ++ List.drop k s) ∧ (List.map u8A (mapB t (List.take k s) ++ List.drop k s)).length = List.length s ∧ (0 : Nat) + k = (0 : Nat) + k ∧ (0 : Nat) + k < List.length (mapB t (List.take k s) ++ List.drop k s) ∧ ∀ (x4 : UInt8), (mapB t (List.take k s) ++ List.drop k s)[(0 : Nat) + k]? = some x4 → (↑x4.toNat : Int) = (↑x4.toNat : Int) ∧ x4.toNat < List.length t ∧ ∀ (c6 : UInt8), t[x4.toNat]? = some c6 → (List.map u8A (mapB t (List.take k s) ++ List.drop k s)).length = List.length s ∧ (↑k : Int) = (↑k : Int) ∧ k < List.length s ∧ List.map u8A (mapB t (List.take k s) ++ List.drop k s) = List.map u8A (mapB t (List.take k s) ++ List.drop k s) ∧ (List.map u8A (mapB t (List.take k s) ++ List.drop k s)).length = List.length s ∧ (0 : Nat) + k = (0 : Nat) + k ∧ (0 : Nat) + k < List.length (mapB t (List.take k s) ++ List.drop k s) ∧ ∀ (x8 : UInt8), (mapB t (List.take k s) ++ List.drop k s)[(0 : Nat) + k]? = some x8 → InI64 ((↑k : Int) + (1 : Int)) ∧ ∃ (j10 : Nat), ((t = t ∧ (List.length s = List.length s ∧ (0 : Nat) = (0 : Nat) ∧ List.length s = List.length s) ∧ (↑(List.length s) : Int) = (↑(List.length s) : Int) ∧ (↑k : Int) + (1 : Int) = (↑j10 : Int) ∧ True) ∧ (List.map u8A (mapB t (List.take k s) ++ List.drop k s)).set ((0 : Nat) + k) (AV.val (Value.int IntKind.u8 (↑c6.toNat : Int))) = List.map u8A (mapB t (List.take j10 s) ++ List.drop j10 s)) ∧ j10 ≤ List.length s ∧ List.length s - j10 < List.length s - k) ∧ (decide ((↑k : Int) < (↑(List.length s) : Int)) = false → (List.map u8A (mapB t (List.take k s) ++ List.drop k s)).length = List.length s ∧ bytesL (List.take (List.length s) (List.drop (0 : Nat) (List.map u8A (mapB t (List.take k s) ++ List.drop k s)))) = some (List.take (List.length s) (List.drop (0 : Nat) (mapB t (List.take k s) ++ List.drop k s))) ∧ List.take (List.length s) (List.drop (0 : Nat) (mapB t (List.take k s) ++ List.drop k s)) = mapB t s))) ?_
  refine ⟨(by simp), (by simp), ⟨(0 : Nat), ⟨⟨rfl, ⟨rfl, rfl, rfl⟩, rfl, (by omega), trivial⟩, rfl⟩, (by omega)⟩, fun k => fun h2 => ⟨fun h3_ => have h3 := dT h3_; ⟨?_, rfl, (by omega), rfl, ?_, rfl, (by simp; omega), fun x4 => fun h5 => ⟨rfl, ?_, fun c6 => fun h7 => ⟨?_, rfl, (by omega), rfl, ?_, rfl, (by simp; omega), fun x8 => fun h9 => ⟨(by unfold InI64; omega), ⟨k + (1 : Nat), ⟨⟨rfl, ⟨rfl, rfl, rfl⟩, rfl, (by omega), trivial⟩, ?_⟩, ⟨(by omega), (by omega)⟩⟩⟩⟩⟩⟩, fun h11_ => have h11 := dF h11_; ⟨?_, (by first | exact bytesL_map _ | (rw [List.drop_zero, List.take_of_length_le (by simp)]; exact bytesL_map _) | (simp only [← List.map_take, ← List.map_drop]; exact bytesL_map _) | (rw [← List.map_replicate (f := u8A), ← List.map_append, ← List.map_drop, ← List.map_take]; exact bytesL_map _)), ?_⟩⟩⟩
  all_goals first | (simp; omega) | exact tab_lt ht _ | skip
  · exact swap_set (swap_get h9 (by omega)) (by rw [← h7]; congr 2; have := h5.symm.trans h9; injection this with e; rw [e])
  · obtain rfl : k = s.length := by omega
    rw [List.take_of_length_le (Nat.le_refl _), List.drop_of_length_le (Nat.le_refl _), List.append_nil, List.drop_zero, List.take_of_length_le (by simp)]
theorem mapped2_run (t s : Bs) (ht : t.length = 256) (hs : s.length ≤ 1048576) : (R FT X).f 73 [strL t, strL s] = some (strL (mapB t s)) := by
  have hm := maxLen_i64
  refine R_wp ((Tr.inv (fun (k : Nat) ↦ St.mk [((0 : Nat), strL t), ((1 : Nat), strL s), ((5 : Nat), AV.row (0 : Nat) (0 : Nat) k (0 : Nat) k), ((6 : Nat), intA (↑k : Int))] [MObj.row (0 : Nat) (1 : Nat) (List.map u8A (mapB t (List.take k s))) true true]) (fun (k : Nat) ↦ k ≤ List.length s) (fun (k : Nat) ↦ List.length s - k) fun (k : Nat) ↦ ((Tr.y k fun (c4 : UInt8) ↦ Tr.y c4.toNat fun (c6 : UInt8) ↦ Tr.k (k + (1 : Nat)) Tr.nil.w).w.br (Tr.bs (List.take k (List.drop (0 : Nat) (mapB t (List.take k s)))) Tr.nil)).w).w) rfl ?_
  refine Eq.mpr (by kernel_rfl : _ = ((∃ (j1 : Nat), ((t = t ∧ s = s ∧ ((0 : Nat) = j1 ∧ (0 : Nat) = (0 : Nat) ∧ (0 : Nat) = j1) ∧ (0 : Int) = (↑j1 : Int) ∧ True) ∧ [] = List.map u8A (mapB t (List.take j1 s))) ∧ j1 ≤ List.length s) ∧ ∀ (k : Nat), k ≤ List.length s → (decide ((↑k : Int) < (↑(List.length s) : Int)) = true → (↑k : Int) = (↑k : Int) ∧ k < List.length s ∧ ∀ (c4 : UInt8), s[k]? = some c4 → (↑c4.toNat : Int) = (↑c4.toNat : Int) ∧ c4.toNat < List.length t ∧ ∀ (c6 : UInt8), t[c4.toNat]? = some c6 → (List.map u8A (mapB t (List.take k s))).length = k ∧ (0 : Nat) = (0 : Nat) ∧ k = k ∧ k + [AV.val (Value.int IntKind.u8 (↑c6.toNat : Int))].length = k + (1 : Nat) ∧ (k + (1 : Nat)) * (1 : Nat) ≤ (140737488355328 : Nat) ∧ k + (1 : Nat) ≤ (9223372036854775807 : Nat) ∧ InI64 ((↑k : Int) + (1 : Int)) ∧ ∃ (j8 : Nat), ((t = t ∧ s = s ∧ (k + (1 : Nat) = j8 ∧ (0 : Nat) = (0 : Nat) ∧ k + (1 : Nat) = j8) ∧ (↑k : Int) + (1 : Int) = (↑j8 : Int) ∧ True) ∧ List.map u8A (mapB t (List.take k s)) ++ [AV.val (Value.int IntKind.u8 (↑c6.toNat : Int))] = List.map u8A (mapB t (List.take j8 s))) ∧ j8 ≤ List.length s ∧ List.length s - j8 < List.length s - k) ∧ (decide ((↑k : Int) < (↑(List.length s) : Int)) = false → (List.map u8A (mapB t (List.take k s))).length = k ∧ bytesL (List.take k (List.drop (0 : Nat) (List.map u8A (mapB t (List.take k s))))) = some (List.take k (List.drop (0 : Nat) (mapB t (List.take k s)))) ∧ List.take k (List.drop (0 : Nat) (mapB t (List.take k s))) = mapB t s))) ?_
  refine ⟨⟨(0 : Nat), ⟨⟨rfl, rfl, ⟨rfl, rfl, rfl⟩, (by omega), trivial⟩, rfl⟩, (by omega)⟩, fun k => fun h2 => ⟨fun h3_ => have h3 := dT h3_; ⟨rfl, (by omega), fun c4 => fun h5 => ⟨rfl, ?_, fun c6 => fun h7 => ⟨?_, rfl, rfl, rfl, (by omega), (by omega), (by unfold InI64; omega), ⟨k + (1 : Nat), ⟨⟨rfl, rfl, ⟨rfl, rfl, rfl⟩, (by omega), trivial⟩, ?_⟩, ⟨(by omega), (by omega)⟩⟩⟩⟩⟩, fun h9_ => have h9 := dF h9_; ⟨?_, (by first | exact bytesL_map _ | (rw [List.drop_zero, List.take_of_length_le (by simp)]; exact bytesL_map _) | (simp only [← List.map_take, ← List.map_drop]; exact bytesL_map _) | (rw [← List.map_replicate (f := u8A), ← List.map_append, ← List.map_drop, ← List.map_take]; exact bytesL_map _)), ?_⟩⟩⟩
  all_goals first | (simp; omega) | exact tab_lt ht _ | skip
  · rw [mapB_succ h5 h7, List.map_append]; rfl
  · obtain rfl : k = s.length := by omega
    rw [List.take_of_length_le (l := s) (Nat.le_refl _), List.drop_zero, List.take_of_length_le (by simp)]
theorem lower_run (l : Loc) (s : Bs) (hl : LocOk l) (hs : s.length ≤ maxLen) : (R FT X).f 23 [encLoc l, strL s] = some (strL (mapB (valL l).lower s)) := by
  have hm := maxLen_i64
  have hg := (valL_good hl).lower
  refine R_wp (Tr.c (encLoc (valL l)) (Tr.c (strL (mapB (valL l).lower s)) Tr.nil)) rfl ?_
  refine Eq.mpr (by kernel_rfl : _ = ((R FT X).f (63 : FuncId) [AV.agg [strL l.name, AV.slice (1 : Nat) (List.map intA l.weights), strL l.lower, strL l.upper, AV.slice (5 : Nat) (List.map encCls l.classes), AV.slice (2 : Nat) (List.map encEl l.elements)]] = some (AV.agg [strL (valL l).name, AV.slice (1 : Nat) (List.map intA (valL l).weights), strL (valL l).lower, strL (valL l).upper, AV.slice (5 : Nat) (List.map encCls (valL l).classes), AV.slice (2 : Nat) (List.map encEl (valL l).elements)]) ∧ (R FT X).f (72 : FuncId) [AV.val (Value.string (ofL (valL l).lower)), AV.val (Value.string (ofL s))] = some (strL (mapB (valL l).lower s)) ∧ mapB (valL l).lower s = mapB (valL l).lower s)) ?_
  refine ⟨(valid_run _ hl), (mapped_run _ _ (by omega) hs), rfl⟩
theorem lower2_run (l : Loc) (s : Bs) (hl : LocOk l) (hs : s.length ≤ 1048576) : (R FT X).f 24 [encLoc l, strL s] = some (strL (mapB (valL l).lower s)) := by
  have hm := maxLen_i64
  have hg := (valL_good hl).lower
  refine R_wp (Tr.c (encLoc (valL l)) (Tr.c (strL (mapB (valL l).lower s)) Tr.nil)) rfl ?_
  refine Eq.mpr (by kernel_rfl : _ = ((R FT X).f (65 : FuncId) [AV.agg [strL l.name, AV.slice (1 : Nat) (List.map intA l.weights), strL l.lower, strL l.upper, AV.slice (5 : Nat) (List.map encCls l.classes), AV.slice (2 : Nat) (List.map encEl l.elements)]] = some (AV.agg [strL (valL l).name, AV.slice (1 : Nat) (List.map intA (valL l).weights), strL (valL l).lower, strL (valL l).upper, AV.slice (5 : Nat) (List.map encCls (valL l).classes), AV.slice (2 : Nat) (List.map encEl (valL l).elements)]) ∧ (R FT X).f (73 : FuncId) [AV.val (Value.string (ofL (valL l).lower)), AV.val (Value.string (ofL s))] = some (strL (mapB (valL l).lower s)) ∧ mapB (valL l).lower s = mapB (valL l).lower s)) ?_
  refine ⟨(valid2_run _ hl), (mapped2_run _ _ (by omega) hs), rfl⟩
theorem upper_run (l : Loc) (s : Bs) (hl : LocOk l) (hs : s.length ≤ maxLen) : (R FT X).f 25 [encLoc l, strL s] = some (strL (mapB (valL l).upper s)) := by
  have hm := maxLen_i64
  have hg := (valL_good hl).upper
  refine R_wp (Tr.c (encLoc (valL l)) (Tr.c (strL (mapB (valL l).upper s)) Tr.nil)) rfl ?_
  refine Eq.mpr (by kernel_rfl : _ = ((R FT X).f (63 : FuncId) [AV.agg [strL l.name, AV.slice (1 : Nat) (List.map intA l.weights), strL l.lower, strL l.upper, AV.slice (5 : Nat) (List.map encCls l.classes), AV.slice (2 : Nat) (List.map encEl l.elements)]] = some (AV.agg [strL (valL l).name, AV.slice (1 : Nat) (List.map intA (valL l).weights), strL (valL l).lower, strL (valL l).upper, AV.slice (5 : Nat) (List.map encCls (valL l).classes), AV.slice (2 : Nat) (List.map encEl (valL l).elements)]) ∧ (R FT X).f (72 : FuncId) [AV.val (Value.string (ofL (valL l).upper)), AV.val (Value.string (ofL s))] = some (strL (mapB (valL l).upper s)) ∧ mapB (valL l).upper s = mapB (valL l).upper s)) ?_
  refine ⟨(valid_run _ hl), (mapped_run _ _ (by omega) hs), rfl⟩
theorem upper2_run (l : Loc) (s : Bs) (hl : LocOk l) (hs : s.length ≤ 1048576) : (R FT X).f 26 [encLoc l, strL s] = some (strL (mapB (valL l).upper s)) := by
  have hm := maxLen_i64
  have hg := (valL_good hl).upper
  refine R_wp (Tr.c (encLoc (valL l)) (Tr.c (strL (mapB (valL l).upper s)) Tr.nil)) rfl ?_
  refine Eq.mpr (by kernel_rfl : _ = ((R FT X).f (65 : FuncId) [AV.agg [strL l.name, AV.slice (1 : Nat) (List.map intA l.weights), strL l.lower, strL l.upper, AV.slice (5 : Nat) (List.map encCls l.classes), AV.slice (2 : Nat) (List.map encEl l.elements)]] = some (AV.agg [strL (valL l).name, AV.slice (1 : Nat) (List.map intA (valL l).weights), strL (valL l).lower, strL (valL l).upper, AV.slice (5 : Nat) (List.map encCls (valL l).classes), AV.slice (2 : Nat) (List.map encEl (valL l).elements)]) ∧ (R FT X).f (73 : FuncId) [AV.val (Value.string (ofL (valL l).upper)), AV.val (Value.string (ofL s))] = some (strL (mapB (valL l).upper s)) ∧ mapB (valL l).upper s = mapB (valL l).upper s)) ?_
  refine ⟨(valid2_run _ hl), (mapped2_run _ _ (by omega) hs), rfl⟩
end
end Go.Proofs.Ytbdmioekohmcnaa
