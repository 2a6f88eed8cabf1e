/- Own texts of this claim, merged: Pn, Df1, Df2, DfX, Up, DfC, DfO, Df3. -/
import Derived.Test.YtfbpbkcplpkndaaGreatDoorPod
import Derived.Deep.DeepHandedRow
import Derived.Lay
import Derived.Deep.DeepWitnessRowRef
import Derived.Shelf.Vars
section
namespace Go.Proofs.YtfbpbkcplpkndaaGreatDoor
set_option linter.unusedVariables false
set_option linter.unusedSimpArgs false
set_option maxRecDepth 100000
section
variable {X : CallF}
end
structure NumC (X : CallF) : Prop where
 itoa : ∀ n : Int, InI64 n → (R FT X).f 95 [intA n] = some (strL (Lib.itoa n))
 ok : ∀ s : Bs, s.length ≤ 281474976710656 → decB s = true → InI64 (valI s) → (R FT X).f 132 [strL s] = some (.tuple [intA (valI s), .val .nilIface])
 over : ∀ s : Bs, s.length ≤ 281474976710656 → decB s = true → ¬ InI64 (valI s) → (R FT X).f 132 [strL s] = some (.tuple [intA (Lib.atoiSat s), .nif])
section
variable {X : CallF}
theorem numV_in (s : Bs) : InI64 (numV s) := by
 unfold numV
 split
 ·rename_i h; exact h.2
 ·unfold InI64; omega
end
end Go.Proofs.YtfbpbkcplpkndaaGreatDoor
end
section
namespace Go.Proofs.YtfbpbkcplpkndaaGreatDoor
set_option linter.unusedVariables false
set_option linter.unusedSimpArgs false
set_option maxRecDepth 100000
section
variable {X : CallF}
theorem lines2_run (s : Bs) (hs : s.length ≤ 100000000) : (R FT X).f 52 [strL s] = some (.tuple [.slice 1 ((lins s).map strL), boolA (endB s)]) := by
 have hm := maxLen_le
 have hf := flF_le 10 s
 have ho := flO_len 10 s
 refine R_wp ((Tr.inv (fun (k : Nat) ↦ St.mk [(0, strL s), (4, AV.row 0 0 (flO (10 : UInt8) s k).length (0 : Nat) (flO (10 : UInt8) s k).length), (5, intA (↑(flF (10 : UInt8) s k) : Int)), (6, intA (↑k : Int))] [MObj.row 0 1 (List.map strL (flO (10 : UInt8) s k)) true (1 : Nat)]) (fun (k : Nat) ↦ k ≤ List.length s) (fun (k : Nat) ↦ List.length s - k) fun (k : Nat) ↦ ((Tr.y k fun (c4 : UInt8) ↦ ((Tr.sl (flF (10 : UInt8) s k) k (Tr.k ((flO (10 : UInt8) s k).length + 1) Tr.nil.w.w)).br Tr.nil.w).w).w.w.br ((Tr.sl (flF (10 : UInt8) s k) (List.length s) (Tr.k ((flO (10 : UInt8) s k).length + 1) (Tr.g (List.map strL (flO (10 : UInt8) s k ++ [List.drop (flF (10 : UInt8) s k) (List.take (List.length s) s)])) Tr.nil))).br (Tr.g (List.map strL (flO (10 : UInt8) s k)) Tr.nil)).w.w).w).w) rfl ?_
 refine Eq.mpr (by kernel_rfl : _ = ((∃ (j1 : Nat), ((s = s ∧ ((0 : Nat) = (flO (10 : UInt8) s j1).length ∧ (0 : Nat) = 0 ∧ (0 : Nat) = (flO (10 : UInt8) s j1).length) ∧ (0 : Int) = (↑(flF (10 : UInt8) s j1) : Int) ∧ (0 : Int) = (↑j1 : Int) ∧ True) ∧ [] = List.map strL (flO (10 : UInt8) s j1)) ∧ j1 ≤ List.length s) ∧ ∀ (k : Nat), k ≤ List.length s → (decide ((↑k : Int) < (↑(List.length s) : Int)) = true → (↑k : Int) = (↑k : Int) ∧ k < List.length s ∧ ∀ (c4 : UInt8), s[k]? = some c4 → (decide ((↑c4.toNat : Int) = 10) = true → (↑(flF (10 : UInt8) s k) : Int) = (↑(flF (10 : UInt8) s k) : Int) ∧ (↑k : Int) = (↑k : Int) ∧ flF (10 : UInt8) s k ≤ k ∧ k ≤ List.length s ∧ (List.map strL (flO (10 : UInt8) s k)).length = (flO (10 : UInt8) s k).length ∧ (0 : Nat) = 0 ∧ (flO (10 : UInt8) s k).length = (flO (10 : UInt8) s k).length ∧ (flO (10 : UInt8) s k).length + [AV.val (Value.string (ofL (List.drop (flF (10 : UInt8) s k) (List.take k s))))].length = (flO (10 : UInt8) s k).length + 1 ∧ ((flO (10 : UInt8) s k).length + 1) * 16 ≤ (140737488355328 : Nat) ∧ (flO (10 : UInt8) s k).length + 1 ≤ (9223372036854775807 : Nat) ∧ InI64 ((↑k : Int) + 1) ∧ InI64 ((↑k : Int) + (1 :
 Int)) ∧ ∃ (j7 : Nat), ((s = s ∧ ((flO (10 : UInt8) s k).length + 1 = (flO (10 : UInt8) s j7).length ∧ (0 : Nat) = 0 ∧ (flO (10 : UInt8) s k).length + 1 = (flO (10 : UInt8) s j7).length) ∧ (↑k : Int) + 1 = (↑(flF (10 : UInt8) s j7) : Int) ∧ (↑k : Int) + 1 = (↑j7 : Int) ∧ True) ∧ List.map strL (flO (10 : UInt8) s k) ++ [AV.val (Value.string (ofL (List.drop (flF (10 : UInt8) s k) (List.take k s))))] = List.map strL (flO (10 : UInt8) s j7)) ∧ j7 ≤ List.length s ∧ List.length s - j7 < List.length s - k) ∧ (decide ((↑c4.toNat : Int) = 10) = false → InI64 ((↑k : Int) + 1) ∧ ∃ (j9 : Nat), ((s = s ∧ ((flO (10 : UInt8) s k).length = (flO (10 : UInt8) s j9).length ∧ (0 : Nat) = 0 ∧ (flO (10 : UInt8) s k).length = (flO (10 : UInt8) s j9).length) ∧ (↑(flF (10 : UInt8) s k) : Int) = (↑(flF (10 : UInt8) s j9) : Int) ∧ (↑k : Int) + 1 = (↑j9 : Int) ∧ True) ∧ List.map strL (flO (10 : UInt8) s k) = List.map strL (flO (10 : UInt8) s j9)) ∧ j9 ≤ List.length s ∧ List.length s - j9 < List.length s - k)) ∧ (decide ((↑k : Int) < (↑(List.length s) : Int)) = false → (decide ((↑(flF (10 : UInt8) s k) : Int) < (↑(List.length s) : Int)) = true
 → (↑(flF (10 : UInt8) s k) : Int) = (↑(flF (10 : UInt8) s k) : Int) ∧ (↑(List.length s) : Int) = (↑(List.length s) : Int) ∧ flF (10 : UInt8) s k ≤ List.length s ∧ List.length s ≤ List.length s ∧ (List.map strL (flO (10 : UInt8) s k)).length = (flO (10 : UInt8) s k).length ∧ (0 : Nat) = 0 ∧ (flO (10 : UInt8) s k).length = (flO (10 : UInt8) s k).length ∧ (flO (10 : UInt8) s k).length + [AV.val (Value.string (ofL (List.drop (flF (10 : UInt8) s k) (List.take (List.length s) s))))].length = (flO (10 : UInt8) s k).length + 1 ∧ ((flO (10 : UInt8) s k).length + 1) * 16 ≤ (140737488355328 : Nat) ∧ (flO (10 : UInt8) s k).length + 1 ≤ (9223372036854775807 : Nat) ∧ (List.map strL (flO (10 : UInt8) s k) ++ [AV.val (Value.string (ofL (List.drop (flF (10 : UInt8) s k) (List.take (List.length s) s))))]).length = (flO (10 : UInt8) s k).length + 1 ∧ List.take ((flO (10 : UInt8) s k).length + 1) (List.drop (0 : Nat) (List.map strL (flO (10 : UInt8) s k) ++ [AV.val (Value.string (ofL (List.drop (flF (10 : UInt8) s k) (List.take (List.length s) s))))])) = List.map strL (flO (10 : UInt8) s k ++ [List.drop (flF (10 : UInt8) s k) (List.take (List.length
 s) s)]) ∧ List.map strL (flO (10 : UInt8) s k ++ [List.drop (flF (10 : UInt8) s k) (List.take (List.length s) s)]) = List.map strL (lins s) ∧ false = endB s) ∧ (decide ((↑(flF (10 : UInt8) s k) : Int) < (↑(List.length s) : Int)) = false → (List.map strL (flO (10 : UInt8) s k)).length = (flO (10 : UInt8) s k).length ∧ List.take (flO (10 : UInt8) s k).length (List.drop (0 : Nat) (List.map strL (flO (10 : UInt8) s k))) = List.map strL (flO (10 : UInt8) s k) ∧ List.map strL (flO (10 : UInt8) s k) = List.map strL (lins s) ∧ true = endB s)))) ?_
 refine ⟨⟨(0 : Nat), ⟨⟨rfl, ⟨rfl, rfl, rfl⟩, rfl, (by omega), trivial⟩, rfl⟩, (by omega)⟩, fun k => fun h2 => ⟨fun h3_ => have h3 := dT h3_; ⟨rfl, (by omega), fun c4 => fun h5 => ⟨fun h6_ => have h6 := dT h6_; ⟨rfl, rfl, ?_, h2, (by simp), rfl, rfl, rfl, ?_, ?_, (by unfold InI64; omega), (by unfold InI64; omega), ⟨k + (1 : Nat), ⟨⟨rfl, ⟨?_, rfl, ?_⟩, ?_, (by omega), trivial⟩, ?_⟩, ⟨(by omega), (by omega)⟩⟩⟩, fun h8_ => have h8 := dF h8_; ⟨(by unfold InI64; omega), ⟨k + (1 : Nat), ⟨⟨rfl, ⟨?_, rfl, ?_⟩, ?_, (by omega), trivial⟩, ?_⟩, ⟨(by omega), (by omega)⟩⟩⟩⟩⟩, fun h10_ => have h10 := dF h10_; ⟨fun h11_ => have h11 := dT h11_; ⟨rfl, rfl, (by omega), (by omega), (by simp), rfl, rfl, rfl, ?_, ?_, (by simp), ?_, ?_, ?_⟩, fun h12_ => have h12 := dF h12_; ⟨(by simp), ?_, ?_, ?_⟩⟩⟩⟩
 ·exact hf k
 iterate 2 · have := ho k; omega
 iterate 4 · first | (rw [flO_y (c := 10) (u8eq (d := 10) h6 ▸ h5)]; simp; done) | (rw [flF_y (c := 10) (u8eq (d := 10) h6 ▸ h5)]; done) | (rw [flF_y (c := 10) (u8eq (d := 10) h6 ▸ h5)]; omega) | (rw [flO_y (c := 10) (u8eq (d := 10) h6 ▸ h5), List.map_append]; rfl)
 iterate 4 · first | rw [flO_n (c := 10) (fun q => h8 (by rw [h5] at q; rw [Option.some.inj q]; rfl))] | rw [flF_n (c := 10) (fun q => h8 (by rw [h5] at q; rw [Option.some.inj q]; rfl))]
 all_goals (obtain rfl : k = s.length := by omega)
 iterate 2 · have := ho s.length; omega
 ·rw [List.drop_zero, List.take_of_length_le (by simp), List.map_append]; rfl
 ·rw [List.take_length, lins, if_pos (by omega)]; rfl
 ·exact (decide_eq_false (fun q => q (by omega))).symm
 ·rw [List.drop_zero, List.take_of_length_le (by simp)]
 ·rw [lins, if_neg (by omega)]
 ·exact (decide_eq_true (by omega)).symm
theorem fed_ln1 {s : Bs} {k : Nat} (h : (k : Int) < (lins s).length) : ((fed s).take k).length + 1 = ((fed s).take (k + 1)).length := by
 have := fed_len s
 rw [List.length_take, List.length_take]; omega
theorem fed_st {s x y : Bs} {k : Nat} (h : (lins s)[k]? = some x) (hy : y = if endB s = true ∨ k + 1 < (lins s).length then x ++ [10] else x) : ((fed s).take k).map strL ++ [strL y] = ((fed s).take (k + 1)).map strL := by
 unfold fed; rw [fdK_snoc h hy, List.map_append]; rfl
theorem fed_run (s : Bs) (hs : s.length ≤ 100000000) : (R FT X).f 23 [strL s] = some (.slice 1 ((fed s).map strL)) := by
 have hm := maxLen_le
 have ll := lines2_run (X := X) s hs
 have hle := lins_len s
 have hfl := fed_len s
 refine R_wp (Tr.c (AV.tuple [AV.slice 1 (List.map strL (lins s)), boolA (endB s)]) (Tr.inv (fun (k : Nat) ↦ St.mk [(3, AV.slice 1 (List.map strL (lins s))), (4, boolA (endB s)), (5, AV.row 0 0 (List.take k (fed s)).length (0 : Nat) (List.take k (fed s)).length), (6, intA (↑k : Int))] [MObj.row 0 1 (List.map strL (List.take k (fed s))) true (1 : Nat)]) (fun (k : Nat) ↦ k ≤ (lins s).length) (fun (k : Nat) ↦ (lins s).length - k) fun (k : Nat) ↦ (Tr.k (lins s).length (((Tr.b true (Tr.ix strL (lins s) k fun (x5 : Bs) ↦ (Tr.k ((List.take k (fed s)).length + 1) Tr.nil.w).w)).w.br (Tr.k (lins s).length ((Tr.ix strL (lins s) k fun (x10 : Bs) ↦ (Tr.k ((List.take k (fed s)).length + 1) Tr.nil.w).w).br (Tr.ix strL (lins s) k fun (x14 : Bs) ↦ Tr.k ((List.take k (fed s)).length + 1) Tr.nil.w)).w).w).w.w.br (Tr.g (List.map strL (List.take k (fed s))) Tr.nil))).w).w) rfl ?_
 refine Eq.mpr (by kernel_rfl : _ = ((R FT X).f 52 [strL s] = some (AV.tuple [AV.slice 1 (List.map strL (lins s)), boolA (endB s)]) ∧ (∃ (j1 : Nat), ((List.map strL (lins s) = List.map strL (lins s) ∧ endB s = endB s ∧ ((0 : Nat) = (List.take j1 (fed s)).length ∧ (0 : Nat) = 0 ∧ (0 : Nat) = (List.take j1 (fed s)).length) ∧ (0 : Int) = (↑j1 : Int) ∧ True) ∧ [] = List.map strL (List.take j1 (fed s))) ∧ j1 ≤ (lins s).length) ∧ ∀ (k : Nat), k ≤ (lins s).length → (List.map strL (lins s)).length = (lins s).length ∧ (decide ((↑k : Int) < (↑(lins s).length : Int)) = true → (endB s = true → true = true ∧ List.map strL (lins s) = List.map strL (lins s) ∧ (↑k : Int) = (↑k : Int) ∧ k < (lins s).length ∧ ∀ (x5 : Bs), (lins s)[k]? = some x5 → List.length x5 + [(10 : UInt8)].length ≤ 9223372036854775807 ∧ (List.map strL (List.take k (fed s))).length = (List.take k (fed s)).length ∧ (0 : Nat) = 0 ∧ (List.take k (fed s)).length = (List.take k (fed s)).length ∧ (List.take k (fed s)).length + [AV.val (Value.string (ofL (x5 ++ [(10 : UInt8)])))].length = (List.take k (fed s)).length + 1 ∧ ((List.take k (fed s)).length + 1) * 16 ≤ (140737488355328 : Nat) ∧ (List.take k (fed
 s)).length + 1 ≤ (9223372036854775807 : Nat) ∧ InI64 ((↑k : Int) + 1) ∧ ∃ (j7 : Nat), ((List.map strL (lins s) = List.map strL (lins s) ∧ endB s = endB s ∧ ((List.take k (fed s)).length + 1 = (List.take j7 (fed s)).length ∧ (0 : Nat) = 0 ∧ (List.take k (fed s)).length + 1 = (List.take j7 (fed s)).length) ∧ (↑k : Int) + 1 = (↑j7 : Int) ∧ True) ∧ List.map strL (List.take k (fed s)) ++ [AV.val (Value.string (ofL (x5 ++ [(10 : UInt8)])))] = List.map strL (List.take j7 (fed s))) ∧ j7 ≤ (lins s).length ∧ (lins s).length - j7 < (lins s).length - k) ∧ (endB s = false → InI64 ((↑k : Int) + 1) ∧ (List.map strL (lins s)).length = (lins s).length ∧ (decide ((↑k : Int) + 1 < (↑(lins s).length : Int)) = true → List.map strL (lins s) = List.map strL (lins s) ∧ (↑k : Int) = (↑k : Int) ∧ k < (lins s).length ∧ ∀ (x10 : Bs), (lins s)[k]? = some x10 → List.length x10 + [(10 : UInt8)].length ≤ 9223372036854775807 ∧ (List.map strL (List.take k (fed s))).length = (List.take k (fed s)).length ∧ (0 : Nat) = 0 ∧ (List.take k (fed s)).length = (List.take k (fed s)).length ∧ (List.take k (fed s)).length + [AV.val (Value.string (ofL
 (x10 ++ [(10 : UInt8)])))].length = (List.take k (fed s)).length + 1 ∧ ((List.take k (fed s)).length + 1) * 16 ≤ (140737488355328 : Nat) ∧ (List.take k (fed s)).length + 1 ≤ (9223372036854775807 : Nat) ∧ InI64 ((↑k : Int) + 1) ∧ ∃ (j12 : Nat), ((List.map strL (lins s) = List.map strL (lins s) ∧ endB s = endB s ∧ ((List.take k (fed s)).length + 1 = (List.take j12 (fed s)).length ∧ (0 : Nat) = 0 ∧ (List.take k (fed s)).length + 1 = (List.take j12 (fed s)).length) ∧ (↑k : Int) + 1 = (↑j12 : Int) ∧ True) ∧ List.map strL (List.take k (fed s)) ++ [AV.val (Value.string (ofL (x10 ++ [(10 : UInt8)])))] = List.map strL (List.take j12 (fed s))) ∧ j12 ≤ (lins s).length ∧ (lins s).length - j12 < (lins s).length - k) ∧ (decide ((↑k : Int) + 1 < (↑(lins s).length : Int)) = false → List.map strL (lins s) = List.map strL (lins s) ∧ (↑k : Int) = (↑k : Int) ∧ k < (lins s).length ∧ ∀ (x14 : Bs), (lins s)[k]? = some x14 → (List.map strL (List.take k (fed s))).length = (List.take k (fed s)).length ∧ (0 : Nat) = 0 ∧ (List.take k (fed s)).length = (List.take k (fed s)).length ∧ (List.take k (fed s)).length + [AV.val (Value.string
 (ofL x14))].length = (List.take k (fed s)).length + 1 ∧ ((List.take k (fed s)).length + 1) * 16 ≤ (140737488355328 : Nat) ∧ (List.take k (fed s)).length + 1 ≤ (9223372036854775807 : Nat) ∧ InI64 ((↑k : Int) + 1) ∧ ∃ (j16 : Nat), ((List.map strL (lins s) = List.map strL (lins s) ∧ endB s = endB s ∧ ((List.take k (fed s)).length + 1 = (List.take j16 (fed s)).length ∧ (0 : Nat) = 0 ∧ (List.take k (fed s)).length + 1 = (List.take j16 (fed s)).length) ∧ (↑k : Int) + 1 = (↑j16 : Int) ∧ True) ∧ List.map strL (List.take k (fed s)) ++ [AV.val (Value.string (ofL x14))] = List.map strL (List.take j16 (fed s))) ∧ j16 ≤ (lins s).length ∧ (lins s).length - j16 < (lins s).length - k))) ∧ (decide ((↑k : Int) < (↑(lins s).length : Int)) = false → (List.map strL (List.take k (fed s))).length = (List.take k (fed s)).length ∧ List.take (List.take k (fed s)).length (List.drop (0 : Nat) (List.map strL (List.take k (fed s)))) = List.map strL (List.take k (fed s)) ∧ List.map strL (List.take k (fed s)) = List.map strL (fed s)))) ?_
 refine ⟨(ll), ⟨(0 : Nat), ⟨⟨rfl, rfl, ⟨rfl, rfl, rfl⟩, (by omega), trivial⟩, rfl⟩, (by omega)⟩, fun k => fun h2 => ⟨(by simp), fun h3_ => have h3 := dT h3_; ⟨fun h4 => ⟨rfl, rfl, rfl, (by omega), fun x5 => fun h6 => ⟨?_, (by simp), rfl, rfl, rfl, (by simp; omega), (by simp; omega), (by unfold InI64; omega), ⟨k + (1 : Nat), ⟨⟨rfl, rfl, ⟨?_, rfl, ?_⟩, (by omega), trivial⟩, ?_⟩, ⟨(by omega), (by omega)⟩⟩⟩⟩, fun h8 => ⟨(by unfold InI64; omega), (by simp), fun h9_ => have h9 := dT h9_; ⟨rfl, rfl, (by omega), fun x10 => fun h11 => ⟨?_, (by simp), rfl, rfl, rfl, (by simp; omega), (by simp; omega), (by unfold InI64; omega), ⟨k + (1 : Nat), ⟨⟨rfl, rfl, ⟨?_, rfl, ?_⟩, (by omega), trivial⟩, ?_⟩, ⟨(by omega), (by omega)⟩⟩⟩⟩, fun h13_ => have h13 := dF h13_; ⟨rfl, rfl, (by omega), fun x14 => fun h15 => ⟨(by simp), rfl, rfl, rfl, (by simp; omega), (by simp; omega), (by unfold InI64; omega), ⟨k + (1 : Nat), ⟨⟨rfl, rfl, ⟨?_, rfl, ?_⟩, (by omega), trivial⟩, ?_⟩, ⟨(by omega), (by omega)⟩⟩⟩⟩⟩⟩, fun h17_ => have h17 := dF h17_; ⟨(by simp), ?_, ?_⟩⟩⟩
 ·have := (lens_mem (List.mem_of_getElem? h6)); have := lins_lens s; simp only [List.length_singleton]; omega
 iterate 2 · exact fed_ln1 h3
 ·exact fed_st h6 (by simp [h4])
 ·have := (lens_mem (List.mem_of_getElem? h11)); have := lins_lens s; simp only [List.length_singleton]; omega
 iterate 2 · exact fed_ln1 h3
 ·exact fed_st h11 (by rw [if_pos (Or.inr (by omega))])
 iterate 2 · exact fed_ln1 h3
 ·exact fed_st h15 (by rw [h8, if_neg (fun q => q.elim (fun e => by cases e) (fun e => by omega))])
 ·rw [List.drop_zero, List.take_of_length_le (by simp)]
 ·exact congrArg (List.map strL) (List.take_of_length_le (by rw [hfl]; omega))
theorem pc_ln {s x : Bs} {k : Nat} (hs : s.length ≤ 100000000) (h : (fdK (lins s) (endB s) k)[k]? = some x) : x.length + [(10 : UInt8)].length ≤ 9223372036854775807 := by
 rw [fdK_at] at h
 have h1 := lens_mem (List.mem_of_getElem? h)
 have h2 := lins_lens s
 simp only [List.length_singleton]; omega
theorem pc_st {l : List Bs} {e : Bool} {k : Nat} {x : Bs} (h : (fdK l e k)[k]? = some x) (hc : k + 1 < l.length ∨ e = true) : ((fdK l e k).map strL).set k (AV.val (Value.string (ofL (x ++ [10])))) = (fdK l e (k + 1)).map strL := by
 rw [fdK_at] at h
 rw [← fdK_set h hc, List.map_set]; rfl
theorem pieces_run (hI : LibC X) (s : Bs) (hs : s.length ≤ 100000000) : (R FT X).f 61 [strL s] = some (.slice 1 ((fed s).map strL)) := by
 have hm := maxLen_le
 have ln := fun m => hI.ln s m (by omega)
 have hle := lins_len s
 have hz := fdK_0 (lins s) (endB s)
 have hkl := fun k => fdK_len (lins s) (endB s) k
 refine R_wp (Tr.cm (AV.tuple [AV.row 0 0 (lins s).length (0 : Nat) (lins s).length, boolA (endB s)]) [MObj.row 0 1 (List.map strL (lins s)) true (0 : Nat)] (Tr.k (lins s).length (Tr.inv (fun (k : Nat) ↦ St.mk [(3, AV.row 0 0 (lins s).length (0 : Nat) (lins s).length), (4, boolA (endB s)), (12, intA (↑(lins s).length : Int)), (13, intA (↑k : Int))] [MObj.row 0 1 (List.map strL (fdK (lins s) (endB s) k)) true (0 : Nat)]) (fun (k : Nat) ↦ k ≤ (lins s).length) (fun (k : Nat) ↦ (lins s).length - k) fun (k : Nat) ↦ (Tr.k (fdK (lins s) (endB s) k).length ((Tr.b true (Tr.k k (Tr.ix strL (fdK (lins s) (endB s) k) ((0 : Nat) + k) fun (x5 : Bs) ↦ (Tr.k k (Tr.ix strL (fdK (lins s) (endB s) k) ((0 : Nat) + k) fun (x7 : Bs) ↦ Tr.nil.w)).w))).w.br ((Tr.k k (Tr.ix strL (fdK (lins s) (endB s) k) ((0 : Nat) + k) fun (x12 : Bs) ↦ (Tr.k k (Tr.ix strL (fdK (lins s) (endB s) k) ((0 : Nat) + k) fun (x14 : Bs) ↦ Tr.nil.w)).w)).br Tr.nil.w).w).w).w.w.br (Tr.g (List.map strL (List.take (lins s).length (fdK (lins s) (endB s) k))) Tr.nil)).w)) rfl ?_
 refine Eq.mpr (by kernel_rfl : _ = ((R FT X).m 48 [strL s] [] = some (AV.tuple [AV.row (@List.nil MObj).length (0 : Nat) (lins s).length (0 : Nat) (lins s).length, boolA (endB s)], [] ++ [MObj.row 0 1 (List.map strL (lins s)) true (0 : Nat)]) ∧ (List.map strL (lins s)).length = (lins s).length ∧ (List.take (lins s).length (List.drop (0 : Nat) (List.map strL (lins s)))).length = (lins s).length ∧ (∃ (j1 : Nat), ((((lins s).length = (lins s).length ∧ (0 : Nat) = 0 ∧ (lins s).length = (lins s).length) ∧ endB s = endB s ∧ (↑(lins s).length : Int) = (↑(lins s).length : Int) ∧ (0 : Int) = (↑j1 : Int) ∧ True) ∧ List.map strL (lins s) = List.map strL (fdK (lins s) (endB s) j1)) ∧ j1 ≤ (lins s).length) ∧ ∀ (k : Nat), k ≤ (lins s).length → (decide ((↑k : Int) < (↑(lins s).length : Int)) = true → (List.map strL (fdK (lins s) (endB s) k)).length = (lins s).length ∧ (List.take (lins s).length (List.drop (0 : Nat) (List.map strL (fdK (lins s) (endB s) k)))).length = (fdK (lins s) (endB s) k).length ∧ InI64 ((↑(fdK (lins s) (endB s) k).length : Int) - 1) ∧ (decide ((↑k : Int) < (↑(fdK (lins s) (endB s) k).length : Int) - 1) = true → true = true ∧ (List.map strL (fdK (lins s) (endB s)
 k)).length = (lins s).length ∧ (↑k : Int) = (↑k : Int) ∧ k < (lins s).length ∧ List.map strL (fdK (lins s) (endB s) k) = List.map strL (fdK (lins s) (endB s) k) ∧ (List.map strL (fdK (lins s) (endB s) k)).length = (lins s).length ∧ (0 : Nat) + k = 0 + k ∧ (0 : Nat) + k < (fdK (lins s) (endB s) k).length ∧ ∀ (x5 : Bs), (fdK (lins s) (endB s) k)[(0 : Nat) + k]? = some x5 → List.length x5 + [(10 : UInt8)].length ≤ 9223372036854775807 ∧ (List.map strL (fdK (lins s) (endB s) k)).length = (lins s).length ∧ (↑k : Int) = (↑k : Int) ∧ k < (lins s).length ∧ List.map strL (fdK (lins s) (endB s) k) = List.map strL (fdK (lins s) (endB s) k) ∧ (List.map strL (fdK (lins s) (endB s) k)).length = (lins s).length ∧ (0 : Nat) + k = 0 + k ∧ (0 : Nat) + k < (fdK (lins s) (endB s) k).length ∧ ∀ (x7 : Bs), (fdK (lins s) (endB s) k)[(0 : Nat) + k]? = some x7 → InI64 ((↑k : Int) + 1) ∧ ∃ (j9 : Nat), ((((lins s).length = (lins s).length ∧ (0 : Nat) = 0 ∧ (lins s).length = (lins s).length) ∧ endB s = endB s ∧ (↑(lins s).length : Int) = (↑(lins s).length : Int) ∧ (↑k : Int) + 1 = (↑j9 : Int) ∧ True) ∧ (List.map strL (fdK (lins s) (endB s) k)).set ((0 : Nat) + k)
 (AV.val (Value.string (ofL (x5 ++ [(10 : UInt8)])))) = List.map strL (fdK (lins s) (endB s) j9)) ∧ j9 ≤ (lins s).length ∧ (lins s).length - j9 < (lins s).length - k) ∧ (decide ((↑k : Int) < (↑(fdK (lins s) (endB s) k).length : Int) - 1) = false → (endB s = true → (List.map strL (fdK (lins s) (endB s) k)).length = (lins s).length ∧ (↑k : Int) = (↑k : Int) ∧ k < (lins s).length ∧ List.map strL (fdK (lins s) (endB s) k) = List.map strL (fdK (lins s) (endB s) k) ∧ (List.map strL (fdK (lins s) (endB s) k)).length = (lins s).length ∧ (0 : Nat) + k = 0 + k ∧ (0 : Nat) + k < (fdK (lins s) (endB s) k).length ∧ ∀ (x12 : Bs), (fdK (lins s) (endB s) k)[(0 : Nat) + k]? = some x12 → List.length x12 + [(10 : UInt8)].length ≤ 9223372036854775807 ∧ (List.map strL (fdK (lins s) (endB s) k)).length = (lins s).length ∧ (↑k : Int) = (↑k : Int) ∧ k < (lins s).length ∧ List.map strL (fdK (lins s) (endB s) k) = List.map strL (fdK (lins s) (endB s) k) ∧ (List.map strL (fdK (lins s) (endB s) k)).length = (lins s).length ∧ (0 : Nat) + k = 0 + k ∧ (0 : Nat) + k < (fdK (lins s) (endB s) k).length ∧ ∀ (x14 : Bs), (fdK (lins s) (endB s) k)[(0 : Nat) + k]? = some x14 → InI64 ((↑k :
 Int) + 1) ∧ ∃ (j16 : Nat), ((((lins s).length = (lins s).length ∧ (0 : Nat) = 0 ∧ (lins s).length = (lins s).length) ∧ endB s = endB s ∧ (↑(lins s).length : Int) = (↑(lins s).length : Int) ∧ (↑k : Int) + 1 = (↑j16 : Int) ∧ True) ∧ (List.map strL (fdK (lins s) (endB s) k)).set ((0 : Nat) + k) (AV.val (Value.string (ofL (x12 ++ [(10 : UInt8)])))) = List.map strL (fdK (lins s) (endB s) j16)) ∧ j16 ≤ (lins s).length ∧ (lins s).length - j16 < (lins s).length - k) ∧ (endB s = false → InI64 ((↑k : Int) + 1) ∧ ∃ (j18 : Nat), ((((lins s).length = (lins s).length ∧ (0 : Nat) = 0 ∧ (lins s).length = (lins s).length) ∧ endB s = endB s ∧ (↑(lins s).length : Int) = (↑(lins s).length : Int) ∧ (↑k : Int) + 1 = (↑j18 : Int) ∧ True) ∧ List.map strL (fdK (lins s) (endB s) k) = List.map strL (fdK (lins s) (endB s) j18)) ∧ j18 ≤ (lins s).length ∧ (lins s).length - j18 < (lins s).length - k))) ∧ (decide ((↑k : Int) < (↑(lins s).length : Int)) = false → (List.map strL (fdK (lins s) (endB s) k)).length = (lins s).length ∧ List.take (lins s).length (List.drop (0 : Nat) (List.map strL (fdK (lins s) (endB s) k))) = List.map strL (List.take (lins s).length (fdK (lins
 s) (endB s) k)) ∧ List.map strL (List.take (lins s).length (fdK (lins s) (endB s) k)) = List.map strL (fed s)))) ?_
 refine ⟨(ln _), (by simp), (by simp), ⟨(0 : Nat), ⟨⟨⟨rfl, rfl, rfl⟩, rfl, rfl, (by omega), trivial⟩, ?_⟩, (by omega)⟩, fun k => fun h2 => ⟨fun h3_ => have h3 := dT h3_; ⟨?_, ?_, ?_, fun h4_ => have h4 := dT h4_; ⟨rfl, ?_, rfl, (by omega), rfl, ?_, rfl, (by omega), fun x5 => fun h6 => ⟨?_, ?_, rfl, (by omega), rfl, ?_, rfl, (by omega), fun x7 => fun h8 => ⟨(by unfold InI64; omega), ⟨k + (1 : Nat), ⟨⟨⟨rfl, rfl, rfl⟩, rfl, rfl, (by omega), trivial⟩, ?_⟩, ⟨(by omega), (by omega)⟩⟩⟩⟩⟩, fun h10_ => have h10 := dF h10_; ⟨fun h11 => ⟨?_, rfl, (by omega), rfl, ?_, rfl, ?_, fun x12 => fun h13 => ⟨?_, ?_, rfl, (by omega), rfl, ?_, rfl, ?_, fun x14 => fun h15 => ⟨(by unfold InI64; omega), ⟨k + (1 : Nat), ⟨⟨⟨rfl, rfl, rfl⟩, rfl, rfl, (by omega), trivial⟩, ?_⟩, ⟨(by omega), (by omega)⟩⟩⟩⟩⟩, fun h17 => ⟨(by unfold InI64; omega), ⟨k + (1 : Nat), ⟨⟨⟨rfl, rfl, rfl⟩, rfl, rfl, (by omega), trivial⟩, ?_⟩, ⟨(by omega), (by omega)⟩⟩⟩⟩⟩, fun h19_ => have h19 := dF h19_; ⟨?_, (by simp), ?_⟩⟩⟩
 ·rw [hz]
 all_goals have hk := hkl k
 all_goals try rw [Nat.zero_add] at *
 all_goals first
  | (rw [List.length_map]; exact hk)
  | (simp only [List.length_take, List.length_drop, List.length_map]; omega)
  | (unfold InI64; omega)
  | omega
  | exact pc_ln hs h6
  | exact pc_ln hs h13
  | exact pc_st h6 (Or.inl (by omega))
  | exact pc_st h13 (Or.inr h11)
  | exact congrArg (List.map strL) (fdK_no (fun q => q.elim (fun q => by omega) (fun q => by rw [h17] at q; cases q)) (by omega))
  | (rw [List.take_of_length_le (by omega), show k = (lins s).length by omega]; rfl)
theorem count_run (l : List DL) (hl : l.length ≤ maxLen) : (R FT X).f 33 [.slice 3 (l.map encDL)] = some (.tuple [intA (cA l), intA (cB l)]) := by
 have hm := maxLen_i64
 refine R_wp ((Tr.inv (fun (k : Nat) ↦ St.mk [(0, AV.slice 3 (List.map encDL l)), (4, intA (↑(cA (List.take k l)) : Int)), (5, intA (↑(cB (List.take k l)) : Int)), (6, intA (↑k : Int))] []) (fun (k : Nat) ↦ k ≤ l.length) (fun (k : Nat) ↦ l.length - k) fun (k : Nat) ↦ (Tr.k l.length ((Tr.ix encDL l k fun (x4 : DL) ↦ ((Tr.ix encDL l k fun (x7 : DL) ↦ (Tr.nil.w.w.br Tr.nil.w).w).w.w.br (Tr.ix encDL l k fun (x14 : DL) ↦ (Tr.nil.w.w.br Tr.nil.w).w).w).w).w.w.br Tr.nil)).w).w) rfl ?_
 refine Eq.mpr (by kernel_rfl : _ = ((∃ (j1 : Nat), ((List.map encDL l = List.map encDL l ∧ (0 : Int) = (↑(cA (List.take j1 l)) : Int) ∧ (0 : Int) = (↑(cB (List.take j1 l)) : Int) ∧ (0 : Int) = (↑j1 : Int) ∧ True) ∧ True) ∧ j1 ≤ l.length) ∧ ∀ (k : Nat), k ≤ l.length → (List.map encDL l).length = l.length ∧ (decide ((↑k : Int) < (↑l.length : Int)) = true → List.map encDL l = List.map encDL l ∧ (↑k : Int) = (↑k : Int) ∧ k < l.length ∧ ∀ (x4 : DL), l[k]? = some x4 → ((!decide (x4.op = 3)) = true → InI64 ((↑(cA (List.take k l)) : Int) + 1) ∧ List.map encDL l = List.map encDL l ∧ (↑k : Int) = (↑k : Int) ∧ k < l.length ∧ ∀ (x7 : DL), l[k]? = some x7 → ((!decide (x7.op = 2)) = true → InI64 ((↑(cB (List.take k l)) : Int) + 1) ∧ InI64 ((↑k : Int) + 1) ∧ ∃ (j10 : Nat), ((List.map encDL l = List.map encDL l ∧ (↑(cA (List.take k l)) : Int) + 1 = (↑(cA (List.take j10 l)) : Int) ∧ (↑(cB (List.take k l)) : Int) + 1 = (↑(cB (List.take j10 l)) : Int) ∧ (↑k : Int) + 1 = (↑j10 : Int) ∧ True) ∧ True) ∧ j10 ≤ l.length ∧ l.length - j10 < l.length - k) ∧ ((!decide (x7.op = 2)) = false → InI64 ((↑k : Int) + 1) ∧ ∃ (j12 : Nat), ((List.map encDL l = List.map encDL l
 ∧ (↑(cA (List.take k l)) : Int) + 1 = (↑(cA (List.take j12 l)) : Int) ∧ (↑(cB (List.take k l)) : Int) = (↑(cB (List.take j12 l)) : Int) ∧ (↑k : Int) + 1 = (↑j12 : Int) ∧ True) ∧ True) ∧ j12 ≤ l.length ∧ l.length - j12 < l.length - k)) ∧ ((!decide (x4.op = 3)) = false → List.map encDL l = List.map encDL l ∧ (↑k : Int) = (↑k : Int) ∧ k < l.length ∧ ∀ (x14 : DL), l[k]? = some x14 → ((!decide (x14.op = 2)) = true → InI64 ((↑(cB (List.take k l)) : Int) + 1) ∧ InI64 ((↑k : Int) + 1) ∧ ∃ (j17 : Nat), ((List.map encDL l = List.map encDL l ∧ (↑(cA (List.take k l)) : Int) = (↑(cA (List.take j17 l)) : Int) ∧ (↑(cB (List.take k l)) : Int) + 1 = (↑(cB (List.take j17 l)) : Int) ∧ (↑k : Int) + 1 = (↑j17 : Int) ∧ True) ∧ True) ∧ j17 ≤ l.length ∧ l.length - j17 < l.length - k) ∧ ((!decide (x14.op = 2)) = false → InI64 ((↑k : Int) + 1) ∧ ∃ (j19 : Nat), ((List.map encDL l = List.map encDL l ∧ (↑(cA (List.take k l)) : Int) = (↑(cA (List.take j19 l)) : Int) ∧ (↑(cB (List.take k l)) : Int) = (↑(cB (List.take j19 l)) : Int) ∧ (↑k : Int) + 1 = (↑j19 : Int) ∧ True) ∧ True) ∧ j19 ≤ l.length ∧ l.length - j19 < l.length - k)))
 ∧ (decide ((↑k : Int) < (↑l.length : Int)) = false → (↑(cA (List.take k l)) : Int) = (↑(cA l) : Int) ∧ (↑(cB (List.take k l)) : Int) = (↑(cB l) : Int)))) ?_
 refine ⟨⟨(0 : Nat), ⟨⟨rfl, rfl, rfl, (by omega), trivial⟩, trivial⟩, (by omega)⟩, fun k => fun h2 => ⟨(by simp), fun h3_ => have h3 := dT h3_; ⟨rfl, rfl, (by omega), fun x4 => fun h5 => ⟨fun h6_ => have h6 := dnT h6_; ⟨?_, rfl, rfl, (by omega), fun x7 => fun h8 => ⟨fun h9_ => have h9 := dnT h9_; ⟨?_, (by unfold InI64; omega), ⟨k + (1 : Nat), ⟨⟨rfl, ?_, ?_, (by omega), trivial⟩, trivial⟩, ⟨(by omega), (by omega)⟩⟩⟩, fun h11_ => have h11 := dnF h11_; ⟨(by unfold InI64; omega), ⟨k + (1 : Nat), ⟨⟨rfl, ?_, ?_, (by omega), trivial⟩, trivial⟩, ⟨(by omega), (by omega)⟩⟩⟩⟩⟩, fun h13_ => have h13 := dnF h13_; ⟨rfl, rfl, (by omega), fun x14 => fun h15 => ⟨fun h16_ => have h16 := dnT h16_; ⟨?_, (by unfold InI64; omega), ⟨k + (1 : Nat), ⟨⟨rfl, ?_, ?_, (by omega), trivial⟩, trivial⟩, ⟨(by omega), (by omega)⟩⟩⟩, fun h18_ => have h18 := dnF h18_; ⟨(by unfold InI64; omega), ⟨k + (1 : Nat), ⟨⟨rfl, ?_, ?_, (by omega), trivial⟩, trivial⟩, ⟨(by omega), (by omega)⟩⟩⟩⟩⟩⟩⟩, fun h20_ => have h20 := dF h20_; ⟨?_, ?_⟩⟩⟩
 all_goals have h1 := cA_le (l.take k)
 all_goals have h2' := cB_le (l.take k)
 all_goals rw [List.length_take] at h1 h2'
 iterate 2 · unfold InI64; omega
 ·rw [cA_take h5, if_neg h6]; rfl
 ·rw [cB_take h8, if_neg h9]; rfl
 ·rw [cA_take h5, if_neg h6]; rfl
 ·rw [cB_take h8, if_pos h11]; rfl
 ·unfold InI64; omega
 ·rw [cA_take h5, if_pos h13]; rfl
 ·rw [cB_take h15, if_neg h16]; rfl
 ·rw [cA_take h5, if_pos h13]; rfl
 ·rw [cB_take h15, if_pos h18]; rfl
 iterate 2 · rw [List.take_of_length_le (by omega)]
theorem from_run (b n : Nat) (hb : b ≤ 1000000000000) : (R FT X).f 64 [intA b, intA n] = some (intA (frm b n)) := by
 have hm := maxLen_i64
 refine R_wp ((Tr.nil.br Tr.nil.w).w.w) rfl ?_
 refine Eq.mpr (by kernel_rfl : _ = ((decide ((↑n : Int) = 0) = true → (↑b : Int) = frm b n) ∧ (decide ((↑n : Int) = 0) = false → InI64 ((↑b : Int) + 1) ∧ (↑b : Int) + 1 = frm b n))) ?_
 refine ⟨fun h1_ => have h1 := dT h1_; ?_, fun h2_ => have h2 := dF h2_; ⟨(by unfold InI64; omega), ?_⟩⟩
 ·rw [frm, if_pos (by omega)]
 ·rw [frm, if_neg (by omega)]
theorem line2_run (op : Int) (s : Bs) (hs : s.length ≤ maxLen) : (R FT X).f 66 [intA op, strL s] = some (encDL (mkDL op s)) := by
 have hm := maxLen_i64
 refine R_wp (((Tr.y ((↑(List.length s) : Int) - 1).toNat fun (c2 : UInt8) ↦ ((Tr.sl (0 : Nat) ((↑(List.length s) : Int) - 1).toNat Tr.nil).w.br Tr.nil).w).w.br (Tr.b false Tr.nil).w).w) rfl ?_
 refine Eq.mpr (by kernel_rfl : _ = ((decide ((0 : Int) < (↑(List.length s) : Int)) = true → InI64 ((↑(List.length s) : Int) - 1) ∧ (↑(List.length s) : Int) - 1 = (↑((↑(List.length s) : Int) - 1).toNat : Int) ∧ ((↑(List.length s) : Int) - 1).toNat < List.length s ∧ ∀ (c2 : UInt8), s[((↑(List.length s) : Int) - 1).toNat]? = some c2 → (decide ((↑c2.toNat : Int) = 10) = true → InI64 ((↑(List.length s) : Int) - 1) ∧ (0 : Int) = 0 ∧ (↑(List.length s) : Int) - 1 = (↑((↑(List.length s) : Int) - 1).toNat : Int) ∧ (0 : Nat) ≤ ((↑(List.length s) : Int) - 1).toNat ∧ ((↑(List.length s) : Int) - 1).toNat ≤ List.length s ∧ op = (mkDL op s).op ∧ List.drop (0 : Nat) (List.take ((↑(List.length s) : Int) - 1).toNat s) = (mkDL op s).tx ∧ false = (mkDL op s).ne) ∧ (decide ((↑c2.toNat : Int) = 10) = false → op = (mkDL op s).op ∧ s = (mkDL op s).tx ∧ true = (mkDL op s).ne)) ∧ (decide ((0 : Int) < (↑(List.length s) : Int)) = false → false = false ∧ op = (mkDL op s).op ∧ s = (mkDL op s).tx ∧ true = (mkDL op s).ne))) ?_
 refine ⟨fun h1_ => have h1 := dT h1_; ⟨(by unfold InI64; omega), (by omega), (by omega), fun c2 => fun h3 => ⟨fun h4_ => have h4 := dT h4_; ⟨(by unfold InI64; omega), rfl, (by omega), (by omega), (by omega), ?_, ?_, ?_⟩, fun h5_ => have h5 := dF h5_; ⟨?_, ?_, ?_⟩⟩⟩, fun h6_ => have h6 := dF h6_; ⟨rfl, ?_, ?_, ?_⟩⟩
 iterate 3
  ·have e := mkDL_y (op := op) h1 h3 (u8_of (n := 10) h4 (by decide))
   rw [e] <;> rfl
 iterate 3
  ·have e := mkDL_n (op := op) h1 h3 (fun q => h5 (by subst q; rfl))
   rw [e]
 iterate 3
  ·have e : s = [] := List.eq_nil_of_length_eq_zero (by omega)
   subst e; rfl
end
end Go.Proofs.YtfbpbkcplpkndaaGreatDoor
end
section
namespace Go.Proofs.YtfbpbkcplpkndaaGreatDoor
set_option linter.unusedVariables false
set_option linter.unusedSimpArgs false
set_option maxRecDepth 100000
structure LcsC (X : CallF) : Prop where
 scr : ∀ a b : List Bs, a.length ≤ 400 → b.length ≤ 400 → (R FT X).f 62 [.slice 1 (a.map strL), .slice 1 (b.map strL)] = some (.slice 4 ((script a b).map encEd))
 dst : ∀ a b : List Bs, a.length ≤ 500 → b.length ≤ 500 → (R FT X).f 26 [.slice 1 (a.map strL), .slice 1 (b.map strL)] = some (intA (dist a b : Nat))
structure Lc2C (X : CallF) : Prop where
 sc2 : ∀ a b : List Bs, a.length ≤ 60 → b.length ≤ 60 → (R FT X).f 65 [.slice 1 (a.map strL), .slice 1 (b.map strL)] = some (.slice 4 ((script a b).map encEd))
section
variable {X : CallF}
theorem near_run (l : List DL) (hl : l.length ≤ maxLen) (f t : Int) (hf : -1000000 ≤ f) (ht : t ≤ 1000000) : (R FT X).f 32 [.slice 3 (l.map encDL), intA f, intA t] = some (boolA (dcd (∃ c : Nat, chg l c ∧ f ≤ c ∧ (c : Int) ≤ t))) := by
 have hm := maxLen_le
 refine R_wp ((Tr.inv (fun (i : Int) ↦ St.mk [(0, AV.slice 3 (List.map encDL l)), (2, intA t), (7, intA i)] []) (fun (i : Int) ↦ f ≤ i ∧ (i ≤ t + 1 ∨ i = f) ∧ ∀ (c : Nat), chg l c → f ≤ (↑c : Int) → i ≤ (↑c : Int)) (fun (i : Int) ↦ (t + 1 - i).toNat) fun (i : Int) ↦ (((Tr.k l.length ((Tr.ix encDL l i.toNat fun (x9 : DL) ↦ (Tr.nil.br Tr.nil.w).w).br (Tr.b false Tr.nil.w).w)).br (Tr.b false (Tr.b false Tr.nil.w).w)).w.w.br Tr.nil).w).w) rfl ?_
 refine Eq.mpr (by kernel_rfl : _ = ((∃ (j1 : Int), ((List.map encDL l = List.map encDL l ∧ t = t ∧ f = j1 ∧ True) ∧ True) ∧ f ≤ j1 ∧ (j1 ≤ t + 1 ∨ j1 = f) ∧ ∀ (c2 : Nat), chg l c2 → f ≤ (↑c2 : Int) → j1 ≤ (↑c2 : Int)) ∧ ∀ (i : Int), (f ≤ i ∧ (i ≤ t + 1 ∨ i = f) ∧ ∀ (c : Nat), chg l c → f ≤ (↑c : Int) → i ≤ (↑c : Int)) → (decide (i ≤ t) = true → (decide ((0 : Int) ≤ i) = true → (List.map encDL l).length = l.length ∧ (decide (i < (↑l.length : Int)) = true → List.map encDL l = List.map encDL l ∧ i = (↑i.toNat : Int) ∧ i.toNat < l.length ∧ ∀ (x9 : DL), l[i.toNat]? = some x9 → ((!decide (x9.op = 1)) = true → true = dcd (∃ (c : Nat), chg l c ∧ f ≤ (↑c : Int) ∧ (↑c : Int) ≤ t)) ∧ ((!decide (x9.op = 1)) = false → InI64 (i + 1) ∧ ∃ (j13 : Int), ((List.map encDL l = List.map encDL l ∧ t = t ∧ i + 1 = j13 ∧ True) ∧ True) ∧ (f ≤ j13 ∧ (j13 ≤ t + 1 ∨ j13 = f) ∧ ∀ (c14 : Nat), chg l c14 → f ≤ (↑c14 : Int) → j13 ≤ (↑c14 : Int)) ∧ (t + 1 - j13).toNat < (t + 1 - i).toNat)) ∧ (decide (i < (↑l.length : Int)) = false → false = false ∧ InI64 (i + 1) ∧ ∃ (j18 : Int), ((List.map encDL l = List.map encDL l ∧ t = t ∧ i + 1 = j18 ∧ True) ∧ True) ∧ (f ≤ j18
 ∧ (j18 ≤ t + 1 ∨ j18 = f) ∧ ∀ (c19 : Nat), chg l c19 → f ≤ (↑c19 : Int) → j18 ≤ (↑c19 : Int)) ∧ (t + 1 - j18).toNat < (t + 1 - i).toNat)) ∧ (decide ((0 : Int) ≤ i) = false → false = false ∧ false = false ∧ InI64 (i + 1) ∧ ∃ (j23 : Int), ((List.map encDL l = List.map encDL l ∧ t = t ∧ i + 1 = j23 ∧ True) ∧ True) ∧ (f ≤ j23 ∧ (j23 ≤ t + 1 ∨ j23 = f) ∧ ∀ (c24 : Nat), chg l c24 → f ≤ (↑c24 : Int) → j23 ≤ (↑c24 : Int)) ∧ (t + 1 - j23).toNat < (t + 1 - i).toNat)) ∧ (decide (i ≤ t) = false → false = dcd (∃ (c : Nat), chg l c ∧ f ≤ (↑c : Int) ∧ (↑c : Int) ≤ t)))) ?_
 refine ⟨⟨f, ⟨⟨rfl, rfl, rfl, trivial⟩, trivial⟩, ⟨(by omega), (by omega), fun c2 => fun h3 => fun h4 => h4⟩⟩, fun i => fun h5 => have h5a := h5.1; have h5b := h5.2.1; have h5c := h5.2.2; ⟨fun h6_ => have h6 := dT h6_; ⟨fun h7_ => have h7 := dT h7_; ⟨(by simp), fun h8_ => have h8 := dT h8_; ⟨rfl, (by omega), (by omega), fun x9 => fun h10 => ⟨fun h11_ => have h11 := dnT h11_; ?_, fun h12_ => have h12 := dnF h12_; ⟨(by unfold InI64; omega), ⟨i + (1 : Int), ⟨⟨rfl, rfl, rfl, trivial⟩, trivial⟩, ⟨⟨(by omega), (by omega), fun c14 => fun h15 => fun h16 => ?_⟩, (by omega)⟩⟩⟩⟩⟩, fun h17_ => have h17 := dF h17_; ⟨rfl, (by unfold InI64; omega), ⟨i + (1 : Int), ⟨⟨rfl, rfl, rfl, trivial⟩, trivial⟩, ⟨⟨(by omega), (by omega), fun c19 => fun h20 => fun h21 => ?_⟩, (by omega)⟩⟩⟩⟩, fun h22_ => have h22 := dF h22_; ⟨rfl, rfl, (by unfold InI64; omega), ⟨i + (1 : Int), ⟨⟨rfl, rfl, rfl, trivial⟩, trivial⟩, ⟨⟨(by omega), (by omega), fun c24 => fun h25 => fun h26 => (by omega)⟩, (by omega)⟩⟩⟩⟩, fun h27_ => have h27 := dF h27_; ?_⟩⟩
 ·exact (dcd_t ⟨i.toNat, ⟨x9, h10, h11⟩, by omega, by omega⟩).symm
 ·have h1 := h5c _ h15 h16
  rcases Int.lt_or_eq_of_le h1 with q | q
  ·omega
  ·obtain ⟨x, h2, h3⟩ := h15.ex
   rw [show i.toNat = c14 by omega] at h10
   rw [h2] at h10; cases h10; exact absurd h12 h3
 ·have q := h5c _ h20 h21; have := chg_lt h20; omega
 ·refine (dcd_f fun ⟨c, h1, h2, h3⟩ => ?_).symm
  have := h5c c h1 h2
  omega
theorem all_run (hL : Lc2C X) (a b : List Bs) (ha : a.length ≤ 60) (hb : b.length ≤ 60) (hx : ∀ x ∈ a, x.length ≤ 1000000) (hy : ∀ x ∈ b, x.length ≤ 1000000) : (R FT X).f 31 [.slice 1 (a.map strL), .slice 1 (b.map strL)] = some (.slice 3 (((stp a b (stE (script a b)) 0 0).map dlS).map encDL)) := by
 have hm := maxLen_le
 have sc := hL.sc2 a b ha hb
 have lr := fun op (s : Bs) (hs : s.length ≤ 1000000) => line2_run (X := X) op s (by omega)
 refine R_wp (Tr.c (AV.slice 4 (List.map encEd (script a b))) (Tr.inv (fun (k : Nat) ↦ St.mk [(0, AV.slice 1 (List.map strL a)), (1, AV.slice 1 (List.map strL b)), (5, AV.row 0 0 (stE (List.take k (script a b))).length (0 : Nat) (stE (List.take k (script a b))).length), (6, AV.slice 4 (List.map encEd (script a b))), (7, intA (↑k : Int))] [MObj.row 0 3 (List.map encDL (List.map dlS (stp a b (stE (List.take k (script a b))) (0 : Nat) (0 : Nat)))) true (1 : Nat)]) (fun (k : Nat) ↦ k ≤ (script a b).length) (fun (k : Nat) ↦ (script a b).length - k) fun (k : Nat) ↦ (Tr.k (script a b).length ((Tr.inv (fun (n : Nat) ↦ St.mk [(0, AV.slice 1 (List.map strL a)), (1, AV.slice 1 (List.map strL b)), (5, AV.row 0 0 (pQ (script a b) k n).length (0 : Nat) (pQ (script a b) k n).length), (6, AV.slice 4 (List.map encEd (script a b))), (7, intA (↑k : Int)), (8, intA (↑n : Int))] [MObj.row 0 3 (List.map encDL (List.map dlS (stp a b (pQ (script a b) k n) (0 : Nat) (0 : Nat)))) true (1 : Nat)]) (fun (n : Nat) ↦ MidE
 a b k n (eK (script a b) k)) (fun (n : Nat) ↦ (eK (script a b) k).n.toNat - n) fun (n : Nat) ↦ (Tr.ix encEd (script a b) k fun (x6 : Ed) ↦ (Tr.ix encEd (script a b) k fun (x9 : Ed) ↦ ((Tr.ix encEd (script a b) k fun (x12 : Ed) ↦ Tr.ix encEd (script a b) k fun (x14 : Ed) ↦ (Tr.ix strL b (x14.b.toNat + n) fun (x16 : Bs) ↦ Tr.c (encDL (mkDL x12.op x16)) (Tr.k ((pQ (script a b) k n).length + 1) Tr.nil.w)).w).br (Tr.ix encEd (script a b) k fun (x20 : Ed) ↦ Tr.ix encEd (script a b) k fun (x22 : Ed) ↦ (Tr.ix strL a (x22.a.toNat + n) fun (x24 : Bs) ↦ Tr.c (encDL (mkDL x20.op x24)) (Tr.k ((pQ (script a b) k n).length + 1) Tr.nil.w)).w)).w).w.w.br Tr.nil.w).w).w.w.br (Tr.g (List.map encDL (List.take (stE (List.take k (script a b))).length (List.map dlS (stp a b (stE (List.take k (script a b))) (0 : Nat) (0 : Nat))))) Tr.nil))).w).w) rfl ?_
 refine Eq.mpr (by kernel_rfl : _ = ((R FT X).f 65 [AV.slice 1 (List.map strL a), AV.slice 1 (List.map strL b)] = some (AV.slice 4 (List.map encEd (script a b))) ∧ (∃ (j1 : Nat), ((List.map strL a = List.map strL a ∧ List.map strL b = List.map strL b ∧ ((0 : Nat) = (stE (List.take j1 (script a b))).length ∧ (0 : Nat) = 0 ∧ (0 : Nat) = (stE (List.take j1 (script a b))).length) ∧ List.map encEd (script a b) = List.map encEd (script a b) ∧ (0 : Int) = (↑j1 : Int) ∧ True) ∧ [] = List.map encDL (List.map dlS (stp a b (stE (List.take j1 (script a b))) (0 : Nat) (0 : Nat)))) ∧ j1 ≤ (script a b).length) ∧ ∀ (k : Nat), k ≤ (script a b).length → (List.map encEd (script a b)).length = (script a b).length ∧ (decide ((↑k : Int) < (↑(script a b).length : Int)) = true → (∃ (j4 : Nat), ((List.map strL a = List.map strL a ∧ List.map strL b = List.map strL b ∧ ((stE (List.take k (script a b))).length = (pQ (script a b) k j4).length ∧ (0 : Nat) = 0 ∧ (stE (List.take k (script a b))).length = (pQ (script a b) k j4).length) ∧ List.map encEd (script a b) = List.map encEd (script a b) ∧ (↑k : Int) = (↑k : Int) ∧ (0 : Int) = (↑j4 : Int) ∧ True) ∧ List.map encDL (List.map dlS (stp a b (stE (List.take
 k (script a b))) (0 : Nat) (0 : Nat))) = List.map encDL (List.map dlS (stp a b (pQ (script a b) k j4) (0 : Nat) (0 : Nat)))) ∧ MidE a b k j4 (eK (script a b) k)) ∧ ∀ (n : Nat), MidE a b k n (eK (script a b) k) → List.map encEd (script a b) = List.map encEd (script a b) ∧ (↑k : Int) = (↑k : Int) ∧ k < (script a b).length ∧ ∀ (x6 : Ed), (script a b)[k]? = some x6 → (decide ((↑n : Int) < x6.n) = true → List.map encEd (script a b) = List.map encEd (script a b) ∧ (↑k : Int) = (↑k : Int) ∧ k < (script a b).length ∧ ∀ (x9 : Ed), (script a b)[k]? = some x9 → (decide (x9.op = 3) = true → List.map encEd (script a b) = List.map encEd (script a b) ∧ (↑k : Int) = (↑k : Int) ∧ k < (script a b).length ∧ ∀ (x12 : Ed), (script a b)[k]? = some x12 → List.map encEd (script a b) = List.map encEd (script a b) ∧ (↑k : Int) = (↑k : Int) ∧ k < (script a b).length ∧ ∀ (x14 : Ed), (script a b)[k]? = some x14 → InI64 (x14.b + (↑n : Int)) ∧ List.map strL b = List.map strL b ∧ x14.b + (↑n : Int) = (↑(x14.b.toNat + n) : Int) ∧ x14.b.toNat + n < b.length ∧ ∀ (x16 : Bs), b[x14.b.toNat + n]? = some x16 → (R FT X).f 66 [intA x12.op, strL x16] = some (encDL (mkDL x12.op x16)) ∧ (List.map encDL (List.map
 dlS (stp a b (pQ (script a b) k n) (0 : Nat) (0 : Nat)))).length = (pQ (script a b) k n).length ∧ (0 : Nat) = 0 ∧ (pQ (script a b) k n).length = (pQ (script a b) k n).length ∧ (pQ (script a b) k n).length + [AV.agg [intA (mkDL x12.op x16).op, strL (mkDL x12.op x16).tx, boolA (mkDL x12.op x16).ne]].length = (pQ (script a b) k n).length + 1 ∧ ((pQ (script a b) k n).length + 1) * 32 ≤ (140737488355328 : Nat) ∧ (pQ (script a b) k n).length + 1 ≤ (9223372036854775807 : Nat) ∧ InI64 ((↑n : Int) + 1) ∧ ∃ (j18 : Nat), ((List.map strL a = List.map strL a ∧ List.map strL b = List.map strL b ∧ ((pQ (script a b) k n).length + 1 = (pQ (script a b) k j18).length ∧ (0 : Nat) = 0 ∧ (pQ (script a b) k n).length + 1 = (pQ (script a b) k j18).length) ∧ List.map encEd (script a b) = List.map encEd (script a b) ∧ (↑k : Int) = (↑k : Int) ∧ (↑n : Int) + 1 = (↑j18 : Int) ∧ True) ∧ List.map encDL (List.map dlS (stp a b (pQ (script a b) k n) (0 : Nat) (0 : Nat))) ++ [AV.agg [intA (mkDL x12.op x16).op, strL (mkDL x12.op x16).tx, boolA (mkDL x12.op x16).ne]] = List.map encDL (List.map dlS (stp a b (pQ (script a b) k j18) (0 : Nat)
 (0 : Nat)))) ∧ MidE a b k j18 (eK (script a b) k) ∧ (eK (script a b) k).n.toNat - j18 < (eK (script a b) k).n.toNat - n) ∧ (decide (x9.op = 3) = false → List.map encEd (script a b) = List.map encEd (script a b) ∧ (↑k : Int) = (↑k : Int) ∧ k < (script a b).length ∧ ∀ (x20 : Ed), (script a b)[k]? = some x20 → List.map encEd (script a b) = List.map encEd (script a b) ∧ (↑k : Int) = (↑k : Int) ∧ k < (script a b).length ∧ ∀ (x22 : Ed), (script a b)[k]? = some x22 → InI64 (x22.a + (↑n : Int)) ∧ List.map strL a = List.map strL a ∧ x22.a + (↑n : Int) = (↑(x22.a.toNat + n) : Int) ∧ x22.a.toNat + n < a.length ∧ ∀ (x24 : Bs), a[x22.a.toNat + n]? = some x24 → (R FT X).f 66 [intA x20.op, strL x24] = some (encDL (mkDL x20.op x24)) ∧ (List.map encDL (List.map dlS (stp a b (pQ (script a b) k n) (0 : Nat) (0 : Nat)))).length = (pQ (script a b) k n).length ∧ (0 : Nat) = 0 ∧ (pQ (script a b) k n).length = (pQ (script a b) k n).length ∧ (pQ (script a b) k n).length + [AV.agg [intA (mkDL x20.op x24).op, strL (mkDL x20.op x24).tx, boolA (mkDL x20.op x24).ne]].length = (pQ (script a b) k n).length + 1 ∧ ((pQ (script a b) k n).length + 1) * 32 ≤ (140737488355328
 : Nat) ∧ (pQ (script a b) k n).length + 1 ≤ (9223372036854775807 : Nat) ∧ InI64 ((↑n : Int) + 1) ∧ ∃ (j26 : Nat), ((List.map strL a = List.map strL a ∧ List.map strL b = List.map strL b ∧ ((pQ (script a b) k n).length + 1 = (pQ (script a b) k j26).length ∧ (0 : Nat) = 0 ∧ (pQ (script a b) k n).length + 1 = (pQ (script a b) k j26).length) ∧ List.map encEd (script a b) = List.map encEd (script a b) ∧ (↑k : Int) = (↑k : Int) ∧ (↑n : Int) + 1 = (↑j26 : Int) ∧ True) ∧ List.map encDL (List.map dlS (stp a b (pQ (script a b) k n) (0 : Nat) (0 : Nat))) ++ [AV.agg [intA (mkDL x20.op x24).op, strL (mkDL x20.op x24).tx, boolA (mkDL x20.op x24).ne]] = List.map encDL (List.map dlS (stp a b (pQ (script a b) k j26) (0 : Nat) (0 : Nat)))) ∧ MidE a b k j26 (eK (script a b) k) ∧ (eK (script a b) k).n.toNat - j26 < (eK (script a b) k).n.toNat - n)) ∧ (decide ((↑n : Int) < x6.n) = false → InI64 ((↑k : Int) + 1) ∧ ∃ (j28 : Nat), ((List.map strL a = List.map strL a ∧ List.map strL b = List.map strL b ∧ ((pQ (script a b) k n).length = (stE (List.take j28 (script a b))).length ∧ (0 : Nat) = 0 ∧ (pQ (script a b) k n).length = (stE (List.take j28
 (script a b))).length) ∧ List.map encEd (script a b) = List.map encEd (script a b) ∧ (↑k : Int) + 1 = (↑j28 : Int) ∧ True) ∧ List.map encDL (List.map dlS (stp a b (pQ (script a b) k n) (0 : Nat) (0 : Nat))) = List.map encDL (List.map dlS (stp a b (stE (List.take j28 (script a b))) (0 : Nat) (0 : Nat)))) ∧ j28 ≤ (script a b).length ∧ (script a b).length - j28 < (script a b).length - k)) ∧ (decide ((↑k : Int) < (↑(script a b).length : Int)) = false → (List.map encDL (List.map dlS (stp a b (stE (List.take k (script a b))) (0 : Nat) (0 : Nat)))).length = (stE (List.take k (script a b))).length ∧ List.take (stE (List.take k (script a b))).length (List.drop (0 : Nat) (List.map encDL (List.map dlS (stp a b (stE (List.take k (script a b))) (0 : Nat) (0 : Nat))))) = List.map encDL (List.take (stE (List.take k (script a b))).length (List.map dlS (stp a b (stE (List.take k (script a b))) (0 : Nat) (0 : Nat)))) ∧ List.map encDL (List.take (stE (List.take k (script a b))).length (List.map dlS (stp a b (stE (List.take k (script a b))) (0 : Nat) (0 : Nat)))) = List.map encDL (List.map dlS (stp a b (stE (script a b)) (0 : Nat) (0 : Nat)))))) ?_
 refine ⟨(sc), ⟨(0 : Nat), ⟨⟨rfl, rfl, ⟨rfl, rfl, rfl⟩, rfl, (by omega), trivial⟩, rfl⟩, (by omega)⟩, fun k => fun h2 => ⟨(by simp), fun h3_ => have h3 := dT h3_; ⟨⟨(0 : Nat), ⟨⟨rfl, rfl, ⟨?_, rfl, ?_⟩, rfl, rfl, (by omega), trivial⟩, ?_⟩, ?_⟩, fun n => fun h5 => ⟨rfl, rfl, (by omega), fun x6 => fun h7 => ⟨fun h8_ => have h8 := dT h8_; ⟨rfl, rfl, (by omega), fun x9 => fun h10 => ⟨fun h11_ => have h11 := dT h11_; ⟨rfl, rfl, (by omega), fun x12 => fun h13 => ⟨rfl, rfl, (by omega), fun x14 => fun h15 => ⟨?_, rfl, ?_, ?_, fun x16 => fun h17 => ⟨(lr _ _ ?_), ?_, rfl, rfl, rfl, ?_, ?_, ?_, ⟨n + (1 : Nat), ⟨⟨rfl, rfl, ⟨?_, rfl, ?_⟩, rfl, rfl, (by omega), trivial⟩, ?_⟩, ⟨?_, ?_⟩⟩⟩⟩⟩⟩, fun h19_ => have h19 := dF h19_; ⟨rfl, rfl, (by omega), fun x20 => fun h21 => ⟨rfl, rfl, (by omega), fun x22 => fun h23 => ⟨?_, rfl, ?_, ?_, fun x24 => fun h25 => ⟨(lr _ _ ?_), ?_, rfl, rfl, rfl, ?_, ?_, ?_, ⟨n + (1 : Nat), ⟨⟨rfl, rfl, ⟨?_, rfl, ?_⟩, rfl, rfl, (by omega), trivial⟩, ?_⟩, ⟨?_, ?_⟩⟩⟩⟩⟩⟩⟩⟩, fun h27_ => have h27 := dF h27_; ⟨?_, ⟨k + (1 : Nat), ⟨⟨rfl, rfl, ⟨?_, rfl, ?_⟩, rfl, (by omega), trivial⟩, ?_⟩, ⟨(by omega), (by omega)⟩⟩⟩⟩⟩⟩, fun h29_ => have h29 := dF h29_; ⟨?_, (by simp), ?_⟩⟩⟩
 all_goals have hsl := scr_len a b
 all_goals try rw [eK_of h7] at *
 all_goals try obtain rfl := same_at h7 h10
 all_goals try obtain rfl := same_at h10 h13
 all_goals try obtain rfl := same_at h10 h15
 all_goals try obtain rfl := same_at h10 h21
 all_goals try obtain rfl := same_at h10 h23
 all_goals first
  | (rw [pQ_0]; done)
  | (exact MidE.zero h3)
  | (have q1 := h5.rb h8 (by omega); have q2 := h5.a0; unfold InI64; omega)
  | (have q1 := h5.rb h8 (by omega); have q2 := h5.a0; omega)
  | (have q1 := h5.ra h8 h19; have q2 := h5.a0; unfold InI64; omega)
  | (have q1 := h5.ra h8 h19; have q2 := h5.a0; omega)
  | exact hy _ (List.mem_of_getElem? h17)
  | exact hx _ (List.mem_of_getElem? h25)
  | (rw [List.length_map, List.length_map, stp_len]; done)
  | (have := h5.ln; have := h5.nn; omega)
  | (have := h5.ln; have := h5.nn; unfold InI64; omega)
  | (rw [pQ_s, List.length_append]; rfl)
  | exact all_3 h5 h11 h17
  | exact all_n h5 h19 h25
  | exact h5.next h8
  | (unfold InI64; omega)
  | (rw [pQ_n h7 (by have := h5.nn; omega)]; done)
  | (rw [List.take_of_length_le (by rw [List.length_map, stp_len]; exact Nat.le_refl _), List.take_of_length_le (by omega)]; done)
theorem steps_run (hI : LibC X) (hL : LcsC X) (s t : Bs) (hs : s.length ≤ 100000000) (ht : t.length ≤ 100000000) (hx : (lins s).length ≤ 400) (hy : (lins t).length ≤ 400) : (R FT X).f 28 [strL s, strL t] = some (.slice 4 ((difS s t).map encStp)) := by
 have hm := maxLen_le
 have pr := fun (s : Bs) (hs : s.length ≤ 100000000) => pieces_run hI s hs
 have sc := hL.scr (fed s) (fed t) (by rw [fed_len]; exact hx) (by rw [fed_len]; exact hy)
 have hfs := fed_len s
 have hft := fed_len t
 have p1 := pr s hs
 have p2 := pr t ht
 have hD : difS s t = stp (fed s) (fed t) (stE (script (fed s) (fed t))) 0 0 := rfl
 clear pr
 generalize fed s = A at *
 generalize fed t = B at *
 have hsl := scr_len A B
 generalize hL : script A B = L at *
 refine R_wp (Tr.c (AV.slice 1 (List.map strL A)) (Tr.c (AV.slice 1 (List.map strL B)) (Tr.c (AV.slice 4 (List.map encEd L)) (Tr.k L.length (Tr.inv (fun (k : Nat) ↦ St.mk [(5, AV.slice 1 (List.map strL A)), (6, AV.slice 1 (List.map strL B)), (7, AV.row 0 0 (stE (List.take k L)).length (0 : Nat) (stE (List.take k L)).length), (8, intA (↑(pI (stE (List.take k L)) (0 : Nat)) : Int)), (9, intA (↑(pJ (stE (List.take k L)) (0 : Nat)) : Int)), (19, AV.slice 4 (List.map encEd L)), (20, intA (↑L.length : Int)), (21, intA (↑k : Int))] [MObj.row 0 4 (List.map encStp (stp A B (stE (List.take k L)) (0 : Nat) (0 : Nat))) true (1 : Nat)]) (fun (k : Nat) ↦ k ≤ L.length) (fun (k : Nat) ↦ L.length - k) fun (k : Nat) ↦ (Tr.ix encEd L k fun (x4 : Ed) ↦ (Tr.inv (fun (n : Nat) ↦ St.mk [(5, AV.slice 1 (List.map strL A)), (6, AV.slice 1 (List.map strL B)), (7, AV.row 0 0 (pQ L k n).length (0 : Nat) (pQ L k n).length), (8, intA (↑(pI (pQ L k n) (0 : Nat)) : Int)), (9, intA (↑(pJ (pQ L k n) (0 : Nat)) : Int)),
 (11, AV.ptr 1 0), (19, AV.slice 4 (List.map encEd L)), (20, intA (↑L.length : Int)), (21, intA (↑k : Int)), (26, intA (eK L k).n), (27, intA (↑n : Int))] [MObj.row 0 4 (List.map encStp (stp A B (pQ L k n) (0 : Nat) (0 : Nat))) true (1 : Nat), MObj.box 97 [intA (eK L k).op, intA (eK L k).a, intA (eK L k).b, intA (eK L k).n]]) (fun (n : Nat) ↦ MidE A B k n (eK L k)) (fun (n : Nat) ↦ (eK L k).n.toNat - n) fun (n : Nat) ↦ ((Tr.ix strL B (pJ (pQ L k n) (0 : Nat)) fun (x10 : Bs) ↦ (Tr.b false (Tr.b true (Tr.k ((pQ L k n).length + 1) Tr.nil.w).w).w.w).w.w).br (Tr.ix strL A (pI (pQ L k n) (0 : Nat)) fun (x14 : Bs) ↦ (Tr.b true ((Tr.k ((pQ L k n).length + 1) Tr.nil.w).w.br (Tr.k ((pQ L k n).length + 1) Tr.nil.w)).w.w.w).w.w)).w.w.w.br Tr.nil.w).w).w.br (Tr.g (List.map encStp (List.take (stE (List.take k L)).length (stp A B (stE (List.take k L)) (0 : Nat) (0 : Nat)))) Tr.nil)).w)))) rfl ?_
 refine Eq.mpr (by kernel_rfl : _ = ((R FT X).f 61 [strL s] = some (AV.slice 1 (List.map strL A)) ∧ (R FT X).f 61 [strL t] = some (AV.slice 1 (List.map strL B)) ∧ (R FT X).f 62 [AV.slice 1 (List.map strL A), AV.slice 1 (List.map strL B)] = some (AV.slice 4 (List.map encEd L)) ∧ (List.map encEd L).length = L.length ∧ (∃ (j1 : Nat), ((List.map strL A = List.map strL A ∧ List.map strL B = List.map strL B ∧ ((0 : Nat) = (stE (List.take j1 L)).length ∧ (0 : Nat) = 0 ∧ (0 : Nat) = (stE (List.take j1 L)).length) ∧ (0 : Int) = (↑(pI (stE (List.take j1 L)) (0 : Nat)) : Int) ∧ (0 : Int) = (↑(pJ (stE (List.take j1 L)) (0 : Nat)) : Int) ∧ List.map encEd L = List.map encEd L ∧ (↑L.length : Int) = (↑L.length : Int) ∧ (0 : Int) = (↑j1 : Int) ∧ True) ∧ [] = List.map encStp (stp A B (stE (List.take j1 L)) (0 : Nat) (0 : Nat))) ∧ j1 ≤ L.length) ∧ ∀ (k : Nat), k ≤ L.length → (decide ((↑k : Int) < (↑L.length : Int)) = true → List.map encEd L = List.map encEd L ∧ (↑k : Int) = (↑k : Int) ∧ k < L.length ∧ ∀ (x4 : Ed), L[k]? = some x4 → (∃ (j6 : Nat), ((List.map strL A = List.map strL A ∧ List.map strL B = List.map strL B ∧ ((stE (List.take k L)).length = (pQ L k
 j6).length ∧ (0 : Nat) = 0 ∧ (stE (List.take k L)).length = (pQ L k j6).length) ∧ (↑(pI (stE (List.take k L)) (0 : Nat)) : Int) = (↑(pI (pQ L k j6) (0 : Nat)) : Int) ∧ (↑(pJ (stE (List.take k L)) (0 : Nat)) : Int) = (↑(pJ (pQ L k j6) (0 : Nat)) : Int) ∧ True ∧ List.map encEd L = List.map encEd L ∧ (↑L.length : Int) = (↑L.length : Int) ∧ (↑k : Int) = (↑k : Int) ∧ x4.n = (eK L k).n ∧ (0 : Int) = (↑j6 : Int) ∧ True) ∧ List.map encStp (stp A B (stE (List.take k L)) (0 : Nat) (0 : Nat)) = List.map encStp (stp A B (pQ L k j6) (0 : Nat) (0 : Nat)) ∧ x4.op = (eK L k).op ∧ x4.a = (eK L k).a ∧ x4.b = (eK L k).b ∧ x4.n = (eK L k).n) ∧ MidE A B k j6 (eK L k)) ∧ ∀ (n : Nat), MidE A B k n (eK L k) → (decide ((↑n : Int) < (eK L k).n) = true → (decide ((eK L k).op = 3) = true → List.map strL B = List.map strL B ∧ (↑(pJ (pQ L k n) (0 : Nat)) : Int) = (↑(pJ (pQ L k n) (0 : Nat)) : Int) ∧ pJ (pQ L k n) (0 : Nat) < B.length ∧ ∀ (x10 : Bs), B[pJ (pQ L k n) (0 : Nat)]? = some x10 → (!decide ((eK L k).op = 3)) = false ∧ (!decide ((eK L k).op = 2)) = true ∧ InI64 ((↑(pJ (pQ L k n) (0 : Nat)) : Int) + 1) ∧ (List.map encStp (stp A B (pQ L k n) (0 : Nat) (0 : Nat))).length
 = (pQ L k n).length ∧ (0 : Nat) = 0 ∧ (pQ L k n).length = (pQ L k n).length ∧ (pQ L k n).length + [AV.agg [AV.val (Value.int IntKind.i64 (eK L k).op), AV.val (Value.int IntKind.i64 (↑(pI (pQ L k n) (0 : Nat)) : Int)), AV.val (Value.int IntKind.i64 (↑(pJ (pQ L k n) (0 : Nat)) : Int)), AV.val (Value.string (ofL x10))]].length = (pQ L k n).length + 1 ∧ ((pQ L k n).length + 1) * 40 ≤ (140737488355328 : Nat) ∧ (pQ L k n).length + 1 ≤ (9223372036854775807 : Nat) ∧ InI64 ((↑n : Int) + 1) ∧ ∃ (j12 : Nat), ((List.map strL A = List.map strL A ∧ List.map strL B = List.map strL B ∧ ((pQ L k n).length + 1 = (pQ L k j12).length ∧ (0 : Nat) = 0 ∧ (pQ L k n).length + 1 = (pQ L k j12).length) ∧ (↑(pI (pQ L k n) (0 : Nat)) : Int) = (↑(pI (pQ L k j12) (0 : Nat)) : Int) ∧ (↑(pJ (pQ L k n) (0 : Nat)) : Int) + 1 = (↑(pJ (pQ L k j12) (0 : Nat)) : Int) ∧ True ∧ List.map encEd L = List.map encEd L ∧ (↑L.length : Int) = (↑L.length : Int) ∧ (↑k : Int) = (↑k : Int) ∧ (eK L k).n = (eK L k).n ∧ (↑n : Int) + 1 = (↑j12 : Int) ∧ True) ∧ List.map encStp (stp A B (pQ L k n) (0 : Nat) (0 : Nat)) ++ [AV.agg [AV.val (Value.int IntKind.i64
 (eK L k).op), AV.val (Value.int IntKind.i64 (↑(pI (pQ L k n) (0 : Nat)) : Int)), AV.val (Value.int IntKind.i64 (↑(pJ (pQ L k n) (0 : Nat)) : Int)), AV.val (Value.string (ofL x10))]] = List.map encStp (stp A B (pQ L k j12) (0 : Nat) (0 : Nat)) ∧ (eK L k).op = (eK L k).op ∧ (eK L k).a = (eK L k).a ∧ (eK L k).b = (eK L k).b ∧ (eK L k).n = (eK L k).n) ∧ MidE A B k j12 (eK L k) ∧ (eK L k).n.toNat - j12 < (eK L k).n.toNat - n) ∧ (decide ((eK L k).op = 3) = false → List.map strL A = List.map strL A ∧ (↑(pI (pQ L k n) (0 : Nat)) : Int) = (↑(pI (pQ L k n) (0 : Nat)) : Int) ∧ pI (pQ L k n) (0 : Nat) < A.length ∧ ∀ (x14 : Bs), A[pI (pQ L k n) (0 : Nat)]? = some x14 → (!decide ((eK L k).op = 3)) = true ∧ InI64 ((↑(pI (pQ L k n) (0 : Nat)) : Int) + 1) ∧ ((!decide ((eK L k).op = 2)) = true → InI64 ((↑(pJ (pQ L k n) (0 : Nat)) : Int) + 1) ∧ (List.map encStp (stp A B (pQ L k n) (0 : Nat) (0 : Nat))).length = (pQ L k n).length ∧ (0 : Nat) = 0 ∧ (pQ L k n).length = (pQ L k n).length ∧ (pQ L k n).length + [AV.agg [AV.val (Value.int IntKind.i64 (eK L k).op), AV.val (Value.int IntKind.i64 (↑(pI (pQ L k n) (0 : Nat)) : Int)), AV.val (Value.int IntKind.i64 (↑(pJ
 (pQ L k n) (0 : Nat)) : Int)), AV.val (Value.string (ofL x14))]].length = (pQ L k n).length + 1 ∧ ((pQ L k n).length + 1) * 40 ≤ (140737488355328 : Nat) ∧ (pQ L k n).length + 1 ≤ (9223372036854775807 : Nat) ∧ InI64 ((↑n : Int) + 1) ∧ ∃ (j17 : Nat), ((List.map strL A = List.map strL A ∧ List.map strL B = List.map strL B ∧ ((pQ L k n).length + 1 = (pQ L k j17).length ∧ (0 : Nat) = 0 ∧ (pQ L k n).length + 1 = (pQ L k j17).length) ∧ (↑(pI (pQ L k n) (0 : Nat)) : Int) + 1 = (↑(pI (pQ L k j17) (0 : Nat)) : Int) ∧ (↑(pJ (pQ L k n) (0 : Nat)) : Int) + 1 = (↑(pJ (pQ L k j17) (0 : Nat)) : Int) ∧ True ∧ List.map encEd L = List.map encEd L ∧ (↑L.length : Int) = (↑L.length : Int) ∧ (↑k : Int) = (↑k : Int) ∧ (eK L k).n = (eK L k).n ∧ (↑n : Int) + 1 = (↑j17 : Int) ∧ True) ∧ List.map encStp (stp A B (pQ L k n) (0 : Nat) (0 : Nat)) ++ [AV.agg [AV.val (Value.int IntKind.i64 (eK L k).op), AV.val (Value.int IntKind.i64 (↑(pI (pQ L k n) (0 : Nat)) : Int)), AV.val (Value.int IntKind.i64 (↑(pJ (pQ L k n) (0 : Nat)) : Int)), AV.val (Value.string (ofL x14))]] = List.map encStp (stp A B (pQ L k j17) (0 : Nat) (0 : Nat)) ∧
 (eK L k).op = (eK L k).op ∧ (eK L k).a = (eK L k).a ∧ (eK L k).b = (eK L k).b ∧ (eK L k).n = (eK L k).n) ∧ MidE A B k j17 (eK L k) ∧ (eK L k).n.toNat - j17 < (eK L k).n.toNat - n) ∧ ((!decide ((eK L k).op = 2)) = false → (List.map encStp (stp A B (pQ L k n) (0 : Nat) (0 : Nat))).length = (pQ L k n).length ∧ (0 : Nat) = 0 ∧ (pQ L k n).length = (pQ L k n).length ∧ (pQ L k n).length + [AV.agg [AV.val (Value.int IntKind.i64 (eK L k).op), AV.val (Value.int IntKind.i64 (↑(pI (pQ L k n) (0 : Nat)) : Int)), AV.val (Value.int IntKind.i64 (↑(pJ (pQ L k n) (0 : Nat)) : Int)), AV.val (Value.string (ofL x14))]].length = (pQ L k n).length + 1 ∧ ((pQ L k n).length + 1) * 40 ≤ (140737488355328 : Nat) ∧ (pQ L k n).length + 1 ≤ (9223372036854775807 : Nat) ∧ InI64 ((↑n : Int) + 1) ∧ ∃ (j19 : Nat), ((List.map strL A = List.map strL A ∧ List.map strL B = List.map strL B ∧ ((pQ L k n).length + 1 = (pQ L k j19).length ∧ (0 : Nat) = 0 ∧ (pQ L k n).length + 1 = (pQ L k j19).length) ∧ (↑(pI (pQ L k n) (0 : Nat)) : Int) + 1 = (↑(pI (pQ L k j19) (0 : Nat)) : Int) ∧ (↑(pJ (pQ L k n) (0 : Nat)) : Int) = (↑(pJ (pQ L k j19) (0
 : Nat)) : Int) ∧ True ∧ List.map encEd L = List.map encEd L ∧ (↑L.length : Int) = (↑L.length : Int) ∧ (↑k : Int) = (↑k : Int) ∧ (eK L k).n = (eK L k).n ∧ (↑n : Int) + 1 = (↑j19 : Int) ∧ True) ∧ List.map encStp (stp A B (pQ L k n) (0 : Nat) (0 : Nat)) ++ [AV.agg [AV.val (Value.int IntKind.i64 (eK L k).op), AV.val (Value.int IntKind.i64 (↑(pI (pQ L k n) (0 : Nat)) : Int)), AV.val (Value.int IntKind.i64 (↑(pJ (pQ L k n) (0 : Nat)) : Int)), AV.val (Value.string (ofL x14))]] = List.map encStp (stp A B (pQ L k j19) (0 : Nat) (0 : Nat)) ∧ (eK L k).op = (eK L k).op ∧ (eK L k).a = (eK L k).a ∧ (eK L k).b = (eK L k).b ∧ (eK L k).n = (eK L k).n) ∧ MidE A B k j19 (eK L k) ∧ (eK L k).n.toNat - j19 < (eK L k).n.toNat - n))) ∧ (decide ((↑n : Int) < (eK L k).n) = false → InI64 ((↑k : Int) + 1) ∧ ∃ (j21 : Nat), ((List.map strL A = List.map strL A ∧ List.map strL B = List.map strL B ∧ ((pQ L k n).length = (stE (List.take j21 L)).length ∧ (0 : Nat) = 0 ∧ (pQ L k n).length = (stE (List.take j21 L)).length) ∧ (↑(pI (pQ L k n) (0 : Nat)) : Int) = (↑(pI (stE (List.take j21 L)) (0 : Nat)) : Int) ∧ (↑(pJ (pQ L k n) (0 : Nat)) : Int) = (↑(pJ (stE (List.take j21 L)) (0 : Nat)) : Int) ∧
 List.map encEd L = List.map encEd L ∧ (↑L.length : Int) = (↑L.length : Int) ∧ (↑k : Int) + 1 = (↑j21 : Int) ∧ True) ∧ List.map encStp (stp A B (pQ L k n) (0 : Nat) (0 : Nat)) = List.map encStp (stp A B (stE (List.take j21 L)) (0 : Nat) (0 : Nat))) ∧ j21 ≤ L.length ∧ L.length - j21 < L.length - k)) ∧ (decide ((↑k : Int) < (↑L.length : Int)) = false → (List.map encStp (stp A B (stE (List.take k L)) (0 : Nat) (0 : Nat))).length = (stE (List.take k L)).length ∧ List.take (stE (List.take k L)).length (List.drop (0 : Nat) (List.map encStp (stp A B (stE (List.take k L)) (0 : Nat) (0 : Nat)))) = List.map encStp (List.take (stE (List.take k L)).length (stp A B (stE (List.take k L)) (0 : Nat) (0 : Nat))) ∧ List.map encStp (List.take (stE (List.take k L)).length (stp A B (stE (List.take k L)) (0 : Nat) (0 : Nat))) = List.map encStp (difS s t)))) ?_
 refine ⟨p1, p2, sc, (by simp), ⟨(0 : Nat), ⟨⟨rfl, rfl, ⟨rfl, rfl, rfl⟩, rfl, rfl, rfl, rfl, (by omega), trivial⟩, rfl⟩, (by omega)⟩, fun k => fun h2 => ⟨fun h3_ => have h3 := dT h3_; ⟨rfl, rfl, (by omega), fun x4 => fun h5 => ⟨⟨(0 : Nat), ⟨⟨rfl, rfl, ⟨?_, rfl, ?_⟩, ?_, ?_, trivial, rfl, rfl, rfl, ?_, (by omega), trivial⟩, ?_, ?_, ?_, ?_, ?_⟩, ?_⟩, fun n => fun h7 => ⟨fun h8_ => have h8 := dT h8_; ⟨fun h9_ => have h9 := dT h9_; ⟨rfl, rfl, ?_, fun x10 => fun h11 => ⟨(fnD h9), (tnD (by omega)), ?_, ?_, rfl, rfl, rfl, ?_, ?_, ?_, ⟨n + (1 : Nat), ⟨⟨rfl, rfl, ⟨?_, rfl, ?_⟩, ?_, ?_, trivial, rfl, rfl, rfl, rfl, (by omega), trivial⟩, ?_, rfl, rfl, rfl, rfl⟩, ⟨?_, (by omega)⟩⟩⟩⟩, fun h13_ => have h13 := dF h13_; ⟨rfl, rfl, ?_, fun x14 => fun h15 => ⟨(tnD h13), ?_, fun h16_ => have h16 := dnT h16_; ⟨?_, ?_, rfl, rfl, rfl, ?_, ?_, ?_, ⟨n + (1 : Nat), ⟨⟨rfl, rfl, ⟨?_, rfl, ?_⟩, ?_, ?_, trivial, rfl, rfl, rfl, rfl, (by omega), trivial⟩, ?_, rfl, rfl, rfl, rfl⟩, ⟨?_, (by omega)⟩⟩⟩, fun h18_ => have h18 := dnF h18_; ⟨?_, rfl, rfl, rfl, ?_, ?_, ?_, ⟨n + (1 : Nat), ⟨⟨rfl, rfl, ⟨?_, rfl, ?_⟩, ?_, ?_, trivial, rfl, rfl, rfl, rfl, (by omega), trivial⟩, ?_, rfl, rfl, rfl, rfl⟩, ⟨?_, (by omega)⟩⟩⟩⟩⟩⟩, fun h20_ => have h20 := dF h20_; ⟨(by unfold InI64; omega), ⟨k + (1 : Nat), ⟨⟨rfl, rfl, ⟨?_, rfl, ?_⟩, ?_, ?_, rfl, rfl, (by omega), trivial⟩, ?_⟩, ⟨(by omega), (by omega)⟩⟩⟩⟩⟩⟩, fun h22_ => have h22 := dF h22_; ⟨?_, (by simp), ?_⟩⟩⟩
 all_goals subst hL
 all_goals first
  | (rw [pQ_0]; done)
  | (rw [eK_of h5]; done)
  | exact MidE.zero h3
  | exact mid_rb h7 h8 (by omega)
  | exact mid_ra h7 h8 h13
  | (have := h7.bd; unfold InI64; omega)
  | (rw [List.length_map, stp_len]; done)
  | (have := h7.ln; have := h7.nn; omega)
  | (have := h7.ln; have := h7.nn; unfold InI64; omega)
  | (rw [pQ_s, List.length_append]; rfl)
  | (rw [(mid_p h7).1, sI, if_pos h9]; done)
  | (rw [(mid_p h7).2, sJ, if_neg (by omega)]; rfl)
  | (rw [(mid_p h7).1, sI, if_neg h13]; rfl)
  | (rw [(mid_p h7).2, sJ, if_pos h18]; done)
  | exact stp_3 h7 h9 h11
  | exact stp_n h7 h13 h15
  | exact h7.next h8
  | (have := h7.nle; unfold InI64; omega)
  | (unfold InI64; omega)
  | (rw [pQ_n h7.he (by have := h7.nn; omega)]; done)
  | (rw [hD, List.take_of_length_le (by rw [stp_len]; exact Nat.le_refl _), List.take_of_length_le (by omega)]; done)
end
end Go.Proofs.YtfbpbkcplpkndaaGreatDoor
end
section
namespace Go.Proofs.YtfbpbkcplpkndaaGreatDoor
set_option linter.unusedVariables false
set_option linter.unusedSimpArgs false
set_option maxRecDepth 100000
open Go.RowKit
def strV (s : ByteArray) : AV := .val (.string s)
def unstr : List AV → Option (List ByteArray)
 | [] => some []
 | .val (.string s) :: r => (unstr r).map (s :: ·)
 | _ => none
theorem unstr_eq : ∀ {x : List AV} {a : List ByteArray}, unstr x = some a → x = a.map strV
 | [], a, h => by simp [unstr] at h; subst h; rfl
 | y :: r, a, h => by
  unfold unstr at h
  split at h
  ·rename_i e; cases e
  ·rename_i s r' e
   injection e with e1 e2
   subst e1 e2
   simp only [Option.map_eq_some_iff] at h
   obtain ⟨a', h', rfl⟩ := h
   rw [unstr_eq h']; rfl
  ·cases h
theorem unstr_strs : ∀ a : List ByteArray, unstr (a.map strV) = some a
 | [] => rfl
 | s :: r => by simp [strV, unstr]; exact unstr_strs r
def eds (l : List Ed) : AV := .slice 4 (l.map encEd)
def sAt (a : List ByteArray) (i : Nat) : ByteArray := a.getD i ⟨#[]⟩
theorem listOf_sAt (a : List ByteArray) : listOf (sAt a) a.length = a := by
 apply List.ext_getElem?
 intro i
 by_cases h : i < a.length
 ·rw [listOf_get _ h]; simp [sAt, h]
 ·rw [List.getElem?_eq_none (by rw [listOf_length]; omega), List.getElem?_eq_none (by omega)]
theorem rep_strs {X : Nat → Nat → Prop} {w : World} {v : Value} {a : List ByteArray} (h : Rep (Stab X [] w) w [] v (.slice 1 (a.map strV))) :
    ∃ A c, v = .slice A a.length c ∧ Sl w A a.length (fun i => .string (sAt a i)) ∧ a.length ≤ c ∧ (A = none → a.length = 0 ∧ c = 0) := by
  generalize hx : a.map strV = x at h
  have hlen : x.length = a.length := by rw [← hx]; simp
  cases h with
  | slice b off sz u hc hz hA hsz hcell hrep =>
    rename_i A c
    refine ⟨A, c, by rw [hlen], fun hn => ?_, by omega, fun hA0 => ⟨by have := hz hA0; omega, hz hA0⟩⟩
    refine ⟨b, off, hA (by omega), ?_, fun i hi => ?_⟩
    · have h0 : x[0]? = some (strV (sAt a 0)) := by rw [← hx]; simp [sAt, hn]
      exact (hcell 0 _ 0 (strV (sAt a 0)) h0 rfl).2.1
    · have h0 : x[i]? = some (strV (sAt a i)) := by rw [← hx]; simp [sAt, hi]
      have h1 := (hcell i _ 0 (strV (sAt a i)) h0 rfl).1
      have h2 := rep_val (hrep i _ 0 (strV (sAt a i)) h0 rfl)
      rw [h2] at h1
      simpa using h1
def dstX : List AV → Option AV
 | [.slice 1 x, .slice 1 y] => (match unstr x, unstr y with
  | some a, some b => if a.length ≤ 500 ∧ b.length ≤ 500 then some (.val (.int .i64 (dist a b : Nat))) else none
  | _, _ => none)
 | _ => none
def scrX : List AV → Option AV
 | [.slice 1 x, .slice 1 y] => (match unstr x, unstr y with
  | some a, some b => if a.length ≤ 400 ∧ b.length ≤ 400 then some (eds (script a b)) else none
  | _, _ => none)
 | _ => none
def idxX : List AV → Option AV
 | [.val (.string s), .val (.int .u8 c)] => some (intA (Lib.indexByte s.data.toList c.toNat.toUInt8))
 | _ => none
def hpX : List AV → Option AV
 | [.val (.string s), .val (.string p)] => some (boolA (Lib.hasPrefix (toL s) (toL p)))
 | _ => none
def cpX : List AV → Option AV
 | [.val (.string s), .val (.string p)] => some (.tuple [strL (Lib.trimPrefix (toL s) (toL p)), boolA (Lib.hasPrefix (toL s) (toL p))])
 | _ => none
def csX : List AV → Option AV
 | [.val (.string s), .val (.string p)] => if s.size ≤ 9223372036854775807 then some (.tuple [strL (Lib.trimSuffix (toL s) (toL p)), boolA (Lib.hasSuffix (toL s) (toL p))]) else none
 | _ => none
def ctX : List AV → Option AV
 | [.val (.string s), .val (.string p)] => if s.size < 4294967281 then some (.tuple [strL (Lib.cut (toL s) (toL p)).1, strL (Lib.cut (toL s) (toL p)).2.1, boolA (Lib.cut (toL s) (toL p)).2.2]) else none
 | _ => none
def coX : List AV → Option AV
 | [.val (.string s), .val (.string p)] => (match toL p with
  | [c] => some (boolA (decide (0 ≤ Lib.indexByte (toL s) c)))
  | _ => none)
 | _ => none
def ccX : List AV → List MObj → Option (AV × List MObj)
 | [.ptr id 0], m => if ccOk id m = true then some (.tuple [], m) else none
 | _, _ => none
def bsX : List AV → List MObj → Option (AV × List MObj)
 | [.ptr id 0], m => bsM id m
 | _, _ => none
theorem fr_drew (w : World) (n : Nat) : Fr (fun _ => False) w (w.drewN n) := ⟨rfl, rfl, rfl, Nat.le_refl _, fun _ _ _ => rfl⟩
theorem gr_max {S : Nat → Nat → Prop} {w : World} {H : List Hd} (h : GR S w H) : ∃ k : Int, w.cell? ⟨0, 0, none⟩ = some (.int .i64 k) := by
 obtain ⟨m, h1, -⟩ := h.i 0 (by decide)
 exact ⟨m, h1⟩
theorem rep_t2 {S : Nat → Nat → Prop} {w : World} {H : List Hd} (a b : Value) : Rep S w H (.tuple #[a, b]) (.tuple [.val a, .val b]) := .tuple rfl fun i y hy => by
 match i, hy with
 | 0, hy => simp at hy; subst hy; exact .val _ _
 | 1, hy => simp at hy; subst hy; exact .val _ _
theorem rep_t3 {S : Nat → Nat → Prop} {w : World} {H : List Hd} (a b c : Value) : Rep S w H (.tuple #[a, b, c]) (.tuple [.val a, .val b, .val c]) := .tuple rfl fun i y hy => by
 match i, hy with
 | 0, hy => simp at hy; subst hy; exact .val _ _
 | 1, hy => simp at hy; subst hy; exact .val _ _
 | 2, hy => simp at hy; subst hy; exact .val _ _
theorem idxX_ok {vs : List AV} {r : AV} (h : idxX vs = some r) : CallOk Tryz.prog 69 vs r := by
 unfold idxX at h
 split at h
 ·rename_i s c
  injection h with h; subst h
  intro X w cs hX hG hr
  obtain ⟨u, v, rfl, h1, h2⟩ := args2 hr
  obtain rfl := rep_val h1
  obtain rfl := rep_val h2
  exact (Tryz.strings_IndexByte s c w).mono fun e w' ⟨q1, q2⟩ => by subst q1 q2; exact ⟨_, rfl, .val _ _, Fr.refl _ _⟩
 ·cases h
theorem hpX_ok {vs : List AV} {r : AV} (h : hpX vs = some r) : CallOk Tryz.prog 80 vs r := by
 unfold hpX at h
 split at h
 ·rename_i s p
  injection h with h; subst h
  intro X w cs hX hG hr
  obtain ⟨u, v, rfl, h1, h2⟩ := args2 hr
  obtain rfl := rep_val h1
  obtain rfl := rep_val h2
  exact (Tryz.strings_HasPrefix s p w).mono fun e w' ⟨q1, q2⟩ => by subst q1 q2; exact ⟨_, rfl, .val _ _, Fr.refl _ _⟩
 ·cases h
theorem cpX_ok {vs : List AV} {r : AV} (h : cpX vs = some r) : CallOk Tryz.prog 97 vs r := by
 unfold cpX at h
 split at h
 ·rename_i s p
  injection h with h; subst h
  intro X w cs hX hG hr
  obtain ⟨u, v, rfl, h1, h2⟩ := args2 hr
  obtain rfl := rep_val h1
  obtain rfl := rep_val h2
  exact (Tryz.strings_CutPrefix s p w).mono fun e w' ⟨q1, q2⟩ => by subst q1 q2; exact ⟨_, rfl, rep_t2 _ _, Fr.refl _ _⟩
 ·cases h
theorem csX_ok {vs : List AV} {r : AV} (h : csX vs = some r) : CallOk Tryz.prog 63 vs r := by
 unfold csX at h
 split at h
 ·rename_i s p
  split at h
  ·rename_i hle
   injection h with h; subst h
   intro X w cs hX hG hr
   obtain ⟨u, v, rfl, h1, h2⟩ := args2 hr
   obtain rfl := rep_val h1
   obtain rfl := rep_val h2
   exact (Tryz.strings_CutSuffix s p w hle).mono fun e w' ⟨q1, q2⟩ => by subst q1 q2; exact ⟨_, rfl, rep_t2 _ _, Fr.refl _ _⟩
  ·cases h
 ·cases h
theorem ctX_ok {vs : List AV} {r : AV} (h : ctX vs = some r) : CallOk Tryz.prog 100 vs r := by
 unfold ctX at h
 split at h
 ·rename_i s p
  split at h
  ·rename_i hle
   injection h with h; subst h
   intro X w cs hX hG hr
   obtain ⟨u, v, rfl, h1, h2⟩ := args2 hr
   obtain rfl := rep_val h1
   obtain rfl := rep_val h2
   obtain ⟨m, hm⟩ := gr_max hG
   exact (Tryz.strings_Cut s p m w hle hm).mono fun e w' ⟨q1, n, q2⟩ => by subst q1 q2; exact ⟨_, rfl, rep_t3 _ _ _, fr_drew _ _⟩
  ·cases h
 ·cases h
theorem coX_ok {vs : List AV} {r : AV} (h : coX vs = some r) : CallOk Tryz.prog 67 vs r := by
 unfold coX at h
 split at h
 ·rename_i s t
  split at h
  ·rename_i c hc
   injection h with h; subst h
   intro X w cs hX hG hr
   obtain ⟨u, v, rfl, h1, h2⟩ := args2 hr
   obtain rfl := rep_val h1
   obtain rfl := rep_val h2
   have ht : t = ⟨#[c]⟩ := by rw [← ofL_toL t, hc]; rfl
   subst ht
   exact (Tryz.strings_Contains_one s c w).mono fun e w' ⟨q1, q2⟩ => by subst q1 q2; exact ⟨_, rfl, .val _ _, Fr.refl _ _⟩
  ·cases h
 ·cases h
theorem ccX_ok {vs : List AV} {m m' : List MObj} {r : AV} (h : ccX vs m = some (r, m')) : CallOkM Tryz.prog 68 vs m r m' := by
 unfold ccX at h
 split at h
 ·split at h
  ·rename_i hc
   simp only [Option.some.injEq, Prod.mk.injEq] at h
   obtain ⟨rfl, rfl⟩ := h
   exact cc_ok hc
  ·cases h
 ·cases h
theorem bsX_ok {vs : List AV} {m m' : List MObj} {r : AV} (h : bsX vs m = some (r, m')) : CallOkM Tryz.prog 40 vs m r m' := by
 unfold bsX at h
 split at h
 ·exact bs_ok h
 ·cases h
theorem dstX_ok {vs : List AV} {r : AV} (h : dstX vs = some r) : CallOk Tryz.prog 26 vs r := by
 unfold dstX at h
 split at h
 ·split at h
  ·rename_i a b ha hb
   obtain rfl := unstr_eq ha
   obtain rfl := unstr_eq hb
   split at h
   ·rename_i hle
    injection h with h; subst h
    intro X w us hX hG hr
    obtain ⟨u, v, rfl, h1, h2⟩ := args2 hr
    obtain ⟨A, c, rfl, g1, _⟩ := rep_strs h1
    obtain ⟨B, d, rfl, g2, _⟩ := rep_strs h2
    refine (Distance_any hle.1 hle.2 g1 g2).mono fun e w' ⟨q1, q2⟩ => ⟨_, q1, ?_, q2⟩
    rw [listOf_sAt, listOf_sAt]; exact .val _ _
   ·cases h
  ·cases h
 ·cases h
theorem scrX_ok {vs : List AV} {r : AV} (h : scrX vs = some r) : CallOk Tryz.prog 62 vs r := by
 unfold scrX at h
 split at h
 ·split at h
  ·rename_i a b ha hb
   obtain rfl := unstr_eq ha
   obtain rfl := unstr_eq hb
   split at h
   ·rename_i hle
    injection h with h; subst h
    intro X w us hX hG hr
    obtain ⟨u, v, rfl, h1, h2⟩ := args2 hr
    obtain ⟨A, c, rfl, g1, _⟩ := rep_strs h1
    obtain ⟨B, d, rfl, g2, _⟩ := rep_strs h2
    refine (Script_any hle.1 hle.2 g1 g2).mono fun e w' hp => ?_
    rw [listOf_sAt, listOf_sAt] at hp
    obtain ⟨C, k, q1, q2, q3⟩ := hp
    refine ⟨_, q1, ?_, q3⟩
    unfold eds
    have hlen : ((script a b).map encEd).length = (script a b).length := by simp
    by_cases h0 : 0 < (script a b).length
    ·obtain ⟨g, cur, rfl, hb, hh, hc, hsz, hget⟩ := q2.form h0
     have key : ∀ (i : Nat) (x : AV), ((script a b).map encEd)[i]? = some x → ∃ e, (script a b)[i]? = some e ∧ x = encEd e := fun i x hx => by
      simp only [List.getElem?_map, Option.map_eq_some_iff] at hx
      obtain ⟨e, he, rfl⟩ := hx
      exact ⟨e, he, rfl⟩
     have := Rep.slice (S := Stab X [] w') (w := w') (H := []) (A := some ⟨g, 0, none⟩) (c := k) (l := (script a b).map encEd) g 0 4 (fun i j => cur.getD (i * 4 + j) undef) (by omega) (fun q => by cases q) (fun _ => rfl)
      (fun i x hx => by obtain ⟨e, _, rfl⟩ := key i x hx; exact ⟨rfl, rfl⟩)
      (fun i x j y hx hy => by
       obtain ⟨e, he, rfl⟩ := key i x hx
       have hil := (List.getElem?_eq_some_iff.1 he).1
       have hj : j < 4 := (List.getElem?_eq_some_iff.1 hy).1
       refine ⟨by rw [Nat.zero_add]; exact cell_getD hh (by omega), lt_of_heap hh, fun hx => ?_, by rintro ⟨i, k, hk, _⟩; simp at hk⟩
       have := hX _ _ hx; omega)
      (fun i x j y hx hy => by
       obtain ⟨e, he, rfl⟩ := key i x hx
       have hil := (List.getElem?_eq_some_iff.1 he).1
       have hj : j < 4 := (List.getElem?_eq_some_iff.1 hy).1
       have hg := hget i hil j hj
       have he' : (script a b)[i] = e := by rw [List.getElem?_eq_getElem hil] at he; injection he
       rw [he'] at hg
       rw [Array.getD_eq_getD_getElem?, hg]
       match j, hj with
       | 0, _ => simp [encEd, AV.cells] at hy; subst hy; exact .val _ _
       | 1, _ => simp [encEd, AV.cells] at hy; subst hy; exact .val _ _
       | 2, _ => simp [encEd, AV.cells] at hy; subst hy; exact .val _ _
       | 3, _ => simp [encEd, AV.cells] at hy; subst hy; exact .val _ _)
     rw [hlen] at this
     exact this
    ·have hnil : script a b = [] := List.eq_nil_of_length_eq_zero (by omega)
     rw [hnil] at q2 ⊢
     rcases q2.2 with ⟨hv, _⟩ | ⟨g, cap, cur, hv, _, _, hle2, _⟩
     ·injection hv with e1 e2 e3
      subst e1 e3
      exact .slice (l := []) 0 0 4 (fun _ _ => undef) (Nat.le_refl _) (fun _ => rfl) (fun q => by simp at q) (fun i x hx => by simp at hx) (fun i x j y hx => by simp at hx) (fun i x j y hx => by simp at hx)
     ·injection hv with e1 e2 e3
      subst e1 e3
      exact .slice (l := []) 0 0 4 (fun _ _ => undef) (Nat.zero_le _) (fun q => by cases q) (fun q => by simp at q) (fun i x hx => by simp at hx) (fun i x j y hx => by simp at hx) (fun i x j y hx => by simp at hx)
   ·cases h
  ·cases h
 ·cases h
def XS : CallF := ⟨fun f vs => if f = 95 then itoaX vs else if f = 132 then atoiX vs else if f = 69 then idxX vs else if f = 80 then hpX vs else if f = 97 then cpX vs else if f = 63 then csX vs else if f = 100 then ctX vs else if f = 67 then coX vs else if f = 26 then dstX vs else if f = 62 then scrX vs else none,
 fun f vs m => if f = 68 then ccX vs m else if f = 40 then bsX vs m else if f = 48 then linesX vs m else none⟩
theorem XS_ok : CallsOk Tryz.prog XS := by
 refine ⟨fun f vs r h => ?_, fun f vs m r m' h => ?_⟩
 ·simp only [XS] at h
  split at h
  ·rename_i hf; subst hf; exact itoaX_ok h
  split at h
  ·rename_i hf; subst hf; exact atoiX_ok h
  split at h
  ·rename_i hf; subst hf; exact idxX_ok h
  split at h
  ·rename_i hf; subst hf; exact hpX_ok h
  split at h
  ·rename_i hf; subst hf; exact cpX_ok h
  split at h
  ·rename_i hf; subst hf; exact csX_ok h
  split at h
  ·rename_i hf; subst hf; exact ctX_ok h
  split at h
  ·rename_i hf; subst hf; exact coX_ok h
  split at h
  ·rename_i hf; subst hf; exact dstX_ok h
  split at h
  ·rename_i hf; subst hf; exact scrX_ok h
  cases h
 ·simp only [XS] at h
  split at h
  ·rename_i hf; subst hf; exact ccX_ok h
  split at h
  ·rename_i hf; subst hf; exact bsX_ok h
  split at h
  ·rename_i hf; subst hf; exact linesX_ok h fun S w H hG => gr_max hG
  cases h
theorem XS_lib : LibC XS where
 ib s c := R_ext rfl (by
  show idxX [strL s, u8A c] = _
  have e : (ofL s).data.toList = s := rfl
  simp only [idxX, strL, u8A, e]
  simp)
 hp s p := R_ext rfl rfl
 cp s p := R_ext rfl rfl
 cs s p hs := R_ext rfl (by
  show csX [strL s, strL p] = _
  simp only [csX, strL]
  rw [if_pos (Nat.le_trans (show (ofL s).size ≤ maxLen from hs) (by decide +kernel))]
  rfl)
 ct s p hs := R_ext rfl (by
  show ctX [strL s, strL p] = _
  simp only [ctX, strL]
  rw [if_pos (Nat.lt_of_le_of_lt (show (ofL s).size ≤ 4000000000 from hs) (by decide))]
  rfl)
 co s c := R_ext rfl rfl
 ln s m hs := RM_ext rfl (by
  show linesX [strL s] m = _
  simp only [linesX, strL]
  rw [if_pos (show (ofL s).size ≤ 4000000000 from hs)]
  rfl)
section
variable {α β : Type} [DecidableEq α] [DecidableEq β]
theorem dd_map (f : α → β) (hf : ∀ x y, f x = f y → x = y) (a b : List α) (i j : Nat) : dd (a.map f) (b.map f) i j = dd a b i j := by
 unfold dd
 rw [← List.map_drop, ← List.map_drop]
 exact dist_map f _ _ fun x _ y _ => hf x y
theorem script_map (f : α → β) (hf : ∀ x y, f x = f y → x = y) (a b : List α) : script (a.map f) (b.map f) = script a b := by
 have ho : ∀ i j, opAt (a.map f) (b.map f) i j = opAt a b i j := fun i j => by
  unfold opAt
  simp only [dd_map f hf, List.length_map]
 have : ∀ (n i j : Nat) (out : List Ed), scrF (a.map f) (b.map f) n i j out = scrF a b n i j out := by
  intro n
  induction n with
  | zero => intro i j out; rfl
  | succ n ih => intro i j out; simp only [scrF, List.length_map, ho, ih]
 unfold script
 rw [List.length_map, List.length_map, this]
end
theorem strL_mapV (a : List Bs) : a.map strL = (a.map ofL).map strV := by rw [List.map_map]; rfl
theorem XS_lcs : LcsC XS where
 dst a b ha hb := R_ext rfl (by
  show dstX [.slice 1 (a.map strL), .slice 1 (b.map strL)] = _
  simp only [dstX, strL_mapV, unstr_strs, List.length_map, if_pos (And.intro ha hb), dist_map ofL a b (fun _ _ _ _ => ofL_inj)]
  rfl)
 scr a b ha hb := R_ext rfl (by
  show scrX [.slice 1 (a.map strL), .slice 1 (b.map strL)] = _
  simp only [scrX, strL_mapV, unstr_strs, List.length_map, if_pos (And.intro ha hb), script_map ofL (fun _ _ => ofL_inj)]
  rfl)
end Go.Proofs.YtfbpbkcplpkndaaGreatDoor
end
section
namespace Go.Proofs.YtfbpbkcplpkndaaGreatDoor
set_option linter.unusedVariables false
set_option linter.unusedSimpArgs false
open Go.RowKit Go.ChangeShapes Go.WideShapes Go.ChangeAt Go.Deep
section
variable {H : Type} {enc : TypeId × Value → H}
set_option maxRecDepth 100000 in
end
theorem bulk_mem {H : Type} {d : DataW H} {l : List (DataW H)} (h : d ∈ l) : Rows.uptoBulk d ≤ Rows.uptoBulkAll l := by
 induction l with
 | nil => cases h
 | cons x r ih =>
  simp only [Rows.uptoBulkAll]
  cases List.mem_cons.1 h with
  | inl e => subst e; omega
  | inr e => have := ih e; omega
end Go.Proofs.YtfbpbkcplpkndaaGreatDoor
end
section
namespace Go.Proofs.YtfbpbkcplpkndaaGreatDoor
set_option linter.unusedVariables false
set_option linter.unusedSimpArgs false
open Go.RowKit Go.ChangeShapes Go.WideShapes Go.ChangeAt Go.Deep
set_option maxRecDepth 100000
section
variable {H : Type}
theorem Tys_cons {s : Sh} {r : List Sh} {l : List (DataW H)} (h : Tys (s :: r) l) : ∃ d l', l = d :: l' ∧ Ty s d ∧ Tys r l' := by
 cases l with
 | nil => simp [Tys] at h
 | cons d l => exact ⟨d, l, rfl, by simpa [Tys] using h⟩
theorem Tys_nil {l : List (DataW H)} (h : Tys [] l) : l = [] := by
 cases l with
 | nil => rfl
 | cons d l => simp [Tys] at h
def dStr : DataW H → Bs
 | .lit (.string l) => l
 | _ => []
def dInt : DataW H → Int
 | .lit (.int _ n) => n
 | _ => 0
def dEls : DataW H → List (DataW H)
 | .slice l _ => l
 | _ => []
def dPart (d : DataW H) (i : Nat) : DataW H := match d with
 | .agg l => l.getD i .nil
 | _ => .nil
theorem str_ok {d : DataW H} (h : Ty .str d) : dAV .str d = [strL (dStr d)] ∧ (dStr d).length ≤ maxLen := by
 obtain ⟨l, rfl, hl⟩ := Ty_str h; exact ⟨rfl, hl⟩
variable {enc : TypeId × Value → H} {w : World}
theorem rep_i64 {v : Value} {d : DataW H} {p : List MemPlace} {b0 : Nat} (hv : Value.okWide Tryz.prog w .any b0 3 v)
    (h : DataW.Trod enc Tryz.prog w 0 (fun _ => true) true 3 v d p) : ∃ n : Int, InI64 n ∧ Rep (S0 w) w [] v (intA n) := by
  obtain ⟨h1, h2⟩ := rep_arg (s := .int .i64) (by kernel_rfl) hv h
  obtain ⟨n, rfl, hl⟩ := Ty_int h1
  have := wf_i64 hl
  exact ⟨n, this, h2⟩
end
theorem gr_df {W : World} (h : laidMetH Tryz.prog Rows.difftextParsesUptoRow.laid W) (hs : W.ShapedOpen Tryz.prog) : GR (S0 W) W [] := by
 rw [MakeChecks.laidMetH_plain _ _ _ (by kernel_rfl)] at h
 refine ⟨fun g l hg => ?_, fun g hg => ?_⟩
 ·unfold GT at hg
  split at hg
  ·rename_i e
   cases hg
   subst e
   have := gr_ints (n := "internal/strconv.uint64pow10") (g := 1) (t := 157) (e := 151) (k := .u64) (zs := pow10L.map fun (n : Nat) => (n : Int)) h (List.mem_of_getElem? (i := 2) rfl) (by kernel_rfl) (by kernel_rfl) (c := 20) (by kernel_rfl) (by kernel_rfl) (by kernel_rfl) (by kernel_rfl)
   exact this
  ·split at hg
   ·rename_i e
    cases hg
    subst e
    exact gr_err (t := 64) (n := "strconv.ErrRange") h (List.mem_of_getElem? (i := 4) rfl) (by kernel_rfl) (by kernel_rfl) Tryz.underlying64
   ·split at hg
    ·rename_i e
     cases hg
     subst e
     exact gr_err (t := 64) (n := "strconv.ErrSyntax") h (List.mem_of_getElem? (i := 5) rfl) (by kernel_rfl) (by kernel_rfl) Tryz.underlying64
    ·cases hg
 ·have e : g = 0 := by
   unfold GI at hg
   split at hg
   ·assumption
   ·cases hg
  subst e
  obtain ⟨m, hm⟩ := Go.Proofs.cell_of_shapedOpen_int (g := 0) (t := 3) (k := .i64) (zero := #[.int .i64 0]) hs (by decide +kernel) (by kernel_rfl) rfl (by kernel_rfl) (by kernel_rfl) Tryz.underlying3
  refine ⟨m, hm, s0_of ?_ _⟩
  unfold World.cell? at hm
  split at hm
  ·rename_i hh
   exact (Array.getElem?_eq_some_iff.1 hh).1
  ·cases hm
theorem door_met (os : Os) (args : Array Value) : laidMetH Tryz.prog Rows.difftextParsesUptoRow.laid ((World.laidAll Tryz.prog os Rows.difftextParsesUptoRow.laid).forCall (fun _ _ => 0) ⟨#[], args, []⟩).memory := by
 rw [MakeChecks.laidMetH_plain _ _ _ (by kernel_rfl)]; exact laidMet_laidAll _ (by kernel_rfl) (by kernel_rfl)
section
variable {H : Type} {enc : TypeId × Value → H}
theorem law_liftedUL {F : FuncId} {fn : Func} {s : ChangeSpec} {conds : List PathCond} {laid : List (String × DataW Unit)} {os : Os} {J : Stop.Interp} (started : os.Started) (noInit : Tryz.prog.inits.idxOf? F = none) (hfn : Tryz.prog.funcs[F]? = some fn)
    (hv : s.vars = []) (hs : ∀ ds : List (DataW H), ds.length = fn.params.size → s.fn H ds = { results := [.lit (.bool true)], args := ds }) (hres : fn.resultTypes = #[4])
    (hpar : ∀ t ∈ fn.params.toList, Tryz.prog.readableRec t = true ∧ t < Tryz.prog.types.size)
    (witness : ∃ (w : World) (tape : Tape) (i : Input), w.os = os ∧ (w.forCall tape i).Shaped Tryz.checked.prog ∧ i.vars = [] ∧ Input.okWide Tryz.checked.prog (w.forCall tape i) .any w.heap.size F i ∧
      (Rows.OpenSpec.upto s).preRow enc Tryz.checked.prog fn conds false laid (w.forCall tape i).memory i.args ∧ Assume.holds {} Tryz.checked.prog (lone (Frame.enter Tryz.checked.prog F i.args .normal) [] (w.forCall tape i)))
    (walk : ∀ (W : World) (base : Nat) (args : Array Value) (ds : List (DataW H)) (p : List MemPlace),
      (∀ (j : Nat) t v, fn.params[j]? = some t → args[j]? = some v → Value.okWide Tryz.prog W .any base t v) →
      DataW.TrodAll enc Tryz.prog W 0 (fun _ => true) true fn.params.toList args.toList ds p →
      Rows.uptoBulkAll ds ≤ 1048576 → laidMetH Tryz.prog laid W → W.ShapedOpen Tryz.prog →
      Calls Tryz.prog F args W fun e w' => e = .returned (.bool true) ∧ Below W.heap.size W w') :
    ReturnsInHanded {} Tryz.checked os F .any ((Rows.OpenSpec.upto s).preRow enc Tryz.prog fn conds false laid) (((Rows.OpenSpec.upto s).at J).post enc Tryz.prog fn false true false false) := by
  refine returnsInHanded_of_row (C := Tryz.checked) (s := Rows.OpenSpec.upto s) own started noInit hfn witness ?_
  intro W base args ds gs before hval hW hcnd hk0 hsz hL hSh _
  have hk := hk0 Rows.uptoSmall rfl
  have hW' := hW
  obtain ⟨p, q, hA, hV, rfl, hfz, hnd⟩ := hW
  have hv' : (Rows.OpenSpec.upto s).vars = [] := hv
  rw [hv'] at hV
  obtain ⟨rfl, rfl⟩ := trodVars_none hV
  have hlen : ds.length = fn.params.size := by
    have : ∀ {ts : List TypeId} {vs : List Value} {ds : List (DataW H)} {ps : List MemPlace}, DataW.TrodAll enc Tryz.checked.prog W 0 (fun _ => true) true ts vs ds ps → ds.length = ts.length := by
      intro ts
      induction ts with
      | nil => intro vs ds ps h; cases vs <;> cases ds <;> first | rfl | exact h.elim
      | cons t ts ih => intro vs ds ps h; cases vs <;> cases ds <;> first | exact h.elim | (obtain ⟨_, _, _, h2, _⟩ := h; simp [ih h2])
    rw [this hA]; simp
  rw [List.append_nil] at hk
  have hk' : Rows.uptoBulkAll ds ≤ 1048576 := of_decide_eq_true hk
  refine (walk W base args ds p hval hA hk' hL hSh).mono fun e W' ⟨he, bel⟩ => ?_
  subst he
  have h1 := hs (ds ++ []) (by simpa using hlen)
  have h1' : ((Rows.OpenSpec.upto s).at J).fn H (ds ++ []) = { results := [.lit (.bool true)], args := ds ++ [] } := h1
  have hv2 : ((Rows.OpenSpec.upto s).at J).vars = [] := hv
  refine ⟨_, rfl, ds, [], p ++ [], [], p, [], hW', ?_, ?_, ?_, bel.frame _, fun h => by cases h⟩
  · rw [h1', hres]; exact trodAll_mk1 (shut_bool Tryz.underlying4 _)
  · rw [h1']; simp only [List.append_nil]; exact trodAll_below bel hpar hA
  · rw [h1', hv2]; exact rfl
end
end Go.Proofs.YtfbpbkcplpkndaaGreatDoor
end
section
namespace Go.Proofs.YtfbpbkcplpkndaaGreatDoor
set_option linter.unusedVariables false
set_option linter.unusedSimpArgs false
open Go.RowKit Go.ChangeShapes Go.WideShapes Go.ChangeAt Go.Deep
set_option maxRecDepth 100000
section
variable {H : Type}
def sNm : Sh := .st [.str, .str]
theorem nm_ok {d : DataW H} (h : Ty sNm d) : sNm.mk (dAV sNm d) = encNm (dStr (dPart d 0)) (dStr (dPart d 1)) ∧ (Rows.uptoBulk d ≤ 1048576 → (dStr (dPart d 1)).length ≤ 1048576) := by
 obtain ⟨l, rfl, h⟩ := Ty_st h
 obtain ⟨a, l, rfl, ha, h⟩ := Tys_cons h
 obtain ⟨b, l, rfl, hb, h⟩ := Tys_cons h
 obtain rfl := Tys_nil h
 refine ⟨?_, fun hn => ?_⟩
 ·simp only [sNm, dAV, dAVs, (str_ok ha).1, (str_ok hb).1]
  rfl
 ·obtain ⟨l, rfl, -⟩ := Ty_str hb
  simp only [Rows.uptoBulk, Rows.uptoBulkAll] at hn
  show l.length ≤ _
  omega
variable {enc : TypeId × Value → H} {w : World}
theorem rep_nm {v : Value} {d : DataW H} {p : List MemPlace} {b0 : Nat} (hv : Value.okWide Tryz.prog w .any b0 23 v)
    (h : DataW.Trod enc Tryz.prog w 0 (fun _ => true) true 23 v d p) : (Rows.uptoBulk d ≤ 1048576 → (dStr (dPart d 1)).length ≤ 1048576) ∧ Rep (S0 w) w [] v (encNm (dStr (dPart d 0)) (dStr (dPart d 1))) := by
  obtain ⟨h1, h2⟩ := rep_arg (s := sNm) (by kernel_rfl) hv h
  obtain ⟨h3, h4⟩ := nm_ok h1
  rw [h3] at h2
  exact ⟨h4, h2⟩
end
end Go.Proofs.YtfbpbkcplpkndaaGreatDoor
end
section
namespace Go.Proofs.YtfbpbkcplpkndaaGreatDoor
set_option linter.unusedVariables false
set_option linter.unusedSimpArgs false
set_option maxRecDepth 100000
theorem fed_mem {s : Bs} {n : Nat} (hs : s.length ≤ n) : ∀ x ∈ fed s, x.length ≤ n := fun x hx => by
 have h : x.length ≤ (fed s).flatten.length := by
  obtain ⟨i, hi⟩ := List.getElem?_of_mem hx
  obtain ⟨h1, rfl⟩ := List.getElem?_eq_some_iff.1 hi
  have h2 := (List.sublist_flatten_of_mem (List.getElem_mem h1)).length_le
  exact h2
 rw [fed_flat] at h; omega
theorem difS_tx {s t : Bs} {n : Nat} (hs : s.length ≤ n) (ht : t.length ≤ n) : ∀ y ∈ difS s t, y.tx.length ≤ n := fun y hy => by
 unfold difS at hy
 have key : ∀ (p : List Int) (i j : Nat), ∀ y ∈ stp (fed s) (fed t) p i j, y.tx.length ≤ n := by
  intro p
  induction p with
  | nil => intro i j y hy; cases hy
  | cons op p ih =>
   intro i j y hy
   rcases List.mem_cons.1 hy with q | q
   ·subst q
    simp only
    have g : ∀ {u : Bs}, u.length ≤ n → ∀ k, ((fed u).getD k []).length ≤ n := fun {u} hu k => by
     by_cases hk : k < (fed u).length
     ·rw [getD_of (List.getElem?_eq_getElem hk)]; exact fed_mem hu _ (List.getElem_mem hk)
     ·rw [show (fed u).getD k [] = [] by rw [List.getD_eq_getElem?_getD, List.getElem?_eq_none (by omega)]; rfl]; exact Nat.zero_le _
    split
    ·exact g ht _
    ·exact g hs _
   ·exact ih _ _ y q
 exact key _ _ _ y hy
section
variable {X : CallF}
theorem hunk_run (hI : LibC X) (l : List Stp) (hl : l.length ≤ 100000) (h0 : 0 < l.length) (hd : (hd0 l).a ≤ 1000000 ∧ (hd0 l).b ≤ 1000000) (ht : ∀ y ∈ l, y.tx.length ≤ 1000000) : (R FT X).f 30 [.slice 4 (l.map encStp)] = some (encHk (hkS l)) := by
 have hm := maxLen_le
 have cs := fun (s p : Bs) (hs : s.length ≤ 1000000) => hI.cs s p (by omega)
 have fr := fun (b n : Nat) (hb : b ≤ 1000000) => from_run (X := X) b n (by omega)
 have hr : hkS l = ⟨frm (hd0 l).a (cA (l.map dlS)), cA (l.map dlS), frm (hd0 l).b (cB (l.map dlS)), cB (l.map dlS), l.map dlS⟩ := rfl
 rw [hr]
 have hM : ∀ (k : Nat) (y : Stp), l[k]? = some y → (l.map dlS)[k]? = some (dlS y) := fun k y h => by rw [List.getElem?_map, h]; rfl
 have hMl : (l.map dlS).length = l.length := List.length_map _
 have hH : ∀ y, l[0]? = some y → hd0 l = y := fun y h => getD_of h
 generalize hd0 l = x0 at *
 generalize l.map dlS = M at *
 refine R_wp (Tr.k l.length (Tr.inv (fun (k : Nat) ↦ St.mk [(0, AV.slice 4 (List.map encStp l)), (2, AV.ptr 1 0), (3, AV.ptr 3 0), (8, AV.slice 4 (List.map encStp l)), (9, intA (↑l.length : Int)), (10, intA (↑k : Int))] [MObj.row 0 3 [] true (1 : Nat), MObj.box 46 [intA 0, intA 0, intA 0, intA 0, AV.row 0 0 (0 : Nat) (0 : Nat) (0 : Nat)], MObj.row 0 3 (List.map encDL (List.take k M)) true (1 : Nat), MObj.box 46 [intA 0, intA (↑(cA (List.take k M)) : Int), intA 0, intA (↑(cB (List.take k M)) : Int), AV.row 2 0 (List.take k M).length (0 : Nat) (List.take k M).length]]) (fun (k : Nat) ↦ k ≤ l.length) (fun (k : Nat) ↦ l.length - k) fun (k : Nat) ↦ (Tr.ix encStp l k fun (x4 : Stp) ↦ Tr.c (AV.tuple [strL (Lib.trimSuffix x4.tx [(10 : UInt8)]), boolA (Lib.hasSuffix x4.tx [(10 : UInt8)])]) (Tr.k ((List.take k M).length + 1) ((Tr.nil.w.w.br Tr.nil.w).w.w.w.br (Tr.b true Tr.nil.w.w).w.w).w.w)).w.br (Tr.ix encStp l (0 : Nat) fun (x14 : Stp) ↦ Tr.c (intA (frm x14.a (cA (List.take
 k M)))) (Tr.ix encStp l (0 : Nat) fun (x16 : Stp) ↦ Tr.c (intA (frm x16.b (cB (List.take k M)))) (Tr.g (List.map encDL (List.take k M)) Tr.nil)))).w) rfl ?_
 refine Eq.mpr (by kernel_rfl : _ = ((List.map encStp l).length = l.length ∧ (∃ (j1 : Nat), ((List.map encStp l = List.map encStp l ∧ True ∧ True ∧ List.map encStp l = List.map encStp l ∧ (↑l.length : Int) = (↑l.length : Int) ∧ (0 : Int) = (↑j1 : Int) ∧ True) ∧ @List.nil AV = [] ∧ ((0 : Int) = 0 ∧ (0 : Int) = 0 ∧ (0 : Int) = 0 ∧ (0 : Int) = 0 ∧ (0 : Nat) = 0 ∧ (0 : Nat) = 0 ∧ (0 : Nat) = 0) ∧ [] = List.map encDL (List.take j1 M) ∧ (0 : Int) = 0 ∧ (0 : Int) = (↑(cA (List.take j1 M)) : Int) ∧ (0 : Int) = 0 ∧ (0 : Int) = (↑(cB (List.take j1 M)) : Int) ∧ (0 : Nat) = (List.take j1 M).length ∧ (0 : Nat) = 0 ∧ (0 : Nat) = (List.take j1 M).length) ∧ j1 ≤ l.length) ∧ ∀ (k : Nat), k ≤ l.length → (decide ((↑k : Int) < (↑l.length : Int)) = true → List.map encStp l = List.map encStp l ∧ (↑k : Int) = (↑k : Int) ∧ k < l.length ∧ ∀ (x4 : Stp), l[k]? = some x4 → (R FT X).f 63 [strL x4.tx, strL [(10 : UInt8)]] = some (AV.tuple [strL (Lib.trimSuffix x4.tx [(10 : UInt8)]), boolA (Lib.hasSuffix x4.tx [(10 : UInt8)])]) ∧ (List.map encDL (List.take k M)).length = (List.take k M).length ∧ (0 : Nat) = 0 ∧ (List.take k M).length = (List.take k M).length
 ∧ (List.take k M).length + [AV.agg [AV.val (Value.int IntKind.i64 x4.op), AV.val (Value.string (ofL (Lib.trimSuffix x4.tx [(10 : UInt8)]))), AV.val (Value.bool !Lib.hasSuffix x4.tx [(10 : UInt8)])]].length = (List.take k M).length + 1 ∧ ((List.take k M).length + 1) * 32 ≤ (140737488355328 : Nat) ∧ (List.take k M).length + 1 ≤ (9223372036854775807 : Nat) ∧ ((!decide (x4.op = 3)) = true → InI64 ((↑(cA (List.take k M)) : Int) + 1) ∧ ((!decide (x4.op = 2)) = true → InI64 ((↑(cB (List.take k M)) : Int) + 1) ∧ InI64 ((↑k : Int) + 1) ∧ ∃ (j8 : Nat), ((List.map encStp l = List.map encStp l ∧ True ∧ True ∧ List.map encStp l = List.map encStp l ∧ (↑l.length : Int) = (↑l.length : Int) ∧ (↑k : Int) + 1 = (↑j8 : Int) ∧ True) ∧ @List.nil AV = [] ∧ ((0 : Int) = 0 ∧ (0 : Int) = 0 ∧ (0 : Int) = 0 ∧ (0 : Int) = 0 ∧ (0 : Nat) = 0 ∧ (0 : Nat) = 0 ∧ (0 : Nat) = 0) ∧ List.map encDL (List.take k M) ++ [AV.agg [AV.val (Value.int IntKind.i64 x4.op), AV.val (Value.string (ofL (Lib.trimSuffix x4.tx [(10 : UInt8)]))), AV.val (Value.bool !Lib.hasSuffix x4.tx [(10 : UInt8)])]] =
 List.map encDL (List.take j8 M) ∧ (0 : Int) = 0 ∧ (↑(cA (List.take k M)) : Int) + 1 = (↑(cA (List.take j8 M)) : Int) ∧ (0 : Int) = 0 ∧ (↑(cB (List.take k M)) : Int) + 1 = (↑(cB (List.take j8 M)) : Int) ∧ (List.take k M).length + 1 = (List.take j8 M).length ∧ (0 : Nat) = 0 ∧ (List.take k M).length + 1 = (List.take j8 M).length) ∧ j8 ≤ l.length ∧ l.length - j8 < l.length - k) ∧ ((!decide (x4.op = 2)) = false → InI64 ((↑k : Int) + 1) ∧ ∃ (j10 : Nat), ((List.map encStp l = List.map encStp l ∧ True ∧ True ∧ List.map encStp l = List.map encStp l ∧ (↑l.length : Int) = (↑l.length : Int) ∧ (↑k : Int) + 1 = (↑j10 : Int) ∧ True) ∧ @List.nil AV = [] ∧ ((0 : Int) = 0 ∧ (0 : Int) = 0 ∧ (0 : Int) = 0 ∧ (0 : Int) = 0 ∧ (0 : Nat) = 0 ∧ (0 : Nat) = 0 ∧ (0 : Nat) = 0) ∧ List.map encDL (List.take k M) ++ [AV.agg [AV.val (Value.int IntKind.i64 x4.op), AV.val (Value.string (ofL (Lib.trimSuffix x4.tx [(10 : UInt8)]))), AV.val (Value.bool !Lib.hasSuffix x4.tx [(10 : UInt8)])]] = List.map encDL (List.take j10 M) ∧ (0 : Int) = 0 ∧ (↑(cA (List.take k M)) : Int) + (1 :
 Int) = (↑(cA (List.take j10 M)) : Int) ∧ (0 : Int) = 0 ∧ (↑(cB (List.take k M)) : Int) = (↑(cB (List.take j10 M)) : Int) ∧ (List.take k M).length + 1 = (List.take j10 M).length ∧ (0 : Nat) = 0 ∧ (List.take k M).length + 1 = (List.take j10 M).length) ∧ j10 ≤ l.length ∧ l.length - j10 < l.length - k)) ∧ ((!decide (x4.op = 3)) = false → (!decide (x4.op = 2)) = true ∧ InI64 ((↑(cB (List.take k M)) : Int) + 1) ∧ InI64 ((↑k : Int) + 1) ∧ ∃ (j12 : Nat), ((List.map encStp l = List.map encStp l ∧ True ∧ True ∧ List.map encStp l = List.map encStp l ∧ (↑l.length : Int) = (↑l.length : Int) ∧ (↑k : Int) + 1 = (↑j12 : Int) ∧ True) ∧ @List.nil AV = [] ∧ ((0 : Int) = 0 ∧ (0 : Int) = 0 ∧ (0 : Int) = 0 ∧ (0 : Int) = 0 ∧ (0 : Nat) = 0 ∧ (0 : Nat) = 0 ∧ (0 : Nat) = 0) ∧ List.map encDL (List.take k M) ++ [AV.agg [AV.val (Value.int IntKind.i64 x4.op), AV.val (Value.string (ofL (Lib.trimSuffix x4.tx [(10 : UInt8)]))), AV.val (Value.bool !Lib.hasSuffix x4.tx [(10 : UInt8)])]] = List.map encDL (List.take j12 M) ∧ (0 : Int) = 0 ∧ (↑(cA (List.take k M)) : Int) = (↑(cA (List.take
 j12 M)) : Int) ∧ (0 : Int) = 0 ∧ (↑(cB (List.take k M)) : Int) + 1 = (↑(cB (List.take j12 M)) : Int) ∧ (List.take k M).length + 1 = (List.take j12 M).length ∧ (0 : Nat) = 0 ∧ (List.take k M).length + 1 = (List.take j12 M).length) ∧ j12 ≤ l.length ∧ l.length - j12 < l.length - k)) ∧ (decide ((↑k : Int) < (↑l.length : Int)) = false → List.map encStp l = List.map encStp l ∧ (0 : Int) = 0 ∧ (0 : Nat) < l.length ∧ ∀ (x14 : Stp), l[(0 : Nat)]? = some x14 → (R FT X).f 64 [intA (↑x14.a : Int), intA (↑(cA (List.take k M)) : Int)] = some (intA (frm x14.a (cA (List.take k M)))) ∧ List.map encStp l = List.map encStp l ∧ (0 : Int) = 0 ∧ (0 : Nat) < l.length ∧ ∀ (x16 : Stp), l[(0 : Nat)]? = some x16 → (R FT X).f 64 [intA (↑x16.b : Int), intA (↑(cB (List.take k M)) : Int)] = some (intA (frm x16.b (cB (List.take k M)))) ∧ (List.map encDL (List.take k M)).length = (List.take k M).length ∧ List.take (List.take k M).length (List.drop (0 : Nat) (List.map encDL (List.take k M))) = List.map encDL (List.take k M) ∧ frm x14.a (cA (List.take k M)) = (Hk.mk (frm x0.a (cA M)) (↑(cA M) : Int) (frm x0.b (cB M)) (↑(cB M) : Int) M).fa ∧
 (↑(cA (List.take k M)) : Int) = (Hk.mk (frm x0.a (cA M)) (↑(cA M) : Int) (frm x0.b (cB M)) (↑(cB M) : Int) M).la ∧ frm x16.b (cB (List.take k M)) = (Hk.mk (frm x0.a (cA M)) (↑(cA M) : Int) (frm x0.b (cB M)) (↑(cB M) : Int) M).fb ∧ (↑(cB (List.take k M)) : Int) = (Hk.mk (frm x0.a (cA M)) (↑(cA M) : Int) (frm x0.b (cB M)) (↑(cB M) : Int) M).lb ∧ List.map encDL (List.take k M) = List.map encDL (Hk.mk (frm x0.a (cA M)) (↑(cA M) : Int) (frm x0.b (cB M)) (↑(cB M) : Int) M).ls))) ?_
 refine ⟨(by simp), ⟨(0 : Nat), ⟨⟨rfl, trivial, trivial, rfl, rfl, (by omega), trivial⟩, rfl, ⟨rfl, rfl, rfl, rfl, rfl, rfl, rfl⟩, rfl, rfl, rfl, rfl, rfl, rfl, rfl, rfl⟩, (by omega)⟩, fun k => fun h2 => ⟨fun h3_ => have h3 := dT h3_; ⟨rfl, rfl, (by omega), fun x4 => fun h5 => ⟨(cs _ _ ?_), (by simp), rfl, rfl, rfl, (by simp; omega), (by simp; omega), fun h6_ => have h6 := dnT h6_; ⟨?_, fun h7_ => have h7 := dnT h7_; ⟨?_, (by unfold InI64; omega), ⟨k + (1 : Nat), ⟨⟨rfl, trivial, trivial, rfl, rfl, (by omega), trivial⟩, rfl, ⟨rfl, rfl, rfl, rfl, rfl, rfl, rfl⟩, ?_, rfl, ?_, rfl, ?_, ?_, rfl, ?_⟩, ⟨(by omega), (by omega)⟩⟩⟩, fun h9_ => have h9 := dnF h9_; ⟨(by unfold InI64; omega), ⟨k + (1 : Nat), ⟨⟨rfl, trivial, trivial, rfl, rfl, (by omega), trivial⟩, rfl, ⟨rfl, rfl, rfl, rfl, rfl, rfl, rfl⟩, ?_, rfl, ?_, rfl, ?_, ?_, rfl, ?_⟩, ⟨(by omega), (by omega)⟩⟩⟩⟩, fun h11_ => have h11 := dnF h11_; ⟨(tnD (by omega)), ?_, (by unfold InI64; omega), ⟨k + (1 : Nat), ⟨⟨rfl, trivial, trivial, rfl, rfl, (by omega), trivial⟩, rfl, ⟨rfl, rfl, rfl, rfl, rfl, rfl, rfl⟩, ?_, rfl, ?_, rfl, ?_, ?_, rfl, ?_⟩, ⟨(by omega), (by omega)⟩⟩⟩⟩⟩, fun h13_ => have h13 := dF h13_; ⟨rfl, rfl, h0, fun x14 => fun h15 => ⟨(fr _ _ ?_), rfl, rfl, h0, fun x16 => fun h17 => ⟨(fr _ _ ?_), (by simp), ?_, ?_, ?_, ?_, ?_, ?_⟩⟩⟩⟩⟩
 all_goals first
  | exact ht _ (List.mem_of_getElem? h5)
  | (have q1 := cA_le (M.take k); have q2 := cB_le (M.take k); rw [List.length_take] at q1 q2; unfold InI64; omega)
  | (rw [← map_take1 (hM _ _ h5), dlS, mkDL_cut]; rfl)
  | (rw [cA_take (hM _ _ h5), dlS, mkDL_op, if_neg h6]; rfl)
  | (rw [cA_take (hM _ _ h5), dlS, mkDL_op, if_pos h11]; rfl)
  | (rw [cB_take (hM _ _ h5), dlS, mkDL_op, if_neg h7]; rfl)
  | (rw [cB_take (hM _ _ h5), dlS, mkDL_op, if_neg (by omega)]; rfl)
  | (rw [cB_take (hM _ _ h5), dlS, mkDL_op, if_pos h9]; rfl)
  | exact take_len1 (hM _ _ h5)
  | (rw [← hH _ h15]; exact hd.1)
  | (rw [← hH _ h17]; exact hd.2)
  | (rw [List.drop_zero, List.take_of_length_le (by rw [List.length_map]; exact Nat.le_refl _)]; done)
  | (rw [hH _ h15, List.take_of_length_le (by omega)]; done)
  | (rw [hH _ h17, List.take_of_length_le (by omega)]; done)
  | (rw [List.take_of_length_le (by omega)]; done)
theorem compare_run (hI : LibC X) (hL : LcsC X) (on ot nn nt : Bs) (c : Int) (hc : InI64 c) (ho : ot.length ≤ 1000000) (hn : nt.length ≤ 1000000) (hx : (lins ot).length ≤ 400) (hy : (lins nt).length ≤ 400) : (R FT X).f 13 [encNm on ot, encNm nn nt, intA c] = some (encPt (cmpP on ot nn nt c.toNat)) := by
 have hm := maxLen_le
 have st := steps_run hI hL ot nt (by omega) (by omega) hx hy
 have hk := fun (l : List Stp) hl h0 hd ht => hunk_run hI l hl h0 hd ht
 have hDl := difL_ln ot nt
 have hDs := difS_ln ot nt
 have hSR : ∀ {f e : Nat}, f < e → e ≤ (difS ot nt).length → hkS (((difS ot nt).take e).drop f) = hkR (difL ot nt) (f, e) := fun h1 h2 => hkS_R h1 h2
 have hop : ∀ (k : Nat) (x : Stp), (difS ot nt)[k]? = some x → (difL ot nt)[k]? = some (dlS x) := fun k x h => by unfold difL; rw [List.getElem?_map, h]; rfl
 have chx : ∀ (k : Nat) (x : Stp), (difS ot nt)[k]? = some x → (chg (difL ot nt) k ↔ x.op ≠ 1) := fun k x h => by have h1 := chg_at (hop k x h); rw [dlS, mkDL_op] at h1; exact h1
 have hda : ∀ (k : Nat) (x : Stp), (difS ot nt)[k]? = some x → x.a = cA ((difL ot nt).take k) ∧ x.b = cB ((difL ot nt).take k) := fun k x h => difS_at h
 have htx := difS_tx ho hn
 rw [cmpP_eq]
 generalize difL ot nt = D at *
 generalize difS ot nt = L at *
 have hkD : ∀ a b : Nat, a < b → b ≤ L.length → (R FT X).f 30 [.slice 4 (List.drop a (List.take b (L.map encStp)))] = some (encHk (hkR D (a, b))) := fun a b h1 h2 => by
  rw [← List.map_take, ← List.map_drop, ← hSR h1 h2]
  have hx : ((L.take b).drop a)[0]? = some L[a] := by
   rw [List.getElem?_drop, List.getElem?_take, if_pos (by omega)]; exact List.getElem?_eq_getElem (by omega)
  have hx0 : hd0 ((L.take b).drop a) = L[a] := getD_of hx
  have hda' := hda a L[a] (List.getElem?_eq_getElem (by omega))
  have l1 := cA_le (D.take a)
  have l2 := cB_le (D.take a)
  rw [List.length_take] at l1 l2
  refine hk _ (by rw [List.length_drop, List.length_take]; omega) (by rw [List.length_drop, List.length_take]; omega) ⟨by rw [hx0]; omega, by rw [hx0]; omega⟩ fun y hy => htx y (List.mem_of_mem_take (List.mem_of_mem_drop hy))
 refine R_wp (Tr.c (AV.slice 4 (List.map encStp L)) (Tr.k L.length (Tr.inv (fun (j : Nat × Int × Int × List (Nat × Nat)) ↦ St.mk [(6, AV.ptr 3 0), (7, AV.ptr 5 0), (9, AV.ptr 9 0), (10, AV.ptr 10 0), (11, AV.ptr 11 0), (12, AV.fn (Fn.func 29) [] [AV.ptr 10 0, AV.ptr 9 0, AV.ptr 11 0, AV.ptr 8 0, AV.ptr 5 0]), (28, AV.slice 4 (List.map encStp L)), (29, intA (↑L.length : Int)), (30, intA (↑j.fst : Int))] [MObj.box 23 [strL on, strL ot], MObj.box 23 [strL nn, strL nt], MObj.row 0 5 [] true (1 : Nat), MObj.box 29 [strL [], strL [], AV.row 2 0 (0 : Nat) (0 : Nat) (0 : Nat)], MObj.row 0 5 [] true (1 : Nat), MObj.box 29 [strL on, strL nn, AV.row 6 0 j.snd.snd.snd.length (0 : Nat) j.snd.snd.snd.length], MObj.row 0 5 (List.map encHk (List.map (hkR D) j.snd.snd.snd)) true (1 : Nat), MObj.row 0 4 [] true (1 : Nat),
 MObj.box 49 [AV.slice 4 (List.map encStp L)], MObj.box 3 [intA (↑c.toNat : Int)], MObj.box 3 [intA j.snd.fst], MObj.box 3 [intA j.snd.snd.fst]]) (fun (j : Nat × Int × Int × List (Nat × Nat)) ↦ CmpJ D c.toNat j.fst j.snd.fst j.snd.snd.fst j.snd.snd.snd) (fun (j : Nat × Int × Int × List (Nat × Nat)) ↦ L.length - j.fst) fun (j : Nat × Int × Int × List (Nat × Nat)) ↦ (Tr.ix encStp L j.fst fun (x4 : Stp) ↦ (Tr.nil.w.br ((Tr.b true (Tr.b false Tr.nil.w).w.w.inl).w.br (((Tr.b true (Tr.k L.length (Tr.sl (j.snd.fst - if j.snd.fst < (↑c.toNat : Int) then j.snd.fst else (↑c.toNat : Int)).toNat (j.snd.snd.fst.toNat + 1 + (if (↑L.length : Int) - j.snd.snd.fst - 1 < (↑c.toNat : Int) then (↑L.length : Int) - j.snd.snd.fst - 1 else (↑c.toNat : Int)).toNat) (Tr.c (encHk (hkR D ((j.snd.fst - if j.snd.fst < (↑c.toNat : Int) then j.snd.fst else (↑c.toNat : Int)).toNat, j.snd.snd.fst.toNat + 1 + (if (↑L.length : Int) - j.snd.snd.fst - 1 < (↑c.toNat : Int) then (↑L.length : Int) - j.snd.snd.fst - 1 else (↑c.toNat : Int)).toNat))) (Tr.k (j.snd.snd.snd.length + 1) Tr.nil.w))).w.w.w).w.w).w.w.inl.br Tr.nil.w).w.w.w.w.br
 (Tr.b false Tr.nil.w).w).w.w).w).w).w.br ((Tr.k L.length (Tr.sl (j.snd.fst - if j.snd.fst < (↑c.toNat : Int) then j.snd.fst else (↑c.toNat : Int)).toNat (j.snd.snd.fst.toNat + 1 + (if (↑L.length : Int) - j.snd.snd.fst - 1 < (↑c.toNat : Int) then (↑L.length : Int) - j.snd.snd.fst - 1 else (↑c.toNat : Int)).toNat) (Tr.c (encHk (hkR D ((j.snd.fst - if j.snd.fst < (↑c.toNat : Int) then j.snd.fst else (↑c.toNat : Int)).toNat, j.snd.snd.fst.toNat + 1 + (if (↑L.length : Int) - j.snd.snd.fst - 1 < (↑c.toNat : Int) then (↑L.length : Int) - j.snd.snd.fst - 1 else (↑c.toNat : Int)).toNat))) (Tr.k (j.snd.snd.snd.length + 1) (Tr.g (List.map encHk (List.map (hkR D) j.snd.snd.snd ++ [Hk.mk (hkR D ((j.snd.fst - if j.snd.fst < (↑c.toNat : Int) then j.snd.fst else (↑c.toNat : Int)).toNat, j.snd.snd.fst.toNat + 1 + (if (↑L.length : Int) - j.snd.snd.fst - 1 < (↑c.toNat : Int) then (↑L.length : Int) - j.snd.snd.fst - 1 else (↑c.toNat : Int)).toNat)).fa (hkR D ((j.snd.fst - if j.snd.fst < (↑c.toNat : Int) then j.snd.fst else (↑c.toNat : Int)).toNat, j.snd.snd.fst.toNat + 1 + (if (↑L.length : Int) - j.snd.snd.fst - (1
 : Int) < (↑c.toNat : Int) then (↑L.length : Int) - j.snd.snd.fst - 1 else (↑c.toNat : Int)).toNat)).la (hkR D ((j.snd.fst - if j.snd.fst < (↑c.toNat : Int) then j.snd.fst else (↑c.toNat : Int)).toNat, j.snd.snd.fst.toNat + 1 + (if (↑L.length : Int) - j.snd.snd.fst - 1 < (↑c.toNat : Int) then (↑L.length : Int) - j.snd.snd.fst - 1 else (↑c.toNat : Int)).toNat)).fb (hkR D ((j.snd.fst - if j.snd.fst < (↑c.toNat : Int) then j.snd.fst else (↑c.toNat : Int)).toNat, j.snd.snd.fst.toNat + 1 + (if (↑L.length : Int) - j.snd.snd.fst - 1 < (↑c.toNat : Int) then (↑L.length : Int) - j.snd.snd.fst - 1 else (↑c.toNat : Int)).toNat)).lb (hkR D ((j.snd.fst - if j.snd.fst < (↑c.toNat : Int) then j.snd.fst else (↑c.toNat : Int)).toNat, j.snd.snd.fst.toNat + 1 + (if (↑L.length : Int) - j.snd.snd.fst - 1 < (↑c.toNat : Int) then (↑L.length : Int) - j.snd.snd.fst - 1 else (↑c.toNat : Int)).toNat)).ls])) Tr.nil)))).w.w.w).w.w.br (Tr.g (List.map encHk (List.map (hkR D) j.snd.snd.snd)) Tr.nil)).w.w.inl).w)) rfl ?_
 refine Eq.mpr (by kernel_rfl : _ = ((R FT X).f 28 [strL ot, strL nt] = some (AV.slice 4 (List.map encStp L)) ∧ (List.map encStp L).length = L.length ∧ (∃ (j1 : Nat × Int × Int × List (Nat × Nat)), ((True ∧ True ∧ True ∧ True ∧ True ∧ AV.fn (Fn.func 29) [] [AV.ptr 10 0, AV.ptr 9 0, AV.ptr 11 0, AV.ptr 8 0, AV.ptr 5 0] = AV.fn (Fn.func 29) [] [AV.ptr 10 0, AV.ptr 9 0, AV.ptr 11 0, AV.ptr 8 0, AV.ptr 5 0] ∧ List.map encStp L = List.map encStp L ∧ (↑L.length : Int) = (↑L.length : Int) ∧ (0 : Int) = (↑j1.fst : Int) ∧ True) ∧ (on = on ∧ ot = ot) ∧ (nn = nn ∧ nt = nt) ∧ @List.nil AV = [] ∧ (@List.nil UInt8 = [] ∧ @List.nil UInt8 = [] ∧ (0 : Nat) = 0 ∧ (0 : Nat) = 0 ∧ (0 : Nat) = 0) ∧ @List.nil AV = [] ∧ (on = on ∧ nn = nn ∧ (0 : Nat) = j1.snd.snd.snd.length ∧ (0 : Nat) = 0 ∧ (0 : Nat) = j1.snd.snd.snd.length) ∧ [] = List.map encHk (List.map (hkR D) j1.snd.snd.snd) ∧ @List.nil AV = [] ∧ List.map encStp L = List.map encStp L ∧ (if (0 : Int) > c then (0 : Int) else c) = (↑c.toNat : Int) ∧ (-1 : Int)
 = j1.snd.fst ∧ (-1 : Int) = j1.snd.snd.fst) ∧ CmpJ D c.toNat j1.fst j1.snd.fst j1.snd.snd.fst j1.snd.snd.snd) ∧ ∀ (j : Nat × Int × Int × List (Nat × Nat)), CmpJ D c.toNat j.fst j.snd.fst j.snd.snd.fst j.snd.snd.snd → (decide ((↑j.fst : Int) < (↑L.length : Int)) = true → List.map encStp L = List.map encStp L ∧ (↑j.fst : Int) = (↑j.fst : Int) ∧ j.fst < L.length ∧ ∀ (x4 : Stp), L[j.fst]? = some x4 → (decide (x4.op = 1) = true → InI64 ((↑j.fst : Int) + 1) ∧ ∃ (j7 : Nat × Int × Int × List (Nat × Nat)), ((True ∧ True ∧ True ∧ True ∧ True ∧ AV.fn (Fn.func 29) [] [AV.ptr 10 0, AV.ptr 9 0, AV.ptr 11 0, AV.ptr 8 0, AV.ptr 5 0] = AV.fn (Fn.func 29) [] [AV.ptr 10 0, AV.ptr 9 0, AV.ptr 11 0, AV.ptr 8 0, AV.ptr 5 0] ∧ List.map encStp L = List.map encStp L ∧ (↑L.length : Int) = (↑L.length : Int) ∧ (↑j.fst : Int) + 1 = (↑j7.fst : Int) ∧ True) ∧ (on = on ∧ ot = ot) ∧ (nn = nn ∧ nt = nt) ∧ @List.nil AV = [] ∧ (@List.nil UInt8 = [] ∧ @List.nil UInt8 = [] ∧ (0 : Nat) = 0 ∧ (0 : Nat) = 0
 ∧ (0 : Nat) = 0) ∧ @List.nil AV = [] ∧ (on = on ∧ nn = nn ∧ j.snd.snd.snd.length = j7.snd.snd.snd.length ∧ (0 : Nat) = 0 ∧ j.snd.snd.snd.length = j7.snd.snd.snd.length) ∧ List.map encHk (List.map (hkR D) j.snd.snd.snd) = List.map encHk (List.map (hkR D) j7.snd.snd.snd) ∧ @List.nil AV = [] ∧ List.map encStp L = List.map encStp L ∧ (↑c.toNat : Int) = (↑c.toNat : Int) ∧ j.snd.fst = j7.snd.fst ∧ j.snd.snd.fst = j7.snd.snd.fst) ∧ CmpJ D c.toNat j7.fst j7.snd.fst j7.snd.snd.fst j7.snd.snd.snd ∧ L.length - j7.fst < L.length - j.fst) ∧ (decide (x4.op = 1) = false → (decide (j.snd.fst < 0) = true → true = true ∧ decide ((0 : Int) ≤ j.snd.fst) = false ∧ InI64 ((↑j.fst : Int) + 1) ∧ ∃ (j10 : Nat × Int × Int × List (Nat × Nat)), ((True ∧ True ∧ True ∧ True ∧ True ∧ AV.fn (Fn.func 29) [] [AV.ptr 10 0, AV.ptr 9 0, AV.ptr 11 0, AV.ptr 8 0, AV.ptr 5 0] = AV.fn (Fn.func 29) [] [AV.ptr 10 0, AV.ptr 9 0, AV.ptr 11 0, AV.ptr 8 0, AV.ptr 5 0] ∧ List.map encStp L = List.map encStp L ∧ (↑L.length
 : Int) = (↑L.length : Int) ∧ (↑j.fst : Int) + 1 = (↑j10.fst : Int) ∧ True) ∧ (on = on ∧ ot = ot) ∧ (nn = nn ∧ nt = nt) ∧ @List.nil AV = [] ∧ (@List.nil UInt8 = [] ∧ @List.nil UInt8 = [] ∧ (0 : Nat) = 0 ∧ (0 : Nat) = 0 ∧ (0 : Nat) = 0) ∧ @List.nil AV = [] ∧ (on = on ∧ nn = nn ∧ j.snd.snd.snd.length = j10.snd.snd.snd.length ∧ (0 : Nat) = 0 ∧ j.snd.snd.snd.length = j10.snd.snd.snd.length) ∧ List.map encHk (List.map (hkR D) j.snd.snd.snd) = List.map encHk (List.map (hkR D) j10.snd.snd.snd) ∧ @List.nil AV = [] ∧ List.map encStp L = List.map encStp L ∧ (↑c.toNat : Int) = (↑c.toNat : Int) ∧ (↑j.fst : Int) = j10.snd.fst ∧ (↑j.fst : Int) = j10.snd.snd.fst) ∧ CmpJ D c.toNat j10.fst j10.snd.fst j10.snd.snd.fst j10.snd.snd.snd ∧ L.length - j10.fst < L.length - j.fst) ∧ (decide (j.snd.fst < 0) = false → InI64 ((↑j.fst : Int) - j.snd.snd.fst) ∧ InI64 ((↑j.fst : Int) - j.snd.snd.fst - 1) ∧ (decide ((↑c.toNat : Int) < (↑j.fst : Int) - j.snd.snd.fst - 1) = true → InI64 ((↑j.fst : Int) - j.snd.snd.fst) ∧ InI64 ((↑j.fst : Int) - j.snd.snd.fst - 1) ∧ InI64 ((↑j.fst : Int) - j.snd.snd.fst - 1 - (↑c.toNat : Int)) ∧ (decide ((↑c.toNat
 : Int) < (↑j.fst : Int) - j.snd.snd.fst - 1 - (↑c.toNat : Int)) = true → decide ((0 : Int) ≤ j.snd.fst) = true ∧ InI64 (j.snd.fst - if j.snd.fst < (↑c.toNat : Int) then j.snd.fst else (↑c.toNat : Int)) ∧ InI64 (j.snd.snd.fst + 1) ∧ (List.map encStp L).length = L.length ∧ InI64 ((↑L.length : Int) - j.snd.snd.fst) ∧ InI64 ((↑L.length : Int) - j.snd.snd.fst - 1) ∧ InI64 (j.snd.snd.fst + 1 + if (↑L.length : Int) - j.snd.snd.fst - 1 < (↑c.toNat : Int) then (↑L.length : Int) - j.snd.snd.fst - 1 else (↑c.toNat : Int)) ∧ (j.snd.fst - if j.snd.fst < (↑c.toNat : Int) then j.snd.fst else (↑c.toNat : Int)) = (↑(j.snd.fst - if j.snd.fst < (↑c.toNat : Int) then j.snd.fst else (↑c.toNat : Int)).toNat : Int) ∧ (j.snd.snd.fst + 1 + if (↑L.length : Int) - j.snd.snd.fst - 1 < (↑c.toNat : Int) then (↑L.length : Int) - j.snd.snd.fst - 1 else (↑c.toNat : Int)) = (↑(j.snd.snd.fst.toNat + 1 + (if (↑L.length : Int) - j.snd.snd.fst - 1 < (↑c.toNat : Int) then (↑L.length : Int) - j.snd.snd.fst - 1 else (↑c.toNat : Int)).toNat) : Int) ∧ (j.snd.fst - if j.snd.fst < (↑c.toNat : Int) then j.snd.fst else (↑c.toNat : Int)).toNat
 ≤ j.snd.snd.fst.toNat + 1 + (if (↑L.length : Int) - j.snd.snd.fst - 1 < (↑c.toNat : Int) then (↑L.length : Int) - j.snd.snd.fst - 1 else (↑c.toNat : Int)).toNat ∧ j.snd.snd.fst.toNat + 1 + (if (↑L.length : Int) - j.snd.snd.fst - 1 < (↑c.toNat : Int) then (↑L.length : Int) - j.snd.snd.fst - 1 else (↑c.toNat : Int)).toNat ≤ (List.map encStp L).length ∧ (R FT X).f 30 [AV.slice 4 (List.drop (j.snd.fst - if j.snd.fst < (↑c.toNat : Int) then j.snd.fst else (↑c.toNat : Int)).toNat (List.take (j.snd.snd.fst.toNat + 1 + (if (↑L.length : Int) - j.snd.snd.fst - 1 < (↑c.toNat : Int) then (↑L.length : Int) - j.snd.snd.fst - 1 else (↑c.toNat : Int)).toNat) (List.map encStp L)))] = some (encHk (hkR D ((j.snd.fst - if j.snd.fst < (↑c.toNat : Int) then j.snd.fst else (↑c.toNat : Int)).toNat, j.snd.snd.fst.toNat + 1 + (if (↑L.length : Int) - j.snd.snd.fst - 1 < (↑c.toNat : Int) then (↑L.length : Int) - j.snd.snd.fst - 1 else (↑c.toNat : Int)).toNat))) ∧ (List.map encHk (List.map (hkR D) j.snd.snd.snd)).length = j.snd.snd.snd.length ∧ (0 : Nat) = 0 ∧ j.snd.snd.snd.length = j.snd.snd.snd.length
 ∧ j.snd.snd.snd.length + [AV.agg [intA (hkR D ((j.snd.fst - if j.snd.fst < (↑c.toNat : Int) then j.snd.fst else (↑c.toNat : Int)).toNat, j.snd.snd.fst.toNat + 1 + (if (↑L.length : Int) - j.snd.snd.fst - 1 < (↑c.toNat : Int) then (↑L.length : Int) - j.snd.snd.fst - 1 else (↑c.toNat : Int)).toNat)).fa, intA (hkR D ((j.snd.fst - if j.snd.fst < (↑c.toNat : Int) then j.snd.fst else (↑c.toNat : Int)).toNat, j.snd.snd.fst.toNat + 1 + (if (↑L.length : Int) - j.snd.snd.fst - 1 < (↑c.toNat : Int) then (↑L.length : Int) - j.snd.snd.fst - 1 else (↑c.toNat : Int)).toNat)).la, intA (hkR D ((j.snd.fst - if j.snd.fst < (↑c.toNat : Int) then j.snd.fst else (↑c.toNat : Int)).toNat, j.snd.snd.fst.toNat + 1 + (if (↑L.length : Int) - j.snd.snd.fst - 1 < (↑c.toNat : Int) then (↑L.length : Int) - j.snd.snd.fst - 1 else (↑c.toNat : Int)).toNat)).fb, intA (hkR D ((j.snd.fst - if j.snd.fst < (↑c.toNat : Int) then j.snd.fst else (↑c.toNat : Int)).toNat, j.snd.snd.fst.toNat + 1 + (if (↑L.length : Int) - j.snd.snd.fst - 1 < (↑c.toNat : Int) then (↑L.length : Int) - j.snd.snd.fst - 1 else (↑c.toNat : Int)).toNat)).lb,
 AV.slice 3 (List.map encDL (hkR D ((j.snd.fst - if j.snd.fst < (↑c.toNat : Int) then j.snd.fst else (↑c.toNat : Int)).toNat, j.snd.snd.fst.toNat + 1 + (if (↑L.length : Int) - j.snd.snd.fst - 1 < (↑c.toNat : Int) then (↑L.length : Int) - j.snd.snd.fst - 1 else (↑c.toNat : Int)).toNat)).ls)]].length = j.snd.snd.snd.length + 1 ∧ (j.snd.snd.snd.length + 1) * 56 ≤ (140737488355328 : Nat) ∧ j.snd.snd.snd.length + 1 ≤ (9223372036854775807 : Nat) ∧ InI64 ((↑j.fst : Int) + 1) ∧ ∃ (j14 : Nat × Int × Int × List (Nat × Nat)), ((True ∧ True ∧ True ∧ True ∧ True ∧ AV.fn (Fn.func 29) [] [AV.ptr 10 0, AV.ptr 9 0, AV.ptr 11 0, AV.ptr 8 0, AV.ptr 5 0] = AV.fn (Fn.func 29) [] [AV.ptr 10 0, AV.ptr 9 0, AV.ptr 11 0, AV.ptr 8 0, AV.ptr 5 0] ∧ List.map encStp L = List.map encStp L ∧ (↑L.length : Int) = (↑L.length : Int) ∧ (↑j.fst : Int) + 1 = (↑j14.fst : Int) ∧ True) ∧ (on = on ∧ ot = ot) ∧ (nn = nn ∧ nt = nt) ∧ @List.nil AV = [] ∧ (@List.nil UInt8
 = [] ∧ @List.nil UInt8 = [] ∧ (0 : Nat) = 0 ∧ (0 : Nat) = 0 ∧ (0 : Nat) = 0) ∧ @List.nil AV = [] ∧ (on = on ∧ nn = nn ∧ j.snd.snd.snd.length + 1 = j14.snd.snd.snd.length ∧ (0 : Nat) = 0 ∧ j.snd.snd.snd.length + 1 = j14.snd.snd.snd.length) ∧ List.map encHk (List.map (hkR D) j.snd.snd.snd) ++ [AV.agg [intA (hkR D ((j.snd.fst - if j.snd.fst < (↑c.toNat : Int) then j.snd.fst else (↑c.toNat : Int)).toNat, j.snd.snd.fst.toNat + 1 + (if (↑L.length : Int) - j.snd.snd.fst - 1 < (↑c.toNat : Int) then (↑L.length : Int) - j.snd.snd.fst - 1 else (↑c.toNat : Int)).toNat)).fa, intA (hkR D ((j.snd.fst - if j.snd.fst < (↑c.toNat : Int) then j.snd.fst else (↑c.toNat : Int)).toNat, j.snd.snd.fst.toNat + 1 + (if (↑L.length : Int) - j.snd.snd.fst - 1 < (↑c.toNat : Int) then (↑L.length : Int) - j.snd.snd.fst - 1 else (↑c.toNat : Int)).toNat)).la, intA (hkR D ((j.snd.fst - if j.snd.fst < (↑c.toNat : Int) then j.snd.fst else (↑c.toNat : Int)).toNat, j.snd.snd.fst.toNat + 1 + (if (↑L.length : Int) - j.snd.snd.fst - 1 < (↑c.toNat : Int) then (↑L.length : Int) - j.snd.snd.fst - 1 else (↑c.toNat
 : Int)).toNat)).fb, intA (hkR D ((j.snd.fst - if j.snd.fst < (↑c.toNat : Int) then j.snd.fst else (↑c.toNat : Int)).toNat, j.snd.snd.fst.toNat + 1 + (if (↑L.length : Int) - j.snd.snd.fst - 1 < (↑c.toNat : Int) then (↑L.length : Int) - j.snd.snd.fst - 1 else (↑c.toNat : Int)).toNat)).lb, AV.slice 3 (List.map encDL (hkR D ((j.snd.fst - if j.snd.fst < (↑c.toNat : Int) then j.snd.fst else (↑c.toNat : Int)).toNat, j.snd.snd.fst.toNat + 1 + (if (↑L.length : Int) - j.snd.snd.fst - 1 < (↑c.toNat : Int) then (↑L.length : Int) - j.snd.snd.fst - 1 else (↑c.toNat : Int)).toNat)).ls)]] = List.map encHk (List.map (hkR D) j14.snd.snd.snd) ∧ @List.nil AV = [] ∧ List.map encStp L = List.map encStp L ∧ (↑c.toNat : Int) = (↑c.toNat : Int) ∧ (↑j.fst : Int) = j14.snd.fst ∧ (↑j.fst : Int) = j14.snd.snd.fst) ∧ CmpJ D c.toNat j14.fst j14.snd.fst j14.snd.snd.fst j14.snd.snd.snd ∧ L.length - j14.fst < L.length - j.fst) ∧ (decide ((↑c.toNat : Int) < (↑j.fst : Int) - j.snd.snd.fst - 1 - (↑c.toNat : Int)) = false → InI64 ((↑j.fst : Int) + 1) ∧ ∃ (j16 : Nat × Int × Int × List (Nat × Nat)), ((True ∧ True ∧ True ∧ True ∧ True ∧ AV.fn (Fn.func
 29) [] [AV.ptr 10 0, AV.ptr 9 0, AV.ptr 11 0, AV.ptr 8 0, AV.ptr 5 0] = AV.fn (Fn.func 29) [] [AV.ptr 10 0, AV.ptr 9 0, AV.ptr 11 0, AV.ptr 8 0, AV.ptr 5 0] ∧ List.map encStp L = List.map encStp L ∧ (↑L.length : Int) = (↑L.length : Int) ∧ (↑j.fst : Int) + 1 = (↑j16.fst : Int) ∧ True) ∧ (on = on ∧ ot = ot) ∧ (nn = nn ∧ nt = nt) ∧ @List.nil AV = [] ∧ (@List.nil UInt8 = [] ∧ @List.nil UInt8 = [] ∧ (0 : Nat) = 0 ∧ (0 : Nat) = 0 ∧ (0 : Nat) = 0) ∧ @List.nil AV = [] ∧ (on = on ∧ nn = nn ∧ j.snd.snd.snd.length = j16.snd.snd.snd.length ∧ (0 : Nat) = 0 ∧ j.snd.snd.snd.length = j16.snd.snd.snd.length) ∧ List.map encHk (List.map (hkR D) j.snd.snd.snd) = List.map encHk (List.map (hkR D) j16.snd.snd.snd) ∧ @List.nil AV = [] ∧ List.map encStp L = List.map encStp L ∧ (↑c.toNat : Int) = (↑c.toNat : Int) ∧ j.snd.fst = j16.snd.fst ∧ (↑j.fst : Int) = j16.snd.snd.fst) ∧ CmpJ D c.toNat j16.fst j16.snd.fst j16.snd.snd.fst j16.snd.snd.snd ∧ L.length - j16.fst < L.length - j.fst)) ∧ (decide
 ((↑c.toNat : Int) < (↑j.fst : Int) - j.snd.snd.fst - 1) = false → false = false ∧ InI64 ((↑j.fst : Int) + 1) ∧ ∃ (j18 : Nat × Int × Int × List (Nat × Nat)), ((True ∧ True ∧ True ∧ True ∧ True ∧ AV.fn (Fn.func 29) [] [AV.ptr 10 0, AV.ptr 9 0, AV.ptr 11 0, AV.ptr 8 0, AV.ptr 5 0] = AV.fn (Fn.func 29) [] [AV.ptr 10 0, AV.ptr 9 0, AV.ptr 11 0, AV.ptr 8 0, AV.ptr 5 0] ∧ List.map encStp L = List.map encStp L ∧ (↑L.length : Int) = (↑L.length : Int) ∧ (↑j.fst : Int) + 1 = (↑j18.fst : Int) ∧ True) ∧ (on = on ∧ ot = ot) ∧ (nn = nn ∧ nt = nt) ∧ @List.nil AV = [] ∧ (@List.nil UInt8 = [] ∧ @List.nil UInt8 = [] ∧ (0 : Nat) = 0 ∧ (0 : Nat) = 0 ∧ (0 : Nat) = 0) ∧ @List.nil AV = [] ∧ (on = on ∧ nn = nn ∧ j.snd.snd.snd.length = j18.snd.snd.snd.length ∧ (0 : Nat) = 0 ∧ j.snd.snd.snd.length = j18.snd.snd.snd.length) ∧ List.map encHk (List.map (hkR D) j.snd.snd.snd) = List.map encHk (List.map (hkR D) j18.snd.snd.snd) ∧ @List.nil AV = [] ∧ List.map encStp L = List.map encStp
 L ∧ (↑c.toNat : Int) = (↑c.toNat : Int) ∧ j.snd.fst = j18.snd.fst ∧ (↑j.fst : Int) = j18.snd.snd.fst) ∧ CmpJ D c.toNat j18.fst j18.snd.fst j18.snd.snd.fst j18.snd.snd.snd ∧ L.length - j18.fst < L.length - j.fst)))) ∧ (decide ((↑j.fst : Int) < (↑L.length : Int)) = false → (decide ((0 : Int) ≤ j.snd.fst) = true → InI64 (j.snd.fst - if j.snd.fst < (↑c.toNat : Int) then j.snd.fst else (↑c.toNat : Int)) ∧ InI64 (j.snd.snd.fst + 1) ∧ (List.map encStp L).length = L.length ∧ InI64 ((↑L.length : Int) - j.snd.snd.fst) ∧ InI64 ((↑L.length : Int) - j.snd.snd.fst - 1) ∧ InI64 (j.snd.snd.fst + 1 + if (↑L.length : Int) - j.snd.snd.fst - 1 < (↑c.toNat : Int) then (↑L.length : Int) - j.snd.snd.fst - 1 else (↑c.toNat : Int)) ∧ (j.snd.fst - if j.snd.fst < (↑c.toNat : Int) then j.snd.fst else (↑c.toNat : Int)) = (↑(j.snd.fst - if j.snd.fst < (↑c.toNat : Int) then j.snd.fst else (↑c.toNat : Int)).toNat : Int) ∧ (j.snd.snd.fst + 1 + if (↑L.length : Int) - j.snd.snd.fst - 1 < (↑c.toNat : Int) then (↑L.length : Int) - j.snd.snd.fst - 1 else (↑c.toNat : Int)) = (↑(j.snd.snd.fst.toNat + 1 + (if (↑L.length : Int) - j.snd.snd.fst - 1
 < (↑c.toNat : Int) then (↑L.length : Int) - j.snd.snd.fst - 1 else (↑c.toNat : Int)).toNat) : Int) ∧ (j.snd.fst - if j.snd.fst < (↑c.toNat : Int) then j.snd.fst else (↑c.toNat : Int)).toNat ≤ j.snd.snd.fst.toNat + 1 + (if (↑L.length : Int) - j.snd.snd.fst - 1 < (↑c.toNat : Int) then (↑L.length : Int) - j.snd.snd.fst - 1 else (↑c.toNat : Int)).toNat ∧ j.snd.snd.fst.toNat + 1 + (if (↑L.length : Int) - j.snd.snd.fst - 1 < (↑c.toNat : Int) then (↑L.length : Int) - j.snd.snd.fst - 1 else (↑c.toNat : Int)).toNat ≤ (List.map encStp L).length ∧ (R FT X).f 30 [AV.slice 4 (List.drop (j.snd.fst - if j.snd.fst < (↑c.toNat : Int) then j.snd.fst else (↑c.toNat : Int)).toNat (List.take (j.snd.snd.fst.toNat + 1 + (if (↑L.length : Int) - j.snd.snd.fst - 1 < (↑c.toNat : Int) then (↑L.length : Int) - j.snd.snd.fst - 1 else (↑c.toNat : Int)).toNat) (List.map encStp L)))] = some (encHk (hkR D ((j.snd.fst - if j.snd.fst < (↑c.toNat : Int) then j.snd.fst else (↑c.toNat : Int)).toNat, j.snd.snd.fst.toNat + 1 + (if (↑L.length : Int) - j.snd.snd.fst - 1 < (↑c.toNat : Int) then (↑L.length : Int)
 - j.snd.snd.fst - 1 else (↑c.toNat : Int)).toNat))) ∧ (List.map encHk (List.map (hkR D) j.snd.snd.snd)).length = j.snd.snd.snd.length ∧ (0 : Nat) = 0 ∧ j.snd.snd.snd.length = j.snd.snd.snd.length ∧ j.snd.snd.snd.length + [AV.agg [intA (hkR D ((j.snd.fst - if j.snd.fst < (↑c.toNat : Int) then j.snd.fst else (↑c.toNat : Int)).toNat, j.snd.snd.fst.toNat + 1 + (if (↑L.length : Int) - j.snd.snd.fst - 1 < (↑c.toNat : Int) then (↑L.length : Int) - j.snd.snd.fst - 1 else (↑c.toNat : Int)).toNat)).fa, intA (hkR D ((j.snd.fst - if j.snd.fst < (↑c.toNat : Int) then j.snd.fst else (↑c.toNat : Int)).toNat, j.snd.snd.fst.toNat + 1 + (if (↑L.length : Int) - j.snd.snd.fst - 1 < (↑c.toNat : Int) then (↑L.length : Int) - j.snd.snd.fst - 1 else (↑c.toNat : Int)).toNat)).la, intA (hkR D ((j.snd.fst - if j.snd.fst < (↑c.toNat : Int) then j.snd.fst else (↑c.toNat : Int)).toNat, j.snd.snd.fst.toNat + 1 + (if (↑L.length : Int) - j.snd.snd.fst - 1 < (↑c.toNat : Int) then (↑L.length : Int) - j.snd.snd.fst - 1 else (↑c.toNat : Int)).toNat)).fb, intA (hkR D ((j.snd.fst - if j.snd.fst < (↑c.toNat : Int) then j.snd.fst else (↑c.toNat
 : Int)).toNat, j.snd.snd.fst.toNat + 1 + (if (↑L.length : Int) - j.snd.snd.fst - 1 < (↑c.toNat : Int) then (↑L.length : Int) - j.snd.snd.fst - 1 else (↑c.toNat : Int)).toNat)).lb, AV.slice 3 (List.map encDL (hkR D ((j.snd.fst - if j.snd.fst < (↑c.toNat : Int) then j.snd.fst else (↑c.toNat : Int)).toNat, j.snd.snd.fst.toNat + 1 + (if (↑L.length : Int) - j.snd.snd.fst - 1 < (↑c.toNat : Int) then (↑L.length : Int) - j.snd.snd.fst - 1 else (↑c.toNat : Int)).toNat)).ls)]].length = j.snd.snd.snd.length + 1 ∧ (j.snd.snd.snd.length + 1) * 56 ≤ (140737488355328 : Nat) ∧ j.snd.snd.snd.length + 1 ≤ (9223372036854775807 : Nat) ∧ (List.map encHk (List.map (hkR D) j.snd.snd.snd) ++ [AV.agg [intA (hkR D ((j.snd.fst - if j.snd.fst < (↑c.toNat : Int) then j.snd.fst else (↑c.toNat : Int)).toNat, j.snd.snd.fst.toNat + 1 + (if (↑L.length : Int) - j.snd.snd.fst - 1 < (↑c.toNat : Int) then (↑L.length : Int) - j.snd.snd.fst - 1 else (↑c.toNat : Int)).toNat)).fa, intA (hkR D ((j.snd.fst - if j.snd.fst < (↑c.toNat : Int) then j.snd.fst else (↑c.toNat : Int)).toNat, j.snd.snd.fst.toNat + 1
 + (if (↑L.length : Int) - j.snd.snd.fst - 1 < (↑c.toNat : Int) then (↑L.length : Int) - j.snd.snd.fst - 1 else (↑c.toNat : Int)).toNat)).la, intA (hkR D ((j.snd.fst - if j.snd.fst < (↑c.toNat : Int) then j.snd.fst else (↑c.toNat : Int)).toNat, j.snd.snd.fst.toNat + 1 + (if (↑L.length : Int) - j.snd.snd.fst - 1 < (↑c.toNat : Int) then (↑L.length : Int) - j.snd.snd.fst - 1 else (↑c.toNat : Int)).toNat)).fb, intA (hkR D ((j.snd.fst - if j.snd.fst < (↑c.toNat : Int) then j.snd.fst else (↑c.toNat : Int)).toNat, j.snd.snd.fst.toNat + 1 + (if (↑L.length : Int) - j.snd.snd.fst - 1 < (↑c.toNat : Int) then (↑L.length : Int) - j.snd.snd.fst - 1 else (↑c.toNat : Int)).toNat)).lb, AV.slice 3 (List.map encDL (hkR D ((j.snd.fst - if j.snd.fst < (↑c.toNat : Int) then j.snd.fst else (↑c.toNat : Int)).toNat, j.snd.snd.fst.toNat + 1 + (if (↑L.length : Int) - j.snd.snd.fst - 1 < (↑c.toNat : Int) then (↑L.length : Int) - j.snd.snd.fst - 1 else (↑c.toNat : Int)).toNat)).ls)]]).length = j.snd.snd.snd.length + 1 ∧ List.take (j.snd.snd.snd.length + 1) (List.drop (0 : Nat) (List.map encHk (List.map
 (hkR D) j.snd.snd.snd) ++ [AV.agg [intA (hkR D ((j.snd.fst - if j.snd.fst < (↑c.toNat : Int) then j.snd.fst else (↑c.toNat : Int)).toNat, j.snd.snd.fst.toNat + 1 + (if (↑L.length : Int) - j.snd.snd.fst - 1 < (↑c.toNat : Int) then (↑L.length : Int) - j.snd.snd.fst - 1 else (↑c.toNat : Int)).toNat)).fa, intA (hkR D ((j.snd.fst - if j.snd.fst < (↑c.toNat : Int) then j.snd.fst else (↑c.toNat : Int)).toNat, j.snd.snd.fst.toNat + 1 + (if (↑L.length : Int) - j.snd.snd.fst - 1 < (↑c.toNat : Int) then (↑L.length : Int) - j.snd.snd.fst - 1 else (↑c.toNat : Int)).toNat)).la, intA (hkR D ((j.snd.fst - if j.snd.fst < (↑c.toNat : Int) then j.snd.fst else (↑c.toNat : Int)).toNat, j.snd.snd.fst.toNat + 1 + (if (↑L.length : Int) - j.snd.snd.fst - 1 < (↑c.toNat : Int) then (↑L.length : Int) - j.snd.snd.fst - 1 else (↑c.toNat : Int)).toNat)).fb, intA (hkR D ((j.snd.fst - if j.snd.fst < (↑c.toNat : Int) then j.snd.fst else (↑c.toNat : Int)).toNat, j.snd.snd.fst.toNat + 1 + (if (↑L.length : Int) - j.snd.snd.fst - 1 < (↑c.toNat : Int) then (↑L.length : Int) - j.snd.snd.fst - 1 else (↑c.toNat : Int)).toNat)).lb,
 AV.slice 3 (List.map encDL (hkR D ((j.snd.fst - if j.snd.fst < (↑c.toNat : Int) then j.snd.fst else (↑c.toNat : Int)).toNat, j.snd.snd.fst.toNat + 1 + (if (↑L.length : Int) - j.snd.snd.fst - 1 < (↑c.toNat : Int) then (↑L.length : Int) - j.snd.snd.fst - 1 else (↑c.toNat : Int)).toNat)).ls)]])) = List.map encHk (List.map (hkR D) j.snd.snd.snd ++ [Hk.mk (hkR D ((j.snd.fst - if j.snd.fst < (↑c.toNat : Int) then j.snd.fst else (↑c.toNat : Int)).toNat, j.snd.snd.fst.toNat + 1 + (if (↑L.length : Int) - j.snd.snd.fst - 1 < (↑c.toNat : Int) then (↑L.length : Int) - j.snd.snd.fst - 1 else (↑c.toNat : Int)).toNat)).fa (hkR D ((j.snd.fst - if j.snd.fst < (↑c.toNat : Int) then j.snd.fst else (↑c.toNat : Int)).toNat, j.snd.snd.fst.toNat + 1 + (if (↑L.length : Int) - j.snd.snd.fst - 1 < (↑c.toNat : Int) then (↑L.length : Int) - j.snd.snd.fst - 1 else (↑c.toNat : Int)).toNat)).la (hkR D ((j.snd.fst - if j.snd.fst < (↑c.toNat : Int) then j.snd.fst else (↑c.toNat : Int)).toNat, j.snd.snd.fst.toNat + 1 + (if (↑L.length : Int) - j.snd.snd.fst - 1 < (↑c.toNat : Int) then (↑L.length : Int) - j.snd.snd.fst - (1
 : Int) else (↑c.toNat : Int)).toNat)).fb (hkR D ((j.snd.fst - if j.snd.fst < (↑c.toNat : Int) then j.snd.fst else (↑c.toNat : Int)).toNat, j.snd.snd.fst.toNat + 1 + (if (↑L.length : Int) - j.snd.snd.fst - 1 < (↑c.toNat : Int) then (↑L.length : Int) - j.snd.snd.fst - 1 else (↑c.toNat : Int)).toNat)).lb (hkR D ((j.snd.fst - if j.snd.fst < (↑c.toNat : Int) then j.snd.fst else (↑c.toNat : Int)).toNat, j.snd.snd.fst.toNat + 1 + (if (↑L.length : Int) - j.snd.snd.fst - 1 < (↑c.toNat : Int) then (↑L.length : Int) - j.snd.snd.fst - 1 else (↑c.toNat : Int)).toNat)).ls]) ∧ on = (Pt.mk on nn (List.map (hkR D) (rgs D c.toNat))).old ∧ nn = (Pt.mk on nn (List.map (hkR D) (rgs D c.toNat))).new ∧ List.map encHk (List.map (hkR D) j.snd.snd.snd ++ [Hk.mk (hkR D ((j.snd.fst - if j.snd.fst < (↑c.toNat : Int) then j.snd.fst else (↑c.toNat : Int)).toNat, j.snd.snd.fst.toNat + 1 + (if (↑L.length : Int) - j.snd.snd.fst - 1 < (↑c.toNat : Int) then (↑L.length : Int) - j.snd.snd.fst - 1 else (↑c.toNat : Int)).toNat)).fa (hkR D ((j.snd.fst - if j.snd.fst < (↑c.toNat : Int) then j.snd.fst else (↑c.toNat : Int)).toNat, j.snd.snd.fst.toNat + (1
 : Nat) + (if (↑L.length : Int) - j.snd.snd.fst - 1 < (↑c.toNat : Int) then (↑L.length : Int) - j.snd.snd.fst - 1 else (↑c.toNat : Int)).toNat)).la (hkR D ((j.snd.fst - if j.snd.fst < (↑c.toNat : Int) then j.snd.fst else (↑c.toNat : Int)).toNat, j.snd.snd.fst.toNat + 1 + (if (↑L.length : Int) - j.snd.snd.fst - 1 < (↑c.toNat : Int) then (↑L.length : Int) - j.snd.snd.fst - 1 else (↑c.toNat : Int)).toNat)).fb (hkR D ((j.snd.fst - if j.snd.fst < (↑c.toNat : Int) then j.snd.fst else (↑c.toNat : Int)).toNat, j.snd.snd.fst.toNat + 1 + (if (↑L.length : Int) - j.snd.snd.fst - 1 < (↑c.toNat : Int) then (↑L.length : Int) - j.snd.snd.fst - 1 else (↑c.toNat : Int)).toNat)).lb (hkR D ((j.snd.fst - if j.snd.fst < (↑c.toNat : Int) then j.snd.fst else (↑c.toNat : Int)).toNat, j.snd.snd.fst.toNat + 1 + (if (↑L.length : Int) - j.snd.snd.fst - 1 < (↑c.toNat : Int) then (↑L.length : Int) - j.snd.snd.fst - 1 else (↑c.toNat : Int)).toNat)).ls]) = List.map encHk (Pt.mk on nn (List.map (hkR D) (rgs D c.toNat))).hs) ∧ (decide ((0 : Int) ≤ j.snd.fst) = false → (List.map encHk (List.map (hkR D) j.snd.snd.snd)).length = j.snd.snd.snd.length
 ∧ List.take j.snd.snd.snd.length (List.drop (0 : Nat) (List.map encHk (List.map (hkR D) j.snd.snd.snd))) = List.map encHk (List.map (hkR D) j.snd.snd.snd) ∧ on = (Pt.mk on nn (List.map (hkR D) (rgs D c.toNat))).old ∧ nn = (Pt.mk on nn (List.map (hkR D) (rgs D c.toNat))).new ∧ List.map encHk (List.map (hkR D) j.snd.snd.snd) = List.map encHk (Pt.mk on nn (List.map (hkR D) (rgs D c.toNat))).hs)))) ?_
 refine ⟨st, (by simp), ?_, fun j => fun h2 => ⟨fun h3_ => have h3 := dT h3_; ⟨rfl, rfl, (by omega), fun x4 => fun h5 => ⟨fun h6_ => have h6 := dT h6_; ⟨(by unfold InI64; omega), ⟨(j.fst + (1 : Nat), j.snd.fst, j.snd.snd.fst, j.snd.snd.snd), ⟨⟨trivial, trivial, trivial, trivial, trivial, rfl, rfl, rfl, (by (try dsimp only); omega), trivial⟩, ⟨rfl, rfl⟩, ⟨rfl, rfl⟩, rfl, ⟨rfl, rfl, rfl, rfl, rfl⟩, rfl, ⟨rfl, rfl, rfl, rfl, rfl⟩, rfl, rfl, rfl, rfl, rfl, rfl⟩, ⟨?_, (by (try dsimp only); omega)⟩⟩⟩, fun h8_ => have h8 := dF h8_; ⟨fun h9_ => have h9 := dT h9_; ⟨rfl, (fD (by omega)), (by unfold InI64; omega), ⟨(j.fst + (1 : Nat), (↑j.fst : Int), (↑j.fst : Int), j.snd.snd.snd), ⟨⟨trivial, trivial, trivial, trivial, trivial, rfl, rfl, rfl, (by (try dsimp only); omega), trivial⟩, ⟨rfl, rfl⟩, ⟨rfl, rfl⟩, rfl, ⟨rfl, rfl, rfl, rfl, rfl⟩, rfl, ⟨rfl, rfl, rfl, rfl, rfl⟩, rfl, rfl, rfl, rfl, rfl, rfl⟩, ⟨?_, (by (try dsimp only); omega)⟩⟩⟩, fun h11_ => have h11 := dF h11_; ⟨?_, ?_, fun h12_ => have h12 := dT h12_; ⟨?_, ?_, ?_, fun h13_ => have h13 := dT h13_; ⟨(tD (by omega)), ?_, ?_, (by simp), ?_, ?_, ?_, (by omega), ?_, ?_, ?_, (hkD _ _ ?_ ?_), (by simp), rfl, rfl, rfl, ?_, ?_, (by unfold InI64; omega), ?_⟩, fun h15_ => have h15 := dF h15_; ⟨(by unfold InI64; omega), ⟨(j.fst + (1 : Nat), j.snd.fst, (↑j.fst : Int), j.snd.snd.snd), ⟨⟨trivial, trivial, trivial, trivial, trivial, rfl, rfl, rfl, (by (try dsimp only); omega), trivial⟩, ⟨rfl, rfl⟩, ⟨rfl, rfl⟩, rfl, ⟨rfl, rfl, rfl, rfl, rfl⟩, rfl, ⟨rfl, rfl, rfl, rfl, rfl⟩, rfl, rfl, rfl, rfl, rfl, rfl⟩, ⟨?_, (by (try dsimp only); omega)⟩⟩⟩⟩, fun h17_ => have h17 := dF h17_; ⟨rfl, (by unfold InI64; omega), ⟨(j.fst + (1 : Nat), j.snd.fst, (↑j.fst : Int), j.snd.snd.snd), ⟨⟨trivial, trivial, trivial, trivial, trivial, rfl, rfl, rfl, (by (try dsimp only); omega), trivial⟩, ⟨rfl, rfl⟩, ⟨rfl, rfl⟩, rfl, ⟨rfl, rfl, rfl, rfl, rfl⟩, rfl, ⟨rfl, rfl, rfl, rfl, rfl⟩, rfl, rfl, rfl, rfl, rfl, rfl⟩, ⟨?_, (by (try dsimp only); omega)⟩⟩⟩⟩⟩⟩⟩, fun h19_ => have h19 := dF h19_; ⟨fun h20_ => have h20 := dT h20_; ⟨?_, ?_, (by simp), ?_, ?_, ?_, (by omega), ?_, ?_, ?_, (hkD _ _ ?_ ?_), (by simp), rfl, rfl, rfl, ?_, ?_, (by simp), ?_, rfl, rfl, ?_⟩, fun h21_ => have h21 := dF h21_; ⟨(by simp), ?_, rfl, rfl, ?_⟩⟩⟩⟩
 have hcN : (c.toNat : Int) < 9223372036854775808 := by unfold InI64 at hc; omega
 all_goals try have hlt := (List.getElem?_eq_some_iff.1 (hop _ _ h5)).1
 all_goals try have hxD := chx _ _ h5
 all_goals try have hch := hxD.2 h8
 ·refine ⟨(0, -1, -1, []), ⟨⟨trivial, trivial, trivial, trivial, trivial, rfl, rfl, rfl, rfl, trivial⟩, ⟨rfl, rfl⟩, ⟨rfl, rfl⟩, rfl, ⟨rfl, rfl, rfl, rfl, rfl⟩, rfl, ⟨rfl, rfl, rfl, rfl, rfl⟩, rfl, rfl, rfl, ?_, rfl, rfl⟩, .none (Nat.zero_le _) fun x hx => by omega⟩
  split <;> omega
 ·exact h2.keep hlt fun q => hxD.1 q h6
 ·obtain ⟨e1, e2, e3, e4, e5⟩ := h2.f1 h9
  rw [e3]
  exact .some (CmpI.start hlt hch e5) (Nat.zero_le _)
 all_goals try have hf0 := h2.f0 h11
 all_goals try have hf0 := h2.f0 (Int.not_lt.2 h20)
 all_goals try obtain ⟨f', t', e1, e2, hI', hol⟩ := hf0
 all_goals try have hf1 := h2.f1 (Int.not_le.1 h21)
 all_goals try rw [e1]
 all_goals try rw [e2]
 all_goals try have g1 := hI'.ft
 all_goals try have g2 := hI'.ti
 all_goals try have g3 := hI'.il
 all_goals first
  | (unfold InI64; (repeat' split) <;> omega)
  | (rw [List.length_map]; (repeat' split) <;> omega)
  | ((repeat' split) <;> omega)
  | exact .some (hI'.more hlt hch (by omega)) (by simp only; omega)
  | (rw [List.drop_zero, List.take_of_length_le (by simp)]; done)
  | skip
 all_goals try rw [cut_if g1 (by omega) hDl]
 ·refine ⟨(j.1 + 1, (j.1 : Int), (j.1 : Int), j.2.2.2 ++ [Go.Proofs.YtfbpbkcplpkndaaGreatDoor.cut D c.toNat f' t']), ⟨⟨trivial, trivial, trivial, trivial, trivial, rfl, rfl, rfl, rfl, trivial⟩, ⟨rfl, rfl⟩, ⟨rfl, rfl⟩, rfl, ⟨rfl, rfl, rfl, rfl, rfl⟩, rfl, ⟨rfl, rfl, ?_, rfl, ?_⟩, ?_, rfl, rfl, rfl, rfl, rfl⟩, .some (hI'.next hlt hch (by omega)) ?_, ?_⟩
  ·simp
  ·simp
  ·simp only [List.map_append]; rfl
  ·simp only [List.length_append, List.length_singleton]; omega
  ·simp only; omega
 ·rw [List.drop_zero, List.take_of_length_le (by simp), List.map_append]; rfl
 ·have e : j.1 = D.length := by omega
  rw [e] at hI'
  show _ = List.map encHk (List.map (hkR D) (rgs D c.toNat))
  rw [← hI'.done, List.map_append, List.map_append, List.map_append]; rfl
 ·obtain ⟨-, -, e3, e4, e5⟩ := hf1
  have e : j.1 = D.length := by omega
  rw [e3]
  show _ = List.map encHk (List.map (hkR D) (rgs D c.toNat))
  rw [← cmp_none (n := c.toNat) (fun x hx => e5 x (by omega))]
end
end Go.Proofs.YtfbpbkcplpkndaaGreatDoor
end
