/- Own texts of this claim, merged: Cu7, CuN, Cu8, CuO, CuU, Cu9, Sh, CuY, CuZ, NuX. -/
import Derived.Test.YtfedemnaeggokaaGreatDoorPd
import Derived.Shelf.Strings.OnBuilder
import Derived.Shelf.Small.Strs
import Derived.Shelf.LaysM
import Derived.Shelf.Strconv.Itoa3
import Derived.Shelf.LaysC
import Derived.Shelf.Strconv.AtoiAll
import Derived.Shelf.Strings.Search3
import Derived.Shelf.Strings.Count
import Derived.Shelf.SlSortCmp.WholeK
import Derived.Test.YtfedemnaeggokaaGreatDoorProg
import Derived.Sort.AssemblyPlain
import Derived.WalkKit
import Derived.RegionTactic
import Derived.Lib.AtoiErrMem
import Derived.Lib.ItoaMem
import Derived.Lib.AppendIntMem
section
namespace Go.Proofs.YtfedemnaeggokaaGreatDoor
set_option linter.unusedVariables false
set_option linter.unusedSimpArgs false
set_option maxRecDepth 100000
set_option maxHeartbeats 1000000
structure AplOk (p : Spec) (s : Bs) : Prop where
 sp : p.spans.length ≤ maxLen
 hi : ∀ x ∈ p.spans, x.f ≤ 9223372036854775807
 ln : s.length ≤ 10000000
 bd : s.length * (2 * p.out.length + 1) ≤ 10000000000000
theorem AplOk.ln' {p : Spec} {s : Bs} (h : AplOk p s) {x : Bs} (hx : x ∈ lins s) : LnOk p x := by
 have h1 := lens_mem hx
 have h2 := lins_lens s
 have h3 := h.ln
 refine ⟨h.sp, h.hi, by omega, ?_⟩
 exact Nat.le_trans (Nat.mul_le_mul (by omega : x.length ≤ s.length) (by omega : p.out.length + 1 ≤ 2 * p.out.length + 1)) h.bd
section
variable {X : CallF}
theorem apply2_run (p : Spec) (s : Bs) (h : AplOk p s) : (R FT X).f 21 [encSc p, strL s] = some (strL (apB p s)) := by
 have ll := lines2_run (X := X) s (Nat.le_trans h.ln (by decide))
 have lr := fun (x : Bs) (hx : x ∈ lins s) => line2_run (X := X) p x (h.ln' hx)
 have hb := apK_bd h.ln h.bd
 have hm' := maxLen_le
 refine R_wp (Tr.c (AV.tuple [AV.slice 1 (List.map strL (lins s)), boolA (endB s)]) (Tr.inv (fun (k : Nat) ↦ St.mk [(2, AV.ptr 0 0), (5, AV.slice 1 (List.map strL (lins s))), (7, strL (apK p (lins s) k)), (8, intA (↑k : Int))] [spB p]) (fun (k : Nat) ↦ k ≤ (lins s).length) (fun (k : Nat) ↦ (lins s).length - k) fun (k : Nat) ↦ (Tr.k (lins s).length ((Tr.ix strL (lins s) k fun (x4 : Bs) ↦ Tr.c (AV.tuple [strL (lnB p x4), boolA (lnO p x4)]) (Tr.nil.w.w.w.br Tr.nil.w).w.w).w.br Tr.nil)).w).w) rfl ?_
 refine Eq.mpr (by kernel_rfl : _ = ((R FT X).f 28 [strL s] = some (AV.tuple [AV.slice 1 (List.map strL (lins s)), boolA (endB s)]) ∧ (∃ (j1 : Nat), ((True ∧ List.map strL (lins s) = List.map strL (lins s) ∧ [] = apK p (lins s) j1 ∧ (0 : Int) = (↑j1 : Int) ∧ True) ∧ p.kind = p.kind ∧ List.map encSp p.spans = List.map encSp p.spans ∧ (↑p.sep.toNat : Int) = (↑p.sep.toNat : Int) ∧ p.out = p.out ∧ p.only = p.only ∧ p.not = p.not) ∧ j1 ≤ (lins s).length) ∧ ∀ (k : Nat), k ≤ (lins s).length → (List.map strL (lins s)).length = (lins s).length ∧ (decide ((↑k : Int) < (↑(lins s).length : Int)) = true → List.map strL (lins s) = List.map strL (lins s) ∧ (↑k : Int) = (↑k : Int) ∧ k < (lins s).length ∧ ∀ (x4 : Bs), (lins s)[k]? = some x4 → (R FT X).f 17 [encSc p, strL x4] = some (AV.tuple [strL (lnB p x4), boolA (lnO p x4)]) ∧ (lnO p x4 = true → List.length (apK p (lins s) k) + List.length (lnB p x4) ≤ 9223372036854775807 ∧ List.length (apK p (lins s) k ++ lnB p x4) + [(10 : UInt8)].length ≤ 9223372036854775807 ∧ InI64 ((↑k : Int) + 1) ∧ ∃ (j7 : Nat), ((True ∧ List.map strL (lins s) = List.map strL (lins s) ∧ apK p (lins s) k ++ lnB p x4 ++ [(10 : UInt8)] = apK p (lins s) j7 ∧ (↑k
 : Int) + 1 = (↑j7 : Int) ∧ True) ∧ p.kind = p.kind ∧ List.map encSp p.spans = List.map encSp p.spans ∧ (↑p.sep.toNat : Int) = (↑p.sep.toNat : Int) ∧ p.out = p.out ∧ p.only = p.only ∧ p.not = p.not) ∧ j7 ≤ (lins s).length ∧ (lins s).length - j7 < (lins s).length - k) ∧ (lnO p x4 = false → InI64 ((↑k : Int) + 1) ∧ ∃ (j9 : Nat), ((True ∧ List.map strL (lins s) = List.map strL (lins s) ∧ apK p (lins s) k = apK p (lins s) j9 ∧ (↑k : Int) + 1 = (↑j9 : Int) ∧ True) ∧ p.kind = p.kind ∧ List.map encSp p.spans = List.map encSp p.spans ∧ (↑p.sep.toNat : Int) = (↑p.sep.toNat : Int) ∧ p.out = p.out ∧ p.only = p.only ∧ p.not = p.not) ∧ j9 ≤ (lins s).length ∧ (lins s).length - j9 < (lins s).length - k)) ∧ (decide ((↑k : Int) < (↑(lins s).length : Int)) = false → apK p (lins s) k = apB p s))) ?_
 refine ⟨(ll), ⟨(0 : Nat), ⟨⟨trivial, rfl, rfl, (by omega), trivial⟩, rfl, rfl, rfl, rfl, rfl, rfl⟩, (by omega)⟩, fun k => fun h2 => ⟨(by simp), fun h3_ => have h3 := dT h3_; ⟨rfl, rfl, (by omega), fun x4 => fun h5 => ⟨(lr _ ?_), fun h6 => ⟨?_, ?_, ?_, ⟨k + (1 : Nat), ⟨⟨trivial, rfl, ?_, (by omega), trivial⟩, rfl, rfl, rfl, rfl, rfl, rfl⟩, ⟨(by omega), (by omega)⟩⟩⟩, fun h8 => ⟨?_, ⟨k + (1 : Nat), ⟨⟨trivial, rfl, ?_, (by omega), trivial⟩, rfl, rfl, rfl, rfl, rfl, rfl⟩, ⟨(by omega), (by omega)⟩⟩⟩⟩⟩, fun h10_ => have h10 := dF h10_; ?_⟩⟩
 ·exact List.mem_of_getElem? h5
 all_goals have hll := lins_len s
 all_goals have hln := h.ln
 iterate 2
  ·have hb1 := hb (k + 1) (by omega)
   rw [apK_y h5 h6] at hb1
   simp only [List.length_append, List.length_singleton] at hb1 ⊢
   omega
 ·unfold InI64; omega
 ·rw [apK_y h5 h6, List.append_assoc]
 ·unfold InI64; omega
 ·rw [apK_n h5 h8]
 ·rw [show k = (lins s).length by omega]; rfl
theorem apply_run (hB : BldC X) (hx : StrC X) (p : Spec) (s : Bs) (h : AplOk p s) : (R FT X).f 20 [encSc p, strL s] = some (strL (apB p s)) := by
 have ck := check_run (X := X) p h.sp h.hi
 have ll := lines_run hx s (Nat.le_trans h.ln (by decide))
 have lr := fun (x : Bs) (hx' : x ∈ lins s) => line_run hB hx p x (h.ln' hx')
 have hb := apK_bd h.ln h.bd
 have cc := hB.cc
 have bs := hB.str
 have hm' := maxLen_le
 refine R_wp ((Tr.c (intA (chkE p)) (Tr.nil.br (Tr.c (AV.tuple [AV.slice 1 (List.map strL (lins s)), boolA (endB s)]) (Tr.k (lins s).length (Tr.inv (fun (k : Nat) ↦ St.mk [(2, AV.ptr 0 0), (7, AV.ptr 2 0), (20, AV.slice 1 (List.map strL (lins s))), (21, intA (↑(lins s).length : Int)), (22, intA (↑k : Int))] [spB p, MObj.row 0 1 (List.map u8A (apK p (lins s) k)) true (7 : Nat), MObj.box 71 [AV.any, AV.row 1 0 (List.length (apK p (lins s) k)) (0 : Nat) (List.length (apK p (lins s) k))]]) (fun (k : Nat) ↦ k ≤ (lins s).length) (fun (k : Nat) ↦ (lins s).length - k) fun (k : Nat) ↦ (Tr.ix strL (lins s) k fun (x6 : Bs) ↦ Tr.c (AV.tuple [strL (lnB p x6), boolA (lnO p x6)]) ((Tr.cm (AV.tuple []) [MObj.box 31 [intA p.kind, AV.slice 2 (List.map encSp p.spans), u8A p.sep, strL p.out, boolA p.only, boolA p.not], MObj.row 0 1 (List.map u8A (apK p (lins s) k)) true (7 : Nat), MObj.box 71 [AV.any, AV.row 1 0 (List.length (apK p (lins s) k)) (0 : Nat) (List.length (apK p (lins s) k))]] (Tr.k (List.length (apK p (lins s) k) + (List.length
 (lnB p x6) + 1)) Tr.nil.w)).inl.w.br Tr.nil.w).w.w).w.br (Tr.cm (strL (apK p (lins s) k)) [MObj.box 31 [intA p.kind, AV.slice 2 (List.map encSp p.spans), u8A p.sep, strL p.out, boolA p.only, boolA p.not], MObj.row 1 1 [] true (7 : Nat), MObj.box 71 [AV.any, AV.row 1 0 (List.length (apK p (lins s) k)) (0 : Nat) (List.length (apK p (lins s) k))]] Tr.nil)).w))).w).w) rfl ?_
 refine Eq.mpr (by kernel_rfl : _ = ((R FT X).f 18 [encSc p] = some (intA (chkE p)) ∧ ((!decide (chkE p = 0)) = true → [] = apB p s) ∧ ((!decide (chkE p = 0)) = false → (R FT X).f 44 [strL s] = some (AV.tuple [AV.slice 1 (List.map strL (lins s)), boolA (endB s)]) ∧ (List.map strL (lins s)).length = (lins s).length ∧ (∃ (j3 : Nat), ((True ∧ True ∧ List.map strL (lins s) = List.map strL (lins s) ∧ (↑(lins s).length : Int) = (↑(lins s).length : Int) ∧ (0 : Int) = (↑j3 : Int) ∧ True) ∧ (p.kind = p.kind ∧ List.map encSp p.spans = List.map encSp p.spans ∧ (↑p.sep.toNat : Int) = (↑p.sep.toNat : Int) ∧ p.out = p.out ∧ p.only = p.only ∧ p.not = p.not) ∧ [] = List.map u8A (apK p (lins s) j3) ∧ True ∧ (0 : Nat) = List.length (apK p (lins s) j3) ∧ (0 : Nat) = 0 ∧ (0 : Nat) = List.length (apK p (lins s) j3)) ∧ j3 ≤ (lins s).length) ∧ ∀ (k : Nat), k ≤ (lins s).length → (decide ((↑k : Int) < (↑(lins s).length : Int)) = true → List.map strL (lins s) = List.map strL (lins s) ∧ (↑k : Int) = (↑k : Int) ∧ k < (lins s).length ∧ ∀ (x6 : Bs), (lins s)[k]? = some x6 → (R FT X).f 16 [encSc p, strL x6] = some (AV.tuple [strL (lnB p x6), boolA (lnO p x6)]) ∧ (lnO p x6 = true → List.length
 (lnB p x6) + [(10 : UInt8)].length ≤ 9223372036854775807 ∧ (R FT X).m 64 [AV.ptr 2 0] [MObj.box 31 [intA p.kind, AV.slice 2 (List.map encSp p.spans), u8A p.sep, strL p.out, boolA p.only, boolA p.not], MObj.row 0 1 (List.map u8A (apK p (lins s) k)) true (7 : Nat), MObj.box 71 [AV.any, AV.row 1 0 (List.length (apK p (lins s) k)) (0 : Nat) (List.length (apK p (lins s) k))]] = some (AV.tuple [], [MObj.box 31 [intA p.kind, AV.slice 2 (List.map encSp p.spans), u8A p.sep, strL p.out, boolA p.only, boolA p.not], MObj.row 0 1 (List.map u8A (apK p (lins s) k)) true (7 : Nat), MObj.box 71 [AV.any, AV.row 1 0 (List.length (apK p (lins s) k)) (0 : Nat) (List.length (apK p (lins s) k))]]) ∧ (List.map u8A (apK p (lins s) k)).length = List.length (apK p (lins s) k) ∧ (0 : Nat) = 0 ∧ List.length (apK p (lins s) k) = List.length (apK p (lins s) k) ∧ List.length (apK p (lins s) k) + List.length (lnB p x6 ++ [(10 : UInt8)]) = List.length (apK p (lins s) k) + (List.length (lnB p x6) + 1) ∧ List.length (apK p (lins s) k) + (List.length (lnB p x6)
 + (1 : Nat)) ≤ 140737488355328 ∧ List.length (apK p (lins s) k) + (List.length (lnB p x6) + 1) ≤ 9223372036854775807 ∧ InI64 ((↑k : Int) + 1) ∧ ∃ (j9 : Nat), ((True ∧ True ∧ List.map strL (lins s) = List.map strL (lins s) ∧ (↑(lins s).length : Int) = (↑(lins s).length : Int) ∧ (↑k : Int) + 1 = (↑j9 : Int) ∧ True) ∧ (p.kind = p.kind ∧ List.map encSp p.spans = List.map encSp p.spans ∧ (↑p.sep.toNat : Int) = (↑p.sep.toNat : Int) ∧ p.out = p.out ∧ p.only = p.only ∧ p.not = p.not) ∧ List.map u8A (apK p (lins s) k) ++ List.map u8A (lnB p x6 ++ [(10 : UInt8)]) = List.map u8A (apK p (lins s) j9) ∧ True ∧ List.length (apK p (lins s) k) + (List.length (lnB p x6) + 1) = List.length (apK p (lins s) j9) ∧ (0 : Nat) = 0 ∧ List.length (apK p (lins s) k) + (List.length (lnB p x6) + 1) = List.length (apK p (lins s) j9)) ∧ j9 ≤ (lins s).length ∧ (lins s).length - j9 < (lins s).length - k) ∧ (lnO p x6 = false → InI64 ((↑k : Int) + 1) ∧ ∃ (j11 : Nat), ((True ∧ True ∧ List.map strL (lins s) = List.map strL (lins s) ∧ (↑(lins s).length : Int) = (↑(lins s).length : Int) ∧ (↑k : Int) + 1 = (↑j11 : Int) ∧ True) ∧ (p.kind = p.kind
 ∧ List.map encSp p.spans = List.map encSp p.spans ∧ (↑p.sep.toNat : Int) = (↑p.sep.toNat : Int) ∧ p.out = p.out ∧ p.only = p.only ∧ p.not = p.not) ∧ List.map u8A (apK p (lins s) k) = List.map u8A (apK p (lins s) j11) ∧ True ∧ List.length (apK p (lins s) k) = List.length (apK p (lins s) j11) ∧ (0 : Nat) = 0 ∧ List.length (apK p (lins s) k) = List.length (apK p (lins s) j11)) ∧ j11 ≤ (lins s).length ∧ (lins s).length - j11 < (lins s).length - k)) ∧ (decide ((↑k : Int) < (↑(lins s).length : Int)) = false → (R FT X).m 46 [AV.ptr 2 0] [MObj.box 31 [intA p.kind, AV.slice 2 (List.map encSp p.spans), u8A p.sep, strL p.out, boolA p.only, boolA p.not], MObj.row 0 1 (List.map u8A (apK p (lins s) k)) true (7 : Nat), MObj.box 71 [AV.any, AV.row 1 0 (List.length (apK p (lins s) k)) (0 : Nat) (List.length (apK p (lins s) k))]] = some (strL (apK p (lins s) k), [MObj.box 31 [intA p.kind, AV.slice 2 (List.map encSp p.spans), u8A p.sep, strL p.out, boolA p.only, boolA p.not], MObj.row 1 1 [] true (7 : Nat), MObj.box 71 [AV.any, AV.row 1 0 (List.length (apK
 p (lins s) k)) (0 : Nat) (List.length (apK p (lins s) k))]]) ∧ apK p (lins s) k = apB p s)))) ?_
 refine ⟨(ck), fun h1_ => have h1 := dnT h1_; ?_, fun h2_ => have h2 := dnF h2_; ⟨(ll), (by simp), ⟨(0 : Nat), ⟨⟨trivial, trivial, rfl, rfl, (by omega), trivial⟩, ⟨rfl, rfl, rfl, rfl, rfl, rfl⟩, rfl, trivial, rfl, rfl, rfl⟩, (by omega)⟩, fun k => fun h4 => ⟨fun h5_ => have h5 := dT h5_; ⟨rfl, rfl, (by omega), fun x6 => fun h7 => ⟨(lr _ ?_), fun h8 => ⟨?_, (cc _ _ (by exact rfl)), (by simp), rfl, rfl, (by simp), ?_, ?_, ?_, ⟨k + (1 : Nat), ⟨⟨trivial, trivial, rfl, rfl, (by omega), trivial⟩, ⟨rfl, rfl, rfl, rfl, rfl, rfl⟩, ?_, trivial, ?_, rfl, ?_⟩, ⟨(by omega), (by omega)⟩⟩⟩, fun h10 => ⟨?_, ⟨k + (1 : Nat), ⟨⟨trivial, trivial, rfl, rfl, (by omega), trivial⟩, ⟨rfl, rfl, rfl, rfl, rfl, rfl⟩, ?_, trivial, ?_, rfl, ?_⟩, ⟨(by omega), (by omega)⟩⟩⟩⟩⟩, fun h12_ => have h12 := dF h12_; ⟨(bs _ _ _ _ _ _ _ _ _ _ (by exact rfl) (by exact rfl) (by exact (by simp)) (by exact (bytesV_map _)) ?_ (by exact rfl)), ?_⟩⟩⟩⟩
 ·exact (apK_bad h1 _ _).symm
 ·exact List.mem_of_getElem? h7
 all_goals have hll := lins_len s
 all_goals have hln := h.ln
 iterate 3
  ·have hb1 := hb (k + 1) (by omega)
   rw [apK_y h7 h8] at hb1
   simp only [List.length_append, List.length_singleton] at hb1 ⊢
   omega
 ·unfold InI64; omega
 ·rw [apK_y h7 h8, ← List.map_append]
 iterate 2 · rw [apK_y h7 h8]; simp
 ·unfold InI64; omega
 iterate 3 · rw [apK_n h7 h10]
 ·have hb1 := hb k h4; omega
 ·rw [show k = (lins s).length by omega]; rfl
theorem sep_run (seps : Bs) (k : Nat) (hs : seps.length ≤ maxLen) : (R FT X).f 65 [strL seps, intA k] = some (strL (spA seps k)) := by
 have hm' := maxLen_i64
 refine R_wp ((Tr.nil.br (Tr.sl ((↑k : Int).tmod (↑(List.length seps) : Int)).toNat (((↑k : Int).tmod (↑(List.length seps) : Int)).toNat + 1) Tr.nil).w.w).w.w) rfl ?_
 refine Eq.mpr (by kernel_rfl : _ = ((decide (seps = []) = true → [] = spA seps k) ∧ (decide (seps = []) = false → (↑(List.length seps) : Int) ≠ 0 ∧ InI64 ((↑k : Int).tmod (↑(List.length seps) : Int) + 1) ∧ (↑k : Int).tmod (↑(List.length seps) : Int) = (↑((↑k : Int).tmod (↑(List.length seps) : Int)).toNat : Int) ∧ (↑k : Int).tmod (↑(List.length seps) : Int) + 1 = (↑(((↑k : Int).tmod (↑(List.length seps) : Int)).toNat + 1) : Int) ∧ ((↑k : Int).tmod (↑(List.length seps) : Int)).toNat ≤ ((↑k : Int).tmod (↑(List.length seps) : Int)).toNat + 1 ∧ ((↑k : Int).tmod (↑(List.length seps) : Int)).toNat + 1 ≤ List.length seps ∧ List.drop ((↑k : Int).tmod (↑(List.length seps) : Int)).toNat (List.take (((↑k : Int).tmod (↑(List.length seps) : Int)).toNat + 1) seps) = spA seps k))) ?_
 refine ⟨fun h1_ => have h1 := dT h1_; ?_, fun h2_ => have h2 := dF h2_; ⟨(by simp; omega), ?_, rfl, rfl, (by omega), ?_, ?_⟩⟩
 ·rw [spA, if_pos h1]
 all_goals (obtain ⟨q1, q2, q3, q4⟩ := sp_at h2 k)
 ·unfold InI64; omega
 ·omega
 ·exact sp_cut h2 q1
theorem row2_run (l : List Bs) (seps : Bs) (hs : seps.length ≤ maxLen) (hl : l.length ≤ 100000000) (hn : lensB l ≤ 100000000) : (R FT X).f 51 [.slice 1 (l.map strL), strL seps] = some (strL (rwB seps l)) := by
 have hm' := maxLen_le
 have sp : ∀ n : Int, 0 ≤ n → (R FT X).f 65 [strL seps, intA n] = some (strL (spA seps n.toNat)) := fun n hn => by
  obtain ⟨k, rfl⟩ : ∃ k : Nat, n = k := ⟨n.toNat, by omega⟩
  exact sep_run seps k hs
 refine R_wp ((Tr.inv (fun (k : Nat) ↦ St.mk [(0, AV.slice 1 (List.map strL l)), (1, strL seps), (5, strL (rwK seps l k)), (6, intA (↑k : Int))] []) (fun (k : Nat) ↦ k ≤ l.length) (fun (k : Nat) ↦ l.length - k) fun (k : Nat) ↦ (Tr.k l.length (((Tr.c (strL (spA seps ((↑k : Int) - 1).toNat)) (Tr.ix strL l k fun (x5 : Bs) ↦ Tr.nil.w.w).w).w.br (Tr.ix strL l k fun (x9 : Bs) ↦ Tr.nil.w.w)).w.w.w.br Tr.nil.w)).w).w) rfl ?_
 refine Eq.mpr (by kernel_rfl : _ = ((∃ (j1 : Nat), ((List.map strL l = List.map strL l ∧ seps = seps ∧ [] = rwK seps l j1 ∧ (0 : Int) = (↑j1 : Int) ∧ True) ∧ True) ∧ j1 ≤ l.length) ∧ ∀ (k : Nat), k ≤ l.length → (List.map strL l).length = l.length ∧ (decide ((↑k : Int) < (↑l.length : Int)) = true → (decide ((0 : Int) < (↑k : Int)) = true → InI64 ((↑k : Int) - 1) ∧ (R FT X).f 65 [strL seps, intA ((↑k : Int) - 1)] = some (strL (spA seps ((↑k : Int) - 1).toNat)) ∧ List.length (rwK seps l k) + List.length (spA seps ((↑k : Int) - 1).toNat) ≤ 9223372036854775807 ∧ List.map strL l = List.map strL l ∧ (↑k : Int) = (↑k : Int) ∧ k < l.length ∧ ∀ (x5 : Bs), l[k]? = some x5 → List.length (rwK seps l k ++ spA seps ((↑k : Int) - 1).toNat) + List.length x5 ≤ 9223372036854775807 ∧ InI64 ((↑k : Int) + 1) ∧ ∃ (j7 : Nat), ((List.map strL l = List.map strL l ∧ seps = seps ∧ rwK seps l k ++ spA seps ((↑k : Int) - 1).toNat ++ x5 = rwK seps l j7 ∧ (↑k : Int) + 1 = (↑j7 : Int) ∧ True) ∧ True) ∧ j7 ≤ l.length ∧ l.length - j7 < l.length - k) ∧ (decide ((0 : Int) < (↑k : Int)) = false → List.map strL l = List.map strL l ∧ (↑k : Int) = (↑k : Int) ∧ k < l.length
 ∧ ∀ (x9 : Bs), l[k]? = some x9 → List.length (rwK seps l k) + List.length x9 ≤ 9223372036854775807 ∧ InI64 ((↑k : Int) + 1) ∧ ∃ (j11 : Nat), ((List.map strL l = List.map strL l ∧ seps = seps ∧ rwK seps l k ++ x9 = rwK seps l j11 ∧ (↑k : Int) + 1 = (↑j11 : Int) ∧ True) ∧ True) ∧ j11 ≤ l.length ∧ l.length - j11 < l.length - k)) ∧ (decide ((↑k : Int) < (↑l.length : Int)) = false → List.length (rwK seps l k) + [(10 : UInt8)].length ≤ 9223372036854775807 ∧ rwK seps l k ++ [(10 : UInt8)] = rwB seps l))) ?_
 refine ⟨⟨(0 : Nat), ⟨⟨rfl, rfl, rfl, (by omega), trivial⟩, trivial⟩, (by omega)⟩, fun k => fun h2 => ⟨(by simp), fun h3_ => have h3 := dT h3_; ⟨fun h4_ => have h4 := dT h4_; ⟨(by unfold InI64; omega), (sp _ (by exact (by omega))), ?_, rfl, rfl, (by omega), fun x5 => fun h6 => ⟨?_, (by unfold InI64; omega), ⟨k + (1 : Nat), ⟨⟨rfl, rfl, ?_, (by omega), trivial⟩, trivial⟩, ⟨(by omega), (by omega)⟩⟩⟩⟩, fun h8_ => have h8 := dF h8_; ⟨rfl, rfl, (by omega), fun x9 => fun h10 => ⟨?_, (by unfold InI64; omega), ⟨k + (1 : Nat), ⟨⟨rfl, rfl, ?_, (by omega), trivial⟩, trivial⟩, ⟨(by omega), (by omega)⟩⟩⟩⟩⟩, fun h12_ => have h12 := dF h12_; ⟨?_, ?_⟩⟩⟩
 all_goals have hb := rwK_bd seps hl hn
 iterate 2
  ·have hx : l[k]? = some l[k] := List.getElem?_eq_getElem (by omega)
   have e := congrArg List.length (rwK_s (seps := seps) (l := l) (k := k) (by omega) hx)
   have hb1 := hb (k + 1) (by omega)
   try rw [same_at hx h6]
   rw [show ((k : Int) - 1).toNat = k - 1 by omega]
   simp only [List.length_append] at e ⊢
   omega
 ·rw [rwK_s (by omega) h6, show ((k : Int) - 1).toNat = k - 1 by omega]
 ·have e := congrArg List.length (rw1 (seps := seps) h10 h8)
  have hb1 := hb (k + 1) (by omega)
  simp only [List.length_append] at e
  omega
 ·rw [rw1 h10 h8]
 ·have := hb k h2; simp; omega
 ·rw [show k = l.length by omega]; rfl
theorem joinS_run (hB : BldC X) (l : List Bs) (seps : Bs) (hl : l.length ≤ 100000000) (hn : lensB l ≤ 100000000) (LS O : List AV) (n u : Nat) : (R FT X).m 47 [intA l.length, .fn (.func 49) [] [.ptr 6 0], .ptr 0 0] [.box 9 [strL seps], .row 0 1 LS true 1, .box 77 [.row 1 0 n 0 n], .row 0 1 O true 7, .box 71 [.any, .row 3 0 u 0 u], .row 0 1 [] true 1, .box 37 [.slice 1 (l.map strL)]] = some (strL (rwB seps l), [.box 9 [strL seps], .row 0 1 LS true 1, .box 77 [.row 1 0 n 0 n], .row 0 1 O true 7, .box 71 [.any, .row 3 0 u 0 u], .row 0 1 [] true 1, .box 37 [.slice 1 (l.map strL)], .row 1 1 [] true 7, .box 71 [.any, .row 7 0 (rwK seps l l.length).length 0 (rwK seps l l.length).length]]) := by
 have hm' := maxLen_le
 have cc := hB.cc
 have bs := hB.str
 refine RM_wp ((Tr.inv (fun (k : Nat) ↦ St.mk [(1, AV.fn (Fn.func 49) [] [AV.ptr 6 0]), (2, AV.ptr 0 0), (6, AV.ptr 8 0), (8, intA (↑l.length : Int)), (9, intA (↑k : Int))] [MObj.box 9 [strL seps], MObj.row 0 1 LS true (1 : Nat), MObj.box 77 [AV.row 1 0 n (0 : Nat) n], MObj.row 0 1 O true (7 : Nat), MObj.box 71 [AV.any, AV.row 3 0 u (0 : Nat) u], MObj.row 0 1 [] true (1 : Nat), MObj.box 37 [AV.slice 1 (List.map strL l)], MObj.row 0 1 (List.map u8A (rwK seps l k)) true (7 : Nat), MObj.box 71 [AV.any, AV.row 7 0 (List.length (rwK seps l k)) (0 : Nat) (List.length (rwK seps l k))]]) (fun (k : Nat) ↦ k ≤ l.length) (fun (k : Nat) ↦ l.length - k) fun (k : Nat) ↦ (((Tr.y (((↑k : Int) - 1).tmod (↑(List.length seps) : Int)).toNat fun (c6 : UInt8) ↦ (Tr.cm (AV.tuple []) [MObj.box 9 [strL seps], MObj.row 0 1 LS true (1 : Nat), MObj.box 77 [AV.row 1 0 n (0 : Nat) n], MObj.row 0
 (1 : Nat) O true (7 : Nat), MObj.box 71 [AV.any, AV.row 3 0 u (0 : Nat) u], MObj.row 0 1 [] true (1 : Nat), MObj.box 37 [AV.slice 1 (List.map strL l)], MObj.row 0 1 (List.map u8A (rwK seps l k)) true (7 : Nat), MObj.box 71 [AV.any, AV.row 7 0 (List.length (rwK seps l k)) (0 : Nat) (List.length (rwK seps l k))]] (Tr.k (List.length (rwK seps l k) + 1) (Tr.ix strL l k fun (x8 : Bs) ↦ (Tr.cm (AV.tuple []) [MObj.box 9 [strL seps], MObj.row 0 1 LS true (1 : Nat), MObj.box 77 [AV.row 1 0 n (0 : Nat) n], MObj.row 0 1 O true (7 : Nat), MObj.box 71 [AV.any, AV.row 3 0 u (0 : Nat) u], MObj.row 0 1 [] true (1 : Nat), MObj.box 37 [AV.slice 1 (List.map strL l)], MObj.row 0 1 (List.map u8A (rwK seps l k) ++ [u8A c6]) true (7 : Nat), MObj.box 71 [AV.any, AV.row 7 0 (List.length (rwK seps l k) + 1) (0 : Nat) (List.length (rwK seps l k) + 1)]] (Tr.k (List.length (rwK seps l k) + 1 + List.length x8) Tr.nil.w)).inl).inl)).inl).w.w.br
 (Tr.ix strL l k fun (x12 : Bs) ↦ (Tr.cm (AV.tuple []) [MObj.box 9 [strL seps], MObj.row 0 1 LS true (1 : Nat), MObj.box 77 [AV.row 1 0 n (0 : Nat) n], MObj.row 0 1 O true (7 : Nat), MObj.box 71 [AV.any, AV.row 3 0 u (0 : Nat) u], MObj.row 0 1 [] true (1 : Nat), MObj.box 37 [AV.slice 1 (List.map strL l)], MObj.row 0 1 (List.map u8A (rwK seps l k)) true (7 : Nat), MObj.box 71 [AV.any, AV.row 7 0 (List.length (rwK seps l k)) (0 : Nat) (List.length (rwK seps l k))]] (Tr.k (List.length (rwK seps l k) + List.length x12) Tr.nil.w)).inl).inl).w.br (Tr.b false (Tr.ix strL l k fun (x16 : Bs) ↦ (Tr.cm (AV.tuple []) [MObj.box 9 [strL seps], MObj.row 0 1 LS true (1 : Nat), MObj.box 77 [AV.row 1 0 n (0 : Nat) n], MObj.row 0 1 O true (7 : Nat), MObj.box 71 [AV.any, AV.row 3 0 u (0 : Nat) u], MObj.row 0 1 [] true (1 : Nat), MObj.box 37 [AV.slice 1 (List.map strL l)], MObj.row 0 1 (List.map u8A (rwK seps l k))
 true (7 : Nat), MObj.box 71 [AV.any, AV.row 7 0 (List.length (rwK seps l k)) (0 : Nat) (List.length (rwK seps l k))]] (Tr.k (List.length (rwK seps l k) + List.length x16) Tr.nil.w)).inl).inl).w).w.w.br (Tr.cm (strL (rwK seps l k)) [MObj.box 9 [strL seps], MObj.row 0 1 LS true (1 : Nat), MObj.box 77 [AV.row 1 0 n (0 : Nat) n], MObj.row 0 1 O true (7 : Nat), MObj.box 71 [AV.any, AV.row 3 0 u (0 : Nat) u], MObj.row 0 1 [] true (1 : Nat), MObj.box 37 [AV.slice 1 (List.map strL l)], MObj.row 1 1 [] true (7 : Nat), MObj.box 71 [AV.any, AV.row 7 0 (List.length (rwK seps l k)) (0 : Nat) (List.length (rwK seps l k))]] Tr.nil.w)).w) rfl ?_
 refine Eq.mpr (by kernel_rfl : _ = ((∃ (j1 : Nat), ((AV.fn (Fn.func 49) [] [AV.ptr 6 0] = AV.fn (Fn.func 49) [] [AV.ptr 6 0] ∧ True ∧ True ∧ (↑l.length : Int) = (↑l.length : Int) ∧ (0 : Int) = (↑j1 : Int) ∧ True) ∧ seps = seps ∧ LS = LS ∧ (n = n ∧ (0 : Nat) = 0 ∧ n = n) ∧ O = O ∧ (True ∧ u = u ∧ (0 : Nat) = 0 ∧ u = u) ∧ @List.nil AV = [] ∧ List.map strL l = List.map strL l ∧ [] = List.map u8A (rwK seps l j1) ∧ True ∧ (0 : Nat) = List.length (rwK seps l j1) ∧ (0 : Nat) = 0 ∧ (0 : Nat) = List.length (rwK seps l j1)) ∧ j1 ≤ l.length) ∧ ∀ (k : Nat), k ≤ l.length → (decide ((↑k : Int) < (↑l.length : Int)) = true → (decide ((0 : Int) < (↑k : Int)) = true → ((!decide (seps = [])) = true → InI64 ((↑k : Int) - 1) ∧ (↑(List.length seps) : Int) ≠ 0 ∧ ((↑k : Int) - 1).tmod (↑(List.length seps) : Int) = (↑(((↑k : Int) - 1).tmod (↑(List.length seps) : Int)).toNat : Int) ∧ (((↑k : Int) - 1).tmod (↑(List.length seps) : Int)).toNat < List.length seps ∧ ∀ (c6 : UInt8), seps[(((↑k : Int) - 1).tmod (↑(List.length seps) : Int)).toNat]? = some c6 → (R FT X).m 64 [AV.ptr 8 0] [MObj.box (9 :
 Nat) [strL seps], MObj.row 0 1 LS true (1 : Nat), MObj.box 77 [AV.row 1 0 n (0 : Nat) n], MObj.row 0 1 O true (7 : Nat), MObj.box 71 [AV.any, AV.row 3 0 u (0 : Nat) u], MObj.row 0 1 [] true (1 : Nat), MObj.box 37 [AV.slice 1 (List.map strL l)], MObj.row 0 1 (List.map u8A (rwK seps l k)) true (7 : Nat), MObj.box 71 [AV.any, AV.row 7 0 (List.length (rwK seps l k)) (0 : Nat) (List.length (rwK seps l k))]] = some (AV.tuple [], [MObj.box 9 [strL seps], MObj.row 0 1 LS true (1 : Nat), MObj.box 77 [AV.row 1 0 n (0 : Nat) n], MObj.row 0 1 O true (7 : Nat), MObj.box 71 [AV.any, AV.row 3 0 u (0 : Nat) u], MObj.row 0 1 [] true (1 : Nat), MObj.box 37 [AV.slice 1 (List.map strL l)], MObj.row 0 1 (List.map u8A (rwK seps l k)) true (7 : Nat), MObj.box 71 [AV.any, AV.row 7 0 (List.length (rwK seps l k)) (0 : Nat) (List.length (rwK seps l k))]]) ∧ (List.map u8A (rwK seps l k)).length = List.length
 (rwK seps l k) ∧ (0 : Nat) = 0 ∧ List.length (rwK seps l k) = List.length (rwK seps l k) ∧ List.length (rwK seps l k) + [u8A c6].length = List.length (rwK seps l k) + 1 ∧ (List.length (rwK seps l k) + 1) * 1 ≤ (140737488355328 : Nat) ∧ List.length (rwK seps l k) + 1 ≤ (9223372036854775807 : Nat) ∧ List.map strL l = List.map strL l ∧ (↑k : Int) = (↑k : Int) ∧ k < l.length ∧ ∀ (x8 : Bs), l[k]? = some x8 → (R FT X).m 64 [AV.ptr 8 0] [MObj.box 9 [strL seps], MObj.row 0 1 LS true (1 : Nat), MObj.box 77 [AV.row 1 0 n (0 : Nat) n], MObj.row 0 1 O true (7 : Nat), MObj.box 71 [AV.any, AV.row 3 0 u (0 : Nat) u], MObj.row 0 1 [] true (1 : Nat), MObj.box 37 [AV.slice 1 (List.map strL l)], MObj.row 0 1 (List.map u8A (rwK seps l k) ++ [u8A c6]) true (7 : Nat), MObj.box 71 [AV.any, AV.row 7 0 (List.length (rwK seps l k) + 1) (0 : Nat) (List.length (rwK seps l k) + 1)]] = some (AV.tuple [], [MObj.box 9 [strL seps], MObj.row 0 1 LS true
 (1 : Nat), MObj.box 77 [AV.row 1 0 n (0 : Nat) n], MObj.row 0 1 O true (7 : Nat), MObj.box 71 [AV.any, AV.row 3 0 u (0 : Nat) u], MObj.row 0 1 [] true (1 : Nat), MObj.box 37 [AV.slice 1 (List.map strL l)], MObj.row 0 1 (List.map u8A (rwK seps l k) ++ [u8A c6]) true (7 : Nat), MObj.box 71 [AV.any, AV.row 7 0 (List.length (rwK seps l k) + 1) (0 : Nat) (List.length (rwK seps l k) + 1)]]) ∧ (List.map u8A (rwK seps l k) ++ [u8A c6]).length = List.length (rwK seps l k) + 1 ∧ (0 : Nat) = 0 ∧ List.length (rwK seps l k) + 1 = List.length (rwK seps l k) + 1 ∧ List.length (rwK seps l k) + 1 + List.length x8 = List.length (rwK seps l k) + 1 + List.length x8 ∧ List.length (rwK seps l k) + 1 + List.length x8 ≤ 140737488355328 ∧ List.length (rwK seps l k) + 1 + List.length x8 ≤ 9223372036854775807 ∧ InI64 ((↑k : Int) + 1) ∧ ∃ (j10 : Nat), ((AV.fn (Fn.func 49) [] [AV.ptr 6 0] = AV.fn (Fn.func 49) [] [AV.ptr 6 0]
 ∧ True ∧ True ∧ (↑l.length : Int) = (↑l.length : Int) ∧ (↑k : Int) + 1 = (↑j10 : Int) ∧ True) ∧ seps = seps ∧ LS = LS ∧ (n = n ∧ (0 : Nat) = 0 ∧ n = n) ∧ O = O ∧ (True ∧ u = u ∧ (0 : Nat) = 0 ∧ u = u) ∧ @List.nil AV = [] ∧ List.map strL l = List.map strL l ∧ List.map u8A (rwK seps l k) ++ [u8A c6] ++ List.map u8A x8 = List.map u8A (rwK seps l j10) ∧ True ∧ List.length (rwK seps l k) + 1 + List.length x8 = List.length (rwK seps l j10) ∧ (0 : Nat) = 0 ∧ List.length (rwK seps l k) + 1 + List.length x8 = List.length (rwK seps l j10)) ∧ j10 ≤ l.length ∧ l.length - j10 < l.length - k) ∧ ((!decide (seps = [])) = false → List.map strL l = List.map strL l ∧ (↑k : Int) = (↑k : Int) ∧ k < l.length ∧ ∀ (x12 : Bs), l[k]? = some x12 → (R FT X).m 64 [AV.ptr 8 0] [MObj.box 9 [strL seps], MObj.row 0 1 LS true (1 : Nat), MObj.box 77 [AV.row 1 0 n (0 : Nat) n], MObj.row 0 1 O true (7 : Nat), MObj.box 71 [AV.any, AV.row 3 0 u (0 : Nat) u], MObj.row 0 1 [] true (1 : Nat), MObj.box 37 [AV.slice 1 (List.map strL l)],
 MObj.row 0 1 (List.map u8A (rwK seps l k)) true (7 : Nat), MObj.box 71 [AV.any, AV.row 7 0 (List.length (rwK seps l k)) (0 : Nat) (List.length (rwK seps l k))]] = some (AV.tuple [], [MObj.box 9 [strL seps], MObj.row 0 1 LS true (1 : Nat), MObj.box 77 [AV.row 1 0 n (0 : Nat) n], MObj.row 0 1 O true (7 : Nat), MObj.box 71 [AV.any, AV.row 3 0 u (0 : Nat) u], MObj.row 0 1 [] true (1 : Nat), MObj.box 37 [AV.slice 1 (List.map strL l)], MObj.row 0 1 (List.map u8A (rwK seps l k)) true (7 : Nat), MObj.box 71 [AV.any, AV.row 7 0 (List.length (rwK seps l k)) (0 : Nat) (List.length (rwK seps l k))]]) ∧ (List.map u8A (rwK seps l k)).length = List.length (rwK seps l k) ∧ (0 : Nat) = 0 ∧ List.length (rwK seps l k) = List.length (rwK seps l k) ∧ List.length (rwK seps l k) + List.length x12 = List.length (rwK seps l k) + List.length x12 ∧ List.length (rwK seps l k) + List.length x12 ≤ 140737488355328 ∧ List.length (rwK seps l k) + List.length x12 ≤ 9223372036854775807 ∧ InI64 ((↑k
 : Int) + 1) ∧ ∃ (j14 : Nat), ((AV.fn (Fn.func 49) [] [AV.ptr 6 0] = AV.fn (Fn.func 49) [] [AV.ptr 6 0] ∧ True ∧ True ∧ (↑l.length : Int) = (↑l.length : Int) ∧ (↑k : Int) + 1 = (↑j14 : Int) ∧ True) ∧ seps = seps ∧ LS = LS ∧ (n = n ∧ (0 : Nat) = 0 ∧ n = n) ∧ O = O ∧ (True ∧ u = u ∧ (0 : Nat) = 0 ∧ u = u) ∧ @List.nil AV = [] ∧ List.map strL l = List.map strL l ∧ List.map u8A (rwK seps l k) ++ List.map u8A x12 = List.map u8A (rwK seps l j14) ∧ True ∧ List.length (rwK seps l k) + List.length x12 = List.length (rwK seps l j14) ∧ (0 : Nat) = 0 ∧ List.length (rwK seps l k) + List.length x12 = List.length (rwK seps l j14)) ∧ j14 ≤ l.length ∧ l.length - j14 < l.length - k)) ∧ (decide ((0 : Int) < (↑k : Int)) = false → false = false ∧ List.map strL l = List.map strL l ∧ (↑k : Int) = (↑k : Int) ∧ k < l.length ∧ ∀ (x16 : Bs), l[k]? = some x16 → (R FT X).m 64 [AV.ptr 8 0] [MObj.box 9 [strL seps], MObj.row 0 1 LS true (1 : Nat), MObj.box 77 [AV.row 1 0 n (0 : Nat) n], MObj.row 0 1 O true (7 : Nat), MObj.box 71
 [AV.any, AV.row 3 0 u (0 : Nat) u], MObj.row 0 1 [] true (1 : Nat), MObj.box 37 [AV.slice 1 (List.map strL l)], MObj.row 0 1 (List.map u8A (rwK seps l k)) true (7 : Nat), MObj.box 71 [AV.any, AV.row 7 0 (List.length (rwK seps l k)) (0 : Nat) (List.length (rwK seps l k))]] = some (AV.tuple [], [MObj.box 9 [strL seps], MObj.row 0 1 LS true (1 : Nat), MObj.box 77 [AV.row 1 0 n (0 : Nat) n], MObj.row 0 1 O true (7 : Nat), MObj.box 71 [AV.any, AV.row 3 0 u (0 : Nat) u], MObj.row 0 1 [] true (1 : Nat), MObj.box 37 [AV.slice 1 (List.map strL l)], MObj.row 0 1 (List.map u8A (rwK seps l k)) true (7 : Nat), MObj.box 71 [AV.any, AV.row 7 0 (List.length (rwK seps l k)) (0 : Nat) (List.length (rwK seps l k))]]) ∧ (List.map u8A (rwK seps l k)).length = List.length (rwK seps l k) ∧ (0 : Nat) = 0 ∧ List.length (rwK seps l k) = List.length (rwK seps l k) ∧ List.length (rwK seps l k) + List.length x16 = List.length (rwK seps l k) + List.length x16 ∧
 List.length (rwK seps l k) + List.length x16 ≤ 140737488355328 ∧ List.length (rwK seps l k) + List.length x16 ≤ 9223372036854775807 ∧ InI64 ((↑k : Int) + 1) ∧ ∃ (j18 : Nat), ((AV.fn (Fn.func 49) [] [AV.ptr 6 0] = AV.fn (Fn.func 49) [] [AV.ptr 6 0] ∧ True ∧ True ∧ (↑l.length : Int) = (↑l.length : Int) ∧ (↑k : Int) + 1 = (↑j18 : Int) ∧ True) ∧ seps = seps ∧ LS = LS ∧ (n = n ∧ (0 : Nat) = 0 ∧ n = n) ∧ O = O ∧ (True ∧ u = u ∧ (0 : Nat) = 0 ∧ u = u) ∧ @List.nil AV = [] ∧ List.map strL l = List.map strL l ∧ List.map u8A (rwK seps l k) ++ List.map u8A x16 = List.map u8A (rwK seps l j18) ∧ True ∧ List.length (rwK seps l k) + List.length x16 = List.length (rwK seps l j18) ∧ (0 : Nat) = 0 ∧ List.length (rwK seps l k) + List.length x16 = List.length (rwK seps l j18)) ∧ j18 ≤ l.length ∧ l.length - j18 < l.length - k)) ∧ (decide ((↑k : Int) < (↑l.length : Int)) = false → (R FT X).m 46 [AV.ptr 8 0] [MObj.box 9 [strL seps], MObj.row 0 1 LS true (1 : Nat), MObj.box 77 [AV.row 1 0 n (0 : Nat) n], MObj.row 0 (1
 : Nat) O true (7 : Nat), MObj.box 71 [AV.any, AV.row 3 0 u (0 : Nat) u], MObj.row 0 1 [] true (1 : Nat), MObj.box 37 [AV.slice 1 (List.map strL l)], MObj.row 0 1 (List.map u8A (rwK seps l k)) true (7 : Nat), MObj.box 71 [AV.any, AV.row 7 0 (List.length (rwK seps l k)) (0 : Nat) (List.length (rwK seps l k))]] = some (strL (rwK seps l k), [MObj.box 9 [strL seps], MObj.row 0 1 LS true (1 : Nat), MObj.box 77 [AV.row 1 0 n (0 : Nat) n], MObj.row 0 1 O true (7 : Nat), MObj.box 71 [AV.any, AV.row 3 0 u (0 : Nat) u], MObj.row 0 1 [] true (1 : Nat), MObj.box 37 [AV.slice 1 (List.map strL l)], MObj.row 1 1 [] true (7 : Nat), MObj.box 71 [AV.any, AV.row 7 0 (List.length (rwK seps l k)) (0 : Nat) (List.length (rwK seps l k))]]) ∧ List.length (rwK seps l k) + [(10 : UInt8)].length ≤ 9223372036854775807 ∧ rwK seps l k ++ [(10 : UInt8)] = rwB seps l ∧ seps = seps ∧ LS = LS ∧ (n = n ∧ (0 : Nat) = 0 ∧ n = n) ∧ O = O ∧ (True ∧ u = u
 ∧ (0 : Nat) = 0 ∧ u = u) ∧ @List.nil AV = [] ∧ List.map strL l = List.map strL l ∧ @List.nil AV = [] ∧ True ∧ List.length (rwK seps l k) = List.length (rwK seps l l.length) ∧ (0 : Nat) = 0 ∧ List.length (rwK seps l k) = List.length (rwK seps l l.length)))) ?_
 refine ⟨⟨(0 : Nat), ⟨⟨rfl, trivial, trivial, rfl, (by omega), trivial⟩, rfl, rfl, ⟨rfl, rfl, rfl⟩, rfl, ⟨trivial, rfl, rfl, rfl⟩, rfl, rfl, rfl, trivial, rfl, rfl, rfl⟩, (by omega)⟩, fun k => fun h2 => ⟨fun h3_ => have h3 := dT h3_; ⟨fun h4_ => have h4 := dT h4_; ⟨fun h5_ => have h5 := dnT h5_; ⟨(by unfold InI64; omega), (by simp; omega), ?_, ?_, fun c6 => fun h7 => ⟨(cc _ _ (by exact rfl)), (by simp), rfl, rfl, rfl, ?_, ?_, rfl, rfl, (by omega), fun x8 => fun h9 => ⟨(cc _ _ (by exact rfl)), (by simp), rfl, rfl, rfl, ?_, ?_, (by unfold InI64; omega), ⟨k + (1 : Nat), ⟨⟨rfl, trivial, trivial, rfl, (by omega), trivial⟩, rfl, rfl, ⟨rfl, rfl, rfl⟩, rfl, ⟨trivial, rfl, rfl, rfl⟩, rfl, rfl, ?_, trivial, ?_, rfl, ?_⟩, ⟨(by omega), (by omega)⟩⟩⟩⟩⟩, fun h11_ => have h11 := dnF h11_; ⟨rfl, rfl, (by omega), fun x12 => fun h13 => ⟨(cc _ _ (by exact rfl)), (by simp), rfl, rfl, rfl, ?_, ?_, (by unfold InI64; omega), ⟨k + (1 : Nat), ⟨⟨rfl, trivial, trivial, rfl, (by omega), trivial⟩, rfl, rfl, ⟨rfl, rfl, rfl⟩, rfl, ⟨trivial, rfl, rfl, rfl⟩, rfl, rfl, ?_, trivial, ?_, rfl, ?_⟩, ⟨(by omega), (by omega)⟩⟩⟩⟩⟩, fun h15_ => have h15 := dF h15_; ⟨rfl, rfl, rfl, (by omega), fun x16 => fun h17 => ⟨(cc _ _ (by exact rfl)), (by simp), rfl, rfl, rfl, ?_, ?_, (by unfold InI64; omega), ⟨k + (1 : Nat), ⟨⟨rfl, trivial, trivial, rfl, (by omega), trivial⟩, rfl, rfl, ⟨rfl, rfl, rfl⟩, rfl, ⟨trivial, rfl, rfl, rfl⟩, rfl, rfl, ?_, trivial, ?_, rfl, ?_⟩, ⟨(by omega), (by omega)⟩⟩⟩⟩⟩, fun h19_ => have h19 := dF h19_; ⟨(bs _ _ _ _ _ _ _ _ _ _ (by exact rfl) (by exact rfl) (by exact (by simp)) (by exact (bytesV_map _)) ?_ (by exact rfl)), ?_, ?_, rfl, rfl, ⟨rfl, rfl, rfl⟩, rfl, ⟨trivial, rfl, rfl, rfl⟩, rfl, rfl, rfl, trivial, ?_, rfl, ?_⟩⟩⟩
 all_goals have hb := rwK_bd seps hl hn
 iterate 2 · have q := sp_atI h5 h4; omega
 iterate 2
  ·have hb1 := hb k h2; omega
 iterate 2
  ·have e := congrArg List.length (rw3 h9 h5 h4 h7)
   have hb1 := hb (k + 1) (by omega)
   simp only [List.length_append, List.length_singleton] at e
   omega
 ·rw [rw3 h9 h5 h4 h7, List.map_append, List.map_append]; rfl
 iterate 2 · rw [rw3 h9 h5 h4 h7]; simp only [List.length_append, List.length_singleton]
 iterate 2
  ·have e := congrArg List.length (rw2 h13 h11 h4)
   have hb1 := hb (k + 1) (by omega)
   simp only [List.length_append, List.length_singleton] at e
   omega
 ·rw [rw2 h13 h11 h4]; simp
 iterate 2 · rw [rw2 h13 h11 h4]; simp only [List.length_append, List.length_singleton]
 iterate 2
  ·have e := congrArg List.length (rw1 (seps := seps) h17 h15)
   have hb1 := hb (k + 1) (by omega)
   simp only [List.length_append, List.length_singleton] at e
   omega
 ·rw [rw1 h17 h15]; simp
 iterate 2 · rw [rw1 h17 h15]; simp only [List.length_append, List.length_singleton]
 ·have := hb k h2; omega
 ·have := hb k h2; simp; omega
 all_goals (obtain rfl : k = l.length := by omega)
 all_goals rfl
theorem joinP_run (hB : BldC X) (ls : List (List Bs)) (i : Nat) (seps : Bs) (hl : ls.length ≤ 100000000) (hi : i ≤ 100000000) (hn : lensB (colm ls i) ≤ 100000000) (O : List AV) (u : Nat) : (R FT X).m 47 [intA ls.length, .fn (.func 50) [] [.ptr 5 0, .ptr 2 0], .ptr 0 0] [.box 9 [strL seps], .row 0 1 (ls.map fun l => .slice 1 (l.map strL)) true 1, .box 77 [.row 1 0 ls.length 0 ls.length], .row 0 1 O true 7, .box 71 [.any, .row 3 0 u 0 u], .box 3 [intA i]] = some (strL (rwB seps (colm ls i)), [.box 9 [strL seps], .row 0 1 (ls.map fun l => .slice 1 (l.map strL)) true 1, .box 77 [.row 1 0 ls.length 0 ls.length], .row 0 1 O true 7, .box 71 [.any, .row 3 0 u 0 u], .box 3 [intA i], .row 1 1 [] true 7, .box 71 [.any, .row 6 0 (rwK seps (colm ls i) ls.length).length 0 (rwK seps (colm ls i) ls.length).length]]) := by
 have hm' := maxLen_le
 have cc := hB.cc
 have bs := hB.str
 refine RM_wp ((Tr.inv (fun (k : Nat) ↦ St.mk [(1, AV.fn (Fn.func 50) [] [AV.ptr 5 0, AV.ptr 2 0]), (2, AV.ptr 0 0), (6, AV.ptr 7 0), (8, intA (↑ls.length : Int)), (9, intA (↑k : Int))] [MObj.box 9 [strL seps], MObj.row 0 1 (List.map (fun (l : List Bs) ↦ AV.slice 1 (List.map strL l)) ls) true (1 : Nat), MObj.box 77 [AV.row 1 0 ls.length (0 : Nat) ls.length], MObj.row 0 1 O true (7 : Nat), MObj.box 71 [AV.any, AV.row 3 0 u (0 : Nat) u], MObj.box 3 [intA (↑i : Int)], MObj.row 0 1 (List.map u8A (rwK seps (colm ls i) k)) true (7 : Nat), MObj.box 71 [AV.any, AV.row 6 0 (List.length (rwK seps (colm ls i) k)) (0 : Nat) (List.length (rwK seps (colm ls i) k))]]) (fun (k : Nat) ↦ k ≤ ls.length) (fun (k : Nat) ↦ ls.length - k) fun (k : Nat) ↦ (((Tr.y (((↑k : Int) - 1).tmod (↑(List.length seps) : Int)).toNat fun (c6 : UInt8) ↦ (Tr.cm (AV.tuple []) [MObj.box 9 [strL seps], MObj.row 0 1 (List.map (fun (l : List
 Bs) ↦ AV.slice 1 (List.map strL l)) ls) true (1 : Nat), MObj.box 77 [AV.row 1 0 ls.length (0 : Nat) ls.length], MObj.row 0 1 O true (7 : Nat), MObj.box 71 [AV.any, AV.row 3 0 u (0 : Nat) u], MObj.box 3 [intA (↑i : Int)], MObj.row 0 1 (List.map u8A (rwK seps (colm ls i) k)) true (7 : Nat), MObj.box 71 [AV.any, AV.row 6 0 (List.length (rwK seps (colm ls i) k)) (0 : Nat) (List.length (rwK seps (colm ls i) k))]] (Tr.k (List.length (rwK seps (colm ls i) k) + 1) (Tr.k k (Tr.ix (fun (l : List Bs) ↦ AV.slice 1 (List.map strL l)) ls ((0 : Nat) + k) fun (x8 : List Bs) ↦ Tr.k x8.length ((Tr.k k (Tr.ix (fun (l : List Bs) ↦ AV.slice 1 (List.map strL l)) ls ((0 : Nat) + k) fun (x11 : List Bs) ↦ Tr.ix strL x11 i fun (x13 : Bs) ↦ (Tr.cm (AV.tuple []) [MObj.box 9 [strL seps], MObj.row 0 1 (List.map (fun (l : List Bs) ↦ AV.slice 1 (List.map strL l)) ls) true (1 : Nat), MObj.box 77 [AV.row 1 0 ls.length (0 : Nat) ls.length], MObj.row 0 1 O true (7 : Nat), MObj.box 71 [AV.any, AV.row
 (3 : Nat) (0 : Nat) u (0 : Nat) u], MObj.box 3 [intA (↑i : Int)], MObj.row 0 1 (List.map u8A (rwK seps (colm ls i) k) ++ [u8A c6]) true (7 : Nat), MObj.box 71 [AV.any, AV.row 6 0 (List.length (rwK seps (colm ls i) k) + 1) (0 : Nat) (List.length (rwK seps (colm ls i) k) + 1)]] (Tr.k (List.length (rwK seps (colm ls i) k) + 1 + List.length x13) Tr.nil.w)).inl)).br (Tr.cm (AV.tuple []) [MObj.box 9 [strL seps], MObj.row 0 1 (List.map (fun (l : List Bs) ↦ AV.slice 1 (List.map strL l)) ls) true (1 : Nat), MObj.box 77 [AV.row 1 0 ls.length (0 : Nat) ls.length], MObj.row 0 1 O true (7 : Nat), MObj.box 71 [AV.any, AV.row 3 0 u (0 : Nat) u], MObj.box 3 [intA (↑i : Int)], MObj.row 0 1 (List.map u8A (rwK seps (colm ls i) k) ++ [u8A c6]) true (7 : Nat), MObj.box 71 [AV.any, AV.row 6 0 (List.length (rwK seps (colm ls i) k) + 1) (0 : Nat) (List.length (rwK seps (colm ls i) k) + 1)]] (Tr.k (List.length (rwK seps (colm ls i) k) + 1) Tr.nil.w)).inl).w)).w.inl)).inl).w.w.br
 (Tr.k k (Tr.ix (fun (l : List Bs) ↦ AV.slice 1 (List.map strL l)) ls ((0 : Nat) + k) fun (x19 : List Bs) ↦ Tr.k x19.length ((Tr.k k (Tr.ix (fun (l : List Bs) ↦ AV.slice 1 (List.map strL l)) ls ((0 : Nat) + k) fun (x22 : List Bs) ↦ Tr.ix strL x22 i fun (x24 : Bs) ↦ (Tr.cm (AV.tuple []) [MObj.box 9 [strL seps], MObj.row 0 1 (List.map (fun (l : List Bs) ↦ AV.slice 1 (List.map strL l)) ls) true (1 : Nat), MObj.box 77 [AV.row 1 0 ls.length (0 : Nat) ls.length], MObj.row 0 1 O true (7 : Nat), MObj.box 71 [AV.any, AV.row 3 0 u (0 : Nat) u], MObj.box 3 [intA (↑i : Int)], MObj.row 0 1 (List.map u8A (rwK seps (colm ls i) k)) true (7 : Nat), MObj.box 71 [AV.any, AV.row 6 0 (List.length (rwK seps (colm ls i) k)) (0 : Nat) (List.length (rwK seps (colm ls i) k))]] (Tr.k (List.length (rwK seps (colm ls i) k) + List.length x24) Tr.nil.w)).inl)).br (Tr.cm (AV.tuple []) [MObj.box 9 [strL seps], MObj.row 0 1 (List.map (fun (l : List Bs) ↦ AV.slice 1 (List.map strL l)) ls) true (1 : Nat), MObj.box 77 [AV.row
 (1 : Nat) (0 : Nat) ls.length (0 : Nat) ls.length], MObj.row 0 1 O true (7 : Nat), MObj.box 71 [AV.any, AV.row 3 0 u (0 : Nat) u], MObj.box 3 [intA (↑i : Int)], MObj.row 0 1 (List.map u8A (rwK seps (colm ls i) k)) true (7 : Nat), MObj.box 71 [AV.any, AV.row 6 0 (List.length (rwK seps (colm ls i) k)) (0 : Nat) (List.length (rwK seps (colm ls i) k))]] (Tr.k (List.length (rwK seps (colm ls i) k)) Tr.nil.w)).inl).w)).w.inl).w.br (Tr.b false (Tr.k k (Tr.ix (fun (l : List Bs) ↦ AV.slice 1 (List.map strL l)) ls ((0 : Nat) + k) fun (x30 : List Bs) ↦ Tr.k x30.length ((Tr.k k (Tr.ix (fun (l : List Bs) ↦ AV.slice 1 (List.map strL l)) ls ((0 : Nat) + k) fun (x33 : List Bs) ↦ Tr.ix strL x33 i fun (x35 : Bs) ↦ (Tr.cm (AV.tuple []) [MObj.box 9 [strL seps], MObj.row 0 1 (List.map (fun (l : List Bs) ↦ AV.slice 1 (List.map strL l)) ls) true (1 : Nat), MObj.box 77 [AV.row 1 0 ls.length (0 : Nat) ls.length], MObj.row 0 1 O true (7 : Nat), MObj.box 71 [AV.any, AV.row 3 0 u (0 : Nat) u], MObj.box 3 [intA
 (↑i : Int)], MObj.row 0 1 (List.map u8A (rwK seps (colm ls i) k)) true (7 : Nat), MObj.box 71 [AV.any, AV.row 6 0 (List.length (rwK seps (colm ls i) k)) (0 : Nat) (List.length (rwK seps (colm ls i) k))]] (Tr.k (List.length (rwK seps (colm ls i) k) + List.length x35) Tr.nil.w)).inl)).br (Tr.cm (AV.tuple []) [MObj.box 9 [strL seps], MObj.row 0 1 (List.map (fun (l : List Bs) ↦ AV.slice 1 (List.map strL l)) ls) true (1 : Nat), MObj.box 77 [AV.row 1 0 ls.length (0 : Nat) ls.length], MObj.row 0 1 O true (7 : Nat), MObj.box 71 [AV.any, AV.row 3 0 u (0 : Nat) u], MObj.box 3 [intA (↑i : Int)], MObj.row 0 1 (List.map u8A (rwK seps (colm ls i) k)) true (7 : Nat), MObj.box 71 [AV.any, AV.row 6 0 (List.length (rwK seps (colm ls i) k)) (0 : Nat) (List.length (rwK seps (colm ls i) k))]] (Tr.k (List.length (rwK seps (colm ls i) k)) Tr.nil.w)).inl).w)).w.inl).w).w.w.br (Tr.cm (strL (rwK seps (colm ls i) k)) [MObj.box 9 [strL seps], MObj.row 0 1 (List.map (fun (l : List Bs) ↦ AV.slice 1 (List.map
 strL l)) ls) true (1 : Nat), MObj.box 77 [AV.row 1 0 ls.length (0 : Nat) ls.length], MObj.row 0 1 O true (7 : Nat), MObj.box 71 [AV.any, AV.row 3 0 u (0 : Nat) u], MObj.box 3 [intA (↑i : Int)], MObj.row 1 1 [] true (7 : Nat), MObj.box 71 [AV.any, AV.row 6 0 (List.length (rwK seps (colm ls i) k)) (0 : Nat) (List.length (rwK seps (colm ls i) k))]] Tr.nil.w)).w) rfl ?_
 refine Eq.mpr (by kernel_rfl : _ = ((∃ (j1 : Nat), ((AV.fn (Fn.func 50) [] [AV.ptr 5 0, AV.ptr 2 0] = AV.fn (Fn.func 50) [] [AV.ptr 5 0, AV.ptr 2 0] ∧ True ∧ True ∧ (↑ls.length : Int) = (↑ls.length : Int) ∧ (0 : Int) = (↑j1 : Int) ∧ True) ∧ seps = seps ∧ List.map (fun (l : List Bs) ↦ AV.slice 1 (List.map strL l)) ls = List.map (fun (l : List Bs) ↦ AV.slice 1 (List.map strL l)) ls ∧ (ls.length = ls.length ∧ (0 : Nat) = 0 ∧ ls.length = ls.length) ∧ O = O ∧ (True ∧ u = u ∧ (0 : Nat) = 0 ∧ u = u) ∧ (↑i : Int) = (↑i : Int) ∧ [] = List.map u8A (rwK seps (colm ls i) j1) ∧ True ∧ (0 : Nat) = List.length (rwK seps (colm ls i) j1) ∧ (0 : Nat) = 0 ∧ (0 : Nat) = List.length (rwK seps (colm ls i) j1)) ∧ j1 ≤ ls.length) ∧ ∀ (k : Nat), k ≤ ls.length → (decide ((↑k : Int) < (↑ls.length : Int)) = true → (decide ((0 : Int) < (↑k : Int)) = true → ((!decide (seps = [])) = true → InI64 ((↑k : Int) - 1) ∧ (↑(List.length seps) : Int) ≠ 0 ∧ ((↑k : Int) - 1).tmod (↑(List.length seps) : Int) = (↑(((↑k : Int) - 1).tmod (↑(List.length seps) : Int)).toNat : Int) ∧ (((↑k : Int) - 1).tmod
 (↑(List.length seps) : Int)).toNat < List.length seps ∧ ∀ (c6 : UInt8), seps[(((↑k : Int) - 1).tmod (↑(List.length seps) : Int)).toNat]? = some c6 → (R FT X).m 64 [AV.ptr 7 0] [MObj.box 9 [strL seps], MObj.row 0 1 (List.map (fun (l : List Bs) ↦ AV.slice 1 (List.map strL l)) ls) true (1 : Nat), MObj.box 77 [AV.row 1 0 ls.length (0 : Nat) ls.length], MObj.row 0 1 O true (7 : Nat), MObj.box 71 [AV.any, AV.row 3 0 u (0 : Nat) u], MObj.box 3 [intA (↑i : Int)], MObj.row 0 1 (List.map u8A (rwK seps (colm ls i) k)) true (7 : Nat), MObj.box 71 [AV.any, AV.row 6 0 (List.length (rwK seps (colm ls i) k)) (0 : Nat) (List.length (rwK seps (colm ls i) k))]] = some (AV.tuple [], [MObj.box 9 [strL seps], MObj.row 0 1 (List.map (fun (l : List Bs) ↦ AV.slice 1 (List.map strL l)) ls) true (1 : Nat), MObj.box 77 [AV.row 1 0 ls.length (0 : Nat) ls.length], MObj.row 0 1 O true (7 : Nat), MObj.box 71 [AV.any, AV.row 3 0 u (0 : Nat) u],
 MObj.box 3 [intA (↑i : Int)], MObj.row 0 1 (List.map u8A (rwK seps (colm ls i) k)) true (7 : Nat), MObj.box 71 [AV.any, AV.row 6 0 (List.length (rwK seps (colm ls i) k)) (0 : Nat) (List.length (rwK seps (colm ls i) k))]]) ∧ (List.map u8A (rwK seps (colm ls i) k)).length = List.length (rwK seps (colm ls i) k) ∧ (0 : Nat) = 0 ∧ List.length (rwK seps (colm ls i) k) = List.length (rwK seps (colm ls i) k) ∧ List.length (rwK seps (colm ls i) k) + [u8A c6].length = List.length (rwK seps (colm ls i) k) + 1 ∧ (List.length (rwK seps (colm ls i) k) + 1) * 1 ≤ (140737488355328 : Nat) ∧ List.length (rwK seps (colm ls i) k) + 1 ≤ (9223372036854775807 : Nat) ∧ (List.map (fun (l : List Bs) ↦ AV.slice 1 (List.map strL l)) ls).length = ls.length ∧ (↑k : Int) = (↑k : Int) ∧ k < ls.length ∧ List.map (fun (l : List Bs) ↦ AV.slice 1 (List.map strL l)) ls = List.map (fun (l : List Bs) ↦ AV.slice 1 (List.map strL l)) ls ∧ (List.map (fun (l : List Bs) ↦ AV.slice 1 (List.map strL l)) ls).length = ls.length ∧ (0 : Nat) + k = 0 + k ∧ (0 : Nat) + k < ls.length ∧ ∀ (x8 : List Bs), ls[(0
 : Nat) + k]? = some x8 → (List.map strL x8).length = x8.length ∧ (decide ((↑i : Int) < (↑x8.length : Int)) = true → (List.map (fun (l : List Bs) ↦ AV.slice 1 (List.map strL l)) ls).length = ls.length ∧ (↑k : Int) = (↑k : Int) ∧ k < ls.length ∧ List.map (fun (l : List Bs) ↦ AV.slice 1 (List.map strL l)) ls = List.map (fun (l : List Bs) ↦ AV.slice 1 (List.map strL l)) ls ∧ (List.map (fun (l : List Bs) ↦ AV.slice 1 (List.map strL l)) ls).length = ls.length ∧ (0 : Nat) + k = 0 + k ∧ (0 : Nat) + k < ls.length ∧ ∀ (x11 : List Bs), ls[(0 : Nat) + k]? = some x11 → List.map strL x11 = List.map strL x11 ∧ (↑i : Int) = (↑i : Int) ∧ i < x11.length ∧ ∀ (x13 : Bs), x11[i]? = some x13 → (R FT X).m 64 [AV.ptr 7 0] [MObj.box 9 [strL seps], MObj.row 0 1 (List.map (fun (l : List Bs) ↦ AV.slice 1 (List.map strL l)) ls) true (1 : Nat), MObj.box 77 [AV.row 1 0 ls.length (0 : Nat) ls.length], MObj.row 0 1 O true (7 : Nat), MObj.box 71 [AV.any, AV.row 3 0 u (0 : Nat) u], MObj.box 3 [intA (↑i : Int)], MObj.row 0 1 (List.map
 u8A (rwK seps (colm ls i) k) ++ [u8A c6]) true (7 : Nat), MObj.box 71 [AV.any, AV.row 6 0 (List.length (rwK seps (colm ls i) k) + 1) (0 : Nat) (List.length (rwK seps (colm ls i) k) + 1)]] = some (AV.tuple [], [MObj.box 9 [strL seps], MObj.row 0 1 (List.map (fun (l : List Bs) ↦ AV.slice 1 (List.map strL l)) ls) true (1 : Nat), MObj.box 77 [AV.row 1 0 ls.length (0 : Nat) ls.length], MObj.row 0 1 O true (7 : Nat), MObj.box 71 [AV.any, AV.row 3 0 u (0 : Nat) u], MObj.box 3 [intA (↑i : Int)], MObj.row 0 1 (List.map u8A (rwK seps (colm ls i) k) ++ [u8A c6]) true (7 : Nat), MObj.box 71 [AV.any, AV.row 6 0 (List.length (rwK seps (colm ls i) k) + 1) (0 : Nat) (List.length (rwK seps (colm ls i) k) + 1)]]) ∧ (List.map u8A (rwK seps (colm ls i) k) ++ [u8A c6]).length = List.length (rwK seps (colm ls i) k) + 1 ∧ (0 : Nat) = 0 ∧ List.length (rwK seps (colm ls i) k) + 1 = List.length (rwK seps (colm ls i) k) + 1 ∧ List.length (rwK seps (colm ls i) k) + 1 + List.length
 x13 = List.length (rwK seps (colm ls i) k) + 1 + List.length x13 ∧ List.length (rwK seps (colm ls i) k) + 1 + List.length x13 ≤ 140737488355328 ∧ List.length (rwK seps (colm ls i) k) + 1 + List.length x13 ≤ 9223372036854775807 ∧ InI64 ((↑k : Int) + 1) ∧ ∃ (j15 : Nat), ((AV.fn (Fn.func 50) [] [AV.ptr 5 0, AV.ptr 2 0] = AV.fn (Fn.func 50) [] [AV.ptr 5 0, AV.ptr 2 0] ∧ True ∧ True ∧ (↑ls.length : Int) = (↑ls.length : Int) ∧ (↑k : Int) + 1 = (↑j15 : Int) ∧ True) ∧ seps = seps ∧ List.map (fun (l : List Bs) ↦ AV.slice 1 (List.map strL l)) ls = List.map (fun (l : List Bs) ↦ AV.slice 1 (List.map strL l)) ls ∧ (ls.length = ls.length ∧ (0 : Nat) = 0 ∧ ls.length = ls.length) ∧ O = O ∧ (True ∧ u = u ∧ (0 : Nat) = 0 ∧ u = u) ∧ (↑i : Int) = (↑i : Int) ∧ List.map u8A (rwK seps (colm ls i) k) ++ [u8A c6] ++ List.map u8A x13 = List.map u8A (rwK seps (colm ls i) j15) ∧ True ∧ List.length (rwK seps (colm ls i) k) + 1 + List.length x13 = List.length (rwK seps (colm ls i) j15) ∧ (0 : Nat) = 0 ∧ List.length (rwK seps
 (colm ls i) k) + 1 + List.length x13 = List.length (rwK seps (colm ls i) j15)) ∧ j15 ≤ ls.length ∧ ls.length - j15 < ls.length - k) ∧ (decide ((↑i : Int) < (↑x8.length : Int)) = false → (R FT X).m 64 [AV.ptr 7 0] [MObj.box 9 [strL seps], MObj.row 0 1 (List.map (fun (l : List Bs) ↦ AV.slice 1 (List.map strL l)) ls) true (1 : Nat), MObj.box 77 [AV.row 1 0 ls.length (0 : Nat) ls.length], MObj.row 0 1 O true (7 : Nat), MObj.box 71 [AV.any, AV.row 3 0 u (0 : Nat) u], MObj.box 3 [intA (↑i : Int)], MObj.row 0 1 (List.map u8A (rwK seps (colm ls i) k) ++ [u8A c6]) true (7 : Nat), MObj.box 71 [AV.any, AV.row 6 0 (List.length (rwK seps (colm ls i) k) + 1) (0 : Nat) (List.length (rwK seps (colm ls i) k) + 1)]] = some (AV.tuple [], [MObj.box 9 [strL seps], MObj.row 0 1 (List.map (fun (l : List Bs) ↦ AV.slice 1 (List.map strL l)) ls) true (1 : Nat), MObj.box 77 [AV.row 1 0 ls.length (0 : Nat) ls.length], MObj.row 0 1 O true (7 : Nat),
 MObj.box 71 [AV.any, AV.row 3 0 u (0 : Nat) u], MObj.box 3 [intA (↑i : Int)], MObj.row 0 1 (List.map u8A (rwK seps (colm ls i) k) ++ [u8A c6]) true (7 : Nat), MObj.box 71 [AV.any, AV.row 6 0 (List.length (rwK seps (colm ls i) k) + 1) (0 : Nat) (List.length (rwK seps (colm ls i) k) + 1)]]) ∧ (List.map u8A (rwK seps (colm ls i) k) ++ [u8A c6]).length = List.length (rwK seps (colm ls i) k) + 1 ∧ (0 : Nat) = 0 ∧ List.length (rwK seps (colm ls i) k) + 1 = List.length (rwK seps (colm ls i) k) + 1 ∧ List.length (rwK seps (colm ls i) k) + 1 + (@List.nil UInt8).length = List.length (rwK seps (colm ls i) k) + 1 ∧ List.length (rwK seps (colm ls i) k) + 1 ≤ (140737488355328 : Nat) ∧ List.length (rwK seps (colm ls i) k) + 1 ≤ (9223372036854775807 : Nat) ∧ InI64 ((↑k : Int) + 1) ∧ ∃ (j17 : Nat), ((AV.fn (Fn.func 50) [] [AV.ptr 5 0, AV.ptr 2 0] = AV.fn (Fn.func 50) [] [AV.ptr 5 0, AV.ptr 2 0] ∧ True ∧ True ∧ (↑ls.length : Int) = (↑ls.length : Int) ∧ (↑k :
 Int) + 1 = (↑j17 : Int) ∧ True) ∧ seps = seps ∧ List.map (fun (l : List Bs) ↦ AV.slice 1 (List.map strL l)) ls = List.map (fun (l : List Bs) ↦ AV.slice 1 (List.map strL l)) ls ∧ (ls.length = ls.length ∧ (0 : Nat) = 0 ∧ ls.length = ls.length) ∧ O = O ∧ (True ∧ u = u ∧ (0 : Nat) = 0 ∧ u = u) ∧ (↑i : Int) = (↑i : Int) ∧ List.map u8A (rwK seps (colm ls i) k) ++ [u8A c6] ++ List.map u8A [] = List.map u8A (rwK seps (colm ls i) j17) ∧ True ∧ List.length (rwK seps (colm ls i) k) + 1 = List.length (rwK seps (colm ls i) j17) ∧ (0 : Nat) = 0 ∧ List.length (rwK seps (colm ls i) k) + 1 = List.length (rwK seps (colm ls i) j17)) ∧ j17 ≤ ls.length ∧ ls.length - j17 < ls.length - k)) ∧ ((!decide (seps = [])) = false → (List.map (fun (l : List Bs) ↦ AV.slice 1 (List.map strL l)) ls).length = ls.length ∧ (↑k : Int) = (↑k : Int) ∧ k < ls.length ∧ List.map (fun (l : List Bs) ↦ AV.slice 1 (List.map strL l)) ls = List.map (fun (l : List Bs) ↦ AV.slice 1 (List.map strL l)) ls ∧ (List.map (fun (l : List Bs) ↦ AV.slice 1 (List.map strL l)) ls).length = ls.length ∧ (0 : Nat) + k = 0 + k ∧ (0 : Nat) + k < ls.length
 ∧ ∀ (x19 : List Bs), ls[(0 : Nat) + k]? = some x19 → (List.map strL x19).length = x19.length ∧ (decide ((↑i : Int) < (↑x19.length : Int)) = true → (List.map (fun (l : List Bs) ↦ AV.slice 1 (List.map strL l)) ls).length = ls.length ∧ (↑k : Int) = (↑k : Int) ∧ k < ls.length ∧ List.map (fun (l : List Bs) ↦ AV.slice 1 (List.map strL l)) ls = List.map (fun (l : List Bs) ↦ AV.slice 1 (List.map strL l)) ls ∧ (List.map (fun (l : List Bs) ↦ AV.slice 1 (List.map strL l)) ls).length = ls.length ∧ (0 : Nat) + k = 0 + k ∧ (0 : Nat) + k < ls.length ∧ ∀ (x22 : List Bs), ls[(0 : Nat) + k]? = some x22 → List.map strL x22 = List.map strL x22 ∧ (↑i : Int) = (↑i : Int) ∧ i < x22.length ∧ ∀ (x24 : Bs), x22[i]? = some x24 → (R FT X).m 64 [AV.ptr 7 0] [MObj.box 9 [strL seps], MObj.row 0 1 (List.map (fun (l : List Bs) ↦ AV.slice 1 (List.map strL l)) ls) true (1 : Nat), MObj.box 77 [AV.row 1 0 ls.length (0 : Nat) ls.length], MObj.row 0 1 O true (7 : Nat), MObj.box 71 [AV.any, AV.row 3 0 u (0 : Nat) u], MObj.box 3 [intA (↑i : Int)], MObj.row
 (0 : Nat) (1 : Nat) (List.map u8A (rwK seps (colm ls i) k)) true (7 : Nat), MObj.box 71 [AV.any, AV.row 6 0 (List.length (rwK seps (colm ls i) k)) (0 : Nat) (List.length (rwK seps (colm ls i) k))]] = some (AV.tuple [], [MObj.box 9 [strL seps], MObj.row 0 1 (List.map (fun (l : List Bs) ↦ AV.slice 1 (List.map strL l)) ls) true (1 : Nat), MObj.box 77 [AV.row 1 0 ls.length (0 : Nat) ls.length], MObj.row 0 1 O true (7 : Nat), MObj.box 71 [AV.any, AV.row 3 0 u (0 : Nat) u], MObj.box 3 [intA (↑i : Int)], MObj.row 0 1 (List.map u8A (rwK seps (colm ls i) k)) true (7 : Nat), MObj.box 71 [AV.any, AV.row 6 0 (List.length (rwK seps (colm ls i) k)) (0 : Nat) (List.length (rwK seps (colm ls i) k))]]) ∧ (List.map u8A (rwK seps (colm ls i) k)).length = List.length (rwK seps (colm ls i) k) ∧ (0 : Nat) = 0 ∧ List.length (rwK seps (colm ls i) k) = List.length (rwK seps (colm ls i) k) ∧ List.length (rwK seps (colm ls i) k) + List.length x24 = List.length (rwK seps (colm ls i) k) + List.length x24 ∧ List.length (rwK seps (colm ls i)
 k) + List.length x24 ≤ 140737488355328 ∧ List.length (rwK seps (colm ls i) k) + List.length x24 ≤ 9223372036854775807 ∧ InI64 ((↑k : Int) + 1) ∧ ∃ (j26 : Nat), ((AV.fn (Fn.func 50) [] [AV.ptr 5 0, AV.ptr 2 0] = AV.fn (Fn.func 50) [] [AV.ptr 5 0, AV.ptr 2 0] ∧ True ∧ True ∧ (↑ls.length : Int) = (↑ls.length : Int) ∧ (↑k : Int) + 1 = (↑j26 : Int) ∧ True) ∧ seps = seps ∧ List.map (fun (l : List Bs) ↦ AV.slice 1 (List.map strL l)) ls = List.map (fun (l : List Bs) ↦ AV.slice 1 (List.map strL l)) ls ∧ (ls.length = ls.length ∧ (0 : Nat) = 0 ∧ ls.length = ls.length) ∧ O = O ∧ (True ∧ u = u ∧ (0 : Nat) = 0 ∧ u = u) ∧ (↑i : Int) = (↑i : Int) ∧ List.map u8A (rwK seps (colm ls i) k) ++ List.map u8A x24 = List.map u8A (rwK seps (colm ls i) j26) ∧ True ∧ List.length (rwK seps (colm ls i) k) + List.length x24 = List.length (rwK seps (colm ls i) j26) ∧ (0 : Nat) = 0 ∧ List.length (rwK seps (colm ls i) k) + List.length x24 = List.length (rwK seps (colm ls i) j26)) ∧ j26 ≤ ls.length ∧ ls.length - j26 < ls.length - k) ∧ (decide ((↑i : Int) < (↑x19.length
 : Int)) = false → (R FT X).m 64 [AV.ptr 7 0] [MObj.box 9 [strL seps], MObj.row 0 1 (List.map (fun (l : List Bs) ↦ AV.slice 1 (List.map strL l)) ls) true (1 : Nat), MObj.box 77 [AV.row 1 0 ls.length (0 : Nat) ls.length], MObj.row 0 1 O true (7 : Nat), MObj.box 71 [AV.any, AV.row 3 0 u (0 : Nat) u], MObj.box 3 [intA (↑i : Int)], MObj.row 0 1 (List.map u8A (rwK seps (colm ls i) k)) true (7 : Nat), MObj.box 71 [AV.any, AV.row 6 0 (List.length (rwK seps (colm ls i) k)) (0 : Nat) (List.length (rwK seps (colm ls i) k))]] = some (AV.tuple [], [MObj.box 9 [strL seps], MObj.row 0 1 (List.map (fun (l : List Bs) ↦ AV.slice 1 (List.map strL l)) ls) true (1 : Nat), MObj.box 77 [AV.row 1 0 ls.length (0 : Nat) ls.length], MObj.row 0 1 O true (7 : Nat), MObj.box 71 [AV.any, AV.row 3 0 u (0 : Nat) u], MObj.box 3 [intA (↑i : Int)], MObj.row 0 1 (List.map u8A (rwK seps (colm ls i) k)) true (7 : Nat), MObj.box 71
 [AV.any, AV.row 6 0 (List.length (rwK seps (colm ls i) k)) (0 : Nat) (List.length (rwK seps (colm ls i) k))]]) ∧ (List.map u8A (rwK seps (colm ls i) k)).length = List.length (rwK seps (colm ls i) k) ∧ (0 : Nat) = 0 ∧ List.length (rwK seps (colm ls i) k) = List.length (rwK seps (colm ls i) k) ∧ List.length (rwK seps (colm ls i) k) + (@List.nil UInt8).length = List.length (rwK seps (colm ls i) k) ∧ List.length (rwK seps (colm ls i) k) ≤ 140737488355328 ∧ List.length (rwK seps (colm ls i) k) ≤ 9223372036854775807 ∧ InI64 ((↑k : Int) + 1) ∧ ∃ (j28 : Nat), ((AV.fn (Fn.func 50) [] [AV.ptr 5 0, AV.ptr 2 0] = AV.fn (Fn.func 50) [] [AV.ptr 5 0, AV.ptr 2 0] ∧ True ∧ True ∧ (↑ls.length : Int) = (↑ls.length : Int) ∧ (↑k : Int) + 1 = (↑j28 : Int) ∧ True) ∧ seps = seps ∧ List.map (fun (l : List Bs) ↦ AV.slice 1 (List.map strL l)) ls = List.map (fun (l : List Bs) ↦ AV.slice 1 (List.map strL l)) ls ∧ (ls.length = ls.length ∧ (0 : Nat) = 0 ∧ ls.length = ls.length) ∧ O = O ∧ (True ∧ u = u ∧ (0 : Nat) = 0 ∧ u = u) ∧ (↑i : Int) = (↑i
 : Int) ∧ List.map u8A (rwK seps (colm ls i) k) ++ List.map u8A [] = List.map u8A (rwK seps (colm ls i) j28) ∧ True ∧ List.length (rwK seps (colm ls i) k) = List.length (rwK seps (colm ls i) j28) ∧ (0 : Nat) = 0 ∧ List.length (rwK seps (colm ls i) k) = List.length (rwK seps (colm ls i) j28)) ∧ j28 ≤ ls.length ∧ ls.length - j28 < ls.length - k))) ∧ (decide ((0 : Int) < (↑k : Int)) = false → false = false ∧ (List.map (fun (l : List Bs) ↦ AV.slice 1 (List.map strL l)) ls).length = ls.length ∧ (↑k : Int) = (↑k : Int) ∧ k < ls.length ∧ List.map (fun (l : List Bs) ↦ AV.slice 1 (List.map strL l)) ls = List.map (fun (l : List Bs) ↦ AV.slice 1 (List.map strL l)) ls ∧ (List.map (fun (l : List Bs) ↦ AV.slice 1 (List.map strL l)) ls).length = ls.length ∧ (0 : Nat) + k = 0 + k ∧ (0 : Nat) + k < ls.length ∧ ∀ (x30 : List Bs), ls[(0 : Nat) + k]? = some x30 → (List.map strL x30).length = x30.length ∧ (decide ((↑i : Int) < (↑x30.length : Int)) = true → (List.map (fun (l : List Bs) ↦ AV.slice 1 (List.map strL l)) ls).length = ls.length ∧ (↑k : Int) = (↑k : Int) ∧ k < ls.length ∧ List.map (fun (l : List Bs) ↦ AV.slice 1 (List.map strL l))
 ls = List.map (fun (l : List Bs) ↦ AV.slice 1 (List.map strL l)) ls ∧ (List.map (fun (l : List Bs) ↦ AV.slice 1 (List.map strL l)) ls).length = ls.length ∧ (0 : Nat) + k = 0 + k ∧ (0 : Nat) + k < ls.length ∧ ∀ (x33 : List Bs), ls[(0 : Nat) + k]? = some x33 → List.map strL x33 = List.map strL x33 ∧ (↑i : Int) = (↑i : Int) ∧ i < x33.length ∧ ∀ (x35 : Bs), x33[i]? = some x35 → (R FT X).m 64 [AV.ptr 7 0] [MObj.box 9 [strL seps], MObj.row 0 1 (List.map (fun (l : List Bs) ↦ AV.slice 1 (List.map strL l)) ls) true (1 : Nat), MObj.box 77 [AV.row 1 0 ls.length (0 : Nat) ls.length], MObj.row 0 1 O true (7 : Nat), MObj.box 71 [AV.any, AV.row 3 0 u (0 : Nat) u], MObj.box 3 [intA (↑i : Int)], MObj.row 0 1 (List.map u8A (rwK seps (colm ls i) k)) true (7 : Nat), MObj.box 71 [AV.any, AV.row 6 0 (List.length (rwK seps (colm ls i) k)) (0 : Nat) (List.length (rwK seps (colm ls i) k))]] = some (AV.tuple [], [MObj.box 9 [strL seps], MObj.row 0 1 (List.map (fun (l : List Bs) ↦ AV.slice (1 :
 Nat) (List.map strL l)) ls) true (1 : Nat), MObj.box 77 [AV.row 1 0 ls.length (0 : Nat) ls.length], MObj.row 0 1 O true (7 : Nat), MObj.box 71 [AV.any, AV.row 3 0 u (0 : Nat) u], MObj.box 3 [intA (↑i : Int)], MObj.row 0 1 (List.map u8A (rwK seps (colm ls i) k)) true (7 : Nat), MObj.box 71 [AV.any, AV.row 6 0 (List.length (rwK seps (colm ls i) k)) (0 : Nat) (List.length (rwK seps (colm ls i) k))]]) ∧ (List.map u8A (rwK seps (colm ls i) k)).length = List.length (rwK seps (colm ls i) k) ∧ (0 : Nat) = 0 ∧ List.length (rwK seps (colm ls i) k) = List.length (rwK seps (colm ls i) k) ∧ List.length (rwK seps (colm ls i) k) + List.length x35 = List.length (rwK seps (colm ls i) k) + List.length x35 ∧ List.length (rwK seps (colm ls i) k) + List.length x35 ≤ 140737488355328 ∧ List.length (rwK seps (colm ls i) k) + List.length x35 ≤ 9223372036854775807 ∧ InI64 ((↑k : Int) + 1) ∧ ∃ (j37 : Nat), ((AV.fn (Fn.func 50) [] [AV.ptr 5 0, AV.ptr 2 0] = AV.fn (Fn.func 50) [] [AV.ptr 5 0, AV.ptr (2
 : Nat) (0 : Nat)] ∧ True ∧ True ∧ (↑ls.length : Int) = (↑ls.length : Int) ∧ (↑k : Int) + 1 = (↑j37 : Int) ∧ True) ∧ seps = seps ∧ List.map (fun (l : List Bs) ↦ AV.slice 1 (List.map strL l)) ls = List.map (fun (l : List Bs) ↦ AV.slice 1 (List.map strL l)) ls ∧ (ls.length = ls.length ∧ (0 : Nat) = 0 ∧ ls.length = ls.length) ∧ O = O ∧ (True ∧ u = u ∧ (0 : Nat) = 0 ∧ u = u) ∧ (↑i : Int) = (↑i : Int) ∧ List.map u8A (rwK seps (colm ls i) k) ++ List.map u8A x35 = List.map u8A (rwK seps (colm ls i) j37) ∧ True ∧ List.length (rwK seps (colm ls i) k) + List.length x35 = List.length (rwK seps (colm ls i) j37) ∧ (0 : Nat) = 0 ∧ List.length (rwK seps (colm ls i) k) + List.length x35 = List.length (rwK seps (colm ls i) j37)) ∧ j37 ≤ ls.length ∧ ls.length - j37 < ls.length - k) ∧ (decide ((↑i : Int) < (↑x30.length : Int)) = false → (R FT X).m 64 [AV.ptr 7 0] [MObj.box 9 [strL seps], MObj.row 0 1 (List.map (fun (l : List Bs) ↦ AV.slice 1 (List.map strL l)) ls) true (1 : Nat), MObj.box 77 [AV.row 1 0 ls.length (0 : Nat) ls.length], MObj.row 0 1 O true (7
 : Nat), MObj.box 71 [AV.any, AV.row 3 0 u (0 : Nat) u], MObj.box 3 [intA (↑i : Int)], MObj.row 0 1 (List.map u8A (rwK seps (colm ls i) k)) true (7 : Nat), MObj.box 71 [AV.any, AV.row 6 0 (List.length (rwK seps (colm ls i) k)) (0 : Nat) (List.length (rwK seps (colm ls i) k))]] = some (AV.tuple [], [MObj.box 9 [strL seps], MObj.row 0 1 (List.map (fun (l : List Bs) ↦ AV.slice 1 (List.map strL l)) ls) true (1 : Nat), MObj.box 77 [AV.row 1 0 ls.length (0 : Nat) ls.length], MObj.row 0 1 O true (7 : Nat), MObj.box 71 [AV.any, AV.row 3 0 u (0 : Nat) u], MObj.box 3 [intA (↑i : Int)], MObj.row 0 1 (List.map u8A (rwK seps (colm ls i) k)) true (7 : Nat), MObj.box 71 [AV.any, AV.row 6 0 (List.length (rwK seps (colm ls i) k)) (0 : Nat) (List.length (rwK seps (colm ls i) k))]]) ∧ (List.map u8A (rwK seps (colm ls i) k)).length = List.length (rwK seps (colm ls i) k) ∧ (0 : Nat) = 0 ∧ List.length (rwK seps (colm ls i) k) = List.length (rwK seps (colm ls i) k) ∧ List.length (rwK seps
 (colm ls i) k) + (@List.nil UInt8).length = List.length (rwK seps (colm ls i) k) ∧ List.length (rwK seps (colm ls i) k) ≤ 140737488355328 ∧ List.length (rwK seps (colm ls i) k) ≤ 9223372036854775807 ∧ InI64 ((↑k : Int) + 1) ∧ ∃ (j39 : Nat), ((AV.fn (Fn.func 50) [] [AV.ptr 5 0, AV.ptr 2 0] = AV.fn (Fn.func 50) [] [AV.ptr 5 0, AV.ptr 2 0] ∧ True ∧ True ∧ (↑ls.length : Int) = (↑ls.length : Int) ∧ (↑k : Int) + 1 = (↑j39 : Int) ∧ True) ∧ seps = seps ∧ List.map (fun (l : List Bs) ↦ AV.slice 1 (List.map strL l)) ls = List.map (fun (l : List Bs) ↦ AV.slice 1 (List.map strL l)) ls ∧ (ls.length = ls.length ∧ (0 : Nat) = 0 ∧ ls.length = ls.length) ∧ O = O ∧ (True ∧ u = u ∧ (0 : Nat) = 0 ∧ u = u) ∧ (↑i : Int) = (↑i : Int) ∧ List.map u8A (rwK seps (colm ls i) k) ++ List.map u8A [] = List.map u8A (rwK seps (colm ls i) j39) ∧ True ∧ List.length (rwK seps (colm ls i) k) = List.length (rwK seps (colm ls i) j39) ∧ (0 : Nat) = 0 ∧ List.length (rwK seps (colm ls i) k) = List.length (rwK seps (colm ls i) j39)) ∧ j39 ≤ ls.length ∧ ls.length - j39 <
 ls.length - k))) ∧ (decide ((↑k : Int) < (↑ls.length : Int)) = false → (R FT X).m 46 [AV.ptr 7 0] [MObj.box 9 [strL seps], MObj.row 0 1 (List.map (fun (l : List Bs) ↦ AV.slice 1 (List.map strL l)) ls) true (1 : Nat), MObj.box 77 [AV.row 1 0 ls.length (0 : Nat) ls.length], MObj.row 0 1 O true (7 : Nat), MObj.box 71 [AV.any, AV.row 3 0 u (0 : Nat) u], MObj.box 3 [intA (↑i : Int)], MObj.row 0 1 (List.map u8A (rwK seps (colm ls i) k)) true (7 : Nat), MObj.box 71 [AV.any, AV.row 6 0 (List.length (rwK seps (colm ls i) k)) (0 : Nat) (List.length (rwK seps (colm ls i) k))]] = some (strL (rwK seps (colm ls i) k), [MObj.box 9 [strL seps], MObj.row 0 1 (List.map (fun (l : List Bs) ↦ AV.slice 1 (List.map strL l)) ls) true (1 : Nat), MObj.box 77 [AV.row 1 0 ls.length (0 : Nat) ls.length], MObj.row 0 1 O true (7 : Nat), MObj.box 71 [AV.any, AV.row 3 0 u (0 : Nat) u], MObj.box 3 [intA (↑i : Int)], MObj.row 1 1 []
 true (7 : Nat), MObj.box 71 [AV.any, AV.row 6 0 (List.length (rwK seps (colm ls i) k)) (0 : Nat) (List.length (rwK seps (colm ls i) k))]]) ∧ List.length (rwK seps (colm ls i) k) + [(10 : UInt8)].length ≤ 9223372036854775807 ∧ rwK seps (colm ls i) k ++ [(10 : UInt8)] = rwB seps (colm ls i) ∧ seps = seps ∧ List.map (fun (l : List Bs) ↦ AV.slice 1 (List.map strL l)) ls = List.map (fun (l : List Bs) ↦ AV.slice 1 (List.map strL l)) ls ∧ (ls.length = ls.length ∧ (0 : Nat) = 0 ∧ ls.length = ls.length) ∧ O = O ∧ (True ∧ u = u ∧ (0 : Nat) = 0 ∧ u = u) ∧ (↑i : Int) = (↑i : Int) ∧ @List.nil AV = [] ∧ True ∧ List.length (rwK seps (colm ls i) k) = List.length (rwK seps (colm ls i) ls.length) ∧ (0 : Nat) = 0 ∧ List.length (rwK seps (colm ls i) k) = List.length (rwK seps (colm ls i) ls.length)))) ?_
 refine ⟨⟨(0 : Nat), ⟨⟨rfl, trivial, trivial, rfl, (by omega), trivial⟩, rfl, rfl, ⟨rfl, rfl, rfl⟩, rfl, ⟨trivial, rfl, rfl, rfl⟩, rfl, rfl, trivial, rfl, rfl, rfl⟩, (by omega)⟩, fun k => fun h2 => ⟨fun h3_ => have h3 := dT h3_; ⟨fun h4_ => have h4 := dT h4_; ⟨fun h5_ => have h5 := dnT h5_; ⟨(by unfold InI64; omega), (by simp; omega), ?_, ?_, fun c6 => fun h7 => ⟨(cc _ _ (by exact rfl)), (by simp), rfl, rfl, rfl, ?_, ?_, (by simp), rfl, (by omega), rfl, (by simp), rfl, (by omega), fun x8 => fun h9 => ⟨(by simp), fun h10_ => have h10 := dT h10_; ⟨(by simp), rfl, (by omega), rfl, (by simp), rfl, (by omega), fun x11 => fun h12 => ⟨rfl, rfl, ?_, fun x13 => fun h14 => ⟨(cc _ _ (by exact rfl)), (by simp), rfl, rfl, rfl, ?_, ?_, (by unfold InI64; omega), ⟨k + (1 : Nat), ⟨⟨rfl, trivial, trivial, rfl, (by omega), trivial⟩, rfl, rfl, ⟨rfl, rfl, rfl⟩, rfl, ⟨trivial, rfl, rfl, rfl⟩, rfl, ?_, trivial, ?_, rfl, ?_⟩, ⟨(by omega), (by omega)⟩⟩⟩⟩⟩, fun h16_ => have h16 := dF h16_; ⟨(cc _ _ (by exact rfl)), (by simp), rfl, rfl, rfl, ?_, ?_, (by unfold InI64; omega), ⟨k + (1 : Nat), ⟨⟨rfl, trivial, trivial, rfl, (by omega), trivial⟩, rfl, rfl, ⟨rfl, rfl, rfl⟩, rfl, ⟨trivial, rfl, rfl, rfl⟩, rfl, ?_, trivial, ?_, rfl, ?_⟩, ⟨(by omega), (by omega)⟩⟩⟩⟩⟩⟩, fun h18_ => have h18 := dnF h18_; ⟨(by simp), rfl, (by omega), rfl, (by simp), rfl, (by omega), fun x19 => fun h20 => ⟨(by simp), fun h21_ => have h21 := dT h21_; ⟨(by simp), rfl, (by omega), rfl, (by simp), rfl, (by omega), fun x22 => fun h23 => ⟨rfl, rfl, ?_, fun x24 => fun h25 => ⟨(cc _ _ (by exact rfl)), (by simp), rfl, rfl, rfl, ?_, ?_, (by unfold InI64; omega), ⟨k + (1 : Nat), ⟨⟨rfl, trivial, trivial, rfl, (by omega), trivial⟩, rfl, rfl, ⟨rfl, rfl, rfl⟩, rfl, ⟨trivial, rfl, rfl, rfl⟩, rfl, ?_, trivial, ?_, rfl, ?_⟩, ⟨(by omega), (by omega)⟩⟩⟩⟩⟩, fun h27_ => have h27 := dF h27_; ⟨(cc _ _ (by exact rfl)), (by simp), rfl, rfl, rfl, ?_, ?_, (by unfold InI64; omega), ⟨k + (1 : Nat), ⟨⟨rfl, trivial, trivial, rfl, (by omega), trivial⟩, rfl, rfl, ⟨rfl, rfl, rfl⟩, rfl, ⟨trivial, rfl, rfl, rfl⟩, rfl, ?_, trivial, ?_, rfl, ?_⟩, ⟨(by omega), (by omega)⟩⟩⟩⟩⟩⟩, fun h29_ => have h29 := dF h29_; ⟨rfl, (by simp), rfl, (by omega), rfl, (by simp), rfl, (by omega), fun x30 => fun h31 => ⟨(by simp), fun h32_ => have h32 := dT h32_; ⟨(by simp), rfl, (by omega), rfl, (by simp), rfl, (by omega), fun x33 => fun h34 => ⟨rfl, rfl, ?_, fun x35 => fun h36 => ⟨(cc _ _ (by exact rfl)), (by simp), rfl, rfl, rfl, ?_, ?_, (by unfold InI64; omega), ⟨k + (1 : Nat), ⟨⟨rfl, trivial, trivial, rfl, (by omega), trivial⟩, rfl, rfl, ⟨rfl, rfl, rfl⟩, rfl, ⟨trivial, rfl, rfl, rfl⟩, rfl, ?_, trivial, ?_, rfl, ?_⟩, ⟨(by omega), (by omega)⟩⟩⟩⟩⟩, fun h38_ => have h38 := dF h38_; ⟨(cc _ _ (by exact rfl)), (by simp), rfl, rfl, rfl, ?_, ?_, (by unfold InI64; omega), ⟨k + (1 : Nat), ⟨⟨rfl, trivial, trivial, rfl, (by omega), trivial⟩, rfl, rfl, ⟨rfl, rfl, rfl⟩, rfl, ⟨trivial, rfl, rfl, rfl⟩, rfl, ?_, trivial, ?_, rfl, ?_⟩, ⟨(by omega), (by omega)⟩⟩⟩⟩⟩⟩, fun h40_ => have h40 := dF h40_; ⟨(bs _ _ _ _ _ _ _ _ _ _ (by exact rfl) (by exact rfl) (by exact (by simp)) (by exact (bytesV_map _)) ?_ (by exact rfl)), ?_, ?_, rfl, rfl, ⟨rfl, rfl, rfl⟩, rfl, ⟨trivial, rfl, rfl, rfl⟩, rfl, rfl, trivial, ?_, rfl, ?_⟩⟩⟩
 all_goals (try simp only [Nat.zero_add] at *)
 all_goals have hcl := colm_len ls i
 all_goals have hb := fun k hk => rwK_bd seps (l := colm ls i) (by omega) hn k hk
 iterate 2 · have q := sp_atI h5 h4; omega
 iterate 2 · have hb1 := hb k (by omega); omega
 ·obtain rfl := same_at h9 h12; omega
 all_goals (try obtain rfl := same_at h9 h12)
 iterate 2
  ·have e := congrArg List.length (rw3 (colm_y h9 h14) h5 h4 h7)
   have hb1 := hb (k + 1) (by omega)
   simp only [List.length_append, List.length_singleton] at e
   omega
 ·rw [rw3 (colm_y h9 h14) h5 h4 h7, List.map_append, List.map_append]; rfl
 iterate 2 · rw [rw3 (colm_y h9 h14) h5 h4 h7]; simp only [List.length_append, List.length_singleton]
 iterate 2
  ·have e := congrArg List.length (rw3 (colm_n h9 h16) h5 h4 h7)
   have hb1 := hb (k + 1) (by omega)
   simp only [List.length_append, List.length_singleton, List.length_nil] at e
   omega
 ·rw [rw3 (colm_n h9 h16) h5 h4 h7, List.map_append, List.map_append]; rfl
 iterate 2 · rw [rw3 (colm_n h9 h16) h5 h4 h7]; simp
 ·obtain rfl := same_at h20 h23; omega
 all_goals (try obtain rfl := same_at h20 h23)
 iterate 2
  ·have e := congrArg List.length (rw2 (colm_y h20 h25) h18 h4)
   have hb1 := hb (k + 1) (by omega)
   simp only [List.length_append, List.length_singleton] at e
   omega
 ·rw [rw2 (colm_y h20 h25) h18 h4, List.map_append]
 iterate 2 · rw [rw2 (colm_y h20 h25) h18 h4]; simp only [List.length_append, List.length_singleton]
 iterate 2
  ·have e := congrArg List.length (rw2 (colm_n h20 h27) h18 h4)
   have hb1 := hb (k + 1) (by omega)
   simp only [List.length_append, List.length_singleton, List.length_nil] at e
   omega
 ·rw [rw2 (colm_n h20 h27) h18 h4, List.map_append]
 iterate 2 · rw [rw2 (colm_n h20 h27) h18 h4]; simp
 ·obtain rfl := same_at h31 h34; omega
 all_goals (try obtain rfl := same_at h31 h34)
 iterate 2
  ·have e := congrArg List.length (rw1 (seps := seps) (colm_y h31 h36) h29)
   have hb1 := hb (k + 1) (by omega)
   simp only [List.length_append, List.length_singleton] at e
   omega
 ·rw [rw1 (seps := seps) (colm_y h31 h36) h29, List.map_append]
 iterate 2 · rw [rw1 (seps := seps) (colm_y h31 h36) h29]; simp only [List.length_append, List.length_singleton]
 iterate 2
  ·have e := congrArg List.length (rw1 (seps := seps) (colm_n h31 h38) h29)
   have hb1 := hb (k + 1) (by omega)
   simp only [List.length_append, List.length_singleton, List.length_nil] at e
   omega
 ·rw [rw1 (seps := seps) (colm_n h31 h38) h29, List.map_append]
 iterate 2 · rw [rw1 (seps := seps) (colm_n h31 h38) h29]; simp
 ·have := hb k (by omega); omega
 ·have := hb k (by omega); simp; omega
 all_goals (obtain rfl : k = ls.length := by omega)
 ·rw [rwB, colm_len]
 iterate 2 · rfl
theorem paste_run (hx : StrC X) (hB : BldC X) (texts : List Bs) (seps : Bs) (b : Bool) (h : PsOk texts seps) : (R FT X).f 22 [.slice 1 (texts.map strL), strL seps, boolA b] = some (strL (pstB texts seps b)) := by
 have ll := lines_run hx
 have cc := hB.cc
 have bs := hB.str
 have hm' := maxLen_le
 have js := joinS_run hB
 have jp := joinP_run hB
 refine R_wp (Tr.k texts.length (Tr.inv (fun (k : Nat) ↦ St.mk [(2, boolA b), (4, AV.ptr 0 0), (7, AV.ptr 2 0), (8, intA (↑(mstK (lsts texts) k) : Int)), (18, AV.slice 1 (List.map strL texts)), (19, intA (↑texts.length : Int)), (20, intA (↑k : Int))] [MObj.box 9 [strL seps], MObj.row 0 1 (List.map (fun (l : List Bs) ↦ AV.slice 1 (List.map strL l)) (lsts (List.take k texts))) true (1 : Nat), MObj.box 77 [AV.row 1 0 (lsts (List.take k texts)).length (0 : Nat) (lsts (List.take k texts)).length]]) (fun (k : Nat) ↦ k ≤ texts.length) (fun (k : Nat) ↦ texts.length - k) fun (k : Nat) ↦ (Tr.ix strL texts k fun (x4 : Bs) ↦ Tr.c (AV.tuple [AV.slice 1 (List.map strL (lins x4)), boolA (endB x4)]) (Tr.k ((lsts (List.take k texts)).length + 1) (Tr.k (lins x4).length Tr.nil.w))).w.br ((Tr.k (lsts (List.take k texts)).length (Tr.inv (fun (k : Nat) ↦ St.mk [(13, AV.fn (Fn.func 47) [] [AV.ptr 0 0]), (14, AV.ptr 4 0), (40, AV.row 1 0 (lsts texts).length (0 : Nat)
 (lsts texts).length), (41, intA (↑(lsts texts).length : Int)), (42, intA (↑k : Int))] [MObj.box 9 [strL seps], MObj.row 0 1 (List.map (fun (l : List Bs) ↦ AV.slice 1 (List.map strL l)) (lsts texts)) true (1 : Nat), MObj.box 77 [AV.row 1 0 (lsts texts).length (0 : Nat) (lsts texts).length], MObj.row 0 1 (List.map u8A (serK seps (lsts texts) k)) true (7 : Nat), MObj.box 71 [AV.any, AV.row 3 0 (List.length (serK seps (lsts texts) k)) (0 : Nat) (List.length (serK seps (lsts texts) k))]]) (fun (k : Nat) ↦ k ≤ (lsts texts).length) (fun (k : Nat) ↦ (lsts texts).length - k) fun (k : Nat) ↦ (Tr.k k (Tr.ix (fun (l : List Bs) ↦ AV.slice 1 (List.map strL l)) (lsts texts) ((0 : Nat) + k) fun (x12 : List Bs) ↦ Tr.k x12.length (Tr.cm (strL (rwB seps x12)) [MObj.box 9 [strL seps], MObj.row 0 1 (List.map (fun (l : List Bs) ↦ AV.slice 1 (List.map strL l)) (lsts texts)) true (1 : Nat), MObj.box 77 [AV.row 1 0 (lsts texts).length (0 : Nat) (lsts texts).length], MObj.row 0 1 (List.map u8A (serK seps (lsts
 texts) k)) true (7 : Nat), MObj.box 71 [AV.any, AV.row 3 0 (List.length (serK seps (lsts texts) k)) (0 : Nat) (List.length (serK seps (lsts texts) k))], MObj.row 0 1 [] true (1 : Nat), MObj.box 37 [AV.slice 1 (List.map strL x12)], MObj.row 1 1 [] true (7 : Nat), MObj.box 71 [AV.any, AV.row 7 0 (List.length (rwK seps x12 x12.length)) (0 : Nat) (List.length (rwK seps x12 x12.length))]] (Tr.cm (AV.tuple []) [MObj.box 9 [strL seps], MObj.row 0 1 (List.map (fun (l : List Bs) ↦ AV.slice 1 (List.map strL l)) (lsts texts)) true (1 : Nat), MObj.box 77 [AV.row 1 0 (lsts texts).length (0 : Nat) (lsts texts).length], MObj.row 0 1 (List.map u8A (serK seps (lsts texts) k)) true (7 : Nat), MObj.box 71 [AV.any, AV.row 3 0 (List.length (serK seps (lsts texts) k)) (0 : Nat) (List.length (serK seps (lsts texts) k))], MObj.row 0 1 [] true (1 : Nat), MObj.box 37 [AV.slice 1 (List.map strL x12)], MObj.row 1 1 [] true (7 : Nat), MObj.box 71 [AV.any, AV.row (7 :
 Nat) (0 : Nat) (List.length (rwK seps x12 x12.length)) (0 : Nat) (List.length (rwK seps x12 x12.length))]] (Tr.k (List.length (serK seps (lsts texts) k) + List.length (rwB seps x12)) Tr.nil.w)).inl))).w.br (Tr.cm (strL (serK seps (lsts texts) k)) [MObj.box 9 [strL seps], MObj.row 0 1 (List.map (fun (l : List Bs) ↦ AV.slice 1 (List.map strL l)) (lsts texts)) true (1 : Nat), MObj.box 77 [AV.row 1 0 (lsts texts).length (0 : Nat) (lsts texts).length], MObj.row 1 1 [] true (7 : Nat), MObj.box 71 [AV.any, AV.row 3 0 (List.length (serK seps (lsts texts) k)) (0 : Nat) (List.length (serK seps (lsts texts) k))]] Tr.nil)).w).br (Tr.inv (fun (k : Nat) ↦ St.mk [(7, AV.ptr 2 0), (13, AV.fn (Fn.func 47) [] [AV.ptr 0 0]), (14, AV.ptr 4 0), (54, intA (↑(mst (lsts texts)) : Int)), (55, intA (↑k : Int))] [MObj.box 9 [strL seps], MObj.row 0 1 (List.map (fun (l : List Bs) ↦ AV.slice 1 (List.map strL l)) (lsts texts)) true (1 : Nat), MObj.box 77 [AV.row 1 (0 :
 Nat) (lsts texts).length (0 : Nat) (lsts texts).length], MObj.row 0 1 (List.map u8A (parK seps (lsts texts) k)) true (7 : Nat), MObj.box 71 [AV.any, AV.row 3 0 (List.length (parK seps (lsts texts) k)) (0 : Nat) (List.length (parK seps (lsts texts) k))]]) (fun (k : Nat) ↦ k ≤ mst (lsts texts)) (fun (k : Nat) ↦ mst (lsts texts) - k) fun (k : Nat) ↦ (Tr.k (lsts texts).length (Tr.cm (strL (rwB seps (colm (lsts texts) k))) [MObj.box 9 [strL seps], MObj.row 0 1 (List.map (fun (l : List Bs) ↦ AV.slice 1 (List.map strL l)) (lsts texts)) true (1 : Nat), MObj.box 77 [AV.row 1 0 (lsts texts).length (0 : Nat) (lsts texts).length], MObj.row 0 1 (List.map u8A (parK seps (lsts texts) k)) true (7 : Nat), MObj.box 71 [AV.any, AV.row 3 0 (List.length (parK seps (lsts texts) k)) (0 : Nat) (List.length (parK seps (lsts texts) k))], MObj.box 3 [intA (↑k : Int)], MObj.row 1 1 [] true (7 : Nat), MObj.box 71 [AV.any, AV.row 6 0 (List.length (rwK seps (colm (lsts texts) k) (lsts texts).length)) (0 : Nat) (List.length (rwK seps
 (colm (lsts texts) k) (lsts texts).length))]] (Tr.cm (AV.tuple []) [MObj.box 9 [strL seps], MObj.row 0 1 (List.map (fun (l : List Bs) ↦ AV.slice 1 (List.map strL l)) (lsts texts)) true (1 : Nat), MObj.box 77 [AV.row 1 0 (lsts texts).length (0 : Nat) (lsts texts).length], MObj.row 0 1 (List.map u8A (parK seps (lsts texts) k)) true (7 : Nat), MObj.box 71 [AV.any, AV.row 3 0 (List.length (parK seps (lsts texts) k)) (0 : Nat) (List.length (parK seps (lsts texts) k))], MObj.box 3 [intA (↑k : Int)], MObj.row 1 1 [] true (7 : Nat), MObj.box 71 [AV.any, AV.row 6 0 (List.length (rwK seps (colm (lsts texts) k) (lsts texts).length)) (0 : Nat) (List.length (rwK seps (colm (lsts texts) k) (lsts texts).length))]] (Tr.k (List.length (parK seps (lsts texts) k) + List.length (rwB seps (colm (lsts texts) k))) Tr.nil.w)).inl)).w.br (Tr.cm (strL (parK seps (lsts texts) k)) [MObj.box 9 [strL seps], MObj.row 0 1 (List.map (fun (l : List Bs) ↦ AV.slice 1 (List.map strL l)) (lsts texts)) true (1 : Nat), MObj.box 77 [AV.row (1
 : Nat) (0 : Nat) (lsts texts).length (0 : Nat) (lsts texts).length], MObj.row 1 1 [] true (7 : Nat), MObj.box 71 [AV.any, AV.row 3 0 (List.length (parK seps (lsts texts) k)) (0 : Nat) (List.length (parK seps (lsts texts) k))]] Tr.nil)).w).w.w).w) rfl ?_
 refine Eq.mpr (by kernel_rfl : _ = ((List.map strL texts).length = texts.length ∧ (∃ (j1 : Nat), ((b = b ∧ True ∧ True ∧ (0 : Int) = (↑(mstK (lsts texts) j1) : Int) ∧ List.map strL texts = List.map strL texts ∧ (↑texts.length : Int) = (↑texts.length : Int) ∧ (0 : Int) = (↑j1 : Int) ∧ True) ∧ seps = seps ∧ [] = List.map (fun (l : List Bs) ↦ AV.slice 1 (List.map strL l)) (lsts (List.take j1 texts)) ∧ (0 : Nat) = (lsts (List.take j1 texts)).length ∧ (0 : Nat) = 0 ∧ (0 : Nat) = (lsts (List.take j1 texts)).length) ∧ j1 ≤ texts.length) ∧ ∀ (k : Nat), k ≤ texts.length → (decide ((↑k : Int) < (↑texts.length : Int)) = true → List.map strL texts = List.map strL texts ∧ (↑k : Int) = (↑k : Int) ∧ k < texts.length ∧ ∀ (x4 : Bs), texts[k]? = some x4 → (R FT X).f 44 [strL x4] = some (AV.tuple [AV.slice 1 (List.map strL (lins x4)), boolA (endB x4)]) ∧ (List.map (fun (l : List Bs) ↦ AV.slice 1 (List.map strL l)) (lsts (List.take k texts))).length = (lsts (List.take k texts)).length ∧ (0 : Nat) = 0 ∧ (lsts (List.take k texts)).length = (lsts (List.take k texts)).length ∧ (lsts (List.take k texts)).length + [AV.slice 1 (List.map strL (lins x4))].length = (lsts (List.take k texts)).length
 + (1 : Nat) ∧ ((lsts (List.take k texts)).length + 1) * 24 ≤ (140737488355328 : Nat) ∧ (lsts (List.take k texts)).length + 1 ≤ (9223372036854775807 : Nat) ∧ (List.map strL (lins x4)).length = (lins x4).length ∧ InI64 ((↑k : Int) + 1) ∧ ∃ (j6 : Nat), ((b = b ∧ True ∧ True ∧ (if (↑(lins x4).length : Int) > (↑(mstK (lsts texts) k) : Int) then (↑(lins x4).length : Int) else (↑(mstK (lsts texts) k) : Int)) = (↑(mstK (lsts texts) j6) : Int) ∧ List.map strL texts = List.map strL texts ∧ (↑texts.length : Int) = (↑texts.length : Int) ∧ (↑k : Int) + 1 = (↑j6 : Int) ∧ True) ∧ seps = seps ∧ List.map (fun (l : List Bs) ↦ AV.slice 1 (List.map strL l)) (lsts (List.take k texts)) ++ [AV.slice 1 (List.map strL (lins x4))] = List.map (fun (l : List Bs) ↦ AV.slice 1 (List.map strL l)) (lsts (List.take j6 texts)) ∧ (lsts (List.take k texts)).length + 1 = (lsts (List.take j6 texts)).length ∧ (0 : Nat) = 0 ∧ (lsts (List.take k texts)).length + 1 = (lsts (List.take j6 texts)).length) ∧ j6 ≤ texts.length ∧ texts.length - j6 < texts.length - k) ∧ (decide ((↑k : Int) < (↑texts.length : Int)) = false → (b = true → (List.map
 (fun (l : List Bs) ↦ AV.slice 1 (List.map strL l)) (lsts (List.take k texts))).length = (lsts (List.take k texts)).length ∧ (List.take (lsts (List.take k texts)).length (List.drop (0 : Nat) (List.map (fun (l : List Bs) ↦ AV.slice 1 (List.map strL l)) (lsts (List.take k texts))))).length = (lsts (List.take k texts)).length ∧ (∃ (j9 : Nat), ((AV.fn (Fn.func 47) [] [AV.ptr 0 0] = AV.fn (Fn.func 47) [] [AV.ptr 0 0] ∧ True ∧ ((lsts (List.take k texts)).length = (lsts texts).length ∧ (0 : Nat) = 0 ∧ (lsts (List.take k texts)).length = (lsts texts).length) ∧ (↑(lsts (List.take k texts)).length : Int) = (↑(lsts texts).length : Int) ∧ (0 : Int) = (↑j9 : Int) ∧ True) ∧ seps = seps ∧ List.map (fun (l : List Bs) ↦ AV.slice 1 (List.map strL l)) (lsts (List.take k texts)) = List.map (fun (l : List Bs) ↦ AV.slice 1 (List.map strL l)) (lsts texts) ∧ ((lsts (List.take k texts)).length = (lsts texts).length ∧ (0 : Nat) = 0 ∧ (lsts (List.take k texts)).length = (lsts texts).length) ∧ [] = List.map u8A (serK seps (lsts texts) j9) ∧ True ∧ (0 : Nat) = List.length (serK seps (lsts texts) j9) ∧ (0 : Nat)
 = (0 : Nat) ∧ (0 : Nat) = List.length (serK seps (lsts texts) j9)) ∧ j9 ≤ (lsts texts).length) ∧ ∀ (k : Nat), k ≤ (lsts texts).length → (decide ((↑k : Int) < (↑(lsts texts).length : Int)) = true → (List.map (fun (l : List Bs) ↦ AV.slice 1 (List.map strL l)) (lsts texts)).length = (lsts texts).length ∧ (↑k : Int) = (↑k : Int) ∧ k < (lsts texts).length ∧ List.map (fun (l : List Bs) ↦ AV.slice 1 (List.map strL l)) (lsts texts) = List.map (fun (l : List Bs) ↦ AV.slice 1 (List.map strL l)) (lsts texts) ∧ (List.map (fun (l : List Bs) ↦ AV.slice 1 (List.map strL l)) (lsts texts)).length = (lsts texts).length ∧ (0 : Nat) + k = 0 + k ∧ (0 : Nat) + k < (lsts texts).length ∧ ∀ (x12 : List Bs), (lsts texts)[(0 : Nat) + k]? = some x12 → (List.map strL x12).length = x12.length ∧ (R FT X).m 47 [intA (↑x12.length : Int), AV.fn (Fn.func 49) [] [AV.ptr 6 0], AV.ptr 0 0] [MObj.box 9 [strL seps], MObj.row 0 1 (List.map (fun (l : List Bs) ↦ AV.slice 1 (List.map strL l)) (lsts texts)) true (1 : Nat), MObj.box 77 [AV.row 1 0 (lsts texts).length (0 : Nat)
 (lsts texts).length], MObj.row 0 1 (List.map u8A (serK seps (lsts texts) k)) true (7 : Nat), MObj.box 71 [AV.any, AV.row 3 0 (List.length (serK seps (lsts texts) k)) (0 : Nat) (List.length (serK seps (lsts texts) k))], MObj.row 0 1 [] true (1 : Nat), MObj.box 37 [AV.slice 1 (List.map strL x12)]] = some (strL (rwB seps x12), [MObj.box 9 [strL seps], MObj.row 0 1 (List.map (fun (l : List Bs) ↦ AV.slice 1 (List.map strL l)) (lsts texts)) true (1 : Nat), MObj.box 77 [AV.row 1 0 (lsts texts).length (0 : Nat) (lsts texts).length], MObj.row 0 1 (List.map u8A (serK seps (lsts texts) k)) true (7 : Nat), MObj.box 71 [AV.any, AV.row 3 0 (List.length (serK seps (lsts texts) k)) (0 : Nat) (List.length (serK seps (lsts texts) k))], MObj.row 0 1 [] true (1 : Nat), MObj.box 37 [AV.slice 1 (List.map strL x12)], MObj.row 1 1 [] true (7 : Nat), MObj.box 71 [AV.any, AV.row 7 0 (List.length (rwK seps x12 x12.length)) (0 : Nat) (List.length (rwK seps
 x12 x12.length))]]) ∧ (R FT X).m 64 [AV.ptr 4 0] [MObj.box 9 [strL seps], MObj.row 0 1 (List.map (fun (l : List Bs) ↦ AV.slice 1 (List.map strL l)) (lsts texts)) true (1 : Nat), MObj.box 77 [AV.row 1 0 (lsts texts).length (0 : Nat) (lsts texts).length], MObj.row 0 1 (List.map u8A (serK seps (lsts texts) k)) true (7 : Nat), MObj.box 71 [AV.any, AV.row 3 0 (List.length (serK seps (lsts texts) k)) (0 : Nat) (List.length (serK seps (lsts texts) k))], MObj.row 0 1 [] true (1 : Nat), MObj.box 37 [AV.slice 1 (List.map strL x12)], MObj.row 1 1 [] true (7 : Nat), MObj.box 71 [AV.any, AV.row 7 0 (List.length (rwK seps x12 x12.length)) (0 : Nat) (List.length (rwK seps x12 x12.length))]] = some (AV.tuple [], [MObj.box 9 [strL seps], MObj.row 0 1 (List.map (fun (l : List Bs) ↦ AV.slice 1 (List.map strL l)) (lsts texts)) true (1 : Nat), MObj.box 77 [AV.row 1 0 (lsts texts).length (0 : Nat) (lsts texts).length], MObj.row 0 1 (List.map
 u8A (serK seps (lsts texts) k)) true (7 : Nat), MObj.box 71 [AV.any, AV.row 3 0 (List.length (serK seps (lsts texts) k)) (0 : Nat) (List.length (serK seps (lsts texts) k))], MObj.row 0 1 [] true (1 : Nat), MObj.box 37 [AV.slice 1 (List.map strL x12)], MObj.row 1 1 [] true (7 : Nat), MObj.box 71 [AV.any, AV.row 7 0 (List.length (rwK seps x12 x12.length)) (0 : Nat) (List.length (rwK seps x12 x12.length))]]) ∧ (List.map u8A (serK seps (lsts texts) k)).length = List.length (serK seps (lsts texts) k) ∧ (0 : Nat) = 0 ∧ List.length (serK seps (lsts texts) k) = List.length (serK seps (lsts texts) k) ∧ List.length (serK seps (lsts texts) k) + List.length (rwB seps x12) = List.length (serK seps (lsts texts) k) + List.length (rwB seps x12) ∧ List.length (serK seps (lsts texts) k) + List.length (rwB seps x12) ≤ 140737488355328 ∧ List.length (serK seps (lsts texts) k) + List.length (rwB seps x12) ≤ 9223372036854775807 ∧ InI64 ((↑k : Int) + 1) ∧ ∃ (j14 : Nat), ((AV.fn (Fn.func 47) [] [AV.ptr 0 0] = AV.fn (Fn.func 47) [] [AV.ptr (0 :
 Nat) (0 : Nat)] ∧ True ∧ ((lsts texts).length = (lsts texts).length ∧ (0 : Nat) = 0 ∧ (lsts texts).length = (lsts texts).length) ∧ (↑(lsts texts).length : Int) = (↑(lsts texts).length : Int) ∧ (↑k : Int) + 1 = (↑j14 : Int) ∧ True) ∧ seps = seps ∧ List.map (fun (l : List Bs) ↦ AV.slice 1 (List.map strL l)) (lsts texts) = List.map (fun (l : List Bs) ↦ AV.slice 1 (List.map strL l)) (lsts texts) ∧ ((lsts texts).length = (lsts texts).length ∧ (0 : Nat) = 0 ∧ (lsts texts).length = (lsts texts).length) ∧ List.map u8A (serK seps (lsts texts) k) ++ List.map u8A (rwB seps x12) = List.map u8A (serK seps (lsts texts) j14) ∧ True ∧ List.length (serK seps (lsts texts) k) + List.length (rwB seps x12) = List.length (serK seps (lsts texts) j14) ∧ (0 : Nat) = 0 ∧ List.length (serK seps (lsts texts) k) + List.length (rwB seps x12) = List.length (serK seps (lsts texts) j14)) ∧ j14 ≤ (lsts texts).length ∧ (lsts texts).length - j14 < (lsts texts).length - k) ∧ (decide ((↑k : Int) < (↑(lsts texts).length : Int)) = false → (R FT X).m 46 [AV.ptr 4 0] [MObj.box 9 [strL seps], MObj.row 0 1 (List.map (fun (l : List
 Bs) ↦ AV.slice 1 (List.map strL l)) (lsts texts)) true (1 : Nat), MObj.box 77 [AV.row 1 0 (lsts texts).length (0 : Nat) (lsts texts).length], MObj.row 0 1 (List.map u8A (serK seps (lsts texts) k)) true (7 : Nat), MObj.box 71 [AV.any, AV.row 3 0 (List.length (serK seps (lsts texts) k)) (0 : Nat) (List.length (serK seps (lsts texts) k))]] = some (strL (serK seps (lsts texts) k), [MObj.box 9 [strL seps], MObj.row 0 1 (List.map (fun (l : List Bs) ↦ AV.slice 1 (List.map strL l)) (lsts texts)) true (1 : Nat), MObj.box 77 [AV.row 1 0 (lsts texts).length (0 : Nat) (lsts texts).length], MObj.row 1 1 [] true (7 : Nat), MObj.box 71 [AV.any, AV.row 3 0 (List.length (serK seps (lsts texts) k)) (0 : Nat) (List.length (serK seps (lsts texts) k))]]) ∧ serK seps (lsts texts) k = pstB texts seps b)) ∧ (b = false → (∃ (j17 : Nat), ((True ∧ AV.fn (Fn.func 47) [] [AV.ptr 0 0] = AV.fn (Fn.func 47) [] [AV.ptr 0 0] ∧ True ∧ (↑(mstK (lsts texts) k) : Int) = (↑(mst (lsts texts)) : Int) ∧ (0
 : Int) = (↑j17 : Int) ∧ True) ∧ seps = seps ∧ List.map (fun (l : List Bs) ↦ AV.slice 1 (List.map strL l)) (lsts (List.take k texts)) = List.map (fun (l : List Bs) ↦ AV.slice 1 (List.map strL l)) (lsts texts) ∧ ((lsts (List.take k texts)).length = (lsts texts).length ∧ (0 : Nat) = 0 ∧ (lsts (List.take k texts)).length = (lsts texts).length) ∧ [] = List.map u8A (parK seps (lsts texts) j17) ∧ True ∧ (0 : Nat) = List.length (parK seps (lsts texts) j17) ∧ (0 : Nat) = 0 ∧ (0 : Nat) = List.length (parK seps (lsts texts) j17)) ∧ j17 ≤ mst (lsts texts)) ∧ ∀ (k : Nat), k ≤ mst (lsts texts) → (decide ((↑k : Int) < (↑(mst (lsts texts)) : Int)) = true → (List.map (fun (l : List Bs) ↦ AV.slice 1 (List.map strL l)) (lsts texts)).length = (lsts texts).length ∧ (List.take (lsts texts).length (List.drop (0 : Nat) (List.map (fun (l : List Bs) ↦ AV.slice 1 (List.map strL l)) (lsts texts)))).length = (lsts texts).length ∧ (R FT X).m 47 [intA (↑(lsts texts).length : Int), AV.fn (Fn.func 50) [] [AV.ptr 5 0, AV.ptr 2 0], AV.ptr 0 0] [MObj.box 9 [strL seps], MObj.row 0 (1
 : Nat) (List.map (fun (l : List Bs) ↦ AV.slice 1 (List.map strL l)) (lsts texts)) true (1 : Nat), MObj.box 77 [AV.row 1 0 (lsts texts).length (0 : Nat) (lsts texts).length], MObj.row 0 1 (List.map u8A (parK seps (lsts texts) k)) true (7 : Nat), MObj.box 71 [AV.any, AV.row 3 0 (List.length (parK seps (lsts texts) k)) (0 : Nat) (List.length (parK seps (lsts texts) k))], MObj.box 3 [intA (↑k : Int)]] = some (strL (rwB seps (colm (lsts texts) k)), [MObj.box 9 [strL seps], MObj.row 0 1 (List.map (fun (l : List Bs) ↦ AV.slice 1 (List.map strL l)) (lsts texts)) true (1 : Nat), MObj.box 77 [AV.row 1 0 (lsts texts).length (0 : Nat) (lsts texts).length], MObj.row 0 1 (List.map u8A (parK seps (lsts texts) k)) true (7 : Nat), MObj.box 71 [AV.any, AV.row 3 0 (List.length (parK seps (lsts texts) k)) (0 : Nat) (List.length (parK seps (lsts texts) k))], MObj.box 3 [intA (↑k : Int)], MObj.row 1 1 [] true (7 : Nat), MObj.box 71 [AV.any, AV.row 6 0 (List.length
 (rwK seps (colm (lsts texts) k) (lsts texts).length)) (0 : Nat) (List.length (rwK seps (colm (lsts texts) k) (lsts texts).length))]]) ∧ (R FT X).m 64 [AV.ptr 4 0] [MObj.box 9 [strL seps], MObj.row 0 1 (List.map (fun (l : List Bs) ↦ AV.slice 1 (List.map strL l)) (lsts texts)) true (1 : Nat), MObj.box 77 [AV.row 1 0 (lsts texts).length (0 : Nat) (lsts texts).length], MObj.row 0 1 (List.map u8A (parK seps (lsts texts) k)) true (7 : Nat), MObj.box 71 [AV.any, AV.row 3 0 (List.length (parK seps (lsts texts) k)) (0 : Nat) (List.length (parK seps (lsts texts) k))], MObj.box 3 [intA (↑k : Int)], MObj.row 1 1 [] true (7 : Nat), MObj.box 71 [AV.any, AV.row 6 0 (List.length (rwK seps (colm (lsts texts) k) (lsts texts).length)) (0 : Nat) (List.length (rwK seps (colm (lsts texts) k) (lsts texts).length))]] = some (AV.tuple [], [MObj.box 9 [strL seps], MObj.row 0 1 (List.map (fun (l : List Bs) ↦ AV.slice 1 (List.map strL l)) (lsts texts)) true (1 : Nat), MObj.box 77 [AV.row 1 (0 :
 Nat) (lsts texts).length (0 : Nat) (lsts texts).length], MObj.row 0 1 (List.map u8A (parK seps (lsts texts) k)) true (7 : Nat), MObj.box 71 [AV.any, AV.row 3 0 (List.length (parK seps (lsts texts) k)) (0 : Nat) (List.length (parK seps (lsts texts) k))], MObj.box 3 [intA (↑k : Int)], MObj.row 1 1 [] true (7 : Nat), MObj.box 71 [AV.any, AV.row 6 0 (List.length (rwK seps (colm (lsts texts) k) (lsts texts).length)) (0 : Nat) (List.length (rwK seps (colm (lsts texts) k) (lsts texts).length))]]) ∧ (List.map u8A (parK seps (lsts texts) k)).length = List.length (parK seps (lsts texts) k) ∧ (0 : Nat) = 0 ∧ List.length (parK seps (lsts texts) k) = List.length (parK seps (lsts texts) k) ∧ List.length (parK seps (lsts texts) k) + List.length (rwB seps (colm (lsts texts) k)) = List.length (parK seps (lsts texts) k) + List.length (rwB seps (colm (lsts texts) k)) ∧ List.length (parK seps (lsts texts) k) + List.length (rwB seps (colm (lsts texts) k)) ≤ 140737488355328 ∧ List.length (parK seps (lsts texts) k) + List.length (rwB seps (colm (lsts texts) k)) ≤ 9223372036854775807 ∧ InI64 ((↑k
 : Int) + 1) ∧ ∃ (j20 : Nat), ((True ∧ AV.fn (Fn.func 47) [] [AV.ptr 0 0] = AV.fn (Fn.func 47) [] [AV.ptr 0 0] ∧ True ∧ (↑(mst (lsts texts)) : Int) = (↑(mst (lsts texts)) : Int) ∧ (↑k : Int) + 1 = (↑j20 : Int) ∧ True) ∧ seps = seps ∧ List.map (fun (l : List Bs) ↦ AV.slice 1 (List.map strL l)) (lsts texts) = List.map (fun (l : List Bs) ↦ AV.slice 1 (List.map strL l)) (lsts texts) ∧ ((lsts texts).length = (lsts texts).length ∧ (0 : Nat) = 0 ∧ (lsts texts).length = (lsts texts).length) ∧ List.map u8A (parK seps (lsts texts) k) ++ List.map u8A (rwB seps (colm (lsts texts) k)) = List.map u8A (parK seps (lsts texts) j20) ∧ True ∧ List.length (parK seps (lsts texts) k) + List.length (rwB seps (colm (lsts texts) k)) = List.length (parK seps (lsts texts) j20) ∧ (0 : Nat) = 0 ∧ List.length (parK seps (lsts texts) k) + List.length (rwB seps (colm (lsts texts) k)) = List.length (parK seps (lsts texts) j20)) ∧ j20 ≤ mst (lsts texts) ∧ mst (lsts texts) - j20 < mst (lsts texts) - k) ∧ (decide ((↑k : Int) < (↑(mst (lsts texts)) : Int)) = false → (R FT X).m 46 [AV.ptr 4 0]
 [MObj.box 9 [strL seps], MObj.row 0 1 (List.map (fun (l : List Bs) ↦ AV.slice 1 (List.map strL l)) (lsts texts)) true (1 : Nat), MObj.box 77 [AV.row 1 0 (lsts texts).length (0 : Nat) (lsts texts).length], MObj.row 0 1 (List.map u8A (parK seps (lsts texts) k)) true (7 : Nat), MObj.box 71 [AV.any, AV.row 3 0 (List.length (parK seps (lsts texts) k)) (0 : Nat) (List.length (parK seps (lsts texts) k))]] = some (strL (parK seps (lsts texts) k), [MObj.box 9 [strL seps], MObj.row 0 1 (List.map (fun (l : List Bs) ↦ AV.slice 1 (List.map strL l)) (lsts texts)) true (1 : Nat), MObj.box 77 [AV.row 1 0 (lsts texts).length (0 : Nat) (lsts texts).length], MObj.row 1 1 [] true (7 : Nat), MObj.box 71 [AV.any, AV.row 3 0 (List.length (parK seps (lsts texts) k)) (0 : Nat) (List.length (parK seps (lsts texts) k))]]) ∧ parK seps (lsts texts) k = pstB texts seps b))))) ?_
 refine ⟨(by simp), ⟨(0 : Nat), ⟨⟨rfl, trivial, trivial, rfl, rfl, rfl, (by omega), trivial⟩, rfl, rfl, rfl, rfl, rfl⟩, (by omega)⟩, fun k => fun h2 => ⟨fun h3_ => have h3 := dT h3_; ⟨rfl, rfl, (by omega), fun x4 => fun h5 => ⟨(ll _ ?_), (by simp), rfl, rfl, rfl, ?_, ?_, (by simp), ?_, ⟨k + (1 : Nat), ⟨⟨rfl, trivial, trivial, ?_, rfl, rfl, (by omega), trivial⟩, rfl, ?_, ?_, rfl, ?_⟩, ⟨(by omega), (by omega)⟩⟩⟩⟩, fun h7_ => have h7 := dF h7_; ⟨fun h8 => ⟨(by simp), (by simp), ⟨(0 : Nat), ⟨⟨rfl, trivial, ⟨?_, rfl, ?_⟩, ?_, (by omega), trivial⟩, rfl, ?_, ⟨?_, rfl, ?_⟩, rfl, trivial, rfl, rfl, rfl⟩, (by omega)⟩, fun k => fun h10 => ⟨fun h11_ => have h11 := dT h11_; ⟨(by simp), rfl, (by omega), rfl, (by simp), rfl, (by omega), fun x12 => fun h13 => ⟨(by simp), (js _ _ ?_ ?_ _ _ _ _), (cc _ _ (by exact rfl)), (by simp), rfl, rfl, rfl, ?_, ?_, ?_, ⟨k + (1 : Nat), ⟨⟨rfl, trivial, ⟨rfl, rfl, rfl⟩, rfl, (by omega), trivial⟩, rfl, rfl, ⟨rfl, rfl, rfl⟩, ?_, trivial, ?_, rfl, ?_⟩, ⟨(by omega), (by omega)⟩⟩⟩⟩, fun h15_ => have h15 := dF h15_; ⟨(bs _ _ _ _ _ _ _ _ _ _ (by exact rfl) (by exact rfl) (by exact (by simp)) (by exact (bytesV_map _)) ?_ (by exact rfl)), ?_⟩⟩⟩, fun h16 => ⟨⟨(0 : Nat), ⟨⟨trivial, rfl, trivial, ?_, (by omega), trivial⟩, rfl, ?_, ⟨?_, rfl, ?_⟩, rfl, trivial, rfl, rfl, rfl⟩, (by omega)⟩, fun k => fun h18 => ⟨fun h19_ => have h19 := dT h19_; ⟨(by simp), (by simp), (jp _ _ _ ?_ ?_ ?_ _ _), (cc _ _ (by exact rfl)), (by simp), rfl, rfl, rfl, ?_, ?_, ?_, ⟨k + (1 : Nat), ⟨⟨trivial, rfl, trivial, rfl, (by omega), trivial⟩, rfl, rfl, ⟨rfl, rfl, rfl⟩, ?_, trivial, ?_, rfl, ?_⟩, ⟨(by omega), (by omega)⟩⟩⟩, fun h21_ => have h21 := dF h21_; ⟨(bs _ _ _ _ _ _ _ _ _ _ (by exact rfl) (by exact rfl) (by exact (by simp)) (by exact (bytesV_map _)) ?_ (by exact rfl)), ?_⟩⟩⟩⟩⟩⟩
 all_goals (try have ht := h.t _ (List.mem_of_getElem? h5))
 all_goals have hn := h.n
 ·omega
 ·rw [lsts_len, List.length_take]; omega
 ·rw [lsts_len, List.length_take]; omega
 ·unfold InI64; omega
 ·rw [mstK_s (lsts_at h5)]; split <;> omega
 ·rw [lsts_s h5, List.map_append]; rfl
 iterate 2 · rw [lsts_s h5]; simp
 all_goals (try have et := List.take_of_length_le (l := texts) (i := k) (by omega))
 iterate 6 · rw [et]
 all_goals (try have el := h.el (List.mem_of_getElem? h13))
 ·omega
 ·omega
 iterate 2
  ·have hb := h.ser (k + 1) (by omega)
   rw [Nat.zero_add] at h13
   rw [serK_s h13, List.length_append] at hb
   omega
 ·have := h.ln; unfold InI64; omega
 all_goals (try rw [Nat.zero_add] at h13)
 ·rw [serK_s h13, List.map_append]
 iterate 2 · rw [serK_s h13, List.length_append]
 ·have := h.ser k h10; omega
 ·rw [pstB, h8, if_pos rfl, show k = (lsts texts).length by omega]
 all_goals (try have et := List.take_of_length_le (l := texts) (i := k) (by omega))
 ·rw [mstK_all _ (by rw [lsts_len]; omega)]
 iterate 3 · rw [et]
 all_goals have hms := h.ms
 all_goals have hln := h.ln
 ·omega
 ·omega
 ·have := h.col k; omega
 iterate 2
  ·have hb := h.par (k + 1) (by omega)
   rw [parK, List.length_append] at hb
   omega
 ·unfold InI64; omega
 ·rw [parK, List.map_append]
 iterate 2 · rw [parK, List.length_append]
 ·have := h.par k h18; omega
 ·rw [pstB, h16, if_neg (by decide), show k = mst (lsts texts) by omega]
theorem paste2_run (texts : List Bs) (seps : Bs) (b : Bool) (h : PsOk texts seps) : (R FT X).f 23 [.slice 1 (texts.map strL), strL seps, boolA b] = some (strL (pstB texts seps b)) := by
 have ll := lines2_run (X := X)
 have hm' := maxLen_le
 have rr := row2_run (X := X)
 refine R_wp ((Tr.inv (fun (k : Nat) ↦ St.mk [(0, AV.slice 1 (List.map strL texts)), (1, strL seps), (2, boolA b), (7, AV.row 0 0 (lsts (List.take k texts)).length (0 : Nat) (lsts (List.take k texts)).length), (8, intA (↑(mstK (lsts texts) k) : Int)), (9, intA (↑k : Int))] [MObj.row 0 1 (List.map (fun (l : List Bs) ↦ AV.slice 1 (List.map strL l)) (lsts (List.take k texts))) true (1 : Nat)]) (fun (k : Nat) ↦ k ≤ texts.length) (fun (k : Nat) ↦ texts.length - k) fun (k : Nat) ↦ (Tr.k texts.length ((Tr.ix strL texts k fun (x4 : Bs) ↦ Tr.c (AV.tuple [AV.slice 1 (List.map strL (lins x4)), boolA (endB x4)]) (Tr.k ((lsts (List.take k texts)).length + 1) (Tr.k (lins x4).length Tr.nil.w))).w.br ((Tr.inv (fun (k : Nat) ↦ St.mk [(1, strL seps), (7, AV.row 0 0 (lsts texts).length (0 : Nat) (lsts texts).length), (12, strL (serK seps (lsts texts) k)), (13, intA (↑k : Int))] [MObj.row 0 1 (List.map (fun (l : List Bs) ↦ AV.slice 1 (List.map strL l)) (lsts texts)) true (1 : Nat)]) (fun (k : Nat) ↦ k ≤ (lsts texts).length) (fun (k : Nat)
 ↦ (lsts texts).length - k) fun (k : Nat) ↦ (Tr.k (lsts texts).length ((Tr.k k (Tr.ix (fun (l : List Bs) ↦ AV.slice 1 (List.map strL l)) (lsts texts) ((0 : Nat) + k) fun (x12 : List Bs) ↦ Tr.c (strL (rwB seps x12)) Tr.nil.w.w)).w.br Tr.nil)).w).w.br (Tr.inv (fun (g : Nat) ↦ St.mk [(1, strL seps), (7, AV.row 0 0 (lsts texts).length (0 : Nat) (lsts texts).length), (8, intA (↑(mst (lsts texts)) : Int)), (12, strL (parK seps (lsts texts) g)), (14, intA (↑g : Int))] [MObj.row 0 1 (List.map (fun (l : List Bs) ↦ AV.slice 1 (List.map strL l)) (lsts texts)) true (1 : Nat)]) (fun (k : Nat) ↦ k ≤ mst (lsts texts)) (fun (k : Nat) ↦ mst (lsts texts) - k) fun (g : Nat) ↦ ((Tr.inv (fun (q : Nat) ↦ St.mk [(1, strL seps), (7, AV.row 0 0 (lsts texts).length (0 : Nat) (lsts texts).length), (8, intA (↑(mst (lsts texts)) : Int)), (12, strL (parK seps (lsts texts) g)), (14, intA (↑g : Int)), (15, AV.row 1 0 (List.take q (colm (lsts texts) g)).length (0 : Nat) (List.take q (colm (lsts texts) g)).length), (16, intA (↑q : Int))] [MObj.row
 (0 : Nat) (1 : Nat) (List.map (fun (l : List Bs) ↦ AV.slice 1 (List.map strL l)) (lsts texts)) true (1 : Nat), MObj.row 0 1 (List.map strL (List.take q (colm (lsts texts) g))) true (1 : Nat)]) (fun (q : Nat) ↦ q ≤ (lsts texts).length) (fun (q : Nat) ↦ (lsts texts).length - q) fun (q : Nat) ↦ (Tr.k (lsts texts).length ((Tr.k q (Tr.ix (fun (l : List Bs) ↦ AV.slice 1 (List.map strL l)) (lsts texts) ((0 : Nat) + q) fun (x23 : List Bs) ↦ Tr.k x23.length ((Tr.k q (Tr.ix (fun (l : List Bs) ↦ AV.slice 1 (List.map strL l)) (lsts texts) ((0 : Nat) + q) fun (x26 : List Bs) ↦ Tr.ix strL x26 g fun (x28 : Bs) ↦ Tr.k ((List.take q (colm (lsts texts) g)).length + 1) Tr.nil.w)).br (Tr.k ((List.take q (colm (lsts texts) g)).length + 1) Tr.nil.w)).w)).w.w.br (Tr.g (List.map strL (List.take q (colm (lsts texts) g))) (Tr.c (strL (rwB seps (List.take q (colm (lsts texts) g)))) Tr.nil.w.w)))).w).w.w.br Tr.nil).w).w).w.w)).w).w) rfl ?_
 refine Eq.mpr (by kernel_rfl : _ = ((∃ (j1 : Nat), ((List.map strL texts = List.map strL texts ∧ seps = seps ∧ b = b ∧ ((0 : Nat) = (lsts (List.take j1 texts)).length ∧ (0 : Nat) = 0 ∧ (0 : Nat) = (lsts (List.take j1 texts)).length) ∧ (0 : Int) = (↑(mstK (lsts texts) j1) : Int) ∧ (0 : Int) = (↑j1 : Int) ∧ True) ∧ [] = List.map (fun (l : List Bs) ↦ AV.slice 1 (List.map strL l)) (lsts (List.take j1 texts))) ∧ j1 ≤ texts.length) ∧ ∀ (k : Nat), k ≤ texts.length → (List.map strL texts).length = texts.length ∧ (decide ((↑k : Int) < (↑texts.length : Int)) = true → List.map strL texts = List.map strL texts ∧ (↑k : Int) = (↑k : Int) ∧ k < texts.length ∧ ∀ (x4 : Bs), texts[k]? = some x4 → (R FT X).f 28 [strL x4] = some (AV.tuple [AV.slice 1 (List.map strL (lins x4)), boolA (endB x4)]) ∧ (List.map (fun (l : List Bs) ↦ AV.slice 1 (List.map strL l)) (lsts (List.take k texts))).length = (lsts (List.take k texts)).length ∧ (0 : Nat) = 0 ∧ (lsts (List.take k texts)).length = (lsts (List.take k texts)).length ∧ (lsts (List.take k texts)).length + [AV.slice 1 (List.map strL (lins x4))].length = (lsts (List.take k texts)).length + 1 ∧ ((lsts (List.take k texts)).length +
 (1 : Nat)) * 24 ≤ (140737488355328 : Nat) ∧ (lsts (List.take k texts)).length + 1 ≤ (9223372036854775807 : Nat) ∧ (List.map strL (lins x4)).length = (lins x4).length ∧ InI64 ((↑k : Int) + 1) ∧ ∃ (j6 : Nat), ((List.map strL texts = List.map strL texts ∧ seps = seps ∧ b = b ∧ ((lsts (List.take k texts)).length + 1 = (lsts (List.take j6 texts)).length ∧ (0 : Nat) = 0 ∧ (lsts (List.take k texts)).length + 1 = (lsts (List.take j6 texts)).length) ∧ (if (↑(lins x4).length : Int) > (↑(mstK (lsts texts) k) : Int) then (↑(lins x4).length : Int) else (↑(mstK (lsts texts) k) : Int)) = (↑(mstK (lsts texts) j6) : Int) ∧ (↑k : Int) + 1 = (↑j6 : Int) ∧ True) ∧ List.map (fun (l : List Bs) ↦ AV.slice 1 (List.map strL l)) (lsts (List.take k texts)) ++ [AV.slice 1 (List.map strL (lins x4))] = List.map (fun (l : List Bs) ↦ AV.slice 1 (List.map strL l)) (lsts (List.take j6 texts))) ∧ j6 ≤ texts.length ∧ texts.length - j6 < texts.length - k) ∧ (decide ((↑k : Int) < (↑texts.length : Int)) = false → (b = true → (∃ (j9 : Nat), ((seps = seps ∧ ((lsts (List.take k texts)).length = (lsts texts).length ∧ (0 : Nat) = 0 ∧ (lsts
 (List.take k texts)).length = (lsts texts).length) ∧ [] = serK seps (lsts texts) j9 ∧ (0 : Int) = (↑j9 : Int) ∧ True) ∧ List.map (fun (l : List Bs) ↦ AV.slice 1 (List.map strL l)) (lsts (List.take k texts)) = List.map (fun (l : List Bs) ↦ AV.slice 1 (List.map strL l)) (lsts texts)) ∧ j9 ≤ (lsts texts).length) ∧ ∀ (k : Nat), k ≤ (lsts texts).length → (List.map (fun (l : List Bs) ↦ AV.slice 1 (List.map strL l)) (lsts texts)).length = (lsts texts).length ∧ (List.take (lsts texts).length (List.drop (0 : Nat) (List.map (fun (l : List Bs) ↦ AV.slice 1 (List.map strL l)) (lsts texts)))).length = (lsts texts).length ∧ (decide ((↑k : Int) < (↑(lsts texts).length : Int)) = true → (List.map (fun (l : List Bs) ↦ AV.slice 1 (List.map strL l)) (lsts texts)).length = (lsts texts).length ∧ (↑k : Int) = (↑k : Int) ∧ k < (lsts texts).length ∧ List.map (fun (l : List Bs) ↦ AV.slice 1 (List.map strL l)) (lsts texts) = List.map (fun (l : List Bs) ↦ AV.slice 1 (List.map strL l)) (lsts texts) ∧ (List.map (fun (l : List Bs) ↦ AV.slice 1 (List.map strL l)) (lsts texts)).length = (lsts texts).length ∧ (0 : Nat) + k = 0 + k ∧ (0 : Nat) +
 k < (lsts texts).length ∧ ∀ (x12 : List Bs), (lsts texts)[(0 : Nat) + k]? = some x12 → (R FT X).f 51 [AV.slice 1 (List.map strL x12), strL seps] = some (strL (rwB seps x12)) ∧ List.length (serK seps (lsts texts) k) + List.length (rwB seps x12) ≤ 9223372036854775807 ∧ InI64 ((↑k : Int) + 1) ∧ ∃ (j14 : Nat), ((seps = seps ∧ ((lsts texts).length = (lsts texts).length ∧ (0 : Nat) = 0 ∧ (lsts texts).length = (lsts texts).length) ∧ serK seps (lsts texts) k ++ rwB seps x12 = serK seps (lsts texts) j14 ∧ (↑k : Int) + 1 = (↑j14 : Int) ∧ True) ∧ List.map (fun (l : List Bs) ↦ AV.slice 1 (List.map strL l)) (lsts texts) = List.map (fun (l : List Bs) ↦ AV.slice 1 (List.map strL l)) (lsts texts)) ∧ j14 ≤ (lsts texts).length ∧ (lsts texts).length - j14 < (lsts texts).length - k) ∧ (decide ((↑k : Int) < (↑(lsts texts).length : Int)) = false → serK seps (lsts texts) k = pstB texts seps b)) ∧ (b = false → (∃ (j17 : Nat), ((seps = seps ∧ ((lsts (List.take k texts)).length = (lsts texts).length ∧ (0 : Nat) = 0 ∧ (lsts (List.take k texts)).length = (lsts texts).length) ∧ (↑(mstK (lsts texts) k) : Int) = (↑(mst (lsts texts)) : Int)
 ∧ [] = parK seps (lsts texts) j17 ∧ (0 : Int) = (↑j17 : Int) ∧ True) ∧ List.map (fun (l : List Bs) ↦ AV.slice 1 (List.map strL l)) (lsts (List.take k texts)) = List.map (fun (l : List Bs) ↦ AV.slice 1 (List.map strL l)) (lsts texts)) ∧ j17 ≤ mst (lsts texts)) ∧ ∀ (g : Nat), g ≤ mst (lsts texts) → (decide ((↑g : Int) < (↑(mst (lsts texts)) : Int)) = true → (∃ (j20 : Nat), ((seps = seps ∧ ((lsts texts).length = (lsts texts).length ∧ (0 : Nat) = 0 ∧ (lsts texts).length = (lsts texts).length) ∧ (↑(mst (lsts texts)) : Int) = (↑(mst (lsts texts)) : Int) ∧ parK seps (lsts texts) g = parK seps (lsts texts) g ∧ (↑g : Int) = (↑g : Int) ∧ ((0 : Nat) = (List.take j20 (colm (lsts texts) g)).length ∧ (0 : Nat) = 0 ∧ (0 : Nat) = (List.take j20 (colm (lsts texts) g)).length) ∧ (0 : Int) = (↑j20 : Int) ∧ True) ∧ List.map (fun (l : List Bs) ↦ AV.slice 1 (List.map strL l)) (lsts texts) = List.map (fun (l : List Bs) ↦ AV.slice 1 (List.map strL l)) (lsts texts) ∧ [] = List.map strL (List.take j20 (colm (lsts texts) g))) ∧ j20 ≤ (lsts texts).length) ∧ ∀ (q : Nat), q ≤ (lsts texts).length → (List.map (fun (l : List Bs) ↦ AV.slice 1 (List.map strL l))
 (lsts texts)).length = (lsts texts).length ∧ (List.take (lsts texts).length (List.drop (0 : Nat) (List.map (fun (l : List Bs) ↦ AV.slice 1 (List.map strL l)) (lsts texts)))).length = (lsts texts).length ∧ (decide ((↑q : Int) < (↑(lsts texts).length : Int)) = true → (List.map (fun (l : List Bs) ↦ AV.slice 1 (List.map strL l)) (lsts texts)).length = (lsts texts).length ∧ (↑q : Int) = (↑q : Int) ∧ q < (lsts texts).length ∧ List.map (fun (l : List Bs) ↦ AV.slice 1 (List.map strL l)) (lsts texts) = List.map (fun (l : List Bs) ↦ AV.slice 1 (List.map strL l)) (lsts texts) ∧ (List.map (fun (l : List Bs) ↦ AV.slice 1 (List.map strL l)) (lsts texts)).length = (lsts texts).length ∧ (0 : Nat) + q = 0 + q ∧ (0 : Nat) + q < (lsts texts).length ∧ ∀ (x23 : List Bs), (lsts texts)[(0 : Nat) + q]? = some x23 → (List.map strL x23).length = x23.length ∧ (decide ((↑g : Int) < (↑x23.length : Int)) = true → (List.map (fun (l : List Bs) ↦ AV.slice 1 (List.map strL l)) (lsts texts)).length = (lsts texts).length ∧ (↑q : Int) = (↑q : Int) ∧ q < (lsts texts).length ∧ List.map (fun (l : List Bs) ↦ AV.slice 1 (List.map strL l)) (lsts texts) = List.map
 (fun (l : List Bs) ↦ AV.slice 1 (List.map strL l)) (lsts texts) ∧ (List.map (fun (l : List Bs) ↦ AV.slice 1 (List.map strL l)) (lsts texts)).length = (lsts texts).length ∧ (0 : Nat) + q = 0 + q ∧ (0 : Nat) + q < (lsts texts).length ∧ ∀ (x26 : List Bs), (lsts texts)[(0 : Nat) + q]? = some x26 → List.map strL x26 = List.map strL x26 ∧ (↑g : Int) = (↑g : Int) ∧ g < x26.length ∧ ∀ (x28 : Bs), x26[g]? = some x28 → (List.map strL (List.take q (colm (lsts texts) g))).length = (List.take q (colm (lsts texts) g)).length ∧ (0 : Nat) = 0 ∧ (List.take q (colm (lsts texts) g)).length = (List.take q (colm (lsts texts) g)).length ∧ (List.take q (colm (lsts texts) g)).length + [AV.val (Value.string (ofL x28))].length = (List.take q (colm (lsts texts) g)).length + 1 ∧ ((List.take q (colm (lsts texts) g)).length + 1) * 16 ≤ (140737488355328 : Nat) ∧ (List.take q (colm (lsts texts) g)).length + 1 ≤ (9223372036854775807 : Nat) ∧ InI64 ((↑q : Int) + 1) ∧ ∃ (j30 : Nat), ((seps = seps ∧ ((lsts texts).length = (lsts texts).length ∧ (0 : Nat) = 0 ∧ (lsts texts).length = (lsts texts).length) ∧ (↑(mst (lsts texts)) : Int) = (↑(mst
 (lsts texts)) : Int) ∧ parK seps (lsts texts) g = parK seps (lsts texts) g ∧ (↑g : Int) = (↑g : Int) ∧ ((List.take q (colm (lsts texts) g)).length + 1 = (List.take j30 (colm (lsts texts) g)).length ∧ (0 : Nat) = 0 ∧ (List.take q (colm (lsts texts) g)).length + 1 = (List.take j30 (colm (lsts texts) g)).length) ∧ (↑q : Int) + 1 = (↑j30 : Int) ∧ True) ∧ List.map (fun (l : List Bs) ↦ AV.slice 1 (List.map strL l)) (lsts texts) = List.map (fun (l : List Bs) ↦ AV.slice 1 (List.map strL l)) (lsts texts) ∧ List.map strL (List.take q (colm (lsts texts) g)) ++ [AV.val (Value.string (ofL x28))] = List.map strL (List.take j30 (colm (lsts texts) g))) ∧ j30 ≤ (lsts texts).length ∧ (lsts texts).length - j30 < (lsts texts).length - q) ∧ (decide ((↑g : Int) < (↑x23.length : Int)) = false → (List.map strL (List.take q (colm (lsts texts) g))).length = (List.take q (colm (lsts texts) g)).length ∧ (0 : Nat) = 0 ∧ (List.take q (colm (lsts texts) g)).length = (List.take q (colm (lsts texts) g)).length ∧ (List.take q (colm (lsts texts) g)).length + [AV.val (Value.string (ByteArray.mk #[]))].length = (List.take q (colm (lsts texts) g)).length + 1
 ∧ ((List.take q (colm (lsts texts) g)).length + 1) * 16 ≤ (140737488355328 : Nat) ∧ (List.take q (colm (lsts texts) g)).length + 1 ≤ (9223372036854775807 : Nat) ∧ InI64 ((↑q : Int) + 1) ∧ ∃ (j32 : Nat), ((seps = seps ∧ ((lsts texts).length = (lsts texts).length ∧ (0 : Nat) = 0 ∧ (lsts texts).length = (lsts texts).length) ∧ (↑(mst (lsts texts)) : Int) = (↑(mst (lsts texts)) : Int) ∧ parK seps (lsts texts) g = parK seps (lsts texts) g ∧ (↑g : Int) = (↑g : Int) ∧ ((List.take q (colm (lsts texts) g)).length + 1 = (List.take j32 (colm (lsts texts) g)).length ∧ (0 : Nat) = 0 ∧ (List.take q (colm (lsts texts) g)).length + 1 = (List.take j32 (colm (lsts texts) g)).length) ∧ (↑q : Int) + 1 = (↑j32 : Int) ∧ True) ∧ List.map (fun (l : List Bs) ↦ AV.slice 1 (List.map strL l)) (lsts texts) = List.map (fun (l : List Bs) ↦ AV.slice 1 (List.map strL l)) (lsts texts) ∧ List.map strL (List.take q (colm (lsts texts) g)) ++ [AV.val (Value.string (ByteArray.mk #[]))] = List.map strL (List.take j32 (colm (lsts texts) g))) ∧ j32 ≤ (lsts texts).length ∧ (lsts texts).length - j32 < (lsts texts).length - q)) ∧ (decide ((↑q
 : Int) < (↑(lsts texts).length : Int)) = false → (List.map strL (List.take q (colm (lsts texts) g))).length = (List.take q (colm (lsts texts) g)).length ∧ List.take (List.take q (colm (lsts texts) g)).length (List.drop (0 : Nat) (List.map strL (List.take q (colm (lsts texts) g)))) = List.map strL (List.take q (colm (lsts texts) g)) ∧ (R FT X).f 51 [AV.slice 1 (List.map strL (List.take q (colm (lsts texts) g))), strL seps] = some (strL (rwB seps (List.take q (colm (lsts texts) g)))) ∧ List.length (parK seps (lsts texts) g) + List.length (rwB seps (List.take q (colm (lsts texts) g))) ≤ 9223372036854775807 ∧ InI64 ((↑g : Int) + 1) ∧ ∃ (j34 : Nat), ((seps = seps ∧ ((lsts texts).length = (lsts texts).length ∧ (0 : Nat) = 0 ∧ (lsts texts).length = (lsts texts).length) ∧ (↑(mst (lsts texts)) : Int) = (↑(mst (lsts texts)) : Int) ∧ parK seps (lsts texts) g ++ rwB seps (List.take q (colm (lsts texts) g)) = parK seps (lsts texts) j34 ∧ (↑g : Int) + 1 = (↑j34 : Int) ∧ True) ∧ List.map (fun (l : List Bs) ↦ AV.slice 1 (List.map strL l)) (lsts texts) = List.map (fun (l : List Bs) ↦ AV.slice 1 (List.map strL l)) (lsts texts)) ∧ j34
 ≤ mst (lsts texts) ∧ mst (lsts texts) - j34 < mst (lsts texts) - g)) ∧ (decide ((↑g : Int) < (↑(mst (lsts texts)) : Int)) = false → parK seps (lsts texts) g = pstB texts seps b))))) ?_
 refine ⟨⟨(0 : Nat), ⟨⟨rfl, rfl, rfl, ⟨rfl, rfl, rfl⟩, rfl, (by omega), trivial⟩, rfl⟩, (by omega)⟩, fun k => fun h2 => ⟨(by simp), fun h3_ => have h3 := dT h3_; ⟨rfl, rfl, (by omega), fun x4 => fun h5 => ⟨(ll _ ?_), (by simp), rfl, rfl, rfl, ?_, ?_, (by simp), ?_, ⟨k + (1 : Nat), ⟨⟨rfl, rfl, rfl, ⟨?_, rfl, ?_⟩, ?_, (by omega), trivial⟩, ?_⟩, ⟨(by omega), (by omega)⟩⟩⟩⟩, fun h7_ => have h7 := dF h7_; ⟨fun h8 => ⟨⟨(0 : Nat), ⟨⟨rfl, ⟨?_, rfl, ?_⟩, rfl, (by omega), trivial⟩, ?_⟩, (by omega)⟩, fun k => fun h10 => ⟨(by simp), (by simp), fun h11_ => have h11 := dT h11_; ⟨(by simp), rfl, (by omega), rfl, (by simp), rfl, (by omega), fun x12 => fun h13 => ⟨(rr _ _ ?_ ?_ ?_), ?_, ?_, ⟨k + (1 : Nat), ⟨⟨rfl, ⟨rfl, rfl, rfl⟩, ?_, (by omega), trivial⟩, rfl⟩, ⟨(by omega), (by omega)⟩⟩⟩⟩, fun h15_ => have h15 := dF h15_; ?_⟩⟩, fun h16 => ⟨⟨(0 : Nat), ⟨⟨rfl, ⟨?_, rfl, ?_⟩, ?_, rfl, (by omega), trivial⟩, ?_⟩, (by omega)⟩, fun g => fun h18 => ⟨fun h19_ => have h19 := dT h19_; ⟨⟨(0 : Nat), ⟨⟨rfl, ⟨rfl, rfl, rfl⟩, rfl, rfl, rfl, ⟨rfl, rfl, rfl⟩, (by omega), trivial⟩, rfl, rfl⟩, (by omega)⟩, fun q => fun h21 => ⟨(by simp), (by simp), fun h22_ => have h22 := dT h22_; ⟨(by simp), rfl, (by omega), rfl, (by simp), rfl, (by omega), fun x23 => fun h24 => ⟨(by simp), fun h25_ => have h25 := dT h25_; ⟨(by simp), rfl, (by omega), rfl, (by simp), rfl, (by omega), fun x26 => fun h27 => ⟨rfl, rfl, ?_, fun x28 => fun h29 => ⟨(by simp), rfl, rfl, rfl, ?_, ?_, ?_, ⟨q + (1 : Nat), ⟨⟨rfl, ⟨rfl, rfl, rfl⟩, rfl, rfl, rfl, ⟨?_, rfl, ?_⟩, (by omega), trivial⟩, rfl, ?_⟩, ⟨(by omega), (by omega)⟩⟩⟩⟩⟩, fun h31_ => have h31 := dF h31_; ⟨(by simp), rfl, rfl, rfl, ?_, ?_, ?_, ⟨q + (1 : Nat), ⟨⟨rfl, ⟨rfl, rfl, rfl⟩, rfl, rfl, rfl, ⟨?_, rfl, ?_⟩, (by omega), trivial⟩, rfl, ?_⟩, ⟨(by omega), (by omega)⟩⟩⟩⟩⟩, fun h33_ => have h33 := dF h33_; ⟨(by simp), ?_, (rr _ _ ?_ ?_ ?_), ?_, ?_, ⟨g + (1 : Nat), ⟨⟨rfl, ⟨rfl, rfl, rfl⟩, rfl, ?_, (by omega), trivial⟩, rfl⟩, ⟨(by omega), (by omega)⟩⟩⟩⟩⟩, fun h35_ => have h35 := dF h35_; ?_⟩⟩⟩⟩⟩
 all_goals (try have ht := h.t _ (List.mem_of_getElem? h5))
 all_goals have hn := h.n
 all_goals have hln := h.ln
 all_goals have hsp := h.s
 all_goals have hms := h.ms
 all_goals have hm3 := maxLen_i64
 ·omega
 ·rw [lsts_len, List.length_take]; omega
 ·rw [lsts_len, List.length_take]; omega
 ·unfold InI64; omega
 iterate 2 · rw [lsts_s h5]; simp
 ·rw [mstK_s (lsts_at h5)]; split <;> omega
 ·rw [lsts_s h5, List.map_append]; rfl
 all_goals (try have et := List.take_of_length_le (l := texts) (i := k) (by omega))
 iterate 3 · rw [et]
 all_goals (try have el := h.el (List.mem_of_getElem? h13))
 ·exact hsp
 ·omega
 ·omega
 all_goals (try rw [Nat.zero_add] at h13)
 ·have hb := h.ser (k + 1) (by omega)
  rw [serK_s h13, List.length_append] at hb
  omega
 ·unfold InI64; omega
 ·rw [serK_s h13]
 ·rw [pstB, h8, if_pos rfl, show k = (lsts texts).length by omega]
 all_goals (try have et := List.take_of_length_le (l := texts) (i := k) (by omega))
 iterate 2 · rw [et]
 ·rw [mstK_all _ (by rw [lsts_len]; omega)]
 ·rw [et]
 all_goals (try rw [Nat.zero_add] at h24 h27)
 all_goals (try rw [Nat.zero_add] at h24)
 ·obtain rfl := same_at h24 h27; omega
 all_goals (try obtain rfl := same_at h24 h27)
 all_goals (try have cg := colm_len (lsts texts) g)
 iterate 2 · rw [List.length_take]; omega
 ·unfold InI64; omega
 iterate 2 · rw [take_succ_get (colm_y h24 h29)]; simp
 ·rw [take_succ_get (colm_y h24 h29), List.map_append]; rfl
 iterate 2 · rw [List.length_take]; omega
 ·unfold InI64; omega
 iterate 2 · rw [take_succ_get (colm_n h24 h31)]; simp
 ·rw [take_succ_get (colm_n h24 h31), List.map_append]; rfl
 all_goals (try have eq := List.take_of_length_le (l := colm (lsts texts) g) (i := q) (by omega))
 ·rw [List.drop_zero, List.take_of_length_le (by simp)]
 ·exact hsp
 ·rw [List.length_take]; omega
 ·have := h.col g; rw [eq]; omega
 ·rw [eq]
  have hb := h.par (g + 1) (by omega)
  rw [parK, List.length_append] at hb
  omega
 ·unfold InI64; omega
 ·rw [eq, parK]
 ·rw [pstB, h16, if_neg (by decide), show g = mst (lsts texts) by omega]
end
end Go.Proofs.YtfedemnaeggokaaGreatDoor
end
section
namespace Go.Proofs.YtfedemnaeggokaaGreatDoor
set_option linter.unusedVariables false
set_option linter.unusedSimpArgs false
theorem ok_inB {x : Sp} (h : okB x = true) : inB x.f x = true := by
 rw [okB_iff] at h; rw [inB_iff]; omega
theorem nor_tail {x : Sp} {l : List Sp} (h : norB (x :: l) = true) : norB l = true := by
 rw [norB_cons, Bool.and_eq_true] at h; exact h.2
theorem nor_ok {l : List Sp} (h : norB l = true) {x : Sp} (hx : x ∈ l) : okB x = true := by
 obtain ⟨i, hi⟩ := List.getElem?_of_mem hx
 exact (norB_get.1 h i x hi).1
theorem nor_head {x : Sp} {l : List Sp} (h : norB (x :: l) = true) {y : Sp} (hy : y ∈ l) : x.t ≠ 0 ∧ x.t < y.f - 1 := by
 obtain ⟨j, hj⟩ := List.getElem?_of_mem hy
 have hl := (List.getElem?_eq_some_iff.1 hj).1
 have h0 : l[0]? = some l[0] := List.getElem?_eq_getElem (by omega)
 have h1 := (norB_get.1 h 0 x rfl).2 l[0] (by simp)
 have h2 := nor_le (nor_tail h) j 0 _ y (Nat.zero_le _) h0 hj
 unfold Apart at h1
 omega
theorem has_ge {x : Sp} {l : List Sp} (h : norB (x :: l) = true) {n : Int} (hn : hasB (x :: l) n = true) : x.f ≤ n := by
 rw [hasB_iff] at hn
 obtain ⟨y, hy, h1, -⟩ := hn
 rcases List.mem_cons.1 hy with q | q
 ·subst q; exact h1
 ·have := nor_head h q
  have := okB_iff.1 (nor_ok h List.mem_cons_self)
  omega
theorem has_gap {x : Sp} {l : List Sp} (h : norB (x :: l) = true) (ht : x.t ≠ 0) : hasB (x :: l) (x.t + 1) = false := by
 cases hb : hasB (x :: l) (x.t + 1)
 ·rfl
 ·rw [hasB_iff] at hb
  obtain ⟨y, hy, h1, h2⟩ := hb
  rcases List.mem_cons.1 hy with q | q
  ·subst q; omega
  ·have := nor_head h q; omega
theorem nor_uniq : ∀ (l m : List Sp), norB l = true → norB m = true → (∀ n : Int, 1 ≤ n → hasB l n = hasB m n) → l = m
 | [], [], _, _, _ => rfl
 | [], y :: m, _, h2, h3 => by
  have h1 := nor_ok h2 List.mem_cons_self
  have := h3 y.f (okB_iff.1 h1).1
  rw [hasB_cons, ok_inB h1] at this; cases this
 | x :: l, [], h1, _, h3 => by
  have h2 := nor_ok h1 List.mem_cons_self
  have := h3 x.f (okB_iff.1 h2).1
  rw [hasB_cons, ok_inB h2] at this; cases this
 | x :: l, y :: m, h1, h2, h3 => by
  have ox := okB_iff.1 (nor_ok h1 List.mem_cons_self)
  have oy := okB_iff.1 (nor_ok h2 List.mem_cons_self)
  have e1 : y.f ≤ x.f := has_ge h2 (by rw [← h3 x.f ox.1, hasB_cons, ok_inB (nor_ok h1 List.mem_cons_self)]; rfl)
  have e2 : x.f ≤ y.f := has_ge h1 (by rw [h3 y.f oy.1, hasB_cons, ok_inB (nor_ok h2 List.mem_cons_self)]; rfl)
  have et : x.t = y.t := by
   have mem : ∀ (z : Sp) (r : List Sp) (n : Int), z.f ≤ n → (z.t = 0 ∨ n ≤ z.t) → hasB (z :: r) n = true := fun z r n q1 q2 => hasB_iff.2 ⟨z, List.mem_cons_self, q1, q2⟩
   apply Classical.byContradiction
   intro q
   by_cases x0 : x.t = 0
   ·have g := has_gap h2 (by omega)
    rw [← h3 (y.t + 1) (by omega), mem x l _ (by omega) (.inl x0)] at g; cases g
   ·by_cases y0 : y.t = 0
    ·have g := has_gap h1 x0
     rw [h3 (x.t + 1) (by omega), mem y m _ (by omega) (.inl y0)] at g; cases g
    ·by_cases hlt : x.t < y.t
     ·have g := has_gap h1 x0
      rw [h3 (x.t + 1) (by omega), mem y m _ (by omega) (.inr (by omega))] at g; cases g
     ·have g := has_gap h2 y0
      rw [← h3 (y.t + 1) (by omega), mem x l _ (by omega) (.inr (by omega))] at g; cases g
  have exy : x = y := by cases x; cases y; simp only at e1 e2 et; subst et; congr; omega
  subst exy
  congr 1
  refine nor_uniq l m (nor_tail h1) (nor_tail h2) fun n hn => ?_
  have low : ∀ r : List Sp, norB (x :: r) = true → (x.t = 0 ∨ n ≤ x.t + 1) → hasB r n = false := fun r hr q => by
   cases hb : hasB r n
   ·rfl
   ·rw [hasB_iff] at hb
    obtain ⟨z, hz, q1, q2⟩ := hb
    have := nor_head hr hz
    omega
  by_cases q : x.t = 0 ∨ n ≤ x.t + 1
  ·rw [low l h1 q, low m h2 q]
  ·have hx : inB n x = false := inB_no (.inr (by omega))
   have := h3 n hn
   rw [hasB_cons, hasB_cons, hx] at this
   exact this
def putR : List Sp → Sp → List Sp
 | [], x => [x]
 | y :: l, x => if Apart y x then y :: putR l x else if Apart x y then x :: y :: l else putR l (jn x y)
theorem put_done : ∀ (l : List Sp) (out : List Sp) (x : Sp), l.foldl putS ⟨out, true, x⟩ = ⟨out ++ l, true, x⟩
 | [], out, x => by simp
 | y :: l, out, x => by
  rw [List.foldl_cons, putS, if_pos (.inl rfl), put_done l]; simp
theorem put_fold : ∀ (l : List Sp) (out : List Sp) (x : Sp), putE (l.foldl putS ⟨out, false, x⟩) = out ++ putR l x
 | [], out, x => rfl
 | y :: l, out, x => by
  rw [List.foldl_cons, putS, putR]
  by_cases h1 : Apart y x
  ·rw [if_pos (.inr h1), if_pos h1, put_fold l]; simp
  ·rw [if_neg (by simp [h1]), if_neg h1]
   by_cases h2 : Apart x y
   ·rw [if_pos h2, if_pos h2, put_done]; simp [putE]
   ·rw [if_neg h2, if_neg h2, put_fold l]
theorem put_R (l : List Sp) (x : Sp) : put l x = putR l x := by
 have := put_fold l [] x
 simpa [put] using this
theorem jn_in {x y : Sp} (hx : okB x = true) (hy : okB y = true) (h1 : ¬ Apart y x) (h2 : ¬ Apart x y) (n : Int) : inB n (jn x y) = (inB n x || inB n y) := by
 rw [okB_iff] at hx hy
 unfold Apart at h1 h2
 cases hb : inB n (jn x y)
 ·symm
  rw [Bool.or_eq_false_iff]
  have : ∀ z : Sp, (inB n z = false) ↔ ¬ (z.f ≤ n ∧ (z.t = 0 ∨ n ≤ z.t)) := fun z => by rw [← inB_iff]; simp
  rw [this] at hb ⊢
  rw [this]
  unfold jn at hb
  dsimp only at hb
  (repeat' split at hb) <;> omega
 ·symm
  rw [Bool.or_eq_true, inB_iff, inB_iff]
  rw [inB_iff] at hb
  unfold jn at hb
  dsimp only at hb
  (repeat' split at hb) <;> omega
theorem jn_okB {x y : Sp} (hx : okB x = true) (hy : okB y = true) : okB (jn x y) = true := by
 rw [okB_iff] at *
 unfold jn
 dsimp only
 (repeat' split) <;> omega
theorem putR_has : ∀ (l : List Sp) (x : Sp), (∀ y ∈ l, okB y = true) → okB x = true → ∀ n : Int, hasB (putR l x) n = (hasB l n || inB n x)
 | [], x, _, _, n => by simp [putR, hasB]
 | y :: l, x, hl, hx, n => by
  have hy := hl y List.mem_cons_self
  have hl' := fun z hz => hl z (List.mem_cons_of_mem _ hz)
  rw [putR]
  by_cases h1 : Apart y x
  ·rw [if_pos h1, hasB_cons, putR_has l x hl' hx, hasB_cons, Bool.or_assoc]
  ·rw [if_neg h1]
   by_cases h2 : Apart x y
   ·rw [if_pos h2, hasB_cons, Bool.or_comm]
   ·rw [if_neg h2, putR_has l _ hl' (jn_okB hx hy), jn_in hx hy h1 h2, hasB_cons]
    cases inB n x <;> cases inB n y <;> cases hasB l n <;> rfl
theorem nor_mk {x : Sp} {l : List Sp} (hx : okB x = true) (hh : ∀ w, l.head? = some w → Apart x w) (hl : norB l = true) : norB (x :: l) = true := by
 rw [norB_cons, hx, hl]
 cases l with
 | nil => rfl
 | cons w l =>
  show ((true && decide (Apart x w)) && true) = true
  rw [decide_eq_true (hh w rfl)]; rfl
theorem nor_hd {x : Sp} {l : List Sp} (h : norB (x :: l) = true) : ∀ w, l.head? = some w → Apart x w := fun w hw => by
 cases l with
 | nil => simp at hw
 | cons v l => simp at hw; subst hw; exact (norB_get.1 h 0 x rfl).2 v rfl
theorem putR_nor : ∀ (l : List Sp) (x : Sp), norB l = true → okB x = true → norB (putR l x) = true ∧ ∀ z : Sp, Apart z x → (∀ w, l.head? = some w → Apart z w) → ∀ w, (putR l x).head? = some w → Apart z w
 | [], x, _, hx => ⟨by simpa [putR, norB] using hx, fun z h1 _ w hw => by simp [putR] at hw; subst hw; exact h1⟩
 | y :: l, x, hl, hx => by
  have hy := nor_ok hl List.mem_cons_self
  have hl' := nor_tail hl
  rw [putR]
  by_cases h1 : Apart y x
  ·rw [if_pos h1]
   obtain ⟨g1, g2⟩ := putR_nor l x hl' hx
   exact ⟨nor_mk hy (g2 y h1 (nor_hd hl)) g1, fun z _ q w hw => by simp at hw; subst hw; exact q y rfl⟩
  ·rw [if_neg h1]
   by_cases h2 : Apart x y
   ·rw [if_pos h2]
    exact ⟨nor_mk hx (fun w hw => by simp at hw; subst hw; exact h2) hl, fun z q _ w hw => by simp at hw; subst hw; exact q⟩
   ·rw [if_neg h2]
    obtain ⟨g1, g2⟩ := putR_nor l (jn x y) hl' (jn_okB hx hy)
    refine ⟨g1, fun z q1 q2 => g2 z ?_ ?_⟩
    ·have q3 := q2 y rfl
     unfold Apart at q1 q3 ⊢
     unfold jn
     dsimp only
     split <;> omega
    ·intro w hw
     have q3 := q2 y rfl
     have q4 := nor_hd hl w hw
     have q5 := okB_iff.1 hy
     unfold Apart at q3 q4 ⊢
     omega
theorem putL_nor : ∀ (l acc : List Sp), (∀ y ∈ l, okB y = true) → norB acc = true → norB (l.foldl put acc) = true ∧ ∀ n : Int, hasB (l.foldl put acc) n = (hasB acc n || hasB l n)
 | [], acc, _, h => ⟨h, fun n => by simp [hasB]⟩
 | x :: l, acc, hl, h => by
  have hx := hl x List.mem_cons_self
  obtain ⟨g1, -⟩ := putR_nor acc x h hx
  obtain ⟨r1, r2⟩ := putL_nor l (put acc x) (fun y hy => hl y (List.mem_cons_of_mem _ hy)) (by rw [put_R]; exact g1)
  rw [List.foldl_cons]
  refine ⟨r1, fun n => ?_⟩
  rw [r2, put_R, putR_has acc x (fun y hy => nor_ok h hy) hx, hasB_cons, Bool.or_assoc]
theorem nor_snoc {l : List Sp} {x : Sp} : norB (l ++ [x]) = true ↔ norB l = true ∧ okB x = true ∧ ∀ y, l[l.length - 1]? = some y → Apart y x := by
 rw [norB_get, norB_get]
 constructor
 ·intro h
  refine ⟨fun i z hz => ?_, (h l.length x (by simp)).1, fun y hy => ?_⟩
  ·have hi := (List.getElem?_eq_some_iff.1 hz).1
   have h1 := h i z (by rw [List.getElem?_append_left hi]; exact hz)
   exact ⟨h1.1, fun y hy => h1.2 y (by rw [List.getElem?_append_left ((List.getElem?_eq_some_iff.1 hy).1)]; exact hy)⟩
  ·have hi := (List.getElem?_eq_some_iff.1 hy).1
   exact (h (l.length - 1) y (by rw [List.getElem?_append_left hi]; exact hy)).2 x (by rw [show l.length - 1 + 1 = l.length by omega]; simp)
 ·rintro ⟨h1, h2, h3⟩ i z hz
  by_cases hi : i < l.length
  ·rw [List.getElem?_append_left hi] at hz
   refine ⟨(h1 i z hz).1, fun y hy => ?_⟩
   by_cases hi2 : i + 1 < l.length
   ·rw [List.getElem?_append_left hi2] at hy; exact (h1 i z hz).2 y hy
   ·have e : i + 1 = l.length := by omega
    rw [e] at hy
    simp at hy
    subst hy
    exact h3 z (by rw [← e]; simpa using hz)
  ·have hlt := (List.getElem?_eq_some_iff.1 hz).1
   have e : i = l.length := by simp at hlt; omega
   subst e
   simp at hz
   subst hz
   exact ⟨h2, fun y hy => by
    have := (List.getElem?_eq_some_iff.1 hy).1
    simp at this⟩
def SrtP (l : List Sp) : Prop := ∀ (i j : Nat) (x y : Sp), i ≤ j → l[i]? = some x → l[j]? = some y → x.f ≤ y.f
theorem mgK_nor {l : List Sp} (hs : SrtP l) (ho : ∀ x ∈ l, okB x = true) : ∀ k, k ≤ l.length → norB (mgK l k) = true ∧ (∀ n : Int, hasB (mgK l k) n = hasB (l.take k) n) ∧ ∀ y, (mgK l k)[(mgK l k).length - 1]? = some y → ∃ i z, i < k ∧ l[i]? = some z ∧ y.f ≤ z.f
 | 0, _ => ⟨rfl, fun n => by simp [mgK], fun y hy => by simp [mgK] at hy⟩
 | k + 1, hk => by
  obtain ⟨h1, h2, h3⟩ := mgK_nor hs ho k (by omega)
  have hx : l[k]? = some l[k] := List.getElem?_eq_getElem (by omega)
  have ox := ho _ (List.mem_of_getElem? hx)
  generalize l[k] = x at hx ox
  have app : (∀ y, (mgK l k)[(mgK l k).length - 1]? = some y → Apart y x) → mgK l (k + 1) = mgK l k ++ [x] → norB (mgK l (k + 1)) = true ∧ (∀ n : Int, hasB (mgK l (k + 1)) n = hasB (l.take (k + 1)) n) ∧ ∀ y, (mgK l (k + 1))[(mgK l (k + 1)).length - 1]? = some y → ∃ i z, i < k + 1 ∧ l[i]? = some z ∧ y.f ≤ z.f := fun q e => by
   rw [e]
   refine ⟨nor_snoc.2 ⟨h1, ox, q⟩, fun n => by rw [hasB_app, h2, take_succ_get hx, hasB_app], fun y hy => ?_⟩
   simp at hy
   subst hy
   exact ⟨k, x, by omega, hx, Int.le_refl _⟩
  by_cases h0 : (mgK l k).length = 0
  ·refine app (fun y hy => ?_) (mgK_e hx h0)
   have := (List.getElem?_eq_some_iff.1 hy).1
   omega
  ·have hy : (mgK l k)[(mgK l k).length - 1]? = some (mgK l k)[(mgK l k).length - 1] := List.getElem?_eq_getElem (by omega)
   generalize (mgK l k)[(mgK l k).length - 1] = y at hy
   obtain ⟨i, z, hi, hz, hyz⟩ := h3 y hy
   have hzx := hs i k z x (by omega) hz hx
   have oy := okB_iff.1 (nor_ok h1 (List.mem_of_getElem? hy))
   have ox' := okB_iff.1 ox
   by_cases ht : y.t = 0
   ·rw [mgK_k hx hy ht]
    refine ⟨h1, fun n => ?_, fun w hw => ?_⟩
    ·rw [h2, take_succ_get hx, hasB_app]
     have : hasB [x] n = true → hasB (l.take k) n = true := fun q => by
      rw [hasB_iff] at q
      obtain ⟨u, hu, q1, q2⟩ := q
      simp at hu; subst hu
      rw [← h2]
      exact hasB_iff.2 ⟨y, List.mem_of_getElem? hy, by omega, .inl ht⟩
     cases h4 : hasB [x] n
     ·simp
     ·rw [this h4]; rfl
    ·obtain ⟨i, z, a, b, c⟩ := h3 w hw
     exact ⟨i, z, by omega, b, c⟩
   ·by_cases hg : y.t < x.f - 1
    ·refine app (fun w hw => ?_) (mgK_a hx hy ht hg)
     rw [hy] at hw; obtain rfl := Option.some.inj hw; exact ⟨ht, hg⟩
    ·rw [mgK_j hx hy ht hg]
     obtain ⟨o, eo⟩ : ∃ o, mgK l k = o ++ [y] := by
      refine ⟨(mgK l k).take ((mgK l k).length - 1), ?_⟩
      rw [← take_succ_get hy, List.take_of_length_le (by omega)]
     rw [eo] at h1 h2 ⊢
     have es : (o ++ [y]).set ((o ++ [y]).length - 1) ⟨y.f, if x.t = 0 then 0 else if y.t < x.t then x.t else y.t⟩ = o ++ [⟨y.f, if x.t = 0 then 0 else if y.t < x.t then x.t else y.t⟩] := by
      rw [List.set_append_right _ _ (by simp)]; simp
     rw [es]
     obtain ⟨n1, n2, n3⟩ := nor_snoc.1 h1
     refine ⟨nor_snoc.2 ⟨n1, ?_, fun w hw => n3 w hw⟩, fun n => ?_, fun w hw => ?_⟩
     ·rw [okB_iff]; dsimp only; (repeat' split) <;> omega
     ·rw [take_succ_get hx, hasB_app (l.take k), ← h2, hasB_app, hasB_app, Bool.or_assoc]
      congr 1
      have s1 : ∀ u : Sp, hasB [u] n = inB n u := fun u => by simp [hasB]
      rw [s1, s1, s1]
      have : ∀ a b : Bool, (a = true ↔ b = true) → a = b := fun a b q => by cases a <;> cases b <;> simp_all
      apply this
      rw [Bool.or_eq_true, inB_iff, inB_iff, inB_iff]
      dsimp only
      (repeat' split) <;> omega
     ·simp at hw
      subst hw
      exact ⟨i, z, by omega, hz, hyz⟩
structure SrtOk (srt : List Sp → List Sp) : Prop where
 len : ∀ l, (srt l).length = l.length
 perm : ∀ l, (∀ x ∈ l, SpOk x) → (srt l).Perm l
 srt : ∀ l, (∀ x ∈ l, SpOk x) → SrtP (srt l)
theorem mg_put {srt : List Sp → List Sp} (h : SrtOk srt) {l : List Sp} (hl : ∀ x ∈ l, SpOk x) : mg (srt l) = putL l := by
 have ho : ∀ x ∈ l, okB x = true := fun x hx => okB_iff.2 ⟨(hl x hx).lo, (hl x hx).or⟩
 have ho' : ∀ x ∈ srt l, okB x = true := fun x hx => ho x ((h.perm l hl).mem_iff.1 hx)
 obtain ⟨h1, h2, -⟩ := mgK_nor (h.srt l hl) ho' (srt l).length (Nat.le_refl _)
 obtain ⟨g1, g2⟩ := putL_nor l [] ho rfl
 have g2 : ∀ n, hasB (putL l) n = (hasB [] n || hasB l n) := g2
 rw [mgK_end _ (Nat.le_refl _)]
 refine nor_uniq _ _ h1 g1 fun n _ => ?_
 rw [h2, List.take_length, g2]
 have : hasB (srt l) n = hasB l n := by
  have e : ∀ a b : Bool, (a = true ↔ b = true) → a = b := fun a b q => by cases a <;> cases b <;> simp_all
  apply e
  rw [hasB_iff, hasB_iff]
  constructor
  ·rintro ⟨x, hx, q⟩; exact ⟨x, (h.perm l hl).mem_iff.1 hx, q⟩
  ·rintro ⟨x, hx, q⟩; exact ⟨x, (h.perm l hl).mem_iff.2 hx, q⟩
 rw [this]; simp [hasB]
theorem putL_norB {l : List Sp} (hl : ∀ x ∈ l, SpOk x) : norB (putL l) = true := (putL_nor l [] (fun x hx => okB_iff.2 ⟨(hl x hx).lo, (hl x hx).or⟩) rfl).1
theorem putL_self {l : List Sp} (h : norB l = true) : putL l = l := by
 obtain ⟨g1, g2⟩ := putL_nor l [] (fun x hx => nor_ok h hx) rfl
 have g2 : ∀ n, hasB (putL l) n = (hasB [] n || hasB l n) := g2
 refine nor_uniq _ _ g1 h fun n _ => ?_
 rw [g2]; simp [hasB]
theorem putL_ne {l : List Sp} (hl : ∀ x ∈ l, SpOk x) (hne : l ≠ []) : putL l ≠ [] := fun e => by
 obtain ⟨-, g2⟩ := putL_nor l [] (fun x hx => okB_iff.2 ⟨(hl x hx).lo, (hl x hx).or⟩) rfl
 cases l with
 | nil => exact hne rfl
 | cons x l =>
  have h := hl x List.mem_cons_self
  have := g2 x.f
  rw [show (x :: l).foldl put [] = putL (x :: l) from rfl, e, hasB_cons, ok_inB (okB_iff.2 ⟨h.lo, h.or⟩)] at this
  simp [hasB] at this
end Go.Proofs.YtfedemnaeggokaaGreatDoor
end
section
namespace Go.Proofs.YtfedemnaeggokaaGreatDoor
set_option linter.unusedVariables false
set_option linter.unusedSimpArgs false
set_option maxRecDepth 100000
set_option maxHeartbeats 1000000
structure CutC (X : CallF) (srt : List Sp → List Sp) : Prop where
 num : NumC X
 str : StrC X
 bld : BldC X
 el : El2C X
 sort : SortC X srt
 ok : SrtOk srt
theorem plR_ok {s : Bs} : ∀ (n k : Nat) (l : List Sp), (∀ x ∈ plL s k, SpOk x) → k ≤ 1024 → plR s n k = .ok l → (∀ x ∈ l, SpOk x) ∧ l ≠ [] ∧ l.length ≤ 1024
 | 0, k, l, _, _, h => by simp [plR] at h
 | n + 1, k, l, hk, hl, h => by
  rw [plR] at h
  by_cases h1 : k = 1024 ∧ DmP s (plA s k)
  ·rw [if_pos h1] at h; cases h
  ·rw [if_neg h1] at h
   by_cases h2 : (el s (plA s k)).e = 0
   ·rw [if_neg (by simp [h2])] at h
    have hk' : k + 1 ≤ 1024 := by
     by_cases q : k = 1024
     ·exact absurd h2 (dm_no fun z => h1 ⟨q, z⟩)
     ·omega
    have hs : ∀ x ∈ plL s (k + 1), SpOk x := fun x hx => by
     rw [plL_succ] at hx
     rcases List.mem_append.1 hx with q | q
     ·exact hk x q
     ·rw [List.mem_singleton.1 q]; exact el_ok h2
    by_cases h3 : (el s (plA s k)).a = s.length
    ·rw [if_pos h3] at h
     cases h
     exact ⟨hs, fun e => (by have := plL_len s (k + 1); rw [e] at this; cases this), by rw [plL_len]; exact hk'⟩
    ·rw [if_neg h3] at h
     by_cases h4 : s[(el s (plA s k)).a]? = some 44
     ·rw [if_neg (by simp [h4])] at h
      exact plR_ok n (k + 1) l hs hk' h
     ·rw [if_pos h4] at h; cases h
   ·rw [if_pos h2] at h; cases h
theorem pl_okL {s : Bs} {l : List Sp} (h : pl s = .ok l) : (∀ x ∈ l, SpOk x) ∧ l ≠ [] ∧ l.length ≤ 1024 := plR_ok _ _ _ (fun x hx => by simp [plL] at hx) (by omega) h
theorem plO_eq {srt : List Sp → List Sp} (h : SrtOk srt) (s : Bs) : plO (fun l => mg (srt l)) (pl s) = plO putL (pl s) := by
 cases hp : pl s with
 | bad e b => rfl
 | ok l => exact mg_put h (pl_okL hp).1
section
variable {X : CallF} {srt : List Sp → List Sp}
theorem parse_1 (hC : CutC X srt) (s : Bs) (hs : s.length ≤ 281474976710656) : (R FT X).f 10 [strL s] = some (.tuple [.slice 2 ((plO putL (pl s)).map encSp), intA (plE (pl s)), intA (plB (pl s))]) := by
 rw [parse1_run hC.num hC.sort hC.ok.len (fun l h x hx => h x ((hC.ok.perm l h).mem_iff.1 hx)) s hs, plO_eq hC.ok]
theorem itoa_d {n : Nat} (h : n < 10) : Lib.itoa (n : Int) = [UInt8.ofNat (48 + n)] := by
 rw [itoa_pos' (by omega), show (n : Int).natAbs = n by omega, dd_small h]
theorem fm_ex : fmL [⟨1, 2⟩, ⟨5, 5⟩] = [49, 45, 50, 44, 53] := by
 have h1 : Lib.itoa 1 = [49] := itoa_d (n := 1) (by decide)
 have h2 : Lib.itoa 2 = [50] := itoa_d (n := 2) (by decide)
 have h5 : Lib.itoa 5 = [53] := itoa_d (n := 5) (by decide)
 simp [fmL, fmS, joinB, h1, h2, h5]
theorem check_0 : (R FT X).f 18 [.agg [.val (.int .i64 0), .val (.slice none 0 0), u8A 0, .val (.string ⟨#[]⟩), .val (.bool false), .val (.bool false)]] = some (intA 7) := by
 refine R_wp ((Tr.b true (Tr.b true Tr.nil).w).w) rfl ?_
 refine Eq.mpr (by kernel_rfl : _ = (true = true ∧ true = true ∧ (7 : Int) = 7)) ?_
 refine ⟨rfl, rfl, rfl⟩
theorem awake_run (hC : CutC X srt) : (R FT X).f 15 [] = some (boolA true) := by
 have hm := maxLen_le
 have e1 : (R FT X).f 10 [strL [53, 44, 49, 45, 50]] = some (.tuple [.slice 2 ([⟨1, 2⟩, ⟨5, 5⟩].map encSp), intA 0, intA 0]) := parse_1 hC _ (by simp)
 have e2 : (R FT X).f 10 [strL [51, 45, 50]] = some (.tuple [.slice 2 ([].map encSp), intA 2, intA 2]) := parse_1 hC _ (by simp)
 have e3 : (R FT X).f 13 [.slice 2 ([⟨1, 2⟩, ⟨5, 5⟩].map encSp)] = some (strL [49, 45, 50, 44, 53]) := by
  rw [fmt1_run hC.num hC.str [⟨1, 2⟩, ⟨5, 5⟩] (by decide) (by decide), fm_ex]
 have e4 : (R FT X).f 12 [.slice 2 ([⟨1, 2⟩, ⟨5, 5⟩].map encSp), .slice 2 ([⟨1, 2⟩, ⟨5, 5⟩].map encSp)] = some (boolA true) := by
  rw [same_run (X := X) [⟨1, 2⟩, ⟨5, 5⟩] [⟨1, 2⟩, ⟨5, 5⟩] (by simp; omega), ← sameB_y rfl]
 have e5 : (R FT X).f 18 [encSc ⟨2, [⟨2, 3⟩], 58, [45], false, false⟩] = some (intA 0) := check_run (X := X) ⟨2, [⟨2, 3⟩], 58, [45], false, false⟩ (by simp; omega) (by decide)
 have e6 := check_0 (X := X)
 have e7 : (R FT X).f 16 [encSc ⟨2, [⟨2, 3⟩], 58, [45], false, false⟩, strL [97, 58, 98, 58, 99, 58, 100]] = some (.tuple [strL [98, 45, 99], boolA true]) := line_run hC.bld hC.str ⟨2, [⟨2, 3⟩], 58, [45], false, false⟩ [97, 58, 98, 58, 99, 58, 100] ⟨by simp; omega, by decide, by decide, by decide⟩
 have e8 : (R FT X).f 16 [encSc ⟨1, [⟨1, 2⟩, ⟨4, 4⟩], 0, [43], false, false⟩, strL [97, 98, 99, 100, 101, 102]] = some (.tuple [strL [97, 98, 43, 100], boolA true]) := line_run hC.bld hC.str ⟨1, [⟨1, 2⟩, ⟨4, 4⟩], 0, [43], false, false⟩ [97, 98, 99, 100, 101, 102] ⟨by simp; omega, by decide, by decide, by decide⟩
 have e9 : (R FT X).f 20 [encSc ⟨2, [⟨2, 3⟩], 58, [45], false, false⟩, strL [97, 58, 98, 10, 99]] = some (strL [98, 10, 99, 10]) := apply_run hC.bld hC.str ⟨2, [⟨2, 3⟩], 58, [45], false, false⟩ [97, 58, 98, 10, 99] ⟨by simp; omega, by decide, by decide, by decide⟩
 have e10 : (R FT X).f 22 [.slice 1 ([[97, 10, 98, 10], [49, 10]].map strL), strL [58], boolA false] = some (strL [97, 58, 49, 10, 98, 58, 10]) := paste_run hC.str hC.bld [[97, 10, 98, 10], [49, 10]] [58] false ⟨by decide, by decide, by simp; omega⟩
 refine R_wp (Tr.c (AV.tuple [AV.slice 2 (List.map encSp [Sp.mk (1 : Int) (2 : Int), Sp.mk (5 : Int) (5 : Int)]), intA 0, intA 0]) (Tr.b false (Tr.b false (Tr.g [AV.agg [intA 1, intA 2], AV.agg [intA 5, intA 5]] (Tr.c (boolA true) (Tr.b false (Tr.c (strL [(49 : UInt8), (45 : UInt8), (50 : UInt8), (44 : UInt8), (53 : UInt8)]) (Tr.b false (Tr.g [AV.agg [intA 2, intA 3]] (Tr.c (AV.tuple [strL [(98 : UInt8), (45 : UInt8), (99 : UInt8)], boolA true]) (Tr.g [AV.agg [intA 1, intA 2], AV.agg [intA 4, intA 4]] (Tr.c (AV.tuple [strL [(97 : UInt8), (98 : UInt8), (43 : UInt8), (100 : UInt8)], boolA true]) (Tr.c (AV.tuple [AV.slice 2 (List.map encSp []), intA 2, intA 2]) (Tr.b true (Tr.b true (Tr.b true (Tr.b true (Tr.b true (Tr.b true (Tr.g [AV.agg [intA 2, intA 3]] (Tr.c (intA 0) (Tr.b true (Tr.c (intA 7) (Tr.b true (Tr.g [AV.agg [intA 2, intA 3]] (Tr.c (strL [(98 : UInt8), (10 : UInt8), (99 : UInt8), (10 : UInt8)]) (Tr.b true (Tr.g (List.map strL [toL (ByteArray.mk #[(97 : UInt8), (10 : UInt8), (98 : UInt8), (10 : UInt8)]), toL (ByteArray.mk
 #[(49 : UInt8), (10 : UInt8)])]) (Tr.c (strL [(97 : UInt8), (58 : UInt8), (49 : UInt8), (10 : UInt8), (98 : UInt8), (58 : UInt8), (10 : UInt8)]) Tr.nil)))))))))))))))).w)))))).w)))))).w) rfl ?_
 refine Eq.mpr (by kernel_rfl : _ = ((R FT X).f 10 [strL [(53 : UInt8), (44 : UInt8), (49 : UInt8), (45 : UInt8), (50 : UInt8)]] = some (AV.tuple [AV.slice 2 (List.map encSp [Sp.mk (1 : Int) (2 : Int), Sp.mk (5 : Int) (5 : Int)]), intA 0, intA 0]) ∧ false = false ∧ false = false ∧ (2 : Nat) = 2 ∧ List.take (2 : Nat) (List.drop (0 : Nat) [AV.agg [intA 1, intA 2], AV.agg [intA 5, intA 5]]) = [AV.agg [intA 1, intA 2], AV.agg [intA 5, intA 5]] ∧ (R FT X).f 12 [AV.slice 2 (List.map encSp [Sp.mk (1 : Int) (2 : Int), Sp.mk (5 : Int) (5 : Int)]), AV.slice 2 (List.map encSp [Sp.mk (1 : Int) (2 : Int), Sp.mk (5 : Int) (5 : Int)])] = some (boolA true) ∧ false = false ∧ (R FT X).f 13 [AV.slice 2 (List.map encSp [Sp.mk (1 : Int) (2 : Int), Sp.mk (5 : Int) (5 : Int)])] = some (strL [(49 : UInt8), (45 : UInt8), (50 : UInt8), (44 : UInt8), (53 : UInt8)]) ∧ false = false ∧ (1 : Nat) = 1 ∧ List.take (1 : Nat) (List.drop (0 : Nat) [AV.agg [intA 2, intA 3]]) = [AV.agg [intA 2, intA 3]] ∧ (R FT X).f 16 [encSc (Spec.mk (2 : Int) [Sp.mk (2 :
 Int) (3 : Int)] (58 : UInt8) [(45 : UInt8)] false false), strL [(97 : UInt8), (58 : UInt8), (98 : UInt8), (58 : UInt8), (99 : UInt8), (58 : UInt8), (100 : UInt8)]] = some (AV.tuple [strL [(98 : UInt8), (45 : UInt8), (99 : UInt8)], boolA true]) ∧ (2 : Nat) = 2 ∧ List.take (2 : Nat) (List.drop (0 : Nat) [AV.agg [intA 1, intA 2], AV.agg [intA 4, intA 4]]) = [AV.agg [intA 1, intA 2], AV.agg [intA 4, intA 4]] ∧ (R FT X).f 16 [encSc (Spec.mk (1 : Int) [Sp.mk (1 : Int) (2 : Int), Sp.mk (4 : Int) (4 : Int)] (0 : UInt8) [(43 : UInt8)] false false), strL [(97 : UInt8), (98 : UInt8), (99 : UInt8), (100 : UInt8), (101 : UInt8), (102 : UInt8)]] = some (AV.tuple [strL [(97 : UInt8), (98 : UInt8), (43 : UInt8), (100 : UInt8)], boolA true]) ∧ (R FT X).f 10 [strL [(51 : UInt8), (45 : UInt8), (50 : UInt8)]] = some (AV.tuple [AV.slice 2 (List.map encSp []), intA 2, intA 2]) ∧ true = true ∧ true = true ∧ true = true ∧ true = true ∧ true = true ∧ true = true ∧ (1 : Nat) = 1 ∧ List.take (1 : Nat) (List.drop (0 : Nat) [AV.agg [intA 2, intA 3]]) = [AV.agg [intA (2 :
 Int), intA 3]] ∧ (R FT X).f 18 [encSc (Spec.mk (2 : Int) [Sp.mk (2 : Int) (3 : Int)] (58 : UInt8) [(45 : UInt8)] false false)] = some (intA 0) ∧ true = true ∧ (R FT X).f 18 [AV.agg [intA 0, AV.val (Value.slice none (0 : Nat) (0 : Nat)), u8A (0 : UInt8), AV.val (Value.string (ByteArray.mk #[])), boolA false, boolA false]] = some (intA 7) ∧ true = true ∧ (1 : Nat) = 1 ∧ List.take (1 : Nat) (List.drop (0 : Nat) [AV.agg [intA 2, intA 3]]) = [AV.agg [intA 2, intA 3]] ∧ (R FT X).f 20 [encSc (Spec.mk (2 : Int) [Sp.mk (2 : Int) (3 : Int)] (58 : UInt8) [(45 : UInt8)] false false), strL [(97 : UInt8), (58 : UInt8), (98 : UInt8), (10 : UInt8), (99 : UInt8)]] = some (strL [(98 : UInt8), (10 : UInt8), (99 : UInt8), (10 : UInt8)]) ∧ true = true ∧ (2 : Nat) = 2 ∧ List.take (2 : Nat) (List.drop (0 : Nat) [AV.val (Value.string (ByteArray.mk #[(97 : UInt8), (10 : UInt8), (98 : UInt8), (10 : UInt8)])), AV.val (Value.string (ByteArray.mk #[(49 : UInt8), (10 : UInt8)]))]) = List.map strL [[(97 : UInt8), (10 : UInt8), (98 : UInt8), (10 : UInt8)], [(49 : UInt8), (10 : UInt8)]] ∧ (R FT X).f (22
 : FuncId) [AV.slice 1 (List.map strL [[(97 : UInt8), (10 : UInt8), (98 : UInt8), (10 : UInt8)], [(49 : UInt8), (10 : UInt8)]]), strL [(58 : UInt8)], boolA false] = some (strL [(97 : UInt8), (58 : UInt8), (49 : UInt8), (10 : UInt8), (98 : UInt8), (58 : UInt8), (10 : UInt8)]) ∧ true = true)) ?_
 refine ⟨(e1), rfl, rfl, rfl, rfl, (e4), rfl, (e3), rfl, rfl, rfl, (e7), rfl, rfl, (e8), (e2), rfl, rfl, rfl, rfl, rfl, rfl, rfl, rfl, (e5), rfl, (e6), rfl, rfl, rfl, (e9), rfl, rfl, rfl, (e10), rfl⟩
theorem lists_law (hC : CutC X srt) (s : Bs) (hs : s.length ≤ 281474976710656) (l : List Sp) (hl : l.length ≤ 10000000) (hi : ∀ x ∈ l, InI64 x.f ∧ InI64 x.t) : (R FT X).f 3 [strL s, .slice 2 (l.map encSp)] = some (boolA true) := by
 have aw := awake_run hC
 have p1 := parse_1 hC s hs
 have p2 := parse2_run hC.el s (lmx hs)
 have f1 := fmt1_run hC.num hC.str l hl hi
 have f2 := fmt2_run (X := X) l hl hi
 have sr := same_run (X := X)
 have hm := maxLen_le
 refine R_wp (Tr.c (AV.tuple [AV.slice 2 (List.map encSp (plO putL (pl s))), intA (plE (pl s)), intA (plB (pl s))]) (Tr.c (AV.tuple [AV.slice 2 (List.map encSp (plO putL (pl s))), intA (plE (pl s)), intA (plB (pl s))]) (Tr.c (boolA (sameB (plO putL (pl s)) (plO putL (pl s)))) ((Tr.b true (Tr.b true (Tr.c (strL (fmL l)) (Tr.c (strL (fmL l)) ((Tr.c (boolA true) Tr.nil).br Tr.nil))))).br (Tr.b false (Tr.b false (Tr.b false Tr.nil))))).w)) rfl ?_
 refine Eq.mpr (by kernel_rfl : _ = ((R FT X).f 10 [strL s] = some (AV.tuple [AV.slice 2 (List.map encSp (plO putL (pl s))), intA (plE (pl s)), intA (plB (pl s))]) ∧ (R FT X).f 11 [strL s] = some (AV.tuple [AV.slice 2 (List.map encSp (plO putL (pl s))), intA (plE (pl s)), intA (plB (pl s))]) ∧ (R FT X).f 12 [AV.slice 2 (List.map encSp (plO putL (pl s))), AV.slice 2 (List.map encSp (plO putL (pl s)))] = some (boolA (sameB (plO putL (pl s)) (plO putL (pl s)))) ∧ (sameB (plO putL (pl s)) (plO putL (pl s)) = true → decide (plE (pl s) = plE (pl s)) = true ∧ decide (plB (pl s) = plB (pl s)) = true ∧ (R FT X).f 13 [AV.slice 2 (List.map encSp l)] = some (strL (fmL l)) ∧ (R FT X).f 14 [AV.slice 2 (List.map encSp l)] = some (strL (fmL l)) ∧ (decide (fmL l = fmL l) = true → (R FT X).f 15 [] = some (boolA true) ∧ true = true) ∧ (decide (fmL l = fmL l) = false → false = true)) ∧ (sameB (plO putL (pl s)) (plO putL (pl s)) = false → false = false ∧ false = false ∧ false = false ∧ false = true))) ?_
 refine ⟨(p1), (p2), (sr _ _ ?_), fun h1 => ⟨(tD rfl), (tD rfl), (f1), (f2), fun h2_ => have h2 := dT h2_; ⟨(aw), rfl⟩, fun h3_ => have h3 := dF h3_; ?_⟩, fun h4 => ⟨rfl, rfl, rfl, ?_⟩⟩
 ·have : (plO putL (pl s)).length ≤ 1024 := by
   cases hp : pl s with
   | bad e b => simp [plO]
   | ok l =>
    have h1 := pl_okL hp
    exact Nat.le_trans (putL_ok l h1.1).2 h1.2.2
  omega
 ·exact absurd rfl h3
 ·rw [← sameB_y rfl] at h4; cases h4
theorem lines_law (hC : CutC X srt) (p : Spec) (s : Bs) (h : LnOk p s) : (R FT X).f 4 [encSc p, strL s] = some (boolA true) := by
 have aw := awake_run hC
 have l1 := line_run hC.bld hC.str p s h
 have l2 := line2_run (X := X) p s h
 have c1 := check_run (X := X) p h.sp h.hi
 have c2 := check2_run (X := X) p h.sp h.hi
 refine R_wp (Tr.c (AV.tuple [strL (lnB p s), boolA (lnO p s)]) (Tr.c (AV.tuple [strL (lnB p s), boolA (lnO p s)]) (Tr.c (intA (chkE p)) (Tr.c (intA (chkE p)) (Tr.b true (((Tr.c (boolA true) Tr.nil).br Tr.nil).br (Tr.b false Tr.nil))))).w)) rfl ?_
 refine Eq.mpr (by kernel_rfl : _ = ((R FT X).f 16 [encSc p, strL s] = some (AV.tuple [strL (lnB p s), boolA (lnO p s)]) ∧ (R FT X).f 17 [encSc p, strL s] = some (AV.tuple [strL (lnB p s), boolA (lnO p s)]) ∧ (R FT X).f 18 [encSc p] = some (intA (chkE p)) ∧ (R FT X).f 19 [encSc p] = some (intA (chkE p)) ∧ decide (chkE p = chkE p) = true ∧ (decide (lnB p s = lnB p s) = true → ((lnO p s == lnO p s) = true → (R FT X).f 15 [] = some (boolA true) ∧ true = true) ∧ ((lnO p s == lnO p s) = false → false = true)) ∧ (decide (lnB p s = lnB p s) = false → false = false ∧ false = true))) ?_
 refine ⟨(l1), (l2), (c1), (c2), (tD rfl), fun h1_ => have h1 := dT h1_; ⟨fun h2 => ⟨(aw), rfl⟩, fun h3 => ?_⟩, fun h4_ => have h4 := dF h4_; ⟨rfl, ?_⟩⟩
 all_goals first | exact absurd rfl h2 | exact absurd rfl h4 | exact absurd rfl h1 | (simp at h3; done)
theorem applies_law (hC : CutC X srt) (p : Spec) (s : Bs) (h : AplOk p s) : (R FT X).f 5 [encSc p, strL s] = some (boolA true) := by
 have aw := awake_run hC
 have l1 := apply_run hC.bld hC.str p s h
 have l2 := apply2_run (X := X) p s h
 refine R_wp ((Tr.c (strL (apB p s)) (Tr.c (strL (apB p s)) ((Tr.c (boolA true) Tr.nil).br Tr.nil))).w) rfl ?_
 refine Eq.mpr (by kernel_rfl : _ = ((R FT X).f 20 [encSc p, strL s] = some (strL (apB p s)) ∧ (R FT X).f 21 [encSc p, strL s] = some (strL (apB p s)) ∧ (decide (apB p s = apB p s) = true → (R FT X).f 15 [] = some (boolA true) ∧ true = true) ∧ (decide (apB p s = apB p s) = false → false = true))) ?_
 refine ⟨(l1), (l2), fun h1_ => have h1 := dT h1_; ⟨(aw), rfl⟩, fun h2_ => have h2 := dF h2_; ?_⟩
 exact absurd rfl h2
theorem pastes_law (hC : CutC X srt) (texts : List Bs) (seps : Bs) (b : Bool) (h : ∀ t ∈ texts, t.length ≤ 1048576) (hs : seps.length ≤ maxLen) : (R FT X).f 6 [.slice 1 (texts.map strL), strL seps, boolA b] = some (boolA true) := by
 have aw := awake_run hC
 have l1 := fun hp => paste_run hC.str hC.bld texts seps b hp
 have l2 := fun hp => paste2_run (X := X) texts seps b hp
 refine R_wp ((Tr.k texts.length ((Tr.b true (Tr.c (boolA true) Tr.nil)).br (Tr.c (strL (pstB texts seps b)) (Tr.c (strL (pstB texts seps b)) ((Tr.c (boolA true) Tr.nil).br Tr.nil))))).w) rfl ?_
 refine Eq.mpr (by kernel_rfl : _ = ((List.map strL texts).length = texts.length ∧ (decide ((20 : Int) < (↑texts.length : Int)) = true → true = true ∧ (R FT X).f 15 [] = some (boolA true) ∧ true = true) ∧ (decide ((20 : Int) < (↑texts.length : Int)) = false → (R FT X).f 22 [AV.slice 1 (List.map strL texts), strL seps, boolA b] = some (strL (pstB texts seps b)) ∧ (R FT X).f 23 [AV.slice 1 (List.map strL texts), strL seps, boolA b] = some (strL (pstB texts seps b)) ∧ (decide (pstB texts seps b = pstB texts seps b) = true → (R FT X).f 15 [] = some (boolA true) ∧ true = true) ∧ (decide (pstB texts seps b = pstB texts seps b) = false → false = true)))) ?_
 refine ⟨(by simp), fun h1_ => have h1 := dT h1_; ⟨rfl, (aw), rfl⟩, fun h2_ => have h2 := dF h2_; ⟨(l1 ?_), (l2 ?_), fun h3_ => have h3 := dT h3_; ⟨(aw), rfl⟩, fun h4_ => have h4 := dF h4_; ?_⟩⟩
 iterate 2 · exact ⟨by omega, h, hs⟩
 ·exact absurd rfl h4
end
end Go.Proofs.YtfedemnaeggokaaGreatDoor
end
section
namespace Go.Proofs.YtfedemnaeggokaaGreatDoor
set_option linter.unusedVariables false
set_option linter.unusedSimpArgs false
theorem tw_stop_all {α : Type} {p : α → Bool} : ∀ {y r : List α}, (∀ x ∈ y, p x = true) → (∀ x, r.head? = some x → p x = false) → (y ++ r).takeWhile p = y
 | [], r, _, h => by
  cases r with
  | nil => rfl
  | cons x r => rw [List.nil_append, List.takeWhile_cons, if_neg (by rw [h x rfl]; decide)]
 | a :: y, r, hy, h => by
  rw [List.cons_append, List.takeWhile_cons, if_pos (hy a List.mem_cons_self), tw_stop_all (fun x hx => hy x (List.mem_cons_of_mem _ hx)) h]
def SafeH (r : Bs) : Prop := ∀ c, r.head? = some c → c = 44
theorem dgs_at {s y r : Bs} {a : Nat} (h : s.drop a = y ++ r) (hy : ∀ c ∈ y, dig c) (hr : ∀ c, r.head? = some c → ¬ dig c) : dgs s a = y := by
 rw [dgs, h]
 refine tw_stop_all (fun c hc => digC_iff.2 (hy c hc)) fun c hc => ?_
 cases hb : digC c
 ·rfl
 ·exact absurd (digC_iff.1 hb) (hr c hc)
theorem drop_app {s y r : Bs} {a : Nat} (h : s.drop a = y ++ r) : s.drop (a + y.length) = r := by
 rw [← List.drop_drop, h]; simp
theorem drop_hd {s r : Bs} {a : Nat} {c : UInt8} (h : s.drop a = c :: r) : s[a]? = some c := by
 have : (s.drop a)[0]? = some c := by rw [h]; rfl
 rwa [List.getElem?_drop] at this
theorem drop_nil {s : Bs} {a : Nat} (h : s.drop a = []) : s[a]? = none := by
 have : (s.drop a)[0]? = none := by rw [h]; rfl
 rwa [List.getElem?_drop] at this
theorem not_dig44 : ¬ dig 44 := by rw [dig_iff]; decide
theorem not_dig45 : ¬ dig 45 := by rw [dig_iff]; decide
theorem itoa_pos2 {n : Int} (h : 1 ≤ n) : Lib.itoa n = Lib.decDigits n.natAbs := itoa_pos' (by omega)
theorem itoa_dig {n : Int} (h : 1 ≤ n) : ∀ c ∈ Lib.itoa n, dig c := by rw [itoa_pos2 h]; exact dd_dig _
theorem itoa_ne {n : Int} (h : 1 ≤ n) : 0 < (Lib.itoa n).length := by rw [itoa_pos2 h]; exact dd_pos _
theorem num_itoa {n : Int} (hi : InI64 n) : numV (Lib.itoa n) = n ∧ numE (Lib.itoa n) = 0 := by
 have h := num_ok (itoa_dec n) (by rw [itoa_val]; exact hi)
 rw [itoa_val] at h; exact h
theorem el_form {s r : Bs} {a : Nat} {x : Sp} (hx : SpOk x) (h : s.drop a = fmS x ++ r) (hr : SafeH r) : el s a = ⟨x, a + (fmS x).length, 0, 0⟩ := by
 obtain ⟨h1, h2, h3, h4⟩ := hx
 have hf : InI64 x.f := by unfold InI64; omega
 obtain ⟨v1, v2⟩ := num_itoa hf
 have hsafe : ∀ c, r.head? = some c → ¬ dig c := fun c hc => by rw [hr c hc]; exact not_dig44
 have n1 : nmE 1 (Lib.itoa x.f) = 0 := nmE_o v2 (by omega)
 have first : ∀ q : Bs, s.drop a = Lib.itoa x.f ++ q → ¬ s[a]? = some 45 := fun q hq => by
  have hp := itoa_ne h1
  cases he : Lib.itoa x.f with
  | nil => rw [he] at hp; cases hp
  | cons c t =>
   rw [he] at hq
   rw [drop_hd (r := t ++ q) hq]
   intro z
   have := itoa_dig h1 c (by rw [he]; exact List.mem_cons_self)
   rw [Option.some.inj z] at this
   exact not_dig45 this
 by_cases e1 : x.t = x.f
 ·rw [fmS_1 e1] at h ⊢
  have hd := dgs_at h (itoa_dig h1) hsafe
  have n45 : ¬ s[a + (dgs s a).length]? = some 45 := by
   rw [hd]
   have hh := drop_app h
   cases r with
   | nil => rw [drop_nil hh]; exact fun z => by cases z
   | cons c t =>
    rw [drop_hd hh, hr c rfl]
    exact fun z => by cases z
  rw [el_one (first r h) (by rw [hd]; exact n1) n45, hd, v1]
  cases x
  simp only at e1
  subst e1; rfl
 ·have split1 : ∀ q : Bs, s.drop a = Lib.itoa x.f ++ (45 :: q) → dgs s a = Lib.itoa x.f ∧ s[a + (dgs s a).length]? = some 45 ∧ s.drop (a + (dgs s a).length + 1) = q := fun q hq => by
   have hd := dgs_at hq (itoa_dig h1) (fun c hc => by cases hc; exact not_dig45)
   have hh := drop_app hq
   refine ⟨hd, by rw [hd]; exact drop_hd hh, ?_⟩
   rw [hd, ← List.drop_drop, hh]; rfl
  by_cases e2 : x.t = 0
  ·rw [fmS_2 e1 e2] at h ⊢
   rw [List.append_assoc] at h
   obtain ⟨hd, h45, hq⟩ := split1 r h
   have hd2 : dgs s (a + (dgs s a).length + 1) = [] := dgs_at (y := []) hq (fun c hc => by simp at hc) hsafe
   rw [el_open (first _ h) (by rw [hd]; exact n1) h45 hd2, hd, v1, ← e2]
   simp only [List.length_append, List.length_singleton]; rfl
  ·rw [fmS_3 e1 e2] at h ⊢
   rw [List.append_assoc, List.append_assoc] at h
   obtain ⟨hd, h45, hq⟩ := split1 (Lib.itoa x.t ++ r) h
   have ht : 1 ≤ x.t := by omega
   obtain ⟨w1, w2⟩ := num_itoa (n := x.t) (by unfold InI64; omega)
   have hd2 := dgs_at hq (itoa_dig ht) hsafe
   have ne2 : ¬ dgs s (a + (dgs s a).length + 1) = [] := by
    rw [hd2]; intro z; have := itoa_ne ht; rw [z] at this; cases this
   have n2 : nmE (if numV (dgs s a) > 1 then numV (dgs s a) else 1) (dgs s (a + (dgs s a).length + 1)) = 0 := by
    rw [hd2, hd, v1]
    refine nmE_o w2 ?_
    rw [w1]; split <;> omega
   rw [el_two (first _ h) (by rw [hd]; exact n1) h45 ne2, nmB_y n2, n2, hd2, hd, v1, w1]
   simp only [List.length_append, List.length_singleton]
   congr 1; omega
def tlF (l : List Sp) (k : Nat) : Bs := (l.drop k).flatMap fun x => 44 :: fmS x
theorem tlF_safe (l : List Sp) (k : Nat) : SafeH (tlF l k) := fun c hc => by
 unfold tlF at hc
 cases h : l.drop k with
 | nil => rw [h] at hc; simp at hc
 | cons x r => rw [h] at hc; simp at hc; exact hc.symm
theorem tlF_at {l : List Sp} {k : Nat} {x : Sp} (h : l[k]? = some x) : tlF l k = 44 :: (fmS x ++ tlF l (k + 1)) := by
 unfold tlF
 rw [drop_get h]; simp
theorem fmL_cons {l : List Sp} {x : Sp} (h : l[0]? = some x) : fmL l = fmS x ++ tlF l 1 := by
 cases l with
 | nil => simp at h
 | cons y r =>
  simp at h; subst h
  unfold fmL tlF joinB
  simp only [List.map_cons, List.drop_succ_cons, List.drop_zero, List.flatMap_map]
  rfl
theorem parse_form {l : List Sp} (hl : ∀ x ∈ l, SpOk x) (hne : l ≠ []) (hn : l.length ≤ 1024) : pl (fmL l) = .ok l := by
 have key : ∀ (n k : Nat) (x : Sp), k + n = l.length → l[k]? = some x → (fmL l).drop (plA (fmL l) k) = fmS x ++ tlF l (k + 1) → plL (fmL l) k = l.take k → ∀ m, n ≤ m → plR (fmL l) m k = .ok l := by
  intro n
  induction n with
  | zero => intro k x h1 h2; have := (List.getElem?_eq_some_iff.1 h2).1; omega
  | succ n ih =>
   intro k x h1 h2 h3 h4 m hm
   obtain ⟨m, rfl⟩ : ∃ m', m = m' + 1 := ⟨m - 1, by omega⟩
   have he := el_form (hl x (List.mem_of_getElem? h2)) h3 (tlF_safe l (k + 1))
   have hk := (List.getElem?_eq_some_iff.1 h2).1
   have hrest := drop_app h3
   rw [plR, if_neg (by omega), he]
   rw [if_neg (by simp)]
   dsimp only
   have hL : plL (fmL l) (k + 1) = l.take (k + 1) := by rw [plL_succ, he, h4, take_succ_get h2]
   have hA : plA (fmL l) (k + 1) = plA (fmL l) k + (fmS x).length + 1 := by
    show (el _ _).a + 1 = _
    rw [he]
   cases hx : l[k + 1]? with
   | none =>
    have hle := List.getElem?_eq_none_iff.1 hx
    have e0 : tlF l (k + 1) = [] := by unfold tlF; rw [List.drop_of_length_le hle]; rfl
    rw [e0] at hrest h3
    have hlen := congrArg List.length h3
    rw [List.length_drop, List.append_nil] at hlen
    have hp : plA (fmL l) k ≤ (fmL l).length := by
     apply Classical.byContradiction
     intro q
     have h5 := itoa_ne (hl x (List.mem_of_getElem? h2)).lo
     have h6 : 0 < (fmS x).length := by
      unfold fmS; (repeat' split) <;> (try simp only [List.length_append]) <;> omega
     omega
    rw [if_pos (by omega), hL, List.take_of_length_le (by omega)]
   | some y =>
    have e1 := tlF_at hx
    rw [e1] at hrest
    have h44 := drop_hd hrest
    have hlt := (List.getElem?_eq_some_iff.1 h44).1
    rw [if_neg (by omega), if_neg (by simp [h44])]
    refine ih (k + 1) y (by omega) hx ?_ hL m (by omega)
    rw [hA, ← List.drop_drop, hrest]; rfl
 have hp0 : 0 < l.length := List.length_pos_iff.2 hne
 have h0 : l[0]? = some l[0] := List.getElem?_eq_getElem hp0
 refine key l.length 0 _ (by omega) h0 (fmL_cons h0) (by simp [plL]) _ ?_
 have : ∀ (n : Nat), n ≤ l.length → n ≤ (fmK l n).length + 1 := by
  intro n
  induction n with
  | zero => intro _; omega
  | succ n ih =>
   intro hk
   have h1 := ih (by omega)
   have hx : l[n]? = some l[n] := List.getElem?_eq_getElem (by omega)
   by_cases q : n = 0
   ·subst q; omega
   ·rw [fmK_s (by omega) hx]; simp; omega
 have h := this l.length (Nat.le_refl _)
 rw [fmK_all l (Nat.le_refl _)] at h
 omega
end Go.Proofs.YtfedemnaeggokaaGreatDoor
end
section
namespace Go.Proofs.YtfedemnaeggokaaGreatDoor
set_option linter.unusedVariables false
set_option linter.unusedSimpArgs false
def FreeB (c : UInt8) (l : List Bs) : Prop := ∀ x ∈ l, ∀ y ∈ x, y ≠ c
theorem flds_join (c : UInt8) : ∀ (l : List Bs), l ≠ [] → FreeB c l → flds c (joinB [c] l) = l
 | [], h, _ => absurd rfl h
 | [x], _, hf => by rw [joinB_one]; exact flds_one c x (hf x List.mem_cons_self)
 | x :: y :: r, _, hf => by
  have e : joinB [c] (x :: y :: r) = x ++ c :: joinB [c] (y :: r) := by simp [joinB]
  rw [e, flds_cons c x _ (hf x List.mem_cons_self), flds_join c (y :: r) (by simp) (fun z hz => hf z (List.mem_cons_of_mem _ hz))]
theorem flO_free (c : UInt8) (s : Bs) : ∀ i, i ≤ s.length → FreeB c (flO c s i) ∧ ∀ j x, flF c s i ≤ j → j < i → s[j]? = some x → x ≠ c
 | 0, _ => ⟨fun x hx => by simp [flO] at hx, fun j x _ hj => by omega⟩
 | i + 1, h => by
  obtain ⟨h1, h2⟩ := flO_free c s i (by omega)
  have hf := flF_le c s i
  by_cases hc : s[i]? = some c
  ·rw [flO_y hc, flF_y hc]
   refine ⟨fun x hx => ?_, fun j x hj hj2 => by omega⟩
   rcases List.mem_append.1 hx with q | q
   ·exact h1 x q
   ·rw [List.mem_singleton.1 q]
    intro y hy
    obtain ⟨j, hj⟩ := List.getElem?_of_mem hy
    rw [List.getElem?_drop, List.getElem?_take] at hj
    split at hj
    ·exact h2 _ y (by omega) (by omega) hj
    ·cases hj
  ·rw [flO_n hc, flF_n hc]
   refine ⟨h1, fun j x hj hj2 hx e => ?_⟩
   by_cases q : j = i
   ·subst q; subst e; exact hc hx
   ·exact h2 j x hj (by omega) hx e
theorem flds_free (c : UInt8) (s : Bs) : FreeB c (flds c s) := fun x hx => by
 obtain ⟨h1, h2⟩ := flO_free c s s.length (Nat.le_refl _)
 unfold flds at hx
 rcases List.mem_append.1 hx with q | q
 ·exact h1 x q
 ·rw [List.mem_singleton.1 q]
  intro y hy
  obtain ⟨j, hj⟩ := List.getElem?_of_mem hy
  rw [List.getElem?_drop] at hj
  exact h2 _ y (by omega) (List.getElem?_eq_some_iff.1 hj).1 hj
theorem lins_free (s : Bs) : FreeB 10 (lins s) := by
 unfold lins
 split
 ·exact flds_free 10 s
 ·exact (flO_free 10 s s.length (Nat.le_refl _)).1
def endL (l : List Bs) : Bs := l.flatMap fun x => x ++ [10]
theorem flO_end : ∀ (l : List Bs), FreeB 10 l → flO 10 (endL l) (endL l).length = l ∧ flF 10 (endL l) (endL l).length = (endL l).length
 | [], _ => ⟨rfl, rfl⟩
 | x :: l, hf => by
  obtain ⟨h1, h2⟩ := flO_end l fun y hy => hf y (List.mem_cons_of_mem _ hy)
  have e : endL (x :: l) = x ++ 10 :: endL l := by simp [endL]
  have el : (endL (x :: l)).length = x.length + 1 + (endL l).length := by rw [e]; simp; omega
  obtain ⟨g1, g2⟩ := fl_shift 10 x (endL l) (hf x List.mem_cons_self) (endL l).length
  rw [el, e, g1, g2, h1, h2]
  exact ⟨rfl, rfl⟩
theorem lins_end {l : List Bs} (h : FreeB 10 l) : lins (endL l) = l := by
 obtain ⟨h1, h2⟩ := flO_end l h
 rw [lins, h2, if_neg (by omega), h1]
theorem rwK_join {c : UInt8} (l : List Bs) : ∀ k, k ≤ l.length → rwK [c] l k = joinB [c] (l.take k)
 | 0, _ => by simp [rwK, joinB]
 | k + 1, h => by
  have hx : l[k]? = some l[k] := List.getElem?_eq_getElem (by omega)
  rw [take_succ_get hx]
  by_cases q : k = 0
  ·subst q; rw [rwK_0 hx]; simp [joinB]
  ·have hs : spA [c] (k - 1) = [c] := by
    rw [spA, if_neg (by simp)]
    have : (k - 1) % [c].length = 0 := by simp; omega
    rw [this]; rfl
   rw [rwK_s (by omega) hx, rwK_join l k (by omega), hs, joinB_snoc]
   intro e
   have := congrArg List.length e
   rw [List.length_take, List.length_nil] at this
   omega
theorem rwB_join {c : UInt8} (l : List Bs) : rwB [c] l = joinB [c] l ++ [10] := by
 rw [rwB, rwK_join l l.length (Nat.le_refl _), List.take_length]
theorem parK_end {c : UInt8} (ls : List (List Bs)) : ∀ k, parK [c] ls k = endL ((List.range k).map fun i => joinB [c] (colm ls i))
 | 0 => rfl
 | k + 1 => by
  rw [parK, parK_end ls k, rwB_join, List.range_succ, List.map_append]
  simp [endL]
theorem colm_free {c : UInt8} {ls : List (List Bs)} (h : ∀ l ∈ ls, FreeB c l) (i : Nat) : FreeB c (colm ls i) := fun x hx y hy => by
 obtain ⟨l, hl, rfl⟩ := List.mem_map.1 hx
 rw [List.getD_eq_getElem?_getD] at hy
 cases hg : l[i]? with
 | none => rw [hg] at hy; simp at hy
 | some z => rw [hg] at hy; exact h l hl z (List.mem_of_getElem? hg) y hy
theorem join_free {c d : UInt8} (hcd : c ≠ d) {l : List Bs} (h : FreeB d l) : ∀ y ∈ joinB [c] l, y ≠ d := by
 cases l with
 | nil => intro y hy; simp [joinB] at hy
 | cons x r =>
  intro y hy
  rcases List.mem_append.1 hy with q | q
  ·exact h x List.mem_cons_self y q
  ·obtain ⟨z, hz, hz2⟩ := List.mem_flatMap.1 q
   rcases List.mem_append.1 hz2 with w | w
   ·rw [List.mem_singleton.1 w]; exact hcd
   ·exact h z (List.mem_cons_of_mem _ hz) y w
theorem flO_mem (c : UInt8) (s : Bs) : ∀ i, ∀ x ∈ flO c s i, ∀ y ∈ x, y ∈ s
 | 0, x, hx, _, _ => by simp [flO] at hx
 | i + 1, x, hx, y, hy => by
  unfold flO at hx
  split at hx
  ·rcases List.mem_append.1 hx with q | q
   ·exact flO_mem c s i x q y hy
   ·rw [List.mem_singleton.1 q] at hy
    exact List.mem_of_mem_take (List.mem_of_mem_drop hy)
  ·exact flO_mem c s i x hx y hy
theorem lins_mem {s x : Bs} (hx : x ∈ lins s) {y : UInt8} (hy : y ∈ x) : y ∈ s := by
 unfold lins at hx
 split at hx
 ·rcases List.mem_append.1 hx with q | q
  ·exact flO_mem 10 s _ x q y hy
  ·rw [List.mem_singleton.1 q] at hy; exact List.mem_of_mem_drop hy
 ·exact flO_mem 10 s _ x hx y hy
theorem fdK_pick {p : Spec} {l : List Bs} {k : Nat} {x : Bs} (hp : ∀ n : Int, slB p n = decide (n = (k : Int) + 1)) (hx : l[k]? = some x) : ∀ i, fdK p l i = if k < i then [x] else []
 | 0 => by simp [fdK]
 | i + 1 => by
  have ih := fdK_pick hp hx i
  by_cases q : i = k
  ·subst q
   rw [fdK_y hx (by rw [hp]; exact decide_eq_true (by omega)), ih, if_neg (by omega), if_pos (by omega)]; rfl
  ·rw [fdK_n (by rw [hp]; exact decide_eq_false (by omega)), ih]
   by_cases h : k < i
   ·rw [if_pos h, if_pos (by omega)]
   ·rw [if_neg h, if_neg (by omega)]
theorem apK_pick {p : Spec} (hc : chkE p = 0) (hk : ¬ p.kind = 1) (ho : p.out = []) {k : Nat} (hp : ∀ n : Int, slB p n = decide (n = (k : Int) + 1)) {rows : List (List Bs)} (hr : ∀ r ∈ rows, 2 ≤ r.length ∧ k < r.length ∧ FreeB p.sep r) : ∀ i, i ≤ rows.length → apK p (rows.map (joinB [p.sep])) i = endL ((rows.take i).map fun r => r.getD k [])
 | 0, _ => rfl
 | i + 1, h => by
  have ih := apK_pick hc hk ho hp hr i (by omega)
  have hx : rows[i]? = some rows[i] := List.getElem?_eq_getElem (by omega)
  obtain ⟨r1, r2, r3⟩ := hr _ (List.mem_of_getElem? hx)
  generalize rows[i] = r at hx r1 r2 r3
  have hx' : (rows.map (joinB [p.sep]))[i]? = some (joinB [p.sep] r) := by rw [List.getElem?_map, hx]; rfl
  have hf := flds_join p.sep r (fun e => by rw [e] at r1; simp at r1) r3
  have hy : r[k]? = some r[k] := List.getElem?_eq_getElem r2
  have h1 : ¬ (flds p.sep (joinB [p.sep] r)).length = 1 := by rw [hf]; omega
  obtain ⟨l1, l2⟩ := ln_fld hc hk h1
  rw [hf, fdK_pick hp hy, if_pos r2, joinB_one] at l1
  rw [apK_y hx' l2, ih, l1, take_succ_get hx]
  simp only [endL, List.map_append, List.flatMap_append, List.map_singleton, List.flatMap_cons, List.flatMap_nil, List.append_nil, getD_of hy]
theorem plR_bad {s : Bs} : ∀ (n k : Nat) (e b : Int), s.length + 2 ≤ n + k → plA s k ≤ s.length → plR s n k = .bad e b → e ≠ 0
 | 0, k, e, b, h1, h2, _ => by have := plA_ge s k; omega
 | n + 1, k, e, b, h1, h2, h => by
  rw [plR] at h
  by_cases q1 : k = 1024 ∧ DmP s (plA s k)
  ·rw [if_pos q1] at h; cases h; exact fun z => by cases z
  ·rw [if_neg q1] at h
   by_cases q2 : (el s (plA s k)).e = 0
   ·rw [if_neg (by simp [q2])] at h
    by_cases q3 : (el s (plA s k)).a = s.length
    ·rw [if_pos q3] at h; cases h
    ·rw [if_neg q3] at h
     by_cases q4 : s[(el s (plA s k)).a]? = some 44
     ·rw [if_neg (by simp [q4])] at h
      exact plR_bad n (k + 1) e b (by omega) (List.getElem?_eq_some_iff.1 q4).1 h
     ·rw [if_pos q4] at h; cases h; exact fun z => by cases z
   ·rw [if_pos q2] at h
    cases h; exact q2
theorem pl_e0 {s : Bs} (h : plE (pl s) = 0) : ∃ l, pl s = .ok l := by
 cases hp : pl s with
 | bad e b =>
  rw [hp] at h
  exact absurd h (plR_bad _ 0 e b (by omega) (Nat.zero_le _) hp)
 | ok l => exact ⟨l, rfl⟩
theorem fdK_pre (p : Spec) (f : List Bs) (i : Nat) : ∀ d, ∃ r, fdK p f (i + d) = fdK p f i ++ r
 | 0 => ⟨[], by simp⟩
 | d + 1 => by
  obtain ⟨r, hr⟩ := fdK_pre p f i d
  rw [← Nat.add_assoc, fdK]
  split
  ·exact ⟨r ++ (f.drop (i + d)).take 1, by rw [hr, List.append_assoc]⟩
  ·exact ⟨r, hr⟩
theorem fdK_at {p : Spec} {f : List Bs} {i : Nat} {x : Bs} (hx : f[i]? = some x) (hs : slB p ((i + 1 : Nat) : Int) = true) : (fdK p f f.length)[(fdK p f i).length]? = some x := by
 have hi := (List.getElem?_eq_some_iff.1 hx).1
 obtain ⟨r, hr⟩ := fdK_pre p f (i + 1) (f.length - (i + 1))
 rw [show i + 1 + (f.length - (i + 1)) = f.length by omega, fdK_y hx hs] at hr
 rw [hr]; simp
theorem und_bd {texts : List Bs} {c : UInt8} (hn : texts.length ≤ 10) (ht : ∀ t ∈ texts, t.length ≤ 200) : mst (lsts texts) ≤ 201 ∧ (pstB texts [c] false).length ≤ 1000000 := by
 have hl : (lsts texts).length ≤ 10 := by rw [lsts_len]; exact hn
 have he : ∀ l ∈ lsts texts, l.length ≤ 201 ∧ lensB l ≤ 200 := fun l hl => by
  obtain ⟨t, h1, rfl⟩ := List.mem_map.1 hl
  have h2 := lins_len t
  have h3 := lins_lens t
  have h4 := ht t h1
  omega
 have hm : mst (lsts texts) ≤ 201 := mst_le fun l hl => (he l hl).1
 refine ⟨hm, ?_⟩
 have hcol : ∀ i, lensB (colm (lsts texts) i) + (lsts texts).length + 1 ≤ 2011 := fun i => by
  have := lensB_le (l := colm (lsts texts) i) (b := 200) fun x hx => by
   obtain ⟨l, h1, rfl⟩ := List.mem_map.1 hx
   have h2 := he l h1
   rw [List.getD_eq_getElem?_getD]
   cases hg : l[i]? with
   | none => exact Nat.zero_le _
   | some x => exact Nat.le_trans (lens_mem (List.mem_of_getElem? hg)) h2.2
  rw [colm_len] at this
  omega
 have := parK_le (seps := [c]) hcol (mst (lsts texts))
 rw [pstB, if_neg (by decide)]
 omega
theorem und_eq {texts : List Bs} {c : UInt8} {k : Nat} (hc : ¬ c = 10) (hn : 2 ≤ texts.length) (hk : k < texts.length) (hf : ∀ t ∈ texts, ∀ y ∈ t, y ≠ c) : apB ⟨2, [⟨(k : Int) + 1, (k : Int) + 1⟩], c, [], false, false⟩ (pstB texts [c] false) = endL ((List.range (mst (lsts texts))).map fun j => (lins (texts.getD k [])).getD j []) := by
 have hfr : ∀ l ∈ lsts texts, FreeB c l := fun l hl x hx y hy => by
  obtain ⟨t, h1, rfl⟩ := List.mem_map.1 hl
  exact hf t h1 y (lins_mem hx hy)
 have hfr10 : ∀ l ∈ lsts texts, FreeB 10 l := fun l hl => by
  obtain ⟨t, h1, rfl⟩ := List.mem_map.1 hl
  exact lins_free t
 have e1 : pstB texts [c] false = endL ((List.range (mst (lsts texts))).map fun i => joinB [c] (colm (lsts texts) i)) := by
  rw [pstB, if_neg (by decide), parK_end]
 have e2 : lins (pstB texts [c] false) = ((List.range (mst (lsts texts))).map (colm (lsts texts))).map (joinB [c]) := by
  rw [e1, lins_end, List.map_map]; rfl
  intro x hx
  obtain ⟨i, -, rfl⟩ := List.mem_map.1 hx
  exact join_free hc (colm_free hfr10 i)
 unfold apB
 rw [e2, List.length_map]
 have hl : (lsts texts).length = texts.length := lsts_len texts
 have ck : chkE ⟨2, [⟨(k : Int) + 1, (k : Int) + 1⟩], c, [], false, false⟩ = 0 := chkE_o (.inr rfl) (by
  show okB _ = true
  rw [okB_iff]; dsimp only; omega) hc
 have hp : ∀ n : Int, slB ⟨2, [⟨(k : Int) + 1, (k : Int) + 1⟩], c, [], false, false⟩ n = decide (n = (k : Int) + 1) := fun n => by
  unfold slB hasB inB
  simp only [List.any_cons, List.any_nil, Bool.or_false]
  by_cases h : n = (k : Int) + 1
  ·subst h; simp
  ·rw [decide_eq_false h]
   by_cases h1 : (k : Int) + 1 ≤ n
   ·have : ¬ n ≤ (k : Int) + 1 := by omega
    have h0 : ¬ (k : Int) + 1 = 0 := by omega
    simp [h1, this, h0]
   ·simp [h1]
 rw [apK_pick ck (show ¬ (2 : Int) = 1 by decide) rfl hp (rows := (List.range (mst (lsts texts))).map (colm (lsts texts))) (fun r hr => by
  obtain ⟨i, -, rfl⟩ := List.mem_map.1 hr
  rw [colm_len, hl]
  exact ⟨hn, hk, colm_free hfr i⟩) _ (Nat.le_refl _), List.take_length, List.map_map]
 congr 1
 refine List.map_congr_left fun i _ => ?_
 have hx : (lsts texts)[k]? = some (lins (texts.getD k [])) := by
  have : texts[k]? = some texts[k] := List.getElem?_eq_getElem hk
  rw [getD_of this]; exact lsts_at this
 exact getD_of (colm_at hx)
def wtK (l : List Bs) (i : Nat) : Bs := endL ((List.range i).map fun j => l.getD j [])
theorem wtK_s (l : List Bs) (i : Nat) : wtK l (i + 1) = wtK l i ++ l.getD i [] ++ [10] := by
 unfold wtK endL
 rw [List.range_succ, List.map_append, List.flatMap_append]; simp
theorem wtK_y {l : List Bs} {i : Nat} {x : Bs} (h : l[i]? = some x) : wtK l (i + 1) = wtK l i ++ x ++ [10] := by rw [wtK_s, getD_of h]
theorem wtK_n {l : List Bs} {i : Nat} (h : ¬ (i : Int) < (l.length : Int)) : wtK l (i + 1) = wtK l i ++ [10] := by
 rw [wtK_s, List.getD_eq_getElem?_getD, List.getElem?_eq_none (by omega)]; simp
theorem wtK_le {l : List Bs} {b : Nat} (h : ∀ x ∈ l, x.length ≤ b) : ∀ i, (wtK l i).length ≤ i * (b + 1)
 | 0 => by simp [wtK, endL]
 | i + 1 => by
  have ih := wtK_le h i
  rw [wtK_s, Nat.add_mul, Nat.one_mul]
  have : (l.getD i []).length ≤ b := by
   rw [List.getD_eq_getElem?_getD]
   cases hg : l[i]? with
   | none => exact Nat.zero_le _
   | some x => exact h x (List.mem_of_getElem? hg)
  simp only [List.length_append, List.length_singleton]; omega
theorem fdK_cong {p q : Spec} (h : ∀ n, slB p n = slB q n) (l : List Bs) : ∀ i, fdK p l i = fdK q l i
 | 0 => rfl
 | i + 1 => by rw [fdK, fdK, h, fdK_cong h l i]
theorem byK_0 {p : Spec} (ho : p.out = []) {s : Bs} {i : Nat} (h : slB p ((i + 1 : Nat) : Int) = true) : byK p s (i + 1) = byK p s i ++ (s.drop i).take 1 := by
 rw [byK, if_pos h, ho]
 split <;> simp
end Go.Proofs.YtfedemnaeggokaaGreatDoor
end
section
namespace Go.Proofs.YtfedemnaeggokaaGreatDoor
set_option linter.unusedVariables false
set_option linter.unusedSimpArgs false
set_option maxRecDepth 100000
set_option maxHeartbeats 1000000
theorem trip_ok {s : Bs} (h : plE (pl s) = 0) : (∀ x ∈ plO putL (pl s), SpOk x) ∧ plO putL (pl s) ≠ [] ∧ (plO putL (pl s)).length ≤ 1024 ∧ norB (plO putL (pl s)) = true := by
 obtain ⟨l, hl⟩ := pl_e0 h
 obtain ⟨h1, h2, h3⟩ := pl_okL hl
 rw [hl]
 exact ⟨(putL_ok l h1).1, putL_ne h1 h2, Nat.le_trans (putL_ok l h1).2 h3, putL_norB h1⟩
theorem form_ok {l : List Sp} (hl : ∀ x ∈ l, SpOk x) (hne : l ≠ []) (hn : l.length ≤ 1024) (hb : norB l = true) : plE (pl (fmL l)) = 0 ∧ plB (pl (fmL l)) = 0 ∧ plO putL (pl (fmL l)) = l := by
 rw [parse_form hl hne hn]
 exact ⟨rfl, rfl, putL_self hb⟩
theorem ok_of {l : List Sp} (hi : ∀ x ∈ l, InI64 x.f ∧ InI64 x.t) (hb : norB l = true) : ∀ x ∈ l, SpOk x := fun x hx => by
 have h1 := hi x hx
 have h2 := okB_iff.1 (nor_ok hb hx)
 unfold InI64 at h1
 exact ⟨h2.1, h1.1.2, h2.2, h1.2.2⟩
theorem fm_len {l : List Sp} (hi : ∀ x ∈ l, InI64 x.f ∧ InI64 x.t) : (fmL l).length ≤ l.length * 42 := by
 have := fmK_le hi l.length (Nat.le_refl _)
 rwa [fmK_all l (Nat.le_refl _)] at this
theorem ok_in {l : List Sp} (h : ∀ x ∈ l, SpOk x) : ∀ x ∈ l, InI64 x.f ∧ InI64 x.t := fun x hx => by
 obtain ⟨h1, h2, h3, h4⟩ := h x hx
 unfold InI64; omega
structure UndI (texts : List Bs) (sep : UInt8) (i : Nat) : Prop where
 h : ∀ t ∈ texts.take i, t.length ≤ 200 ∧ ∀ y ∈ t, y ≠ sep
section
variable {X : CallF} {srt : List Sp → List Sp}
theorem trips_law (hC : CutC X srt) (l : List Sp) (hl : l.length ≤ maxLen) (hi : ∀ x ∈ l, InI64 x.f ∧ InI64 x.t) (s : Bs) (hs : s.length ≤ 281474976710656) : (R FT X).f 7 [.slice 2 (l.map encSp), strL s] = some (boolA true) := by
 have aw := awake_run hC
 have p1 := parse_1 hC
 have f1 := fmt1_run hC.num hC.str
 have sr := same_run (X := X)
 have nr := norB_run (X := X)
 have hm := maxLen_le
 refine R_wp (Tr.c (AV.tuple [AV.slice 2 (List.map encSp (plO putL (pl s))), intA (plE (pl s)), intA (plB (pl s))]) ((Tr.c (strL (fmL (plO putL (pl s)))) (Tr.c (AV.tuple [AV.slice 2 (List.map encSp (plO putL (pl (fmL (plO putL (pl s)))))), intA (plE (pl (fmL (plO putL (pl s))))), intA (plB (pl (fmL (plO putL (pl s)))))]) (Tr.k (plO putL (pl s)).length ((Tr.b true (Tr.b true (Tr.b true Tr.nil).w)).br (Tr.c (boolA (norB (plO putL (pl s)))) ((Tr.b true (Tr.b true Tr.nil).w).br ((Tr.b true Tr.nil).w.br (Tr.c (boolA (sameB (plO putL (pl s)) (plO putL (pl (fmL (plO putL (pl s))))))) (Tr.nil.br (Tr.k l.length ((Tr.b true (Tr.b true (Tr.c (boolA true) Tr.nil)).w).br (Tr.k l.length ((Tr.b true (Tr.c (boolA true) Tr.nil)).w.br (Tr.c (boolA (norB l)) ((Tr.c (boolA true) Tr.nil).br (Tr.c (strL (fmL l)) (Tr.c (AV.tuple [AV.slice 2 (List.map encSp (plO putL (pl (fmL l)))), intA (plE (pl (fmL l))), intA (plB (pl (fmL l)))]) (((Tr.c (boolA (sameB (plO putL (pl (fmL l))) l)) ((Tr.c (boolA true) Tr.nil).br Tr.nil)).br (Tr.b false Tr.nil)).br (Tr.b false (Tr.b false Tr.nil))).w))).w))))).w).w)))))).w)).br (Tr.k l.length ((Tr.b true (Tr.b true (Tr.c (boolA true) Tr.nil)).w).br (Tr.k l.length
 ((Tr.b true (Tr.c (boolA true) Tr.nil)).w.br (Tr.c (boolA (norB l)) ((Tr.c (boolA true) Tr.nil).br (Tr.c (strL (fmL l)) (Tr.c (AV.tuple [AV.slice 2 (List.map encSp (plO putL (pl (fmL l)))), intA (plE (pl (fmL l))), intA (plB (pl (fmL l)))]) (((Tr.c (boolA (sameB (plO putL (pl (fmL l))) l)) ((Tr.c (boolA true) Tr.nil).br Tr.nil)).br (Tr.b false Tr.nil)).br (Tr.b false (Tr.b false Tr.nil))).w))).w))))).w).w.w) rfl ?_
 refine Eq.mpr (by kernel_rfl : _ = ((R FT X).f 10 [strL s] = some (AV.tuple [AV.slice 2 (List.map encSp (plO putL (pl s))), intA (plE (pl s)), intA (plB (pl s))]) ∧ (decide (plE (pl s) = 0) = true → (R FT X).f 13 [AV.slice 2 (List.map encSp (plO putL (pl s)))] = some (strL (fmL (plO putL (pl s)))) ∧ (R FT X).f 10 [strL (fmL (plO putL (pl s)))] = some (AV.tuple [AV.slice 2 (List.map encSp (plO putL (pl (fmL (plO putL (pl s)))))), intA (plE (pl (fmL (plO putL (pl s))))), intA (plB (pl (fmL (plO putL (pl s)))))]) ∧ (List.map encSp (plO putL (pl s))).length = (plO putL (pl s)).length ∧ (decide ((↑(plO putL (pl s)).length : Int) = 0) = true → true = true ∧ true = true ∧ true = true ∧ false = true) ∧ (decide ((↑(plO putL (pl s)).length : Int) = 0) = false → (R FT X).f 24 [AV.slice 2 (List.map encSp (plO putL (pl s)))] = some (boolA (norB (plO putL (pl s)))) ∧ ((!norB (plO putL (pl s))) = true → true = true ∧ true = true ∧ false = true) ∧ ((!norB (plO putL (pl s))) = false → ((!decide (plE (pl (fmL (plO putL (pl s)))) = 0)) = true → true = true ∧ false = true) ∧ ((!decide (plE (pl (fmL (plO putL (pl s)))) = 0))
 = false → (R FT X).f 12 [AV.slice 2 (List.map encSp (plO putL (pl s))), AV.slice 2 (List.map encSp (plO putL (pl (fmL (plO putL (pl s))))))] = some (boolA (sameB (plO putL (pl s)) (plO putL (pl (fmL (plO putL (pl s))))))) ∧ ((!sameB (plO putL (pl s)) (plO putL (pl (fmL (plO putL (pl s)))))) = true → false = true) ∧ ((!sameB (plO putL (pl s)) (plO putL (pl (fmL (plO putL (pl s)))))) = false → (List.map encSp l).length = l.length ∧ (decide ((↑l.length : Int) = 0) = true → true = true ∧ true = true ∧ (R FT X).f 15 [] = some (boolA true) ∧ true = true) ∧ (decide ((↑l.length : Int) = 0) = false → (List.map encSp l).length = l.length ∧ (decide ((1000 : Int) < (↑l.length : Int)) = true → true = true ∧ (R FT X).f 15 [] = some (boolA true) ∧ true = true) ∧ (decide ((1000 : Int) < (↑l.length : Int)) = false → (R FT X).f 24 [AV.slice 2 (List.map encSp l)] = some (boolA (norB l)) ∧ ((!norB l) = true → (R FT X).f 15 [] = some (boolA true) ∧ true = true) ∧ ((!norB l) = false → (R FT X).f 13 [AV.slice 2 (List.map encSp l)] = some (strL (fmL l)) ∧ (R FT X).f 10 [strL (fmL l)]
 = some (AV.tuple [AV.slice 2 (List.map encSp (plO putL (pl (fmL l)))), intA (plE (pl (fmL l))), intA (plB (pl (fmL l)))]) ∧ (decide (plE (pl (fmL l)) = 0) = true → (decide (plB (pl (fmL l)) = 0) = true → (R FT X).f 12 [AV.slice 2 (List.map encSp (plO putL (pl (fmL l)))), AV.slice 2 (List.map encSp l)] = some (boolA (sameB (plO putL (pl (fmL l))) l)) ∧ (sameB (plO putL (pl (fmL l))) l = true → (R FT X).f 15 [] = some (boolA true) ∧ true = true) ∧ (sameB (plO putL (pl (fmL l))) l = false → false = true)) ∧ (decide (plB (pl (fmL l)) = 0) = false → false = false ∧ false = true)) ∧ (decide (plE (pl (fmL l)) = 0) = false → false = false ∧ false = false ∧ false = true))))))))) ∧ (decide (plE (pl s) = 0) = false → (List.map encSp l).length = l.length ∧ (decide ((↑l.length : Int) = 0) = true → true = true ∧ true = true ∧ (R FT X).f 15 [] = some (boolA true) ∧ true = true) ∧ (decide ((↑l.length : Int) = 0) = false → (List.map encSp l).length = l.length ∧ (decide ((1000 : Int) < (↑l.length : Int)) = true → true = true ∧ (R FT X).f 15 [] = some (boolA true) ∧ true = true)
 ∧ (decide ((1000 : Int) < (↑l.length : Int)) = false → (R FT X).f 24 [AV.slice 2 (List.map encSp l)] = some (boolA (norB l)) ∧ ((!norB l) = true → (R FT X).f 15 [] = some (boolA true) ∧ true = true) ∧ ((!norB l) = false → (R FT X).f 13 [AV.slice 2 (List.map encSp l)] = some (strL (fmL l)) ∧ (R FT X).f 10 [strL (fmL l)] = some (AV.tuple [AV.slice 2 (List.map encSp (plO putL (pl (fmL l)))), intA (plE (pl (fmL l))), intA (plB (pl (fmL l)))]) ∧ (decide (plE (pl (fmL l)) = 0) = true → (decide (plB (pl (fmL l)) = 0) = true → (R FT X).f 12 [AV.slice 2 (List.map encSp (plO putL (pl (fmL l)))), AV.slice 2 (List.map encSp l)] = some (boolA (sameB (plO putL (pl (fmL l))) l)) ∧ (sameB (plO putL (pl (fmL l))) l = true → (R FT X).f 15 [] = some (boolA true) ∧ true = true) ∧ (sameB (plO putL (pl (fmL l))) l = false → false = true)) ∧ (decide (plB (pl (fmL l)) = 0) = false → false = false ∧ false = true)) ∧ (decide (plE (pl (fmL l)) = 0) = false → false = false ∧ false = false ∧ false = true))))))) ?_
 refine ⟨(p1 _ hs), fun h1_ => have h1 := dT h1_; ⟨(f1 _ ?_ ?_), (p1 _ ?_), (by simp), fun h2_ => have h2 := dT h2_; ⟨rfl, rfl, rfl, ?_⟩, fun h3_ => have h3 := dF h3_; ⟨(nr _ ?_ ?_), fun h4_ => have h4 := nT h4_; ⟨rfl, rfl, ?_⟩, fun h5_ => have h5 := nF h5_; ⟨fun h6_ => have h6 := dnT h6_; ⟨rfl, ?_⟩, fun h7_ => have h7 := dnF h7_; ⟨(sr _ _ ?_), fun h8_ => have h8 := nT h8_; ?_, fun h9_ => have h9 := nF h9_; ⟨(by simp), fun h10_ => have h10 := dT h10_; ⟨rfl, rfl, (aw), rfl⟩, fun h11_ => have h11 := dF h11_; ⟨(by simp), fun h12_ => have h12 := dT h12_; ⟨rfl, (aw), rfl⟩, fun h13_ => have h13 := dF h13_; ⟨(nr _ hl ?_), fun h14_ => have h14 := nT h14_; ⟨(aw), rfl⟩, fun h15_ => have h15 := nF h15_; ⟨(f1 _ (by exact (by omega)) hi), (p1 _ ?_), fun h16_ => have h16 := dT h16_; ⟨fun h17_ => have h17 := dT h17_; ⟨(sr _ _ ?_), fun h18 => ⟨(aw), rfl⟩, fun h19 => ?_⟩, fun h20_ => have h20 := dF h20_; ⟨rfl, ?_⟩⟩, fun h21_ => have h21 := dF h21_; ⟨rfl, rfl, ?_⟩⟩⟩⟩⟩⟩⟩⟩⟩, fun h22_ => have h22 := dF h22_; ⟨(by simp), fun h23_ => have h23 := dT h23_; ⟨rfl, rfl, (aw), rfl⟩, fun h24_ => have h24 := dF h24_; ⟨(by simp), fun h25_ => have h25 := dT h25_; ⟨rfl, (aw), rfl⟩, fun h26_ => have h26 := dF h26_; ⟨(nr _ hl ?_), fun h27_ => have h27 := nT h27_; ⟨(aw), rfl⟩, fun h28_ => have h28 := nF h28_; ⟨(f1 _ (by exact (by omega)) hi), (p1 _ ?_), fun h29_ => have h29 := dT h29_; ⟨fun h30_ => have h30 := dT h30_; ⟨(sr _ _ ?_), fun h31 => ⟨(aw), rfl⟩, fun h32 => ?_⟩, fun h33_ => have h33 := dF h33_; ⟨rfl, ?_⟩⟩, fun h34_ => have h34 := dF h34_; ⟨rfl, rfl, ?_⟩⟩⟩⟩⟩⟩
 iterate 10
  ·obtain ⟨t1, t2, t3, t4⟩ := trip_ok h1
   obtain ⟨u1, u2, u3⟩ := form_ok t1 t2 t3 t4
   have t5 := ok_in t1
   have t6 := fm_len t5
   first | omega | exact t5 | exact fun x hx => (t1 x hx).hi | (rw [t4] at h4; cases h4) | exact absurd u1 h6 | exact absurd (List.length_eq_zero_iff.1 (by omega)) t2 | (rw [u3, ← sameB_y rfl] at h8; cases h8)
 ·exact fun x hx => (hi x hx).1.2
 iterate 5
  ·have hne : l ≠ [] := fun e => by subst e; exact h11 rfl
   obtain ⟨u1, u2, u3⟩ := form_ok (ok_of hi h15) hne (by omega) h15
   have t6 := fm_len hi
   first | omega | (rw [u3]; omega) | exact absurd u1 h21 | exact absurd u2 h20 | (rw [u3, ← sameB_y rfl] at h19; cases h19)
 ·exact fun x hx => (hi x hx).1.2
 iterate 5
  ·have hne : l ≠ [] := fun e => by subst e; exact h24 rfl
   obtain ⟨u1, u2, u3⟩ := form_ok (ok_of hi h28) hne (by omega) h28
   have t6 := fm_len hi
   first | omega | (rw [u3]; omega) | exact absurd u1 h34 | exact absurd u2 h33 | (rw [u3, ← sameB_y rfl] at h32; cases h32)
theorem taken_run (l : List Sp) (f : List Bs) (s : Bs) (sep : UInt8) (nt : Bool) (hl : l.length ≤ maxLen) (hf : f.length ≤ 10000000) (hs : s.length ≤ 100000000) (hsx : s = joinB [sep] (fdK ⟨2, l, sep, [sep], false, nt⟩ f f.length)) (hfree : FreeB sep f) : (R FT X).f 27 [.slice 2 (l.map encSp), .slice 1 (f.map strL), strL s, u8A sep, boolA nt] = some (boolA true) := by
 have hm := maxLen_le
 have fr := fields_run (X := X)
 have hr := has2_run (X := X)
 refine R_wp (Tr.c (AV.slice 1 (List.map strL (flds sep s))) (Tr.inv (fun (i : Nat) ↦ St.mk [(0, AV.slice 2 (List.map encSp l)), (1, AV.slice 1 (List.map strL f)), (2, strL s), (4, boolA nt), (11, AV.slice 1 (List.map strL (flds sep s))), (12, intA (↑(fdK (Spec.mk (2 : Int) l sep [sep] false nt) f i).length : Int)), (13, intA (↑i : Int))] []) (fun (i : Nat) ↦ i ≤ f.length) (fun (i : Nat) ↦ f.length - i) fun (i : Nat) ↦ (Tr.k f.length ((Tr.c (boolA (hasB l ((↑i : Int) + 1))) (Tr.nil.w.br (Tr.k (flds sep s).length ((Tr.b true Tr.nil).w.br (Tr.ix strL (flds sep s) (fdK (Spec.mk (2 : Int) l sep [sep] false nt) f i).length fun (x9 : Bs) ↦ Tr.ix strL f i fun (x11 : Bs) ↦ (Tr.nil.br Tr.nil.w.w).w))).w)).w.w.w.br (Tr.k (flds sep s).length (Tr.nil.br (Tr.nil.br Tr.nil))).w)).w).w) rfl ?_
 refine Eq.mpr (by kernel_rfl : _ = ((R FT X).f 26 [strL s, u8A sep] = some (AV.slice 1 (List.map strL (flds sep s))) ∧ (∃ (j1 : Nat), ((List.map encSp l = List.map encSp l ∧ List.map strL f = List.map strL f ∧ s = s ∧ nt = nt ∧ List.map strL (flds sep s) = List.map strL (flds sep s) ∧ (0 : Int) = (↑(fdK (Spec.mk (2 : Int) l sep [sep] false nt) f j1).length : Int) ∧ (0 : Int) = (↑j1 : Int) ∧ True) ∧ True) ∧ j1 ≤ f.length) ∧ ∀ (i : Nat), i ≤ f.length → (List.map strL f).length = f.length ∧ (decide ((↑i : Int) < (↑f.length : Int)) = true → InI64 ((↑i : Int) + 1) ∧ (R FT X).f 25 [AV.slice 2 (List.map encSp l), intA ((↑i : Int) + 1)] = some (boolA (hasB l ((↑i : Int) + 1))) ∧ ((hasB l ((↑i : Int) + 1) == nt) = true → InI64 ((↑i : Int) + 1) ∧ ∃ (j5 : Nat), ((List.map encSp l = List.map encSp l ∧ List.map strL f = List.map strL f ∧ s = s ∧ nt = nt ∧ List.map strL (flds sep s) = List.map strL (flds sep s) ∧ (↑(fdK (Spec.mk (2 : Int) l sep [sep] false nt) f i).length : Int) = (↑(fdK (Spec.mk (2 : Int) l sep [sep] false nt) f j5).length : Int) ∧ (↑i : Int) + 1 = (↑j5 : Int) ∧ True) ∧ True) ∧ j5 ≤ f.length ∧ f.length - j5 < f.length - i) ∧ ((hasB
 l ((↑i : Int) + 1) == nt) = false → (List.map strL (flds sep s)).length = (flds sep s).length ∧ (decide ((↑(flds sep s).length : Int) ≤ (↑(fdK (Spec.mk (2 : Int) l sep [sep] false nt) f i).length : Int)) = true → true = true ∧ false = true) ∧ (decide ((↑(flds sep s).length : Int) ≤ (↑(fdK (Spec.mk (2 : Int) l sep [sep] false nt) f i).length : Int)) = false → List.map strL (flds sep s) = List.map strL (flds sep s) ∧ (↑(fdK (Spec.mk (2 : Int) l sep [sep] false nt) f i).length : Int) = (↑(fdK (Spec.mk (2 : Int) l sep [sep] false nt) f i).length : Int) ∧ (fdK (Spec.mk (2 : Int) l sep [sep] false nt) f i).length < (flds sep s).length ∧ ∀ (x9 : Bs), (flds sep s)[(fdK (Spec.mk (2 : Int) l sep [sep] false nt) f i).length]? = some x9 → List.map strL f = List.map strL f ∧ (↑i : Int) = (↑i : Int) ∧ i < f.length ∧ ∀ (x11 : Bs), f[i]? = some x11 → ((!decide (x9 = x11)) = true → false = true) ∧ ((!decide (x9 = x11)) = false → InI64 ((↑(fdK (Spec.mk (2 : Int) l sep [sep] false nt) f i).length : Int) + 1) ∧ InI64 ((↑i : Int) + 1) ∧ ∃ (j15 : Nat), ((List.map encSp l = List.map encSp l ∧ List.map strL f = List.map strL f ∧ s = s ∧ nt = nt ∧ List.map strL (flds sep s) = List.map
 strL (flds sep s) ∧ (↑(fdK (Spec.mk (2 : Int) l sep [sep] false nt) f i).length : Int) + 1 = (↑(fdK (Spec.mk (2 : Int) l sep [sep] false nt) f j15).length : Int) ∧ (↑i : Int) + 1 = (↑j15 : Int) ∧ True) ∧ True) ∧ j15 ≤ f.length ∧ f.length - j15 < f.length - i)))) ∧ (decide ((↑i : Int) < (↑f.length : Int)) = false → (List.map strL (flds sep s)).length = (flds sep s).length ∧ (decide ((↑(fdK (Spec.mk (2 : Int) l sep [sep] false nt) f i).length : Int) = (↑(flds sep s).length : Int)) = true → true = true) ∧ (decide ((↑(fdK (Spec.mk (2 : Int) l sep [sep] false nt) f i).length : Int) = (↑(flds sep s).length : Int)) = false → (decide ((↑(fdK (Spec.mk (2 : Int) l sep [sep] false nt) f i).length : Int) = 0) = true → decide (s = []) = true) ∧ (decide ((↑(fdK (Spec.mk (2 : Int) l sep [sep] false nt) f i).length : Int) = 0) = false → false = true))))) ?_
 refine ⟨(fr _ _ hs), ⟨(0 : Nat), ⟨⟨rfl, rfl, rfl, rfl, rfl, rfl, (by omega), trivial⟩, trivial⟩, (by omega)⟩, fun i => fun h2 => ⟨(by simp), fun h3_ => have h3 := dT h3_; ⟨(by unfold InI64; omega), (hr _ _ hl), fun h4 => ⟨(by unfold InI64; omega), ⟨i + (1 : Nat), ⟨⟨rfl, rfl, rfl, rfl, rfl, ?_, (by omega), trivial⟩, trivial⟩, ⟨(by omega), (by omega)⟩⟩⟩, fun h6 => ⟨(by simp), fun h7_ => have h7 := dT h7_; ⟨rfl, ?_⟩, fun h8_ => have h8 := dF h8_; ⟨rfl, rfl, (by omega), fun x9 => fun h10 => ⟨rfl, rfl, (by omega), fun x11 => fun h12 => ⟨fun h13_ => have h13 := dnT h13_; ?_, fun h14_ => have h14 := dnF h14_; ⟨?_, (by unfold InI64; omega), ⟨i + (1 : Nat), ⟨⟨rfl, rfl, rfl, rfl, rfl, ?_, (by omega), trivial⟩, trivial⟩, ⟨(by omega), (by omega)⟩⟩⟩⟩⟩⟩⟩⟩, fun h16_ => have h16 := dF h16_; ⟨(by simp), fun h17_ => have h17 := dT h17_; rfl, fun h18_ => have h18 := dF h18_; ⟨fun h19_ => have h19 := dT h19_; ?_, fun h20_ => have h20 := dF h20_; ?_⟩⟩⟩⟩
 all_goals (have hg : ∀ (k : Nat) (x : Bs), (fdK ⟨2, l, sep, [sep], false, nt⟩ f f.length)[k]? = some x → flds sep s = fdK ⟨2, l, sep, [sep], false, nt⟩ f f.length := fun k x hk => (by
  rw [hsx]
  exact flds_join sep _ (fun e => by rw [e] at hk; simp at hk) (fun y hy => hfree y (fdK_mem _ _ _ y hy))))
 ·rw [fdK_n (slB_n h4)]
 ·have hx : f[i]? = some f[i] := List.getElem?_eq_getElem (by omega)
  have h := fdK_at hx (slB_y (p := ⟨2, l, sep, [sep], false, nt⟩) h6)
  have hlt := (List.getElem?_eq_some_iff.1 h).1
  rw [hg _ _ h] at h7
  omega
 ·have h := fdK_at h12 (slB_y (p := ⟨2, l, sep, [sep], false, nt⟩) h6)
  rw [hg _ _ h] at h10
  exact absurd (same_at h h10) h13
 ·have := fdK_len ⟨2, l, sep, [sep], false, nt⟩ f i
  unfold InI64; omega
 ·rw [fdK_y (by assumption) (slB_y (p := ⟨2, l, sep, [sep], false, nt⟩) h6)]; simp
 all_goals (obtain rfl : i = f.length := by omega)
 ·refine decide_eq_true ?_
  have e0 : fdK ⟨2, l, sep, [sep], false, nt⟩ f f.length = [] := List.length_eq_zero_iff.1 (by omega)
  rw [hsx, e0]; rfl
 ·have hne : fdK ⟨2, l, sep, [sep], false, nt⟩ f f.length ≠ [] := fun e => h20 (by rw [e]; rfl)
  have := flds_join sep _ hne (fun y hy => hfree y (fdK_mem _ _ _ y hy))
  rw [← hsx] at this
  rw [this] at h18
  exact absurd rfl h18
theorem selects_law (hC : CutC X srt) (l : List Sp) (hl : l.length ≤ maxLen) (hi : ∀ x ∈ l, InI64 x.f ∧ InI64 x.t) (sep : UInt8) (s : Bs) (hs : s.length ≤ maxLen) : (R FT X).f 8 [.slice 2 (l.map encSp), u8A sep, strL s] = some (boolA true) := by
 have aw := awake_run hC
 have hr := has2_run (X := X)
 have nr := norB_run (X := X)
 have g1 := fun h => line_run hC.bld hC.str ⟨1, l, 0, [], false, false⟩ s h
 have g2 := fun h => line_run hC.bld hC.str ⟨1, l, 0, [], false, true⟩ s h
 have g3 := fun h => line_run hC.bld hC.str ⟨2, l, sep, [sep], true, false⟩ s h
 have g4 := fun h => line_run hC.bld hC.str ⟨2, l, sep, [sep], false, true⟩ s h
 have fr := fields_run (X := X)
 have hm := maxLen_le
 have tk := taken_run (X := X)
 refine R_wp ((Tr.c (boolA (norB l)) ((Tr.b true (Tr.b true (Tr.c (boolA true) Tr.nil)).w).br ((Tr.b true (Tr.c (boolA true) Tr.nil)).w.br ((Tr.c (boolA true) Tr.nil).br (Tr.inv (fun (k : Nat × Bs × Bs) ↦ St.mk [(0, AV.slice 2 (List.map encSp l)), (1, u8A sep), (2, strL s), (7, strL k.snd.fst), (8, strL k.snd.snd), (9, intA (↑k.fst : Int))] []) (fun (k : Nat × Bs × Bs) ↦ k.fst ≤ List.length s ∧ k.snd.fst = byK (Spec.mk (1 : Int) l (0 : UInt8) [] false false) s k.fst ∧ k.snd.snd = byK (Spec.mk (1 : Int) l (0 : UInt8) [] false true) s k.fst) (fun (k : Nat × Bs × Bs) ↦ List.length s - k.fst) fun (k : Nat × Bs × Bs) ↦ ((Tr.c (boolA (hasB l ((↑k.fst : Int) + 1))) ((Tr.sl k.fst (k.fst + 1) Tr.nil.w.w).w.br (Tr.sl k.fst (k.fst + 1) Tr.nil.w.w).w).w).w.w.w.br (Tr.c (AV.tuple [strL (lnB (Spec.mk (1 : Int) l (0 : UInt8) [] false false) s), boolA (lnO (Spec.mk (1 : Int) l (0 : UInt8) [] false false) s)]) (Tr.c (AV.tuple [strL (lnB (Spec.mk (1 : Int) l (0 : UInt8) [] false true) s), boolA (lnO (Spec.mk (1 : Int) l (0 : UInt8) [] false true) s)]) ((Tr.b true (Tr.b true (Tr.b true Tr.nil).w)).br ((Tr.b true (Tr.b true Tr.nil).w).br
 ((Tr.b true Tr.nil).w.br (Tr.nil.br (Tr.c (AV.slice 1 (List.map strL (flds sep s))) (Tr.k (flds sep s).length ((Tr.c (boolA true) Tr.nil).br (Tr.bs [sep] (Tr.c (AV.tuple [strL (lnB (Spec.mk (2 : Int) l sep [sep] true false) s), boolA (lnO (Spec.mk (2 : Int) l sep [sep] true false) s)]) (Tr.c (AV.tuple [strL (lnB (Spec.mk (2 : Int) l sep [sep] false true) s), boolA (lnO (Spec.mk (2 : Int) l sep [sep] false true) s)]) ((Tr.b true Tr.nil).w.br (Tr.nil.br (Tr.c (boolA true) (Tr.b true (Tr.c (boolA true) (Tr.b true (Tr.c (boolA true) Tr.nil))))).w).w).w)))).w).w)).w))).w))).w).w).w))).w) rfl ?_
 refine Eq.mpr (by kernel_rfl : _ = ((R FT X).f 24 [AV.slice 2 (List.map encSp l)] = some (boolA (norB l)) ∧ ((!norB l) = true → true = true ∧ true = true ∧ (R FT X).f 15 [] = some (boolA true) ∧ true = true) ∧ ((!norB l) = false → (decide ((200 : Int) < (↑(List.length s) : Int)) = true → true = true ∧ (R FT X).f 15 [] = some (boolA true) ∧ true = true) ∧ (decide ((200 : Int) < (↑(List.length s) : Int)) = false → (decide ((↑sep.toNat : Int) = 10) = true → (R FT X).f 15 [] = some (boolA true) ∧ true = true) ∧ (decide ((↑sep.toNat : Int) = 10) = false → (∃ (j7 : Nat × Bs × Bs), ((List.map encSp l = List.map encSp l ∧ (↑sep.toNat : Int) = (↑sep.toNat : Int) ∧ s = s ∧ [] = j7.snd.fst ∧ [] = j7.snd.snd ∧ (0 : Int) = (↑j7.fst : Int) ∧ True) ∧ True) ∧ j7.fst ≤ List.length s ∧ j7.snd.fst = byK (Spec.mk (1 : Int) l (0 : UInt8) [] false false) s j7.fst ∧ j7.snd.snd = byK (Spec.mk (1 : Int) l (0 : UInt8) [] false true) s j7.fst) ∧ ∀ (k : Nat × Bs × Bs), k.fst ≤ List.length s ∧ k.snd.fst = byK (Spec.mk (1 : Int) l (0 : UInt8) [] false false) s k.fst ∧ k.snd.snd = byK (Spec.mk (1 : Int) l (0 : UInt8) [] false true) s k.fst → (decide ((↑k.fst : Int) < (↑(List.length
 s) : Int)) = true → InI64 ((↑k.fst : Int) + 1) ∧ (R FT X).f 25 [AV.slice 2 (List.map encSp l), intA ((↑k.fst : Int) + 1)] = some (boolA (hasB l ((↑k.fst : Int) + 1))) ∧ (hasB l ((↑k.fst : Int) + 1) = true → InI64 ((↑k.fst : Int) + 1) ∧ (↑k.fst : Int) = (↑k.fst : Int) ∧ (↑k.fst : Int) + 1 = (↑(k.fst + 1) : Int) ∧ k.fst ≤ k.fst + 1 ∧ k.fst + 1 ≤ List.length s ∧ List.length k.snd.fst + (List.drop k.fst (List.take (k.fst + 1) s)).length ≤ 9223372036854775807 ∧ InI64 ((↑k.fst : Int) + 1) ∧ ∃ (j11 : Nat × Bs × Bs), ((List.map encSp l = List.map encSp l ∧ (↑sep.toNat : Int) = (↑sep.toNat : Int) ∧ s = s ∧ k.snd.fst ++ List.drop k.fst (List.take (k.fst + 1) s) = j11.snd.fst ∧ k.snd.snd = j11.snd.snd ∧ (↑k.fst : Int) + 1 = (↑j11.fst : Int) ∧ True) ∧ True) ∧ (j11.fst ≤ List.length s ∧ j11.snd.fst = byK (Spec.mk (1 : Int) l (0 : UInt8) [] false false) s j11.fst ∧ j11.snd.snd = byK (Spec.mk (1 : Int) l (0 : UInt8) [] false true) s j11.fst) ∧ List.length s - j11.fst < List.length s - k.fst) ∧ (hasB l ((↑k.fst : Int) + 1) = false → InI64 ((↑k.fst : Int) + (1 :
 Int)) ∧ (↑k.fst : Int) = (↑k.fst : Int) ∧ (↑k.fst : Int) + 1 = (↑(k.fst + 1) : Int) ∧ k.fst ≤ k.fst + 1 ∧ k.fst + 1 ≤ List.length s ∧ List.length k.snd.snd + (List.drop k.fst (List.take (k.fst + 1) s)).length ≤ 9223372036854775807 ∧ InI64 ((↑k.fst : Int) + 1) ∧ ∃ (j13 : Nat × Bs × Bs), ((List.map encSp l = List.map encSp l ∧ (↑sep.toNat : Int) = (↑sep.toNat : Int) ∧ s = s ∧ k.snd.fst = j13.snd.fst ∧ k.snd.snd ++ List.drop k.fst (List.take (k.fst + 1) s) = j13.snd.snd ∧ (↑k.fst : Int) + 1 = (↑j13.fst : Int) ∧ True) ∧ True) ∧ (j13.fst ≤ List.length s ∧ j13.snd.fst = byK (Spec.mk (1 : Int) l (0 : UInt8) [] false false) s j13.fst ∧ j13.snd.snd = byK (Spec.mk (1 : Int) l (0 : UInt8) [] false true) s j13.fst) ∧ List.length s - j13.fst < List.length s - k.fst)) ∧ (decide ((↑k.fst : Int) < (↑(List.length s) : Int)) = false → (R FT X).f 16 [encSc (Spec.mk (1 : Int) l (0 : UInt8) [] false false), strL s] = some (AV.tuple [strL (lnB (Spec.mk (1 : Int) l (0 : UInt8) [] false false) s), boolA (lnO (Spec.mk (1 : Int) l (0 : UInt8) [] false false) s)]) ∧ (R FT X).f 16 [encSc (Spec.mk (1 : Int) l (0 : UInt8)
 [] false true), strL s] = some (AV.tuple [strL (lnB (Spec.mk (1 : Int) l (0 : UInt8) [] false true) s), boolA (lnO (Spec.mk (1 : Int) l (0 : UInt8) [] false true) s)]) ∧ ((!decide (lnB (Spec.mk (1 : Int) l (0 : UInt8) [] false false) s = k.snd.fst)) = true → true = true ∧ true = true ∧ true = true ∧ false = true) ∧ ((!decide (lnB (Spec.mk (1 : Int) l (0 : UInt8) [] false false) s = k.snd.fst)) = false → ((!decide (lnB (Spec.mk (1 : Int) l (0 : UInt8) [] false true) s = k.snd.snd)) = true → true = true ∧ true = true ∧ false = true) ∧ ((!decide (lnB (Spec.mk (1 : Int) l (0 : UInt8) [] false true) s = k.snd.snd)) = false → ((!lnO (Spec.mk (1 : Int) l (0 : UInt8) [] false false) s) = true → true = true ∧ false = true) ∧ ((!lnO (Spec.mk (1 : Int) l (0 : UInt8) [] false false) s) = false → ((!lnO (Spec.mk (1 : Int) l (0 : UInt8) [] false true) s) = true → false = true) ∧ ((!lnO (Spec.mk (1 : Int) l (0 : UInt8) [] false true) s) = false → (R FT X).f 26 [strL s, u8A sep] = some (AV.slice 1 (List.map strL (flds sep s))) ∧ (List.map strL (flds sep s)).length = (flds sep s).length ∧ (decide ((↑(flds sep s).length : Int) < 2) = true → (R FT X).f 15 [] = some
 (boolA true) ∧ true = true) ∧ (decide ((↑(flds sep s).length : Int) < 2) = false → (1 : Nat) = 1 ∧ some [UInt8.ofNat (↑sep.toNat : Int).toNat] = some [sep] ∧ (R FT X).f 16 [encSc (Spec.mk (2 : Int) l sep [sep] true false), strL s] = some (AV.tuple [strL (lnB (Spec.mk (2 : Int) l sep [sep] true false) s), boolA (lnO (Spec.mk (2 : Int) l sep [sep] true false) s)]) ∧ (R FT X).f 16 [encSc (Spec.mk (2 : Int) l sep [sep] false true), strL s] = some (AV.tuple [strL (lnB (Spec.mk (2 : Int) l sep [sep] false true) s), boolA (lnO (Spec.mk (2 : Int) l sep [sep] false true) s)]) ∧ ((!lnO (Spec.mk (2 : Int) l sep [sep] true false) s) = true → true = true ∧ false = true) ∧ ((!lnO (Spec.mk (2 : Int) l sep [sep] true false) s) = false → ((!lnO (Spec.mk (2 : Int) l sep [sep] false true) s) = true → false = true) ∧ ((!lnO (Spec.mk (2 : Int) l sep [sep] false true) s) = false → (R FT X).f 27 [AV.slice 2 (List.map encSp l), AV.slice 1 (List.map strL (flds sep s)), strL (lnB (Spec.mk (2 : Int) l sep [sep] true false) s), u8A sep, boolA false] = some (boolA true) ∧ true = true ∧ (R FT X).f 27 [AV.slice 2 (List.map encSp l),
 AV.slice 1 (List.map strL (flds sep s)), strL (lnB (Spec.mk (2 : Int) l sep [sep] false true) s), u8A sep, boolA true] = some (boolA true) ∧ true = true ∧ (R FT X).f 15 [] = some (boolA true) ∧ true = true))))))))))))) ?_
 refine ⟨(nr _ hl ?_), fun h1_ => have h1 := nT h1_; ⟨rfl, rfl, (aw), rfl⟩, fun h2_ => have h2 := nF h2_; ⟨fun h3_ => have h3 := dT h3_; ⟨rfl, (aw), rfl⟩, fun h4_ => have h4 := dF h4_; ⟨fun h5_ => have h5 := dT h5_; ⟨(aw), rfl⟩, fun h6_ => have h6 := dF h6_; ⟨⟨((0 : Nat), [], []), ⟨⟨rfl, rfl, rfl, rfl, rfl, (by (try dsimp only); omega), trivial⟩, trivial⟩, ⟨(by (try dsimp only); omega), rfl, rfl⟩⟩, fun k => fun h8 => have h8a := h8.1; have h8b := h8.2.1; have h8c := h8.2.2; ⟨fun h9_ => have h9 := dT h9_; ⟨(by unfold InI64; omega), (hr _ _ hl), fun h10 => ⟨(by unfold InI64; omega), rfl, (by omega), (by omega), (by omega), ?_, (by unfold InI64; omega), ⟨(k.fst + (1 : Nat), k.snd.fst ++ List.drop k.fst (List.take (k.fst + (1 : Nat)) s), k.snd.snd), ⟨⟨rfl, rfl, rfl, rfl, rfl, (by (try dsimp only); omega), trivial⟩, trivial⟩, ⟨⟨(by (try dsimp only); omega), ?_, ?_⟩, (by (try dsimp only); omega)⟩⟩⟩, fun h12 => ⟨(by unfold InI64; omega), rfl, (by omega), (by omega), (by omega), ?_, (by unfold InI64; omega), ⟨(k.fst + (1 : Nat), k.snd.fst, k.snd.snd ++ List.drop k.fst (List.take (k.fst + (1 : Nat)) s)), ⟨⟨rfl, rfl, rfl, rfl, rfl, (by (try dsimp only); omega), trivial⟩, trivial⟩, ⟨⟨(by (try dsimp only); omega), ?_, ?_⟩, (by (try dsimp only); omega)⟩⟩⟩⟩, fun h14_ => have h14 := dF h14_; ⟨(g1 ?_), (g2 ?_), fun h15_ => have h15 := dnT h15_; ⟨rfl, rfl, rfl, ?_⟩, fun h16_ => have h16 := dnF h16_; ⟨fun h17_ => have h17 := dnT h17_; ⟨rfl, rfl, ?_⟩, fun h18_ => have h18 := dnF h18_; ⟨fun h19_ => have h19 := nT h19_; ⟨rfl, ?_⟩, fun h20_ => have h20 := nF h20_; ⟨fun h21_ => have h21 := nT h21_; ?_, fun h22_ => have h22 := nF h22_; ⟨(fr _ _ (by exact (by omega))), (by simp), fun h23_ => have h23 := dT h23_; ⟨(aw), rfl⟩, fun h24_ => have h24 := dF h24_; ⟨rfl, (by simp), (g3 ?_), (g4 ?_), fun h25_ => have h25 := nT h25_; ⟨rfl, ?_⟩, fun h26_ => have h26 := nF h26_; ⟨fun h27_ => have h27 := nT h27_; ?_, fun h28_ => have h28 := nF h28_; ⟨(tk _ _ _ _ _ hl ?_ ?_ ?_ ?_), rfl, (tk _ _ _ _ _ hl ?_ ?_ ?_ ?_), rfl, (aw), rfl⟩⟩⟩⟩⟩⟩⟩⟩⟩⟩⟩⟩⟩
 ·exact fun x hx => (hi x hx).1.2
 all_goals have hh : ∀ x ∈ l, x.f ≤ 9223372036854775807 := fun x hx => (hi x hx).1.2
 iterate 6
  ·have e1 : ((s.take (k.1 + 1)).drop k.1) = (s.drop k.1).take 1 := by rw [List.drop_take]; congr 1; omega
   have b1 := byK_le ⟨1, l, 0, [], false, false⟩ s k.1
   have b2 := byK_le ⟨1, l, 0, [], false, true⟩ s k.1
   have b3 : ((s.drop k.1).take 1).length ≤ 1 := by rw [List.length_take]; omega
   simp only [List.length_nil, Nat.zero_add, Nat.mul_one] at b1 b2
   first
    | (rw [e1, h8b]; omega)
    | (rw [e1, h8c]; omega)
    | (dsimp only; rw [e1, h8b, byK_0 rfl (by unfold slB; dsimp only; rw [Int.natCast_add]; exact (congrArg (· != false) h10).trans rfl)])
    | (dsimp only; rw [e1, h8c, byK_0 rfl (by unfold slB; dsimp only; rw [Int.natCast_add]; exact (congrArg (· != true) h12).trans rfl)])
    | (dsimp only; rw [h8c, byK_n (by unfold slB; dsimp only; rw [Int.natCast_add]; exact (congrArg (· != true) h10).trans rfl)])
    | (dsimp only; rw [h8b, byK_n (by unfold slB; dsimp only; rw [Int.natCast_add]; exact (congrArg (· != false) h12).trans rfl)])
 iterate 2 · exact ⟨hl, hh, by omega, by simp; omega⟩
 all_goals have c1 : chkE ⟨1, l, 0, [], false, false⟩ = 0 := chkE_o (.inl rfl) h2 (show ¬ (0 : UInt8) = 10 by decide)
 all_goals have c2 : chkE ⟨1, l, 0, [], false, true⟩ = 0 := chkE_o (.inl rfl) h2 (show ¬ (0 : UInt8) = 10 by decide)
 all_goals have ek : k.1 = s.length := by omega
 all_goals rw [ek] at h8b h8c
 ·exact absurd ((ln_byt (s := s) c1 rfl).1.trans h8b.symm) h15
 ·exact absurd ((ln_byt (s := s) c2 rfl).1.trans h8c.symm) h17
 ·rw [(ln_byt (s := s) c1 rfl).2] at h19; cases h19
 ·rw [(ln_byt (s := s) c2 rfl).2] at h21; cases h21
 iterate 2 · exact ⟨hl, hh, by omega, by simp; omega⟩
 all_goals have c3 : chkE ⟨2, l, sep, [sep], true, false⟩ = 0 := chkE_o (.inr rfl) h2 (fun q => h6 (by rw [show sep = 10 from q]; rfl))
 all_goals have c4 : chkE ⟨2, l, sep, [sep], false, true⟩ = 0 := chkE_o (.inr rfl) h2 (fun q => h6 (by rw [show sep = 10 from q]; rfl))
 all_goals have n1 : ¬ (flds sep s).length = 1 := by omega
 all_goals have f3 := ln_fld (s := s) c3 (show ¬ (2 : Int) = 1 by decide) n1
 all_goals have f4 := ln_fld (s := s) c4 (show ¬ (2 : Int) = 1 by decide) n1
 ·rw [f3.2] at h25; cases h25
 ·rw [f4.2] at h27; cases h27
 all_goals have hcl := cnt_flds sep s
 all_goals have hcs := cnt_le sep s
 all_goals have b5 := lnB_le ⟨2, l, sep, [sep], true, false⟩ s
 all_goals have b6 := lnB_le ⟨2, l, sep, [sep], false, true⟩ s
 all_goals simp only [List.length_singleton] at b5 b6
 ·omega
 ·omega
 ·exact f3.1.trans (congrArg (joinB [sep]) (fdK_cong (p := ⟨2, l, sep, [sep], true, false⟩) (q := ⟨2, l, sep, [sep], false, false⟩) (fun n => rfl) _ _))
 ·exact flds_free sep s
 ·omega
 ·omega
 ·exact f4.1
 ·exact flds_free sep s
theorem undoes_law (hC : CutC X srt) (texts : List Bs) (ht : texts.length ≤ maxLen) (hs : ∀ t ∈ texts, t.length ≤ maxLen) (sep : UInt8) (k : Int) (hk : InI64 k) : (R FT X).f 9 [.slice 1 (texts.map strL), u8A sep, intA k] = some (boolA true) := by
 have aw := awake_run hC
 have hm := maxLen_le
 have l2 := lines2_run (X := X)
 have pr := fun t s b h => paste_run hC.str hC.bld t s b h
 have ar := fun s h => apply_run hC.bld hC.str ⟨2, [⟨k + 1, k + 1⟩], sep, [], false, false⟩ s h
 refine R_wp ((Tr.k texts.length ((Tr.b true (Tr.b true (Tr.b true (Tr.b true (Tr.c (boolA true) Tr.nil)).w))).br (Tr.k texts.length ((Tr.b true (Tr.b true (Tr.b true (Tr.c (boolA true) Tr.nil)).w)).br ((Tr.b true (Tr.b true (Tr.c (boolA true) Tr.nil)).w).br (Tr.k texts.length ((Tr.b true (Tr.c (boolA true) Tr.nil)).w.br ((Tr.c (boolA true) Tr.nil).br (Tr.inv (fun (i : Nat) ↦ St.mk [(0, AV.slice 1 (List.map strL texts)), (1, u8A sep), (2, intA k), (7, intA (↑(mstK (lsts texts) i) : Int)), (8, intA (↑i : Int))] []) (fun (i : Nat) ↦ i ≤ texts.length ∧ UndI texts sep i) (fun (i : Nat) ↦ texts.length - i) fun (i : Nat) ↦ (Tr.k texts.length ((Tr.ix strL texts i fun (x14 : Bs) ↦ ((Tr.c (boolA true) Tr.nil).br (Tr.inv (fun (j : Nat) ↦ St.mk [(0, AV.slice 1 (List.map strL texts)), (1, u8A sep), (2, intA k), (7, intA (↑(mstK (lsts texts) i) : Int)), (8, intA (↑i : Int)), (9, intA (↑j : Int))] []) (fun (j : Nat) ↦ j ≤ List.length (texts.getD i []) ∧ ∀ (y : UInt8), y ∈ List.take j (texts.getD i []) → y ≠ sep) (fun (j : Nat) ↦ List.length (texts.getD i []) - j) fun (j : Nat) ↦ (Tr.ix strL texts i fun (x22
 : Bs) ↦ (Tr.ix strL texts i fun (x25 : Bs) ↦ Tr.y j fun (c27 : UInt8) ↦ ((Tr.c (boolA true) Tr.nil).br Tr.nil.w).w).w.w.br (Tr.ix strL texts i fun (x35 : Bs) ↦ Tr.c (AV.tuple [AV.slice 1 (List.map strL (lins x35)), boolA (endB x35)]) (Tr.k (lins x35).length ((Tr.k (lins x35).length Tr.nil.w).br Tr.nil.w).w).w)).w).w).w).w.w.br (Tr.ix strL texts k.toNat fun (x42 : Bs) ↦ Tr.c (AV.tuple [AV.slice 1 (List.map strL (lins x42)), boolA (endB x42)]) (Tr.inv (fun (j : Nat) ↦ St.mk [(0, AV.slice 1 (List.map strL texts)), (1, u8A sep), (2, intA k), (7, intA (↑(mst (lsts texts)) : Int)), (12, strL (wtK (lins (texts.getD k.toNat [])) j)), (13, AV.slice 1 (List.map strL (lins (texts.getD k.toNat [])))), (15, intA (↑j : Int))] []) (fun (j : Nat) ↦ j ≤ mst (lsts texts)) (fun (j : Nat) ↦ mst (lsts texts) - j) fun (j : Nat) ↦ ((Tr.k (lins (texts.getD k.toNat [])).length ((Tr.ix strL (lins (texts.getD k.toNat [])) j fun (x48 : Bs) ↦ Tr.nil.w.w.w).br Tr.nil.w.w).w).w.w.br (Tr.bs [sep] (Tr.c (strL (pstB texts [sep] false)) (Tr.g (List.map encSp [Sp.mk (k + 1) (k + 1)]) (Tr.c (strL (apB (Spec.mk (2 : Int)
 [Sp.mk (k + 1) (k + 1)] sep [] false false) (pstB texts [sep] false))) ((Tr.c (boolA true) Tr.nil).br Tr.nil))).w.w.w))).w).w))).w).w).w))))))).w) rfl ?_
 refine Eq.mpr (by kernel_rfl : _ = ((List.map strL texts).length = texts.length ∧ (decide ((↑texts.length : Int) < 2) = true → true = true ∧ true = true ∧ true = true ∧ true = true ∧ (R FT X).f 15 [] = some (boolA true) ∧ true = true) ∧ (decide ((↑texts.length : Int) < 2) = false → (List.map strL texts).length = texts.length ∧ (decide ((10 : Int) < (↑texts.length : Int)) = true → true = true ∧ true = true ∧ true = true ∧ (R FT X).f 15 [] = some (boolA true) ∧ true = true) ∧ (decide ((10 : Int) < (↑texts.length : Int)) = false → (decide (k < 0) = true → true = true ∧ true = true ∧ (R FT X).f 15 [] = some (boolA true) ∧ true = true) ∧ (decide (k < 0) = false → (List.map strL texts).length = texts.length ∧ (decide ((↑texts.length : Int) ≤ k) = true → true = true ∧ (R FT X).f 15 [] = some (boolA true) ∧ true = true) ∧ (decide ((↑texts.length : Int) ≤ k) = false → (decide ((↑sep.toNat : Int) = 10) = true → (R FT X).f 15 [] = some (boolA true) ∧ true = true) ∧ (decide ((↑sep.toNat : Int) = 10) = false → (∃ (j11 : Nat), ((List.map strL texts = List.map strL texts ∧ (↑sep.toNat : Int) = (↑sep.toNat : Int) ∧ k = k ∧ (0 : Int)
 = (↑(mstK (lsts texts) j11) : Int) ∧ (0 : Int) = (↑j11 : Int) ∧ True) ∧ True) ∧ j11 ≤ texts.length ∧ UndI texts sep j11) ∧ ∀ (i : Nat), i ≤ texts.length ∧ UndI texts sep i → (List.map strL texts).length = texts.length ∧ (decide ((↑i : Int) < (↑texts.length : Int)) = true → List.map strL texts = List.map strL texts ∧ (↑i : Int) = (↑i : Int) ∧ i < texts.length ∧ ∀ (x14 : Bs), texts[i]? = some x14 → (decide ((200 : Int) < (↑(List.length x14) : Int)) = true → (R FT X).f 15 [] = some (boolA true) ∧ true = true) ∧ (decide ((200 : Int) < (↑(List.length x14) : Int)) = false → (∃ (j18 : Nat), ((List.map strL texts = List.map strL texts ∧ (↑sep.toNat : Int) = (↑sep.toNat : Int) ∧ k = k ∧ (↑(mstK (lsts texts) i) : Int) = (↑(mstK (lsts texts) i) : Int) ∧ (↑i : Int) = (↑i : Int) ∧ (0 : Int) = (↑j18 : Int) ∧ True) ∧ True) ∧ j18 ≤ List.length (texts.getD i []) ∧ ∀ (y19 : UInt8), y19 ∈ List.take j18 (texts.getD i []) → y19 ≠ sep) ∧ ∀ (j : Nat), (j ≤ List.length (texts.getD i []) ∧ ∀ (y : UInt8), y ∈ List.take j (texts.getD i []) → y ≠ sep) → List.map strL texts = List.map strL texts ∧ (↑i : Int) = (↑i : Int) ∧ i < texts.length ∧ ∀ (x22 : Bs), texts[i]? = some x22 → (decide ((↑j : Int) <
 (↑(List.length x22) : Int)) = true → List.map strL texts = List.map strL texts ∧ (↑i : Int) = (↑i : Int) ∧ i < texts.length ∧ ∀ (x25 : Bs), texts[i]? = some x25 → (↑j : Int) = (↑j : Int) ∧ j < List.length x25 ∧ ∀ (c27 : UInt8), x25[j]? = some c27 → (decide ((↑c27.toNat : Int) = (↑sep.toNat : Int)) = true → (R FT X).f 15 [] = some (boolA true) ∧ true = true) ∧ (decide ((↑c27.toNat : Int) = (↑sep.toNat : Int)) = false → InI64 ((↑j : Int) + 1) ∧ ∃ (j31 : Nat), ((List.map strL texts = List.map strL texts ∧ (↑sep.toNat : Int) = (↑sep.toNat : Int) ∧ k = k ∧ (↑(mstK (lsts texts) i) : Int) = (↑(mstK (lsts texts) i) : Int) ∧ (↑i : Int) = (↑i : Int) ∧ (↑j : Int) + 1 = (↑j31 : Int) ∧ True) ∧ True) ∧ (j31 ≤ List.length (texts.getD i []) ∧ ∀ (y32 : UInt8), y32 ∈ List.take j31 (texts.getD i []) → y32 ≠ sep) ∧ List.length (texts.getD i []) - j31 < List.length (texts.getD i []) - j)) ∧ (decide ((↑j : Int) < (↑(List.length x22) : Int)) = false → List.map strL texts = List.map strL texts ∧ (↑i : Int) = (↑i : Int) ∧ i < texts.length ∧ ∀ (x35 : Bs), texts[i]? = some x35 → (R FT X).f 28 [strL x35] = some (AV.tuple [AV.slice 1 (List.map strL (lins x35)), boolA
 (endB x35)]) ∧ (List.map strL (lins x35)).length = (lins x35).length ∧ (decide ((↑(mstK (lsts texts) i) : Int) < (↑(lins x35).length : Int)) = true → (List.map strL (lins x35)).length = (lins x35).length ∧ InI64 ((↑i : Int) + 1) ∧ ∃ (j38 : Nat), ((List.map strL texts = List.map strL texts ∧ (↑sep.toNat : Int) = (↑sep.toNat : Int) ∧ k = k ∧ (↑(lins x35).length : Int) = (↑(mstK (lsts texts) j38) : Int) ∧ (↑i : Int) + 1 = (↑j38 : Int) ∧ True) ∧ True) ∧ (j38 ≤ texts.length ∧ UndI texts sep j38) ∧ texts.length - j38 < texts.length - i) ∧ (decide ((↑(mstK (lsts texts) i) : Int) < (↑(lins x35).length : Int)) = false → InI64 ((↑i : Int) + 1) ∧ ∃ (j40 : Nat), ((List.map strL texts = List.map strL texts ∧ (↑sep.toNat : Int) = (↑sep.toNat : Int) ∧ k = k ∧ (↑(mstK (lsts texts) i) : Int) = (↑(mstK (lsts texts) j40) : Int) ∧ (↑i : Int) + 1 = (↑j40 : Int) ∧ True) ∧ True) ∧ (j40 ≤ texts.length ∧ UndI texts sep j40) ∧ texts.length - j40 < texts.length - i)))) ∧ (decide ((↑i : Int) < (↑texts.length : Int)) = false → List.map strL texts = List.map strL texts ∧ k = (↑k.toNat : Int) ∧ k.toNat < texts.length ∧ ∀ (x42 : Bs), texts[k.toNat]? = some x42 → (R FT X).f 28
 [strL x42] = some (AV.tuple [AV.slice 1 (List.map strL (lins x42)), boolA (endB x42)]) ∧ (∃ (j44 : Nat), ((List.map strL texts = List.map strL texts ∧ (↑sep.toNat : Int) = (↑sep.toNat : Int) ∧ k = k ∧ (↑(mstK (lsts texts) i) : Int) = (↑(mst (lsts texts)) : Int) ∧ [] = wtK (lins (texts.getD k.toNat [])) j44 ∧ List.map strL (lins x42) = List.map strL (lins (texts.getD k.toNat [])) ∧ (0 : Int) = (↑j44 : Int) ∧ True) ∧ True) ∧ j44 ≤ mst (lsts texts)) ∧ ∀ (j : Nat), j ≤ mst (lsts texts) → (decide ((↑j : Int) < (↑(mst (lsts texts)) : Int)) = true → (List.map strL (lins (texts.getD k.toNat []))).length = (lins (texts.getD k.toNat [])).length ∧ (decide ((↑j : Int) < (↑(lins (texts.getD k.toNat [])).length : Int)) = true → List.map strL (lins (texts.getD k.toNat [])) = List.map strL (lins (texts.getD k.toNat [])) ∧ (↑j : Int) = (↑j : Int) ∧ j < (lins (texts.getD k.toNat [])).length ∧ ∀ (x48 : Bs), (lins (texts.getD k.toNat []))[j]? = some x48 → List.length (wtK (lins (texts.getD k.toNat [])) j) + List.length x48 ≤ 9223372036854775807 ∧ List.length (wtK (lins (texts.getD k.toNat [])) j ++ x48) + [(10 : UInt8)].length ≤ 9223372036854775807 ∧ InI64 ((↑j : Int) + 1)
 ∧ ∃ (j50 : Nat), ((List.map strL texts = List.map strL texts ∧ (↑sep.toNat : Int) = (↑sep.toNat : Int) ∧ k = k ∧ (↑(mst (lsts texts)) : Int) = (↑(mst (lsts texts)) : Int) ∧ wtK (lins (texts.getD k.toNat [])) j ++ x48 ++ [(10 : UInt8)] = wtK (lins (texts.getD k.toNat [])) j50 ∧ List.map strL (lins (texts.getD k.toNat [])) = List.map strL (lins (texts.getD k.toNat [])) ∧ (↑j : Int) + 1 = (↑j50 : Int) ∧ True) ∧ True) ∧ j50 ≤ mst (lsts texts) ∧ mst (lsts texts) - j50 < mst (lsts texts) - j) ∧ (decide ((↑j : Int) < (↑(lins (texts.getD k.toNat [])).length : Int)) = false → List.length (wtK (lins (texts.getD k.toNat [])) j) + [(10 : UInt8)].length ≤ 9223372036854775807 ∧ InI64 ((↑j : Int) + 1) ∧ ∃ (j52 : Nat), ((List.map strL texts = List.map strL texts ∧ (↑sep.toNat : Int) = (↑sep.toNat : Int) ∧ k = k ∧ (↑(mst (lsts texts)) : Int) = (↑(mst (lsts texts)) : Int) ∧ wtK (lins (texts.getD k.toNat [])) j ++ [(10 : UInt8)] = wtK (lins (texts.getD k.toNat [])) j52 ∧ List.map strL (lins (texts.getD k.toNat [])) = List.map strL (lins (texts.getD k.toNat [])) ∧ (↑j : Int) + 1 = (↑j52 : Int) ∧ True) ∧ True) ∧ j52 ≤ mst (lsts texts) ∧ mst (lsts texts) - j52 < mst (lsts
 texts) - j)) ∧ (decide ((↑j : Int) < (↑(mst (lsts texts)) : Int)) = false → (1 : Nat) = 1 ∧ some [UInt8.ofNat (↑sep.toNat : Int).toNat] = some [sep] ∧ (R FT X).f 22 [AV.slice 1 (List.map strL texts), strL [sep], boolA false] = some (strL (pstB texts [sep] false)) ∧ InI64 (k + 1) ∧ InI64 (k + 1) ∧ (1 : Nat) = 1 ∧ List.take (1 : Nat) (List.drop (0 : Nat) [AV.agg [intA (k + 1), intA (k + 1)]]) = List.map encSp [Sp.mk (k + 1) (k + 1)] ∧ (R FT X).f 20 [encSc (Spec.mk (2 : Int) [Sp.mk (k + 1) (k + 1)] sep [] false false), strL (pstB texts [sep] false)] = some (strL (apB (Spec.mk (2 : Int) [Sp.mk (k + 1) (k + 1)] sep [] false false) (pstB texts [sep] false))) ∧ (decide (apB (Spec.mk (2 : Int) [Sp.mk (k + 1) (k + 1)] sep [] false false) (pstB texts [sep] false) = wtK (lins (texts.getD k.toNat [])) j) = true → (R FT X).f 15 [] = some (boolA true) ∧ true = true) ∧ (decide (apB (Spec.mk (2 : Int) [Sp.mk (k + 1) (k + 1)] sep [] false false) (pstB texts [sep] false) = wtK (lins (texts.getD k.toNat [])) j) = false → false = true)))))))))) ?_
 refine ⟨(by simp), fun h1_ => have h1 := dT h1_; ⟨rfl, rfl, rfl, rfl, (aw), rfl⟩, fun h2_ => have h2 := dF h2_; ⟨(by simp), fun h3_ => have h3 := dT h3_; ⟨rfl, rfl, rfl, (aw), rfl⟩, fun h4_ => have h4 := dF h4_; ⟨fun h5_ => have h5 := dT h5_; ⟨rfl, rfl, (aw), rfl⟩, fun h6_ => have h6 := dF h6_; ⟨(by simp), fun h7_ => have h7 := dT h7_; ⟨rfl, (aw), rfl⟩, fun h8_ => have h8 := dF h8_; ⟨fun h9_ => have h9 := dT h9_; ⟨(aw), rfl⟩, fun h10_ => have h10 := dF h10_; ⟨⟨(0 : Nat), ⟨⟨rfl, rfl, rfl, rfl, (by omega), trivial⟩, trivial⟩, ⟨(by omega), ?_⟩⟩, fun i => fun h12 => have h12a := h12.1; have h12b := h12.2; ⟨(by simp), fun h13_ => have h13 := dT h13_; ⟨rfl, rfl, (by omega), fun x14 => fun h15 => ⟨fun h16_ => have h16 := dT h16_; ⟨(aw), rfl⟩, fun h17_ => have h17 := dF h17_; ⟨⟨(0 : Nat), ⟨⟨rfl, rfl, rfl, rfl, rfl, (by omega), trivial⟩, trivial⟩, ⟨(by omega), fun y19 => fun h20 => ?_⟩⟩, fun j => fun h21 => have h21a := h21.1; have h21b := h21.2; ⟨rfl, rfl, (by omega), fun x22 => fun h23 => ⟨fun h24_ => have h24 := dT h24_; ⟨rfl, rfl, (by omega), fun x25 => fun h26 => ⟨rfl, ?_, fun c27 => fun h28 => ⟨fun h29_ => have h29 := dT h29_; ⟨(aw), rfl⟩, fun h30_ => have h30 := dF h30_; ⟨?_, ⟨j + (1 : Nat), ⟨⟨rfl, rfl, rfl, rfl, rfl, (by omega), trivial⟩, trivial⟩, ⟨⟨?_, fun y32 => fun h33 => ?_⟩, ?_⟩⟩⟩⟩⟩⟩, fun h34_ => have h34 := dF h34_; ⟨rfl, rfl, (by omega), fun x35 => fun h36 => ⟨(l2 _ ?_), (by simp), fun h37_ => have h37 := dT h37_; ⟨(by simp), (by unfold InI64; omega), ⟨i + (1 : Nat), ⟨⟨rfl, rfl, rfl, ?_, (by omega), trivial⟩, trivial⟩, ⟨⟨(by omega), ?_⟩, (by omega)⟩⟩⟩, fun h39_ => have h39 := dF h39_; ⟨(by unfold InI64; omega), ⟨i + (1 : Nat), ⟨⟨rfl, rfl, rfl, ?_, (by omega), trivial⟩, trivial⟩, ⟨⟨(by omega), ?_⟩, (by omega)⟩⟩⟩⟩⟩⟩⟩⟩⟩⟩, fun h41_ => have h41 := dF h41_; ⟨rfl, (by omega), (by omega), fun x42 => fun h43 => ⟨(l2 _ ?_), ⟨(0 : Nat), ⟨⟨rfl, rfl, rfl, ?_, rfl, ?_, (by omega), trivial⟩, trivial⟩, (by omega)⟩, fun j => fun h45 => ⟨fun h46_ => have h46 := dT h46_; ⟨(by simp), fun h47_ => have h47 := dT h47_; ⟨rfl, rfl, (by omega), fun x48 => fun h49 => ⟨?_, ?_, ?_, ⟨j + (1 : Nat), ⟨⟨rfl, rfl, rfl, rfl, ?_, rfl, (by omega), trivial⟩, trivial⟩, ⟨(by omega), (by omega)⟩⟩⟩⟩, fun h51_ => have h51 := dF h51_; ⟨?_, ?_, ⟨j + (1 : Nat), ⟨⟨rfl, rfl, rfl, rfl, ?_, rfl, (by omega), trivial⟩, trivial⟩, ⟨(by omega), (by omega)⟩⟩⟩⟩, fun h53_ => have h53 := dF h53_; ⟨rfl, (by simp), (pr _ _ _ ?_), (by unfold InI64; omega), (by unfold InI64; omega), rfl, rfl, (ar _ ?_), fun h54_ => have h54 := dT h54_; ⟨(aw), rfl⟩, fun h55_ => have h55 := dF h55_; ?_⟩⟩⟩⟩⟩⟩⟩⟩⟩⟩⟩
 ·exact ⟨fun t h => by simp at h⟩
 ·simp at h20
 all_goals (try obtain rfl := same_at h15 h23)
 all_goals (try rw [getD_of h15] at *)
 ·obtain rfl := same_at h15 h26; omega
 all_goals (try obtain rfl := same_at h15 h26)
 ·unfold InI64; omega
 ·omega
 ·exact all_of h28 h21b (fun e => h30 (by rw [e])) _ h33
 ·omega
 all_goals (try obtain rfl := same_at h15 h36)
 ·omega
 all_goals (try have hstep : UndI texts sep (i + 1) := ⟨fun t q => (by
  rw [take_succ_get h15] at q
  rcases List.mem_append.1 q with q | q
  ·exact h12b.h t q
  ·rw [List.mem_singleton.1 q]
   rw [List.take_of_length_le (by omega)] at h21b
   exact ⟨by omega, h21b⟩)⟩)
 ·rw [mstK_s (lsts_at h15)]; omega
 ·exact hstep
 ·rw [mstK_s (lsts_at h15)]; omega
 ·exact hstep
 all_goals have hall : ∀ t ∈ texts, t.length ≤ 200 ∧ ∀ y ∈ t, y ≠ sep := fun t q => h12b.h t (by rw [List.take_of_length_le (by omega)]; exact q)
 all_goals have hx42 := hall _ (List.mem_of_getElem? h43)
 ·omega
 ·rw [mstK_all _ (by rw [lsts_len]; omega)]
 all_goals (try rw [getD_of h43] at *)
 all_goals (obtain ⟨hms, hps⟩ := und_bd (c := sep) (by omega) (fun t q => (hall t q).1))
 all_goals (try have hwt := wtK_le (l := lins x42) (b := 200) (fun x q => Nat.le_trans (lens_mem q) (Nat.le_trans (lins_lens x42) hx42.1)) (j + 1))
 ·rw [wtK_y h49] at hwt
  simp only [List.length_append, List.length_singleton] at hwt
  omega
 ·rw [wtK_y h49] at hwt
  simp only [List.length_append, List.length_singleton] at hwt ⊢
  omega
 ·unfold InI64; omega
 ·exact (wtK_y h49).symm
 ·rw [wtK_n h51] at hwt
  simp only [List.length_append, List.length_singleton] at hwt ⊢
  omega
 ·unfold InI64; omega
 ·exact (wtK_n h51).symm
 ·exact ⟨by omega, fun t q => by have := (hall t q).1; omega, by simp; omega⟩
 ·refine ⟨by simp; omega, fun x q => ?_, by omega, by simp; omega⟩
  rw [List.mem_singleton.1 q]
  unfold InI64 at hk
  dsimp only; omega
 ·obtain ⟨n, rfl⟩ : ∃ n : Nat, k = n := ⟨k.toNat, by omega⟩
  rw [show j = mst (lsts texts) by omega] at h55
  refine absurd ?_ h55
  rw [und_eq (fun e => h10 (by rw [e]; rfl)) (by omega) (by omega) (fun t q => (hall t q).2)]
  rw [Int.toNat_natCast] at h43
  rw [getD_of h43]; rfl
end
end Go.Proofs.YtfedemnaeggokaaGreatDoor
end
section
namespace Go.Proofs
open Go.Shelf
def Tryz.lays156_ren : Go.Shelf.Ren := ⟨fun | 156 => 36 | 165 => 60 | 166 => 45 | 169 => 46 | 240 => 64 | 241 => 71 | 276 => 76 | 277 => 91 | n => n, fun | 31 => 37 | 9 => 9 | 3 => 3 | 4 => 4 | 0 => 0 | 20 => 20 | 72 => 71 | 76 => 74 | 70 => 69 | 37 => 44 | 75 => 73 | 127 => 90 | 164 => 99 | 5 => 5 | 80 => 76 | n => n, fun | n => n⟩
theorem Tryz.lays156 : Go.Proofs.Lays.n156 Tryz.prog Tryz.lays156_ren := {
 mixed := by kernel_rfl
 f156 := Tryz.func36.trans (congrArg some (by kernel_rfl))
 f165 := Tryz.func60.trans (congrArg some (by kernel_rfl))
 f166 := Tryz.func45.trans (congrArg some (by kernel_rfl))
 f169 := Tryz.func46.trans (congrArg some (by kernel_rfl))
 f240 := Tryz.func64.trans (congrArg some (by kernel_rfl))
 f241 := Tryz.func71.trans (congrArg some (by kernel_rfl))
 f276 := Tryz.func76.trans (congrArg some (by kernel_rfl))
 f277 := Tryz.func91.trans (congrArg some (by kernel_rfl))
 t0 := Tryz.underlying0
 a0 := Tryz.isAgg0
 z0 := Tryz.sizeOf0
 v0 := Tryz.zeroValue0
 t3 := Tryz.underlying3
 a3 := Tryz.isAgg3
 z3 := Tryz.sizeOf3
 v3 := Tryz.zeroValue3
 t4 := Tryz.underlying4
 a4 := Tryz.isAgg4
 z4 := Tryz.sizeOf4
 v4 := Tryz.zeroValue4
 t9 := Tryz.underlying9
 a9 := Tryz.isAgg9
 z9 := Tryz.sizeOf9
 v9 := Tryz.zeroValue9
 t20 := Tryz.underlying20
 a20 := Tryz.isAgg20
 z20 := Tryz.sizeOf20
 v20 := Tryz.zeroValue20
 t31 := Tryz.underlying37
 a31 := Tryz.isAgg37
 z31 := Tryz.sizeOf37
 v31 := Tryz.zeroValue37
 t37 := Tryz.underlying44
 a37 := Tryz.isAgg44
 z37 := Tryz.sizeOf44
 v37 := Tryz.zeroValue44
 t70 := Tryz.underlying69
 a70 := Tryz.isAgg69
 z70 := Tryz.sizeOf69
 v70 := Tryz.zeroValue69
 t72 := Tryz.underlying71
 a72 := Tryz.isAgg71
 z72 := Tryz.sizeOf71
 v72 := Tryz.zeroValue71
 t75 := Tryz.underlying73
 a75 := Tryz.isAgg73
 z75 := Tryz.sizeOf73
 v75 := Tryz.zeroValue73
 t76 := Tryz.underlying74
 a76 := Tryz.isAgg74
 z76 := Tryz.sizeOf74
 v76 := Tryz.zeroValue74
 t127 := Tryz.underlying90
 a127 := Tryz.isAgg90
 z127 := Tryz.sizeOf90
 v127 := Tryz.zeroValue90
 t164 := Tryz.underlying99
 a164 := Tryz.isAgg99
 z164 := Tryz.sizeOf99
 v164 := Tryz.zeroValue99 }
theorem Tryz.Builder_Extra_156 : Builder.Extra Tryz.prog Tryz.lays156_ren := {
 sizeBuilder := by kernel_rfl
 liesBuilder := by kernel_rfl
 t5 := Tryz.underlying5
 a5 := Tryz.isAgg5
 z5 := Tryz.sizeOf5
 v5 := Tryz.zeroValue5
 infoByte := by kernel_rfl
 cellsByte := by kernel_rfl
 sizeByte := by kernel_rfl
 neB5 := by decide }
open Go.RowKit in
theorem Tryz.strings_Join_none (a : Option Addr) (c : Nat) (sep : ByteArray) (w : World) :
    Calls Tryz.prog 36 #[.slice a 0 c, .string sep] w fun e w' => e = .returned (.string ⟨#[]⟩) ∧ w' = w := Any.strings_Join_none Tryz.lays156 Tryz.Builder_Extra_156 a c sep w
open Go.RowKit in
theorem Tryz.strings_Join (bk o c : Nat) (xs : List ByteArray) (sep : ByteArray) (w : World) (hcells : ∀ (j : Nat) x, xs[j]? = some x → w.cell? ⟨bk, o + j, none⟩ = some (.string x)) (hbk : bk < w.heap.size) (hN : xs.length ≤ 140737488355328) (hcap : xs.length ≤ c) (hlen : (Lib.join (xs.map (·.data.toList)) sep.data.toList).length ≤ 140737488355328) :
    Calls Tryz.prog 36 #[.slice (some ⟨bk, o, none⟩) xs.length c, .string sep] w fun e w' => e = .returned (.string ⟨(Lib.join (xs.map (·.data.toList)) sep.data.toList).toArray⟩) ∧ Below w.heap.size w w' := Any.strings_Join Tryz.lays156 Tryz.Builder_Extra_156 bk o c xs sep w hcells hbk hN hcap hlen
def Tryz.lays137_ren : Go.Shelf.Ren := ⟨fun | 137 => 39 | 217 => 61 | 266 => 72 | n => n, fun | 9 => 9 | 5 => 5 | 3 => 3 | n => n, fun | n => n⟩
theorem Tryz.lays137 : Go.Proofs.Lays.n137 Tryz.prog Tryz.lays137_ren := {
 mixed := by kernel_rfl
 f137 := Tryz.func39.trans (congrArg some (by kernel_rfl))
 f217 := Tryz.func61.trans (congrArg some (by kernel_rfl))
 f266 := Tryz.func72.trans (congrArg some (by kernel_rfl))
 t3 := Tryz.underlying3
 a3 := Tryz.isAgg3
 z3 := Tryz.sizeOf3
 v3 := Tryz.zeroValue3
 t5 := Tryz.underlying5
 a5 := Tryz.isAgg5
 z5 := Tryz.sizeOf5
 v5 := Tryz.zeroValue5
 t9 := Tryz.underlying9
 a9 := Tryz.isAgg9
 z9 := Tryz.sizeOf9
 v9 := Tryz.zeroValue9 }
open Go.RowKit in
theorem Tryz.strings_IndexByte (s : ByteArray) (c : Int) (w : World) :
    Calls Tryz.prog 39 #[.string s, .int .u8 c] w fun e w' => e = .returned (.int .i64 (Lib.indexByte s.data.toList c.toNat.toUInt8)) ∧ w' = w := Any.strings_IndexByte Tryz.lays137 s c w
def Tryz.laysM171_ren : Go.Shelf.Ren := ⟨fun | 171 => 59 | 243 => 70 | 246 => 90 | 283 => 103 | 284 => 104 | 285 => 105 | 286 => 106 | 129 => 88 | 317 => 117 | 318 => 118 | 319 => 119 | 320 => 120 | 337 => 125 | 338 => 126 | n => n, fun | 3 => 3 | 9 => 9 | 2 => 2 | 4 => 4 | 171 => 126 | 0 => 0 | 53 => 113 | 37 => 44 | 5 => 5 | 173 => 128 | 212 => 140 | 51 => 111 | 20 => 20 | 213 => 141 | 46 => 96 | 232 => 158 | 233 => 159 | n => n, fun | 17 => 1 | 18 => 6 | 19 => 7 | n => n⟩
theorem Tryz.laysM171 : Go.Proofs.LaysM.n171 Tryz.prog Tryz.laysM171_ren := {
 mixed := by kernel_rfl
 f129 := Tryz.func88.trans (congrArg some (by kernel_rfl))
 f171 := Tryz.func59.trans (congrArg some (by kernel_rfl))
 f243 := Tryz.func70.trans (congrArg some (by kernel_rfl))
 f246 := Tryz.func90.trans (congrArg some (by kernel_rfl))
 f283 := Tryz.func103.trans (congrArg some (by kernel_rfl))
 f284 := Tryz.func104.trans (congrArg some (by kernel_rfl))
 f285 := Tryz.func105.trans (congrArg some (by kernel_rfl))
 f286 := Tryz.func106.trans (congrArg some (by kernel_rfl))
 f317 := Tryz.func117.trans (congrArg some (by kernel_rfl))
 f318 := Tryz.func118.trans (congrArg some (by kernel_rfl))
 f319 := Tryz.func119.trans (congrArg some (by kernel_rfl))
 f320 := Tryz.func120.trans (congrArg some (by kernel_rfl))
 f337 := Tryz.func125.trans (congrArg some (by kernel_rfl))
 f338 := Tryz.func126.trans (congrArg some (by kernel_rfl))
 t0 := Tryz.underlying0
 a0 := Tryz.isAgg0
 z0 := Tryz.sizeOf0
 v0 := Tryz.zeroValue0
 t2 := Tryz.underlying2
 a2 := Tryz.isAgg2
 z2 := Tryz.sizeOf2
 v2 := Tryz.zeroValue2
 t3 := Tryz.underlying3
 a3 := Tryz.isAgg3
 z3 := Tryz.sizeOf3
 v3 := Tryz.zeroValue3
 t4 := Tryz.underlying4
 a4 := Tryz.isAgg4
 z4 := Tryz.sizeOf4
 v4 := Tryz.zeroValue4
 t5 := Tryz.underlying5
 a5 := Tryz.isAgg5
 z5 := Tryz.sizeOf5
 v5 := Tryz.zeroValue5
 t9 := Tryz.underlying9
 a9 := Tryz.isAgg9
 z9 := Tryz.sizeOf9
 v9 := Tryz.zeroValue9
 t20 := Tryz.underlying20
 a20 := Tryz.isAgg20
 z20 := Tryz.sizeOf20
 v20 := Tryz.zeroValue20
 t37 := Tryz.underlying44
 a37 := Tryz.isAgg44
 z37 := Tryz.sizeOf44
 v37 := Tryz.zeroValue44
 t46 := Tryz.underlying96
 a46 := Tryz.isAgg96
 z46 := Tryz.sizeOf96
 v46 := Tryz.zeroValue96
 t51 := Tryz.underlying111
 a51 := Tryz.isAgg111
 z51 := Tryz.sizeOf111
 v51 := Tryz.zeroValue111
 t53 := Tryz.underlying113
 a53 := Tryz.isAgg113
 z53 := Tryz.sizeOf113
 v53 := Tryz.zeroValue113
 t171 := Tryz.underlying126
 a171 := Tryz.isAgg126
 z171 := Tryz.sizeOf126
 v171 := Tryz.zeroValue126
 t173 := Tryz.underlying128
 a173 := Tryz.isAgg128
 z173 := Tryz.sizeOf128
 v173 := Tryz.zeroValue128
 t212 := Tryz.underlying140
 a212 := Tryz.isAgg140
 z212 := Tryz.sizeOf140
 v212 := Tryz.zeroValue140
 t213 := Tryz.underlying141
 a213 := Tryz.isAgg141
 z213 := Tryz.sizeOf141
 t232 := Tryz.underlying158
 a232 := Tryz.isAgg158
 z232 := Tryz.sizeOf158
 v232 := Tryz.zeroValue158
 t233 := Tryz.underlying159
 a233 := Tryz.isAgg159
 z233 := Tryz.sizeOf159
 v233 := Tryz.zeroValue159
 g17 := by kernel_rfl
 g18 := by kernel_rfl
 g19 := by kernel_rfl
 i0 := by kernel_rfl
 i2 := by kernel_rfl
 i3 := by kernel_rfl
 i4 := by kernel_rfl
 i5 := by kernel_rfl
 i9 := by kernel_rfl
 i20 := by kernel_rfl
 i37 := by kernel_rfl
 i46 := by kernel_rfl
 i51 := by kernel_rfl
 i53 := by kernel_rfl
 i171 := by kernel_rfl
 i173 := by kernel_rfl
 i212 := by kernel_rfl
 i232 := by kernel_rfl
 i233 := by kernel_rfl
 m17 := by kernel_rfl
 m18 := by kernel_rfl
 m19 := by kernel_rfl }
open Go.RowKit Go.Sort Go.Lib in
theorem Tryz.strconv_Itoa (n : Int) (h0 : -9223372036854775808 ≤ n) (h1 : n ≤ 9223372036854775807) (w : World) (htab : Lib.TabIs Tryz.prog w "internal/strconv.uint64pow10" .u64 Lib.pow10Tab) :
    Calls Tryz.prog 59 #[.int .i64 n] w fun e w' => e = .returned (.string ⟨(Lib.itoa n).toArray⟩) ∧ ∃ k os, w' = grow (w.drewN k) os := Any.strconv_Itoa Tryz.laysM171 n h0 h1 w htab
def Tryz.laysC172_ren : Go.Shelf.Ren := ⟨fun | 172 => 78 | 244 => 96 | 245 => 97 | 247 => 111 | 279 => 112 | 280 => 113 | 281 => 114 | 282 => 115 | 287 => 122 | 316 => 123 | 171 => 59 | 205 => 124 | 321 => 127 | 322 => 128 | 243 => 70 | 246 => 90 | 283 => 103 | 284 => 104 | 285 => 105 | 286 => 106 | 129 => 88 | 317 => 117 | 318 => 118 | 319 => 119 | 320 => 120 | 337 => 125 | 338 => 126 | n => n, fun | 9 => 9 | 3 => 3 | 75 => 73 | 76 => 74 | 4 => 4 | 5 => 5 | 167 => 130 | 37 => 44 | 0 => 0 | 85 => 131 | 2 => 2 | 168 => 133 | 53 => 113 | 175 => 148 | 46 => 96 | 210 => 152 | 127 => 90 | 145 => 157 | 143 => 155 | 21 => 21 | 171 => 126 | 173 => 128 | 212 => 140 | 51 => 111 | 20 => 20 | 213 => 141 | 232 => 158 | 233 => 159 | 80 => 76 | n => n, fun | 15 => 4 | 16 => 5 | 17 => 1 | 18 => 6 | 19 => 7 | n => n⟩
theorem Tryz.laysC172 : Go.Proofs.LaysC.n172 Tryz.prog Tryz.laysC172_ren := {
 mixed := by kernel_rfl
 f129 := Tryz.func88.trans (congrArg some (by kernel_rfl))
 f171 := Tryz.func59.trans (congrArg some (by kernel_rfl))
 f172 := Tryz.func78.trans (congrArg some (by kernel_rfl))
 f205 := Tryz.func124.trans (congrArg some (by kernel_rfl))
 f243 := Tryz.func70.trans (congrArg some (by kernel_rfl))
 f244 := Tryz.func96.trans (congrArg some (by kernel_rfl))
 f245 := Tryz.func97.trans (congrArg some (by kernel_rfl))
 f246 := Tryz.func90.trans (congrArg some (by kernel_rfl))
 f247 := Tryz.func111.trans (congrArg some (by kernel_rfl))
 f279 := Tryz.func112.trans (congrArg some (by kernel_rfl))
 f280 := Tryz.func113.trans (congrArg some (by kernel_rfl))
 f281 := Tryz.func114.trans (congrArg some (by kernel_rfl))
 f282 := Tryz.func115.trans (congrArg some (by kernel_rfl))
 f283 := Tryz.func103.trans (congrArg some (by kernel_rfl))
 f284 := Tryz.func104.trans (congrArg some (by kernel_rfl))
 f285 := Tryz.func105.trans (congrArg some (by kernel_rfl))
 f286 := Tryz.func106.trans (congrArg some (by kernel_rfl))
 f287 := Tryz.func122.trans (congrArg some (by kernel_rfl))
 f316 := Tryz.func123.trans (congrArg some (by kernel_rfl))
 f317 := Tryz.func117.trans (congrArg some (by kernel_rfl))
 f318 := Tryz.func118.trans (congrArg some (by kernel_rfl))
 f319 := Tryz.func119.trans (congrArg some (by kernel_rfl))
 f320 := Tryz.func120.trans (congrArg some (by kernel_rfl))
 f321 := Tryz.func127.trans (congrArg some (by kernel_rfl))
 f322 := Tryz.func128.trans (congrArg some (by kernel_rfl))
 f337 := Tryz.func125.trans (congrArg some (by kernel_rfl))
 f338 := Tryz.func126.trans (congrArg some (by kernel_rfl))
 t0 := Tryz.underlying0
 a0 := Tryz.isAgg0
 z0 := Tryz.sizeOf0
 v0 := Tryz.zeroValue0
 t2 := Tryz.underlying2
 a2 := Tryz.isAgg2
 z2 := Tryz.sizeOf2
 v2 := Tryz.zeroValue2
 t3 := Tryz.underlying3
 a3 := Tryz.isAgg3
 z3 := Tryz.sizeOf3
 v3 := Tryz.zeroValue3
 t4 := Tryz.underlying4
 a4 := Tryz.isAgg4
 z4 := Tryz.sizeOf4
 v4 := Tryz.zeroValue4
 t5 := Tryz.underlying5
 a5 := Tryz.isAgg5
 z5 := Tryz.sizeOf5
 v5 := Tryz.zeroValue5
 t9 := Tryz.underlying9
 a9 := Tryz.isAgg9
 z9 := Tryz.sizeOf9
 v9 := Tryz.zeroValue9
 t20 := Tryz.underlying20
 a20 := Tryz.isAgg20
 z20 := Tryz.sizeOf20
 v20 := Tryz.zeroValue20
 t21 := Tryz.underlying21
 a21 := Tryz.isAgg21
 z21 := Tryz.sizeOf21
 v21 := Tryz.zeroValue21
 t37 := Tryz.underlying44
 a37 := Tryz.isAgg44
 z37 := Tryz.sizeOf44
 v37 := Tryz.zeroValue44
 t46 := Tryz.underlying96
 a46 := Tryz.isAgg96
 z46 := Tryz.sizeOf96
 v46 := Tryz.zeroValue96
 t51 := Tryz.underlying111
 a51 := Tryz.isAgg111
 z51 := Tryz.sizeOf111
 v51 := Tryz.zeroValue111
 t53 := Tryz.underlying113
 a53 := Tryz.isAgg113
 z53 := Tryz.sizeOf113
 v53 := Tryz.zeroValue113
 t75 := Tryz.underlying73
 a75 := Tryz.isAgg73
 z75 := Tryz.sizeOf73
 v75 := Tryz.zeroValue73
 t76 := Tryz.underlying74
 a76 := Tryz.isAgg74
 z76 := Tryz.sizeOf74
 v76 := Tryz.zeroValue74
 t85 := Tryz.underlying131
 a85 := Tryz.isAgg131
 z85 := Tryz.sizeOf131
 v85 := Tryz.zeroValue131
 t127 := Tryz.underlying90
 a127 := Tryz.isAgg90
 z127 := Tryz.sizeOf90
 v127 := Tryz.zeroValue90
 t143 := Tryz.underlying155
 a143 := Tryz.isAgg155
 z143 := Tryz.sizeOf155
 v143 := Tryz.zeroValue155
 t145 := Tryz.underlying157
 a145 := Tryz.isAgg157
 z145 := Tryz.sizeOf157
 v145 := Tryz.zeroValue157
 t167 := Tryz.underlying130
 a167 := Tryz.isAgg130
 z167 := Tryz.sizeOf130
 v167 := Tryz.zeroValue130
 t168 := Tryz.underlying133
 a168 := Tryz.isAgg133
 z168 := Tryz.sizeOf133
 v168 := Tryz.zeroValue133
 t171 := Tryz.underlying126
 a171 := Tryz.isAgg126
 z171 := Tryz.sizeOf126
 v171 := Tryz.zeroValue126
 t173 := Tryz.underlying128
 a173 := Tryz.isAgg128
 z173 := Tryz.sizeOf128
 v173 := Tryz.zeroValue128
 t175 := Tryz.underlying148
 a175 := Tryz.isAgg148
 z175 := Tryz.sizeOf148
 v175 := Tryz.zeroValue148
 t210 := Tryz.underlying152
 a210 := Tryz.isAgg152
 z210 := Tryz.sizeOf152
 v210 := Tryz.zeroValue152
 t212 := Tryz.underlying140
 a212 := Tryz.isAgg140
 z212 := Tryz.sizeOf140
 v212 := Tryz.zeroValue140
 t213 := Tryz.underlying141
 a213 := Tryz.isAgg141
 z213 := Tryz.sizeOf141
 t232 := Tryz.underlying158
 a232 := Tryz.isAgg158
 z232 := Tryz.sizeOf158
 v232 := Tryz.zeroValue158
 t233 := Tryz.underlying159
 a233 := Tryz.isAgg159
 z233 := Tryz.sizeOf159
 v233 := Tryz.zeroValue159
 g15 := by kernel_rfl
 g16 := by kernel_rfl
 g17 := by kernel_rfl
 g18 := by kernel_rfl
 g19 := by kernel_rfl
 t80 := Tryz.underlying76
 a80 := Tryz.isAgg76
 z80 := Tryz.sizeOf76
 v80 := Tryz.zeroValue76
 i0 := by kernel_rfl
 i2 := by kernel_rfl
 i3 := by kernel_rfl
 i4 := by kernel_rfl
 i5 := by kernel_rfl
 i9 := by kernel_rfl
 i20 := by kernel_rfl
 i21 := by kernel_rfl
 i37 := by kernel_rfl
 i46 := by kernel_rfl
 i51 := by kernel_rfl
 i53 := by kernel_rfl
 i75 := by kernel_rfl
 i76 := by kernel_rfl
 i80 := by kernel_rfl
 i85 := by kernel_rfl
 i127 := by kernel_rfl
 i143 := by kernel_rfl
 i145 := by kernel_rfl
 i167 := by kernel_rfl
 i168 := by kernel_rfl
 i171 := by kernel_rfl
 i173 := by kernel_rfl
 i175 := by kernel_rfl
 i210 := by kernel_rfl
 i212 := by kernel_rfl
 i232 := by kernel_rfl
 i233 := by kernel_rfl
 m15 := by kernel_rfl
 m16 := by kernel_rfl
 m17 := by kernel_rfl
 m18 := by kernel_rfl
 m19 := by kernel_rfl
 c0 := by kernel_rfl
 c2 := by kernel_rfl
 c3 := by kernel_rfl
 c4 := by kernel_rfl
 c5 := by kernel_rfl
 c9 := by kernel_rfl
 c20 := by kernel_rfl
 c21 := by kernel_rfl
 c37 := by kernel_rfl
 c46 := by kernel_rfl
 c51 := by kernel_rfl
 c53 := by kernel_rfl
 c75 := by kernel_rfl
 c76 := by kernel_rfl
 c80 := by kernel_rfl
 c85 := by kernel_rfl
 c127 := by kernel_rfl
 c143 := by kernel_rfl
 c145 := by kernel_rfl
 c167 := by kernel_rfl
 c168 := by kernel_rfl
 c171 := by kernel_rfl
 c173 := by kernel_rfl
 c175 := by kernel_rfl
 c210 := by kernel_rfl
 c212 := by kernel_rfl
 c213 := by kernel_rfl
 c232 := by kernel_rfl
 c233 := by kernel_rfl }
open Go.RowKit in
theorem Tryz.strconv_Atoi_ok (s : ByteArray) (hmax : s.size ≤ 9223372036854775806) (v : Int) (h : Lib.atoiAll s.data.toList = .ok v) (w : World) :
    Calls Tryz.prog 78 #[.string s] w fun e w' => e = .returned (.tuple #[.int .i64 v, .nilIface]) ∧ (w' = w ∨ ∃ t, w' = Lib.bytesWorld w 5 t) := Any.strconv_Atoi_ok Tryz.laysC172 s hmax v h w
open Go.RowKit in
theorem Tryz.strconv_Atoi_syntax (s : ByteArray) (hlim : s.size ≤ 281474976710656) (h : Lib.atoiAll s.data.toList = Go.Lib.NumEnd.syntax) (ev : Value) (w : World) (hv : w.cell? ⟨4, 0, none⟩ = some ev) (hev : ev = .nilIface ∨ ∃ te pe, ev = .iface te pe) :
    Calls Tryz.prog 78 #[.string s] w fun e w' => ∃ N, e = .returned (.tuple #[.int .i64 (0), .iface 133 (.pointer (some ⟨N, 0, none⟩))]) ∧ w.heap.size ≤ N ∧ w'.heap[N]? = some (.cells #[.string ⟨#[65, 116, 111, 105]⟩, .string s, ev] 152 (0, 0)) ∧ Below w.heap.size w w' := Any.strconv_Atoi_syntax Tryz.laysC172 s hlim h ev w hv hev
open Go.RowKit in
theorem Tryz.strconv_Atoi_range (s : ByteArray) (hlim : s.size ≤ 281474976710656) (h : Lib.atoiAll s.data.toList = .range) (ev : Value) (w : World) (hv : w.cell? ⟨5, 0, none⟩ = some ev) (hev : ev = .nilIface ∨ ∃ te pe, ev = .iface te pe) :
    Calls Tryz.prog 78 #[.string s] w fun e w' => ∃ N, e = .returned (.tuple #[.int .i64 (Lib.atoiSat s.data.toList), .iface 133 (.pointer (some ⟨N, 0, none⟩))]) ∧ w.heap.size ≤ N ∧ w'.heap[N]? = some (.cells #[.string ⟨#[65, 116, 111, 105]⟩, .string s, ev] 152 (0, 0)) ∧ Below w.heap.size w w' := Any.strconv_Atoi_range Tryz.laysC172 s hlim h ev w hv hev
def Tryz.lays143_ren : Go.Shelf.Ren := ⟨fun | 143 => 75 | 219 => 95 | 217 => 61 | 225 => 108 | 224 => 109 | 267 => 110 | 266 => 72 | 314 => 121 | n => n, fun | 9 => 9 | 3 => 3 | 4 => 4 | 5 => 5 | 46 => 96 | 146 => 146 | 51 => 111 | n => n, fun | 1 => 0 | n => n⟩
theorem Tryz.lays143 : Go.Proofs.Lays.n143 Tryz.prog Tryz.lays143_ren := {
 mixed := by kernel_rfl
 f143 := Tryz.func75.trans (congrArg some (by kernel_rfl))
 f217 := Tryz.func61.trans (congrArg some (by kernel_rfl))
 f219 := Tryz.func95.trans (congrArg some (by kernel_rfl))
 f224 := Tryz.func109.trans (congrArg some (by kernel_rfl))
 f225 := Tryz.func108.trans (congrArg some (by kernel_rfl))
 f266 := Tryz.func72.trans (congrArg some (by kernel_rfl))
 f267 := Tryz.func110.trans (congrArg some (by kernel_rfl))
 f314 := Tryz.func121.trans (congrArg some (by kernel_rfl))
 t3 := Tryz.underlying3
 a3 := Tryz.isAgg3
 z3 := Tryz.sizeOf3
 v3 := Tryz.zeroValue3
 t4 := Tryz.underlying4
 a4 := Tryz.isAgg4
 z4 := Tryz.sizeOf4
 v4 := Tryz.zeroValue4
 t5 := Tryz.underlying5
 a5 := Tryz.isAgg5
 z5 := Tryz.sizeOf5
 v5 := Tryz.zeroValue5
 t9 := Tryz.underlying9
 a9 := Tryz.isAgg9
 z9 := Tryz.sizeOf9
 v9 := Tryz.zeroValue9
 t46 := Tryz.underlying96
 a46 := Tryz.isAgg96
 z46 := Tryz.sizeOf96
 v46 := Tryz.zeroValue96
 t51 := Tryz.underlying111
 a51 := Tryz.isAgg111
 z51 := Tryz.sizeOf111
 v51 := Tryz.zeroValue111
 t146 := Tryz.underlying146
 a146 := Tryz.isAgg146
 z146 := Tryz.sizeOf146
 v146 := Tryz.zeroValue146
 g1 := by kernel_rfl }
open Go.RowKit Go.Lib in
theorem Tryz.strings_Index_one (s : ByteArray) (c : UInt8) (w : World) :
    Calls Tryz.prog 75 #[.string s, .string ⟨#[c]⟩] w fun e w' => e = .returned (.int .i64 (Lib.indexByte s.data.toList c)) ∧ w' = w := Any.strings_Index_one Tryz.lays143 s c w
def Tryz.lays138_ren : Go.Shelf.Ren := ⟨fun | 138 => 74 | 195 => 92 | 218 => 94 | 143 => 75 | 219 => 95 | 217 => 61 | 225 => 108 | 224 => 109 | 267 => 110 | 266 => 72 | 314 => 121 | n => n, fun | 9 => 9 | 3 => 3 | 4 => 4 | 5 => 5 | 0 => 0 | 46 => 96 | 146 => 146 | 51 => 111 | n => n, fun | 1 => 0 | n => n⟩
theorem Tryz.lays138 : Go.Proofs.Lays.n138 Tryz.prog Tryz.lays138_ren := {
 mixed := by kernel_rfl
 f138 := Tryz.func74.trans (congrArg some (by kernel_rfl))
 f143 := Tryz.func75.trans (congrArg some (by kernel_rfl))
 f195 := Tryz.func92.trans (congrArg some (by kernel_rfl))
 f217 := Tryz.func61.trans (congrArg some (by kernel_rfl))
 f218 := Tryz.func94.trans (congrArg some (by kernel_rfl))
 f219 := Tryz.func95.trans (congrArg some (by kernel_rfl))
 f224 := Tryz.func109.trans (congrArg some (by kernel_rfl))
 f225 := Tryz.func108.trans (congrArg some (by kernel_rfl))
 f266 := Tryz.func72.trans (congrArg some (by kernel_rfl))
 f267 := Tryz.func110.trans (congrArg some (by kernel_rfl))
 f314 := Tryz.func121.trans (congrArg some (by kernel_rfl))
 t0 := Tryz.underlying0
 a0 := Tryz.isAgg0
 z0 := Tryz.sizeOf0
 v0 := Tryz.zeroValue0
 t3 := Tryz.underlying3
 a3 := Tryz.isAgg3
 z3 := Tryz.sizeOf3
 v3 := Tryz.zeroValue3
 t4 := Tryz.underlying4
 a4 := Tryz.isAgg4
 z4 := Tryz.sizeOf4
 v4 := Tryz.zeroValue4
 t5 := Tryz.underlying5
 a5 := Tryz.isAgg5
 z5 := Tryz.sizeOf5
 v5 := Tryz.zeroValue5
 t9 := Tryz.underlying9
 a9 := Tryz.isAgg9
 z9 := Tryz.sizeOf9
 v9 := Tryz.zeroValue9
 t46 := Tryz.underlying96
 a46 := Tryz.isAgg96
 z46 := Tryz.sizeOf96
 v46 := Tryz.zeroValue96
 t51 := Tryz.underlying111
 a51 := Tryz.isAgg111
 z51 := Tryz.sizeOf111
 v51 := Tryz.zeroValue111
 t146 := Tryz.underlying146
 a146 := Tryz.isAgg146
 z146 := Tryz.sizeOf146
 v146 := Tryz.zeroValue146
 g1 := by kernel_rfl }
open Go.RowKit Go.Lib in
theorem Tryz.strings_Count_one (s : ByteArray) (c : UInt8) (w : World) :
    Calls Tryz.prog 74 #[.string s, .string ⟨#[c]⟩] w fun e w' => e = .returned (.int .i64 (Lib.countByte s.data.toList c)) ∧ w' = w := Any.strings_Count_one Tryz.lays138 s c w
def Tryz.sortSp_ren : Go.Shelf.Ren := ⟨fun | 6 => 54 | 15 => 68 | 14 => 67 | 28 => 87 | 29 => 88 | 20 => 79 | 21 => 80 | 22 => 81 | 23 => 82 | 24 => 83 | 25 => 84 | 26 => 85 | 27 => 86 | 46 => 98 | 47 => 99 | 48 => 100 | 49 => 101 | 50 => 102 | 57 => 116 | n => n, fun | 22 => 22 | 24 => 50 | 25 => 82 | 3 => 3 | 39 => 96 | 0 => 0 | 53 => 111 | 55 => 113 | 4 => 4 | 46 => 104 | 45 => 103 | 50 => 108 | 5 => 5 | 9 => 9 | 66 => 120 | 70 => 124 | 76 => 136 | 77 => 137 | n => n, fun | n => n⟩
theorem Tryz.sortSp : Go.Proofs.SlLaysF0.n6 Tryz.prog Tryz.sortSp_ren := {
 mixed := by kernel_rfl
 f6 := ⟨Tryz.f54.name, by decide, Tryz.func54.trans (congrArg some (by kernel_rfl))⟩
 f14 := ⟨Tryz.f67.name, by decide, Tryz.func67.trans (congrArg some (by kernel_rfl))⟩
 f15 := Tryz.func68.trans (congrArg some (by kernel_rfl))
 f20 := ⟨Tryz.f79.name, by decide, Tryz.func79.trans (congrArg some (by kernel_rfl))⟩
 f21 := ⟨Tryz.f80.name, by decide, Tryz.func80.trans (congrArg some (by kernel_rfl))⟩
 f22 := ⟨Tryz.f81.name, by decide, Tryz.func81.trans (congrArg some (by kernel_rfl))⟩
 f23 := ⟨Tryz.f82.name, by decide, Tryz.func82.trans (congrArg some (by kernel_rfl))⟩
 f24 := ⟨Tryz.f83.name, by decide, Tryz.func83.trans (congrArg some (by kernel_rfl))⟩
 f25 := ⟨Tryz.f84.name, by decide, Tryz.func84.trans (congrArg some (by kernel_rfl))⟩
 f26 := ⟨Tryz.f85.name, by decide, Tryz.func85.trans (congrArg some (by kernel_rfl))⟩
 f27 := ⟨Tryz.f86.name, by decide, Tryz.func86.trans (congrArg some (by kernel_rfl))⟩
 f28 := Tryz.func87.trans (congrArg some (by kernel_rfl))
 f29 := Tryz.func88.trans (congrArg some (by kernel_rfl))
 f46 := ⟨Tryz.f98.name, by decide, Tryz.func98.trans (congrArg some (by kernel_rfl))⟩
 f47 := Tryz.func99.trans (congrArg some (by kernel_rfl))
 f48 := Tryz.func100.trans (congrArg some (by kernel_rfl))
 f49 := ⟨Tryz.f101.name, by decide, Tryz.func101.trans (congrArg some (by kernel_rfl))⟩
 f50 := ⟨Tryz.f102.name, by decide, Tryz.func102.trans (congrArg some (by kernel_rfl))⟩
 f57 := ⟨Tryz.f116.name, by decide, Tryz.func116.trans (congrArg some (by kernel_rfl))⟩
 t0 := Tryz.underlying0
 a0 := Tryz.isAgg0
 z0 := Tryz.sizeOf0
 v0 := Tryz.zeroValue0
 t3 := Tryz.underlying3
 a3 := Tryz.isAgg3
 z3 := Tryz.sizeOf3
 v3 := Tryz.zeroValue3
 t4 := Tryz.underlying4
 a4 := Tryz.isAgg4
 z4 := Tryz.sizeOf4
 v4 := Tryz.zeroValue4
 t5 := Tryz.underlying5
 a5 := Tryz.isAgg5
 z5 := Tryz.sizeOf5
 v5 := Tryz.zeroValue5
 t9 := Tryz.underlying9
 a9 := Tryz.isAgg9
 z9 := Tryz.sizeOf9
 v9 := Tryz.zeroValue9
 t22 := Tryz.underlying22
 a22 := Tryz.isAgg22
 z22 := Tryz.sizeOf22
 v22 := Tryz.zeroValue22
 t25 := Tryz.underlying82
 a25 := Tryz.isAgg82
 z25 := Tryz.sizeOf82
 v25 := Tryz.zeroValue82
 t39 := Tryz.underlying96
 a39 := Tryz.isAgg96
 z39 := Tryz.sizeOf96
 v39 := Tryz.zeroValue96
 t45 := Tryz.underlying103
 a45 := Tryz.isAgg103
 z45 := Tryz.sizeOf103
 v45 := Tryz.zeroValue103
 t46 := Tryz.underlying104
 a46 := Tryz.isAgg104
 z46 := Tryz.sizeOf104
 v46 := Tryz.zeroValue104
 t50 := Tryz.underlying108
 a50 := Tryz.isAgg108
 z50 := Tryz.sizeOf108
 v50 := Tryz.zeroValue108
 t53 := Tryz.underlying111
 a53 := Tryz.isAgg111
 z53 := Tryz.sizeOf111
 v53 := Tryz.zeroValue111
 t55 := Tryz.underlying113
 a55 := Tryz.isAgg113
 z55 := Tryz.sizeOf113
 v55 := Tryz.zeroValue113
 t66 := Tryz.underlying120
 a66 := Tryz.isAgg120
 z66 := Tryz.sizeOf120
 v66 := Tryz.zeroValue120
 t70 := Tryz.underlying124
 a70 := Tryz.isAgg124
 z70 := Tryz.sizeOf124
 v70 := Tryz.zeroValue124
 t76 := Tryz.underlying136
 a76 := Tryz.isAgg136
 z76 := Tryz.sizeOf136
 v76 := Tryz.zeroValue136
 t77 := Tryz.underlying137
 a77 := Tryz.isAgg137
 z77 := Tryz.sizeOf137
 v77 := Tryz.zeroValue137 }
end Go.Proofs
end
section
namespace Go.Proofs.YtfedemnaeggokaaGreatDoor
set_option linter.unusedVariables false
set_option linter.unusedSimpArgs false
set_option maxRecDepth 100000
open Go.RowKit Go.Sort
structure VSp where
 f : Int
 t : Int
 h : 1 ≤ f ∧ f ≤ 9223372036854775807
instance : Inhabited VSp := ⟨⟨1, 0, by decide⟩⟩
def encV (x : VSp) : List Value := [.int .i64 x.f, .int .i64 x.t]
def cmpV (x y : VSp) : Int := if x.f < y.f then -1 else min 1 (x.f - y.f)
set_option maxHeartbeats 2000000 in
theorem cmpV_walk (x y : VSp) (W : World) : Calls Tryz.prog 55 #[.agg #[.int .i64 x.f, .int .i64 x.t], .agg #[.int .i64 y.f, .int .i64 y.t]] W fun e w' => e = .returned (.int .i64 (cmpV x y)) ∧ ∃ q os', w' = grow (W.drewN q) os' := by
 obtain ⟨xf, xt, hx⟩ := x
 obtain ⟨yf, yt, hy⟩ := y
 dsimp only
 by_cases h : xf < yf
 ·have e : cmpV ⟨xf, xt, hx⟩ ⟨yf, yt, hy⟩ = -1 := if_pos h
  rw [e]
  clear e
  go_enter Tryz.func55, Tryz.ntmps55
  go_wp2
  go_ret
  exact ⟨rfl, 0, _, by rw [alloc_eq_grow, alloc_eq_grow, grow_grow]; rfl⟩
 ·have e : cmpV ⟨xf, xt, hx⟩ ⟨yf, yt, hy⟩ = min 1 (xf - yf) := if_neg h
  rw [e]
  clear e
  go_enter Tryz.func55, Tryz.ntmps55
  go_wp2
  go_ret
  exact ⟨rfl, 0, _, by rw [alloc_eq_grow, alloc_eq_grow, grow_grow]; rfl⟩
theorem ltV (x y : VSp) : ltOf cmpV x y = decide (x.f < y.f) := by
 unfold ltOf cmpV
 congr 1
 refine propext ?_
 split <;> omega
theorem swoV : SWO (ltOf cmpV) := {
 irrefl := fun x => by rw [ltV]; simp
 trans := fun x y z h1 h2 => by rw [ltV] at *; simp at *; omega
 ntrans := fun x y z h1 h2 => by rw [ltV] at *; simp at *; omega }
def srtV (l : List VSp) : List VSp := (pdq (ltOf cmpV) l.toArray 0 l.toArray.size (Lib.bitLen l.toArray.size) true true).toList
theorem srtV_ok (l : List VSp) : (srtV l).Perm l ∧ ∀ (i j : Nat) (x y : VSp), i ≤ j → (srtV l)[i]? = some x → (srtV l)[j]? = some y → x.f ≤ y.f := by
 obtain ⟨⟨h1, h2, h3⟩, h4⟩ := pdq_sorts (ltOf cmpV) swoV l.toArray 0 l.toArray.size (Lib.bitLen l.toArray.size) true true (Nat.zero_le _) (Nat.le_refl _) (Or.inl rfl)
 have e : (pdq (ltOf cmpV) l.toArray 0 l.toArray.size (Lib.bitLen l.toArray.size) true true) = (srtV l).toArray := rfl
 rw [e] at h1 h3 h4
 constructor
 ·rw [← h1] at h3
  rw [Array.extract_size] at h3
  rw [h1, Array.extract_size] at h3
  exact h3
 ·intro i j x y hij hx hy
  by_cases q : i = j
  ·subst q; rw [hx] at hy; rw [Option.some.inj hy]; exact Int.le_refl _
  ·have hl : (srtV l).length = l.length := by simpa using h1
   have hj := (List.getElem?_eq_some_iff.1 hy).1
   have := h4 i j (Nat.zero_le _) (by omega) (by simp; omega)
   have gx : (srtV l).toArray[i]! = x := by rw [getElem!_def]; simp [hx]
   have gy : (srtV l).toArray[j]! = y := by rw [getElem!_def]; simp [hy]
   rw [gx, gy, ltV] at this
   have := of_decide_eq_false this
   omega
def encVA (x : VSp) : AV := .agg [intA x.f, intA x.t]
def spV : AV → Option VSp
 | .agg [.val (.int .i64 a), .val (.int .i64 b)] => if h : 1 ≤ a ∧ a ≤ 9223372036854775807 then some ⟨a, b, h⟩ else none
 | _ => none
def spsV : List AV → Option (List VSp)
 | [] => some []
 | x :: l => (spV x).bind fun v => (spsV l).map (v :: ·)
theorem spsV_eq : ∀ {l : List AV} {vl : List VSp}, spsV l = some vl → l = vl.map encVA
 | [], vl, h => by simp [spsV] at h; subst h; rfl
 | x :: l, vl, h => by
  simp only [spsV, Option.bind_eq_some_iff, Option.map_eq_some_iff] at h
  obtain ⟨v, h1, r, h2, rfl⟩ := h
  rw [spsV_eq h2, List.map_cons]
  congr 1
  unfold spV at h1
  split at h1
  ·split at h1
   ·cases h1; rfl
   ·cases h1
  ·cases h1
def toV : List Sp → Option (List VSp)
 | [] => some []
 | x :: l => if h : 1 ≤ x.f ∧ x.f ≤ 9223372036854775807 then (toV l).map (⟨x.f, x.t, h⟩ :: ·) else none
def ofV (x : VSp) : Sp := ⟨x.f, x.t⟩
theorem toV_ok : ∀ {l : List Sp}, (∀ x ∈ l, SpOk x) → ∃ vl, toV l = some vl ∧ vl.map ofV = l ∧ spsV (l.map encSp) = some vl
 | [], _ => ⟨[], rfl, rfl, rfl⟩
 | x :: l, h => by
  obtain ⟨vl, h1, h2, h3⟩ := toV_ok fun y hy => h y (List.mem_cons_of_mem _ hy)
  have hx := h x List.mem_cons_self
  refine ⟨⟨x.f, x.t, ⟨hx.lo, hx.hi⟩⟩ :: vl, ?_, ?_, ?_⟩
  ·rw [toV, dif_pos ⟨hx.lo, hx.hi⟩, h1]; rfl
  ·rw [List.map_cons, h2]; rfl
  ·rw [List.map_cons, spsV, h3]
   show (spV (.agg [intA x.f, intA x.t])).bind _ = _
   simp only [spV, intA]
   rw [dif_pos ⟨hx.lo, hx.hi⟩]; rfl
def srt (l : List Sp) : List Sp := match toV l with
 | some vl => (srtV vl).map ofV
 | none => l
theorem srt_ok : SrtOk srt := {
 len := fun l => by
  unfold srt
  cases h : toV l with
  | none => rfl
  | some vl =>
   have : ∀ (l : List Sp) (vl : List VSp), toV l = some vl → vl.length = l.length := by
    intro l
    induction l with
    | nil => intro vl h; simp [toV] at h; subst h; rfl
    | cons x l ih =>
     intro vl h
     rw [toV] at h
     split at h
     ·simp only [Option.map_eq_some_iff] at h
      obtain ⟨r, h1, rfl⟩ := h
      simp [ih r h1]
     ·cases h
   rw [List.length_map, (srtV_ok vl).1.length_eq, this l vl h]
 perm := fun l hl => by
  obtain ⟨vl, h1, h2, -⟩ := toV_ok hl
  unfold srt
  rw [h1]
  have := (srtV_ok vl).1.map ofV
  rw [h2] at this
  exact this
 srt := fun l hl i j x y hij hx hy => by
  obtain ⟨vl, h1, h2, -⟩ := toV_ok hl
  unfold srt at hx hy
  rw [h1] at hx hy
  rw [List.getElem?_map, Option.map_eq_some_iff] at hx hy
  obtain ⟨u, hu, rfl⟩ := hx
  obtain ⟨v, hv, rfl⟩ := hy
  exact (srtV_ok vl).2 i j u v hij hu hv }
end Go.Proofs.YtfedemnaeggokaaGreatDoor
end
section
namespace Go.Proofs.YtfedemnaeggokaaGreatDoor
set_option linter.unusedVariables false
set_option linter.unusedSimpArgs false
set_option maxRecDepth 100000
open Go.RowKit Go.Sort
section
variable {w : World} {b : Nat} {cur : Array Value} {t : TypeId} {fz : Nat × Nat} {n : Nat} {d : Array VSp} {os : Array Obj}
theorem srt_heap (h : w.heap[b]? = some (.cells cur t fz)) : (sortWorldK encV 2 w b 0 n d os).heap[b]? = some (.cells (putCells id 0 (flatK encV 2 d) cur) t fz) := by
 have hb := (Array.getElem?_eq_some_iff.1 h).1
 show (((w.heap.modify b (onCells (putCells id 0 (flatK encV 2 d)))) ++ os))[b]? = _
 rw [Array.getElem?_append_left (by simpa using hb), Array.getElem?_modify, if_pos rfl, h]; rfl
theorem srt_other {k : Nat} (hk : k ≠ b) (hl : k < w.heap.size) : (sortWorldK encV 2 w b 0 n d os).heap[k]? = w.heap[k]? := by
 show (((w.heap.modify b (onCells (putCells id 0 (flatK encV 2 d)))) ++ os))[k]? = _
 rw [Array.getElem?_append_left (by simpa using hl), Array.getElem?_modify, if_neg (fun e => hk e.symm)]
theorem srt_size : w.heap.size ≤ (sortWorldK encV 2 w b 0 n d os).heap.size := by
 show _ ≤ (((w.heap.modify b (onCells (putCells id 0 (flatK encV 2 d)))) ++ os)).size
 rw [Array.size_append, Array.size_modify]; omega
end
theorem put_get {F cur : Array Value} {j : Nat} (h : F.size ≤ cur.size) (hj : j < F.size) : (putCells id 0 F cur).getD j undef = F[j]! := by
 have hj2 : j < (putCells id 0 F cur).size := by simp [putCells]; omega
 rw [Array.getD_eq_getD_getElem?, Array.getElem?_eq_getElem hj2]
 simp [putCells, hj]
theorem flat_get {d : Array VSp} {i : Nat} (hi : i < d.size) : (flatK encV 2 d)[i * 2]! = .int .i64 d[i]!.f ∧ (flatK encV 2 d)[i * 2 + 1]! = .int .i64 d[i]!.t := by
 have h1 := get_flatK encV 2 d (i * 2) (by omega)
 have h2 := get_flatK encV 2 d (i * 2 + 1) (by omega)
 rw [show i * 2 / 2 = i by omega, show i * 2 % 2 = 0 by omega] at h1
 rw [show (i * 2 + 1) / 2 = i by omega, show (i * 2 + 1) % 2 = 1 by omega] at h2
 exact ⟨h1, h2⟩
def sortM (args : List AV) (m : List MObj) : Option (AV × List MObj) := match args with
 | [.row id ver used off len, .val (.func (.func g) fs cs)] => if off = 0 ∧ len = used ∧ g = 55 ∧ fs = #[] ∧ cs = #[] then (match m[id]? with
  | some (.row v sz L wr ap) => if v = ver ∧ sz = 2 ∧ L.length = used ∧ wr = true ∧ ap = 1 ∧ 0 < used ∧ used < 4611686018427387904 then (spsV L).map fun vl => (.tuple [], m.set id (.row ver 2 ((srtV vl).map encVA) true 1)) else none
  | _ => none) else none
 | _ => none
theorem args2 {S : Nat → Nat → Prop} {w : World} {H : List Hd} {vs : Array Value} {x y : AV} (hr : RepL S w H vs [x, y]) : ∃ u v, vs = #[u, v] ∧ Rep S w H u x ∧ Rep S w H v y := by
 obtain ⟨h1, h2⟩ := hr
 match vs, h1 with
 | ⟨[u, v]⟩, _ => exact ⟨u, v, rfl, h2 0 x rfl, h2 1 y rfl⟩
set_option maxHeartbeats 2000000 in
theorem sort_ok {args : List AV} {m m' : List MObj} {r : AV} (h : sortM args m = some (r, m')) : CallOkM Tryz.prog 54 args m r m' := by
 refine ⟨⟨_, Tryz.func54, by kernel_rfl, by kernel_rfl⟩, fun X o w H vs hm hfr hnew hX hG hr => ?_⟩
 have rt : ∀ {S : Nat → Nat → Prop} {w : World} {H : List Hd}, Rep S w H (.tuple #[]) (.tuple []) := .tuple rfl fun i y hy => by simp at hy
 unfold sortM at h
 split at h
 ·rename_i id ver used off len g fs cs
  split at h
  ·rename_i hc0
   obtain ⟨rfl, rfl, rfl, rfl, rfl⟩ := hc0
   split at h
   ·rename_i v sz L wr ap hrow
    split at h
    ·rename_i hc1
     obtain ⟨rfl, rfl, hu, rfl, rfl, h0, hmx⟩ := hc1
     simp only [Option.map_eq_some_iff, Prod.mk.injEq] at h
     obtain ⟨vl, hvl, rfl, rfl⟩ := h
     have hL := spsV_eq hvl
     obtain ⟨u1, u2, rfl, r1, r2⟩ := args2 hr
     obtain rfl := rep_val r2
     cases r1 with
     | row _ _ _ _ _ hs hH hle hvv =>
      rename_i b cap sz cver cused wr'
      have hO := hm.obj _ _ _ hrow hH
      simp only [ObjAt] at hO
      obtain ⟨e1, e2, e3, e4, e5, e6, e7, e8⟩ := hO
      obtain ⟨g1, g2, A, rfl, g3, g4, g4n⟩ := hvv e1.symm (by omega)
      subst e1 e2 e3
      simp only [Nat.sub_zero, Nat.zero_mul] at g3 g4 g4n
      have hcap : 0 < cap := by omega
      obtain rfl := g3 hcap
      obtain ⟨cur, t, fz, hh, hap, hfz, hsz, hold⟩ := e6 hcap
      have hfz0 : fz = (0, 0) := hap.1 (by decide)
      subst hfz0
      have hvn : vl.length = len := by rw [← hu, hL, List.length_map]
      have hds : vl.toArray.size = len := by simpa using hvn
      have hat : ∀ (k : Nat), k < len → ∃ x, vl[k]? = some x ∧ vl.toArray[k]! = x ∧ L[k]? = some (encVA x) := fun k hk => by
       have hk2 : k < vl.length := by omega
       obtain ⟨x, hx⟩ : ∃ x, vl[k]? = some x := ⟨_, List.getElem?_eq_getElem hk2⟩
       refine ⟨x, hx, ?_, by rw [hL, List.getElem?_map, hx]; rfl⟩
       rw [getElem!_def]; simp [hx]
      have hold2 : ∀ (k : Nat), k < len → cur.getD (k * 2) undef = .int .i64 vl.toArray[k]!.f ∧ cur.getD (k * 2 + 1) undef = .int .i64 vl.toArray[k]!.t := fun k hk => by
       obtain ⟨x, -, h2, h3⟩ := hat k hk
       rw [h2]
       exact ⟨rep_val (hold k _ 0 _ h3 rfl), rep_val (hold k _ 1 _ h3 rfl)⟩
      have hH' : HoldsK encV 2 w b 0 vl.toArray := fun j hj => by
       rw [size_flatK, hds] at hj
       have hjc : j < cur.size := by omega
       refine ⟨?_, by simp [World.frozen?, hh]⟩
       rw [Nat.zero_add, cell_getD hh hjc]
       show some (cur.getD j undef) = some (flatK encV 2 vl.toArray)[j]!
       congr 1
       obtain ⟨f1, f2⟩ := flat_get (d := vl.toArray) (i := j / 2) (by omega)
       obtain ⟨c1, c2⟩ := hold2 (j / 2) (by omega)
       by_cases hpar : j % 2 = 0
       ·rw [show j / 2 * 2 = j by omega] at f1 c1
        rw [c1, f1]
       ·rw [show j / 2 * 2 + 1 = j by omega] at f2 c2
        rw [c2, f2]
      have hbl := hm.lt _ _ b hH (by simp [Hd.blk, hcap])
      have eg : ∀ args w, (callFunc 55 args).run Tryz.prog w = .ok (.enter 55 args) w := enters_of Tryz.func55 (by kernel_rfl) rfl
      have hcon := AnyQ.slices_SortFunc_eq Tryz.sortSp 2 Tryz.isAgg50 Tryz.sizeOf50 encV (fun _ => rfl) (fun x v hv => by simp [encV] at hv; rcases hv with rfl | rfl <;> rfl) cmpV swoV 55 #[] b 0 (cap - 0) vl.toArray w eg (fun _ _ _ _ x y => cmpV_walk x y _) hH' hbl (by rw [hds]; exact hmx)
      rw [hds] at hcon
      refine hcon.mono fun e w' ⟨he, n, os, hw⟩ => ?_
      subst he
      have hpd : pdq (ltOf cmpV) vl.toArray 0 len (Lib.bitLen len) true true = (srtV vl).toArray := by
       unfold srtV; rw [hds]
      rw [hpd] at hw
      subst hw
      have hsl : (srtV vl).length = len := by rw [(srtV_ok vl).1.length_eq, hvn]
      generalize srtV vl = sl at hsl
      have hss : sl.toArray.size = len := by simpa using hsl
      have hgo : Goes X w H (sortWorldK encV 2 w b 0 n sl.toArray os) H := by
       refine ⟨HLe.refl _, fun b' o' ⟨q1, q2, q3⟩ => ?_⟩
       have hne : b' ≠ b := fun e => q3 ⟨id, _, hH, by rw [e]; exact ⟨rfl, hcap, .inl rfl⟩⟩
       exact ⟨⟨Nat.lt_of_lt_of_le q1 srt_size, q2, q3⟩, World.cell?_of_block (srt_other hne q1)⟩
      have hset := set_same hH
      have hmem := hm.upd (id := id) (k' := .row b cap 2 cver cused true) (o' := .row cver 2 (sl.map encVA) true 1) (w' := sortWorldK encV 2 w b 0 n sl.toArray os) (by rw [hset]; exact hgo) srt_size
       (fun i k b' hi hk hb' => srt_other (fun e => hi (hm.apart i id k _ b' hk hH hb' (by rw [e]; simp [Hd.blk, hcap]))) (hm.lt i k b' hk hb')) (fun b' hb' => by
        simp only [Hd.blk, hcap, if_true, Option.some.injEq] at hb'
        subst hb'
        exact ⟨Nat.lt_of_lt_of_le hbl srt_size, fun i k hi hk hkb => hi (hm.apart i id k _ b hk hH hkb (by simp [Hd.blk, hcap]))⟩) (by
        rw [hset]
        simp only [ObjAt]
        refine ⟨trivial, trivial, trivial, by rw [List.length_map]; omega, e5, fun _ => ⟨_, t, (0, 0), srt_heap hh, ApOk.one _, fun o ho => by simp, by simp [putCells]; exact hsz, fun i x j y hx hy => ?_⟩, fun i x hx => ?_, fun q => by omega⟩
        ·rw [List.getElem?_map, Option.map_eq_some_iff] at hx
         obtain ⟨z, hz, rfl⟩ := hx
         have hi := (List.getElem?_eq_some_iff.1 hz).1
         have hz2 : sl.toArray[i]! = z := by rw [getElem!_def]; simp [hz]
         obtain ⟨f1, f2⟩ := flat_get (d := sl.toArray) (i := i) (by omega)
         have hF : (flatK encV 2 sl.toArray).size ≤ cur.size := by rw [size_flatK]; omega
         rw [hz2] at f1 f2
         match j, hy with
         | 0, hy =>
          cases hy
          rw [Nat.add_zero, put_get hF (by rw [size_flatK]; omega), f1]; exact .val _ _
         | 1, hy =>
          cases hy
          rw [put_get hF (by rw [size_flatK]; omega), f2]; exact .val _ _
        ·rw [List.getElem?_map, Option.map_eq_some_iff] at hx
         obtain ⟨z, -, rfl⟩ := hx
         exact ⟨rfl, rfl⟩)
      rw [hset] at hmem
      exact ⟨_, H, rfl, rt, hmem, ⟨hfr.os, hfr.tape, hfr.output, Nat.le_trans hfr.size srt_size, fun k hk q => (srt_other (fun e => by have := hnew id _ b hH (by simp [Hd.blk, hcap]); omega) (Nat.lt_of_lt_of_le hk hfr.size)).trans (hfr.block k hk q)⟩, hnew, hgo⟩
    ·cases h
   ·cases h
  ·cases h
 ·cases h
end Go.Proofs.YtfedemnaeggokaaGreatDoor
end
section
namespace Go.Proofs.YtfedemnaeggokaaGreatDoor
set_option linter.unusedVariables false
set_option linter.unusedSimpArgs false
set_option maxRecDepth 100000
theorem gr_cells {w : World} {S : Nat → Nat → Prop} {g : Nat} {l : List AV} (h : GR S w []) (hg : GT g = some l) (hl : 0 < l.length) : ∃ (cs : Array Value) (t : TypeId) (fz : Nat × Nat), w.heap[g]? = some (.cells cs t fz) ∧ cs.size = l.length ∧ ∀ (j : Nat) (y : AV), l[j]? = some y → ∃ u, cs[j]? = some u ∧ Rep S w [] u y := by
 obtain ⟨h1, h2⟩ := h g l hg
 cases h1 with
 | rptr b o u hgr hcell hrep =>
  have h0 := (hcell 0 _ (List.getElem?_eq_getElem hl)).1
  simp only [World.cell?] at h0
  split at h0
  ·rename_i cs t fz hh
   have hc : ∀ j, w.cell? ⟨g, j, none⟩ = cs[j]? := fun j => by simp [World.cell?, hh]
   refine ⟨cs, t, fz, hh, ?_, fun j y hy => ⟨u j, ?_, hrep j y hy⟩⟩
   ·have hn := (h2 l.length (Nat.le_refl _)).2
    rw [hc] at hn
    have h3 : cs.size ≤ l.length := by
     rcases Nat.lt_or_ge l.length cs.size with q | q
     ·rw [Array.getElem?_eq_getElem q] at hn; cases hn
     ·exact q
    have h4 := (hcell (l.length - 1) _ (List.getElem?_eq_getElem (by omega))).1
    rw [hc] at h4
    have := (Array.getElem?_eq_some_iff.1 h4).1
    omega
   ·have := (hcell j y hy).1
    rw [Nat.zero_add, hc] at this
    exact this
  ·cases h0
theorem gr_nif {w : World} {S : Nat → Nat → Prop} {g : Nat} (h : GR S w []) (hg : GT g = some [.nif]) : ∃ ev, w.cell? ⟨g, 0, none⟩ = some ev ∧ (ev = .nilIface ∨ ∃ te pe, ev = .iface te pe) := by
 obtain ⟨cs, t, fz, hh, hs, hc⟩ := gr_cells h hg (by decide)
 obtain ⟨u, hu, hr⟩ := hc 0 .nif rfl
 refine ⟨u, by simp [World.cell?, hh, hu], ?_⟩
 cases hr with
 | nif H t v => exact .inr ⟨t, v, rfl⟩
theorem gr_tab {w : World} {S : Nat → Nat → Prop} {g : Nat} {n : String} (h : GR S w []) (hn : Tryz.prog.globalNamed n = some g) (hg : GT g = some (ints64 pow10L)) : Lib.TabIs Tryz.prog w n .u64 Lib.pow10Tab := by
 obtain ⟨cs, t, fz, hh, hs, hc⟩ := gr_cells h hg (by decide)
 unfold Lib.TabIs World.var?
 rw [hn]
 simp only [Option.bind_some, hh, Option.some.injEq]
 have hl : (ints64 pow10L).length = 20 := rfl
 have hp : ∀ j, j < 20 → (ints64 pow10L)[j]? = some (.val (.int .u64 ((10 ^ j : Nat) : Int))) := fun j hj => by
  have h : ∀ i : Fin 20, pow10L[i.val]? = some (10 ^ i.val) := by decide +kernel
  unfold ints64
  rw [List.getElem?_map, h ⟨j, hj⟩]; rfl
 apply Array.ext
 ·rw [hs, hl]; simp [Lib.pow10Tab]
 ·intro i h1 h2
  have hi : i < 20 := by omega
  obtain ⟨u, hu, hr⟩ := hc i _ (hp i hi)
  have e := rep_val hr
  subst e
  rw [Array.getElem?_eq_getElem h1] at hu
  rw [Option.some.inj hu]
  simp [Lib.pow10Tab]
theorem val1 {w : World} {S : Nat → Nat → Prop} {cs : Array Value} {a : Value} (h : RepL S w [] cs [.val a]) : cs = #[a] := by
 obtain ⟨hn, hr⟩ := h
 have e0 := rep_val (hr 0 _ rfl)
 apply Array.ext
 ·simpa using hn
 ·intro i h1 h2
  have h3 : i = 0 := by simp at h2; omega
  subst h3
  rw [Array.getD_eq_getD_getElem?, Array.getElem?_eq_getElem h1] at e0
  exact e0
theorem val2 {w : World} {S : Nat → Nat → Prop} {cs : Array Value} {a b : Value} (h : RepL S w [] cs [.val a, .val b]) : cs = #[a, b] := by
 obtain ⟨hn, hr⟩ := h
 have e0 := rep_val (hr 0 _ rfl)
 have e1 := rep_val (hr 1 _ rfl)
 apply Array.ext
 ·simpa using hn
 ·intro i h1 h2
  rw [Array.getD_eq_getD_getElem?] at e0 e1
  have h3 : i < 2 := by simpa using h2
  rcases i with _ | _ | i
  ·rw [Array.getElem?_eq_getElem h1] at e0; exact e0
  ·rw [Array.getElem?_eq_getElem h1] at e1; exact e1
  ·omega
def itoaX : List AV → Option AV
 | [.val (.int .i64 n)] => if InI64 n then some (strL (Lib.itoa n)) else none
 | _ => none
def atoiX : List AV → Option AV
 | [.val (.string s)] => if s.size ≤ 281474976710656 then (match Lib.atoiAll s.data.toList with
  | .ok v => some (.tuple [intA v, .val .nilIface])
  | Go.Lib.NumEnd.syntax => some (.tuple [intA 0, .nif])
  | .range => some (.tuple [intA (Lib.atoiSat s.data.toList), .nif])) else none
 | _ => none
theorem itoaX_ok {vs : List AV} {r : AV} (h : itoaX vs = some r) : CallOk Tryz.prog 59 vs r := by
 unfold itoaX at h
 split at h
 ·rename_i n
  split at h
  ·rename_i hn
   cases h
   intro X w cs hX hG hr
   obtain rfl := val1 hr
   refine (Tryz.strconv_Itoa n hn.1 hn.2 w (gr_tab (g := 1) hG (by kernel_rfl) rfl)).mono fun e w' ⟨he, k, os, hw⟩ => ?_
   subst he hw
   exact ⟨_, rfl, .val _ _, Fr.of_below (Lib.below_grow _ w (Nat.le_refl _) k os)⟩
  ·cases h
 ·cases h
theorem rep_tuple2 {S : Nat → Nat → Prop} {w : World} {H : List Hd} {u v : Value} {x y : AV} (h : Rep S w H u x) (h' : Rep S w H v y) : Rep S w H (.tuple #[u, v]) (.tuple [x, y]) := .tuple rfl fun i z hz => by
 match i, hz with
 | 0, hz => cases hz; exact h
 | 1, hz => cases hz; exact h'
theorem atoiX_ok {vs : List AV} {r : AV} (h : atoiX vs = some r) : CallOk Tryz.prog 78 vs r := by
 unfold atoiX at h
 split at h
 ·rename_i s
  split at h
  ·rename_i hs
   split at h
   ·rename_i v hv
    cases h
    intro X w cs hX hG hr
    obtain rfl := val1 hr
    refine (Tryz.strconv_Atoi_ok s (by omega) v hv w).mono fun e w' ⟨he, hw⟩ => ?_
    subst he
    refine ⟨_, rfl, rep_tuple2 (.val _ _) (.val _ _), ?_⟩
    rcases hw with rfl | ⟨t, rfl⟩
    ·exact Fr.refl _ _
    ·exact Fr.of_below (Lib.bytesWorld_below _ _ _)
   ·rename_i hv
    cases h
    intro X w cs hX hG hr
    obtain rfl := val1 hr
    obtain ⟨ev, h1, h2⟩ := gr_nif (g := 4) hG rfl
    refine (Tryz.strconv_Atoi_syntax s hs hv ev w h1 h2).mono fun e w' ⟨n, he, _, _, hb⟩ => ?_
    subst he
    exact ⟨_, rfl, rep_tuple2 (.val _ _) (.nif _ _ _), Fr.of_below hb⟩
   ·rename_i hv
    cases h
    intro X w cs hX hG hr
    obtain rfl := val1 hr
    obtain ⟨ev, h1, h2⟩ := gr_nif (g := 5) hG rfl
    refine (Tryz.strconv_Atoi_range s hs hv ev w h1 h2).mono fun e w' ⟨n, he, _, _, hb⟩ => ?_
    subst he
    exact ⟨_, rfl, rep_tuple2 (.val _ _) (.nif _ _ _), Fr.of_below hb⟩
  ·cases h
 ·cases h
end Go.Proofs.YtfedemnaeggokaaGreatDoor
end
