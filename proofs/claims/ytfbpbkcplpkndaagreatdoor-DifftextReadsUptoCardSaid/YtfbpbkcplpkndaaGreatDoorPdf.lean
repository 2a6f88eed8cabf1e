/- Own texts of this claim, merged: Df5, Df9, Df10, Df11, Df12, DfT, Df14, Df15, DfU, Df13, DfV, Df17, DfW. -/
import Derived.Test.YtfbpbkcplpkndaaGreatDoorPde
section
namespace Go.Proofs.YtfbpbkcplpkndaaGreatDoor
set_option linter.unusedVariables false
set_option linter.unusedSimpArgs false
set_option maxRecDepth 100000
def uoA (p : Pt) (i : Nat) : Bs := nmU p ++ (p.hs.take i).flatMap hkU
def uoB (p : Pt) (i : Nat) (j : Nat × Hk) : Bs := uoA p i ++ (hdU j.2 ++ [10] ++ lsU (j.2.ls.take j.1))
structure UnI (p : Pt) (i : Nat) (j : Nat × Hk) : Prop where
 at' : p.hs[i]? = some j.2
 le : j.1 ≤ j.2.ls.length
theorem uoA_s {p : Pt} {i : Nat} {h : Hk} (e : p.hs[i]? = some h) : uoA p (i + 1) = uoA p i ++ hkU h := by
 unfold uoA; rw [take_succ_get e, List.flatMap_append, List.flatMap_cons, List.flatMap_nil, List.append_nil, List.append_assoc]
theorem uoA_all (p : Pt) {i : Nat} (h : p.hs.length ≤ i) : uoA p i = ptU p := by unfold uoA ptU; rw [List.take_of_length_le h]
theorem uoB_s {p : Pt} {i : Nat} {j : Nat × Hk} {x : DL} (e : j.2.ls[j.1]? = some x) : uoB p i (j.1 + 1, j.2) = uoB p i j ++ wrt (sgn x.op) x := by
 unfold uoB; simp only [take_succ_get e, lsU_app, lsU_one, List.append_assoc]
theorem uoB_0 (p : Pt) (i : Nat) (h : Hk) : uoB p i (0, h) = uoA p i ++ (hdU h ++ [10]) := by simp [uoB, lsU]
theorem uoB_all {p : Pt} {i : Nat} {j : Nat × Hk} (u : UnI p i j) (e : ¬ (j.1 : Int) < j.2.ls.length) : uoB p i j = uoA p (i + 1) := by
 rw [uoA_s u.at', uoB, hkU, List.take_of_length_le (by omega)]
theorem uoA_len {p : Pt} (i : Nat) : (uoA p i).length ≤ (ptU p).length := by
 have : ptU p = uoA p i ++ (p.hs.drop i).flatMap hkU := by
  unfold ptU uoA
  rw [List.append_assoc, ← List.flatMap_append, List.take_append_drop]
 rw [this, List.length_append]; omega
theorem lsU_len (l : List DL) (k : Nat) : (lsU (l.take k)).length ≤ (lsU l).length := by
 conv => rhs; rw [← List.take_append_drop k l, lsU_app]
 rw [List.length_append]; omega
theorem uoB_len {p : Pt} {i : Nat} {j : Nat × Hk} (u : UnI p i j) : (uoB p i j).length ≤ (ptU p).length := by
 have h1 := uoA_len (p := p) (i + 1)
 have h2 := lsU_len j.2.ls j.1
 rw [uoA_s u.at'] at h1
 unfold uoB; unfold hkU at h1
 simp only [List.length_append] at h1 ⊢; omega
theorem UnI.next {p : Pt} {i : Nat} {j : Nat × Hk} {x : DL} (u : UnI p i j) (e : j.2.ls[j.1]? = some x) : UnI p i (j.1 + 1, j.2) ∧ lnM (j.1 + 1, j.2) < lnM j := by
 have hl := (List.getElem?_eq_some_iff.1 e).1
 exact ⟨⟨u.at', hl⟩, by simp only [lnM]; omega⟩
theorem ext_len {f n : Int} (hf : InI64 f) (hn : InI64 n) : (ext f n).length ≤ 41 := by
 have l1 := itoa_len hf
 have l2 := itoa_len hn
 unfold ext; split
 ·omega
 ·simp only [List.length_append, List.length_singleton]; omega
structure UnJ (p : Pt) (i : Nat) (j : Nat × Hk) : Prop extends UnI p i j where
 fm : ptF p
theorem UnJ.op {p : Pt} {i : Nat} {j : Nat × Hk} {x : DL} (u : UnJ p i j) (e : j.2.ls[j.1]? = some x) : 1 ≤ x.op ∧ x.op ≤ 3 := by
 have := (u.fm _ (List.mem_of_getElem? u.at')).ln _ (List.mem_of_getElem? e)
 exact ⟨this.1, this.2.1⟩
theorem UnJ.next {p : Pt} {i : Nat} {j : Nat × Hk} {x : DL} (u : UnJ p i j) (e : j.2.ls[j.1]? = some x) : UnJ p i (j.1 + 1, j.2) ∧ lnM (j.1 + 1, j.2) < lnM j :=
 ⟨⟨(u.toUnI.next e).1, u.fm⟩, (u.toUnI.next e).2⟩
theorem sgn_cut {op : Int} (h : 1 ≤ op ∧ op ≤ 3) : List.drop (op - 1).toNat (List.take op.toNat [32, 45, 43]) = sgn op := by
 have : op = 1 ∨ op = 2 ∨ op = 3 := by omega
 rcases this with q | q | q <;> subst q <;> rfl
theorem ub0 (p : Pt) (i : Nat) (h : Hk) : uoA p i ++ ([64, 64, 32, 45] ++ ext h.fa h.la ++ [32, 43] ++ ext h.fb h.lb ++ [32, 64, 64, 10]) = uoB p i (0, h) := by rw [uoB_0]; simp [hdU]
theorem ubY {p : Pt} {i : Nat} {j : Nat × Hk} {x : DL} (e : j.2.ls[j.1]? = some x) (h : x.ne = true) : uoB p i j ++ (sgn x.op ++ x.tx ++ [10]) ++ [92, 32, 78, 111, 32, 110, 101, 119, 108, 105, 110, 101, 32, 97, 116, 32, 101, 110, 100, 32, 111, 102, 32, 102, 105, 108, 101, 10] = uoB p i (j.1 + 1, j.2) := by
 rw [uoB_s e, wrt, h, if_pos rfl]; simp [noE]
theorem ubN {p : Pt} {i : Nat} {j : Nat × Hk} {x : DL} (e : j.2.ls[j.1]? = some x) (h : x.ne = false) : uoB p i j ++ (sgn x.op ++ x.tx ++ [10]) = uoB p i (j.1 + 1, j.2) := by
 rw [uoB_s e, wrt, h, if_neg (by decide)]; simp
theorem u8_join {a b c : Bs} (h : a ++ b = c) : a.map u8A ++ b.map u8A = c.map u8A := by rw [← h, List.map_append]
theorem sgn_len (op : Int) : (sgn op).length ≤ 1000 := by unfold sgn; (repeat' split) <;> simp
section
variable {X : CallF}
theorem unified_run (hB : BldC X) (hI : LibC X) (hc : NumC X) (p : Pt) (hp : PtZ p) (ho : p.old.length ≤ 10000000) (hn : p.new.length ≤ 10000000) (hU : (ptU p).length ≤ 1000000000000) : (R FT X).f 15 [encPt p] = some (strL (uni p)) := by
 have hm := maxLen_le
 have cc := hB.cc
 have bstr := hB.str
 have fo := formed_run hI p hp
 have es := fun (s : Bs) h => escape_run hB hI s h
 have ex := fun (f n : Int) h h' => extent_run (X := X) hc f n h h'
 obtain ⟨UA, hUA⟩ : ∃ f : Nat → Bs, f = uoA p := ⟨_, rfl⟩
 obtain ⟨UB, hUB⟩ : ∃ f : Nat → Nat × Hk → Bs, f = uoB p := ⟨_, rfl⟩
 obtain ⟨u, hu⟩ : ∃ u : Bs, u = uni p := ⟨_, rfl⟩
 rw [← hu]
 refine R_wp ((Tr.c (boolA (dcd (ptF p))) (Tr.nil.br (Tr.c (strL (esc p.old)) (Tr.c (strL (esc p.new)) (Tr.cm (AV.tuple []) [MObj.box 29 [strL p.old, strL p.new, AV.slice 5 (List.map encHk p.hs)], MObj.row 0 1 [] true (7 : Nat), MObj.box 62 [AV.any, AV.row 1 0 (0 : Nat) (0 : Nat) (0 : Nat)]] (Tr.k ((4 : Nat) + List.length (esc p.old) + 5 + List.length (esc p.new) + 1) (Tr.k p.hs.length (Tr.inv (fun (i : Nat) ↦ St.mk [(3, AV.ptr 2 0), (23, AV.slice 5 (List.map encHk p.hs)), (24, intA (↑p.hs.length : Int)), (25, intA (↑i : Int))] [MObj.box 29 [strL p.old, strL p.new, AV.slice 5 (List.map encHk p.hs)], MObj.row 0 1 (List.map u8A (UA i)) true (7 : Nat), MObj.box 62 [AV.any, AV.row 1 0 (List.length (UA i)) (0 : Nat) (List.length (UA i))]]) (fun (i : Nat) ↦ i ≤ p.hs.length) (fun (i : Nat) ↦ p.hs.length - i) fun (i : Nat) ↦ (Tr.ix encHk p.hs i fun (x6 : Hk) ↦ Tr.c (strL (ext x6.fa x6.la)) (Tr.c (strL (ext x6.fb x6.lb)) (Tr.cm (AV.tuple []) [MObj.box 29 [strL p.old, strL p.new, AV.slice 5 (List.map encHk
 p.hs)], MObj.row 0 1 (List.map u8A (UA i)) true (7 : Nat), MObj.box 62 [AV.any, AV.row 1 0 (List.length (UA i)) (0 : Nat) (List.length (UA i))], MObj.row 0 3 [] true (1 : Nat), MObj.box 46 [intA x6.fa, intA x6.la, intA x6.fb, intA x6.lb, AV.slice 3 (List.map encDL x6.ls)]] (Tr.k (List.length (UA i) + ((4 : Nat) + List.length (ext x6.fa x6.la) + 2 + List.length (ext x6.fb x6.lb) + 4)) (Tr.k x6.ls.length (Tr.inv (fun (j : Nat × Hk) ↦ St.mk [(3, AV.ptr 2 0), (23, AV.slice 5 (List.map encHk p.hs)), (24, intA (↑p.hs.length : Int)), (25, intA (↑i : Int)), (45, AV.slice 3 (List.map encDL j.snd.ls)), (46, intA (↑j.snd.ls.length : Int)), (47, intA (↑j.fst : Int))] [MObj.box 29 [strL p.old, strL p.new, AV.slice 5 (List.map encHk p.hs)], MObj.row 0 1 (List.map u8A (UB i j)) true (7 : Nat), MObj.box 62 [AV.any, AV.row 1 0 (List.length (UB i j)) (0 : Nat) (List.length (UB i j))]]) (fun (j : Nat × Hk) ↦ UnJ p i j) (fun (j : Nat × Hk) ↦ lnM j) fun (j : Nat × Hk) ↦
 (Tr.ix encDL j.snd.ls j.fst fun (x11 : DL) ↦ (Tr.sl (x11.op - 1).toNat x11.op.toNat (Tr.cm (AV.tuple []) [MObj.box 29 [strL p.old, strL p.new, AV.slice 5 (List.map encHk p.hs)], MObj.row 0 1 (List.map u8A (UB i j)) true (7 : Nat), MObj.box 62 [AV.any, AV.row 1 0 (List.length (UB i j)) (0 : Nat) (List.length (UB i j))], MObj.box 70 [intA x11.op, strL x11.tx, boolA x11.ne], MObj.box 70 [intA x11.op, strL x11.tx, boolA x11.ne]] (Tr.k (List.length (UB i j) + ((List.drop (x11.op - 1).toNat (List.take x11.op.toNat [(32 : UInt8), (45 : UInt8), (43 : UInt8)])).length + List.length x11.tx + 1)) ((Tr.cm (AV.tuple []) [MObj.box 29 [strL p.old, strL p.new, AV.slice 5 (List.map encHk p.hs)], MObj.row 0 1 (List.map u8A (UB i j) ++ List.map u8A (List.drop (x11.op - 1).toNat (List.take x11.op.toNat [(32 : UInt8), (45 : UInt8), (43 : UInt8)]) ++ x11.tx ++ [(10 : UInt8)])) true (7 : Nat), MObj.box 62 [AV.any, AV.row 1 0 (List.length (UB i j) + ((List.drop (x11.op - 1).toNat (List.take x11.op.toNat [(32 : UInt8), (45 : UInt8), (43 : UInt8)])).length
 + List.length x11.tx + 1)) (0 : Nat) (List.length (UB i j) + ((List.drop (x11.op - 1).toNat (List.take x11.op.toNat [(32 : UInt8), (45 : UInt8), (43 : UInt8)])).length + List.length x11.tx + 1))], MObj.box 70 [intA x11.op, strL x11.tx, boolA x11.ne], MObj.box 70 [intA x11.op, strL x11.tx, boolA x11.ne]] (Tr.k (List.length (UB i j) + ((List.drop (x11.op - 1).toNat (List.take x11.op.toNat [(32 : UInt8), (45 : UInt8), (43 : UInt8)])).length + List.length x11.tx + 1) + 28) Tr.nil.w)).inl.br Tr.nil.w).w.w)).inl.w.w.inl).w).w.br Tr.nil.w).w))).inl.w.w).w.w).w.br (Tr.cm (strL (UA i)) [MObj.box 29 [strL p.old, strL p.new, AV.slice 5 (List.map encHk p.hs)], MObj.row 1 1 [] true (7 : Nat), MObj.box 62 [AV.any, AV.row 1 0 (List.length (UA i)) (0 : Nat) (List.length (UA i))]] Tr.nil)).w))).inl.w.w).w.w)).w).w) rfl ?_
 refine Eq.mpr (by kernel_rfl : _ = ((R FT X).f 35 [encPt p] = some (boolA (dcd (ptF p))) ∧ ((!dcd (ptF p)) = true → [] = u) ∧ ((!dcd (ptF p)) = false → (R FT X).f 37 [strL p.old] = some (strL (esc p.old)) ∧ [(45 : UInt8), (45 : UInt8), (45 : UInt8), (32 : UInt8)].length + List.length (esc p.old) ≤ 9223372036854775807 ∧ List.length ([(45 : UInt8), (45 : UInt8), (45 : UInt8), (32 : UInt8)] ++ esc p.old) + [(10 : UInt8), (43 : UInt8), (43 : UInt8), (43 : UInt8), (32 : UInt8)].length ≤ 9223372036854775807 ∧ (R FT X).f 37 [strL p.new] = some (strL (esc p.new)) ∧ List.length ([(45 : UInt8), (45 : UInt8), (45 : UInt8), (32 : UInt8)] ++ esc p.old ++ [(10 : UInt8), (43 : UInt8), (43 : UInt8), (43 : UInt8), (32 : UInt8)]) + List.length (esc p.new) ≤ 9223372036854775807 ∧ List.length ([(45 : UInt8), (45 : UInt8), (45 : UInt8), (32 : UInt8)] ++ esc p.old ++ [(10 : UInt8), (43 : UInt8), (43 : UInt8), (43 : UInt8), (32 : UInt8)] ++ esc p.new) + [(10 : UInt8)].length ≤ 9223372036854775807 ∧ (R FT X).m 68 [AV.ptr 2 0] [MObj.box 29 [strL p.old, strL p.new, AV.slice 5 (List.map encHk p.hs)], MObj.row 0 1 [] true (7
 : Nat), MObj.box 62 [AV.any, AV.row 1 0 (0 : Nat) (0 : Nat) (0 : Nat)]] = some (AV.tuple [], [MObj.box 29 [strL p.old, strL p.new, AV.slice 5 (List.map encHk p.hs)], MObj.row 0 1 [] true (7 : Nat), MObj.box 62 [AV.any, AV.row 1 0 (0 : Nat) (0 : Nat) (0 : Nat)]]) ∧ (0 : Nat) = 0 ∧ (0 : Nat) = 0 ∧ (0 : Nat) = 0 ∧ (0 : Nat) + List.length ([(45 : UInt8), (45 : UInt8), (45 : UInt8), (32 : UInt8)] ++ esc p.old ++ [(10 : UInt8), (43 : UInt8), (43 : UInt8), (43 : UInt8), (32 : UInt8)] ++ esc p.new ++ [(10 : UInt8)]) = 4 + List.length (esc p.old) + 5 + List.length (esc p.new) + 1 ∧ (4 : Nat) + List.length (esc p.old) + 5 + List.length (esc p.new) + 1 ≤ (140737488355328 : Nat) ∧ (4 : Nat) + List.length (esc p.old) + 5 + List.length (esc p.new) + 1 ≤ (9223372036854775807 : Nat) ∧ (List.map encHk p.hs).length = p.hs.length ∧ (∃ (j3 : Nat), ((True ∧ List.map encHk p.hs = List.map encHk p.hs ∧ (↑p.hs.length : Int) = (↑p.hs.length : Int) ∧ (0 : Int) = (↑j3 : Int) ∧ True) ∧ (p.old = p.old ∧ p.new = p.new ∧ List.map encHk p.hs = List.map encHk
 p.hs) ∧ List.map u8A ([(45 : UInt8), (45 : UInt8), (45 : UInt8), (32 : UInt8)] ++ esc p.old ++ [(10 : UInt8), (43 : UInt8), (43 : UInt8), (43 : UInt8), (32 : UInt8)] ++ esc p.new ++ [(10 : UInt8)]) = List.map u8A (UA j3) ∧ True ∧ (4 : Nat) + List.length (esc p.old) + 5 + List.length (esc p.new) + 1 = List.length (UA j3) ∧ (0 : Nat) = 0 ∧ (4 : Nat) + List.length (esc p.old) + 5 + List.length (esc p.new) + 1 = List.length (UA j3)) ∧ j3 ≤ p.hs.length) ∧ ∀ (i : Nat), i ≤ p.hs.length → (decide ((↑i : Int) < (↑p.hs.length : Int)) = true → List.map encHk p.hs = List.map encHk p.hs ∧ (↑i : Int) = (↑i : Int) ∧ i < p.hs.length ∧ ∀ (x6 : Hk), p.hs[i]? = some x6 → (R FT X).f 38 [intA x6.fa, intA x6.la] = some (strL (ext x6.fa x6.la)) ∧ [(64 : UInt8), (64 : UInt8), (32 : UInt8), (45 : UInt8)].length + List.length (ext x6.fa x6.la) ≤ 9223372036854775807 ∧ List.length ([(64 : UInt8), (64 : UInt8), (32 : UInt8), (45 : UInt8)] ++ ext x6.fa x6.la) + [(32 : UInt8), (43 : UInt8)].length ≤ 9223372036854775807 ∧ (R FT X).f 38 [intA x6.fb, intA x6.lb] = some (strL (ext x6.fb x6.lb)) ∧ List.length ([(64 : UInt8), (64 : UInt8), (32
 : UInt8), (45 : UInt8)] ++ ext x6.fa x6.la ++ [(32 : UInt8), (43 : UInt8)]) + List.length (ext x6.fb x6.lb) ≤ 9223372036854775807 ∧ List.length ([(64 : UInt8), (64 : UInt8), (32 : UInt8), (45 : UInt8)] ++ ext x6.fa x6.la ++ [(32 : UInt8), (43 : UInt8)] ++ ext x6.fb x6.lb) + [(32 : UInt8), (64 : UInt8), (64 : UInt8), (10 : UInt8)].length ≤ 9223372036854775807 ∧ (R FT X).m 68 [AV.ptr 2 0] [MObj.box 29 [strL p.old, strL p.new, AV.slice 5 (List.map encHk p.hs)], MObj.row 0 1 (List.map u8A (UA i)) true (7 : Nat), MObj.box 62 [AV.any, AV.row 1 0 (List.length (UA i)) (0 : Nat) (List.length (UA i))], MObj.row 0 3 [] true (1 : Nat), MObj.box 46 [intA x6.fa, intA x6.la, intA x6.fb, intA x6.lb, AV.slice 3 (List.map encDL x6.ls)]] = some (AV.tuple [], [MObj.box 29 [strL p.old, strL p.new, AV.slice 5 (List.map encHk p.hs)], MObj.row 0 1 (List.map u8A (UA i)) true (7 : Nat), MObj.box 62 [AV.any, AV.row 1 0 (List.length (UA i)) (0 : Nat) (List.length (UA i))], MObj.row 0 3 [] true (1 : Nat), MObj.box
 (46 : Nat) [intA x6.fa, intA x6.la, intA x6.fb, intA x6.lb, AV.slice 3 (List.map encDL x6.ls)]]) ∧ (List.map u8A (UA i)).length = List.length (UA i) ∧ (0 : Nat) = 0 ∧ List.length (UA i) = List.length (UA i) ∧ List.length (UA i) + List.length ([(64 : UInt8), (64 : UInt8), (32 : UInt8), (45 : UInt8)] ++ ext x6.fa x6.la ++ [(32 : UInt8), (43 : UInt8)] ++ ext x6.fb x6.lb ++ [(32 : UInt8), (64 : UInt8), (64 : UInt8), (10 : UInt8)]) = List.length (UA i) + ((4 : Nat) + List.length (ext x6.fa x6.la) + 2 + List.length (ext x6.fb x6.lb) + 4) ∧ List.length (UA i) + ((4 : Nat) + List.length (ext x6.fa x6.la) + 2 + List.length (ext x6.fb x6.lb) + 4) ≤ 140737488355328 ∧ List.length (UA i) + ((4 : Nat) + List.length (ext x6.fa x6.la) + 2 + List.length (ext x6.fb x6.lb) + 4) ≤ 9223372036854775807 ∧ (List.map encDL x6.ls).length = x6.ls.length ∧ (∃ (j8 : Nat × Hk), ((True ∧ List.map encHk p.hs = List.map encHk p.hs ∧ (↑p.hs.length : Int) = (↑p.hs.length : Int) ∧ (↑i : Int) = (↑i : Int) ∧ List.map encDL x6.ls = List.map encDL j8.snd.ls ∧ (↑x6.ls.length : Int) = (↑j8.snd.ls.length : Int) ∧ (0 : Int) = (↑j8.fst : Int) ∧ True)
 ∧ (p.old = p.old ∧ p.new = p.new ∧ List.map encHk p.hs = List.map encHk p.hs) ∧ List.map u8A (UA i) ++ List.map u8A ([(64 : UInt8), (64 : UInt8), (32 : UInt8), (45 : UInt8)] ++ ext x6.fa x6.la ++ [(32 : UInt8), (43 : UInt8)] ++ ext x6.fb x6.lb ++ [(32 : UInt8), (64 : UInt8), (64 : UInt8), (10 : UInt8)]) = List.map u8A (UB i j8) ∧ True ∧ List.length (UA i) + ((4 : Nat) + List.length (ext x6.fa x6.la) + 2 + List.length (ext x6.fb x6.lb) + 4) = List.length (UB i j8) ∧ (0 : Nat) = 0 ∧ List.length (UA i) + ((4 : Nat) + List.length (ext x6.fa x6.la) + 2 + List.length (ext x6.fb x6.lb) + 4) = List.length (UB i j8)) ∧ UnJ p i j8) ∧ ∀ (j : Nat × Hk), UnJ p i j → (decide ((↑j.fst : Int) < (↑j.snd.ls.length : Int)) = true → List.map encDL j.snd.ls = List.map encDL j.snd.ls ∧ (↑j.fst : Int) = (↑j.fst : Int) ∧ j.fst < j.snd.ls.length ∧ ∀ (x11 : DL), j.snd.ls[j.fst]? = some x11 → InI64 (x11.op - 1) ∧ x11.op - 1 = (↑(x11.op - 1).toNat : Int) ∧ x11.op = (↑x11.op.toNat : Int) ∧ (x11.op - 1).toNat ≤ x11.op.toNat ∧ x11.op.toNat ≤ 3 ∧ (List.drop (x11.op - 1).toNat (List.take x11.op.toNat [(32 : UInt8), (45 : UInt8),
 (43 : UInt8)])).length + List.length x11.tx ≤ 9223372036854775807 ∧ List.length (List.drop (x11.op - 1).toNat (List.take x11.op.toNat [(32 : UInt8), (45 : UInt8), (43 : UInt8)]) ++ x11.tx) + [(10 : UInt8)].length ≤ 9223372036854775807 ∧ (R FT X).m 68 [AV.ptr 2 0] [MObj.box 29 [strL p.old, strL p.new, AV.slice 5 (List.map encHk p.hs)], MObj.row 0 1 (List.map u8A (UB i j)) true (7 : Nat), MObj.box 62 [AV.any, AV.row 1 0 (List.length (UB i j)) (0 : Nat) (List.length (UB i j))], MObj.box 70 [intA x11.op, strL x11.tx, boolA x11.ne], MObj.box 70 [intA x11.op, strL x11.tx, boolA x11.ne]] = some (AV.tuple [], [MObj.box 29 [strL p.old, strL p.new, AV.slice 5 (List.map encHk p.hs)], MObj.row 0 1 (List.map u8A (UB i j)) true (7 : Nat), MObj.box 62 [AV.any, AV.row 1 0 (List.length (UB i j)) (0 : Nat) (List.length (UB i j))], MObj.box 70 [intA x11.op, strL x11.tx, boolA x11.ne], MObj.box 70 [intA x11.op, strL x11.tx, boolA x11.ne]]) ∧ (List.map u8A (UB i j)).length = List.length (UB i j) ∧ (0 : Nat) = (0
 : Nat) ∧ List.length (UB i j) = List.length (UB i j) ∧ List.length (UB i j) + List.length (List.drop (x11.op - 1).toNat (List.take x11.op.toNat [(32 : UInt8), (45 : UInt8), (43 : UInt8)]) ++ x11.tx ++ [(10 : UInt8)]) = List.length (UB i j) + ((List.drop (x11.op - 1).toNat (List.take x11.op.toNat [(32 : UInt8), (45 : UInt8), (43 : UInt8)])).length + List.length x11.tx + 1) ∧ List.length (UB i j) + ((List.drop (x11.op - 1).toNat (List.take x11.op.toNat [(32 : UInt8), (45 : UInt8), (43 : UInt8)])).length + List.length x11.tx + 1) ≤ 140737488355328 ∧ List.length (UB i j) + ((List.drop (x11.op - 1).toNat (List.take x11.op.toNat [(32 : UInt8), (45 : UInt8), (43 : UInt8)])).length + List.length x11.tx + 1) ≤ 9223372036854775807 ∧ (x11.ne = true → (R FT X).m 68 [AV.ptr 2 0] [MObj.box 29 [strL p.old, strL p.new, AV.slice 5 (List.map encHk p.hs)], MObj.row 0 1 (List.map u8A (UB i j) ++ List.map u8A (List.drop (x11.op - 1).toNat (List.take x11.op.toNat [(32 : UInt8), (45 : UInt8), (43 : UInt8)]) ++ x11.tx ++ [(10 : UInt8)])) true (7 : Nat), MObj.box 62
 [AV.any, AV.row 1 0 (List.length (UB i j) + ((List.drop (x11.op - 1).toNat (List.take x11.op.toNat [(32 : UInt8), (45 : UInt8), (43 : UInt8)])).length + List.length x11.tx + 1)) (0 : Nat) (List.length (UB i j) + ((List.drop (x11.op - 1).toNat (List.take x11.op.toNat [(32 : UInt8), (45 : UInt8), (43 : UInt8)])).length + List.length x11.tx + 1))], MObj.box 70 [intA x11.op, strL x11.tx, boolA x11.ne], MObj.box 70 [intA x11.op, strL x11.tx, boolA x11.ne]] = some (AV.tuple [], [MObj.box 29 [strL p.old, strL p.new, AV.slice 5 (List.map encHk p.hs)], MObj.row 0 1 (List.map u8A (UB i j) ++ List.map u8A (List.drop (x11.op - 1).toNat (List.take x11.op.toNat [(32 : UInt8), (45 : UInt8), (43 : UInt8)]) ++ x11.tx ++ [(10 : UInt8)])) true (7 : Nat), MObj.box 62 [AV.any, AV.row 1 0 (List.length (UB i j) + ((List.drop (x11.op - 1).toNat (List.take x11.op.toNat [(32 : UInt8), (45 : UInt8), (43 : UInt8)])).length + List.length x11.tx + 1)) (0 : Nat) (List.length (UB i j) + ((List.drop (x11.op - 1).toNat (List.take x11.op.toNat [(32 : UInt8), (45 : UInt8),
 (43 : UInt8)])).length + List.length x11.tx + 1))], MObj.box 70 [intA x11.op, strL x11.tx, boolA x11.ne], MObj.box 70 [intA x11.op, strL x11.tx, boolA x11.ne]]) ∧ (List.map u8A (UB i j) ++ List.map u8A (List.drop (x11.op - 1).toNat (List.take x11.op.toNat [(32 : UInt8), (45 : UInt8), (43 : UInt8)]) ++ x11.tx ++ [(10 : UInt8)])).length = List.length (UB i j) + ((List.drop (x11.op - 1).toNat (List.take x11.op.toNat [(32 : UInt8), (45 : UInt8), (43 : UInt8)])).length + List.length x11.tx + 1) ∧ (0 : Nat) = 0 ∧ List.length (UB i j) + ((List.drop (x11.op - 1).toNat (List.take x11.op.toNat [(32 : UInt8), (45 : UInt8), (43 : UInt8)])).length + List.length x11.tx + 1) = List.length (UB i j) + ((List.drop (x11.op - 1).toNat (List.take x11.op.toNat [(32 : UInt8), (45 : UInt8), (43 : UInt8)])).length + List.length x11.tx + 1) ∧ List.length (UB i j) + ((List.drop (x11.op - 1).toNat (List.take x11.op.toNat [(32 : UInt8), (45 : UInt8), (43 : UInt8)])).length + List.length x11.tx + 1) + [(92 : UInt8), (32 : UInt8), (78 : UInt8), (111 : UInt8), (32 : UInt8), (110 : UInt8), (101 : UInt8), (119 : UInt8),
 (108 : UInt8), (105 : UInt8), (110 : UInt8), (101 : UInt8), (32 : UInt8), (97 : UInt8), (116 : UInt8), (32 : UInt8), (101 : UInt8), (110 : UInt8), (100 : UInt8), (32 : UInt8), (111 : UInt8), (102 : UInt8), (32 : UInt8), (102 : UInt8), (105 : UInt8), (108 : UInt8), (101 : UInt8), (10 : UInt8)].length = List.length (UB i j) + ((List.drop (x11.op - 1).toNat (List.take x11.op.toNat [(32 : UInt8), (45 : UInt8), (43 : UInt8)])).length + List.length x11.tx + 1) + 28 ∧ List.length (UB i j) + ((List.drop (x11.op - 1).toNat (List.take x11.op.toNat [(32 : UInt8), (45 : UInt8), (43 : UInt8)])).length + List.length x11.tx + 1) + 28 ≤ (140737488355328 : Nat) ∧ List.length (UB i j) + ((List.drop (x11.op - 1).toNat (List.take x11.op.toNat [(32 : UInt8), (45 : UInt8), (43 : UInt8)])).length + List.length x11.tx + 1) + 28 ≤ (9223372036854775807 : Nat) ∧ InI64 ((↑j.fst : Int) + 1) ∧ ∃ (j14 : Nat × Hk), ((True ∧ List.map encHk p.hs = List.map encHk p.hs ∧ (↑p.hs.length : Int) = (↑p.hs.length : Int) ∧ (↑i : Int) = (↑i : Int) ∧ List.map encDL j.snd.ls = List.map encDL j14.snd.ls ∧ (↑j.snd.ls.length : Int) = (↑j14.snd.ls.length
 : Int) ∧ (↑j.fst : Int) + 1 = (↑j14.fst : Int) ∧ True) ∧ (p.old = p.old ∧ p.new = p.new ∧ List.map encHk p.hs = List.map encHk p.hs) ∧ List.map u8A (UB i j) ++ List.map u8A (List.drop (x11.op - 1).toNat (List.take x11.op.toNat [(32 : UInt8), (45 : UInt8), (43 : UInt8)]) ++ x11.tx ++ [(10 : UInt8)]) ++ List.map u8A [(92 : UInt8), (32 : UInt8), (78 : UInt8), (111 : UInt8), (32 : UInt8), (110 : UInt8), (101 : UInt8), (119 : UInt8), (108 : UInt8), (105 : UInt8), (110 : UInt8), (101 : UInt8), (32 : UInt8), (97 : UInt8), (116 : UInt8), (32 : UInt8), (101 : UInt8), (110 : UInt8), (100 : UInt8), (32 : UInt8), (111 : UInt8), (102 : UInt8), (32 : UInt8), (102 : UInt8), (105 : UInt8), (108 : UInt8), (101 : UInt8), (10 : UInt8)] = List.map u8A (UB i j14) ∧ True ∧ List.length (UB i j) + ((List.drop (x11.op - 1).toNat (List.take x11.op.toNat [(32 : UInt8), (45 : UInt8), (43 : UInt8)])).length + List.length x11.tx + 1) + 28 = List.length (UB i j14) ∧ (0 : Nat) = 0 ∧ List.length (UB i j) + ((List.drop (x11.op - 1).toNat (List.take x11.op.toNat [(32 : UInt8), (45 : UInt8), (43 : UInt8)])).length + List.length x11.tx + 1) + 28 =
 List.length (UB i j14)) ∧ UnJ p i j14 ∧ lnM j14 < lnM j) ∧ (x11.ne = false → InI64 ((↑j.fst : Int) + 1) ∧ ∃ (j16 : Nat × Hk), ((True ∧ List.map encHk p.hs = List.map encHk p.hs ∧ (↑p.hs.length : Int) = (↑p.hs.length : Int) ∧ (↑i : Int) = (↑i : Int) ∧ List.map encDL j.snd.ls = List.map encDL j16.snd.ls ∧ (↑j.snd.ls.length : Int) = (↑j16.snd.ls.length : Int) ∧ (↑j.fst : Int) + 1 = (↑j16.fst : Int) ∧ True) ∧ (p.old = p.old ∧ p.new = p.new ∧ List.map encHk p.hs = List.map encHk p.hs) ∧ List.map u8A (UB i j) ++ List.map u8A (List.drop (x11.op - 1).toNat (List.take x11.op.toNat [(32 : UInt8), (45 : UInt8), (43 : UInt8)]) ++ x11.tx ++ [(10 : UInt8)]) = List.map u8A (UB i j16) ∧ True ∧ List.length (UB i j) + ((List.drop (x11.op - 1).toNat (List.take x11.op.toNat [(32 : UInt8), (45 : UInt8), (43 : UInt8)])).length + List.length x11.tx + 1) = List.length (UB i j16) ∧ (0 : Nat) = 0 ∧ List.length (UB i j) + ((List.drop (x11.op - 1).toNat (List.take x11.op.toNat [(32 : UInt8), (45 : UInt8), (43 : UInt8)])).length + List.length x11.tx + 1) = List.length (UB i j16)) ∧ UnJ p i j16 ∧ lnM j16 < lnM j)) ∧ (decide ((↑j.fst : Int) < (↑j.snd.ls.length
 : Int)) = false → InI64 ((↑i : Int) + 1) ∧ ∃ (j18 : Nat), ((True ∧ List.map encHk p.hs = List.map encHk p.hs ∧ (↑p.hs.length : Int) = (↑p.hs.length : Int) ∧ (↑i : Int) + 1 = (↑j18 : Int) ∧ True) ∧ (p.old = p.old ∧ p.new = p.new ∧ List.map encHk p.hs = List.map encHk p.hs) ∧ List.map u8A (UB i j) = List.map u8A (UA j18) ∧ True ∧ List.length (UB i j) = List.length (UA j18) ∧ (0 : Nat) = 0 ∧ List.length (UB i j) = List.length (UA j18)) ∧ j18 ≤ p.hs.length ∧ p.hs.length - j18 < p.hs.length - i)) ∧ (decide ((↑i : Int) < (↑p.hs.length : Int)) = false → (R FT X).m 40 [AV.ptr 2 0] [MObj.box 29 [strL p.old, strL p.new, AV.slice 5 (List.map encHk p.hs)], MObj.row 0 1 (List.map u8A (UA i)) true (7 : Nat), MObj.box 62 [AV.any, AV.row 1 0 (List.length (UA i)) (0 : Nat) (List.length (UA i))]] = some (strL (UA i), [MObj.box 29 [strL p.old, strL p.new, AV.slice 5 (List.map encHk p.hs)], MObj.row 1 1 [] true (7 : Nat), MObj.box 62 [AV.any, AV.row 1 0 (List.length (UA i)) (0 : Nat) (List.length (UA i))]]) ∧ UA i = u)))) ?_
 refine ⟨(fo), fun h1_ => have h1 := nT h1_; ?_, fun h2_ => have h2 := nF h2_; ⟨(es _ ho), ?_, ?_, (es _ hn), ?_, ?_, (cc _ _ (by exact rfl)), rfl, rfl, rfl, ?_, ?_, ?_, (by simp), ⟨(0 : Nat), ⟨⟨trivial, rfl, rfl, (by omega), trivial⟩, ⟨rfl, rfl, rfl⟩, ?_, trivial, ?_, rfl, ?_⟩, (by omega)⟩, fun i => fun h4 => ⟨fun h5_ => have h5 := dT h5_; ⟨rfl, rfl, (by omega), fun x6 => fun h7 => ⟨(ex _ _ ?_ ?_), ?_, ?_, (ex _ _ ?_ ?_), ?_, ?_, (cc _ _ (by exact rfl)), (by simp), rfl, rfl, ?_, ?_, ?_, (by simp), ?_, fun j => fun h9 => ⟨fun h10_ => have h10 := dT h10_; ⟨rfl, rfl, (by omega), fun x11 => fun h12 => ⟨?_, ?_, ?_, (by omega), ?_, ?_, ?_, (cc _ _ (by exact rfl)), (by simp), rfl, rfl, ?_, ?_, ?_, fun h13 => ⟨(cc _ _ (by exact rfl)), ?_, rfl, rfl, rfl, ?_, ?_, ?_, ?_⟩, fun h15 => ⟨?_, ?_⟩⟩⟩, fun h17_ => have h17 := dF h17_; ⟨?_, ⟨i + (1 : Nat), ⟨⟨trivial, rfl, rfl, (by omega), trivial⟩, ⟨rfl, rfl, rfl⟩, ?_, trivial, ?_, rfl, ?_⟩, ⟨(by omega), (by omega)⟩⟩⟩⟩⟩⟩, fun h19_ => have h19 := dF h19_; ⟨(bstr _ _ _ _ _ _ _ _ _ _ (by exact rfl) (by exact rfl) (by exact (by simp)) (by exact (bytesV_map _)) ?_ (by exact rfl)), ?_⟩⟩⟩⟩
 all_goals have e1 := esc_len p.old
 all_goals have e2 := esc_len p.new
 all_goals have hA : ∀ i, (UA i).length ≤ 1000000000000 := fun i => by have := uoA_len (p := p) i; rw [hUA]; omega
 all_goals have hB : ∀ i j, UnI p i j → (UB i j).length ≤ 1000000000000 := fun i j u => by have := uoB_len u; rw [hUB]; omega
 all_goals have hA0 : [45, 45, 45, 32] ++ esc p.old ++ [10, 43, 43, 43, 32] ++ esc p.new ++ [10] = UA 0 := by rw [hUA]; simp [uoA, nmU]
 all_goals try have hAi := hA i
 all_goals try have hz := hp.hz _ (List.mem_of_getElem? h7)
 all_goals try have x1 := ext_len hz.fa hz.la
 all_goals try have x2 := ext_len hz.fb hz.lb
 all_goals have hhn := hp.hn
 all_goals try have hBi := hB _ _ h9.toUnI
 all_goals try have hz2 := hp.hz _ (List.mem_of_getElem? h9.at')
 all_goals try have hln := hz2.ln
 all_goals try have hl9 := hz2.tx _ (List.mem_of_getElem? h12)
 all_goals try have hop := h9.op h12
 all_goals try have hs9 := sgn_len x11.op
 all_goals try rw [sgn_cut hop]
 all_goals first
  | (simp only [List.length_append, List.length_cons, List.length_nil, List.length_map] <;> omega)
  | (rw [hu, uni_n (dcd_nf.1 h1)]; done)
  | exact hz.fa
  | exact hz.la
  | exact hz.fb
  | exact hz.lb
  | exact congrArg _ hA0
  | (rw [← hA0]; simp only [List.length_append, List.length_cons, List.length_nil] <;> omega)
  | (unfold InI64; omega)
  | omega
  | (rw [hUB, hUA, uoB_all h9.toUnI h17]; done)
  | (rw [hUA, uoA_all p (by omega), hu, uni_y (dcd_iff.1 h2)]; done)
  | skip
 ·have q := ub0 p i x6
  rw [← hUA, ← hUB] at q
  have ql := congrArg List.length q
  simp only [List.length_append, List.length_cons, List.length_nil] at ql
  exact ⟨(0, x6), ⟨⟨trivial, rfl, rfl, rfl, rfl, rfl, rfl, trivial⟩, ⟨rfl, rfl, rfl⟩, u8_join q, trivial, by omega, rfl, by omega⟩, ⟨h7, Nat.zero_le _⟩, dcd_iff.1 h2⟩
 ·have q := ubY (p := p) (i := i) h12 h13
  rw [← hUB] at q
  have ql := congrArg List.length q
  simp only [List.length_append, List.length_cons, List.length_nil] at ql
  refine ⟨(j.1 + 1, j.2), ⟨⟨trivial, rfl, rfl, rfl, rfl, rfl, rfl, trivial⟩, ⟨rfl, rfl, rfl⟩, ?_, trivial, ?_, rfl, ?_⟩, h9.next h12⟩
  ·rw [← List.map_append]; exact u8_join q
  ·omega
  ·omega
 ·have q := ubN (p := p) (i := i) h12 h15
  rw [← hUB] at q
  have ql := congrArg List.length q
  simp only [List.length_append, List.length_cons, List.length_nil] at ql
  refine ⟨(j.1 + 1, j.2), ⟨⟨trivial, rfl, rfl, rfl, rfl, rfl, rfl, trivial⟩, ⟨rfl, rfl, rfl⟩, ?_, trivial, ?_, rfl, ?_⟩, h9.next h12⟩
  ·exact u8_join q
  ·omega
  ·omega
end
end Go.Proofs.YtfbpbkcplpkndaaGreatDoor
end
section
namespace Go.Proofs.YtfbpbkcplpkndaaGreatDoor
set_option linter.unusedVariables false
set_option linter.unusedSimpArgs false
set_option maxRecDepth 100000
theorem cut_ln (s : Bs) (c : UInt8) : (Lib.cut s [c]).1.length ≤ s.length ∧ (Lib.cut s [c]).2.1.length ≤ s.length := by
 unfold Lib.cut
 constructor <;> split <;> simp <;> exact Nat.min_le_right _ _
section
variable {X : CallF}
theorem digits3_run (hI : LibC X) (hc : NumC X) (s : Bs) (hs : s.length ≤ 4000000000) : (R FT X).f 114 [strL s] = some (.tuple [intA (dgV s), boolA (dgO s)]) := by
 have hh := hI.hp s [45]
 have pa := parse_run (X := X) hc s (by omega)
 refine R_wp (Tr.c (AV.tuple [intA (numV s), intA (numE s)]) ((Tr.b true (Tr.c (boolA (Lib.hasPrefix s [(45 : UInt8)])) Tr.nil)).w.br ((Tr.c (boolA (Lib.hasPrefix s [(45 : UInt8)])) Tr.nil).br Tr.nil).w).w.w) rfl ?_
 refine Eq.mpr (by kernel_rfl : _ = ((R FT X).f 123 [strL s] = some (AV.tuple [intA (numV s), intA (numE s)]) ∧ (decide (numE s = 9) = true → (!decide (numE s = 1)) = true ∧ (R FT X).f 80 [strL s, strL [(45 : UInt8)]] = some (boolA (Lib.hasPrefix s [(45 : UInt8)])) ∧ (2147483648 : Int) = dgV s ∧ (!Lib.hasPrefix s [(45 : UInt8)]) = dgO s) ∧ (decide (numE s = 9) = false → ((!decide (numE s = 1)) = true → (R FT X).f 80 [strL s, strL [(45 : UInt8)]] = some (boolA (Lib.hasPrefix s [(45 : UInt8)])) ∧ numV s = dgV s ∧ (!Lib.hasPrefix s [(45 : UInt8)]) = dgO s) ∧ ((!decide (numE s = 1)) = false → numV s = dgV s ∧ false = dgO s)))) ?_
 refine ⟨(pa), fun h1_ => have h1 := dT h1_; ⟨(tnD (by omega)), (hh), ?_, ?_⟩, fun h2_ => have h2 := dF h2_; ⟨fun h3_ => have h3 := dnT h3_; ⟨(hh), ?_, ?_⟩, fun h4_ => have h4 := dnF h4_; ⟨?_, ?_⟩⟩⟩
 ·unfold dgV; rw [if_pos h1]
 ·unfold dgO; rw [h1]; rfl
 ·unfold dgV; rw [if_neg h2]
 ·unfold dgO; rw [decide_eq_true h3]; rfl
 ·unfold dgV; rw [if_neg h2]
 ·unfold dgO; rw [h4]; rfl
theorem part3_run (hI : LibC X) (hc : NumC X) (s : Bs) (hs : s.length ≤ 4000000000) : (R FT X).f 101 [strL s] = some (.tuple [intA (prA s), intA (prB s), boolA (prO s)]) := by
 have hh := hI.ct s [44] hs
 have dg := fun (s : Bs) h => digits3_run (X := X) hI hc s h
 refine R_wp (Tr.c (AV.tuple [strL (Lib.cut s [(44 : UInt8)]).fst, strL (Lib.cut s [(44 : UInt8)]).snd.fst, boolA (Lib.cut s [(44 : UInt8)]).snd.snd]) (Tr.c (AV.tuple [intA (dgV (Lib.cut s [(44 : UInt8)]).fst), boolA (dgO (Lib.cut s [(44 : UInt8)]).fst)]) ((Tr.c (AV.tuple [intA (dgV (Lib.cut s [(44 : UInt8)]).snd.fst), boolA (dgO (Lib.cut s [(44 : UInt8)]).snd.fst)]) (Tr.nil.br Tr.nil).w).br (Tr.nil.br Tr.nil).w).w.w)) rfl ?_
 refine Eq.mpr (by kernel_rfl : _ = ((R FT X).f 100 [strL s, strL [(44 : UInt8)]] = some (AV.tuple [strL (Lib.cut s [(44 : UInt8)]).fst, strL (Lib.cut s [(44 : UInt8)]).snd.fst, boolA (Lib.cut s [(44 : UInt8)]).snd.snd]) ∧ (R FT X).f 114 [strL (Lib.cut s [(44 : UInt8)]).fst] = some (AV.tuple [intA (dgV (Lib.cut s [(44 : UInt8)]).fst), boolA (dgO (Lib.cut s [(44 : UInt8)]).fst)]) ∧ ((Lib.cut s [(44 : UInt8)]).snd.snd = true → (R FT X).f 114 [strL (Lib.cut s [(44 : UInt8)]).snd.fst] = some (AV.tuple [intA (dgV (Lib.cut s [(44 : UInt8)]).snd.fst), boolA (dgO (Lib.cut s [(44 : UInt8)]).snd.fst)]) ∧ (dgO (Lib.cut s [(44 : UInt8)]).fst = true → dgV (Lib.cut s [(44 : UInt8)]).fst = prA s ∧ dgV (Lib.cut s [(44 : UInt8)]).snd.fst = prB s ∧ dgO (Lib.cut s [(44 : UInt8)]).snd.fst = prO s) ∧ (dgO (Lib.cut s [(44 : UInt8)]).fst = false → dgV (Lib.cut s [(44 : UInt8)]).fst = prA s ∧ dgV (Lib.cut s [(44 : UInt8)]).snd.fst = prB s ∧ false = prO s)) ∧ ((Lib.cut s [(44 : UInt8)]).snd.snd = false → (dgO (Lib.cut s [(44 : UInt8)]).fst = true → dgV (Lib.cut s [(44 : UInt8)]).fst = prA s ∧ (1 : Int) = prB s ∧ true = prO s) ∧ (dgO (Lib.cut s [(44 : UInt8)]).fst = false → dgV (Lib.cut s [(44 : UInt8)]).fst = prA
 s ∧ (1 : Int) = prB s ∧ false = prO s)))) ?_
 refine ⟨(hh), (dg _ ?_), fun h1 => ⟨(dg _ ?_), fun h2 => ⟨rfl, ?_, ?_⟩, fun h3 => ⟨rfl, ?_, ?_⟩⟩, fun h4 => ⟨fun h5 => ⟨rfl, ?_, ?_⟩, fun h6 => ⟨rfl, ?_, ?_⟩⟩⟩
 ·have := cut_ln s 44; omega
 ·have := cut_ln s 44; omega
 ·unfold prB; rw [if_pos h1]
 ·unfold prO; rw [h2, if_pos h1]; rfl
 ·unfold prB; rw [if_pos h1]
 ·unfold prO; rw [h3]; rfl
 ·unfold prB; rw [h4]; rfl
 ·unfold prO; rw [h5, h4]; rfl
 ·unfold prB; rw [h4]; rfl
 ·unfold prO; rw [h6]; rfl
end
end Go.Proofs.YtfbpbkcplpkndaaGreatDoor
end
section
namespace Go.Proofs.YtfbpbkcplpkndaaGreatDoor
set_option linter.unusedVariables false
set_option linter.unusedSimpArgs false
set_option maxRecDepth 100000
def ntV (s : Bs) : Int := if dgO s = true then numV s else 0
def ntF (s : Bs) : Bool := dgO s && decide (numE s = 0) && decide (numV s ≤ 2147483647)
section
variable {X : CallF}
end
end Go.Proofs.YtfbpbkcplpkndaaGreatDoor
end
section
namespace Go.Proofs.YtfbpbkcplpkndaaGreatDoor
set_option linter.unusedVariables false
set_option linter.unusedSimpArgs false
set_option maxRecDepth 100000
def ptA (s : Bs) : Int := ntV (Lib.cut s [44]).1
def ptB (s : Bs) : Int := if (Lib.cut s [44]).2.2 = true then ntV (Lib.cut s [44]).2.1 else 1
def ptO (s : Bs) : Bool := dgO (Lib.cut s [44]).1 && (if (Lib.cut s [44]).2.2 = true then dgO (Lib.cut s [44]).2.1 else true)
def ptFi (s : Bs) : Bool := ntF (Lib.cut s [44]).1 && (if (Lib.cut s [44]).2.2 = true then ntF (Lib.cut s [44]).2.1 else true)
structure CoI (s : Bs) (k : Nat) : Prop where
 le : k ≤ s.length
 no : ∀ c ∈ s.take k, c ≠ 44
theorem CoI.cut_no {s : Bs} {k : Nat} (h : CoI s k) (e : ¬ (k : Int) < s.length) : Lib.cut s [44] = (s, [], false) := by
 have := h.no
 rw [List.take_of_length_le (by omega)] at this
 exact Go.Proofs.YtfbpbkcplpkndaaGreatDoor.cut_no this
theorem CoI.cut_at {s : Bs} {k : Nat} {c : UInt8} (h : CoI s k) (e : s[k]? = some c) (hc : (c.toNat : Int) = 44) : Lib.cut s [44] = (s.take k, s.drop (k + 1), true) := by
 have : c = 44 := u8_of (n := 44) hc (by decide)
 subst this
 have q := Go.Proofs.YtfbpbkcplpkndaaGreatDoor.cut_at (b := s.drop (k + 1)) (t := []) h.no
 rwa [List.append_assoc, List.singleton_append, ← drop_get e, List.take_append_drop] at q
theorem CoI.next {s : Bs} {k : Nat} {c : UInt8} (h : CoI s k) (e : s[k]? = some c) (hc : ¬ (c.toNat : Int) = 44) : CoI s (k + 1) := by
 refine ⟨(List.getElem?_eq_some_iff.1 e).1, fun x hx => ?_⟩
 rw [take_succ_get e, List.mem_append, List.mem_singleton] at hx
 exact hx.elim (h.no x) fun q => by subst q; exact fun e => hc (by rw [e]; rfl)
section
variable {X : CallF}
end
end Go.Proofs.YtfbpbkcplpkndaaGreatDoor
end
section
namespace Go.Proofs.YtfbpbkcplpkndaaGreatDoor
set_option linter.unusedVariables false
set_option linter.unusedSimpArgs false
set_option maxRecDepth 100000
section
variable {X : CallF}
end
end Go.Proofs.YtfbpbkcplpkndaaGreatDoor
end
section
namespace Go.Proofs.YtfbpbkcplpkndaaGreatDoor
set_option linter.unusedVariables false
set_option linter.unusedSimpArgs false
def hdG (s : Bs) : HdN := if Lib.hasPrefix s [64, 64, 32, 45] = true then hdV s else ⟨0, 0, 0, 0⟩
theorem hdG_y {s : Bs} (h : hdE s = 0) : hdG s = hdV s := by
 unfold hdG; unfold hdE hdO at h
 split
 ·rfl
 ·rename_i q
  rw [Bool.not_eq_true] at q
  rw [q] at h; simp at h
def hdA (ls : List Bs) (k : Nat) : Nat := if hdE (lnAt ls k) = 0 then k + 1 else k
theorem hdA_n {ls : List Bs} {k : Nat} (h : hdE (lnAt ls k) ≠ 0) : hdA ls k = k := if_neg h
theorem hdA_y {ls : List Bs} {k : Nat} (h : hdE (lnAt ls k) = 0) : hdA ls k = k + 1 := if_pos h
theorem lnAt_eq {ls : List Bs} {k : Nat} {x : Bs} (h : ls[0 + k]? = some x) : lnAt ls k = x := by
 rw [Nat.zero_add] at h; unfold lnAt; rw [List.getD_eq_getElem?_getD, h]; rfl
def isB (ls : List Bs) (k : Nat) (p : Bs) : Bool := decide (k < ls.length) && Lib.hasPrefix (lnAt ls k) p
theorem hp_one {s : Bs} {c : UInt8} : Lib.hasPrefix s [c] = true ↔ s[0]? = some c := by
 cases s with
 | nil => simp [Lib.hasPrefix, List.isPrefixOf]
 | cons x s => simp [Lib.hasPrefix, List.isPrefixOf]; exact eq_comm
theorem isE {e : Int} {b : Bool} (h : (decide (e = 0) && b) = true) : b = true := by rw [Bool.and_eq_true] at h; exact h.2
theorem isE' {e : Int} {b : Bool} (h : (decide (e = 0) && b) = false) (h0 : e = 0) : b = false := by rw [decide_eq_true h0, Bool.true_and] at h; exact h
theorem isB_lt {ls : List Bs} {k : Nat} {p : Bs} (h : isB ls k p = true) : k < ls.length := by
 unfold isB at h; rw [Bool.and_eq_true] at h; exact of_decide_eq_true h.1
theorem isB_0 {ls : List Bs} {k : Nat} {c : UInt8} {x : Bs} (h : isB ls k [c] = true) (hx : ls[0 + k]? = some x) : x[0]? = some c := by
 unfold isB at h; rw [Bool.and_eq_true, lnAt_eq hx] at h; exact hp_one.1 h.2
theorem isB_1 {ls : List Bs} {k : Nat} {c : UInt8} {x : Bs} (h : isB ls k [c] = true) (hx : ls[0 + k]? = some x) : 1 ≤ x.length := by
 have := isB_0 h hx
 have := (List.getElem?_eq_some_iff.1 this).1
 omega
theorem isB_n {ls : List Bs} {k : Nat} {c : UInt8} {x : Bs} (h : isB ls k [c] = false) (hx : ls[k]? = some x) : x[0]? ≠ some c := fun q => by
 unfold isB at h
 have hk := (List.getElem?_eq_some_iff.1 hx).1
 rw [decide_eq_true hk, lnAt_eq (by rw [Nat.zero_add]; exact hx), hp_one.2 q] at h
 cases h
theorem neB_t {ls : List Bs} {k : Nat} {x : Bs} (h : ls[0 + (k + 1)]? = some x) (hx : x = [92, 32, 78, 111, 32, 110, 101, 119, 108, 105, 110, 101, 32, 97, 116, 32, 101, 110, 100, 32, 111, 102, 32, 102, 105, 108, 101]) : neB ls (k + 1) = true := by
 unfold neB; rw [Nat.zero_add] at h; rw [h, hx]; exact decide_eq_true rfl
theorem neB_f {ls : List Bs} {k : Nat} {x : Bs} (h : ls[0 + (k + 1)]? = some x) (hx : ¬ x = [92, 32, 78, 111, 32, 110, 101, 119, 108, 105, 110, 101, 32, 97, 116, 32, 101, 110, 100, 32, 111, 102, 32, 102, 105, 108, 101]) : neB ls (k + 1) = false := by
 unfold neB; rw [Nat.zero_add] at h; rw [h]; exact decide_eq_false fun q => hx (by injection q)
theorem neB_o {ls : List Bs} {k : Nat} (h : ¬ (k : Int) + 1 < ls.length) : neB ls (k + 1) = false := by
 unfold neB; rw [List.getElem?_eq_none (by omega)]; exact decide_eq_false fun q => by cases q
noncomputable def hkLn (ls : List Bs) (k : Nat) : List DL := if hdE (lnAt ls k) = 0 then (hkB ls k).2.2 else []
structure HunkI (ls : List Bs) (k : Nat) (j : Nat × Int × Int × Int × List DL) : Prop where
 le : j.1 ≤ ls.length
 ia : InI64 j.2.2.1
 ib : InI64 j.2.2.2.1
 ln : j.2.2.2.2.length ≤ j.1
 ok : j.2.1 = 0 → hdE (lnAt ls k) = 0 ∧ Bd ls j.2.2.1 j.2.2.2.1 j.1 j.2.2.2.2 (hkB ls k)
 bad : j.2.1 ≠ 0 → hdE (lnAt ls k) = j.2.1 ∧ k = j.1 ∧ j.2.2.2.2 = []
def hkM (ls : List Bs) (j : Nat × Int × Int × Int × List DL) : Nat := if j.2.1 = 0 then ls.length - j.1 + 1 else 0
section
variable {ls : List Bs} {k : Nat} {j : Nat × Int × Int × Int × List DL}
theorem dgV_in (s : Bs) : InI64 (dgV s) := by
 unfold dgV; split
 ·unfold InI64; omega
 ·exact numV_in s
theorem prB_in (s : Bs) : InI64 (prB s) := by
 unfold prB; split
 ·exact dgV_in _
 ·unfold InI64; omega
theorem hdG_in (s : Bs) : InI64 (hdG s).la ∧ InI64 (hdG s).lb := by
 unfold hdG; split
 ·exact ⟨prB_in _, prB_in _⟩
 ·exact ⟨by unfold InI64; decide, by unfold InI64; decide⟩
theorem HunkI.init (hk : k < ls.length) : HunkI ls k (hdA ls k, hdE (lnAt ls k), (hdG (lnAt ls k)).la, (hdG (lnAt ls k)).lb, []) := by
 refine ⟨?_, (hdG_in _).1, (hdG_in _).2, Nat.zero_le _, fun h => ?_, fun h => ?_⟩
 ·show hdA ls k ≤ ls.length
  unfold hdA; split <;> omega
 ·have h : hdE (lnAt ls k) = 0 := h
  refine ⟨h, ?_⟩
  show Bd ls (hdG (lnAt ls k)).la (hdG (lnAt ls k)).lb (hdA ls k) [] (hkB ls k)
  rw [hdG_y h, hdA_y h]
  exact bdR_ok _ _ _ _
 ·exact ⟨rfl, (hdA_n h).symm, rfl⟩
theorem HunkI.step {op a' b' : Int} {k' : Nat} {t : Bool} {x : Bs} (h : HunkI ls k j) (e : j.2.1 = 0) (hx : ls[0 + j.1]? = some x) (ho : opP x j.2.2.1 j.2.2.2.1 = some op)
    (ha : a' = if op = 3 then j.2.2.1 else j.2.2.1 - 1) (hb : b' = if op = 2 then j.2.2.2.1 else j.2.2.2.1 - 1) (hn : neB ls (j.1 + 1) = t) (hk : k' = if t = true then j.1 + 1 + 1 else j.1 + 1) : HunkI ls k (k', j.2.1, a', b', j.2.2.2.2 ++ [⟨op, (x.take x.length).drop 1, t⟩]) := by
  rw [Nat.zero_add] at hx
  have hl := (List.getElem?_eq_some_iff.1 hx).1
  obtain ⟨h1, h2⟩ := h.ok e
  have hia := h.ia
  have hib := h.ib
  have hq : nxt ls (j.1 + 1) = k' := by unfold nxt; rw [hn, hk]
  have hle : k' ≤ ls.length := by rw [← hq]; exact nxt_le (by omega)
  have hge : j.1 + 1 ≤ k' := by rw [← hq]; exact nxt_ge _
  refine ⟨hle, ?_, ?_, ?_, fun _ => ⟨h1, ?_⟩, fun q => absurd e q⟩
  · show InI64 a'
    rcases opP_cases ho with q | q | q <;> obtain ⟨rfl, q2, q⟩ := q <;> rw [ha] <;> simp <;> unfold InI64 at * <;> omega
  · show InI64 b'
    rcases opP_cases ho with q | q | q <;> obtain ⟨rfl, q2, q⟩ := q <;> rw [hb] <;> simp <;> unfold InI64 at * <;> omega
  · show (j.2.2.2.2 ++ _).length ≤ k'
    rw [List.length_append, List.length_singleton]
    have := h.ln
    omega
  · show Bd ls a' b' k' (j.2.2.2.2 ++ _) (hkB ls k)
    rw [List.take_of_length_le (Nat.le_refl _)]
    generalize hkB ls k = r at h2 ⊢
    cases h2 with
    | fin q => rcases opP_cases ho with q' | q' | q' <;> omega
    | out _ q => omega
    | bad _ q q2 => rw [hx] at q; cases q; rw [ho] at q2; cases q2
    | go q q2 q3 =>
      rw [hx] at q; cases q; rw [ho] at q2; cases q2
      rw [ha, hb, ← hq, ← hn]
      exact q3
theorem hkM_lt {k' : Nat} {a' b' : Int} {x : Bs} {acc : List DL} (e : j.2.1 = 0) (hx : ls[0 + j.1]? = some x) (h : j.1 < k') : hkM ls (k', j.2.1, a', b', acc) < hkM ls j := by
 have hl := (List.getElem?_eq_some_iff.1 hx).1
 unfold hkM
 rw [if_pos e, if_pos e]
 simp only
 omega
theorem opP_1 {x : Bs} {a b : Int} (h : x[0]? = some 32) (ha : 0 < a) (hb : 0 < b) : opP x a b = some 1 := by unfold opP; rw [if_pos ⟨h, ha, hb⟩]
theorem opP_2 {x : Bs} {a b : Int} (h : x[0]? = some 45) (ha : 0 < a) : opP x a b = some 2 := by unfold opP; rw [if_neg (by rw [h]; rintro ⟨q, -⟩; cases q), if_pos ⟨h, ha⟩]
theorem opP_3 {x : Bs} {a b : Int} (h : x[0]? = some 43) (hb : 0 < b) : opP x a b = some 3 := by unfold opP; rw [if_neg (by rw [h]; rintro ⟨q, -⟩; cases q), if_neg (by rw [h]; rintro ⟨q, -⟩; cases q), if_pos ⟨h, hb⟩]
theorem HunkI.s1 {t : Bool} {x : Bs} {k' : Nat} (h : HunkI ls k j) (e : j.2.1 = 0) (hx : ls[0 + j.1]? = some x) (p : (decide (j.2.1 = 0) && isB ls j.1 [32]) = true) (ha : 0 < j.2.2.1) (hb : 0 < j.2.2.2.1) (hn : neB ls (j.1 + 1) = t) (hk : k' = if t = true then j.1 + 1 + 1 else j.1 + 1) : HunkI ls k (k', j.2.1, j.2.2.1 - 1, j.2.2.2.1 - 1, j.2.2.2.2 ++ [⟨1, (x.take x.length).drop 1, t⟩]) :=
 h.step e hx (opP_1 (isB_0 (isE p) hx) ha hb) rfl rfl hn hk
theorem HunkI.s2 {t : Bool} {x : Bs} {k' : Nat} (h : HunkI ls k j) (e : j.2.1 = 0) (hx : ls[0 + j.1]? = some x) (p : (decide (j.2.1 = 0) && isB ls j.1 [45]) = true) (ha : 0 < j.2.2.1) (hn : neB ls (j.1 + 1) = t) (hk : k' = if t = true then j.1 + 1 + 1 else j.1 + 1) : HunkI ls k (k', j.2.1, j.2.2.1 - 1, j.2.2.2.1, j.2.2.2.2 ++ [⟨2, (x.take x.length).drop 1, t⟩]) :=
 h.step e hx (opP_2 (isB_0 (isE p) hx) ha) rfl rfl hn hk
theorem HunkI.s3 {t : Bool} {x : Bs} {k' : Nat} (h : HunkI ls k j) (e : j.2.1 = 0) (hx : ls[0 + j.1]? = some x) (p : (decide (j.2.1 = 0) && isB ls j.1 [43]) = true) (hb : 0 < j.2.2.2.1) (hn : neB ls (j.1 + 1) = t) (hk : k' = if t = true then j.1 + 1 + 1 else j.1 + 1) : HunkI ls k (k', j.2.1, j.2.2.1, j.2.2.2.1 - 1, j.2.2.2.2 ++ [⟨3, (x.take x.length).drop 1, t⟩]) :=
 h.step e hx (opP_3 (isB_0 (isE p) hx) hb) rfl rfl hn hk
def HunkE (ls : List Bs) (k : Nat) (j : Nat × Int × Int × Int × List DL) (e : Int) : Prop := e = hkE ls k ∧ j.1 = hkA ls k ∧ j.2.2.2.2 = hkLn ls k
theorem HunkI.end (h : HunkI ls k j) (e : j.2.1 = 0) {r : Int × Nat × List DL} (hr : hkB ls k = r) (h1 : r.2.1 = j.1) (h2 : r.2.2 = j.2.2.2.2) : HunkE ls k j r.1 := by
 obtain ⟨q, -⟩ := h.ok e
 refine ⟨?_, ?_, ?_⟩
 ·unfold hkE; rw [if_pos q, hr]
 ·unfold hkA; rw [if_pos q, hr, h1]
 ·unfold hkLn; rw [if_pos q, hr, h2]
theorem HunkI.fin (h : HunkI ls k j) (e : j.2.1 = 0) (ha : ¬ 0 < j.2.2.1) (hb : ¬ 0 < j.2.2.2.1) : HunkE ls k j j.2.1 := by
 rw [e]
 have h2 := (h.ok e).2
 have hr : hkB ls k = (0, j.1, j.2.2.2.2) := h2.det (.fin (by omega))
 exact h.end e hr rfl rfl
theorem HunkI.err (h : HunkI ls k j) (e : ¬ j.2.1 = 0) : HunkE ls k j j.2.1 := by
 obtain ⟨q1, q2, q3⟩ := h.bad e
 have hn : ¬ hdE (lnAt ls k) = 0 := by rw [q1]; exact e
 refine ⟨?_, ?_, ?_⟩
 ·unfold hkE; rw [if_neg hn, q1]
 ·unfold hkA; rw [if_neg hn, q2]
 ·unfold hkLn; rw [if_neg hn, q3]
theorem HunkI.out (h : HunkI ls k j) (e : j.2.1 = 0) (hab : 0 < j.2.2.1 ∨ 0 < j.2.2.2.1) (q1 : (decide (j.2.1 = 0) && isB ls j.1 [32]) = false ∨ ¬ 0 < j.2.2.1 ∨ ¬ 0 < j.2.2.2.1) (q2 : (decide (j.2.1 = 0) && isB ls j.1 [45]) = false ∨ ¬ 0 < j.2.2.1) (q3 : (decide (j.2.1 = 0) && isB ls j.1 [43]) = false ∨ ¬ 0 < j.2.2.2.1) : HunkE ls k j 1 := by
 have h2 := (h.ok e).2
 have hr : hkB ls k = (1, j.1, j.2.2.2.2) := by
  cases hl : ls[j.1]? with
  | none => exact h2.det (.out hab (List.getElem?_eq_none_iff.1 hl))
  | some x =>
   refine h2.det (.bad hab hl ?_)
   unfold opP
   rw [if_neg, if_neg, if_neg]
   ·rintro ⟨p, p2⟩
    rcases q3 with q3 | q3
    ·exact isB_n (isE' q3 e) hl p
    ·exact q3 p2
   ·rintro ⟨p, p2⟩
    rcases q2 with q2 | q2
    ·exact isB_n (isE' q2 e) hl p
    ·exact q2 p2
   ·rintro ⟨p, p2, p3⟩
    rcases q1 with q1 | q1 | q1
    ·exact isB_n (isE' q1 e) hl p
    ·exact q1 p2
    ·exact q1 p3
 exact h.end e hr rfl rfl
theorem HunkE.e {e : Int} (h : HunkE ls k j e) : e = hkE ls k := h.1
theorem HunkE.a {e : Int} (h : HunkE ls k j e) : (j.1 : Int) = hkA ls k := by rw [h.2.1]
theorem HunkE.n {e : Int} (h : HunkE ls k j e) : j.2.2.2.2.length = (hkLn ls k).length := by rw [h.2.2]
theorem HunkE.l {e : Int} {f : DL → AV} (h : HunkE ls k j e) : j.2.2.2.2.map f = (hkLn ls k).map f := by rw [h.2.2]
end
end Go.Proofs.YtfbpbkcplpkndaaGreatDoor
end
section
namespace Go.Proofs.YtfbpbkcplpkndaaGreatDoor
set_option linter.unusedVariables false
set_option linter.unusedSimpArgs false
set_option maxRecDepth 100000
set_option maxHeartbeats 2000000
theorem tpr4 {s : Bs} (h : Lib.hasPrefix s [64, 64, 32, 45] = true) : Lib.trimPrefix s [64, 64, 32, 45] = s.drop 4 := by unfold Lib.trimPrefix; rw [if_pos h]; rfl
theorem hdG_p {s : Bs} (h : Lib.hasPrefix s [64, 64, 32, 45] = true) : hdG s = hdV s := by unfold hdG; rw [if_pos h]
theorem hdG_n {s : Bs} (h : Lib.hasPrefix s [64, 64, 32, 45] = false) : hdG s = ⟨0, 0, 0, 0⟩ := by unfold hdG; rw [if_neg (by rw [h]; decide)]
theorem hdE_o {s : Bs} (h : hdO s = false) : hdE s = 1 := by unfold hdE; rw [if_neg (by rw [h]; decide)]
theorem hdE_p {s : Bs} (h : Lib.hasPrefix s [64, 64, 32, 45] = false) : hdE s = 1 := hdE_o (by unfold hdO; rw [h]; rfl)
def hdY (s : Bs) : Bs × Bs × Bool := Lib.cut (Lib.trimSuffix (Lib.trimPrefix s [64, 64, 32, 45]) [32, 64, 64]) [32, 43]
theorem hdX_y {s : Bs} (h : Lib.hasPrefix s [64, 64, 32, 45] = true) : hdX s = hdY s := by unfold hdX hdY hdT; rw [tpr4 h]
theorem hdV_y {s : Bs} (h : Lib.hasPrefix s [64, 64, 32, 45] = true) : hdG s = ⟨prA (hdY s).1, prB (hdY s).1, prA (hdY s).2.1, prB (hdY s).2.1⟩ := by rw [hdG_p h]; unfold hdV; rw [hdX_y h]
theorem hdE_s {s : Bs} (h0 : Lib.hasPrefix s [64, 64, 32, 45] = true) (h : Lib.hasSuffix (Lib.trimPrefix s [64, 64, 32, 45]) [32, 64, 64] = false) : hdE s = 1 := hdE_o (by rw [tpr4 h0] at h; unfold hdO; rw [h]; simp)
theorem hdE_c {s : Bs} (h0 : Lib.hasPrefix s [64, 64, 32, 45] = true) (h : (hdY s).2.2 = false) : hdE s = 1 := hdE_o (by rw [← hdX_y h0] at h; unfold hdO; rw [h]; simp)
theorem hdE_a {s : Bs} (h0 : Lib.hasPrefix s [64, 64, 32, 45] = true) (h : prO (hdY s).1 = false) : hdE s = 1 := hdE_o (by rw [← hdX_y h0] at h; unfold hdO; rw [h]; simp)
theorem hdE_b {s : Bs} (h0 : Lib.hasPrefix s [64, 64, 32, 45] = true) (h : prO (hdY s).2.1 = false) : hdE s = 1 := hdE_o (by rw [← hdX_y h0] at h; unfold hdO; rw [h]; simp)
theorem hdO_y {s : Bs} (h1 : Lib.hasPrefix s [64, 64, 32, 45] = true) (h2 : Lib.hasSuffix (Lib.trimPrefix s [64, 64, 32, 45]) [32, 64, 64] = true) (h3 : (hdY s).2.2 = true) (h4 : prO (hdY s).1 = true) (h5 : prO (hdY s).2.1 = true) : hdO s = true := by
 rw [tpr4 h1] at h2; unfold hdO; rw [hdX_y h1, h1, h2, h3, h4, h5]; rfl
theorem hdE_2 {s : Bs} (h1 : Lib.hasPrefix s [64, 64, 32, 45] = true) (h : hdO s = true) (q : ¬ (prA (hdY s).1 ≤ 2147483647 ∧ prB (hdY s).1 ≤ 2147483647 ∧ prA (hdY s).2.1 ≤ 2147483647 ∧ prB (hdY s).2.1 ≤ 2147483647)) : hdE s = 2 := by unfold hdE; rw [if_pos h, ← hdG_p h1, hdV_y h1, if_neg q]
theorem hdE_0 {s : Bs} (h1 : Lib.hasPrefix s [64, 64, 32, 45] = true) (h : hdO s = true) (q : prA (hdY s).1 ≤ 2147483647 ∧ prB (hdY s).1 ≤ 2147483647 ∧ prA (hdY s).2.1 ≤ 2147483647 ∧ prB (hdY s).2.1 ≤ 2147483647) : hdE s = 0 := by unfold hdE; rw [if_pos h, ← hdG_p h1, hdV_y h1, if_pos q]
theorem tp_len (s p : Bs) : (Lib.trimPrefix s p).length ≤ s.length := by
 unfold Lib.trimPrefix; split
 ·rw [List.length_drop]; omega
 ·exact Nat.le_refl _
theorem ts_len (s p : Bs) : (Lib.trimSuffix s p).length ≤ s.length := Lib.trimSuffix_le s p
theorem cut_len (s p : Bs) : (Lib.cut s p).1.length ≤ s.length ∧ (Lib.cut s p).2.1.length ≤ s.length := by
 unfold Lib.cut
 split <;> simp <;> omega
theorem mx4n {a b c d n : Int} (h : n < if d > (if c > (if b > a then b else a) then c else (if b > a then b else a)) then d else (if c > (if b > a then b else a) then c else (if b > a then b else a))) (q : a ≤ n ∧ b ≤ n ∧ c ≤ n ∧ d ≤ n) : False := by
 (repeat' split at h) <;> omega
theorem mx4y {a b c d n : Int} (h : ¬ (n < if d > (if c > (if b > a then b else a) then c else (if b > a then b else a)) then d else (if c > (if b > a then b else a) then c else (if b > a then b else a)))) : a ≤ n ∧ b ≤ n ∧ c ≤ n ∧ d ≤ n := by
 (repeat' split at h) <;> omega
section
variable {X : CallF}
theorem is3_run (hI : LibC X) (ls : List Bs) (k n : Nat) (e : Int) (p : Bs) (hn : n = ls.length) (hl : ls.length ≤ 100000000) (P : List Pt) (o nn : Bs) (hs : List Hk) (hq : Nat) (acc : List DL) (fa la fb lb op : Int) (tx : ByteArray) (ne : Bool) (ha : Nat) : (R FT X).m 50 [.ptr 1 0, strL p] [.row 0 1 (ls.map strL) true 0, .box 83 [.row 0 0 n 0 n, intA k, intA e], .row 0 3 (P.map encPt) true 1, .box 29 [strL o, strL nn, .row 4 0 hq 0 hq], .row 0 5 (hs.map encHk) true 1, .row 0 3 [] true 1, .box 46 [intA 0, intA 0, intA 0, intA 0, .row 5 0 0 0 0], .row 0 3 (acc.map encDL) true 1, .box 46 [intA fa, intA la, intA fb, intA lb, .row 7 0 ha 0 ha], .box 70 [intA op, .val (.string tx), boolA ne]] = some (boolA (decide (e = 0) && isB ls k p), [.row 0 1 (ls.map strL) true 0, .box 83 [.row 0 0 n 0 n, intA k, intA e], .row 0 3 (P.map encPt) true 1, .box 29 [strL o, strL nn, .row 4 0 hq 0 hq], .row 0 5 (hs.map encHk) true 1, .row 0 3 [] true 1, .box 46 [intA 0, intA 0, intA 0, intA 0, .row 5 0 0 0 0], .row 0 3 (acc.map encDL) true 1, .box 46 [intA fa, intA la, intA fb, intA lb, .row 7 0 ha 0 ha], .box 70 [intA op, .val (.string tx), boolA ne]]) := by
 have hh := hI.hp
 subst hn
 refine RM_wp (((Tr.k ls.length ((Tr.k k (Tr.ix strL ls ((0 : Nat) + k) fun (x3 : Bs) ↦ Tr.c (boolA (Lib.hasPrefix x3 p)) Tr.nil)).br Tr.nil)).br (Tr.b false Tr.nil)).w) rfl ?_
 refine Eq.mpr (by kernel_rfl : _ = ((decide (e = 0) = true → (List.map strL ls).length = ls.length ∧ (List.take ls.length (List.drop (0 : Nat) (List.map strL ls))).length = ls.length ∧ (decide ((↑k : Int) < (↑ls.length : Int)) = true → (List.map strL ls).length = ls.length ∧ (↑k : Int) = (↑k : Int) ∧ k < ls.length ∧ List.map strL ls = List.map strL ls ∧ (List.map strL ls).length = ls.length ∧ (0 : Nat) + k = 0 + k ∧ (0 : Nat) + k < ls.length ∧ ∀ (x3 : Bs), ls[(0 : Nat) + k]? = some x3 → (R FT X).f 80 [strL x3, strL p] = some (boolA (Lib.hasPrefix x3 p)) ∧ Lib.hasPrefix x3 p = (decide (e = 0) && isB ls k p) ∧ List.map strL ls = List.map strL ls ∧ ((ls.length = ls.length ∧ (0 : Nat) = 0 ∧ ls.length = ls.length) ∧ (↑k : Int) = (↑k : Int) ∧ e = e) ∧ List.map encPt P = List.map encPt P ∧ (o = o ∧ nn = nn ∧ hq = hq ∧ (0 : Nat) = 0 ∧ hq = hq) ∧ List.map encHk hs = List.map encHk hs ∧ @List.nil AV = [] ∧ ((0 : Int) = 0 ∧ (0 : Int) = 0 ∧ (0 : Int) = 0 ∧ (0 : Int) = 0 ∧ (0 : Nat) = 0 ∧ (0 : Nat) = 0 ∧ (0 : Nat) = 0) ∧ List.map encDL acc = List.map encDL acc ∧ (fa = fa ∧ la = la ∧ fb = fb ∧ lb = lb ∧ ha = ha ∧ (0 : Nat) = (0
 : Nat) ∧ ha = ha) ∧ op = op ∧ toL tx = toL tx ∧ ne = ne) ∧ (decide ((↑k : Int) < (↑ls.length : Int)) = false → false = (decide (e = 0) && isB ls k p) ∧ List.map strL ls = List.map strL ls ∧ ((ls.length = ls.length ∧ (0 : Nat) = 0 ∧ ls.length = ls.length) ∧ (↑k : Int) = (↑k : Int) ∧ e = e) ∧ List.map encPt P = List.map encPt P ∧ (o = o ∧ nn = nn ∧ hq = hq ∧ (0 : Nat) = 0 ∧ hq = hq) ∧ List.map encHk hs = List.map encHk hs ∧ @List.nil AV = [] ∧ ((0 : Int) = 0 ∧ (0 : Int) = 0 ∧ (0 : Int) = 0 ∧ (0 : Int) = 0 ∧ (0 : Nat) = 0 ∧ (0 : Nat) = 0 ∧ (0 : Nat) = 0) ∧ List.map encDL acc = List.map encDL acc ∧ (fa = fa ∧ la = la ∧ fb = fb ∧ lb = lb ∧ ha = ha ∧ (0 : Nat) = 0 ∧ ha = ha) ∧ op = op ∧ toL tx = toL tx ∧ ne = ne)) ∧ (decide (e = 0) = false → false = false ∧ false = (decide (e = 0) && isB ls k p) ∧ List.map strL ls = List.map strL ls ∧ ((ls.length = ls.length ∧ (0 : Nat) = 0 ∧ ls.length = ls.length) ∧ (↑k : Int) = (↑k : Int) ∧ e = e) ∧ List.map encPt P = List.map encPt P ∧ (o = o ∧ nn = nn ∧ hq = hq ∧ (0 : Nat) = 0 ∧ hq = hq) ∧ List.map encHk hs = List.map encHk hs ∧ @List.nil
 AV = [] ∧ ((0 : Int) = 0 ∧ (0 : Int) = 0 ∧ (0 : Int) = 0 ∧ (0 : Int) = 0 ∧ (0 : Nat) = 0 ∧ (0 : Nat) = 0 ∧ (0 : Nat) = 0) ∧ List.map encDL acc = List.map encDL acc ∧ (fa = fa ∧ la = la ∧ fb = fb ∧ lb = lb ∧ ha = ha ∧ (0 : Nat) = 0 ∧ ha = ha) ∧ op = op ∧ toL tx = toL tx ∧ ne = ne))) ?_
 refine ⟨fun h1_ => have h1 := dT h1_; ⟨(by simp), (by simp), fun h2_ => have h2 := dT h2_; ⟨(by simp), rfl, (by omega), rfl, (by simp), rfl, (by omega), fun x3 => fun h4 => ⟨(hh _ _), ?_, rfl, ⟨⟨rfl, rfl, rfl⟩, rfl, rfl⟩, rfl, ⟨rfl, rfl, rfl, rfl, rfl⟩, rfl, rfl, ⟨rfl, rfl, rfl, rfl, rfl, rfl, rfl⟩, rfl, ⟨rfl, rfl, rfl, rfl, rfl, rfl, rfl⟩, rfl, rfl, rfl⟩⟩, fun h5_ => have h5 := dF h5_; ⟨?_, rfl, ⟨⟨rfl, rfl, rfl⟩, rfl, rfl⟩, rfl, ⟨rfl, rfl, rfl, rfl, rfl⟩, rfl, rfl, ⟨rfl, rfl, rfl, rfl, rfl, rfl, rfl⟩, rfl, ⟨rfl, rfl, rfl, rfl, rfl, rfl, rfl⟩, rfl, rfl, rfl⟩⟩, fun h6_ => have h6 := dF h6_; ⟨rfl, ?_, rfl, ⟨⟨rfl, rfl, rfl⟩, rfl, rfl⟩, rfl, ⟨rfl, rfl, rfl, rfl, rfl⟩, rfl, rfl, ⟨rfl, rfl, rfl, rfl, rfl, rfl, rfl⟩, rfl, ⟨rfl, rfl, rfl, rfl, rfl, rfl, rfl⟩, rfl, rfl, rfl⟩⟩
 ·unfold isB; rw [lnAt_eq h4, decide_eq_true h1, decide_eq_true (by omega)]; rfl
 ·unfold isB; rw [decide_eq_false (by omega : ¬ k < ls.length)]; simp
 ·rw [decide_eq_false (by assumption)]; rfl
theorem head3_run (hI : LibC X) (hc : NumC X) (ls : List Bs) (k n : Nat) (hn : n = ls.length) (hl : ls.length ≤ 100000000) (hx : ∀ y ∈ ls, y.length ≤ 10000000) (hk : k < ls.length) (P : List Pt) (o nn : Bs) (hs : List Hk) (hq : Nat) : (R FT X).m 81 [.ptr 1 0] [.row 0 1 (ls.map strL) true 0, .box 83 [.row 0 0 n 0 n, intA k, intA 0], .row 0 3 (P.map encPt) true 1, .box 29 [strL o, strL nn, .row 4 0 hq 0 hq], .row 0 5 (hs.map encHk) true 1, .row 0 3 [] true 1, .box 46 [intA 0, intA 0, intA 0, intA 0, .row 5 0 0 0 0]] = some (.agg [intA (hdG (lnAt ls k)).fa, intA (hdG (lnAt ls k)).la, intA (hdG (lnAt ls k)).fb, intA (hdG (lnAt ls k)).lb, .row 7 0 0 0 0], [.row 0 1 (ls.map strL) true 0, .box 83 [.row 0 0 n 0 n, intA (hdA ls k), intA (hdE (lnAt ls k))], .row 0 3 (P.map encPt) true 1, .box 29 [strL o, strL nn, .row 4 0 hq 0 hq], .row 0 5 (hs.map encHk) true 1, .row 0 3 [] true 1, .box 46 [intA 0, intA 0, intA 0, intA 0, .row 5 0 0 0 0], .row 0 3 [] true 1]) := by
 have hm := maxLen_le
 have cp := hI.cp
 have pa := fun (s : Bs) h => part3_run (X := X) hI hc s h
 have cs := hI.cs
 have ct := fun (s p : Bs) h => hI.ct s p h
 subst hn
 have hxl : ∀ y, lnAt ls k = y → y.length ≤ 10000000 := fun y h => hx y (by rw [← h]; unfold lnAt; rw [List.getD_eq_getElem?_getD, List.getElem?_eq_getElem hk]; exact List.getElem_mem hk)
 refine RM_wp ((Tr.k ls.length (Tr.b true (Tr.k k (Tr.ix strL ls ((0 : Nat) + k) fun (x1 : Bs) ↦ Tr.c (AV.tuple [strL (Lib.trimPrefix x1 [(64 : UInt8), (64 : UInt8), (32 : UInt8), (45 : UInt8)]), boolA (Lib.hasPrefix x1 [(64 : UInt8), (64 : UInt8), (32 : UInt8), (45 : UInt8)])]) ((Tr.b true Tr.nil).w.w.br (Tr.b false (Tr.c (AV.tuple [strL (Lib.trimSuffix (Lib.trimPrefix x1 [(64 : UInt8), (64 : UInt8), (32 : UInt8), (45 : UInt8)]) [(32 : UInt8), (64 : UInt8), (64 : UInt8)]), boolA (Lib.hasSuffix (Lib.trimPrefix x1 [(64 : UInt8), (64 : UInt8), (32 : UInt8), (45 : UInt8)]) [(32 : UInt8), (64 : UInt8), (64 : UInt8)])]) (Tr.c (AV.tuple [strL (Lib.cut (Lib.trimSuffix (Lib.trimPrefix x1 [(64 : UInt8), (64 : UInt8), (32 : UInt8), (45 : UInt8)]) [(32 : UInt8), (64 : UInt8), (64 : UInt8)]) [(32 : UInt8), (43 : UInt8)]).fst, strL (Lib.cut (Lib.trimSuffix (Lib.trimPrefix x1 [(64 : UInt8), (64 : UInt8), (32 : UInt8), (45 : UInt8)]) [(32 : UInt8), (64 : UInt8), (64 : UInt8)]) [(32 : UInt8), (43 : UInt8)]).snd.fst, boolA (Lib.cut (Lib.trimSuffix (Lib.trimPrefix x1 [(64 : UInt8), (64 : UInt8), (32 : UInt8), (45 : UInt8)]) [(32 : UInt8), (64 : UInt8), (64 : UInt8)]) [(32 : UInt8), (43 : UInt8)]).snd.snd]) (Tr.c (AV.tuple
 [intA (prA (Lib.cut (Lib.trimSuffix (Lib.trimPrefix x1 [(64 : UInt8), (64 : UInt8), (32 : UInt8), (45 : UInt8)]) [(32 : UInt8), (64 : UInt8), (64 : UInt8)]) [(32 : UInt8), (43 : UInt8)]).fst), intA (prB (Lib.cut (Lib.trimSuffix (Lib.trimPrefix x1 [(64 : UInt8), (64 : UInt8), (32 : UInt8), (45 : UInt8)]) [(32 : UInt8), (64 : UInt8), (64 : UInt8)]) [(32 : UInt8), (43 : UInt8)]).fst), boolA (prO (Lib.cut (Lib.trimSuffix (Lib.trimPrefix x1 [(64 : UInt8), (64 : UInt8), (32 : UInt8), (45 : UInt8)]) [(32 : UInt8), (64 : UInt8), (64 : UInt8)]) [(32 : UInt8), (43 : UInt8)]).fst)]) (Tr.c (AV.tuple [intA (prA (Lib.cut (Lib.trimSuffix (Lib.trimPrefix x1 [(64 : UInt8), (64 : UInt8), (32 : UInt8), (45 : UInt8)]) [(32 : UInt8), (64 : UInt8), (64 : UInt8)]) [(32 : UInt8), (43 : UInt8)]).snd.fst), intA (prB (Lib.cut (Lib.trimSuffix (Lib.trimPrefix x1 [(64 : UInt8), (64 : UInt8), (32 : UInt8), (45 : UInt8)]) [(32 : UInt8), (64 : UInt8), (64 : UInt8)]) [(32 : UInt8), (43 : UInt8)]).snd.fst), boolA (prO (Lib.cut (Lib.trimSuffix (Lib.trimPrefix x1 [(64 : UInt8), (64 : UInt8), (32 : UInt8), (45 : UInt8)]) [(32 : UInt8), (64 : UInt8), (64 : UInt8)]) [(32 : UInt8), (43 : UInt8)]).snd.fst)]) ((Tr.b true (Tr.b
 true (Tr.b true (Tr.b true Tr.nil.w).w.w).w)).br ((Tr.b true (Tr.b true (Tr.b true Tr.nil.w).w.w).w).br ((Tr.b true (Tr.b true Tr.nil.w).w.w).w.br ((Tr.b true Tr.nil.w).w.w.br ((Tr.b true Tr.nil.w).w.w.br (Tr.b false Tr.nil).w.w).w.w).w))).w.w))))).w.w.w).w.w))).w).w.inl) rfl ?_
 refine Eq.mpr (by kernel_rfl : _ = (let z19 := (↑k : Int) + 1 - (1 : Int) = (↑(hdA ls k) : Int); let z18 := (0 : Nat) = 0; let z17 := (List.map strL ls).length = ls.length; let z16 := true = true; let z15 := [(32 : UInt8), (43 : UInt8)]; let z14 := @List.nil AV = []; let z13 := (hdG (lnAt ls k)); let z11 := [(32 : UInt8), (64 : UInt8), (64 : UInt8)]; let z10 := (ls.length = ls.length ∧ z18 ∧ ls.length = ls.length); let z9 := List.map encPt P = List.map encPt P; let z8 := List.map encHk hs = List.map encHk hs; let z7 := List.map strL ls = List.map strL ls; let z6 := (o = o ∧ nn = nn ∧ hq = hq ∧ z18 ∧ hq = hq); let z4 := (z10 ∧ z19 ∧ (1 : Int) = hdE (lnAt ls k)); let z3 := ((0 : Int) = 0 ∧ (0 : Int) = 0 ∧ (0 : Int) = 0 ∧ (0 : Int) = 0 ∧ z18 ∧ z18 ∧ (0 : Nat) = 0); let z2 := [(64 : UInt8), (64 : UInt8), (32 : UInt8), (45 : UInt8)]; z17 ∧ (List.take ls.length (List.drop (0 : Nat) (List.map strL ls))).length = ls.length ∧ decide ((↑k : Int) < (↑ls.length : Int)) = true ∧ z17 ∧ (↑k : Int) = (↑k : Int) ∧ k < ls.length ∧ z7 ∧ z17 ∧ (0 : Nat) + k = 0 + k ∧ (0 : Nat) + k < ls.length ∧ ∀ (b0 : Bs), let z12 := (Lib.trimPrefix b0 z2); let z5 := (Lib.trimSuffix z12 z11); let z0 := (Lib.cut z5 z15); let z1 := (prA z0.fst = z13.fa ∧ prB z0.fst = z13.la ∧ prA z0.snd.fst = z13.fb ∧ prB z0.snd.fst = z13.lb ∧ z18 ∧ z18 ∧ (0 : Nat) = 0); ls[(0 : Nat) + k]? = some b0 → (R FT X).f 97 [strL b0, strL z2] = some (AV.tuple [strL z12, boolA (Lib.hasPrefix b0 z2)]) ∧ ((!Lib.hasPrefix b0 z2) = true → z16 ∧ ((0 : Int) = z13.fa ∧ (0 : Int) = z13.la ∧ (0 : Int) = z13.fb ∧ (0 : Int) = z13.lb ∧ z18 ∧ z18 ∧ (0 : Nat) = 0) ∧ z7 ∧ (z10 ∧ (↑k : Int) = (↑(hdA ls k) : Int) ∧ (1 : Int) = hdE (lnAt ls k)) ∧ z9 ∧ z6 ∧ z8 ∧ z14 ∧ z3 ∧ @List.nil AV = []) ∧ ((!Lib.hasPrefix b0 z2) = false → InI64 ((↑k : Int) + 1) ∧ false = false ∧ (R FT X).f 63 [strL z12, strL z11] = some (AV.tuple [strL z5, boolA (Lib.hasSuffix z12 z11)]) ∧ (R FT X).f 100 [strL z5, strL z15] = some (AV.tuple [strL z0.fst, strL z0.snd.fst, boolA z0.snd.snd]) ∧ (R FT X).f 101 [strL z0.fst] = some (AV.tuple [intA (prA z0.fst), intA (prB z0.fst), boolA (prO z0.fst)]) ∧ (R FT X).f 101 [strL z0.snd.fst] = some (AV.tuple [intA (prA z0.snd.fst), intA (prB z0.snd.fst), boolA (prO z0.snd.fst)]) ∧ ((!Lib.hasSuffix z12 z11) = true → z16 ∧ z16 ∧ z16 ∧ z16 ∧ InI64 ((↑k : Int) + 1 - (1 : Int)) ∧ z1 ∧ z7 ∧ z4 ∧ z9 ∧ z6 ∧ z8 ∧ z14 ∧ z3 ∧ @List.nil AV = []) ∧ ((!Lib.hasSuffix z12 z11) = false → ((!(Lib.cut z5 z15).snd.snd) = true → z16 ∧ z16 ∧ z16 ∧ InI64 ((↑k : Int) + 1 - (1 : Int)) ∧ z1 ∧ z7 ∧ z4 ∧ z9 ∧ z6 ∧ z8 ∧ z14 ∧ z3 ∧ @List.nil AV = []) ∧ ((!(Lib.cut z5 z15).snd.snd) = false → ((!prO z0.fst) = true → z16 ∧ z16 ∧ InI64 ((↑k : Int) + 1 - (1 : Int)) ∧ z1 ∧ z7 ∧ z4 ∧ z9 ∧ z6 ∧ z8 ∧ z14 ∧ z3 ∧ @List.nil AV = []) ∧ ((!prO z0.fst) = false → ((!prO z0.snd.fst) = true → z16 ∧ InI64 ((↑k : Int) + 1 - (1 : Int)) ∧ z1 ∧ z7 ∧ z4 ∧ z9 ∧ z6 ∧ z8 ∧ z14 ∧ z3 ∧ @List.nil AV = []) ∧ ((!prO z0.snd.fst) = false → (decide ((2147483647 : Int) < if prB z0.snd.fst > if prA z0.snd.fst > if prB z0.fst > prA z0.fst then prB z0.fst else prA z0.fst then prA z0.snd.fst else if prB z0.fst > prA z0.fst then prB z0.fst else prA z0.fst then prB z0.snd.fst else if prA z0.snd.fst > if prB z0.fst > prA z0.fst then prB z0.fst else prA z0.fst then prA z0.snd.fst else if prB z0.fst > prA z0.fst then prB z0.fst else prA z0.fst) = true → z16 ∧ InI64 ((↑k : Int) + 1 - (1 : Int)) ∧ z1 ∧ z7 ∧ (z10 ∧ z19 ∧ (2 : Int) = hdE (lnAt ls k)) ∧ z9 ∧ z6 ∧ z8 ∧ z14 ∧ z3 ∧ @List.nil AV = []) ∧ (decide ((2147483647 : Int) < if prB z0.snd.fst > if prA z0.snd.fst > if prB z0.fst > prA z0.fst then prB z0.fst else prA z0.fst then prA z0.snd.fst else if prB z0.fst > prA z0.fst then prB z0.fst else prA z0.fst then prB z0.snd.fst else if prA z0.snd.fst > if prB z0.fst > prA z0.fst then prB z0.fst else prA z0.fst then prA z0.snd.fst else if prB z0.fst > prA z0.fst then prB z0.fst else prA z0.fst) = false → false = false ∧ z1 ∧ z7 ∧ (z10 ∧ (↑k : Int) + 1 = (↑(hdA ls k) : Int) ∧ (0 : Int) = hdE (lnAt ls k)) ∧ z9 ∧ z6 ∧ z8 ∧ z14 ∧ z3 ∧ @List.nil AV = [])))))))) ?_
 conv => zeta
 refine ⟨(by simp), (by simp), (tD (by omega)), (by simp), rfl, hk, rfl, (by simp), rfl, (by omega), fun x1 => fun h2 => ⟨(cp _ _), fun h3_ => have h3 := nT h3_; ⟨rfl, ⟨?_, ?_, ?_, ?_, rfl, rfl, rfl⟩, rfl, ⟨⟨rfl, rfl, rfl⟩, ?_, ?_⟩, rfl, ⟨rfl, rfl, rfl, rfl, rfl⟩, rfl, rfl, ⟨rfl, rfl, rfl, rfl, rfl, rfl, rfl⟩, rfl⟩, fun h4_ => have h4 := nF h4_; ⟨(by unfold InI64; omega), rfl, (cs _ _ ?_), (ct _ _ ?_), (pa _ ?_), (pa _ ?_), fun h5_ => have h5 := nT h5_; ⟨rfl, rfl, rfl, rfl, (by unfold InI64; omega), ⟨?_, ?_, ?_, ?_, rfl, rfl, rfl⟩, rfl, ⟨⟨rfl, rfl, rfl⟩, ?_, ?_⟩, rfl, ⟨rfl, rfl, rfl, rfl, rfl⟩, rfl, rfl, ⟨rfl, rfl, rfl, rfl, rfl, rfl, rfl⟩, rfl⟩, fun h6_ => have h6 := nF h6_; ⟨fun h7_ => have h7 := nT h7_; ⟨rfl, rfl, rfl, (by unfold InI64; omega), ⟨?_, ?_, ?_, ?_, rfl, rfl, rfl⟩, rfl, ⟨⟨rfl, rfl, rfl⟩, ?_, ?_⟩, rfl, ⟨rfl, rfl, rfl, rfl, rfl⟩, rfl, rfl, ⟨rfl, rfl, rfl, rfl, rfl, rfl, rfl⟩, rfl⟩, fun h8_ => have h8 := nF h8_; ⟨fun h9_ => have h9 := nT h9_; ⟨rfl, rfl, (by unfold InI64; omega), ⟨?_, ?_, ?_, ?_, rfl, rfl, rfl⟩, rfl, ⟨⟨rfl, rfl, rfl⟩, ?_, ?_⟩, rfl, ⟨rfl, rfl, rfl, rfl, rfl⟩, rfl, rfl, ⟨rfl, rfl, rfl, rfl, rfl, rfl, rfl⟩, rfl⟩, fun h10_ => have h10 := nF h10_; ⟨fun h11_ => have h11 := nT h11_; ⟨rfl, (by unfold InI64; omega), ⟨?_, ?_, ?_, ?_, rfl, rfl, rfl⟩, rfl, ⟨⟨rfl, rfl, rfl⟩, ?_, ?_⟩, rfl, ⟨rfl, rfl, rfl, rfl, rfl⟩, rfl, rfl, ⟨rfl, rfl, rfl, rfl, rfl, rfl, rfl⟩, rfl⟩, fun h12_ => have h12 := nF h12_; ⟨fun h13_ => have h13 := dT h13_; ⟨rfl, (by unfold InI64; omega), ⟨?_, ?_, ?_, ?_, rfl, rfl, rfl⟩, rfl, ⟨⟨rfl, rfl, rfl⟩, ?_, ?_⟩, rfl, ⟨rfl, rfl, rfl, rfl, rfl⟩, rfl, rfl, ⟨rfl, rfl, rfl, rfl, rfl, rfl, rfl⟩, rfl⟩, fun h14_ => have h14 := dF h14_; ⟨rfl, ⟨?_, ?_, ?_, ?_, rfl, rfl, rfl⟩, rfl, ⟨⟨rfl, rfl, rfl⟩, ?_, ?_⟩, rfl, ⟨rfl, rfl, rfl, rfl, rfl⟩, rfl, rfl, ⟨rfl, rfl, rfl, rfl, rfl, rfl, rfl⟩, rfl⟩⟩⟩⟩⟩⟩⟩⟩
 ·rw [lnAt_eq h2, hdG_n h3]
 ·rw [lnAt_eq h2, hdG_n h3]
 ·rw [lnAt_eq h2, hdG_n h3]
 ·rw [lnAt_eq h2, hdG_n h3]
 ·rw [hdA_n (by rw [lnAt_eq h2, hdE_p h3]; decide)]
 ·rw [lnAt_eq h2, hdE_p h3]
 ·exact Nat.le_trans (tp_len _ _) (Nat.le_trans (hxl _ (lnAt_eq h2)) (Nat.le_trans (by decide) hm))
 ·exact Nat.le_trans (ts_len _ _) (Nat.le_trans (tp_len _ _) (Nat.le_trans (hxl _ (lnAt_eq h2)) (by decide)))
 ·exact Nat.le_trans (cut_len _ _).1 (Nat.le_trans (ts_len _ _) (Nat.le_trans (tp_len _ _) (Nat.le_trans (hxl _ (lnAt_eq h2)) (by decide))))
 ·exact Nat.le_trans (cut_len _ _).2 (Nat.le_trans (ts_len _ _) (Nat.le_trans (tp_len _ _) (Nat.le_trans (hxl _ (lnAt_eq h2)) (by decide))))
 ·rw [lnAt_eq h2, hdV_y h4]; rfl
 ·rw [lnAt_eq h2, hdV_y h4]; rfl
 ·rw [lnAt_eq h2, hdV_y h4]; rfl
 ·rw [lnAt_eq h2, hdV_y h4]; rfl
 ·rw [hdA_n (by rw [lnAt_eq h2, hdE_s h4 h5]; decide)]; omega
 ·rw [lnAt_eq h2, hdE_s h4 h5]
 ·rw [lnAt_eq h2, hdV_y h4]; rfl
 ·rw [lnAt_eq h2, hdV_y h4]; rfl
 ·rw [lnAt_eq h2, hdV_y h4]; rfl
 ·rw [lnAt_eq h2, hdV_y h4]; rfl
 ·rw [hdA_n (by rw [lnAt_eq h2, hdE_c h4 h7]; decide)]; omega
 ·rw [lnAt_eq h2, hdE_c h4 h7]
 ·rw [lnAt_eq h2, hdV_y h4]; rfl
 ·rw [lnAt_eq h2, hdV_y h4]; rfl
 ·rw [lnAt_eq h2, hdV_y h4]; rfl
 ·rw [lnAt_eq h2, hdV_y h4]; rfl
 ·rw [hdA_n (by rw [lnAt_eq h2, hdE_a h4 h9]; decide)]; omega
 ·rw [lnAt_eq h2, hdE_a h4 h9]
 ·rw [lnAt_eq h2, hdV_y h4]; rfl
 ·rw [lnAt_eq h2, hdV_y h4]; rfl
 ·rw [lnAt_eq h2, hdV_y h4]; rfl
 ·rw [lnAt_eq h2, hdV_y h4]; rfl
 ·rw [hdA_n (by rw [lnAt_eq h2, hdE_b h4 h11]; decide)]; omega
 ·rw [lnAt_eq h2, hdE_b h4 h11]
 ·rw [lnAt_eq h2, hdV_y h4]; rfl
 ·rw [lnAt_eq h2, hdV_y h4]; rfl
 ·rw [lnAt_eq h2, hdV_y h4]; rfl
 ·rw [lnAt_eq h2, hdV_y h4]; rfl
 ·rw [hdA_n (by rw [lnAt_eq h2, hdE_2 h4 (hdO_y h4 h6 h8 h10 h12) (fun q => mx4n h13 q)]; decide)]; omega
 ·rw [lnAt_eq h2, hdE_2 h4 (hdO_y h4 h6 h8 h10 h12) (fun q => mx4n h13 q)]
 ·rw [lnAt_eq h2, hdV_y h4]; rfl
 ·rw [lnAt_eq h2, hdV_y h4]; rfl
 ·rw [lnAt_eq h2, hdV_y h4]; rfl
 ·rw [lnAt_eq h2, hdV_y h4]; rfl
 ·rw [hdA_y (by rw [lnAt_eq h2, hdE_0 h4 (hdO_y h4 h6 h8 h10 h12) (mx4y h14)])]; omega
 ·rw [lnAt_eq h2, hdE_0 h4 (hdO_y h4 h6 h8 h10 h12) (mx4y h14)]
end
end Go.Proofs.YtfbpbkcplpkndaaGreatDoor
end
section
namespace Go.Proofs.YtfbpbkcplpkndaaGreatDoor
set_option linter.unusedVariables false
set_option linter.unusedSimpArgs false
set_option maxRecDepth 100000
set_option maxHeartbeats 2000000
section
variable {X : CallF}
theorem hunk3_run (hI : LibC X) (hc : NumC X) (ls : List Bs) (k n : Nat) (hn : n = ls.length) (hl : ls.length ≤ 100000000) (hx : ∀ y ∈ ls, y.length ≤ 10000000) (hk : k < ls.length) (P : List Pt) (o nn : Bs) (hs : List Hk) (hq : Nat) : (R FT X).m 51 [.ptr 1 0] [.row 0 1 (ls.map strL) true 0, .box 83 [.row 0 0 n 0 n, intA k, intA 0], .row 0 3 (P.map encPt) true 1, .box 29 [strL o, strL nn, .row 4 0 hq 0 hq], .row 0 5 (hs.map encHk) true 1] = some (.agg [intA (hdG (lnAt ls k)).fa, intA (hdG (lnAt ls k)).la, intA (hdG (lnAt ls k)).fb, intA (hdG (lnAt ls k)).lb, .row 5 0 (hkLn ls k).length 0 (hkLn ls k).length], [.row 0 1 (ls.map strL) true 0, .box 83 [.row 0 0 n 0 n, intA (hkA ls k), intA (hkE ls k)], .row 0 3 (P.map encPt) true 1, .box 29 [strL o, strL nn, .row 4 0 hq 0 hq], .row 0 5 (hs.map encHk) true 1, .row 0 3 ((hkLn ls k).map encDL) true 1]) := by
 have hm := maxLen_le
 have is := fun (ls : List Bs) (k n : Nat) (e : Int) (p : Bs) hn hl (P : List Pt) (o nn : Bs) (hs : List Hk) (hq : Nat) (acc : List DL) (fa la fb lb op : Int) (tx : ByteArray) (ne : Bool) (ha : Nat) => is3_run (X := X) hI ls k n e p hn hl P o nn hs hq acc fa la fb lb op tx ne ha
 have hd := fun (ls : List Bs) (k n : Nat) hn hl hx hk (P : List Pt) (o nn : Bs) (hs : List Hk) (hq : Nat) => head3_run (X := X) hI hc ls k n hn hl hx hk P o nn hs hq
 subst hn
 refine RM_wp (let z512 := (List.map encPt P); let z511 := (List.map strL ls); let z510 := (List.map encHk hs); let z509 := (Tr.b false Tr.nil); let z508 := (Value.string (ByteArray.mk #[])); let z502 := (hdG (lnAt ls k)); Tr.cm (AV.agg [intA z502.fa, intA z502.la, intA z502.fb, intA z502.lb, AV.row 7 0 (0 : Nat) (0 : Nat) (0 : Nat)]) [MObj.row 0 1 z511 true (0 : Nat), MObj.box 83 [AV.row 0 0 ls.length (0 : Nat) ls.length, intA (↑(hdA ls k) : Int), intA (hdE (lnAt ls k))], MObj.row 0 3 z512 true (1 : Nat), MObj.box 29 [strL o, strL nn, AV.row 4 0 hq (0 : Nat) hq], MObj.row 0 5 z510 true (1 : Nat), MObj.row 0 3 [] true (1 : Nat), MObj.box 46 [intA 0, intA 0, intA 0, intA 0, AV.row 5 0 (0 : Nat) (0 : Nat) (0 : Nat)], MObj.row 0 3 [] true (1 : Nat)] (Tr.inv (fun (b0 : Nat × Int × Int × Int × List DL) ↦ St.mk [(0, AV.ptr 1 0), (2, AV.ptr 6 0), (3, AV.ptr 8 0), (4, intA b0.snd.snd.fst), (5, intA b0.snd.snd.snd.fst)] [MObj.row 0 1 z511 true (0 : Nat), MObj.box 83 [AV.row 0 0 ls.length (0 : Nat) ls.length, intA (↑b0.fst : Int), intA b0.snd.fst], MObj.row 0 3 z512 true (1 : Nat), MObj.box 29 [strL o, strL nn, AV.row 4 0 hq (0 : Nat) hq], MObj.row 0 5 z510 true (1 : Nat), MObj.row 0 3 [] true (1 : Nat), MObj.box 46 [intA 0, intA 0, intA 0, intA 0, AV.row 5 0 (0 : Nat) (0 : Nat) (0 : Nat)], MObj.row 0 3 (List.map encDL b0.snd.snd.snd.snd) true (1 : Nat), MObj.box 46 [intA z502.fa, intA z502.la, intA z502.fb, intA z502.lb, AV.row 7 0 b0.snd.snd.snd.snd.length (0 : Nat) b0.snd.snd.snd.snd.length]]) (fun (b0 : Nat × Int × Int × Int × List DL) ↦ HunkI ls k b0) (fun (b0 : Nat × Int × Int × Int × List DL) ↦ hkM ls b0) fun (b0 : Nat × Int × Int × Int × List DL) ↦ let z513 := (boolA (decide (b0.snd.fst = 0) && isB ls b0.fst [(32 : UInt8)])); let z507 := (List.map encDL b0.snd.snd.snd.snd); let z506 := (boolA (decide (b0.snd.fst = 0) && isB ls b0.fst [(45 : UInt8)])); let z505 := (Tr.k (b0.snd.snd.snd.snd.length + 1) Tr.nil); let z504 := (boolA (decide (b0.snd.fst = 0) && isB ls b0.fst [(43 : UInt8)])); let z503 := [AV.row 0 0 ls.length (0 : Nat) ls.length, intA (↑b0.fst : Int), intA b0.snd.fst]; let z501 := (Tr.k b0.fst (Tr.ix strL ls ((0 : Nat) + b0.fst) fun (b1 : Bs) ↦ Tr.sl (1 : Nat) (List.length b1) (Tr.k ls.length ((Tr.k (b0.fst + 1) (Tr.ix strL ls ((0 : Nat) + (b0.fst + 1)) fun (b2 : Bs) ↦ (z505.w.br z505).w)).br (Tr.b false z505).w)).w.w)); let z514 := (Tr.b true z501.w); let z500 := [MObj.row 0 1 z511 true (0 : Nat), MObj.box 83 z503, MObj.row 0 3 z512 true (1 : Nat), MObj.box 29 [strL o, strL nn, AV.row 4 0 hq (0 : Nat) hq], MObj.row 0 5 z510 true (1 : Nat), MObj.row 0 3 [] true (1 : Nat), MObj.box 46 [intA 0, intA 0, intA 0, intA 0, AV.row 5 0 (0 : Nat) (0 : Nat) (0 : Nat)], MObj.row 0 3 z507 true (1 : Nat), MObj.box 46 [intA z502.fa, intA z502.la, intA z502.fb, intA z502.lb, AV.row 7 0 b0.snd.snd.snd.snd.length (0 : Nat) b0.snd.snd.snd.snd.length], MObj.box 70 [intA 1, AV.val z508, boolA false]]; (((Tr.b true (Tr.cm z513 z500 ((Tr.b true (z501.w.w.br (Tr.cm z506 z500 ((Tr.b true (Tr.k b0.fst (Tr.ix strL ls ((0 : Nat) + b0.fst) fun (b1 : Bs) ↦ Tr.sl (1 : Nat) (List.length b1) (Tr.k ls.length ((Tr.k (b0.fst + (1 : Nat)) (Tr.ix strL ls ((0 : Nat) + (b0.fst + 1)) fun (b2 : Bs) ↦ (z505.w.br z505).w)).br (Tr.b false z505).w)).w.w)).w).w.br (Tr.b false (Tr.cm z504 z500 (z509.w.br z509.w)).w).w)).w).w).br (Tr.b false (Tr.b false (Tr.cm z506 z500 (z514.w.br (Tr.b false (Tr.cm z504 z500 ((z501.w.br Tr.nil).w.br z509.w)).w).w)).w).w))).w.w.w).br ((Tr.cm z513 [MObj.row 0 1 z511 true (0 : Nat), MObj.box 83 z503, MObj.row 0 3 z512 true (1 : Nat), MObj.box 29 [strL o, strL nn, AV.row (4 : Nat) (0 : Nat) hq (0 : Nat) hq], MObj.row 0 5 z510 true (1 : Nat), MObj.row 0 3 [] true (1 : Nat), MObj.box 46 [intA 0, intA 0, intA 0, intA 0, AV.row 5 0 (0 : Nat) (0 : Nat) (0 : Nat)], MObj.row 0 3 z507 true (1 : Nat), MObj.box 46 [intA z502.fa, intA z502.la, intA z502.fb, intA z502.lb, AV.row 7 0 b0.snd.snd.snd.snd.length (0 : Nat) b0.snd.snd.snd.snd.length], MObj.box 70 [intA 1, AV.val z508, boolA false]] ((Tr.b false (Tr.b false (Tr.cm z506 [MObj.row 0 1 z511 true (0 : Nat), MObj.box 83 z503, MObj.row 0 3 z512 true (1 : Nat), MObj.box 29 [strL o, strL nn, AV.row 4 0 hq (0 : Nat) hq], MObj.row 0 5 z510 true (1 : Nat), MObj.row 0 (3 : Nat) [] true (1 : Nat), MObj.box 46 [intA 0, intA 0, intA 0, intA 0, AV.row 5 0 (0 : Nat) (0 : Nat) (0 : Nat)], MObj.row 0 3 z507 true (1 : Nat), MObj.box 46 [intA z502.fa, intA z502.la, intA z502.fb, intA z502.lb, AV.row 7 0 b0.snd.snd.snd.snd.length (0 : Nat) b0.snd.snd.snd.snd.length], MObj.box 70 [intA 1, AV.val z508, boolA false]] ((Tr.b false (Tr.cm z504 [MObj.row 0 1 z511 true (0 : Nat), MObj.box 83 z503, MObj.row 0 3 z512 true (1 : Nat), MObj.box 29 [strL o, strL nn, AV.row 4 0 hq (0 : Nat) hq], MObj.row 0 5 z510 true (1 : Nat), MObj.row 0 3 [] true (1 : Nat), MObj.box 46 [intA 0, intA 0, intA 0, intA 0, AV.row 5 (0 : Nat) (0 : Nat) (0 : Nat) (0 : Nat)], MObj.row 0 3 z507 true (1 : Nat), MObj.box 46 [intA z502.fa, intA z502.la, intA z502.fb, intA z502.lb, AV.row 7 0 b0.snd.snd.snd.snd.length (0 : Nat) b0.snd.snd.snd.snd.length], MObj.box 70 [intA 1, AV.val z508, boolA false]] (z514.w.br z509.w)).w).w.br (Tr.b false (Tr.cm z504 z500 (z514.w.br z509.w)).w).w)).w).w).br (Tr.b false (Tr.b false (Tr.cm z506 z500 ((Tr.b false (Tr.cm z504 z500 ((Tr.b true (Tr.k b0.fst (Tr.ix strL ls ((0 : Nat) + b0.fst) fun (b1 : Bs) ↦ Tr.sl (1 : Nat) (List.length b1) (Tr.k ls.length ((Tr.k (b0.fst + 1) (Tr.ix strL ls ((0 : Nat) + (b0.fst + 1)) fun (b2 : Bs) ↦ ((Tr.k (b0.snd.snd.snd.snd.length + (1 : Nat)) Tr.nil).w.br z505).w)).br (Tr.b false z505).w)).w.w)).w).w.br z509.w)).w).w.br (Tr.b false (Tr.cm z504 [MObj.row 0 1 z511 true (0 : Nat), MObj.box 83 z503, MObj.row 0 3 z512 true (1 : Nat), MObj.box 29 [strL o, strL nn, AV.row 4 0 hq (0 : Nat) hq], MObj.row 0 5 z510 true (1 : Nat), MObj.row 0 3 [] true (1 : Nat), MObj.box 46 [intA 0, intA 0, intA 0, intA 0, AV.row 5 0 (0 : Nat) (0 : Nat) (0 : Nat)], MObj.row 0 3 z507 true (1 : Nat), MObj.box 46 [intA z502.fa, intA z502.la, intA z502.fb, intA z502.lb, AV.row 7 0 b0.snd.snd.snd.snd.length (0 : Nat) b0.snd.snd.snd.snd.length], MObj.box 70 [intA (1 : Int), AV.val z508, boolA false]] (z514.w.br z509.w)).w).w)).w).w))).w.w.w.br Tr.nil)).br z509).w).w) rfl ?_
 refine Eq.mpr (by kernel_rfl : _ = (let z80 := (hkLn ls k); let z78 := (1 : Int) = 1; let z77 := (32 : UInt8); let z65 := (0 : Int) = 0; let z64 := (List.map encPt P); let z63 := (List.map encHk hs); let z51 := (List.map strL ls); let z48 := false = false; let z47 := [AV.ptr 1 0, strL [(43 : UInt8)]]; let z46 := (Value.string (ByteArray.mk #[])); let z32 := @List.nil AV = []; let z22 := (0 : Nat) = 0; let z21 := (List.take ls.length (List.drop (0 : Nat) z51)).length = ls.length; let z16 := List.map encPt P = List.map encPt P; let z14 := List.map encHk hs = List.map encHk hs; let z10 := z51.length = ls.length; let z9 := List.map strL ls = List.map strL ls; let z8 := (o = o ∧ nn = nn ∧ hq = hq ∧ z22 ∧ hq = hq); let z6 := (ls.length = ls.length ∧ z22 ∧ ls.length = ls.length); let z5 := (z65 ∧ z65 ∧ z65 ∧ z65 ∧ z22 ∧ z22 ∧ (0 : Nat) = 0); let z4 := (hdG (lnAt ls k)); let z42 := z4.lb = z4.lb; let z41 := z4.fb = z4.fb; let z40 := z4.la = z4.la; let z39 := z4.fa = z4.fa; let z2 := [(92 : UInt8), z77, (78 : UInt8), (111 : UInt8), z77, (110 : UInt8), (101 : UInt8), (119 : UInt8), (108 : UInt8), (105 : UInt8), (110 : UInt8), (101 : UInt8), z77, (97 : UInt8), (116 : UInt8), z77, (101 : UInt8), (110 : UInt8), (100 : UInt8), z77, (111 : UInt8), (102 : UInt8), z77, (102 : UInt8), (105 : UInt8), (108 : UInt8), (101 : UInt8)]; (R FT X).m 81 [AV.ptr 1 0] [MObj.row 0 1 z51 true (0 : Nat), MObj.box 83 [AV.row 0 0 ls.length (0 : Nat) ls.length, intA (↑k : Int), intA 0], MObj.row 0 3 z64 true (1 : Nat), MObj.box 29 [strL o, strL nn, AV.row 4 0 hq (0 : Nat) hq], MObj.row 0 5 z63 true (1 : Nat), MObj.row 0 3 [] true (1 : Nat), MObj.box 46 [intA 0, intA 0, intA 0, intA 0, AV.row 5 0 (0 : Nat) (0 : Nat) (0 : Nat)]] = some (AV.agg [intA z4.fa, intA z4.la, intA z4.fb, intA z4.lb, AV.row 7 0 (0 : Nat) (0 : Nat) (0 : Nat)], [MObj.row 0 1 z51 true (0 : Nat), MObj.box 83 [AV.row 0 0 ls.length (0 : Nat) ls.length, intA (↑(hdA ls k) : Int), intA (hdE (lnAt ls k))], MObj.row 0 3 z64 true (1 : Nat), MObj.box 29 [strL o, strL nn, AV.row 4 0 hq (0 : Nat) hq], MObj.row 0 5 z63 true (1 : Nat), MObj.row 0 3 [] true (1 : Nat), MObj.box 46 [intA 0, intA 0, intA 0, intA 0, AV.row 5 0 (0 : Nat) (0 : Nat) (0 : Nat)], MObj.row 0 3 [] true (1 : Nat)]) ∧ (∃ (b0 : Nat × Int × Int × Int × List DL), ((True ∧ True ∧ True ∧ z4.la = b0.snd.snd.fst ∧ z4.lb = b0.snd.snd.snd.fst ∧ True) ∧ z9 ∧ (z6 ∧ (↑(hdA ls k) : Int) = (↑b0.fst : Int) ∧ hdE (lnAt ls k) = b0.snd.fst) ∧ z16 ∧ z8 ∧ z14 ∧ z32 ∧ z5 ∧ [] = List.map encDL b0.snd.snd.snd.snd ∧ z39 ∧ z40 ∧ z41 ∧ z42 ∧ (0 : Nat) = b0.snd.snd.snd.snd.length ∧ z22 ∧ (0 : Nat) = b0.snd.snd.snd.snd.length) ∧ HunkI ls k b0) ∧ ∀ (b0 : Nat × Int × Int × Int × List DL), let z79 := (b0.snd.fst = 0); let z66 := b0.fst < ls.length; let z61 := b0.fst + 1 < ls.length; let z60 := decide ((0 : Int) < b0.snd.snd.fst) = true; let z52 := decide ((0 : Int) < b0.snd.snd.fst) = false; let z50 := decide ((0 : Int) < b0.snd.snd.snd.fst) = false; let z45 := (0 : Nat) + b0.fst < ls.length; let z43 := (0 : Nat) + b0.fst = 0 + b0.fst; let z38 := (List.map encDL b0.snd.snd.snd.snd); let z37 := (0 : Nat) + (b0.fst + 1) < ls.length; let z35 := decide ((0 : Int) < b0.snd.snd.snd.fst) = true; let z34 := (0 : Nat) + (b0.fst + 1) = 0 + (b0.fst + 1); let z31 := (decide z79 && isB ls b0.fst [z77]); let z20 := (decide z79 && isB ls b0.fst [(45 : UInt8)]); let z19 := (decide z79 && isB ls b0.fst [(43 : UInt8)]); let z18 := (z39 ∧ z40 ∧ z41 ∧ z42 ∧ b0.snd.snd.snd.snd.length = z80.length ∧ z22 ∧ b0.snd.snd.snd.snd.length = z80.length); let z15 := (↑b0.fst : Int); let z76 := (z6 ∧ z15 = (↑(hkA ls k) : Int) ∧ b0.snd.fst = hkE ls k); let z62 := (z6 ∧ z15 = (↑(hkA ls k) : Int) ∧ (1 : Int) = hkE ls k); let z44 := z15 + 1 = (↑(b0.fst + 1) : Int); let z36 := decide (z15 + 1 < (↑ls.length : Int)) = true; let z33 := decide (z15 + 1 < (↑ls.length : Int)) = false; let z30 := [AV.row 0 0 ls.length (0 : Nat) ls.length, intA z15, intA b0.snd.fst]; let z17 := [MObj.row 0 1 z51 true (0 : Nat), MObj.box 83 z30, MObj.row 0 3 z64 true (1 : Nat), MObj.box 29 [strL o, strL nn, AV.row 4 0 hq (0 : Nat) hq], MObj.row (0 : Nat) (5 : Nat) z63 true (1 : Nat), MObj.row 0 3 [] true (1 : Nat), MObj.box 46 [intA 0, intA 0, intA 0, intA 0, AV.row 5 0 (0 : Nat) (0 : Nat) (0 : Nat)], MObj.row 0 3 z38 true (1 : Nat), MObj.box 46 [intA z4.fa, intA z4.la, intA z4.fb, intA z4.lb, AV.row 7 0 b0.snd.snd.snd.snd.length (0 : Nat) b0.snd.snd.snd.snd.length], MObj.box 70 [intA 1, AV.val z46, boolA false]]; let z13 := b0.snd.snd.snd.snd.length = b0.snd.snd.snd.snd.length; let z12 := b0.snd.snd.snd.snd.length + 1 ≤ (9223372036854775807 : Nat); let z11 := (b0.snd.snd.snd.snd.length + 1) * 32 ≤ (140737488355328 : Nat); let z7 := z38.length = b0.snd.snd.snd.snd.length; let z3 := (z19 = false → z48 ∧ z18 ∧ z9 ∧ z62 ∧ z16 ∧ z8 ∧ z14 ∧ List.map encDL b0.snd.snd.snd.snd = List.map encDL z80); let z1 := (z19 = true → z35 ∧ InI64 (b0.snd.snd.snd.fst - 1) ∧ z10 ∧ z15 = z15 ∧ z66 ∧ z9 ∧ z10 ∧ z43 ∧ z45 ∧ ∀ (b1 : Bs), let z23 := (Value.string (ofL (List.drop (1 : Nat) (List.take (List.length b1) b1)))); let z81 := [AV.agg [intA 3, AV.val z23, boolA true]]; let z53 := [AV.agg [intA 3, AV.val z23, boolA false]]; let z69 := b0.snd.snd.snd.snd.length + z53.length = b0.snd.snd.snd.snd.length + 1; ls[(0 : Nat) + b0.fst]? = some b1 → z78 ∧ (↑(List.length b1) : Int) = (↑(List.length b1) : Int) ∧ (1 : Nat) ≤ List.length b1 ∧ List.length b1 ≤ List.length b1 ∧ InI64 (z15 + 1) ∧ z10 ∧ z21 ∧ (z36 → z10 ∧ z44 ∧ z61 ∧ z9 ∧ z10 ∧ z34 ∧ z37 ∧ ∀ (b2 : Bs), ls[(0 : Nat) + (b0.fst + 1)]? = some b2 → (decide (b2 = z2) = true → InI64 (z15 + 1 + (1 : Int)) ∧ z7 ∧ z22 ∧ z13 ∧ b0.snd.snd.snd.snd.length + z81.length = b0.snd.snd.snd.snd.length + 1 ∧ z11 ∧ z12 ∧ ∃ (b3 : Nat × Int × Int × Int × List DL), ((True ∧ True ∧ True ∧ b0.snd.snd.fst = b3.snd.snd.fst ∧ b0.snd.snd.snd.fst - 1 = b3.snd.snd.snd.fst ∧ True) ∧ z9 ∧ (z6 ∧ z15 + 1 + (1 : Int) = (↑b3.fst : Int) ∧ b0.snd.fst = b3.snd.fst) ∧ z16 ∧ z8 ∧ z14 ∧ z32 ∧ z5 ∧ List.map encDL b0.snd.snd.snd.snd ++ z81 = List.map encDL b3.snd.snd.snd.snd ∧ z39 ∧ z40 ∧ z41 ∧ z42 ∧ b0.snd.snd.snd.snd.length + 1 = b3.snd.snd.snd.snd.length ∧ z22 ∧ b0.snd.snd.snd.snd.length + 1 = b3.snd.snd.snd.snd.length) ∧ HunkI ls k b3 ∧ hkM ls b3 < hkM ls b0) ∧ (decide (b2 = z2) = false → z7 ∧ z22 ∧ z13 ∧ z69 ∧ z11 ∧ z12 ∧ ∃ (b3 : Nat × Int × Int × Int × List DL), ((True ∧ True ∧ True ∧ b0.snd.snd.fst = b3.snd.snd.fst ∧ b0.snd.snd.snd.fst - 1 = b3.snd.snd.snd.fst ∧ True) ∧ z9 ∧ (z6 ∧ z15 + 1 = (↑b3.fst : Int) ∧ b0.snd.fst = b3.snd.fst) ∧ z16 ∧ z8 ∧ z14 ∧ z32 ∧ z5 ∧ List.map encDL b0.snd.snd.snd.snd ++ z53 = List.map encDL b3.snd.snd.snd.snd ∧ z39 ∧ z40 ∧ z41 ∧ z42 ∧ b0.snd.snd.snd.snd.length + 1 = b3.snd.snd.snd.snd.length ∧ z22 ∧ b0.snd.snd.snd.snd.length + 1 = b3.snd.snd.snd.snd.length) ∧ HunkI ls k b3 ∧ hkM ls b3 < hkM ls b0)) ∧ (z33 → z48 ∧ z7 ∧ z22 ∧ z13 ∧ z69 ∧ z11 ∧ z12 ∧ ∃ (b2 : Nat × Int × Int × Int × List DL), ((True ∧ True ∧ True ∧ b0.snd.snd.fst = b2.snd.snd.fst ∧ b0.snd.snd.snd.fst - 1 = b2.snd.snd.snd.fst ∧ True) ∧ z9 ∧ (z6 ∧ z15 + 1 = (↑b2.fst : Int) ∧ b0.snd.fst = b2.snd.fst) ∧ z16 ∧ z8 ∧ z14 ∧ z32 ∧ z5 ∧ List.map encDL b0.snd.snd.snd.snd ++ z53 = List.map encDL b2.snd.snd.snd.snd ∧ z39 ∧ z40 ∧ z41 ∧ z42 ∧ b0.snd.snd.snd.snd.length + 1 = b2.snd.snd.snd.snd.length ∧ z22 ∧ b0.snd.snd.snd.snd.length + 1 = b2.snd.snd.snd.snd.length) ∧ HunkI ls k b2 ∧ hkM ls b2 < hkM ls b0)); let z0 := [MObj.row 0 1 z51 true (0 : Nat), MObj.box 83 z30, MObj.row 0 3 z64 true (1 : Nat), MObj.box 29 [strL o, strL nn, AV.row 4 0 hq (0 : Nat) hq], MObj.row 0 5 z63 true (1 : Nat), MObj.row 0 3 [] true (1 : Nat), MObj.box 46 [intA 0, intA 0, intA 0, intA 0, AV.row 5 0 (0 : Nat) (0 : Nat) (0 : Nat)], MObj.row 0 3 z38 true (1 : Nat), MObj.box 46 [intA z4.fa, intA z4.la, intA z4.fb, intA z4.lb, AV.row 7 0 b0.snd.snd.snd.snd.length (0 : Nat) b0.snd.snd.snd.snd.length], MObj.box 70 [intA 1, AV.val z46, boolA false]]; let z68 := (R FT X).m 50 [AV.ptr 1 0, strL [z77]] z0 = some (boolA z31, z0); let z67 := (R FT X).m 50 z47 z0 = some (boolA z19, z0); let z49 := (R FT X).m 50 [AV.ptr 1 0, strL [(45 : UInt8)]] z0 = some (boolA z20, z0); HunkI ls k b0 → (decide z79 = true → (z60 → true = true ∧ z68 ∧ (z31 = true → z60 ∧ (z35 → InI64 (b0.snd.snd.fst - 1) ∧ InI64 (b0.snd.snd.snd.fst - 1) ∧ z10 ∧ z15 = z15 ∧ z66 ∧ z9 ∧ z10 ∧ z43 ∧ z45 ∧ ∀ (b1 : Bs), let z24 := (Value.string (ofL (List.drop (1 : Nat) (List.take (List.length b1) b1)))); let z82 := [AV.agg [intA 1, AV.val z24, boolA true]]; let z54 := [AV.agg [intA 1, AV.val z24, boolA false]]; let z70 := b0.snd.snd.snd.snd.length + z54.length = b0.snd.snd.snd.snd.length + 1; ls[(0 : Nat) + b0.fst]? = some b1 → z78 ∧ (↑(List.length b1) : Int) = (↑(List.length b1) : Int) ∧ (1 : Nat) ≤ List.length b1 ∧ List.length b1 ≤ List.length b1 ∧ InI64 (z15 + 1) ∧ z10 ∧ z21 ∧ (z36 → z10 ∧ z44 ∧ z61 ∧ z9 ∧ z10 ∧ z34 ∧ z37 ∧ ∀ (b2 : Bs), ls[(0 : Nat) + (b0.fst + 1)]? = some b2 → (decide (b2 = z2) = true → InI64 (z15 + 1 + (1 : Int)) ∧ z7 ∧ z22 ∧ z13 ∧ b0.snd.snd.snd.snd.length + z82.length = b0.snd.snd.snd.snd.length + 1 ∧ z11 ∧ z12 ∧ ∃ (b3 : Nat × Int × Int × Int × List DL), ((True ∧ True ∧ True ∧ b0.snd.snd.fst - 1 = b3.snd.snd.fst ∧ b0.snd.snd.snd.fst - 1 = b3.snd.snd.snd.fst ∧ True) ∧ z9 ∧ (z6 ∧ z15 + 1 + (1 : Int) = (↑b3.fst : Int) ∧ b0.snd.fst = b3.snd.fst) ∧ z16 ∧ z8 ∧ z14 ∧ z32 ∧ z5 ∧ List.map encDL b0.snd.snd.snd.snd ++ z82 = List.map encDL b3.snd.snd.snd.snd ∧ z39 ∧ z40 ∧ z41 ∧ z42 ∧ b0.snd.snd.snd.snd.length + 1 = b3.snd.snd.snd.snd.length ∧ z22 ∧ b0.snd.snd.snd.snd.length + 1 = b3.snd.snd.snd.snd.length) ∧ HunkI ls k b3 ∧ hkM ls b3 < hkM ls b0) ∧ (decide (b2 = z2) = false → z7 ∧ z22 ∧ z13 ∧ z70 ∧ z11 ∧ z12 ∧ ∃ (b3 : Nat × Int × Int × Int × List DL), ((True ∧ True ∧ True ∧ b0.snd.snd.fst - 1 = b3.snd.snd.fst ∧ b0.snd.snd.snd.fst - 1 = b3.snd.snd.snd.fst ∧ True) ∧ z9 ∧ (z6 ∧ z15 + 1 = (↑b3.fst : Int) ∧ b0.snd.fst = b3.snd.fst) ∧ z16 ∧ z8 ∧ z14 ∧ z32 ∧ z5 ∧ List.map encDL b0.snd.snd.snd.snd ++ z54 = List.map encDL b3.snd.snd.snd.snd ∧ z39 ∧ z40 ∧ z41 ∧ z42 ∧ b0.snd.snd.snd.snd.length + 1 = b3.snd.snd.snd.snd.length ∧ z22 ∧ b0.snd.snd.snd.snd.length + 1 = b3.snd.snd.snd.snd.length) ∧ HunkI ls k b3 ∧ hkM ls b3 < hkM ls b0)) ∧ (z33 → z48 ∧ z7 ∧ z22 ∧ z13 ∧ z70 ∧ z11 ∧ z12 ∧ ∃ (b2 : Nat × Int × Int × Int × List DL), ((True ∧ True ∧ True ∧ b0.snd.snd.fst - 1 = b2.snd.snd.fst ∧ b0.snd.snd.snd.fst - 1 = b2.snd.snd.snd.fst ∧ True) ∧ z9 ∧ (z6 ∧ z15 + 1 = (↑b2.fst : Int) ∧ b0.snd.fst = b2.snd.fst) ∧ z16 ∧ z8 ∧ z14 ∧ z32 ∧ z5 ∧ List.map encDL b0.snd.snd.snd.snd ++ z54 = List.map encDL b2.snd.snd.snd.snd ∧ z39 ∧ z40 ∧ z41 ∧ z42 ∧ b0.snd.snd.snd.snd.length + 1 = b2.snd.snd.snd.snd.length ∧ z22 ∧ b0.snd.snd.snd.snd.length + 1 = b2.snd.snd.snd.snd.length) ∧ HunkI ls k b2 ∧ hkM ls b2 < hkM ls b0)) ∧ (z50 → z49 ∧ (z20 = true → z60 ∧ InI64 (b0.snd.snd.fst - 1) ∧ z10 ∧ z15 = z15 ∧ z66 ∧ z9 ∧ z10 ∧ z43 ∧ z45 ∧ ∀ (b1 : Bs), let z25 := (Value.string (ofL (List.drop (1 : Nat) (List.take (List.length b1) b1)))); let z83 := [AV.agg [intA 2, AV.val z25, boolA true]]; let z55 := [AV.agg [intA 2, AV.val z25, boolA false]]; let z71 := b0.snd.snd.snd.snd.length + z55.length = b0.snd.snd.snd.snd.length + 1; ls[(0 : Nat) + b0.fst]? = some b1 → z78 ∧ (↑(List.length b1) : Int) = (↑(List.length b1) : Int) ∧ (1 : Nat) ≤ List.length b1 ∧ List.length b1 ≤ List.length b1 ∧ InI64 (z15 + 1) ∧ z10 ∧ z21 ∧ (z36 → z10 ∧ z44 ∧ z61 ∧ z9 ∧ z10 ∧ z34 ∧ z37 ∧ ∀ (b2 : Bs), ls[(0 : Nat) + (b0.fst + 1)]? = some b2 → (decide (b2 = z2) = true → InI64 (z15 + 1 + (1 : Int)) ∧ z7 ∧ z22 ∧ z13 ∧ b0.snd.snd.snd.snd.length + z83.length = b0.snd.snd.snd.snd.length + 1 ∧ z11 ∧ z12 ∧ ∃ (b3 : Nat × Int × Int × Int × List DL), ((True ∧ True ∧ True ∧ b0.snd.snd.fst - 1 = b3.snd.snd.fst ∧ b0.snd.snd.snd.fst = b3.snd.snd.snd.fst ∧ True) ∧ z9 ∧ (z6 ∧ z15 + 1 + (1 : Int) = (↑b3.fst : Int) ∧ b0.snd.fst = b3.snd.fst) ∧ z16 ∧ z8 ∧ z14 ∧ z32 ∧ z5 ∧ List.map encDL b0.snd.snd.snd.snd ++ z83 = List.map encDL b3.snd.snd.snd.snd ∧ z39 ∧ z40 ∧ z41 ∧ z42 ∧ b0.snd.snd.snd.snd.length + 1 = b3.snd.snd.snd.snd.length ∧ z22 ∧ b0.snd.snd.snd.snd.length + 1 = b3.snd.snd.snd.snd.length) ∧ HunkI ls k b3 ∧ hkM ls b3 < hkM ls b0) ∧ (decide (b2 = z2) = false → z7 ∧ z22 ∧ z13 ∧ z71 ∧ z11 ∧ z12 ∧ ∃ (b3 : Nat × Int × Int × Int × List DL), ((True ∧ True ∧ True ∧ b0.snd.snd.fst - 1 = b3.snd.snd.fst ∧ b0.snd.snd.snd.fst = b3.snd.snd.snd.fst ∧ True) ∧ z9 ∧ (z6 ∧ z15 + 1 = (↑b3.fst : Int) ∧ b0.snd.fst = b3.snd.fst) ∧ z16 ∧ z8 ∧ z14 ∧ z32 ∧ z5 ∧ List.map encDL b0.snd.snd.snd.snd ++ z55 = List.map encDL b3.snd.snd.snd.snd ∧ z39 ∧ z40 ∧ z41 ∧ z42 ∧ b0.snd.snd.snd.snd.length + 1 = b3.snd.snd.snd.snd.length ∧ z22 ∧ b0.snd.snd.snd.snd.length + 1 = b3.snd.snd.snd.snd.length) ∧ HunkI ls k b3 ∧ hkM ls b3 < hkM ls b0)) ∧ (z33 → z48 ∧ z7 ∧ z22 ∧ z13 ∧ z71 ∧ z11 ∧ z12 ∧ ∃ (b2 : Nat × Int × Int × Int × List DL), ((True ∧ True ∧ True ∧ b0.snd.snd.fst - 1 = b2.snd.snd.fst ∧ b0.snd.snd.snd.fst = b2.snd.snd.snd.fst ∧ True) ∧ z9 ∧ (z6 ∧ z15 + 1 = (↑b2.fst : Int) ∧ b0.snd.fst = b2.snd.fst) ∧ z16 ∧ z8 ∧ z14 ∧ z32 ∧ z5 ∧ List.map encDL b0.snd.snd.snd.snd ++ z55 = List.map encDL b2.snd.snd.snd.snd ∧ z39 ∧ z40 ∧ z41 ∧ z42 ∧ b0.snd.snd.snd.snd.length + 1 = b2.snd.snd.snd.snd.length ∧ z22 ∧ b0.snd.snd.snd.snd.length + 1 = b2.snd.snd.snd.snd.length) ∧ HunkI ls k b2 ∧ hkM ls b2 < hkM ls b0)) ∧ (z20 = false → z48 ∧ z67 ∧ (z19 = true → z50 ∧ z18 ∧ z9 ∧ z62 ∧ z16 ∧ z8 ∧ z14 ∧ List.map encDL b0.snd.snd.snd.snd = List.map encDL z80) ∧ z3))) ∧ (z31 = false → z48 ∧ z48 ∧ z49 ∧ (z20 = true → z60 ∧ InI64 (b0.snd.snd.fst - 1) ∧ z10 ∧ z15 = z15 ∧ z66 ∧ z9 ∧ z10 ∧ z43 ∧ z45 ∧ ∀ (b1 : Bs), let z26 := (Value.string (ofL (List.drop (1 : Nat) (List.take (List.length b1) b1)))); let z84 := [AV.agg [intA 2, AV.val z26, boolA true]]; let z56 := [AV.agg [intA 2, AV.val z26, boolA false]]; let z72 := b0.snd.snd.snd.snd.length + z56.length = b0.snd.snd.snd.snd.length + 1; ls[(0 : Nat) + b0.fst]? = some b1 → z78 ∧ (↑(List.length b1) : Int) = (↑(List.length b1) : Int) ∧ (1 : Nat) ≤ List.length b1 ∧ List.length b1 ≤ List.length b1 ∧ InI64 (z15 + 1) ∧ z10 ∧ z21 ∧ (decide (z15 + (1 : Int) < (↑ls.length : Int)) = true → z10 ∧ z44 ∧ z61 ∧ z9 ∧ z10 ∧ z34 ∧ z37 ∧ ∀ (b2 : Bs), ls[(0 : Nat) + (b0.fst + 1)]? = some b2 → (decide (b2 = z2) = true → InI64 (z15 + 1 + (1 : Int)) ∧ z7 ∧ z22 ∧ z13 ∧ b0.snd.snd.snd.snd.length + z84.length = b0.snd.snd.snd.snd.length + 1 ∧ z11 ∧ z12 ∧ ∃ (b3 : Nat × Int × Int × Int × List DL), ((True ∧ True ∧ True ∧ b0.snd.snd.fst - 1 = b3.snd.snd.fst ∧ b0.snd.snd.snd.fst = b3.snd.snd.snd.fst ∧ True) ∧ z9 ∧ (z6 ∧ z15 + 1 + (1 : Int) = (↑b3.fst : Int) ∧ b0.snd.fst = b3.snd.fst) ∧ z16 ∧ z8 ∧ z14 ∧ z32 ∧ z5 ∧ List.map encDL b0.snd.snd.snd.snd ++ z84 = List.map encDL b3.snd.snd.snd.snd ∧ z39 ∧ z40 ∧ z41 ∧ z42 ∧ b0.snd.snd.snd.snd.length + 1 = b3.snd.snd.snd.snd.length ∧ z22 ∧ b0.snd.snd.snd.snd.length + 1 = b3.snd.snd.snd.snd.length) ∧ HunkI ls k b3 ∧ hkM ls b3 < hkM ls b0) ∧ (decide (b2 = z2) = false → z7 ∧ z22 ∧ z13 ∧ z72 ∧ z11 ∧ z12 ∧ ∃ (b3 : Nat × Int × Int × Int × List DL), ((True ∧ True ∧ True ∧ b0.snd.snd.fst - 1 = b3.snd.snd.fst ∧ b0.snd.snd.snd.fst = b3.snd.snd.snd.fst ∧ True) ∧ z9 ∧ (z6 ∧ z15 + 1 = (↑b3.fst : Int) ∧ b0.snd.fst = b3.snd.fst) ∧ z16 ∧ z8 ∧ z14 ∧ z32 ∧ z5 ∧ List.map encDL b0.snd.snd.snd.snd ++ z56 = List.map encDL b3.snd.snd.snd.snd ∧ z39 ∧ z40 ∧ z41 ∧ z42 ∧ b0.snd.snd.snd.snd.length + 1 = b3.snd.snd.snd.snd.length ∧ z22 ∧ b0.snd.snd.snd.snd.length + 1 = b3.snd.snd.snd.snd.length) ∧ HunkI ls k b3 ∧ hkM ls b3 < hkM ls b0)) ∧ (z33 → z48 ∧ z7 ∧ z22 ∧ z13 ∧ z72 ∧ z11 ∧ z12 ∧ ∃ (b2 : Nat × Int × Int × Int × List DL), ((True ∧ True ∧ True ∧ b0.snd.snd.fst - 1 = b2.snd.snd.fst ∧ b0.snd.snd.snd.fst = b2.snd.snd.snd.fst ∧ True) ∧ z9 ∧ (z6 ∧ z15 + 1 = (↑b2.fst : Int) ∧ b0.snd.fst = b2.snd.fst) ∧ z16 ∧ z8 ∧ z14 ∧ z32 ∧ (z65 ∧ z65 ∧ (0 : Int) = (0 : Int) ∧ z65 ∧ z22 ∧ z22 ∧ (0 : Nat) = 0) ∧ List.map encDL b0.snd.snd.snd.snd ++ z56 = List.map encDL b2.snd.snd.snd.snd ∧ z39 ∧ z40 ∧ z41 ∧ z42 ∧ b0.snd.snd.snd.snd.length + 1 = b2.snd.snd.snd.snd.length ∧ z22 ∧ b0.snd.snd.snd.snd.length + 1 = b2.snd.snd.snd.snd.length) ∧ HunkI ls k b2 ∧ hkM ls b2 < hkM ls b0)) ∧ (z20 = false → z48 ∧ (R FT X).m 50 z47 z17 = some (boolA z19, [MObj.row 0 1 z51 true (0 : Nat), MObj.box 83 z30, MObj.row 0 3 z64 true (1 : Nat), MObj.box 29 [strL o, strL nn, AV.row 4 0 hq (0 : Nat) hq], MObj.row 0 5 z63 true (1 : Nat), MObj.row 0 3 [] true (1 : Nat), MObj.box 46 [intA (0 : Int), intA 0, intA 0, intA 0, AV.row 5 0 (0 : Nat) (0 : Nat) (0 : Nat)], MObj.row 0 3 z38 true (1 : Nat), MObj.box 46 [intA z4.fa, intA z4.la, intA z4.fb, intA z4.lb, AV.row 7 0 b0.snd.snd.snd.snd.length (0 : Nat) b0.snd.snd.snd.snd.length], MObj.box 70 [intA 1, AV.val z46, boolA false]]) ∧ (z19 = true → (z35 → InI64 (b0.snd.snd.snd.fst - 1) ∧ z10 ∧ z15 = z15 ∧ z66 ∧ z9 ∧ z10 ∧ z43 ∧ z45 ∧ ∀ (b1 : Bs), let z27 := (Value.string (ofL (List.drop (1 : Nat) (List.take (List.length b1) b1)))); let z85 := [AV.agg [intA 3, AV.val z27, boolA true]]; let z57 := [AV.agg [intA 3, AV.val z27, boolA false]]; let z73 := b0.snd.snd.snd.snd.length + z57.length = b0.snd.snd.snd.snd.length + 1; ls[(0 : Nat) + b0.fst]? = some b1 → z78 ∧ (↑(List.length b1) : Int) = (↑(List.length b1) : Int) ∧ (1 : Nat) ≤ List.length b1 ∧ List.length b1 ≤ List.length b1 ∧ InI64 (z15 + 1) ∧ z10 ∧ z21 ∧ (z36 → z10 ∧ z44 ∧ z61 ∧ z9 ∧ z10 ∧ z34 ∧ z37 ∧ ∀ (b2 : Bs), ls[(0 : Nat) + (b0.fst + 1)]? = some b2 → (decide (b2 = z2) = true → InI64 (z15 + 1 + (1 : Int)) ∧ z7 ∧ z22 ∧ z13 ∧ b0.snd.snd.snd.snd.length + z85.length = b0.snd.snd.snd.snd.length + 1 ∧ z11 ∧ z12 ∧ ∃ (b3 : Nat × Int × Int × Int × List DL), ((True ∧ True ∧ True ∧ b0.snd.snd.fst = b3.snd.snd.fst ∧ b0.snd.snd.snd.fst - 1 = b3.snd.snd.snd.fst ∧ True) ∧ z9 ∧ (z6 ∧ z15 + 1 + (1 : Int) = (↑b3.fst : Int) ∧ b0.snd.fst = b3.snd.fst) ∧ z16 ∧ z8 ∧ z14 ∧ z32 ∧ z5 ∧ List.map encDL b0.snd.snd.snd.snd ++ z85 = List.map encDL b3.snd.snd.snd.snd ∧ z39 ∧ z40 ∧ z41 ∧ z42 ∧ b0.snd.snd.snd.snd.length + 1 = b3.snd.snd.snd.snd.length ∧ z22 ∧ b0.snd.snd.snd.snd.length + 1 = b3.snd.snd.snd.snd.length) ∧ HunkI ls k b3 ∧ hkM ls b3 < hkM ls b0) ∧ (decide (b2 = z2) = false → z7 ∧ z22 ∧ z13 ∧ z73 ∧ z11 ∧ z12 ∧ ∃ (b3 : Nat × Int × Int × Int × List DL), ((True ∧ True ∧ True ∧ b0.snd.snd.fst = b3.snd.snd.fst ∧ b0.snd.snd.snd.fst - 1 = b3.snd.snd.snd.fst ∧ True) ∧ z9 ∧ (z6 ∧ z15 + 1 = (↑b3.fst : Int) ∧ b0.snd.fst = b3.snd.fst) ∧ z16 ∧ z8 ∧ z14 ∧ z32 ∧ z5 ∧ List.map encDL b0.snd.snd.snd.snd ++ z57 = List.map encDL b3.snd.snd.snd.snd ∧ z39 ∧ z40 ∧ z41 ∧ z42 ∧ b0.snd.snd.snd.snd.length + 1 = b3.snd.snd.snd.snd.length ∧ z22 ∧ b0.snd.snd.snd.snd.length + 1 = b3.snd.snd.snd.snd.length) ∧ HunkI ls k b3 ∧ hkM ls b3 < hkM ls b0)) ∧ (z33 → z48 ∧ z7 ∧ z22 ∧ z13 ∧ z73 ∧ z11 ∧ z12 ∧ ∃ (b2 : Nat × Int × Int × Int × List DL), ((True ∧ True ∧ True ∧ b0.snd.snd.fst = b2.snd.snd.fst ∧ b0.snd.snd.snd.fst - 1 = b2.snd.snd.snd.fst ∧ True) ∧ z9 ∧ (z6 ∧ z15 + 1 = (↑b2.fst : Int) ∧ b0.snd.fst = b2.snd.fst) ∧ z16 ∧ z8 ∧ z14 ∧ z32 ∧ z5 ∧ List.map encDL b0.snd.snd.snd.snd ++ z57 = List.map encDL b2.snd.snd.snd.snd ∧ z39 ∧ z40 ∧ z41 ∧ z42 ∧ b0.snd.snd.snd.snd.length + 1 = b2.snd.snd.snd.snd.length ∧ z22 ∧ b0.snd.snd.snd.snd.length + 1 = b2.snd.snd.snd.snd.length) ∧ HunkI ls k b2 ∧ hkM ls b2 < hkM ls b0)) ∧ (z50 → z18 ∧ z9 ∧ z62 ∧ z16 ∧ z8 ∧ z14 ∧ List.map encDL b0.snd.snd.snd.snd = List.map encDL z80)) ∧ z3))) ∧ (z52 → (z35 → z68 ∧ (z31 = true → z52 ∧ z48 ∧ (R FT X).m 50 [AV.ptr 1 0, strL [(45 : UInt8)]] z0 = some (boolA z20, [MObj.row 0 1 z51 true (0 : Nat), MObj.box 83 z30, MObj.row (0 : Nat) (3 : Nat) z64 true (1 : Nat), MObj.box 29 [strL o, strL nn, AV.row 4 0 hq (0 : Nat) hq], MObj.row 0 5 z63 true (1 : Nat), MObj.row 0 3 [] true (1 : Nat), MObj.box 46 [intA 0, intA 0, intA 0, intA 0, AV.row 5 0 (0 : Nat) (0 : Nat) (0 : Nat)], MObj.row 0 3 z38 true (1 : Nat), MObj.box 46 [intA z4.fa, intA z4.la, intA z4.fb, intA z4.lb, AV.row 7 0 b0.snd.snd.snd.snd.length (0 : Nat) b0.snd.snd.snd.snd.length], MObj.box 70 [intA 1, AV.val z46, boolA false]]) ∧ (z20 = true → z52 ∧ (R FT X).m 50 z47 [MObj.row 0 1 z51 true (0 : Nat), MObj.box 83 z30, MObj.row 0 (3 : Nat) z64 true (1 : Nat), MObj.box 29 [strL o, strL nn, AV.row 4 0 hq (0 : Nat) hq], MObj.row 0 5 z63 true (1 : Nat), MObj.row 0 3 [] true (1 : Nat), MObj.box 46 [intA 0, intA 0, intA 0, intA 0, AV.row 5 0 (0 : Nat) (0 : Nat) (0 : Nat)], MObj.row 0 3 z38 true (1 : Nat), MObj.box 46 [intA z4.fa, intA z4.la, intA z4.fb, intA z4.lb, AV.row 7 0 b0.snd.snd.snd.snd.length (0 : Nat) b0.snd.snd.snd.snd.length], MObj.box 70 [intA 1, AV.val z46, boolA false]] = some (boolA z19, z17) ∧ z1 ∧ z3) ∧ (z20 = false → z48 ∧ (R FT X).m 50 z47 [MObj.row 0 1 z51 true (0 : Nat), MObj.box 83 z30, MObj.row 0 3 z64 true (1 : Nat), MObj.box 29 [strL o, strL nn, AV.row 4 0 hq (0 : Nat) hq], MObj.row 0 5 z63 true (1 : Nat), MObj.row 0 3 [] true (1 : Nat), MObj.box 46 [intA 0, intA 0, intA 0, intA (0 : Int), AV.row 5 0 (0 : Nat) (0 : Nat) (0 : Nat)], MObj.row 0 3 z38 true (1 : Nat), MObj.box 46 [intA z4.fa, intA z4.la, intA z4.fb, intA z4.lb, AV.row 7 0 b0.snd.snd.snd.snd.length (0 : Nat) b0.snd.snd.snd.snd.length], MObj.box 70 [intA 1, AV.val z46, boolA false]] = some (boolA z19, z0) ∧ (z19 = true → z35 ∧ InI64 (b0.snd.snd.snd.fst - 1) ∧ z10 ∧ z15 = z15 ∧ z66 ∧ z9 ∧ z10 ∧ z43 ∧ z45 ∧ ∀ (b1 : Bs), let z28 := (Value.string (ofL (List.drop (1 : Nat) (List.take (List.length b1) b1)))); let z86 := [AV.agg [intA 3, AV.val z28, boolA true]]; let z58 := [AV.agg [intA 3, AV.val z28, boolA false]]; let z74 := b0.snd.snd.snd.snd.length + z58.length = b0.snd.snd.snd.snd.length + 1; ls[(0 : Nat) + b0.fst]? = some b1 → z78 ∧ (↑(List.length b1) : Int) = (↑(List.length b1) : Int) ∧ (1 : Nat) ≤ List.length b1 ∧ List.length b1 ≤ List.length b1 ∧ InI64 (z15 + 1) ∧ z10 ∧ z21 ∧ (z36 → z10 ∧ z44 ∧ z61 ∧ z9 ∧ z10 ∧ z34 ∧ z37 ∧ ∀ (b2 : Bs), ls[(0 : Nat) + (b0.fst + 1)]? = some b2 → (decide (b2 = z2) = true → InI64 (z15 + 1 + (1 : Int)) ∧ z7 ∧ z22 ∧ z13 ∧ b0.snd.snd.snd.snd.length + z86.length = b0.snd.snd.snd.snd.length + 1 ∧ (b0.snd.snd.snd.snd.length + (1 : Nat)) * 32 ≤ (140737488355328 : Nat) ∧ z12 ∧ ∃ (b3 : Nat × Int × Int × Int × List DL), ((True ∧ True ∧ True ∧ b0.snd.snd.fst = b3.snd.snd.fst ∧ b0.snd.snd.snd.fst - 1 = b3.snd.snd.snd.fst ∧ True) ∧ z9 ∧ (z6 ∧ z15 + 1 + (1 : Int) = (↑b3.fst : Int) ∧ b0.snd.fst = b3.snd.fst) ∧ z16 ∧ z8 ∧ z14 ∧ z32 ∧ z5 ∧ List.map encDL b0.snd.snd.snd.snd ++ z86 = List.map encDL b3.snd.snd.snd.snd ∧ z39 ∧ z40 ∧ z41 ∧ z42 ∧ b0.snd.snd.snd.snd.length + (1 : Nat) = b3.snd.snd.snd.snd.length ∧ z22 ∧ b0.snd.snd.snd.snd.length + 1 = b3.snd.snd.snd.snd.length) ∧ HunkI ls k b3 ∧ hkM ls b3 < hkM ls b0) ∧ (decide (b2 = z2) = false → z7 ∧ z22 ∧ z13 ∧ z74 ∧ z11 ∧ z12 ∧ ∃ (b3 : Nat × Int × Int × Int × List DL), ((True ∧ True ∧ True ∧ b0.snd.snd.fst = b3.snd.snd.fst ∧ b0.snd.snd.snd.fst - (1 : Int) = b3.snd.snd.snd.fst ∧ True) ∧ z9 ∧ (z6 ∧ z15 + 1 = (↑b3.fst : Int) ∧ b0.snd.fst = b3.snd.fst) ∧ z16 ∧ z8 ∧ z14 ∧ z32 ∧ z5 ∧ List.map encDL b0.snd.snd.snd.snd ++ z58 = List.map encDL b3.snd.snd.snd.snd ∧ z39 ∧ z40 ∧ z41 ∧ z42 ∧ b0.snd.snd.snd.snd.length + 1 = b3.snd.snd.snd.snd.length ∧ z22 ∧ b0.snd.snd.snd.snd.length + 1 = b3.snd.snd.snd.snd.length) ∧ HunkI ls k b3 ∧ hkM ls b3 < hkM ls b0)) ∧ (z33 → z48 ∧ z7 ∧ z22 ∧ z13 ∧ z74 ∧ z11 ∧ z12 ∧ ∃ (b2 : Nat × Int × Int × Int × List DL), ((True ∧ True ∧ True ∧ b0.snd.snd.fst = b2.snd.snd.fst ∧ b0.snd.snd.snd.fst - 1 = b2.snd.snd.snd.fst ∧ True) ∧ z9 ∧ (z6 ∧ z15 + 1 = (↑b2.fst : Int) ∧ b0.snd.fst = b2.snd.fst) ∧ z16 ∧ z8 ∧ z14 ∧ z32 ∧ (z65 ∧ z65 ∧ z65 ∧ z65 ∧ z22 ∧ z22 ∧ (0 : Nat) = (0 : Nat)) ∧ List.map encDL b0.snd.snd.snd.snd ++ z58 = List.map encDL b2.snd.snd.snd.snd ∧ z39 ∧ z40 ∧ z41 ∧ z42 ∧ b0.snd.snd.snd.snd.length + 1 = b2.snd.snd.snd.snd.length ∧ z22 ∧ b0.snd.snd.snd.snd.length + 1 = b2.snd.snd.snd.snd.length) ∧ HunkI ls k b2 ∧ hkM ls b2 < hkM ls b0)) ∧ z3)) ∧ (z31 = false → z48 ∧ z48 ∧ z49 ∧ (z20 = true → z52 ∧ z67 ∧ (z19 = true → z35 ∧ InI64 (b0.snd.snd.snd.fst - (1 : Int)) ∧ z10 ∧ z15 = z15 ∧ z66 ∧ z9 ∧ z10 ∧ z43 ∧ z45 ∧ ∀ (b1 : Bs), let z29 := (Value.string (ofL (List.drop (1 : Nat) (List.take (List.length b1) b1)))); let z87 := [AV.agg [intA 3, AV.val z29, boolA true]]; let z59 := [AV.agg [intA 3, AV.val z29, boolA false]]; let z75 := b0.snd.snd.snd.snd.length + z59.length = b0.snd.snd.snd.snd.length + 1; ls[(0 : Nat) + b0.fst]? = some b1 → z78 ∧ (↑(List.length b1) : Int) = (↑(List.length b1) : Int) ∧ (1 : Nat) ≤ List.length b1 ∧ List.length b1 ≤ List.length b1 ∧ InI64 (z15 + 1) ∧ z10 ∧ z21 ∧ (z36 → z10 ∧ z44 ∧ z61 ∧ z9 ∧ z10 ∧ z34 ∧ z37 ∧ ∀ (b2 : Bs), ls[(0 : Nat) + (b0.fst + 1)]? = some b2 → (decide (b2 = z2) = true → InI64 (z15 + 1 + (1 : Int)) ∧ z7 ∧ z22 ∧ z13 ∧ b0.snd.snd.snd.snd.length + z87.length = b0.snd.snd.snd.snd.length + 1 ∧ z11 ∧ z12 ∧ ∃ (b3 : Nat × Int × Int × Int × List DL), ((True ∧ True ∧ True ∧ b0.snd.snd.fst = b3.snd.snd.fst ∧ b0.snd.snd.snd.fst - 1 = b3.snd.snd.snd.fst ∧ True) ∧ z9 ∧ (z6 ∧ z15 + 1 + (1 : Int) = (↑b3.fst : Int) ∧ b0.snd.fst = b3.snd.fst) ∧ z16 ∧ z8 ∧ z14 ∧ z32 ∧ z5 ∧ List.map encDL b0.snd.snd.snd.snd ++ z87 = List.map encDL b3.snd.snd.snd.snd ∧ z39 ∧ z40 ∧ z41 ∧ z42 ∧ b0.snd.snd.snd.snd.length + 1 = b3.snd.snd.snd.snd.length ∧ z22 ∧ b0.snd.snd.snd.snd.length + 1 = b3.snd.snd.snd.snd.length) ∧ HunkI ls k b3 ∧ hkM ls b3 < hkM ls b0) ∧ (decide (b2 = z2) = false → z7 ∧ z22 ∧ z13 ∧ z75 ∧ z11 ∧ z12 ∧ ∃ (b3 : Nat × Int × Int × Int × List DL), ((True ∧ True ∧ True ∧ b0.snd.snd.fst = b3.snd.snd.fst ∧ b0.snd.snd.snd.fst - 1 = b3.snd.snd.snd.fst ∧ True) ∧ z9 ∧ (z6 ∧ z15 + 1 = (↑b3.fst : Int) ∧ b0.snd.fst = b3.snd.fst) ∧ z16 ∧ z8 ∧ z14 ∧ z32 ∧ z5 ∧ List.map encDL b0.snd.snd.snd.snd ++ z59 = List.map encDL b3.snd.snd.snd.snd ∧ z39 ∧ z40 ∧ z41 ∧ z42 ∧ b0.snd.snd.snd.snd.length + 1 = b3.snd.snd.snd.snd.length ∧ z22 ∧ b0.snd.snd.snd.snd.length + 1 = b3.snd.snd.snd.snd.length) ∧ HunkI ls k b3 ∧ hkM ls b3 < hkM ls b0)) ∧ (z33 → z48 ∧ z7 ∧ z22 ∧ z13 ∧ z75 ∧ z11 ∧ z12 ∧ ∃ (b2 : Nat × Int × Int × Int × List DL), ((True ∧ True ∧ True ∧ b0.snd.snd.fst = b2.snd.snd.fst ∧ b0.snd.snd.snd.fst - 1 = b2.snd.snd.snd.fst ∧ True) ∧ z9 ∧ (z6 ∧ z15 + 1 = (↑b2.fst : Int) ∧ b0.snd.fst = b2.snd.fst) ∧ z16 ∧ z8 ∧ z14 ∧ z32 ∧ z5 ∧ List.map encDL b0.snd.snd.snd.snd ++ z59 = List.map encDL b2.snd.snd.snd.snd ∧ z39 ∧ z40 ∧ z41 ∧ z42 ∧ b0.snd.snd.snd.snd.length + 1 = b2.snd.snd.snd.snd.length ∧ z22 ∧ b0.snd.snd.snd.snd.length + 1 = b2.snd.snd.snd.snd.length) ∧ HunkI ls k b2 ∧ hkM ls b2 < hkM ls b0)) ∧ z3) ∧ (z20 = false → z48 ∧ z67 ∧ z1 ∧ z3))) ∧ (z50 → z18 ∧ z9 ∧ z76 ∧ z16 ∧ z8 ∧ z14 ∧ List.map encDL b0.snd.snd.snd.snd = List.map encDL z80))) ∧ (decide z79 = false → z48 ∧ z18 ∧ z9 ∧ z76 ∧ z16 ∧ z8 ∧ z14 ∧ List.map encDL b0.snd.snd.snd.snd = List.map encDL z80))) ?_
 conv => zeta
 conv => zeta
 refine ⟨(hd _ _ _ (by exact rfl) hl hx hk _ _ _ _ _), ⟨(hdA ls k, hdE (lnAt ls k), (hdG (lnAt ls k)).la, (hdG (lnAt ls k)).lb, []), ⟨⟨trivial, trivial, trivial, rfl, rfl, trivial⟩, rfl, ⟨⟨rfl, rfl, rfl⟩, rfl, rfl⟩, rfl, ⟨rfl, rfl, rfl, rfl, rfl⟩, rfl, rfl, ⟨rfl, rfl, rfl, rfl, rfl, rfl, rfl⟩, rfl, rfl, rfl, rfl, rfl, rfl, rfl, rfl⟩, ?_⟩, fun j => fun h2 => ⟨fun h3_ => have h3 := dT h3_; ⟨fun h4_ => have h4 := dT h4_; ⟨rfl, (is _ _ _ _ _ (by exact rfl) hl _ _ _ _ _ _ _ _ _ _ _ _ _ _), fun h5 => ⟨h4_, fun h6_ => have h6 := dT h6_; ⟨?_, ?_, (by simp), rfl, ?_, rfl, (by simp), rfl, ?_, fun x7 => fun h8 => ⟨rfl, rfl, ?_, (by omega), ?_, (by simp), (by simp), fun h9_ => have h9 := dT h9_; ⟨(by simp), (by omega), (by omega), rfl, (by simp), rfl, (by omega), fun x10 => fun h11 => ⟨fun h12_ => have h12 := dT h12_; ⟨(by unfold InI64; omega), (by simp), rfl, rfl, rfl, ?_, ?_, ⟨(j.fst + (1 : Nat) + (1 : Nat), j.snd.fst, j.snd.snd.fst - (1 : Int), j.snd.snd.snd.fst - (1 : Int),
 j.snd.snd.snd.snd ++ [DL.mk (1 : Int) (List.drop (1 : Nat) (List.take (List.length x7) x7)) true]), ⟨⟨trivial, trivial, trivial, rfl, rfl, trivial⟩, rfl, ⟨⟨rfl, rfl, rfl⟩, (by (try dsimp only); omega), rfl⟩, rfl, ⟨rfl, rfl, rfl, rfl, rfl⟩, rfl, rfl, ⟨rfl, rfl, rfl, rfl, rfl, rfl, rfl⟩, ?_, rfl, rfl, rfl, rfl, (by simp), rfl, (by simp)⟩, ⟨?_, ?_⟩⟩⟩, fun h14_ => have h14 := dF h14_; ⟨(by simp), rfl, rfl, rfl, ?_, ?_, ⟨(j.fst + (1 : Nat), j.snd.fst, j.snd.snd.fst - (1 : Int), j.snd.snd.snd.fst - (1 : Int),
 j.snd.snd.snd.snd ++ [DL.mk (1 : Int) (List.drop (1 : Nat) (List.take (List.length x7) x7)) false]), ⟨⟨trivial, trivial, trivial, rfl, rfl, trivial⟩, rfl, ⟨⟨rfl, rfl, rfl⟩, (by (try dsimp only); omega), rfl⟩, rfl, ⟨rfl, rfl, rfl, rfl, rfl⟩, rfl, rfl, ⟨rfl, rfl, rfl, rfl, rfl, rfl, rfl⟩, ?_, rfl, rfl, rfl, rfl, (by simp), rfl, (by simp)⟩, ⟨?_, ?_⟩⟩⟩⟩⟩, fun h16_ => have h16 := dF h16_; ⟨rfl, (by simp), rfl, rfl, rfl, ?_, ?_, ⟨(j.fst + (1 : Nat), j.snd.fst, j.snd.snd.fst - (1 : Int), j.snd.snd.snd.fst - (1 : Int),
 j.snd.snd.snd.snd ++ [DL.mk (1 : Int) (List.drop (1 : Nat) (List.take (List.length x7) x7)) false]), ⟨⟨trivial, trivial, trivial, rfl, rfl, trivial⟩, rfl, ⟨⟨rfl, rfl, rfl⟩, (by (try dsimp only); omega), rfl⟩, rfl, ⟨rfl, rfl, rfl, rfl, rfl⟩, rfl, rfl, ⟨rfl, rfl, rfl, rfl, rfl, rfl, rfl⟩, ?_, rfl, rfl, rfl, rfl, (by simp), rfl, (by simp)⟩, ⟨?_, ?_⟩⟩⟩⟩⟩, fun h18_ => have h18 := dF h18_; ⟨(is _ _ _ _ _ (by exact rfl) hl _ _ _ _ _ _ _ _ _ _ _ _ _ _), fun h19 => ⟨h4_, ?_, (by simp), rfl, ?_, rfl, (by simp), rfl, ?_, fun x20 => fun h21 => ⟨rfl, rfl, ?_, (by omega), ?_, (by simp), (by simp), fun h22_ => have h22 := dT h22_; ⟨(by simp), (by omega), (by omega), rfl, (by simp), rfl, (by omega), fun x23 => fun h24 => ⟨fun h25_ => have h25 := dT h25_; ⟨(by unfold InI64; omega), (by simp), rfl, rfl, rfl, ?_, ?_, ⟨(j.fst + (1 : Nat) + (1 : Nat), j.snd.fst, j.snd.snd.fst - (1 : Int), j.snd.snd.snd.fst,
 j.snd.snd.snd.snd ++ [DL.mk (2 : Int) (List.drop (1 : Nat) (List.take (List.length x20) x20)) true]), ⟨⟨trivial, trivial, trivial, rfl, rfl, trivial⟩, rfl, ⟨⟨rfl, rfl, rfl⟩, (by (try dsimp only); omega), rfl⟩, rfl, ⟨rfl, rfl, rfl, rfl, rfl⟩, rfl, rfl, ⟨rfl, rfl, rfl, rfl, rfl, rfl, rfl⟩, ?_, rfl, rfl, rfl, rfl, (by simp), rfl, (by simp)⟩, ⟨?_, ?_⟩⟩⟩, fun h27_ => have h27 := dF h27_; ⟨(by simp), rfl, rfl, rfl, ?_, ?_, ⟨(j.fst + (1 : Nat), j.snd.fst, j.snd.snd.fst - (1 : Int), j.snd.snd.snd.fst,
 j.snd.snd.snd.snd ++ [DL.mk (2 : Int) (List.drop (1 : Nat) (List.take (List.length x20) x20)) false]), ⟨⟨trivial, trivial, trivial, rfl, rfl, trivial⟩, rfl, ⟨⟨rfl, rfl, rfl⟩, (by (try dsimp only); omega), rfl⟩, rfl, ⟨rfl, rfl, rfl, rfl, rfl⟩, rfl, rfl, ⟨rfl, rfl, rfl, rfl, rfl, rfl, rfl⟩, ?_, rfl, rfl, rfl, rfl, (by simp), rfl, (by simp)⟩, ⟨?_, ?_⟩⟩⟩⟩⟩, fun h29_ => have h29 := dF h29_; ⟨rfl, (by simp), rfl, rfl, rfl, ?_, ?_, ⟨(j.fst + (1 : Nat), j.snd.fst, j.snd.snd.fst - (1 : Int), j.snd.snd.snd.fst,
 j.snd.snd.snd.snd ++ [DL.mk (2 : Int) (List.drop (1 : Nat) (List.take (List.length x20) x20)) false]), ⟨⟨trivial, trivial, trivial, rfl, rfl, trivial⟩, rfl, ⟨⟨rfl, rfl, rfl⟩, (by (try dsimp only); omega), rfl⟩, rfl, ⟨rfl, rfl, rfl, rfl, rfl⟩, rfl, rfl, ⟨rfl, rfl, rfl, rfl, rfl, rfl, rfl⟩, ?_, rfl, rfl, rfl, rfl, (by simp), rfl, (by simp)⟩, ⟨?_, ?_⟩⟩⟩⟩⟩, fun h31 => ⟨rfl, (is _ _ _ _ _ (by exact rfl) hl _ _ _ _ _ _ _ _ _ _ _ _ _ _), fun h32 => ⟨h18_, ⟨rfl, rfl, rfl, rfl, ?_, rfl, ?_⟩, rfl, ⟨⟨rfl, rfl, rfl⟩, ?_, ?_⟩, rfl, ⟨rfl, rfl, rfl, rfl, rfl⟩, rfl, ?_⟩, fun h33 => ⟨rfl, ⟨rfl, rfl, rfl, rfl, ?_, rfl, ?_⟩, rfl, ⟨⟨rfl, rfl, rfl⟩, ?_, ?_⟩, rfl, ⟨rfl, rfl, rfl, rfl, rfl⟩, rfl, ?_⟩⟩⟩⟩, fun h34 => ⟨rfl, rfl, (is _ _ _ _ _ (by exact rfl) hl _ _ _ _ _ _ _ _ _ _ _ _ _ _), fun h35 => ⟨h4_, ?_, (by simp), rfl, ?_, rfl, (by simp), rfl, ?_, fun x36 => fun h37 => ⟨rfl, rfl, ?_, (by omega), ?_, (by simp), (by simp), fun h38_ => have h38 := dT h38_; ⟨(by simp), (by omega), (by omega), rfl, (by simp), rfl, (by omega), fun x39 => fun h40 => ⟨fun h41_ => have h41 := dT h41_; ⟨(by unfold InI64; omega), (by simp), rfl, rfl, rfl, ?_, ?_, ⟨(j.fst + (1 : Nat) + (1 : Nat), j.snd.fst, j.snd.snd.fst - (1 : Int), j.snd.snd.snd.fst,
 j.snd.snd.snd.snd ++ [DL.mk (2 : Int) (List.drop (1 : Nat) (List.take (List.length x36) x36)) true]), ⟨⟨trivial, trivial, trivial, rfl, rfl, trivial⟩, rfl, ⟨⟨rfl, rfl, rfl⟩, (by (try dsimp only); omega), rfl⟩, rfl, ⟨rfl, rfl, rfl, rfl, rfl⟩, rfl, rfl, ⟨rfl, rfl, rfl, rfl, rfl, rfl, rfl⟩, ?_, rfl, rfl, rfl, rfl, (by simp), rfl, (by simp)⟩, ⟨?_, ?_⟩⟩⟩, fun h43_ => have h43 := dF h43_; ⟨(by simp), rfl, rfl, rfl, ?_, ?_, ⟨(j.fst + (1 : Nat), j.snd.fst, j.snd.snd.fst - (1 : Int), j.snd.snd.snd.fst,
 j.snd.snd.snd.snd ++ [DL.mk (2 : Int) (List.drop (1 : Nat) (List.take (List.length x36) x36)) false]), ⟨⟨trivial, trivial, trivial, rfl, rfl, trivial⟩, rfl, ⟨⟨rfl, rfl, rfl⟩, (by (try dsimp only); omega), rfl⟩, rfl, ⟨rfl, rfl, rfl, rfl, rfl⟩, rfl, rfl, ⟨rfl, rfl, rfl, rfl, rfl, rfl, rfl⟩, ?_, rfl, rfl, rfl, rfl, (by simp), rfl, (by simp)⟩, ⟨?_, ?_⟩⟩⟩⟩⟩, fun h45_ => have h45 := dF h45_; ⟨rfl, (by simp), rfl, rfl, rfl, ?_, ?_, ⟨(j.fst + (1 : Nat), j.snd.fst, j.snd.snd.fst - (1 : Int), j.snd.snd.snd.fst,
 j.snd.snd.snd.snd ++ [DL.mk (2 : Int) (List.drop (1 : Nat) (List.take (List.length x36) x36)) false]), ⟨⟨trivial, trivial, trivial, rfl, rfl, trivial⟩, rfl, ⟨⟨rfl, rfl, rfl⟩, (by (try dsimp only); omega), rfl⟩, rfl, ⟨rfl, rfl, rfl, rfl, rfl⟩, rfl, rfl, ⟨rfl, rfl, rfl, rfl, rfl, rfl, rfl⟩, ?_, rfl, rfl, rfl, rfl, (by simp), rfl, (by simp)⟩, ⟨?_, ?_⟩⟩⟩⟩⟩, fun h47 => ⟨rfl, (is _ _ _ _ _ (by exact rfl) hl _ _ _ _ _ _ _ _ _ _ _ _ _ _), fun h48 => ⟨fun h49_ => have h49 := dT h49_; ⟨?_, (by simp), rfl, ?_, rfl, (by simp), rfl, ?_, fun x50 => fun h51 => ⟨rfl, rfl, ?_, (by omega), ?_, (by simp), (by simp), fun h52_ => have h52 := dT h52_; ⟨(by simp), (by omega), (by omega), rfl, (by simp), rfl, (by omega), fun x53 => fun h54 => ⟨fun h55_ => have h55 := dT h55_; ⟨(by unfold InI64; omega), (by simp), rfl, rfl, rfl, ?_, ?_, ⟨(j.fst + (1 : Nat) + (1 : Nat), j.snd.fst, j.snd.snd.fst, j.snd.snd.snd.fst - (1 : Int),
 j.snd.snd.snd.snd ++ [DL.mk (3 : Int) (List.drop (1 : Nat) (List.take (List.length x50) x50)) true]), ⟨⟨trivial, trivial, trivial, rfl, rfl, trivial⟩, rfl, ⟨⟨rfl, rfl, rfl⟩, (by (try dsimp only); omega), rfl⟩, rfl, ⟨rfl, rfl, rfl, rfl, rfl⟩, rfl, rfl, ⟨rfl, rfl, rfl, rfl, rfl, rfl, rfl⟩, ?_, rfl, rfl, rfl, rfl, (by simp), rfl, (by simp)⟩, ⟨?_, ?_⟩⟩⟩, fun h57_ => have h57 := dF h57_; ⟨(by simp), rfl, rfl, rfl, ?_, ?_, ⟨(j.fst + (1 : Nat), j.snd.fst, j.snd.snd.fst, j.snd.snd.snd.fst - (1 : Int),
 j.snd.snd.snd.snd ++ [DL.mk (3 : Int) (List.drop (1 : Nat) (List.take (List.length x50) x50)) false]), ⟨⟨trivial, trivial, trivial, rfl, rfl, trivial⟩, rfl, ⟨⟨rfl, rfl, rfl⟩, (by (try dsimp only); omega), rfl⟩, rfl, ⟨rfl, rfl, rfl, rfl, rfl⟩, rfl, rfl, ⟨rfl, rfl, rfl, rfl, rfl, rfl, rfl⟩, ?_, rfl, rfl, rfl, rfl, (by simp), rfl, (by simp)⟩, ⟨?_, ?_⟩⟩⟩⟩⟩, fun h59_ => have h59 := dF h59_; ⟨rfl, (by simp), rfl, rfl, rfl, ?_, ?_, ⟨(j.fst + (1 : Nat), j.snd.fst, j.snd.snd.fst, j.snd.snd.snd.fst - (1 : Int),
 j.snd.snd.snd.snd ++ [DL.mk (3 : Int) (List.drop (1 : Nat) (List.take (List.length x50) x50)) false]), ⟨⟨trivial, trivial, trivial, rfl, rfl, trivial⟩, rfl, ⟨⟨rfl, rfl, rfl⟩, (by (try dsimp only); omega), rfl⟩, rfl, ⟨rfl, rfl, rfl, rfl, rfl⟩, rfl, rfl, ⟨rfl, rfl, rfl, rfl, rfl, rfl, rfl⟩, ?_, rfl, rfl, rfl, rfl, (by simp), rfl, (by simp)⟩, ⟨?_, ?_⟩⟩⟩⟩⟩, fun h61_ => have h61 := dF h61_; ⟨⟨rfl, rfl, rfl, rfl, ?_, rfl, ?_⟩, rfl, ⟨⟨rfl, rfl, rfl⟩, ?_, ?_⟩, rfl, ⟨rfl, rfl, rfl, rfl, rfl⟩, rfl, ?_⟩⟩, fun h62 => ⟨rfl, ⟨rfl, rfl, rfl, rfl, ?_, rfl, ?_⟩, rfl, ⟨⟨rfl, rfl, rfl⟩, ?_, ?_⟩, rfl, ⟨rfl, rfl, rfl, rfl, rfl⟩, rfl, ?_⟩⟩⟩⟩, fun h63_ => have h63 := dF h63_; ⟨fun h64_ => have h64 := dT h64_; ⟨(is _ _ _ _ _ (by exact rfl) hl _ _ _ _ _ _ _ _ _ _ _ _ _ _), fun h65 => ⟨h63_, rfl, (is _ _ _ _ _ (by exact rfl) hl _ _ _ _ _ _ _ _ _ _ _ _ _ _), fun h66 => ⟨h63_, (is _ _ _ _ _ (by exact rfl) hl _ _ _ _ _ _ _ _ _ _ _ _ _ _), fun h67 => ⟨h64_, ?_, (by simp), rfl, ?_, rfl, (by simp), rfl, ?_, fun x68 => fun h69 => ⟨rfl, rfl, ?_, (by omega), ?_, (by simp), (by simp), fun h70_ => have h70 := dT h70_; ⟨(by simp), (by omega), (by omega), rfl, (by simp), rfl, (by omega), fun x71 => fun h72 => ⟨fun h73_ => have h73 := dT h73_; ⟨(by unfold InI64; omega), (by simp), rfl, rfl, rfl, ?_, ?_, ⟨(j.fst + (1 : Nat) + (1 : Nat), j.snd.fst, j.snd.snd.fst, j.snd.snd.snd.fst - (1 : Int),
 j.snd.snd.snd.snd ++ [DL.mk (3 : Int) (List.drop (1 : Nat) (List.take (List.length x68) x68)) true]), ⟨⟨trivial, trivial, trivial, rfl, rfl, trivial⟩, rfl, ⟨⟨rfl, rfl, rfl⟩, (by (try dsimp only); omega), rfl⟩, rfl, ⟨rfl, rfl, rfl, rfl, rfl⟩, rfl, rfl, ⟨rfl, rfl, rfl, rfl, rfl, rfl, rfl⟩, ?_, rfl, rfl, rfl, rfl, (by simp), rfl, (by simp)⟩, ⟨?_, ?_⟩⟩⟩, fun h75_ => have h75 := dF h75_; ⟨(by simp), rfl, rfl, rfl, ?_, ?_, ⟨(j.fst + (1 : Nat), j.snd.fst, j.snd.snd.fst, j.snd.snd.snd.fst - (1 : Int),
 j.snd.snd.snd.snd ++ [DL.mk (3 : Int) (List.drop (1 : Nat) (List.take (List.length x68) x68)) false]), ⟨⟨trivial, trivial, trivial, rfl, rfl, trivial⟩, rfl, ⟨⟨rfl, rfl, rfl⟩, (by (try dsimp only); omega), rfl⟩, rfl, ⟨rfl, rfl, rfl, rfl, rfl⟩, rfl, rfl, ⟨rfl, rfl, rfl, rfl, rfl, rfl, rfl⟩, ?_, rfl, rfl, rfl, rfl, (by simp), rfl, (by simp)⟩, ⟨?_, ?_⟩⟩⟩⟩⟩, fun h77_ => have h77 := dF h77_; ⟨rfl, (by simp), rfl, rfl, rfl, ?_, ?_, ⟨(j.fst + (1 : Nat), j.snd.fst, j.snd.snd.fst, j.snd.snd.snd.fst - (1 : Int),
 j.snd.snd.snd.snd ++ [DL.mk (3 : Int) (List.drop (1 : Nat) (List.take (List.length x68) x68)) false]), ⟨⟨trivial, trivial, trivial, rfl, rfl, trivial⟩, rfl, ⟨⟨rfl, rfl, rfl⟩, (by (try dsimp only); omega), rfl⟩, rfl, ⟨rfl, rfl, rfl, rfl, rfl⟩, rfl, rfl, ⟨rfl, rfl, rfl, rfl, rfl, rfl, rfl⟩, ?_, rfl, rfl, rfl, rfl, (by simp), rfl, (by simp)⟩, ⟨?_, ?_⟩⟩⟩⟩⟩, fun h79 => ⟨rfl, ⟨rfl, rfl, rfl, rfl, ?_, rfl, ?_⟩, rfl, ⟨⟨rfl, rfl, rfl⟩, ?_, ?_⟩, rfl, ⟨rfl, rfl, rfl, rfl, rfl⟩, rfl, ?_⟩⟩, fun h80 => ⟨rfl, (is _ _ _ _ _ (by exact rfl) hl _ _ _ _ _ _ _ _ _ _ _ _ _ _), fun h81 => ⟨h64_, ?_, (by simp), rfl, ?_, rfl, (by simp), rfl, ?_, fun x82 => fun h83 => ⟨rfl, rfl, ?_, (by omega), ?_, (by simp), (by simp), fun h84_ => have h84 := dT h84_; ⟨(by simp), (by omega), (by omega), rfl, (by simp), rfl, (by omega), fun x85 => fun h86 => ⟨fun h87_ => have h87 := dT h87_; ⟨(by unfold InI64; omega), (by simp), rfl, rfl, rfl, ?_, ?_, ⟨(j.fst + (1 : Nat) + (1 : Nat), j.snd.fst, j.snd.snd.fst, j.snd.snd.snd.fst - (1 : Int),
 j.snd.snd.snd.snd ++ [DL.mk (3 : Int) (List.drop (1 : Nat) (List.take (List.length x82) x82)) true]), ⟨⟨trivial, trivial, trivial, rfl, rfl, trivial⟩, rfl, ⟨⟨rfl, rfl, rfl⟩, (by (try dsimp only); omega), rfl⟩, rfl, ⟨rfl, rfl, rfl, rfl, rfl⟩, rfl, rfl, ⟨rfl, rfl, rfl, rfl, rfl, rfl, rfl⟩, ?_, rfl, rfl, rfl, rfl, (by simp), rfl, (by simp)⟩, ⟨?_, ?_⟩⟩⟩, fun h89_ => have h89 := dF h89_; ⟨(by simp), rfl, rfl, rfl, ?_, ?_, ⟨(j.fst + (1 : Nat), j.snd.fst, j.snd.snd.fst, j.snd.snd.snd.fst - (1 : Int),
 j.snd.snd.snd.snd ++ [DL.mk (3 : Int) (List.drop (1 : Nat) (List.take (List.length x82) x82)) false]), ⟨⟨trivial, trivial, trivial, rfl, rfl, trivial⟩, rfl, ⟨⟨rfl, rfl, rfl⟩, (by (try dsimp only); omega), rfl⟩, rfl, ⟨rfl, rfl, rfl, rfl, rfl⟩, rfl, rfl, ⟨rfl, rfl, rfl, rfl, rfl, rfl, rfl⟩, ?_, rfl, rfl, rfl, rfl, (by simp), rfl, (by simp)⟩, ⟨?_, ?_⟩⟩⟩⟩⟩, fun h91_ => have h91 := dF h91_; ⟨rfl, (by simp), rfl, rfl, rfl, ?_, ?_, ⟨(j.fst + (1 : Nat), j.snd.fst, j.snd.snd.fst, j.snd.snd.snd.fst - (1 : Int),
 j.snd.snd.snd.snd ++ [DL.mk (3 : Int) (List.drop (1 : Nat) (List.take (List.length x82) x82)) false]), ⟨⟨trivial, trivial, trivial, rfl, rfl, trivial⟩, rfl, ⟨⟨rfl, rfl, rfl⟩, (by (try dsimp only); omega), rfl⟩, rfl, ⟨rfl, rfl, rfl, rfl, rfl⟩, rfl, rfl, ⟨rfl, rfl, rfl, rfl, rfl, rfl, rfl⟩, ?_, rfl, rfl, rfl, rfl, (by simp), rfl, (by simp)⟩, ⟨?_, ?_⟩⟩⟩⟩⟩, fun h93 => ⟨rfl, ⟨rfl, rfl, rfl, rfl, ?_, rfl, ?_⟩, rfl, ⟨⟨rfl, rfl, rfl⟩, ?_, ?_⟩, rfl, ⟨rfl, rfl, rfl, rfl, rfl⟩, rfl, ?_⟩⟩⟩, fun h94 => ⟨rfl, rfl, (is _ _ _ _ _ (by exact rfl) hl _ _ _ _ _ _ _ _ _ _ _ _ _ _), fun h95 => ⟨h63_, (is _ _ _ _ _ (by exact rfl) hl _ _ _ _ _ _ _ _ _ _ _ _ _ _), fun h96 => ⟨h64_, ?_, (by simp), rfl, ?_, rfl, (by simp), rfl, ?_, fun x97 => fun h98 => ⟨rfl, rfl, ?_, (by omega), ?_, (by simp), (by simp), fun h99_ => have h99 := dT h99_; ⟨(by simp), (by omega), (by omega), rfl, (by simp), rfl, (by omega), fun x100 => fun h101 => ⟨fun h102_ => have h102 := dT h102_; ⟨(by unfold InI64; omega), (by simp), rfl, rfl, rfl, ?_, ?_, ⟨(j.fst + (1 : Nat) + (1 : Nat), j.snd.fst, j.snd.snd.fst, j.snd.snd.snd.fst - (1 : Int),
 j.snd.snd.snd.snd ++ [DL.mk (3 : Int) (List.drop (1 : Nat) (List.take (List.length x97) x97)) true]), ⟨⟨trivial, trivial, trivial, rfl, rfl, trivial⟩, rfl, ⟨⟨rfl, rfl, rfl⟩, (by (try dsimp only); omega), rfl⟩, rfl, ⟨rfl, rfl, rfl, rfl, rfl⟩, rfl, rfl, ⟨rfl, rfl, rfl, rfl, rfl, rfl, rfl⟩, ?_, rfl, rfl, rfl, rfl, (by simp), rfl, (by simp)⟩, ⟨?_, ?_⟩⟩⟩, fun h104_ => have h104 := dF h104_; ⟨(by simp), rfl, rfl, rfl, ?_, ?_, ⟨(j.fst + (1 : Nat), j.snd.fst, j.snd.snd.fst, j.snd.snd.snd.fst - (1 : Int),
 j.snd.snd.snd.snd ++ [DL.mk (3 : Int) (List.drop (1 : Nat) (List.take (List.length x97) x97)) false]), ⟨⟨trivial, trivial, trivial, rfl, rfl, trivial⟩, rfl, ⟨⟨rfl, rfl, rfl⟩, (by (try dsimp only); omega), rfl⟩, rfl, ⟨rfl, rfl, rfl, rfl, rfl⟩, rfl, rfl, ⟨rfl, rfl, rfl, rfl, rfl, rfl, rfl⟩, ?_, rfl, rfl, rfl, rfl, (by simp), rfl, (by simp)⟩, ⟨?_, ?_⟩⟩⟩⟩⟩, fun h106_ => have h106 := dF h106_; ⟨rfl, (by simp), rfl, rfl, rfl, ?_, ?_, ⟨(j.fst + (1 : Nat), j.snd.fst, j.snd.snd.fst, j.snd.snd.snd.fst - (1 : Int),
 j.snd.snd.snd.snd ++ [DL.mk (3 : Int) (List.drop (1 : Nat) (List.take (List.length x97) x97)) false]), ⟨⟨trivial, trivial, trivial, rfl, rfl, trivial⟩, rfl, ⟨⟨rfl, rfl, rfl⟩, (by (try dsimp only); omega), rfl⟩, rfl, ⟨rfl, rfl, rfl, rfl, rfl⟩, rfl, rfl, ⟨rfl, rfl, rfl, rfl, rfl, rfl, rfl⟩, ?_, rfl, rfl, rfl, rfl, (by simp), rfl, (by simp)⟩, ⟨?_, ?_⟩⟩⟩⟩⟩, fun h108 => ⟨rfl, ⟨rfl, rfl, rfl, rfl, ?_, rfl, ?_⟩, rfl, ⟨⟨rfl, rfl, rfl⟩, ?_, ?_⟩, rfl, ⟨rfl, rfl, rfl, rfl, rfl⟩, rfl, ?_⟩⟩, fun h109 => ⟨rfl, (is _ _ _ _ _ (by exact rfl) hl _ _ _ _ _ _ _ _ _ _ _ _ _ _), fun h110 => ⟨h64_, ?_, (by simp), rfl, ?_, rfl, (by simp), rfl, ?_, fun x111 => fun h112 => ⟨rfl, rfl, ?_, (by omega), ?_, (by simp), (by simp), fun h113_ => have h113 := dT h113_; ⟨(by simp), (by omega), (by omega), rfl, (by simp), rfl, (by omega), fun x114 => fun h115 => ⟨fun h116_ => have h116 := dT h116_; ⟨(by unfold InI64; omega), (by simp), rfl, rfl, rfl, ?_, ?_, ⟨(j.fst + (1 : Nat) + (1 : Nat), j.snd.fst, j.snd.snd.fst, j.snd.snd.snd.fst - (1 : Int),
 j.snd.snd.snd.snd ++ [DL.mk (3 : Int) (List.drop (1 : Nat) (List.take (List.length x111) x111)) true]), ⟨⟨trivial, trivial, trivial, rfl, rfl, trivial⟩, rfl, ⟨⟨rfl, rfl, rfl⟩, (by (try dsimp only); omega), rfl⟩, rfl, ⟨rfl, rfl, rfl, rfl, rfl⟩, rfl, rfl, ⟨rfl, rfl, rfl, rfl, rfl, rfl, rfl⟩, ?_, rfl, rfl, rfl, rfl, (by simp), rfl, (by simp)⟩, ⟨?_, ?_⟩⟩⟩, fun h118_ => have h118 := dF h118_; ⟨(by simp), rfl, rfl, rfl, ?_, ?_, ⟨(j.fst + (1 : Nat), j.snd.fst, j.snd.snd.fst, j.snd.snd.snd.fst - (1 : Int),
 j.snd.snd.snd.snd ++ [DL.mk (3 : Int) (List.drop (1 : Nat) (List.take (List.length x111) x111)) false]), ⟨⟨trivial, trivial, trivial, rfl, rfl, trivial⟩, rfl, ⟨⟨rfl, rfl, rfl⟩, (by (try dsimp only); omega), rfl⟩, rfl, ⟨rfl, rfl, rfl, rfl, rfl⟩, rfl, rfl, ⟨rfl, rfl, rfl, rfl, rfl, rfl, rfl⟩, ?_, rfl, rfl, rfl, rfl, (by simp), rfl, (by simp)⟩, ⟨?_, ?_⟩⟩⟩⟩⟩, fun h120_ => have h120 := dF h120_; ⟨rfl, (by simp), rfl, rfl, rfl, ?_, ?_, ⟨(j.fst + (1 : Nat), j.snd.fst, j.snd.snd.fst, j.snd.snd.snd.fst - (1 : Int),
 j.snd.snd.snd.snd ++ [DL.mk (3 : Int) (List.drop (1 : Nat) (List.take (List.length x111) x111)) false]), ⟨⟨trivial, trivial, trivial, rfl, rfl, trivial⟩, rfl, ⟨⟨rfl, rfl, rfl⟩, (by (try dsimp only); omega), rfl⟩, rfl, ⟨rfl, rfl, rfl, rfl, rfl⟩, rfl, rfl, ⟨rfl, rfl, rfl, rfl, rfl, rfl, rfl⟩, ?_, rfl, rfl, rfl, rfl, (by simp), rfl, (by simp)⟩, ⟨?_, ?_⟩⟩⟩⟩⟩, fun h122 => ⟨rfl, ⟨rfl, rfl, rfl, rfl, ?_, rfl, ?_⟩, rfl, ⟨⟨rfl, rfl, rfl⟩, ?_, ?_⟩, rfl, ⟨rfl, rfl, rfl, rfl, rfl⟩, rfl, ?_⟩⟩⟩⟩, fun h123_ => have h123 := dF h123_; ⟨⟨rfl, rfl, rfl, rfl, ?_, rfl, ?_⟩, rfl, ⟨⟨rfl, rfl, rfl⟩, ?_, ?_⟩, rfl, ⟨rfl, rfl, rfl, rfl, rfl⟩, rfl, ?_⟩⟩⟩, fun h124_ => have h124 := dF h124_; ⟨rfl, ⟨rfl, rfl, rfl, rfl, ?_, rfl, ?_⟩, rfl, ⟨⟨rfl, rfl, rfl⟩, ?_, ?_⟩, rfl, ⟨rfl, rfl, rfl, rfl, rfl⟩, rfl, ?_⟩⟩⟩
 ·exact HunkI.init hk
 all_goals have hia := h2.ia
 all_goals have hib := h2.ib
 all_goals have hle := h2.le
 all_goals have hln := h2.ln
 all_goals first
  | exact hkM_lt h3 (by assumption) (by omega)
  | exact h2.s1 h3 (by assumption) (by assumption) (by assumption) (by assumption) (neB_t (by assumption) (by assumption)) rfl
  | exact h2.s1 h3 (by assumption) (by assumption) (by assumption) (by assumption) (neB_f (by assumption) (by assumption)) rfl
  | exact h2.s1 h3 (by assumption) (by assumption) (by assumption) (by assumption) (neB_o (by assumption)) rfl
  | exact h2.s2 h3 (by assumption) (by assumption) (by assumption) (neB_t (by assumption) (by assumption)) rfl
  | exact h2.s2 h3 (by assumption) (by assumption) (by assumption) (neB_f (by assumption) (by assumption)) rfl
  | exact h2.s2 h3 (by assumption) (by assumption) (by assumption) (neB_o (by assumption)) rfl
  | exact h2.s3 h3 (by assumption) (by assumption) (by assumption) (neB_t (by assumption) (by assumption)) rfl
  | exact h2.s3 h3 (by assumption) (by assumption) (by assumption) (neB_f (by assumption) (by assumption)) rfl
  | exact h2.s3 h3 (by assumption) (by assumption) (by assumption) (neB_o (by assumption)) rfl
  | (rw [List.map_append]; rfl)
  | (unfold InI64 at *; omega)
  | omega
  | exact isB_1 (isE (by assumption)) (by assumption)
  | (have q := isB_lt (isE (by assumption)); omega)
  | (refine HunkE.n (e := 1) (h2.out h3 ?_ ?_ ?_ ?_) <;> first | omega | exact .inl (by assumption) | (right; omega))
  | (refine HunkE.n (e := _) (h2.fin h3 ?_ ?_) <;> omega)
  | (refine HunkE.n (e := _) (h2.err ?_) <;> assumption)
  | (refine HunkE.a (e := 1) (h2.out h3 ?_ ?_ ?_ ?_) <;> first | omega | exact .inl (by assumption) | (right; omega))
  | (refine HunkE.a (e := _) (h2.fin h3 ?_ ?_) <;> omega)
  | (refine HunkE.a (e := _) (h2.err ?_) <;> assumption)
  | (refine HunkE.e (e := 1) (h2.out h3 ?_ ?_ ?_ ?_) <;> first | omega | exact .inl (by assumption) | (right; omega))
  | (refine HunkE.e (e := _) (h2.fin h3 ?_ ?_) <;> omega)
  | (refine HunkE.e (e := _) (h2.err ?_) <;> assumption)
  | (refine HunkE.l (e := 1) (h2.out h3 ?_ ?_ ?_ ?_) <;> first | omega | exact .inl (by assumption) | (right; omega))
  | (refine HunkE.l (e := _) (h2.fin h3 ?_ ?_) <;> omega)
  | (refine HunkE.l (e := _) (h2.err ?_) <;> assumption)
end
end Go.Proofs.YtfbpbkcplpkndaaGreatDoor
end
section
namespace Go.Proofs.YtfbpbkcplpkndaaGreatDoor
set_option linter.unusedVariables false
set_option linter.unusedSimpArgs false
structure PaI (ls : List Bs) (j : Nat × Int × List Pt) : Prop where
 le : j.1 ≤ ls.length
 ln : j.2.2.length ≤ ls.length
 ok : j.2.1 = 0 → j.2.2.length ≤ j.1 ∧ Pm ls j.1 j.2.2 (pmR ls)
 bad : j.2.1 ≠ 0 → (pmR ls).1 = j.2.1 ∧ (pmR ls).2.1 = j.1
def paM (ls : List Bs) (j : Nat × Int × List Pt) : Nat := if j.2.1 = 0 then ls.length - j.1 + 1 else 0
structure HsI (ls : List Bs) (j : Nat × Int × List Pt) (q : Nat × Int × Bs × Bs × List Hk) : Prop where
 le : q.1 ≤ ls.length
 ln : q.2.2.2.2.length ≤ ls.length
 pl : j.2.2.length ≤ j.1
 lt : j.1 < ls.length
 je : j.1 ≤ q.1
 ok : q.2.1 = 0 → (j.1 + 2 ≤ q.1 ∧ q.2.2.2.2.length ≤ q.1) ∧ nmP ls j.1 mnA = some q.2.2.1 ∧ nmP ls (j.1 + 1) mnB = some q.2.2.2.1 ∧ Hs ls q.1 q.2.2.2.2 (hsR ls (j.1 + 2)) ∧ Pm ls j.1 j.2.2 (pmR ls)
 bad : q.2.1 ≠ 0 → (pmR ls).1 = q.2.1 ∧ (pmR ls).2.1 = q.1
def hsM (ls : List Bs) (q : Nat × Int × Bs × Bs × List Hk) : Nat := if q.2.1 = 0 then ls.length - q.1 + 1 else 0
section
variable {ls : List Bs} {j : Nat × Int × List Pt} {q : Nat × Int × Bs × Bs × List Hk}
theorem PaI.start (ls : List Bs) : PaI ls (0, 0, []) := ⟨Nat.zero_le _, Nat.zero_le _, fun _ => ⟨Nat.le_refl _, pmR_ok ls⟩, fun h => absurd rfl h⟩
theorem PaI.n1 (h : PaI ls j) (e : j.2.1 = 0) (hk : j.1 < ls.length) (hn : nmP ls j.1 mnA = none) (o n : Bs) : HsI ls j (j.1, 1, o, n, []) :=
 ⟨h.le, Nat.zero_le _, (h.ok e).1, hk, Nat.le_refl _, (fun q => by cases q), fun _ => by rw [(h.ok e).2.det (.b1 hk hn)]; exact ⟨rfl, rfl⟩⟩
theorem PaI.n2 (h : PaI ls j) (e : j.2.1 = 0) {o' : Bs} (hn : nmP ls j.1 mnA = some o') (hn2 : nmP ls (j.1 + 1) mnB = none) (o n : Bs) : HsI ls j (j.1 + 1, 1, o, n, []) :=
 ⟨nmP_lt hn, Nat.zero_le _, (h.ok e).1, nmP_lt hn, Nat.le_succ _, (fun q => by cases q), fun _ => by rw [(h.ok e).2.det (.b2 hn hn2)]; exact ⟨rfl, rfl⟩⟩
theorem PaI.n3 (h : PaI ls j) (e : j.2.1 = 0) {o n : Bs} (hn : nmP ls j.1 mnA = some o) (hn2 : nmP ls (j.1 + 1) mnB = some n) : HsI ls j (j.1 + 1 + 1, j.2.1, o, n, []) :=
 ⟨nmP_lt hn2, Nat.zero_le _, (h.ok e).1, nmP_lt hn, by simp only; omega, fun _ => ⟨⟨Nat.le_refl _, Nat.zero_le _⟩, hn, hn2, hsR_ok ls _, (h.ok e).2⟩, fun q => absurd e q⟩
theorem HsI.go {hk : Hk} (h : HsI ls j q) (e : q.2.1 = 0) (ha : atH ls q.1 = true) (hh : hkE ls q.1 = 0 → hk = hkH ls q.1) : HsI ls j (hkA ls q.1, hkE ls q.1, q.2.2.1, q.2.2.2.1, q.2.2.2.2 ++ [hk]) := by
 obtain ⟨⟨g0, gl⟩, g1, g2, g3, g4⟩ := h.ok e
 have hl := atH_lt ha
 have hge : q.1 ≤ hkA ls q.1 := by
  unfold hkA; split
  ·have := (bdR_ok ls (hdV (lnAt ls q.1)).la (hdV (lnAt ls q.1)).lb (q.1 + 1)).adv.1
   unfold hkB; omega
  ·exact Nat.le_refl _
 have hge2 : hkE ls q.1 = 0 → q.1 + 1 ≤ hkA ls q.1 := fun he => hkA_adv he
 have hlen := h.ln
 have hl2 : (q.2.2.2.2 ++ [hk]).length ≤ ls.length := by rw [List.length_append, List.length_singleton]; omega
 by_cases he : hkE ls q.1 = 0
 ·have hk1 := hh he
  subst hk1
  have h1 := hge2 he
  refine ⟨hkA_le hl, hl2, h.pl, h.lt, ?_, fun _ => ⟨⟨?_, ?_⟩, g1, g2, ?_, g4⟩, fun c => absurd he c⟩
  ·show j.1 ≤ hkA ls q.1
   omega
  ·show j.1 + 2 ≤ hkA ls q.1
   omega
  ·show (q.2.2.2.2 ++ _).length ≤ hkA ls q.1
   rw [List.length_append, List.length_singleton]; omega
  ·show Hs ls (hkA ls q.1) (q.2.2.2.2 ++ [hkH ls q.1]) _
   generalize hsR ls (j.1 + 2) = r at g3 ⊢
   cases g3 with
   | fin q => rw [ha] at q; cases q
   | bad _ q => exact absurd he q
   | go _ _ g => exact g
 ·have hr : hsR ls (j.1 + 2) = (hkE ls q.1, hkA ls q.1, q.2.2.2.2) := g3.det (.bad ha he)
  have hne : (hsR ls (j.1 + 2)).1 ≠ 0 := by rw [hr]; exact he
  refine ⟨hkA_le hl, hl2, h.pl, h.lt, ?_, fun c => absurd c he, fun _ => ?_⟩
  ·show j.1 ≤ hkA ls q.1
   have := h.je; omega
  ·rw [g4.det (.b3 g1 g2 hne), hr]; exact ⟨rfl, rfl⟩
theorem hsM_lt {o n : Bs} {l : List Hk} (e : q.2.1 = 0) (ha : atH ls q.1 = true) : hsM ls (hkA ls q.1, hkE ls q.1, o, n, l) < hsM ls q := by
 have hl := atH_lt ha
 unfold hsM
 rw [if_pos e]
 simp only
 split
 ·rename_i h; have := hkA_adv h; omega
 ·omega
theorem HsI.fin (h : HsI ls j q) (e : q.2.1 = 0) (ha : atH ls q.1 = false) : PaI ls (q.1, q.2.1, j.2.2 ++ [⟨q.2.2.1, q.2.2.2.1, q.2.2.2.2⟩]) := by
 obtain ⟨⟨g0, gl⟩, g1, g2, g3, g4⟩ := h.ok e
 have hle := h.le
 have hpl := h.pl
 have hr : hsR ls (j.1 + 2) = (0, q.1, q.2.2.2.2) := g3.det (.fin ha)
 refine ⟨h.le, ?_, fun _ => ⟨?_, ?_⟩, fun c => absurd e c⟩
 ·show (j.2.2 ++ _).length ≤ _
  rw [List.length_append, List.length_singleton]; omega
 ·show (j.2.2 ++ _).length ≤ q.1
  rw [List.length_append, List.length_singleton]; omega
 ·show Pm ls q.1 (j.2.2 ++ _) _
  generalize pmR ls = r at g4 ⊢
  cases g4 with
  | fin q => have := nmP_lt g1; omega
  | b1 _ q => rw [g1] at q; cases q
  | b2 _ q => rw [g2] at q; cases q
  | b3 _ _ q => rw [hr] at q; exact absurd rfl q
  | go q q2 _ g => rw [g1] at q; cases q; rw [g2] at q2; cases q2; rw [hr] at g; exact g
theorem HsI.err (h : HsI ls j q) (e : ¬ q.2.1 = 0) (l : List Pt) (hl : l.length = j.2.2.length + 1) : PaI ls (q.1, q.2.1, l) := by
 have h1 := h.pl
 have h2 := h.lt
 refine ⟨h.le, ?_, fun c => absurd c e, fun _ => h.bad e⟩
 show l.length ≤ _
 omega
theorem paM_lt {l : List Pt} (h : HsI ls j q) (e : j.2.1 = 0) : paM ls (q.1, q.2.1, l) < paM ls j := by
 have h2 := h.lt
 unfold paM
 rw [if_pos e]
 simp only
 split
 ·rename_i c
  have := (h.ok c).1
  omega
 ·omega
theorem PaI.fin (h : PaI ls j) (e : j.2.1 = 0) (hk : ¬ j.1 < ls.length) : pmR ls = (0, j.1, j.2.2) := (h.ok e).2.det (.fin (by omega))
end
section
variable {ls : List Bs} {k : Nat} {x p : Bs}
theorem nmP_o (h : ¬ (k : Int) < ls.length) : nmP ls k p = none := by unfold nmP; rw [if_neg (by rintro ⟨q, -⟩; omega)]
theorem nmP_p (h : ls[0 + k]? = some x) (hp : Lib.hasPrefix x p = false) : nmP ls k p = none := by
 unfold nmP; rw [lnAt_eq h, if_neg (by rintro ⟨-, q, -⟩; rw [hp] at q; cases q)]
theorem tp_drop (hp : Lib.hasPrefix x p = true) : Lib.trimPrefix x p = x.drop p.length := by unfold Lib.trimPrefix; rw [if_pos hp]
theorem nmP_e (h : ls[0 + k]? = some x) (hp : Lib.hasPrefix x p = true) (he : ¬ unE (Lib.trimPrefix x p) = 0) : nmP ls k p = none := by
 rw [tp_drop hp] at he; unfold nmP; rw [lnAt_eq h, if_neg (by rintro ⟨-, -, q⟩; exact he q)]
theorem nmP_y (h : ls[0 + k]? = some x) (hp : Lib.hasPrefix x p = true) (he : unE (Lib.trimPrefix x p) = 0) : nmP ls k p = some (unT (Lib.trimPrefix x p)) := by
 have hk := (List.getElem?_eq_some_iff.1 h).1
 rw [tp_drop hp] at he ⊢; unfold nmP; rw [lnAt_eq h, if_pos ⟨by omega, hp, he⟩]
theorem atH_o (h : ¬ (k : Int) < ls.length) : atH ls k = false := by unfold atH; rw [decide_eq_false (by omega)]; rfl
theorem atH_n (h : ls[0 + k]? = some x) (hp : Lib.hasPrefix x [64, 64] = false) : atH ls k = false := by unfold atH; rw [lnAt_eq h, hp]; simp
theorem atH_y (h : ls[0 + k]? = some x) (hp : Lib.hasPrefix x [64, 64] = true) : atH ls k = true := by
 have hk := (List.getElem?_eq_some_iff.1 h).1
 unfold atH; rw [lnAt_eq h, hp, decide_eq_true (by omega)]; rfl
theorem hkG_eq (he : hkE ls k = 0) : (⟨(hdG (lnAt ls k)).fa, (hdG (lnAt ls k)).la, (hdG (lnAt ls k)).fb, (hdG (lnAt ls k)).lb, hkLn ls k⟩ : Hk) = hkH ls k := by
 have h0 : hdE (lnAt ls k) = 0 := by
  unfold hkE at he; split at he
  ·assumption
  ·exact he
 unfold hkH hkLn; rw [hdG_y h0, if_pos h0]
theorem take0 {α β : Type} {f : α → β} {l : List α} {n : Nat} (h : n = l.length) : ((l.map f).drop 0).take n = l.map f := by
 rw [List.drop_zero, List.take_of_length_le (by rw [List.length_map]; omega)]
end
end Go.Proofs.YtfbpbkcplpkndaaGreatDoor
end
section
namespace Go.Proofs.YtfbpbkcplpkndaaGreatDoor
set_option linter.unusedVariables false
set_option linter.unusedSimpArgs false
set_option maxRecDepth 100000
set_option maxHeartbeats 2000000
section
variable {X : CallF}
theorem hunk3e_run (hI : LibC X) (hc : NumC X) (ls : List Bs) (k n : Nat) (e : Int) (he : e = 0) (hn : n = ls.length) (hl : ls.length ≤ 100000000) (hx : ∀ y ∈ ls, y.length ≤ 10000000) (hk : k < ls.length) (P : List Pt) (o nn : Bs) (hs : List Hk) (hq : Nat) : (R FT X).m 51 [.ptr 1 0] [.row 0 1 (ls.map strL) true 0, .box 83 [.row 0 0 n 0 n, intA k, intA e], .row 0 3 (P.map encPt) true 1, .box 29 [strL o, strL nn, .row 4 0 hq 0 hq], .row 0 5 (hs.map encHk) true 1] = some (.agg [intA (hdG (lnAt ls k)).fa, intA (hdG (lnAt ls k)).la, intA (hdG (lnAt ls k)).fb, intA (hdG (lnAt ls k)).lb, .row 5 0 (hkLn ls k).length 0 (hkLn ls k).length], [.row 0 1 (ls.map strL) true 0, .box 83 [.row 0 0 n 0 n, intA (hkA ls k), intA (hkE ls k)], .row 0 3 (P.map encPt) true 1, .box 29 [strL o, strL nn, .row 4 0 hq 0 hq], .row 0 5 (hs.map encHk) true 1, .row 0 3 ((hkLn ls k).map encDL) true 1]) := by
 subst he; exact hunk3_run hI hc ls k n hn hl hx hk P o nn hs hq
theorem parse3L_run (hB : BldC X) (hI : LibC X) (hc : NumC X) (s : Bs) (hs : s.length ≤ 4000000000) (hL1 : (lins s).length ≤ 100000000) (hL2 : ∀ y ∈ lins s, y.length ≤ 10000000) : (R FT X).f 19 [strL s] = some (.tuple [.slice 3 ((paP s).map encPt), intA (paE s), intA (paL s)]) := by
  have hm := maxLen_le
  have hL3 : ∀ {k : Nat} {x : Bs} (p : Bs), (lins s)[0 + k]? = some x → (Lib.trimPrefix x p).length ≤ 10000000 := fun p h => Nat.le_trans (tp_len _ _) (hL2 _ (List.mem_of_getElem? h))
  have ln := fun m => hI.ln s m (by omega)
  have cp := hI.cp
  have hh := hI.hp
  have un := fun (s : Bs) h => unescape_run hB hI s h
  have hk := fun (ls : List Bs) (k n : Nat) (e : Int) he hn hl hx hk (P : List Pt) (o nn : Bs) (hs : List Hk) (hq : Nat) => hunk3e_run (X := X) hI hc ls k n e he hn hl hx hk P o nn hs hq
  refine R_wp (let z525 := [(43 : UInt8), (43 : UInt8), (43 : UInt8), (32 : UInt8)]; let z521 := [(45 : UInt8), (45 : UInt8), (45 : UInt8), (32 : UInt8)]; let z507 := (5, AV.row 0 0 (lins s).length (0 : Nat) (lins s).length); let z506 := [(64 : UInt8), (64 : UInt8)]; let z503 := (List.map strL (lins s)); Tr.cm (AV.tuple [AV.row 0 0 (lins s).length (0 : Nat) (lins s).length, boolA (endB s)]) [MObj.row 0 1 z503 true (0 : Nat)] (Tr.inv (fun (b0 : Nat × Int × List Pt) ↦ St.mk [z507, (7, AV.ptr 1 0), (8, AV.row 2 0 b0.snd.snd.length (0 : Nat) b0.snd.snd.length)] [MObj.row 0 1 z503 true (0 : Nat), MObj.box 83 [AV.row 0 0 (lins s).length (0 : Nat) (lins s).length, intA (↑b0.fst : Int), intA b0.snd.fst], MObj.row 0 3 (List.map encPt b0.snd.snd) true (1 : Nat)]) (fun (b0 : Nat × Int × List Pt) ↦ PaI (lins s) b0) (fun (b0 : Nat × Int × List Pt) ↦ paM (lins s) b0) fun (b0 : Nat × Int × List Pt) ↦ let z520 := (8, AV.row 2 0 b0.snd.snd.length (0 : Nat) b0.snd.snd.length); let z502 := (List.map encPt b0.snd.snd); let z501 := (Tr.k (b0.snd.snd.length + 1) Tr.nil); let z500 := [z507, (7, AV.ptr 1 0), z520, (9, AV.ptr 3 0)]; ((Tr.k (lins s).length ((Tr.k (lins s).length (Tr.b true (Tr.k b0.fst (Tr.ix strL (lins s) ((0 : Nat) + b0.fst) fun (b1 : Bs) ↦ let z504 := (Lib.trimPrefix b1 z521); Tr.c (AV.tuple [strL z504, boolA (Lib.hasPrefix b1 z521)]) ((Tr.b true (Tr.b false (Tr.inv (fun (b2 : Nat × Int × Bs × Bs × List Hk) ↦ St.mk z500 [MObj.row 0 1 z503 true (0 : Nat), MObj.box 83 [AV.row 0 0 (lins s).length (0 : Nat) (lins s).length, intA (↑b2.fst : Int), intA b2.snd.fst], MObj.row 0 3 z502 true (1 : Nat), MObj.box 29 [strL b2.snd.snd.fst, strL b2.snd.snd.snd.fst, AV.row 4 0 b2.snd.snd.snd.snd.length (0 : Nat) b2.snd.snd.snd.snd.length], MObj.row 0 5 (List.map encHk b2.snd.snd.snd.snd) true (1 : Nat)]) (fun (b2 : Nat × Int × Bs × Bs × List Hk) ↦ HsI (lins s) b0 b2) (fun (b2 : Nat × Int × Bs × Bs × List Hk) ↦ hsM (lins s) b2) fun (b2 : Nat × Int × Bs × Bs × List Hk) ↦ let z522 := (hkLn (lins s) b2.fst); let z514 := (hdG (lnAt (lins s) b2.fst)); let z508 := (List.map encHk b2.snd.snd.snd.snd); ((Tr.k (lins s).length ((Tr.k b2.fst (Tr.ix strL (lins s) ((0 : Nat) + b2.fst) fun (b3 : Bs) ↦ Tr.c (boolA (Lib.hasPrefix b3 z506)) ((Tr.cm (AV.agg [intA z514.fa, intA z514.la, intA z514.fb, intA z514.lb, AV.row 5 0 z522.length (0 : Nat) z522.length]) [MObj.row 0 1 z503 true (0 : Nat), MObj.box 83 [AV.row 0 0 (lins s).length (0 : Nat) (lins s).length, intA (↑(hkA (lins s) b2.fst) : Int), intA (hkE (lins s) b2.fst)], MObj.row 0 3 z502 true (1 : Nat), MObj.box 29 [strL b2.snd.snd.fst, strL b2.snd.snd.snd.fst, AV.row 4 0 b2.snd.snd.snd.snd.length (0 : Nat) b2.snd.snd.snd.snd.length], MObj.row 0 5 z508 true (1 : Nat), MObj.row 0 3 (List.map encDL z522) true (1 : Nat)] (Tr.g (List.map encDL z522) (Tr.k (b2.snd.snd.snd.snd.length + 1) Tr.nil))).w.br (Tr.g z508 z501)))).br (Tr.b false (Tr.g z508 z501)))).br (Tr.b false (Tr.b false (Tr.g z508 z501)))).w.inl.w).w).w.w).w.w.br (Tr.b false (Tr.c (AV.tuple [strL (unT z504), intA (unE z504), intA (unI z504)]) ((Tr.b false (Tr.inv (fun (b2 : Nat × Int × Bs × Bs × List Hk) ↦ St.mk z500 [MObj.row 0 1 z503 true (0 : Nat), MObj.box 83 [AV.row 0 0 (lins s).length (0 : Nat) (lins s).length, intA (↑b2.fst : Int), intA b2.snd.fst], MObj.row 0 3 z502 true (1 : Nat), MObj.box 29 [strL b2.snd.snd.fst, strL b2.snd.snd.snd.fst, AV.row 4 0 b2.snd.snd.snd.snd.length (0 : Nat) b2.snd.snd.snd.snd.length], MObj.row 0 5 (List.map encHk b2.snd.snd.snd.snd) true (1 : Nat)]) (fun (b2 : Nat × Int × Bs × Bs × List Hk) ↦ HsI (lins s) b0 b2) (fun (b2 : Nat × Int × Bs × Bs × List Hk) ↦ hsM (lins s) b2) fun (b2 : Nat × Int × Bs × Bs × List Hk) ↦ let z523 := (hkLn (lins s) b2.fst); let z515 := (hdG (lnAt (lins s) b2.fst)); let z509 := (List.map encHk b2.snd.snd.snd.snd); ((Tr.k (lins s).length ((Tr.k b2.fst (Tr.ix strL (lins s) ((0 : Nat) + b2.fst) fun (b3 : Bs) ↦ Tr.c (boolA (Lib.hasPrefix b3 z506)) ((Tr.cm (AV.agg [intA z515.fa, intA z515.la, intA z515.fb, intA z515.lb, AV.row 5 0 z523.length (0 : Nat) z523.length]) [MObj.row 0 1 z503 true (0 : Nat), MObj.box 83 [AV.row 0 0 (lins s).length (0 : Nat) (lins s).length, intA (↑(hkA (lins s) b2.fst) : Int), intA (hkE (lins s) b2.fst)], MObj.row 0 3 z502 true (1 : Nat), MObj.box 29 [strL b2.snd.snd.fst, strL b2.snd.snd.snd.fst, AV.row 4 0 b2.snd.snd.snd.snd.length (0 : Nat) b2.snd.snd.snd.snd.length], MObj.row 0 5 z509 true (1 : Nat), MObj.row 0 3 (List.map encDL z523) true (1 : Nat)] (Tr.g (List.map encDL z523) (Tr.k (b2.snd.snd.snd.snd.length + (1 : Nat)) Tr.nil))).w.br (Tr.g z509 z501)))).br (Tr.b false (Tr.g z509 z501)))).br (Tr.b false (Tr.b false (Tr.g z509 z501)))).w.inl.w).w).w.w.w.br (Tr.b true (Tr.k (lins s).length ((Tr.k (b0.fst + 1) (Tr.ix strL (lins s) ((0 : Nat) + (b0.fst + 1)) fun (b2 : Bs) ↦ let z505 := (Lib.trimPrefix b2 z525); Tr.c (AV.tuple [strL z505, boolA (Lib.hasPrefix b2 z525)]) ((Tr.b true (Tr.inv (fun (b3 : Nat × Int × Bs × Bs × List Hk) ↦ St.mk z500 [MObj.row 0 1 z503 true (0 : Nat), MObj.box 83 [AV.row 0 0 (lins s).length (0 : Nat) (lins s).length, intA (↑b3.fst : Int), intA b3.snd.fst], MObj.row 0 3 z502 true (1 : Nat), MObj.box 29 [strL b3.snd.snd.fst, strL b3.snd.snd.snd.fst, AV.row 4 0 b3.snd.snd.snd.snd.length (0 : Nat) b3.snd.snd.snd.snd.length], MObj.row 0 5 (List.map encHk b3.snd.snd.snd.snd) true (1 : Nat)]) (fun (b3 : Nat × Int × Bs × Bs × List Hk) ↦ HsI (lins s) b0 b3) (fun (b3 : Nat × Int × Bs × Bs × List Hk) ↦ hsM (lins s) b3) fun (b3 : Nat × Int × Bs × Bs × List Hk) ↦ let z526 := (hkLn (lins s) b3.fst); let z517 := (hdG (lnAt (lins s) b3.fst)); let z511 := (List.map encHk b3.snd.snd.snd.snd); ((Tr.k (lins s).length ((Tr.k b3.fst (Tr.ix strL (lins s) ((0 : Nat) + b3.fst) fun (b4 : Bs) ↦ Tr.c (boolA (Lib.hasPrefix b4 z506)) ((Tr.cm (AV.agg [intA z517.fa, intA z517.la, intA z517.fb, intA z517.lb, AV.row 5 0 z526.length (0 : Nat) z526.length]) [MObj.row 0 1 z503 true (0 : Nat), MObj.box 83 [AV.row 0 0 (lins s).length (0 : Nat) (lins s).length, intA (↑(hkA (lins s) b3.fst) : Int), intA (hkE (lins s) b3.fst)], MObj.row 0 3 z502 true (1 : Nat), MObj.box (29 : Nat) [strL b3.snd.snd.fst, strL b3.snd.snd.snd.fst, AV.row 4 0 b3.snd.snd.snd.snd.length (0 : Nat) b3.snd.snd.snd.snd.length], MObj.row 0 5 z511 true (1 : Nat), MObj.row 0 3 (List.map encDL z526) true (1 : Nat)] (Tr.g (List.map encDL z526) (Tr.k (b3.snd.snd.snd.snd.length + 1) Tr.nil))).w.br (Tr.g z511 z501)))).br (Tr.b false (Tr.g z511 z501)))).br (Tr.b false (Tr.b false (Tr.g z511 z501)))).w.inl.w).w).w.w.br (Tr.b false (Tr.c (AV.tuple [strL (unT z505), intA (unE z505), intA (unI z505)]) ((Tr.inv (fun (b3 : Nat × Int × Bs × Bs × List Hk) ↦ St.mk [z507, (7, AV.ptr (1 : Nat) (0 : Nat)), z520, (9, AV.ptr 3 0)] [MObj.row 0 1 z503 true (0 : Nat), MObj.box 83 [AV.row 0 0 (lins s).length (0 : Nat) (lins s).length, intA (↑b3.fst : Int), intA b3.snd.fst], MObj.row 0 3 z502 true (1 : Nat), MObj.box 29 [strL b3.snd.snd.fst, strL b3.snd.snd.snd.fst, AV.row 4 0 b3.snd.snd.snd.snd.length (0 : Nat) b3.snd.snd.snd.snd.length], MObj.row 0 5 (List.map encHk b3.snd.snd.snd.snd) true (1 : Nat)]) (fun (b3 : Nat × Int × Bs × Bs × List Hk) ↦ HsI (lins s) b0 b3) (fun (b3 : Nat × Int × Bs × Bs × List Hk) ↦ hsM (lins s) b3) fun (b3 : Nat × Int × Bs × Bs × List Hk) ↦ let z527 := (hkLn (lins s) b3.fst); let z518 := (hdG (lnAt (lins s) b3.fst)); let z512 := (List.map encHk b3.snd.snd.snd.snd); ((Tr.k (lins s).length ((Tr.k b3.fst (Tr.ix strL (lins s) ((0 : Nat) + b3.fst) fun (b4 : Bs) ↦ Tr.c (boolA (Lib.hasPrefix b4 z506)) ((Tr.cm (AV.agg [intA z518.fa, intA z518.la, intA z518.fb, intA z518.lb, AV.row 5 0 z527.length (0 : Nat) z527.length]) [MObj.row 0 1 z503 true (0 : Nat), MObj.box 83 [AV.row 0 0 (lins s).length (0 : Nat) (lins s).length, intA (↑(hkA (lins s) b3.fst) : Int), intA (hkE (lins s) b3.fst)], MObj.row 0 3 z502 true (1 : Nat), MObj.box 29 [strL b3.snd.snd.fst, strL b3.snd.snd.snd.fst, AV.row 4 0 b3.snd.snd.snd.snd.length (0 : Nat) b3.snd.snd.snd.snd.length], MObj.row 0 5 z512 true (1 : Nat), MObj.row 0 3 (List.map encDL z527) true (1 : Nat)] (Tr.g (List.map encDL z527) (Tr.k (b3.snd.snd.snd.snd.length + 1) Tr.nil))).w.br (Tr.g z512 z501)))).br (Tr.b false (Tr.g z512 z501)))).br (Tr.b false (Tr.b false (Tr.g z512 z501)))).w.inl.w).w.w.br (Tr.inv (fun (b3 : Nat × Int × Bs × Bs × List Hk) ↦ St.mk z500 [MObj.row 0 1 z503 true (0 : Nat), MObj.box 83 [AV.row 0 0 (lins s).length (0 : Nat) (lins s).length, intA (↑b3.fst : Int), intA b3.snd.fst], MObj.row 0 3 z502 true (1 : Nat), MObj.box 29 [strL b3.snd.snd.fst, strL b3.snd.snd.snd.fst, AV.row 4 0 b3.snd.snd.snd.snd.length (0 : Nat) b3.snd.snd.snd.snd.length], MObj.row 0 5 (List.map encHk b3.snd.snd.snd.snd) true (1 : Nat)]) (fun (b3 : Nat × Int × Bs × Bs × List Hk) ↦ HsI (lins s) b0 b3) (fun (b3 : Nat × Int × Bs × Bs × List Hk) ↦ hsM (lins s) b3) fun (b3 : Nat × Int × Bs × Bs × List Hk) ↦ let z528 := (hkLn (lins s) b3.fst); let z519 := (hdG (lnAt (lins s) b3.fst)); let z513 := (List.map encHk b3.snd.snd.snd.snd); ((Tr.k (lins s).length ((Tr.k b3.fst (Tr.ix strL (lins s) ((0 : Nat) + b3.fst) fun (b4 : Bs) ↦ Tr.c (boolA (Lib.hasPrefix b4 z506)) ((Tr.cm (AV.agg [intA z519.fa, intA z519.la, intA z519.fb, intA z519.lb, AV.row 5 (0 : Nat) z528.length (0 : Nat) z528.length]) [MObj.row 0 1 z503 true (0 : Nat), MObj.box 83 [AV.row 0 0 (lins s).length (0 : Nat) (lins s).length, intA (↑(hkA (lins s) b3.fst) : Int), intA (hkE (lins s) b3.fst)], MObj.row 0 3 z502 true (1 : Nat), MObj.box 29 [strL b3.snd.snd.fst, strL b3.snd.snd.snd.fst, AV.row 4 0 b3.snd.snd.snd.snd.length (0 : Nat) b3.snd.snd.snd.snd.length], MObj.row 0 5 z513 true (1 : Nat), MObj.row 0 3 (List.map encDL z528) true (1 : Nat)] (Tr.g (List.map encDL z528) (Tr.k (b3.snd.snd.snd.snd.length + 1) Tr.nil))).w.br (Tr.g z513 z501)))).br (Tr.b false (Tr.g z513 z501)))).br (Tr.b false (Tr.b false (Tr.g z513 z501)))).w.inl.w).w).w.w)).w.w.w).w.w)).br (Tr.b true (Tr.b true (Tr.inv (fun (b2 : Nat × Int × Bs × Bs × List Hk) ↦ St.mk z500 [MObj.row 0 1 z503 true (0 : Nat), MObj.box 83 [AV.row 0 0 (lins s).length (0 : Nat) (lins s).length, intA (↑b2.fst : Int), intA b2.snd.fst], MObj.row 0 3 z502 true (1 : Nat), MObj.box 29 [strL b2.snd.snd.fst, strL b2.snd.snd.snd.fst, AV.row 4 0 b2.snd.snd.snd.snd.length (0 : Nat) b2.snd.snd.snd.snd.length], MObj.row 0 5 (List.map encHk b2.snd.snd.snd.snd) true (1 : Nat)]) (fun (b2 : Nat × Int × Bs × Bs × List Hk) ↦ HsI (lins s) b0 b2) (fun (b2 : Nat × Int × Bs × Bs × List Hk) ↦ hsM (lins s) b2) fun (b2 : Nat × Int × Bs × Bs × List Hk) ↦ let z524 := (hkLn (lins s) b2.fst); let z516 := (hdG (lnAt (lins s) b2.fst)); let z510 := (List.map encHk b2.snd.snd.snd.snd); ((Tr.k (lins s).length ((Tr.k b2.fst (Tr.ix strL (lins s) ((0 : Nat) + b2.fst) fun (b3 : Bs) ↦ Tr.c (boolA (Lib.hasPrefix b3 z506)) ((Tr.cm (AV.agg [intA z516.fa, intA z516.la, intA z516.fb, intA z516.lb, AV.row 5 0 z524.length (0 : Nat) z524.length]) [MObj.row 0 1 z503 true (0 : Nat), MObj.box 83 [AV.row 0 0 (lins s).length (0 : Nat) (lins s).length, intA (↑(hkA (lins s) b2.fst) : Int), intA (hkE (lins s) b2.fst)], MObj.row 0 3 z502 true (1 : Nat), MObj.box 29 [strL b2.snd.snd.fst, strL b2.snd.snd.snd.fst, AV.row 4 0 b2.snd.snd.snd.snd.length (0 : Nat) b2.snd.snd.snd.snd.length], MObj.row 0 5 z510 true (1 : Nat), MObj.row 0 3 (List.map encDL z524) true (1 : Nat)] (Tr.g (List.map encDL z524) (Tr.k (b2.snd.snd.snd.snd.length + 1) Tr.nil))).w.br (Tr.g z510 z501)))).br (Tr.b false (Tr.g z510 z501)))).br (Tr.b false (Tr.b false (Tr.g z510 z501)))).w.inl.w).w).w.w).w.w).w).w.inl.inl).w.w).w.w)).w.w.w).w.w))).w).w.inl.inl.w.br (Tr.b false (Tr.g z502 Tr.nil)).w.w)).br (Tr.b false (Tr.b true Tr.nil.w).w.w)).w).w) rfl ?_
  refine Eq.mpr (by kernel_rfl : _ = (let z97 := [AV.ptr 1 0]; let z59 := (140737488355328 : Nat); let z58 := (9223372036854775807 : Nat); let z50 := false = false; let z42 := [(45 : UInt8), (45 : UInt8), (45 : UInt8), (32 : UInt8)]; let z35 := (List.map strL (lins s)); let z26 := (↑(lins s).length : Int); let z12 := [(64 : UInt8), (64 : UInt8)]; let z10 := (0 : Nat) = 0; let z9 := [(43 : UInt8), (43 : UInt8), (43 : UInt8), (32 : UInt8)]; let z8 := (List.take (lins s).length (List.drop (0 : Nat) z35)).length = (lins s).length; let z3 := z35.length = (lins s).length; let z2 := List.map strL (lins s) = List.map strL (lins s); let z0 := ((lins s).length = (lins s).length ∧ z10 ∧ (lins s).length = (lins s).length); (R FT X).m 48 [strL s] [] = some (AV.tuple [AV.row (@List.nil MObj).length (0 : Nat) (lins s).length (0 : Nat) (lins s).length, boolA (endB s)], [] ++ [MObj.row 0 1 z35 true (0 : Nat)]) ∧ (∃ (b0 : Nat × Int × List Pt), ((z0 ∧ True ∧ ((0 : Nat) = b0.snd.snd.length ∧ z10 ∧ (0 : Nat) = b0.snd.snd.length) ∧ True) ∧ z2 ∧ (z0 ∧ (0 : Int) = (↑b0.fst : Int) ∧ (0 : Int) = b0.snd.fst) ∧ [] = List.map encPt b0.snd.snd) ∧ PaI (lins s) b0) ∧ ∀ (b0 : Nat × Int × List Pt), let z84 := (b0.snd.fst = 0); let z43 := (↑b0.fst : Int); let z27 := (List.map encPt b0.snd.snd); let z13 := List.map encPt b0.snd.snd = List.map encPt b0.snd.snd; let z11 := b0.snd.snd.length = b0.snd.snd.length; let z6 := b0.snd.snd.length + 1 ≤ z58; let z5 := (b0.snd.snd.length + 1) * 56 ≤ z59; let z4 := z27.length = b0.snd.snd.length; let z1 := (z11 ∧ z10 ∧ b0.snd.snd.length = b0.snd.snd.length); let z28 := (z0 ∧ True ∧ z1 ∧ True ∧ True); PaI (lins s) b0 → (decide z84 = true → z3 ∧ z8 ∧ (decide (z43 < z26) = true → z3 ∧ z8 ∧ decide (z43 < z26) = true ∧ z3 ∧ z43 = z43 ∧ b0.fst < (lins s).length ∧ z2 ∧ z3 ∧ (0 : Nat) + b0.fst = 0 + b0.fst ∧ (0 : Nat) + b0.fst < (lins s).length ∧ ∀ (b1 : Bs), let z7 := (Lib.trimPrefix b1 z42); (lins s)[(0 : Nat) + b0.fst]? = some b1 → (R FT X).f 97 [strL b1, strL z42] = some (AV.tuple [strL z7, boolA (Lib.hasPrefix b1 z42)]) ∧ ((!Lib.hasPrefix b1 z42) = true → true = true ∧ z50 ∧ (∃ (b2 : Nat × Int × Bs × Bs × List Hk), (z28 ∧ z2 ∧ (z0 ∧ z43 = (↑b2.fst : Int) ∧ (1 : Int) = b2.snd.fst) ∧ z13 ∧ ([] = b2.snd.snd.fst ∧ [] = b2.snd.snd.snd.fst ∧ (0 : Nat) = b2.snd.snd.snd.snd.length ∧ z10 ∧ (0 : Nat) = b2.snd.snd.snd.snd.length) ∧ [] = List.map encHk b2.snd.snd.snd.snd) ∧ HsI (lins s) b0 b2) ∧ ∀ (b2 : Nat × Int × Bs × Bs × List Hk), let z85 := b2.snd.snd.snd.snd.length = b2.snd.snd.snd.snd.length; let z78 := (↑b2.fst : Int); let z51 := (hkLn (lins s) b2.fst); let z91 := (List.map encDL z51); let z36 := (hdG (lnAt (lins s) b2.fst)); let z72 := [AV.agg [intA z36.fa, intA z36.la, intA z36.fb, intA z36.lb, AV.slice 3 z91]]; let z29 := (List.map encHk b2.snd.snd.snd.snd); let z60 := z29.length = b2.snd.snd.snd.snd.length; let z44 := List.take b2.snd.snd.snd.snd.length (List.drop (0 : Nat) z29) = List.map encHk b2.snd.snd.snd.snd; let z20 := (z0 ∧ True ∧ z1 ∧ True ∧ True ∧ (z85 ∧ z10 ∧ b2.snd.snd.snd.snd.length = b2.snd.snd.snd.snd.length) ∧ True ∧ True ∧ True); let z14 := [AV.agg [strL b2.snd.snd.fst, strL b2.snd.snd.snd.fst, AV.slice 5 z29]]; let z66 := b0.snd.snd.length + z14.length = b0.snd.snd.length + 1; HsI (lins s) b0 b2 → (decide (b2.snd.fst = 0) = true → z3 ∧ z8 ∧ (decide (z78 < z26) = true → z3 ∧ z78 = z78 ∧ b2.fst < (lins s).length ∧ z2 ∧ z3 ∧ (0 : Nat) + b2.fst = 0 + b2.fst ∧ (0 : Nat) + b2.fst < (lins s).length ∧ ∀ (b3 : Bs), (lins s)[(0 : Nat) + b2.fst]? = some b3 → (R FT X).f 80 [strL b3, strL z12] = some (boolA (Lib.hasPrefix b3 z12)) ∧ (Lib.hasPrefix b3 z12 = true → (R FT X).m 51 z97 [MObj.row 0 1 z35 true (0 : Nat), MObj.box 83 [AV.row 0 0 (lins s).length (0 : Nat) (lins s).length, intA z78, intA b2.snd.fst], MObj.row 0 3 z27 true (1 : Nat), MObj.box 29 [strL b2.snd.snd.fst, strL b2.snd.snd.snd.fst, AV.row 4 0 b2.snd.snd.snd.snd.length (0 : Nat) b2.snd.snd.snd.snd.length], MObj.row 0 5 z29 true (1 : Nat)] = some (AV.agg [intA z36.fa, intA z36.la, intA z36.fb, intA z36.lb, AV.row 5 0 z51.length (0 : Nat) z51.length], [MObj.row 0 1 z35 true (0 : Nat), MObj.box 83 [AV.row 0 0 (lins s).length (0 : Nat) (lins s).length, intA (↑(hkA (lins s) b2.fst) : Int), intA (hkE (lins s) b2.fst)], MObj.row 0 3 z27 true (1 : Nat), MObj.box 29 [strL b2.snd.snd.fst, strL b2.snd.snd.snd.fst, AV.row 4 (0 : Nat) b2.snd.snd.snd.snd.length (0 : Nat) b2.snd.snd.snd.snd.length], MObj.row 0 5 z29 true (1 : Nat), MObj.row 0 3 z91 true (1 : Nat)]) ∧ z20 ∧ z91.length = z51.length ∧ List.take z51.length (List.drop (0 : Nat) z91) = List.map encDL z51 ∧ z20 ∧ z60 ∧ z10 ∧ z85 ∧ b2.snd.snd.snd.snd.length + z72.length = b2.snd.snd.snd.snd.length + 1 ∧ (b2.snd.snd.snd.snd.length + 1) * 56 ≤ z59 ∧ b2.snd.snd.snd.snd.length + 1 ≤ z58 ∧ z20 ∧ ∃ (b4 : Nat × Int × Bs × Bs × List Hk), (z28 ∧ z2 ∧ (z0 ∧ (↑(hkA (lins s) b2.fst) : Int) = (↑b4.fst : Int) ∧ hkE (lins s) b2.fst = b4.snd.fst) ∧ z13 ∧ (b2.snd.snd.fst = b4.snd.snd.fst ∧ b2.snd.snd.snd.fst = b4.snd.snd.snd.fst ∧ b2.snd.snd.snd.snd.length + 1 = b4.snd.snd.snd.snd.length ∧ z10 ∧ b2.snd.snd.snd.snd.length + 1 = b4.snd.snd.snd.snd.length) ∧ List.map encHk b2.snd.snd.snd.snd ++ z72 = List.map encHk b4.snd.snd.snd.snd) ∧ HsI (lins s) b0 b4 ∧ hsM (lins s) b4 < hsM (lins s) b2) ∧ (Lib.hasPrefix b3 z12 = false → z60 ∧ z44 ∧ z4 ∧ z10 ∧ z11 ∧ z66 ∧ z5 ∧ z6 ∧ ∃ (b4 : Nat × Int × List Pt), ((z0 ∧ True ∧ (b0.snd.snd.length + 1 = b4.snd.snd.length ∧ z10 ∧ b0.snd.snd.length + 1 = b4.snd.snd.length) ∧ True) ∧ z2 ∧ (z0 ∧ z78 = (↑b4.fst : Int) ∧ b2.snd.fst = b4.snd.fst) ∧ List.map encPt b0.snd.snd ++ z14 = List.map encPt b4.snd.snd) ∧ PaI (lins s) b4 ∧ paM (lins s) b4 < paM (lins s) b0)) ∧ (decide (z78 < z26) = false → z50 ∧ z60 ∧ z44 ∧ z4 ∧ z10 ∧ z11 ∧ z66 ∧ z5 ∧ z6 ∧ ∃ (b3 : Nat × Int × List Pt), ((z0 ∧ True ∧ (b0.snd.snd.length + 1 = b3.snd.snd.length ∧ z10 ∧ b0.snd.snd.length + 1 = b3.snd.snd.length) ∧ True) ∧ z2 ∧ (z0 ∧ z78 = (↑b3.fst : Int) ∧ b2.snd.fst = b3.snd.fst) ∧ List.map encPt b0.snd.snd ++ z14 = List.map encPt b3.snd.snd) ∧ PaI (lins s) b3 ∧ paM (lins s) b3 < paM (lins s) b0)) ∧ (decide (b2.snd.fst = 0) = false → z50 ∧ z50 ∧ z60 ∧ z44 ∧ z4 ∧ z10 ∧ z11 ∧ z66 ∧ z5 ∧ z6 ∧ ∃ (b3 : Nat × Int × List Pt), ((z0 ∧ True ∧ (b0.snd.snd.length + 1 = b3.snd.snd.length ∧ z10 ∧ b0.snd.snd.length + 1 = b3.snd.snd.length) ∧ True) ∧ z2 ∧ (z0 ∧ z78 = (↑b3.fst : Int) ∧ b2.snd.fst = b3.snd.fst) ∧ List.map encPt b0.snd.snd ++ z14 = List.map encPt b3.snd.snd) ∧ PaI (lins s) b3 ∧ paM (lins s) b3 < paM (lins s) b0)) ∧ ((!Lib.hasPrefix b1 z42) = false → InI64 (z43 + 1) ∧ (!decide z84) = false ∧ (R FT X).f 79 [strL z7] = some (AV.tuple [strL (unT z7), intA (unE z7), intA (unI z7)]) ∧ ((!decide (unE z7 = 0)) = true → InI64 (z43 + 1 - (1 : Int)) ∧ z50 ∧ (∃ (b2 : Nat × Int × Bs × Bs × List Hk), (z28 ∧ z2 ∧ (z0 ∧ z43 + 1 - (1 : Int) = (↑b2.fst : Int) ∧ (1 : Int) = b2.snd.fst) ∧ z13 ∧ (unT z7 = b2.snd.snd.fst ∧ [] = b2.snd.snd.snd.fst ∧ (0 : Nat) = b2.snd.snd.snd.snd.length ∧ z10 ∧ (0 : Nat) = b2.snd.snd.snd.snd.length) ∧ [] = List.map encHk b2.snd.snd.snd.snd) ∧ HsI (lins s) b0 b2) ∧ ∀ (b2 : Nat × Int × Bs × Bs × List Hk), let z86 := b2.snd.snd.snd.snd.length = b2.snd.snd.snd.snd.length; let z79 := (↑b2.fst : Int); let z52 := (hkLn (lins s) b2.fst); let z92 := (List.map encDL z52); let z37 := (hdG (lnAt (lins s) b2.fst)); let z73 := [AV.agg [intA z37.fa, intA z37.la, intA z37.fb, intA z37.lb, AV.slice 3 z92]]; let z30 := (List.map encHk b2.snd.snd.snd.snd); let z61 := z30.length = b2.snd.snd.snd.snd.length; let z45 := List.take b2.snd.snd.snd.snd.length (List.drop (0 : Nat) z30) = List.map encHk b2.snd.snd.snd.snd; let z21 := (z0 ∧ True ∧ z1 ∧ True ∧ True ∧ (z86 ∧ z10 ∧ b2.snd.snd.snd.snd.length = b2.snd.snd.snd.snd.length) ∧ True ∧ True ∧ True); let z15 := [AV.agg [strL b2.snd.snd.fst, strL b2.snd.snd.snd.fst, AV.slice 5 z30]]; let z67 := b0.snd.snd.length + z15.length = b0.snd.snd.length + 1; HsI (lins s) b0 b2 → (decide (b2.snd.fst = 0) = true → z3 ∧ z8 ∧ (decide (z79 < z26) = true → z3 ∧ z79 = z79 ∧ b2.fst < (lins s).length ∧ z2 ∧ z3 ∧ (0 : Nat) + b2.fst = 0 + b2.fst ∧ (0 : Nat) + b2.fst < (lins s).length ∧ ∀ (b3 : Bs), (lins s)[(0 : Nat) + b2.fst]? = some b3 → (R FT X).f 80 [strL b3, strL z12] = some (boolA (Lib.hasPrefix b3 z12)) ∧ (Lib.hasPrefix b3 z12 = true → (R FT X).m 51 z97 [MObj.row 0 1 z35 true (0 : Nat), MObj.box 83 [AV.row 0 0 (lins s).length (0 : Nat) (lins s).length, intA z79, intA b2.snd.fst], MObj.row 0 3 z27 true (1 : Nat), MObj.box 29 [strL b2.snd.snd.fst, strL b2.snd.snd.snd.fst, AV.row 4 0 b2.snd.snd.snd.snd.length (0 : Nat) b2.snd.snd.snd.snd.length], MObj.row 0 5 z30 true (1 : Nat)] = some (AV.agg [intA z37.fa, intA z37.la, intA z37.fb, intA z37.lb, AV.row 5 0 z52.length (0 : Nat) z52.length], [MObj.row 0 1 z35 true (0 : Nat), MObj.box 83 [AV.row 0 0 (lins s).length (0 : Nat) (lins s).length, intA (↑(hkA (lins s) b2.fst) : Int), intA (hkE (lins s) b2.fst)], MObj.row 0 3 z27 true (1 : Nat), MObj.box 29 [strL b2.snd.snd.fst, strL b2.snd.snd.snd.fst, AV.row 4 0 b2.snd.snd.snd.snd.length (0 : Nat) b2.snd.snd.snd.snd.length], MObj.row 0 5 z30 true (1 : Nat), MObj.row 0 3 z92 true (1 : Nat)]) ∧ z21 ∧ z92.length = z52.length ∧ List.take z52.length (List.drop (0 : Nat) z92) = List.map encDL z52 ∧ z21 ∧ z61 ∧ z10 ∧ z86 ∧ b2.snd.snd.snd.snd.length + z73.length = b2.snd.snd.snd.snd.length + 1 ∧ (b2.snd.snd.snd.snd.length + 1) * 56 ≤ z59 ∧ b2.snd.snd.snd.snd.length + 1 ≤ z58 ∧ z21 ∧ ∃ (b4 : Nat × Int × Bs × Bs × List Hk), (z28 ∧ z2 ∧ (z0 ∧ (↑(hkA (lins s) b2.fst) : Int) = (↑b4.fst : Int) ∧ hkE (lins s) b2.fst = b4.snd.fst) ∧ z13 ∧ (b2.snd.snd.fst = b4.snd.snd.fst ∧ b2.snd.snd.snd.fst = b4.snd.snd.snd.fst ∧ b2.snd.snd.snd.snd.length + 1 = b4.snd.snd.snd.snd.length ∧ z10 ∧ b2.snd.snd.snd.snd.length + 1 = b4.snd.snd.snd.snd.length) ∧ List.map encHk b2.snd.snd.snd.snd ++ z73 = List.map encHk b4.snd.snd.snd.snd) ∧ HsI (lins s) b0 b4 ∧ hsM (lins s) b4 < hsM (lins s) b2) ∧ (Lib.hasPrefix b3 z12 = false → z61 ∧ z45 ∧ z4 ∧ z10 ∧ z11 ∧ z67 ∧ z5 ∧ z6 ∧ ∃ (b4 : Nat × Int × List Pt), ((z0 ∧ True ∧ (b0.snd.snd.length + 1 = b4.snd.snd.length ∧ z10 ∧ b0.snd.snd.length + 1 = b4.snd.snd.length) ∧ True) ∧ z2 ∧ (z0 ∧ z79 = (↑b4.fst : Int) ∧ b2.snd.fst = b4.snd.fst) ∧ List.map encPt b0.snd.snd ++ z15 = List.map encPt b4.snd.snd) ∧ PaI (lins s) b4 ∧ paM (lins s) b4 < paM (lins s) b0)) ∧ (decide (z79 < z26) = false → z50 ∧ z61 ∧ z45 ∧ z4 ∧ z10 ∧ z11 ∧ z67 ∧ z5 ∧ z6 ∧ ∃ (b3 : Nat × Int × List Pt), ((z0 ∧ True ∧ (b0.snd.snd.length + 1 = b3.snd.snd.length ∧ z10 ∧ b0.snd.snd.length + 1 = b3.snd.snd.length) ∧ True) ∧ z2 ∧ (z0 ∧ z79 = (↑b3.fst : Int) ∧ b2.snd.fst = b3.snd.fst) ∧ List.map encPt b0.snd.snd ++ z15 = List.map encPt b3.snd.snd) ∧ PaI (lins s) b3 ∧ paM (lins s) b3 < paM (lins s) b0)) ∧ (decide (b2.snd.fst = 0) = false → z50 ∧ z50 ∧ z61 ∧ z45 ∧ z4 ∧ z10 ∧ z11 ∧ z67 ∧ z5 ∧ z6 ∧ ∃ (b3 : Nat × Int × List Pt), ((((lins s).length = (lins s).length ∧ (0 : Nat) = (0 : Nat) ∧ (lins s).length = (lins s).length) ∧ True ∧ (b0.snd.snd.length + 1 = b3.snd.snd.length ∧ z10 ∧ b0.snd.snd.length + 1 = b3.snd.snd.length) ∧ True) ∧ z2 ∧ (z0 ∧ z79 = (↑b3.fst : Int) ∧ b2.snd.fst = b3.snd.fst) ∧ List.map encPt b0.snd.snd ++ z15 = List.map encPt b3.snd.snd) ∧ PaI (lins s) b3 ∧ paM (lins s) b3 < paM (lins s) b0)) ∧ ((!decide (unE z7 = 0)) = false → decide z84 = true ∧ z3 ∧ z8 ∧ (decide (z43 + 1 < z26) = true → z3 ∧ z43 + 1 = (↑(b0.fst + 1) : Int) ∧ b0.fst + 1 < (lins s).length ∧ z2 ∧ z3 ∧ (0 : Nat) + (b0.fst + 1) = 0 + (b0.fst + 1) ∧ (0 : Nat) + (b0.fst + 1) < (lins s).length ∧ ∀ (b2 : Bs), let z57 := (Lib.trimPrefix b2 z9); (lins s)[(0 : Nat) + (b0.fst + 1)]? = some b2 → (R FT X).f 97 [strL b2, strL z9] = some (AV.tuple [strL z57, boolA (Lib.hasPrefix b2 z9)]) ∧ ((!Lib.hasPrefix b2 z9) = true → true = true ∧ (∃ (b3 : Nat × Int × Bs × Bs × List Hk), (z28 ∧ z2 ∧ (z0 ∧ z43 + 1 = (↑b3.fst : Int) ∧ (1 : Int) = b3.snd.fst) ∧ z13 ∧ (unT z7 = b3.snd.snd.fst ∧ [] = b3.snd.snd.snd.fst ∧ (0 : Nat) = b3.snd.snd.snd.snd.length ∧ z10 ∧ (0 : Nat) = b3.snd.snd.snd.snd.length) ∧ [] = List.map encHk b3.snd.snd.snd.snd) ∧ HsI (lins s) b0 b3) ∧ ∀ (b3 : Nat × Int × Bs × Bs × List Hk), let z87 := b3.snd.snd.snd.snd.length = b3.snd.snd.snd.snd.length; let z81 := (↑b3.fst : Int); let z54 := (hkLn (lins s) b3.fst); let z93 := (List.map encDL z54); let z39 := (hdG (lnAt (lins s) b3.fst)); let z74 := [AV.agg [intA z39.fa, intA z39.la, intA z39.fb, intA z39.lb, AV.slice 3 z93]]; let z32 := (List.map encHk b3.snd.snd.snd.snd); let z62 := z32.length = b3.snd.snd.snd.snd.length; let z46 := List.take b3.snd.snd.snd.snd.length (List.drop (0 : Nat) z32) = List.map encHk b3.snd.snd.snd.snd; let z23 := (z0 ∧ True ∧ z1 ∧ True ∧ True ∧ (z87 ∧ z10 ∧ b3.snd.snd.snd.snd.length = b3.snd.snd.snd.snd.length) ∧ True ∧ True ∧ True); let z17 := [AV.agg [strL b3.snd.snd.fst, strL b3.snd.snd.snd.fst, AV.slice 5 z32]]; let z68 := b0.snd.snd.length + z17.length = b0.snd.snd.length + 1; HsI (lins s) b0 b3 → (decide (b3.snd.fst = 0) = true → z3 ∧ z8 ∧ (decide (z81 < z26) = true → z3 ∧ z81 = z81 ∧ b3.fst < (lins s).length ∧ z2 ∧ z3 ∧ (0 : Nat) + b3.fst = 0 + b3.fst ∧ (0 : Nat) + b3.fst < (lins s).length ∧ ∀ (b4 : Bs), (lins s)[(0 : Nat) + b3.fst]? = some b4 → (R FT X).f 80 [strL b4, strL z12] = some (boolA (Lib.hasPrefix b4 z12)) ∧ (Lib.hasPrefix b4 z12 = true → (R FT X).m 51 z97 [MObj.row (0 : Nat) (1 : Nat) z35 true (0 : Nat), MObj.box 83 [AV.row 0 0 (lins s).length (0 : Nat) (lins s).length, intA z81, intA b3.snd.fst], MObj.row 0 3 z27 true (1 : Nat), MObj.box 29 [strL b3.snd.snd.fst, strL b3.snd.snd.snd.fst, AV.row 4 0 b3.snd.snd.snd.snd.length (0 : Nat) b3.snd.snd.snd.snd.length], MObj.row 0 5 z32 true (1 : Nat)] = some (AV.agg [intA z39.fa, intA z39.la, intA z39.fb, intA z39.lb, AV.row 5 0 z54.length (0 : Nat) z54.length], [MObj.row 0 1 z35 true (0 : Nat), MObj.box 83 [AV.row 0 0 (lins s).length (0 : Nat) (lins s).length, intA (↑(hkA (lins s) b3.fst) : Int), intA (hkE (lins s) b3.fst)], MObj.row 0 3 z27 true (1 : Nat), MObj.box 29 [strL b3.snd.snd.fst, strL b3.snd.snd.snd.fst, AV.row 4 0 b3.snd.snd.snd.snd.length (0 : Nat) b3.snd.snd.snd.snd.length], MObj.row 0 5 z32 true (1 : Nat), MObj.row 0 3 z93 true (1 : Nat)]) ∧ z23 ∧ z93.length = z54.length ∧ List.take z54.length (List.drop (0 : Nat) z93) = List.map encDL z54 ∧ z23 ∧ z62 ∧ z10 ∧ z87 ∧ b3.snd.snd.snd.snd.length + z74.length = b3.snd.snd.snd.snd.length + 1 ∧ (b3.snd.snd.snd.snd.length + 1) * 56 ≤ z59 ∧ b3.snd.snd.snd.snd.length + 1 ≤ z58 ∧ z23 ∧ ∃ (b5 : Nat × Int × Bs × Bs × List Hk), (z28 ∧ z2 ∧ (z0 ∧ (↑(hkA (lins s) b3.fst) : Int) = (↑b5.fst : Int) ∧ hkE (lins s) b3.fst = b5.snd.fst) ∧ z13 ∧ (b3.snd.snd.fst = b5.snd.snd.fst ∧ b3.snd.snd.snd.fst = b5.snd.snd.snd.fst ∧ b3.snd.snd.snd.snd.length + 1 = b5.snd.snd.snd.snd.length ∧ z10 ∧ b3.snd.snd.snd.snd.length + 1 = b5.snd.snd.snd.snd.length) ∧ List.map encHk b3.snd.snd.snd.snd ++ z74 = List.map encHk b5.snd.snd.snd.snd) ∧ HsI (lins s) b0 b5 ∧ hsM (lins s) b5 < hsM (lins s) b3) ∧ (Lib.hasPrefix b4 z12 = false → z62 ∧ z46 ∧ z4 ∧ z10 ∧ z11 ∧ z68 ∧ z5 ∧ z6 ∧ ∃ (b5 : Nat × Int × List Pt), ((z0 ∧ True ∧ (b0.snd.snd.length + 1 = b5.snd.snd.length ∧ z10 ∧ b0.snd.snd.length + 1 = b5.snd.snd.length) ∧ True) ∧ z2 ∧ (z0 ∧ z81 = (↑b5.fst : Int) ∧ b3.snd.fst = b5.snd.fst) ∧ List.map encPt b0.snd.snd ++ z17 = List.map encPt b5.snd.snd) ∧ PaI (lins s) b5 ∧ paM (lins s) b5 < paM (lins s) b0)) ∧ (decide (z81 < z26) = false → z50 ∧ z62 ∧ z46 ∧ z4 ∧ z10 ∧ z11 ∧ z68 ∧ z5 ∧ z6 ∧ ∃ (b4 : Nat × Int × List Pt), ((z0 ∧ True ∧ (b0.snd.snd.length + 1 = b4.snd.snd.length ∧ z10 ∧ b0.snd.snd.length + 1 = b4.snd.snd.length) ∧ True) ∧ z2 ∧ (z0 ∧ z81 = (↑b4.fst : Int) ∧ b3.snd.fst = b4.snd.fst) ∧ List.map encPt b0.snd.snd ++ z17 = List.map encPt b4.snd.snd) ∧ PaI (lins s) b4 ∧ paM (lins s) b4 < paM (lins s) b0)) ∧ (decide (b3.snd.fst = 0) = false → z50 ∧ z50 ∧ z62 ∧ z46 ∧ z4 ∧ z10 ∧ z11 ∧ z68 ∧ z5 ∧ z6 ∧ ∃ (b4 : Nat × Int × List Pt), ((z0 ∧ True ∧ (b0.snd.snd.length + 1 = b4.snd.snd.length ∧ z10 ∧ b0.snd.snd.length + 1 = b4.snd.snd.length) ∧ True) ∧ z2 ∧ (z0 ∧ z81 = (↑b4.fst : Int) ∧ b3.snd.fst = b4.snd.fst) ∧ List.map encPt b0.snd.snd ++ z17 = List.map encPt b4.snd.snd) ∧ PaI (lins s) b4 ∧ paM (lins s) b4 < paM (lins s) b0)) ∧ ((!Lib.hasPrefix b2 z9) = false → InI64 (z43 + 1 + (1 : Int)) ∧ (!decide z84) = false ∧ (R FT X).f 79 [strL z57] = some (AV.tuple [strL (unT z57), intA (unE z57), intA (unI z57)]) ∧ ((!decide (unE z57 = 0)) = true → InI64 (z43 + 1 + (1 : Int) - 1) ∧ (∃ (b3 : Nat × Int × Bs × Bs × List Hk), (z28 ∧ z2 ∧ (z0 ∧ z43 + 1 + (1 : Int) - 1 = (↑b3.fst : Int) ∧ (1 : Int) = b3.snd.fst) ∧ z13 ∧ (unT z7 = b3.snd.snd.fst ∧ unT z57 = b3.snd.snd.snd.fst ∧ (0 : Nat) = b3.snd.snd.snd.snd.length ∧ z10 ∧ (0 : Nat) = b3.snd.snd.snd.snd.length) ∧ [] = List.map encHk b3.snd.snd.snd.snd) ∧ HsI (lins s) b0 b3) ∧ ∀ (b3 : Nat × Int × Bs × Bs × List Hk), let z88 := b3.snd.snd.snd.snd.length = b3.snd.snd.snd.snd.length; let z82 := (↑b3.fst : Int); let z55 := (hkLn (lins s) b3.fst); let z94 := (List.map encDL z55); let z40 := (hdG (lnAt (lins s) b3.fst)); let z75 := [AV.agg [intA z40.fa, intA z40.la, intA z40.fb, intA z40.lb, AV.slice 3 z94]]; let z33 := (List.map encHk b3.snd.snd.snd.snd); let z63 := z33.length = b3.snd.snd.snd.snd.length; let z47 := List.take b3.snd.snd.snd.snd.length (List.drop (0 : Nat) z33) = List.map encHk b3.snd.snd.snd.snd; let z24 := (z0 ∧ True ∧ z1 ∧ True ∧ True ∧ (z88 ∧ z10 ∧ b3.snd.snd.snd.snd.length = b3.snd.snd.snd.snd.length) ∧ True ∧ True ∧ True); let z18 := [AV.agg [strL b3.snd.snd.fst, strL b3.snd.snd.snd.fst, AV.slice 5 z33]]; let z69 := b0.snd.snd.length + z18.length = b0.snd.snd.length + 1; HsI (lins s) b0 b3 → (decide (b3.snd.fst = 0) = true → z3 ∧ z8 ∧ (decide (z82 < z26) = true → z3 ∧ z82 = z82 ∧ b3.fst < (lins s).length ∧ z2 ∧ z3 ∧ (0 : Nat) + b3.fst = 0 + b3.fst ∧ (0 : Nat) + b3.fst < (lins s).length ∧ ∀ (b4 : Bs), (lins s)[(0 : Nat) + b3.fst]? = some b4 → (R FT X).f 80 [strL b4, strL z12] = some (boolA (Lib.hasPrefix b4 z12)) ∧ (Lib.hasPrefix b4 z12 = true → (R FT X).m 51 z97 [MObj.row 0 1 z35 true (0 : Nat), MObj.box 83 [AV.row 0 0 (lins s).length (0 : Nat) (lins s).length, intA z82, intA b3.snd.fst], MObj.row 0 3 z27 true (1 : Nat), MObj.box 29 [strL b3.snd.snd.fst, strL b3.snd.snd.snd.fst, AV.row 4 0 b3.snd.snd.snd.snd.length (0 : Nat) b3.snd.snd.snd.snd.length], MObj.row 0 5 z33 true (1 : Nat)] = some (AV.agg [intA z40.fa, intA z40.la, intA z40.fb, intA z40.lb, AV.row 5 0 z55.length (0 : Nat) z55.length], [MObj.row (0 : Nat) (1 : Nat) z35 true (0 : Nat), MObj.box 83 [AV.row 0 0 (lins s).length (0 : Nat) (lins s).length, intA (↑(hkA (lins s) b3.fst) : Int), intA (hkE (lins s) b3.fst)], MObj.row 0 3 z27 true (1 : Nat), MObj.box 29 [strL b3.snd.snd.fst, strL b3.snd.snd.snd.fst, AV.row 4 0 b3.snd.snd.snd.snd.length (0 : Nat) b3.snd.snd.snd.snd.length], MObj.row 0 5 z33 true (1 : Nat), MObj.row 0 3 z94 true (1 : Nat)]) ∧ z24 ∧ z94.length = z55.length ∧ List.take z55.length (List.drop (0 : Nat) z94) = List.map encDL z55 ∧ z24 ∧ z63 ∧ z10 ∧ z88 ∧ b3.snd.snd.snd.snd.length + z75.length = b3.snd.snd.snd.snd.length + 1 ∧ (b3.snd.snd.snd.snd.length + 1) * 56 ≤ z59 ∧ b3.snd.snd.snd.snd.length + 1 ≤ z58 ∧ z24 ∧ ∃ (b5 : Nat × Int × Bs × Bs × List Hk), (z28 ∧ z2 ∧ (z0 ∧ (↑(hkA (lins s) b3.fst) : Int) = (↑b5.fst : Int) ∧ hkE (lins s) b3.fst = b5.snd.fst) ∧ z13 ∧ (b3.snd.snd.fst = b5.snd.snd.fst ∧ b3.snd.snd.snd.fst = b5.snd.snd.snd.fst ∧ b3.snd.snd.snd.snd.length + 1 = b5.snd.snd.snd.snd.length ∧ z10 ∧ b3.snd.snd.snd.snd.length + 1 = b5.snd.snd.snd.snd.length) ∧ List.map encHk b3.snd.snd.snd.snd ++ z75 = List.map encHk b5.snd.snd.snd.snd) ∧ HsI (lins s) b0 b5 ∧ hsM (lins s) b5 < hsM (lins s) b3) ∧ (Lib.hasPrefix b4 z12 = false → z63 ∧ z47 ∧ z4 ∧ z10 ∧ z11 ∧ z69 ∧ z5 ∧ z6 ∧ ∃ (b5 : Nat × Int × List Pt), ((z0 ∧ True ∧ (b0.snd.snd.length + 1 = b5.snd.snd.length ∧ z10 ∧ b0.snd.snd.length + 1 = b5.snd.snd.length) ∧ True) ∧ z2 ∧ (z0 ∧ z82 = (↑b5.fst : Int) ∧ b3.snd.fst = b5.snd.fst) ∧ List.map encPt b0.snd.snd ++ z18 = List.map encPt b5.snd.snd) ∧ PaI (lins s) b5 ∧ paM (lins s) b5 < paM (lins s) b0)) ∧ (decide (z82 < z26) = false → z50 ∧ z63 ∧ z47 ∧ z4 ∧ z10 ∧ z11 ∧ z69 ∧ z5 ∧ z6 ∧ ∃ (b4 : Nat × Int × List Pt), ((z0 ∧ True ∧ (b0.snd.snd.length + 1 = b4.snd.snd.length ∧ z10 ∧ b0.snd.snd.length + (1 : Nat) = b4.snd.snd.length) ∧ True) ∧ z2 ∧ (z0 ∧ z82 = (↑b4.fst : Int) ∧ b3.snd.fst = b4.snd.fst) ∧ List.map encPt b0.snd.snd ++ z18 = List.map encPt b4.snd.snd) ∧ PaI (lins s) b4 ∧ paM (lins s) b4 < paM (lins s) b0)) ∧ (decide (b3.snd.fst = 0) = false → z50 ∧ z50 ∧ z63 ∧ z47 ∧ z4 ∧ z10 ∧ z11 ∧ z69 ∧ z5 ∧ z6 ∧ ∃ (b4 : Nat × Int × List Pt), ((z0 ∧ True ∧ (b0.snd.snd.length + 1 = b4.snd.snd.length ∧ z10 ∧ b0.snd.snd.length + 1 = b4.snd.snd.length) ∧ True) ∧ z2 ∧ (z0 ∧ z82 = (↑b4.fst : Int) ∧ b3.snd.fst = b4.snd.fst) ∧ List.map encPt b0.snd.snd ++ z18 = List.map encPt b4.snd.snd) ∧ PaI (lins s) b4 ∧ paM (lins s) b4 < paM (lins s) b0)) ∧ ((!decide (unE z57 = 0)) = false → (∃ (b3 : Nat × Int × Bs × Bs × List Hk), (z28 ∧ z2 ∧ (z0 ∧ z43 + 1 + (1 : Int) = (↑b3.fst : Int) ∧ b0.snd.fst = b3.snd.fst) ∧ z13 ∧ (unT z7 = b3.snd.snd.fst ∧ unT z57 = b3.snd.snd.snd.fst ∧ (0 : Nat) = b3.snd.snd.snd.snd.length ∧ z10 ∧ (0 : Nat) = b3.snd.snd.snd.snd.length) ∧ [] = List.map encHk b3.snd.snd.snd.snd) ∧ HsI (lins s) b0 b3) ∧ ∀ (b3 : Nat × Int × Bs × Bs × List Hk), let z89 := b3.snd.snd.snd.snd.length = b3.snd.snd.snd.snd.length; let z83 := (↑b3.fst : Int); let z56 := (hkLn (lins s) b3.fst); let z95 := (List.map encDL z56); let z41 := (hdG (lnAt (lins s) b3.fst)); let z76 := [AV.agg [intA z41.fa, intA z41.la, intA z41.fb, intA z41.lb, AV.slice 3 z95]]; let z34 := (List.map encHk b3.snd.snd.snd.snd); let z64 := z34.length = b3.snd.snd.snd.snd.length; let z48 := List.take b3.snd.snd.snd.snd.length (List.drop (0 : Nat) z34) = List.map encHk b3.snd.snd.snd.snd; let z25 := (z0 ∧ True ∧ z1 ∧ True ∧ True ∧ (z89 ∧ z10 ∧ b3.snd.snd.snd.snd.length = b3.snd.snd.snd.snd.length) ∧ True ∧ True ∧ True); let z19 := [AV.agg [strL b3.snd.snd.fst, strL b3.snd.snd.snd.fst, AV.slice 5 z34]]; let z70 := b0.snd.snd.length + z19.length = b0.snd.snd.length + 1; HsI (lins s) b0 b3 → (decide (b3.snd.fst = 0) = true → z3 ∧ z8 ∧ (decide (z83 < z26) = true → z3 ∧ z83 = z83 ∧ b3.fst < (lins s).length ∧ z2 ∧ z3 ∧ (0 : Nat) + b3.fst = 0 + b3.fst ∧ (0 : Nat) + b3.fst < (lins s).length ∧ ∀ (b4 : Bs), (lins s)[(0 : Nat) + b3.fst]? = some b4 → (R FT X).f 80 [strL b4, strL z12] = some (boolA (Lib.hasPrefix b4 z12)) ∧ (Lib.hasPrefix b4 z12 = true → (R FT X).m 51 z97 [MObj.row 0 1 z35 true (0 : Nat), MObj.box 83 [AV.row 0 0 (lins s).length (0 : Nat) (lins s).length, intA z83, intA b3.snd.fst], MObj.row 0 3 z27 true (1 : Nat), MObj.box 29 [strL b3.snd.snd.fst, strL b3.snd.snd.snd.fst, AV.row 4 0 b3.snd.snd.snd.snd.length (0 : Nat) b3.snd.snd.snd.snd.length], MObj.row 0 5 z34 true (1 : Nat)] = some (AV.agg [intA z41.fa, intA z41.la, intA z41.fb, intA z41.lb, AV.row 5 0 z56.length (0 : Nat) z56.length], [MObj.row 0 1 z35 true (0 : Nat), MObj.box 83 [AV.row 0 0 (lins s).length (0 : Nat) (lins s).length, intA (↑(hkA (lins s) b3.fst) : Int), intA (hkE (lins s) b3.fst)], MObj.row 0 3 z27 true (1 : Nat), MObj.box 29 [strL b3.snd.snd.fst, strL b3.snd.snd.snd.fst, AV.row 4 0 b3.snd.snd.snd.snd.length (0 : Nat) b3.snd.snd.snd.snd.length], MObj.row 0 5 z34 true (1 : Nat), MObj.row 0 3 z95 true (1 : Nat)]) ∧ z25 ∧ z95.length = z56.length ∧ List.take z56.length (List.drop (0 : Nat) z95) = List.map encDL z56 ∧ z25 ∧ z64 ∧ z10 ∧ z89 ∧ b3.snd.snd.snd.snd.length + z76.length = b3.snd.snd.snd.snd.length + 1 ∧ (b3.snd.snd.snd.snd.length + 1) * 56 ≤ z59 ∧ b3.snd.snd.snd.snd.length + 1 ≤ z58 ∧ z25 ∧ ∃ (b5 : Nat × Int × Bs × Bs × List Hk), (z28 ∧ z2 ∧ (z0 ∧ (↑(hkA (lins s) b3.fst) : Int) = (↑b5.fst : Int) ∧ hkE (lins s) b3.fst = b5.snd.fst) ∧ z13 ∧ (b3.snd.snd.fst = b5.snd.snd.fst ∧ b3.snd.snd.snd.fst = b5.snd.snd.snd.fst ∧ b3.snd.snd.snd.snd.length + 1 = b5.snd.snd.snd.snd.length ∧ z10 ∧ b3.snd.snd.snd.snd.length + 1 = b5.snd.snd.snd.snd.length) ∧ List.map encHk b3.snd.snd.snd.snd ++ z76 = List.map encHk b5.snd.snd.snd.snd) ∧ HsI (lins s) b0 b5 ∧ hsM (lins s) b5 < hsM (lins s) b3) ∧ (Lib.hasPrefix b4 z12 = false → z64 ∧ z48 ∧ z4 ∧ z10 ∧ z11 ∧ z70 ∧ z5 ∧ z6 ∧ ∃ (b5 : Nat × Int × List Pt), ((z0 ∧ True ∧ (b0.snd.snd.length + 1 = b5.snd.snd.length ∧ z10 ∧ b0.snd.snd.length + 1 = b5.snd.snd.length) ∧ True) ∧ z2 ∧ (z0 ∧ z83 = (↑b5.fst : Int) ∧ b3.snd.fst = b5.snd.fst) ∧ List.map encPt b0.snd.snd ++ z19 = List.map encPt b5.snd.snd) ∧ PaI (lins s) b5 ∧ paM (lins s) b5 < paM (lins s) b0)) ∧ (decide (z83 < z26) = false → z50 ∧ z64 ∧ z48 ∧ z4 ∧ z10 ∧ z11 ∧ z70 ∧ z5 ∧ z6 ∧ ∃ (b4 : Nat × Int × List Pt), ((z0 ∧ True ∧ (b0.snd.snd.length + 1 = b4.snd.snd.length ∧ z10 ∧ b0.snd.snd.length + 1 = b4.snd.snd.length) ∧ True) ∧ z2 ∧ (z0 ∧ z83 = (↑b4.fst : Int) ∧ b3.snd.fst = b4.snd.fst) ∧ List.map encPt b0.snd.snd ++ z19 = List.map encPt b4.snd.snd) ∧ PaI (lins s) b4 ∧ paM (lins s) b4 < paM (lins s) b0)) ∧ (decide (b3.snd.fst = 0) = false → z50 ∧ z50 ∧ z64 ∧ z48 ∧ z4 ∧ z10 ∧ z11 ∧ z70 ∧ z5 ∧ z6 ∧ ∃ (b4 : Nat × Int × List Pt), ((z0 ∧ True ∧ (b0.snd.snd.length + 1 = b4.snd.snd.length ∧ z10 ∧ b0.snd.snd.length + (1 : Nat) = b4.snd.snd.length) ∧ True) ∧ z2 ∧ (z0 ∧ z83 = (↑b4.fst : Int) ∧ b3.snd.fst = b4.snd.fst) ∧ List.map encPt b0.snd.snd ++ z19 = List.map encPt b4.snd.snd) ∧ PaI (lins s) b4 ∧ paM (lins s) b4 < paM (lins s) b0)))) ∧ (decide (z43 + 1 < z26) = false → true = true ∧ true = true ∧ (∃ (b2 : Nat × Int × Bs × Bs × List Hk), (z28 ∧ z2 ∧ (z0 ∧ z43 + 1 = (↑b2.fst : Int) ∧ (1 : Int) = b2.snd.fst) ∧ z13 ∧ (unT z7 = b2.snd.snd.fst ∧ [] = b2.snd.snd.snd.fst ∧ (0 : Nat) = b2.snd.snd.snd.snd.length ∧ z10 ∧ (0 : Nat) = b2.snd.snd.snd.snd.length) ∧ [] = List.map encHk b2.snd.snd.snd.snd) ∧ HsI (lins s) b0 b2) ∧ ∀ (b2 : Nat × Int × Bs × Bs × List Hk), let z90 := b2.snd.snd.snd.snd.length = b2.snd.snd.snd.snd.length; let z80 := (↑b2.fst : Int); let z53 := (hkLn (lins s) b2.fst); let z96 := (List.map encDL z53); let z38 := (hdG (lnAt (lins s) b2.fst)); let z77 := [AV.agg [intA z38.fa, intA z38.la, intA z38.fb, intA z38.lb, AV.slice 3 z96]]; let z31 := (List.map encHk b2.snd.snd.snd.snd); let z65 := z31.length = b2.snd.snd.snd.snd.length; let z49 := List.take b2.snd.snd.snd.snd.length (List.drop (0 : Nat) z31) = List.map encHk b2.snd.snd.snd.snd; let z22 := (z0 ∧ True ∧ z1 ∧ True ∧ True ∧ (z90 ∧ z10 ∧ b2.snd.snd.snd.snd.length = b2.snd.snd.snd.snd.length) ∧ True ∧ True ∧ True); let z16 := [AV.agg [strL b2.snd.snd.fst, strL b2.snd.snd.snd.fst, AV.slice 5 z31]]; let z71 := b0.snd.snd.length + z16.length = b0.snd.snd.length + 1; HsI (lins s) b0 b2 → (decide (b2.snd.fst = 0) = true → z3 ∧ z8 ∧ (decide (z80 < z26) = true → z3 ∧ z80 = z80 ∧ b2.fst < (lins s).length ∧ z2 ∧ z3 ∧ (0 : Nat) + b2.fst = 0 + b2.fst ∧ (0 : Nat) + b2.fst < (lins s).length ∧ ∀ (b3 : Bs), (lins s)[(0 : Nat) + b2.fst]? = some b3 → (R FT X).f 80 [strL b3, strL z12] = some (boolA (Lib.hasPrefix b3 z12)) ∧ (Lib.hasPrefix b3 z12 = true → (R FT X).m 51 z97 [MObj.row 0 1 z35 true (0 : Nat), MObj.box 83 [AV.row 0 0 (lins s).length (0 : Nat) (lins s).length, intA z80, intA b2.snd.fst], MObj.row 0 3 z27 true (1 : Nat), MObj.box 29 [strL b2.snd.snd.fst, strL b2.snd.snd.snd.fst, AV.row 4 0 b2.snd.snd.snd.snd.length (0 : Nat) b2.snd.snd.snd.snd.length], MObj.row 0 5 z31 true (1 : Nat)] = some (AV.agg [intA z38.fa, intA z38.la, intA z38.fb, intA z38.lb, AV.row 5 0 z53.length (0 : Nat) z53.length], [MObj.row 0 1 z35 true (0 : Nat), MObj.box 83 [AV.row 0 0 (lins s).length (0 : Nat) (lins s).length, intA (↑(hkA (lins s) b2.fst) : Int), intA (hkE (lins s) b2.fst)], MObj.row 0 3 z27 true (1 : Nat), MObj.box 29 [strL b2.snd.snd.fst, strL b2.snd.snd.snd.fst, AV.row 4 0 b2.snd.snd.snd.snd.length (0 : Nat) b2.snd.snd.snd.snd.length], MObj.row 0 5 z31 true (1 : Nat), MObj.row 0 3 z96 true (1 : Nat)]) ∧ z22 ∧ z96.length = z53.length ∧ List.take z53.length (List.drop (0 : Nat) z96) = List.map encDL z53 ∧ z22 ∧ z65 ∧ z10 ∧ z90 ∧ b2.snd.snd.snd.snd.length + z77.length = b2.snd.snd.snd.snd.length + 1 ∧ (b2.snd.snd.snd.snd.length + 1) * 56 ≤ z59 ∧ b2.snd.snd.snd.snd.length + 1 ≤ z58 ∧ z22 ∧ ∃ (b4 : Nat × Int × Bs × Bs × List Hk), (z28 ∧ z2 ∧ (z0 ∧ (↑(hkA (lins s) b2.fst) : Int) = (↑b4.fst : Int) ∧ hkE (lins s) b2.fst = b4.snd.fst) ∧ z13 ∧ (b2.snd.snd.fst = b4.snd.snd.fst ∧ b2.snd.snd.snd.fst = b4.snd.snd.snd.fst ∧ b2.snd.snd.snd.snd.length + 1 = b4.snd.snd.snd.snd.length ∧ z10 ∧ b2.snd.snd.snd.snd.length + 1 = b4.snd.snd.snd.snd.length) ∧ List.map encHk b2.snd.snd.snd.snd ++ z77 = List.map encHk b4.snd.snd.snd.snd) ∧ HsI (lins s) b0 b4 ∧ hsM (lins s) b4 < hsM (lins s) b2) ∧ (Lib.hasPrefix b3 z12 = false → z65 ∧ z49 ∧ z4 ∧ z10 ∧ z11 ∧ z71 ∧ z5 ∧ z6 ∧ ∃ (b4 : Nat × Int × List Pt), ((z0 ∧ True ∧ (b0.snd.snd.length + 1 = b4.snd.snd.length ∧ z10 ∧ b0.snd.snd.length + 1 = b4.snd.snd.length) ∧ True) ∧ z2 ∧ (z0 ∧ z80 = (↑b4.fst : Int) ∧ b2.snd.fst = b4.snd.fst) ∧ List.map encPt b0.snd.snd ++ z16 = List.map encPt b4.snd.snd) ∧ PaI (lins s) b4 ∧ paM (lins s) b4 < paM (lins s) b0)) ∧ (decide (z80 < z26) = false → z50 ∧ z65 ∧ z49 ∧ z4 ∧ z10 ∧ z11 ∧ z71 ∧ z5 ∧ z6 ∧ ∃ (b3 : Nat × Int × List Pt), ((z0 ∧ True ∧ (b0.snd.snd.length + 1 = b3.snd.snd.length ∧ z10 ∧ b0.snd.snd.length + 1 = b3.snd.snd.length) ∧ True) ∧ z2 ∧ (z0 ∧ z80 = (↑b3.fst : Int) ∧ b2.snd.fst = b3.snd.fst) ∧ List.map encPt b0.snd.snd ++ z16 = List.map encPt b3.snd.snd) ∧ PaI (lins s) b3 ∧ paM (lins s) b3 < paM (lins s) b0)) ∧ (decide (b2.snd.fst = (0 : Int)) = false → z50 ∧ z50 ∧ z65 ∧ z49 ∧ z4 ∧ z10 ∧ z11 ∧ z71 ∧ z5 ∧ z6 ∧ ∃ (b3 : Nat × Int × List Pt), ((z0 ∧ True ∧ (b0.snd.snd.length + 1 = b3.snd.snd.length ∧ z10 ∧ b0.snd.snd.length + 1 = b3.snd.snd.length) ∧ True) ∧ z2 ∧ (z0 ∧ z80 = (↑b3.fst : Int) ∧ b2.snd.fst = b3.snd.fst) ∧ List.map encPt b0.snd.snd ++ z16 = List.map encPt b3.snd.snd) ∧ PaI (lins s) b3 ∧ paM (lins s) b3 < paM (lins s) b0))))) ∧ (decide (z43 < z26) = false → (!decide z84) = false ∧ z4 ∧ List.take b0.snd.snd.length (List.drop (0 : Nat) z27) = List.map encPt b0.snd.snd ∧ List.map encPt b0.snd.snd = List.map encPt (paP s) ∧ (0 : Int) = paE s ∧ (0 : Int) = paL s)) ∧ (decide z84 = false → z50 ∧ (!decide z84) = true ∧ InI64 (z43 + 1) ∧ [] = List.map encPt (paP s) ∧ b0.snd.fst = paE s ∧ z43 + 1 = paL s))) ?_
  conv => zeta
  conv => zeta
  refine ⟨(ln _), ⟨((0 : Nat), (0 : Int), []), ⟨⟨⟨rfl, rfl, rfl⟩, trivial, ⟨rfl, rfl, rfl⟩, trivial⟩, rfl, ⟨⟨rfl, rfl, rfl⟩, (by (try dsimp only); omega), rfl⟩, rfl⟩, ?_⟩, fun j => fun h2 => ⟨fun h3_ => have h3 := dT h3_; ⟨(by simp), (by simp), fun h4_ => have h4 := dT h4_; ⟨(by simp), (by simp), h4_, (by simp), rfl, (by omega), rfl, (by simp), rfl, (by omega), fun x5 => fun h6 => ⟨(cp _ _), fun h7_ => have h7 := nT h7_; ⟨rfl, rfl, ⟨(j.fst, (1 : Int), [], [], []), ⟨⟨⟨rfl, rfl, rfl⟩, trivial, ⟨rfl, rfl, rfl⟩, trivial, trivial⟩, rfl, ⟨⟨rfl, rfl, rfl⟩, rfl, rfl⟩, rfl, ⟨rfl, rfl, rfl, rfl, rfl⟩, rfl⟩, ?_⟩, fun q => fun h9 => ⟨fun h10_ => have h10 := dT h10_; ⟨(by simp), (by simp), fun h11_ => have h11 := dT h11_; ⟨(by simp), rfl, (by omega), rfl, (by simp), rfl, (by omega), fun x12 => fun h13 => ⟨(hh _ _), fun h14 => ⟨(hk _ _ _ _ h10 (by exact rfl) (by exact (by omega)) ?_ (by exact (by omega)) _ _ _ _ _), ⟨⟨rfl, rfl, rfl⟩, trivial, ⟨rfl, rfl, rfl⟩, trivial, trivial, ⟨rfl, rfl, rfl⟩, trivial, trivial, trivial⟩, (by simp), ?_, ⟨⟨rfl, rfl, rfl⟩, trivial, ⟨rfl, rfl, rfl⟩, trivial, trivial, ⟨rfl, rfl, rfl⟩, trivial, trivial, trivial⟩, (by simp), rfl, rfl, rfl, ?_, ?_, ⟨⟨rfl, rfl, rfl⟩, trivial, ⟨rfl, rfl, rfl⟩, trivial, trivial, ⟨rfl, rfl, rfl⟩, trivial, trivial, trivial⟩, ⟨(hkA (lins s) q.fst, hkE (lins s) q.fst, q.snd.snd.fst, q.snd.snd.snd.fst,
  q.snd.snd.snd.snd ++
    [Hk.mk (hdG (lnAt (lins s) q.fst)).fa (hdG (lnAt (lins s) q.fst)).la (hdG (lnAt (lins s) q.fst)).fb
        (hdG (lnAt (lins s) q.fst)).lb (hkLn (lins s) q.fst)]), ⟨⟨⟨rfl, rfl, rfl⟩, trivial, ⟨rfl, rfl, rfl⟩, trivial, trivial⟩, rfl, ⟨⟨rfl, rfl, rfl⟩, rfl, rfl⟩, rfl, ⟨rfl, rfl, (by simp), rfl, (by simp)⟩, ?_⟩, ⟨?_, ?_⟩⟩⟩, fun h16 => ⟨(by simp), ?_, (by simp), rfl, rfl, rfl, ?_, ?_, ⟨(q.fst, q.snd.fst, j.snd.snd ++ [Pt.mk q.snd.snd.fst q.snd.snd.snd.fst q.snd.snd.snd.snd]), ⟨⟨⟨rfl, rfl, rfl⟩, trivial, ⟨(by simp), rfl, (by simp)⟩, trivial⟩, rfl, ⟨⟨rfl, rfl, rfl⟩, rfl, rfl⟩, ?_⟩, ⟨?_, ?_⟩⟩⟩⟩⟩, fun h18_ => have h18 := dF h18_; ⟨rfl, (by simp), ?_, (by simp), rfl, rfl, rfl, ?_, ?_, ⟨(q.fst, q.snd.fst, j.snd.snd ++ [Pt.mk q.snd.snd.fst q.snd.snd.snd.fst q.snd.snd.snd.snd]), ⟨⟨⟨rfl, rfl, rfl⟩, trivial, ⟨(by simp), rfl, (by simp)⟩, trivial⟩, rfl, ⟨⟨rfl, rfl, rfl⟩, rfl, rfl⟩, ?_⟩, ⟨?_, ?_⟩⟩⟩⟩, fun h20_ => have h20 := dF h20_; ⟨rfl, rfl, (by simp), ?_, (by simp), rfl, rfl, rfl, ?_, ?_, ⟨(q.fst, q.snd.fst, j.snd.snd ++ [Pt.mk q.snd.snd.fst q.snd.snd.snd.fst q.snd.snd.snd.snd]), ⟨⟨⟨rfl, rfl, rfl⟩, trivial, ⟨(by simp), rfl, (by simp)⟩, trivial⟩, rfl, ⟨⟨rfl, rfl, rfl⟩, rfl, rfl⟩, ?_⟩, ⟨?_, ?_⟩⟩⟩⟩⟩, fun h22_ => have h22 := nF h22_; ⟨(by unfold InI64; omega), (fnD h3), (un _ ?_), fun h23_ => have h23 := dnT h23_; ⟨(by unfold InI64; omega), rfl, ⟨(((↑j.fst : Int) + (1 : Int) - (1 : Int)).toNat, (1 : Int),
  unT (Lib.trimPrefix x5 [(45 : UInt8), (45 : UInt8), (45 : UInt8), (32 : UInt8)]), [], []), ⟨⟨⟨rfl, rfl, rfl⟩, trivial, ⟨rfl, rfl, rfl⟩, trivial, trivial⟩, rfl, ⟨⟨rfl, rfl, rfl⟩, (by (try dsimp only); omega), rfl⟩, rfl, ⟨rfl, rfl, rfl, rfl, rfl⟩, rfl⟩, ?_⟩, fun q => fun h25 => ⟨fun h26_ => have h26 := dT h26_; ⟨(by simp), (by simp), fun h27_ => have h27 := dT h27_; ⟨(by simp), rfl, (by omega), rfl, (by simp), rfl, (by omega), fun x28 => fun h29 => ⟨(hh _ _), fun h30 => ⟨(hk _ _ _ _ h26 (by exact rfl) (by exact (by omega)) ?_ (by exact (by omega)) _ _ _ _ _), ⟨⟨rfl, rfl, rfl⟩, trivial, ⟨rfl, rfl, rfl⟩, trivial, trivial, ⟨rfl, rfl, rfl⟩, trivial, trivial, trivial⟩, (by simp), ?_, ⟨⟨rfl, rfl, rfl⟩, trivial, ⟨rfl, rfl, rfl⟩, trivial, trivial, ⟨rfl, rfl, rfl⟩, trivial, trivial, trivial⟩, (by simp), rfl, rfl, rfl, ?_, ?_, ⟨⟨rfl, rfl, rfl⟩, trivial, ⟨rfl, rfl, rfl⟩, trivial, trivial, ⟨rfl, rfl, rfl⟩, trivial, trivial, trivial⟩, ⟨(hkA (lins s) q.fst, hkE (lins s) q.fst, q.snd.snd.fst, q.snd.snd.snd.fst,
  q.snd.snd.snd.snd ++
    [Hk.mk (hdG (lnAt (lins s) q.fst)).fa (hdG (lnAt (lins s) q.fst)).la (hdG (lnAt (lins s) q.fst)).fb
        (hdG (lnAt (lins s) q.fst)).lb (hkLn (lins s) q.fst)]), ⟨⟨⟨rfl, rfl, rfl⟩, trivial, ⟨rfl, rfl, rfl⟩, trivial, trivial⟩, rfl, ⟨⟨rfl, rfl, rfl⟩, rfl, rfl⟩, rfl, ⟨rfl, rfl, (by simp), rfl, (by simp)⟩, ?_⟩, ⟨?_, ?_⟩⟩⟩, fun h32 => ⟨(by simp), ?_, (by simp), rfl, rfl, rfl, ?_, ?_, ⟨(q.fst, q.snd.fst, j.snd.snd ++ [Pt.mk q.snd.snd.fst q.snd.snd.snd.fst q.snd.snd.snd.snd]), ⟨⟨⟨rfl, rfl, rfl⟩, trivial, ⟨(by simp), rfl, (by simp)⟩, trivial⟩, rfl, ⟨⟨rfl, rfl, rfl⟩, rfl, rfl⟩, ?_⟩, ⟨?_, ?_⟩⟩⟩⟩⟩, fun h34_ => have h34 := dF h34_; ⟨rfl, (by simp), ?_, (by simp), rfl, rfl, rfl, ?_, ?_, ⟨(q.fst, q.snd.fst, j.snd.snd ++ [Pt.mk q.snd.snd.fst q.snd.snd.snd.fst q.snd.snd.snd.snd]), ⟨⟨⟨rfl, rfl, rfl⟩, trivial, ⟨(by simp), rfl, (by simp)⟩, trivial⟩, rfl, ⟨⟨rfl, rfl, rfl⟩, rfl, rfl⟩, ?_⟩, ⟨?_, ?_⟩⟩⟩⟩, fun h36_ => have h36 := dF h36_; ⟨rfl, rfl, (by simp), ?_, (by simp), rfl, rfl, rfl, ?_, ?_, ⟨(q.fst, q.snd.fst, j.snd.snd ++ [Pt.mk q.snd.snd.fst q.snd.snd.snd.fst q.snd.snd.snd.snd]), ⟨⟨⟨rfl, rfl, rfl⟩, trivial, ⟨(by simp), rfl, (by simp)⟩, trivial⟩, rfl, ⟨⟨rfl, rfl, rfl⟩, rfl, rfl⟩, ?_⟩, ⟨?_, ?_⟩⟩⟩⟩⟩, fun h38_ => have h38 := dnF h38_; ⟨h3_, (by simp), (by simp), fun h39_ => have h39 := dT h39_; ⟨(by simp), (by omega), (by omega), rfl, (by simp), rfl, (by omega), fun x40 => fun h41 => ⟨(cp _ _), fun h42_ => have h42 := nT h42_; ⟨rfl, ⟨(j.fst + (1 : Nat), (1 : Int), unT (Lib.trimPrefix x5 [(45 : UInt8), (45 : UInt8), (45 : UInt8), (32 : UInt8)]), [], []), ⟨⟨⟨rfl, rfl, rfl⟩, trivial, ⟨rfl, rfl, rfl⟩, trivial, trivial⟩, rfl, ⟨⟨rfl, rfl, rfl⟩, (by (try dsimp only); omega), rfl⟩, rfl, ⟨rfl, rfl, rfl, rfl, rfl⟩, rfl⟩, ?_⟩, fun q => fun h44 => ⟨fun h45_ => have h45 := dT h45_; ⟨(by simp), (by simp), fun h46_ => have h46 := dT h46_; ⟨(by simp), rfl, (by omega), rfl, (by simp), rfl, (by omega), fun x47 => fun h48 => ⟨(hh _ _), fun h49 => ⟨(hk _ _ _ _ h45 (by exact rfl) (by exact (by omega)) ?_ (by exact (by omega)) _ _ _ _ _), ⟨⟨rfl, rfl, rfl⟩, trivial, ⟨rfl, rfl, rfl⟩, trivial, trivial, ⟨rfl, rfl, rfl⟩, trivial, trivial, trivial⟩, (by simp), ?_, ⟨⟨rfl, rfl, rfl⟩, trivial, ⟨rfl, rfl, rfl⟩, trivial, trivial, ⟨rfl, rfl, rfl⟩, trivial, trivial, trivial⟩, (by simp), rfl, rfl, rfl, ?_, ?_, ⟨⟨rfl, rfl, rfl⟩, trivial, ⟨rfl, rfl, rfl⟩, trivial, trivial, ⟨rfl, rfl, rfl⟩, trivial, trivial, trivial⟩, ⟨(hkA (lins s) q.fst, hkE (lins s) q.fst, q.snd.snd.fst, q.snd.snd.snd.fst,
  q.snd.snd.snd.snd ++
    [Hk.mk (hdG (lnAt (lins s) q.fst)).fa (hdG (lnAt (lins s) q.fst)).la (hdG (lnAt (lins s) q.fst)).fb
        (hdG (lnAt (lins s) q.fst)).lb (hkLn (lins s) q.fst)]), ⟨⟨⟨rfl, rfl, rfl⟩, trivial, ⟨rfl, rfl, rfl⟩, trivial, trivial⟩, rfl, ⟨⟨rfl, rfl, rfl⟩, rfl, rfl⟩, rfl, ⟨rfl, rfl, (by simp), rfl, (by simp)⟩, ?_⟩, ⟨?_, ?_⟩⟩⟩, fun h51 => ⟨(by simp), ?_, (by simp), rfl, rfl, rfl, ?_, ?_, ⟨(q.fst, q.snd.fst, j.snd.snd ++ [Pt.mk q.snd.snd.fst q.snd.snd.snd.fst q.snd.snd.snd.snd]), ⟨⟨⟨rfl, rfl, rfl⟩, trivial, ⟨(by simp), rfl, (by simp)⟩, trivial⟩, rfl, ⟨⟨rfl, rfl, rfl⟩, rfl, rfl⟩, ?_⟩, ⟨?_, ?_⟩⟩⟩⟩⟩, fun h53_ => have h53 := dF h53_; ⟨rfl, (by simp), ?_, (by simp), rfl, rfl, rfl, ?_, ?_, ⟨(q.fst, q.snd.fst, j.snd.snd ++ [Pt.mk q.snd.snd.fst q.snd.snd.snd.fst q.snd.snd.snd.snd]), ⟨⟨⟨rfl, rfl, rfl⟩, trivial, ⟨(by simp), rfl, (by simp)⟩, trivial⟩, rfl, ⟨⟨rfl, rfl, rfl⟩, rfl, rfl⟩, ?_⟩, ⟨?_, ?_⟩⟩⟩⟩, fun h55_ => have h55 := dF h55_; ⟨rfl, rfl, (by simp), ?_, (by simp), rfl, rfl, rfl, ?_, ?_, ⟨(q.fst, q.snd.fst, j.snd.snd ++ [Pt.mk q.snd.snd.fst q.snd.snd.snd.fst q.snd.snd.snd.snd]), ⟨⟨⟨rfl, rfl, rfl⟩, trivial, ⟨(by simp), rfl, (by simp)⟩, trivial⟩, rfl, ⟨⟨rfl, rfl, rfl⟩, rfl, rfl⟩, ?_⟩, ⟨?_, ?_⟩⟩⟩⟩⟩, fun h57_ => have h57 := nF h57_; ⟨(by unfold InI64; omega), (fnD h3), (un _ ?_), fun h58_ => have h58 := dnT h58_; ⟨(by unfold InI64; omega), ⟨(((↑j.fst : Int) + (1 : Int) + (1 : Int) - (1 : Int)).toNat, (1 : Int),
  unT (Lib.trimPrefix x5 [(45 : UInt8), (45 : UInt8), (45 : UInt8), (32 : UInt8)]),
  unT (Lib.trimPrefix x40 [(43 : UInt8), (43 : UInt8), (43 : UInt8), (32 : UInt8)]), []), ⟨⟨⟨rfl, rfl, rfl⟩, trivial, ⟨rfl, rfl, rfl⟩, trivial, trivial⟩, rfl, ⟨⟨rfl, rfl, rfl⟩, (by (try dsimp only); omega), rfl⟩, rfl, ⟨rfl, rfl, rfl, rfl, rfl⟩, rfl⟩, ?_⟩, fun q => fun h60 => ⟨fun h61_ => have h61 := dT h61_; ⟨(by simp), (by simp), fun h62_ => have h62 := dT h62_; ⟨(by simp), rfl, (by omega), rfl, (by simp), rfl, (by omega), fun x63 => fun h64 => ⟨(hh _ _), fun h65 => ⟨(hk _ _ _ _ h61 (by exact rfl) (by exact (by omega)) ?_ (by exact (by omega)) _ _ _ _ _), ⟨⟨rfl, rfl, rfl⟩, trivial, ⟨rfl, rfl, rfl⟩, trivial, trivial, ⟨rfl, rfl, rfl⟩, trivial, trivial, trivial⟩, (by simp), ?_, ⟨⟨rfl, rfl, rfl⟩, trivial, ⟨rfl, rfl, rfl⟩, trivial, trivial, ⟨rfl, rfl, rfl⟩, trivial, trivial, trivial⟩, (by simp), rfl, rfl, rfl, ?_, ?_, ⟨⟨rfl, rfl, rfl⟩, trivial, ⟨rfl, rfl, rfl⟩, trivial, trivial, ⟨rfl, rfl, rfl⟩, trivial, trivial, trivial⟩, ⟨(hkA (lins s) q.fst, hkE (lins s) q.fst, q.snd.snd.fst, q.snd.snd.snd.fst,
  q.snd.snd.snd.snd ++
    [Hk.mk (hdG (lnAt (lins s) q.fst)).fa (hdG (lnAt (lins s) q.fst)).la (hdG (lnAt (lins s) q.fst)).fb
        (hdG (lnAt (lins s) q.fst)).lb (hkLn (lins s) q.fst)]), ⟨⟨⟨rfl, rfl, rfl⟩, trivial, ⟨rfl, rfl, rfl⟩, trivial, trivial⟩, rfl, ⟨⟨rfl, rfl, rfl⟩, rfl, rfl⟩, rfl, ⟨rfl, rfl, (by simp), rfl, (by simp)⟩, ?_⟩, ⟨?_, ?_⟩⟩⟩, fun h67 => ⟨(by simp), ?_, (by simp), rfl, rfl, rfl, ?_, ?_, ⟨(q.fst, q.snd.fst, j.snd.snd ++ [Pt.mk q.snd.snd.fst q.snd.snd.snd.fst q.snd.snd.snd.snd]), ⟨⟨⟨rfl, rfl, rfl⟩, trivial, ⟨(by simp), rfl, (by simp)⟩, trivial⟩, rfl, ⟨⟨rfl, rfl, rfl⟩, rfl, rfl⟩, ?_⟩, ⟨?_, ?_⟩⟩⟩⟩⟩, fun h69_ => have h69 := dF h69_; ⟨rfl, (by simp), ?_, (by simp), rfl, rfl, rfl, ?_, ?_, ⟨(q.fst, q.snd.fst, j.snd.snd ++ [Pt.mk q.snd.snd.fst q.snd.snd.snd.fst q.snd.snd.snd.snd]), ⟨⟨⟨rfl, rfl, rfl⟩, trivial, ⟨(by simp), rfl, (by simp)⟩, trivial⟩, rfl, ⟨⟨rfl, rfl, rfl⟩, rfl, rfl⟩, ?_⟩, ⟨?_, ?_⟩⟩⟩⟩, fun h71_ => have h71 := dF h71_; ⟨rfl, rfl, (by simp), ?_, (by simp), rfl, rfl, rfl, ?_, ?_, ⟨(q.fst, q.snd.fst, j.snd.snd ++ [Pt.mk q.snd.snd.fst q.snd.snd.snd.fst q.snd.snd.snd.snd]), ⟨⟨⟨rfl, rfl, rfl⟩, trivial, ⟨(by simp), rfl, (by simp)⟩, trivial⟩, rfl, ⟨⟨rfl, rfl, rfl⟩, rfl, rfl⟩, ?_⟩, ⟨?_, ?_⟩⟩⟩⟩⟩, fun h73_ => have h73 := dnF h73_; ⟨⟨(j.fst + (1 : Nat) + (1 : Nat), j.snd.fst,
  unT (Lib.trimPrefix x5 [(45 : UInt8), (45 : UInt8), (45 : UInt8), (32 : UInt8)]),
  unT (Lib.trimPrefix x40 [(43 : UInt8), (43 : UInt8), (43 : UInt8), (32 : UInt8)]), []), ⟨⟨⟨rfl, rfl, rfl⟩, trivial, ⟨rfl, rfl, rfl⟩, trivial, trivial⟩, rfl, ⟨⟨rfl, rfl, rfl⟩, (by (try dsimp only); omega), rfl⟩, rfl, ⟨rfl, rfl, rfl, rfl, rfl⟩, rfl⟩, ?_⟩, fun q => fun h75 => ⟨fun h76_ => have h76 := dT h76_; ⟨(by simp), (by simp), fun h77_ => have h77 := dT h77_; ⟨(by simp), rfl, (by omega), rfl, (by simp), rfl, (by omega), fun x78 => fun h79 => ⟨(hh _ _), fun h80 => ⟨(hk _ _ _ _ h76 (by exact rfl) (by exact (by omega)) ?_ (by exact (by omega)) _ _ _ _ _), ⟨⟨rfl, rfl, rfl⟩, trivial, ⟨rfl, rfl, rfl⟩, trivial, trivial, ⟨rfl, rfl, rfl⟩, trivial, trivial, trivial⟩, (by simp), ?_, ⟨⟨rfl, rfl, rfl⟩, trivial, ⟨rfl, rfl, rfl⟩, trivial, trivial, ⟨rfl, rfl, rfl⟩, trivial, trivial, trivial⟩, (by simp), rfl, rfl, rfl, ?_, ?_, ⟨⟨rfl, rfl, rfl⟩, trivial, ⟨rfl, rfl, rfl⟩, trivial, trivial, ⟨rfl, rfl, rfl⟩, trivial, trivial, trivial⟩, ⟨(hkA (lins s) q.fst, hkE (lins s) q.fst, q.snd.snd.fst, q.snd.snd.snd.fst,
  q.snd.snd.snd.snd ++
    [Hk.mk (hdG (lnAt (lins s) q.fst)).fa (hdG (lnAt (lins s) q.fst)).la (hdG (lnAt (lins s) q.fst)).fb
        (hdG (lnAt (lins s) q.fst)).lb (hkLn (lins s) q.fst)]), ⟨⟨⟨rfl, rfl, rfl⟩, trivial, ⟨rfl, rfl, rfl⟩, trivial, trivial⟩, rfl, ⟨⟨rfl, rfl, rfl⟩, rfl, rfl⟩, rfl, ⟨rfl, rfl, (by simp), rfl, (by simp)⟩, ?_⟩, ⟨?_, ?_⟩⟩⟩, fun h82 => ⟨(by simp), ?_, (by simp), rfl, rfl, rfl, ?_, ?_, ⟨(q.fst, q.snd.fst, j.snd.snd ++ [Pt.mk q.snd.snd.fst q.snd.snd.snd.fst q.snd.snd.snd.snd]), ⟨⟨⟨rfl, rfl, rfl⟩, trivial, ⟨(by simp), rfl, (by simp)⟩, trivial⟩, rfl, ⟨⟨rfl, rfl, rfl⟩, rfl, rfl⟩, ?_⟩, ⟨?_, ?_⟩⟩⟩⟩⟩, fun h84_ => have h84 := dF h84_; ⟨rfl, (by simp), ?_, (by simp), rfl, rfl, rfl, ?_, ?_, ⟨(q.fst, q.snd.fst, j.snd.snd ++ [Pt.mk q.snd.snd.fst q.snd.snd.snd.fst q.snd.snd.snd.snd]), ⟨⟨⟨rfl, rfl, rfl⟩, trivial, ⟨(by simp), rfl, (by simp)⟩, trivial⟩, rfl, ⟨⟨rfl, rfl, rfl⟩, rfl, rfl⟩, ?_⟩, ⟨?_, ?_⟩⟩⟩⟩, fun h86_ => have h86 := dF h86_; ⟨rfl, rfl, (by simp), ?_, (by simp), rfl, rfl, rfl, ?_, ?_, ⟨(q.fst, q.snd.fst, j.snd.snd ++ [Pt.mk q.snd.snd.fst q.snd.snd.snd.fst q.snd.snd.snd.snd]), ⟨⟨⟨rfl, rfl, rfl⟩, trivial, ⟨(by simp), rfl, (by simp)⟩, trivial⟩, rfl, ⟨⟨rfl, rfl, rfl⟩, rfl, rfl⟩, ?_⟩, ⟨?_, ?_⟩⟩⟩⟩⟩⟩⟩⟩, fun h88_ => have h88 := dF h88_; ⟨rfl, rfl, ⟨(j.fst + (1 : Nat), (1 : Int), unT (Lib.trimPrefix x5 [(45 : UInt8), (45 : UInt8), (45 : UInt8), (32 : UInt8)]), [], []), ⟨⟨⟨rfl, rfl, rfl⟩, trivial, ⟨rfl, rfl, rfl⟩, trivial, trivial⟩, rfl, ⟨⟨rfl, rfl, rfl⟩, (by (try dsimp only); omega), rfl⟩, rfl, ⟨rfl, rfl, rfl, rfl, rfl⟩, rfl⟩, ?_⟩, fun q => fun h90 => ⟨fun h91_ => have h91 := dT h91_; ⟨(by simp), (by simp), fun h92_ => have h92 := dT h92_; ⟨(by simp), rfl, (by omega), rfl, (by simp), rfl, (by omega), fun x93 => fun h94 => ⟨(hh _ _), fun h95 => ⟨(hk _ _ _ _ h91 (by exact rfl) (by exact (by omega)) ?_ (by exact (by omega)) _ _ _ _ _), ⟨⟨rfl, rfl, rfl⟩, trivial, ⟨rfl, rfl, rfl⟩, trivial, trivial, ⟨rfl, rfl, rfl⟩, trivial, trivial, trivial⟩, (by simp), ?_, ⟨⟨rfl, rfl, rfl⟩, trivial, ⟨rfl, rfl, rfl⟩, trivial, trivial, ⟨rfl, rfl, rfl⟩, trivial, trivial, trivial⟩, (by simp), rfl, rfl, rfl, ?_, ?_, ⟨⟨rfl, rfl, rfl⟩, trivial, ⟨rfl, rfl, rfl⟩, trivial, trivial, ⟨rfl, rfl, rfl⟩, trivial, trivial, trivial⟩, ⟨(hkA (lins s) q.fst, hkE (lins s) q.fst, q.snd.snd.fst, q.snd.snd.snd.fst,
  q.snd.snd.snd.snd ++
    [Hk.mk (hdG (lnAt (lins s) q.fst)).fa (hdG (lnAt (lins s) q.fst)).la (hdG (lnAt (lins s) q.fst)).fb
        (hdG (lnAt (lins s) q.fst)).lb (hkLn (lins s) q.fst)]), ⟨⟨⟨rfl, rfl, rfl⟩, trivial, ⟨rfl, rfl, rfl⟩, trivial, trivial⟩, rfl, ⟨⟨rfl, rfl, rfl⟩, rfl, rfl⟩, rfl, ⟨rfl, rfl, (by simp), rfl, (by simp)⟩, ?_⟩, ⟨?_, ?_⟩⟩⟩, fun h97 => ⟨(by simp), ?_, (by simp), rfl, rfl, rfl, ?_, ?_, ⟨(q.fst, q.snd.fst, j.snd.snd ++ [Pt.mk q.snd.snd.fst q.snd.snd.snd.fst q.snd.snd.snd.snd]), ⟨⟨⟨rfl, rfl, rfl⟩, trivial, ⟨(by simp), rfl, (by simp)⟩, trivial⟩, rfl, ⟨⟨rfl, rfl, rfl⟩, rfl, rfl⟩, ?_⟩, ⟨?_, ?_⟩⟩⟩⟩⟩, fun h99_ => have h99 := dF h99_; ⟨rfl, (by simp), ?_, (by simp), rfl, rfl, rfl, ?_, ?_, ⟨(q.fst, q.snd.fst, j.snd.snd ++ [Pt.mk q.snd.snd.fst q.snd.snd.snd.fst q.snd.snd.snd.snd]), ⟨⟨⟨rfl, rfl, rfl⟩, trivial, ⟨(by simp), rfl, (by simp)⟩, trivial⟩, rfl, ⟨⟨rfl, rfl, rfl⟩, rfl, rfl⟩, ?_⟩, ⟨?_, ?_⟩⟩⟩⟩, fun h101_ => have h101 := dF h101_; ⟨rfl, rfl, (by simp), ?_, (by simp), rfl, rfl, rfl, ?_, ?_, ⟨(q.fst, q.snd.fst, j.snd.snd ++ [Pt.mk q.snd.snd.fst q.snd.snd.snd.fst q.snd.snd.snd.snd]), ⟨⟨⟨rfl, rfl, rfl⟩, trivial, ⟨(by simp), rfl, (by simp)⟩, trivial⟩, rfl, ⟨⟨rfl, rfl, rfl⟩, rfl, rfl⟩, ?_⟩, ⟨?_, ?_⟩⟩⟩⟩⟩⟩⟩⟩⟩, fun h103_ => have h103 := dF h103_; ⟨(fnD h3), (by simp), ?_, ?_, ?_, ?_⟩⟩, fun h104_ => have h104 := dF h104_; ⟨rfl, (tnD h104), ?_, ?_, ?_, ?_⟩⟩⟩
  · exact PaI.start _
  all_goals have hle := h2.le
  all_goals have hln := h2.ln
  all_goals first
    | exact hL1
    | exact hL2
    | exact take0 rfl
    | exact hsM_lt (by assumption) (atH_y (by assumption) (by assumption))
    | exact paM_lt (by assumption) h3
    | (rw [List.map_append]; rfl)
    | exact HsI.go (by assumption) (by assumption) (atH_y (by assumption) (by assumption)) hkG_eq
    | exact HsI.fin (by assumption) (by assumption) (atH_n (by assumption) (by assumption))
    | exact HsI.fin (by assumption) (by assumption) (atH_o (by assumption))
    | exact HsI.err (by assumption) (by assumption) _ (by rw [List.length_append]; rfl)
    | exact hL3 _ (by assumption)
    | (unfold InI64; omega)
    | (have hh := HsI.ln (q := q) (j := j) (by assumption); have hp := HsI.pl (q := q) (j := j) (by assumption); omega)
    | exact h2.n1 h3 (by omega) (nmP_p (by assumption) (by assumption)) _ _
    | exact h2.n2 h3 (nmP_y (p := mnA) h6 (by assumption) (by assumption)) (nmP_p (by assumption) (by assumption)) _ _
    | exact h2.n2 h3 (nmP_y (p := mnA) h6 (by assumption) (by assumption)) (nmP_o (by omega)) _ _
    | exact h2.n3 h3 (nmP_y (p := mnA) h6 (by assumption) (by assumption)) (nmP_y (p := mnB) (by assumption) (by assumption) (by assumption))
    | (rw [show ((j.1 : Int) + 1 - 1).toNat = j.1 by omega]; exact h2.n1 h3 (by omega) (nmP_e (p := mnA) h6 (by assumption) (by assumption)) _ _)
    | (rw [show ((j.1 : Int) + 1 + 1 - 1).toNat = j.1 + 1 by omega]; exact h2.n2 h3 (nmP_y (p := mnA) h6 (by assumption) (by assumption)) (nmP_e (p := mnB) (by assumption) (by assumption) (by assumption)) _ _)
    | (unfold paP paE paL; rw [h2.fin h3 (by omega)]; done)
    | (unfold paP; rw [h2.fin h3 (by omega)]; rfl)
    | (unfold paL; rw [h2.fin h3 (by omega)]; rfl)
    | (unfold paE; rw [h2.fin h3 (by omega)])
    | (unfold paE; exact (h2.bad (by assumption)).1.symm)
    | (unfold paP; rw [if_neg (by rw [(h2.bad (by assumption)).1]; assumption)]; rfl)
    | (unfold paL; rw [if_neg (by rw [(h2.bad (by assumption)).1]; assumption), (h2.bad (by assumption)).2])
theorem parse3_run (hB : BldC X) (hI : LibC X) (hc : NumC X) (s : Bs) (hs : s.length ≤ 10000000) : (R FT X).f 19 [strL s] = some (.tuple [.slice 3 ((paP s).map encPt), intA (paE s), intA (paL s)]) :=
 parse3L_run hB hI hc s (by omega) (by have := lins_len s; omega) fun y hy => by have := lens_mem hy; have := lins_lens s; omega
end
end Go.Proofs.YtfbpbkcplpkndaaGreatDoor
end
section
namespace Go.Proofs.YtfbpbkcplpkndaaGreatDoor
set_option linter.unusedVariables false
set_option linter.unusedSimpArgs false
def wd (s : Bs) (i : Nat) : Bs := (flds 32 s).getD i []
def w1 (s : Bs) : Bs := ((wd s 1).take (wd s 1).length).drop 1
def w2 (s : Bs) : Bs := ((wd s 2).take (wd s 2).length).drop 1
def shp (s : Bs) : Bool := decide ((flds 32 s).length = 4) && decide (wd s 0 = [64, 64]) && decide (wd s 3 = [64, 64]) && decide ((wd s 1)[0]? = some 45) && decide ((wd s 2)[0]? = some 43)
def hd2G (s : Bs) : HdN := if shp s = true then ⟨ptA (w1 s), ptB (w1 s), ptA (w2 s), ptB (w2 s)⟩ else ⟨0, 0, 0, 0⟩
def hd2E (s : Bs) : Int := if shp s = true then (if (ptO (w1 s) && ptO (w2 s)) = true then (if (ptFi (w1 s) && ptFi (w2 s)) = true then 0 else 2) else 1) else 1
def hd2A (ls : List Bs) (k : Nat) : Nat := if hd2E (lnAt ls k) = 0 then k + 1 else k
theorem hd2_n {s : Bs} (h : shp s = false) : hd2G s = ⟨0, 0, 0, 0⟩ ∧ hd2E s = 1 := by unfold hd2G hd2E; rw [h]; exact ⟨rfl, rfl⟩
theorem hd2_y {s : Bs} (h : shp s = true) : hd2G s = ⟨ptA (w1 s), ptB (w1 s), ptA (w2 s), ptB (w2 s)⟩ := by unfold hd2G; rw [if_pos h]
theorem hd2_1 {s : Bs} (h : shp s = true) (g : (ptO (w1 s) && ptO (w2 s)) = false) : hd2E s = 1 := by unfold hd2E; rw [if_pos h, if_neg (by rw [g]; decide)]
theorem hd2_2 {s : Bs} (h : shp s = true) (g : (ptO (w1 s) && ptO (w2 s)) = true) (g2 : (ptFi (w1 s) && ptFi (w2 s)) = false) : hd2E s = 2 := by unfold hd2E; rw [if_pos h, if_pos g, if_neg (by rw [g2]; decide)]
theorem hd2_0 {s : Bs} (h : shp s = true) (g : (ptO (w1 s) && ptO (w2 s)) = true) (g2 : (ptFi (w1 s) && ptFi (w2 s)) = true) : hd2E s = 0 := by unfold hd2E; rw [if_pos h, if_pos g, if_pos g2]
theorem hd2A_n {ls : List Bs} {k : Nat} (h : hd2E (lnAt ls k) ≠ 0) : hd2A ls k = k := if_neg h
theorem hd2A_y {ls : List Bs} {k : Nat} (h : hd2E (lnAt ls k) = 0) : hd2A ls k = k + 1 := if_pos h
end Go.Proofs.YtfbpbkcplpkndaaGreatDoor
end
section
namespace Go.Proofs.YtfbpbkcplpkndaaGreatDoor
set_option linter.unusedVariables false
set_option linter.unusedSimpArgs false
set_option maxRecDepth 100000
set_option maxHeartbeats 2000000
section
variable {X : CallF}
end
end Go.Proofs.YtfbpbkcplpkndaaGreatDoor
end
section
namespace Go.Proofs.YtfbpbkcplpkndaaGreatDoor
set_option linter.unusedVariables false
set_option linter.unusedSimpArgs false
theorem idx_occ : ∀ {s p : Bs}, 0 ≤ Lib.index s p → s = s.take (Lib.index s p).toNat ++ p ++ s.drop ((Lib.index s p).toNat + p.length)
 | [], p, h => by
  unfold Lib.index at h ⊢
  cases p with
  | nil => rfl
  | cons c p => simp at h
 | b :: l, p, h => by
  unfold Lib.index at h ⊢
  by_cases q : p.isPrefixOf (b :: l) = true
  ·rw [if_pos q]
   obtain ⟨t, ht⟩ := List.isPrefixOf_iff_prefix.1 q
   simp [← ht]
  ·rw [if_neg q] at h ⊢
   by_cases q2 : (Lib.index l p == -1) = true
   ·rw [if_pos q2] at h; exact absurd h (by decide)
   ·rw [if_neg q2] at h ⊢
    have hge := Lib.index_ge l p
    have hne : ¬ Lib.index l p = -1 := fun e => q2 (by rw [e]; rfl)
    have h0 : 0 ≤ Lib.index l p := by omega
    have ih := idx_occ h0
    have e : (Lib.index l p + 1).toNat = (Lib.index l p).toNat + 1 := by omega
    rw [e, show (Lib.index l p).toNat + 1 + p.length = ((Lib.index l p).toNat + p.length) + 1 by omega, List.take_succ_cons, List.drop_succ_cons, List.cons_append, List.cons_append, ← ih]
theorem cut_inv {s p : Bs} (h : (Lib.cut s p).2.2 = true) : s = (Lib.cut s p).1 ++ p ++ (Lib.cut s p).2.1 := by
 unfold Lib.cut at h ⊢
 split at h
 ·rename_i q
  rw [if_pos q]; exact idx_occ q
 ·cases h
theorem cut_inv_n {s p : Bs} (h : (Lib.cut s p).2.2 = false) : (Lib.cut s p).1 = s := by
 unfold Lib.cut at h ⊢
 split at h
 ·cases h
 ·rename_i q; rw [if_neg q]
theorem dgO_ch {s : Bs} (h : dgO s = true) : ∀ c ∈ s, dig c := by
 unfold dgO at h
 rw [Bool.and_eq_true, decide_eq_true_eq] at h
 obtain ⟨h1, h2⟩ := h
 have hd : decB s = true := by
  cases q : decB s with
  | true => rfl
  | false => rw [numE, if_neg (by rw [q]; decide)] at h1; exact absurd rfl h1
 unfold decB at hd
 rw [Bool.and_eq_true] at hd
 have hn : negB s = false := by
  cases q : negB s with
  | false => rfl
  | true =>
   unfold negB at q
   have q := of_decide_eq_true q
   rw [hp_one.2 q] at h2; cases h2
 have hb := (digsB_iff.1 hd.1).2.2
 unfold numBody at hb
 rw [hn] at hb
 exact hb
theorem prO_ch {s : Bs} (h : prO s = true) : ∀ c ∈ s, c ≠ 32 := by
 unfold prO at h
 rw [Bool.and_eq_true] at h
 have no : ∀ {l : Bs}, dgO l = true → ∀ c ∈ l, c ≠ 32 := fun hl c hc e => by
  have := (dig_iff.1 (dgO_ch hl c hc)).1
  rw [e] at this; exact absurd this (by decide)
 cases hc : (Lib.cut s [44]).2.2 with
 | false =>
  have := cut_inv_n hc
  rw [this] at h
  exact no h.1
 | true =>
  rw [hc] at h
  have e := cut_inv hc
  intro c hm
  rw [e] at hm
  rcases List.mem_append.1 hm with hm | hm
  ·rcases List.mem_append.1 hm with hm | hm
   ·exact no h.1 c hm
   ·rw [List.mem_singleton.1 hm]; decide
  ·exact no (by simpa using h.2) c hm
theorem flds_inv {c : UInt8} {s x : Bs} {l : List Bs} (h : flds c s = x :: l) : (∀ y ∈ x, y ≠ c) ∧ ((l = [] ∧ s = x) ∨ ∃ r, s = x ++ c :: r ∧ flds c r = l) := by
 by_cases hi : Lib.indexByte s c < 0
 ·have h1 := idx_no hi
  rw [flds_one c s h1] at h
  injection h with h2 h3
  subst h2
  exact ⟨h1, .inl ⟨h3.symm, rfl⟩⟩
 ·obtain ⟨y, r, h1, h2, -⟩ := idx_yes (Int.not_lt.1 hi)
  rw [h1, flds_cons c y r h2] at h
  injection h with h3 h4
  subst h3
  exact ⟨h2, .inr ⟨r, h1, h4⟩⟩
theorem flds_ne (c : UInt8) (s : Bs) : flds c s ≠ [] := fun h => by
 have := cnt_flds c s
 rw [h] at this; simp at this
theorem get4 {α : Type} {l : List α} (h : l.length = 4) : ∃ a b c d, l = [a, b, c, d] := by
 match l, h with
 | [a, b, c, d], _ => exact ⟨a, b, c, d, rfl⟩
def hdS (a b : Bs) : Bs := [64, 64, 32, 45] ++ a ++ [32, 43] ++ b ++ [32, 64, 64]
theorem shp_form {s : Bs} (h : shp s = true) : s = hdS (w1 s) (w2 s) ∧ (∀ c ∈ w1 s, c ≠ 32) ∧ (∀ c ∈ w2 s, c ≠ 32) := by
 unfold shp at h
 simp only [Bool.and_eq_true, decide_eq_true_eq] at h
 obtain ⟨⟨⟨⟨h1, h2⟩, h3⟩, h4⟩, h5⟩ := h
 obtain ⟨x0, x1, x2, x3, e⟩ := get4 h1
 have e0 : wd s 0 = x0 := by unfold wd; rw [e]; rfl
 have e1 : wd s 1 = x1 := by unfold wd; rw [e]; rfl
 have e2 : wd s 2 = x2 := by unfold wd; rw [e]; rfl
 have e3 : wd s 3 = x3 := by unfold wd; rw [e]; rfl
 have ew1 : w1 s = x1.drop 1 := by unfold w1; rw [e1, List.take_of_length_le (Nat.le_refl _)]
 have ew2 : w2 s = x2.drop 1 := by unfold w2; rw [e2, List.take_of_length_le (Nat.le_refl _)]
 rw [e0] at h2; rw [e1] at h4; rw [e2] at h5; rw [e3] at h3
 have f1 : x1 = 45 :: x1.drop 1 := by
  cases x1 with
  | nil => cases h4
  | cons c x => simp at h4; rw [h4]; rfl
 have f2 : x2 = 43 :: x2.drop 1 := by
  cases x2 with
  | nil => cases h5
  | cons c x => simp at h5; rw [h5]; rfl
 obtain ⟨-, g⟩ := flds_inv e
 rcases g with ⟨g, -⟩ | ⟨r1, g1, g1'⟩
 ·cases g
 obtain ⟨n1, g⟩ := flds_inv g1'
 rcases g with ⟨g, -⟩ | ⟨r2, g2, g2'⟩
 ·cases g
 obtain ⟨n2, g⟩ := flds_inv g2'
 rcases g with ⟨g, -⟩ | ⟨r3, g3, g3'⟩
 ·cases g
 obtain ⟨n3, g⟩ := flds_inv g3'
 rcases g with ⟨-, g4⟩ | ⟨r4, -, g4'⟩
 ·rw [ew1, ew2]
  refine ⟨?_, fun c hc => n1 c (List.mem_of_mem_drop hc), fun c hc => n2 c (List.mem_of_mem_drop hc)⟩
  rw [g1, g2, g3, g4, h2, h3]
  conv => lhs; rw [f1, f2]
  unfold hdS; simp
 ·exact absurd g4' (flds_ne _ _)
theorem form_shp {a b : Bs} (ha : ∀ c ∈ a, c ≠ 32) (hb : ∀ c ∈ b, c ≠ 32) : shp (hdS a b) = true ∧ w1 (hdS a b) = a ∧ w2 (hdS a b) = b := by
 have e : flds 32 (hdS a b) = [[64, 64], 45 :: a, 43 :: b, [64, 64]] := by
  have : hdS a b = [64, 64] ++ 32 :: ((45 :: a) ++ 32 :: ((43 :: b) ++ 32 :: [64, 64])) := by unfold hdS; simp
  rw [this, flds_cons, flds_cons, flds_cons, flds_one]
  ·decide
  ·intro x hx
   rcases List.mem_cons.1 hx with q | q
   ·rw [q]; decide
   ·exact hb x q
  ·intro x hx
   rcases List.mem_cons.1 hx with q | q
   ·rw [q]; decide
   ·exact ha x q
  ·decide
 have e0 : wd (hdS a b) 0 = [64, 64] := by unfold wd; rw [e]; rfl
 have e1 : wd (hdS a b) 1 = 45 :: a := by unfold wd; rw [e]; rfl
 have e2 : wd (hdS a b) 2 = 43 :: b := by unfold wd; rw [e]; rfl
 have e3 : wd (hdS a b) 3 = [64, 64] := by unfold wd; rw [e]; rfl
 refine ⟨?_, ?_, ?_⟩
 ·unfold shp; rw [e0, e1, e2, e3, e]; rfl
 ·unfold w1; rw [e1, List.take_of_length_le (Nat.le_refl _)]; rfl
 ·unfold w2; rw [e2, List.take_of_length_le (Nat.le_refl _)]; rfl
theorem hdO_form {s : Bs} (h : hdO s = true) : s = hdS (hdX s).1 (hdX s).2.1 ∧ prO (hdX s).1 = true ∧ prO (hdX s).2.1 = true := by
 unfold hdO at h
 simp only [Bool.and_eq_true] at h
 obtain ⟨⟨⟨⟨h1, h2⟩, h3⟩, h4⟩, h5⟩ := h
 refine ⟨?_, h4, h5⟩
 obtain ⟨t, ht⟩ := List.isPrefixOf_iff_prefix.1 h1
 have hd : s.drop 4 = t := by rw [← ht]; rfl
 obtain ⟨u, hu⟩ := List.isSuffixOf_iff_suffix.1 h2
 have hT : hdT s = u := by
  unfold hdT Lib.trimSuffix
  rw [if_pos h2, ← hu]
  simp
 have hc := cut_inv h3
 have e : Lib.cut (hdT s) [32, 43] = hdX s := rfl
 rw [e, hT] at hc
 have : s = [64, 64, 32, 45] ++ (u ++ [32, 64, 64]) := by rw [hu, hd]; exact ht.symm
 conv => lhs; rw [this, hc]
 unfold hdS; simp
theorem form_hdO {a b : Bs} (ha : ∀ c ∈ a, c ≠ 32) : hdX (hdS a b) = (a, b, true) ∧ (hdO (hdS a b) = (prO a && prO b)) := by
 have e0 : (hdS a b).drop 4 = a ++ ([32, 43] ++ b) ++ [32, 64, 64] := by simp [hdS]
 have hs : Lib.hasSuffix ((hdS a b).drop 4) [32, 64, 64] = true := by
  rw [e0]; unfold Lib.hasSuffix
  exact List.isSuffixOf_iff_suffix.2 ⟨_, rfl⟩
 have ht : hdT (hdS a b) = a ++ [32, 43] ++ b := by
  unfold hdT Lib.trimSuffix
  rw [if_pos hs, e0]
  have : ((a ++ ([32, 43] ++ b) ++ [32, 64, 64]).length - [(32 : UInt8), 64, 64].length) = (a ++ ([32, 43] ++ b)).length := by simp; omega
  rw [this, List.take_left']
  ·simp
  ·rfl
 have hx : hdX (hdS a b) = (a, b, true) := by
  unfold hdX; rw [ht]; exact cut_at ha
 have hp : Lib.hasPrefix (hdS a b) [64, 64, 32, 45] = true := by
  unfold Lib.hasPrefix hdS
  exact List.isPrefixOf_iff_prefix.2 ⟨_, by simp; rfl⟩
 refine ⟨hx, ?_⟩
 unfold hdO; rw [hp, hs, hx]; simp
theorem ptO_eq (s : Bs) : ptO s = prO s := rfl
theorem nt_fit {s : Bs} (h : dgO s = true) : (ntF s = true ↔ dgV s ≤ 2147483647) ∧ (ntF s = true → ntV s = dgV s) := by
 have h1 : numE s = 0 ∨ numE s = 9 := by
  unfold dgO at h
  rw [Bool.and_eq_true, decide_eq_true_eq] at h
  have := h.1
  unfold numE at this ⊢
  split
  ·split
   ·exact .inl rfl
   ·exact .inr rfl
  ·rename_i q; rw [if_neg q] at this; exact absurd rfl this
 unfold ntF ntV dgV
 rw [h]
 rcases h1 with q | q
 ·rw [q]; simp
 ·rw [q]; simp
theorem pt_fit {s : Bs} (h : prO s = true) : (ptFi s = true ↔ prA s ≤ 2147483647 ∧ prB s ≤ 2147483647) ∧ (ptFi s = true → ptA s = prA s ∧ ptB s = prB s) := by
 unfold prO at h
 rw [Bool.and_eq_true] at h
 obtain ⟨h1, h2⟩ := h
 have f1 := nt_fit h1
 unfold ptFi ptA ptB prA prB
 rw [Bool.and_eq_true, f1.1]
 cases hc : (Lib.cut s [44]).2.2 with
 | false =>
  simp
  intro q
  exact f1.2 (f1.1.2 q)
 | true =>
  rw [hc] at h2
  have f2 := nt_fit (by simpa using h2)
  simp
  rw [f2.1]
  refine ⟨fun _ => Iff.rfl, fun q1 q2 => ⟨f1.2 (f1.1.2 q1), f2.2 (f2.1.2 q2)⟩⟩
theorem hd2_eq (s : Bs) : hd2E s = hdE s ∧ (hdE s = 0 → hd2G s = hdV s) := by
 by_cases ho : hdO s = true
 ·obtain ⟨e, p1, p2⟩ := hdO_form ho
  generalize hx : hdX s = q at e p1 p2
  obtain ⟨a, b, u⟩ := q
  simp only at e p1 p2
  have n1 := prO_ch p1
  have n2 := prO_ch p2
  obtain ⟨g1, g2, g3⟩ := form_shp n1 n2
  rw [← e] at g1 g2 g3
  have hv : hdV s = ⟨prA a, prB a, prA b, prB b⟩ := by unfold hdV; rw [hx]
  have fa := pt_fit p1
  have fb := pt_fit p2
  have hE : hdE s = if (prA a ≤ 2147483647 ∧ prB a ≤ 2147483647 ∧ prA b ≤ 2147483647 ∧ prB b ≤ 2147483647) then 0 else 2 := by unfold hdE; rw [if_pos ho, hv]
  by_cases hf : (ptFi a && ptFi b) = true
  ·have hf' := hf
   rw [Bool.and_eq_true] at hf'
   have q1 := fa.1.1 hf'.1
   have q2 := fb.1.1 hf'.2
   refine ⟨?_, fun _ => ?_⟩
   ·rw [hE, if_pos ⟨q1.1, q1.2, q2.1, q2.2⟩]
    exact hd2_0 g1 (by rw [g2, g3, ptO_eq, ptO_eq, p1, p2]; rfl) (by rw [g2, g3]; exact hf)
   ·rw [hd2_y g1, g2, g3, hv, (fa.2 hf'.1).1, (fa.2 hf'.1).2, (fb.2 hf'.2).1, (fb.2 hf'.2).2]
  ·have hn : ¬ (prA a ≤ 2147483647 ∧ prB a ≤ 2147483647 ∧ prA b ≤ 2147483647 ∧ prB b ≤ 2147483647) := fun q => hf (by rw [Bool.and_eq_true]; exact ⟨fa.1.2 ⟨q.1, q.2.1⟩, fb.1.2 q.2.2⟩)
   refine ⟨?_, fun q => ?_⟩
   ·rw [hE, if_neg hn]
    exact hd2_2 g1 (by rw [g2, g3, ptO_eq, ptO_eq, p1, p2]; rfl) (by rw [g2, g3]; simpa using hf)
   ·rw [hE, if_neg hn] at q; cases q
 ·have hE := hdE_o (by simpa using ho : hdO s = false)
  refine ⟨?_, fun q => by rw [hE] at q; cases q⟩
  rw [hE]
  cases hs : shp s with
  | false => exact (hd2_n hs).2
  | true =>
   obtain ⟨e, n1, n2⟩ := shp_form hs
   refine hd2_1 hs ?_
   rw [ptO_eq, ptO_eq, ← (form_hdO (b := w2 s) n1).2, ← e]
   simpa using ho
end Go.Proofs.YtfbpbkcplpkndaaGreatDoor
end
