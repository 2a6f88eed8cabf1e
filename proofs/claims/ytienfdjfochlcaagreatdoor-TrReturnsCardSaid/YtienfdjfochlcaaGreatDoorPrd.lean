/- Own texts of this claim, merged: TrQ, Tr3, TrCz, TrA, TrS, TrB, Tr1, TrT, TrD, Tr4, Tr5, TrU, TrF, Tr2. -/
import Derived.Test.YtienfdjfochlcaaGreatDoorPrc
import Derived.Deep.DeepHandedRow
import Derived.Lay
import Derived.Deep.DeepWitnessRowRef
import Derived.Shelf.Vars
import Derived.Lib.IndexLaws
section
namespace Go.Proofs.YtienfdjfochlcaaGreatDoor
set_option linter.unusedVariables false
set_option linter.unusedSimpArgs false
def fdS (D Q : CS) (T : Bs) : Option UInt8 → Bs → Bs × Option UInt8
  | l, [] => ([], l)
  | l, c :: r => if D.getLsbD c.toNat then fdS D Q T l r else
      if l = some (T.getD c.toNat 0) ∧ Q.getLsbD (T.getD c.toNat 0).toNat = true then fdS D Q T l r else (T.getD c.toNat 0 :: (fdS D Q T (some (T.getD c.toNat 0)) r).1, (fdS D Q T (some (T.getD c.toNat 0)) r).2)
def fdO (D Q : CS) (T : Bs) (l : Option UInt8) (s : Bs) : Bs := (fdS D Q T l s).1
def fdL (D Q : CS) (T : Bs) (l : Option UInt8) (s : Bs) : Option UInt8 := (fdS D Q T l s).2
theorem fdS_app (D Q : CS) (T : Bs) : ∀ (l : Option UInt8) (a b : Bs), fdS D Q T l (a ++ b) = ((fdS D Q T l a).1 ++ (fdS D Q T (fdS D Q T l a).2 b).1, (fdS D Q T (fdS D Q T l a).2 b).2)
 | l, [], b => rfl
 | l, c :: r, b => by
  simp only [List.cons_append, fdS]
  split
  ·exact fdS_app D Q T l r b
  ·split
   ·exact fdS_app D Q T l r b
   ·simp only [fdS_app D Q T (some _) r b, List.cons_append]
theorem fdO_app (D Q : CS) (T : Bs) (l : Option UInt8) (a b : Bs) : fdO D Q T l (a ++ b) = fdO D Q T l a ++ fdO D Q T (fdL D Q T l a) b := by
 simp only [fdO, fdL, fdS_app]
theorem fdL_app (D Q : CS) (T : Bs) (l : Option UInt8) (a b : Bs) : fdL D Q T l (a ++ b) = fdL D Q T (fdL D Q T l a) b := by
 simp only [fdL, fdS_app]
theorem fdO_len (D Q : CS) (T : Bs) : ∀ (l : Option UInt8) (s : Bs), (fdO D Q T l s).length ≤ s.length
 | l, [] => Nat.le_refl _
 | l, c :: r => by
  have h1 := fdO_len D Q T l r
  have h2 := fdO_len D Q T (some (T.getD c.toNat 0)) r
  simp only [fdO] at h1 h2 ⊢
  simp only [fdS, List.length_cons]
  split
  ·omega
  ·split
   ·omega
   ·simp only [List.length_cons]; omega
section
variable {D Q : CS} {T : Bs} {l : Option UInt8} {s : Bs} {k : Nat} {c d : UInt8}
theorem fd_del (h : s[k]? = some c) (hd : D.getLsbD c.toNat = true) : fdO D Q T l (s.take (k + 1)) = fdO D Q T l (s.take k) ∧ fdL D Q T l (s.take (k + 1)) = fdL D Q T l (s.take k) := by
 rw [take_succ_get h, fdO_app, fdL_app]
 simp only [fdO, fdL, fdS, if_pos hd, List.append_nil, and_self]
theorem fd_sq (h : s[k]? = some c) (hd : D.getLsbD c.toNat = false) (ht : T[c.toNat]? = some d) (hl : fdL D Q T l (s.take k) = some d) (hq : Q.getLsbD d.toNat = true) : fdO D Q T l (s.take (k + 1)) = fdO D Q T l (s.take k) ∧ fdL D Q T l (s.take (k + 1)) = fdL D Q T l (s.take k) := by
 rw [take_succ_get h, fdO_app, fdL_app]
 generalize fdL D Q T l (s.take k) = m at hl ⊢
 subst hl
 have e : T.getD c.toNat 0 = d := getD_of ht
 simp only [fdO, fdL, fdS, e, hd, hq, Bool.false_eq_true, if_false, and_self, if_true, List.append_nil]
theorem fd_put (h : s[k]? = some c) (hd : D.getLsbD c.toNat = false) (ht : T[c.toNat]? = some d) (hl : ¬ (fdL D Q T l (s.take k) = some d ∧ Q.getLsbD d.toNat = true)) : fdO D Q T l (s.take (k + 1)) = fdO D Q T l (s.take k) ++ [d] ∧ fdL D Q T l (s.take (k + 1)) = some d := by
 rw [take_succ_get h, fdO_app, fdL_app]
 generalize fdL D Q T l (s.take k) = m at hl ⊢
 have e : T.getD c.toNat 0 = d := getD_of ht
 simp only [fdO, fdL, fdS, e, hd, hl, Bool.false_eq_true, if_false, and_self]
end
def lastA (l : Option UInt8) : Bool := l.isSome
def lastC (l : Option UInt8) : UInt8 := l.getD 0
theorem last_y {l : Option UInt8} {x : UInt8} (h1 : lastA l = true) (h2 : (x.toNat : Int) = ((lastC l).toNat : Int)) : l = some x := by
 cases l with
 | none => cases h1
 | some y => rw [UInt8.toNat_inj.1 (Int.ofNat.inj h2)]; rfl
section
variable {D Q : CS} {T : Bs} {l : Option UInt8} {s : Bs} {k : Nat} {c c' x : UInt8}
theorem m_at (h5 : s[k]? = some c) (h10 : s[k]? = some c') (h12 : T[c'.toNat * 1]? = some x) : T[c.toNat]? = some x := by
 rw [same_at h5 h10, Nat.mul_one] at h12; exact h12
theorem fdA_sq (h5 : s[k]? = some c) (h8 : D.getLsbD c.toNat = false) (h10 : s[k]? = some c') (h12 : T[c'.toNat * 1]? = some x) (h13 : lastA (fdL D Q T l (s.take k)) = true) (h14 : (x.toNat : Int) = ((lastC (fdL D Q T l (s.take k))).toNat : Int)) (h15 : Q.getLsbD x.toNat = true) :
    fdO D Q T l (s.take (k + 1)) = fdO D Q T l (s.take k) ∧ fdL D Q T l (s.take (k + 1)) = fdL D Q T l (s.take k) := fd_sq h5 h8 (m_at h5 h10 h12) (last_y h13 h14) h15
theorem fdA_p1 (h5 : s[k]? = some c) (h8 : D.getLsbD c.toNat = false) (h10 : s[k]? = some c') (h12 : T[c'.toNat * 1]? = some x) (h17 : Q.getLsbD x.toNat = false) :
    fdO D Q T l (s.take (k + 1)) = fdO D Q T l (s.take k) ++ [x] ∧ fdL D Q T l (s.take (k + 1)) = some x := fd_put h5 h8 (m_at h5 h10 h12) fun h => by rw [h17] at h; cases h.2
theorem fdA_p2 (h5 : s[k]? = some c) (h8 : D.getLsbD c.toNat = false) (h10 : s[k]? = some c') (h12 : T[c'.toNat * 1]? = some x) (h19 : ¬ (x.toNat : Int) = ((lastC (fdL D Q T l (s.take k))).toNat : Int)) :
    fdO D Q T l (s.take (k + 1)) = fdO D Q T l (s.take k) ++ [x] ∧ fdL D Q T l (s.take (k + 1)) = some x := fd_put h5 h8 (m_at h5 h10 h12) fun h => h19 (by rw [h.1]; rfl)
theorem fdA_p3 (h5 : s[k]? = some c) (h8 : D.getLsbD c.toNat = false) (h10 : s[k]? = some c') (h12 : T[c'.toNat * 1]? = some x) (h21 : lastA (fdL D Q T l (s.take k)) = false) :
    fdO D Q T l (s.take (k + 1)) = fdO D Q T l (s.take k) ++ [x] ∧ fdL D Q T l (s.take (k + 1)) = some x := fd_put h5 h8 (m_at h5 h10 h12) fun h => by rw [h.1] at h21; cases h21
end
end Go.Proofs.YtienfdjfochlcaaGreatDoor
end
section
namespace Go.Proofs.YtienfdjfochlcaaGreatDoor
set_option linter.unusedVariables false
set_option linter.unusedSimpArgs false
set_option maxRecDepth 100000
set_option maxHeartbeats 4000000
def encSp (D : CS) (M : Bs) (Q : CS) : AV := .agg [w64 (wd D 0), w64 (wd D 1), w64 (wd D 2), w64 (wd D 3), strL M, w64 (wd Q 0), w64 (wd Q 1), w64 (wd Q 2), w64 (wd Q 3)]
def boxSp (D : CS) (M : Bs) (Q : CS) : MObj := .box 54 [w64 (wd D 0), w64 (wd D 1), w64 (wd D 2), w64 (wd D 3), strL M, w64 (wd Q 0), w64 (wd Q 1), w64 (wd Q 2), w64 (wd Q 3)]
def boxT (D : CS) (M : Bs) (Q : CS) (a : Bool) (c : UInt8) : MObj := .box 155 (M.map u8A ++ [w64 (wd D 0), w64 (wd D 1), w64 (wd D 2), w64 (wd D 3), strL M, w64 (wd Q 0), w64 (wd Q 1), w64 (wd Q 2), w64 (wd Q 3), boolA true, boolA a, u8A c])
def chk (M : Bs) : Int := if M.length = 256 then 0 else 2
section
variable {X : CallF}
theorem has_run (s : CS) (c : UInt8) : (R FT X).f 91 [encCS s, u8A c] = some (boolA (s.getLsbD c.toNat)) := by
 refine R_wp (Tr.k 0 ((Tr.k 0 Tr.nil.w).br ((Tr.k 0 Tr.nil.w).br ((Tr.k 0 Tr.nil.w).br (Tr.b true (Tr.k 0 Tr.nil.w)))))) rfl ?_
 refine Eq.mpr (by kernel_rfl : _ = ((0 : Int) ≤ (↑c.toNat : Int) ∧ (0 : Int) < 64 ∧ (↑c.toNat : Int) ≤ 255 ∧ ((↑c.toNat : Int) / (64 : Int) = 0 → (0 : Int) ≤ (↑c.toNat : Int) ∧ (0 : Int) < 64 ∧ (0 : Int) ≤ (↑c.toNat : Int) % (64 : Int) ∧ decide (bitX BinOp.and IntKind.u64 (shrW IntKind.u64 (↑(wd s (0 : Nat)).toNat : Int) ((↑c.toNat : Int) % (64 : Int))) (1 : Int) = 1) = BitVec.getLsbD s c.toNat) ∧ ((↑c.toNat : Int) / (64 : Int) ≠ 0 → ((↑c.toNat : Int) / (64 : Int) = 1 → (0 : Int) ≤ (↑c.toNat : Int) ∧ (0 : Int) < 64 ∧ (0 : Int) ≤ (↑c.toNat : Int) % (64 : Int) ∧ decide (bitX BinOp.and IntKind.u64 (shrW IntKind.u64 (↑(wd s (1 : Nat)).toNat : Int) ((↑c.toNat : Int) % (64 : Int))) (1 : Int) = 1) = BitVec.getLsbD s c.toNat) ∧ ((↑c.toNat : Int) / (64 : Int) ≠ 1 → ((↑c.toNat : Int) / (64 : Int) = 2 → (0 : Int) ≤ (↑c.toNat : Int) ∧ (0 : Int) < 64 ∧ (0 : Int) ≤ (↑c.toNat : Int) % (64 : Int) ∧ decide (bitX BinOp.and IntKind.u64 (shrW IntKind.u64 (↑(wd s (2 : Nat)).toNat : Int) ((↑c.toNat : Int) % (64 : Int))) (1 : Int) = 1) = BitVec.getLsbD s c.toNat) ∧ ((↑c.toNat : Int) / (64 : Int) ≠ 2 → (↑c.toNat : Int) / (64 : Int)
 = (3 : Int) ∧ (0 : Int) ≤ (↑c.toNat : Int) ∧ (0 : Int) < 64 ∧ (0 : Int) ≤ (↑c.toNat : Int) % (64 : Int) ∧ decide (bitX BinOp.and IntKind.u64 (shrW IntKind.u64 (↑(wd s (3 : Nat)).toNat : Int) ((↑c.toNat : Int) % (64 : Int))) (1 : Int) = 1) = BitVec.getLsbD s c.toNat))))) ?_
 refine ⟨(by omega), (by omega), (by have := u8_lt c; omega), fun h1 => ⟨(by omega), (by omega), (by omega), ?_⟩, fun h2 => ⟨fun h3 => ⟨(by omega), (by omega), (by omega), ?_⟩, fun h4 => ⟨fun h5 => ⟨(by omega), (by omega), (by omega), ?_⟩, fun h6 => ⟨(by have := u8_lt c; omega), (by omega), (by omega), (by omega), ?_⟩⟩⟩⟩
 ·exact has_at h1
 ·exact has_at h3
 ·exact has_at h5
 ·have := u8_lt c
  exact has_at (i := 3) (by omega)
theorem check_run (D : CS) (M : Bs) (Q : CS) (hM : M.length ≤ maxLen) : (R FT X).f 111 [encSp D M Q] = some (intA (chk M)) := by
 have hm := maxLen_i64
 refine R_wp ((Tr.nil.br Tr.nil).w.w) rfl ?_
 refine Eq.mpr (by kernel_rfl : _ = (((!decide ((↑(List.length M) : Int) = 256)) = true → (2 : Int) = chk M) ∧ ((!decide ((↑(List.length M) : Int) = 256)) = false → (0 : Int) = chk M))) ?_
 refine ⟨fun h1_ => have h1 := dnT h1_; ?_, fun h2_ => have h2 := dnF h2_; ?_⟩
 all_goals unfold chk
 all_goals first | (rw [if_pos (by omega)]; done) | (rw [if_neg (by omega)]; done)
theorem new_run (D : CS) (M : Bs) (Q : CS) (hM : M.length ≤ maxLen) (h : M.length = 256) : (R FT X).m 72 [encSp D M Q] [boxSp D M Q] = some (.ptr 2 0, [boxSp D M Q, boxSp D M Q, boxT D M Q false 0]) := by
 have hc := check_run (X := X) D M Q hM
 have hc0 : chk M = 0 := if_pos h
 rw [hc0] at hc
 refine RM_wp ((Tr.c (intA 0) (Tr.b false (Tr.g (List.replicate (256 : Nat) (u8A (0 : UInt8)) ++ [AV.val (Value.int IntKind.u64 (↑(wd D (0 : Nat)).toNat : Int)), AV.val (Value.int IntKind.u64 (↑(wd D (1 : Nat)).toNat : Int)), AV.val (Value.int IntKind.u64 (↑(wd D (2 : Nat)).toNat : Int)), AV.val (Value.int IntKind.u64 (↑(wd D (3 : Nat)).toNat : Int)), strL M, AV.val (Value.int IntKind.u64 (↑(wd Q (0 : Nat)).toNat : Int)), AV.val (Value.int IntKind.u64 (↑(wd Q (1 : Nat)).toNat : Int)), AV.val (Value.int IntKind.u64 (↑(wd Q (2 : Nat)).toNat : Int)), AV.val (Value.int IntKind.u64 (↑(wd Q (3 : Nat)).toNat : Int)), boolA true, boolA false, AV.val (Value.int IntKind.u8 (0 : Int))]) (Tr.g (List.map u8A M ++ [AV.val (Value.int IntKind.u64 (↑(wd D (0 : Nat)).toNat : Int)), AV.val (Value.int IntKind.u64 (↑(wd D (1 : Nat)).toNat : Int)), AV.val (Value.int IntKind.u64 (↑(wd D (2 : Nat)).toNat : Int)), AV.val (Value.int IntKind.u64 (↑(wd D (3 : Nat)).toNat : Int)), strL M, AV.val (Value.int IntKind.u64 (↑(wd Q (0 : Nat)).toNat : Int)), AV.val (Value.int IntKind.u64 (↑(wd Q (1 : Nat)).toNat : Int)), AV.val (Value.int IntKind.u64 (↑(wd Q (2 : Nat)).toNat : Int)), AV.val (Value.int IntKind.u64 (↑(wd Q (3
 : Nat)).toNat : Int)), boolA true, boolA false, AV.val (Value.int IntKind.u8 (0 : Int))]) Tr.nil).w)).w).w) rfl ?_
 refine Eq.mpr (by kernel_rfl : _ = ((R FT X).f 111 [encSp D M Q] = some (intA 0) ∧ false = false ∧ FillEq [(1, AV.ptr 1 0), (7, AV.agg (List.take (9 : Nat) (List.drop (0 : Nat) (AV.agg [AV.val (Value.int IntKind.u64 (↑(wd D (0 : Nat)).toNat : Int)), AV.val (Value.int IntKind.u64 (↑(wd D (1 : Nat)).toNat : Int)), AV.val (Value.int IntKind.u64 (↑(wd D (2 : Nat)).toNat : Int)), AV.val (Value.int IntKind.u64 (↑(wd D (3 : Nat)).toNat : Int)), strL M, AV.val (Value.int IntKind.u64 (↑(wd Q (0 : Nat)).toNat : Int)), AV.val (Value.int IntKind.u64 (↑(wd Q (1 : Nat)).toNat : Int)), AV.val (Value.int IntKind.u64 (↑(wd Q (2 : Nat)).toNat : Int)), AV.val (Value.int IntKind.u64 (↑(wd Q (3 : Nat)).toNat : Int))]).cells)))] (List.replicate (256 : Nat) (AV.val (Value.int IntKind.u8 (0 : Int))) ++ [AV.val (Value.int IntKind.u64 (0 : Int)), AV.val (Value.int IntKind.u64 (0 : Int)), AV.val (Value.int IntKind.u64 (0 : Int)), AV.val (Value.int IntKind.u64 (0 : Int)), AV.val (Value.string (ByteArray.mk #[])), AV.val (Value.int IntKind.u64 (0 : Int)), AV.val (Value.int IntKind.u64 (0 : Int)), AV.val (Value.int IntKind.u64 (0 : Int)), AV.val (Value.int IntKind.u64 (0 : Int)), boolA false, boolA
 false, AV.val (Value.int IntKind.u8 (0 : Int))]) [((256 : Nat), (9 : Nat), Operand.tmp (7 : Nat)), ((265 : Nat), (1 : Nat), Operand.const (Value.bool true))] (List.replicate (256 : Nat) (u8A (0 : UInt8)) ++ [AV.val (Value.int IntKind.u64 (↑(wd D (0 : Nat)).toNat : Int)), AV.val (Value.int IntKind.u64 (↑(wd D (1 : Nat)).toNat : Int)), AV.val (Value.int IntKind.u64 (↑(wd D (2 : Nat)).toNat : Int)), AV.val (Value.int IntKind.u64 (↑(wd D (3 : Nat)).toNat : Int)), strL M, AV.val (Value.int IntKind.u64 (↑(wd Q (0 : Nat)).toNat : Int)), AV.val (Value.int IntKind.u64 (↑(wd Q (1 : Nat)).toNat : Int)), AV.val (Value.int IntKind.u64 (↑(wd Q (2 : Nat)).toNat : Int)), AV.val (Value.int IntKind.u64 (↑(wd Q (3 : Nat)).toNat : Int)), boolA true, boolA false, AV.val (Value.int IntKind.u8 (0 : Int))]) ∧ ((268 : Nat) = 268 ∧ true = true) ∧ (256 : Nat) ≤ 268 ∧ List.length M = 256 ∧ setAt (AV.agg (List.replicate (256 : Nat) (u8A (0 : UInt8)) ++ [AV.val (Value.int IntKind.u64 (↑(wd D (0 : Nat)).toNat : Int)), AV.val (Value.int IntKind.u64 (↑(wd D (1 : Nat)).toNat : Int)), AV.val (Value.int IntKind.u64 (↑(wd D (2 : Nat)).toNat : Int)), AV.val (Value.int IntKind.u64 (↑(wd D (3 : Nat)).toNat
 : Int)), strL M, AV.val (Value.int IntKind.u64 (↑(wd Q (0 : Nat)).toNat : Int)), AV.val (Value.int IntKind.u64 (↑(wd Q (1 : Nat)).toNat : Int)), AV.val (Value.int IntKind.u64 (↑(wd Q (2 : Nat)).toNat : Int)), AV.val (Value.int IntKind.u64 (↑(wd Q (3 : Nat)).toNat : Int)), boolA true, boolA false, AV.val (Value.int IntKind.u8 (0 : Int))])).cells ((0 : Nat) + 0) (List.map u8A M) = List.map u8A M ++ [AV.val (Value.int IntKind.u64 (↑(wd D (0 : Nat)).toNat : Int)), AV.val (Value.int IntKind.u64 (↑(wd D (1 : Nat)).toNat : Int)), AV.val (Value.int IntKind.u64 (↑(wd D (2 : Nat)).toNat : Int)), AV.val (Value.int IntKind.u64 (↑(wd D (3 : Nat)).toNat : Int)), strL M, AV.val (Value.int IntKind.u64 (↑(wd Q (0 : Nat)).toNat : Int)), AV.val (Value.int IntKind.u64 (↑(wd Q (1 : Nat)).toNat : Int)), AV.val (Value.int IntKind.u64 (↑(wd Q (2 : Nat)).toNat : Int)), AV.val (Value.int IntKind.u64 (↑(wd Q (3 : Nat)).toNat : Int)), boolA true, boolA false, AV.val (Value.int IntKind.u8 (0 : Int))] ∧ True ∧ ((↑(wd D (0 : Nat)).toNat : Int) = (↑(wd D (0 : Nat)).toNat : Int) ∧ (↑(wd D (1 : Nat)).toNat : Int) = (↑(wd D (1 : Nat)).toNat : Int) ∧ (↑(wd D (2 : Nat)).toNat : Int) = (↑(wd D (2 : Nat)).toNat :
 Int) ∧ (↑(wd D (3 : Nat)).toNat : Int) = (↑(wd D (3 : Nat)).toNat : Int) ∧ M = M ∧ (↑(wd Q (0 : Nat)).toNat : Int) = (↑(wd Q (0 : Nat)).toNat : Int) ∧ (↑(wd Q (1 : Nat)).toNat : Int) = (↑(wd Q (1 : Nat)).toNat : Int) ∧ (↑(wd Q (2 : Nat)).toNat : Int) = (↑(wd Q (2 : Nat)).toNat : Int) ∧ (↑(wd Q (3 : Nat)).toNat : Int) = (↑(wd Q (3 : Nat)).toNat : Int)) ∧ ((↑(wd D (0 : Nat)).toNat : Int) = (↑(wd D (0 : Nat)).toNat : Int) ∧ (↑(wd D (1 : Nat)).toNat : Int) = (↑(wd D (1 : Nat)).toNat : Int) ∧ (↑(wd D (2 : Nat)).toNat : Int) = (↑(wd D (2 : Nat)).toNat : Int) ∧ (↑(wd D (3 : Nat)).toNat : Int) = (↑(wd D (3 : Nat)).toNat : Int) ∧ M = M ∧ (↑(wd Q (0 : Nat)).toNat : Int) = (↑(wd Q (0 : Nat)).toNat : Int) ∧ (↑(wd Q (1 : Nat)).toNat : Int) = (↑(wd Q (1 : Nat)).toNat : Int) ∧ (↑(wd Q (2 : Nat)).toNat : Int) = (↑(wd Q (2 : Nat)).toNat : Int) ∧ (↑(wd Q (3 : Nat)).toNat : Int) = (↑(wd Q (3 : Nat)).toNat : Int)) ∧ List.map u8A M ++ [AV.val (Value.int IntKind.u64 (↑(wd D (0 : Nat)).toNat : Int)), AV.val (Value.int IntKind.u64 (↑(wd D (1 : Nat)).toNat : Int)), AV.val (Value.int IntKind.u64 (↑(wd D (2 : Nat)).toNat : Int)), AV.val (Value.int IntKind.u64 (↑(wd D (3 : Nat)).toNat : Int)), strL M, AV.val (Value.int
 IntKind.u64 (↑(wd Q (0 : Nat)).toNat : Int)), AV.val (Value.int IntKind.u64 (↑(wd Q (1 : Nat)).toNat : Int)), AV.val (Value.int IntKind.u64 (↑(wd Q (2 : Nat)).toNat : Int)), AV.val (Value.int IntKind.u64 (↑(wd Q (3 : Nat)).toNat : Int)), boolA true, boolA false, AV.val (Value.int IntKind.u8 (0 : Int))] = List.map u8A M ++ [w64 (wd D (0 : Nat)), w64 (wd D (1 : Nat)), w64 (wd D (2 : Nat)), w64 (wd D (3 : Nat)), strL M, w64 (wd Q (0 : Nat)), w64 (wd Q (1 : Nat)), w64 (wd Q (2 : Nat)), w64 (wd Q (3 : Nat)), boolA true, boolA false, u8A (0 : UInt8)])) ?_
 refine ⟨hc, rfl, ⟨by kernel_rfl⟩, ⟨rfl, rfl⟩, (by omega), h, ?_, trivial, ⟨rfl, rfl, rfl, rfl, rfl, rfl, rfl, rfl, rfl⟩, ⟨rfl, rfl, rfl, rfl, rfl, rfl, rfl, rfl, rfl⟩, rfl⟩
 exact setAt_head _ _ _ _ rfl (by rw [List.length_replicate, List.length_map, h])
end
end Go.Proofs.YtienfdjfochlcaaGreatDoor
end
section
namespace Go.Proofs.YtienfdjfochlcaaGreatDoor
set_option linter.unusedVariables false
set_option linter.unusedSimpArgs false
open Go.RowKit Go.ChangeShapes Go.WideShapes Go.ChangeAt Go.Deep
set_option maxRecDepth 100000
section
variable {H : Type}
def dStr : DataW H → Bs
 | .lit (.string l) => l
 | _ => []
def dInt : DataW H → Int
 | .lit (.int _ n) => n
 | _ => 0
def dEls : DataW H → List (DataW H)
 | .slice l _ => l
 | _ => []
def dPart (d : DataW H) (i : Nat) : DataW H := match d with
 | .agg l => l.getD i .nil
 | _ => .nil
variable {enc : TypeId × Value → H} {w : World}
theorem rep_str {v : Value} {d : DataW H} {p : List MemPlace} {b0 : Nat} (hv : Value.okWide Tryz.prog w .any b0 9 v)
    (h : DataW.Trod enc Tryz.prog w 0 (fun _ => true) true 9 v d p) : (dStr d).length ≤ maxLen ∧ Rep (S0 w) w [] v (strL (dStr d)) ∧ d = .lit (.string (dStr d)) := by
  obtain ⟨h1, h2⟩ := rep_arg (s := .str) (by kernel_rfl) hv h
  obtain ⟨l, rfl, hl⟩ := Ty_str h1
  exact ⟨hl, h2, rfl⟩
end
theorem gr_tr {W : World} (h : laidMetH Tryz.prog Rows.trReturnsRow.laid W) (hs : W.ShapedOpen Tryz.prog) : GR (S0 W) W [] := by
 rw [MakeChecks.laidMetH_plain _ _ _ (by kernel_rfl)] at h
 refine ⟨fun g l hg => ?_, fun g hg => ?_⟩
 ·unfold GT at hg
  split at hg
  ·rename_i e
   cases hg
   subst e
   have := gr_ints (n := "internal/strconv.uint64pow10") (g := 2) (t := 215) (e := 49) (k := .u64) (zs := pow10L.map fun (n : Nat) => (n : Int)) h (List.mem_of_getElem? (i := 2) rfl) (by kernel_rfl) (by kernel_rfl) (c := 20) (by kernel_rfl) (by kernel_rfl) (by kernel_rfl) (by kernel_rfl)
   exact this
  ·split at hg
   ·rename_i e
    cases hg
    subst e
    exact gr_err (t := 134) (n := "strconv.ErrRange") h (List.mem_of_getElem? (i := 3) rfl) (by kernel_rfl) (by kernel_rfl) Tryz.underlying134
   ·split at hg
    ·rename_i e
     cases hg
     subst e
     exact gr_err (t := 134) (n := "strconv.ErrSyntax") h (List.mem_of_getElem? (i := 4) rfl) (by kernel_rfl) (by kernel_rfl) Tryz.underlying134
    ·split at hg
     ·rename_i e
      cases hg
      subst e
      have := gr_ints (n := "math/bits.deBruijn64tab") (g := 0) (t := 178) (e := 5) (k := .u8) (zs := deB64.map fun (n : Nat) => (n : Int)) h (List.mem_of_getElem? (i := 1) rfl) (by kernel_rfl) (by kernel_rfl) (c := 64) (by kernel_rfl) (by kernel_rfl) (by kernel_rfl) (by kernel_rfl)
      exact this
     ·cases hg
 ·have e : g = 1 := by
   unfold GI at hg
   split at hg
   ·assumption
   ·cases hg
  subst e
  obtain ⟨m, hm⟩ := Go.Proofs.cell_of_shapedOpen_int (g := 1) (t := 3) (k := .i64) (zero := #[.int .i64 0]) hs (by decide +kernel) (by kernel_rfl) rfl (by kernel_rfl) (by kernel_rfl) Tryz.underlying3
  refine ⟨m, hm, s0_of ?_ _⟩
  unfold World.cell? at hm
  split at hm
  ·rename_i hh
   exact (Array.getElem?_eq_some_iff.1 hh).1
  ·cases hm
section
variable {H : Type} {enc : TypeId × Value → H} {w : World}
def sCS : Sh := .st [.st [.int .u64, .int .u64, .int .u64, .int .u64]]
def sSp : Sh := .st [sCS, .str, sCS]
end
theorem door_met (os : Os) (args : Array Value) : laidMetH Tryz.prog Rows.trReturnsRow.laid ((World.laidAll Tryz.prog os Rows.trReturnsRow.laid).forCall (fun _ _ => 0) ⟨#[], args, []⟩).memory := by
 rw [MakeChecks.laidMetH_plain _ _ _ (by kernel_rfl)]; exact laidMet_laidAll _ (by kernel_rfl) (by kernel_rfl)
section
variable {H : Type} {enc : TypeId × Value → H}
theorem law_liftedO {F : FuncId} {fn : Func} {s : ChangeSpec} {conds : List PathCond} {laid : List (String × DataW Unit)} {os : Os} (started : os.Started) (noInit : Tryz.prog.inits.idxOf? F = none) (hfn : Tryz.prog.funcs[F]? = some fn)
    (hv : s.vars = []) (hs : ∀ ds : List (DataW H), ds.length = fn.params.size → s.fn H ds = { results := [.lit (.bool true)], args := ds }) (hres : fn.resultTypes = #[4])
    (hpar : ∀ t ∈ fn.params.toList, Tryz.prog.readableRec t = true ∧ t < Tryz.prog.types.size)
    (witness : ∃ (w : World) (tape : Tape) (i : Input), w.os = os ∧ (w.forCall tape i).Shaped Tryz.checked.prog ∧ i.vars = [] ∧ Input.okWide Tryz.checked.prog (w.forCall tape i) .any w.heap.size F i ∧
      ((s.pre enc Tryz.checked.prog fn conds false (w.forCall tape i).memory i.args ∧ laidMetH Tryz.checked.prog laid (w.forCall tape i).memory) ∧ sizedMet enc Tryz.checked.prog fn (OpenSpec.ofChange s) false (w.forCall tape i).memory i.args) ∧ Assume.holds {} Tryz.checked.prog (lone (Frame.enter Tryz.checked.prog F i.args .normal) [] (w.forCall tape i)))
    (walk : ∀ (W : World) (base : Nat) (args : Array Value) (ds : List (DataW H)) (p : List MemPlace),
      (∀ (j : Nat) t v, fn.params[j]? = some t → args[j]? = some v → Value.okWide Tryz.prog W .any base t v) →
      DataW.TrodAll enc Tryz.prog W 0 (fun _ => true) true fn.params.toList args.toList ds p →
      laidMetH Tryz.prog laid W → W.ShapedOpen Tryz.prog →
      Calls Tryz.prog F args W fun e w' => e = .returned (.bool true) ∧ Below W.heap.size W w') :
    ReturnsInHanded {} Tryz.checked os F .any (fun w args => (s.pre enc Tryz.prog fn conds false w args ∧ laidMetH Tryz.prog laid w) ∧ sizedMet enc Tryz.prog fn (OpenSpec.ofChange s) false w args) (s.post enc Tryz.prog fn false true false false) := by
  refine returnsInHanded_of_calls (C := Tryz.checked) own started noInit witness ?_
  intro w tape i _ hSh _ hok hpre hholds
  obtain ⟨_, _, _, fn', hfn', _, _, _, _, hval⟩ := hok
  have e0 : fn' = fn := Option.some.inj (hfn'.symm.trans hfn)
  subst e0
  obtain ⟨⟨⟨ds, gs, before, hw, hc⟩, hx⟩, hz⟩ := hpre
  have hW := DataW.Whole.of_heap (w' := w.forCall tape i) (by rfl) hw
  have hL : laidMetH Tryz.prog laid (w.forCall tape i) := hx.of_heap (by rfl)
  have hW' := hW
  obtain ⟨p, q, hA, hV, rfl, hfz, hnd⟩ := hW
  rw [hv] at hV
  obtain ⟨rfl, rfl⟩ := trodVars_none hV
  have hlen : ds.length = fn'.params.size := by
    have : ∀ {ts : List TypeId} {vs : List Value} {ds : List (DataW H)} {ps : List MemPlace}, DataW.TrodAll enc Tryz.checked.prog (w.forCall tape i) 0 (fun _ => true) true ts vs ds ps → ds.length = ts.length := by
      intro ts
      induction ts with
      | nil => intro vs ds ps h; cases vs <;> cases ds <;> first | rfl | exact h.elim
      | cons t ts ih => intro vs ds ps h; cases vs <;> cases ds <;> first | exact h.elim | (obtain ⟨_, _, _, h2, _⟩ := h; simp [ih h2])
    rw [this hA]; simp
  refine (walk (w.forCall tape i) w.heap.size i.args ds p hval hA hL hSh).mono fun e W' ⟨he, bel⟩ => ?_
  subst he
  have h1 := hs (ds ++ []) (by simpa using hlen)
  refine ChangeSpec.post_blind (s := s) ⟨ds, [], p ++ [], [], p, [], hW', ?_, ?_, ?_, bel.frame _, fun h => by cases h⟩
  · rw [h1, hres]; exact trodAll_mk1 (shut_bool Tryz.underlying4 _)
  · rw [h1]; simp only [List.append_nil]; exact trodAll_below bel hpar hA
  · rw [h1, hv]; exact rfl
end
end Go.Proofs.YtienfdjfochlcaaGreatDoor
end
section
namespace Go.Proofs.YtienfdjfochlcaaGreatDoor
set_option linter.unusedVariables false
set_option linter.unusedSimpArgs false
set_option maxRecDepth 100000
set_option maxHeartbeats 4000000
def ocD (s : Bs) (v n : Nat) : Option Nat := match s[n]? with
 | some c => if 48 ≤ c.toNat ∧ c.toNat ≤ 55 ∧ 8 * v + (c.toNat - 48) < 256 then some (8 * v + (c.toNat - 48)) else none
 | none => none
def ocG (s : Bs) : Nat → Nat → Nat → Nat × Nat
 | 0, v, n => (v, n)
 | f + 1, v, n => match ocD s v n with
  | none => (v, n)
  | some w => ocG s f w (n + 1)
structure OcI (s : Bs) (j : Nat × Nat) : Prop where
 lo : 1 ≤ j.2
 hi : j.2 ≤ 4
 v : j.1 < 256
 len : j.2 ≤ s.length
 e : ocG s (4 - j.2) j.1 j.2 = ocG s 3 0 1
def oM (j : Nat × Nat) : Nat := 4 - j.2
def escN : Bs := [97, 98, 102, 110, 114, 116, 118]
def escW : Bs := [7, 8, 12, 10, 13, 9, 11]
def escV (c : UInt8) : UInt8 := if 0 ≤ Lib.indexByte escN c then escW.getD (Lib.indexByte escN c).toNat 0 else c
theorem ix_lt (l : Bs) (c : UInt8) : -1 ≤ Lib.indexByte l c ∧ Lib.indexByte l c < (l.length : Int) := by
 refine ⟨Lib.indexByte_ge l c, ?_⟩
 by_cases h : 0 ≤ Lib.indexByte l c
 ·obtain ⟨o, ho⟩ : ∃ o : Nat, Lib.indexByte l c = o := ⟨(Lib.indexByte l c).toNat, by omega⟩
  have := (List.getElem?_eq_some_iff.1 (Lib.indexByte_some ho).1).1
  omega
 ·have : (0 : Int) ≤ (l.length : Int) := Int.natCast_nonneg _
  omega
def chS (s : Bs) : UInt8 × Nat := if s = [] ∨ s = [92] then (0, 0) else if s.getD 0 0 ≠ 92 then (s.getD 0 0, 1) else
 if 1 < (ocG s 3 0 1).2 then (UInt8.ofNat (ocG s 3 0 1).1, (ocG s 3 0 1).2) else (escV (s.getD 1 0), 2)
theorem u8sub {c : UInt8} (h1 : 48 ≤ (c.toNat : Int)) (h2 : (c.toNat : Int) ≤ 55) : (toU8 ((c.toNat : Int) - 48)).toNat = c.toNat - 48 := by
 unfold toU8
 rw [UInt8.toNat_ofNat']
 omega
section
variable {s : Bs} {v n : Nat} {j : Nat × Nat} {c d e : UInt8}
theorem ocA (h16 : s[n]? = some c) (h17 : 48 ≤ (c.toNat : Int)) (h19 : s[n]? = some d) (h20 : (d.toNat : Int) ≤ 55) (h22 : s[n]? = some e) (h27 : ¬ 8 * (v : Int) + ((toU8 ((e.toNat : Int) - 48)).toNat : Int) < 256) : ocD s v n = none := by
 rw [same_at h16 h19] at *
 rw [same_at h16 h22, u8sub h17 h20] at h27
 simp only [ocD, h16]
 rw [if_neg (by omega)]
theorem ocY (h16 : s[n]? = some c) (h17 : 48 ≤ (c.toNat : Int)) (h19 : s[n]? = some d) (h20 : (d.toNat : Int) ≤ 55) (h22 : s[n]? = some e) (h23 : 8 * (v : Int) + ((toU8 ((e.toNat : Int) - 48)).toNat : Int) < 256) {f : UInt8} (h25 : s[n]? = some f) : ocD s v n = some (8 * v + (toU8 ((f.toNat : Int) - 48)).toNat) := by
 rw [same_at h16 h19] at *
 rw [same_at h16 h22, u8sub h17 h20] at h23
 rw [same_at h16 h25, u8sub h17 h20]
 simp only [ocD, h16]
 rw [if_pos (by omega)]
theorem ocB (h16 : s[n]? = some c) (h19 : s[n]? = some d) (h38 : ¬ (d.toNat : Int) ≤ 55) : ocD s v n = none := by
 rw [same_at h16 h19] at *
 simp only [ocD, h16]
 rw [if_neg (by omega)]
theorem ocC (h16 : s[n]? = some c) (h49 : ¬ 48 ≤ (c.toNat : Int)) : ocD s v n = none := by
 simp only [ocD, h16]
 rw [if_neg (by omega)]
theorem ocE (h61 : ¬ (n : Int) < s.length) : ocD s v n = none := by
 simp only [ocD, List.getElem?_eq_none (show s.length ≤ n by omega)]
theorem ch_end (hI : OcI s j) (h : ocD s j.1 j.2 = none ∨ ¬ (j.2 : Int) < 4) : ocG s 3 0 1 = j := by
 rw [← hI.e]
 have := hI.hi
 by_cases h4 : j.2 < 4
 ·have hn : ocD s j.1 j.2 = none := by
   rcases h with h | h
   ·exact h
   ·omega
  obtain ⟨f, hf⟩ : ∃ f, 4 - j.2 = f + 1 := ⟨3 - j.2, by omega⟩
  rw [hf, ocG, hn]
 ·rw [show 4 - j.2 = 0 by omega, ocG]
theorem OcI.start (h2 : ¬ s = []) : OcI s (0, 1) := ⟨Nat.le_refl _, by decide, by decide, by
 have : s.length ≠ 0 := fun h => h2 (List.length_eq_zero_iff.1 h)
 show 1 ≤ s.length; omega, rfl⟩
theorem OcI.step (hI : OcI s j) (h14 : (j.2 : Int) < 4) {w : Nat} (h : ocD s j.1 j.2 = some w) : OcI s (w, j.2 + 1) := by
 have h1 := hI.lo
 have h3 := hI.e
 have hl : j.2 < s.length ∧ w < 256 := by
  unfold ocD at h
  split at h
  ·rename_i c hc
   split at h
   ·rename_i hq
    injection h with h
    exact ⟨(List.getElem?_eq_some_iff.1 hc).1, by omega⟩
   ·cases h
  ·cases h
 refine ⟨by show 1 ≤ j.2 + 1; omega, by show j.2 + 1 ≤ 4; omega, hl.2, by show j.2 + 1 ≤ s.length; omega, ?_⟩
 rw [← h3]
 obtain ⟨f, hf⟩ : ∃ f, 4 - j.2 = f + 1 := ⟨3 - j.2, by omega⟩
 show ocG s (4 - (j.2 + 1)) w (j.2 + 1) = _
 rw [hf, ocG, h]
 show _ = ocG s f w (j.2 + 1)
 rw [show 4 - (j.2 + 1) = f by omega]
theorem oM_lt {w : Nat} (h14 : (j.2 : Int) < 4) : oM (w, j.2 + 1) < oM j := by
 show 4 - (j.2 + 1) < 4 - j.2
 omega
variable (h2 : ¬ s = []) (h4 : ¬ s = [92]) (h6 : s[0]? = some c) (h10 : (c.toNat : Int) = 92)
include h6 in
theorem getD0 : s.getD 0 0 = c := getD_of h6
include h2 h4 h6 h10 in
theorem chS_oct (he : ocG s 3 0 1 = j) (h : 1 < (j.2 : Int)) : chS s = (UInt8.ofNat j.1, j.2) := by
 have h0 : c = 92 := u8_of (n := 92) h10 (by decide)
 rw [chS, if_neg (by simp [h2, h4]), if_neg (by rw [getD0 h6, h0]; simp), he, if_pos (by omega)]
include h2 h4 h6 h10 in
theorem chS_esc (he : ocG s 3 0 1 = j) (h : ¬ 1 < (j.2 : Int)) (hd : s[1]? = some d) : chS s = (escV d, 2) := by
 have h0 : c = 92 := u8_of (n := 92) h10 (by decide)
 rw [chS, if_neg (by simp [h2, h4]), if_neg (by rw [getD0 h6, h0]; simp), he, if_neg (by omega), getD_of hd]
include h2 h4 h6 in
theorem chS_one (h7 : ¬ (c.toNat : Int) = 92) : chS s = (c, 1) := by
 rw [chS, if_neg (by simp [h2, h4]), if_pos (by rw [getD0 h6]; intro e; subst e; exact h7 rfl), getD0 h6]
include h2 h4 h6 h10 in
theorem len2 : 1 < s.length := by
 have h0 : c = 92 := u8_of (n := 92) h10 (by decide)
 match s, h2, h4, h6 with
 | [x], _, h4, h6 => simp at h6; subst h6 h0; exact absurd rfl h4
 | x :: y :: r, _, _, _ => simp
theorem esc_y {k : UInt8} (h32 : 0 ≤ Lib.indexByte [97, 98, 102, 110, 114, 116, 118] d) (h34 : [7, 8, 12, 10, 13, 9, 11][(Lib.indexByte [97, 98, 102, 110, 114, 116, 118] d).toNat]? = some k) : escV d = k := by
 unfold escV
 rw [if_pos (by exact h32)]
 exact getD_of (l := escW) h34
theorem esc_n {d' : UInt8} (h35 : ¬ 0 ≤ Lib.indexByte [97, 98, 102, 110, 114, 116, 118] d) (h31 : s[1]? = some d) (h37 : s[1]? = some d') : escV d = d' := by
 unfold escV
 rw [if_neg (by exact h35)]
 exact (same_at h31 h37).symm
theorem ix7 {d : UInt8} (h32 : 0 ≤ Lib.indexByte [97, 98, 102, 110, 114, 116, 118] d) : (Lib.indexByte [97, 98, 102, 110, 114, 116, 118] d).toNat < 7 := by
 have := (ix_lt [97, 98, 102, 110, 114, 116, 118] d).2
 have e : (([97, 98, 102, 110, 114, 116, 118] : Bs).length : Int) = 7 := rfl
 omega
theorem nat_u8 {v : Nat} : ((toU8 (v : Int)).toNat : Int) = ((UInt8.ofNat v).toNat : Int) := by rw [toU8_nat]
end
structure LibT (X : CallF) : Prop where
 ix : ∀ (s : Bs) (c : UInt8), (R FT X).f 135 [strL s, u8A c] = some (intA (Lib.indexByte s c))
 hp : ∀ (s p : Bs), (R FT X).f 96 [strL s, strL p] = some (boolA (Lib.hasPrefix s p))
section
variable {X : CallF}
theorem char_run (hI : LibT X) (s : Bs) (hs : s.length ≤ 1000000) : (R FT X).f 99 [strL s] = some (.tuple [u8A (chS s).1, intA (chS s).2]) := by
 have hm := maxLen_i64
 have ix := hI.ix
 refine R_wp (((Tr.b true Tr.nil).w.br (Tr.nil.br (Tr.y 0 fun (c5 : UInt8) ↦ ((Tr.y 0 fun (c : UInt8) ↦ Tr.nil).br (Tr.inv (fun (j : Nat × Nat) ↦ St.mk [(0, strL s), (4, intA (↑j.fst : Int)), (5, intA (↑j.snd : Int))] []) (OcI s) oM fun (j : Nat × Nat) ↦ (((Tr.y j.snd fun (c15 : UInt8) ↦ (Tr.y j.snd fun (c18 : UInt8) ↦ (Tr.y j.snd fun (c21 : UInt8) ↦ ((Tr.y j.snd fun (c24 : UInt8) ↦ Tr.nil.w.w.w).w.w.br (Tr.nil.br (Tr.y 1 fun (c30 : UInt8) ↦ Tr.c (intA (Lib.indexByte [(97 : UInt8), (98 : UInt8), (102 : UInt8), (110 : UInt8), (114 : UInt8), (116 : UInt8), (118 : UInt8)] c30)) ((Tr.y (Lib.indexByte [(97 : UInt8), (98 : UInt8), (102 : UInt8), (110 : UInt8), (114 : UInt8), (116 : UInt8), (118 : UInt8)] c30).toNat fun (c : UInt8) ↦ Tr.nil).br (Tr.y 1 fun (c : UInt8) ↦ Tr.nil)).w.w)).w.w).w.w).w.br (Tr.b false (Tr.nil.br (Tr.y 1 fun (c41 : UInt8) ↦ Tr.c (intA (Lib.indexByte [(97 : UInt8), (98 : UInt8), (102 : UInt8), (110 : UInt8), (114 : UInt8), (116 : UInt8), (118 : UInt8)] c41)) ((Tr.y (Lib.indexByte [(97 : UInt8), (98 : UInt8), (102 : UInt8), (110 : UInt8), (114 : UInt8), (116 : UInt8), (118 : UInt8)] c41).toNat fun (c : UInt8) ↦ Tr.nil).br
 (Tr.y 1 fun (c : UInt8) ↦ Tr.nil)).w.w)).w.w)).br (Tr.b false (Tr.b false (Tr.nil.br (Tr.y 1 fun (c52 : UInt8) ↦ Tr.c (intA (Lib.indexByte [(97 : UInt8), (98 : UInt8), (102 : UInt8), (110 : UInt8), (114 : UInt8), (116 : UInt8), (118 : UInt8)] c52)) ((Tr.y (Lib.indexByte [(97 : UInt8), (98 : UInt8), (102 : UInt8), (110 : UInt8), (114 : UInt8), (116 : UInt8), (118 : UInt8)] c52).toNat fun (c : UInt8) ↦ Tr.nil).br (Tr.y 1 fun (c : UInt8) ↦ Tr.nil)).w.w)).w.w))).br (Tr.b false (Tr.b false (Tr.b false (Tr.b true Tr.nil).w.w)))).br (Tr.b false (Tr.b false (Tr.b false (Tr.b false (Tr.nil.br (Tr.y 1 fun (c64 : UInt8) ↦ Tr.c (intA (Lib.indexByte [(97 : UInt8), (98 : UInt8), (102 : UInt8), (110 : UInt8), (114 : UInt8), (116 : UInt8), (118 : UInt8)] c64)) ((Tr.y (Lib.indexByte [(97 : UInt8), (98 : UInt8), (102 : UInt8), (110 : UInt8), (114 : UInt8), (116 : UInt8), (118 : UInt8)] c64).toNat fun (c : UInt8) ↦ Tr.nil).br (Tr.y 1 fun (c : UInt8) ↦ Tr.nil)).w.w)).w.w))))).w).w).w).w).w).w.w) rfl ?_
 refine Eq.mpr (by kernel_rfl : _ = ((decide (s = []) = true → true = true ∧ (0 : Int) = (↑(chS s).fst.toNat : Int) ∧ (0 : Int) = (↑(chS s).snd : Int)) ∧ (decide (s = []) = false → (decide (s = [(92 : UInt8)]) = true → (0 : Int) = (↑(chS s).fst.toNat : Int) ∧ (0 : Int) = (↑(chS s).snd : Int)) ∧ (decide (s = [(92 : UInt8)]) = false → (0 : Int) = 0 ∧ (0 : Nat) < List.length s ∧ ∀ (c5 : UInt8), s[(0 : Nat)]? = some c5 → ((!decide ((↑c5.toNat : Int) = 92)) = true → (0 : Int) = 0 ∧ (0 : Nat) < List.length s ∧ ∀ (c8 : UInt8), s[(0 : Nat)]? = some c8 → (↑c8.toNat : Int) = (↑(chS s).fst.toNat : Int) ∧ (1 : Int) = (↑(chS s).snd : Int)) ∧ ((!decide ((↑c5.toNat : Int) = 92)) = false → (∃ (j11 : Nat × Nat), ((s = s ∧ (0 : Int) = (↑j11.fst : Int) ∧ (1 : Int) = (↑j11.snd : Int) ∧ True) ∧ True) ∧ OcI s j11) ∧ ∀ (j : Nat × Nat), OcI s j → (decide ((↑j.snd : Int) < (↑(List.length s) : Int)) = true → (decide ((↑j.snd : Int) < 4) = true → (↑j.snd : Int) = (↑j.snd : Int) ∧ j.snd < List.length s ∧ ∀ (c15 : UInt8), s[j.snd]? = some c15 → (decide ((48 : Int) ≤ (↑c15.toNat : Int)) = true → (↑j.snd : Int) = (↑j.snd : Int) ∧ j.snd < List.length s ∧ ∀ (c18 : UInt8), s[j.snd]? = some c18 → (decide ((↑c18.toNat
 : Int) ≤ 55) = true → InI64 ((8 : Int) * (↑j.fst : Int)) ∧ (↑j.snd : Int) = (↑j.snd : Int) ∧ j.snd < List.length s ∧ ∀ (c21 : UInt8), s[j.snd]? = some c21 → InI64 (↑(toU8 ((↑c21.toNat : Int) - 48)).toNat : Int) ∧ InI64 ((8 : Int) * (↑j.fst : Int) + (↑(toU8 ((↑c21.toNat : Int) - 48)).toNat : Int)) ∧ (decide ((8 : Int) * (↑j.fst : Int) + (↑(toU8 ((↑c21.toNat : Int) - 48)).toNat : Int) < 256) = true → InI64 ((8 : Int) * (↑j.fst : Int)) ∧ (↑j.snd : Int) = (↑j.snd : Int) ∧ j.snd < List.length s ∧ ∀ (c24 : UInt8), s[j.snd]? = some c24 → InI64 (↑(toU8 ((↑c24.toNat : Int) - 48)).toNat : Int) ∧ InI64 ((8 : Int) * (↑j.fst : Int) + (↑(toU8 ((↑c24.toNat : Int) - 48)).toNat : Int)) ∧ InI64 ((↑j.snd : Int) + 1) ∧ ∃ (j26 : Nat × Nat), ((s = s ∧ (8 : Int) * (↑j.fst : Int) + (↑(toU8 ((↑c24.toNat : Int) - 48)).toNat : Int) = (↑j26.fst : Int) ∧ (↑j.snd : Int) + 1 = (↑j26.snd : Int) ∧ True) ∧ True) ∧ OcI s j26 ∧ oM j26 < oM j) ∧ (decide ((8 : Int) * (↑j.fst : Int) + (↑(toU8 ((↑c21.toNat : Int) - 48)).toNat : Int) < 256) = false → (decide ((1 : Int) < (↑j.snd : Int)) = true → (↑(toU8 (↑j.fst : Int)).toNat : Int)
 = (↑(chS s).fst.toNat : Int) ∧ (↑j.snd : Int) = (↑(chS s).snd : Int)) ∧ (decide ((1 : Int) < (↑j.snd : Int)) = false → (1 : Int) = 1 ∧ (1 : Nat) < List.length s ∧ ∀ (c30 : UInt8), s[(1 : Nat)]? = some c30 → (R FT X).f 135 [strL [(97 : UInt8), (98 : UInt8), (102 : UInt8), (110 : UInt8), (114 : UInt8), (116 : UInt8), (118 : UInt8)], u8A c30] = some (intA (Lib.indexByte [(97 : UInt8), (98 : UInt8), (102 : UInt8), (110 : UInt8), (114 : UInt8), (116 : UInt8), (118 : UInt8)] c30)) ∧ (decide ((0 : Int) ≤ Lib.indexByte [(97 : UInt8), (98 : UInt8), (102 : UInt8), (110 : UInt8), (114 : UInt8), (116 : UInt8), (118 : UInt8)] c30) = true → Lib.indexByte [(97 : UInt8), (98 : UInt8), (102 : UInt8), (110 : UInt8), (114 : UInt8), (116 : UInt8), (118 : UInt8)] c30 = (↑(Lib.indexByte [(97 : UInt8), (98 : UInt8), (102 : UInt8), (110 : UInt8), (114 : UInt8), (116 : UInt8), (118 : UInt8)] c30).toNat : Int) ∧ (Lib.indexByte [(97 : UInt8), (98 : UInt8), (102 : UInt8), (110 : UInt8), (114 : UInt8), (116 : UInt8), (118 : UInt8)] c30).toNat < 7 ∧ ∀ (c33 : UInt8), [(7 : UInt8), (8 : UInt8), (12 : UInt8), (10 : UInt8), (13 : UInt8), (9 : UInt8), (11 : UInt8)][(Lib.indexByte [(97 : UInt8),
 (98 : UInt8), (102 : UInt8), (110 : UInt8), (114 : UInt8), (116 : UInt8), (118 : UInt8)] c30).toNat]? = some c33 → (↑c33.toNat : Int) = (↑(chS s).fst.toNat : Int) ∧ (2 : Int) = (↑(chS s).snd : Int)) ∧ (decide ((0 : Int) ≤ Lib.indexByte [(97 : UInt8), (98 : UInt8), (102 : UInt8), (110 : UInt8), (114 : UInt8), (116 : UInt8), (118 : UInt8)] c30) = false → (1 : Int) = 1 ∧ (1 : Nat) < List.length s ∧ ∀ (c36 : UInt8), s[(1 : Nat)]? = some c36 → (↑c36.toNat : Int) = (↑(chS s).fst.toNat : Int) ∧ (2 : Int) = (↑(chS s).snd : Int))))) ∧ (decide ((↑c18.toNat : Int) ≤ 55) = false → false = false ∧ (decide ((1 : Int) < (↑j.snd : Int)) = true → (↑(toU8 (↑j.fst : Int)).toNat : Int) = (↑(chS s).fst.toNat : Int) ∧ (↑j.snd : Int) = (↑(chS s).snd : Int)) ∧ (decide ((1 : Int) < (↑j.snd : Int)) = false → (1 : Int) = 1 ∧ (1 : Nat) < List.length s ∧ ∀ (c41 : UInt8), s[(1 : Nat)]? = some c41 → (R FT X).f 135 [strL [(97 : UInt8), (98 : UInt8), (102 : UInt8), (110 : UInt8), (114 : UInt8), (116 : UInt8), (118 : UInt8)], u8A c41] = some (intA (Lib.indexByte [(97 : UInt8), (98 : UInt8), (102 : UInt8), (110 : UInt8), (114 : UInt8), (116 : UInt8), (118 : UInt8)] c41)) ∧ (decide ((0
 : Int) ≤ Lib.indexByte [(97 : UInt8), (98 : UInt8), (102 : UInt8), (110 : UInt8), (114 : UInt8), (116 : UInt8), (118 : UInt8)] c41) = true → Lib.indexByte [(97 : UInt8), (98 : UInt8), (102 : UInt8), (110 : UInt8), (114 : UInt8), (116 : UInt8), (118 : UInt8)] c41 = (↑(Lib.indexByte [(97 : UInt8), (98 : UInt8), (102 : UInt8), (110 : UInt8), (114 : UInt8), (116 : UInt8), (118 : UInt8)] c41).toNat : Int) ∧ (Lib.indexByte [(97 : UInt8), (98 : UInt8), (102 : UInt8), (110 : UInt8), (114 : UInt8), (116 : UInt8), (118 : UInt8)] c41).toNat < 7 ∧ ∀ (c44 : UInt8), [(7 : UInt8), (8 : UInt8), (12 : UInt8), (10 : UInt8), (13 : UInt8), (9 : UInt8), (11 : UInt8)][(Lib.indexByte [(97 : UInt8), (98 : UInt8), (102 : UInt8), (110 : UInt8), (114 : UInt8), (116 : UInt8), (118 : UInt8)] c41).toNat]? = some c44 → (↑c44.toNat : Int) = (↑(chS s).fst.toNat : Int) ∧ (2 : Int) = (↑(chS s).snd : Int)) ∧ (decide ((0 : Int) ≤ Lib.indexByte [(97 : UInt8), (98 : UInt8), (102 : UInt8), (110 : UInt8), (114 : UInt8), (116 : UInt8), (118 : UInt8)] c41) = false → (1 : Int) = 1 ∧ (1 : Nat) < List.length s ∧ ∀ (c47 : UInt8), s[(1 : Nat)]? = some c47 → (↑c47.toNat : Int) = (↑(chS s).fst.toNat : Int) ∧ (2 : Int)
 = (↑(chS s).snd : Int))))) ∧ (decide ((48 : Int) ≤ (↑c15.toNat : Int)) = false → false = false ∧ false = false ∧ (decide ((1 : Int) < (↑j.snd : Int)) = true → (↑(toU8 (↑j.fst : Int)).toNat : Int) = (↑(chS s).fst.toNat : Int) ∧ (↑j.snd : Int) = (↑(chS s).snd : Int)) ∧ (decide ((1 : Int) < (↑j.snd : Int)) = false → (1 : Int) = 1 ∧ (1 : Nat) < List.length s ∧ ∀ (c52 : UInt8), s[(1 : Nat)]? = some c52 → (R FT X).f 135 [strL [(97 : UInt8), (98 : UInt8), (102 : UInt8), (110 : UInt8), (114 : UInt8), (116 : UInt8), (118 : UInt8)], u8A c52] = some (intA (Lib.indexByte [(97 : UInt8), (98 : UInt8), (102 : UInt8), (110 : UInt8), (114 : UInt8), (116 : UInt8), (118 : UInt8)] c52)) ∧ (decide ((0 : Int) ≤ Lib.indexByte [(97 : UInt8), (98 : UInt8), (102 : UInt8), (110 : UInt8), (114 : UInt8), (116 : UInt8), (118 : UInt8)] c52) = true → Lib.indexByte [(97 : UInt8), (98 : UInt8), (102 : UInt8), (110 : UInt8), (114 : UInt8), (116 : UInt8), (118 : UInt8)] c52 = (↑(Lib.indexByte [(97 : UInt8), (98 : UInt8), (102 : UInt8), (110 : UInt8), (114 : UInt8), (116 : UInt8), (118 : UInt8)] c52).toNat : Int) ∧ (Lib.indexByte [(97 : UInt8), (98 : UInt8), (102 : UInt8), (110 : UInt8), (114 : UInt8),
 (116 : UInt8), (118 : UInt8)] c52).toNat < 7 ∧ ∀ (c55 : UInt8), [(7 : UInt8), (8 : UInt8), (12 : UInt8), (10 : UInt8), (13 : UInt8), (9 : UInt8), (11 : UInt8)][(Lib.indexByte [(97 : UInt8), (98 : UInt8), (102 : UInt8), (110 : UInt8), (114 : UInt8), (116 : UInt8), (118 : UInt8)] c52).toNat]? = some c55 → (↑c55.toNat : Int) = (↑(chS s).fst.toNat : Int) ∧ (2 : Int) = (↑(chS s).snd : Int)) ∧ (decide ((0 : Int) ≤ Lib.indexByte [(97 : UInt8), (98 : UInt8), (102 : UInt8), (110 : UInt8), (114 : UInt8), (116 : UInt8), (118 : UInt8)] c52) = false → (1 : Int) = 1 ∧ (1 : Nat) < List.length s ∧ ∀ (c58 : UInt8), s[(1 : Nat)]? = some c58 → (↑c58.toNat : Int) = (↑(chS s).fst.toNat : Int) ∧ (2 : Int) = (↑(chS s).snd : Int))))) ∧ (decide ((↑j.snd : Int) < 4) = false → false = false ∧ false = false ∧ false = false ∧ decide ((1 : Int) < (↑j.snd : Int)) = true ∧ (↑(toU8 (↑j.fst : Int)).toNat : Int) = (↑(chS s).fst.toNat : Int) ∧ (↑j.snd : Int) = (↑(chS s).snd : Int))) ∧ (decide ((↑j.snd : Int) < (↑(List.length s) : Int)) = false → false = false ∧ false = false ∧ false = false ∧ false = false ∧ (decide ((1 : Int) < (↑j.snd : Int)) = true → (↑(toU8 (↑j.fst : Int)).toNat : Int) = (↑(chS
 s).fst.toNat : Int) ∧ (↑j.snd : Int) = (↑(chS s).snd : Int)) ∧ (decide ((1 : Int) < (↑j.snd : Int)) = false → (1 : Int) = 1 ∧ (1 : Nat) < List.length s ∧ ∀ (c64 : UInt8), s[(1 : Nat)]? = some c64 → (R FT X).f 135 [strL [(97 : UInt8), (98 : UInt8), (102 : UInt8), (110 : UInt8), (114 : UInt8), (116 : UInt8), (118 : UInt8)], u8A c64] = some (intA (Lib.indexByte [(97 : UInt8), (98 : UInt8), (102 : UInt8), (110 : UInt8), (114 : UInt8), (116 : UInt8), (118 : UInt8)] c64)) ∧ (decide ((0 : Int) ≤ Lib.indexByte [(97 : UInt8), (98 : UInt8), (102 : UInt8), (110 : UInt8), (114 : UInt8), (116 : UInt8), (118 : UInt8)] c64) = true → Lib.indexByte [(97 : UInt8), (98 : UInt8), (102 : UInt8), (110 : UInt8), (114 : UInt8), (116 : UInt8), (118 : UInt8)] c64 = (↑(Lib.indexByte [(97 : UInt8), (98 : UInt8), (102 : UInt8), (110 : UInt8), (114 : UInt8), (116 : UInt8), (118 : UInt8)] c64).toNat : Int) ∧ (Lib.indexByte [(97 : UInt8), (98 : UInt8), (102 : UInt8), (110 : UInt8), (114 : UInt8), (116 : UInt8), (118 : UInt8)] c64).toNat < 7 ∧ ∀ (c67 : UInt8), [(7 : UInt8), (8 : UInt8), (12 : UInt8), (10 : UInt8), (13 : UInt8), (9 : UInt8), (11 : UInt8)][(Lib.indexByte [(97 : UInt8), (98
 : UInt8), (102 : UInt8), (110 : UInt8), (114 : UInt8), (116 : UInt8), (118 : UInt8)] c64).toNat]? = some c67 → (↑c67.toNat : Int) = (↑(chS s).fst.toNat : Int) ∧ (2 : Int) = (↑(chS s).snd : Int)) ∧ (decide ((0 : Int) ≤ Lib.indexByte [(97 : UInt8), (98 : UInt8), (102 : UInt8), (110 : UInt8), (114 : UInt8), (116 : UInt8), (118 : UInt8)] c64) = false → (1 : Int) = 1 ∧ (1 : Nat) < List.length s ∧ ∀ (c70 : UInt8), s[(1 : Nat)]? = some c70 → (↑c70.toNat : Int) = (↑(chS s).fst.toNat : Int) ∧ (2 : Int) = (↑(chS s).snd : Int))))))))) ?_
 refine ⟨fun h1_ => have h1 := dT h1_; ⟨rfl, ?_, ?_⟩, fun h2_ => have h2 := dF h2_; ⟨fun h3_ => have h3 := dT h3_; ⟨?_, ?_⟩, fun h4_ => have h4 := dF h4_; ⟨rfl, ?_, fun c5 => fun h6 => ⟨fun h7_ => have h7 := dnT h7_; ⟨rfl, ?_, fun c8 => fun h9 => ⟨?_, ?_⟩⟩, fun h10_ => have h10 := dnF h10_; ⟨⟨((0 : Nat), (1 : Nat)), ⟨⟨rfl, (by omega), (by omega), trivial⟩, trivial⟩, ?_⟩, fun j => fun h12 => ⟨fun h13_ => have h13 := dT h13_; ⟨fun h14_ => have h14 := dT h14_; ⟨rfl, (by omega), fun c15 => fun h16 => ⟨fun h17_ => have h17 := dT h17_; ⟨rfl, (by omega), fun c18 => fun h19 => ⟨fun h20_ => have h20 := dT h20_; ⟨?_, rfl, (by omega), fun c21 => fun h22 => ⟨(by have := u8_lt c5; have := u8_lt c15; have := u8_lt c18; have := u8_lt c21; have := toU8_mod ((↑c21.toNat : Int) - (48 : Int)); unfold InI64; omega), ?_, fun h23_ => have h23 := dT h23_; ⟨(by unfold InI64; omega), rfl, (by omega), fun c24 => fun h25 => ⟨(by have := u8_lt c5; have := u8_lt c15; have := u8_lt c18; have := u8_lt c21; have := u8_lt c24; have := toU8_mod ((↑c21.toNat : Int) - (48 : Int)); have := toU8_mod ((↑c24.toNat : Int) - (48 : Int)); unfold InI64; omega), (by have := u8_lt c5; have := u8_lt c15; have := u8_lt c18; have := u8_lt c21; have := u8_lt c24; have := toU8_mod ((↑c21.toNat : Int) - (48 : Int)); have := toU8_mod ((↑c24.toNat : Int) - (48 : Int)); unfold InI64; omega), (by unfold InI64; omega), ⟨((8 : Nat) * j.fst + (toU8 ((↑c24.toNat : Int) - (48 : Int))).toNat, j.snd + (1 : Nat)), ⟨⟨rfl, (by omega), (by omega), trivial⟩, trivial⟩, ⟨?_, ?_⟩⟩⟩⟩, fun h27_ => have h27 := dF h27_; ⟨fun h28_ => have h28 := dT h28_; ⟨?_, ?_⟩, fun h29_ => have h29 := dF h29_; ⟨rfl, ?_, fun c30 => fun h31 => ⟨(ix _ _), fun h32_ => have h32 := dT h32_; ⟨(by omega), ?_, fun c33 => fun h34 => ⟨?_, ?_⟩⟩, fun h35_ => have h35 := dF h35_; ⟨rfl, ?_, fun c36 => fun h37 => ⟨?_, ?_⟩⟩⟩⟩⟩⟩⟩, fun h38_ => have h38 := dF h38_; ⟨rfl, fun h39_ => have h39 := dT h39_; ⟨?_, ?_⟩, fun h40_ => have h40 := dF h40_; ⟨rfl, ?_, fun c41 => fun h42 => ⟨(ix _ _), fun h43_ => have h43 := dT h43_; ⟨(by omega), ?_, fun c44 => fun h45 => ⟨?_, ?_⟩⟩, fun h46_ => have h46 := dF h46_; ⟨rfl, ?_, fun c47 => fun h48 => ⟨?_, ?_⟩⟩⟩⟩⟩⟩⟩, fun h49_ => have h49 := dF h49_; ⟨rfl, rfl, fun h50_ => have h50 := dT h50_; ⟨?_, ?_⟩, fun h51_ => have h51 := dF h51_; ⟨rfl, ?_, fun c52 => fun h53 => ⟨(ix _ _), fun h54_ => have h54 := dT h54_; ⟨(by omega), ?_, fun c55 => fun h56 => ⟨?_, ?_⟩⟩, fun h57_ => have h57 := dF h57_; ⟨rfl, ?_, fun c58 => fun h59 => ⟨?_, ?_⟩⟩⟩⟩⟩⟩⟩, fun h60_ => have h60 := dF h60_; ⟨rfl, rfl, rfl, (tD (by omega)), ?_, ?_⟩⟩, fun h61_ => have h61 := dF h61_; ⟨rfl, rfl, rfl, rfl, fun h62_ => have h62 := dT h62_; ⟨?_, ?_⟩, fun h63_ => have h63 := dF h63_; ⟨rfl, ?_, fun c64 => fun h65 => ⟨(ix _ _), fun h66_ => have h66 := dT h66_; ⟨(by omega), ?_, fun c67 => fun h68 => ⟨?_, ?_⟩⟩, fun h69_ => have h69 := dF h69_; ⟨rfl, ?_, fun c70 => fun h71 => ⟨?_, ?_⟩⟩⟩⟩⟩⟩⟩⟩⟩⟩⟩
 all_goals try (rw [h1]; rfl)
 all_goals try (rw [h3]; rfl)
 all_goals try have hv := h12.v
 all_goals first
  | omega
  | (unfold InI64; omega)
  | (have hq := (toU8 ((c21.toNat : Int) - 48)).toNat_lt; unfold InI64; omega)
  | exact OcI.start h2
  | exact h12.step h14 (ocY h16 h17 h19 h20 h22 h23 h25)
  | exact oM_lt h14
  | exact len2 h2 h4 h6 h10
  | (have := List.length_pos_iff.2 h2; omega)
  | (rw [chS_one h2 h4 h6 h7, same_at h6 h9]; done)
  | (rw [chS_one h2 h4 h6 h7]; rfl)
  | (rw [chS_oct h2 h4 h6 h10 (ch_end h12 (.inl (ocA h16 h17 h19 h20 h22 h27))) h28]; done)
  | (rw [chS_oct h2 h4 h6 h10 (ch_end h12 (.inl (ocA h16 h17 h19 h20 h22 h27))) h28]; exact nat_u8)
  | exact ix7 h32
  | (rw [chS_esc h2 h4 h6 h10 (ch_end h12 (.inl (ocA h16 h17 h19 h20 h22 h27))) h29 h31]; done)
  | (rw [chS_esc h2 h4 h6 h10 (ch_end h12 (.inl (ocA h16 h17 h19 h20 h22 h27))) h29 h31]; first | rfl | (rw [esc_y h32 h34]; done) | (rw [esc_n h35 h31 h37]; done))
  | (rw [chS_oct h2 h4 h6 h10 (ch_end h12 (.inl (ocB h16 h19 h38))) h39]; done)
  | (rw [chS_oct h2 h4 h6 h10 (ch_end h12 (.inl (ocB h16 h19 h38))) h39]; exact nat_u8)
  | exact ix7 h43
  | (rw [chS_esc h2 h4 h6 h10 (ch_end h12 (.inl (ocB h16 h19 h38))) h40 h42]; done)
  | (rw [chS_esc h2 h4 h6 h10 (ch_end h12 (.inl (ocB h16 h19 h38))) h40 h42]; first | rfl | (rw [esc_y h43 h45]; done) | (rw [esc_n h46 h42 h48]; done))
  | (rw [chS_oct h2 h4 h6 h10 (ch_end h12 (.inl (ocC h16 h49))) h50]; done)
  | (rw [chS_oct h2 h4 h6 h10 (ch_end h12 (.inl (ocC h16 h49))) h50]; exact nat_u8)
  | exact ix7 h54
  | (rw [chS_esc h2 h4 h6 h10 (ch_end h12 (.inl (ocC h16 h49))) h51 h53]; done)
  | (rw [chS_esc h2 h4 h6 h10 (ch_end h12 (.inl (ocC h16 h49))) h51 h53]; first | rfl | (rw [esc_y h54 h56]; done) | (rw [esc_n h57 h53 h59]; done))
  | (rw [chS_oct h2 h4 h6 h10 (ch_end h12 (.inl (ocE h61))) h62]; done)
  | (rw [chS_oct h2 h4 h6 h10 (ch_end h12 (.inl (ocE h61))) h62]; exact nat_u8)
  | exact ix7 h66
  | (rw [chS_esc h2 h4 h6 h10 (ch_end h12 (.inl (ocE h61))) h63 h65]; done)
  | (rw [chS_esc h2 h4 h6 h10 (ch_end h12 (.inl (ocE h61))) h63 h65]; first | rfl | (rw [esc_y h66 h68]; done) | (rw [esc_n h69 h65 h71]; done))
  | (rw [chS_oct h2 h4 h6 h10 (ch_end h12 (.inr h60)) (by omega)]; done)
  | (rw [chS_oct h2 h4 h6 h10 (ch_end h12 (.inr h60)) (by omega)]; exact nat_u8)
  | skip
end
end Go.Proofs.YtienfdjfochlcaaGreatDoor
end
section
namespace Go.Proofs.YtienfdjfochlcaaGreatDoor
set_option linter.unusedVariables false
set_option linter.unusedSimpArgs false
def low (w : BitVec 64) (k : Nat) : Prop := k < 64 ∧ w.getLsbD k = true ∧ ∀ j, j < k → w.getLsbD j = false
def clr (w : BitVec 64) (m : Nat) : BitVec 64 := (w >>> m) <<< m
def tzN (w : BitVec 64) : Nat := if w = 0 then 64 else deB64.getD (((w &&& -w) * 285870213051353865#64) >>> 58).toNat 0
def bsL (D : CS) (n : Nat) : Bs := ((List.range n).filter fun j => D.getLsbD j).map UInt8.ofNat
theorem bsL_succ (D : CS) (n : Nat) : bsL D (n + 1) = if D.getLsbD n then bsL D n ++ [UInt8.ofNat n] else bsL D n := by
 rw [bsL, List.range_succ, List.filter_append, List.map_append]
 by_cases h : D.getLsbD n = true
 ·rw [if_pos h]; simp [bsL, h]
 ·rw [if_neg h]; simp [bsL, h]
structure BsS (D : CS) (i m k : Nat) : Prop where
 lt : k < 64
 le : m ≤ k
 tz : tzN (clr (wd D i) m) = k
 len : (bsL D (64 * i + m)).length + 1 = (bsL D (64 * i + (k + 1))).length
 w : bitX BinOp.and IntKind.u64 ((clr (wd D i) m).toNat : Int) (IntKind.u64.wrap (((clr (wd D i) m).toNat : Int) - 1)) = ((clr (wd D i) (k + 1)).toNat : Int)
 row : (bsL D (64 * i + m)).map u8A ++ [u8A (toU8 (64 * (i : Int) + (k : Int)))] = (bsL D (64 * i + (k + 1))).map u8A
theorem bsL_len (D : CS) (n : Nat) : (bsL D n).length ≤ n := by
 rw [bsL, List.length_map]
 exact Nat.le_trans (List.length_filter_le _ _) (by rw [List.length_range]; exact Nat.le_refl _)
end Go.Proofs.YtienfdjfochlcaaGreatDoor
end
section
namespace Go.Proofs.YtienfdjfochlcaaGreatDoor
set_option linter.unusedVariables false
set_option linter.unusedSimpArgs false
set_option maxRecDepth 100000
set_option maxHeartbeats 4000000
def octB (c : UInt8) : Bs := [92, 48 + c / 64, 48 + c / 8 % 8, 48 + c % 8]
def octS (s : Bs) : Bs := s.flatMap octB
theorem octS_take (s : Bs) (k : Nat) (hk : k ≤ s.length) : (octS (s.take k)).length = 4 * k := by
 induction k with
 | zero => rfl
 | succ k ih =>
  rw [List.take_succ_eq_append_getElem (by omega), octS, List.flatMap_append, List.length_append]
  have := ih (by omega)
  rw [octS] at this
  rw [this]
  simp [octB]; omega
theorem oct1 (x : UInt8) : toU8 (48 + (x.toNat : Int) / 64) = 48 + x / 64 ∧ toU8 (48 + (x.toNat : Int) / 8 % 8) = 48 + x / 8 % 8 ∧ toU8 (48 + (x.toNat : Int) % 8) = 48 + x % 8 := by
 have hc := x.toNat_lt
 have e8 : (8 : UInt8).toNat = 8 := rfl
 have e64 : (64 : UInt8).toNat = 64 := rfl
 have e48 : (48 : UInt8).toNat = 48 := rfl
 refine ⟨?_, ?_, ?_⟩ <;> apply UInt8.toNat_inj.1 <;> unfold toU8
 ·rw [UInt8.toNat_ofNat', UInt8.toNat_add, UInt8.toNat_div, e48, e64]; omega
 ·rw [UInt8.toNat_ofNat', UInt8.toNat_add, UInt8.toNat_mod, UInt8.toNat_div, e48, e8]; omega
 ·rw [UInt8.toNat_ofNat', UInt8.toNat_add, UInt8.toNat_mod, e48, e8]; omega
theorem octS_step {s : Bs} {k : Nat} {x y z : UInt8} (h1 : s[k]? = some x) (h2 : s[k]? = some y) (h3 : s[k]? = some z) :
    (octS (s.take k)).map u8A ++ [AV.val (Value.int IntKind.u8 92), u8A (toU8 (48 + (x.toNat : Int) / 64)), u8A (toU8 (48 + (y.toNat : Int) / 8 % 8)), u8A (toU8 (48 + (z.toNat : Int) % 8))] = (octS (s.take (k + 1))).map u8A := by
  rw [show y = x from same_at h1 h2, show z = x from same_at h1 h3, take_succ_get h1, octS, octS, List.flatMap_append, List.map_append]
  obtain ⟨e1, e2, e3⟩ := oct1 x
  rw [e1, e2, e3]
  rfl
section
variable {X : CallF}
theorem octal_run (s : Bs) (hs : s.length ≤ 1000) : (R FT X).f 35 [strL s] = some (strL (octS s)) := by
 have hm := maxLen_i64
 refine R_wp ((Tr.inv (fun (k : Nat) ↦ St.mk [(0, strL s), (3, AV.row 0 0 ((4 : Nat) * k) (0 : Nat) ((4 : Nat) * k)), (4, intA (↑k : Int))] [MObj.row 0 1 (List.map u8A (octS (List.take k s))) true (1 : Nat)]) (fun (k : Nat) ↦ k ≤ List.length s) (fun (k : Nat) ↦ List.length s - k) fun (k : Nat) ↦ ((Tr.y k fun (c4 : UInt8) ↦ Tr.k 0 (Tr.y k fun (c6 : UInt8) ↦ Tr.k 0 (Tr.k 0 (Tr.y k fun (c8 : UInt8) ↦ Tr.k 0 (Tr.k ((4 : Nat) * k + 4) Tr.nil.w))))).w.br (Tr.bs (List.take ((4 : Nat) * k) (List.drop (0 : Nat) (octS (List.take k s)))) Tr.nil)).w).w) rfl ?_
 refine Eq.mpr (by kernel_rfl : _ = ((∃ (j1 : Nat), ((s = s ∧ ((0 : Nat) = 4 * j1 ∧ (0 : Nat) = 0 ∧ (0 : Nat) = 4 * j1) ∧ (0 : Int) = (↑j1 : Int) ∧ True) ∧ [] = List.map u8A (octS (List.take j1 s))) ∧ j1 ≤ List.length s) ∧ ∀ (k : Nat), k ≤ List.length s → (decide ((↑k : Int) < (↑(List.length s) : Int)) = true → (↑k : Int) = (↑k : Int) ∧ k < List.length s ∧ ∀ (c4 : UInt8), s[k]? = some c4 → (0 : Int) ≤ (↑c4.toNat : Int) ∧ (0 : Int) < 64 ∧ (↑c4.toNat : Int) ≤ 255 ∧ (↑k : Int) = (↑k : Int) ∧ k < List.length s ∧ ∀ (c6 : UInt8), s[k]? = some c6 → (0 : Int) ≤ (↑c6.toNat : Int) ∧ (0 : Int) < 8 ∧ (↑c6.toNat : Int) ≤ 255 ∧ (0 : Int) ≤ (↑c6.toNat : Int) / (8 : Int) ∧ (0 : Int) < 8 ∧ (↑k : Int) = (↑k : Int) ∧ k < List.length s ∧ ∀ (c8 : UInt8), s[k]? = some c8 → (0 : Int) ≤ (↑c8.toNat : Int) ∧ (0 : Int) < 8 ∧ (List.map u8A (octS (List.take k s))).length = 4 * k ∧ (0 : Nat) = 0 ∧ (4 : Nat) * k = 4 * k ∧ (4 : Nat) * k + [AV.val (Value.int IntKind.u8 (92 : Int)), u8A (toU8 ((48 : Int) + (↑c4.toNat : Int) / (64 : Int))), u8A (toU8 ((48 : Int) + (↑c6.toNat : Int) / (8 : Int) % (8 : Int))), u8A (toU8 ((48 : Int) + (↑c8.toNat : Int) % (8 : Int)))].length
 = (4 : Nat) * k + 4 ∧ ((4 : Nat) * k + 4) * 1 ≤ (140737488355328 : Nat) ∧ (4 : Nat) * k + 4 ≤ (9223372036854775807 : Nat) ∧ InI64 ((↑k : Int) + 1) ∧ ∃ (j10 : Nat), ((s = s ∧ ((4 : Nat) * k + 4 = (4 : Nat) * j10 ∧ (0 : Nat) = 0 ∧ (4 : Nat) * k + 4 = (4 : Nat) * j10) ∧ (↑k : Int) + 1 = (↑j10 : Int) ∧ True) ∧ List.map u8A (octS (List.take k s)) ++ [AV.val (Value.int IntKind.u8 (92 : Int)), u8A (toU8 ((48 : Int) + (↑c4.toNat : Int) / (64 : Int))), u8A (toU8 ((48 : Int) + (↑c6.toNat : Int) / (8 : Int) % (8 : Int))), u8A (toU8 ((48 : Int) + (↑c8.toNat : Int) % (8 : Int)))] = List.map u8A (octS (List.take j10 s))) ∧ j10 ≤ List.length s ∧ List.length s - j10 < List.length s - k) ∧ (decide ((↑k : Int) < (↑(List.length s) : Int)) = false → (List.map u8A (octS (List.take k s))).length = 4 * k ∧ bytesL (List.take ((4 : Nat) * k) (List.drop (0 : Nat) (List.map u8A (octS (List.take k s))))) = some (List.take ((4 : Nat) * k) (List.drop (0 : Nat) (octS (List.take k s)))) ∧ List.take ((4 : Nat) * k) (List.drop (0 : Nat) (octS (List.take k s))) = octS s))) ?_
 refine ⟨⟨(0 : Nat), ⟨⟨rfl, ⟨rfl, rfl, rfl⟩, (by omega), trivial⟩, rfl⟩, (by omega)⟩, fun k => fun h2 => ⟨fun h3_ => have h3 := dT h3_; ⟨rfl, (by omega), fun c4 => fun h5 => ⟨(by omega), (by omega), (by have := u8_lt c4; omega), rfl, (by omega), fun c6 => fun h7 => ⟨(by omega), (by omega), (by have := u8_lt c4; have := u8_lt c6; omega), (by omega), (by omega), rfl, (by omega), fun c8 => fun h9 => ⟨(by omega), (by omega), ?_, rfl, rfl, rfl, (by omega), (by omega), (by unfold InI64; omega), ⟨k + (1 : Nat), ⟨⟨rfl, ⟨(by omega), rfl, (by omega)⟩, (by omega), trivial⟩, ?_⟩, ⟨(by omega), (by omega)⟩⟩⟩⟩⟩⟩, fun h11_ => have h11 := dF h11_; ⟨?_, (by first | exact bytesL_map _ | (rw [List.drop_zero, List.take_of_length_le (by simp)]; exact bytesL_map _) | (simp only [← List.map_take, ← List.map_drop]; exact bytesL_map _) | (rw [← List.map_replicate (f := u8A), ← List.map_append, ← List.map_drop, ← List.map_take]; exact bytesL_map _)), ?_⟩⟩⟩
 ·rw [List.length_map]; exact octS_take s k h2
 ·exact octS_step h5 h7 h9
 ·rw [List.length_map]; exact octS_take s k h2
 ·rw [List.take_of_length_le (by omega : s.length ≤ k)]
  have := octS_take s s.length (Nat.le_refl _)
  rw [List.take_of_length_le (Nat.le_refl _)] at this
  rw [List.drop_zero, List.take_of_length_le (by omega)]
end
end Go.Proofs.YtienfdjfochlcaaGreatDoor
end
section
namespace Go.Proofs.YtienfdjfochlcaaGreatDoor
set_option linter.unusedVariables false
set_option linter.unusedSimpArgs false
set_option maxRecDepth 100000
set_option maxHeartbeats 4000000
section
variable {X : CallF}
theorem identity_run : (R FT X).f 65 [] = some (.agg (((List.range 256).map UInt8.ofNat).map u8A)) := by
 obtain ⟨T, hT⟩ : ∃ T : Nat → List AV, T = fun k => (tbU k).map u8A := ⟨_, rfl⟩
 obtain ⟨Z, hZ⟩ : ∃ Z : List AV, Z = (tbU 0).map u8A := ⟨_, rfl⟩
 have hTl : ∀ k, (T k).length = 256 := fun k => by rw [hT]; simp [tbU_len]
 have hZl : Z.length = 256 := by rw [hZ]; simp [tbU_len]
 have hD : ∀ k, List.take 256 (List.drop 0 (T k)) = T k := fun k => by rw [List.drop_zero, List.take_of_length_le (by rw [hTl]; omega)]
 have hS : ∀ k, setAt Z 0 (T k) = T k := fun k => setAt_all _ _ (by rw [hTl, hZl])
 have hE : ∀ k, 256 ≤ k → k ≤ 256 → T k = ((List.range 256).map UInt8.ofNat).map u8A := fun k h1 h2 => by
  have : k = 256 := by omega
  subst this
  rw [hT, ← tbU_all]
 refine R_wp ((Tr.inv (fun (k : Nat) ↦ St.mk [(0, AV.ptr 0 0), (1, AV.ptr 1 0), (3, intA (↑k : Int))] [MObj.box 111 Z, MObj.box 111 (T k)]) (fun (k : Nat) ↦ k ≤ 256) (fun (k : Nat) ↦ (256 : Nat) - k) fun (k : Nat) ↦ (Tr.k k Tr.nil.w.w).w.br Tr.nil.w.w.w).w) rfl ?_
 refine Eq.mpr (by kernel_rfl : _ = ((∃ (j1 : Nat), ((True ∧ True ∧ (0 : Int) = (↑j1 : Int) ∧ True) ∧ List.replicate (256 : Nat) (AV.val (Value.int IntKind.u8 (0 : Int))) = Z ∧ List.replicate (256 : Nat) (AV.val (Value.int IntKind.u8 (0 : Int))) = T j1) ∧ j1 ≤ 256) ∧ ∀ (k : Nat), k ≤ 256 → (decide ((↑k : Int) < 256) = true → (↑k : Int) = (↑k : Int) ∧ k < 256 ∧ (0 : Nat) + k * 1 + (1 : Nat) ≤ (T k).length ∧ InI64 ((↑k : Int) + 1) ∧ ∃ (j4 : Nat), ((True ∧ True ∧ (↑k : Int) + 1 = (↑j4 : Int) ∧ True) ∧ Z = Z ∧ setAt (T k) ((0 : Nat) + k * 1) (u8A (toU8 (↑k : Int))).cells = T j4) ∧ j4 ≤ 256 ∧ (256 : Nat) - j4 < 256 - k) ∧ (decide ((↑k : Int) < 256) = false → (256 : Nat) ≤ (T k).length ∧ (((AV.agg (List.take (256 : Nat) (List.drop (0 : Nat) (T k)))).cells.length = 256 ∧ (AV.agg (List.take (256 : Nat) (List.drop (0 : Nat) (T k)))).cells.all AV.isCell = true) ∧ (256 : Nat) ≤ Z.length) ∧ ((256 : Nat) ≤ (setAt Z (0 : Nat) (AV.agg (List.take (256 : Nat) (List.drop (0 : Nat) (T k)))).cells).length ∧ (List.take (256 : Nat) (List.drop (0 : Nat) (setAt Z (0 : Nat) (AV.agg (List.take (256 : Nat) (List.drop (0 : Nat) (T k)))).cells))).all AV.grCell
 = true) ∧ eqCells (nilCells (ARes.cell (0 : Nat) (256 : Nat) true []).offs (List.take (256 : Nat) (List.drop (0 : Nat) (setAt Z (0 : Nat) (AV.agg (List.take (256 : Nat) (List.drop (0 : Nat) (T k)))).cells)))) (List.map u8A (List.map UInt8.ofNat (List.range (256 : Nat))))))) ?_
 refine ⟨⟨(0 : Nat), ⟨⟨trivial, trivial, (by omega), trivial⟩, ?_, ?_⟩, (by omega)⟩, fun k => fun h2 => ⟨fun h3_ => have h3 := dT h3_; ⟨rfl, (by omega), ?_, (by unfold InI64; omega), ⟨k + (1 : Nat), ⟨⟨trivial, trivial, (by omega), trivial⟩, rfl, ?_⟩, ⟨(by omega), (by omega)⟩⟩⟩, fun h5_ => have h5 := dF h5_; ⟨?_, ⟨⟨?_, ?_⟩, (by omega)⟩, ⟨?_, ?_⟩, ?_⟩⟩⟩
 ·rw [rep_u8, tbU_zero, hZ]
 ·rw [rep_u8, tbU_zero, hT]
 ·rw [hTl]; omega
 ·rw [hT]
  show setAt ((tbU _).map u8A) _ [_] = (tbU (_ + 1)).map u8A
  rw [Nat.zero_add, Nat.mul_one, setAt_one _ _ _ (by rw [tbU_len]; omega), toU8_nat, tbU_succ]
 ·rw [hTl]; omega
 ·rw [agg_cells, hD, hTl]
 ·rw [agg_cells, hD, hT]; exact bytes_cell _
 ·rw [agg_cells, hD, hS, hTl]; omega
 ·rw [agg_cells, hD, hS, hD, hT]; exact bytes_gr _
 ·exact eqCells_u8' (by rw [agg_cells, hD, hS, hD, hE _ (by omega) (by omega)]; exact nilCells_nil _) rfl
end
end Go.Proofs.YtienfdjfochlcaaGreatDoor
end
section
namespace Go.Proofs.YtienfdjfochlcaaGreatDoor
set_option linter.unusedVariables false
set_option linter.unusedSimpArgs false
def tbl : Bs := (List.range 256).map UInt8.ofNat
theorem tbl_len : tbl.length = 256 := by simp [tbl]
theorem tbl_at (c : UInt8) : tbl[c.toNat]? = some c := by
 rw [tbl, List.getElem?_map, List.getElem?_range c.toNat_lt]
 simp
theorem tbl_get (c : UInt8) : tbl.getD c.toNat 0 = c := getD_of (tbl_at c)
section
variable {Q : CS} {s : Bs} {k : Nat} {c d : UInt8}
end
end Go.Proofs.YtienfdjfochlcaaGreatDoor
end
section
namespace Go.Proofs.YtienfdjfochlcaaGreatDoor
set_option linter.unusedVariables false
set_option linter.unusedSimpArgs false
set_option maxRecDepth 100000
set_option maxHeartbeats 4000000
theorem oct_nat (c : UInt8) : (48 + c / 64).toNat = 48 + c.toNat / 64 ∧ (48 + c / 8 % 8).toNat = 48 + c.toNat / 8 % 8 ∧ (48 + c % 8).toNat = 48 + c.toNat % 8 := by
 have hc := c.toNat_lt
 have e8 : (8 : UInt8).toNat = 8 := rfl
 have e64 : (64 : UInt8).toNat = 64 := rfl
 have e48 : (48 : UInt8).toNat = 48 := rfl
 refine ⟨?_, ?_, ?_⟩
 ·rw [UInt8.toNat_add, UInt8.toNat_div, e48, e64]; omega
 ·rw [UInt8.toNat_add, UInt8.toNat_mod, UInt8.toNat_div, e48, e8]; omega
 ·rw [UInt8.toNat_add, UInt8.toNat_mod, e48, e8]; omega
theorem ocD_at {s : Bs} {v n : Nat} {c : UInt8} (h : s[n]? = some c) (h1 : 48 ≤ c.toNat ∧ c.toNat ≤ 55 ∧ 8 * v + (c.toNat - 48) < 256) : ocD s v n = some (8 * v + (c.toNat - 48)) := by
 simp only [ocD, h]; rw [if_pos h1]
theorem chS_octB (c : UInt8) (r : Bs) : chS (octB c ++ r) = (c, 4) := by
 obtain ⟨e1, e2, e3⟩ := oct_nat c
 have hc := c.toNat_lt
 have g : ocG (octB c ++ r) 3 0 1 = (c.toNat, 4) := by
  rw [ocG, ocD_at (c := 48 + c / 64) rfl (by rw [e1]; omega)]
  show ocG _ 2 _ 2 = _
  rw [ocG, ocD_at (c := 48 + c / 8 % 8) rfl (by rw [e1, e2]; omega)]
  show ocG _ 1 _ 3 = _
  rw [ocG, ocD_at (c := 48 + c % 8) rfl (by rw [e1, e2, e3]; omega)]
  show ocG _ 0 _ 4 = _
  rw [ocG, e1, e2, e3]
  congr 1
  omega
 rw [chS, if_neg (by simp [octB]), if_neg (by simp [octB]), g, if_pos (show 1 < 4 by decide)]
 congr 1
 exact UInt8.ofNat_toNat
def lvA (n : Bs) (W : List AV) (A B : Bs) : AV := .agg [strL n, .slice 1 W, strL A, strL B, .slice 5 [], .slice 2 []]
def OkR (r : Bs) : Prop := r = [] ∨ ∃ q, r = 92 :: q
theorem hp_no {r : Bs} (h : OkR r) {x : UInt8} (hx : x ≠ 92) (q : Bs) : Lib.hasPrefix r (x :: q) = false := by
 rcases h with rfl | ⟨p, rfl⟩
 ·rfl
 ·show (x == 92 && _) = false
  rw [show (x == 92) = false from by simpa using hx]; rfl
theorem OkR.oct (s : Bs) : OkR (octS s) := by
 cases s with
 | nil => exact .inl rfl
 | cons c r => exact .inr ⟨_, rfl⟩
section
variable {X : CallF}
theorem item_oct0 (hI : LibT X) (n : Bs) (W : List AV) (A B : Bs) (c : UInt8) (r t : Bs) (hr : OkR r) (hl : r.length ≤ 10000) (ht : 92 :: t = octB c ++ r) : (R FT X).f 58 [lvA n W A B, strL (92 :: t)] = some (.tuple [strL [c], strL r, intA 0]) := by
 have hm := maxLen_i64
 have hsl : t.length = 3 + r.length := by have := congrArg List.length ht; simp [octB] at this; omega
 have hO : OkR (92 :: t) := .inr ⟨_, rfl⟩
 have hd : List.drop 4 (List.take (92 :: t : Bs).length (92 :: t)) = r := by rw [List.take_of_length_le (Nat.le_refl _), ht]; rfl
 have p1 : (R FT X).f 96 [strL (92 :: t), strL [91, 58]] = some (boolA false) := by rw [hI.hp, hp_no hO (by decide)]
 have p2 : (R FT X).f 96 [strL (92 :: t), strL [91, 61]] = some (boolA false) := by rw [hI.hp, hp_no hO (by decide)]
 have p3 : (R FT X).f 96 [strL (List.drop 4 (List.take (92 :: t : Bs).length (92 :: t))), strL [45]] = some (boolA false) := by rw [hd, hI.hp, hp_no hr (by decide)]
 have ch : (R FT X).f 99 [strL (92 :: t)] = some (.tuple [u8A c, intA (4 : Nat)]) := by rw [char_run hI _ (by simp; omega), ht, chS_octB]
 refine R_wp ((Tr.c (boolA false) (Tr.b false (Tr.c (boolA false) (Tr.b false (Tr.yk 0 (92 : UInt8) (Tr.b false (Tr.c (AV.tuple [u8A c, intA (↑(4 : Nat) : Int)]) (Tr.b false (Tr.sl (4 : Nat) ((92 : UInt8) :: t).length (Tr.c (boolA false) (Tr.b false (Tr.bs [c] Tr.nil)).w).w)).w.w)).w).w).w).w).w).w.w) rfl ?_
 refine Eq.mpr (by kernel_rfl : _ = ((R FT X).f 96 [strL ((92 : UInt8) :: t), strL [(91 : UInt8), (58 : UInt8)]] = some (boolA false) ∧ false = false ∧ (R FT X).f 96 [strL ((92 : UInt8) :: t), strL [(91 : UInt8), (61 : UInt8)]] = some (boolA false) ∧ false = false ∧ (0 : Int) = 0 ∧ some (92 : UInt8) = some (92 : UInt8) ∧ false = false ∧ (R FT X).f 99 [strL ((92 : UInt8) :: t)] = some (AV.tuple [u8A c, intA (↑(4 : Nat) : Int)]) ∧ false = false ∧ (4 : Int) = 4 ∧ (↑((92 : UInt8) :: t).length : Int) = (↑((92 : UInt8) :: t).length : Int) ∧ (4 : Nat) ≤ ((92 : UInt8) :: t).length ∧ ((92 : UInt8) :: t).length ≤ ((92 : UInt8) :: t).length ∧ (R FT X).f 96 [strL (List.drop (4 : Nat) (List.take ((92 : UInt8) :: t).length ((92 : UInt8) :: t))), strL [(45 : UInt8)]] = some (boolA false) ∧ false = false ∧ (1 : Nat) = 1 ∧ some [UInt8.ofNat (↑c.toNat : Int).toNat] = some [c] ∧ [c] = [c] ∧ List.drop (4 : Nat) (List.take ((92 : UInt8) :: t).length ((92 : UInt8) :: t)) = r ∧ (0 : Int) = 0)) ?_
 refine ⟨(p1), rfl, (p2), rfl, rfl, rfl, rfl, (ch), rfl, rfl, rfl, (by simp; omega), (by omega), (p3), rfl, rfl, (by simp), rfl, ?_, rfl⟩
 exact hd
theorem octS_drop {s : Bs} {k : Nat} {c : UInt8} (h : s[k]? = some c) : octS (s.drop k) = octB c ++ octS (s.drop (k + 1)) := by
 rw [drop_get h]; rfl
theorem octS_len (s : Bs) : (octS s).length = 4 * s.length := by
 have := octS_take s s.length (Nat.le_refl _)
 rwa [List.take_of_length_le (Nat.le_refl _)] at this
theorem item_oct (hI : LibT X) (n : Bs) (W : List AV) (A B : Bs) (s : Bs) (hs : s.length ≤ 100) (k : Nat) (hk : k < s.length) : (R FT X).f 58 [lvA n W A B, strL (octS (s.drop k))] = some (.tuple [strL [s.getD k 0], strL (octS (s.drop (k + 1))), intA 0]) := by
 have h : s[k]? = some (s.getD k 0) := by rw [List.getD_eq_getElem?_getD, List.getElem?_eq_getElem hk]; rfl
 have e := octS_drop h
 rw [e]
 exact item_oct0 hI n W A B _ (octS (s.drop (k + 1))) _ (OkR.oct _) (by rw [octS_len, List.length_drop]; omega) rfl
theorem oct_or (s : Bs) (k : Nat) : k < s.length ∨ octS (s.drop k) = [] := by
 rcases Nat.lt_or_ge k s.length with q | q
 ·exact .inl q
 ·right; rw [List.drop_eq_nil_of_le q]; rfl
theorem expand_oct (hI : LibT X) (n : Bs) (W : List AV) (A B : Bs) (s : Bs) (hs : s.length ≤ 100) : (R FT X).f 25 [lvA n W A B, strL (octS s)] = some (.tuple [strL s, intA 0, intA 0]) := by
 have hm := maxLen_i64
 have it := fun k h => item_oct hI n W A B s hs k h
 have sl := octS_len s
 refine R_wp ((Tr.inv (fun (k : Nat) ↦ St.mk [(1, strL (octS s)), (2, AV.ptr 0 0), (7, strL (List.take k s)), (8, strL (octS (List.drop k s)))] [MObj.box 26 [strL n, AV.slice 1 W, strL A, strL B, AV.slice 5 [], AV.slice 2 []]]) (fun (k : Nat) ↦ k ≤ List.length s) (fun (k : Nat) ↦ List.length s - k) fun (k : Nat) ↦ ((Tr.c (AV.tuple [strL [List.getD s k (0 : UInt8)], strL (octS (List.drop (k + 1) s)), intA 0]) (Tr.b true ((Tr.b true Tr.nil).w.w.br (Tr.b false Tr.nil.w).w.w).w.w).w).w.w.br Tr.nil).w).w) rfl ?_
 refine Eq.mpr (by kernel_rfl : _ = ((∃ (j1 : Nat), ((octS s = octS s ∧ True ∧ [] = List.take j1 s ∧ octS s = octS (List.drop j1 s) ∧ True) ∧ n = n ∧ W = W ∧ A = A ∧ B = B ∧ @List.nil AV = [] ∧ @List.nil AV = []) ∧ j1 ≤ List.length s) ∧ ∀ (k : Nat), k ≤ List.length s → ((!decide (octS (List.drop k s) = [])) = true → InI64 ((↑(List.length (octS s)) : Int) - (↑(List.length (octS (List.drop k s))) : Int)) ∧ (R FT X).f 58 [lvA n W A B, strL (octS (List.drop k s))] = some (AV.tuple [strL [List.getD s k (0 : UInt8)], strL (octS (List.drop (k + 1) s)), intA 0]) ∧ true = true ∧ InI64 ((↑(List.take k s).length : Int) + (↑[List.getD s k (0 : UInt8)].length : Int)) ∧ (decide ((4096 : Int) < (↑(List.take k s).length : Int) + (↑[List.getD s k (0 : UInt8)].length : Int)) = true → true = true ∧ [] = s ∧ (3 : Int) = 0 ∧ (↑(List.length (octS s)) : Int) - (↑(List.length (octS (List.drop k s))) : Int) = 0) ∧ (decide ((4096 : Int) < (↑(List.take k s).length : Int) + (↑[List.getD s k (0 : UInt8)].length : Int)) = false → false = false ∧ (List.take k s).length + [List.getD s k (0 : UInt8)].length ≤ 9223372036854775807 ∧ ∃ (j6 : Nat), ((octS s = octS s ∧ True ∧ List.take k s ++ [List.getD s
 k (0 : UInt8)] = List.take j6 s ∧ octS (List.drop (k + 1) s) = octS (List.drop j6 s) ∧ True) ∧ n = n ∧ W = W ∧ A = A ∧ B = B ∧ @List.nil AV = [] ∧ @List.nil AV = []) ∧ j6 ≤ List.length s ∧ List.length s - j6 < List.length s - k)) ∧ ((!decide (octS (List.drop k s) = [])) = false → List.take k s = s ∧ (0 : Int) = 0 ∧ (0 : Int) = 0))) ?_
 refine ⟨?_, fun k => fun h2 => ⟨fun h3_ => have h3 := dnT h3_; ⟨?_, (it _ ?_), rfl, ?_, fun h4_ => have h4 := dT h4_; ⟨rfl, ?_, ?_, ?_⟩, fun h5_ => have h5 := dF h5_; ⟨rfl, (by omega), ⟨k + (1 : Nat), ⟨⟨rfl, trivial, ?_, rfl, trivial⟩, rfl, rfl, rfl, rfl, rfl, rfl⟩, ⟨?_, ?_⟩⟩⟩⟩, fun h7_ => have h7 := dnF h7_; ⟨?_, rfl, rfl⟩⟩⟩
 ·(refine ⟨(0), ?_⟩; repeat' (refine And.intro ?_ ?_); all_goals first | rfl | trivial | omega | (simp; done) | (simp; omega) | skip)
 all_goals have sd := octS_len (s.drop k)
 all_goals have hk := oct_or s k
 all_goals rw [List.length_drop] at sd
 all_goals try replace hk := hk.resolve_right h3
 all_goals try (have ht : (List.take k s).length = k := (by rw [List.length_take]; omega); have h1 : ([List.getD s k 0] : Bs).length = 1 := rfl)
 all_goals first
  | omega
  | (unfold InI64; omega)
  | (exfalso; omega)
  | exact (take_succ_get (show s[k]? = some (s.getD k 0) by rw [List.getD_eq_getElem?_getD, List.getElem?_eq_getElem hk]; rfl)).symm
  | (rw [h7, List.length_nil] at sd; exact List.take_of_length_le (by omega))
end
end Go.Proofs.YtienfdjfochlcaaGreatDoor
end
section
namespace Go.Proofs.YtienfdjfochlcaaGreatDoor
set_option linter.unusedVariables false
set_option linter.unusedSimpArgs false
set_option maxRecDepth 100000
set_option maxHeartbeats 4000000
section
variable {X : CallF}
theorem grow_run (D : CS) (M : Bs) (Q : CS) (a : Bool) (c : UInt8) (n : Nat) (hn : n ≤ 2000) : (R FT X).m 112 [.val (.slice none 0 0), intA n] [boxSp D M Q, boxSp D M Q, boxT D M Q a c] = some (.row 3 1 0 0 0, [boxSp D M Q, boxSp D M Q, boxT D M Q a c, .row 1 1 [] true 7]) := by
 have hm := maxLen_i64
 refine RM_wp ((Tr.b false ((Tr.k ((↑n : Int) - ((0 : Int) - (↑(@List.nil AV).length : Int))).toNat Tr.nil.w).br Tr.nil).w.w.w.w).w.w) rfl ?_
 refine Eq.mpr (by kernel_rfl : _ = (false = false ∧ InI64 0 ∧ InI64 ((↑n : Int) - ((0 : Int) - (↑(@List.nil AV).length : Int))) ∧ (decide ((0 : Int) < (↑n : Int) - ((0 : Int) - (↑(@List.nil AV).length : Int))) = true → (↑n : Int) - ((0 : Int) - (↑(@List.nil AV).length : Int)) = (↑((↑n : Int) - ((0 : Int) - (↑(@List.nil AV).length : Int))).toNat : Int) ∧ (0 : Nat) < ((↑n : Int) - ((0 : Int) - (↑(@List.nil AV).length : Int))).toNat ∧ ((↑n : Int) - ((0 : Int) - (↑(@List.nil AV).length : Int))).toNat ≤ 1000000000 ∧ ((List.replicate ((↑n : Int) - ((0 : Int) - (↑(@List.nil AV).length : Int))).toNat (u8A (0 : UInt8))).length = ((↑n : Int) - ((0 : Int) - (↑(@List.nil AV).length : Int))).toNat ∧ (0 : Nat) = 0 ∧ (0 : Nat) ≤ ((↑n : Int) - ((0 : Int) - (↑(@List.nil AV).length : Int))).toNat) ∧ ((0 : Nat) = 0 ∧ (0 : Nat) = 0 ∧ (0 : Nat) = 0) ∧ ((↑(wd D (0 : Nat)).toNat : Int) = (↑(wd D (0 : Nat)).toNat : Int) ∧ (↑(wd D (1 : Nat)).toNat : Int) = (↑(wd D (1 : Nat)).toNat : Int) ∧ (↑(wd D (2 : Nat)).toNat : Int) = (↑(wd D (2 : Nat)).toNat : Int) ∧ (↑(wd D (3 : Nat)).toNat : Int) = (↑(wd D (3 : Nat)).toNat : Int) ∧ M = M ∧ (↑(wd Q (0 : Nat)).toNat : Int) = (↑(wd Q (0 : Nat)).toNat : Int)
 ∧ (↑(wd Q (1 : Nat)).toNat : Int) = (↑(wd Q (1 : Nat)).toNat : Int) ∧ (↑(wd Q (2 : Nat)).toNat : Int) = (↑(wd Q (2 : Nat)).toNat : Int) ∧ (↑(wd Q (3 : Nat)).toNat : Int) = (↑(wd Q (3 : Nat)).toNat : Int)) ∧ ((↑(wd D (0 : Nat)).toNat : Int) = (↑(wd D (0 : Nat)).toNat : Int) ∧ (↑(wd D (1 : Nat)).toNat : Int) = (↑(wd D (1 : Nat)).toNat : Int) ∧ (↑(wd D (2 : Nat)).toNat : Int) = (↑(wd D (2 : Nat)).toNat : Int) ∧ (↑(wd D (3 : Nat)).toNat : Int) = (↑(wd D (3 : Nat)).toNat : Int) ∧ M = M ∧ (↑(wd Q (0 : Nat)).toNat : Int) = (↑(wd Q (0 : Nat)).toNat : Int) ∧ (↑(wd Q (1 : Nat)).toNat : Int) = (↑(wd Q (1 : Nat)).toNat : Int) ∧ (↑(wd Q (2 : Nat)).toNat : Int) = (↑(wd Q (2 : Nat)).toNat : Int) ∧ (↑(wd Q (3 : Nat)).toNat : Int) = (↑(wd Q (3 : Nat)).toNat : Int)) ∧ List.map u8A M ++ [w64 (wd D (0 : Nat)), w64 (wd D (1 : Nat)), w64 (wd D (2 : Nat)), w64 (wd D (3 : Nat)), strL M, w64 (wd Q (0 : Nat)), w64 (wd Q (1 : Nat)), w64 (wd Q (2 : Nat)), w64 (wd Q (3 : Nat)), boolA true, boolA a, u8A c] = List.map u8A M ++ [w64 (wd D (0 : Nat)), w64 (wd D (1 : Nat)), w64 (wd D (2 : Nat)), w64 (wd D (3 : Nat)), strL M, w64 (wd Q (0 : Nat)), w64 (wd Q (1 : Nat)), w64 (wd Q (2 : Nat)), w64 (wd Q (3 : Nat)), boolA
 true, boolA a, u8A c] ∧ List.take (↑(@List.nil AV).length : Int).toNat (List.replicate ((↑n : Int) - ((0 : Int) - (↑(@List.nil AV).length : Int))).toNat (u8A (0 : UInt8))) = []) ∧ (decide ((0 : Int) < (↑n : Int) - ((0 : Int) - (↑(@List.nil AV).length : Int))) = false → ((0 : Nat) = 0 ∧ (0 : Nat) = 0 ∧ (0 : Nat) = 0) ∧ ((↑(wd D (0 : Nat)).toNat : Int) = (↑(wd D (0 : Nat)).toNat : Int) ∧ (↑(wd D (1 : Nat)).toNat : Int) = (↑(wd D (1 : Nat)).toNat : Int) ∧ (↑(wd D (2 : Nat)).toNat : Int) = (↑(wd D (2 : Nat)).toNat : Int) ∧ (↑(wd D (3 : Nat)).toNat : Int) = (↑(wd D (3 : Nat)).toNat : Int) ∧ M = M ∧ (↑(wd Q (0 : Nat)).toNat : Int) = (↑(wd Q (0 : Nat)).toNat : Int) ∧ (↑(wd Q (1 : Nat)).toNat : Int) = (↑(wd Q (1 : Nat)).toNat : Int) ∧ (↑(wd Q (2 : Nat)).toNat : Int) = (↑(wd Q (2 : Nat)).toNat : Int) ∧ (↑(wd Q (3 : Nat)).toNat : Int) = (↑(wd Q (3 : Nat)).toNat : Int)) ∧ ((↑(wd D (0 : Nat)).toNat : Int) = (↑(wd D (0 : Nat)).toNat : Int) ∧ (↑(wd D (1 : Nat)).toNat : Int) = (↑(wd D (1 : Nat)).toNat : Int) ∧ (↑(wd D (2 : Nat)).toNat : Int) = (↑(wd D (2 : Nat)).toNat : Int) ∧ (↑(wd D (3 : Nat)).toNat : Int) = (↑(wd D (3 : Nat)).toNat : Int) ∧ M = M ∧ (↑(wd Q (0 : Nat)).toNat
 : Int) = (↑(wd Q (0 : Nat)).toNat : Int) ∧ (↑(wd Q (1 : Nat)).toNat : Int) = (↑(wd Q (1 : Nat)).toNat : Int) ∧ (↑(wd Q (2 : Nat)).toNat : Int) = (↑(wd Q (2 : Nat)).toNat : Int) ∧ (↑(wd Q (3 : Nat)).toNat : Int) = (↑(wd Q (3 : Nat)).toNat : Int)) ∧ List.map u8A M ++ [w64 (wd D (0 : Nat)), w64 (wd D (1 : Nat)), w64 (wd D (2 : Nat)), w64 (wd D (3 : Nat)), strL M, w64 (wd Q (0 : Nat)), w64 (wd Q (1 : Nat)), w64 (wd Q (2 : Nat)), w64 (wd Q (3 : Nat)), boolA true, boolA a, u8A c] = List.map u8A M ++ [w64 (wd D (0 : Nat)), w64 (wd D (1 : Nat)), w64 (wd D (2 : Nat)), w64 (wd D (3 : Nat)), strL M, w64 (wd Q (0 : Nat)), w64 (wd Q (1 : Nat)), w64 (wd Q (2 : Nat)), w64 (wd Q (3 : Nat)), boolA true, boolA a, u8A c] ∧ @List.nil AV = []))) ?_
 refine ⟨rfl, (by unfold InI64; omega), ?_, fun h1_ => have h1 := dT h1_; ⟨(by omega), (by omega), (by simp; omega), ⟨(by simp), rfl, (by omega)⟩, ⟨rfl, rfl, rfl⟩, ⟨rfl, rfl, rfl, rfl, rfl, rfl, rfl, rfl, rfl⟩, ⟨rfl, rfl, rfl, rfl, rfl, rfl, rfl, rfl, rfl⟩, rfl, rfl⟩, fun h2_ => have h2 := dF h2_; ⟨⟨rfl, rfl, rfl⟩, ⟨rfl, rfl, rfl, rfl, rfl, rfl, rfl, rfl, rfl⟩, ⟨rfl, rfl, rfl, rfl, rfl, rfl, rfl, rfl, rfl⟩, rfl, rfl⟩⟩
 show InI64 ((n : Int) - (0 - (0 : Nat)))
 unfold InI64; omega
theorem feed_run (D : CS) (M : Bs) (Q : CS) (h : M.length = 256) (l : Option UInt8) (s : Bs) (hs : s.length ≤ 2000) : (R FT X).m 73 [.ptr 2 0, strL s] [boxSp D M Q, boxSp D M Q, boxT D M Q (lastA l) (lastC l)] = some (strL (fdO D Q M l s), [boxSp D M Q, boxSp D M Q, boxT D M Q (lastA (fdL D Q M l s)) (lastC (fdL D Q M l s)), .row 1 1 ((fdO D Q M l s).map u8A) true 7]) := by
 have hm := maxLen_i64
 have hs1 := has_run (X := X)
 have hg := fun a c n hn => grow_run (X := X) D M Q a c n hn
 refine RM_wp ((Tr.b false (Tr.g [boolA true] (Tr.b false (Tr.cm (AV.row 3 1 (0 : Nat) (0 : Nat) (0 : Nat)) [MObj.box 54 [AV.val (Value.int IntKind.u64 (↑(wd D (0 : Nat)).toNat : Int)), AV.val (Value.int IntKind.u64 (↑(wd D (1 : Nat)).toNat : Int)), AV.val (Value.int IntKind.u64 (↑(wd D (2 : Nat)).toNat : Int)), AV.val (Value.int IntKind.u64 (↑(wd D (3 : Nat)).toNat : Int)), strL M, AV.val (Value.int IntKind.u64 (↑(wd Q (0 : Nat)).toNat : Int)), AV.val (Value.int IntKind.u64 (↑(wd Q (1 : Nat)).toNat : Int)), AV.val (Value.int IntKind.u64 (↑(wd Q (2 : Nat)).toNat : Int)), AV.val (Value.int IntKind.u64 (↑(wd Q (3 : Nat)).toNat : Int))], MObj.box 54 [AV.val (Value.int IntKind.u64 (↑(wd D (0 : Nat)).toNat : Int)), AV.val (Value.int IntKind.u64 (↑(wd D (1 : Nat)).toNat : Int)), AV.val (Value.int IntKind.u64 (↑(wd D (2 : Nat)).toNat : Int)), AV.val (Value.int IntKind.u64 (↑(wd D (3 : Nat)).toNat : Int)), strL M, AV.val (Value.int IntKind.u64 (↑(wd Q (0 : Nat)).toNat : Int)), AV.val (Value.int IntKind.u64 (↑(wd Q (1 : Nat)).toNat : Int)), AV.val (Value.int IntKind.u64 (↑(wd Q (2 : Nat)).toNat : Int)), AV.val (Value.int IntKind.u64 (↑(wd Q (3 : Nat)).toNat : Int))], MObj.box
 (155 : Nat) (List.map u8A M ++ [w64 (wd D (0 : Nat)), w64 (wd D (1 : Nat)), w64 (wd D (2 : Nat)), w64 (wd D (3 : Nat)), strL M, w64 (wd Q (0 : Nat)), w64 (wd Q (1 : Nat)), w64 (wd Q (2 : Nat)), w64 (wd Q (3 : Nat)), boolA true, boolA (lastA l), u8A (lastC l)]), MObj.row 1 1 [] true (7 : Nat)] (Tr.inv (fun (k : Nat) ↦ St.mk [(0, AV.ptr 2 0), (1, strL s), (5, AV.row 3 1 (List.length (fdO D Q M l (List.take k s))) (0 : Nat) (List.length (fdO D Q M l (List.take k s)))), (21, intA (↑(List.length s) : Int)), (22, intA (↑k : Int))] [boxSp D M Q, boxSp D M Q, boxT D M Q (lastA (fdL D Q M l (List.take k s))) (lastC (fdL D Q M l (List.take k s))), MObj.row 1 1 (List.map u8A (fdO D Q M l (List.take k s))) true (7 : Nat)]) (fun (k : Nat) ↦ k ≤ List.length s) (fun (k : Nat) ↦ List.length s - k) fun (k : Nat) ↦ (Tr.g [w64 (wd D (0 : Nat)), w64 (wd D (1 : Nat)), w64 (wd D (2 : Nat)), w64 (wd D (3 : Nat))] (Tr.y k fun (c4 : UInt8) ↦ Tr.c (boolA (BitVec.getLsbD D c4.toNat)) (Tr.nil.w.br (Tr.y k fun (c9 : UInt8) ↦ Tr.k c9.toNat (Tr.ix u8A M (c9.toNat * 1) fun (x11 : UInt8) ↦ (Tr.g [boolA (lastA
 (fdL D Q M l (List.take k s)))] ((Tr.g [u8A (lastC (fdL D Q M l (List.take k s)))] ((Tr.g [w64 (wd Q (0 : Nat)), w64 (wd Q (1 : Nat)), w64 (wd Q (2 : Nat)), w64 (wd Q (3 : Nat))] (Tr.c (boolA (BitVec.getLsbD Q x11.toNat)) (Tr.nil.w.br (Tr.k (List.length (fdO D Q M l (List.take k s)) + 1) (Tr.g (List.map u8A M ++ [w64 (wd D (0 : Nat)), w64 (wd D (1 : Nat)), w64 (wd D (2 : Nat)), w64 (wd D (3 : Nat)), strL M, w64 (wd Q (0 : Nat)), w64 (wd Q (1 : Nat)), w64 (wd Q (2 : Nat)), w64 (wd Q (3 : Nat)), boolA true, boolA true, u8A (lastC (fdL D Q M l (List.take k s)))]) (Tr.g (List.map u8A M ++ [w64 (wd D (0 : Nat)), w64 (wd D (1 : Nat)), w64 (wd D (2 : Nat)), w64 (wd D (3 : Nat)), strL M, w64 (wd Q (0 : Nat)), w64 (wd Q (1 : Nat)), w64 (wd Q (2 : Nat)), w64 (wd Q (3 : Nat)), boolA true, boolA true, u8A x11]) Tr.nil.w)))))).br (Tr.b false (Tr.k (List.length (fdO D Q M l (List.take k s)) + 1) (Tr.g (List.map u8A M ++ [w64 (wd D (0 : Nat)), w64 (wd D (1 : Nat)), w64 (wd D (2 : Nat)), w64 (wd D (3 : Nat)), strL M, w64 (wd Q (0 : Nat)), w64 (wd Q (1 : Nat)), w64 (wd Q (2 : Nat)), w64 (wd Q (3 : Nat)), boolA true, boolA true, u8A (lastC (fdL D Q M l (List.take k s)))]) (Tr.g (List.map
 u8A M ++ [w64 (wd D (0 : Nat)), w64 (wd D (1 : Nat)), w64 (wd D (2 : Nat)), w64 (wd D (3 : Nat)), strL M, w64 (wd Q (0 : Nat)), w64 (wd Q (1 : Nat)), w64 (wd Q (2 : Nat)), w64 (wd Q (3 : Nat)), boolA true, boolA true, u8A x11]) Tr.nil.w)))))).br (Tr.b false (Tr.b false (Tr.k (List.length (fdO D Q M l (List.take k s)) + 1) (Tr.g (List.map u8A M ++ [w64 (wd D (0 : Nat)), w64 (wd D (1 : Nat)), w64 (wd D (2 : Nat)), w64 (wd D (3 : Nat)), strL M, w64 (wd Q (0 : Nat)), w64 (wd Q (1 : Nat)), w64 (wd Q (2 : Nat)), w64 (wd Q (3 : Nat)), boolA true, boolA true, u8A (lastC (fdL D Q M l (List.take k s)))]) (Tr.g (List.map u8A M ++ [w64 (wd D (0 : Nat)), w64 (wd D (1 : Nat)), w64 (wd D (2 : Nat)), w64 (wd D (3 : Nat)), strL M, w64 (wd Q (0 : Nat)), w64 (wd Q (1 : Nat)), w64 (wd Q (2 : Nat)), w64 (wd Q (3 : Nat)), boolA true, boolA true, u8A x11]) Tr.nil.w))))))).w))))).w.w.br (Tr.bs (fdO D Q M l (List.take k s)) Tr.nil)).w)).w)).w) rfl ?_
 refine Eq.mpr (by kernel_rfl : _ = (false = false ∧ (266 : Nat) ≤ (List.map u8A M ++ [w64 (wd D (0 : Nat)), w64 (wd D (1 : Nat)), w64 (wd D (2 : Nat)), w64 (wd D (3 : Nat)), strL M, w64 (wd Q (0 : Nat)), w64 (wd Q (1 : Nat)), w64 (wd Q (2 : Nat)), w64 (wd Q (3 : Nat)), boolA true, boolA (lastA l), u8A (lastC l)]).length ∧ List.take (1 : Nat) (List.drop ((0 : Nat) + 265) (List.map u8A M ++ [w64 (wd D (0 : Nat)), w64 (wd D (1 : Nat)), w64 (wd D (2 : Nat)), w64 (wd D (3 : Nat)), strL M, w64 (wd Q (0 : Nat)), w64 (wd Q (1 : Nat)), w64 (wd Q (2 : Nat)), w64 (wd Q (3 : Nat)), boolA true, boolA (lastA l), u8A (lastC l)])) = [boolA true] ∧ false = false ∧ (R FT X).m 112 [AV.val (Value.slice none (0 : Nat) (0 : Nat)), intA (↑(List.length s) : Int)] [boxSp D M Q, boxSp D M Q, boxT D M Q (lastA l) (lastC l)] = some (AV.row 3 1 (0 : Nat) (0 : Nat) (0 : Nat), [boxSp D M Q, boxSp D M Q, boxT D M Q (lastA l) (lastC l), MObj.row 1 1 [] true (7 : Nat)]) ∧ (∃ (j1 : Nat), ((True ∧ s = s ∧ ((0 : Nat) = List.length (fdO D Q M l (List.take j1 s)) ∧ (0 : Nat) = 0 ∧ (0 : Nat) = List.length (fdO D Q M l (List.take j1 s))) ∧ (↑(List.length s) : Int) = (↑(List.length s) : Int) ∧ (0 : Int)
 = (↑j1 : Int) ∧ True) ∧ ((↑(wd D (0 : Nat)).toNat : Int) = (↑(wd D (0 : Nat)).toNat : Int) ∧ (↑(wd D (1 : Nat)).toNat : Int) = (↑(wd D (1 : Nat)).toNat : Int) ∧ (↑(wd D (2 : Nat)).toNat : Int) = (↑(wd D (2 : Nat)).toNat : Int) ∧ (↑(wd D (3 : Nat)).toNat : Int) = (↑(wd D (3 : Nat)).toNat : Int) ∧ M = M ∧ (↑(wd Q (0 : Nat)).toNat : Int) = (↑(wd Q (0 : Nat)).toNat : Int) ∧ (↑(wd Q (1 : Nat)).toNat : Int) = (↑(wd Q (1 : Nat)).toNat : Int) ∧ (↑(wd Q (2 : Nat)).toNat : Int) = (↑(wd Q (2 : Nat)).toNat : Int) ∧ (↑(wd Q (3 : Nat)).toNat : Int) = (↑(wd Q (3 : Nat)).toNat : Int)) ∧ ((↑(wd D (0 : Nat)).toNat : Int) = (↑(wd D (0 : Nat)).toNat : Int) ∧ (↑(wd D (1 : Nat)).toNat : Int) = (↑(wd D (1 : Nat)).toNat : Int) ∧ (↑(wd D (2 : Nat)).toNat : Int) = (↑(wd D (2 : Nat)).toNat : Int) ∧ (↑(wd D (3 : Nat)).toNat : Int) = (↑(wd D (3 : Nat)).toNat : Int) ∧ M = M ∧ (↑(wd Q (0 : Nat)).toNat : Int) = (↑(wd Q (0 : Nat)).toNat : Int) ∧ (↑(wd Q (1 : Nat)).toNat : Int) = (↑(wd Q (1 : Nat)).toNat : Int) ∧ (↑(wd Q (2 : Nat)).toNat : Int) = (↑(wd Q (2 : Nat)).toNat : Int) ∧ (↑(wd Q (3 : Nat)).toNat : Int) = (↑(wd Q (3 : Nat)).toNat : Int)) ∧ List.map u8A M ++ [w64 (wd D (0 : Nat)), w64 (wd D (1 : Nat)), w64 (wd
 D (2 : Nat)), w64 (wd D (3 : Nat)), strL M, w64 (wd Q (0 : Nat)), w64 (wd Q (1 : Nat)), w64 (wd Q (2 : Nat)), w64 (wd Q (3 : Nat)), boolA true, boolA (lastA l), u8A (lastC l)] = List.map u8A M ++ [w64 (wd D (0 : Nat)), w64 (wd D (1 : Nat)), w64 (wd D (2 : Nat)), w64 (wd D (3 : Nat)), strL M, w64 (wd Q (0 : Nat)), w64 (wd Q (1 : Nat)), w64 (wd Q (2 : Nat)), w64 (wd Q (3 : Nat)), boolA true, boolA (lastA (fdL D Q M l (List.take j1 s))), u8A (lastC (fdL D Q M l (List.take j1 s)))] ∧ [] = List.map u8A (fdO D Q M l (List.take j1 s))) ∧ j1 ≤ List.length s) ∧ ∀ (k : Nat), k ≤ List.length s → (decide ((↑k : Int) < (↑(List.length s) : Int)) = true → (260 : Nat) ≤ (List.map u8A M ++ [w64 (wd D (0 : Nat)), w64 (wd D (1 : Nat)), w64 (wd D (2 : Nat)), w64 (wd D (3 : Nat)), strL M, w64 (wd Q (0 : Nat)), w64 (wd Q (1 : Nat)), w64 (wd Q (2 : Nat)), w64 (wd Q (3 : Nat)), boolA true, boolA (lastA (fdL D Q M l (List.take k s))), u8A (lastC (fdL D Q M l (List.take k s)))]).length ∧ List.take (4 : Nat) (List.drop ((0 : Nat) + 256 + (0 : Nat)) (List.map u8A M ++ [w64 (wd D (0 : Nat)), w64 (wd D (1 : Nat)), w64 (wd D (2 : Nat)), w64 (wd D (3 : Nat)), strL M, w64 (wd Q (0 : Nat)), w64 (wd Q (1 : Nat)),
 w64 (wd Q (2 : Nat)), w64 (wd Q (3 : Nat)), boolA true, boolA (lastA (fdL D Q M l (List.take k s))), u8A (lastC (fdL D Q M l (List.take k s)))])) = [AV.val (Value.int IntKind.u64 (↑(wd D (0 : Nat)).toNat : Int)), AV.val (Value.int IntKind.u64 (↑(wd D (1 : Nat)).toNat : Int)), AV.val (Value.int IntKind.u64 (↑(wd D (2 : Nat)).toNat : Int)), AV.val (Value.int IntKind.u64 (↑(wd D (3 : Nat)).toNat : Int))] ∧ (↑k : Int) = (↑k : Int) ∧ k < List.length s ∧ ∀ (c4 : UInt8), s[k]? = some c4 → (R FT X).f 91 [encCS D, u8A c4] = some (boolA (BitVec.getLsbD D c4.toNat)) ∧ (BitVec.getLsbD D c4.toNat = true → InI64 ((↑k : Int) + 1) ∧ ∃ (j7 : Nat), ((True ∧ s = s ∧ (List.length (fdO D Q M l (List.take k s)) = List.length (fdO D Q M l (List.take j7 s)) ∧ (0 : Nat) = 0 ∧ List.length (fdO D Q M l (List.take k s)) = List.length (fdO D Q M l (List.take j7 s))) ∧ (↑(List.length s) : Int) = (↑(List.length s) : Int) ∧ (↑k : Int) + 1 = (↑j7 : Int) ∧ True) ∧ ((↑(wd D (0 : Nat)).toNat : Int) = (↑(wd D (0 : Nat)).toNat : Int) ∧ (↑(wd D (1 : Nat)).toNat : Int) = (↑(wd D (1 : Nat)).toNat : Int) ∧ (↑(wd D (2 : Nat)).toNat : Int) = (↑(wd D (2 : Nat)).toNat : Int) ∧ (↑(wd D (3 : Nat)).toNat
 : Int) = (↑(wd D (3 : Nat)).toNat : Int) ∧ M = M ∧ (↑(wd Q (0 : Nat)).toNat : Int) = (↑(wd Q (0 : Nat)).toNat : Int) ∧ (↑(wd Q (1 : Nat)).toNat : Int) = (↑(wd Q (1 : Nat)).toNat : Int) ∧ (↑(wd Q (2 : Nat)).toNat : Int) = (↑(wd Q (2 : Nat)).toNat : Int) ∧ (↑(wd Q (3 : Nat)).toNat : Int) = (↑(wd Q (3 : Nat)).toNat : Int)) ∧ ((↑(wd D (0 : Nat)).toNat : Int) = (↑(wd D (0 : Nat)).toNat : Int) ∧ (↑(wd D (1 : Nat)).toNat : Int) = (↑(wd D (1 : Nat)).toNat : Int) ∧ (↑(wd D (2 : Nat)).toNat : Int) = (↑(wd D (2 : Nat)).toNat : Int) ∧ (↑(wd D (3 : Nat)).toNat : Int) = (↑(wd D (3 : Nat)).toNat : Int) ∧ M = M ∧ (↑(wd Q (0 : Nat)).toNat : Int) = (↑(wd Q (0 : Nat)).toNat : Int) ∧ (↑(wd Q (1 : Nat)).toNat : Int) = (↑(wd Q (1 : Nat)).toNat : Int) ∧ (↑(wd Q (2 : Nat)).toNat : Int) = (↑(wd Q (2 : Nat)).toNat : Int) ∧ (↑(wd Q (3 : Nat)).toNat : Int) = (↑(wd Q (3 : Nat)).toNat : Int)) ∧ List.map u8A M ++ [w64 (wd D (0 : Nat)), w64 (wd D (1 : Nat)), w64 (wd D (2 : Nat)), w64 (wd D (3 : Nat)), strL M, w64 (wd Q (0 : Nat)), w64 (wd Q (1 : Nat)), w64 (wd Q (2 : Nat)), w64 (wd Q (3 : Nat)), boolA true, boolA (lastA (fdL D Q M l (List.take k s))), u8A (lastC (fdL D Q M l (List.take k s)))] = List.map u8A M ++
 [w64 (wd D (0 : Nat)), w64 (wd D (1 : Nat)), w64 (wd D (2 : Nat)), w64 (wd D (3 : Nat)), strL M, w64 (wd Q (0 : Nat)), w64 (wd Q (1 : Nat)), w64 (wd Q (2 : Nat)), w64 (wd Q (3 : Nat)), boolA true, boolA (lastA (fdL D Q M l (List.take j7 s))), u8A (lastC (fdL D Q M l (List.take j7 s)))] ∧ List.map u8A (fdO D Q M l (List.take k s)) = List.map u8A (fdO D Q M l (List.take j7 s))) ∧ j7 ≤ List.length s ∧ List.length s - j7 < List.length s - k) ∧ (BitVec.getLsbD D c4.toNat = false → (↑k : Int) = (↑k : Int) ∧ k < List.length s ∧ ∀ (c9 : UInt8), s[k]? = some c9 → (↑c9.toNat : Int) = (↑c9.toNat : Int) ∧ c9.toNat < 256 ∧ List.take (List.length M) (List.drop (0 : Nat) (List.map u8A M ++ [w64 (wd D (0 : Nat)), w64 (wd D (1 : Nat)), w64 (wd D (2 : Nat)), w64 (wd D (3 : Nat)), strL M, w64 (wd Q (0 : Nat)), w64 (wd Q (1 : Nat)), w64 (wd Q (2 : Nat)), w64 (wd Q (3 : Nat)), boolA true, boolA (lastA (fdL D Q M l (List.take k s))), u8A (lastC (fdL D Q M l (List.take k s)))])) = List.map u8A M ∧ c9.toNat * 1 = c9.toNat * 1 ∧ c9.toNat * 1 < List.length M ∧ ∀ (x11 : UInt8), M[c9.toNat * 1]? = some x11 → (267 : Nat) ≤ (List.map u8A M ++ [w64 (wd D (0 : Nat)), w64 (wd
 D (1 : Nat)), w64 (wd D (2 : Nat)), w64 (wd D (3 : Nat)), strL M, w64 (wd Q (0 : Nat)), w64 (wd Q (1 : Nat)), w64 (wd Q (2 : Nat)), w64 (wd Q (3 : Nat)), boolA true, boolA (lastA (fdL D Q M l (List.take k s))), u8A (lastC (fdL D Q M l (List.take k s)))]).length ∧ List.take (1 : Nat) (List.drop ((0 : Nat) + 266) (List.map u8A M ++ [w64 (wd D (0 : Nat)), w64 (wd D (1 : Nat)), w64 (wd D (2 : Nat)), w64 (wd D (3 : Nat)), strL M, w64 (wd Q (0 : Nat)), w64 (wd Q (1 : Nat)), w64 (wd Q (2 : Nat)), w64 (wd Q (3 : Nat)), boolA true, boolA (lastA (fdL D Q M l (List.take k s))), u8A (lastC (fdL D Q M l (List.take k s)))])) = [boolA (lastA (fdL D Q M l (List.take k s)))] ∧ (lastA (fdL D Q M l (List.take k s)) = true → (268 : Nat) ≤ (List.map u8A M ++ [w64 (wd D (0 : Nat)), w64 (wd D (1 : Nat)), w64 (wd D (2 : Nat)), w64 (wd D (3 : Nat)), strL M, w64 (wd Q (0 : Nat)), w64 (wd Q (1 : Nat)), w64 (wd Q (2 : Nat)), w64 (wd Q (3 : Nat)), boolA true, boolA (lastA (fdL D Q M l (List.take k s))), u8A (lastC (fdL D Q M l (List.take k s)))]).length ∧ List.take (1 : Nat) (List.drop ((0 : Nat) + 267) (List.map u8A M ++ [w64 (wd D (0 : Nat)), w64 (wd D (1 : Nat)), w64 (wd D (2 : Nat)), w64 (wd
 D (3 : Nat)), strL M, w64 (wd Q (0 : Nat)), w64 (wd Q (1 : Nat)), w64 (wd Q (2 : Nat)), w64 (wd Q (3 : Nat)), boolA true, boolA (lastA (fdL D Q M l (List.take k s))), u8A (lastC (fdL D Q M l (List.take k s)))])) = [u8A (lastC (fdL D Q M l (List.take k s)))] ∧ (decide ((↑x11.toNat : Int) = (↑(lastC (fdL D Q M l (List.take k s))).toNat : Int)) = true → (265 : Nat) ≤ (List.map u8A M ++ [w64 (wd D (0 : Nat)), w64 (wd D (1 : Nat)), w64 (wd D (2 : Nat)), w64 (wd D (3 : Nat)), strL M, w64 (wd Q (0 : Nat)), w64 (wd Q (1 : Nat)), w64 (wd Q (2 : Nat)), w64 (wd Q (3 : Nat)), boolA true, boolA (lastA (fdL D Q M l (List.take k s))), u8A (lastC (fdL D Q M l (List.take k s)))]).length ∧ List.take (4 : Nat) (List.drop ((0 : Nat) + 256 + (5 : Nat)) (List.map u8A M ++ [w64 (wd D (0 : Nat)), w64 (wd D (1 : Nat)), w64 (wd D (2 : Nat)), w64 (wd D (3 : Nat)), strL M, w64 (wd Q (0 : Nat)), w64 (wd Q (1 : Nat)), w64 (wd Q (2 : Nat)), w64 (wd Q (3 : Nat)), boolA true, boolA (lastA (fdL D Q M l (List.take k s))), u8A (lastC (fdL D Q M l (List.take k s)))])) = [AV.val (Value.int IntKind.u64 (↑(wd Q (0 : Nat)).toNat : Int)), AV.val (Value.int IntKind.u64 (↑(wd Q (1 : Nat)).toNat : Int)), AV.val (Value.int
 IntKind.u64 (↑(wd Q (2 : Nat)).toNat : Int)), AV.val (Value.int IntKind.u64 (↑(wd Q (3 : Nat)).toNat : Int))] ∧ (R FT X).f 91 [encCS Q, u8A x11] = some (boolA (BitVec.getLsbD Q x11.toNat)) ∧ (BitVec.getLsbD Q x11.toNat = true → InI64 ((↑k : Int) + 1) ∧ ∃ (j16 : Nat), ((True ∧ s = s ∧ (List.length (fdO D Q M l (List.take k s)) = List.length (fdO D Q M l (List.take j16 s)) ∧ (0 : Nat) = 0 ∧ List.length (fdO D Q M l (List.take k s)) = List.length (fdO D Q M l (List.take j16 s))) ∧ (↑(List.length s) : Int) = (↑(List.length s) : Int) ∧ (↑k : Int) + 1 = (↑j16 : Int) ∧ True) ∧ ((↑(wd D (0 : Nat)).toNat : Int) = (↑(wd D (0 : Nat)).toNat : Int) ∧ (↑(wd D (1 : Nat)).toNat : Int) = (↑(wd D (1 : Nat)).toNat : Int) ∧ (↑(wd D (2 : Nat)).toNat : Int) = (↑(wd D (2 : Nat)).toNat : Int) ∧ (↑(wd D (3 : Nat)).toNat : Int) = (↑(wd D (3 : Nat)).toNat : Int) ∧ M = M ∧ (↑(wd Q (0 : Nat)).toNat : Int) = (↑(wd Q (0 : Nat)).toNat : Int) ∧ (↑(wd Q (1 : Nat)).toNat : Int) = (↑(wd Q (1 : Nat)).toNat : Int) ∧ (↑(wd Q (2 : Nat)).toNat : Int) = (↑(wd Q (2 : Nat)).toNat : Int) ∧ (↑(wd Q (3 : Nat)).toNat : Int) = (↑(wd Q (3 : Nat)).toNat : Int)) ∧ ((↑(wd D (0 : Nat)).toNat : Int) =
 (↑(wd D (0 : Nat)).toNat : Int) ∧ (↑(wd D (1 : Nat)).toNat : Int) = (↑(wd D (1 : Nat)).toNat : Int) ∧ (↑(wd D (2 : Nat)).toNat : Int) = (↑(wd D (2 : Nat)).toNat : Int) ∧ (↑(wd D (3 : Nat)).toNat : Int) = (↑(wd D (3 : Nat)).toNat : Int) ∧ M = M ∧ (↑(wd Q (0 : Nat)).toNat : Int) = (↑(wd Q (0 : Nat)).toNat : Int) ∧ (↑(wd Q (1 : Nat)).toNat : Int) = (↑(wd Q (1 : Nat)).toNat : Int) ∧ (↑(wd Q (2 : Nat)).toNat : Int) = (↑(wd Q (2 : Nat)).toNat : Int) ∧ (↑(wd Q (3 : Nat)).toNat : Int) = (↑(wd Q (3 : Nat)).toNat : Int)) ∧ List.map u8A M ++ [w64 (wd D (0 : Nat)), w64 (wd D (1 : Nat)), w64 (wd D (2 : Nat)), w64 (wd D (3 : Nat)), strL M, w64 (wd Q (0 : Nat)), w64 (wd Q (1 : Nat)), w64 (wd Q (2 : Nat)), w64 (wd Q (3 : Nat)), boolA true, boolA (lastA (fdL D Q M l (List.take k s))), u8A (lastC (fdL D Q M l (List.take k s)))] = List.map u8A M ++ [w64 (wd D (0 : Nat)), w64 (wd D (1 : Nat)), w64 (wd D (2 : Nat)), w64 (wd D (3 : Nat)), strL M, w64 (wd Q (0 : Nat)), w64 (wd Q (1 : Nat)), w64 (wd Q (2 : Nat)), w64 (wd Q (3 : Nat)), boolA true, boolA (lastA (fdL D Q M l (List.take j16 s))), u8A (lastC (fdL D Q M l (List.take j16 s)))] ∧ List.map u8A (fdO D Q M l (List.take k s)) = List.map u8A (fdO D Q M
 l (List.take j16 s))) ∧ j16 ≤ List.length s ∧ List.length s - j16 < List.length s - k) ∧ (BitVec.getLsbD Q x11.toNat = false → (List.map u8A (fdO D Q M l (List.take k s))).length = List.length (fdO D Q M l (List.take k s)) ∧ (0 : Nat) = 0 ∧ List.length (fdO D Q M l (List.take k s)) = List.length (fdO D Q M l (List.take k s)) ∧ List.length (fdO D Q M l (List.take k s)) + [u8A x11].length = List.length (fdO D Q M l (List.take k s)) + 1 ∧ (List.length (fdO D Q M l (List.take k s)) + 1) * 1 ≤ (140737488355328 : Nat) ∧ List.length (fdO D Q M l (List.take k s)) + 1 ≤ (9223372036854775807 : Nat) ∧ (267 : Nat) ≤ (List.map u8A M ++ [w64 (wd D (0 : Nat)), w64 (wd D (1 : Nat)), w64 (wd D (2 : Nat)), w64 (wd D (3 : Nat)), strL M, w64 (wd Q (0 : Nat)), w64 (wd Q (1 : Nat)), w64 (wd Q (2 : Nat)), w64 (wd Q (3 : Nat)), boolA true, boolA (lastA (fdL D Q M l (List.take k s))), u8A (lastC (fdL D Q M l (List.take k s)))]).length ∧ setAt (List.map u8A M ++ [w64 (wd D (0 : Nat)), w64 (wd D (1 : Nat)), w64 (wd D (2 : Nat)), w64 (wd D (3 : Nat)), strL M, w64 (wd Q (0 : Nat)), w64 (wd Q (1 : Nat)), w64 (wd Q (2 : Nat)), w64 (wd Q (3 : Nat)), boolA true, boolA (lastA
 (fdL D Q M l (List.take k s))), u8A (lastC (fdL D Q M l (List.take k s)))]) ((0 : Nat) + 266) (boolA true).cells = List.map u8A M ++ [w64 (wd D (0 : Nat)), w64 (wd D (1 : Nat)), w64 (wd D (2 : Nat)), w64 (wd D (3 : Nat)), strL M, w64 (wd Q (0 : Nat)), w64 (wd Q (1 : Nat)), w64 (wd Q (2 : Nat)), w64 (wd Q (3 : Nat)), boolA true, boolA true, u8A (lastC (fdL D Q M l (List.take k s)))] ∧ (268 : Nat) ≤ (List.map u8A M ++ [w64 (wd D (0 : Nat)), w64 (wd D (1 : Nat)), w64 (wd D (2 : Nat)), w64 (wd D (3 : Nat)), strL M, w64 (wd Q (0 : Nat)), w64 (wd Q (1 : Nat)), w64 (wd Q (2 : Nat)), w64 (wd Q (3 : Nat)), boolA true, boolA true, u8A (lastC (fdL D Q M l (List.take k s)))]).length ∧ setAt (List.map u8A M ++ [w64 (wd D (0 : Nat)), w64 (wd D (1 : Nat)), w64 (wd D (2 : Nat)), w64 (wd D (3 : Nat)), strL M, w64 (wd Q (0 : Nat)), w64 (wd Q (1 : Nat)), w64 (wd Q (2 : Nat)), w64 (wd Q (3 : Nat)), boolA true, boolA true, u8A (lastC (fdL D Q M l (List.take k s)))]) ((0 : Nat) + 267) (u8A x11).cells = List.map u8A M ++ [w64 (wd D (0 : Nat)), w64 (wd D (1 : Nat)), w64 (wd D (2 : Nat)), w64 (wd D (3 : Nat)), strL M, w64 (wd Q (0 : Nat)), w64 (wd Q (1 : Nat)), w64 (wd Q (2 : Nat)), w64 (wd
 Q (3 : Nat)), boolA true, boolA true, u8A x11] ∧ InI64 ((↑k : Int) + 1) ∧ ∃ (j18 : Nat), ((True ∧ s = s ∧ (List.length (fdO D Q M l (List.take k s)) + 1 = List.length (fdO D Q M l (List.take j18 s)) ∧ (0 : Nat) = 0 ∧ List.length (fdO D Q M l (List.take k s)) + 1 = List.length (fdO D Q M l (List.take j18 s))) ∧ (↑(List.length s) : Int) = (↑(List.length s) : Int) ∧ (↑k : Int) + 1 = (↑j18 : Int) ∧ True) ∧ ((↑(wd D (0 : Nat)).toNat : Int) = (↑(wd D (0 : Nat)).toNat : Int) ∧ (↑(wd D (1 : Nat)).toNat : Int) = (↑(wd D (1 : Nat)).toNat : Int) ∧ (↑(wd D (2 : Nat)).toNat : Int) = (↑(wd D (2 : Nat)).toNat : Int) ∧ (↑(wd D (3 : Nat)).toNat : Int) = (↑(wd D (3 : Nat)).toNat : Int) ∧ M = M ∧ (↑(wd Q (0 : Nat)).toNat : Int) = (↑(wd Q (0 : Nat)).toNat : Int) ∧ (↑(wd Q (1 : Nat)).toNat : Int) = (↑(wd Q (1 : Nat)).toNat : Int) ∧ (↑(wd Q (2 : Nat)).toNat : Int) = (↑(wd Q (2 : Nat)).toNat : Int) ∧ (↑(wd Q (3 : Nat)).toNat : Int) = (↑(wd Q (3 : Nat)).toNat : Int)) ∧ ((↑(wd D (0 : Nat)).toNat : Int) = (↑(wd D (0 : Nat)).toNat : Int) ∧ (↑(wd D (1 : Nat)).toNat : Int) = (↑(wd D (1 : Nat)).toNat : Int) ∧ (↑(wd D (2 : Nat)).toNat : Int) = (↑(wd D (2 : Nat)).toNat : Int)
 ∧ (↑(wd D (3 : Nat)).toNat : Int) = (↑(wd D (3 : Nat)).toNat : Int) ∧ M = M ∧ (↑(wd Q (0 : Nat)).toNat : Int) = (↑(wd Q (0 : Nat)).toNat : Int) ∧ (↑(wd Q (1 : Nat)).toNat : Int) = (↑(wd Q (1 : Nat)).toNat : Int) ∧ (↑(wd Q (2 : Nat)).toNat : Int) = (↑(wd Q (2 : Nat)).toNat : Int) ∧ (↑(wd Q (3 : Nat)).toNat : Int) = (↑(wd Q (3 : Nat)).toNat : Int)) ∧ List.map u8A M ++ [w64 (wd D (0 : Nat)), w64 (wd D (1 : Nat)), w64 (wd D (2 : Nat)), w64 (wd D (3 : Nat)), strL M, w64 (wd Q (0 : Nat)), w64 (wd Q (1 : Nat)), w64 (wd Q (2 : Nat)), w64 (wd Q (3 : Nat)), boolA true, boolA true, u8A x11] = List.map u8A M ++ [w64 (wd D (0 : Nat)), w64 (wd D (1 : Nat)), w64 (wd D (2 : Nat)), w64 (wd D (3 : Nat)), strL M, w64 (wd Q (0 : Nat)), w64 (wd Q (1 : Nat)), w64 (wd Q (2 : Nat)), w64 (wd Q (3 : Nat)), boolA true, boolA (lastA (fdL D Q M l (List.take j18 s))), u8A (lastC (fdL D Q M l (List.take j18 s)))] ∧ List.map u8A (fdO D Q M l (List.take k s)) ++ [u8A x11] = List.map u8A (fdO D Q M l (List.take j18 s))) ∧ j18 ≤ List.length s ∧ List.length s - j18 < List.length s - k)) ∧ (decide ((↑x11.toNat : Int) = (↑(lastC (fdL D Q M l (List.take k s))).toNat : Int)) = false → false = false ∧ (List.map u8A (fdO D
 Q M l (List.take k s))).length = List.length (fdO D Q M l (List.take k s)) ∧ (0 : Nat) = 0 ∧ List.length (fdO D Q M l (List.take k s)) = List.length (fdO D Q M l (List.take k s)) ∧ List.length (fdO D Q M l (List.take k s)) + [u8A x11].length = List.length (fdO D Q M l (List.take k s)) + 1 ∧ (List.length (fdO D Q M l (List.take k s)) + 1) * 1 ≤ (140737488355328 : Nat) ∧ List.length (fdO D Q M l (List.take k s)) + 1 ≤ (9223372036854775807 : Nat) ∧ (267 : Nat) ≤ (List.map u8A M ++ [w64 (wd D (0 : Nat)), w64 (wd D (1 : Nat)), w64 (wd D (2 : Nat)), w64 (wd D (3 : Nat)), strL M, w64 (wd Q (0 : Nat)), w64 (wd Q (1 : Nat)), w64 (wd Q (2 : Nat)), w64 (wd Q (3 : Nat)), boolA true, boolA (lastA (fdL D Q M l (List.take k s))), u8A (lastC (fdL D Q M l (List.take k s)))]).length ∧ setAt (List.map u8A M ++ [w64 (wd D (0 : Nat)), w64 (wd D (1 : Nat)), w64 (wd D (2 : Nat)), w64 (wd D (3 : Nat)), strL M, w64 (wd Q (0 : Nat)), w64 (wd Q (1 : Nat)), w64 (wd Q (2 : Nat)), w64 (wd Q (3 : Nat)), boolA true, boolA (lastA (fdL D Q M l (List.take k s))), u8A (lastC (fdL D Q M l (List.take k s)))]) ((0 : Nat) + 266) (boolA true).cells = List.map u8A M ++ [w64 (wd
 D (0 : Nat)), w64 (wd D (1 : Nat)), w64 (wd D (2 : Nat)), w64 (wd D (3 : Nat)), strL M, w64 (wd Q (0 : Nat)), w64 (wd Q (1 : Nat)), w64 (wd Q (2 : Nat)), w64 (wd Q (3 : Nat)), boolA true, boolA true, u8A (lastC (fdL D Q M l (List.take k s)))] ∧ (268 : Nat) ≤ (List.map u8A M ++ [w64 (wd D (0 : Nat)), w64 (wd D (1 : Nat)), w64 (wd D (2 : Nat)), w64 (wd D (3 : Nat)), strL M, w64 (wd Q (0 : Nat)), w64 (wd Q (1 : Nat)), w64 (wd Q (2 : Nat)), w64 (wd Q (3 : Nat)), boolA true, boolA true, u8A (lastC (fdL D Q M l (List.take k s)))]).length ∧ setAt (List.map u8A M ++ [w64 (wd D (0 : Nat)), w64 (wd D (1 : Nat)), w64 (wd D (2 : Nat)), w64 (wd D (3 : Nat)), strL M, w64 (wd Q (0 : Nat)), w64 (wd Q (1 : Nat)), w64 (wd Q (2 : Nat)), w64 (wd Q (3 : Nat)), boolA true, boolA true, u8A (lastC (fdL D Q M l (List.take k s)))]) ((0 : Nat) + 267) (u8A x11).cells = List.map u8A M ++ [w64 (wd D (0 : Nat)), w64 (wd D (1 : Nat)), w64 (wd D (2 : Nat)), w64 (wd D (3 : Nat)), strL M, w64 (wd Q (0 : Nat)), w64 (wd Q (1 : Nat)), w64 (wd Q (2 : Nat)), w64 (wd Q (3 : Nat)), boolA true, boolA true, u8A x11] ∧ InI64 ((↑k : Int) + 1) ∧ ∃ (j20 : Nat), ((True ∧ s = s ∧ (List.length (fdO D Q M l (List.take
 k s)) + 1 = List.length (fdO D Q M l (List.take j20 s)) ∧ (0 : Nat) = 0 ∧ List.length (fdO D Q M l (List.take k s)) + 1 = List.length (fdO D Q M l (List.take j20 s))) ∧ (↑(List.length s) : Int) = (↑(List.length s) : Int) ∧ (↑k : Int) + 1 = (↑j20 : Int) ∧ True) ∧ ((↑(wd D (0 : Nat)).toNat : Int) = (↑(wd D (0 : Nat)).toNat : Int) ∧ (↑(wd D (1 : Nat)).toNat : Int) = (↑(wd D (1 : Nat)).toNat : Int) ∧ (↑(wd D (2 : Nat)).toNat : Int) = (↑(wd D (2 : Nat)).toNat : Int) ∧ (↑(wd D (3 : Nat)).toNat : Int) = (↑(wd D (3 : Nat)).toNat : Int) ∧ M = M ∧ (↑(wd Q (0 : Nat)).toNat : Int) = (↑(wd Q (0 : Nat)).toNat : Int) ∧ (↑(wd Q (1 : Nat)).toNat : Int) = (↑(wd Q (1 : Nat)).toNat : Int) ∧ (↑(wd Q (2 : Nat)).toNat : Int) = (↑(wd Q (2 : Nat)).toNat : Int) ∧ (↑(wd Q (3 : Nat)).toNat : Int) = (↑(wd Q (3 : Nat)).toNat : Int)) ∧ ((↑(wd D (0 : Nat)).toNat : Int) = (↑(wd D (0 : Nat)).toNat : Int) ∧ (↑(wd D (1 : Nat)).toNat : Int) = (↑(wd D (1 : Nat)).toNat : Int) ∧ (↑(wd D (2 : Nat)).toNat : Int) = (↑(wd D (2 : Nat)).toNat : Int) ∧ (↑(wd D (3 : Nat)).toNat : Int) = (↑(wd D (3 : Nat)).toNat : Int) ∧ M = M ∧ (↑(wd Q (0 : Nat)).toNat : Int) = (↑(wd Q (0 : Nat)).toNat : Int) ∧ (↑(wd
 Q (1 : Nat)).toNat : Int) = (↑(wd Q (1 : Nat)).toNat : Int) ∧ (↑(wd Q (2 : Nat)).toNat : Int) = (↑(wd Q (2 : Nat)).toNat : Int) ∧ (↑(wd Q (3 : Nat)).toNat : Int) = (↑(wd Q (3 : Nat)).toNat : Int)) ∧ List.map u8A M ++ [w64 (wd D (0 : Nat)), w64 (wd D (1 : Nat)), w64 (wd D (2 : Nat)), w64 (wd D (3 : Nat)), strL M, w64 (wd Q (0 : Nat)), w64 (wd Q (1 : Nat)), w64 (wd Q (2 : Nat)), w64 (wd Q (3 : Nat)), boolA true, boolA true, u8A x11] = List.map u8A M ++ [w64 (wd D (0 : Nat)), w64 (wd D (1 : Nat)), w64 (wd D (2 : Nat)), w64 (wd D (3 : Nat)), strL M, w64 (wd Q (0 : Nat)), w64 (wd Q (1 : Nat)), w64 (wd Q (2 : Nat)), w64 (wd Q (3 : Nat)), boolA true, boolA (lastA (fdL D Q M l (List.take j20 s))), u8A (lastC (fdL D Q M l (List.take j20 s)))] ∧ List.map u8A (fdO D Q M l (List.take k s)) ++ [u8A x11] = List.map u8A (fdO D Q M l (List.take j20 s))) ∧ j20 ≤ List.length s ∧ List.length s - j20 < List.length s - k)) ∧ (lastA (fdL D Q M l (List.take k s)) = false → false = false ∧ false = false ∧ (List.map u8A (fdO D Q M l (List.take k s))).length = List.length (fdO D Q M l (List.take k s)) ∧ (0 : Nat) = 0 ∧ List.length (fdO D Q M l (List.take k s)) = List.length (fdO D Q M l (List.take k
 s)) ∧ List.length (fdO D Q M l (List.take k s)) + [u8A x11].length = List.length (fdO D Q M l (List.take k s)) + 1 ∧ (List.length (fdO D Q M l (List.take k s)) + 1) * 1 ≤ (140737488355328 : Nat) ∧ List.length (fdO D Q M l (List.take k s)) + 1 ≤ (9223372036854775807 : Nat) ∧ (267 : Nat) ≤ (List.map u8A M ++ [w64 (wd D (0 : Nat)), w64 (wd D (1 : Nat)), w64 (wd D (2 : Nat)), w64 (wd D (3 : Nat)), strL M, w64 (wd Q (0 : Nat)), w64 (wd Q (1 : Nat)), w64 (wd Q (2 : Nat)), w64 (wd Q (3 : Nat)), boolA true, boolA (lastA (fdL D Q M l (List.take k s))), u8A (lastC (fdL D Q M l (List.take k s)))]).length ∧ setAt (List.map u8A M ++ [w64 (wd D (0 : Nat)), w64 (wd D (1 : Nat)), w64 (wd D (2 : Nat)), w64 (wd D (3 : Nat)), strL M, w64 (wd Q (0 : Nat)), w64 (wd Q (1 : Nat)), w64 (wd Q (2 : Nat)), w64 (wd Q (3 : Nat)), boolA true, boolA (lastA (fdL D Q M l (List.take k s))), u8A (lastC (fdL D Q M l (List.take k s)))]) ((0 : Nat) + 266) (boolA true).cells = List.map u8A M ++ [w64 (wd D (0 : Nat)), w64 (wd D (1 : Nat)), w64 (wd D (2 : Nat)), w64 (wd D (3 : Nat)), strL M, w64 (wd Q (0 : Nat)), w64 (wd Q (1 : Nat)), w64 (wd Q (2 : Nat)), w64 (wd Q (3 : Nat)), boolA
 true, boolA true, u8A (lastC (fdL D Q M l (List.take k s)))] ∧ (268 : Nat) ≤ (List.map u8A M ++ [w64 (wd D (0 : Nat)), w64 (wd D (1 : Nat)), w64 (wd D (2 : Nat)), w64 (wd D (3 : Nat)), strL M, w64 (wd Q (0 : Nat)), w64 (wd Q (1 : Nat)), w64 (wd Q (2 : Nat)), w64 (wd Q (3 : Nat)), boolA true, boolA true, u8A (lastC (fdL D Q M l (List.take k s)))]).length ∧ setAt (List.map u8A M ++ [w64 (wd D (0 : Nat)), w64 (wd D (1 : Nat)), w64 (wd D (2 : Nat)), w64 (wd D (3 : Nat)), strL M, w64 (wd Q (0 : Nat)), w64 (wd Q (1 : Nat)), w64 (wd Q (2 : Nat)), w64 (wd Q (3 : Nat)), boolA true, boolA true, u8A (lastC (fdL D Q M l (List.take k s)))]) ((0 : Nat) + 267) (u8A x11).cells = List.map u8A M ++ [w64 (wd D (0 : Nat)), w64 (wd D (1 : Nat)), w64 (wd D (2 : Nat)), w64 (wd D (3 : Nat)), strL M, w64 (wd Q (0 : Nat)), w64 (wd Q (1 : Nat)), w64 (wd Q (2 : Nat)), w64 (wd Q (3 : Nat)), boolA true, boolA true, u8A x11] ∧ InI64 ((↑k : Int) + 1) ∧ ∃ (j22 : Nat), ((True ∧ s = s ∧ (List.length (fdO D Q M l (List.take k s)) + 1 = List.length (fdO D Q M l (List.take j22 s)) ∧ (0 : Nat) = 0 ∧ List.length (fdO D Q M l (List.take k s)) + 1 = List.length (fdO D Q M l (List.take
 j22 s))) ∧ (↑(List.length s) : Int) = (↑(List.length s) : Int) ∧ (↑k : Int) + 1 = (↑j22 : Int) ∧ True) ∧ ((↑(wd D (0 : Nat)).toNat : Int) = (↑(wd D (0 : Nat)).toNat : Int) ∧ (↑(wd D (1 : Nat)).toNat : Int) = (↑(wd D (1 : Nat)).toNat : Int) ∧ (↑(wd D (2 : Nat)).toNat : Int) = (↑(wd D (2 : Nat)).toNat : Int) ∧ (↑(wd D (3 : Nat)).toNat : Int) = (↑(wd D (3 : Nat)).toNat : Int) ∧ M = M ∧ (↑(wd Q (0 : Nat)).toNat : Int) = (↑(wd Q (0 : Nat)).toNat : Int) ∧ (↑(wd Q (1 : Nat)).toNat : Int) = (↑(wd Q (1 : Nat)).toNat : Int) ∧ (↑(wd Q (2 : Nat)).toNat : Int) = (↑(wd Q (2 : Nat)).toNat : Int) ∧ (↑(wd Q (3 : Nat)).toNat : Int) = (↑(wd Q (3 : Nat)).toNat : Int)) ∧ ((↑(wd D (0 : Nat)).toNat : Int) = (↑(wd D (0 : Nat)).toNat : Int) ∧ (↑(wd D (1 : Nat)).toNat : Int) = (↑(wd D (1 : Nat)).toNat : Int) ∧ (↑(wd D (2 : Nat)).toNat : Int) = (↑(wd D (2 : Nat)).toNat : Int) ∧ (↑(wd D (3 : Nat)).toNat : Int) = (↑(wd D (3 : Nat)).toNat : Int) ∧ M = M ∧ (↑(wd Q (0 : Nat)).toNat : Int) = (↑(wd Q (0 : Nat)).toNat : Int) ∧ (↑(wd Q (1 : Nat)).toNat : Int) = (↑(wd Q (1 : Nat)).toNat : Int) ∧ (↑(wd Q (2 : Nat)).toNat : Int) = (↑(wd Q (2 : Nat)).toNat : Int) ∧ (↑(wd Q (3 : Nat)).toNat : Int) = (↑(wd Q (3 : Nat)).toNat
 : Int)) ∧ List.map u8A M ++ [w64 (wd D (0 : Nat)), w64 (wd D (1 : Nat)), w64 (wd D (2 : Nat)), w64 (wd D (3 : Nat)), strL M, w64 (wd Q (0 : Nat)), w64 (wd Q (1 : Nat)), w64 (wd Q (2 : Nat)), w64 (wd Q (3 : Nat)), boolA true, boolA true, u8A x11] = List.map u8A M ++ [w64 (wd D (0 : Nat)), w64 (wd D (1 : Nat)), w64 (wd D (2 : Nat)), w64 (wd D (3 : Nat)), strL M, w64 (wd Q (0 : Nat)), w64 (wd Q (1 : Nat)), w64 (wd Q (2 : Nat)), w64 (wd Q (3 : Nat)), boolA true, boolA (lastA (fdL D Q M l (List.take j22 s))), u8A (lastC (fdL D Q M l (List.take j22 s)))] ∧ List.map u8A (fdO D Q M l (List.take k s)) ++ [u8A x11] = List.map u8A (fdO D Q M l (List.take j22 s))) ∧ j22 ≤ List.length s ∧ List.length s - j22 < List.length s - k))) ∧ (decide ((↑k : Int) < (↑(List.length s) : Int)) = false → (List.map u8A (fdO D Q M l (List.take k s))).length = List.length (fdO D Q M l (List.take k s)) ∧ bytesL (List.take (List.length (fdO D Q M l (List.take k s))) (List.drop (0 : Nat) (List.map u8A (fdO D Q M l (List.take k s))))) = some (fdO D Q M l (List.take k s)) ∧ fdO D Q M l (List.take k s) = fdO D Q M l s ∧ ((↑(wd D (0 : Nat)).toNat : Int) = (↑(wd D (0 : Nat)).toNat : Int) ∧ (↑(wd D (1 : Nat)).toNat : Int)
 = (↑(wd D (1 : Nat)).toNat : Int) ∧ (↑(wd D (2 : Nat)).toNat : Int) = (↑(wd D (2 : Nat)).toNat : Int) ∧ (↑(wd D (3 : Nat)).toNat : Int) = (↑(wd D (3 : Nat)).toNat : Int) ∧ M = M ∧ (↑(wd Q (0 : Nat)).toNat : Int) = (↑(wd Q (0 : Nat)).toNat : Int) ∧ (↑(wd Q (1 : Nat)).toNat : Int) = (↑(wd Q (1 : Nat)).toNat : Int) ∧ (↑(wd Q (2 : Nat)).toNat : Int) = (↑(wd Q (2 : Nat)).toNat : Int) ∧ (↑(wd Q (3 : Nat)).toNat : Int) = (↑(wd Q (3 : Nat)).toNat : Int)) ∧ ((↑(wd D (0 : Nat)).toNat : Int) = (↑(wd D (0 : Nat)).toNat : Int) ∧ (↑(wd D (1 : Nat)).toNat : Int) = (↑(wd D (1 : Nat)).toNat : Int) ∧ (↑(wd D (2 : Nat)).toNat : Int) = (↑(wd D (2 : Nat)).toNat : Int) ∧ (↑(wd D (3 : Nat)).toNat : Int) = (↑(wd D (3 : Nat)).toNat : Int) ∧ M = M ∧ (↑(wd Q (0 : Nat)).toNat : Int) = (↑(wd Q (0 : Nat)).toNat : Int) ∧ (↑(wd Q (1 : Nat)).toNat : Int) = (↑(wd Q (1 : Nat)).toNat : Int) ∧ (↑(wd Q (2 : Nat)).toNat : Int) = (↑(wd Q (2 : Nat)).toNat : Int) ∧ (↑(wd Q (3 : Nat)).toNat : Int) = (↑(wd Q (3 : Nat)).toNat : Int)) ∧ List.map u8A M ++ [w64 (wd D (0 : Nat)), w64 (wd D (1 : Nat)), w64 (wd D (2 : Nat)), w64 (wd D (3 : Nat)), strL M, w64 (wd Q (0 : Nat)), w64 (wd Q (1 : Nat)), w64 (wd Q (2 : Nat)), w64 (wd Q (3
 : Nat)), boolA true, boolA (lastA (fdL D Q M l (List.take k s))), u8A (lastC (fdL D Q M l (List.take k s)))] = List.map u8A M ++ [w64 (wd D (0 : Nat)), w64 (wd D (1 : Nat)), w64 (wd D (2 : Nat)), w64 (wd D (3 : Nat)), strL M, w64 (wd Q (0 : Nat)), w64 (wd Q (1 : Nat)), w64 (wd Q (2 : Nat)), w64 (wd Q (3 : Nat)), boolA true, boolA (lastA (fdL D Q M l s)), u8A (lastC (fdL D Q M l s))] ∧ List.map u8A (fdO D Q M l (List.take k s)) = List.map u8A (fdO D Q M l s)))) ?_
 refine ⟨rfl, (by simp; omega), ?_, rfl, (hg _ _ _ hs), ⟨(0 : Nat), ⟨⟨trivial, rfl, ⟨rfl, rfl, rfl⟩, rfl, (by omega), trivial⟩, ⟨rfl, rfl, rfl, rfl, rfl, rfl, rfl, rfl, rfl⟩, ⟨rfl, rfl, rfl, rfl, rfl, rfl, rfl, rfl, rfl⟩, rfl, rfl⟩, (by omega)⟩, fun k => fun h2 => ⟨fun h3_ => have h3 := dT h3_; ⟨(by simp; omega), ?_, rfl, (by omega), fun c4 => fun h5 => ⟨(hs1 _ _), fun h6 => ⟨(by unfold InI64; omega), ⟨k + (1 : Nat), ⟨⟨trivial, rfl, ⟨?_, rfl, ?_⟩, rfl, (by omega), trivial⟩, ⟨rfl, rfl, rfl, rfl, rfl, rfl, rfl, rfl, rfl⟩, ⟨rfl, rfl, rfl, rfl, rfl, rfl, rfl, rfl, rfl⟩, ?_, ?_⟩, ⟨(by omega), (by omega)⟩⟩⟩, fun h8 => ⟨rfl, (by omega), fun c9 => fun h10 => ⟨rfl, (by have := u8_lt c4; have := u8_lt c9; omega), (by simp), rfl, (by have := u8_lt c4; have := u8_lt c9; omega), fun x11 => fun h12 => ⟨(by simp; omega), ?_, fun h13 => ⟨(by simp; omega), ?_, fun h14_ => have h14 := dT h14_; ⟨(by simp; omega), ?_, (hs1 _ _), fun h15 => ⟨(by unfold InI64; omega), ⟨k + (1 : Nat), ⟨⟨trivial, rfl, ⟨?_, rfl, ?_⟩, rfl, (by omega), trivial⟩, ⟨rfl, rfl, rfl, rfl, rfl, rfl, rfl, rfl, rfl⟩, ⟨rfl, rfl, rfl, rfl, rfl, rfl, rfl, rfl, rfl⟩, ?_, ?_⟩, ⟨(by omega), (by omega)⟩⟩⟩, fun h17 => ⟨(by simp), rfl, rfl, rfl, ?_, ?_, (by simp; omega), ?_, (by simp; omega), ?_, (by unfold InI64; omega), ⟨k + (1 : Nat), ⟨⟨trivial, rfl, ⟨?_, rfl, ?_⟩, rfl, (by omega), trivial⟩, ⟨rfl, rfl, rfl, rfl, rfl, rfl, rfl, rfl, rfl⟩, ⟨rfl, rfl, rfl, rfl, rfl, rfl, rfl, rfl, rfl⟩, ?_, ?_⟩, ⟨(by omega), (by omega)⟩⟩⟩⟩, fun h19_ => have h19 := dF h19_; ⟨rfl, (by simp), rfl, rfl, rfl, ?_, ?_, (by simp; omega), ?_, (by simp; omega), ?_, (by unfold InI64; omega), ⟨k + (1 : Nat), ⟨⟨trivial, rfl, ⟨?_, rfl, ?_⟩, rfl, (by omega), trivial⟩, ⟨rfl, rfl, rfl, rfl, rfl, rfl, rfl, rfl, rfl⟩, ⟨rfl, rfl, rfl, rfl, rfl, rfl, rfl, rfl, rfl⟩, ?_, ?_⟩, ⟨(by omega), (by omega)⟩⟩⟩⟩, fun h21 => ⟨rfl, rfl, (by simp), rfl, rfl, rfl, ?_, ?_, (by simp; omega), ?_, (by simp; omega), ?_, (by unfold InI64; omega), ⟨k + (1 : Nat), ⟨⟨trivial, rfl, ⟨?_, rfl, ?_⟩, rfl, (by omega), trivial⟩, ⟨rfl, rfl, rfl, rfl, rfl, rfl, rfl, rfl, rfl⟩, ⟨rfl, rfl, rfl, rfl, rfl, rfl, rfl, rfl, rfl⟩, ?_, ?_⟩, ⟨(by omega), (by omega)⟩⟩⟩⟩⟩⟩⟩⟩, fun h23_ => have h23 := dF h23_; ⟨(by simp), (by first | exact bytesL_map _ | (rw [List.drop_zero, List.take_of_length_le (by simp)]; exact bytesL_map _) | (simp only [← List.map_take, ← List.map_drop]; exact bytesL_map _) | (rw [← List.map_replicate (f := u8A), ← List.map_append, ← List.map_drop, ← List.map_take]; exact bytesL_map _)), ?_, ⟨rfl, rfl, rfl, rfl, rfl, rfl, rfl, rfl, rfl⟩, ⟨rfl, rfl, rfl, rfl, rfl, rfl, rfl, rfl, rfl⟩, ?_, ?_⟩⟩⟩
 any_goals exact (bt_get h _ _ _ (by omega)).trans rfl
 any_goals exact bt_set h _ _ _ _ (by omega) rfl
 all_goals have hle := fdO_len D Q M l (s.take k)
 all_goals rw [List.length_take] at hle
 all_goals first
  | omega
  | (rw [(fd_del (Q := Q) (T := M) (l := l) h5 h6).1]; done)
  | (rw [(fd_del (Q := Q) (T := M) (l := l) h5 h6).2]; done)
  | (rw [(fdA_sq h5 h8 h10 h12 h13 h14 h15).1]; done)
  | (rw [(fdA_sq h5 h8 h10 h12 h13 h14 h15).2]; done)
  | (rw [(fdA_p1 (l := l) (Q := Q) h5 h8 h10 h12 h17).2]; rfl)
  | (rw [(fdA_p1 (l := l) (Q := Q) h5 h8 h10 h12 h17).1, List.length_append]; rfl)
  | (rw [(fdA_p1 (l := l) (Q := Q) h5 h8 h10 h12 h17).1, List.map_append]; rfl)
  | (rw [(fdA_p2 (Q := Q) h5 h8 h10 h12 h19).2]; rfl)
  | (rw [(fdA_p2 (Q := Q) h5 h8 h10 h12 h19).1, List.length_append]; rfl)
  | (rw [(fdA_p2 (Q := Q) h5 h8 h10 h12 h19).1, List.map_append]; rfl)
  | (rw [(fdA_p3 (Q := Q) h5 h8 h10 h12 h21).2]; rfl)
  | (rw [(fdA_p3 (Q := Q) h5 h8 h10 h12 h21).1, List.length_append]; rfl)
  | (rw [(fdA_p3 (Q := Q) h5 h8 h10 h12 h21).1, List.map_append]; rfl)
  | (rw [List.take_of_length_le (by omega)]; done)
  | skip
end
end Go.Proofs.YtienfdjfochlcaaGreatDoor
end
section
namespace Go.Proofs.YtienfdjfochlcaaGreatDoor
set_option linter.unusedVariables false
set_option linter.unusedSimpArgs false
set_option maxRecDepth 100000
set_option maxHeartbeats 4000000
def lastI (l : Option UInt8) : Int := match l with
 | some c => c.toNat
 | none => -1
section
variable {D Q : CS} {T : Bs} {l : Option UInt8} {s : Bs} {k : Nat} {c c' x : UInt8}
end
section
variable {X : CallF}
def apS (D : CS) (M : Bs) (Q : CS) (s : Bs) : Bs := if M.length = 256 then fdO D Q M none s else []
theorem apply_run_y (D : CS) (M : Bs) (Q : CS) (hM : M.length ≤ maxLen) (s : Bs) (hs : s.length ≤ 2000) (h : M.length = 256) : (R FT X).f 36 [encSp D M Q, strL s] = some (strL (fdO D Q M none s)) := by
 have hm := maxLen_i64
 have h1 := new_run (X := X) D M Q hM h
 have h2 := feed_run (X := X) D M Q h none s hs
 refine R_wp (Tr.cm (AV.ptr 2 0) [MObj.box 54 [AV.val (Value.int IntKind.u64 (↑(wd D (0 : Nat)).toNat : Int)), AV.val (Value.int IntKind.u64 (↑(wd D (1 : Nat)).toNat : Int)), AV.val (Value.int IntKind.u64 (↑(wd D (2 : Nat)).toNat : Int)), AV.val (Value.int IntKind.u64 (↑(wd D (3 : Nat)).toNat : Int)), strL M, AV.val (Value.int IntKind.u64 (↑(wd Q (0 : Nat)).toNat : Int)), AV.val (Value.int IntKind.u64 (↑(wd Q (1 : Nat)).toNat : Int)), AV.val (Value.int IntKind.u64 (↑(wd Q (2 : Nat)).toNat : Int)), AV.val (Value.int IntKind.u64 (↑(wd Q (3 : Nat)).toNat : Int))], MObj.box 54 [AV.val (Value.int IntKind.u64 (↑(wd D (0 : Nat)).toNat : Int)), AV.val (Value.int IntKind.u64 (↑(wd D (1 : Nat)).toNat : Int)), AV.val (Value.int IntKind.u64 (↑(wd D (2 : Nat)).toNat : Int)), AV.val (Value.int IntKind.u64 (↑(wd D (3 : Nat)).toNat : Int)), strL M, AV.val (Value.int IntKind.u64 (↑(wd Q (0 : Nat)).toNat : Int)), AV.val (Value.int IntKind.u64 (↑(wd Q (1 : Nat)).toNat : Int)), AV.val (Value.int IntKind.u64 (↑(wd Q (2 : Nat)).toNat : Int)), AV.val (Value.int IntKind.u64 (↑(wd Q (3 : Nat)).toNat : Int))], MObj.box 155 (List.map u8A M ++ [w64 (wd D (0 : Nat)), w64 (wd D (1 : Nat)),
 w64 (wd D (2 : Nat)), w64 (wd D (3 : Nat)), strL M, w64 (wd Q (0 : Nat)), w64 (wd Q (1 : Nat)), w64 (wd Q (2 : Nat)), w64 (wd Q (3 : Nat)), boolA true, boolA false, u8A (0 : UInt8)])] (Tr.cm (strL (fdO D Q M none s)) [MObj.box 54 [AV.val (Value.int IntKind.u64 (↑(wd D (0 : Nat)).toNat : Int)), AV.val (Value.int IntKind.u64 (↑(wd D (1 : Nat)).toNat : Int)), AV.val (Value.int IntKind.u64 (↑(wd D (2 : Nat)).toNat : Int)), AV.val (Value.int IntKind.u64 (↑(wd D (3 : Nat)).toNat : Int)), strL M, AV.val (Value.int IntKind.u64 (↑(wd Q (0 : Nat)).toNat : Int)), AV.val (Value.int IntKind.u64 (↑(wd Q (1 : Nat)).toNat : Int)), AV.val (Value.int IntKind.u64 (↑(wd Q (2 : Nat)).toNat : Int)), AV.val (Value.int IntKind.u64 (↑(wd Q (3 : Nat)).toNat : Int))], MObj.box 54 [AV.val (Value.int IntKind.u64 (↑(wd D (0 : Nat)).toNat : Int)), AV.val (Value.int IntKind.u64 (↑(wd D (1 : Nat)).toNat : Int)), AV.val (Value.int IntKind.u64 (↑(wd D (2 : Nat)).toNat : Int)), AV.val (Value.int IntKind.u64 (↑(wd D (3 : Nat)).toNat : Int)), strL M, AV.val (Value.int IntKind.u64 (↑(wd Q (0 : Nat)).toNat : Int)), AV.val (Value.int IntKind.u64 (↑(wd Q (1 : Nat)).toNat : Int)), AV.val (Value.int IntKind.u64
 (↑(wd Q (2 : Nat)).toNat : Int)), AV.val (Value.int IntKind.u64 (↑(wd Q (3 : Nat)).toNat : Int))], MObj.box 155 (List.map u8A M ++ [w64 (wd D (0 : Nat)), w64 (wd D (1 : Nat)), w64 (wd D (2 : Nat)), w64 (wd D (3 : Nat)), strL M, w64 (wd Q (0 : Nat)), w64 (wd Q (1 : Nat)), w64 (wd Q (2 : Nat)), w64 (wd Q (3 : Nat)), boolA true, boolA (lastA (fdL D Q M none s)), u8A (lastC (fdL D Q M none s))]), MObj.row 1 1 (List.map u8A (fdO D Q M none s)) true (7 : Nat)] Tr.nil)) rfl ?_
 refine Eq.mpr (by kernel_rfl : _ = ((R FT X).m 72 [encSp D M Q] [boxSp D M Q] = some (AV.ptr 2 0, [boxSp D M Q, boxSp D M Q, boxT D M Q false (0 : UInt8)]) ∧ (R FT X).m 73 [AV.ptr 2 0, strL s] [boxSp D M Q, boxSp D M Q, boxT D M Q (lastA none) (lastC none)] = some (strL (fdO D Q M none s), [boxSp D M Q, boxSp D M Q, boxT D M Q (lastA (fdL D Q M none s)) (lastC (fdL D Q M none s)), MObj.row 1 1 (List.map u8A (fdO D Q M none s)) true (7 : Nat)]) ∧ fdO D Q M none s = fdO D Q M none s)) ?_
 refine ⟨(h1), (h2), rfl⟩
theorem apply_run_n (D : CS) (M : Bs) (Q : CS) (hM : M.length ≤ maxLen) (s : Bs) (hs : s.length ≤ 2000) (h : ¬ M.length = 256) : (R FT X).f 36 [encSp D M Q, strL s] = some (strL []) := by
 have hm := maxLen_i64
 have hc := check_run (X := X) D M Q hM
 have hc0 : chk M = 2 := if_neg h
 rw [hc0] at hc
 refine R_wp ((Tr.c (intA 2) (Tr.b true (Tr.b true (Tr.b true Tr.nil).w).w.inl).w).w.inl) rfl ?_
 refine Eq.mpr (by kernel_rfl : _ = ((R FT X).f 111 [encSp D M Q] = some (intA 2) ∧ true = true ∧ true = true ∧ true = true ∧ @List.nil UInt8 = [])) ?_
 refine ⟨hc, rfl, rfl, rfl, rfl⟩
theorem apply_run (D : CS) (M : Bs) (Q : CS) (hM : M.length ≤ maxLen) (s : Bs) (hs : s.length ≤ 2000) : (R FT X).f 36 [encSp D M Q, strL s] = some (strL (apS D M Q s)) := by
 by_cases h : M.length = 256
 ·rw [apS, if_pos h]; exact apply_run_y D M Q hM s hs h
 ·rw [apS, if_neg h]; exact apply_run_n D M Q hM s hs h
end
end Go.Proofs.YtienfdjfochlcaaGreatDoor
end
section
namespace Go.Proofs.YtienfdjfochlcaaGreatDoor
set_option linter.unusedVariables false
set_option linter.unusedSimpArgs false
def mpK (a b : Bs) : Nat → Bs
 | 0 => tbl
 | k + 1 => (mpK a b k).set (a.getD k 0).toNat (b.getD k 0)
theorem mpK_len (a b : Bs) : ∀ k, (mpK a b k).length = 256
 | 0 => tbl_len
 | k + 1 => by rw [mpK, List.length_set, mpK_len a b k]
theorem fd_map (T : Bs) : ∀ (l : Option UInt8) (s : Bs), fdO 0 0 T l s = s.map fun c => T.getD c.toNat 0
 | l, [] => rfl
 | l, c :: r => by
  have hz : ∀ x : UInt8, (0 : CS).getLsbD x.toNat = false := fun x => by simp
  have h1 := fd_map T (some (T.getD c.toNat 0)) r
  simp only [fdO] at h1 ⊢
  simp only [fdS, hz, Bool.false_eq_true, and_false, if_false, h1, List.map_cons]
def card (D : CS) : Nat := (bsL D 256).length
theorem card_eq (D : CS) : card D = (List.range 256).countP fun j => D.getLsbD j := by
 rw [card, bsL, List.length_map, List.countP_eq_length_filter]
theorem count_or (p : Nat → Bool) (c : Nat) : ∀ n, ((List.range n).countP fun j => p j || decide (c = j)) = (List.range n).countP p + (if c < n ∧ p c = false then 1 else 0)
 | 0 => by simp
 | n + 1 => by
  rw [List.range_succ, List.countP_append, List.countP_append, count_or p c n]
  simp only [List.countP_cons, List.countP_nil, Nat.zero_add]
  by_cases h1 : c < n
  ·have h2 : ¬ c = n := by omega
   have h3 : c < n + 1 := by omega
   simp only [h1, h2, h3, decide_false, Bool.or_false, true_and]
   omega
  ·by_cases h2 : c = n
   ·subst h2
    cases hp : p c <;> simp
   ·have h3 : ¬ c < n + 1 := by omega
    simp [h1, h2, h3]
theorem card_bit (D : CS) (c : UInt8) : card (D ||| bit c.toNat) = card D + (if D.getLsbD c.toNat = false then 1 else 0) := by
 have hc := c.toNat_lt
 rw [card_eq, card_eq]
 have := count_or (fun j => D.getLsbD j) c.toNat 256
 simp only [hc, true_and] at this
 rw [← this]
 refine List.countP_congr fun j hj => ?_
 rw [BitVec.getLsbD_or, bit_get _ _ hc]
theorem mem_setOf (l : Bs) (c : UInt8) : (setOf l).getLsbD c.toNat = true ↔ c ∈ l := by
 rw [setOf_get, List.any_eq_true]
 constructor
 ·rintro ⟨x, hx, h⟩
  have : x.toNat = c.toNat := by simpa using h
  rw [← UInt8.toNat_inj.1 this]; exact hx
 ·intro h; exact ⟨c, h, by simp⟩
theorem card_list : ∀ l : Bs, card (setOf l.reverse) ≤ l.length ∧ (card (setOf l.reverse) = l.length → l.Nodup)
 | [] => ⟨by decide, fun _ => List.nodup_nil⟩
 | c :: r => by
  obtain ⟨h1, h2⟩ := card_list r
  rw [List.reverse_cons, setOf_snoc, card_bit]
  by_cases h : (setOf r.reverse).getLsbD c.toNat = false
  ·rw [if_pos h]
   refine ⟨by simp only [List.length_cons]; omega, fun e => ?_⟩
   simp only [List.length_cons] at e
   refine List.nodup_cons.2 ⟨fun hm => ?_, h2 (by omega)⟩
   rw [(mem_setOf r.reverse c).2 (List.mem_reverse.2 hm)] at h; cases h
  ·rw [if_neg h]
   refine ⟨by simp only [List.length_cons]; omega, fun e => ?_⟩
   simp only [List.length_cons] at e
   omega
theorem card_nodup {l : Bs} (h : card (setOf l) = l.length) : l.Nodup := by
 have := (card_list l.reverse).2 (by rw [List.reverse_reverse, List.length_reverse]; exact h)
 exact List.pairwise_reverse.1 (by simpa [List.Nodup] using this) |>.imp fun h => Ne.symm h
theorem mpK_out {a b : Bs} {c : UInt8} : ∀ k, k ≤ a.length → (∀ i, i < k → a.getD i 0 ≠ c) → (mpK a b k).getD c.toNat 0 = c
 | 0, _, _ => tbl_get c
 | k + 1, hk, h => by
  rw [mpK, List.getD_eq_getElem?_getD, List.getElem?_set_ne (fun e => h k (by omega) (UInt8.toNat_inj.1 e)), ← List.getD_eq_getElem?_getD]
  exact mpK_out k (by omega) fun i hi => h i (by omega)
theorem mpK_at {a b : Bs} (hn : a.Nodup) : ∀ k, k ≤ a.length → ∀ i, i < k → (mpK a b k).getD (a.getD i 0).toNat 0 = b.getD i 0
 | 0, _, i, hi => by omega
 | k + 1, hk, i, hi => by
  rw [mpK]
  by_cases e : i = k
  ·subst e
   rw [List.getD_eq_getElem?_getD, List.getElem?_set_self (by rw [mpK_len]; exact UInt8.toNat_lt _)]; rfl
  ·have hne : (a.getD k 0).toNat ≠ (a.getD i 0).toNat := fun q => by
    have q2 := UInt8.toNat_inj.1 q
    rw [List.getD_eq_getElem?_getD, List.getD_eq_getElem?_getD, List.getElem?_eq_getElem (by omega : k < a.length), List.getElem?_eq_getElem (by omega : i < a.length)] at q2
    exact pw_at hn (show i < k by omega) (List.getElem?_eq_getElem (by omega : i < a.length)) (List.getElem?_eq_getElem (by omega : k < a.length)) (by simpa using q2.symm)
   rw [List.getD_eq_getElem?_getD, List.getElem?_set_ne hne, ← List.getD_eq_getElem?_getD]
   exact mpK_at hn k (by omega) i (by omega)
def mp1 (a b : Bs) (c : UInt8) : UInt8 := (mpK a b a.length).getD c.toNat 0
theorem mp1_out {a b : Bs} {c : UInt8} (h : c ∉ a) : mp1 a b c = c := mpK_out _ (Nat.le_refl _) fun i hi e => h (by
 rw [← e, List.getD_eq_getElem?_getD, List.getElem?_eq_getElem hi]; exact List.getElem_mem hi)
theorem mp1_in {a b : Bs} (hn : a.Nodup) (hb : b.length = a.length) {c : UInt8} (h : c ∈ a) : ∃ i, i < a.length ∧ a.getD i 0 = c ∧ mp1 a b c = b.getD i 0 := by
 obtain ⟨i, hi, e⟩ := List.getElem_of_mem h
 have e2 : a.getD i 0 = c := by rw [List.getD_eq_getElem?_getD, List.getElem?_eq_getElem hi, ← e]; rfl
 refine ⟨i, hi, e2, ?_⟩
 rw [mp1, ← e2]
 exact mpK_at hn _ (Nat.le_refl _) i hi
theorem getD_mem {b : Bs} {i : Nat} (hi : i < b.length) : b.getD i 0 ∈ b := by
 rw [List.getD_eq_getElem?_getD, List.getElem?_eq_getElem hi]; exact List.getElem_mem hi
section
variable {a b : Bs} (hab : (a ++ b).Nodup) (hb : b.length = a.length) {c : UInt8}
include hab hb
theorem mp1_not : mp1 a b c ∉ a := by
 obtain ⟨h1, h2, h3⟩ := List.nodup_append.1 hab
 by_cases h : c ∈ a
 ·obtain ⟨i, hi, e, e2⟩ := mp1_in h1 hb h
  rw [e2]
  exact fun hm => h3 _ hm _ (getD_mem (by omega)) rfl
 ·rw [mp1_out h]; exact h
theorem mp1_back (hc : c ∉ b) : mp1 b a (mp1 a b c) = c := by
 obtain ⟨h1, h2, h3⟩ := List.nodup_append.1 hab
 by_cases h : c ∈ a
 ·obtain ⟨i, hi, e, e2⟩ := mp1_in h1 hb h
  rw [e2, mp1]
  have := mpK_at (a := b) (b := a) h2 b.length (Nat.le_refl _) i (by omega)
  rw [this]; exact e
 ·rw [mp1_out h, mp1_out hc]
end
end Go.Proofs.YtienfdjfochlcaaGreatDoor
end
section
namespace Go.Proofs.YtienfdjfochlcaaGreatDoor
set_option linter.unusedVariables false
set_option linter.unusedSimpArgs false
set_option maxRecDepth 100000
set_option maxHeartbeats 4000000
section
variable {X : CallF}
theorem parse_T (a b : Bs) (T : Nat → Bs) (hT : T = mpK a b) (hl : ∀ k, (T k).length = 256) (hI : LibT X) (n : Bs) (W : List AV) (A B : Bs) (ha : a.length ≤ 30) (hb : b.length = a.length) (h0 : 0 < a.length) : (R FT X).f 28 [lvA n W A B, .slice 1 [strL [45, 45], strL (octS a), strL (octS b)]] = some (.tuple [encSp 0 (T a.length) 0, intA 0, intA 0]) := by
 have hm := maxLen_i64
 have ex := expand_oct hI n W A B a (by omega)
 have ey := expand_oct hI n W A B b (by omega)
 have id := identity_run (X := X)
 refine R_wp ((Tr.k 3 (Tr.un (5 : Nat) (Tr.b true (Tr.c (strL [(45 : UInt8), (45 : UInt8)]) (Tr.b true (Tr.b false (Tr.k 3 (Tr.b false (Tr.b false (Tr.b false (Tr.b true (Tr.b false (Tr.b false (Tr.b false (Tr.b false (Tr.sl (1 : Nat) (3 : Nat) (Tr.k (List.drop (1 : Nat) (List.take (3 : Nat) [strL [(45 : UInt8), (45 : UInt8)], strL (octS a), strL (octS b)])).length (Tr.un (3 : Nat) (Tr.b true (Tr.c (strL (octS a)) (Tr.c (AV.tuple [strL a, intA 0, intA 0]) (Tr.b false (Tr.k 1 (Tr.b true (Tr.c (strL (octS b)) (Tr.c (AV.tuple [strL b, intA 0, intA 0]) (Tr.b false (Tr.k 2 (Tr.b false (Tr.k 0 (Tr.c (strL a) (Tr.b false (Tr.c (AV.agg (List.map u8A (List.map UInt8.ofNat (List.range (256 : Nat))))) (Tr.g (List.map u8A (List.map UInt8.ofNat (List.range (256 : Nat)))) (Tr.b false (Tr.k 2 (Tr.b false (Tr.k 1 (Tr.c (strL b) (Tr.nil.w.br (Tr.k 1 (Tr.c (strL b) (Tr.inv (fun (k : Nat) ↦ St.mk [(4, AV.ptr 1 0), (7, AV.ptr 2 0), (18, strL a), (19, AV.ptr 4 0), (20, AV.ptr 5 0), (21, strL b), (92, intA
 (↑(List.length a) : Int)), (93, intA (↑k : Int))] [MObj.box 26 [strL n, AV.slice 1 W, strL A, strL B, AV.slice 5 [], AV.slice 2 []], MObj.box 54 [w64 (0 : BitVec (64 : Nat)), w64 (0 : BitVec (64 : Nat)), w64 (0 : BitVec (64 : Nat)), w64 (0 : BitVec (64 : Nat)), strL [], w64 (0 : BitVec (64 : Nat)), w64 (0 : BitVec (64 : Nat)), w64 (0 : BitVec (64 : Nat)), w64 (0 : BitVec (64 : Nat))], MObj.box 105 [boolA false, boolA false, boolA false], MObj.row 0 1 [strL a, strL b] true (1 : Nat), MObj.box 54 [w64 (0 : BitVec (64 : Nat)), w64 (0 : BitVec (64 : Nat)), w64 (0 : BitVec (64 : Nat)), w64 (0 : BitVec (64 : Nat)), strL [], w64 (0 : BitVec (64 : Nat)), w64 (0 : BitVec (64 : Nat)), w64 (0 : BitVec (64 : Nat)), w64 (0 : BitVec (64 : Nat))], MObj.box 111 (List.map u8A (T k))]) (fun (k : Nat) ↦ k ≤ List.length a) (fun (k : Nat) ↦ List.length a - k) fun (k : Nat) ↦ (Tr.y k fun (c6 : UInt8) ↦ (Tr.y (if (↑(List.length b) : Int) - 1 < (↑k : Int) then (↑(List.length b) : Int) - 1 else (↑k : Int)).toNat fun (c8 : UInt8) ↦ Tr.k c6.toNat Tr.nil.w.w).w).w.br (Tr.b false (Tr.bs (List.take
 (256 : Nat) (List.drop (0 : Nat) (T k))) Tr.nil)).w.w).w))).w)).w).w).w).w.w.w))).w.w))).w)).w.w).w).w).w)).w.w).w).w)).w))).w.w).w.w).w)).w).w)).w.w.w).inl).w.w.w).w.w.w).w)).w).inl) rfl ?_
 refine Eq.mpr (by kernel_rfl : _ = ((3 : Nat) = 3 ∧ true = true ∧ (0 : Int) ≤ 0 ∧ some (strL [(45 : UInt8), (45 : UInt8)]) = some (strL [(45 : UInt8), (45 : UInt8)]) ∧ true = true ∧ InI64 1 ∧ false = false ∧ (3 : Nat) = 3 ∧ InI64 2 ∧ false = false ∧ false = false ∧ false = false ∧ true = true ∧ false = false ∧ false = false ∧ false = false ∧ false = false ∧ (1 : Int) = 1 ∧ (3 : Int) = 3 ∧ (1 : Nat) ≤ 3 ∧ (3 : Nat) ≤ 3 ∧ (2 : Nat) = 2 ∧ true = true ∧ (0 : Int) ≤ 0 ∧ some (strL (octS a)) = some (strL (octS a)) ∧ (R FT X).f 25 [lvA n W A B, strL (octS a)] = some (AV.tuple [strL a, intA 0, intA 0]) ∧ false = false ∧ (0 : Nat) = 0 ∧ (0 : Nat) = 0 ∧ (0 : Nat) = 0 ∧ (1 : Nat) = 1 ∧ (16 : Nat) ≤ 140737488355328 ∧ (1 : Nat) ≤ 9223372036854775807 ∧ InI64 1 ∧ true = true ∧ (0 : Int) ≤ 1 ∧ some (strL (octS b)) = some (strL (octS b)) ∧ (R FT X).f 25 [lvA n W A B, strL (octS b)] = some (AV.tuple [strL b, intA 0, intA 0]) ∧ false = false ∧ (1 : Nat) = 1 ∧ (0 : Nat) = 0 ∧ (1 : Nat) = 1 ∧ (2 : Nat) = 2
 ∧ (32 : Nat) ≤ 140737488355328 ∧ (2 : Nat) ≤ 9223372036854775807 ∧ InI64 2 ∧ false = false ∧ (2 : Nat) = 2 ∧ (0 : Int) = 0 ∧ (0 : Nat) < 2 ∧ (2 : Nat) = 2 ∧ some (strL a) = some (strL a) ∧ false = false ∧ (R FT X).f 65 [] = some (AV.agg (List.map u8A (List.map UInt8.ofNat (List.range (256 : Nat))))) ∧ (((256 : Nat) = 256 ∧ true = true) ∧ (256 : Nat) ≤ 256) ∧ setAt (List.replicate (256 : Nat) (AV.val (Value.int IntKind.u8 (0 : Int)))) (0 : Nat) (List.map u8A (List.map UInt8.ofNat (List.range (256 : Nat)))) = List.map u8A (List.map UInt8.ofNat (List.range (256 : Nat))) ∧ false = false ∧ (2 : Nat) = 2 ∧ (2 : Nat) = 2 ∧ false = false ∧ (2 : Nat) = 2 ∧ (1 : Int) = 1 ∧ (1 : Nat) < 2 ∧ (2 : Nat) = 2 ∧ some (strL b) = some (strL b) ∧ (decide (b = []) = true → InI64 2 ∧ ((0 : Int) = 0 ∧ (0 : Int) = 0 ∧ (0 : Int) = 0 ∧ (0 : Int) = 0 ∧ [] = T (List.length a) ∧ (0 : Int) = 0 ∧ (0 : Int) = 0 ∧ (0 : Int) = 0 ∧ (0 : Int) = 0) ∧ (18 : Int) = 0 ∧ (2 : Int) = 0) ∧ (decide (b = []) = false
 → (2 : Nat) = 2 ∧ (1 : Int) = 1 ∧ (1 : Nat) < 2 ∧ (2 : Nat) = 2 ∧ some (strL b) = some (strL b) ∧ (∃ (j3 : Nat), ((True ∧ True ∧ a = a ∧ True ∧ True ∧ b = b ∧ (↑(List.length a) : Int) = (↑(List.length a) : Int) ∧ (0 : Int) = (↑j3 : Int) ∧ True) ∧ (n = n ∧ W = W ∧ A = A ∧ B = B ∧ @List.nil AV = [] ∧ @List.nil AV = []) ∧ ((0 : Int) = 0 ∧ (0 : Int) = 0 ∧ (0 : Int) = 0 ∧ (0 : Int) = 0 ∧ @List.nil UInt8 = [] ∧ (0 : Int) = 0 ∧ (0 : Int) = 0 ∧ (0 : Int) = 0 ∧ (0 : Int) = 0) ∧ (false = false ∧ false = false ∧ false = false) ∧ [strL a, strL b] = [strL a, strL b] ∧ ((0 : Int) = 0 ∧ (0 : Int) = 0 ∧ (0 : Int) = 0 ∧ (0 : Int) = 0 ∧ @List.nil UInt8 = [] ∧ (0 : Int) = 0 ∧ (0 : Int) = 0 ∧ (0 : Int) = 0 ∧ (0 : Int) = 0) ∧ List.map u8A (List.map UInt8.ofNat (List.range (256 : Nat))) = List.map u8A (T j3)) ∧ j3 ≤ List.length a) ∧ ∀ (k : Nat), k ≤ List.length a → (decide ((↑k : Int) < (↑(List.length a) : Int)) = true → (↑k : Int) = (↑k : Int) ∧ k < List.length a ∧ ∀ (c6 : UInt8), a[k]? = some c6 → InI64 ((↑(List.length b) : Int) - 1) ∧ (if
 (↑(List.length b) : Int) - 1 < (↑k : Int) then (↑(List.length b) : Int) - 1 else (↑k : Int)) = (↑(if (↑(List.length b) : Int) - 1 < (↑k : Int) then (↑(List.length b) : Int) - 1 else (↑k : Int)).toNat : Int) ∧ (if (↑(List.length b) : Int) - 1 < (↑k : Int) then (↑(List.length b) : Int) - 1 else (↑k : Int)).toNat < List.length b ∧ ∀ (c8 : UInt8), b[(if (↑(List.length b) : Int) - 1 < (↑k : Int) then (↑(List.length b) : Int) - 1 else (↑k : Int)).toNat]? = some c8 → (↑c6.toNat : Int) = (↑c6.toNat : Int) ∧ c6.toNat < 256 ∧ (0 : Nat) + c6.toNat * 1 + (1 : Nat) ≤ (List.map u8A (T k)).length ∧ InI64 ((↑k : Int) + 1) ∧ ∃ (j10 : Nat), ((True ∧ True ∧ a = a ∧ True ∧ True ∧ b = b ∧ (↑(List.length a) : Int) = (↑(List.length a) : Int) ∧ (↑k : Int) + 1 = (↑j10 : Int) ∧ True) ∧ (n = n ∧ W = W ∧ A = A ∧ B = B ∧ @List.nil AV = [] ∧ @List.nil AV = []) ∧ ((0 : Int) = 0 ∧ (0 : Int) = 0 ∧ (0 : Int) = 0 ∧ (0 : Int) = 0 ∧ @List.nil UInt8 = [] ∧ (0 : Int) = 0 ∧ (0 : Int) = 0 ∧ (0 : Int) = 0 ∧ (0 : Int) = 0) ∧ (false = false ∧ false = false ∧ false = false)
 ∧ [strL a, strL b] = [strL a, strL b] ∧ ((0 : Int) = 0 ∧ (0 : Int) = 0 ∧ (0 : Int) = 0 ∧ (0 : Int) = 0 ∧ @List.nil UInt8 = [] ∧ (0 : Int) = 0 ∧ (0 : Int) = 0 ∧ (0 : Int) = 0 ∧ (0 : Int) = 0) ∧ setAt (List.map u8A (T k)) ((0 : Nat) + c6.toNat * 1) (u8A c8).cells = List.map u8A (T j10)) ∧ j10 ≤ List.length a ∧ List.length a - j10 < List.length a - k) ∧ (decide ((↑k : Int) < (↑(List.length a) : Int)) = false → false = false ∧ ((256 : Nat) ≤ (List.map u8A (T k)).length ∧ (List.take (256 : Nat) (List.drop (0 : Nat) (List.map u8A (T k)))).all AV.grCell = true) ∧ bytesL (List.take (256 : Nat) (List.drop (0 : Nat) (List.map u8A (T k)))) = some (List.take (256 : Nat) (List.drop (0 : Nat) (T k))) ∧ ((0 : Int) = 0 ∧ (0 : Int) = 0 ∧ (0 : Int) = 0 ∧ (0 : Int) = 0 ∧ List.take (256 : Nat) (List.drop (0 : Nat) (T k)) = T (List.length a) ∧ (0 : Int) = 0 ∧ (0 : Int) = 0 ∧ (0 : Int) = 0 ∧ (0 : Int) = 0) ∧ (0 : Int) = 0 ∧ (0 : Int) = 0)))) ?_
 refine ⟨rfl, rfl, (by omega), rfl, rfl, (by unfold InI64; omega), rfl, rfl, (by unfold InI64; omega), rfl, rfl, rfl, rfl, rfl, rfl, rfl, rfl, rfl, rfl, (by omega), (by omega), rfl, rfl, (by omega), rfl, (ex), rfl, rfl, rfl, rfl, rfl, (by omega), (by omega), (by unfold InI64; omega), rfl, (by omega), rfl, (ey), rfl, rfl, rfl, rfl, rfl, (by omega), (by omega), (by unfold InI64; omega), rfl, rfl, rfl, (by omega), rfl, rfl, rfl, (id), ⟨⟨rfl, rfl⟩, (by omega)⟩, rfl, rfl, rfl, rfl, rfl, rfl, rfl, (by omega), rfl, rfl, fun h1_ => have h1 := dT h1_; ⟨(by unfold InI64; omega), ⟨rfl, rfl, rfl, rfl, ?_, rfl, rfl, rfl, rfl⟩, ?_, ?_⟩, fun h2_ => have h2 := dF h2_; ⟨rfl, rfl, (by omega), rfl, rfl, ⟨(0 : Nat), ⟨⟨trivial, trivial, rfl, trivial, trivial, rfl, rfl, (by omega), trivial⟩, ⟨rfl, rfl, rfl, rfl, rfl, rfl⟩, ⟨rfl, rfl, rfl, rfl, rfl, rfl, rfl, rfl, rfl⟩, ⟨rfl, rfl, rfl⟩, rfl, ⟨rfl, rfl, rfl, rfl, rfl, rfl, rfl, rfl, rfl⟩, ?_⟩, (by omega)⟩, fun k => fun h4 => ⟨fun h5_ => have h5 := dT h5_; ⟨rfl, (by omega), fun c6 => fun h7 => ⟨(by unfold InI64; omega), (by omega), (by omega), fun c8 => fun h9 => ⟨rfl, (by have := u8_lt c6; have := u8_lt c8; omega), ?_, (by unfold InI64; omega), ⟨k + (1 : Nat), ⟨⟨trivial, trivial, rfl, trivial, trivial, rfl, rfl, (by omega), trivial⟩, ⟨rfl, rfl, rfl, rfl, rfl, rfl⟩, ⟨rfl, rfl, rfl, rfl, rfl, rfl, rfl, rfl, rfl⟩, ⟨rfl, rfl, rfl⟩, rfl, ⟨rfl, rfl, rfl, rfl, rfl, rfl, rfl, rfl, rfl⟩, ?_⟩, ⟨(by omega), (by omega)⟩⟩⟩⟩⟩, fun h11_ => have h11 := dF h11_; ⟨rfl, ⟨?_, ?_⟩, (by first | exact bytesL_map _ | (rw [List.drop_zero, List.take_of_length_le (by simp)]; exact bytesL_map _) | (simp only [← List.map_take, ← List.map_drop]; exact bytesL_map _) | (rw [← List.map_replicate (f := u8A), ← List.map_append, ← List.map_drop, ← List.map_take]; exact bytesL_map _)), ⟨rfl, rfl, rfl, rfl, ?_, rfl, rfl, rfl, rfl⟩, rfl, rfl⟩⟩⟩⟩
 iterate 3 · exfalso; rw [h1] at hb; simp at hb; omega
 ·rw [hT]; rfl
 ·rw [List.length_map, hl]; have := c6.toNat_lt; omega
 ·have e : (if ((List.length b : Nat) : Int) - 1 < (k : Int) then ((List.length b : Nat) : Int) - 1 else (k : Int)).toNat = k := by
   rw [if_neg (by omega)]; exact Int.toNat_natCast k
  rw [e] at h9
  show setAt ((T k).map u8A) _ [_] = _
  rw [Nat.zero_add, Nat.mul_one, setAt_one _ _ _ (by rw [hl]; exact c6.toNat_lt), hT]
  show ((mpK a b k).set _ _).map u8A = ((mpK a b k).set _ _).map u8A
  rw [getD_of h7, getD_of h9]
 ·rw [List.length_map, hl]; exact Nat.le_refl _
 ·rw [List.drop_zero, List.take_of_length_le (by rw [List.length_map, hl]; exact Nat.le_refl _)]; exact bytes_gr _
 ·rw [List.drop_zero, List.take_of_length_le (by rw [hl]; exact Nat.le_refl _), show k = a.length by omega]
theorem parse_t (hI : LibT X) (n : Bs) (W : List AV) (A B : Bs) (a b : Bs) (ha : a.length ≤ 30) (hb : b.length = a.length) (h0 : 0 < a.length) : (R FT X).f 28 [lvA n W A B, .slice 1 [strL [45, 45], strL (octS a), strL (octS b)]] = some (.tuple [encSp 0 (mpK a b a.length) 0, intA 0, intA 0]) :=
 parse_T a b _ rfl (mpK_len a b) hI n W A B ha hb h0
end
end Go.Proofs.YtienfdjfochlcaaGreatDoor
end
section
namespace Go.Proofs.YtienfdjfochlcaaGreatDoor
set_option linter.unusedVariables false
set_option linter.unusedSimpArgs false
set_option maxRecDepth 100000
set_option maxHeartbeats 4000000
def lowB (i : Nat) : UInt8 := if 65 ≤ i ∧ i ≤ 90 then UInt8.ofNat (i + 32) else UInt8.ofNat i
def uppB (i : Nat) : UInt8 := if 97 ≤ i ∧ i ≤ 122 then UInt8.ofNat (i - 32) else UInt8.ofNat i
def natI (i : Nat) : Int := i
def defV : AV := .agg [strL [112, 111, 115, 105, 120], .slice 1 (((List.range 256).map natI).map intA), strL ((List.range 256).map lowB), strL ((List.range 256).map uppB), .slice 5 [], .slice 2 []]
theorem map_succ {α : Type} (f : Nat → α) (k : Nat) : (List.range (k + 1)).map f = (List.range k).map f ++ [f k] := by rw [List.range_succ, List.map_append]; rfl
theorem st_int (k : Nat) : List.map intA (List.map natI (List.range k)) ++ [AV.val (Value.int IntKind.i64 (k : Int))] = List.map intA (List.map natI (List.range (k + 1))) := by
 rw [map_succ, List.map_append]; rfl
theorem st_u8 (f : Nat → UInt8) (k : Nat) (v : UInt8) (h : v = f k) : List.map u8A (List.map f (List.range k)) ++ [AV.val (Value.int IntKind.u8 (v.toNat : Int))] = List.map u8A (List.map f (List.range (k + 1))) := by
 subst h; rw [map_succ, List.map_append]; rfl
theorem lowB_y {k : Nat} (h : 65 ≤ (k : Int)) (h2 : (k : Int) ≤ 90) : toU8 ((k : Int) + 32) = lowB k := by
 rw [lowB, if_pos (by omega), ← toU8_nat]; rfl
theorem lowB_n {k : Nat} (h : ¬ (65 ≤ (k : Int) ∧ (k : Int) ≤ 90)) : toU8 (k : Int) = lowB k := by
 rw [lowB, if_neg (by omega), ← toU8_nat]
theorem uppB_y {k : Nat} (h : 97 ≤ (k : Int)) (h2 : (k : Int) ≤ 122) : toU8 ((k : Int) - 32) = uppB k := by
 rw [uppB, if_pos (by omega), ← toU8_nat, Int.ofNat_sub (by omega)]; rfl
theorem uppB_n {k : Nat} (h : ¬ (97 ≤ (k : Int) ∧ (k : Int) ≤ 122)) : toU8 (k : Int) = uppB k := by
 rw [uppB, if_neg (by omega), ← toU8_nat]
section
variable {X : CallF}
theorem def2_run' (W : List AV) (A B : List UInt8) (hW : W = ((List.range 256).map natI).map intA) (hA : A = (List.range 256).map lowB) (hB : B = (List.range 256).map uppB) : (R FT X).f 34 [] = some (.agg [strL [112, 111, 115, 105, 120], .slice 1 W, strL A, strL B, .slice 5 [], .slice 2 []]) := by
  have hm := maxLen_le
  refine R_wp ((Tr.inv (fun (k : Nat) ↦ St.mk [(0, AV.ptr 3 0), (1, AV.ptr 7 0), (2, AV.row 11 0 k (0 : Nat) k), (3, AV.row 12 0 k (0 : Nat) k), (4, intA (↑k : Int))] [MObj.row 0 1 [] true (1 : Nat), MObj.row 0 5 [] true (1 : Nat), MObj.row 0 2 [] true (1 : Nat), MObj.box 26 [strL [], AV.row 0 0 (0 : Nat) (0 : Nat) (0 : Nat), strL [], strL [], AV.row 1 0 (0 : Nat) (0 : Nat) (0 : Nat), AV.row 2 0 (0 : Nat) (0 : Nat) (0 : Nat)], MObj.row 0 1 [] true (1 : Nat), MObj.row 0 5 [] true (1 : Nat), MObj.row 0 2 [] true (1 : Nat), MObj.box 26 [strL [(112 : UInt8), (111 : UInt8), (115 : UInt8), (105 : UInt8), (120 : UInt8)], AV.row 8 0 k (0 : Nat) k, strL [], strL [], AV.row 9 0 (0 : Nat) (0 : Nat) (0 : Nat), AV.row 10 0 (0 : Nat) (0 : Nat) (0 : Nat)], MObj.row 0 1 (List.map intA (List.map natI (List.range k))) true (1 : Nat), MObj.row 0 5 [] true (1 : Nat), MObj.row
  (0 : Nat) (2 : Nat) [] true (1 : Nat), MObj.row 0 1 (List.map u8A (List.map lowB (List.range k))) true (1 : Nat), MObj.row 0 1 (List.map u8A (List.map uppB (List.range k))) true (1 : Nat)]) (fun (k : Nat) ↦ k ≤ 256) (fun (k : Nat) ↦ (256 : Nat) - k) fun (k : Nat) ↦ ((((Tr.b false (Tr.b false (Tr.k (k + 1) (Tr.k (k + 1) (Tr.k (k + 1) Tr.nil.w)))).w).w.w.br (((Tr.k (k + 1) (Tr.k (k + 1) (Tr.k (k + 1) Tr.nil.w))).w.br (Tr.k (k + 1) (Tr.k (k + 1) (Tr.k (k + 1) Tr.nil.w)))).w.br (Tr.b false (Tr.k (k + 1) (Tr.k (k + 1) (Tr.k (k + 1) Tr.nil.w)))).w).w).w.br (Tr.b false (Tr.b false (Tr.b false (Tr.k (k + 1) (Tr.k (k + 1) (Tr.k (k + 1) Tr.nil.w)))).w).w).w).w.w.br (Tr.bs (List.map lowB (List.range k)) (Tr.bs (List.map uppB (List.range k)) (Tr.g (List.map intA (List.map natI (List.range k))) (Tr.g [] (Tr.g [] Tr.nil)))))).w).w) rfl ?_
  refine Eq.mpr (by kernel_rfl : _ = ((∃ (j1 : Nat), ((True ∧ True ∧ ((0 : Nat) = j1 ∧ (0 : Nat) = 0 ∧ (0 : Nat) = j1) ∧ ((0 : Nat) = j1 ∧ (0 : Nat) = 0 ∧ (0 : Nat) = j1) ∧ (0 : Int) = (↑j1 : Int) ∧ True) ∧ @List.nil AV = [] ∧ @List.nil AV = [] ∧ @List.nil AV = [] ∧ (@List.nil UInt8 = [] ∧ ((0 : Nat) = 0 ∧ (0 : Nat) = 0 ∧ (0 : Nat) = 0) ∧ @List.nil UInt8 = [] ∧ @List.nil UInt8 = [] ∧ ((0 : Nat) = 0 ∧ (0 : Nat) = 0 ∧ (0 : Nat) = 0) ∧ (0 : Nat) = 0 ∧ (0 : Nat) = 0 ∧ (0 : Nat) = 0) ∧ @List.nil AV = [] ∧ @List.nil AV = [] ∧ @List.nil AV = [] ∧ ([(112 : UInt8), (111 : UInt8), (115 : UInt8), (105 : UInt8), (120 : UInt8)] = [(112 : UInt8), (111 : UInt8), (115 : UInt8), (105 : UInt8), (120 : UInt8)] ∧ ((0 : Nat) = j1 ∧ (0 : Nat) = 0 ∧ (0 : Nat) = j1) ∧ @List.nil UInt8 = [] ∧ @List.nil UInt8 = [] ∧ ((0 : Nat) = 0 ∧ (0 : Nat) = 0 ∧ (0 : Nat) = 0) ∧ (0 : Nat) = 0 ∧ (0 : Nat) = 0 ∧ (0 : Nat) = 0) ∧ [] = List.map intA (List.map natI (List.range j1)) ∧ @List.nil AV = [] ∧ @List.nil AV = [] ∧ [] = List.map u8A (List.map lowB (List.range j1)) ∧ [] = List.map u8A (List.map uppB (List.range j1)))
  ∧ j1 ≤ 256) ∧ ∀ (k : Nat), k ≤ 256 → (decide ((↑k : Int) < 256) = true → (decide ((65 : Int) ≤ (↑k : Int)) = true → (decide ((↑k : Int) ≤ 90) = true → InI64 ((↑k : Int) + 32) ∧ decide ((97 : Int) ≤ (↑k : Int)) = false ∧ false = false ∧ (List.map intA (List.map natI (List.range k))).length = k ∧ (0 : Nat) = 0 ∧ k = k ∧ k + [AV.val (Value.int IntKind.i64 (↑k : Int))].length = k + 1 ∧ (k + 1) * 8 ≤ (140737488355328 : Nat) ∧ k + 1 ≤ (9223372036854775807 : Nat) ∧ (List.map u8A (List.map lowB (List.range k))).length = k ∧ (0 : Nat) = 0 ∧ k = k ∧ k + [u8A (toU8 ((↑k : Int) + 32))].length = k + 1 ∧ (k + 1) * 1 ≤ (140737488355328 : Nat) ∧ k + 1 ≤ (9223372036854775807 : Nat) ∧ (List.map u8A (List.map uppB (List.range k))).length = k ∧ (0 : Nat) = 0 ∧ k = k ∧ k + [u8A (toU8 (↑k : Int))].length = k + 1 ∧ (k + 1) * 1 ≤ (140737488355328 : Nat) ∧ k + 1 ≤ (9223372036854775807 : Nat) ∧ InI64 ((↑k : Int) + 1) ∧ ∃ (j6 : Nat), ((True ∧ True ∧ (k + 1 = j6 ∧ (0 : Nat) = 0 ∧ k + 1 = j6) ∧ (k + 1 = j6
  ∧ (0 : Nat) = 0 ∧ k + 1 = j6) ∧ (↑k : Int) + 1 = (↑j6 : Int) ∧ True) ∧ @List.nil AV = [] ∧ @List.nil AV = [] ∧ @List.nil AV = [] ∧ (@List.nil UInt8 = [] ∧ ((0 : Nat) = 0 ∧ (0 : Nat) = 0 ∧ (0 : Nat) = 0) ∧ @List.nil UInt8 = [] ∧ @List.nil UInt8 = [] ∧ ((0 : Nat) = 0 ∧ (0 : Nat) = 0 ∧ (0 : Nat) = 0) ∧ (0 : Nat) = 0 ∧ (0 : Nat) = 0 ∧ (0 : Nat) = 0) ∧ @List.nil AV = [] ∧ @List.nil AV = [] ∧ @List.nil AV = [] ∧ ([(112 : UInt8), (111 : UInt8), (115 : UInt8), (105 : UInt8), (120 : UInt8)] = [(112 : UInt8), (111 : UInt8), (115 : UInt8), (105 : UInt8), (120 : UInt8)] ∧ (k + 1 = j6 ∧ (0 : Nat) = 0 ∧ k + 1 = j6) ∧ @List.nil UInt8 = [] ∧ @List.nil UInt8 = [] ∧ ((0 : Nat) = 0 ∧ (0 : Nat) = 0 ∧ (0 : Nat) = 0) ∧ (0 : Nat) = 0 ∧ (0 : Nat) = 0 ∧ (0 : Nat) = 0) ∧ List.map intA (List.map natI (List.range k)) ++ [AV.val (Value.int IntKind.i64 (↑k : Int))] = List.map intA (List.map natI (List.range j6)) ∧ @List.nil AV = [] ∧ @List.nil AV = [] ∧ List.map u8A (List.map lowB (List.range k)) ++ [u8A (toU8 ((↑k : Int) + 32))] = List.map
  u8A (List.map lowB (List.range j6)) ∧ List.map u8A (List.map uppB (List.range k)) ++ [u8A (toU8 (↑k : Int))] = List.map u8A (List.map uppB (List.range j6))) ∧ j6 ≤ 256 ∧ (256 : Nat) - j6 < 256 - k) ∧ (decide ((↑k : Int) ≤ 90) = false → (decide ((97 : Int) ≤ (↑k : Int)) = true → (decide ((↑k : Int) ≤ 122) = true → InI64 ((↑k : Int) - 32) ∧ (List.map intA (List.map natI (List.range k))).length = k ∧ (0 : Nat) = 0 ∧ k = k ∧ k + [AV.val (Value.int IntKind.i64 (↑k : Int))].length = k + 1 ∧ (k + 1) * 8 ≤ (140737488355328 : Nat) ∧ k + 1 ≤ (9223372036854775807 : Nat) ∧ (List.map u8A (List.map lowB (List.range k))).length = k ∧ (0 : Nat) = 0 ∧ k = k ∧ k + [u8A (toU8 (↑k : Int))].length = k + 1 ∧ (k + 1) * 1 ≤ (140737488355328 : Nat) ∧ k + 1 ≤ (9223372036854775807 : Nat) ∧ (List.map u8A (List.map uppB (List.range k))).length = k ∧ (0 : Nat) = 0 ∧ k = k ∧ k + [u8A (toU8 ((↑k : Int) - 32))].length = k + 1 ∧ (k + 1) * 1 ≤ (140737488355328 : Nat) ∧ k + 1 ≤ (9223372036854775807 : Nat) ∧ InI64 ((↑k : Int) + 1) ∧ ∃ (j10 : Nat),
  ((True ∧ True ∧ (k + 1 = j10 ∧ (0 : Nat) = 0 ∧ k + 1 = j10) ∧ (k + 1 = j10 ∧ (0 : Nat) = 0 ∧ k + 1 = j10) ∧ (↑k : Int) + 1 = (↑j10 : Int) ∧ True) ∧ @List.nil AV = [] ∧ @List.nil AV = [] ∧ @List.nil AV = [] ∧ (@List.nil UInt8 = [] ∧ ((0 : Nat) = 0 ∧ (0 : Nat) = 0 ∧ (0 : Nat) = 0) ∧ @List.nil UInt8 = [] ∧ @List.nil UInt8 = [] ∧ ((0 : Nat) = 0 ∧ (0 : Nat) = 0 ∧ (0 : Nat) = 0) ∧ (0 : Nat) = 0 ∧ (0 : Nat) = 0 ∧ (0 : Nat) = 0) ∧ @List.nil AV = [] ∧ @List.nil AV = [] ∧ @List.nil AV = [] ∧ ([(112 : UInt8), (111 : UInt8), (115 : UInt8), (105 : UInt8), (120 : UInt8)] = [(112 : UInt8), (111 : UInt8), (115 : UInt8), (105 : UInt8), (120 : UInt8)] ∧ (k + 1 = j10 ∧ (0 : Nat) = 0 ∧ k + 1 = j10) ∧ @List.nil UInt8 = [] ∧ @List.nil UInt8 = [] ∧ ((0 : Nat) = 0 ∧ (0 : Nat) = 0 ∧ (0 : Nat) = 0) ∧ (0 : Nat) = 0 ∧ (0 : Nat) = 0 ∧ (0 : Nat) = 0) ∧ List.map intA (List.map natI (List.range k)) ++ [AV.val (Value.int IntKind.i64 (↑k : Int))] = List.map intA (List.map natI (List.range j10)) ∧ @List.nil AV = [] ∧ @List.nil
  AV = [] ∧ List.map u8A (List.map lowB (List.range k)) ++ [u8A (toU8 (↑k : Int))] = List.map u8A (List.map lowB (List.range j10)) ∧ List.map u8A (List.map uppB (List.range k)) ++ [u8A (toU8 ((↑k : Int) - 32))] = List.map u8A (List.map uppB (List.range j10))) ∧ j10 ≤ 256 ∧ (256 : Nat) - j10 < 256 - k) ∧ (decide ((↑k : Int) ≤ 122) = false → (List.map intA (List.map natI (List.range k))).length = k ∧ (0 : Nat) = 0 ∧ k = k ∧ k + [AV.val (Value.int IntKind.i64 (↑k : Int))].length = k + 1 ∧ (k + 1) * 8 ≤ (140737488355328 : Nat) ∧ k + 1 ≤ (9223372036854775807 : Nat) ∧ (List.map u8A (List.map lowB (List.range k))).length = k ∧ (0 : Nat) = 0 ∧ k = k ∧ k + [u8A (toU8 (↑k : Int))].length = k + 1 ∧ (k + 1) * 1 ≤ (140737488355328 : Nat) ∧ k + 1 ≤ (9223372036854775807 : Nat) ∧ (List.map u8A (List.map uppB (List.range k))).length = k ∧ (0 : Nat) = 0 ∧ k = k ∧ k + [u8A (toU8 (↑k : Int))].length = k + 1 ∧ (k + 1) * 1 ≤ (140737488355328 : Nat) ∧ k + 1 ≤ (9223372036854775807 : Nat) ∧ InI64 ((↑k : Int) + 1) ∧ ∃ (j12 : Nat), ((True ∧ True ∧ (k + (1
  : Nat) = j12 ∧ (0 : Nat) = 0 ∧ k + 1 = j12) ∧ (k + 1 = j12 ∧ (0 : Nat) = 0 ∧ k + 1 = j12) ∧ (↑k : Int) + 1 = (↑j12 : Int) ∧ True) ∧ @List.nil AV = [] ∧ @List.nil AV = [] ∧ @List.nil AV = [] ∧ (@List.nil UInt8 = [] ∧ ((0 : Nat) = 0 ∧ (0 : Nat) = 0 ∧ (0 : Nat) = 0) ∧ @List.nil UInt8 = [] ∧ @List.nil UInt8 = [] ∧ ((0 : Nat) = 0 ∧ (0 : Nat) = 0 ∧ (0 : Nat) = 0) ∧ (0 : Nat) = 0 ∧ (0 : Nat) = 0 ∧ (0 : Nat) = 0) ∧ @List.nil AV = [] ∧ @List.nil AV = [] ∧ @List.nil AV = [] ∧ ([(112 : UInt8), (111 : UInt8), (115 : UInt8), (105 : UInt8), (120 : UInt8)] = [(112 : UInt8), (111 : UInt8), (115 : UInt8), (105 : UInt8), (120 : UInt8)] ∧ (k + 1 = j12 ∧ (0 : Nat) = 0 ∧ k + 1 = j12) ∧ @List.nil UInt8 = [] ∧ @List.nil UInt8 = [] ∧ ((0 : Nat) = 0 ∧ (0 : Nat) = 0 ∧ (0 : Nat) = 0) ∧ (0 : Nat) = 0 ∧ (0 : Nat) = 0 ∧ (0 : Nat) = 0) ∧ List.map intA (List.map natI (List.range k)) ++ [AV.val (Value.int IntKind.i64 (↑k : Int))] = List.map intA (List.map natI (List.range j12)) ∧ @List.nil AV = [] ∧ @List.nil AV = [] ∧ List.map
  u8A (List.map lowB (List.range k)) ++ [u8A (toU8 (↑k : Int))] = List.map u8A (List.map lowB (List.range j12)) ∧ List.map u8A (List.map uppB (List.range k)) ++ [u8A (toU8 (↑k : Int))] = List.map u8A (List.map uppB (List.range j12))) ∧ j12 ≤ 256 ∧ (256 : Nat) - j12 < 256 - k)) ∧ (decide ((97 : Int) ≤ (↑k : Int)) = false → false = false ∧ (List.map intA (List.map natI (List.range k))).length = k ∧ (0 : Nat) = 0 ∧ k = k ∧ k + [AV.val (Value.int IntKind.i64 (↑k : Int))].length = k + 1 ∧ (k + 1) * 8 ≤ (140737488355328 : Nat) ∧ k + 1 ≤ (9223372036854775807 : Nat) ∧ (List.map u8A (List.map lowB (List.range k))).length = k ∧ (0 : Nat) = 0 ∧ k = k ∧ k + [u8A (toU8 (↑k : Int))].length = k + 1 ∧ (k + 1) * 1 ≤ (140737488355328 : Nat) ∧ k + 1 ≤ (9223372036854775807 : Nat) ∧ (List.map u8A (List.map uppB (List.range k))).length = k ∧ (0 : Nat) = 0 ∧ k = k ∧ k + [u8A (toU8 (↑k : Int))].length = k + 1 ∧ (k + 1) * 1 ≤ (140737488355328 : Nat) ∧ k + 1 ≤ (9223372036854775807 : Nat) ∧ InI64 ((↑k : Int) + 1) ∧ ∃ (j14 : Nat), ((True ∧ True ∧ (k + 1 = j14 ∧ (0
  : Nat) = 0 ∧ k + 1 = j14) ∧ (k + 1 = j14 ∧ (0 : Nat) = 0 ∧ k + 1 = j14) ∧ (↑k : Int) + 1 = (↑j14 : Int) ∧ True) ∧ @List.nil AV = [] ∧ @List.nil AV = [] ∧ @List.nil AV = [] ∧ (@List.nil UInt8 = [] ∧ ((0 : Nat) = 0 ∧ (0 : Nat) = 0 ∧ (0 : Nat) = 0) ∧ @List.nil UInt8 = [] ∧ @List.nil UInt8 = [] ∧ ((0 : Nat) = 0 ∧ (0 : Nat) = 0 ∧ (0 : Nat) = 0) ∧ (0 : Nat) = 0 ∧ (0 : Nat) = 0 ∧ (0 : Nat) = 0) ∧ @List.nil AV = [] ∧ @List.nil AV = [] ∧ @List.nil AV = [] ∧ ([(112 : UInt8), (111 : UInt8), (115 : UInt8), (105 : UInt8), (120 : UInt8)] = [(112 : UInt8), (111 : UInt8), (115 : UInt8), (105 : UInt8), (120 : UInt8)] ∧ (k + 1 = j14 ∧ (0 : Nat) = 0 ∧ k + 1 = j14) ∧ @List.nil UInt8 = [] ∧ @List.nil UInt8 = [] ∧ ((0 : Nat) = 0 ∧ (0 : Nat) = 0 ∧ (0 : Nat) = 0) ∧ (0 : Nat) = 0 ∧ (0 : Nat) = 0 ∧ (0 : Nat) = 0) ∧ List.map intA (List.map natI (List.range k)) ++ [AV.val (Value.int IntKind.i64 (↑k : Int))] = List.map intA (List.map natI (List.range j14)) ∧ @List.nil AV = [] ∧ @List.nil AV = [] ∧ List.map u8A (List.map lowB
  (List.range k)) ++ [u8A (toU8 (↑k : Int))] = List.map u8A (List.map lowB (List.range j14)) ∧ List.map u8A (List.map uppB (List.range k)) ++ [u8A (toU8 (↑k : Int))] = List.map u8A (List.map uppB (List.range j14))) ∧ j14 ≤ 256 ∧ (256 : Nat) - j14 < 256 - k))) ∧ (decide ((65 : Int) ≤ (↑k : Int)) = false → false = false ∧ decide ((97 : Int) ≤ (↑k : Int)) = false ∧ false = false ∧ (List.map intA (List.map natI (List.range k))).length = k ∧ (0 : Nat) = 0 ∧ k = k ∧ k + [AV.val (Value.int IntKind.i64 (↑k : Int))].length = k + 1 ∧ (k + 1) * 8 ≤ (140737488355328 : Nat) ∧ k + 1 ≤ (9223372036854775807 : Nat) ∧ (List.map u8A (List.map lowB (List.range k))).length = k ∧ (0 : Nat) = 0 ∧ k = k ∧ k + [u8A (toU8 (↑k : Int))].length = k + 1 ∧ (k + 1) * 1 ≤ (140737488355328 : Nat) ∧ k + 1 ≤ (9223372036854775807 : Nat) ∧ (List.map u8A (List.map uppB (List.range k))).length = k ∧ (0 : Nat) = 0 ∧ k = k ∧ k + [u8A (toU8 (↑k : Int))].length = k + 1 ∧ (k + 1) * 1 ≤ (140737488355328 : Nat) ∧ k + 1 ≤ (9223372036854775807 : Nat) ∧ InI64 ((↑k : Int) + 1) ∧ ∃ (j16 : Nat),
  ((True ∧ True ∧ (k + 1 = j16 ∧ (0 : Nat) = 0 ∧ k + 1 = j16) ∧ (k + 1 = j16 ∧ (0 : Nat) = 0 ∧ k + 1 = j16) ∧ (↑k : Int) + 1 = (↑j16 : Int) ∧ True) ∧ @List.nil AV = [] ∧ @List.nil AV = [] ∧ @List.nil AV = [] ∧ (@List.nil UInt8 = [] ∧ ((0 : Nat) = 0 ∧ (0 : Nat) = 0 ∧ (0 : Nat) = 0) ∧ @List.nil UInt8 = [] ∧ @List.nil UInt8 = [] ∧ ((0 : Nat) = 0 ∧ (0 : Nat) = 0 ∧ (0 : Nat) = 0) ∧ (0 : Nat) = 0 ∧ (0 : Nat) = 0 ∧ (0 : Nat) = 0) ∧ @List.nil AV = [] ∧ @List.nil AV = [] ∧ @List.nil AV = [] ∧ ([(112 : UInt8), (111 : UInt8), (115 : UInt8), (105 : UInt8), (120 : UInt8)] = [(112 : UInt8), (111 : UInt8), (115 : UInt8), (105 : UInt8), (120 : UInt8)] ∧ (k + 1 = j16 ∧ (0 : Nat) = 0 ∧ k + 1 = j16) ∧ @List.nil UInt8 = [] ∧ @List.nil UInt8 = [] ∧ ((0 : Nat) = 0 ∧ (0 : Nat) = 0 ∧ (0 : Nat) = 0) ∧ (0 : Nat) = 0 ∧ (0 : Nat) = 0 ∧ (0 : Nat) = 0) ∧ List.map intA (List.map natI (List.range k)) ++ [AV.val (Value.int IntKind.i64 (↑k : Int))] = List.map intA (List.map natI (List.range j16)) ∧ @List.nil AV = [] ∧ @List.nil
  AV = [] ∧ List.map u8A (List.map lowB (List.range k)) ++ [u8A (toU8 (↑k : Int))] = List.map u8A (List.map lowB (List.range j16)) ∧ List.map u8A (List.map uppB (List.range k)) ++ [u8A (toU8 (↑k : Int))] = List.map u8A (List.map uppB (List.range j16))) ∧ j16 ≤ 256 ∧ (256 : Nat) - j16 < 256 - k)) ∧ (decide ((↑k : Int) < 256) = false → (List.map u8A (List.map lowB (List.range k))).length = k ∧ bytesL (List.take k (List.drop (0 : Nat) (List.map u8A (List.map lowB (List.range k))))) = some (List.map lowB (List.range k)) ∧ (List.map u8A (List.map uppB (List.range k))).length = k ∧ bytesL (List.take k (List.drop (0 : Nat) (List.map u8A (List.map uppB (List.range k))))) = some (List.map uppB (List.range k)) ∧ (List.map intA (List.map natI (List.range k))).length = k ∧ List.take k (List.drop (0 : Nat) (List.map intA (List.map natI (List.range k)))) = List.map intA (List.map natI (List.range k)) ∧ (0 : Nat) = 0 ∧ List.take (0 : Nat) (List.drop (0 : Nat) (@List.nil AV)) = [] ∧ (0 : Nat) = 0 ∧ List.take (0 : Nat) (List.drop (0 : Nat) (@List.nil AV)) = [] ∧ [(112 : UInt8), (111 : UInt8), (115 : UInt8), (105 : UInt8), (120 : UInt8)] = [(112 : UInt8), (111 :
  UInt8), (115 : UInt8), (105 : UInt8), (120 : UInt8)] ∧ List.map intA (List.map natI (List.range k)) = W ∧ List.map lowB (List.range k) = A ∧ List.map uppB (List.range k) = B ∧ @List.nil AV = [] ∧ @List.nil AV = []))) ?_
  refine ⟨⟨(0 : Nat), ⟨⟨trivial, trivial, ⟨rfl, rfl, rfl⟩, ⟨rfl, rfl, rfl⟩, (by omega), trivial⟩, rfl, rfl, rfl, ⟨rfl, ⟨rfl, rfl, rfl⟩, rfl, rfl, ⟨rfl, rfl, rfl⟩, rfl, rfl, rfl⟩, rfl, rfl, rfl, ⟨rfl, ⟨rfl, rfl, rfl⟩, rfl, rfl, ⟨rfl, rfl, rfl⟩, rfl, rfl, rfl⟩, rfl, rfl, rfl, rfl, rfl⟩, (by omega)⟩, fun k => fun h2 => ⟨fun h3_ => have h3 := dT h3_; ⟨fun h4_ => have h4 := dT h4_; ⟨fun h5_ => have h5 := dT h5_; ⟨(by unfold InI64; omega), (fD (by omega)), rfl, (by simp), rfl, rfl, rfl, (by omega), (by omega), (by simp), rfl, rfl, rfl, (by omega), (by omega), (by simp), rfl, rfl, rfl, (by omega), (by omega), (by unfold InI64; omega), ⟨k + (1 : Nat), ⟨⟨trivial, trivial, ⟨rfl, rfl, rfl⟩, ⟨rfl, rfl, rfl⟩, (by omega), trivial⟩, rfl, rfl, rfl, ⟨rfl, ⟨rfl, rfl, rfl⟩, rfl, rfl, ⟨rfl, rfl, rfl⟩, rfl, rfl, rfl⟩, rfl, rfl, rfl, ⟨rfl, ⟨rfl, rfl, rfl⟩, rfl, rfl, ⟨rfl, rfl, rfl⟩, rfl, rfl, rfl⟩, ?_, rfl, rfl, ?_, ?_⟩, ⟨(by omega), (by omega)⟩⟩⟩, fun h7_ => have h7 := dF h7_; ⟨fun h8_ => have h8 := dT h8_; ⟨fun h9_ => have h9 := dT h9_; ⟨(by unfold InI64; omega), (by simp), rfl, rfl, rfl, (by omega), (by omega), (by simp), rfl, rfl, rfl, (by omega), (by omega), (by simp), rfl, rfl, rfl, (by omega), (by omega), (by unfold InI64; omega), ⟨k + (1 : Nat), ⟨⟨trivial, trivial, ⟨rfl, rfl, rfl⟩, ⟨rfl, rfl, rfl⟩, (by omega), trivial⟩, rfl, rfl, rfl, ⟨rfl, ⟨rfl, rfl, rfl⟩, rfl, rfl, ⟨rfl, rfl, rfl⟩, rfl, rfl, rfl⟩, rfl, rfl, rfl, ⟨rfl, ⟨rfl, rfl, rfl⟩, rfl, rfl, ⟨rfl, rfl, rfl⟩, rfl, rfl, rfl⟩, ?_, rfl, rfl, ?_, ?_⟩, ⟨(by omega), (by omega)⟩⟩⟩, fun h11_ => have h11 := dF h11_; ⟨(by simp), rfl, rfl, rfl, (by omega), (by omega), (by simp), rfl, rfl, rfl, (by omega), (by omega), (by simp), rfl, rfl, rfl, (by omega), (by omega), (by unfold InI64; omega), ⟨k + (1 : Nat), ⟨⟨trivial, trivial, ⟨rfl, rfl, rfl⟩, ⟨rfl, rfl, rfl⟩, (by omega), trivial⟩, rfl, rfl, rfl, ⟨rfl, ⟨rfl, rfl, rfl⟩, rfl, rfl, ⟨rfl, rfl, rfl⟩, rfl, rfl, rfl⟩, rfl, rfl, rfl, ⟨rfl, ⟨rfl, rfl, rfl⟩, rfl, rfl, ⟨rfl, rfl, rfl⟩, rfl, rfl, rfl⟩, ?_, rfl, rfl, ?_, ?_⟩, ⟨(by omega), (by omega)⟩⟩⟩⟩, fun h13_ => have h13 := dF h13_; ⟨rfl, (by simp), rfl, rfl, rfl, (by omega), (by omega), (by simp), rfl, rfl, rfl, (by omega), (by omega), (by simp), rfl, rfl, rfl, (by omega), (by omega), (by unfold InI64; omega), ⟨k + (1 : Nat), ⟨⟨trivial, trivial, ⟨rfl, rfl, rfl⟩, ⟨rfl, rfl, rfl⟩, (by omega), trivial⟩, rfl, rfl, rfl, ⟨rfl, ⟨rfl, rfl, rfl⟩, rfl, rfl, ⟨rfl, rfl, rfl⟩, rfl, rfl, rfl⟩, rfl, rfl, rfl, ⟨rfl, ⟨rfl, rfl, rfl⟩, rfl, rfl, ⟨rfl, rfl, rfl⟩, rfl, rfl, rfl⟩, ?_, rfl, rfl, ?_, ?_⟩, ⟨(by omega), (by omega)⟩⟩⟩⟩⟩, fun h15_ => have h15 := dF h15_; ⟨rfl, (fD (by omega)), rfl, (by simp), rfl, rfl, rfl, (by omega), (by omega), (by simp), rfl, rfl, rfl, (by omega), (by omega), (by simp), rfl, rfl, rfl, (by omega), (by omega), (by unfold InI64; omega), ⟨k + (1 : Nat), ⟨⟨trivial, trivial, ⟨rfl, rfl, rfl⟩, ⟨rfl, rfl, rfl⟩, (by omega), trivial⟩, rfl, rfl, rfl, ⟨rfl, ⟨rfl, rfl, rfl⟩, rfl, rfl, ⟨rfl, rfl, rfl⟩, rfl, rfl, rfl⟩, rfl, rfl, rfl, ⟨rfl, ⟨rfl, rfl, rfl⟩, rfl, rfl, ⟨rfl, rfl, rfl⟩, rfl, rfl, rfl⟩, ?_, rfl, rfl, ?_, ?_⟩, ⟨(by omega), (by omega)⟩⟩⟩⟩, fun h17_ => have h17 := dF h17_; ⟨(by simp), (by first | exact bytesL_map _ | (rw [List.drop_zero, List.take_of_length_le (by simp)]; exact bytesL_map _) | (simp only [← List.map_take, ← List.map_drop]; exact bytesL_map _) | (rw [← List.map_replicate (f := u8A), ← List.map_append, ← List.map_drop, ← List.map_take]; exact bytesL_map _)), (by simp), (by first | exact bytesL_map _ | (rw [List.drop_zero, List.take_of_length_le (by simp)]; exact bytesL_map _) | (simp only [← List.map_take, ← List.map_drop]; exact bytesL_map _) | (rw [← List.map_replicate (f := u8A), ← List.map_append, ← List.map_drop, ← List.map_take]; exact bytesL_map _)), (by simp), ?_, rfl, rfl, rfl, rfl, rfl, ?_, ?_, ?_, rfl, rfl⟩⟩⟩
  all_goals first
    | exact st_int _
    | exact st_u8 _ _ _ (lowB_y (by omega) (by omega))
    | exact st_u8 _ _ _ (lowB_n (by omega))
    | exact st_u8 _ _ _ (uppB_y (by omega) (by omega))
    | exact st_u8 _ _ _ (uppB_n (by omega))
    | (obtain rfl : k = 256 := by omega
       first | exact hW.symm | (rw [hW, List.drop_zero, List.take_of_length_le (by simp)]) | exact hA.symm | exact hB.symm)
    | (rw [List.drop_zero, List.take_of_length_le (by simp)])
    | skip
theorem def2_run : (R FT X).f 34 [] = some defV := def2_run' _ _ _ rfl rfl rfl
end
end Go.Proofs.YtienfdjfochlcaaGreatDoor
end
