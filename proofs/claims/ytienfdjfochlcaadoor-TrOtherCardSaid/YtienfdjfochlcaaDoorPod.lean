/- Own texts of this claim, merged: Tr3, TrC, Tr4, Tr5, TrT, TrO, TrW, Tr2, Tr1, TrY, Tr8. -/
import Derived.Test.YtienfdjfochlcaaDoorPoc
import Derived.Deep.DeepHandedRow
import Derived.Lay
import Derived.Deep.DeepWitnessRowRef
import Derived.Shelf.Vars
section
namespace Go.Proofs.YtienfdjfochlcaaDoor
set_option linter.unusedVariables false
set_option linter.unusedSimpArgs false
set_option maxRecDepth 100000
set_option maxHeartbeats 4000000
def encSp (D : CS) (M : Bs) (Q : CS) : AV := .agg [w64 (wd D 0), w64 (wd D 1), w64 (wd D 2), w64 (wd D 3), strL M, w64 (wd Q 0), w64 (wd Q 1), w64 (wd Q 2), w64 (wd Q 3)]
def boxSp (D : CS) (M : Bs) (Q : CS) : MObj := .box 27 [w64 (wd D 0), w64 (wd D 1), w64 (wd D 2), w64 (wd D 3), strL M, w64 (wd Q 0), w64 (wd Q 1), w64 (wd Q 2), w64 (wd Q 3)]
def boxT (D : CS) (M : Bs) (Q : CS) (a : Bool) (c : UInt8) : MObj := .box 38 (M.map u8A ++ [w64 (wd D 0), w64 (wd D 1), w64 (wd D 2), w64 (wd D 3), strL M, w64 (wd Q 0), w64 (wd Q 1), w64 (wd Q 2), w64 (wd Q 3), boolA true, boolA a, u8A c])
def chk (M : Bs) : Int := if M.length = 256 then 0 else 2
section
variable {X : CallF}
theorem has_run (s : CS) (c : UInt8) : (R FT X).f 20 [encCS s, u8A c] = some (boolA (s.getLsbD c.toNat)) := by
 refine R_wp (Tr.k 0 ((Tr.k 0 Tr.nil.w).br ((Tr.k 0 Tr.nil.w).br ((Tr.k 0 Tr.nil.w).br (Tr.b true (Tr.k 0 Tr.nil.w)))))) rfl ?_
 refine Eq.mpr (by kernel_rfl : _ = ((0 : Int) ≤ (↑c.toNat : Int) ∧ (0 : Int) < 64 ∧ (↑c.toNat : Int) ≤ 255 ∧ ((↑c.toNat : Int) / (64 : Int) = 0 → (0 : Int) ≤ (↑c.toNat : Int) ∧ (0 : Int) < 64 ∧ (0 : Int) ≤ (↑c.toNat : Int) % (64 : Int) ∧ decide (bitX BinOp.and IntKind.u64 (shrW IntKind.u64 (↑(wd s (0 : Nat)).toNat : Int) ((↑c.toNat : Int) % (64 : Int))) (1 : Int) = 1) = BitVec.getLsbD s c.toNat) ∧ ((↑c.toNat : Int) / (64 : Int) ≠ 0 → ((↑c.toNat : Int) / (64 : Int) = 1 → (0 : Int) ≤ (↑c.toNat : Int) ∧ (0 : Int) < 64 ∧ (0 : Int) ≤ (↑c.toNat : Int) % (64 : Int) ∧ decide (bitX BinOp.and IntKind.u64 (shrW IntKind.u64 (↑(wd s (1 : Nat)).toNat : Int) ((↑c.toNat : Int) % (64 : Int))) (1 : Int) = 1) = BitVec.getLsbD s c.toNat) ∧ ((↑c.toNat : Int) / (64 : Int) ≠ 1 → ((↑c.toNat : Int) / (64 : Int) = 2 → (0 : Int) ≤ (↑c.toNat : Int) ∧ (0 : Int) < 64 ∧ (0 : Int) ≤ (↑c.toNat : Int) % (64 : Int) ∧ decide (bitX BinOp.and IntKind.u64 (shrW IntKind.u64 (↑(wd s (2 : Nat)).toNat : Int) ((↑c.toNat : Int) % (64 : Int))) (1 : Int) = 1) = BitVec.getLsbD s c.toNat) ∧ ((↑c.toNat : Int) / (64 : Int) ≠ 2 → (↑c.toNat : Int) / (64 : Int)
 = (3 : Int) ∧ (0 : Int) ≤ (↑c.toNat : Int) ∧ (0 : Int) < 64 ∧ (0 : Int) ≤ (↑c.toNat : Int) % (64 : Int) ∧ decide (bitX BinOp.and IntKind.u64 (shrW IntKind.u64 (↑(wd s (3 : Nat)).toNat : Int) ((↑c.toNat : Int) % (64 : Int))) (1 : Int) = 1) = BitVec.getLsbD s c.toNat))))) ?_
 refine ⟨(by omega), (by omega), (by have := u8_lt c; omega), fun h1 => ⟨(by omega), (by omega), (by omega), ?_⟩, fun h2 => ⟨fun h3 => ⟨(by omega), (by omega), (by omega), ?_⟩, fun h4 => ⟨fun h5 => ⟨(by omega), (by omega), (by omega), ?_⟩, fun h6 => ⟨(by have := u8_lt c; omega), (by omega), (by omega), (by omega), ?_⟩⟩⟩⟩
 ·exact has_at h1
 ·exact has_at h3
 ·exact has_at h5
 ·have := u8_lt c
  exact has_at (i := 3) (by omega)
theorem check_run (D : CS) (M : Bs) (Q : CS) (hM : M.length ≤ maxLen) : (R FT X).f 9 [encSp D M Q] = some (intA (chk M)) := by
 have hm := maxLen_i64
 refine R_wp ((Tr.nil.br Tr.nil).w.w) rfl ?_
 refine Eq.mpr (by kernel_rfl : _ = (((!decide ((↑(List.length M) : Int) = 256)) = true → (2 : Int) = chk M) ∧ ((!decide ((↑(List.length M) : Int) = 256)) = false → (0 : Int) = chk M))) ?_
 refine ⟨fun h1_ => have h1 := dnT h1_; ?_, fun h2_ => have h2 := dnF h2_; ?_⟩
 all_goals unfold chk
 all_goals first | (rw [if_pos (by omega)]; done) | (rw [if_neg (by omega)]; done)
theorem new_run (D : CS) (M : Bs) (Q : CS) (hM : M.length ≤ maxLen) (h : M.length = 256) : (R FT X).m 7 [encSp D M Q] [boxSp D M Q] = some (.ptr 2 0, [boxSp D M Q, boxSp D M Q, boxT D M Q false 0]) := by
 have hc := check_run (X := X) D M Q hM
 have hc0 : chk M = 0 := if_pos h
 rw [hc0] at hc
 refine RM_wp ((Tr.c (intA 0) (Tr.b false (Tr.g (List.replicate (256 : Nat) (u8A (0 : UInt8)) ++ [AV.val (Value.int IntKind.u64 (↑(wd D (0 : Nat)).toNat : Int)), AV.val (Value.int IntKind.u64 (↑(wd D (1 : Nat)).toNat : Int)), AV.val (Value.int IntKind.u64 (↑(wd D (2 : Nat)).toNat : Int)), AV.val (Value.int IntKind.u64 (↑(wd D (3 : Nat)).toNat : Int)), strL M, AV.val (Value.int IntKind.u64 (↑(wd Q (0 : Nat)).toNat : Int)), AV.val (Value.int IntKind.u64 (↑(wd Q (1 : Nat)).toNat : Int)), AV.val (Value.int IntKind.u64 (↑(wd Q (2 : Nat)).toNat : Int)), AV.val (Value.int IntKind.u64 (↑(wd Q (3 : Nat)).toNat : Int)), boolA true, boolA false, AV.val (Value.int IntKind.u8 (0 : Int))]) (Tr.g (List.map u8A M ++ [AV.val (Value.int IntKind.u64 (↑(wd D (0 : Nat)).toNat : Int)), AV.val (Value.int IntKind.u64 (↑(wd D (1 : Nat)).toNat : Int)), AV.val (Value.int IntKind.u64 (↑(wd D (2 : Nat)).toNat : Int)), AV.val (Value.int IntKind.u64 (↑(wd D (3 : Nat)).toNat : Int)), strL M, AV.val (Value.int IntKind.u64 (↑(wd Q (0 : Nat)).toNat : Int)), AV.val (Value.int IntKind.u64 (↑(wd Q (1 : Nat)).toNat : Int)), AV.val (Value.int IntKind.u64 (↑(wd Q (2 : Nat)).toNat : Int)), AV.val (Value.int IntKind.u64 (↑(wd Q (3
 : Nat)).toNat : Int)), boolA true, boolA false, AV.val (Value.int IntKind.u8 (0 : Int))]) Tr.nil).w)).w).w) rfl ?_
 refine Eq.mpr (by kernel_rfl : _ = ((R FT X).f 9 [encSp D M Q] = some (intA 0) ∧ false = false ∧ FillEq [(1, AV.ptr 1 0), (7, AV.agg (List.take (9 : Nat) (List.drop (0 : Nat) (AV.agg [AV.val (Value.int IntKind.u64 (↑(wd D (0 : Nat)).toNat : Int)), AV.val (Value.int IntKind.u64 (↑(wd D (1 : Nat)).toNat : Int)), AV.val (Value.int IntKind.u64 (↑(wd D (2 : Nat)).toNat : Int)), AV.val (Value.int IntKind.u64 (↑(wd D (3 : Nat)).toNat : Int)), strL M, AV.val (Value.int IntKind.u64 (↑(wd Q (0 : Nat)).toNat : Int)), AV.val (Value.int IntKind.u64 (↑(wd Q (1 : Nat)).toNat : Int)), AV.val (Value.int IntKind.u64 (↑(wd Q (2 : Nat)).toNat : Int)), AV.val (Value.int IntKind.u64 (↑(wd Q (3 : Nat)).toNat : Int))]).cells)))] (List.replicate (256 : Nat) (AV.val (Value.int IntKind.u8 (0 : Int))) ++ [AV.val (Value.int IntKind.u64 (0 : Int)), AV.val (Value.int IntKind.u64 (0 : Int)), AV.val (Value.int IntKind.u64 (0 : Int)), AV.val (Value.int IntKind.u64 (0 : Int)), AV.val (Value.string (ByteArray.mk #[])), AV.val (Value.int IntKind.u64 (0 : Int)), AV.val (Value.int IntKind.u64 (0 : Int)), AV.val (Value.int IntKind.u64 (0 : Int)), AV.val (Value.int IntKind.u64 (0 : Int)), boolA false, boolA
 false, AV.val (Value.int IntKind.u8 (0 : Int))]) [((256 : Nat), (9 : Nat), Operand.tmp (7 : Nat)), ((265 : Nat), (1 : Nat), Operand.const (Value.bool true))] (List.replicate (256 : Nat) (u8A (0 : UInt8)) ++ [AV.val (Value.int IntKind.u64 (↑(wd D (0 : Nat)).toNat : Int)), AV.val (Value.int IntKind.u64 (↑(wd D (1 : Nat)).toNat : Int)), AV.val (Value.int IntKind.u64 (↑(wd D (2 : Nat)).toNat : Int)), AV.val (Value.int IntKind.u64 (↑(wd D (3 : Nat)).toNat : Int)), strL M, AV.val (Value.int IntKind.u64 (↑(wd Q (0 : Nat)).toNat : Int)), AV.val (Value.int IntKind.u64 (↑(wd Q (1 : Nat)).toNat : Int)), AV.val (Value.int IntKind.u64 (↑(wd Q (2 : Nat)).toNat : Int)), AV.val (Value.int IntKind.u64 (↑(wd Q (3 : Nat)).toNat : Int)), boolA true, boolA false, AV.val (Value.int IntKind.u8 (0 : Int))]) ∧ ((268 : Nat) = 268 ∧ true = true) ∧ (256 : Nat) ≤ 268 ∧ List.length M = 256 ∧ setAt (AV.agg (List.replicate (256 : Nat) (u8A (0 : UInt8)) ++ [AV.val (Value.int IntKind.u64 (↑(wd D (0 : Nat)).toNat : Int)), AV.val (Value.int IntKind.u64 (↑(wd D (1 : Nat)).toNat : Int)), AV.val (Value.int IntKind.u64 (↑(wd D (2 : Nat)).toNat : Int)), AV.val (Value.int IntKind.u64 (↑(wd D (3 : Nat)).toNat
 : Int)), strL M, AV.val (Value.int IntKind.u64 (↑(wd Q (0 : Nat)).toNat : Int)), AV.val (Value.int IntKind.u64 (↑(wd Q (1 : Nat)).toNat : Int)), AV.val (Value.int IntKind.u64 (↑(wd Q (2 : Nat)).toNat : Int)), AV.val (Value.int IntKind.u64 (↑(wd Q (3 : Nat)).toNat : Int)), boolA true, boolA false, AV.val (Value.int IntKind.u8 (0 : Int))])).cells ((0 : Nat) + 0) (List.map u8A M) = List.map u8A M ++ [AV.val (Value.int IntKind.u64 (↑(wd D (0 : Nat)).toNat : Int)), AV.val (Value.int IntKind.u64 (↑(wd D (1 : Nat)).toNat : Int)), AV.val (Value.int IntKind.u64 (↑(wd D (2 : Nat)).toNat : Int)), AV.val (Value.int IntKind.u64 (↑(wd D (3 : Nat)).toNat : Int)), strL M, AV.val (Value.int IntKind.u64 (↑(wd Q (0 : Nat)).toNat : Int)), AV.val (Value.int IntKind.u64 (↑(wd Q (1 : Nat)).toNat : Int)), AV.val (Value.int IntKind.u64 (↑(wd Q (2 : Nat)).toNat : Int)), AV.val (Value.int IntKind.u64 (↑(wd Q (3 : Nat)).toNat : Int)), boolA true, boolA false, AV.val (Value.int IntKind.u8 (0 : Int))] ∧ True ∧ ((↑(wd D (0 : Nat)).toNat : Int) = (↑(wd D (0 : Nat)).toNat : Int) ∧ (↑(wd D (1 : Nat)).toNat : Int) = (↑(wd D (1 : Nat)).toNat : Int) ∧ (↑(wd D (2 : Nat)).toNat : Int) = (↑(wd D (2 : Nat)).toNat :
 Int) ∧ (↑(wd D (3 : Nat)).toNat : Int) = (↑(wd D (3 : Nat)).toNat : Int) ∧ M = M ∧ (↑(wd Q (0 : Nat)).toNat : Int) = (↑(wd Q (0 : Nat)).toNat : Int) ∧ (↑(wd Q (1 : Nat)).toNat : Int) = (↑(wd Q (1 : Nat)).toNat : Int) ∧ (↑(wd Q (2 : Nat)).toNat : Int) = (↑(wd Q (2 : Nat)).toNat : Int) ∧ (↑(wd Q (3 : Nat)).toNat : Int) = (↑(wd Q (3 : Nat)).toNat : Int)) ∧ ((↑(wd D (0 : Nat)).toNat : Int) = (↑(wd D (0 : Nat)).toNat : Int) ∧ (↑(wd D (1 : Nat)).toNat : Int) = (↑(wd D (1 : Nat)).toNat : Int) ∧ (↑(wd D (2 : Nat)).toNat : Int) = (↑(wd D (2 : Nat)).toNat : Int) ∧ (↑(wd D (3 : Nat)).toNat : Int) = (↑(wd D (3 : Nat)).toNat : Int) ∧ M = M ∧ (↑(wd Q (0 : Nat)).toNat : Int) = (↑(wd Q (0 : Nat)).toNat : Int) ∧ (↑(wd Q (1 : Nat)).toNat : Int) = (↑(wd Q (1 : Nat)).toNat : Int) ∧ (↑(wd Q (2 : Nat)).toNat : Int) = (↑(wd Q (2 : Nat)).toNat : Int) ∧ (↑(wd Q (3 : Nat)).toNat : Int) = (↑(wd Q (3 : Nat)).toNat : Int)) ∧ List.map u8A M ++ [AV.val (Value.int IntKind.u64 (↑(wd D (0 : Nat)).toNat : Int)), AV.val (Value.int IntKind.u64 (↑(wd D (1 : Nat)).toNat : Int)), AV.val (Value.int IntKind.u64 (↑(wd D (2 : Nat)).toNat : Int)), AV.val (Value.int IntKind.u64 (↑(wd D (3 : Nat)).toNat : Int)), strL M, AV.val (Value.int
 IntKind.u64 (↑(wd Q (0 : Nat)).toNat : Int)), AV.val (Value.int IntKind.u64 (↑(wd Q (1 : Nat)).toNat : Int)), AV.val (Value.int IntKind.u64 (↑(wd Q (2 : Nat)).toNat : Int)), AV.val (Value.int IntKind.u64 (↑(wd Q (3 : Nat)).toNat : Int)), boolA true, boolA false, AV.val (Value.int IntKind.u8 (0 : Int))] = List.map u8A M ++ [w64 (wd D (0 : Nat)), w64 (wd D (1 : Nat)), w64 (wd D (2 : Nat)), w64 (wd D (3 : Nat)), strL M, w64 (wd Q (0 : Nat)), w64 (wd Q (1 : Nat)), w64 (wd Q (2 : Nat)), w64 (wd Q (3 : Nat)), boolA true, boolA false, u8A (0 : UInt8)])) ?_
 refine ⟨hc, rfl, ⟨by kernel_rfl⟩, ⟨rfl, rfl⟩, (by omega), h, ?_, trivial, ⟨rfl, rfl, rfl, rfl, rfl, rfl, rfl, rfl, rfl⟩, ⟨rfl, rfl, rfl, rfl, rfl, rfl, rfl, rfl, rfl⟩, rfl⟩
 exact setAt_head _ _ _ _ rfl (by rw [List.length_replicate, List.length_map, h])
end
end Go.Proofs.YtienfdjfochlcaaDoor
end
section
namespace Go.Proofs.YtienfdjfochlcaaDoor
set_option linter.unusedVariables false
set_option linter.unusedSimpArgs false
open Go.RowKit Go.ChangeShapes Go.WideShapes Go.ChangeAt Go.Deep
set_option maxRecDepth 100000
section
variable {H : Type}
theorem Tys_cons {s : Sh} {r : List Sh} {l : List (DataW H)} (h : Tys (s :: r) l) : ∃ d l', l = d :: l' ∧ Ty s d ∧ Tys r l' := by
 cases l with
 | nil => simp [Tys] at h
 | cons d l => exact ⟨d, l, rfl, by simpa [Tys] using h⟩
theorem Tys_nil {l : List (DataW H)} (h : Tys [] l) : l = [] := by
 cases l with
 | nil => rfl
 | cons d l => simp [Tys] at h
def dStr : DataW H → Bs
 | .lit (.string l) => l
 | _ => []
def dInt : DataW H → Int
 | .lit (.int _ n) => n
 | _ => 0
def dEls : DataW H → List (DataW H)
 | .slice l _ => l
 | _ => []
def dPart (d : DataW H) (i : Nat) : DataW H := match d with
 | .agg l => l.getD i .nil
 | _ => .nil
theorem str_ok {d : DataW H} (h : Ty .str d) : dAV .str d = [strL (dStr d)] ∧ (dStr d).length ≤ maxLen := by
 obtain ⟨l, rfl, hl⟩ := Ty_str h; exact ⟨rfl, hl⟩
theorem int_ok {k : IntKind} {d : DataW H} (h : Ty (.int k) d) : dAV (.int k) d = [.val (.int k (dInt d))] ∧ (Lit.int k (dInt d)).wf = true := by
 obtain ⟨n, rfl, hl⟩ := Ty_int h; exact ⟨rfl, hl⟩
variable {enc : TypeId × Value → H} {w : World}
theorem rep_str {v : Value} {d : DataW H} {p : List MemPlace} {b0 : Nat} (hv : Value.okWide Tryd.prog w .any b0 9 v)
    (h : DataW.Trod enc Tryd.prog w 0 (fun _ => true) true 9 v d p) : (dStr d).length ≤ maxLen ∧ Rep (S0 w) w [] v (strL (dStr d)) ∧ d = .lit (.string (dStr d)) := by
  obtain ⟨h1, h2⟩ := rep_arg (s := .str) (by kernel_rfl) hv h
  obtain ⟨l, rfl, hl⟩ := Ty_str h1
  exact ⟨hl, h2, rfl⟩
end
theorem gr_tr {W : World} (h : laidMetH Tryd.prog Rows.trTranslatesRow.laid W) (hs : W.ShapedOpen Tryd.prog) : GR (S0 W) W [] := by
 rw [MakeChecks.laidMetH_plain _ _ _ (by kernel_rfl)] at h
 refine ⟨fun g l hg => ?_, fun g hg => ?_⟩
 ·unfold GT at hg
  split at hg
  ·rename_i e
   cases hg
   subst e
   have := gr_ints (n := "internal/strconv.uint64pow10") (g := 4) (t := 148) (e := 22) (k := .u64) (zs := pow10L.map fun (n : Nat) => (n : Int)) h (List.mem_of_getElem? (i := 2) rfl) (by kernel_rfl) (by kernel_rfl) (c := 20) (by kernel_rfl) (by kernel_rfl) (by kernel_rfl) (by kernel_rfl)
   exact this
  ·split at hg
   ·rename_i e
    cases hg
    subst e
    exact gr_err (t := 94) (n := "strconv.ErrRange") h (List.mem_of_getElem? (i := 3) rfl) (by kernel_rfl) (by kernel_rfl) Tryd.underlying94
   ·split at hg
    ·rename_i e
     cases hg
     subst e
     exact gr_err (t := 94) (n := "strconv.ErrSyntax") h (List.mem_of_getElem? (i := 4) rfl) (by kernel_rfl) (by kernel_rfl) Tryd.underlying94
    ·split at hg
     ·rename_i e
      cases hg
      subst e
      have := gr_ints (n := "math/bits.deBruijn64tab") (g := 0) (t := 77) (e := 5) (k := .u8) (zs := deB64.map fun (n : Nat) => (n : Int)) h (List.mem_of_getElem? (i := 1) rfl) (by kernel_rfl) (by kernel_rfl) (c := 64) (by kernel_rfl) (by kernel_rfl) (by kernel_rfl) (by kernel_rfl)
      exact this
     ·cases hg
 ·have e : g = 1 := by
   unfold GI at hg
   split at hg
   ·assumption
   ·cases hg
  subst e
  obtain ⟨m, hm⟩ := Go.Proofs.cell_of_shapedOpen_int (g := 1) (t := 3) (k := .i64) (zero := #[.int .i64 0]) hs (by decide +kernel) (by kernel_rfl) rfl (by kernel_rfl) (by kernel_rfl) Tryd.underlying3
  refine ⟨m, hm, s0_of ?_ _⟩
  unfold World.cell? at hm
  split at hm
  ·rename_i hh
   exact (Array.getElem?_eq_some_iff.1 hh).1
  ·cases hm
theorem nat_words (a b c d : Nat) (ha : a < 18446744073709551616) (hb : b < 18446744073709551616) (hc : c < 18446744073709551616) (hd : d < 18446744073709551616) : ∃ D : CS, (wd D 0).toNat = a ∧ (wd D 1).toNat = b ∧ (wd D 2).toNat = c ∧ (wd D 3).toNat = d := by
 refine ⟨BitVec.ofNat 256 (a + 18446744073709551616 * (b + 18446744073709551616 * (c + 18446744073709551616 * d))), ?_, ?_, ?_, ?_⟩
 all_goals
  simp only [wd, BitVec.extractLsb'_toNat, BitVec.toNat_ofNat, Nat.shiftRight_eq_div_pow]
  omega
theorem words {a b c d : Int} (ha : (Lit.int .u64 a).wf = true) (hb : (Lit.int .u64 b).wf = true) (hc : (Lit.int .u64 c).wf = true) (hd : (Lit.int .u64 d).wf = true) :
    ∃ D : CS, AV.val (.int .u64 a) = w64 (wd D 0) ∧ AV.val (.int .u64 b) = w64 (wd D 1) ∧ AV.val (.int .u64 c) = w64 (wd D 2) ∧ AV.val (.int .u64 d) = w64 (wd D 3) := by
  have u : ∀ {n : Int}, (Lit.int .u64 n).wf = true → 0 ≤ n ∧ n < 18446744073709551616 := fun {n} h => by
    simp only [Lit.wf, decide_eq_true_eq, Bool.and_eq_true] at h
    have h2 : IntKind.u64.min = 0 := by decide
    have h3 : IntKind.u64.max = 18446744073709551615 := by decide
    omega
  obtain ⟨a1, a2⟩ := u ha
  obtain ⟨b1, b2⟩ := u hb
  obtain ⟨c1, c2⟩ := u hc
  obtain ⟨d1, d2⟩ := u hd
  obtain ⟨D, e0, e1, e2, e3⟩ := nat_words a.toNat b.toNat c.toNat d.toNat (by omega) (by omega) (by omega) (by omega)
  refine ⟨D, ?_, ?_, ?_, ?_⟩
  · rw [w64, e0, Int.toNat_of_nonneg a1]
  · rw [w64, e1, Int.toNat_of_nonneg b1]
  · rw [w64, e2, Int.toNat_of_nonneg c1]
  · rw [w64, e3, Int.toNat_of_nonneg d1]
section
variable {H : Type} {enc : TypeId × Value → H} {w : World}
def sCS : Sh := .st [.st [.int .u64, .int .u64, .int .u64, .int .u64]]
def sSp : Sh := .st [sCS, .str, sCS]
theorem cs_ok {d : DataW H} (h : Ty sCS d) : ∃ D : CS, dAV sCS d = [w64 (wd D 0), w64 (wd D 1), w64 (wd D 2), w64 (wd D 3)] := by
 obtain ⟨l, rfl, h⟩ := Ty_st h
 obtain ⟨a, l, rfl, ha, h⟩ := Tys_cons h
 obtain rfl := Tys_nil h
 obtain ⟨l, rfl, hb⟩ := Ty_st ha
 obtain ⟨c0, l, rfl, h0, h⟩ := Tys_cons hb
 obtain ⟨c1, l, rfl, h1, h⟩ := Tys_cons h
 obtain ⟨c2, l, rfl, h2, h⟩ := Tys_cons h
 obtain ⟨c3, l, rfl, h3, h⟩ := Tys_cons h
 obtain rfl := Tys_nil h
 obtain ⟨D, e0, e1, e2, e3⟩ := words (int_ok h0).2 (int_ok h1).2 (int_ok h2).2 (int_ok h3).2
 refine ⟨D, ?_⟩
 simp only [sCS, dAV, dAVs, (int_ok h0).1, (int_ok h1).1, (int_ok h2).1, (int_ok h3).1, e0, e1, e2, e3]
 rfl
theorem rep_sp {v : Value} {d : DataW H} {p : List MemPlace} {b0 : Nat} (hv : Value.okWide Tryd.prog w .any b0 27 v)
    (h : DataW.Trod enc Tryd.prog w 0 (fun _ => true) true 27 v d p) : ∃ (D : CS) (M : Bs) (Q : CS), M.length ≤ maxLen ∧ Rep (S0 w) w [] v (encSp D M Q) := by
  obtain ⟨h1, h2⟩ := rep_arg (s := sSp) (by kernel_rfl) hv h
  obtain ⟨l, rfl, hh⟩ := Ty_st h1
  obtain ⟨a, l, rfl, ha, hh⟩ := Tys_cons hh
  obtain ⟨b, l, rfl, hb, hh⟩ := Tys_cons hh
  obtain ⟨c, l, rfl, hc, hh⟩ := Tys_cons hh
  obtain rfl := Tys_nil hh
  obtain ⟨D, eD⟩ := cs_ok ha
  obtain ⟨Q, eQ⟩ := cs_ok hc
  refine ⟨D, dStr b, Q, (str_ok hb).2, ?_⟩
  have e : sSp.mk (dAV sSp (DataW.agg [a, b, c])) = encSp D (dStr b) Q := by
    simp only [sSp, dAV, dAVs, eD, eQ, (str_ok hb).1]
    rfl
  rw [← e]; exact h2
end
theorem door_met (os : Os) (args : Array Value) : laidMetH Tryd.prog Rows.trTranslatesRow.laid ((World.laidAll Tryd.prog os Rows.trTranslatesRow.laid).forCall (fun _ _ => 0) ⟨#[], args, []⟩).memory := by
 rw [MakeChecks.laidMetH_plain _ _ _ (by kernel_rfl)]; exact laidMet_laidAll _ (by kernel_rfl) (by kernel_rfl)
section
variable {H : Type} {enc : TypeId × Value → H}
theorem law_liftedO {F : FuncId} {fn : Func} {s : ChangeSpec} {conds : List PathCond} {laid : List (String × DataW Unit)} {os : Os} (started : os.Started) (noInit : Tryd.prog.inits.idxOf? F = none) (hfn : Tryd.prog.funcs[F]? = some fn)
    (hv : s.vars = []) (hs : ∀ ds : List (DataW H), ds.length = fn.params.size → s.fn H ds = { results := [.lit (.bool true)], args := ds }) (hres : fn.resultTypes = #[4])
    (hpar : ∀ t ∈ fn.params.toList, Tryd.prog.readableRec t = true ∧ t < Tryd.prog.types.size)
    (witness : ∃ (w : World) (tape : Tape) (i : Input), w.os = os ∧ (w.forCall tape i).Shaped Tryd.checked.prog ∧ i.vars = [] ∧ Input.okWide Tryd.checked.prog (w.forCall tape i) .any w.heap.size F i ∧
      ((s.pre enc Tryd.checked.prog fn conds false (w.forCall tape i).memory i.args ∧ laidMetH Tryd.checked.prog laid (w.forCall tape i).memory) ∧ sizedMet enc Tryd.checked.prog fn (OpenSpec.ofChange s) false (w.forCall tape i).memory i.args) ∧ Assume.holds {} Tryd.checked.prog (lone (Frame.enter Tryd.checked.prog F i.args .normal) [] (w.forCall tape i)))
    (walk : ∀ (W : World) (base : Nat) (args : Array Value) (ds : List (DataW H)) (p : List MemPlace),
      (∀ (j : Nat) t v, fn.params[j]? = some t → args[j]? = some v → Value.okWide Tryd.prog W .any base t v) →
      DataW.TrodAll enc Tryd.prog W 0 (fun _ => true) true fn.params.toList args.toList ds p →
      laidMetH Tryd.prog laid W → W.ShapedOpen Tryd.prog →
      Calls Tryd.prog F args W fun e w' => e = .returned (.bool true) ∧ Below W.heap.size W w') :
    ReturnsInHanded {} Tryd.checked os F .any (fun w args => (s.pre enc Tryd.prog fn conds false w args ∧ laidMetH Tryd.prog laid w) ∧ sizedMet enc Tryd.prog fn (OpenSpec.ofChange s) false w args) (s.post enc Tryd.prog fn false true false false) := by
  refine returnsInHanded_of_calls (C := Tryd.checked) own started noInit witness ?_
  intro w tape i _ hSh _ hok hpre hholds
  obtain ⟨_, _, _, fn', hfn', _, _, _, _, hval⟩ := hok
  have e0 : fn' = fn := Option.some.inj (hfn'.symm.trans hfn)
  subst e0
  obtain ⟨⟨⟨ds, gs, before, hw, hc⟩, hx⟩, hz⟩ := hpre
  have hW := DataW.Whole.of_heap (w' := w.forCall tape i) (by rfl) hw
  have hL : laidMetH Tryd.prog laid (w.forCall tape i) := hx.of_heap (by rfl)
  have hW' := hW
  obtain ⟨p, q, hA, hV, rfl, hfz, hnd⟩ := hW
  rw [hv] at hV
  obtain ⟨rfl, rfl⟩ := trodVars_none hV
  have hlen : ds.length = fn'.params.size := by
    have : ∀ {ts : List TypeId} {vs : List Value} {ds : List (DataW H)} {ps : List MemPlace}, DataW.TrodAll enc Tryd.checked.prog (w.forCall tape i) 0 (fun _ => true) true ts vs ds ps → ds.length = ts.length := by
      intro ts
      induction ts with
      | nil => intro vs ds ps h; cases vs <;> cases ds <;> first | rfl | exact h.elim
      | cons t ts ih => intro vs ds ps h; cases vs <;> cases ds <;> first | exact h.elim | (obtain ⟨_, _, _, h2, _⟩ := h; simp [ih h2])
    rw [this hA]; simp
  refine (walk (w.forCall tape i) w.heap.size i.args ds p hval hA hL hSh).mono fun e W' ⟨he, bel⟩ => ?_
  subst he
  have h1 := hs (ds ++ []) (by simpa using hlen)
  refine ChangeSpec.post_blind (s := s) ⟨ds, [], p ++ [], [], p, [], hW', ?_, ?_, ?_, bel.frame _, fun h => by cases h⟩
  · rw [h1, hres]; exact trodAll_mk1 (shut_bool Tryd.underlying4 _)
  · rw [h1]; simp only [List.append_nil]; exact trodAll_below bel hpar hA
  · rw [h1, hv]; exact rfl
end
end Go.Proofs.YtienfdjfochlcaaDoor
end
section
namespace Go.Proofs.YtienfdjfochlcaaDoor
set_option linter.unusedVariables false
set_option linter.unusedSimpArgs false
set_option maxRecDepth 100000
set_option maxHeartbeats 4000000
section
variable {X : CallF}
theorem grow_run (D : CS) (M : Bs) (Q : CS) (a : Bool) (c : UInt8) (n : Nat) (hn : n ≤ 2000) : (R FT X).m 19 [.val (.slice none 0 0), intA n] [boxSp D M Q, boxSp D M Q, boxT D M Q a c] = some (.row 3 1 0 0 0, [boxSp D M Q, boxSp D M Q, boxT D M Q a c, .row 1 1 [] true 7]) := by
 have hm := maxLen_i64
 refine RM_wp ((Tr.b false ((Tr.k ((↑n : Int) - ((0 : Int) - (↑(@List.nil AV).length : Int))).toNat Tr.nil.w).br Tr.nil).w.w.w.w).w.w) rfl ?_
 refine Eq.mpr (by kernel_rfl : _ = (false = false ∧ InI64 0 ∧ InI64 ((↑n : Int) - ((0 : Int) - (↑(@List.nil AV).length : Int))) ∧ (decide ((0 : Int) < (↑n : Int) - ((0 : Int) - (↑(@List.nil AV).length : Int))) = true → (↑n : Int) - ((0 : Int) - (↑(@List.nil AV).length : Int)) = (↑((↑n : Int) - ((0 : Int) - (↑(@List.nil AV).length : Int))).toNat : Int) ∧ (0 : Nat) < ((↑n : Int) - ((0 : Int) - (↑(@List.nil AV).length : Int))).toNat ∧ ((↑n : Int) - ((0 : Int) - (↑(@List.nil AV).length : Int))).toNat ≤ 1000000000 ∧ ((List.replicate ((↑n : Int) - ((0 : Int) - (↑(@List.nil AV).length : Int))).toNat (u8A (0 : UInt8))).length = ((↑n : Int) - ((0 : Int) - (↑(@List.nil AV).length : Int))).toNat ∧ (0 : Nat) = 0 ∧ (0 : Nat) ≤ ((↑n : Int) - ((0 : Int) - (↑(@List.nil AV).length : Int))).toNat) ∧ ((0 : Nat) = 0 ∧ (0 : Nat) = 0 ∧ (0 : Nat) = 0) ∧ ((↑(wd D (0 : Nat)).toNat : Int) = (↑(wd D (0 : Nat)).toNat : Int) ∧ (↑(wd D (1 : Nat)).toNat : Int) = (↑(wd D (1 : Nat)).toNat : Int) ∧ (↑(wd D (2 : Nat)).toNat : Int) = (↑(wd D (2 : Nat)).toNat : Int) ∧ (↑(wd D (3 : Nat)).toNat : Int) = (↑(wd D (3 : Nat)).toNat : Int) ∧ M = M ∧ (↑(wd Q (0 : Nat)).toNat : Int) = (↑(wd Q (0 : Nat)).toNat : Int)
 ∧ (↑(wd Q (1 : Nat)).toNat : Int) = (↑(wd Q (1 : Nat)).toNat : Int) ∧ (↑(wd Q (2 : Nat)).toNat : Int) = (↑(wd Q (2 : Nat)).toNat : Int) ∧ (↑(wd Q (3 : Nat)).toNat : Int) = (↑(wd Q (3 : Nat)).toNat : Int)) ∧ ((↑(wd D (0 : Nat)).toNat : Int) = (↑(wd D (0 : Nat)).toNat : Int) ∧ (↑(wd D (1 : Nat)).toNat : Int) = (↑(wd D (1 : Nat)).toNat : Int) ∧ (↑(wd D (2 : Nat)).toNat : Int) = (↑(wd D (2 : Nat)).toNat : Int) ∧ (↑(wd D (3 : Nat)).toNat : Int) = (↑(wd D (3 : Nat)).toNat : Int) ∧ M = M ∧ (↑(wd Q (0 : Nat)).toNat : Int) = (↑(wd Q (0 : Nat)).toNat : Int) ∧ (↑(wd Q (1 : Nat)).toNat : Int) = (↑(wd Q (1 : Nat)).toNat : Int) ∧ (↑(wd Q (2 : Nat)).toNat : Int) = (↑(wd Q (2 : Nat)).toNat : Int) ∧ (↑(wd Q (3 : Nat)).toNat : Int) = (↑(wd Q (3 : Nat)).toNat : Int)) ∧ List.map u8A M ++ [w64 (wd D (0 : Nat)), w64 (wd D (1 : Nat)), w64 (wd D (2 : Nat)), w64 (wd D (3 : Nat)), strL M, w64 (wd Q (0 : Nat)), w64 (wd Q (1 : Nat)), w64 (wd Q (2 : Nat)), w64 (wd Q (3 : Nat)), boolA true, boolA a, u8A c] = List.map u8A M ++ [w64 (wd D (0 : Nat)), w64 (wd D (1 : Nat)), w64 (wd D (2 : Nat)), w64 (wd D (3 : Nat)), strL M, w64 (wd Q (0 : Nat)), w64 (wd Q (1 : Nat)), w64 (wd Q (2 : Nat)), w64 (wd Q (3 : Nat)), boolA
 true, boolA a, u8A c] ∧ List.take (↑(@List.nil AV).length : Int).toNat (List.replicate ((↑n : Int) - ((0 : Int) - (↑(@List.nil AV).length : Int))).toNat (u8A (0 : UInt8))) = []) ∧ (decide ((0 : Int) < (↑n : Int) - ((0 : Int) - (↑(@List.nil AV).length : Int))) = false → ((0 : Nat) = 0 ∧ (0 : Nat) = 0 ∧ (0 : Nat) = 0) ∧ ((↑(wd D (0 : Nat)).toNat : Int) = (↑(wd D (0 : Nat)).toNat : Int) ∧ (↑(wd D (1 : Nat)).toNat : Int) = (↑(wd D (1 : Nat)).toNat : Int) ∧ (↑(wd D (2 : Nat)).toNat : Int) = (↑(wd D (2 : Nat)).toNat : Int) ∧ (↑(wd D (3 : Nat)).toNat : Int) = (↑(wd D (3 : Nat)).toNat : Int) ∧ M = M ∧ (↑(wd Q (0 : Nat)).toNat : Int) = (↑(wd Q (0 : Nat)).toNat : Int) ∧ (↑(wd Q (1 : Nat)).toNat : Int) = (↑(wd Q (1 : Nat)).toNat : Int) ∧ (↑(wd Q (2 : Nat)).toNat : Int) = (↑(wd Q (2 : Nat)).toNat : Int) ∧ (↑(wd Q (3 : Nat)).toNat : Int) = (↑(wd Q (3 : Nat)).toNat : Int)) ∧ ((↑(wd D (0 : Nat)).toNat : Int) = (↑(wd D (0 : Nat)).toNat : Int) ∧ (↑(wd D (1 : Nat)).toNat : Int) = (↑(wd D (1 : Nat)).toNat : Int) ∧ (↑(wd D (2 : Nat)).toNat : Int) = (↑(wd D (2 : Nat)).toNat : Int) ∧ (↑(wd D (3 : Nat)).toNat : Int) = (↑(wd D (3 : Nat)).toNat : Int) ∧ M = M ∧ (↑(wd Q (0 : Nat)).toNat
 : Int) = (↑(wd Q (0 : Nat)).toNat : Int) ∧ (↑(wd Q (1 : Nat)).toNat : Int) = (↑(wd Q (1 : Nat)).toNat : Int) ∧ (↑(wd Q (2 : Nat)).toNat : Int) = (↑(wd Q (2 : Nat)).toNat : Int) ∧ (↑(wd Q (3 : Nat)).toNat : Int) = (↑(wd Q (3 : Nat)).toNat : Int)) ∧ List.map u8A M ++ [w64 (wd D (0 : Nat)), w64 (wd D (1 : Nat)), w64 (wd D (2 : Nat)), w64 (wd D (3 : Nat)), strL M, w64 (wd Q (0 : Nat)), w64 (wd Q (1 : Nat)), w64 (wd Q (2 : Nat)), w64 (wd Q (3 : Nat)), boolA true, boolA a, u8A c] = List.map u8A M ++ [w64 (wd D (0 : Nat)), w64 (wd D (1 : Nat)), w64 (wd D (2 : Nat)), w64 (wd D (3 : Nat)), strL M, w64 (wd Q (0 : Nat)), w64 (wd Q (1 : Nat)), w64 (wd Q (2 : Nat)), w64 (wd Q (3 : Nat)), boolA true, boolA a, u8A c] ∧ @List.nil AV = []))) ?_
 refine ⟨rfl, (by unfold InI64; omega), ?_, fun h1_ => have h1 := dT h1_; ⟨(by omega), (by omega), (by simp; omega), ⟨(by simp), rfl, (by omega)⟩, ⟨rfl, rfl, rfl⟩, ⟨rfl, rfl, rfl, rfl, rfl, rfl, rfl, rfl, rfl⟩, ⟨rfl, rfl, rfl, rfl, rfl, rfl, rfl, rfl, rfl⟩, rfl, rfl⟩, fun h2_ => have h2 := dF h2_; ⟨⟨rfl, rfl, rfl⟩, ⟨rfl, rfl, rfl, rfl, rfl, rfl, rfl, rfl, rfl⟩, ⟨rfl, rfl, rfl, rfl, rfl, rfl, rfl, rfl, rfl⟩, rfl, rfl⟩⟩
 show InI64 ((n : Int) - (0 - (0 : Nat)))
 unfold InI64; omega
theorem feed_run (D : CS) (M : Bs) (Q : CS) (h : M.length = 256) (l : Option UInt8) (s : Bs) (hs : s.length ≤ 2000) : (R FT X).m 10 [.ptr 2 0, strL s] [boxSp D M Q, boxSp D M Q, boxT D M Q (lastA l) (lastC l)] = some (strL (fdO D Q M l s), [boxSp D M Q, boxSp D M Q, boxT D M Q (lastA (fdL D Q M l s)) (lastC (fdL D Q M l s)), .row 1 1 ((fdO D Q M l s).map u8A) true 7]) := by
 have hm := maxLen_i64
 have hs1 := has_run (X := X)
 have hg := fun a c n hn => grow_run (X := X) D M Q a c n hn
 refine RM_wp ((Tr.b false (Tr.g [boolA true] (Tr.b false (Tr.cm (AV.row 3 1 (0 : Nat) (0 : Nat) (0 : Nat)) [MObj.box 27 [AV.val (Value.int IntKind.u64 (↑(wd D (0 : Nat)).toNat : Int)), AV.val (Value.int IntKind.u64 (↑(wd D (1 : Nat)).toNat : Int)), AV.val (Value.int IntKind.u64 (↑(wd D (2 : Nat)).toNat : Int)), AV.val (Value.int IntKind.u64 (↑(wd D (3 : Nat)).toNat : Int)), strL M, AV.val (Value.int IntKind.u64 (↑(wd Q (0 : Nat)).toNat : Int)), AV.val (Value.int IntKind.u64 (↑(wd Q (1 : Nat)).toNat : Int)), AV.val (Value.int IntKind.u64 (↑(wd Q (2 : Nat)).toNat : Int)), AV.val (Value.int IntKind.u64 (↑(wd Q (3 : Nat)).toNat : Int))], MObj.box 27 [AV.val (Value.int IntKind.u64 (↑(wd D (0 : Nat)).toNat : Int)), AV.val (Value.int IntKind.u64 (↑(wd D (1 : Nat)).toNat : Int)), AV.val (Value.int IntKind.u64 (↑(wd D (2 : Nat)).toNat : Int)), AV.val (Value.int IntKind.u64 (↑(wd D (3 : Nat)).toNat : Int)), strL M, AV.val (Value.int IntKind.u64 (↑(wd Q (0 : Nat)).toNat : Int)), AV.val (Value.int IntKind.u64 (↑(wd Q (1 : Nat)).toNat : Int)), AV.val (Value.int IntKind.u64 (↑(wd Q (2 : Nat)).toNat : Int)), AV.val (Value.int IntKind.u64 (↑(wd Q (3 : Nat)).toNat : Int))], MObj.box
 (38 : Nat) (List.map u8A M ++ [w64 (wd D (0 : Nat)), w64 (wd D (1 : Nat)), w64 (wd D (2 : Nat)), w64 (wd D (3 : Nat)), strL M, w64 (wd Q (0 : Nat)), w64 (wd Q (1 : Nat)), w64 (wd Q (2 : Nat)), w64 (wd Q (3 : Nat)), boolA true, boolA (lastA l), u8A (lastC l)]), MObj.row 1 1 [] true (7 : Nat)] (Tr.inv (fun (k : Nat) ↦ St.mk [(0, AV.ptr 2 0), (1, strL s), (5, AV.row 3 1 (List.length (fdO D Q M l (List.take k s))) (0 : Nat) (List.length (fdO D Q M l (List.take k s)))), (21, intA (↑(List.length s) : Int)), (22, intA (↑k : Int))] [boxSp D M Q, boxSp D M Q, boxT D M Q (lastA (fdL D Q M l (List.take k s))) (lastC (fdL D Q M l (List.take k s))), MObj.row 1 1 (List.map u8A (fdO D Q M l (List.take k s))) true (7 : Nat)]) (fun (k : Nat) ↦ k ≤ List.length s) (fun (k : Nat) ↦ List.length s - k) fun (k : Nat) ↦ (Tr.g [w64 (wd D (0 : Nat)), w64 (wd D (1 : Nat)), w64 (wd D (2 : Nat)), w64 (wd D (3 : Nat))] (Tr.y k fun (c4 : UInt8) ↦ Tr.c (boolA (BitVec.getLsbD D c4.toNat)) (Tr.nil.w.br (Tr.y k fun (c9 : UInt8) ↦ Tr.k c9.toNat (Tr.ix u8A M (c9.toNat * 1) fun (x11 : UInt8) ↦ (Tr.g [boolA (lastA
 (fdL D Q M l (List.take k s)))] ((Tr.g [u8A (lastC (fdL D Q M l (List.take k s)))] ((Tr.g [w64 (wd Q (0 : Nat)), w64 (wd Q (1 : Nat)), w64 (wd Q (2 : Nat)), w64 (wd Q (3 : Nat))] (Tr.c (boolA (BitVec.getLsbD Q x11.toNat)) (Tr.nil.w.br (Tr.k (List.length (fdO D Q M l (List.take k s)) + 1) (Tr.g (List.map u8A M ++ [w64 (wd D (0 : Nat)), w64 (wd D (1 : Nat)), w64 (wd D (2 : Nat)), w64 (wd D (3 : Nat)), strL M, w64 (wd Q (0 : Nat)), w64 (wd Q (1 : Nat)), w64 (wd Q (2 : Nat)), w64 (wd Q (3 : Nat)), boolA true, boolA true, u8A (lastC (fdL D Q M l (List.take k s)))]) (Tr.g (List.map u8A M ++ [w64 (wd D (0 : Nat)), w64 (wd D (1 : Nat)), w64 (wd D (2 : Nat)), w64 (wd D (3 : Nat)), strL M, w64 (wd Q (0 : Nat)), w64 (wd Q (1 : Nat)), w64 (wd Q (2 : Nat)), w64 (wd Q (3 : Nat)), boolA true, boolA true, u8A x11]) Tr.nil.w)))))).br (Tr.b false (Tr.k (List.length (fdO D Q M l (List.take k s)) + 1) (Tr.g (List.map u8A M ++ [w64 (wd D (0 : Nat)), w64 (wd D (1 : Nat)), w64 (wd D (2 : Nat)), w64 (wd D (3 : Nat)), strL M, w64 (wd Q (0 : Nat)), w64 (wd Q (1 : Nat)), w64 (wd Q (2 : Nat)), w64 (wd Q (3 : Nat)), boolA true, boolA true, u8A (lastC (fdL D Q M l (List.take k s)))]) (Tr.g (List.map
 u8A M ++ [w64 (wd D (0 : Nat)), w64 (wd D (1 : Nat)), w64 (wd D (2 : Nat)), w64 (wd D (3 : Nat)), strL M, w64 (wd Q (0 : Nat)), w64 (wd Q (1 : Nat)), w64 (wd Q (2 : Nat)), w64 (wd Q (3 : Nat)), boolA true, boolA true, u8A x11]) Tr.nil.w)))))).br (Tr.b false (Tr.b false (Tr.k (List.length (fdO D Q M l (List.take k s)) + 1) (Tr.g (List.map u8A M ++ [w64 (wd D (0 : Nat)), w64 (wd D (1 : Nat)), w64 (wd D (2 : Nat)), w64 (wd D (3 : Nat)), strL M, w64 (wd Q (0 : Nat)), w64 (wd Q (1 : Nat)), w64 (wd Q (2 : Nat)), w64 (wd Q (3 : Nat)), boolA true, boolA true, u8A (lastC (fdL D Q M l (List.take k s)))]) (Tr.g (List.map u8A M ++ [w64 (wd D (0 : Nat)), w64 (wd D (1 : Nat)), w64 (wd D (2 : Nat)), w64 (wd D (3 : Nat)), strL M, w64 (wd Q (0 : Nat)), w64 (wd Q (1 : Nat)), w64 (wd Q (2 : Nat)), w64 (wd Q (3 : Nat)), boolA true, boolA true, u8A x11]) Tr.nil.w))))))).w))))).w.w.br (Tr.bs (fdO D Q M l (List.take k s)) Tr.nil)).w)).w)).w) rfl ?_
 refine Eq.mpr (by kernel_rfl : _ = (false = false ∧ (266 : Nat) ≤ (List.map u8A M ++ [w64 (wd D (0 : Nat)), w64 (wd D (1 : Nat)), w64 (wd D (2 : Nat)), w64 (wd D (3 : Nat)), strL M, w64 (wd Q (0 : Nat)), w64 (wd Q (1 : Nat)), w64 (wd Q (2 : Nat)), w64 (wd Q (3 : Nat)), boolA true, boolA (lastA l), u8A (lastC l)]).length ∧ List.take (1 : Nat) (List.drop ((0 : Nat) + 265) (List.map u8A M ++ [w64 (wd D (0 : Nat)), w64 (wd D (1 : Nat)), w64 (wd D (2 : Nat)), w64 (wd D (3 : Nat)), strL M, w64 (wd Q (0 : Nat)), w64 (wd Q (1 : Nat)), w64 (wd Q (2 : Nat)), w64 (wd Q (3 : Nat)), boolA true, boolA (lastA l), u8A (lastC l)])) = [boolA true] ∧ false = false ∧ (R FT X).m 19 [AV.val (Value.slice none (0 : Nat) (0 : Nat)), intA (↑(List.length s) : Int)] [boxSp D M Q, boxSp D M Q, boxT D M Q (lastA l) (lastC l)] = some (AV.row 3 1 (0 : Nat) (0 : Nat) (0 : Nat), [boxSp D M Q, boxSp D M Q, boxT D M Q (lastA l) (lastC l), MObj.row 1 1 [] true (7 : Nat)]) ∧ (∃ (j1 : Nat), ((True ∧ s = s ∧ ((0 : Nat) = List.length (fdO D Q M l (List.take j1 s)) ∧ (0 : Nat) = 0 ∧ (0 : Nat) = List.length (fdO D Q M l (List.take j1 s))) ∧ (↑(List.length s) : Int) = (↑(List.length s) : Int) ∧ (0 : Int)
 = (↑j1 : Int) ∧ True) ∧ ((↑(wd D (0 : Nat)).toNat : Int) = (↑(wd D (0 : Nat)).toNat : Int) ∧ (↑(wd D (1 : Nat)).toNat : Int) = (↑(wd D (1 : Nat)).toNat : Int) ∧ (↑(wd D (2 : Nat)).toNat : Int) = (↑(wd D (2 : Nat)).toNat : Int) ∧ (↑(wd D (3 : Nat)).toNat : Int) = (↑(wd D (3 : Nat)).toNat : Int) ∧ M = M ∧ (↑(wd Q (0 : Nat)).toNat : Int) = (↑(wd Q (0 : Nat)).toNat : Int) ∧ (↑(wd Q (1 : Nat)).toNat : Int) = (↑(wd Q (1 : Nat)).toNat : Int) ∧ (↑(wd Q (2 : Nat)).toNat : Int) = (↑(wd Q (2 : Nat)).toNat : Int) ∧ (↑(wd Q (3 : Nat)).toNat : Int) = (↑(wd Q (3 : Nat)).toNat : Int)) ∧ ((↑(wd D (0 : Nat)).toNat : Int) = (↑(wd D (0 : Nat)).toNat : Int) ∧ (↑(wd D (1 : Nat)).toNat : Int) = (↑(wd D (1 : Nat)).toNat : Int) ∧ (↑(wd D (2 : Nat)).toNat : Int) = (↑(wd D (2 : Nat)).toNat : Int) ∧ (↑(wd D (3 : Nat)).toNat : Int) = (↑(wd D (3 : Nat)).toNat : Int) ∧ M = M ∧ (↑(wd Q (0 : Nat)).toNat : Int) = (↑(wd Q (0 : Nat)).toNat : Int) ∧ (↑(wd Q (1 : Nat)).toNat : Int) = (↑(wd Q (1 : Nat)).toNat : Int) ∧ (↑(wd Q (2 : Nat)).toNat : Int) = (↑(wd Q (2 : Nat)).toNat : Int) ∧ (↑(wd Q (3 : Nat)).toNat : Int) = (↑(wd Q (3 : Nat)).toNat : Int)) ∧ List.map u8A M ++ [w64 (wd D (0 : Nat)), w64 (wd D (1 : Nat)), w64 (wd
 D (2 : Nat)), w64 (wd D (3 : Nat)), strL M, w64 (wd Q (0 : Nat)), w64 (wd Q (1 : Nat)), w64 (wd Q (2 : Nat)), w64 (wd Q (3 : Nat)), boolA true, boolA (lastA l), u8A (lastC l)] = List.map u8A M ++ [w64 (wd D (0 : Nat)), w64 (wd D (1 : Nat)), w64 (wd D (2 : Nat)), w64 (wd D (3 : Nat)), strL M, w64 (wd Q (0 : Nat)), w64 (wd Q (1 : Nat)), w64 (wd Q (2 : Nat)), w64 (wd Q (3 : Nat)), boolA true, boolA (lastA (fdL D Q M l (List.take j1 s))), u8A (lastC (fdL D Q M l (List.take j1 s)))] ∧ [] = List.map u8A (fdO D Q M l (List.take j1 s))) ∧ j1 ≤ List.length s) ∧ ∀ (k : Nat), k ≤ List.length s → (decide ((↑k : Int) < (↑(List.length s) : Int)) = true → (260 : Nat) ≤ (List.map u8A M ++ [w64 (wd D (0 : Nat)), w64 (wd D (1 : Nat)), w64 (wd D (2 : Nat)), w64 (wd D (3 : Nat)), strL M, w64 (wd Q (0 : Nat)), w64 (wd Q (1 : Nat)), w64 (wd Q (2 : Nat)), w64 (wd Q (3 : Nat)), boolA true, boolA (lastA (fdL D Q M l (List.take k s))), u8A (lastC (fdL D Q M l (List.take k s)))]).length ∧ List.take (4 : Nat) (List.drop ((0 : Nat) + 256 + (0 : Nat)) (List.map u8A M ++ [w64 (wd D (0 : Nat)), w64 (wd D (1 : Nat)), w64 (wd D (2 : Nat)), w64 (wd D (3 : Nat)), strL M, w64 (wd Q (0 : Nat)), w64 (wd Q (1 : Nat)),
 w64 (wd Q (2 : Nat)), w64 (wd Q (3 : Nat)), boolA true, boolA (lastA (fdL D Q M l (List.take k s))), u8A (lastC (fdL D Q M l (List.take k s)))])) = [AV.val (Value.int IntKind.u64 (↑(wd D (0 : Nat)).toNat : Int)), AV.val (Value.int IntKind.u64 (↑(wd D (1 : Nat)).toNat : Int)), AV.val (Value.int IntKind.u64 (↑(wd D (2 : Nat)).toNat : Int)), AV.val (Value.int IntKind.u64 (↑(wd D (3 : Nat)).toNat : Int))] ∧ (↑k : Int) = (↑k : Int) ∧ k < List.length s ∧ ∀ (c4 : UInt8), s[k]? = some c4 → (R FT X).f 20 [encCS D, u8A c4] = some (boolA (BitVec.getLsbD D c4.toNat)) ∧ (BitVec.getLsbD D c4.toNat = true → InI64 ((↑k : Int) + 1) ∧ ∃ (j7 : Nat), ((True ∧ s = s ∧ (List.length (fdO D Q M l (List.take k s)) = List.length (fdO D Q M l (List.take j7 s)) ∧ (0 : Nat) = 0 ∧ List.length (fdO D Q M l (List.take k s)) = List.length (fdO D Q M l (List.take j7 s))) ∧ (↑(List.length s) : Int) = (↑(List.length s) : Int) ∧ (↑k : Int) + 1 = (↑j7 : Int) ∧ True) ∧ ((↑(wd D (0 : Nat)).toNat : Int) = (↑(wd D (0 : Nat)).toNat : Int) ∧ (↑(wd D (1 : Nat)).toNat : Int) = (↑(wd D (1 : Nat)).toNat : Int) ∧ (↑(wd D (2 : Nat)).toNat : Int) = (↑(wd D (2 : Nat)).toNat : Int) ∧ (↑(wd D (3 : Nat)).toNat
 : Int) = (↑(wd D (3 : Nat)).toNat : Int) ∧ M = M ∧ (↑(wd Q (0 : Nat)).toNat : Int) = (↑(wd Q (0 : Nat)).toNat : Int) ∧ (↑(wd Q (1 : Nat)).toNat : Int) = (↑(wd Q (1 : Nat)).toNat : Int) ∧ (↑(wd Q (2 : Nat)).toNat : Int) = (↑(wd Q (2 : Nat)).toNat : Int) ∧ (↑(wd Q (3 : Nat)).toNat : Int) = (↑(wd Q (3 : Nat)).toNat : Int)) ∧ ((↑(wd D (0 : Nat)).toNat : Int) = (↑(wd D (0 : Nat)).toNat : Int) ∧ (↑(wd D (1 : Nat)).toNat : Int) = (↑(wd D (1 : Nat)).toNat : Int) ∧ (↑(wd D (2 : Nat)).toNat : Int) = (↑(wd D (2 : Nat)).toNat : Int) ∧ (↑(wd D (3 : Nat)).toNat : Int) = (↑(wd D (3 : Nat)).toNat : Int) ∧ M = M ∧ (↑(wd Q (0 : Nat)).toNat : Int) = (↑(wd Q (0 : Nat)).toNat : Int) ∧ (↑(wd Q (1 : Nat)).toNat : Int) = (↑(wd Q (1 : Nat)).toNat : Int) ∧ (↑(wd Q (2 : Nat)).toNat : Int) = (↑(wd Q (2 : Nat)).toNat : Int) ∧ (↑(wd Q (3 : Nat)).toNat : Int) = (↑(wd Q (3 : Nat)).toNat : Int)) ∧ List.map u8A M ++ [w64 (wd D (0 : Nat)), w64 (wd D (1 : Nat)), w64 (wd D (2 : Nat)), w64 (wd D (3 : Nat)), strL M, w64 (wd Q (0 : Nat)), w64 (wd Q (1 : Nat)), w64 (wd Q (2 : Nat)), w64 (wd Q (3 : Nat)), boolA true, boolA (lastA (fdL D Q M l (List.take k s))), u8A (lastC (fdL D Q M l (List.take k s)))] = List.map u8A M ++
 [w64 (wd D (0 : Nat)), w64 (wd D (1 : Nat)), w64 (wd D (2 : Nat)), w64 (wd D (3 : Nat)), strL M, w64 (wd Q (0 : Nat)), w64 (wd Q (1 : Nat)), w64 (wd Q (2 : Nat)), w64 (wd Q (3 : Nat)), boolA true, boolA (lastA (fdL D Q M l (List.take j7 s))), u8A (lastC (fdL D Q M l (List.take j7 s)))] ∧ List.map u8A (fdO D Q M l (List.take k s)) = List.map u8A (fdO D Q M l (List.take j7 s))) ∧ j7 ≤ List.length s ∧ List.length s - j7 < List.length s - k) ∧ (BitVec.getLsbD D c4.toNat = false → (↑k : Int) = (↑k : Int) ∧ k < List.length s ∧ ∀ (c9 : UInt8), s[k]? = some c9 → (↑c9.toNat : Int) = (↑c9.toNat : Int) ∧ c9.toNat < 256 ∧ List.take (List.length M) (List.drop (0 : Nat) (List.map u8A M ++ [w64 (wd D (0 : Nat)), w64 (wd D (1 : Nat)), w64 (wd D (2 : Nat)), w64 (wd D (3 : Nat)), strL M, w64 (wd Q (0 : Nat)), w64 (wd Q (1 : Nat)), w64 (wd Q (2 : Nat)), w64 (wd Q (3 : Nat)), boolA true, boolA (lastA (fdL D Q M l (List.take k s))), u8A (lastC (fdL D Q M l (List.take k s)))])) = List.map u8A M ∧ c9.toNat * 1 = c9.toNat * 1 ∧ c9.toNat * 1 < List.length M ∧ ∀ (x11 : UInt8), M[c9.toNat * 1]? = some x11 → (267 : Nat) ≤ (List.map u8A M ++ [w64 (wd D (0 : Nat)), w64 (wd
 D (1 : Nat)), w64 (wd D (2 : Nat)), w64 (wd D (3 : Nat)), strL M, w64 (wd Q (0 : Nat)), w64 (wd Q (1 : Nat)), w64 (wd Q (2 : Nat)), w64 (wd Q (3 : Nat)), boolA true, boolA (lastA (fdL D Q M l (List.take k s))), u8A (lastC (fdL D Q M l (List.take k s)))]).length ∧ List.take (1 : Nat) (List.drop ((0 : Nat) + 266) (List.map u8A M ++ [w64 (wd D (0 : Nat)), w64 (wd D (1 : Nat)), w64 (wd D (2 : Nat)), w64 (wd D (3 : Nat)), strL M, w64 (wd Q (0 : Nat)), w64 (wd Q (1 : Nat)), w64 (wd Q (2 : Nat)), w64 (wd Q (3 : Nat)), boolA true, boolA (lastA (fdL D Q M l (List.take k s))), u8A (lastC (fdL D Q M l (List.take k s)))])) = [boolA (lastA (fdL D Q M l (List.take k s)))] ∧ (lastA (fdL D Q M l (List.take k s)) = true → (268 : Nat) ≤ (List.map u8A M ++ [w64 (wd D (0 : Nat)), w64 (wd D (1 : Nat)), w64 (wd D (2 : Nat)), w64 (wd D (3 : Nat)), strL M, w64 (wd Q (0 : Nat)), w64 (wd Q (1 : Nat)), w64 (wd Q (2 : Nat)), w64 (wd Q (3 : Nat)), boolA true, boolA (lastA (fdL D Q M l (List.take k s))), u8A (lastC (fdL D Q M l (List.take k s)))]).length ∧ List.take (1 : Nat) (List.drop ((0 : Nat) + 267) (List.map u8A M ++ [w64 (wd D (0 : Nat)), w64 (wd D (1 : Nat)), w64 (wd D (2 : Nat)), w64 (wd
 D (3 : Nat)), strL M, w64 (wd Q (0 : Nat)), w64 (wd Q (1 : Nat)), w64 (wd Q (2 : Nat)), w64 (wd Q (3 : Nat)), boolA true, boolA (lastA (fdL D Q M l (List.take k s))), u8A (lastC (fdL D Q M l (List.take k s)))])) = [u8A (lastC (fdL D Q M l (List.take k s)))] ∧ (decide ((↑x11.toNat : Int) = (↑(lastC (fdL D Q M l (List.take k s))).toNat : Int)) = true → (265 : Nat) ≤ (List.map u8A M ++ [w64 (wd D (0 : Nat)), w64 (wd D (1 : Nat)), w64 (wd D (2 : Nat)), w64 (wd D (3 : Nat)), strL M, w64 (wd Q (0 : Nat)), w64 (wd Q (1 : Nat)), w64 (wd Q (2 : Nat)), w64 (wd Q (3 : Nat)), boolA true, boolA (lastA (fdL D Q M l (List.take k s))), u8A (lastC (fdL D Q M l (List.take k s)))]).length ∧ List.take (4 : Nat) (List.drop ((0 : Nat) + 256 + (5 : Nat)) (List.map u8A M ++ [w64 (wd D (0 : Nat)), w64 (wd D (1 : Nat)), w64 (wd D (2 : Nat)), w64 (wd D (3 : Nat)), strL M, w64 (wd Q (0 : Nat)), w64 (wd Q (1 : Nat)), w64 (wd Q (2 : Nat)), w64 (wd Q (3 : Nat)), boolA true, boolA (lastA (fdL D Q M l (List.take k s))), u8A (lastC (fdL D Q M l (List.take k s)))])) = [AV.val (Value.int IntKind.u64 (↑(wd Q (0 : Nat)).toNat : Int)), AV.val (Value.int IntKind.u64 (↑(wd Q (1 : Nat)).toNat : Int)), AV.val (Value.int
 IntKind.u64 (↑(wd Q (2 : Nat)).toNat : Int)), AV.val (Value.int IntKind.u64 (↑(wd Q (3 : Nat)).toNat : Int))] ∧ (R FT X).f 20 [encCS Q, u8A x11] = some (boolA (BitVec.getLsbD Q x11.toNat)) ∧ (BitVec.getLsbD Q x11.toNat = true → InI64 ((↑k : Int) + 1) ∧ ∃ (j16 : Nat), ((True ∧ s = s ∧ (List.length (fdO D Q M l (List.take k s)) = List.length (fdO D Q M l (List.take j16 s)) ∧ (0 : Nat) = 0 ∧ List.length (fdO D Q M l (List.take k s)) = List.length (fdO D Q M l (List.take j16 s))) ∧ (↑(List.length s) : Int) = (↑(List.length s) : Int) ∧ (↑k : Int) + 1 = (↑j16 : Int) ∧ True) ∧ ((↑(wd D (0 : Nat)).toNat : Int) = (↑(wd D (0 : Nat)).toNat : Int) ∧ (↑(wd D (1 : Nat)).toNat : Int) = (↑(wd D (1 : Nat)).toNat : Int) ∧ (↑(wd D (2 : Nat)).toNat : Int) = (↑(wd D (2 : Nat)).toNat : Int) ∧ (↑(wd D (3 : Nat)).toNat : Int) = (↑(wd D (3 : Nat)).toNat : Int) ∧ M = M ∧ (↑(wd Q (0 : Nat)).toNat : Int) = (↑(wd Q (0 : Nat)).toNat : Int) ∧ (↑(wd Q (1 : Nat)).toNat : Int) = (↑(wd Q (1 : Nat)).toNat : Int) ∧ (↑(wd Q (2 : Nat)).toNat : Int) = (↑(wd Q (2 : Nat)).toNat : Int) ∧ (↑(wd Q (3 : Nat)).toNat : Int) = (↑(wd Q (3 : Nat)).toNat : Int)) ∧ ((↑(wd D (0 : Nat)).toNat : Int) =
 (↑(wd D (0 : Nat)).toNat : Int) ∧ (↑(wd D (1 : Nat)).toNat : Int) = (↑(wd D (1 : Nat)).toNat : Int) ∧ (↑(wd D (2 : Nat)).toNat : Int) = (↑(wd D (2 : Nat)).toNat : Int) ∧ (↑(wd D (3 : Nat)).toNat : Int) = (↑(wd D (3 : Nat)).toNat : Int) ∧ M = M ∧ (↑(wd Q (0 : Nat)).toNat : Int) = (↑(wd Q (0 : Nat)).toNat : Int) ∧ (↑(wd Q (1 : Nat)).toNat : Int) = (↑(wd Q (1 : Nat)).toNat : Int) ∧ (↑(wd Q (2 : Nat)).toNat : Int) = (↑(wd Q (2 : Nat)).toNat : Int) ∧ (↑(wd Q (3 : Nat)).toNat : Int) = (↑(wd Q (3 : Nat)).toNat : Int)) ∧ List.map u8A M ++ [w64 (wd D (0 : Nat)), w64 (wd D (1 : Nat)), w64 (wd D (2 : Nat)), w64 (wd D (3 : Nat)), strL M, w64 (wd Q (0 : Nat)), w64 (wd Q (1 : Nat)), w64 (wd Q (2 : Nat)), w64 (wd Q (3 : Nat)), boolA true, boolA (lastA (fdL D Q M l (List.take k s))), u8A (lastC (fdL D Q M l (List.take k s)))] = List.map u8A M ++ [w64 (wd D (0 : Nat)), w64 (wd D (1 : Nat)), w64 (wd D (2 : Nat)), w64 (wd D (3 : Nat)), strL M, w64 (wd Q (0 : Nat)), w64 (wd Q (1 : Nat)), w64 (wd Q (2 : Nat)), w64 (wd Q (3 : Nat)), boolA true, boolA (lastA (fdL D Q M l (List.take j16 s))), u8A (lastC (fdL D Q M l (List.take j16 s)))] ∧ List.map u8A (fdO D Q M l (List.take k s)) = List.map u8A (fdO D Q M
 l (List.take j16 s))) ∧ j16 ≤ List.length s ∧ List.length s - j16 < List.length s - k) ∧ (BitVec.getLsbD Q x11.toNat = false → (List.map u8A (fdO D Q M l (List.take k s))).length = List.length (fdO D Q M l (List.take k s)) ∧ (0 : Nat) = 0 ∧ List.length (fdO D Q M l (List.take k s)) = List.length (fdO D Q M l (List.take k s)) ∧ List.length (fdO D Q M l (List.take k s)) + [u8A x11].length = List.length (fdO D Q M l (List.take k s)) + 1 ∧ (List.length (fdO D Q M l (List.take k s)) + 1) * 1 ≤ (140737488355328 : Nat) ∧ List.length (fdO D Q M l (List.take k s)) + 1 ≤ (9223372036854775807 : Nat) ∧ (267 : Nat) ≤ (List.map u8A M ++ [w64 (wd D (0 : Nat)), w64 (wd D (1 : Nat)), w64 (wd D (2 : Nat)), w64 (wd D (3 : Nat)), strL M, w64 (wd Q (0 : Nat)), w64 (wd Q (1 : Nat)), w64 (wd Q (2 : Nat)), w64 (wd Q (3 : Nat)), boolA true, boolA (lastA (fdL D Q M l (List.take k s))), u8A (lastC (fdL D Q M l (List.take k s)))]).length ∧ setAt (List.map u8A M ++ [w64 (wd D (0 : Nat)), w64 (wd D (1 : Nat)), w64 (wd D (2 : Nat)), w64 (wd D (3 : Nat)), strL M, w64 (wd Q (0 : Nat)), w64 (wd Q (1 : Nat)), w64 (wd Q (2 : Nat)), w64 (wd Q (3 : Nat)), boolA true, boolA (lastA
 (fdL D Q M l (List.take k s))), u8A (lastC (fdL D Q M l (List.take k s)))]) ((0 : Nat) + 266) (boolA true).cells = List.map u8A M ++ [w64 (wd D (0 : Nat)), w64 (wd D (1 : Nat)), w64 (wd D (2 : Nat)), w64 (wd D (3 : Nat)), strL M, w64 (wd Q (0 : Nat)), w64 (wd Q (1 : Nat)), w64 (wd Q (2 : Nat)), w64 (wd Q (3 : Nat)), boolA true, boolA true, u8A (lastC (fdL D Q M l (List.take k s)))] ∧ (268 : Nat) ≤ (List.map u8A M ++ [w64 (wd D (0 : Nat)), w64 (wd D (1 : Nat)), w64 (wd D (2 : Nat)), w64 (wd D (3 : Nat)), strL M, w64 (wd Q (0 : Nat)), w64 (wd Q (1 : Nat)), w64 (wd Q (2 : Nat)), w64 (wd Q (3 : Nat)), boolA true, boolA true, u8A (lastC (fdL D Q M l (List.take k s)))]).length ∧ setAt (List.map u8A M ++ [w64 (wd D (0 : Nat)), w64 (wd D (1 : Nat)), w64 (wd D (2 : Nat)), w64 (wd D (3 : Nat)), strL M, w64 (wd Q (0 : Nat)), w64 (wd Q (1 : Nat)), w64 (wd Q (2 : Nat)), w64 (wd Q (3 : Nat)), boolA true, boolA true, u8A (lastC (fdL D Q M l (List.take k s)))]) ((0 : Nat) + 267) (u8A x11).cells = List.map u8A M ++ [w64 (wd D (0 : Nat)), w64 (wd D (1 : Nat)), w64 (wd D (2 : Nat)), w64 (wd D (3 : Nat)), strL M, w64 (wd Q (0 : Nat)), w64 (wd Q (1 : Nat)), w64 (wd Q (2 : Nat)), w64 (wd
 Q (3 : Nat)), boolA true, boolA true, u8A x11] ∧ InI64 ((↑k : Int) + 1) ∧ ∃ (j18 : Nat), ((True ∧ s = s ∧ (List.length (fdO D Q M l (List.take k s)) + 1 = List.length (fdO D Q M l (List.take j18 s)) ∧ (0 : Nat) = 0 ∧ List.length (fdO D Q M l (List.take k s)) + 1 = List.length (fdO D Q M l (List.take j18 s))) ∧ (↑(List.length s) : Int) = (↑(List.length s) : Int) ∧ (↑k : Int) + 1 = (↑j18 : Int) ∧ True) ∧ ((↑(wd D (0 : Nat)).toNat : Int) = (↑(wd D (0 : Nat)).toNat : Int) ∧ (↑(wd D (1 : Nat)).toNat : Int) = (↑(wd D (1 : Nat)).toNat : Int) ∧ (↑(wd D (2 : Nat)).toNat : Int) = (↑(wd D (2 : Nat)).toNat : Int) ∧ (↑(wd D (3 : Nat)).toNat : Int) = (↑(wd D (3 : Nat)).toNat : Int) ∧ M = M ∧ (↑(wd Q (0 : Nat)).toNat : Int) = (↑(wd Q (0 : Nat)).toNat : Int) ∧ (↑(wd Q (1 : Nat)).toNat : Int) = (↑(wd Q (1 : Nat)).toNat : Int) ∧ (↑(wd Q (2 : Nat)).toNat : Int) = (↑(wd Q (2 : Nat)).toNat : Int) ∧ (↑(wd Q (3 : Nat)).toNat : Int) = (↑(wd Q (3 : Nat)).toNat : Int)) ∧ ((↑(wd D (0 : Nat)).toNat : Int) = (↑(wd D (0 : Nat)).toNat : Int) ∧ (↑(wd D (1 : Nat)).toNat : Int) = (↑(wd D (1 : Nat)).toNat : Int) ∧ (↑(wd D (2 : Nat)).toNat : Int) = (↑(wd D (2 : Nat)).toNat : Int)
 ∧ (↑(wd D (3 : Nat)).toNat : Int) = (↑(wd D (3 : Nat)).toNat : Int) ∧ M = M ∧ (↑(wd Q (0 : Nat)).toNat : Int) = (↑(wd Q (0 : Nat)).toNat : Int) ∧ (↑(wd Q (1 : Nat)).toNat : Int) = (↑(wd Q (1 : Nat)).toNat : Int) ∧ (↑(wd Q (2 : Nat)).toNat : Int) = (↑(wd Q (2 : Nat)).toNat : Int) ∧ (↑(wd Q (3 : Nat)).toNat : Int) = (↑(wd Q (3 : Nat)).toNat : Int)) ∧ List.map u8A M ++ [w64 (wd D (0 : Nat)), w64 (wd D (1 : Nat)), w64 (wd D (2 : Nat)), w64 (wd D (3 : Nat)), strL M, w64 (wd Q (0 : Nat)), w64 (wd Q (1 : Nat)), w64 (wd Q (2 : Nat)), w64 (wd Q (3 : Nat)), boolA true, boolA true, u8A x11] = List.map u8A M ++ [w64 (wd D (0 : Nat)), w64 (wd D (1 : Nat)), w64 (wd D (2 : Nat)), w64 (wd D (3 : Nat)), strL M, w64 (wd Q (0 : Nat)), w64 (wd Q (1 : Nat)), w64 (wd Q (2 : Nat)), w64 (wd Q (3 : Nat)), boolA true, boolA (lastA (fdL D Q M l (List.take j18 s))), u8A (lastC (fdL D Q M l (List.take j18 s)))] ∧ List.map u8A (fdO D Q M l (List.take k s)) ++ [u8A x11] = List.map u8A (fdO D Q M l (List.take j18 s))) ∧ j18 ≤ List.length s ∧ List.length s - j18 < List.length s - k)) ∧ (decide ((↑x11.toNat : Int) = (↑(lastC (fdL D Q M l (List.take k s))).toNat : Int)) = false → false = false ∧ (List.map u8A (fdO D
 Q M l (List.take k s))).length = List.length (fdO D Q M l (List.take k s)) ∧ (0 : Nat) = 0 ∧ List.length (fdO D Q M l (List.take k s)) = List.length (fdO D Q M l (List.take k s)) ∧ List.length (fdO D Q M l (List.take k s)) + [u8A x11].length = List.length (fdO D Q M l (List.take k s)) + 1 ∧ (List.length (fdO D Q M l (List.take k s)) + 1) * 1 ≤ (140737488355328 : Nat) ∧ List.length (fdO D Q M l (List.take k s)) + 1 ≤ (9223372036854775807 : Nat) ∧ (267 : Nat) ≤ (List.map u8A M ++ [w64 (wd D (0 : Nat)), w64 (wd D (1 : Nat)), w64 (wd D (2 : Nat)), w64 (wd D (3 : Nat)), strL M, w64 (wd Q (0 : Nat)), w64 (wd Q (1 : Nat)), w64 (wd Q (2 : Nat)), w64 (wd Q (3 : Nat)), boolA true, boolA (lastA (fdL D Q M l (List.take k s))), u8A (lastC (fdL D Q M l (List.take k s)))]).length ∧ setAt (List.map u8A M ++ [w64 (wd D (0 : Nat)), w64 (wd D (1 : Nat)), w64 (wd D (2 : Nat)), w64 (wd D (3 : Nat)), strL M, w64 (wd Q (0 : Nat)), w64 (wd Q (1 : Nat)), w64 (wd Q (2 : Nat)), w64 (wd Q (3 : Nat)), boolA true, boolA (lastA (fdL D Q M l (List.take k s))), u8A (lastC (fdL D Q M l (List.take k s)))]) ((0 : Nat) + 266) (boolA true).cells = List.map u8A M ++ [w64 (wd
 D (0 : Nat)), w64 (wd D (1 : Nat)), w64 (wd D (2 : Nat)), w64 (wd D (3 : Nat)), strL M, w64 (wd Q (0 : Nat)), w64 (wd Q (1 : Nat)), w64 (wd Q (2 : Nat)), w64 (wd Q (3 : Nat)), boolA true, boolA true, u8A (lastC (fdL D Q M l (List.take k s)))] ∧ (268 : Nat) ≤ (List.map u8A M ++ [w64 (wd D (0 : Nat)), w64 (wd D (1 : Nat)), w64 (wd D (2 : Nat)), w64 (wd D (3 : Nat)), strL M, w64 (wd Q (0 : Nat)), w64 (wd Q (1 : Nat)), w64 (wd Q (2 : Nat)), w64 (wd Q (3 : Nat)), boolA true, boolA true, u8A (lastC (fdL D Q M l (List.take k s)))]).length ∧ setAt (List.map u8A M ++ [w64 (wd D (0 : Nat)), w64 (wd D (1 : Nat)), w64 (wd D (2 : Nat)), w64 (wd D (3 : Nat)), strL M, w64 (wd Q (0 : Nat)), w64 (wd Q (1 : Nat)), w64 (wd Q (2 : Nat)), w64 (wd Q (3 : Nat)), boolA true, boolA true, u8A (lastC (fdL D Q M l (List.take k s)))]) ((0 : Nat) + 267) (u8A x11).cells = List.map u8A M ++ [w64 (wd D (0 : Nat)), w64 (wd D (1 : Nat)), w64 (wd D (2 : Nat)), w64 (wd D (3 : Nat)), strL M, w64 (wd Q (0 : Nat)), w64 (wd Q (1 : Nat)), w64 (wd Q (2 : Nat)), w64 (wd Q (3 : Nat)), boolA true, boolA true, u8A x11] ∧ InI64 ((↑k : Int) + 1) ∧ ∃ (j20 : Nat), ((True ∧ s = s ∧ (List.length (fdO D Q M l (List.take
 k s)) + 1 = List.length (fdO D Q M l (List.take j20 s)) ∧ (0 : Nat) = 0 ∧ List.length (fdO D Q M l (List.take k s)) + 1 = List.length (fdO D Q M l (List.take j20 s))) ∧ (↑(List.length s) : Int) = (↑(List.length s) : Int) ∧ (↑k : Int) + 1 = (↑j20 : Int) ∧ True) ∧ ((↑(wd D (0 : Nat)).toNat : Int) = (↑(wd D (0 : Nat)).toNat : Int) ∧ (↑(wd D (1 : Nat)).toNat : Int) = (↑(wd D (1 : Nat)).toNat : Int) ∧ (↑(wd D (2 : Nat)).toNat : Int) = (↑(wd D (2 : Nat)).toNat : Int) ∧ (↑(wd D (3 : Nat)).toNat : Int) = (↑(wd D (3 : Nat)).toNat : Int) ∧ M = M ∧ (↑(wd Q (0 : Nat)).toNat : Int) = (↑(wd Q (0 : Nat)).toNat : Int) ∧ (↑(wd Q (1 : Nat)).toNat : Int) = (↑(wd Q (1 : Nat)).toNat : Int) ∧ (↑(wd Q (2 : Nat)).toNat : Int) = (↑(wd Q (2 : Nat)).toNat : Int) ∧ (↑(wd Q (3 : Nat)).toNat : Int) = (↑(wd Q (3 : Nat)).toNat : Int)) ∧ ((↑(wd D (0 : Nat)).toNat : Int) = (↑(wd D (0 : Nat)).toNat : Int) ∧ (↑(wd D (1 : Nat)).toNat : Int) = (↑(wd D (1 : Nat)).toNat : Int) ∧ (↑(wd D (2 : Nat)).toNat : Int) = (↑(wd D (2 : Nat)).toNat : Int) ∧ (↑(wd D (3 : Nat)).toNat : Int) = (↑(wd D (3 : Nat)).toNat : Int) ∧ M = M ∧ (↑(wd Q (0 : Nat)).toNat : Int) = (↑(wd Q (0 : Nat)).toNat : Int) ∧ (↑(wd
 Q (1 : Nat)).toNat : Int) = (↑(wd Q (1 : Nat)).toNat : Int) ∧ (↑(wd Q (2 : Nat)).toNat : Int) = (↑(wd Q (2 : Nat)).toNat : Int) ∧ (↑(wd Q (3 : Nat)).toNat : Int) = (↑(wd Q (3 : Nat)).toNat : Int)) ∧ List.map u8A M ++ [w64 (wd D (0 : Nat)), w64 (wd D (1 : Nat)), w64 (wd D (2 : Nat)), w64 (wd D (3 : Nat)), strL M, w64 (wd Q (0 : Nat)), w64 (wd Q (1 : Nat)), w64 (wd Q (2 : Nat)), w64 (wd Q (3 : Nat)), boolA true, boolA true, u8A x11] = List.map u8A M ++ [w64 (wd D (0 : Nat)), w64 (wd D (1 : Nat)), w64 (wd D (2 : Nat)), w64 (wd D (3 : Nat)), strL M, w64 (wd Q (0 : Nat)), w64 (wd Q (1 : Nat)), w64 (wd Q (2 : Nat)), w64 (wd Q (3 : Nat)), boolA true, boolA (lastA (fdL D Q M l (List.take j20 s))), u8A (lastC (fdL D Q M l (List.take j20 s)))] ∧ List.map u8A (fdO D Q M l (List.take k s)) ++ [u8A x11] = List.map u8A (fdO D Q M l (List.take j20 s))) ∧ j20 ≤ List.length s ∧ List.length s - j20 < List.length s - k)) ∧ (lastA (fdL D Q M l (List.take k s)) = false → false = false ∧ false = false ∧ (List.map u8A (fdO D Q M l (List.take k s))).length = List.length (fdO D Q M l (List.take k s)) ∧ (0 : Nat) = 0 ∧ List.length (fdO D Q M l (List.take k s)) = List.length (fdO D Q M l (List.take k
 s)) ∧ List.length (fdO D Q M l (List.take k s)) + [u8A x11].length = List.length (fdO D Q M l (List.take k s)) + 1 ∧ (List.length (fdO D Q M l (List.take k s)) + 1) * 1 ≤ (140737488355328 : Nat) ∧ List.length (fdO D Q M l (List.take k s)) + 1 ≤ (9223372036854775807 : Nat) ∧ (267 : Nat) ≤ (List.map u8A M ++ [w64 (wd D (0 : Nat)), w64 (wd D (1 : Nat)), w64 (wd D (2 : Nat)), w64 (wd D (3 : Nat)), strL M, w64 (wd Q (0 : Nat)), w64 (wd Q (1 : Nat)), w64 (wd Q (2 : Nat)), w64 (wd Q (3 : Nat)), boolA true, boolA (lastA (fdL D Q M l (List.take k s))), u8A (lastC (fdL D Q M l (List.take k s)))]).length ∧ setAt (List.map u8A M ++ [w64 (wd D (0 : Nat)), w64 (wd D (1 : Nat)), w64 (wd D (2 : Nat)), w64 (wd D (3 : Nat)), strL M, w64 (wd Q (0 : Nat)), w64 (wd Q (1 : Nat)), w64 (wd Q (2 : Nat)), w64 (wd Q (3 : Nat)), boolA true, boolA (lastA (fdL D Q M l (List.take k s))), u8A (lastC (fdL D Q M l (List.take k s)))]) ((0 : Nat) + 266) (boolA true).cells = List.map u8A M ++ [w64 (wd D (0 : Nat)), w64 (wd D (1 : Nat)), w64 (wd D (2 : Nat)), w64 (wd D (3 : Nat)), strL M, w64 (wd Q (0 : Nat)), w64 (wd Q (1 : Nat)), w64 (wd Q (2 : Nat)), w64 (wd Q (3 : Nat)), boolA
 true, boolA true, u8A (lastC (fdL D Q M l (List.take k s)))] ∧ (268 : Nat) ≤ (List.map u8A M ++ [w64 (wd D (0 : Nat)), w64 (wd D (1 : Nat)), w64 (wd D (2 : Nat)), w64 (wd D (3 : Nat)), strL M, w64 (wd Q (0 : Nat)), w64 (wd Q (1 : Nat)), w64 (wd Q (2 : Nat)), w64 (wd Q (3 : Nat)), boolA true, boolA true, u8A (lastC (fdL D Q M l (List.take k s)))]).length ∧ setAt (List.map u8A M ++ [w64 (wd D (0 : Nat)), w64 (wd D (1 : Nat)), w64 (wd D (2 : Nat)), w64 (wd D (3 : Nat)), strL M, w64 (wd Q (0 : Nat)), w64 (wd Q (1 : Nat)), w64 (wd Q (2 : Nat)), w64 (wd Q (3 : Nat)), boolA true, boolA true, u8A (lastC (fdL D Q M l (List.take k s)))]) ((0 : Nat) + 267) (u8A x11).cells = List.map u8A M ++ [w64 (wd D (0 : Nat)), w64 (wd D (1 : Nat)), w64 (wd D (2 : Nat)), w64 (wd D (3 : Nat)), strL M, w64 (wd Q (0 : Nat)), w64 (wd Q (1 : Nat)), w64 (wd Q (2 : Nat)), w64 (wd Q (3 : Nat)), boolA true, boolA true, u8A x11] ∧ InI64 ((↑k : Int) + 1) ∧ ∃ (j22 : Nat), ((True ∧ s = s ∧ (List.length (fdO D Q M l (List.take k s)) + 1 = List.length (fdO D Q M l (List.take j22 s)) ∧ (0 : Nat) = 0 ∧ List.length (fdO D Q M l (List.take k s)) + 1 = List.length (fdO D Q M l (List.take
 j22 s))) ∧ (↑(List.length s) : Int) = (↑(List.length s) : Int) ∧ (↑k : Int) + 1 = (↑j22 : Int) ∧ True) ∧ ((↑(wd D (0 : Nat)).toNat : Int) = (↑(wd D (0 : Nat)).toNat : Int) ∧ (↑(wd D (1 : Nat)).toNat : Int) = (↑(wd D (1 : Nat)).toNat : Int) ∧ (↑(wd D (2 : Nat)).toNat : Int) = (↑(wd D (2 : Nat)).toNat : Int) ∧ (↑(wd D (3 : Nat)).toNat : Int) = (↑(wd D (3 : Nat)).toNat : Int) ∧ M = M ∧ (↑(wd Q (0 : Nat)).toNat : Int) = (↑(wd Q (0 : Nat)).toNat : Int) ∧ (↑(wd Q (1 : Nat)).toNat : Int) = (↑(wd Q (1 : Nat)).toNat : Int) ∧ (↑(wd Q (2 : Nat)).toNat : Int) = (↑(wd Q (2 : Nat)).toNat : Int) ∧ (↑(wd Q (3 : Nat)).toNat : Int) = (↑(wd Q (3 : Nat)).toNat : Int)) ∧ ((↑(wd D (0 : Nat)).toNat : Int) = (↑(wd D (0 : Nat)).toNat : Int) ∧ (↑(wd D (1 : Nat)).toNat : Int) = (↑(wd D (1 : Nat)).toNat : Int) ∧ (↑(wd D (2 : Nat)).toNat : Int) = (↑(wd D (2 : Nat)).toNat : Int) ∧ (↑(wd D (3 : Nat)).toNat : Int) = (↑(wd D (3 : Nat)).toNat : Int) ∧ M = M ∧ (↑(wd Q (0 : Nat)).toNat : Int) = (↑(wd Q (0 : Nat)).toNat : Int) ∧ (↑(wd Q (1 : Nat)).toNat : Int) = (↑(wd Q (1 : Nat)).toNat : Int) ∧ (↑(wd Q (2 : Nat)).toNat : Int) = (↑(wd Q (2 : Nat)).toNat : Int) ∧ (↑(wd Q (3 : Nat)).toNat : Int) = (↑(wd Q (3 : Nat)).toNat
 : Int)) ∧ List.map u8A M ++ [w64 (wd D (0 : Nat)), w64 (wd D (1 : Nat)), w64 (wd D (2 : Nat)), w64 (wd D (3 : Nat)), strL M, w64 (wd Q (0 : Nat)), w64 (wd Q (1 : Nat)), w64 (wd Q (2 : Nat)), w64 (wd Q (3 : Nat)), boolA true, boolA true, u8A x11] = List.map u8A M ++ [w64 (wd D (0 : Nat)), w64 (wd D (1 : Nat)), w64 (wd D (2 : Nat)), w64 (wd D (3 : Nat)), strL M, w64 (wd Q (0 : Nat)), w64 (wd Q (1 : Nat)), w64 (wd Q (2 : Nat)), w64 (wd Q (3 : Nat)), boolA true, boolA (lastA (fdL D Q M l (List.take j22 s))), u8A (lastC (fdL D Q M l (List.take j22 s)))] ∧ List.map u8A (fdO D Q M l (List.take k s)) ++ [u8A x11] = List.map u8A (fdO D Q M l (List.take j22 s))) ∧ j22 ≤ List.length s ∧ List.length s - j22 < List.length s - k))) ∧ (decide ((↑k : Int) < (↑(List.length s) : Int)) = false → (List.map u8A (fdO D Q M l (List.take k s))).length = List.length (fdO D Q M l (List.take k s)) ∧ bytesL (List.take (List.length (fdO D Q M l (List.take k s))) (List.drop (0 : Nat) (List.map u8A (fdO D Q M l (List.take k s))))) = some (fdO D Q M l (List.take k s)) ∧ fdO D Q M l (List.take k s) = fdO D Q M l s ∧ ((↑(wd D (0 : Nat)).toNat : Int) = (↑(wd D (0 : Nat)).toNat : Int) ∧ (↑(wd D (1 : Nat)).toNat : Int)
 = (↑(wd D (1 : Nat)).toNat : Int) ∧ (↑(wd D (2 : Nat)).toNat : Int) = (↑(wd D (2 : Nat)).toNat : Int) ∧ (↑(wd D (3 : Nat)).toNat : Int) = (↑(wd D (3 : Nat)).toNat : Int) ∧ M = M ∧ (↑(wd Q (0 : Nat)).toNat : Int) = (↑(wd Q (0 : Nat)).toNat : Int) ∧ (↑(wd Q (1 : Nat)).toNat : Int) = (↑(wd Q (1 : Nat)).toNat : Int) ∧ (↑(wd Q (2 : Nat)).toNat : Int) = (↑(wd Q (2 : Nat)).toNat : Int) ∧ (↑(wd Q (3 : Nat)).toNat : Int) = (↑(wd Q (3 : Nat)).toNat : Int)) ∧ ((↑(wd D (0 : Nat)).toNat : Int) = (↑(wd D (0 : Nat)).toNat : Int) ∧ (↑(wd D (1 : Nat)).toNat : Int) = (↑(wd D (1 : Nat)).toNat : Int) ∧ (↑(wd D (2 : Nat)).toNat : Int) = (↑(wd D (2 : Nat)).toNat : Int) ∧ (↑(wd D (3 : Nat)).toNat : Int) = (↑(wd D (3 : Nat)).toNat : Int) ∧ M = M ∧ (↑(wd Q (0 : Nat)).toNat : Int) = (↑(wd Q (0 : Nat)).toNat : Int) ∧ (↑(wd Q (1 : Nat)).toNat : Int) = (↑(wd Q (1 : Nat)).toNat : Int) ∧ (↑(wd Q (2 : Nat)).toNat : Int) = (↑(wd Q (2 : Nat)).toNat : Int) ∧ (↑(wd Q (3 : Nat)).toNat : Int) = (↑(wd Q (3 : Nat)).toNat : Int)) ∧ List.map u8A M ++ [w64 (wd D (0 : Nat)), w64 (wd D (1 : Nat)), w64 (wd D (2 : Nat)), w64 (wd D (3 : Nat)), strL M, w64 (wd Q (0 : Nat)), w64 (wd Q (1 : Nat)), w64 (wd Q (2 : Nat)), w64 (wd Q (3
 : Nat)), boolA true, boolA (lastA (fdL D Q M l (List.take k s))), u8A (lastC (fdL D Q M l (List.take k s)))] = List.map u8A M ++ [w64 (wd D (0 : Nat)), w64 (wd D (1 : Nat)), w64 (wd D (2 : Nat)), w64 (wd D (3 : Nat)), strL M, w64 (wd Q (0 : Nat)), w64 (wd Q (1 : Nat)), w64 (wd Q (2 : Nat)), w64 (wd Q (3 : Nat)), boolA true, boolA (lastA (fdL D Q M l s)), u8A (lastC (fdL D Q M l s))] ∧ List.map u8A (fdO D Q M l (List.take k s)) = List.map u8A (fdO D Q M l s)))) ?_
 refine ⟨rfl, (by simp; omega), ?_, rfl, (hg _ _ _ hs), ⟨(0 : Nat), ⟨⟨trivial, rfl, ⟨rfl, rfl, rfl⟩, rfl, (by omega), trivial⟩, ⟨rfl, rfl, rfl, rfl, rfl, rfl, rfl, rfl, rfl⟩, ⟨rfl, rfl, rfl, rfl, rfl, rfl, rfl, rfl, rfl⟩, rfl, rfl⟩, (by omega)⟩, fun k => fun h2 => ⟨fun h3_ => have h3 := dT h3_; ⟨(by simp; omega), ?_, rfl, (by omega), fun c4 => fun h5 => ⟨(hs1 _ _), fun h6 => ⟨(by unfold InI64; omega), ⟨k + (1 : Nat), ⟨⟨trivial, rfl, ⟨?_, rfl, ?_⟩, rfl, (by omega), trivial⟩, ⟨rfl, rfl, rfl, rfl, rfl, rfl, rfl, rfl, rfl⟩, ⟨rfl, rfl, rfl, rfl, rfl, rfl, rfl, rfl, rfl⟩, ?_, ?_⟩, ⟨(by omega), (by omega)⟩⟩⟩, fun h8 => ⟨rfl, (by omega), fun c9 => fun h10 => ⟨rfl, (by have := u8_lt c4; have := u8_lt c9; omega), (by simp), rfl, (by have := u8_lt c4; have := u8_lt c9; omega), fun x11 => fun h12 => ⟨(by simp; omega), ?_, fun h13 => ⟨(by simp; omega), ?_, fun h14_ => have h14 := dT h14_; ⟨(by simp; omega), ?_, (hs1 _ _), fun h15 => ⟨(by unfold InI64; omega), ⟨k + (1 : Nat), ⟨⟨trivial, rfl, ⟨?_, rfl, ?_⟩, rfl, (by omega), trivial⟩, ⟨rfl, rfl, rfl, rfl, rfl, rfl, rfl, rfl, rfl⟩, ⟨rfl, rfl, rfl, rfl, rfl, rfl, rfl, rfl, rfl⟩, ?_, ?_⟩, ⟨(by omega), (by omega)⟩⟩⟩, fun h17 => ⟨(by simp), rfl, rfl, rfl, ?_, ?_, (by simp; omega), ?_, (by simp; omega), ?_, (by unfold InI64; omega), ⟨k + (1 : Nat), ⟨⟨trivial, rfl, ⟨?_, rfl, ?_⟩, rfl, (by omega), trivial⟩, ⟨rfl, rfl, rfl, rfl, rfl, rfl, rfl, rfl, rfl⟩, ⟨rfl, rfl, rfl, rfl, rfl, rfl, rfl, rfl, rfl⟩, ?_, ?_⟩, ⟨(by omega), (by omega)⟩⟩⟩⟩, fun h19_ => have h19 := dF h19_; ⟨rfl, (by simp), rfl, rfl, rfl, ?_, ?_, (by simp; omega), ?_, (by simp; omega), ?_, (by unfold InI64; omega), ⟨k + (1 : Nat), ⟨⟨trivial, rfl, ⟨?_, rfl, ?_⟩, rfl, (by omega), trivial⟩, ⟨rfl, rfl, rfl, rfl, rfl, rfl, rfl, rfl, rfl⟩, ⟨rfl, rfl, rfl, rfl, rfl, rfl, rfl, rfl, rfl⟩, ?_, ?_⟩, ⟨(by omega), (by omega)⟩⟩⟩⟩, fun h21 => ⟨rfl, rfl, (by simp), rfl, rfl, rfl, ?_, ?_, (by simp; omega), ?_, (by simp; omega), ?_, (by unfold InI64; omega), ⟨k + (1 : Nat), ⟨⟨trivial, rfl, ⟨?_, rfl, ?_⟩, rfl, (by omega), trivial⟩, ⟨rfl, rfl, rfl, rfl, rfl, rfl, rfl, rfl, rfl⟩, ⟨rfl, rfl, rfl, rfl, rfl, rfl, rfl, rfl, rfl⟩, ?_, ?_⟩, ⟨(by omega), (by omega)⟩⟩⟩⟩⟩⟩⟩⟩, fun h23_ => have h23 := dF h23_; ⟨(by simp), (by first | exact bytesL_map _ | (rw [List.drop_zero, List.take_of_length_le (by simp)]; exact bytesL_map _) | (simp only [← List.map_take, ← List.map_drop]; exact bytesL_map _) | (rw [← List.map_replicate (f := u8A), ← List.map_append, ← List.map_drop, ← List.map_take]; exact bytesL_map _)), ?_, ⟨rfl, rfl, rfl, rfl, rfl, rfl, rfl, rfl, rfl⟩, ⟨rfl, rfl, rfl, rfl, rfl, rfl, rfl, rfl, rfl⟩, ?_, ?_⟩⟩⟩
 any_goals exact (bt_get h _ _ _ (by omega)).trans rfl
 any_goals exact bt_set h _ _ _ _ (by omega) rfl
 all_goals have hle := fdO_len D Q M l (s.take k)
 all_goals rw [List.length_take] at hle
 all_goals first
  | omega
  | (rw [(fd_del (Q := Q) (T := M) (l := l) h5 h6).1]; done)
  | (rw [(fd_del (Q := Q) (T := M) (l := l) h5 h6).2]; done)
  | (rw [(fdA_sq h5 h8 h10 h12 h13 h14 h15).1]; done)
  | (rw [(fdA_sq h5 h8 h10 h12 h13 h14 h15).2]; done)
  | (rw [(fdA_p1 (l := l) (Q := Q) h5 h8 h10 h12 h17).2]; rfl)
  | (rw [(fdA_p1 (l := l) (Q := Q) h5 h8 h10 h12 h17).1, List.length_append]; rfl)
  | (rw [(fdA_p1 (l := l) (Q := Q) h5 h8 h10 h12 h17).1, List.map_append]; rfl)
  | (rw [(fdA_p2 (Q := Q) h5 h8 h10 h12 h19).2]; rfl)
  | (rw [(fdA_p2 (Q := Q) h5 h8 h10 h12 h19).1, List.length_append]; rfl)
  | (rw [(fdA_p2 (Q := Q) h5 h8 h10 h12 h19).1, List.map_append]; rfl)
  | (rw [(fdA_p3 (Q := Q) h5 h8 h10 h12 h21).2]; rfl)
  | (rw [(fdA_p3 (Q := Q) h5 h8 h10 h12 h21).1, List.length_append]; rfl)
  | (rw [(fdA_p3 (Q := Q) h5 h8 h10 h12 h21).1, List.map_append]; rfl)
  | (rw [List.take_of_length_le (by omega)]; done)
  | skip
end
end Go.Proofs.YtienfdjfochlcaaDoor
end
section
namespace Go.Proofs.YtienfdjfochlcaaDoor
set_option linter.unusedVariables false
set_option linter.unusedSimpArgs false
set_option maxRecDepth 100000
set_option maxHeartbeats 4000000
def lastI (l : Option UInt8) : Int := match l with
 | some c => c.toNat
 | none => -1
def boxR (D : CS) (M : Bs) (Q : CS) (x : Int) : MObj := .box 71 [w64 (wd D 0), w64 (wd D 1), w64 (wd D 2), w64 (wd D 3), strL M, w64 (wd Q 0), w64 (wd Q 1), w64 (wd Q 2), w64 (wd Q 3), intA x]
section
variable {D Q : CS} {T : Bs} {l : Option UInt8} {s : Bs} {k : Nat} {c c' x : UInt8}
end
section
variable {X : CallF}
def apS (D : CS) (M : Bs) (Q : CS) (s : Bs) : Bs := if M.length = 256 then fdO D Q M none s else []
theorem apply_run_y (D : CS) (M : Bs) (Q : CS) (hM : M.length ≤ maxLen) (s : Bs) (hs : s.length ≤ 2000) (h : M.length = 256) : (R FT X).f 11 [encSp D M Q, strL s] = some (strL (fdO D Q M none s)) := by
 have hm := maxLen_i64
 have h1 := new_run (X := X) D M Q hM h
 have h2 := feed_run (X := X) D M Q h none s hs
 refine R_wp (Tr.cm (AV.ptr 2 0) [MObj.box 27 [AV.val (Value.int IntKind.u64 (↑(wd D (0 : Nat)).toNat : Int)), AV.val (Value.int IntKind.u64 (↑(wd D (1 : Nat)).toNat : Int)), AV.val (Value.int IntKind.u64 (↑(wd D (2 : Nat)).toNat : Int)), AV.val (Value.int IntKind.u64 (↑(wd D (3 : Nat)).toNat : Int)), strL M, AV.val (Value.int IntKind.u64 (↑(wd Q (0 : Nat)).toNat : Int)), AV.val (Value.int IntKind.u64 (↑(wd Q (1 : Nat)).toNat : Int)), AV.val (Value.int IntKind.u64 (↑(wd Q (2 : Nat)).toNat : Int)), AV.val (Value.int IntKind.u64 (↑(wd Q (3 : Nat)).toNat : Int))], MObj.box 27 [AV.val (Value.int IntKind.u64 (↑(wd D (0 : Nat)).toNat : Int)), AV.val (Value.int IntKind.u64 (↑(wd D (1 : Nat)).toNat : Int)), AV.val (Value.int IntKind.u64 (↑(wd D (2 : Nat)).toNat : Int)), AV.val (Value.int IntKind.u64 (↑(wd D (3 : Nat)).toNat : Int)), strL M, AV.val (Value.int IntKind.u64 (↑(wd Q (0 : Nat)).toNat : Int)), AV.val (Value.int IntKind.u64 (↑(wd Q (1 : Nat)).toNat : Int)), AV.val (Value.int IntKind.u64 (↑(wd Q (2 : Nat)).toNat : Int)), AV.val (Value.int IntKind.u64 (↑(wd Q (3 : Nat)).toNat : Int))], MObj.box 38 (List.map u8A M ++ [w64 (wd D (0 : Nat)), w64 (wd D (1 : Nat)),
 w64 (wd D (2 : Nat)), w64 (wd D (3 : Nat)), strL M, w64 (wd Q (0 : Nat)), w64 (wd Q (1 : Nat)), w64 (wd Q (2 : Nat)), w64 (wd Q (3 : Nat)), boolA true, boolA false, u8A (0 : UInt8)])] (Tr.cm (strL (fdO D Q M none s)) [MObj.box 27 [AV.val (Value.int IntKind.u64 (↑(wd D (0 : Nat)).toNat : Int)), AV.val (Value.int IntKind.u64 (↑(wd D (1 : Nat)).toNat : Int)), AV.val (Value.int IntKind.u64 (↑(wd D (2 : Nat)).toNat : Int)), AV.val (Value.int IntKind.u64 (↑(wd D (3 : Nat)).toNat : Int)), strL M, AV.val (Value.int IntKind.u64 (↑(wd Q (0 : Nat)).toNat : Int)), AV.val (Value.int IntKind.u64 (↑(wd Q (1 : Nat)).toNat : Int)), AV.val (Value.int IntKind.u64 (↑(wd Q (2 : Nat)).toNat : Int)), AV.val (Value.int IntKind.u64 (↑(wd Q (3 : Nat)).toNat : Int))], MObj.box 27 [AV.val (Value.int IntKind.u64 (↑(wd D (0 : Nat)).toNat : Int)), AV.val (Value.int IntKind.u64 (↑(wd D (1 : Nat)).toNat : Int)), AV.val (Value.int IntKind.u64 (↑(wd D (2 : Nat)).toNat : Int)), AV.val (Value.int IntKind.u64 (↑(wd D (3 : Nat)).toNat : Int)), strL M, AV.val (Value.int IntKind.u64 (↑(wd Q (0 : Nat)).toNat : Int)), AV.val (Value.int IntKind.u64 (↑(wd Q (1 : Nat)).toNat : Int)), AV.val (Value.int IntKind.u64
 (↑(wd Q (2 : Nat)).toNat : Int)), AV.val (Value.int IntKind.u64 (↑(wd Q (3 : Nat)).toNat : Int))], MObj.box 38 (List.map u8A M ++ [w64 (wd D (0 : Nat)), w64 (wd D (1 : Nat)), w64 (wd D (2 : Nat)), w64 (wd D (3 : Nat)), strL M, w64 (wd Q (0 : Nat)), w64 (wd Q (1 : Nat)), w64 (wd Q (2 : Nat)), w64 (wd Q (3 : Nat)), boolA true, boolA (lastA (fdL D Q M none s)), u8A (lastC (fdL D Q M none s))]), MObj.row 1 1 (List.map u8A (fdO D Q M none s)) true (7 : Nat)] Tr.nil)) rfl ?_
 refine Eq.mpr (by kernel_rfl : _ = ((R FT X).m 7 [encSp D M Q] [boxSp D M Q] = some (AV.ptr 2 0, [boxSp D M Q, boxSp D M Q, boxT D M Q false (0 : UInt8)]) ∧ (R FT X).m 10 [AV.ptr 2 0, strL s] [boxSp D M Q, boxSp D M Q, boxT D M Q (lastA none) (lastC none)] = some (strL (fdO D Q M none s), [boxSp D M Q, boxSp D M Q, boxT D M Q (lastA (fdL D Q M none s)) (lastC (fdL D Q M none s)), MObj.row 1 1 (List.map u8A (fdO D Q M none s)) true (7 : Nat)]) ∧ fdO D Q M none s = fdO D Q M none s)) ?_
 refine ⟨(h1), (h2), rfl⟩
theorem apply_run_n (D : CS) (M : Bs) (Q : CS) (hM : M.length ≤ maxLen) (s : Bs) (hs : s.length ≤ 2000) (h : ¬ M.length = 256) : (R FT X).f 11 [encSp D M Q, strL s] = some (strL []) := by
 have hm := maxLen_i64
 have hc := check_run (X := X) D M Q hM
 have hc0 : chk M = 2 := if_neg h
 rw [hc0] at hc
 refine R_wp ((Tr.c (intA 2) (Tr.b true (Tr.b true (Tr.b true Tr.nil).w).w.inl).w).w.inl) rfl ?_
 refine Eq.mpr (by kernel_rfl : _ = ((R FT X).f 9 [encSp D M Q] = some (intA 2) ∧ true = true ∧ true = true ∧ true = true ∧ @List.nil UInt8 = [])) ?_
 refine ⟨hc, rfl, rfl, rfl, rfl⟩
theorem apply_run (D : CS) (M : Bs) (Q : CS) (hM : M.length ≤ maxLen) (s : Bs) (hs : s.length ≤ 2000) : (R FT X).f 11 [encSp D M Q, strL s] = some (strL (apS D M Q s)) := by
 by_cases h : M.length = 256
 ·rw [apS, if_pos h]; exact apply_run_y D M Q hM s hs h
 ·rw [apS, if_neg h]; exact apply_run_n D M Q hM s hs h
end
end Go.Proofs.YtienfdjfochlcaaDoor
end
section
namespace Go.Proofs.YtienfdjfochlcaaDoor
set_option linter.unusedVariables false
set_option linter.unusedSimpArgs false
def tbl : Bs := (List.range 256).map UInt8.ofNat
section
variable {Q : CS} {s : Bs} {k : Nat} {c d : UInt8}
end
end Go.Proofs.YtienfdjfochlcaaDoor
end
section
namespace Go.Proofs.YtienfdjfochlcaaDoor
set_option linter.unusedVariables false
set_option linter.unusedSimpArgs false
set_option maxRecDepth 100000
set_option maxHeartbeats 4000000
theorem fd_free (D : CS) (T : Bs) : ∀ (l l' : Option UInt8) (s : Bs), fdO D 0 T l s = fdO D 0 T l' s
 | l, l', [] => rfl
 | l, l', c :: r => by
  have hz : ∀ x : UInt8, (0 : CS).getLsbD x.toNat = false := fun x => by simp
  have h1 := fd_free D T l l' r
  simp only [fdO] at h1 ⊢
  simp only [fdS, hz, Bool.false_eq_true, and_false, if_false]
  split
  ·exact h1
  ·rfl
theorem apS_app (D : CS) (M s t : Bs) : apS D M 0 (s ++ t) = apS D M 0 s ++ apS D M 0 t := by
 unfold apS
 split
 ·rw [fdO_app, fd_free D M (fdL D 0 M none s) none t]
 ·rfl
theorem apS_len (D : CS) (M : Bs) (Q : CS) (s : Bs) : (apS D M Q s).length ≤ s.length := by
 unfold apS
 split
 ·exact fdO_len _ _ _ _ _
 ·exact Nat.zero_le _
section
variable {X : CallF}
theorem feed0_run (s : Bs) : (R FT X).f 10 [.rptr (List.replicate 256 (AV.val (.int .u8 0)) ++ [w64 0, w64 0, w64 0, w64 0, strL [], w64 0, w64 0, w64 0, w64 0, boolA false, boolA false, u8A 0]), strL s] = some (strL []) := by
 have hm := maxLen_i64
 refine R_wp ((Tr.b false (Tr.b true Tr.nil).w.w).w) rfl ?_
 refine Eq.mpr (by kernel_rfl : _ = (false = false ∧ true = true ∧ @List.nil UInt8 = [])) ?_
 refine ⟨rfl, rfl, rfl⟩
theorem other_y (haw : (R FT X).f 6 [] = some (boolA true)) (D : CS) (M : Bs) (Q : CS) (s t : Bs) (hM : M.length ≤ 600) (hs : s.length ≤ 600) (ht : t.length ≤ 600) : (R FT X).f 4 [encSp D M Q, strL s, strL t] = some (boolA true) := by
 have hm := maxLen_i64
 have f0 := feed0_run (X := X) s
 have hM2 : M.length ≤ maxLen := by unfold maxLen; omega
 have a1 := apply_run (X := X) D M 0 hM2 (s ++ t) (by rw [List.length_append]; omega)
 have a2 := apply_run (X := X) D M 0 hM2 s (by omega)
 have a3 := apply_run (X := X) D M 0 hM2 t (by omega)
 have l1 := apS_len D M 0 s
 have l2 := apS_len D M 0 t
 refine R_wp ((Tr.b false (Tr.b false (Tr.b false (Tr.g (List.replicate (256 : Nat) (u8A (0 : UInt8)) ++ [AV.val (Value.int IntKind.u64 (0 : Int)), AV.val (Value.int IntKind.u64 (0 : Int)), AV.val (Value.int IntKind.u64 (0 : Int)), AV.val (Value.int IntKind.u64 (0 : Int)), AV.val (Value.string (ByteArray.mk #[])), AV.val (Value.int IntKind.u64 (0 : Int)), AV.val (Value.int IntKind.u64 (0 : Int)), AV.val (Value.int IntKind.u64 (0 : Int)), AV.val (Value.int IntKind.u64 (0 : Int)), boolA false, boolA false, AV.val (Value.int IntKind.u8 (0 : Int))]) (Tr.c (strL []) (Tr.b true (Tr.c (strL (apS D M (0 : CS) (s ++ t))) (Tr.c (strL (apS D M (0 : CS) s)) (Tr.c (strL (apS D M (0 : CS) t)) ((Tr.c (boolA true) Tr.nil).br Tr.nil).w))).w)).w).w).w)).w) rfl ?_
 refine Eq.mpr (by kernel_rfl : _ = (decide ((600 : Int) < (↑(List.length M) : Int)) = false ∧ decide ((600 : Int) < (↑(List.length s) : Int)) = false ∧ decide ((600 : Int) < (↑(List.length t) : Int)) = false ∧ FillEq [] (List.replicate (256 : Nat) (AV.val (Value.int IntKind.u8 (0 : Int))) ++ [AV.val (Value.int IntKind.u64 (0 : Int)), AV.val (Value.int IntKind.u64 (0 : Int)), AV.val (Value.int IntKind.u64 (0 : Int)), AV.val (Value.int IntKind.u64 (0 : Int)), AV.val (Value.string (ByteArray.mk #[])), AV.val (Value.int IntKind.u64 (0 : Int)), AV.val (Value.int IntKind.u64 (0 : Int)), AV.val (Value.int IntKind.u64 (0 : Int)), AV.val (Value.int IntKind.u64 (0 : Int)), boolA false, boolA false, AV.val (Value.int IntKind.u8 (0 : Int))]) [] (List.replicate (256 : Nat) (u8A (0 : UInt8)) ++ [AV.val (Value.int IntKind.u64 (0 : Int)), AV.val (Value.int IntKind.u64 (0 : Int)), AV.val (Value.int IntKind.u64 (0 : Int)), AV.val (Value.int IntKind.u64 (0 : Int)), AV.val (Value.string (ByteArray.mk #[])), AV.val (Value.int IntKind.u64 (0 : Int)), AV.val (Value.int IntKind.u64 (0 : Int)), AV.val (Value.int IntKind.u64 (0 : Int)), AV.val (Value.int IntKind.u64 (0 : Int)), boolA false, boolA false, AV.val (Value.int IntKind.u8 (0 : Int))])
 ∧ ((268 : Nat) = 268 ∧ true = true) ∧ (R FT X).f 10 [AV.rptr (List.replicate (256 : Nat) (AV.val (Value.int IntKind.u8 (0 : Int))) ++ [w64 (0 : BitVec (64 : Nat)), w64 (0 : BitVec (64 : Nat)), w64 (0 : BitVec (64 : Nat)), w64 (0 : BitVec (64 : Nat)), strL [], w64 (0 : BitVec (64 : Nat)), w64 (0 : BitVec (64 : Nat)), w64 (0 : BitVec (64 : Nat)), w64 (0 : BitVec (64 : Nat)), boolA false, boolA false, u8A (0 : UInt8)]), strL s] = some (strL []) ∧ true = true ∧ List.length s + List.length t ≤ 9223372036854775807 ∧ (R FT X).f 11 [encSp D M (0 : CS), strL (s ++ t)] = some (strL (apS D M (0 : CS) (s ++ t))) ∧ (R FT X).f 11 [encSp D M (0 : CS), strL s] = some (strL (apS D M (0 : CS) s)) ∧ (R FT X).f 11 [encSp D M (0 : CS), strL t] = some (strL (apS D M (0 : CS) t)) ∧ List.length (apS D M (0 : CS) s) + List.length (apS D M (0 : CS) t) ≤ 9223372036854775807 ∧ (decide (apS D M (0 : CS) (s ++ t) = apS D M (0 : CS) s ++ apS D M (0 : CS) t) = true → (R FT X).f 6 [] = some (boolA true) ∧ true = true) ∧ (decide (apS D M (0 : CS) (s ++ t) = apS D M (0 : CS) s ++ apS D M (0 : CS) t) = false → false = true))) ?_
 refine ⟨(fD (by omega)), (fD (by omega)), (fD (by omega)), ⟨by kernel_rfl⟩, ⟨rfl, rfl⟩, (f0), rfl, (by omega), (a1), (a2), (a3), (by omega), fun h1_ => have h1 := dT h1_; ⟨haw, rfl⟩, fun h2_ => have h2 := dF h2_; ?_⟩
 exact absurd (apS_app D M s t) h2
theorem other_o (haw : (R FT X).f 6 [] = some (boolA true)) (D : CS) (M : Bs) (Q : CS) (s t : Bs) (h : ¬ (M.length ≤ 600 ∧ s.length ≤ 600 ∧ t.length ≤ 600)) : (R FT X).f 4 [encSp D M Q, strL s, strL t] = some (boolA true) := by
 have hm := maxLen_i64
 refine R_wp (((Tr.b true (Tr.b true (Tr.c (boolA true) Tr.nil)).w).br ((Tr.b true (Tr.c (boolA true) Tr.nil)).w.br (Tr.b true (Tr.c (boolA true) Tr.nil)).w)).w) rfl ?_
 refine Eq.mpr (by kernel_rfl : _ = ((decide ((600 : Int) < (↑(List.length M) : Int)) = true → true = true ∧ true = true ∧ (R FT X).f 6 [] = some (boolA true) ∧ true = true) ∧ (decide ((600 : Int) < (↑(List.length M) : Int)) = false → (decide ((600 : Int) < (↑(List.length s) : Int)) = true → true = true ∧ (R FT X).f 6 [] = some (boolA true) ∧ true = true) ∧ (decide ((600 : Int) < (↑(List.length s) : Int)) = false → decide ((600 : Int) < (↑(List.length t) : Int)) = true ∧ (R FT X).f 6 [] = some (boolA true) ∧ true = true)))) ?_
 refine ⟨fun h1_ => have h1 := dT h1_; ⟨rfl, rfl, haw, rfl⟩, fun h2_ => have h2 := dF h2_; ⟨fun h3_ => have h3 := dT h3_; ⟨rfl, haw, rfl⟩, fun h4_ => have h4 := dF h4_; ⟨(tD (by omega)), haw, rfl⟩⟩⟩
end
end Go.Proofs.YtienfdjfochlcaaDoor
end
section
namespace Go.Proofs.YtienfdjfochlcaaDoor
section
variable {F F' : FuncId → Option AFunc} {X X' : CallF}
theorem Lp_via {c0 : CallF} (h : CLe c0 (R F X)) (b : Nat) : ∀ n, LLe (loopK c0 b n) (Lp F X b) := by
 intro n
 induction n with
 | zero => intro c ks st r hs; simp [loopK] at hs
 | succ n ih =>
  intro c ks st r hs
  simp only [loopK] at hs
  split at hs
  ·rename_i st' hst
   exact Lp_step (aexec_mono h ih hst) (ih _ _ _ _ hs)
  ·rename_i r' hr
   rcases hq : aexec c0 b (loopK c0 b n) c (normSt b ks st) with _ | ⟨ex, st1⟩
   ·rw [hq] at hs; cases hs
   ·rw [hq] at hs
    cases hs
    cases ex with
    | normal => exact absurd hq (hr _)
    | exit i => exact Lp_exit (aexec_mono h ih hq)
    | ret => exact Lp_ret (aexec_mono h ih hq)
theorem run_via (h1 : ∀ f fn, F' f = some fn → F f = some fn)
    (h2 : ∀ f vs r, F' f = none → X'.f f vs = some r → (R F X).f f vs = some r)
    (h3 : ∀ f vs m r, F' f = none → X'.m f vs m = some r → (R F X).m f vs m = some r) : ∀ n, CLe (runF F' X' n) (R F X) := by
  intro n
  induction n with
  | zero => exact ⟨fun f vs r h => by simp [runF] at h, fun f vs m r h => by simp [runF] at h⟩
  | succ n ih =>
    refine ⟨fun f vs r h => ?_, fun f vs m r h => ?_⟩
    · simp only [runF] at h
      split at h
      · rename_i fn hfn
        exact R_body (h1 _ _ hfn) (runBody_mono ih (Lp_via ih 0 n) h)
      · rename_i hn
        exact h2 _ _ _ hn h
    · simp only [runF] at h
      split at h
      · rename_i fn hfn
        exact RM_body (h1 _ _ hfn) (runBodyM_mono ih (Lp_via ih _ n) h)
      · rename_i hn
        exact h3 _ _ _ _ hn h
def lessF (F : FuncId → Option AFunc) (l : List FuncId) (f : FuncId) : Option AFunc := if l.contains f then none else F f
def moreX (X : CallF) (t : FuncId → List AV → Option AV) (l : List FuncId) : CallF := ⟨fun f vs => if l.contains f then t f vs else X.f f vs, fun f vs m => if l.contains f then none else X.m f vs m⟩
theorem R_via {l : List FuncId} {t : FuncId → List AV → Option AV} (ht : ∀ f vs r, f ∈ l → t f vs = some r → (R F X).f f vs = some r) {n : Nat} {f : FuncId} {vs : List AV} {r : AV}
    (h : (runF (lessF F l) (moreX X t l) n).f f vs = some r) : (R F X).f f vs = some r := by
  refine (run_via (F := F) (X := X) (F' := lessF F l) (X' := moreX X t l) (fun f fn h => ?_) (fun f vs r h h' => ?_) (fun f vs m r h h' => ?_) n).1 f vs r h
  · unfold lessF at h
    split at h
    · cases h
    · exact h
  · unfold lessF at h
    simp only [moreX] at h'
    split at h'
    · rename_i hc
      exact ht _ _ _ (List.contains_iff_mem.1 hc) h'
    · rename_i hc
      rw [if_neg hc] at h
      exact R_ext h h'
  · unfold lessF at h
    simp only [moreX] at h'
    split at h'
    · cases h'
    · rename_i hc
      rw [if_neg hc] at h
      exact RM_ext h h'
end
end Go.Proofs.YtienfdjfochlcaaDoor
end
section
namespace Go.Proofs.YtienfdjfochlcaaDoor
set_option linter.unusedVariables false
set_option linter.unusedSimpArgs false
set_option maxRecDepth 100000
set_option maxHeartbeats 4000000
def lowB (i : Nat) : UInt8 := if 65 ≤ i ∧ i ≤ 90 then UInt8.ofNat (i + 32) else UInt8.ofNat i
def uppB (i : Nat) : UInt8 := if 97 ≤ i ∧ i ≤ 122 then UInt8.ofNat (i - 32) else UInt8.ofNat i
def natI (i : Nat) : Int := i
def defV : AV := .agg [strL [112, 111, 115, 105, 120], .slice 1 (((List.range 256).map natI).map intA), strL ((List.range 256).map lowB), strL ((List.range 256).map uppB), .slice 5 [], .slice 2 []]
theorem map_succ {α : Type} (f : Nat → α) (k : Nat) : (List.range (k + 1)).map f = (List.range k).map f ++ [f k] := by rw [List.range_succ, List.map_append]; rfl
theorem st_int (k : Nat) : List.map intA (List.map natI (List.range k)) ++ [AV.val (Value.int IntKind.i64 (k : Int))] = List.map intA (List.map natI (List.range (k + 1))) := by
 rw [map_succ, List.map_append]; rfl
theorem st_u8 (f : Nat → UInt8) (k : Nat) (v : UInt8) (h : v = f k) : List.map u8A (List.map f (List.range k)) ++ [AV.val (Value.int IntKind.u8 (v.toNat : Int))] = List.map u8A (List.map f (List.range (k + 1))) := by
 subst h; rw [map_succ, List.map_append]; rfl
theorem lowB_y {k : Nat} (h : 65 ≤ (k : Int)) (h2 : (k : Int) ≤ 90) : toU8 ((k : Int) + 32) = lowB k := by
 rw [lowB, if_pos (by omega), ← toU8_nat]; rfl
theorem lowB_n {k : Nat} (h : ¬ (65 ≤ (k : Int) ∧ (k : Int) ≤ 90)) : toU8 (k : Int) = lowB k := by
 rw [lowB, if_neg (by omega), ← toU8_nat]
theorem uppB_y {k : Nat} (h : 97 ≤ (k : Int)) (h2 : (k : Int) ≤ 122) : toU8 ((k : Int) - 32) = uppB k := by
 rw [uppB, if_pos (by omega), ← toU8_nat, Int.ofNat_sub (by omega)]; rfl
theorem uppB_n {k : Nat} (h : ¬ (97 ≤ (k : Int) ∧ (k : Int) ≤ 122)) : toU8 (k : Int) = uppB k := by
 rw [uppB, if_neg (by omega), ← toU8_nat]
section
variable {X : CallF}
theorem def2_run' (W : List AV) (A B : List UInt8) (hW : W = ((List.range 256).map natI).map intA) (hA : A = (List.range 256).map lowB) (hB : B = (List.range 256).map uppB) : (R FT X).f 13 [] = some (.agg [strL [112, 111, 115, 105, 120], .slice 1 W, strL A, strL B, .slice 5 [], .slice 2 []]) := by
  have hm := maxLen_le
  refine R_wp ((Tr.inv (fun (k : Nat) ↦ St.mk [(0, AV.ptr 3 0), (1, AV.ptr 7 0), (2, AV.row 11 0 k (0 : Nat) k), (3, AV.row 12 0 k (0 : Nat) k), (4, intA (↑k : Int))] [MObj.row 0 1 [] true (1 : Nat), MObj.row 0 5 [] true (1 : Nat), MObj.row 0 2 [] true (1 : Nat), MObj.box 43 [strL [], AV.row 0 0 (0 : Nat) (0 : Nat) (0 : Nat), strL [], strL [], AV.row 1 0 (0 : Nat) (0 : Nat) (0 : Nat), AV.row 2 0 (0 : Nat) (0 : Nat) (0 : Nat)], MObj.row 0 1 [] true (1 : Nat), MObj.row 0 5 [] true (1 : Nat), MObj.row 0 2 [] true (1 : Nat), MObj.box 43 [strL [(112 : UInt8), (111 : UInt8), (115 : UInt8), (105 : UInt8), (120 : UInt8)], AV.row 8 0 k (0 : Nat) k, strL [], strL [], AV.row 9 0 (0 : Nat) (0 : Nat) (0 : Nat), AV.row 10 0 (0 : Nat) (0 : Nat) (0 : Nat)], MObj.row 0 1 (List.map intA (List.map natI (List.range k))) true (1 : Nat), MObj.row 0 5 [] true (1 : Nat), MObj.row
  (0 : Nat) (2 : Nat) [] true (1 : Nat), MObj.row 0 1 (List.map u8A (List.map lowB (List.range k))) true (1 : Nat), MObj.row 0 1 (List.map u8A (List.map uppB (List.range k))) true (1 : Nat)]) (fun (k : Nat) ↦ k ≤ 256) (fun (k : Nat) ↦ (256 : Nat) - k) fun (k : Nat) ↦ ((((Tr.b false (Tr.b false (Tr.k (k + 1) (Tr.k (k + 1) (Tr.k (k + 1) Tr.nil.w)))).w).w.w.br (((Tr.k (k + 1) (Tr.k (k + 1) (Tr.k (k + 1) Tr.nil.w))).w.br (Tr.k (k + 1) (Tr.k (k + 1) (Tr.k (k + 1) Tr.nil.w)))).w.br (Tr.b false (Tr.k (k + 1) (Tr.k (k + 1) (Tr.k (k + 1) Tr.nil.w)))).w).w).w.br (Tr.b false (Tr.b false (Tr.b false (Tr.k (k + 1) (Tr.k (k + 1) (Tr.k (k + 1) Tr.nil.w)))).w).w).w).w.w.br (Tr.bs (List.map lowB (List.range k)) (Tr.bs (List.map uppB (List.range k)) (Tr.g (List.map intA (List.map natI (List.range k))) (Tr.g [] (Tr.g [] Tr.nil)))))).w).w) rfl ?_
  refine Eq.mpr (by kernel_rfl : _ = ((∃ (j1 : Nat), ((True ∧ True ∧ ((0 : Nat) = j1 ∧ (0 : Nat) = 0 ∧ (0 : Nat) = j1) ∧ ((0 : Nat) = j1 ∧ (0 : Nat) = 0 ∧ (0 : Nat) = j1) ∧ (0 : Int) = (↑j1 : Int) ∧ True) ∧ @List.nil AV = [] ∧ @List.nil AV = [] ∧ @List.nil AV = [] ∧ (@List.nil UInt8 = [] ∧ ((0 : Nat) = 0 ∧ (0 : Nat) = 0 ∧ (0 : Nat) = 0) ∧ @List.nil UInt8 = [] ∧ @List.nil UInt8 = [] ∧ ((0 : Nat) = 0 ∧ (0 : Nat) = 0 ∧ (0 : Nat) = 0) ∧ (0 : Nat) = 0 ∧ (0 : Nat) = 0 ∧ (0 : Nat) = 0) ∧ @List.nil AV = [] ∧ @List.nil AV = [] ∧ @List.nil AV = [] ∧ ([(112 : UInt8), (111 : UInt8), (115 : UInt8), (105 : UInt8), (120 : UInt8)] = [(112 : UInt8), (111 : UInt8), (115 : UInt8), (105 : UInt8), (120 : UInt8)] ∧ ((0 : Nat) = j1 ∧ (0 : Nat) = 0 ∧ (0 : Nat) = j1) ∧ @List.nil UInt8 = [] ∧ @List.nil UInt8 = [] ∧ ((0 : Nat) = 0 ∧ (0 : Nat) = 0 ∧ (0 : Nat) = 0) ∧ (0 : Nat) = 0 ∧ (0 : Nat) = 0 ∧ (0 : Nat) = 0) ∧ [] = List.map intA (List.map natI (List.range j1)) ∧ @List.nil AV = [] ∧ @List.nil AV = [] ∧ [] = List.map u8A (List.map lowB (List.range j1)) ∧ [] = List.map u8A (List.map uppB (List.range j1)))
  ∧ j1 ≤ 256) ∧ ∀ (k : Nat), k ≤ 256 → (decide ((↑k : Int) < 256) = true → (decide ((65 : Int) ≤ (↑k : Int)) = true → (decide ((↑k : Int) ≤ 90) = true → InI64 ((↑k : Int) + 32) ∧ decide ((97 : Int) ≤ (↑k : Int)) = false ∧ false = false ∧ (List.map intA (List.map natI (List.range k))).length = k ∧ (0 : Nat) = 0 ∧ k = k ∧ k + [AV.val (Value.int IntKind.i64 (↑k : Int))].length = k + 1 ∧ (k + 1) * 8 ≤ (140737488355328 : Nat) ∧ k + 1 ≤ (9223372036854775807 : Nat) ∧ (List.map u8A (List.map lowB (List.range k))).length = k ∧ (0 : Nat) = 0 ∧ k = k ∧ k + [u8A (toU8 ((↑k : Int) + 32))].length = k + 1 ∧ (k + 1) * 1 ≤ (140737488355328 : Nat) ∧ k + 1 ≤ (9223372036854775807 : Nat) ∧ (List.map u8A (List.map uppB (List.range k))).length = k ∧ (0 : Nat) = 0 ∧ k = k ∧ k + [u8A (toU8 (↑k : Int))].length = k + 1 ∧ (k + 1) * 1 ≤ (140737488355328 : Nat) ∧ k + 1 ≤ (9223372036854775807 : Nat) ∧ InI64 ((↑k : Int) + 1) ∧ ∃ (j6 : Nat), ((True ∧ True ∧ (k + 1 = j6 ∧ (0 : Nat) = 0 ∧ k + 1 = j6) ∧ (k + 1 = j6
  ∧ (0 : Nat) = 0 ∧ k + 1 = j6) ∧ (↑k : Int) + 1 = (↑j6 : Int) ∧ True) ∧ @List.nil AV = [] ∧ @List.nil AV = [] ∧ @List.nil AV = [] ∧ (@List.nil UInt8 = [] ∧ ((0 : Nat) = 0 ∧ (0 : Nat) = 0 ∧ (0 : Nat) = 0) ∧ @List.nil UInt8 = [] ∧ @List.nil UInt8 = [] ∧ ((0 : Nat) = 0 ∧ (0 : Nat) = 0 ∧ (0 : Nat) = 0) ∧ (0 : Nat) = 0 ∧ (0 : Nat) = 0 ∧ (0 : Nat) = 0) ∧ @List.nil AV = [] ∧ @List.nil AV = [] ∧ @List.nil AV = [] ∧ ([(112 : UInt8), (111 : UInt8), (115 : UInt8), (105 : UInt8), (120 : UInt8)] = [(112 : UInt8), (111 : UInt8), (115 : UInt8), (105 : UInt8), (120 : UInt8)] ∧ (k + 1 = j6 ∧ (0 : Nat) = 0 ∧ k + 1 = j6) ∧ @List.nil UInt8 = [] ∧ @List.nil UInt8 = [] ∧ ((0 : Nat) = 0 ∧ (0 : Nat) = 0 ∧ (0 : Nat) = 0) ∧ (0 : Nat) = 0 ∧ (0 : Nat) = 0 ∧ (0 : Nat) = 0) ∧ List.map intA (List.map natI (List.range k)) ++ [AV.val (Value.int IntKind.i64 (↑k : Int))] = List.map intA (List.map natI (List.range j6)) ∧ @List.nil AV = [] ∧ @List.nil AV = [] ∧ List.map u8A (List.map lowB (List.range k)) ++ [u8A (toU8 ((↑k : Int) + 32))] = List.map
  u8A (List.map lowB (List.range j6)) ∧ List.map u8A (List.map uppB (List.range k)) ++ [u8A (toU8 (↑k : Int))] = List.map u8A (List.map uppB (List.range j6))) ∧ j6 ≤ 256 ∧ (256 : Nat) - j6 < 256 - k) ∧ (decide ((↑k : Int) ≤ 90) = false → (decide ((97 : Int) ≤ (↑k : Int)) = true → (decide ((↑k : Int) ≤ 122) = true → InI64 ((↑k : Int) - 32) ∧ (List.map intA (List.map natI (List.range k))).length = k ∧ (0 : Nat) = 0 ∧ k = k ∧ k + [AV.val (Value.int IntKind.i64 (↑k : Int))].length = k + 1 ∧ (k + 1) * 8 ≤ (140737488355328 : Nat) ∧ k + 1 ≤ (9223372036854775807 : Nat) ∧ (List.map u8A (List.map lowB (List.range k))).length = k ∧ (0 : Nat) = 0 ∧ k = k ∧ k + [u8A (toU8 (↑k : Int))].length = k + 1 ∧ (k + 1) * 1 ≤ (140737488355328 : Nat) ∧ k + 1 ≤ (9223372036854775807 : Nat) ∧ (List.map u8A (List.map uppB (List.range k))).length = k ∧ (0 : Nat) = 0 ∧ k = k ∧ k + [u8A (toU8 ((↑k : Int) - 32))].length = k + 1 ∧ (k + 1) * 1 ≤ (140737488355328 : Nat) ∧ k + 1 ≤ (9223372036854775807 : Nat) ∧ InI64 ((↑k : Int) + 1) ∧ ∃ (j10 : Nat),
  ((True ∧ True ∧ (k + 1 = j10 ∧ (0 : Nat) = 0 ∧ k + 1 = j10) ∧ (k + 1 = j10 ∧ (0 : Nat) = 0 ∧ k + 1 = j10) ∧ (↑k : Int) + 1 = (↑j10 : Int) ∧ True) ∧ @List.nil AV = [] ∧ @List.nil AV = [] ∧ @List.nil AV = [] ∧ (@List.nil UInt8 = [] ∧ ((0 : Nat) = 0 ∧ (0 : Nat) = 0 ∧ (0 : Nat) = 0) ∧ @List.nil UInt8 = [] ∧ @List.nil UInt8 = [] ∧ ((0 : Nat) = 0 ∧ (0 : Nat) = 0 ∧ (0 : Nat) = 0) ∧ (0 : Nat) = 0 ∧ (0 : Nat) = 0 ∧ (0 : Nat) = 0) ∧ @List.nil AV = [] ∧ @List.nil AV = [] ∧ @List.nil AV = [] ∧ ([(112 : UInt8), (111 : UInt8), (115 : UInt8), (105 : UInt8), (120 : UInt8)] = [(112 : UInt8), (111 : UInt8), (115 : UInt8), (105 : UInt8), (120 : UInt8)] ∧ (k + 1 = j10 ∧ (0 : Nat) = 0 ∧ k + 1 = j10) ∧ @List.nil UInt8 = [] ∧ @List.nil UInt8 = [] ∧ ((0 : Nat) = 0 ∧ (0 : Nat) = 0 ∧ (0 : Nat) = 0) ∧ (0 : Nat) = 0 ∧ (0 : Nat) = 0 ∧ (0 : Nat) = 0) ∧ List.map intA (List.map natI (List.range k)) ++ [AV.val (Value.int IntKind.i64 (↑k : Int))] = List.map intA (List.map natI (List.range j10)) ∧ @List.nil AV = [] ∧ @List.nil
  AV = [] ∧ List.map u8A (List.map lowB (List.range k)) ++ [u8A (toU8 (↑k : Int))] = List.map u8A (List.map lowB (List.range j10)) ∧ List.map u8A (List.map uppB (List.range k)) ++ [u8A (toU8 ((↑k : Int) - 32))] = List.map u8A (List.map uppB (List.range j10))) ∧ j10 ≤ 256 ∧ (256 : Nat) - j10 < 256 - k) ∧ (decide ((↑k : Int) ≤ 122) = false → (List.map intA (List.map natI (List.range k))).length = k ∧ (0 : Nat) = 0 ∧ k = k ∧ k + [AV.val (Value.int IntKind.i64 (↑k : Int))].length = k + 1 ∧ (k + 1) * 8 ≤ (140737488355328 : Nat) ∧ k + 1 ≤ (9223372036854775807 : Nat) ∧ (List.map u8A (List.map lowB (List.range k))).length = k ∧ (0 : Nat) = 0 ∧ k = k ∧ k + [u8A (toU8 (↑k : Int))].length = k + 1 ∧ (k + 1) * 1 ≤ (140737488355328 : Nat) ∧ k + 1 ≤ (9223372036854775807 : Nat) ∧ (List.map u8A (List.map uppB (List.range k))).length = k ∧ (0 : Nat) = 0 ∧ k = k ∧ k + [u8A (toU8 (↑k : Int))].length = k + 1 ∧ (k + 1) * 1 ≤ (140737488355328 : Nat) ∧ k + 1 ≤ (9223372036854775807 : Nat) ∧ InI64 ((↑k : Int) + 1) ∧ ∃ (j12 : Nat), ((True ∧ True ∧ (k + (1
  : Nat) = j12 ∧ (0 : Nat) = 0 ∧ k + 1 = j12) ∧ (k + 1 = j12 ∧ (0 : Nat) = 0 ∧ k + 1 = j12) ∧ (↑k : Int) + 1 = (↑j12 : Int) ∧ True) ∧ @List.nil AV = [] ∧ @List.nil AV = [] ∧ @List.nil AV = [] ∧ (@List.nil UInt8 = [] ∧ ((0 : Nat) = 0 ∧ (0 : Nat) = 0 ∧ (0 : Nat) = 0) ∧ @List.nil UInt8 = [] ∧ @List.nil UInt8 = [] ∧ ((0 : Nat) = 0 ∧ (0 : Nat) = 0 ∧ (0 : Nat) = 0) ∧ (0 : Nat) = 0 ∧ (0 : Nat) = 0 ∧ (0 : Nat) = 0) ∧ @List.nil AV = [] ∧ @List.nil AV = [] ∧ @List.nil AV = [] ∧ ([(112 : UInt8), (111 : UInt8), (115 : UInt8), (105 : UInt8), (120 : UInt8)] = [(112 : UInt8), (111 : UInt8), (115 : UInt8), (105 : UInt8), (120 : UInt8)] ∧ (k + 1 = j12 ∧ (0 : Nat) = 0 ∧ k + 1 = j12) ∧ @List.nil UInt8 = [] ∧ @List.nil UInt8 = [] ∧ ((0 : Nat) = 0 ∧ (0 : Nat) = 0 ∧ (0 : Nat) = 0) ∧ (0 : Nat) = 0 ∧ (0 : Nat) = 0 ∧ (0 : Nat) = 0) ∧ List.map intA (List.map natI (List.range k)) ++ [AV.val (Value.int IntKind.i64 (↑k : Int))] = List.map intA (List.map natI (List.range j12)) ∧ @List.nil AV = [] ∧ @List.nil AV = [] ∧ List.map
  u8A (List.map lowB (List.range k)) ++ [u8A (toU8 (↑k : Int))] = List.map u8A (List.map lowB (List.range j12)) ∧ List.map u8A (List.map uppB (List.range k)) ++ [u8A (toU8 (↑k : Int))] = List.map u8A (List.map uppB (List.range j12))) ∧ j12 ≤ 256 ∧ (256 : Nat) - j12 < 256 - k)) ∧ (decide ((97 : Int) ≤ (↑k : Int)) = false → false = false ∧ (List.map intA (List.map natI (List.range k))).length = k ∧ (0 : Nat) = 0 ∧ k = k ∧ k + [AV.val (Value.int IntKind.i64 (↑k : Int))].length = k + 1 ∧ (k + 1) * 8 ≤ (140737488355328 : Nat) ∧ k + 1 ≤ (9223372036854775807 : Nat) ∧ (List.map u8A (List.map lowB (List.range k))).length = k ∧ (0 : Nat) = 0 ∧ k = k ∧ k + [u8A (toU8 (↑k : Int))].length = k + 1 ∧ (k + 1) * 1 ≤ (140737488355328 : Nat) ∧ k + 1 ≤ (9223372036854775807 : Nat) ∧ (List.map u8A (List.map uppB (List.range k))).length = k ∧ (0 : Nat) = 0 ∧ k = k ∧ k + [u8A (toU8 (↑k : Int))].length = k + 1 ∧ (k + 1) * 1 ≤ (140737488355328 : Nat) ∧ k + 1 ≤ (9223372036854775807 : Nat) ∧ InI64 ((↑k : Int) + 1) ∧ ∃ (j14 : Nat), ((True ∧ True ∧ (k + 1 = j14 ∧ (0
  : Nat) = 0 ∧ k + 1 = j14) ∧ (k + 1 = j14 ∧ (0 : Nat) = 0 ∧ k + 1 = j14) ∧ (↑k : Int) + 1 = (↑j14 : Int) ∧ True) ∧ @List.nil AV = [] ∧ @List.nil AV = [] ∧ @List.nil AV = [] ∧ (@List.nil UInt8 = [] ∧ ((0 : Nat) = 0 ∧ (0 : Nat) = 0 ∧ (0 : Nat) = 0) ∧ @List.nil UInt8 = [] ∧ @List.nil UInt8 = [] ∧ ((0 : Nat) = 0 ∧ (0 : Nat) = 0 ∧ (0 : Nat) = 0) ∧ (0 : Nat) = 0 ∧ (0 : Nat) = 0 ∧ (0 : Nat) = 0) ∧ @List.nil AV = [] ∧ @List.nil AV = [] ∧ @List.nil AV = [] ∧ ([(112 : UInt8), (111 : UInt8), (115 : UInt8), (105 : UInt8), (120 : UInt8)] = [(112 : UInt8), (111 : UInt8), (115 : UInt8), (105 : UInt8), (120 : UInt8)] ∧ (k + 1 = j14 ∧ (0 : Nat) = 0 ∧ k + 1 = j14) ∧ @List.nil UInt8 = [] ∧ @List.nil UInt8 = [] ∧ ((0 : Nat) = 0 ∧ (0 : Nat) = 0 ∧ (0 : Nat) = 0) ∧ (0 : Nat) = 0 ∧ (0 : Nat) = 0 ∧ (0 : Nat) = 0) ∧ List.map intA (List.map natI (List.range k)) ++ [AV.val (Value.int IntKind.i64 (↑k : Int))] = List.map intA (List.map natI (List.range j14)) ∧ @List.nil AV = [] ∧ @List.nil AV = [] ∧ List.map u8A (List.map lowB
  (List.range k)) ++ [u8A (toU8 (↑k : Int))] = List.map u8A (List.map lowB (List.range j14)) ∧ List.map u8A (List.map uppB (List.range k)) ++ [u8A (toU8 (↑k : Int))] = List.map u8A (List.map uppB (List.range j14))) ∧ j14 ≤ 256 ∧ (256 : Nat) - j14 < 256 - k))) ∧ (decide ((65 : Int) ≤ (↑k : Int)) = false → false = false ∧ decide ((97 : Int) ≤ (↑k : Int)) = false ∧ false = false ∧ (List.map intA (List.map natI (List.range k))).length = k ∧ (0 : Nat) = 0 ∧ k = k ∧ k + [AV.val (Value.int IntKind.i64 (↑k : Int))].length = k + 1 ∧ (k + 1) * 8 ≤ (140737488355328 : Nat) ∧ k + 1 ≤ (9223372036854775807 : Nat) ∧ (List.map u8A (List.map lowB (List.range k))).length = k ∧ (0 : Nat) = 0 ∧ k = k ∧ k + [u8A (toU8 (↑k : Int))].length = k + 1 ∧ (k + 1) * 1 ≤ (140737488355328 : Nat) ∧ k + 1 ≤ (9223372036854775807 : Nat) ∧ (List.map u8A (List.map uppB (List.range k))).length = k ∧ (0 : Nat) = 0 ∧ k = k ∧ k + [u8A (toU8 (↑k : Int))].length = k + 1 ∧ (k + 1) * 1 ≤ (140737488355328 : Nat) ∧ k + 1 ≤ (9223372036854775807 : Nat) ∧ InI64 ((↑k : Int) + 1) ∧ ∃ (j16 : Nat),
  ((True ∧ True ∧ (k + 1 = j16 ∧ (0 : Nat) = 0 ∧ k + 1 = j16) ∧ (k + 1 = j16 ∧ (0 : Nat) = 0 ∧ k + 1 = j16) ∧ (↑k : Int) + 1 = (↑j16 : Int) ∧ True) ∧ @List.nil AV = [] ∧ @List.nil AV = [] ∧ @List.nil AV = [] ∧ (@List.nil UInt8 = [] ∧ ((0 : Nat) = 0 ∧ (0 : Nat) = 0 ∧ (0 : Nat) = 0) ∧ @List.nil UInt8 = [] ∧ @List.nil UInt8 = [] ∧ ((0 : Nat) = 0 ∧ (0 : Nat) = 0 ∧ (0 : Nat) = 0) ∧ (0 : Nat) = 0 ∧ (0 : Nat) = 0 ∧ (0 : Nat) = 0) ∧ @List.nil AV = [] ∧ @List.nil AV = [] ∧ @List.nil AV = [] ∧ ([(112 : UInt8), (111 : UInt8), (115 : UInt8), (105 : UInt8), (120 : UInt8)] = [(112 : UInt8), (111 : UInt8), (115 : UInt8), (105 : UInt8), (120 : UInt8)] ∧ (k + 1 = j16 ∧ (0 : Nat) = 0 ∧ k + 1 = j16) ∧ @List.nil UInt8 = [] ∧ @List.nil UInt8 = [] ∧ ((0 : Nat) = 0 ∧ (0 : Nat) = 0 ∧ (0 : Nat) = 0) ∧ (0 : Nat) = 0 ∧ (0 : Nat) = 0 ∧ (0 : Nat) = 0) ∧ List.map intA (List.map natI (List.range k)) ++ [AV.val (Value.int IntKind.i64 (↑k : Int))] = List.map intA (List.map natI (List.range j16)) ∧ @List.nil AV = [] ∧ @List.nil
  AV = [] ∧ List.map u8A (List.map lowB (List.range k)) ++ [u8A (toU8 (↑k : Int))] = List.map u8A (List.map lowB (List.range j16)) ∧ List.map u8A (List.map uppB (List.range k)) ++ [u8A (toU8 (↑k : Int))] = List.map u8A (List.map uppB (List.range j16))) ∧ j16 ≤ 256 ∧ (256 : Nat) - j16 < 256 - k)) ∧ (decide ((↑k : Int) < 256) = false → (List.map u8A (List.map lowB (List.range k))).length = k ∧ bytesL (List.take k (List.drop (0 : Nat) (List.map u8A (List.map lowB (List.range k))))) = some (List.map lowB (List.range k)) ∧ (List.map u8A (List.map uppB (List.range k))).length = k ∧ bytesL (List.take k (List.drop (0 : Nat) (List.map u8A (List.map uppB (List.range k))))) = some (List.map uppB (List.range k)) ∧ (List.map intA (List.map natI (List.range k))).length = k ∧ List.take k (List.drop (0 : Nat) (List.map intA (List.map natI (List.range k)))) = List.map intA (List.map natI (List.range k)) ∧ (0 : Nat) = 0 ∧ List.take (0 : Nat) (List.drop (0 : Nat) (@List.nil AV)) = [] ∧ (0 : Nat) = 0 ∧ List.take (0 : Nat) (List.drop (0 : Nat) (@List.nil AV)) = [] ∧ [(112 : UInt8), (111 : UInt8), (115 : UInt8), (105 : UInt8), (120 : UInt8)] = [(112 : UInt8), (111 :
  UInt8), (115 : UInt8), (105 : UInt8), (120 : UInt8)] ∧ List.map intA (List.map natI (List.range k)) = W ∧ List.map lowB (List.range k) = A ∧ List.map uppB (List.range k) = B ∧ @List.nil AV = [] ∧ @List.nil AV = []))) ?_
  refine ⟨⟨(0 : Nat), ⟨⟨trivial, trivial, ⟨rfl, rfl, rfl⟩, ⟨rfl, rfl, rfl⟩, (by omega), trivial⟩, rfl, rfl, rfl, ⟨rfl, ⟨rfl, rfl, rfl⟩, rfl, rfl, ⟨rfl, rfl, rfl⟩, rfl, rfl, rfl⟩, rfl, rfl, rfl, ⟨rfl, ⟨rfl, rfl, rfl⟩, rfl, rfl, ⟨rfl, rfl, rfl⟩, rfl, rfl, rfl⟩, rfl, rfl, rfl, rfl, rfl⟩, (by omega)⟩, fun k => fun h2 => ⟨fun h3_ => have h3 := dT h3_; ⟨fun h4_ => have h4 := dT h4_; ⟨fun h5_ => have h5 := dT h5_; ⟨(by unfold InI64; omega), (fD (by omega)), rfl, (by simp), rfl, rfl, rfl, (by omega), (by omega), (by simp), rfl, rfl, rfl, (by omega), (by omega), (by simp), rfl, rfl, rfl, (by omega), (by omega), (by unfold InI64; omega), ⟨k + (1 : Nat), ⟨⟨trivial, trivial, ⟨rfl, rfl, rfl⟩, ⟨rfl, rfl, rfl⟩, (by omega), trivial⟩, rfl, rfl, rfl, ⟨rfl, ⟨rfl, rfl, rfl⟩, rfl, rfl, ⟨rfl, rfl, rfl⟩, rfl, rfl, rfl⟩, rfl, rfl, rfl, ⟨rfl, ⟨rfl, rfl, rfl⟩, rfl, rfl, ⟨rfl, rfl, rfl⟩, rfl, rfl, rfl⟩, ?_, rfl, rfl, ?_, ?_⟩, ⟨(by omega), (by omega)⟩⟩⟩, fun h7_ => have h7 := dF h7_; ⟨fun h8_ => have h8 := dT h8_; ⟨fun h9_ => have h9 := dT h9_; ⟨(by unfold InI64; omega), (by simp), rfl, rfl, rfl, (by omega), (by omega), (by simp), rfl, rfl, rfl, (by omega), (by omega), (by simp), rfl, rfl, rfl, (by omega), (by omega), (by unfold InI64; omega), ⟨k + (1 : Nat), ⟨⟨trivial, trivial, ⟨rfl, rfl, rfl⟩, ⟨rfl, rfl, rfl⟩, (by omega), trivial⟩, rfl, rfl, rfl, ⟨rfl, ⟨rfl, rfl, rfl⟩, rfl, rfl, ⟨rfl, rfl, rfl⟩, rfl, rfl, rfl⟩, rfl, rfl, rfl, ⟨rfl, ⟨rfl, rfl, rfl⟩, rfl, rfl, ⟨rfl, rfl, rfl⟩, rfl, rfl, rfl⟩, ?_, rfl, rfl, ?_, ?_⟩, ⟨(by omega), (by omega)⟩⟩⟩, fun h11_ => have h11 := dF h11_; ⟨(by simp), rfl, rfl, rfl, (by omega), (by omega), (by simp), rfl, rfl, rfl, (by omega), (by omega), (by simp), rfl, rfl, rfl, (by omega), (by omega), (by unfold InI64; omega), ⟨k + (1 : Nat), ⟨⟨trivial, trivial, ⟨rfl, rfl, rfl⟩, ⟨rfl, rfl, rfl⟩, (by omega), trivial⟩, rfl, rfl, rfl, ⟨rfl, ⟨rfl, rfl, rfl⟩, rfl, rfl, ⟨rfl, rfl, rfl⟩, rfl, rfl, rfl⟩, rfl, rfl, rfl, ⟨rfl, ⟨rfl, rfl, rfl⟩, rfl, rfl, ⟨rfl, rfl, rfl⟩, rfl, rfl, rfl⟩, ?_, rfl, rfl, ?_, ?_⟩, ⟨(by omega), (by omega)⟩⟩⟩⟩, fun h13_ => have h13 := dF h13_; ⟨rfl, (by simp), rfl, rfl, rfl, (by omega), (by omega), (by simp), rfl, rfl, rfl, (by omega), (by omega), (by simp), rfl, rfl, rfl, (by omega), (by omega), (by unfold InI64; omega), ⟨k + (1 : Nat), ⟨⟨trivial, trivial, ⟨rfl, rfl, rfl⟩, ⟨rfl, rfl, rfl⟩, (by omega), trivial⟩, rfl, rfl, rfl, ⟨rfl, ⟨rfl, rfl, rfl⟩, rfl, rfl, ⟨rfl, rfl, rfl⟩, rfl, rfl, rfl⟩, rfl, rfl, rfl, ⟨rfl, ⟨rfl, rfl, rfl⟩, rfl, rfl, ⟨rfl, rfl, rfl⟩, rfl, rfl, rfl⟩, ?_, rfl, rfl, ?_, ?_⟩, ⟨(by omega), (by omega)⟩⟩⟩⟩⟩, fun h15_ => have h15 := dF h15_; ⟨rfl, (fD (by omega)), rfl, (by simp), rfl, rfl, rfl, (by omega), (by omega), (by simp), rfl, rfl, rfl, (by omega), (by omega), (by simp), rfl, rfl, rfl, (by omega), (by omega), (by unfold InI64; omega), ⟨k + (1 : Nat), ⟨⟨trivial, trivial, ⟨rfl, rfl, rfl⟩, ⟨rfl, rfl, rfl⟩, (by omega), trivial⟩, rfl, rfl, rfl, ⟨rfl, ⟨rfl, rfl, rfl⟩, rfl, rfl, ⟨rfl, rfl, rfl⟩, rfl, rfl, rfl⟩, rfl, rfl, rfl, ⟨rfl, ⟨rfl, rfl, rfl⟩, rfl, rfl, ⟨rfl, rfl, rfl⟩, rfl, rfl, rfl⟩, ?_, rfl, rfl, ?_, ?_⟩, ⟨(by omega), (by omega)⟩⟩⟩⟩, fun h17_ => have h17 := dF h17_; ⟨(by simp), (by first | exact bytesL_map _ | (rw [List.drop_zero, List.take_of_length_le (by simp)]; exact bytesL_map _) | (simp only [← List.map_take, ← List.map_drop]; exact bytesL_map _) | (rw [← List.map_replicate (f := u8A), ← List.map_append, ← List.map_drop, ← List.map_take]; exact bytesL_map _)), (by simp), (by first | exact bytesL_map _ | (rw [List.drop_zero, List.take_of_length_le (by simp)]; exact bytesL_map _) | (simp only [← List.map_take, ← List.map_drop]; exact bytesL_map _) | (rw [← List.map_replicate (f := u8A), ← List.map_append, ← List.map_drop, ← List.map_take]; exact bytesL_map _)), (by simp), ?_, rfl, rfl, rfl, rfl, rfl, ?_, ?_, ?_, rfl, rfl⟩⟩⟩
  all_goals first
    | exact st_int _
    | exact st_u8 _ _ _ (lowB_y (by omega) (by omega))
    | exact st_u8 _ _ _ (lowB_n (by omega))
    | exact st_u8 _ _ _ (uppB_y (by omega) (by omega))
    | exact st_u8 _ _ _ (uppB_n (by omega))
    | (obtain rfl : k = 256 := by omega
       first | exact hW.symm | (rw [hW, List.drop_zero, List.take_of_length_le (by simp)]) | exact hA.symm | exact hB.symm)
    | (rw [List.drop_zero, List.take_of_length_le (by simp)])
    | skip
theorem def2_run : (R FT X).f 13 [] = some defV := def2_run' _ _ _ rfl rfl rfl
end
end Go.Proofs.YtienfdjfochlcaaDoor
end
section
namespace Go.Proofs.YtienfdjfochlcaaDoor
set_option linter.unusedVariables false
set_option linter.unusedSimpArgs false
set_option maxRecDepth 100000
set_option maxHeartbeats 4000000
section
variable {X : CallF}
theorem identity_run : (R FT X).f 28 [] = some (.agg (((List.range 256).map UInt8.ofNat).map u8A)) := by
 obtain ⟨T, hT⟩ : ∃ T : Nat → List AV, T = fun k => (tbU k).map u8A := ⟨_, rfl⟩
 obtain ⟨Z, hZ⟩ : ∃ Z : List AV, Z = (tbU 0).map u8A := ⟨_, rfl⟩
 have hTl : ∀ k, (T k).length = 256 := fun k => by rw [hT]; simp [tbU_len]
 have hZl : Z.length = 256 := by rw [hZ]; simp [tbU_len]
 have hD : ∀ k, List.take 256 (List.drop 0 (T k)) = T k := fun k => by rw [List.drop_zero, List.take_of_length_le (by rw [hTl]; omega)]
 have hS : ∀ k, setAt Z 0 (T k) = T k := fun k => setAt_all _ _ (by rw [hTl, hZl])
 have hE : ∀ k, 256 ≤ k → k ≤ 256 → T k = ((List.range 256).map UInt8.ofNat).map u8A := fun k h1 h2 => by
  have : k = 256 := by omega
  subst this
  rw [hT, ← tbU_all]
 refine R_wp ((Tr.inv (fun (k : Nat) ↦ St.mk [(0, AV.ptr 0 0), (1, AV.ptr 1 0), (3, intA (↑k : Int))] [MObj.box 36 Z, MObj.box 36 (T k)]) (fun (k : Nat) ↦ k ≤ 256) (fun (k : Nat) ↦ (256 : Nat) - k) fun (k : Nat) ↦ (Tr.k k Tr.nil.w.w).w.br Tr.nil.w.w.w).w) rfl ?_
 refine Eq.mpr (by kernel_rfl : _ = ((∃ (j1 : Nat), ((True ∧ True ∧ (0 : Int) = (↑j1 : Int) ∧ True) ∧ List.replicate (256 : Nat) (AV.val (Value.int IntKind.u8 (0 : Int))) = Z ∧ List.replicate (256 : Nat) (AV.val (Value.int IntKind.u8 (0 : Int))) = T j1) ∧ j1 ≤ 256) ∧ ∀ (k : Nat), k ≤ 256 → (decide ((↑k : Int) < 256) = true → (↑k : Int) = (↑k : Int) ∧ k < 256 ∧ (0 : Nat) + k * 1 + (1 : Nat) ≤ (T k).length ∧ InI64 ((↑k : Int) + 1) ∧ ∃ (j4 : Nat), ((True ∧ True ∧ (↑k : Int) + 1 = (↑j4 : Int) ∧ True) ∧ Z = Z ∧ setAt (T k) ((0 : Nat) + k * 1) (u8A (toU8 (↑k : Int))).cells = T j4) ∧ j4 ≤ 256 ∧ (256 : Nat) - j4 < 256 - k) ∧ (decide ((↑k : Int) < 256) = false → (256 : Nat) ≤ (T k).length ∧ (((AV.agg (List.take (256 : Nat) (List.drop (0 : Nat) (T k)))).cells.length = 256 ∧ (AV.agg (List.take (256 : Nat) (List.drop (0 : Nat) (T k)))).cells.all AV.isCell = true) ∧ (256 : Nat) ≤ Z.length) ∧ ((256 : Nat) ≤ (setAt Z (0 : Nat) (AV.agg (List.take (256 : Nat) (List.drop (0 : Nat) (T k)))).cells).length ∧ (List.take (256 : Nat) (List.drop (0 : Nat) (setAt Z (0 : Nat) (AV.agg (List.take (256 : Nat) (List.drop (0 : Nat) (T k)))).cells))).all AV.grCell
 = true) ∧ eqCells (nilCells (ARes.cell (0 : Nat) (256 : Nat) true []).offs (List.take (256 : Nat) (List.drop (0 : Nat) (setAt Z (0 : Nat) (AV.agg (List.take (256 : Nat) (List.drop (0 : Nat) (T k)))).cells)))) (List.map u8A (List.map UInt8.ofNat (List.range (256 : Nat))))))) ?_
 refine ⟨⟨(0 : Nat), ⟨⟨trivial, trivial, (by omega), trivial⟩, ?_, ?_⟩, (by omega)⟩, fun k => fun h2 => ⟨fun h3_ => have h3 := dT h3_; ⟨rfl, (by omega), ?_, (by unfold InI64; omega), ⟨k + (1 : Nat), ⟨⟨trivial, trivial, (by omega), trivial⟩, rfl, ?_⟩, ⟨(by omega), (by omega)⟩⟩⟩, fun h5_ => have h5 := dF h5_; ⟨?_, ⟨⟨?_, ?_⟩, (by omega)⟩, ⟨?_, ?_⟩, ?_⟩⟩⟩
 ·rw [rep_u8, tbU_zero, hZ]
 ·rw [rep_u8, tbU_zero, hT]
 ·rw [hTl]; omega
 ·rw [hT]
  show setAt ((tbU _).map u8A) _ [_] = (tbU (_ + 1)).map u8A
  rw [Nat.zero_add, Nat.mul_one, setAt_one _ _ _ (by rw [tbU_len]; omega), toU8_nat, tbU_succ]
 ·rw [hTl]; omega
 ·rw [agg_cells, hD, hTl]
 ·rw [agg_cells, hD, hT]; exact bytes_cell _
 ·rw [agg_cells, hD, hS, hTl]; omega
 ·rw [agg_cells, hD, hS, hD, hT]; exact bytes_gr _
 ·exact eqCells_u8' (by rw [agg_cells, hD, hS, hD, hE _ (by omega) (by omega)]; exact nilCells_nil _) rfl
end
end Go.Proofs.YtienfdjfochlcaaDoor
end
section
namespace Go.Proofs.YtienfdjfochlcaaDoor
set_option linter.unusedVariables false
set_option linter.unusedSimpArgs false
set_option maxRecDepth 100000
def known (f : FuncId) (vs : List AV) : Option AV := match vs with
 | [] => if f = 13 then some defV else if f = 28 then some (.agg (((List.range 256).map UInt8.ofNat).map u8A)) else none
 | _ => none
theorem known_ok {X : CallF} (f : FuncId) (vs : List AV) (r : AV) (h : known f vs = some r) : (R FT X).f f vs = some r := by
 unfold known at h
 split at h
 ·split at h
  ·rename_i e; subst e; cases h; exact def2_run
  ·split at h
   ·rename_i e; subst e; cases h; exact identity_run
   ·cases h
 ·cases h
theorem awake_run : (R FT XS).f 6 [] = some (boolA true) :=
 R_via (l := [13, 28]) (t := known) (fun f vs r _ h => known_ok f vs r h) (n := 40) (by kernel_rfl)
end Go.Proofs.YtienfdjfochlcaaDoor
end
section
namespace Go.Proofs.YtienfdjfochlcaaDoor
theorem other_law {X : CallF} (haw : (R FT X).f 6 [] = some (boolA true)) (D : CS) (M : Bs) (Q : CS) (_ : M.length ≤ maxLen) (s t : Bs) : (R FT X).f 4 [encSp D M Q, strL s, strL t] = some (boolA true) := by
 by_cases h : M.length ≤ 600 ∧ s.length ≤ 600 ∧ t.length ≤ 600
 ·exact other_y haw D M Q s t h.1 h.2.1 h.2.2
 ·exact other_o haw D M Q s t h
end Go.Proofs.YtienfdjfochlcaaDoor
end
