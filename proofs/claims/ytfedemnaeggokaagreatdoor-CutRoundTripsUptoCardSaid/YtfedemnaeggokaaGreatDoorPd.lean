/- Own texts of this claim, merged: Cu3, CuR, Cu4, CuS, CuV, Cu5, BldW, Bld, Cu6, CuW. -/
import Derived.Test.YtfedemnaeggokaaGreatDoorPc
import Derived.Lib.Join
import Derived.Lib.Bytealg
import Derived.Test.YtfedemnaeggokaaGreatDoorChecked
import Derived.Shelf.Strings.BuilderX
import Derived.Lib.Strings
import Derived.Lib.Slices
import Derived.Lib.Walk
import Derived.Lib.Builder
import Derived.Lib.UnsafeStr
import Derived.WalkKit
import Derived.Laws.Externs
import Derived.RegionTactic
import Derived.Shelf.RegionOpenPlain
section
namespace Go.Proofs.YtfedemnaeggokaaGreatDoor
set_option linter.unusedVariables false
set_option linter.unusedSimpArgs false
set_option maxRecDepth 100000
set_option maxHeartbeats 1000000
def El2C (X : CallF) : Prop := ∀ (s : Bs) (a : Nat), s.length ≤ maxLen → a ≤ s.length → (R FT X).f 33 [strL s, intA a] = some (.tuple [encSp (el2 s a).1, intA (el2 s a).2, .agg [intA (el s a).e, intA (el s a).b]])
def SortC (X : CallF) (srt : List Sp → List Sp) : Prop := ∀ (id ver used : Nat) (m m' : List MObj) (l : List Sp), (∀ x ∈ l, SpOk x) → l ≠ [] ∧ l.length ≤ 100000 → m[id]? = some (.row ver 2 (l.map encSp) true 1) → l.length = used → m.set id (.row ver 2 ((srt l).map encSp) true 1) = m' → (R FT X).m 54 [.row id ver used 0 used, .val (.func (.func 55) #[] #[])] m = some (.tuple [], m')
section
variable {X : CallF}
theorem parse2_run (hE : El2C X) (s : Bs) (hs : s.length ≤ maxLen) : (R FT X).f 11 [strL s] = some (.tuple [.slice 2 ((plO putL (pl s)).map encSp), intA (plE (pl s)), intA (plB (pl s))]) := by
 have hm := maxLen_i64
 have he := fun a => hE s a hs
 refine R_wp ((Tr.inv (fun (k : Nat) ↦ St.mk [(0, strL s), (5, AV.slice 2 (List.map encSp (putL (plL s k)))), (6, intA (↑(plA s k) : Int)), (7, intA (↑k : Int))] []) (fun (k : Nat) ↦ PlI s k) (fun (k : Nat) ↦ List.length s + 2 - k) fun (k : Nat) ↦ (Tr.cut (fun (v3 : Cut (3 : Nat) Unit) ↦ St.mk [(0, strL s), (5, AV.slice 2 (List.map encSp (putL (plL s k)))), (6, AV.val (Value.int IntKind.i64 (↑(plA s k) : Int))), (7, AV.val (Value.int IntKind.i64 (↑k : Int)))] []) (fun (v3 : Cut (3 : Nat) Unit) ↦ (∃ (c5 : UInt8), ∃ (c9 : UInt8), ∃ (c12 : UInt8), (↑k : Int) = 1024 ∧ (↑(plA s k) : Int) < (↑(List.length s) : Int) ∧ s[plA s k]? = some c5 ∧ ¬(↑c5.toNat : Int) = 45 ∧ s[plA s k]? = some c9 ∧ (48 : Int) ≤ (↑c9.toNat : Int) ∧ s[plA s k]? = some c12 ∧ ¬(↑c12.toNat : Int) ≤ 57) ∨ (∃ (c5 : UInt8), ∃ (c9 : UInt8), (↑k : Int) = 1024 ∧ (↑(plA s k) : Int) < (↑(List.length s) : Int) ∧ s[plA s k]? = some c5 ∧ ¬(↑c5.toNat : Int) = 45 ∧ s[plA s k]? = some c9 ∧ ¬(48 : Int) ≤ (↑c9.toNat : Int)) ∨ (↑k : Int) = 1024 ∧ ¬(↑(plA s k) : Int) < (↑(List.length s) : Int) ∨ ¬(↑k : Int) = (1024 :
 Int)) (((Tr.y (plA s k) fun (c5 : UInt8) ↦ (Tr.b true Tr.nil).w.br (Tr.y (plA s k) fun (c9 : UInt8) ↦ (Tr.y (plA s k) fun (c12 : UInt8) ↦ (Tr.nil.br Tr.nil).w).br (Tr.b false Tr.nil).w)).br (Tr.b false Tr.nil).w).br (Tr.b false (Tr.b false Tr.nil).w)) fun (v3 : Cut (3 : Nat) Unit) ↦ Tr.c (AV.tuple [encSp (el2 s (plA s k)).fst, intA (↑(el2 s (plA s k)).snd : Int), AV.agg [intA (el s (plA s k)).e, intA (el s (plA s k)).b]]) (Tr.nil.br (Tr.c (AV.slice 2 (List.map encSp (put (putL (plL s k)) (el2 s (plA s k)).fst))) (Tr.nil.br (Tr.y (el2 s (plA s k)).snd fun (c29 : UInt8) ↦ (Tr.nil.br Tr.nil.w.w).w).w).w.w)).w.w).w).w) rfl ?_
 refine Eq.mpr (by kernel_rfl : _ = ((∃ (j1 : Nat), ((s = s ∧ [] = List.map encSp (putL (plL s j1)) ∧ (0 : Int) = (↑(plA s j1) : Int) ∧ (0 : Int) = (↑j1 : Int) ∧ True) ∧ True) ∧ PlI s j1) ∧ ∀ (k : Nat), PlI s k → ((decide ((↑k : Int) = 1024) = true → (decide ((↑(plA s k) : Int) < (↑(List.length s) : Int)) = true → (↑(plA s k) : Int) = (↑(plA s k) : Int) ∧ plA s k < List.length s ∧ ∀ (c5 : UInt8), s[plA s k]? = some c5 → (decide ((↑c5.toNat : Int) = 45) = true → true = true ∧ [] = List.map encSp (plO putL (pl s)) ∧ (3 : Int) = plE (pl s) ∧ (↑(plA s k) : Int) = plB (pl s)) ∧ (decide ((↑c5.toNat : Int) = 45) = false → (↑(plA s k) : Int) = (↑(plA s k) : Int) ∧ plA s k < List.length s ∧ ∀ (c9 : UInt8), s[plA s k]? = some c9 → (decide ((48 : Int) ≤ (↑c9.toNat : Int)) = true → (↑(plA s k) : Int) = (↑(plA s k) : Int) ∧ plA s k < List.length s ∧ ∀ (c12 : UInt8), s[plA s k]? = some c12 → (decide ((↑c12.toNat : Int) ≤ 57) = true → [] = List.map encSp (plO putL (pl s)) ∧ (3 : Int) = plE (pl s) ∧ (↑(plA s k) : Int) = plB (pl s)) ∧ (decide ((↑c12.toNat : Int) ≤ 57) = false → ∃ (m3_16 : Cut (3 : Nat) Unit), ((s = s ∧ List.map encSp (putL (plL s k)) = List.map encSp (putL (plL s k)) ∧ (↑(plA s k)
 : Int) = (↑(plA s k) : Int) ∧ (↑k : Int) = (↑k : Int) ∧ True) ∧ True) ∧ ((∃ (c5 : UInt8), ∃ (c9 : UInt8), ∃ (c12 : UInt8), (↑k : Int) = 1024 ∧ (↑(plA s k) : Int) < (↑(List.length s) : Int) ∧ s[plA s k]? = some c5 ∧ ¬(↑c5.toNat : Int) = 45 ∧ s[plA s k]? = some c9 ∧ (48 : Int) ≤ (↑c9.toNat : Int) ∧ s[plA s k]? = some c12 ∧ ¬(↑c12.toNat : Int) ≤ 57) ∨ (∃ (c5 : UInt8), ∃ (c9 : UInt8), (↑k : Int) = 1024 ∧ (↑(plA s k) : Int) < (↑(List.length s) : Int) ∧ s[plA s k]? = some c5 ∧ ¬(↑c5.toNat : Int) = 45 ∧ s[plA s k]? = some c9 ∧ ¬(48 : Int) ≤ (↑c9.toNat : Int)) ∨ (↑k : Int) = 1024 ∧ ¬(↑(plA s k) : Int) < (↑(List.length s) : Int) ∨ ¬(↑k : Int) = 1024))) ∧ (decide ((48 : Int) ≤ (↑c9.toNat : Int)) = false → false = false ∧ ∃ (m3_18 : Cut (3 : Nat) Unit), ((s = s ∧ List.map encSp (putL (plL s k)) = List.map encSp (putL (plL s k)) ∧ (↑(plA s k) : Int) = (↑(plA s k) : Int) ∧ (↑k : Int) = (↑k : Int) ∧ True) ∧ True) ∧ ((∃ (c5 : UInt8), ∃ (c9 : UInt8), ∃ (c12 : UInt8), (↑k : Int) = 1024 ∧ (↑(plA s k) : Int) < (↑(List.length s) : Int) ∧ s[plA s k]? = some c5 ∧ ¬(↑c5.toNat : Int) = 45 ∧ s[plA s k]? = some c9 ∧ (48 : Int) ≤ (↑c9.toNat
 : Int) ∧ s[plA s k]? = some c12 ∧ ¬(↑c12.toNat : Int) ≤ 57) ∨ (∃ (c5 : UInt8), ∃ (c9 : UInt8), (↑k : Int) = 1024 ∧ (↑(plA s k) : Int) < (↑(List.length s) : Int) ∧ s[plA s k]? = some c5 ∧ ¬(↑c5.toNat : Int) = 45 ∧ s[plA s k]? = some c9 ∧ ¬(48 : Int) ≤ (↑c9.toNat : Int)) ∨ (↑k : Int) = 1024 ∧ ¬(↑(plA s k) : Int) < (↑(List.length s) : Int) ∨ ¬(↑k : Int) = 1024)))) ∧ (decide ((↑(plA s k) : Int) < (↑(List.length s) : Int)) = false → false = false ∧ ∃ (m3_20 : Cut (3 : Nat) Unit), ((s = s ∧ List.map encSp (putL (plL s k)) = List.map encSp (putL (plL s k)) ∧ (↑(plA s k) : Int) = (↑(plA s k) : Int) ∧ (↑k : Int) = (↑k : Int) ∧ True) ∧ True) ∧ ((∃ (c5 : UInt8), ∃ (c9 : UInt8), ∃ (c12 : UInt8), (↑k : Int) = 1024 ∧ (↑(plA s k) : Int) < (↑(List.length s) : Int) ∧ s[plA s k]? = some c5 ∧ ¬(↑c5.toNat : Int) = 45 ∧ s[plA s k]? = some c9 ∧ (48 : Int) ≤ (↑c9.toNat : Int) ∧ s[plA s k]? = some c12 ∧ ¬(↑c12.toNat : Int) ≤ 57) ∨ (∃ (c5 : UInt8), ∃ (c9 : UInt8), (↑k : Int) = 1024 ∧ (↑(plA s k) : Int) < (↑(List.length s) : Int) ∧ s[plA s k]? = some c5 ∧ ¬(↑c5.toNat : Int) = 45 ∧ s[plA s k]? = some c9 ∧ ¬(48 : Int) ≤ (↑c9.toNat
 : Int)) ∨ (↑k : Int) = 1024 ∧ ¬(↑(plA s k) : Int) < (↑(List.length s) : Int) ∨ ¬(↑k : Int) = 1024))) ∧ (decide ((↑k : Int) = 1024) = false → false = false ∧ false = false ∧ ∃ (m3_22 : Cut (3 : Nat) Unit), ((s = s ∧ List.map encSp (putL (plL s k)) = List.map encSp (putL (plL s k)) ∧ (↑(plA s k) : Int) = (↑(plA s k) : Int) ∧ (↑k : Int) = (↑k : Int) ∧ True) ∧ True) ∧ ((∃ (c5 : UInt8), ∃ (c9 : UInt8), ∃ (c12 : UInt8), (↑k : Int) = 1024 ∧ (↑(plA s k) : Int) < (↑(List.length s) : Int) ∧ s[plA s k]? = some c5 ∧ ¬(↑c5.toNat : Int) = 45 ∧ s[plA s k]? = some c9 ∧ (48 : Int) ≤ (↑c9.toNat : Int) ∧ s[plA s k]? = some c12 ∧ ¬(↑c12.toNat : Int) ≤ 57) ∨ (∃ (c5 : UInt8), ∃ (c9 : UInt8), (↑k : Int) = 1024 ∧ (↑(plA s k) : Int) < (↑(List.length s) : Int) ∧ s[plA s k]? = some c5 ∧ ¬(↑c5.toNat : Int) = 45 ∧ s[plA s k]? = some c9 ∧ ¬(48 : Int) ≤ (↑c9.toNat : Int)) ∨ (↑k : Int) = 1024 ∧ ¬(↑(plA s k) : Int) < (↑(List.length s) : Int) ∨ ¬(↑k : Int) = 1024))) ∧ ∀ (v3 : Cut (3 : Nat) Unit), (∃ (c5 : UInt8), ∃ (c9 : UInt8), ∃ (c12 : UInt8), (↑k : Int) = 1024 ∧ (↑(plA s k) : Int) < (↑(List.length s) : Int) ∧ s[plA s k]? = some
 c5 ∧ ¬(↑c5.toNat : Int) = 45 ∧ s[plA s k]? = some c9 ∧ (48 : Int) ≤ (↑c9.toNat : Int) ∧ s[plA s k]? = some c12 ∧ ¬(↑c12.toNat : Int) ≤ 57) ∨ (∃ (c5 : UInt8), ∃ (c9 : UInt8), (↑k : Int) = 1024 ∧ (↑(plA s k) : Int) < (↑(List.length s) : Int) ∧ s[plA s k]? = some c5 ∧ ¬(↑c5.toNat : Int) = 45 ∧ s[plA s k]? = some c9 ∧ ¬(48 : Int) ≤ (↑c9.toNat : Int)) ∨ (↑k : Int) = 1024 ∧ ¬(↑(plA s k) : Int) < (↑(List.length s) : Int) ∨ ¬(↑k : Int) = 1024 → (R FT X).f 33 [strL s, intA (↑(plA s k) : Int)] = some (AV.tuple [encSp (el2 s (plA s k)).fst, intA (↑(el2 s (plA s k)).snd : Int), AV.agg [intA (el s (plA s k)).e, intA (el s (plA s k)).b]]) ∧ ((!decide ((el s (plA s k)).e = 0)) = true → [] = List.map encSp (plO putL (pl s)) ∧ (el s (plA s k)).e = plE (pl s) ∧ (el s (plA s k)).b = plB (pl s)) ∧ ((!decide ((el s (plA s k)).e = 0)) = false → (R FT X).f 34 [AV.slice 2 (List.map encSp (putL (plL s k))), encSp (el2 s (plA s k)).fst] = some (AV.slice 2 (List.map encSp (put (putL (plL s k)) (el2 s (plA s k)).fst))) ∧ (decide ((↑(el2 s (plA s k)).snd : Int) = (↑(List.length s) : Int)) = true → List.map encSp
 (put (putL (plL s k)) (el2 s (plA s k)).fst) = List.map encSp (plO putL (pl s)) ∧ (0 : Int) = plE (pl s) ∧ (0 : Int) = plB (pl s)) ∧ (decide ((↑(el2 s (plA s k)).snd : Int) = (↑(List.length s) : Int)) = false → (↑(el2 s (plA s k)).snd : Int) = (↑(el2 s (plA s k)).snd : Int) ∧ (el2 s (plA s k)).snd < List.length s ∧ ∀ (c29 : UInt8), s[(el2 s (plA s k)).snd]? = some c29 → ((!decide ((↑c29.toNat : Int) = 44)) = true → [] = List.map encSp (plO putL (pl s)) ∧ (1 : Int) = plE (pl s) ∧ (↑(el2 s (plA s k)).snd : Int) = plB (pl s)) ∧ ((!decide ((↑c29.toNat : Int) = 44)) = false → InI64 ((↑(el2 s (plA s k)).snd : Int) + 1) ∧ InI64 ((↑k : Int) + 1) ∧ ∃ (j33 : Nat), ((s = s ∧ List.map encSp (put (putL (plL s k)) (el2 s (plA s k)).fst) = List.map encSp (putL (plL s j33)) ∧ (↑(el2 s (plA s k)).snd : Int) + 1 = (↑(plA s j33) : Int) ∧ (↑k : Int) + 1 = (↑j33 : Int) ∧ True) ∧ True) ∧ PlI s j33 ∧ List.length s + 2 - j33 < List.length s + 2 - k))))) ?_
 refine ⟨⟨(0 : Nat), ⟨⟨rfl, rfl, rfl, (by omega), trivial⟩, trivial⟩, ?_⟩, fun k => fun h2 => ⟨⟨fun h3_ => have h3 := dT h3_; ⟨fun h4_ => have h4 := dT h4_; ⟨rfl, (by omega), fun c5 => fun h6 => ⟨fun h7_ => have h7 := dT h7_; ⟨rfl, ?_, ?_, ?_⟩, fun h8_ => have h8 := dF h8_; ⟨rfl, (by omega), fun c9 => fun h10 => ⟨fun h11_ => have h11 := dT h11_; ⟨rfl, (by omega), fun c12 => fun h13 => ⟨fun h14_ => have h14 := dT h14_; ⟨?_, ?_, ?_⟩, fun h15_ => have h15 := dF h15_; ⟨(), ⟨⟨(by first | rfl | simp), ⟨(by first | rfl | simp), ⟨(by first | rfl | simp), ⟨(by first | rfl | simp), trivial⟩⟩⟩⟩, trivial⟩, Or.inl (⟨c5, c9, c12, h3, h4, h6, h8, h10, h11, h13, h15⟩)⟩⟩⟩, fun h17_ => have h17 := dF h17_; ⟨rfl, ⟨(), ⟨⟨(by first | rfl | simp), ⟨(by first | rfl | simp), ⟨(by first | rfl | simp), ⟨(by first | rfl | simp), trivial⟩⟩⟩⟩, trivial⟩, Or.inr (Or.inl (⟨c5, c9, h3, h4, h6, h8, h10, h17⟩))⟩⟩⟩⟩⟩⟩, fun h19_ => have h19 := dF h19_; ⟨rfl, ⟨(), ⟨⟨(by first | rfl | simp), ⟨(by first | rfl | simp), ⟨(by first | rfl | simp), ⟨(by first | rfl | simp), trivial⟩⟩⟩⟩, trivial⟩, Or.inr (Or.inr (Or.inl (⟨h3, h19⟩)))⟩⟩⟩, fun h21_ => have h21 := dF h21_; ⟨rfl, rfl, ⟨(), ⟨⟨(by first | rfl | simp), ⟨(by first | rfl | simp), ⟨(by first | rfl | simp), ⟨(by first | rfl | simp), trivial⟩⟩⟩⟩, trivial⟩, Or.inr (Or.inr (Or.inr (h21)))⟩⟩⟩, fun v3 => fun h24 => ⟨(he _ ?_), fun h25_ => have h25 := dnT h25_; ⟨?_, ?_, ?_⟩, fun h26_ => have h26 := dnF h26_; ⟨(put_run _ _ ?_ ?_ ?_), fun h27_ => have h27 := dT h27_; ⟨?_, ?_, ?_⟩, fun h28_ => have h28 := dF h28_; ⟨rfl, ?_, fun c29 => fun h30 => ⟨fun h31_ => have h31 := dnT h31_; ⟨?_, ?_, ?_⟩, fun h32_ => have h32 := dnF h32_; ⟨?_, ?_, ⟨k + (1 : Nat), ⟨⟨rfl, ?_, ?_, (by omega), trivial⟩, trivial⟩, ⟨?_, ?_⟩⟩⟩⟩⟩⟩⟩⟩⟩
 ·exact .zero s
 iterate 3
  ·rw [pl_lim h2 (by omega) ((dm_c h6).2 (.inl h7))]; rfl
 iterate 3
  ·rw [pl_lim h2 (by omega) ((dm_c h10).2 (.inr ⟨h11, same_at h13 h10 ▸ h14⟩))]; rfl
 all_goals have nl := nolim2 h24
 ·exact h2.le
 iterate 3
  ·rw [pl_err h2 nl h25]; rfl
 all_goals have e2 := el2_eq h26
 ·have := (putL_ok _ h2.ok).2
  rw [plL_len] at this
  have := h2.kl
  omega
 ·exact (putL_ok _ h2.ok).1
 ·rw [e2]; exact el_ok h26
 all_goals (generalize el2 s (plA s k) = w at *; subst e2; try dsimp only at *)
 iterate 3
  ·rw [pl_ok h2 nl h26 (by omega)]
   first | rfl | (show _ = List.map encSp (putL _); rw [plL_succ, putL_snoc])
 ·have := el_le s _ h2.le
  omega
 iterate 3
  ·rw [pl_sep h2 nl h26 (by omega) (fun q => h31 ((is44 h30).1 q))]; rfl
 ·have := el_le s _ h2.le
  unfold InI64; omega
 ·have := h2.kl; unfold InI64; omega
 ·rw [plL_succ, putL_snoc]
 ·rfl
 ·exact h2.step nl h26 ((is44 h30).2 h32)
 ·have := h2.ka; omega
theorem normal_run {srt : List Sp → List Sp} (hS : SortC X srt) (l : List Sp) (hn : l.length ≤ 100000) (ho : ∀ x ∈ l, SpOk x) (hne : l ≠ []) (hL : (srt l).length = l.length) (hl : ∀ x ∈ srt l, SpOk x) (a b c : Int) (s : Bs) : (R FT X).m 32 [.row 1 0 l.length 0 l.length] [.box 54 [strL s, intA a, intA b, intA c], .row 0 2 (l.map encSp) true 1] = some (.row 2 0 (mg (srt l)).length 0 (mg (srt l)).length, [.box 54 [strL s, intA a, intA b, intA c], .row 0 2 ((srt l).map encSp) true 1, .row 0 2 ((mg (srt l)).map encSp) true 1]) := by
 unfold SortC at hS
 have hm := maxLen_le
 refine RM_wp (Tr.cm (AV.tuple []) [MObj.box 54 [strL s, intA a, intA b, intA c], MObj.row 0 2 (List.map encSp (srt l)) true (1 : Nat)] (Tr.k (srt l).length (Tr.inv (fun (k : Nat) ↦ St.mk [(3, AV.row 2 0 (mgK (srt l) k).length (0 : Nat) (mgK (srt l) k).length), (10, AV.row 1 0 l.length (0 : Nat) l.length), (11, intA (↑(srt l).length : Int)), (12, intA (↑k : Int))] [MObj.box 54 [strL s, intA a, intA b, intA c], MObj.row 0 2 (List.map encSp (srt l)) true (1 : Nat), MObj.row 0 2 (List.map encSp (mgK (srt l) k)) true (1 : Nat)]) (fun (k : Nat) ↦ k ≤ (srt l).length ∧ (mgK (srt l) k).length ≤ k) (fun (k : Nat) ↦ (srt l).length - k) fun (k : Nat) ↦ (Tr.k k (Tr.ix encSp (srt l) ((0 : Nat) + k) fun (x4 : Sp) ↦ Tr.k (mgK (srt l) k).length ((Tr.b true (Tr.k ((mgK (srt l) k).length + 1) Tr.nil.w)).w.br (Tr.k ((↑(mgK (srt l) k).length : Int) - 1).toNat (Tr.ix encSp (mgK (srt l) k) ((0 : Nat) + ((↑(mgK (srt l) k).length : Int) - 1).toNat) fun (x9 : Sp) ↦ (Tr.k ((↑(mgK (srt l) k).length : Int) - 1).toNat (Tr.ix encSp (mgK (srt l) k) ((0 : Nat) + ((↑(mgK
 (srt l) k).length : Int) - 1).toNat) fun (x12 : Sp) ↦ ((Tr.k ((mgK (srt l) k).length + 1) Tr.nil.w).br (Tr.k ((↑(mgK (srt l) k).length : Int) - 1).toNat (Tr.ix encSp (mgK (srt l) k) ((0 : Nat) + ((↑(mgK (srt l) k).length : Int) - 1).toNat) fun (x17 : Sp) ↦ ((Tr.ix encSp (mgK (srt l) k) ((0 : Nat) + ((↑(mgK (srt l) k).length : Int) - 1).toNat) fun (x20 : Sp) ↦ (Tr.ix encSp (mgK (srt l) k) ((0 : Nat) + ((↑(mgK (srt l) k).length : Int) - 1).toNat) fun (x22 : Sp) ↦ ((Tr.ix encSp ((mgK (srt l) k).set ((0 : Nat) + ((↑(mgK (srt l) k).length : Int) - 1).toNat) (Sp.mk x22.f (if x4.t > x20.t then x4.t else x20.t))) ((0 : Nat) + ((↑(mgK (srt l) k).length : Int) - 1).toNat) fun (x25 : Sp) ↦ Tr.nil.w).w.w.br Tr.nil.w).w.w).w.w).w.w.br Tr.nil.w).w).w.w.w).w).w).w).w.w.br (Tr.b false (Tr.k ((↑(mgK (srt l) k).length : Int) - 1).toNat (Tr.ix encSp (mgK (srt l) k) ((0 : Nat) + ((↑(mgK (srt l) k).length : Int) - 1).toNat) fun (x33 : Sp) ↦ ((Tr.ix encSp (mgK (srt l) k) ((0 : Nat) + ((↑(mgK (srt l) k).length : Int) - 1).toNat) fun (x36 : Sp) ↦ (Tr.ix encSp (mgK (srt l) k) ((0 : Nat) + ((↑(mgK (srt l) k).length : Int)
 - (1 : Int)).toNat) fun (x38 : Sp) ↦ ((Tr.ix encSp ((mgK (srt l) k).set ((0 : Nat) + ((↑(mgK (srt l) k).length : Int) - 1).toNat) (Sp.mk x38.f (if x4.t > x36.t then x4.t else x36.t))) ((0 : Nat) + ((↑(mgK (srt l) k).length : Int) - 1).toNat) fun (x41 : Sp) ↦ Tr.nil.w).w.w.br Tr.nil.w).w.w).w.w).w.w.br Tr.nil.w).w).w.w.w).w).w).w).w).w)).w.br Tr.nil).w)) rfl ?_
 refine Eq.mpr (by kernel_rfl : _ = ((R FT X).m 54 [AV.row 1 0 l.length (0 : Nat) l.length, AV.val (Value.func (Fn.func 55) #[] #[])] [MObj.box 54 [strL s, intA a, intA b, intA c], MObj.row 0 2 (List.map encSp l) true (1 : Nat)] = some (AV.tuple [], [MObj.box 54 [strL s, intA a, intA b, intA c], MObj.row 0 2 (List.map encSp (srt l)) true (1 : Nat)]) ∧ (List.map encSp (srt l)).length = l.length ∧ (List.take l.length (List.drop (0 : Nat) (List.map encSp (srt l)))).length = (srt l).length ∧ (∃ (j1 : Nat), ((((0 : Nat) = (mgK (srt l) j1).length ∧ (0 : Nat) = 0 ∧ (0 : Nat) = (mgK (srt l) j1).length) ∧ (l.length = l.length ∧ (0 : Nat) = 0 ∧ l.length = l.length) ∧ (↑(srt l).length : Int) = (↑(srt l).length : Int) ∧ (0 : Int) = (↑j1 : Int) ∧ True) ∧ (s = s ∧ a = a ∧ b = b ∧ c = c) ∧ List.map encSp (srt l) = List.map encSp (srt l) ∧ [] = List.map encSp (mgK (srt l) j1)) ∧ j1 ≤ (srt l).length ∧ (mgK (srt l) j1).length ≤ j1) ∧ ∀ (k : Nat), k ≤ (srt l).length ∧ (mgK (srt l) k).length ≤ k → (decide ((↑k : Int) < (↑(srt l).length : Int)) = true → (List.map encSp (srt l)).length = l.length ∧ (↑k : Int) = (↑k : Int) ∧ k < l.length ∧ List.map
 encSp (srt l) = List.map encSp (srt l) ∧ (List.map encSp (srt l)).length = l.length ∧ (0 : Nat) + k = 0 + k ∧ (0 : Nat) + k < (srt l).length ∧ ∀ (x4 : Sp), (srt l)[(0 : Nat) + k]? = some x4 → (List.map encSp (mgK (srt l) k)).length = (mgK (srt l) k).length ∧ (List.take (mgK (srt l) k).length (List.drop (0 : Nat) (List.map encSp (mgK (srt l) k)))).length = (mgK (srt l) k).length ∧ (decide ((↑(mgK (srt l) k).length : Int) = 0) = true → true = true ∧ (List.map encSp (mgK (srt l) k)).length = (mgK (srt l) k).length ∧ (0 : Nat) = 0 ∧ (mgK (srt l) k).length = (mgK (srt l) k).length ∧ (mgK (srt l) k).length + [AV.agg [intA x4.f, intA x4.t]].length = (mgK (srt l) k).length + 1 ∧ ((mgK (srt l) k).length + 1) * 16 ≤ (140737488355328 : Nat) ∧ (mgK (srt l) k).length + 1 ≤ (9223372036854775807 : Nat) ∧ InI64 ((↑k : Int) + 1) ∧ ∃ (j7 : Nat), ((((mgK (srt l) k).length + 1 = (mgK (srt l) j7).length ∧ (0 : Nat) = 0 ∧ (mgK (srt l) k).length + 1 = (mgK (srt l) j7).length) ∧ (l.length = l.length ∧ (0 : Nat) = 0 ∧ l.length = l.length) ∧ (↑(srt l).length : Int) = (↑(srt l).length : Int) ∧ (↑k : Int) + 1
 = (↑j7 : Int) ∧ True) ∧ (s = s ∧ a = a ∧ b = b ∧ c = c) ∧ List.map encSp (srt l) = List.map encSp (srt l) ∧ List.map encSp (mgK (srt l) k) ++ [AV.agg [intA x4.f, intA x4.t]] = List.map encSp (mgK (srt l) j7)) ∧ (j7 ≤ (srt l).length ∧ (mgK (srt l) j7).length ≤ j7) ∧ (srt l).length - j7 < (srt l).length - k) ∧ (decide ((↑(mgK (srt l) k).length : Int) = 0) = false → InI64 ((↑(mgK (srt l) k).length : Int) - 1) ∧ (List.map encSp (mgK (srt l) k)).length = (mgK (srt l) k).length ∧ (↑(mgK (srt l) k).length : Int) - 1 = (↑((↑(mgK (srt l) k).length : Int) - 1).toNat : Int) ∧ ((↑(mgK (srt l) k).length : Int) - 1).toNat < (mgK (srt l) k).length ∧ (List.map encSp (mgK (srt l) k)).length = (mgK (srt l) k).length ∧ List.map encSp (mgK (srt l) k) = List.map encSp (mgK (srt l) k) ∧ (List.map encSp (mgK (srt l) k)).length = (mgK (srt l) k).length ∧ (0 : Nat) + ((↑(mgK (srt l) k).length : Int) - 1).toNat = 0 + ((↑(mgK (srt l) k).length : Int) - 1).toNat ∧ (0 : Nat) + ((↑(mgK (srt l) k).length : Int) - 1).toNat < (mgK (srt l) k).length ∧ ∀ (x9 : Sp), (mgK (srt l) k)[(0 : Nat) + ((↑(mgK (srt l) k).length : Int) - 1).toNat]?
 = some x9 → ((!decide (x9.t = 0)) = true → InI64 (x4.f - 1) ∧ InI64 ((↑(mgK (srt l) k).length : Int) - 1) ∧ (List.map encSp (mgK (srt l) k)).length = (mgK (srt l) k).length ∧ (↑(mgK (srt l) k).length : Int) - 1 = (↑((↑(mgK (srt l) k).length : Int) - 1).toNat : Int) ∧ ((↑(mgK (srt l) k).length : Int) - 1).toNat < (mgK (srt l) k).length ∧ (List.map encSp (mgK (srt l) k)).length = (mgK (srt l) k).length ∧ List.map encSp (mgK (srt l) k) = List.map encSp (mgK (srt l) k) ∧ (List.map encSp (mgK (srt l) k)).length = (mgK (srt l) k).length ∧ (0 : Nat) + ((↑(mgK (srt l) k).length : Int) - 1).toNat = 0 + ((↑(mgK (srt l) k).length : Int) - 1).toNat ∧ (0 : Nat) + ((↑(mgK (srt l) k).length : Int) - 1).toNat < (mgK (srt l) k).length ∧ ∀ (x12 : Sp), (mgK (srt l) k)[(0 : Nat) + ((↑(mgK (srt l) k).length : Int) - 1).toNat]? = some x12 → (decide (x12.t < x4.f - 1) = true → (List.map encSp (mgK (srt l) k)).length = (mgK (srt l) k).length ∧ (0 : Nat) = 0 ∧ (mgK (srt l) k).length = (mgK (srt l) k).length ∧ (mgK (srt l) k).length + [AV.agg [intA x4.f, intA x4.t]].length = (mgK (srt l) k).length + 1
 ∧ ((mgK (srt l) k).length + 1) * 16 ≤ (140737488355328 : Nat) ∧ (mgK (srt l) k).length + 1 ≤ (9223372036854775807 : Nat) ∧ InI64 ((↑k : Int) + 1) ∧ ∃ (j15 : Nat), ((((mgK (srt l) k).length + 1 = (mgK (srt l) j15).length ∧ (0 : Nat) = 0 ∧ (mgK (srt l) k).length + 1 = (mgK (srt l) j15).length) ∧ (l.length = l.length ∧ (0 : Nat) = 0 ∧ l.length = l.length) ∧ (↑(srt l).length : Int) = (↑(srt l).length : Int) ∧ (↑k : Int) + 1 = (↑j15 : Int) ∧ True) ∧ (s = s ∧ a = a ∧ b = b ∧ c = c) ∧ List.map encSp (srt l) = List.map encSp (srt l) ∧ List.map encSp (mgK (srt l) k) ++ [AV.agg [intA x4.f, intA x4.t]] = List.map encSp (mgK (srt l) j15)) ∧ (j15 ≤ (srt l).length ∧ (mgK (srt l) j15).length ≤ j15) ∧ (srt l).length - j15 < (srt l).length - k) ∧ (decide (x12.t < x4.f - 1) = false → InI64 ((↑(mgK (srt l) k).length : Int) - 1) ∧ (List.map encSp (mgK (srt l) k)).length = (mgK (srt l) k).length ∧ (↑(mgK (srt l) k).length : Int) - 1 = (↑((↑(mgK (srt l) k).length : Int) - 1).toNat : Int) ∧ ((↑(mgK (srt l) k).length : Int) - 1).toNat < (mgK (srt l) k).length ∧ (List.map encSp (mgK (srt l) k)).length
 = (mgK (srt l) k).length ∧ (List.map encSp (mgK (srt l) k)).length = (mgK (srt l) k).length ∧ List.map encSp (mgK (srt l) k) = List.map encSp (mgK (srt l) k) ∧ (List.map encSp (mgK (srt l) k)).length = (mgK (srt l) k).length ∧ (0 : Nat) + ((↑(mgK (srt l) k).length : Int) - 1).toNat = 0 + ((↑(mgK (srt l) k).length : Int) - 1).toNat ∧ (0 : Nat) + ((↑(mgK (srt l) k).length : Int) - 1).toNat < (mgK (srt l) k).length ∧ ∀ (x17 : Sp), (mgK (srt l) k)[(0 : Nat) + ((↑(mgK (srt l) k).length : Int) - 1).toNat]? = some x17 → ((!decide (x17.t = 0)) = true → (List.map encSp (mgK (srt l) k)).length = (mgK (srt l) k).length ∧ (List.map encSp (mgK (srt l) k)).length = (mgK (srt l) k).length ∧ List.map encSp (mgK (srt l) k) = List.map encSp (mgK (srt l) k) ∧ (List.map encSp (mgK (srt l) k)).length = (mgK (srt l) k).length ∧ (0 : Nat) + ((↑(mgK (srt l) k).length : Int) - 1).toNat = 0 + ((↑(mgK (srt l) k).length : Int) - 1).toNat ∧ (0 : Nat) + ((↑(mgK (srt l) k).length : Int) - 1).toNat < (mgK (srt l) k).length ∧ ∀ (x20 : Sp), (mgK (srt l) k)[(0 : Nat) + ((↑(mgK (srt l) k).length : Int) - 1).toNat]? = some x20 → (List.map
 encSp (mgK (srt l) k)).length = (mgK (srt l) k).length ∧ (List.map encSp (mgK (srt l) k)).length = (mgK (srt l) k).length ∧ List.map encSp (mgK (srt l) k) = List.map encSp (mgK (srt l) k) ∧ (List.map encSp (mgK (srt l) k)).length = (mgK (srt l) k).length ∧ (0 : Nat) + ((↑(mgK (srt l) k).length : Int) - 1).toNat = 0 + ((↑(mgK (srt l) k).length : Int) - 1).toNat ∧ (0 : Nat) + ((↑(mgK (srt l) k).length : Int) - 1).toNat < (mgK (srt l) k).length ∧ ∀ (x22 : Sp), (mgK (srt l) k)[(0 : Nat) + ((↑(mgK (srt l) k).length : Int) - 1).toNat]? = some x22 → (decide (x4.t = 0) = true → ((List.map encSp (mgK (srt l) k)).set ((0 : Nat) + ((↑(mgK (srt l) k).length : Int) - 1).toNat) (AV.agg (setAt [intA x22.f, intA x22.t] ((0 : Nat) + 1) [AV.val (Value.int IntKind.i64 (if x4.t > x20.t then x4.t else x20.t))]))).length = (mgK (srt l) k).length ∧ ((List.map encSp (mgK (srt l) k)).set ((0 : Nat) + ((↑(mgK (srt l) k).length : Int) - 1).toNat) (AV.agg (setAt [intA x22.f, intA x22.t] ((0 : Nat) + 1) [AV.val (Value.int IntKind.i64 (if x4.t > x20.t then x4.t else x20.t))]))).length = (mgK (srt l) k).length ∧ (List.map encSp (mgK (srt
 l) k)).set ((0 : Nat) + ((↑(mgK (srt l) k).length : Int) - 1).toNat) (AV.agg (setAt [intA x22.f, intA x22.t] ((0 : Nat) + 1) [AV.val (Value.int IntKind.i64 (if x4.t > x20.t then x4.t else x20.t))])) = List.map encSp ((mgK (srt l) k).set ((0 : Nat) + ((↑(mgK (srt l) k).length : Int) - 1).toNat) (Sp.mk x22.f (if x4.t > x20.t then x4.t else x20.t))) ∧ ((List.map encSp (mgK (srt l) k)).set ((0 : Nat) + ((↑(mgK (srt l) k).length : Int) - 1).toNat) (AV.agg (setAt [intA x22.f, intA x22.t] ((0 : Nat) + 1) [AV.val (Value.int IntKind.i64 (if x4.t > x20.t then x4.t else x20.t))]))).length = (mgK (srt l) k).length ∧ (0 : Nat) + ((↑(mgK (srt l) k).length : Int) - 1).toNat = 0 + ((↑(mgK (srt l) k).length : Int) - 1).toNat ∧ (0 : Nat) + ((↑(mgK (srt l) k).length : Int) - 1).toNat < ((mgK (srt l) k).set ((0 : Nat) + ((↑(mgK (srt l) k).length : Int) - 1).toNat) (Sp.mk x22.f (if x4.t > x20.t then x4.t else x20.t))).length ∧ ∀ (x25 : Sp), ((mgK (srt l) k).set ((0 : Nat) + ((↑(mgK (srt l) k).length : Int) - 1).toNat) (Sp.mk x22.f (if x4.t > x20.t then x4.t else x20.t)))[(0 : Nat) + ((↑(mgK (srt l) k).length : Int) -
 (1 : Int)).toNat]? = some x25 → InI64 ((↑k : Int) + 1) ∧ ∃ (j27 : Nat), ((((mgK (srt l) k).length = (mgK (srt l) j27).length ∧ (0 : Nat) = 0 ∧ (mgK (srt l) k).length = (mgK (srt l) j27).length) ∧ (l.length = l.length ∧ (0 : Nat) = 0 ∧ l.length = l.length) ∧ (↑(srt l).length : Int) = (↑(srt l).length : Int) ∧ (↑k : Int) + 1 = (↑j27 : Int) ∧ True) ∧ (s = s ∧ a = a ∧ b = b ∧ c = c) ∧ List.map encSp (srt l) = List.map encSp (srt l) ∧ ((List.map encSp (mgK (srt l) k)).set ((0 : Nat) + ((↑(mgK (srt l) k).length : Int) - 1).toNat) (AV.agg (setAt [intA x22.f, intA x22.t] ((0 : Nat) + 1) [AV.val (Value.int IntKind.i64 (if x4.t > x20.t then x4.t else x20.t))]))).set ((0 : Nat) + ((↑(mgK (srt l) k).length : Int) - 1).toNat) (AV.agg (setAt [intA x25.f, intA x25.t] ((0 : Nat) + 1) [intA 0])) = List.map encSp (mgK (srt l) j27)) ∧ (j27 ≤ (srt l).length ∧ (mgK (srt l) j27).length ≤ j27) ∧ (srt l).length - j27 < (srt l).length - k) ∧ (decide (x4.t = 0) = false → InI64 ((↑k : Int) + 1) ∧ ∃ (j29 : Nat), ((((mgK (srt l) k).length = (mgK (srt l) j29).length ∧ (0 : Nat) = 0 ∧ (mgK (srt l) k).length = (mgK (srt
 l) j29).length) ∧ (l.length = l.length ∧ (0 : Nat) = 0 ∧ l.length = l.length) ∧ (↑(srt l).length : Int) = (↑(srt l).length : Int) ∧ (↑k : Int) + 1 = (↑j29 : Int) ∧ True) ∧ (s = s ∧ a = a ∧ b = b ∧ c = c) ∧ List.map encSp (srt l) = List.map encSp (srt l) ∧ (List.map encSp (mgK (srt l) k)).set ((0 : Nat) + ((↑(mgK (srt l) k).length : Int) - 1).toNat) (AV.agg (setAt [intA x22.f, intA x22.t] ((0 : Nat) + 1) [AV.val (Value.int IntKind.i64 (if x4.t > x20.t then x4.t else x20.t))])) = List.map encSp (mgK (srt l) j29)) ∧ (j29 ≤ (srt l).length ∧ (mgK (srt l) j29).length ≤ j29) ∧ (srt l).length - j29 < (srt l).length - k)) ∧ ((!decide (x17.t = 0)) = false → InI64 ((↑k : Int) + 1) ∧ ∃ (j31 : Nat), ((((mgK (srt l) k).length = (mgK (srt l) j31).length ∧ (0 : Nat) = 0 ∧ (mgK (srt l) k).length = (mgK (srt l) j31).length) ∧ (l.length = l.length ∧ (0 : Nat) = 0 ∧ l.length = l.length) ∧ (↑(srt l).length : Int) = (↑(srt l).length : Int) ∧ (↑k : Int) + 1 = (↑j31 : Int) ∧ True) ∧ (s = s ∧ a = a ∧ b = b ∧ c = c) ∧ List.map encSp (srt l) = List.map encSp (srt l) ∧ List.map encSp (mgK (srt l) k) = List.map encSp (mgK (srt l) j31)) ∧ (j31
 ≤ (srt l).length ∧ (mgK (srt l) j31).length ≤ j31) ∧ (srt l).length - j31 < (srt l).length - k))) ∧ ((!decide (x9.t = 0)) = false → false = false ∧ InI64 ((↑(mgK (srt l) k).length : Int) - 1) ∧ (List.map encSp (mgK (srt l) k)).length = (mgK (srt l) k).length ∧ (↑(mgK (srt l) k).length : Int) - 1 = (↑((↑(mgK (srt l) k).length : Int) - 1).toNat : Int) ∧ ((↑(mgK (srt l) k).length : Int) - 1).toNat < (mgK (srt l) k).length ∧ (List.map encSp (mgK (srt l) k)).length = (mgK (srt l) k).length ∧ (List.map encSp (mgK (srt l) k)).length = (mgK (srt l) k).length ∧ List.map encSp (mgK (srt l) k) = List.map encSp (mgK (srt l) k) ∧ (List.map encSp (mgK (srt l) k)).length = (mgK (srt l) k).length ∧ (0 : Nat) + ((↑(mgK (srt l) k).length : Int) - 1).toNat = 0 + ((↑(mgK (srt l) k).length : Int) - 1).toNat ∧ (0 : Nat) + ((↑(mgK (srt l) k).length : Int) - 1).toNat < (mgK (srt l) k).length ∧ ∀ (x33 : Sp), (mgK (srt l) k)[(0 : Nat) + ((↑(mgK (srt l) k).length : Int) - 1).toNat]? = some x33 → ((!decide (x33.t = 0)) = true → (List.map encSp (mgK (srt l) k)).length = (mgK (srt l) k).length ∧ (List.map encSp (mgK (srt l) k)).length
 = (mgK (srt l) k).length ∧ List.map encSp (mgK (srt l) k) = List.map encSp (mgK (srt l) k) ∧ (List.map encSp (mgK (srt l) k)).length = (mgK (srt l) k).length ∧ (0 : Nat) + ((↑(mgK (srt l) k).length : Int) - 1).toNat = 0 + ((↑(mgK (srt l) k).length : Int) - 1).toNat ∧ (0 : Nat) + ((↑(mgK (srt l) k).length : Int) - 1).toNat < (mgK (srt l) k).length ∧ ∀ (x36 : Sp), (mgK (srt l) k)[(0 : Nat) + ((↑(mgK (srt l) k).length : Int) - 1).toNat]? = some x36 → (List.map encSp (mgK (srt l) k)).length = (mgK (srt l) k).length ∧ (List.map encSp (mgK (srt l) k)).length = (mgK (srt l) k).length ∧ List.map encSp (mgK (srt l) k) = List.map encSp (mgK (srt l) k) ∧ (List.map encSp (mgK (srt l) k)).length = (mgK (srt l) k).length ∧ (0 : Nat) + ((↑(mgK (srt l) k).length : Int) - 1).toNat = 0 + ((↑(mgK (srt l) k).length : Int) - 1).toNat ∧ (0 : Nat) + ((↑(mgK (srt l) k).length : Int) - 1).toNat < (mgK (srt l) k).length ∧ ∀ (x38 : Sp), (mgK (srt l) k)[(0 : Nat) + ((↑(mgK (srt l) k).length : Int) - 1).toNat]? = some x38 → (decide (x4.t = 0) = true → ((List.map encSp (mgK (srt l) k)).set ((0 : Nat) + ((↑(mgK (srt l) k).length
 : Int) - 1).toNat) (AV.agg (setAt [intA x38.f, intA x38.t] ((0 : Nat) + 1) [AV.val (Value.int IntKind.i64 (if x4.t > x36.t then x4.t else x36.t))]))).length = (mgK (srt l) k).length ∧ ((List.map encSp (mgK (srt l) k)).set ((0 : Nat) + ((↑(mgK (srt l) k).length : Int) - 1).toNat) (AV.agg (setAt [intA x38.f, intA x38.t] ((0 : Nat) + 1) [AV.val (Value.int IntKind.i64 (if x4.t > x36.t then x4.t else x36.t))]))).length = (mgK (srt l) k).length ∧ (List.map encSp (mgK (srt l) k)).set ((0 : Nat) + ((↑(mgK (srt l) k).length : Int) - 1).toNat) (AV.agg (setAt [intA x38.f, intA x38.t] ((0 : Nat) + 1) [AV.val (Value.int IntKind.i64 (if x4.t > x36.t then x4.t else x36.t))])) = List.map encSp ((mgK (srt l) k).set ((0 : Nat) + ((↑(mgK (srt l) k).length : Int) - 1).toNat) (Sp.mk x38.f (if x4.t > x36.t then x4.t else x36.t))) ∧ ((List.map encSp (mgK (srt l) k)).set ((0 : Nat) + ((↑(mgK (srt l) k).length : Int) - 1).toNat) (AV.agg (setAt [intA x38.f, intA x38.t] ((0 : Nat) + 1) [AV.val (Value.int IntKind.i64 (if x4.t > x36.t then x4.t else x36.t))]))).length = (mgK (srt l) k).length ∧ (0 : Nat) + ((↑(mgK (srt l) k).length : Int) -
 (1 : Int)).toNat = 0 + ((↑(mgK (srt l) k).length : Int) - 1).toNat ∧ (0 : Nat) + ((↑(mgK (srt l) k).length : Int) - 1).toNat < ((mgK (srt l) k).set ((0 : Nat) + ((↑(mgK (srt l) k).length : Int) - 1).toNat) (Sp.mk x38.f (if x4.t > x36.t then x4.t else x36.t))).length ∧ ∀ (x41 : Sp), ((mgK (srt l) k).set ((0 : Nat) + ((↑(mgK (srt l) k).length : Int) - 1).toNat) (Sp.mk x38.f (if x4.t > x36.t then x4.t else x36.t)))[(0 : Nat) + ((↑(mgK (srt l) k).length : Int) - 1).toNat]? = some x41 → InI64 ((↑k : Int) + 1) ∧ ∃ (j43 : Nat), ((((mgK (srt l) k).length = (mgK (srt l) j43).length ∧ (0 : Nat) = 0 ∧ (mgK (srt l) k).length = (mgK (srt l) j43).length) ∧ (l.length = l.length ∧ (0 : Nat) = 0 ∧ l.length = l.length) ∧ (↑(srt l).length : Int) = (↑(srt l).length : Int) ∧ (↑k : Int) + 1 = (↑j43 : Int) ∧ True) ∧ (s = s ∧ a = a ∧ b = b ∧ c = c) ∧ List.map encSp (srt l) = List.map encSp (srt l) ∧ ((List.map encSp (mgK (srt l) k)).set ((0 : Nat) + ((↑(mgK (srt l) k).length : Int) - 1).toNat) (AV.agg (setAt [intA x38.f, intA x38.t] ((0 : Nat) + 1) [AV.val (Value.int IntKind.i64 (if x4.t > x36.t then x4.t else x36.t))]))).set
 ((0 : Nat) + ((↑(mgK (srt l) k).length : Int) - 1).toNat) (AV.agg (setAt [intA x41.f, intA x41.t] ((0 : Nat) + 1) [intA 0])) = List.map encSp (mgK (srt l) j43)) ∧ (j43 ≤ (srt l).length ∧ (mgK (srt l) j43).length ≤ j43) ∧ (srt l).length - j43 < (srt l).length - k) ∧ (decide (x4.t = 0) = false → InI64 ((↑k : Int) + 1) ∧ ∃ (j45 : Nat), ((((mgK (srt l) k).length = (mgK (srt l) j45).length ∧ (0 : Nat) = 0 ∧ (mgK (srt l) k).length = (mgK (srt l) j45).length) ∧ (l.length = l.length ∧ (0 : Nat) = 0 ∧ l.length = l.length) ∧ (↑(srt l).length : Int) = (↑(srt l).length : Int) ∧ (↑k : Int) + 1 = (↑j45 : Int) ∧ True) ∧ (s = s ∧ a = a ∧ b = b ∧ c = c) ∧ List.map encSp (srt l) = List.map encSp (srt l) ∧ (List.map encSp (mgK (srt l) k)).set ((0 : Nat) + ((↑(mgK (srt l) k).length : Int) - 1).toNat) (AV.agg (setAt [intA x38.f, intA x38.t] ((0 : Nat) + 1) [AV.val (Value.int IntKind.i64 (if x4.t > x36.t then x4.t else x36.t))])) = List.map encSp (mgK (srt l) j45)) ∧ (j45 ≤ (srt l).length ∧ (mgK (srt l) j45).length ≤ j45) ∧ (srt l).length - j45 < (srt l).length - k)) ∧ ((!decide (x33.t = 0)) = false → InI64 ((↑k : Int)
 + (1 : Int)) ∧ ∃ (j47 : Nat), ((((mgK (srt l) k).length = (mgK (srt l) j47).length ∧ (0 : Nat) = 0 ∧ (mgK (srt l) k).length = (mgK (srt l) j47).length) ∧ (l.length = l.length ∧ (0 : Nat) = 0 ∧ l.length = l.length) ∧ (↑(srt l).length : Int) = (↑(srt l).length : Int) ∧ (↑k : Int) + 1 = (↑j47 : Int) ∧ True) ∧ (s = s ∧ a = a ∧ b = b ∧ c = c) ∧ List.map encSp (srt l) = List.map encSp (srt l) ∧ List.map encSp (mgK (srt l) k) = List.map encSp (mgK (srt l) j47)) ∧ (j47 ≤ (srt l).length ∧ (mgK (srt l) j47).length ≤ j47) ∧ (srt l).length - j47 < (srt l).length - k)))) ∧ (decide ((↑k : Int) < (↑(srt l).length : Int)) = false → ((mgK (srt l) k).length = (mg (srt l)).length ∧ (0 : Nat) = 0 ∧ (mgK (srt l) k).length = (mg (srt l)).length) ∧ (s = s ∧ a = a ∧ b = b ∧ c = c) ∧ List.map encSp (srt l) = List.map encSp (srt l) ∧ List.map encSp (mgK (srt l) k) = List.map encSp (mg (srt l))))) ?_
 refine ⟨(hS _ _ _ _ _ _ ho ⟨hne, hn⟩ (by exact rfl) (by exact rfl) (by exact rfl)), ?_, ?_, ⟨(0 : Nat), ⟨⟨⟨rfl, rfl, rfl⟩, ⟨rfl, rfl, rfl⟩, rfl, (by omega), trivial⟩, ⟨rfl, rfl, rfl, rfl⟩, rfl, rfl⟩, ⟨(by omega), ?_⟩⟩, fun k => fun h2 => have h2a := h2.1; have h2b := h2.2; ⟨fun h3_ => have h3 := dT h3_; ⟨?_, rfl, (by omega), rfl, ?_, rfl, (by omega), fun x4 => fun h5 => ⟨(by simp), (by simp), fun h6_ => have h6 := dT h6_; ⟨rfl, (by simp), rfl, rfl, rfl, (by omega), (by omega), (by unfold InI64; omega), ⟨k + (1 : Nat), ⟨⟨⟨?_, rfl, ?_⟩, ⟨rfl, rfl, rfl⟩, rfl, (by omega), trivial⟩, ⟨rfl, rfl, rfl, rfl⟩, rfl, ?_⟩, ⟨⟨(by omega), ?_⟩, (by omega)⟩⟩⟩, fun h8_ => have h8 := dF h8_; ⟨(by unfold InI64; omega), (by simp), (by omega), (by omega), (by simp), rfl, (by simp), rfl, (by omega), fun x9 => fun h10 => ⟨fun h11_ => have h11 := dnT h11_; ⟨?_, (by unfold InI64; omega), (by simp), (by omega), (by omega), (by simp), rfl, (by simp), rfl, (by omega), fun x12 => fun h13 => ⟨fun h14_ => have h14 := dT h14_; ⟨(by simp), rfl, rfl, rfl, (by omega), (by omega), (by unfold InI64; omega), ⟨k + (1 : Nat), ⟨⟨⟨?_, rfl, ?_⟩, ⟨rfl, rfl, rfl⟩, rfl, (by omega), trivial⟩, ⟨rfl, rfl, rfl, rfl⟩, rfl, ?_⟩, ⟨⟨(by omega), ?_⟩, (by omega)⟩⟩⟩, fun h16_ => have h16 := dF h16_; ⟨(by unfold InI64; omega), (by simp), (by omega), (by omega), (by simp), (by simp), rfl, (by simp), rfl, (by omega), fun x17 => fun h18 => ⟨fun h19_ => have h19 := dnT h19_; ⟨(by simp), (by simp), rfl, (by simp), rfl, (by omega), fun x20 => fun h21 => ⟨(by simp), (by simp), rfl, (by simp), rfl, (by omega), fun x22 => fun h23 => ⟨fun h24_ => have h24 := dT h24_; ⟨(by simp), (by simp), ?_, (by simp), rfl, (by simp; omega), fun x25 => fun h26 => ⟨(by unfold InI64; omega), ⟨k + (1 : Nat), ⟨⟨⟨?_, rfl, ?_⟩, ⟨rfl, rfl, rfl⟩, rfl, (by omega), trivial⟩, ⟨rfl, rfl, rfl, rfl⟩, rfl, ?_⟩, ⟨⟨(by omega), ?_⟩, (by omega)⟩⟩⟩⟩, fun h28_ => have h28 := dF h28_; ⟨(by unfold InI64; omega), ⟨k + (1 : Nat), ⟨⟨⟨?_, rfl, ?_⟩, ⟨rfl, rfl, rfl⟩, rfl, (by omega), trivial⟩, ⟨rfl, rfl, rfl, rfl⟩, rfl, ?_⟩, ⟨⟨(by omega), ?_⟩, (by omega)⟩⟩⟩⟩⟩⟩, fun h30_ => have h30 := dnF h30_; ⟨(by unfold InI64; omega), ⟨k + (1 : Nat), ⟨⟨⟨?_, rfl, ?_⟩, ⟨rfl, rfl, rfl⟩, rfl, (by omega), trivial⟩, ⟨rfl, rfl, rfl, rfl⟩, rfl, ?_⟩, ⟨⟨(by omega), ?_⟩, (by omega)⟩⟩⟩⟩⟩⟩⟩, fun h32_ => have h32 := dnF h32_; ⟨rfl, (by unfold InI64; omega), (by simp), (by omega), (by omega), (by simp), (by simp), rfl, (by simp), rfl, (by omega), fun x33 => fun h34 => ⟨fun h35_ => have h35 := dnT h35_; ⟨(by simp), (by simp), rfl, (by simp), rfl, (by omega), fun x36 => fun h37 => ⟨(by simp), (by simp), rfl, (by simp), rfl, (by omega), fun x38 => fun h39 => ⟨fun h40_ => have h40 := dT h40_; ⟨(by simp), (by simp), ?_, (by simp), rfl, (by simp; omega), fun x41 => fun h42 => ⟨(by unfold InI64; omega), ⟨k + (1 : Nat), ⟨⟨⟨?_, rfl, ?_⟩, ⟨rfl, rfl, rfl⟩, rfl, (by omega), trivial⟩, ⟨rfl, rfl, rfl, rfl⟩, rfl, ?_⟩, ⟨⟨(by omega), ?_⟩, (by omega)⟩⟩⟩⟩, fun h44_ => have h44 := dF h44_; ⟨(by unfold InI64; omega), ⟨k + (1 : Nat), ⟨⟨⟨?_, rfl, ?_⟩, ⟨rfl, rfl, rfl⟩, rfl, (by omega), trivial⟩, ⟨rfl, rfl, rfl, rfl⟩, rfl, ?_⟩, ⟨⟨(by omega), ?_⟩, (by omega)⟩⟩⟩⟩⟩⟩, fun h46_ => have h46 := dnF h46_; ⟨(by unfold InI64; omega), ⟨k + (1 : Nat), ⟨⟨⟨?_, rfl, ?_⟩, ⟨rfl, rfl, rfl⟩, rfl, (by omega), trivial⟩, ⟨rfl, rfl, rfl, rfl⟩, rfl, ?_⟩, ⟨⟨(by omega), ?_⟩, (by omega)⟩⟩⟩⟩⟩⟩⟩⟩⟩, fun h48_ => have h48 := dF h48_; ⟨⟨?_, rfl, ?_⟩, ⟨rfl, rfl, rfl, rfl⟩, rfl, ?_⟩⟩⟩
 all_goals try simp only [Nat.zero_add, toNat_pred, List.drop_zero] at *
 ·rw [List.length_map]; exact hL
 ·rw [List.length_take, List.length_map]; omega
 ·exact Nat.le_refl _
 iterate 2 · rw [List.length_map]; exact hL
 iterate 3 · rw [mgK_e h5 (by omega)]; simp [encSp]
 ·exact mgK_len _ _ (by omega)
 ·have := hl _ (List.mem_of_getElem? h5)
  have h1 := this.lo
  have h2 := this.hi
  unfold InI64; omega
 all_goals try obtain rfl := same_at h10 h13
 iterate 3 · rw [mgK_a h5 h10 h11 h14]; simp [encSp]
 ·exact mgK_len _ _ (by omega)
 all_goals try obtain rfl := same_at h10 h18
 all_goals try obtain rfl := same_at h18 h21
 all_goals try obtain rfl := same_at h18 h23
 ·exact encSp_set _ _ _ _
 iterate 2 · rw [mgK_j h5 h18 h11 h16]; simp
 ·have hlt := (List.getElem?_eq_some_iff.1 h18).1
  rw [List.getElem?_set_self hlt] at h26
  obtain rfl := Option.some.inj h26
  rw [mgK_j h5 h18 h11 h16, if_pos h24, ← encSp_set, List.set_set]; rfl
 ·exact mgK_len _ _ (by omega)
 iterate 2 · rw [mgK_j h5 h18 h11 h16]; simp
 ·rw [mgK_j h5 h18 h11 h16, if_neg h28]; exact encSp_set _ _ _ _
 ·exact mgK_len _ _ (by omega)
 iterate 3 · exact absurd h30 h11
 ·exact mgK_len _ _ (by omega)
 all_goals try obtain rfl := same_at h10 h34
 iterate 9 · exact absurd h32 h35
 iterate 3 · rw [mgK_k h5 h10 h32]
 ·exact mgK_len _ _ (by omega)
 all_goals rw [mgK_end _ (k := k) (by omega)]
theorem normalA_run {srt : List Sp → List Sp} (hS : SortC X srt) (l : List Sp) (f t : Int) (hn : (l ++ [(⟨f, t⟩ : Sp)]).length ≤ 100000) (ho : ∀ x ∈ l ++ [(⟨f, t⟩ : Sp)], SpOk x) (hL : (srt (l ++ [⟨f, t⟩])).length = (l ++ [(⟨f, t⟩ : Sp)]).length) (hl : ∀ x ∈ srt (l ++ [⟨f, t⟩]), SpOk x) (a b c : Int) (s : Bs) : (R FT X).m 32 [.row 1 0 (l.length + 1) 0 (l.length + 1)] [.box 54 [strL s, intA a, intA b, intA c], .row 0 2 (l.map encSp ++ [.agg [intA f, intA t]]) true 1] = some (.row 2 0 (mg (srt (l ++ [⟨f, t⟩]))).length 0 (mg (srt (l ++ [⟨f, t⟩]))).length, [.box 54 [strL s, intA a, intA b, intA c], .row 0 2 ((srt (l ++ [⟨f, t⟩])).map encSp) true 1, .row 0 2 ((mg (srt (l ++ [⟨f, t⟩]))).map encSp) true 1]) := by
 have h := normal_run hS (l ++ [⟨f, t⟩]) hn ho (by simp) hL hl a b c s
 rw [List.length_append, List.map_append] at h
 exact h
theorem elementE_run (hc : NumC X) (s : Bs) (hs : s.length ≤ 281474976710656) (a : Nat) (ha : a ≤ s.length) (E B : Int) (hE : E = 0) (hB : B = 0) (L : List AV) : (R FT X).m 31 [.ptr 0 0] [.box 54 [strL s, intA a, intA E, intA B], .row 0 2 L true 1] = some (encSp (el s a).sp, [.box 54 [strL s, intA (el s a).a, intA (el s a).e, intA (el s a).b], .row 0 2 L true 1, .box 50 [intA (el s a).sp.f, intA (el s a).sp.t]]) := by
 subst hE hB; exact element_run hc s hs a ha L
theorem parse1_run {srt : List Sp → List Sp} (hc : NumC X) (hS : SortC X srt) (hL : ∀ l, (srt l).length = l.length) (hl : ∀ l, (∀ x ∈ l, SpOk x) → ∀ x ∈ srt l, SpOk x) (s : Bs) (hs : s.length ≤ 281474976710656) : (R FT X).f 10 [strL s] = some (.tuple [.slice 2 ((plO (fun l => mg (srt l)) (pl s)).map encSp), intA (plE (pl s)), intA (plB (pl s))]) := by
 have hm := maxLen_i64
 have hm2 := maxLen_le
 have er := elementE_run hc s hs
 have nr := fun l f t hn ho => normalA_run hS l f t hn ho (hL _) (hl _ ho)
 refine R_wp ((Tr.inv (fun (k : Nat × Int × Int) ↦ St.mk [(0, strL s), (5, AV.ptr 0 0), (6, AV.row 1 0 (plL s k.fst).length (0 : Nat) (plL s k.fst).length)] [MObj.box 54 [strL s, intA (↑(plA s k.fst) : Int), intA k.snd.fst, intA k.snd.snd], MObj.row 0 2 (List.map encSp (plL s k.fst)) true (1 : Nat)]) (fun (k : Nat × Int × Int) ↦ k.snd.fst = 0 ∧ k.snd.snd = 0 ∧ PlI s k.fst ∨ k.snd.fst = 1 ∧ pl s = PlR.bad (1 : Int) k.snd.snd ∧ k.fst ≤ 1024) (fun (k : Nat × Int × Int) ↦ List.length s + 3 - k.fst) fun (k : Nat × Int × Int) ↦ ((Tr.cut (fun (v4 : Cut (4 : Nat) Unit) ↦ St.mk [(0, strL s), (5, AV.ptr 0 0), (6, AV.row 1 0 (plL s k.fst).length (0 : Nat) (plL s k.fst).length)] [MObj.box 54 [strL s, intA (↑(plA s k.fst) : Int), intA k.snd.fst, intA k.snd.snd], MObj.row 0 2 (List.map encSp (plL s k.fst)) true (1 : Nat)]) (fun (v4 : Cut (4 : Nat) Unit) ↦ (∃ (v5 : Cut (5 : Nat) Bool), ∃ (c21 : UInt8), (↑(plL s k.fst).length : Int) = 1024 ∧ ((∃ (c6 : UInt8), ∃ (c9 : UInt8), (↑(plA s k.fst) : Int) < (↑(List.length
 s) : Int) ∧ s[plA s k.fst]? = some c6 ∧ (48 : Int) ≤ (↑c6.toNat : Int) ∧ s[plA s k.fst]? = some c9 ∧ v5 = decide ((↑c9.toNat : Int) ≤ 57)) ∨ (∃ (c6 : UInt8), (↑(plA s k.fst) : Int) < (↑(List.length s) : Int) ∧ s[plA s k.fst]? = some c6 ∧ ¬(48 : Int) ≤ (↑c6.toNat : Int) ∧ v5 = false) ∨ ¬(↑(plA s k.fst) : Int) < (↑(List.length s) : Int) ∧ v5 = false) ∧ v5 = false ∧ (↑(plA s k.fst) : Int) < (↑(List.length s) : Int) ∧ s[plA s k.fst]? = some c21 ∧ ¬(↑c21.toNat : Int) = 45) ∨ (∃ (v5 : Cut (5 : Nat) Bool), (↑(plL s k.fst).length : Int) = 1024 ∧ ((∃ (c6 : UInt8), ∃ (c9 : UInt8), (↑(plA s k.fst) : Int) < (↑(List.length s) : Int) ∧ s[plA s k.fst]? = some c6 ∧ (48 : Int) ≤ (↑c6.toNat : Int) ∧ s[plA s k.fst]? = some c9 ∧ v5 = decide ((↑c9.toNat : Int) ≤ 57)) ∨ (∃ (c6 : UInt8), (↑(plA s k.fst) : Int) < (↑(List.length s) : Int) ∧ s[plA s k.fst]? = some c6 ∧ ¬(48 : Int) ≤ (↑c6.toNat : Int) ∧ v5 = false) ∨ ¬(↑(plA s k.fst) : Int) < (↑(List.length s) : Int) ∧ v5 = false) ∧ v5 = false ∧ ¬(↑(plA s k.fst) : Int) < (↑(List.length s) : Int)) ∨ ¬(↑(plL s k.fst).length : Int) = 1024) (Tr.k (plL s k.fst).length ((Tr.cut (fun (v5 : Cut (5 : Nat) Bool) ↦ St.mk [((2 : Nat),
 AV.val (Value.bool v5))] [MObj.box 54 [strL s, intA (↑(plA s k.fst) : Int), intA k.snd.fst, intA k.snd.snd], MObj.row 0 2 (List.map encSp (plL s k.fst)) true (1 : Nat)]) (fun (v5 : Cut (5 : Nat) Bool) ↦ (∃ (c6 : UInt8), ∃ (c9 : UInt8), (↑(plA s k.fst) : Int) < (↑(List.length s) : Int) ∧ s[plA s k.fst]? = some c6 ∧ (48 : Int) ≤ (↑c6.toNat : Int) ∧ s[plA s k.fst]? = some c9 ∧ v5 = decide ((↑c9.toNat : Int) ≤ 57)) ∨ (∃ (c6 : UInt8), (↑(plA s k.fst) : Int) < (↑(List.length s) : Int) ∧ s[plA s k.fst]? = some c6 ∧ ¬(48 : Int) ≤ (↑c6.toNat : Int) ∧ v5 = false) ∨ ¬(↑(plA s k.fst) : Int) < (↑(List.length s) : Int) ∧ v5 = false) ((Tr.y (plA s k.fst) fun (c6 : UInt8) ↦ (Tr.y (plA s k.fst) fun (c : UInt8) ↦ Tr.nil).br Tr.nil).br (Tr.b false Tr.nil)) fun (v5 : Cut (5 : Nat) Bool) ↦ (Tr.b true (Tr.b true (Tr.b true (Tr.b true Tr.nil).w.w).w).w.inl).w.br ((Tr.y (plA s k.fst) fun (c21 : UInt8) ↦ ((Tr.b true (Tr.b true (Tr.b true Tr.nil).w.w).w).w.inl.br Tr.nil).w).br (Tr.b false Tr.nil).w)).inl.br (Tr.b false Tr.nil).w)) fun (v4 : Cut (4 : Nat) Unit) ↦ Tr.cm (AV.agg [intA (el s (plA s k.fst)).sp.f, intA (el s (plA s k.fst)).sp.t]) [MObj.box 54 [strL s, intA (↑(el
 s (plA s k.fst)).a : Int), intA (el s (plA s k.fst)).e, intA (el s (plA s k.fst)).b], MObj.row 0 2 (List.map encSp (plL s k.fst)) true (1 : Nat), MObj.box 50 [intA (el s (plA s k.fst)).sp.f, intA (el s (plA s k.fst)).sp.t]] (Tr.k ((plL s k.fst).length + 1) ((Tr.b true (Tr.b true Tr.nil).w.w).br ((Tr.b false (Tr.cm (AV.row 2 0 (mg (srt (plL s k.fst ++ [Sp.mk (el s (plA s k.fst)).sp.f (el s (plA s k.fst)).sp.t]))).length (0 : Nat) (mg (srt (plL s k.fst ++ [Sp.mk (el s (plA s k.fst)).sp.f (el s (plA s k.fst)).sp.t]))).length) [MObj.box 54 [strL s, intA (↑(el s (plA s k.fst)).a : Int), intA (el s (plA s k.fst)).e, intA (el s (plA s k.fst)).b], MObj.row 0 2 (List.map encSp (srt (plL s k.fst ++ [Sp.mk (el s (plA s k.fst)).sp.f (el s (plA s k.fst)).sp.t]))) true (1 : Nat), MObj.row 0 2 (List.map encSp (mg (srt (plL s k.fst ++ [Sp.mk (el s (plA s k.fst)).sp.f (el s (plA s k.fst)).sp.t])))) true (1 : Nat)] (Tr.g (List.map encSp (mg (srt (plL s k.fst ++ [Sp.mk (el s (plA s k.fst)).sp.f (el s (plA s k.fst)).sp.t])))) Tr.nil))).w.w.br (Tr.y (el s (plA s k.fst)).a fun (c36 : UInt8) ↦ Tr.cut (fun (v38 : Cut (24
 : Nat) (Int × Int)) ↦ St.mk [(0, strL s), (5, AV.ptr 0 0), (6, AV.row 1 0 ((plL s k.fst).length + 1) (0 : Nat) ((plL s k.fst).length + 1))] [MObj.box 54 [strL s, intA (↑(el s (plA s k.fst)).a : Int), AV.val (Value.int IntKind.i64 v38.fst), AV.val (Value.int IntKind.i64 v38.snd)], MObj.row 0 2 (List.map encSp (plL s k.fst) ++ [AV.agg [intA (el s (plA s k.fst)).sp.f, intA (el s (plA s k.fst)).sp.t]]) true (1 : Nat)]) (fun (v38 : Cut (24 : Nat) (Int × Int)) ↦ ¬(↑c36.toNat : Int) = 44 ∧ v38.fst = 1 ∧ v38.snd = (↑(el s (plA s k.fst)).a : Int) ∨ (↑c36.toNat : Int) = 44 ∧ v38.fst = (el s (plA s k.fst)).e ∧ v38.snd = (el s (plA s k.fst)).b) ((Tr.b true (Tr.b true Tr.nil).w).w.inl.br Tr.nil) fun (v38 : Cut (24 : Nat) (Int × Int)) ↦ Tr.nil.w).w)).w)).w.br (Tr.b true Tr.nil).w.w).w).w) rfl ?_
 refine Eq.mpr (by kernel_rfl : _ = ((∃ (j1 : Nat × Int × Int), ((s = s ∧ True ∧ ((0 : Nat) = (plL s j1.fst).length ∧ (0 : Nat) = 0 ∧ (0 : Nat) = (plL s j1.fst).length) ∧ True) ∧ (s = s ∧ (0 : Int) = (↑(plA s j1.fst) : Int) ∧ (0 : Int) = j1.snd.fst ∧ (0 : Int) = j1.snd.snd) ∧ [] = List.map encSp (plL s j1.fst)) ∧ (j1.snd.fst = 0 ∧ j1.snd.snd = 0 ∧ PlI s j1.fst ∨ j1.snd.fst = 1 ∧ pl s = PlR.bad (1 : Int) j1.snd.snd ∧ j1.fst ≤ 1024)) ∧ ∀ (k : Nat × Int × Int), k.snd.fst = 0 ∧ k.snd.snd = 0 ∧ PlI s k.fst ∨ k.snd.fst = 1 ∧ pl s = PlR.bad (1 : Int) k.snd.snd ∧ k.fst ≤ 1024 → (decide (k.snd.fst = 0) = true → ((List.map encSp (plL s k.fst)).length = (plL s k.fst).length ∧ (List.take (plL s k.fst).length (List.drop (0 : Nat) (List.map encSp (plL s k.fst)))).length = (plL s k.fst).length ∧ (decide ((↑(plL s k.fst).length : Int) = 1024) = true → ((decide ((↑(plA s k.fst) : Int) < (↑(List.length s) : Int)) = true → (↑(plA s k.fst) : Int) = (↑(plA s k.fst) : Int) ∧ plA s k.fst < List.length s ∧ ∀ (c6 : UInt8), s[plA s k.fst]? = some c6 → (decide ((48 : Int) ≤ (↑c6.toNat : Int)) = true → (↑(plA s k.fst) : Int) = (↑(plA s k.fst) : Int) ∧ plA s k.fst
 < List.length s ∧ ∀ (c9 : UInt8), s[plA s k.fst]? = some c9 → ∃ (m5_11 : Cut (5 : Nat) Bool), ((decide ((↑c9.toNat : Int) ≤ 57) = m5_11 ∧ True) ∧ (s = s ∧ (↑(plA s k.fst) : Int) = (↑(plA s k.fst) : Int) ∧ k.snd.fst = k.snd.fst ∧ k.snd.snd = k.snd.snd) ∧ List.map encSp (plL s k.fst) = List.map encSp (plL s k.fst)) ∧ ((∃ (c6 : UInt8), ∃ (c9 : UInt8), (↑(plA s k.fst) : Int) < (↑(List.length s) : Int) ∧ s[plA s k.fst]? = some c6 ∧ (48 : Int) ≤ (↑c6.toNat : Int) ∧ s[plA s k.fst]? = some c9 ∧ m5_11 = decide ((↑c9.toNat : Int) ≤ 57)) ∨ (∃ (c6 : UInt8), (↑(plA s k.fst) : Int) < (↑(List.length s) : Int) ∧ s[plA s k.fst]? = some c6 ∧ ¬(48 : Int) ≤ (↑c6.toNat : Int) ∧ m5_11 = false) ∨ ¬(↑(plA s k.fst) : Int) < (↑(List.length s) : Int) ∧ m5_11 = false)) ∧ (decide ((48 : Int) ≤ (↑c6.toNat : Int)) = false → ∃ (m5_13 : Cut (5 : Nat) Bool), ((false = m5_13 ∧ True) ∧ (s = s ∧ (↑(plA s k.fst) : Int) = (↑(plA s k.fst) : Int) ∧ k.snd.fst = k.snd.fst ∧ k.snd.snd = k.snd.snd) ∧ List.map encSp (plL s k.fst) = List.map encSp (plL s k.fst)) ∧ ((∃ (c6 : UInt8), ∃ (c9 : UInt8), (↑(plA s k.fst) : Int) < (↑(List.length s) : Int) ∧ s[plA s k.fst]? = some c6 ∧ (48 : Int) ≤ (↑c6.toNat : Int) ∧ s[plA
 s k.fst]? = some c9 ∧ m5_13 = decide ((↑c9.toNat : Int) ≤ 57)) ∨ (∃ (c6 : UInt8), (↑(plA s k.fst) : Int) < (↑(List.length s) : Int) ∧ s[plA s k.fst]? = some c6 ∧ ¬(48 : Int) ≤ (↑c6.toNat : Int) ∧ m5_13 = false) ∨ ¬(↑(plA s k.fst) : Int) < (↑(List.length s) : Int) ∧ m5_13 = false))) ∧ (decide ((↑(plA s k.fst) : Int) < (↑(List.length s) : Int)) = false → false = false ∧ ∃ (m5_15 : Cut (5 : Nat) Bool), ((false = m5_15 ∧ True) ∧ (s = s ∧ (↑(plA s k.fst) : Int) = (↑(plA s k.fst) : Int) ∧ k.snd.fst = k.snd.fst ∧ k.snd.snd = k.snd.snd) ∧ List.map encSp (plL s k.fst) = List.map encSp (plL s k.fst)) ∧ ((∃ (c6 : UInt8), ∃ (c9 : UInt8), (↑(plA s k.fst) : Int) < (↑(List.length s) : Int) ∧ s[plA s k.fst]? = some c6 ∧ (48 : Int) ≤ (↑c6.toNat : Int) ∧ s[plA s k.fst]? = some c9 ∧ m5_15 = decide ((↑c9.toNat : Int) ≤ 57)) ∨ (∃ (c6 : UInt8), (↑(plA s k.fst) : Int) < (↑(List.length s) : Int) ∧ s[plA s k.fst]? = some c6 ∧ ¬(48 : Int) ≤ (↑c6.toNat : Int) ∧ m5_15 = false) ∨ ¬(↑(plA s k.fst) : Int) < (↑(List.length s) : Int) ∧ m5_15 = false))) ∧ ∀ (v5 : Cut (5 : Nat) Bool), (∃ (c6 : UInt8), ∃ (c9 : UInt8), (↑(plA s k.fst) : Int) < (↑(List.length s) : Int) ∧ s[plA s k.fst]? = some c6 ∧ (48 :
 Int) ≤ (↑c6.toNat : Int) ∧ s[plA s k.fst]? = some c9 ∧ v5 = decide ((↑c9.toNat : Int) ≤ 57)) ∨ (∃ (c6 : UInt8), (↑(plA s k.fst) : Int) < (↑(List.length s) : Int) ∧ s[plA s k.fst]? = some c6 ∧ ¬(48 : Int) ≤ (↑c6.toNat : Int) ∧ v5 = false) ∨ ¬(↑(plA s k.fst) : Int) < (↑(List.length s) : Int) ∧ v5 = false → (v5 = true → true = true ∧ decide (k.snd.fst = 0) = true ∧ true = true ∧ true = true ∧ [] = List.map encSp (plO (fun (l : List Sp) ↦ mg (srt l)) (pl s)) ∧ (3 : Int) = plE (pl s) ∧ (↑(plA s k.fst) : Int) = plB (pl s)) ∧ (v5 = false → (decide ((↑(plA s k.fst) : Int) < (↑(List.length s) : Int)) = true → (↑(plA s k.fst) : Int) = (↑(plA s k.fst) : Int) ∧ plA s k.fst < List.length s ∧ ∀ (c21 : UInt8), s[plA s k.fst]? = some c21 → (decide ((↑c21.toNat : Int) = 45) = true → decide (k.snd.fst = 0) = true ∧ true = true ∧ true = true ∧ [] = List.map encSp (plO (fun (l : List Sp) ↦ mg (srt l)) (pl s)) ∧ (3 : Int) = plE (pl s) ∧ (↑(plA s k.fst) : Int) = plB (pl s)) ∧ (decide ((↑c21.toNat : Int) = 45) = false → ∃ (m4_25 : Cut (4 : Nat) Unit), ((s = s ∧ True ∧ ((plL s k.fst).length = (plL s k.fst).length ∧ (0 : Nat) = 0 ∧ (plL s k.fst).length = (plL
 s k.fst).length) ∧ True) ∧ (s = s ∧ (↑(plA s k.fst) : Int) = (↑(plA s k.fst) : Int) ∧ k.snd.fst = k.snd.fst ∧ k.snd.snd = k.snd.snd) ∧ List.map encSp (plL s k.fst) = List.map encSp (plL s k.fst)) ∧ ((∃ (v5 : Cut (5 : Nat) Bool), ∃ (c21 : UInt8), (↑(plL s k.fst).length : Int) = 1024 ∧ ((∃ (c6 : UInt8), ∃ (c9 : UInt8), (↑(plA s k.fst) : Int) < (↑(List.length s) : Int) ∧ s[plA s k.fst]? = some c6 ∧ (48 : Int) ≤ (↑c6.toNat : Int) ∧ s[plA s k.fst]? = some c9 ∧ v5 = decide ((↑c9.toNat : Int) ≤ 57)) ∨ (∃ (c6 : UInt8), (↑(plA s k.fst) : Int) < (↑(List.length s) : Int) ∧ s[plA s k.fst]? = some c6 ∧ ¬(48 : Int) ≤ (↑c6.toNat : Int) ∧ v5 = false) ∨ ¬(↑(plA s k.fst) : Int) < (↑(List.length s) : Int) ∧ v5 = false) ∧ v5 = false ∧ (↑(plA s k.fst) : Int) < (↑(List.length s) : Int) ∧ s[plA s k.fst]? = some c21 ∧ ¬(↑c21.toNat : Int) = 45) ∨ (∃ (v5 : Cut (5 : Nat) Bool), (↑(plL s k.fst).length : Int) = 1024 ∧ ((∃ (c6 : UInt8), ∃ (c9 : UInt8), (↑(plA s k.fst) : Int) < (↑(List.length s) : Int) ∧ s[plA s k.fst]? = some c6 ∧ (48 : Int) ≤ (↑c6.toNat : Int) ∧ s[plA s k.fst]? = some c9 ∧ v5 = decide ((↑c9.toNat : Int) ≤ 57)) ∨ (∃ (c6 : UInt8), (↑(plA s k.fst) : Int) < (↑(List.length
 s) : Int) ∧ s[plA s k.fst]? = some c6 ∧ ¬(48 : Int) ≤ (↑c6.toNat : Int) ∧ v5 = false) ∨ ¬(↑(plA s k.fst) : Int) < (↑(List.length s) : Int) ∧ v5 = false) ∧ v5 = false ∧ ¬(↑(plA s k.fst) : Int) < (↑(List.length s) : Int)) ∨ ¬(↑(plL s k.fst).length : Int) = 1024))) ∧ (decide ((↑(plA s k.fst) : Int) < (↑(List.length s) : Int)) = false → false = false ∧ ∃ (m4_27 : Cut (4 : Nat) Unit), ((s = s ∧ True ∧ ((plL s k.fst).length = (plL s k.fst).length ∧ (0 : Nat) = 0 ∧ (plL s k.fst).length = (plL s k.fst).length) ∧ True) ∧ (s = s ∧ (↑(plA s k.fst) : Int) = (↑(plA s k.fst) : Int) ∧ k.snd.fst = k.snd.fst ∧ k.snd.snd = k.snd.snd) ∧ List.map encSp (plL s k.fst) = List.map encSp (plL s k.fst)) ∧ ((∃ (v5 : Cut (5 : Nat) Bool), ∃ (c21 : UInt8), (↑(plL s k.fst).length : Int) = 1024 ∧ ((∃ (c6 : UInt8), ∃ (c9 : UInt8), (↑(plA s k.fst) : Int) < (↑(List.length s) : Int) ∧ s[plA s k.fst]? = some c6 ∧ (48 : Int) ≤ (↑c6.toNat : Int) ∧ s[plA s k.fst]? = some c9 ∧ v5 = decide ((↑c9.toNat : Int) ≤ 57)) ∨ (∃ (c6 : UInt8), (↑(plA s k.fst) : Int) < (↑(List.length s) : Int) ∧ s[plA s k.fst]? = some c6 ∧ ¬(48 : Int) ≤ (↑c6.toNat : Int) ∧ v5 = false) ∨ ¬(↑(plA s k.fst) : Int) < (↑(List.length
 s) : Int) ∧ v5 = false) ∧ v5 = false ∧ (↑(plA s k.fst) : Int) < (↑(List.length s) : Int) ∧ s[plA s k.fst]? = some c21 ∧ ¬(↑c21.toNat : Int) = 45) ∨ (∃ (v5 : Cut (5 : Nat) Bool), (↑(plL s k.fst).length : Int) = 1024 ∧ ((∃ (c6 : UInt8), ∃ (c9 : UInt8), (↑(plA s k.fst) : Int) < (↑(List.length s) : Int) ∧ s[plA s k.fst]? = some c6 ∧ (48 : Int) ≤ (↑c6.toNat : Int) ∧ s[plA s k.fst]? = some c9 ∧ v5 = decide ((↑c9.toNat : Int) ≤ 57)) ∨ (∃ (c6 : UInt8), (↑(plA s k.fst) : Int) < (↑(List.length s) : Int) ∧ s[plA s k.fst]? = some c6 ∧ ¬(48 : Int) ≤ (↑c6.toNat : Int) ∧ v5 = false) ∨ ¬(↑(plA s k.fst) : Int) < (↑(List.length s) : Int) ∧ v5 = false) ∧ v5 = false ∧ ¬(↑(plA s k.fst) : Int) < (↑(List.length s) : Int)) ∨ ¬(↑(plL s k.fst).length : Int) = 1024)))) ∧ (decide ((↑(plL s k.fst).length : Int) = 1024) = false → false = false ∧ ∃ (m4_29 : Cut (4 : Nat) Unit), ((s = s ∧ True ∧ ((plL s k.fst).length = (plL s k.fst).length ∧ (0 : Nat) = 0 ∧ (plL s k.fst).length = (plL s k.fst).length) ∧ True) ∧ (s = s ∧ (↑(plA s k.fst) : Int) = (↑(plA s k.fst) : Int) ∧ k.snd.fst = k.snd.fst ∧ k.snd.snd = k.snd.snd) ∧ List.map encSp (plL s k.fst) = List.map encSp (plL
 s k.fst)) ∧ ((∃ (v5 : Cut (5 : Nat) Bool), ∃ (c21 : UInt8), (↑(plL s k.fst).length : Int) = 1024 ∧ ((∃ (c6 : UInt8), ∃ (c9 : UInt8), (↑(plA s k.fst) : Int) < (↑(List.length s) : Int) ∧ s[plA s k.fst]? = some c6 ∧ (48 : Int) ≤ (↑c6.toNat : Int) ∧ s[plA s k.fst]? = some c9 ∧ v5 = decide ((↑c9.toNat : Int) ≤ 57)) ∨ (∃ (c6 : UInt8), (↑(plA s k.fst) : Int) < (↑(List.length s) : Int) ∧ s[plA s k.fst]? = some c6 ∧ ¬(48 : Int) ≤ (↑c6.toNat : Int) ∧ v5 = false) ∨ ¬(↑(plA s k.fst) : Int) < (↑(List.length s) : Int) ∧ v5 = false) ∧ v5 = false ∧ (↑(plA s k.fst) : Int) < (↑(List.length s) : Int) ∧ s[plA s k.fst]? = some c21 ∧ ¬(↑c21.toNat : Int) = 45) ∨ (∃ (v5 : Cut (5 : Nat) Bool), (↑(plL s k.fst).length : Int) = 1024 ∧ ((∃ (c6 : UInt8), ∃ (c9 : UInt8), (↑(plA s k.fst) : Int) < (↑(List.length s) : Int) ∧ s[plA s k.fst]? = some c6 ∧ (48 : Int) ≤ (↑c6.toNat : Int) ∧ s[plA s k.fst]? = some c9 ∧ v5 = decide ((↑c9.toNat : Int) ≤ 57)) ∨ (∃ (c6 : UInt8), (↑(plA s k.fst) : Int) < (↑(List.length s) : Int) ∧ s[plA s k.fst]? = some c6 ∧ ¬(48 : Int) ≤ (↑c6.toNat : Int) ∧ v5 = false) ∨ ¬(↑(plA s k.fst) : Int) < (↑(List.length s) : Int) ∧ v5 = false) ∧ v5 = false ∧ ¬(↑(plA
 s k.fst) : Int) < (↑(List.length s) : Int)) ∨ ¬(↑(plL s k.fst).length : Int) = 1024))) ∧ ∀ (v4 : Cut (4 : Nat) Unit), (∃ (v5 : Cut (5 : Nat) Bool), ∃ (c21 : UInt8), (↑(plL s k.fst).length : Int) = 1024 ∧ ((∃ (c6 : UInt8), ∃ (c9 : UInt8), (↑(plA s k.fst) : Int) < (↑(List.length s) : Int) ∧ s[plA s k.fst]? = some c6 ∧ (48 : Int) ≤ (↑c6.toNat : Int) ∧ s[plA s k.fst]? = some c9 ∧ v5 = decide ((↑c9.toNat : Int) ≤ 57)) ∨ (∃ (c6 : UInt8), (↑(plA s k.fst) : Int) < (↑(List.length s) : Int) ∧ s[plA s k.fst]? = some c6 ∧ ¬(48 : Int) ≤ (↑c6.toNat : Int) ∧ v5 = false) ∨ ¬(↑(plA s k.fst) : Int) < (↑(List.length s) : Int) ∧ v5 = false) ∧ v5 = false ∧ (↑(plA s k.fst) : Int) < (↑(List.length s) : Int) ∧ s[plA s k.fst]? = some c21 ∧ ¬(↑c21.toNat : Int) = 45) ∨ (∃ (v5 : Cut (5 : Nat) Bool), (↑(plL s k.fst).length : Int) = 1024 ∧ ((∃ (c6 : UInt8), ∃ (c9 : UInt8), (↑(plA s k.fst) : Int) < (↑(List.length s) : Int) ∧ s[plA s k.fst]? = some c6 ∧ (48 : Int) ≤ (↑c6.toNat : Int) ∧ s[plA s k.fst]? = some c9 ∧ v5 = decide ((↑c9.toNat : Int) ≤ 57)) ∨ (∃ (c6 : UInt8), (↑(plA s k.fst) : Int) < (↑(List.length s) : Int) ∧ s[plA s k.fst]? = some c6 ∧ ¬(48 : Int) ≤ (↑c6.toNat
 : Int) ∧ v5 = false) ∨ ¬(↑(plA s k.fst) : Int) < (↑(List.length s) : Int) ∧ v5 = false) ∧ v5 = false ∧ ¬(↑(plA s k.fst) : Int) < (↑(List.length s) : Int)) ∨ ¬(↑(plL s k.fst).length : Int) = 1024 → (R FT X).m 31 [AV.ptr 0 0] [MObj.box 54 [strL s, intA (↑(plA s k.fst) : Int), intA k.snd.fst, intA k.snd.snd], MObj.row 0 2 (List.map encSp (plL s k.fst)) true (1 : Nat)] = some (encSp (el s (plA s k.fst)).sp, [MObj.box 54 [strL s, intA (↑(el s (plA s k.fst)).a : Int), intA (el s (plA s k.fst)).e, intA (el s (plA s k.fst)).b], MObj.row 0 2 (List.map encSp (plL s k.fst)) true (1 : Nat), MObj.box 50 [intA (el s (plA s k.fst)).sp.f, intA (el s (plA s k.fst)).sp.t]]) ∧ (List.map encSp (plL s k.fst)).length = (plL s k.fst).length ∧ (0 : Nat) = 0 ∧ (plL s k.fst).length = (plL s k.fst).length ∧ (plL s k.fst).length + [AV.agg [intA (el s (plA s k.fst)).sp.f, intA (el s (plA s k.fst)).sp.t]].length = (plL s k.fst).length + 1 ∧ ((plL s k.fst).length + 1) * 16 ≤ (140737488355328 : Nat) ∧ (plL s k.fst).length + 1 ≤ (9223372036854775807 : Nat) ∧ ((!decide ((el s (plA
 s k.fst)).e = 0)) = true → true = true ∧ (!decide ((el s (plA s k.fst)).e = 0)) = true ∧ [] = List.map encSp (plO (fun (l : List Sp) ↦ mg (srt l)) (pl s)) ∧ (el s (plA s k.fst)).e = plE (pl s) ∧ (el s (plA s k.fst)).b = plB (pl s)) ∧ ((!decide ((el s (plA s k.fst)).e = 0)) = false → (decide ((↑(el s (plA s k.fst)).a : Int) = (↑(List.length s) : Int)) = true → (!decide ((el s (plA s k.fst)).e = 0)) = false ∧ (R FT X).m 32 [AV.row 1 0 ((plL s k.fst).length + 1) (0 : Nat) ((plL s k.fst).length + 1)] [MObj.box 54 [strL s, intA (↑(el s (plA s k.fst)).a : Int), intA (el s (plA s k.fst)).e, intA (el s (plA s k.fst)).b], MObj.row 0 2 (List.map encSp (plL s k.fst) ++ [AV.agg [intA (el s (plA s k.fst)).sp.f, intA (el s (plA s k.fst)).sp.t]]) true (1 : Nat)] = some (AV.row 2 0 (mg (srt (plL s k.fst ++ [Sp.mk (el s (plA s k.fst)).sp.f (el s (plA s k.fst)).sp.t]))).length (0 : Nat) (mg (srt (plL s k.fst ++ [Sp.mk (el s (plA s k.fst)).sp.f (el s (plA s k.fst)).sp.t]))).length, [MObj.box 54 [strL s, intA (↑(el s (plA s k.fst)).a : Int), intA (el s (plA s k.fst)).e, intA
 (el s (plA s k.fst)).b], MObj.row 0 2 (List.map encSp (srt (plL s k.fst ++ [Sp.mk (el s (plA s k.fst)).sp.f (el s (plA s k.fst)).sp.t]))) true (1 : Nat), MObj.row 0 2 (List.map encSp (mg (srt (plL s k.fst ++ [Sp.mk (el s (plA s k.fst)).sp.f (el s (plA s k.fst)).sp.t])))) true (1 : Nat)]) ∧ (List.map encSp (mg (srt (plL s k.fst ++ [Sp.mk (el s (plA s k.fst)).sp.f (el s (plA s k.fst)).sp.t])))).length = (mg (srt (plL s k.fst ++ [Sp.mk (el s (plA s k.fst)).sp.f (el s (plA s k.fst)).sp.t]))).length ∧ List.take (mg (srt (plL s k.fst ++ [Sp.mk (el s (plA s k.fst)).sp.f (el s (plA s k.fst)).sp.t]))).length (List.drop (0 : Nat) (List.map encSp (mg (srt (plL s k.fst ++ [Sp.mk (el s (plA s k.fst)).sp.f (el s (plA s k.fst)).sp.t]))))) = List.map encSp (mg (srt (plL s k.fst ++ [Sp.mk (el s (plA s k.fst)).sp.f (el s (plA s k.fst)).sp.t]))) ∧ List.map encSp (mg (srt (plL s k.fst ++ [Sp.mk (el s (plA s k.fst)).sp.f (el s (plA s k.fst)).sp.t]))) = List.map encSp (plO (fun (l : List Sp) ↦ mg (srt l)) (pl s)) ∧ (0 : Int) = plE (pl s) ∧ (0 : Int) = plB (pl s)) ∧ (decide ((↑(el s (plA s k.fst)).a : Int) = (↑(List.length s) : Int)) = false → (↑(el s (plA s k.fst)).a : Int)
 = (↑(el s (plA s k.fst)).a : Int) ∧ (el s (plA s k.fst)).a < List.length s ∧ ∀ (c36 : UInt8), s[(el s (plA s k.fst)).a]? = some c36 → (((!decide ((↑c36.toNat : Int) = 44)) = true → decide ((el s (plA s k.fst)).e = 0) = true ∧ true = true ∧ ∃ (m24_39 : Cut (24 : Nat) (Int × Int)), ((s = s ∧ True ∧ ((plL s k.fst).length + 1 = (plL s k.fst).length + 1 ∧ (0 : Nat) = 0 ∧ (plL s k.fst).length + 1 = (plL s k.fst).length + 1) ∧ True) ∧ (s = s ∧ (↑(el s (plA s k.fst)).a : Int) = (↑(el s (plA s k.fst)).a : Int) ∧ (1 : Int) = m24_39.fst ∧ (↑(el s (plA s k.fst)).a : Int) = m24_39.snd) ∧ List.map encSp (plL s k.fst) ++ [AV.agg [intA (el s (plA s k.fst)).sp.f, intA (el s (plA s k.fst)).sp.t]] = List.map encSp (plL s k.fst) ++ [AV.agg [intA (el s (plA s k.fst)).sp.f, intA (el s (plA s k.fst)).sp.t]]) ∧ (¬(↑c36.toNat : Int) = 44 ∧ m24_39.fst = 1 ∧ m24_39.snd = (↑(el s (plA s k.fst)).a : Int) ∨ (↑c36.toNat : Int) = 44 ∧ m24_39.fst = (el s (plA s k.fst)).e ∧ m24_39.snd = (el s (plA s k.fst)).b)) ∧ ((!decide ((↑c36.toNat : Int) = 44)) = false → ∃ (m24_41 : Cut (24 : Nat) (Int × Int)), ((s = s ∧ True ∧ ((plL s k.fst).length
 + (1 : Nat) = (plL s k.fst).length + 1 ∧ (0 : Nat) = 0 ∧ (plL s k.fst).length + 1 = (plL s k.fst).length + 1) ∧ True) ∧ (s = s ∧ (↑(el s (plA s k.fst)).a : Int) = (↑(el s (plA s k.fst)).a : Int) ∧ (el s (plA s k.fst)).e = m24_41.fst ∧ (el s (plA s k.fst)).b = m24_41.snd) ∧ List.map encSp (plL s k.fst) ++ [AV.agg [intA (el s (plA s k.fst)).sp.f, intA (el s (plA s k.fst)).sp.t]] = List.map encSp (plL s k.fst) ++ [AV.agg [intA (el s (plA s k.fst)).sp.f, intA (el s (plA s k.fst)).sp.t]]) ∧ (¬(↑c36.toNat : Int) = 44 ∧ m24_41.fst = 1 ∧ m24_41.snd = (↑(el s (plA s k.fst)).a : Int) ∨ (↑c36.toNat : Int) = 44 ∧ m24_41.fst = (el s (plA s k.fst)).e ∧ m24_41.snd = (el s (plA s k.fst)).b))) ∧ ∀ (v38 : Cut (24 : Nat) (Int × Int)), ¬(↑c36.toNat : Int) = 44 ∧ v38.fst = 1 ∧ v38.snd = (↑(el s (plA s k.fst)).a : Int) ∨ (↑c36.toNat : Int) = 44 ∧ v38.fst = (el s (plA s k.fst)).e ∧ v38.snd = (el s (plA s k.fst)).b → InI64 ((↑(el s (plA s k.fst)).a : Int) + 1) ∧ ∃ (j44 : Nat × Int × Int), ((s = s ∧ True ∧ ((plL s k.fst).length + 1 = (plL s j44.fst).length ∧ (0 : Nat) = 0 ∧ (plL s k.fst).length + 1
 = (plL s j44.fst).length) ∧ True) ∧ (s = s ∧ (↑(el s (plA s k.fst)).a : Int) + 1 = (↑(plA s j44.fst) : Int) ∧ v38.fst = j44.snd.fst ∧ v38.snd = j44.snd.snd) ∧ List.map encSp (plL s k.fst) ++ [AV.agg [intA (el s (plA s k.fst)).sp.f, intA (el s (plA s k.fst)).sp.t]] = List.map encSp (plL s j44.fst)) ∧ (j44.snd.fst = 0 ∧ j44.snd.snd = 0 ∧ PlI s j44.fst ∨ j44.snd.fst = 1 ∧ pl s = PlR.bad (1 : Int) j44.snd.snd ∧ j44.fst ≤ 1024) ∧ List.length s + 3 - j44.fst < List.length s + 3 - k.fst))) ∧ (decide (k.snd.fst = 0) = false → (!decide (k.snd.fst = 0)) = true ∧ [] = List.map encSp (plO (fun (l : List Sp) ↦ mg (srt l)) (pl s)) ∧ k.snd.fst = plE (pl s) ∧ k.snd.snd = plB (pl s)))) ?_
 refine ⟨?_, fun k => fun h2 => ⟨fun h3_ => have h3 := dT h3_; ⟨⟨(by simp), (by simp), fun h4_ => have h4 := dT h4_; ⟨⟨fun h5_ => have h5 := dT h5_; ⟨rfl, (by omega), fun c6 => fun h7 => ⟨fun h8_ => have h8 := dT h8_; ⟨rfl, (by omega), fun c9 => fun h10 => ⟨decide ((↑c9.toNat : Int) ≤ (57 : Int)), ⟨⟨(by first | rfl | simp), trivial⟩, ⟨⟨(by first | rfl | simp), ⟨(by first | rfl | simp), ⟨(by first | rfl | simp), (by first | rfl | simp)⟩⟩⟩, (by first | rfl | simp)⟩⟩, Or.inl (⟨c6, c9, h5, h7, h8, h10, rfl⟩)⟩⟩, fun h12_ => have h12 := dF h12_; ⟨false, ⟨⟨(by first | rfl | simp), trivial⟩, ⟨⟨(by first | rfl | simp), ⟨(by first | rfl | simp), ⟨(by first | rfl | simp), (by first | rfl | simp)⟩⟩⟩, (by first | rfl | simp)⟩⟩, Or.inr (Or.inl (⟨c6, h5, h7, h12, rfl⟩))⟩⟩⟩, fun h14_ => have h14 := dF h14_; ⟨rfl, ⟨false, ⟨⟨(by first | rfl | simp), trivial⟩, ⟨⟨(by first | rfl | simp), ⟨(by first | rfl | simp), ⟨(by first | rfl | simp), (by first | rfl | simp)⟩⟩⟩, (by first | rfl | simp)⟩⟩, Or.inr (Or.inr (⟨h14, rfl⟩))⟩⟩⟩, fun v5 => fun h17 => ⟨fun h18 => ⟨rfl, h3_, rfl, rfl, ?_, ?_, ?_⟩, fun h19 => ⟨fun h20_ => have h20 := dT h20_; ⟨rfl, (by omega), fun c21 => fun h22 => ⟨fun h23_ => have h23 := dT h23_; ⟨h3_, rfl, rfl, ?_, ?_, ?_⟩, fun h24_ => have h24 := dF h24_; ⟨(), ⟨⟨(by first | rfl | simp), ⟨trivial, ⟨⟨(by first | rfl | simp), ⟨(by first | rfl | simp), (by first | rfl | simp)⟩⟩, trivial⟩⟩⟩, ⟨⟨(by first | rfl | simp), ⟨(by first | rfl | simp), ⟨(by first | rfl | simp), (by first | rfl | simp)⟩⟩⟩, (by first | rfl | simp)⟩⟩, Or.inl (⟨v5, c21, h4, h17, h19, h20, h22, h24⟩)⟩⟩⟩, fun h26_ => have h26 := dF h26_; ⟨rfl, ⟨(), ⟨⟨(by first | rfl | simp), ⟨trivial, ⟨⟨(by first | rfl | simp), ⟨(by first | rfl | simp), (by first | rfl | simp)⟩⟩, trivial⟩⟩⟩, ⟨⟨(by first | rfl | simp), ⟨(by first | rfl | simp), ⟨(by first | rfl | simp), (by first | rfl | simp)⟩⟩⟩, (by first | rfl | simp)⟩⟩, Or.inr (Or.inl (⟨v5, h4, h17, h19, h26⟩))⟩⟩⟩⟩⟩, fun h28_ => have h28 := dF h28_; ⟨rfl, ⟨(), ⟨⟨(by first | rfl | simp), ⟨trivial, ⟨⟨(by first | rfl | simp), ⟨(by first | rfl | simp), (by first | rfl | simp)⟩⟩, trivial⟩⟩⟩, ⟨⟨(by first | rfl | simp), ⟨(by first | rfl | simp), ⟨(by first | rfl | simp), (by first | rfl | simp)⟩⟩⟩, (by first | rfl | simp)⟩⟩, Or.inr (Or.inr (h28))⟩⟩⟩, fun v4 => fun h31 => ⟨(er _ ?_ _ _ h3 ?_ _), (by simp), rfl, rfl, rfl, ?_, ?_, fun h32_ => have h32 := dnT h32_; ⟨rfl, h32_, ?_, ?_, ?_⟩, fun h33_ => have h33 := dnF h33_; ⟨fun h34_ => have h34 := dT h34_; ⟨h33_, (nr _ _ _ ?_ ?_ _ _ _ _), (by simp), ?_, ?_, ?_, ?_⟩, fun h35_ => have h35 := dF h35_; ⟨rfl, ?_, fun c36 => fun h37 => ⟨⟨fun h38_ => have h38 := dnT h38_; ⟨(tD h33), rfl, ⟨((1 : Int), (↑(el s (plA s k.fst)).a : Int)), ⟨⟨(by first | rfl | simp), ⟨trivial, ⟨⟨(by first | rfl | simp), ⟨(by first | rfl | simp), (by first | rfl | simp)⟩⟩, trivial⟩⟩⟩, ⟨⟨(by first | rfl | simp), ⟨(by first | rfl | simp), ⟨(by first | rfl | simp), (by first | rfl | simp)⟩⟩⟩, (by first | rfl | simp)⟩⟩, Or.inl (⟨h38, rfl, rfl⟩)⟩⟩, fun h40_ => have h40 := dnF h40_; ⟨((el s (plA s k.fst)).e, (el s (plA s k.fst)).b), ⟨⟨(by first | rfl | simp), ⟨trivial, ⟨⟨(by first | rfl | simp), ⟨(by first | rfl | simp), (by first | rfl | simp)⟩⟩, trivial⟩⟩⟩, ⟨⟨(by first | rfl | simp), ⟨(by first | rfl | simp), ⟨(by first | rfl | simp), (by first | rfl | simp)⟩⟩⟩, (by first | rfl | simp)⟩⟩, Or.inr (⟨h40, rfl, rfl⟩)⟩⟩, fun v38 => fun h43 => ⟨?_, ?_⟩⟩⟩⟩⟩⟩, fun h45_ => have h45 := dF h45_; ⟨(tnD h45), ?_, ?_, ?_⟩⟩⟩
 ·exact ⟨(0, 0, 0), ⟨⟨rfl, trivial, ⟨rfl, rfl, rfl⟩, trivial⟩, ⟨rfl, rfl, rfl, rfl⟩, rfl⟩, .inl ⟨rfl, rfl, .zero s⟩⟩
 all_goals (try have hI : PlI s k.1 := h2.elim (fun q => q.2.2) (fun q => by rw [h3] at q; cases q.1))
 iterate 3
  ·rw [plL_len] at h4
   rw [pl_lim hI (by omega) (.inr ((digJ_0 h17).1 h18))]; rfl
 iterate 3
  ·rw [plL_len] at h4
   rw [pl_lim hI (by omega) (.inl (is45 h22 h23))]; rfl
 all_goals (try have nl := nolim1 (plL_len s k.1) h31)
 ·exact hI.le
 ·exact h2.elim (fun q => q.2.1) (fun q => by rw [h3] at q; cases q.1)
 ·have := hI.kl; rw [plL_len]; omega
 ·have := hI.kl; rw [plL_len]; omega
 iterate 3
  ·rw [pl_err hI nl h32]; rfl
 ·have := hI.kl; simp only [List.length_append, plL_len, List.length_singleton]; omega
 ·have := hI.okS h33; rw [plL_succ] at this; exact this
 ·rw [List.drop_zero, List.take_of_length_le (by simp)]
 iterate 3
  ·rw [pl_ok hI nl h33 (by omega), plL_succ]; rfl
 ·have := el_le s _ hI.le; omega
 ·have := el_le s _ hI.le; unfold InI64; omega
 ·refine ⟨(k.1 + 1, v38.1, v38.2), ⟨⟨rfl, trivial, ⟨by rw [plL_len, plL_len], rfl, by rw [plL_len, plL_len]⟩, trivial⟩, ⟨rfl, rfl, rfl, rfl⟩, by rw [plL_succ, List.map_append]; rfl⟩, ?_, by have := hI.ka; omega⟩
  rcases h43 with ⟨q, q1, q2⟩ | ⟨q, q1, q2⟩
  ·exact .inr ⟨q1, by rw [q2]; exact pl_sep hI nl h33 (by omega) (fun z => q ((is44 h37).1 z)), hI.kS nl h33⟩
  ·exact .inl ⟨q1.trans h33, q2.trans (el_b h33), hI.step nl h33 ((is44 h37).2 q)⟩
 all_goals obtain ⟨q, -⟩ | ⟨q1, q2, -⟩ := h2
 all_goals first | exact absurd q h45 | (rw [q2]; first | rfl | exact q1)
end
end Go.Proofs.YtfedemnaeggokaaGreatDoor
end
section
namespace Go.Proofs.YtfedemnaeggokaaGreatDoor
set_option linter.unusedVariables false
set_option linter.unusedSimpArgs false
def joinB (sep : Bs) : List Bs → Bs
 | [] => []
 | x :: r => x ++ r.flatMap fun y => sep ++ y
theorem joinB_snoc (sep : Bs) {l : List Bs} (h : l ≠ []) (x : Bs) : joinB sep (l ++ [x]) = joinB sep l ++ sep ++ x := by
 cases l with
 | nil => exact absurd rfl h
 | cons y r => simp [joinB, List.flatMap_append]
theorem joinB_one (sep x : Bs) : joinB sep [x] = x := by simp [joinB]
theorem joinB_lib (sep : Bs) (l : List Bs) : Lib.join l sep = joinB sep l := by
 cases l with
 | nil => rfl
 | cons x r =>
  rw [Lib.join_cons, joinB]
  congr 1
theorem joinB_le (sep : Bs) (b : Nat) : ∀ (l : List Bs), (∀ x ∈ l, x.length ≤ b) → (joinB sep l).length ≤ l.length * (b + sep.length)
 | [], _ => by simp [joinB]
 | x :: r, h => by
  have hx := h x List.mem_cons_self
  have : ∀ (r : List Bs), (∀ y ∈ r, y.length ≤ b) → (r.flatMap fun y => sep ++ y).length ≤ r.length * (b + sep.length) := by
   intro r
   induction r with
   | nil => intro _; simp
   | cons y r ih =>
    intro hy
    have h1 := hy y List.mem_cons_self
    have h2 := ih fun z hz => hy z (List.mem_cons_of_mem _ hz)
    simp only [List.flatMap_cons, List.length_append, List.length_cons, Nat.add_mul, Nat.one_mul]
    omega
  have h2 := this r fun y hy => h y (List.mem_cons_of_mem _ hy)
  simp only [joinB, List.length_append, List.length_cons, Nat.add_mul, Nat.one_mul]
  omega
def fmS (x : Sp) : Bs := if x.t = x.f then Lib.itoa x.f else if x.t = 0 then Lib.itoa x.f ++ [45] else Lib.itoa x.f ++ [45] ++ Lib.itoa x.t
theorem fmS_le {x : Sp} (h : InI64 x.f) (h' : InI64 x.t) : (fmS x).length ≤ 41 := by
 have h1 := itoa_len h
 have h2 := itoa_len h'
 unfold fmS
 split
 ·omega
 ·split <;> simp <;> omega
theorem fmS_1 {x : Sp} (h : x.t = x.f) : fmS x = Lib.itoa x.f := if_pos h
theorem fmS_2 {x : Sp} (h : ¬ x.t = x.f) (h2 : x.t = 0) : fmS x = Lib.itoa x.f ++ [45] := by rw [fmS, if_neg h, if_pos h2]
theorem fmS_3 {x : Sp} (h : ¬ x.t = x.f) (h2 : ¬ x.t = 0) : fmS x = Lib.itoa x.f ++ [45] ++ Lib.itoa x.t := by rw [fmS, if_neg h, if_neg h2]
def fmL (l : List Sp) : Bs := joinB [44] (l.map fmS)
def fmK (l : List Sp) (k : Nat) : Bs := joinB [44] ((l.take k).map fmS)
theorem fmK_0 {l : List Sp} {x : Sp} (h : l[0]? = some x) : fmK l 1 = fmS x := by
 have : l.take 1 = [x] := by
  have := take_succ_get h
  simpa using this
 rw [fmK, this]; exact joinB_one _ _
theorem fmK_s {l : List Sp} {k : Nat} {x : Sp} (hk : 0 < k) (h : l[k]? = some x) : fmK l (k + 1) = fmK l k ++ [44] ++ fmS x := by
 have hlt := (List.getElem?_eq_some_iff.1 h).1
 rw [fmK, take_succ_get h, List.map_append]
 refine joinB_snoc _ (fun e => ?_) _
 have := congrArg List.length e
 rw [List.length_map, List.length_take, List.length_nil] at this
 omega
theorem fmK_all (l : List Sp) {k : Nat} (hk : l.length ≤ k) : fmK l k = fmL l := by rw [fmK, List.take_of_length_le hk]; rfl
theorem fmK_le {l : List Sp} (h : ∀ x ∈ l, InI64 x.f ∧ InI64 x.t) (k : Nat) (hk : k ≤ l.length) : (fmK l k).length ≤ k * 42 := by
 have := joinB_le [44] 41 ((l.take k).map fmS) fun y hy => by
  obtain ⟨x, hx, rfl⟩ := List.mem_map.1 hy
  have := h x (List.mem_of_mem_take hx)
  exact fmS_le this.1 this.2
 rw [List.length_map, List.length_take, Nat.min_eq_left hk] at this
 exact this
end Go.Proofs.YtfedemnaeggokaaGreatDoor
end
section
namespace Go.Proofs.YtfedemnaeggokaaGreatDoor
set_option linter.unusedVariables false
set_option linter.unusedSimpArgs false
set_option maxRecDepth 100000
structure StrC (X : CallF) : Prop where
 join : ∀ (l : List Bs) (sep : Bs), l.length ≤ 200000000 → (joinB sep l).length ≤ 140737488355328 → (R FT X).f 36 [.slice 1 (l.map strL), strL sep] = some (strL (joinB sep l))
 idx : ∀ (s : Bs) (c : UInt8), (R FT X).f 39 [strL s, u8A c] = some (intA (Lib.indexByte s c))
 one : ∀ (s : Bs) (c : UInt8), (R FT X).f 75 [strL s, strL [c]] = some (intA (Lib.indexByte s c))
 cnt : ∀ (s : Bs) (c : UInt8), (R FT X).f 74 [strL s, strL [c]] = some (intA (Lib.countByte s c))
section
variable {X : CallF}
theorem fmt2_run (l : List Sp) (hl : l.length ≤ 10000000) (hi : ∀ x ∈ l, InI64 x.f ∧ InI64 x.t) : (R FT X).f 14 [.slice 2 (l.map encSp)] = some (strL (fmL l)) := by
 have hm := maxLen_le
 have hk := fun k hk => fmK_le hi k hk
 have rf := refFormat_run (X := X)
 refine R_wp ((Tr.inv (fun (k : Nat) ↦ St.mk [(0, AV.slice 2 (List.map encSp l)), (3, strL (fmK l k)), (4, intA (↑k : Int))] []) (fun (k : Nat) ↦ k ≤ l.length) (fun (k : Nat) ↦ l.length - k) fun (k : Nat) ↦ (Tr.k l.length (((Tr.ix encSp l k fun (x5 : Sp) ↦ Tr.c (strL (Lib.itoa x5.f)) (Tr.ix encSp l k fun (x7 : Sp) ↦ Tr.ix encSp l k fun (x9 : Sp) ↦ ((Tr.ix encSp l k fun (x12 : Sp) ↦ Tr.ix encSp l k fun (x14 : Sp) ↦ (Tr.ix encSp l k fun (x17 : Sp) ↦ ((Tr.ix encSp l k fun (x20 : Sp) ↦ Tr.c (strL (Lib.itoa x20.t)) Tr.nil.w.w).br Tr.nil.w).w).br (Tr.b false Tr.nil.w).w).w.w.br (Tr.ix encSp l k fun (x28 : Sp) ↦ Tr.ix encSp l k fun (x30 : Sp) ↦ (Tr.ix encSp l k fun (x33 : Sp) ↦ ((Tr.ix encSp l k fun (x36 : Sp) ↦ Tr.c (strL (Lib.itoa x36.t)) Tr.nil.w.w).br Tr.nil.w).w).br (Tr.b false Tr.nil.w).w).w).w).w.w).w.br (Tr.ix encSp l k fun (x44 : Sp) ↦ Tr.c (strL (Lib.itoa x44.f)) (Tr.ix encSp l k fun (x46 : Sp) ↦ Tr.ix encSp l k fun (x48 : Sp) ↦ ((Tr.ix encSp l k fun (x51 : Sp) ↦ Tr.ix encSp l k fun (x53 : Sp) ↦ (Tr.ix encSp l k fun (x56 : Sp) ↦ ((Tr.ix encSp l k fun (x59 : Sp) ↦ Tr.c (strL (Lib.itoa x59.t)) Tr.nil.w.w).br Tr.nil.w).w).br (Tr.b false Tr.nil.w).w).w.w.br (Tr.ix encSp
 l k fun (x67 : Sp) ↦ Tr.ix encSp l k fun (x69 : Sp) ↦ (Tr.ix encSp l k fun (x72 : Sp) ↦ ((Tr.ix encSp l k fun (x75 : Sp) ↦ Tr.c (strL (Lib.itoa x75.t)) Tr.nil.w.w).br Tr.nil.w).w).br (Tr.b false Tr.nil.w).w).w).w).w.w)).w.w.w.br Tr.nil)).w).w) rfl ?_
 refine Eq.mpr (by kernel_rfl : _ = ((∃ (j1 : Nat), ((List.map encSp l = List.map encSp l ∧ [] = fmK l j1 ∧ (0 : Int) = (↑j1 : Int) ∧ True) ∧ True) ∧ j1 ≤ l.length) ∧ ∀ (k : Nat), k ≤ l.length → (List.map encSp l).length = l.length ∧ (decide ((↑k : Int) < (↑l.length : Int)) = true → (decide ((0 : Int) < (↑k : Int)) = true → List.length (fmK l k) + [(44 : UInt8)].length ≤ 9223372036854775807 ∧ List.map encSp l = List.map encSp l ∧ (↑k : Int) = (↑k : Int) ∧ k < l.length ∧ ∀ (x5 : Sp), l[k]? = some x5 → (R FT X).f 37 [intA x5.f] = some (strL (Lib.itoa x5.f)) ∧ List.length (fmK l k ++ [(44 : UInt8)]) + (Lib.itoa x5.f).length ≤ 9223372036854775807 ∧ List.map encSp l = List.map encSp l ∧ (↑k : Int) = (↑k : Int) ∧ k < l.length ∧ ∀ (x7 : Sp), l[k]? = some x7 → List.map encSp l = List.map encSp l ∧ (↑k : Int) = (↑k : Int) ∧ k < l.length ∧ ∀ (x9 : Sp), l[k]? = some x9 → ((!decide (x7.t = x9.f)) = true → List.length (fmK l k ++ [(44 : UInt8)] ++ Lib.itoa x5.f) + [(45 : UInt8)].length ≤ 9223372036854775807 ∧ List.map encSp l = List.map encSp l ∧ (↑k : Int) = (↑k : Int) ∧ k < l.length ∧ ∀ (x12 : Sp), l[k]? = some x12 → List.map encSp l = List.map encSp l ∧ (↑k : Int) = (↑k : Int) ∧ k < l.length ∧
 ∀ (x14 : Sp), l[k]? = some x14 → ((!decide (x12.t = x14.f)) = true → List.map encSp l = List.map encSp l ∧ (↑k : Int) = (↑k : Int) ∧ k < l.length ∧ ∀ (x17 : Sp), l[k]? = some x17 → ((!decide (x17.t = 0)) = true → List.map encSp l = List.map encSp l ∧ (↑k : Int) = (↑k : Int) ∧ k < l.length ∧ ∀ (x20 : Sp), l[k]? = some x20 → (R FT X).f 37 [intA x20.t] = some (strL (Lib.itoa x20.t)) ∧ List.length (fmK l k ++ [(44 : UInt8)] ++ Lib.itoa x5.f ++ [(45 : UInt8)]) + (Lib.itoa x20.t).length ≤ 9223372036854775807 ∧ InI64 ((↑k : Int) + 1) ∧ ∃ (j22 : Nat), ((List.map encSp l = List.map encSp l ∧ fmK l k ++ [(44 : UInt8)] ++ Lib.itoa x5.f ++ [(45 : UInt8)] ++ Lib.itoa x20.t = fmK l j22 ∧ (↑k : Int) + 1 = (↑j22 : Int) ∧ True) ∧ True) ∧ j22 ≤ l.length ∧ l.length - j22 < l.length - k) ∧ ((!decide (x17.t = 0)) = false → InI64 ((↑k : Int) + 1) ∧ ∃ (j24 : Nat), ((List.map encSp l = List.map encSp l ∧ fmK l k ++ [(44 : UInt8)] ++ Lib.itoa x5.f ++ [(45 : UInt8)] = fmK l j24 ∧ (↑k : Int) + 1 = (↑j24 : Int) ∧ True) ∧ True) ∧ j24 ≤ l.length ∧ l.length - j24 < l.length - k)) ∧ ((!decide (x12.t = x14.f)) = false → false = false ∧ InI64 ((↑k :
 Int) + 1) ∧ ∃ (j26 : Nat), ((List.map encSp l = List.map encSp l ∧ fmK l k ++ [(44 : UInt8)] ++ Lib.itoa x5.f ++ [(45 : UInt8)] = fmK l j26 ∧ (↑k : Int) + 1 = (↑j26 : Int) ∧ True) ∧ True) ∧ j26 ≤ l.length ∧ l.length - j26 < l.length - k)) ∧ ((!decide (x7.t = x9.f)) = false → List.map encSp l = List.map encSp l ∧ (↑k : Int) = (↑k : Int) ∧ k < l.length ∧ ∀ (x28 : Sp), l[k]? = some x28 → List.map encSp l = List.map encSp l ∧ (↑k : Int) = (↑k : Int) ∧ k < l.length ∧ ∀ (x30 : Sp), l[k]? = some x30 → ((!decide (x28.t = x30.f)) = true → List.map encSp l = List.map encSp l ∧ (↑k : Int) = (↑k : Int) ∧ k < l.length ∧ ∀ (x33 : Sp), l[k]? = some x33 → ((!decide (x33.t = 0)) = true → List.map encSp l = List.map encSp l ∧ (↑k : Int) = (↑k : Int) ∧ k < l.length ∧ ∀ (x36 : Sp), l[k]? = some x36 → (R FT X).f 37 [intA x36.t] = some (strL (Lib.itoa x36.t)) ∧ List.length (fmK l k ++ [(44 : UInt8)] ++ Lib.itoa x5.f) + (Lib.itoa x36.t).length ≤ 9223372036854775807 ∧ InI64 ((↑k : Int) + 1) ∧ ∃ (j38 : Nat), ((List.map encSp l = List.map encSp l ∧ fmK l k ++ [(44 : UInt8)] ++ Lib.itoa x5.f ++ Lib.itoa x36.t = fmK l j38 ∧ (↑k : Int) + 1 = (↑j38 : Int)
 ∧ True) ∧ True) ∧ j38 ≤ l.length ∧ l.length - j38 < l.length - k) ∧ ((!decide (x33.t = 0)) = false → InI64 ((↑k : Int) + 1) ∧ ∃ (j40 : Nat), ((List.map encSp l = List.map encSp l ∧ fmK l k ++ [(44 : UInt8)] ++ Lib.itoa x5.f = fmK l j40 ∧ (↑k : Int) + 1 = (↑j40 : Int) ∧ True) ∧ True) ∧ j40 ≤ l.length ∧ l.length - j40 < l.length - k)) ∧ ((!decide (x28.t = x30.f)) = false → false = false ∧ InI64 ((↑k : Int) + 1) ∧ ∃ (j42 : Nat), ((List.map encSp l = List.map encSp l ∧ fmK l k ++ [(44 : UInt8)] ++ Lib.itoa x5.f = fmK l j42 ∧ (↑k : Int) + 1 = (↑j42 : Int) ∧ True) ∧ True) ∧ j42 ≤ l.length ∧ l.length - j42 < l.length - k))) ∧ (decide ((0 : Int) < (↑k : Int)) = false → List.map encSp l = List.map encSp l ∧ (↑k : Int) = (↑k : Int) ∧ k < l.length ∧ ∀ (x44 : Sp), l[k]? = some x44 → (R FT X).f 37 [intA x44.f] = some (strL (Lib.itoa x44.f)) ∧ List.length (fmK l k) + (Lib.itoa x44.f).length ≤ 9223372036854775807 ∧ List.map encSp l = List.map encSp l ∧ (↑k : Int) = (↑k : Int) ∧ k < l.length ∧ ∀ (x46 : Sp), l[k]? = some x46 → List.map encSp l = List.map encSp l ∧ (↑k : Int) = (↑k : Int) ∧ k < l.length ∧ ∀ (x48 : Sp), l[k]? = some x48 → ((!decide
 (x46.t = x48.f)) = true → List.length (fmK l k ++ Lib.itoa x44.f) + [(45 : UInt8)].length ≤ 9223372036854775807 ∧ List.map encSp l = List.map encSp l ∧ (↑k : Int) = (↑k : Int) ∧ k < l.length ∧ ∀ (x51 : Sp), l[k]? = some x51 → List.map encSp l = List.map encSp l ∧ (↑k : Int) = (↑k : Int) ∧ k < l.length ∧ ∀ (x53 : Sp), l[k]? = some x53 → ((!decide (x51.t = x53.f)) = true → List.map encSp l = List.map encSp l ∧ (↑k : Int) = (↑k : Int) ∧ k < l.length ∧ ∀ (x56 : Sp), l[k]? = some x56 → ((!decide (x56.t = 0)) = true → List.map encSp l = List.map encSp l ∧ (↑k : Int) = (↑k : Int) ∧ k < l.length ∧ ∀ (x59 : Sp), l[k]? = some x59 → (R FT X).f 37 [intA x59.t] = some (strL (Lib.itoa x59.t)) ∧ List.length (fmK l k ++ Lib.itoa x44.f ++ [(45 : UInt8)]) + (Lib.itoa x59.t).length ≤ 9223372036854775807 ∧ InI64 ((↑k : Int) + 1) ∧ ∃ (j61 : Nat), ((List.map encSp l = List.map encSp l ∧ fmK l k ++ Lib.itoa x44.f ++ [(45 : UInt8)] ++ Lib.itoa x59.t = fmK l j61 ∧ (↑k : Int) + 1 = (↑j61 : Int) ∧ True) ∧ True) ∧ j61 ≤ l.length ∧ l.length - j61 < l.length - k) ∧ ((!decide (x56.t = 0)) = false → InI64 ((↑k : Int) + 1) ∧ ∃ (j63 : Nat), ((List.map
 encSp l = List.map encSp l ∧ fmK l k ++ Lib.itoa x44.f ++ [(45 : UInt8)] = fmK l j63 ∧ (↑k : Int) + 1 = (↑j63 : Int) ∧ True) ∧ True) ∧ j63 ≤ l.length ∧ l.length - j63 < l.length - k)) ∧ ((!decide (x51.t = x53.f)) = false → false = false ∧ InI64 ((↑k : Int) + 1) ∧ ∃ (j65 : Nat), ((List.map encSp l = List.map encSp l ∧ fmK l k ++ Lib.itoa x44.f ++ [(45 : UInt8)] = fmK l j65 ∧ (↑k : Int) + 1 = (↑j65 : Int) ∧ True) ∧ True) ∧ j65 ≤ l.length ∧ l.length - j65 < l.length - k)) ∧ ((!decide (x46.t = x48.f)) = false → List.map encSp l = List.map encSp l ∧ (↑k : Int) = (↑k : Int) ∧ k < l.length ∧ ∀ (x67 : Sp), l[k]? = some x67 → List.map encSp l = List.map encSp l ∧ (↑k : Int) = (↑k : Int) ∧ k < l.length ∧ ∀ (x69 : Sp), l[k]? = some x69 → ((!decide (x67.t = x69.f)) = true → List.map encSp l = List.map encSp l ∧ (↑k : Int) = (↑k : Int) ∧ k < l.length ∧ ∀ (x72 : Sp), l[k]? = some x72 → ((!decide (x72.t = 0)) = true → List.map encSp l = List.map encSp l ∧ (↑k : Int) = (↑k : Int) ∧ k < l.length ∧ ∀ (x75 : Sp), l[k]? = some x75 → (R FT X).f 37 [intA x75.t] = some (strL (Lib.itoa x75.t)) ∧ List.length (fmK l k ++ Lib.itoa x44.f) + (Lib.itoa x75.t).length ≤ (9223372036854775807
 : Nat) ∧ InI64 ((↑k : Int) + 1) ∧ ∃ (j77 : Nat), ((List.map encSp l = List.map encSp l ∧ fmK l k ++ Lib.itoa x44.f ++ Lib.itoa x75.t = fmK l j77 ∧ (↑k : Int) + 1 = (↑j77 : Int) ∧ True) ∧ True) ∧ j77 ≤ l.length ∧ l.length - j77 < l.length - k) ∧ ((!decide (x72.t = 0)) = false → InI64 ((↑k : Int) + 1) ∧ ∃ (j79 : Nat), ((List.map encSp l = List.map encSp l ∧ fmK l k ++ Lib.itoa x44.f = fmK l j79 ∧ (↑k : Int) + 1 = (↑j79 : Int) ∧ True) ∧ True) ∧ j79 ≤ l.length ∧ l.length - j79 < l.length - k)) ∧ ((!decide (x67.t = x69.f)) = false → false = false ∧ InI64 ((↑k : Int) + 1) ∧ ∃ (j81 : Nat), ((List.map encSp l = List.map encSp l ∧ fmK l k ++ Lib.itoa x44.f = fmK l j81 ∧ (↑k : Int) + 1 = (↑j81 : Int) ∧ True) ∧ True) ∧ j81 ≤ l.length ∧ l.length - j81 < l.length - k)))) ∧ (decide ((↑k : Int) < (↑l.length : Int)) = false → fmK l k = fmL l))) ?_
 refine ⟨⟨(0 : Nat), ⟨⟨rfl, rfl, (by omega), trivial⟩, trivial⟩, (by omega)⟩, fun k => fun h2 => ⟨(by simp), fun h3_ => have h3 := dT h3_; ⟨fun h4_ => have h4 := dT h4_; ⟨?_, rfl, rfl, (by omega), fun x5 => fun h6 => ⟨(rf _ ?_), ?_, rfl, rfl, (by omega), fun x7 => fun h8 => ⟨rfl, rfl, (by omega), fun x9 => fun h10 => ⟨fun h11_ => have h11 := dnT h11_; ⟨?_, rfl, rfl, (by omega), fun x12 => fun h13 => ⟨rfl, rfl, (by omega), fun x14 => fun h15 => ⟨fun h16_ => have h16 := dnT h16_; ⟨rfl, rfl, (by omega), fun x17 => fun h18 => ⟨fun h19_ => have h19 := dnT h19_; ⟨rfl, rfl, (by omega), fun x20 => fun h21 => ⟨(rf _ ?_), ?_, (by unfold InI64; omega), ⟨k + (1 : Nat), ⟨⟨rfl, ?_, (by omega), trivial⟩, trivial⟩, ⟨(by omega), (by omega)⟩⟩⟩⟩, fun h23_ => have h23 := dnF h23_; ⟨(by unfold InI64; omega), ⟨k + (1 : Nat), ⟨⟨rfl, ?_, (by omega), trivial⟩, trivial⟩, ⟨(by omega), (by omega)⟩⟩⟩⟩⟩, fun h25_ => have h25 := dnF h25_; ⟨rfl, (by unfold InI64; omega), ⟨k + (1 : Nat), ⟨⟨rfl, ?_, (by omega), trivial⟩, trivial⟩, ⟨(by omega), (by omega)⟩⟩⟩⟩⟩⟩, fun h27_ => have h27 := dnF h27_; ⟨rfl, rfl, (by omega), fun x28 => fun h29 => ⟨rfl, rfl, (by omega), fun x30 => fun h31 => ⟨fun h32_ => have h32 := dnT h32_; ⟨rfl, rfl, (by omega), fun x33 => fun h34 => ⟨fun h35_ => have h35 := dnT h35_; ⟨rfl, rfl, (by omega), fun x36 => fun h37 => ⟨(rf _ ?_), ?_, (by unfold InI64; omega), ⟨k + (1 : Nat), ⟨⟨rfl, ?_, (by omega), trivial⟩, trivial⟩, ⟨(by omega), (by omega)⟩⟩⟩⟩, fun h39_ => have h39 := dnF h39_; ⟨(by unfold InI64; omega), ⟨k + (1 : Nat), ⟨⟨rfl, ?_, (by omega), trivial⟩, trivial⟩, ⟨(by omega), (by omega)⟩⟩⟩⟩⟩, fun h41_ => have h41 := dnF h41_; ⟨rfl, (by unfold InI64; omega), ⟨k + (1 : Nat), ⟨⟨rfl, ?_, (by omega), trivial⟩, trivial⟩, ⟨(by omega), (by omega)⟩⟩⟩⟩⟩⟩⟩⟩⟩⟩, fun h43_ => have h43 := dF h43_; ⟨rfl, rfl, (by omega), fun x44 => fun h45 => ⟨(rf _ ?_), ?_, rfl, rfl, (by omega), fun x46 => fun h47 => ⟨rfl, rfl, (by omega), fun x48 => fun h49 => ⟨fun h50_ => have h50 := dnT h50_; ⟨?_, rfl, rfl, (by omega), fun x51 => fun h52 => ⟨rfl, rfl, (by omega), fun x53 => fun h54 => ⟨fun h55_ => have h55 := dnT h55_; ⟨rfl, rfl, (by omega), fun x56 => fun h57 => ⟨fun h58_ => have h58 := dnT h58_; ⟨rfl, rfl, (by omega), fun x59 => fun h60 => ⟨(rf _ ?_), ?_, (by unfold InI64; omega), ⟨k + (1 : Nat), ⟨⟨rfl, ?_, (by omega), trivial⟩, trivial⟩, ⟨(by omega), (by omega)⟩⟩⟩⟩, fun h62_ => have h62 := dnF h62_; ⟨(by unfold InI64; omega), ⟨k + (1 : Nat), ⟨⟨rfl, ?_, (by omega), trivial⟩, trivial⟩, ⟨(by omega), (by omega)⟩⟩⟩⟩⟩, fun h64_ => have h64 := dnF h64_; ⟨rfl, (by unfold InI64; omega), ⟨k + (1 : Nat), ⟨⟨rfl, ?_, (by omega), trivial⟩, trivial⟩, ⟨(by omega), (by omega)⟩⟩⟩⟩⟩⟩, fun h66_ => have h66 := dnF h66_; ⟨rfl, rfl, (by omega), fun x67 => fun h68 => ⟨rfl, rfl, (by omega), fun x69 => fun h70 => ⟨fun h71_ => have h71 := dnT h71_; ⟨rfl, rfl, (by omega), fun x72 => fun h73 => ⟨fun h74_ => have h74 := dnT h74_; ⟨rfl, rfl, (by omega), fun x75 => fun h76 => ⟨(rf _ ?_), ?_, (by unfold InI64; omega), ⟨k + (1 : Nat), ⟨⟨rfl, ?_, (by omega), trivial⟩, trivial⟩, ⟨(by omega), (by omega)⟩⟩⟩⟩, fun h78_ => have h78 := dnF h78_; ⟨(by unfold InI64; omega), ⟨k + (1 : Nat), ⟨⟨rfl, ?_, (by omega), trivial⟩, trivial⟩, ⟨(by omega), (by omega)⟩⟩⟩⟩⟩, fun h80_ => have h80 := dnF h80_; ⟨rfl, (by unfold InI64; omega), ⟨k + (1 : Nat), ⟨⟨rfl, ?_, (by omega), trivial⟩, trivial⟩, ⟨(by omega), (by omega)⟩⟩⟩⟩⟩⟩⟩⟩⟩⟩⟩, fun h82_ => have h82 := dF h82_; ?_⟩⟩
 rotate_right 1
 ·exact fmK_all l (by omega)
 all_goals (try obtain rfl := same_at h6 h8)
 all_goals (try obtain rfl := same_at h6 h10)
 all_goals (try obtain rfl := same_at h6 h13)
 all_goals (try obtain rfl := same_at h6 h15)
 all_goals (try obtain rfl := same_at h6 h18)
 all_goals (try obtain rfl := same_at h6 h21)
 all_goals (try obtain rfl := same_at h6 h29)
 all_goals (try obtain rfl := same_at h6 h31)
 all_goals (try obtain rfl := same_at h6 h34)
 all_goals (try obtain rfl := same_at h6 h37)
 all_goals (try obtain rfl := same_at h45 h47)
 all_goals (try obtain rfl := same_at h45 h49)
 all_goals (try obtain rfl := same_at h45 h52)
 all_goals (try obtain rfl := same_at h45 h54)
 all_goals (try obtain rfl := same_at h45 h57)
 all_goals (try obtain rfl := same_at h45 h60)
 all_goals (try obtain rfl := same_at h45 h68)
 all_goals (try obtain rfl := same_at h45 h70)
 all_goals (try obtain rfl := same_at h45 h73)
 all_goals (try obtain rfl := same_at h45 h76)
 all_goals have hkk := hk k h2
 ·simp; omega
 iterate 13
  ·have hx := hi _ (List.mem_of_getElem? h6)
   have i1 := itoa_len hx.1
   have i2 := itoa_len hx.2
   first | exact hx.1 | exact hx.2 | contradiction | omega | (simp only [List.length_append, List.length_cons, List.length_nil]; omega) | (rw [fmK_s (by omega) h6, fmS_1 (by assumption)]; done) | (rw [fmK_s (by omega) h6, fmS_2 (by assumption) (by assumption)]; simp; done) | (rw [fmK_s (by omega) h6, fmS_3 (by assumption) (by assumption)]; simp; done)
 all_goals
  have hx := hi _ (List.mem_of_getElem? h45)
  have i1 := itoa_len hx.1
  have i2 := itoa_len hx.2
  have k0 : k = 0 := by omega
  subst k0
  first | exact hx.1 | exact hx.2 | contradiction | omega | (simp only [List.length_append, List.length_cons, List.length_nil]; omega) | (rw [fmK_0 h45, fmS_1 (by assumption)]; simp [fmK, joinB]; done) | (rw [fmK_0 h45, fmS_2 (by assumption) (by assumption)]; simp [fmK, joinB]; done) | (rw [fmK_0 h45, fmS_3 (by assumption) (by assumption)]; simp [fmK, joinB]; done)
theorem fmt1_run (hc : NumC X) (hx : StrC X) (l : List Sp) (hl : l.length ≤ 10000000) (hi : ∀ x ∈ l, InI64 x.f ∧ InI64 x.t) : (R FT X).f 13 [.slice 2 (l.map encSp)] = some (strL (fmL l)) := by
 have hm := maxLen_le
 have fr := format_run hc
 have jn := hx.join
 refine R_wp (Tr.k l.length (Tr.inv (fun (k : Nat) ↦ St.mk [(3, AV.row 0 0 (List.map fmS (List.take k l)).length (0 : Nat) (List.map fmS (List.take k l)).length), (7, AV.slice 2 (List.map encSp l)), (8, intA (↑l.length : Int)), (9, intA (↑k : Int))] [MObj.row 0 1 (List.map strL (List.map fmS (List.take k l))) true (1 : Nat)]) (fun (k : Nat) ↦ k ≤ l.length) (fun (k : Nat) ↦ l.length - k) fun (k : Nat) ↦ (Tr.ix encSp l k fun (x4 : Sp) ↦ Tr.c (strL (Lib.itoa x4.f)) ((Tr.k ((List.map fmS (List.take k l)).length + 1) Tr.nil.w).br ((Tr.k ((List.map fmS (List.take k l)).length + 1) Tr.nil.w).w.br (Tr.c (strL (Lib.itoa x4.t)) (Tr.k ((List.map fmS (List.take k l)).length + 1) Tr.nil.w).w.w)).w.w).w.w.w).w.br (Tr.g (List.map strL (List.take (List.map fmS (List.take k l)).length (List.map fmS (List.take k l)))) (Tr.c (strL (joinB [(44 : UInt8)] (List.take (List.map fmS (List.take k l)).length (List.map fmS (List.take k l))))) Tr.nil))).w) rfl ?_
 refine Eq.mpr (by kernel_rfl : _ = ((List.map encSp l).length = l.length ∧ (∃ (j1 : Nat), ((((0 : Nat) = (List.map fmS (List.take j1 l)).length ∧ (0 : Nat) = 0 ∧ (0 : Nat) = (List.map fmS (List.take j1 l)).length) ∧ List.map encSp l = List.map encSp l ∧ (↑l.length : Int) = (↑l.length : Int) ∧ (0 : Int) = (↑j1 : Int) ∧ True) ∧ [] = List.map strL (List.map fmS (List.take j1 l))) ∧ j1 ≤ l.length) ∧ ∀ (k : Nat), k ≤ l.length → (decide ((↑k : Int) < (↑l.length : Int)) = true → List.map encSp l = List.map encSp l ∧ (↑k : Int) = (↑k : Int) ∧ k < l.length ∧ ∀ (x4 : Sp), l[k]? = some x4 → (R FT X).f 35 [intA x4.f] = some (strL (Lib.itoa x4.f)) ∧ (decide (x4.t = x4.f) = true → (List.map strL (List.map fmS (List.take k l))).length = (List.map fmS (List.take k l)).length ∧ (0 : Nat) = 0 ∧ (List.map fmS (List.take k l)).length = (List.map fmS (List.take k l)).length ∧ (List.map fmS (List.take k l)).length + [AV.val (Value.string (ofL (Lib.itoa x4.f)))].length = (List.map fmS (List.take k l)).length + 1 ∧ ((List.map fmS (List.take k l)).length + 1) * 16 ≤ (140737488355328 : Nat) ∧ (List.map fmS (List.take k l)).length + 1 ≤ (9223372036854775807 : Nat) ∧ InI64 ((↑k : Int) +
 (1 : Int)) ∧ ∃ (j7 : Nat), ((((List.map fmS (List.take k l)).length + 1 = (List.map fmS (List.take j7 l)).length ∧ (0 : Nat) = 0 ∧ (List.map fmS (List.take k l)).length + 1 = (List.map fmS (List.take j7 l)).length) ∧ List.map encSp l = List.map encSp l ∧ (↑l.length : Int) = (↑l.length : Int) ∧ (↑k : Int) + 1 = (↑j7 : Int) ∧ True) ∧ List.map strL (List.map fmS (List.take k l)) ++ [AV.val (Value.string (ofL (Lib.itoa x4.f)))] = List.map strL (List.map fmS (List.take j7 l))) ∧ j7 ≤ l.length ∧ l.length - j7 < l.length - k) ∧ (decide (x4.t = x4.f) = false → (decide (x4.t = 0) = true → (Lib.itoa x4.f).length + [(45 : UInt8)].length ≤ 9223372036854775807 ∧ (List.map strL (List.map fmS (List.take k l))).length = (List.map fmS (List.take k l)).length ∧ (0 : Nat) = 0 ∧ (List.map fmS (List.take k l)).length = (List.map fmS (List.take k l)).length ∧ (List.map fmS (List.take k l)).length + [AV.val (Value.string (ofL (Lib.itoa x4.f ++ [(45 : UInt8)])))].length = (List.map fmS (List.take k l)).length + 1 ∧ ((List.map fmS (List.take k l)).length + 1) * 16 ≤ (140737488355328 : Nat) ∧ (List.map fmS (List.take k l)).length
 + (1 : Nat) ≤ 9223372036854775807 ∧ InI64 ((↑k : Int) + 1) ∧ ∃ (j10 : Nat), ((((List.map fmS (List.take k l)).length + 1 = (List.map fmS (List.take j10 l)).length ∧ (0 : Nat) = 0 ∧ (List.map fmS (List.take k l)).length + 1 = (List.map fmS (List.take j10 l)).length) ∧ List.map encSp l = List.map encSp l ∧ (↑l.length : Int) = (↑l.length : Int) ∧ (↑k : Int) + 1 = (↑j10 : Int) ∧ True) ∧ List.map strL (List.map fmS (List.take k l)) ++ [AV.val (Value.string (ofL (Lib.itoa x4.f ++ [(45 : UInt8)])))] = List.map strL (List.map fmS (List.take j10 l))) ∧ j10 ≤ l.length ∧ l.length - j10 < l.length - k) ∧ (decide (x4.t = 0) = false → (R FT X).f 35 [intA x4.t] = some (strL (Lib.itoa x4.t)) ∧ [(45 : UInt8)].length + (Lib.itoa x4.t).length ≤ 9223372036854775807 ∧ (Lib.itoa x4.f).length + List.length ([(45 : UInt8)] ++ Lib.itoa x4.t) ≤ 9223372036854775807 ∧ (List.map strL (List.map fmS (List.take k l))).length = (List.map fmS (List.take k l)).length ∧ (0 : Nat) = 0 ∧ (List.map fmS (List.take k l)).length = (List.map fmS (List.take k l)).length ∧ (List.map fmS (List.take k l)).length + [AV.val (Value.string (ofL
 (Lib.itoa x4.f ++ ([(45 : UInt8)] ++ Lib.itoa x4.t))))].length = (List.map fmS (List.take k l)).length + 1 ∧ ((List.map fmS (List.take k l)).length + 1) * 16 ≤ (140737488355328 : Nat) ∧ (List.map fmS (List.take k l)).length + 1 ≤ (9223372036854775807 : Nat) ∧ InI64 ((↑k : Int) + 1) ∧ ∃ (j12 : Nat), ((((List.map fmS (List.take k l)).length + 1 = (List.map fmS (List.take j12 l)).length ∧ (0 : Nat) = 0 ∧ (List.map fmS (List.take k l)).length + 1 = (List.map fmS (List.take j12 l)).length) ∧ List.map encSp l = List.map encSp l ∧ (↑l.length : Int) = (↑l.length : Int) ∧ (↑k : Int) + 1 = (↑j12 : Int) ∧ True) ∧ List.map strL (List.map fmS (List.take k l)) ++ [AV.val (Value.string (ofL (Lib.itoa x4.f ++ ([(45 : UInt8)] ++ Lib.itoa x4.t))))] = List.map strL (List.map fmS (List.take j12 l))) ∧ j12 ≤ l.length ∧ l.length - j12 < l.length - k))) ∧ (decide ((↑k : Int) < (↑l.length : Int)) = false → (List.map strL (List.map fmS (List.take k l))).length = (List.map fmS (List.take k l)).length ∧ List.take (List.map fmS (List.take k l)).length (List.drop (0 : Nat) (List.map strL (List.map fmS (List.take k l)))) = List.map strL (List.take
 (List.map fmS (List.take k l)).length (List.map fmS (List.take k l))) ∧ (R FT X).f 36 [AV.slice 1 (List.map strL (List.take (List.map fmS (List.take k l)).length (List.map fmS (List.take k l)))), strL [(44 : UInt8)]] = some (strL (joinB [(44 : UInt8)] (List.take (List.map fmS (List.take k l)).length (List.map fmS (List.take k l))))) ∧ joinB [(44 : UInt8)] (List.take (List.map fmS (List.take k l)).length (List.map fmS (List.take k l))) = fmL l))) ?_
 refine ⟨(by simp), ⟨(0 : Nat), ⟨⟨⟨rfl, rfl, rfl⟩, rfl, rfl, (by omega), trivial⟩, rfl⟩, (by omega)⟩, fun k => fun h2 => ⟨fun h3_ => have h3 := dT h3_; ⟨rfl, rfl, (by omega), fun x4 => fun h5 => ⟨(fr _ ?_), fun h6_ => have h6 := dT h6_; ⟨(by simp), rfl, rfl, rfl, (by simp; omega), (by simp; omega), (by unfold InI64; omega), ⟨k + (1 : Nat), ⟨⟨⟨?_, rfl, ?_⟩, rfl, rfl, (by omega), trivial⟩, ?_⟩, ⟨(by omega), (by omega)⟩⟩⟩, fun h8_ => have h8 := dF h8_; ⟨fun h9_ => have h9 := dT h9_; ⟨?_, (by simp), rfl, rfl, rfl, (by simp; omega), (by simp; omega), (by unfold InI64; omega), ⟨k + (1 : Nat), ⟨⟨⟨?_, rfl, ?_⟩, rfl, rfl, (by omega), trivial⟩, ?_⟩, ⟨(by omega), (by omega)⟩⟩⟩, fun h11_ => have h11 := dF h11_; ⟨(fr _ ?_), ?_, ?_, (by simp), rfl, rfl, rfl, (by simp; omega), (by simp; omega), (by unfold InI64; omega), ⟨k + (1 : Nat), ⟨⟨⟨?_, rfl, ?_⟩, rfl, rfl, (by omega), trivial⟩, ?_⟩, ⟨(by omega), (by omega)⟩⟩⟩⟩⟩⟩, fun h13_ => have h13 := dF h13_; ⟨(by simp), (by simp), (jn _ _ (by exact (by simp; omega)) ?_), ?_⟩⟩⟩
 all_goals (try have hx := hi _ (List.mem_of_getElem? h5))
 all_goals (try have i1 := itoa_len hx.1)
 all_goals (try have i2 := itoa_len hx.2)
 ·exact hx.1
 iterate 13
  ·first | exact hx.2 | (simp only [List.length_append, List.length_cons, List.length_nil]; omega) | (simp only [List.length_map, List.length_take]; omega) | (rw [take_succ_get h5, List.map_append, List.map_append]; first | (rw [List.map_singleton, fmS_1 (by assumption)]; rfl) | (rw [List.map_singleton, fmS_2 (by assumption) (by assumption)]; rfl) | (rw [List.map_singleton, fmS_3 (by assumption) (by assumption), List.append_assoc]; rfl))
 ·rw [List.take_of_length_le (Nat.le_refl _)]
  have h := fmK_le hi k h2
  unfold fmK at h
  omega
 ·rw [List.take_of_length_le (Nat.le_refl _)]
  exact fmK_all l (by omega)
end
end Go.Proofs.YtfedemnaeggokaaGreatDoor
end
section
namespace Go.Proofs.YtfedemnaeggokaaGreatDoor
set_option linter.unusedVariables false
set_option linter.unusedSimpArgs false
def flF (c : UInt8) (s : Bs) : Nat → Nat
 | 0 => 0
 | i + 1 => if s[i]? = some c then i + 1 else flF c s i
def flO (c : UInt8) (s : Bs) : Nat → List Bs
 | 0 => []
 | i + 1 => if s[i]? = some c then flO c s i ++ [(s.take i).drop (flF c s i)] else flO c s i
def flds (c : UInt8) (s : Bs) : List Bs := flO c s s.length ++ [s.drop (flF c s s.length)]
def lins (s : Bs) : List Bs := if flF 10 s s.length < s.length then flds 10 s else flO 10 s s.length
def endB (s : Bs) : Bool := decide (¬ flF 10 s s.length < s.length)
section
variable {c : UInt8} {s : Bs} {i : Nat}
theorem flF_y (h : s[i]? = some c) : flF c s (i + 1) = i + 1 := if_pos h
theorem flF_n (h : ¬ s[i]? = some c) : flF c s (i + 1) = flF c s i := if_neg h
theorem flO_y (h : s[i]? = some c) : flO c s (i + 1) = flO c s i ++ [(s.take i).drop (flF c s i)] := if_pos h
theorem flO_n (h : ¬ s[i]? = some c) : flO c s (i + 1) = flO c s i := if_neg h
theorem flF_le (c : UInt8) (s : Bs) : ∀ i, flF c s i ≤ i
 | 0 => Nat.le_refl _
 | i + 1 => by
  have := flF_le c s i
  unfold flF; split <;> omega
theorem flO_len (c : UInt8) (s : Bs) : ∀ i, (flO c s i).length ≤ i
 | 0 => Nat.le_refl _
 | i + 1 => by
  have := flO_len c s i
  unfold flO; split
  ·simp; omega
  ·omega
end
theorem fl_shift (c : UInt8) (y s : Bs) (hy : ∀ x ∈ y, x ≠ c) : ∀ i, flF c (y ++ c :: s) (y.length + 1 + i) = y.length + 1 + flF c s i ∧ flO c (y ++ c :: s) (y.length + 1 + i) = y :: flO c s i := by
 have hpre : ∀ j, j ≤ y.length → flF c (y ++ c :: s) j = 0 ∧ flO c (y ++ c :: s) j = [] := by
  intro j
  induction j with
  | zero => intro _; exact ⟨rfl, rfl⟩
  | succ j ih =>
   intro hj
   obtain ⟨h1, h2⟩ := ih (by omega)
   have hn : ¬ (y ++ c :: s)[j]? = some c := by
    rw [List.getElem?_append_left (by omega)]
    intro q
    exact hy c (List.mem_of_getElem? q) rfl
   rw [flF_n hn, flO_n hn]; exact ⟨h1, h2⟩
 intro i
 induction i with
 | zero =>
  obtain ⟨h1, h2⟩ := hpre y.length (Nat.le_refl _)
  have hc : (y ++ c :: s)[y.length]? = some c := by rw [List.getElem?_append_right (Nat.le_refl _)]; simp
  rw [Nat.add_zero, flF_y hc, flO_y hc, h1, h2]
  refine ⟨rfl, ?_⟩
  simp [flO]
 | succ i ih =>
  obtain ⟨h1, h2⟩ := ih
  have hg : (y ++ c :: s)[y.length + 1 + i]? = s[i]? := by
   rw [List.getElem?_append_right (by omega), show y.length + 1 + i - y.length = i + 1 by omega]; simp
  rw [show y.length + 1 + (i + 1) = (y.length + 1 + i) + 1 by omega]
  by_cases hc : s[i]? = some c
  ·rw [flF_y (hg.trans hc), flO_y (hg.trans hc), flF_y hc, flO_y hc, h1, h2]
   refine ⟨by omega, ?_⟩
   rw [List.cons_append]
   congr 3
   have : (y ++ c :: s).take (y.length + 1 + i) = y ++ c :: s.take i := by
    rw [show y.length + 1 + i = y.length + (i + 1) by omega, List.take_append]; simp [List.take_of_length_le]
   rw [this, show y.length + 1 + flF c s i = y.length + (flF c s i + 1) by omega, List.drop_append]
   simp
  ·rw [flF_n (by rw [hg]; exact hc), flO_n (by rw [hg]; exact hc), flF_n hc, flO_n hc]; exact ⟨h1, h2⟩
theorem flds_cons (c : UInt8) (y s : Bs) (hy : ∀ x ∈ y, x ≠ c) : flds c (y ++ c :: s) = y :: flds c s := by
 have h := fl_shift c y s hy s.length
 have e : (y ++ c :: s).length = y.length + 1 + s.length := by simp; omega
 unfold flds
 rw [e, h.1, h.2]
 simp only [List.cons_append, List.cons.injEq, true_and]
 congr 2
 rw [show y.length + 1 + flF c s s.length = y.length + (flF c s s.length + 1) by omega, List.drop_append]
 simp
theorem flds_one (c : UInt8) (s : Bs) (hs : ∀ x ∈ s, x ≠ c) : flds c s = [s] := by
 have : ∀ j, flF c s j = 0 ∧ flO c s j = [] := by
  intro j
  induction j with
  | zero => exact ⟨rfl, rfl⟩
  | succ j ih =>
   have hn : ¬ s[j]? = some c := fun q => hs c (List.mem_of_getElem? q) rfl
   rw [flF_n hn, flO_n hn]; exact ih
 unfold flds
 rw [(this _).1, (this _).2]; simp
theorem idx_no {c : UInt8} : ∀ {s : Bs}, Lib.indexByte s c < 0 → ∀ x ∈ s, x ≠ c
 | [], _, x, hx => by simp at hx
 | b :: s, h, x, hx => by
  unfold Lib.indexByte at h
  split at h
  ·omega
  ·rename_i hb
   have := Lib.indexByte_ge s c
   split at h
   ·rename_i h1
    rcases List.mem_cons.1 hx with q | q
    ·subst q; simpa using hb
    ·exact idx_no (by simp at h1; omega) x q
   ·rename_i h1
    simp at h1
    omega
theorem idx_yes {c : UInt8} : ∀ {s : Bs}, 0 ≤ Lib.indexByte s c → ∃ y r, s = y ++ c :: r ∧ (∀ x ∈ y, x ≠ c) ∧ Lib.indexByte s c = y.length
 | [], h => by simp [Lib.indexByte] at h
 | b :: s, h => by
  unfold Lib.indexByte at h ⊢
  by_cases hb : (b == c) = true
  ·rw [if_pos hb]
   have : b = c := by simpa using hb
   subst this
   exact ⟨[], s, rfl, fun x hx => by simp at hx, rfl⟩
  ·rw [if_neg hb] at h ⊢
   by_cases h1 : (Lib.indexByte s c == -1) = true
   ·rw [if_pos h1] at h; omega
   ·rw [if_neg h1] at h ⊢
    have hge := Lib.indexByte_ge s c
    obtain ⟨y, r, e, h2, h3⟩ := idx_yes (s := s) (c := c) (by simp at h1; omega)
    refine ⟨b :: y, r, by rw [e]; rfl, fun x hx => ?_, by rw [h3]; simp⟩
    rcases List.mem_cons.1 hx with q | q
    ·subst q; simpa using hb
    ·exact h2 x q
theorem cnt_flds (c : UInt8) (s : Bs) : (flds c s).length = Lib.countByte s c + 1 := by
 have : ∀ (n : Nat) (s : Bs), s.length ≤ n → (flds c s).length = Lib.countByte s c + 1 := by
  intro n
  induction n with
  | zero =>
   intro s hs
   have : s = [] := List.length_eq_zero_iff.1 (by omega)
   subst this; rfl
  | succ n ih =>
   intro s hs
   by_cases h : 0 ≤ Lib.indexByte s c
   ·obtain ⟨y, r, rfl, h2, -⟩ := idx_yes h
    rw [flds_cons c y r h2, List.length_cons, ih r (by simp at hs; omega)]
    unfold Lib.countByte
    rw [List.count_append, List.count_cons_self, List.count_eq_zero_of_not_mem (fun q => h2 c q rfl)]
    omega
   ·have h2 := idx_no (s := s) (c := c) (by omega)
    rw [flds_one c s h2]
    unfold Lib.countByte
    rw [List.count_eq_zero_of_not_mem (fun q => h2 c q rfl)]; rfl
 exact this s.length s (Nat.le_refl _)
def rst (c : UInt8) (s : Bs) : Nat → Bs
 | 0 => s
 | i + 1 => (rst c s i).drop ((Lib.indexByte (rst c s i) c).toNat + 1)
theorem rst_at (c : UInt8) (s : Bs) : ∀ i, i ≤ Lib.countByte s c → flds c s = (flds c s).take i ++ flds c (rst c s i) ∧ Lib.countByte (rst c s i) c + i = Lib.countByte s c
 | 0, _ => ⟨by simp [rst], rfl⟩
 | i + 1, h => by
  obtain ⟨h1, h2⟩ := rst_at c s i (by omega)
  have hp : 0 ≤ Lib.indexByte (rst c s i) c := by
   apply Classical.byContradiction
   intro q
   have := idx_no (s := rst c s i) (c := c) (by omega)
   have : Lib.countByte (rst c s i) c = 0 := List.count_eq_zero_of_not_mem (fun q => this c q rfl)
   omega
  obtain ⟨y, r, e, h3, h4⟩ := idx_yes hp
  have er : rst c s (i + 1) = r := by
   show (rst c s i).drop _ = r
   rw [h4, e]; simp
  rw [er]
  have hr : flds c (rst c s i) = y :: flds c r := by rw [e]; exact flds_cons c y r h3
  have hl : i ≤ (flds c s).length := by rw [cnt_flds]; omega
  constructor
  ·have hy : (flds c s)[i]? = some y := by
    rw [h1, hr, List.getElem?_append_right (by rw [List.length_take]; omega), List.length_take, Nat.min_eq_left hl]; simp
   rw [take_succ_get hy, List.append_assoc]
   rw [hr] at h1
   exact h1
  ·have : Lib.countByte (rst c s i) c = Lib.countByte r c + 1 := by
    rw [e]; unfold Lib.countByte
    rw [List.count_append, List.count_cons_self, List.count_eq_zero_of_not_mem (fun q => h3 c q rfl)]; omega
   omega
theorem rst_get {c : UInt8} {s : Bs} {i : Nat} (h : i < Lib.countByte s c) : 0 ≤ Lib.indexByte (rst c s i) c ∧ (flds c s)[i]? = some ((rst c s i).take (Lib.indexByte (rst c s i) c).toNat) := by
 obtain ⟨h1, h2⟩ := rst_at c s i (by omega)
 have hp : 0 ≤ Lib.indexByte (rst c s i) c := by
  apply Classical.byContradiction
  intro q
  have := idx_no (s := rst c s i) (c := c) (by omega)
  have : Lib.countByte (rst c s i) c = 0 := List.count_eq_zero_of_not_mem (fun q => this c q rfl)
  omega
 obtain ⟨y, r, e, h3, h4⟩ := idx_yes hp
 refine ⟨hp, ?_⟩
 have hl : i ≤ (flds c s).length := by rw [cnt_flds]; omega
 rw [h4]
 rw [h1, List.getElem?_append_right (by rw [List.length_take]; omega), List.length_take, Nat.min_eq_left hl, e, flds_cons c y r h3]
 simp
theorem rst_last {c : UInt8} {s : Bs} : (flds c s)[Lib.countByte s c]? = some (rst c s (Lib.countByte s c)) := by
 obtain ⟨h1, h2⟩ := rst_at c s _ (Nat.le_refl _)
 have h0 : Lib.countByte (rst c s (Lib.countByte s c)) c = 0 := by omega
 have hn : ∀ x ∈ rst c s (Lib.countByte s c), x ≠ c := fun x hx e => by
  subst e
  exact absurd hx (List.count_eq_zero.1 h0)
 rw [flds_one c _ hn] at h1
 have hl : Lib.countByte s c ≤ (flds c s).length := by rw [cnt_flds]; omega
 rw [h1, List.getElem?_append_right (by rw [List.length_take]; omega), List.length_take, Nat.min_eq_left hl]
 simp
theorem rst_len (c : UInt8) (s : Bs) : ∀ i, (rst c s i).length ≤ s.length
 | 0 => Nat.le_refl _
 | i + 1 => by
  have := rst_len c s i
  show ((rst c s i).drop _).length ≤ _
  rw [List.length_drop]; omega
theorem idx_lt {c : UInt8} {s : Bs} (h : 0 ≤ Lib.indexByte s c) : (Lib.indexByte s c).toNat < s.length := by
 obtain ⟨y, r, e, -, h4⟩ := idx_yes h
 rw [h4, e]; simp
theorem flds_last (c : UInt8) (s : Bs) : (flds c s)[(((flds c s).length : Int) - 1).toNat]? = some (s.drop (flF c s s.length)) := by
 have : (((flds c s).length : Int) - 1).toNat = (flO c s s.length).length := by
  unfold flds; rw [List.length_append, List.length_singleton]; omega
 rw [this, flds, List.getElem?_append_right (Nat.le_refl _), Nat.sub_self]; rfl
theorem flds_init (c : UInt8) (s : Bs) : (flds c s).take (((flds c s).length : Int) - 1).toNat = flO c s s.length := by
 have : (((flds c s).length : Int) - 1).toNat = (flO c s s.length).length := by
  unfold flds; rw [List.length_append, List.length_singleton]; omega
 rw [this, flds, List.take_append_of_le_length (Nat.le_refl _), List.take_length]
def gsL (c : UInt8) (s : Bs) (i : Nat) : List Bs := (flds c s).take i ++ List.replicate (Lib.countByte s c + 1 - i) []
theorem gsL_len {c : UInt8} {s : Bs} {i : Nat} (h : i ≤ Lib.countByte s c) : (gsL c s i).length = Lib.countByte s c + 1 := by
 have := cnt_flds c s
 rw [gsL, List.length_append, List.length_take, List.length_replicate]; omega
theorem gsL_set {c : UInt8} {s : Bs} {i : Nat} {x : Bs} (h : i ≤ Lib.countByte s c) (hx : (flds c s)[i]? = some x) : (gsL c s i).set i x = gsL c s (i + 1) := by
 have hl := cnt_flds c s
 have h1 : ((flds c s).take i).length = i := by rw [List.length_take]; omega
 have hr : List.replicate (Lib.countByte s c + 1 - i) ([] : Bs) = [] :: List.replicate (Lib.countByte s c + 1 - (i + 1)) [] := by
  rw [show Lib.countByte s c + 1 - i = (Lib.countByte s c + 1 - (i + 1)) + 1 by omega]; rfl
 rw [gsL, hr, List.set_append_right _ _ (by omega), h1, Nat.sub_self, gsL, take_succ_get hx]
 simp
theorem gsL_all (c : UInt8) (s : Bs) : gsL c s (Lib.countByte s c + 1) = flds c s := by
 have hl := cnt_flds c s
 rw [gsL, Nat.sub_self, List.take_of_length_le (by omega)]; simp
theorem gsL_0 (c : UInt8) (s : Bs) {n : Nat} (hn : n = Lib.countByte s c + 1) (z : AV) (hz : z = strL []) : List.replicate n z = (gsL c s 0).map strL := by
 subst hn hz
 rw [gsL, List.take_zero, List.nil_append, List.map_replicate, Nat.sub_zero]
theorem gsL_set' {c : UInt8} {s : Bs} {i : Nat} {x : Bs} (h : i ≤ Lib.countByte s c) (hx : (flds c s)[i]? = some x) : ((gsL c s i).map strL).set i (.val (.string (ofL x))) = (gsL c s (i + 1)).map strL := by
 rw [← gsL_set h hx, List.map_set]; rfl
theorem cnt_le (c : UInt8) (s : Bs) : Lib.countByte s c ≤ s.length := List.count_le_length
theorem u8eq {c d : UInt8} (h : (c.toNat : Int) = d.toNat) : c = d := UInt8.toNat_inj.1 (by omega)
end Go.Proofs.YtfedemnaeggokaaGreatDoor
end
section
namespace Go.Proofs.YtfedemnaeggokaaGreatDoor
set_option linter.unusedVariables false
set_option linter.unusedSimpArgs false
structure Spec where
 kind : Int
 spans : List Sp
 sep : UInt8
 out : Bs
 only : Bool
 not : Bool
def encSc (p : Spec) : AV := .agg [intA p.kind, .slice 2 (p.spans.map encSp), u8A p.sep, strL p.out, boolA p.only, boolA p.not]
def chkE (p : Spec) : Int := if p.kind ≠ 1 ∧ p.kind ≠ 2 then 7 else if norB p.spans = true ∧ p.sep ≠ 10 then 0 else 2
theorem chkE_t {p : Spec} (h : ¬ p.kind = 1) (h2 : ¬ p.kind = 2) : chkE p = 7 := if_pos ⟨h, h2⟩
theorem chkE_r {p : Spec} (h : p.kind = 1 ∨ p.kind = 2) (h2 : norB p.spans = false ∨ p.sep = 10) : chkE p = 2 := by
 rw [chkE, if_neg (by omega), if_neg]
 rintro ⟨q1, q2⟩
 rcases h2 with h2 | h2
 ·rw [h2] at q1; cases q1
 ·exact q2 h2
theorem chkE_o {p : Spec} (h : p.kind = 1 ∨ p.kind = 2) (h1 : norB p.spans = true) (h2 : ¬ p.sep = 10) : chkE p = 0 := by
 rw [chkE, if_neg (by omega), if_pos ⟨h1, h2⟩]
theorem chkE_0 {p : Spec} (h : chkE p = 0) : (p.kind = 1 ∨ p.kind = 2) ∧ norB p.spans = true ∧ p.sep ≠ 10 := by
 unfold chkE at h
 split at h
 ·cases h
 ·split at h
  ·rename_i h1 h2
   exact ⟨by omega, h2⟩
  ·cases h
structure NorJ (l : List Sp) (k : Nat) : Prop where
 i : NorI l k
 z : ∀ (i : Nat) (x : Sp), i < k → i + 1 < l.length → l[i]? = some x → x.t ≠ 0
theorem NorJ.zero (l : List Sp) : NorJ l 0 := ⟨.zero l, fun i x hi => by omega⟩
theorem NorJ.step {l : List Sp} {k : Nat} {x : Sp} (h : NorJ l k) (hx : l[k]? = some x) (ho : okB x = true) (hz : k + 1 < l.length → x.t ≠ 0) (hp : k = 0 ∨ 0 < k ∧ ∃ y, l[k - 1]? = some y ∧ ¬ x.f - 2 < y.t) : NorJ l (k + 1) := by
 have hk := (List.getElem?_eq_some_iff.1 hx).1
 refine ⟨h.i.step hx ho (hp.imp_right ?_), fun i y hi hl hy => ?_⟩
 ·rintro ⟨h0, y, h1, h2⟩
  exact ⟨y, h1, h.z (k - 1) y (by omega) (by omega) h1, by omega⟩
 ·by_cases e : i = k
  ·subst e; rw [hx] at hy; obtain rfl := Option.some.inj hy; exact hz hl
  ·exact h.z i y (by omega) hl hy
theorem sep10 {c : UInt8} : (c.toNat : Int) = 10 ↔ c = 10 := ⟨fun h => u8_of (n := 10) h (by decide), fun h => by subst h; rfl⟩
def endC (n : Int) (x : Sp) : Bool := decide (x.t ≠ 0) && decide (x.t < n)
def selK (l : List Sp) (n : Int) : Nat := (l.takeWhile (endC n)).length
theorem selK_le (l : List Sp) (n : Int) : selK l n ≤ l.length := tw_len _ _
theorem selK_more {l : List Sp} {n : Int} {k : Nat} {x : Sp} (hk : k ≤ selK l n) (h : l[k]? = some x) (h1 : ¬ x.t = 0) (h2 : x.t < n) : k + 1 ≤ selK l n := tw_more hk h (by simp [endC, h1, h2])
theorem selK_stop {l : List Sp} {n : Int} {k : Nat} {x : Sp} (hk : k ≤ selK l n) (h : l[k]? = some x) (h1 : x.t = 0 ∨ ¬ x.t < n) : k = selK l n := tw_stop hk fun y hy => by
 rw [h] at hy
 obtain rfl := Option.some.inj hy
 rcases h1 with h1 | h1 <;> simp [endC, h1]
theorem selK_end {l : List Sp} {n : Int} {k : Nat} (hk : k ≤ selK l n) (h : l.length ≤ k) : k = selK l n := by have := selK_le l n; omega
theorem selK_mono (l : List Sp) {n m : Int} (h : n ≤ m) : selK l n ≤ selK l m := by
 unfold selK
 induction l with
 | nil => exact Nat.le_refl _
 | cons x l ih =>
  rw [List.takeWhile_cons, List.takeWhile_cons]
  split
  ·rename_i hx
   have : endC m x = true := by simp [endC] at hx ⊢; omega
   rw [if_pos this]
   simp only [List.length_cons]; omega
  ·exact Nat.zero_le _
theorem selK_0 {l : List Sp} (h : norB l = true) {n : Int} (hn : n ≤ 1) : selK l n = 0 := by
 cases l with
 | nil => rfl
 | cons x l =>
  rw [norB_cons, Bool.and_eq_true, Bool.and_eq_true, okB_iff] at h
  rw [selK, List.takeWhile_cons, if_neg]
  ·rfl
  ·simp [endC]; omega
theorem nor_le {l : List Sp} (h : norB l = true) : ∀ (j i : Nat) (x y : Sp), i ≤ j → l[i]? = some x → l[j]? = some y → x.f ≤ y.f := by
 intro j
 induction j with
 | zero =>
  intro i x y hi hx hy
  have : i = 0 := by omega
  subst this
  rw [hx] at hy; obtain rfl := Option.some.inj hy; exact Int.le_refl _
 | succ j ih =>
  intro i x y hi hx hy
  by_cases e : i = j + 1
  ·subst e
   rw [hx] at hy; obtain rfl := Option.some.inj hy; exact Int.le_refl _
  ·have hlt := (List.getElem?_eq_some_iff.1 hy).1
   have hz : l[j]? = some l[j] := List.getElem?_eq_getElem (by omega)
   have h1 := ih i x _ (by omega) hx hz
   have h2 := norB_get.1 h j _ hz
   have h3 := h2.2 y hy
   have h4 := okB_iff.1 h2.1
   unfold Apart at h3
   omega
theorem sel_has {l : List Sp} (h : norB l = true) (n : Int) : hasB l n = true ↔ ∃ x, l[selK l n]? = some x ∧ x.f ≤ n := by
 rw [hasB_iff]
 constructor
 ·rintro ⟨y, hy, h1, h2⟩
  obtain ⟨j, hj⟩ := List.getElem?_of_mem hy
  have hlt := (List.getElem?_eq_some_iff.1 hj).1
  have hkj : selK l n ≤ j := by
   apply Classical.byContradiction
   intro q
   have hmem : y ∈ l.takeWhile (endC n) := by
    rw [← tw_take (endC n) l]
    exact List.mem_of_getElem? (i := j) (by rw [List.getElem?_take, if_pos (by unfold selK at q; omega)]; exact hj)
   have : ∀ (l : List Sp), ∀ c ∈ l.takeWhile (endC n), endC n c = true := by
    intro l
    induction l with
    | nil => intro c hc; simp at hc
    | cons x l ih =>
     intro c hc
     rw [List.takeWhile_cons] at hc
     split at hc
     ·rename_i hx
      rcases List.mem_cons.1 hc with q | q
      ·subst q; exact hx
      ·exact ih c q
     ·simp at hc
   have := this l y hmem
   simp [endC] at this
   omega
  have hz : l[selK l n]? = some l[selK l n] := List.getElem?_eq_getElem (by omega)
  have := nor_le h j _ _ y hkj hz hj
  exact ⟨_, hz, by omega⟩
 ·rintro ⟨x, hx, h1⟩
  refine ⟨x, List.mem_of_getElem? hx, h1, ?_⟩
  apply Classical.byContradiction
  intro q
  have := selK_more (Nat.le_refl _) hx (by omega) (by omega)
  omega
def slB (p : Spec) (n : Int) : Bool := hasB p.spans n != p.not
def slV (p : Spec) (n : Int) : Bool := (match p.spans[selK p.spans n]? with | some x => decide (x.f ≤ n) | none => false) != p.not
theorem slV_y {p : Spec} {n : Int} {x : Sp} (h : p.spans[selK p.spans n]? = some x) : slV p n = (decide (x.f ≤ n) != p.not) := by rw [slV, h]
theorem slV_n {p : Spec} {n : Int} (h : p.spans.length ≤ selK p.spans n) : slV p n = (false != p.not) := by rw [slV, List.getElem?_eq_none h]
theorem slV_eq {p : Spec} (h : norB p.spans = true) (n : Int) : slV p n = slB p n := by
 have hs := sel_has h n
 unfold slV slB
 congr 1
 cases hx : p.spans[selK p.spans n]? with
 | none =>
  dsimp only
  cases hb : hasB p.spans n
  ·rfl
  ·obtain ⟨x, h1, -⟩ := hs.1 hb
   rw [hx] at h1; cases h1
 | some x =>
  dsimp only
  cases hb : hasB p.spans n
  ·refine decide_eq_false fun q => ?_
   rw [hs.2 ⟨x, hx, q⟩] at hb; cases hb
  ·obtain ⟨y, h1, h2⟩ := hs.1 hb
   rw [hx] at h1
   obtain rfl := Option.some.inj h1
   exact decide_eq_true h2
def byL (p : Spec) : Nat → Nat
 | 0 => 0
 | i + 1 => if slB p ((i + 1 : Nat) : Int) = true then i + 1 else byL p i
def byK (p : Spec) (s : Bs) : Nat → Bs
 | 0 => []
 | i + 1 => if slB p ((i + 1 : Nat) : Int) = true then byK p s i ++ (if 0 < byL p i ∧ byL p i < i then p.out else []) ++ (s.drop i).take 1 else byK p s i
theorem byL_le (p : Spec) : ∀ i, byL p i ≤ i
 | 0 => Nat.le_refl _
 | i + 1 => by
  have := byL_le p i
  unfold byL; split <;> omega
theorem byK_le (p : Spec) (s : Bs) : ∀ i, (byK p s i).length ≤ i * (p.out.length + 1)
 | 0 => Nat.zero_le _
 | i + 1 => by
  have := byK_le p s i
  rw [Nat.add_mul, Nat.one_mul]
  unfold byK
  split
  ·simp only [List.length_append, List.length_take]
   split <;> simp <;> omega
  ·omega
section
variable {p : Spec} {s : Bs} {i : Nat}
theorem byL_y (h : slB p ((i + 1 : Nat) : Int) = true) : byL p (i + 1) = i + 1 := if_pos h
theorem byL_n (h : slB p ((i + 1 : Nat) : Int) = false) : byL p (i + 1) = byL p i := if_neg (by rw [h]; decide)
theorem byK_n (h : slB p ((i + 1 : Nat) : Int) = false) : byK p s (i + 1) = byK p s i := if_neg (by rw [h]; decide)
theorem byK_g (h : slB p ((i + 1 : Nat) : Int) = true) (h1 : 0 < byL p i) (h2 : byL p i < i) : byK p s (i + 1) = byK p s i ++ p.out ++ (s.drop i).take 1 := by rw [byK, if_pos h, if_pos ⟨h1, h2⟩]
theorem byK_y (h : slB p ((i + 1 : Nat) : Int) = true) (h1 : ¬ (0 < byL p i ∧ byL p i < i)) : byK p s (i + 1) = byK p s i ++ (s.drop i).take 1 := by rw [byK, if_pos h, if_neg h1, List.append_nil]
end
theorem take1 {s : Bs} {i : Nat} {c : UInt8} (h : s[i]? = some c) : (s.drop i).take 1 = [c] := by rw [drop_get h]; rfl
theorem byK_bd {p : Spec} {s : Bs} (h : s.length * (p.out.length + 1) ≤ 10000000000000) (i : Nat) (hi : i ≤ s.length) : (byK p s i).length ≤ 10000000000000 :=
 Nat.le_trans (byK_le p s i) (Nat.le_trans (Nat.mul_le_mul_right _ hi) h)
theorem byK_bd1 {p : Spec} {s : Bs} (h : s.length * (p.out.length + 1) ≤ 10000000000000) (i : Nat) (hi : i < s.length) : (byK p s i).length + p.out.length + 1 ≤ 10000000000000 := by
 have h1 := byK_le p s i
 have h2 : (i + 1) * (p.out.length + 1) ≤ s.length * (p.out.length + 1) := Nat.mul_le_mul_right _ hi
 rw [Nat.add_mul, Nat.one_mul] at h2
 omega
theorem slV_b {p : Spec} (h : norB p.spans = true) {k : Nat} {b : Bool} (hv : slV p ((k : Int) + 1) = b) : slB p ((k + 1 : Nat) : Int) = b := by
 rw [← slV_eq h, Int.natCast_add]; exact hv
theorem cut1 {s : Bs} {k : Nat} : (s.take (k + 1)).drop (((k + 1 : Nat) : Int) - 1).toNat = (s.drop k).take 1 := by
 rw [show ((((k + 1 : Nat) : Int) - 1).toNat) = k by omega, List.drop_take]; congr 1; omega
theorem slB_y {p : Spec} {n : Int} (h : (hasB p.spans n == p.not) = false) : slB p n = true := by unfold slB bne; rw [h]; rfl
theorem slB_n {p : Spec} {n : Int} (h : (hasB p.spans n == p.not) = true) : slB p n = false := by unfold slB bne; rw [h]; rfl
def fdK (p : Spec) (l : List Bs) : Nat → List Bs
 | 0 => []
 | i + 1 => if slB p ((i + 1 : Nat) : Int) = true then fdK p l i ++ (l.drop i).take 1 else fdK p l i
section
variable {p : Spec} {l : List Bs} {i : Nat} {x : Bs}
theorem fdK_y (hx : l[i]? = some x) (h : slB p ((i + 1 : Nat) : Int) = true) : fdK p l (i + 1) = fdK p l i ++ [x] := by rw [fdK, if_pos h, drop_get hx]; rfl
theorem fdK_n (h : slB p ((i + 1 : Nat) : Int) = false) : fdK p l (i + 1) = fdK p l i := if_neg (by rw [h]; decide)
end
theorem fdK_len (p : Spec) (l : List Bs) : ∀ i, (fdK p l i).length ≤ i
 | 0 => Nat.le_refl _
 | i + 1 => by
  have := fdK_len p l i
  unfold fdK
  split
  ·simp; omega
  ·omega
theorem fdK_mem (p : Spec) (l : List Bs) : ∀ i, ∀ x ∈ fdK p l i, x ∈ l
 | 0, x, h => by simp [fdK] at h
 | i + 1, x, h => by
  unfold fdK at h
  split at h
  ·rcases List.mem_append.1 h with q | q
   ·exact fdK_mem p l i x q
   ·exact List.mem_of_mem_drop (List.mem_of_mem_take q)
  ·exact fdK_mem p l i x h
def lensB : List Bs → Nat
 | [] => 0
 | x :: r => x.length + lensB r
theorem lensB_app (l r : List Bs) : lensB (l ++ r) = lensB l + lensB r := by
 induction l with
 | nil => simp [lensB]
 | cons x l ih => simp only [List.cons_append, lensB, ih]; omega
theorem joinB_lens (sep : Bs) (l : List Bs) : (joinB sep l).length ≤ lensB l + l.length * sep.length := by
 have : ∀ r : List Bs, (r.flatMap fun y => sep ++ y).length = lensB r + r.length * sep.length := by
  intro r
  induction r with
  | nil => simp [lensB]
  | cons y r ih => simp only [List.flatMap_cons, List.length_append, List.length_cons, lensB, ih, Nat.add_mul, Nat.one_mul]; omega
 cases l with
 | nil => simp [joinB]
 | cons x r => simp only [joinB, List.length_append, List.length_cons, lensB, this, Nat.add_mul, Nat.one_mul]; omega
theorem flO_lens (c : UInt8) (s : Bs) : ∀ i, i ≤ s.length → lensB (flO c s i) + (flO c s i).length = flF c s i
 | 0, _ => rfl
 | i + 1, h => by
  have ih := flO_lens c s i (by omega)
  have hf := flF_le c s i
  by_cases hc : s[i]? = some c
  ·rw [flO_y hc, flF_y hc, lensB_app, List.length_append]
   simp only [lensB, List.length_drop, List.length_take, List.length_singleton]
   omega
  ·rw [flO_n hc, flF_n hc]; exact ih
theorem flds_lens (c : UInt8) (s : Bs) : lensB (flds c s) ≤ s.length := by
 have h := flO_lens c s s.length (Nat.le_refl _)
 have hf := flF_le c s s.length
 rw [flds, lensB_app]
 simp only [lensB, List.length_drop]
 omega
theorem lensB_take (l : List Bs) (k : Nat) : lensB (l.take k) ≤ lensB l := by
 have : lensB (l.take k ++ l.drop k) = lensB l := by rw [List.take_append_drop]
 rw [lensB_app] at this; omega
theorem fdK_lens (p : Spec) (l : List Bs) : ∀ k, lensB (fdK p l k) ≤ lensB (l.take k)
 | 0 => Nat.le_refl _
 | k + 1 => by
  have ih := fdK_lens p l k
  cases hx : l[k]? with
  | none =>
   have hle := List.getElem?_eq_none_iff.1 hx
   have e1 : l.take (k + 1) = l.take k := by rw [List.take_of_length_le (by omega), List.take_of_length_le hle]
   have e2 : (l.drop k).take 1 = [] := by rw [List.drop_of_length_le hle]; rfl
   rw [e1]
   unfold fdK
   split
   ·rw [e2, List.append_nil]; exact ih
   ·exact ih
  | some x =>
   rw [take_succ_get hx, lensB_app]
   cases hb : slB p ((k + 1 : Nat) : Int)
   ·rw [fdK_n hb]; omega
   ·rw [fdK_y hx hb, lensB_app]; omega
theorem fdJ_bd (p : Spec) (s : Bs) (h0 : 1 ≤ s.length) (hb : s.length * (p.out.length + 1) ≤ 10000000000000) (k : Nat) (hk : k ≤ (flds p.sep s).length) : (joinB p.out (fdK p (flds p.sep s) k)).length ≤ 100000000000000 := by
 have h1 := joinB_lens p.out (fdK p (flds p.sep s) k)
 have h2 := fdK_lens p (flds p.sep s) k
 have h3 := lensB_take (flds p.sep s) k
 have h4 := flds_lens p.sep s
 have h5 := fdK_len p (flds p.sep s) k
 have h6 := cnt_flds p.sep s
 have h7 := cnt_le p.sep s
 have h8 : (fdK p (flds p.sep s) k).length * p.out.length ≤ (s.length + 1) * p.out.length := Nat.mul_le_mul_right _ (by omega)
 rw [Nat.add_mul, Nat.one_mul] at h8
 rw [Nat.mul_add, Nat.mul_one] at hb
 have h9 : p.out.length ≤ s.length * p.out.length := Nat.le_mul_of_pos_left _ h0
 omega
theorem flds_ne1 {c : UInt8} {s : Bs} (h : ¬ (flds c s).length = 1) : 1 ≤ s.length := by
 have h6 := cnt_flds c s
 have h7 := cnt_le c s
 omega
theorem flds_n1 {c : UInt8} {s : Bs} : (flds c s).length = 1 ↔ Lib.indexByte s c < 0 := by
 constructor
 ·intro h
  apply Classical.byContradiction
  intro q
  obtain ⟨y, r, e, h2, -⟩ := idx_yes (s := s) (c := c) (by omega)
  rw [e, flds_cons c y r h2, List.length_cons, cnt_flds] at h
  omega
 ·intro h
  rw [flds_one c s (idx_no h)]; rfl
theorem fdK_jn {p : Spec} {l : List Bs} {k : Nat} {x : Bs} (hx : l[k]? = some x) (hs : slB p ((k + 1 : Nat) : Int) = true) (hd : decide (fdK p l k = []) = false) : joinB p.out (fdK p l (k + 1)) = joinB p.out (fdK p l k) ++ p.out ++ x := by
 rw [fdK_y hx hs, joinB_snoc p.out (of_decide_eq_false hd)]
theorem fdK_j1 {p : Spec} {l : List Bs} {k : Nat} {x : Bs} (hx : l[k]? = some x) (hs : slB p ((k + 1 : Nat) : Int) = true) (hd : decide (fdK p l k = []) = true) : joinB p.out (fdK p l (k + 1)) = joinB p.out (fdK p l k) ++ x := by
 have := of_decide_eq_true hd
 rw [fdK_y hx hs, this]; simp [joinB]
def lnB (p : Spec) (s : Bs) : Bs := if chkE p ≠ 0 then [] else if p.kind = 1 then byK p s s.length else if (flds p.sep s).length = 1 then (if p.only then [] else s) else joinB p.out (fdK p (flds p.sep s) (flds p.sep s).length)
def lnO (p : Spec) (s : Bs) : Bool := if chkE p ≠ 0 then false else if p.kind = 1 then true else if (flds p.sep s).length = 1 then !p.only else true
section
variable {p : Spec} {s : Bs}
theorem ln_bad (h : ¬ chkE p = 0) : lnB p s = [] ∧ lnO p s = false := ⟨if_pos h, if_pos h⟩
theorem ln_byt (h : chkE p = 0) (h2 : p.kind = 1) : lnB p s = byK p s s.length ∧ lnO p s = true := ⟨by rw [lnB, if_neg (by simp [h]), if_pos h2], by rw [lnO, if_neg (by simp [h]), if_pos h2]⟩
theorem ln_one (h : chkE p = 0) (h2 : ¬ p.kind = 1) (h3 : (flds p.sep s).length = 1) : lnB p s = (if p.only then [] else s) ∧ lnO p s = !p.only := ⟨by rw [lnB, if_neg (by simp [h]), if_neg h2, if_pos h3], by rw [lnO, if_neg (by simp [h]), if_neg h2, if_pos h3]⟩
theorem ln_fld (h : chkE p = 0) (h2 : ¬ p.kind = 1) (h3 : ¬ (flds p.sep s).length = 1) : lnB p s = joinB p.out (fdK p (flds p.sep s) (flds p.sep s).length) ∧ lnO p s = true := ⟨by rw [lnB, if_neg (by simp [h]), if_neg h2, if_neg h3], by rw [lnO, if_neg (by simp [h]), if_neg h2, if_neg h3]⟩
end
end Go.Proofs.YtfedemnaeggokaaGreatDoor
end
section
namespace Go.Proofs.YtfedemnaeggokaaGreatDoor
set_option linter.unusedVariables false
set_option linter.unusedSimpArgs false
set_option maxRecDepth 100000
set_option maxHeartbeats 1000000
section
variable {X : CallF}
theorem fields_run (c : UInt8) (s : Bs) (hs : s.length ≤ 100000000) : (R FT X).f 26 [strL s, u8A c] = some (.slice 1 ((flds c s).map strL)) := by
 have hm := maxLen_le
 have hf := flF_le c s
 have ho := flO_len c s
 refine R_wp ((Tr.inv (fun (k : Nat) ↦ St.mk [(0, strL s), (1, u8A c), (5, AV.row 0 0 (flO c s k).length (0 : Nat) (flO c s k).length), (6, intA (↑(flF c s k) : Int)), (7, intA (↑k : Int))] [MObj.row 0 1 (List.map strL (flO c s k)) true (1 : Nat)]) (fun (k : Nat) ↦ k ≤ List.length s) (fun (k : Nat) ↦ List.length s - k) fun (k : Nat) ↦ ((Tr.y k fun (c4 : UInt8) ↦ ((Tr.sl (flF c s k) k (Tr.k ((flO c s k).length + 1) Tr.nil.w.w)).br Tr.nil.w).w).w.w.br (Tr.sl (flF c s k) (List.length s) (Tr.k ((flO c s k).length + 1) (Tr.g (List.map strL (flO c s k ++ [List.drop (flF c s k) (List.take (List.length s) s)])) Tr.nil)))).w).w) rfl ?_
 refine Eq.mpr (by kernel_rfl : _ = ((∃ (j1 : Nat), ((s = s ∧ (↑c.toNat : Int) = (↑c.toNat : Int) ∧ ((0 : Nat) = (flO c s j1).length ∧ (0 : Nat) = 0 ∧ (0 : Nat) = (flO c s j1).length) ∧ (0 : Int) = (↑(flF c s j1) : Int) ∧ (0 : Int) = (↑j1 : Int) ∧ True) ∧ [] = List.map strL (flO c s j1)) ∧ j1 ≤ List.length s) ∧ ∀ (k : Nat), k ≤ List.length s → (decide ((↑k : Int) < (↑(List.length s) : Int)) = true → (↑k : Int) = (↑k : Int) ∧ k < List.length s ∧ ∀ (c4 : UInt8), s[k]? = some c4 → (decide ((↑c4.toNat : Int) = (↑c.toNat : Int)) = true → (↑(flF c s k) : Int) = (↑(flF c s k) : Int) ∧ (↑k : Int) = (↑k : Int) ∧ flF c s k ≤ k ∧ k ≤ List.length s ∧ (List.map strL (flO c s k)).length = (flO c s k).length ∧ (0 : Nat) = 0 ∧ (flO c s k).length = (flO c s k).length ∧ (flO c s k).length + [AV.val (Value.string (ofL (List.drop (flF c s k) (List.take k s))))].length = (flO c s k).length + 1 ∧ ((flO c s k).length + 1) * 16 ≤ (140737488355328 : Nat) ∧ (flO c s k).length + 1 ≤ (9223372036854775807 : Nat) ∧ InI64 ((↑k : Int) + 1) ∧ InI64 ((↑k : Int) + 1) ∧ ∃ (j7 : Nat), ((s = s ∧ (↑c.toNat : Int) = (↑c.toNat : Int) ∧ ((flO c s k).length + 1 = (flO c s j7).length ∧ (0 :
 Nat) = 0 ∧ (flO c s k).length + 1 = (flO c s j7).length) ∧ (↑k : Int) + 1 = (↑(flF c s j7) : Int) ∧ (↑k : Int) + 1 = (↑j7 : Int) ∧ True) ∧ List.map strL (flO c s k) ++ [AV.val (Value.string (ofL (List.drop (flF c s k) (List.take k s))))] = List.map strL (flO c s j7)) ∧ j7 ≤ List.length s ∧ List.length s - j7 < List.length s - k) ∧ (decide ((↑c4.toNat : Int) = (↑c.toNat : Int)) = false → InI64 ((↑k : Int) + 1) ∧ ∃ (j9 : Nat), ((s = s ∧ (↑c.toNat : Int) = (↑c.toNat : Int) ∧ ((flO c s k).length = (flO c s j9).length ∧ (0 : Nat) = 0 ∧ (flO c s k).length = (flO c s j9).length) ∧ (↑(flF c s k) : Int) = (↑(flF c s j9) : Int) ∧ (↑k : Int) + 1 = (↑j9 : Int) ∧ True) ∧ List.map strL (flO c s k) = List.map strL (flO c s j9)) ∧ j9 ≤ List.length s ∧ List.length s - j9 < List.length s - k)) ∧ (decide ((↑k : Int) < (↑(List.length s) : Int)) = false → (↑(flF c s k) : Int) = (↑(flF c s k) : Int) ∧ (↑(List.length s) : Int) = (↑(List.length s) : Int) ∧ flF c s k ≤ List.length s ∧ List.length s ≤ List.length s ∧ (List.map strL (flO c s k)).length = (flO c s k).length ∧ (0 : Nat) = 0 ∧ (flO c s k).length = (flO c s k).length ∧ (flO c s k).length
 + [AV.val (Value.string (ofL (List.drop (flF c s k) (List.take (List.length s) s))))].length = (flO c s k).length + 1 ∧ ((flO c s k).length + 1) * 16 ≤ (140737488355328 : Nat) ∧ (flO c s k).length + 1 ≤ (9223372036854775807 : Nat) ∧ (List.map strL (flO c s k) ++ [AV.val (Value.string (ofL (List.drop (flF c s k) (List.take (List.length s) s))))]).length = (flO c s k).length + 1 ∧ List.take ((flO c s k).length + 1) (List.drop (0 : Nat) (List.map strL (flO c s k) ++ [AV.val (Value.string (ofL (List.drop (flF c s k) (List.take (List.length s) s))))])) = List.map strL (flO c s k ++ [List.drop (flF c s k) (List.take (List.length s) s)]) ∧ List.map strL (flO c s k ++ [List.drop (flF c s k) (List.take (List.length s) s)]) = List.map strL (flds c s)))) ?_
 refine ⟨⟨(0 : Nat), ⟨⟨rfl, rfl, ⟨rfl, rfl, rfl⟩, rfl, (by omega), trivial⟩, rfl⟩, (by omega)⟩, fun k => fun h2 => ⟨fun h3_ => have h3 := dT h3_; ⟨rfl, (by omega), fun c4 => fun h5 => ⟨fun h6_ => have h6 := dT h6_; ⟨rfl, rfl, ?_, h2, (by simp), rfl, rfl, rfl, ?_, ?_, (by unfold InI64; omega), (by unfold InI64; omega), ⟨k + (1 : Nat), ⟨⟨rfl, rfl, ⟨?_, rfl, ?_⟩, ?_, (by omega), trivial⟩, ?_⟩, ⟨(by omega), (by omega)⟩⟩⟩, fun h8_ => have h8 := dF h8_; ⟨(by unfold InI64; omega), ⟨k + (1 : Nat), ⟨⟨rfl, rfl, ⟨?_, rfl, ?_⟩, ?_, (by omega), trivial⟩, ?_⟩, ⟨(by omega), (by omega)⟩⟩⟩⟩⟩, fun h10_ => have h10 := dF h10_; ⟨rfl, rfl, ?_, (by omega), (by simp), rfl, rfl, rfl, ?_, ?_, (by simp), ?_, ?_⟩⟩⟩
 ·exact hf k
 iterate 2 · have := ho k; omega
 iterate 4 · first | (rw [flO_y (c := c) (u8eq h6 ▸ h5)]; simp; done) | (rw [flF_y (c := c) (u8eq h6 ▸ h5)]; done) | (rw [flF_y (c := c) (u8eq h6 ▸ h5)]; omega) | (rw [flO_y (c := c) (u8eq h6 ▸ h5), List.map_append]; rfl)
 iterate 4 · first | rw [flO_n (c := c) (fun q => h8 (by rw [h5] at q; rw [Option.some.inj q]))] | rw [flF_n (c := c) (fun q => h8 (by rw [h5] at q; rw [Option.some.inj q]))]
 all_goals (obtain rfl : k = s.length := by omega)
 ·exact hf _
 iterate 2 · have := ho s.length; omega
 ·rw [List.drop_zero, List.take_of_length_le (by simp), List.map_append]; rfl
 ·rw [List.take_length]; rfl
theorem lines2_run (s : Bs) (hs : s.length ≤ 100000000) : (R FT X).f 28 [strL s] = some (.tuple [.slice 1 ((lins s).map strL), boolA (endB s)]) := by
 have hm := maxLen_le
 have hf := flF_le 10 s
 have ho := flO_len 10 s
 refine R_wp ((Tr.inv (fun (k : Nat) ↦ St.mk [(0, strL s), (4, AV.row 0 0 (flO (10 : UInt8) s k).length (0 : Nat) (flO (10 : UInt8) s k).length), (5, intA (↑(flF (10 : UInt8) s k) : Int)), (6, intA (↑k : Int))] [MObj.row 0 1 (List.map strL (flO (10 : UInt8) s k)) true (1 : Nat)]) (fun (k : Nat) ↦ k ≤ List.length s) (fun (k : Nat) ↦ List.length s - k) fun (k : Nat) ↦ ((Tr.y k fun (c4 : UInt8) ↦ ((Tr.sl (flF (10 : UInt8) s k) k (Tr.k ((flO (10 : UInt8) s k).length + 1) Tr.nil.w.w)).br Tr.nil.w).w).w.w.br ((Tr.sl (flF (10 : UInt8) s k) (List.length s) (Tr.k ((flO (10 : UInt8) s k).length + 1) (Tr.g (List.map strL (flO (10 : UInt8) s k ++ [List.drop (flF (10 : UInt8) s k) (List.take (List.length s) s)])) Tr.nil))).br (Tr.g (List.map strL (flO (10 : UInt8) s k)) Tr.nil)).w.w).w).w) rfl ?_
 refine Eq.mpr (by kernel_rfl : _ = ((∃ (j1 : Nat), ((s = s ∧ ((0 : Nat) = (flO (10 : UInt8) s j1).length ∧ (0 : Nat) = 0 ∧ (0 : Nat) = (flO (10 : UInt8) s j1).length) ∧ (0 : Int) = (↑(flF (10 : UInt8) s j1) : Int) ∧ (0 : Int) = (↑j1 : Int) ∧ True) ∧ [] = List.map strL (flO (10 : UInt8) s j1)) ∧ j1 ≤ List.length s) ∧ ∀ (k : Nat), k ≤ List.length s → (decide ((↑k : Int) < (↑(List.length s) : Int)) = true → (↑k : Int) = (↑k : Int) ∧ k < List.length s ∧ ∀ (c4 : UInt8), s[k]? = some c4 → (decide ((↑c4.toNat : Int) = 10) = true → (↑(flF (10 : UInt8) s k) : Int) = (↑(flF (10 : UInt8) s k) : Int) ∧ (↑k : Int) = (↑k : Int) ∧ flF (10 : UInt8) s k ≤ k ∧ k ≤ List.length s ∧ (List.map strL (flO (10 : UInt8) s k)).length = (flO (10 : UInt8) s k).length ∧ (0 : Nat) = 0 ∧ (flO (10 : UInt8) s k).length = (flO (10 : UInt8) s k).length ∧ (flO (10 : UInt8) s k).length + [AV.val (Value.string (ofL (List.drop (flF (10 : UInt8) s k) (List.take k s))))].length = (flO (10 : UInt8) s k).length + 1 ∧ ((flO (10 : UInt8) s k).length + 1) * 16 ≤ (140737488355328 : Nat) ∧ (flO (10 : UInt8) s k).length + 1 ≤ (9223372036854775807 : Nat) ∧ InI64 ((↑k : Int) + 1) ∧ InI64 ((↑k : Int) + (1 :
 Int)) ∧ ∃ (j7 : Nat), ((s = s ∧ ((flO (10 : UInt8) s k).length + 1 = (flO (10 : UInt8) s j7).length ∧ (0 : Nat) = 0 ∧ (flO (10 : UInt8) s k).length + 1 = (flO (10 : UInt8) s j7).length) ∧ (↑k : Int) + 1 = (↑(flF (10 : UInt8) s j7) : Int) ∧ (↑k : Int) + 1 = (↑j7 : Int) ∧ True) ∧ List.map strL (flO (10 : UInt8) s k) ++ [AV.val (Value.string (ofL (List.drop (flF (10 : UInt8) s k) (List.take k s))))] = List.map strL (flO (10 : UInt8) s j7)) ∧ j7 ≤ List.length s ∧ List.length s - j7 < List.length s - k) ∧ (decide ((↑c4.toNat : Int) = 10) = false → InI64 ((↑k : Int) + 1) ∧ ∃ (j9 : Nat), ((s = s ∧ ((flO (10 : UInt8) s k).length = (flO (10 : UInt8) s j9).length ∧ (0 : Nat) = 0 ∧ (flO (10 : UInt8) s k).length = (flO (10 : UInt8) s j9).length) ∧ (↑(flF (10 : UInt8) s k) : Int) = (↑(flF (10 : UInt8) s j9) : Int) ∧ (↑k : Int) + 1 = (↑j9 : Int) ∧ True) ∧ List.map strL (flO (10 : UInt8) s k) = List.map strL (flO (10 : UInt8) s j9)) ∧ j9 ≤ List.length s ∧ List.length s - j9 < List.length s - k)) ∧ (decide ((↑k : Int) < (↑(List.length s) : Int)) = false → (decide ((↑(flF (10 : UInt8) s k) : Int) < (↑(List.length s) : Int)) = true
 → (↑(flF (10 : UInt8) s k) : Int) = (↑(flF (10 : UInt8) s k) : Int) ∧ (↑(List.length s) : Int) = (↑(List.length s) : Int) ∧ flF (10 : UInt8) s k ≤ List.length s ∧ List.length s ≤ List.length s ∧ (List.map strL (flO (10 : UInt8) s k)).length = (flO (10 : UInt8) s k).length ∧ (0 : Nat) = 0 ∧ (flO (10 : UInt8) s k).length = (flO (10 : UInt8) s k).length ∧ (flO (10 : UInt8) s k).length + [AV.val (Value.string (ofL (List.drop (flF (10 : UInt8) s k) (List.take (List.length s) s))))].length = (flO (10 : UInt8) s k).length + 1 ∧ ((flO (10 : UInt8) s k).length + 1) * 16 ≤ (140737488355328 : Nat) ∧ (flO (10 : UInt8) s k).length + 1 ≤ (9223372036854775807 : Nat) ∧ (List.map strL (flO (10 : UInt8) s k) ++ [AV.val (Value.string (ofL (List.drop (flF (10 : UInt8) s k) (List.take (List.length s) s))))]).length = (flO (10 : UInt8) s k).length + 1 ∧ List.take ((flO (10 : UInt8) s k).length + 1) (List.drop (0 : Nat) (List.map strL (flO (10 : UInt8) s k) ++ [AV.val (Value.string (ofL (List.drop (flF (10 : UInt8) s k) (List.take (List.length s) s))))])) = List.map strL (flO (10 : UInt8) s k ++ [List.drop (flF (10 : UInt8) s k) (List.take (List.length
 s) s)]) ∧ List.map strL (flO (10 : UInt8) s k ++ [List.drop (flF (10 : UInt8) s k) (List.take (List.length s) s)]) = List.map strL (lins s) ∧ false = endB s) ∧ (decide ((↑(flF (10 : UInt8) s k) : Int) < (↑(List.length s) : Int)) = false → (List.map strL (flO (10 : UInt8) s k)).length = (flO (10 : UInt8) s k).length ∧ List.take (flO (10 : UInt8) s k).length (List.drop (0 : Nat) (List.map strL (flO (10 : UInt8) s k))) = List.map strL (flO (10 : UInt8) s k) ∧ List.map strL (flO (10 : UInt8) s k) = List.map strL (lins s) ∧ true = endB s)))) ?_
 refine ⟨⟨(0 : Nat), ⟨⟨rfl, ⟨rfl, rfl, rfl⟩, rfl, (by omega), trivial⟩, rfl⟩, (by omega)⟩, fun k => fun h2 => ⟨fun h3_ => have h3 := dT h3_; ⟨rfl, (by omega), fun c4 => fun h5 => ⟨fun h6_ => have h6 := dT h6_; ⟨rfl, rfl, ?_, h2, (by simp), rfl, rfl, rfl, ?_, ?_, (by unfold InI64; omega), (by unfold InI64; omega), ⟨k + (1 : Nat), ⟨⟨rfl, ⟨?_, rfl, ?_⟩, ?_, (by omega), trivial⟩, ?_⟩, ⟨(by omega), (by omega)⟩⟩⟩, fun h8_ => have h8 := dF h8_; ⟨(by unfold InI64; omega), ⟨k + (1 : Nat), ⟨⟨rfl, ⟨?_, rfl, ?_⟩, ?_, (by omega), trivial⟩, ?_⟩, ⟨(by omega), (by omega)⟩⟩⟩⟩⟩, fun h10_ => have h10 := dF h10_; ⟨fun h11_ => have h11 := dT h11_; ⟨rfl, rfl, (by omega), (by omega), (by simp), rfl, rfl, rfl, ?_, ?_, (by simp), ?_, ?_, ?_⟩, fun h12_ => have h12 := dF h12_; ⟨(by simp), ?_, ?_, ?_⟩⟩⟩⟩
 ·exact hf k
 iterate 2 · have := ho k; omega
 iterate 4 · first | (rw [flO_y (c := 10) (u8eq (d := 10) h6 ▸ h5)]; simp; done) | (rw [flF_y (c := 10) (u8eq (d := 10) h6 ▸ h5)]; done) | (rw [flF_y (c := 10) (u8eq (d := 10) h6 ▸ h5)]; omega) | (rw [flO_y (c := 10) (u8eq (d := 10) h6 ▸ h5), List.map_append]; rfl)
 iterate 4 · first | rw [flO_n (c := 10) (fun q => h8 (by rw [h5] at q; rw [Option.some.inj q]; rfl))] | rw [flF_n (c := 10) (fun q => h8 (by rw [h5] at q; rw [Option.some.inj q]; rfl))]
 all_goals (obtain rfl : k = s.length := by omega)
 iterate 2 · have := ho s.length; omega
 ·rw [List.drop_zero, List.take_of_length_le (by simp), List.map_append]; rfl
 ·rw [List.take_length, lins, if_pos (by omega)]; rfl
 ·exact (decide_eq_false (fun q => q (by omega))).symm
 ·rw [List.drop_zero, List.take_of_length_le (by simp)]
 ·rw [lins, if_neg (by omega)]
 ·exact (decide_eq_true (by omega)).symm
theorem gen_run (hx : StrC X) (c : UInt8) (s : Bs) (hs : s.length ≤ 100000000) : (R FT X).f 63 [strL s, strL [c], intA 0, intA (-1)] = some (.slice 1 ((flds c s).map strL)) := by
 have hm := maxLen_le
 have h1 := hx.one
 have h2 := hx.cnt
 have hc := cnt_le c s
 refine R_wp ((Tr.b false (Tr.b false (Tr.b true (Tr.c (intA (↑(Lib.countByte s c) : Int)) (Tr.k (if (↑(List.length s) : Int) + 1 < (↑(Lib.countByte s c) : Int) + 1 then (↑(List.length s) : Int) + 1 else (↑(Lib.countByte s c) : Int) + 1).toNat (Tr.inv (fun (k : Nat) ↦ St.mk [(0, strL (rst c s k)), (1, strL [c]), (2, intA 0), (3, intA (↑(Lib.countByte s c) : Int)), (9, AV.row 0 0 (Lib.countByte s c + 1) (0 : Nat) (Lib.countByte s c + 1)), (10, intA (↑k : Int))] [MObj.row 0 1 (List.map strL (gsL c s k)) true (1 : Nat)]) (fun (k : Nat) ↦ k ≤ Lib.countByte s c) (fun (k : Nat) ↦ Lib.countByte s c - k) fun (k : Nat) ↦ ((Tr.c (intA (Lib.indexByte (rst c s k) c)) ((Tr.k k (Tr.ix strL (gsL c s k) ((0 : Nat) + k) fun (x5 : Bs) ↦ (Tr.sl (0 : Nat) (k + 1) (Tr.g (List.map strL (List.take (k + 1 - (0 : Nat)) ((gsL c s k).set ((0 : Nat) + k) (rst c s k)))) Tr.nil)).w.w)).br (Tr.sl (0 : Nat) ((Lib.indexByte (rst c s k) c).toNat + 0) (Tr.k k (Tr.ix strL (gsL c s k) ((0 : Nat) + k) fun (x8 : Bs) ↦ (Tr.sl ((Lib.indexByte (rst c s k) c).toNat + [c].length) (List.length
 (rst c s k)) Tr.nil.w).w))).w).w).w.br (Tr.k k (Tr.ix strL (gsL c s k) ((0 : Nat) + k) fun (x12 : Bs) ↦ (Tr.sl (0 : Nat) (k + 1) (Tr.g (List.map strL (List.take (k + 1 - (0 : Nat)) ((gsL c s k).set ((0 : Nat) + k) (rst c s k)))) Tr.nil)).w.w))).w).w.w).w.w)).w.w).w.w).w.w) rfl ?_
 refine Eq.mpr (by kernel_rfl : _ = (false = false ∧ false = false ∧ true = true ∧ (R FT X).f 74 [strL s, strL [c]] = some (intA (↑(Lib.countByte s c) : Int)) ∧ InI64 ((↑(Lib.countByte s c) : Int) + 1) ∧ InI64 ((↑(List.length s) : Int) + 1) ∧ (if (↑(List.length s) : Int) + 1 < (↑(Lib.countByte s c) : Int) + 1 then (↑(List.length s) : Int) + 1 else (↑(Lib.countByte s c) : Int) + 1) = (↑(if (↑(List.length s) : Int) + 1 < (↑(Lib.countByte s c) : Int) + 1 then (↑(List.length s) : Int) + 1 else (↑(Lib.countByte s c) : Int) + 1).toNat : Int) ∧ (if (↑(List.length s) : Int) + 1 < (↑(Lib.countByte s c) : Int) + 1 then (↑(List.length s) : Int) + 1 else (↑(Lib.countByte s c) : Int) + 1) = (↑(if (↑(List.length s) : Int) + 1 < (↑(Lib.countByte s c) : Int) + 1 then (↑(List.length s) : Int) + 1 else (↑(Lib.countByte s c) : Int) + 1).toNat : Int) ∧ (if (↑(List.length s) : Int) + 1 < (↑(Lib.countByte s c) : Int) + 1 then (↑(List.length s) : Int) + 1 else (↑(Lib.countByte s c) : Int) + 1).toNat ≤ 9223372036854775807 ∧ (16 : Nat) * (if (↑(List.length
 s) : Int) + 1 < (↑(Lib.countByte s c) : Int) + 1 then (↑(List.length s) : Int) + 1 else (↑(Lib.countByte s c) : Int) + 1).toNat ≤ 281474976710656 ∧ InI64 ((if (↑(List.length s) : Int) + 1 < (↑(Lib.countByte s c) : Int) + 1 then (↑(List.length s) : Int) + 1 else (↑(Lib.countByte s c) : Int) + 1) - 1) ∧ (∃ (j1 : Nat), ((s = rst c s j1 ∧ [c] = [c] ∧ (0 : Int) = 0 ∧ (if (↑(List.length s) : Int) + 1 < (↑(Lib.countByte s c) : Int) + 1 then (↑(List.length s) : Int) + 1 else (↑(Lib.countByte s c) : Int) + 1) - 1 = (↑(Lib.countByte s c) : Int) ∧ ((if (↑(List.length s) : Int) + 1 < (↑(Lib.countByte s c) : Int) + 1 then (↑(List.length s) : Int) + 1 else (↑(Lib.countByte s c) : Int) + 1).toNat = Lib.countByte s c + 1 ∧ (0 : Nat) = 0 ∧ (if (↑(List.length s) : Int) + 1 < (↑(Lib.countByte s c) : Int) + 1 then (↑(List.length s) : Int) + 1 else (↑(Lib.countByte s c) : Int) + 1).toNat = Lib.countByte s c + 1) ∧ (0 : Int) = (↑j1 : Int) ∧ True) ∧ List.replicate (if (↑(List.length s) : Int)
 + (1 : Int) < (↑(Lib.countByte s c) : Int) + 1 then (↑(List.length s) : Int) + 1 else (↑(Lib.countByte s c) : Int) + 1).toNat (zeroEl [Value.string (ByteArray.mk #[])] false) = List.map strL (gsL c s j1)) ∧ j1 ≤ Lib.countByte s c) ∧ ∀ (k : Nat), k ≤ Lib.countByte s c → (decide ((↑k : Int) < (↑(Lib.countByte s c) : Int)) = true → (R FT X).f 75 [strL (rst c s k), strL [c]] = some (intA (Lib.indexByte (rst c s k) c)) ∧ (decide (Lib.indexByte (rst c s k) c < 0) = true → (List.map strL (gsL c s k)).length = Lib.countByte s c + 1 ∧ (↑k : Int) = (↑k : Int) ∧ k < Lib.countByte s c + 1 ∧ List.map strL (gsL c s k) = List.map strL (gsL c s k) ∧ (List.map strL (gsL c s k)).length = Lib.countByte s c + 1 ∧ (0 : Nat) + k = 0 + k ∧ (0 : Nat) + k < (gsL c s k).length ∧ ∀ (x5 : Bs), (gsL c s k)[(0 : Nat) + k]? = some x5 → InI64 ((↑k : Int) + 1) ∧ ((List.map strL (gsL c s k)).set ((0 : Nat) + k) (AV.val (Value.string (ofL (rst c s k))))).length = Lib.countByte s c + 1 ∧ (0 : Int) = 0 ∧ (↑k : Int) + 1 = (↑(k + 1) : Int) ∧ (0 : Nat) ≤ k + 1 ∧ k + 1 ≤ Lib.countByte s c + (1
 : Nat) ∧ ((List.map strL (gsL c s k)).set ((0 : Nat) + k) (AV.val (Value.string (ofL (rst c s k))))).length = Lib.countByte s c + 1 ∧ List.take (k + 1 - (0 : Nat)) (List.drop ((0 : Nat) + 0) ((List.map strL (gsL c s k)).set ((0 : Nat) + k) (AV.val (Value.string (ofL (rst c s k)))))) = List.map strL (List.take (k + 1 - (0 : Nat)) ((gsL c s k).set ((0 : Nat) + k) (rst c s k))) ∧ List.map strL (List.take (k + 1 - (0 : Nat)) ((gsL c s k).set ((0 : Nat) + k) (rst c s k))) = List.map strL (flds c s)) ∧ (decide (Lib.indexByte (rst c s k) c < 0) = false → InI64 (Lib.indexByte (rst c s k) c + 0) ∧ (0 : Int) = 0 ∧ Lib.indexByte (rst c s k) c + 0 = (↑((Lib.indexByte (rst c s k) c).toNat + 0) : Int) ∧ (0 : Nat) ≤ (Lib.indexByte (rst c s k) c).toNat + 0 ∧ (Lib.indexByte (rst c s k) c).toNat + 0 ≤ List.length (rst c s k) ∧ (List.map strL (gsL c s k)).length = Lib.countByte s c + 1 ∧ (↑k : Int) = (↑k : Int) ∧ k < Lib.countByte s c + 1 ∧ List.map strL (gsL c s k) = List.map strL (gsL c s k) ∧ (List.map strL (gsL c s k)).length = Lib.countByte s c + 1 ∧ (0 : Nat) + k = 0 +
 k ∧ (0 : Nat) + k < (gsL c s k).length ∧ ∀ (x8 : Bs), (gsL c s k)[(0 : Nat) + k]? = some x8 → InI64 (Lib.indexByte (rst c s k) c + (↑[c].length : Int)) ∧ Lib.indexByte (rst c s k) c + (↑[c].length : Int) = (↑((Lib.indexByte (rst c s k) c).toNat + [c].length) : Int) ∧ (↑(List.length (rst c s k)) : Int) = (↑(List.length (rst c s k)) : Int) ∧ (Lib.indexByte (rst c s k) c).toNat + [c].length ≤ List.length (rst c s k) ∧ List.length (rst c s k) ≤ List.length (rst c s k) ∧ InI64 ((↑k : Int) + 1) ∧ ∃ (j10 : Nat), ((List.drop ((Lib.indexByte (rst c s k) c).toNat + [c].length) (List.take (List.length (rst c s k)) (rst c s k)) = rst c s j10 ∧ [c] = [c] ∧ (0 : Int) = 0 ∧ (↑(Lib.countByte s c) : Int) = (↑(Lib.countByte s c) : Int) ∧ (Lib.countByte s c + 1 = Lib.countByte s c + 1 ∧ (0 : Nat) = 0 ∧ Lib.countByte s c + 1 = Lib.countByte s c + 1) ∧ (↑k : Int) + 1 = (↑j10 : Int) ∧ True) ∧ (List.map strL (gsL c s k)).set ((0 : Nat) + k) (AV.val (Value.string (ofL (List.drop (0 : Nat) (List.take ((Lib.indexByte (rst c s k) c).toNat + 0) (rst c s k)))))) = List.map strL (gsL c s j10)) ∧ j10 ≤ Lib.countByte s c ∧ Lib.countByte s c -
 j10 < Lib.countByte s c - k)) ∧ (decide ((↑k : Int) < (↑(Lib.countByte s c) : Int)) = false → (List.map strL (gsL c s k)).length = Lib.countByte s c + 1 ∧ (↑k : Int) = (↑k : Int) ∧ k < Lib.countByte s c + 1 ∧ List.map strL (gsL c s k) = List.map strL (gsL c s k) ∧ (List.map strL (gsL c s k)).length = Lib.countByte s c + 1 ∧ (0 : Nat) + k = 0 + k ∧ (0 : Nat) + k < (gsL c s k).length ∧ ∀ (x12 : Bs), (gsL c s k)[(0 : Nat) + k]? = some x12 → InI64 ((↑k : Int) + 1) ∧ ((List.map strL (gsL c s k)).set ((0 : Nat) + k) (AV.val (Value.string (ofL (rst c s k))))).length = Lib.countByte s c + 1 ∧ (0 : Int) = 0 ∧ (↑k : Int) + 1 = (↑(k + 1) : Int) ∧ (0 : Nat) ≤ k + 1 ∧ k + 1 ≤ Lib.countByte s c + 1 ∧ ((List.map strL (gsL c s k)).set ((0 : Nat) + k) (AV.val (Value.string (ofL (rst c s k))))).length = Lib.countByte s c + 1 ∧ List.take (k + 1 - (0 : Nat)) (List.drop ((0 : Nat) + 0) ((List.map strL (gsL c s k)).set ((0 : Nat) + k) (AV.val (Value.string (ofL (rst c s k)))))) = List.map strL (List.take (k + 1 - (0 : Nat)) ((gsL c s k).set ((0 : Nat) + k) (rst c s k))) ∧ List.map
 strL (List.take (k + 1 - (0 : Nat)) ((gsL c s k).set ((0 : Nat) + k) (rst c s k))) = List.map strL (flds c s)))) ?_
 refine ⟨rfl, rfl, rfl, (h2 _ _), (by unfold InI64; omega), (by unfold InI64; omega), (by omega), (by omega), (by omega), (by omega), (by unfold InI64; omega), ⟨(0 : Nat), ⟨⟨rfl, rfl, rfl, (by omega), ⟨(by omega), rfl, (by omega)⟩, (by omega), trivial⟩, ?_⟩, (by omega)⟩, fun k => fun h2 => ⟨fun h3_ => have h3 := dT h3_; ⟨(h1 _ _), fun h4_ => have h4 := dT h4_; ⟨?_, rfl, (by omega), rfl, ?_, rfl, ?_, fun x5 => fun h6 => ⟨(by unfold InI64; omega), ?_, rfl, (by omega), (by omega), (by omega), ?_, ?_, ?_⟩⟩, fun h7_ => have h7 := dF h7_; ⟨?_, rfl, (by omega), (by omega), ?_, ?_, rfl, (by omega), rfl, ?_, rfl, ?_, fun x8 => fun h9 => ⟨?_, (by omega), rfl, ?_, (by omega), (by unfold InI64; omega), ⟨k + (1 : Nat), ⟨⟨?_, rfl, rfl, rfl, ⟨rfl, rfl, rfl⟩, (by omega), trivial⟩, ?_⟩, ⟨(by omega), (by omega)⟩⟩⟩⟩⟩, fun h11_ => have h11 := dF h11_; ⟨?_, rfl, (by omega), rfl, ?_, rfl, ?_, fun x12 => fun h13 => ⟨(by unfold InI64; omega), ?_, rfl, (by omega), (by omega), (by omega), ?_, ?_, ?_⟩⟩⟩⟩
 ·refine gsL_0 c s ?_ _ rfl
  split <;> omega
 all_goals (try simp only [Nat.zero_add, Nat.add_zero, Nat.sub_zero, Int.add_zero, List.drop_zero] at *)
 iterate 7 · have := (rst_get (c := c) (s := s) (i := k) (by omega)).1; omega
 all_goals (have hlen := gsL_len (c := c) (s := s) (i := k) h2)
 all_goals (have hrl := rst_len c s k)
 all_goals (have hm3 := maxLen_i64)
 ·have q := idx_lt (c := c) (s := rst c s k) (by omega); unfold InI64; omega
 ·have q := idx_lt (c := c) (s := rst c s k) (by omega); omega
 iterate 2 · rw [List.length_map]; exact hlen
 ·omega
 ·have q := idx_lt (c := c) (s := rst c s k) (by omega); simp; unfold InI64; omega
 ·have q := idx_lt (c := c) (s := rst c s k) (by omega); simp; omega
 ·rw [List.take_of_length_le (Nat.le_refl _)]; rfl
 ·exact gsL_set' (by omega) (rst_get (by omega)).2
 iterate 2 · rw [List.length_map]; exact hlen
 ·omega
 iterate 2 · rw [List.length_set, List.length_map]; exact hlen
 ·rw [List.map_take, List.map_set]; rfl
 ·obtain rfl : k = Lib.countByte s c := by omega
  rw [gsL_set (Nat.le_refl _) rst_last, gsL_all, List.take_of_length_le (by rw [cnt_flds]; omega)]
theorem split_run (hx : StrC X) (c : UInt8) (s : Bs) (hs : s.length ≤ 100000000) : (R FT X).f 41 [strL s, strL [c]] = some (.slice 1 ((flds c s).map strL)) := by
 have g := gen_run hx
 refine R_wp (Tr.c (AV.slice 1 (List.map strL (flds c s))) Tr.nil) rfl ?_
 refine Eq.mpr (by kernel_rfl : _ = ((R FT X).f 63 [strL s, strL [c], intA 0, intA (-1 : Int)] = some (AV.slice 1 (List.map strL (flds c s))) ∧ List.map strL (flds c s) = List.map strL (flds c s))) ?_
 refine ⟨(g _ _ hs), rfl⟩
theorem lines_run (hx : StrC X) (s : Bs) (hs : s.length ≤ 100000000) : (R FT X).f 44 [strL s] = some (.tuple [.slice 1 ((lins s).map strL), boolA (endB s)]) := by
 have hm := maxLen_le
 have g := split_run hx 10
 have hf := cnt_flds 10 s
 have hc := cnt_le 10 s
 refine R_wp ((Tr.nil.br (Tr.c (AV.slice 1 (List.map strL (flds (10 : UInt8) s))) (Tr.k (flds (10 : UInt8) s).length (Tr.ix strL (flds (10 : UInt8) s) ((↑(flds (10 : UInt8) s).length : Int) - 1).toNat fun (x3 : Bs) ↦ ((Tr.sl ((↑(flds (10 : UInt8) s).length : Int) - 1).toNat ((↑(flds (10 : UInt8) s).length : Int) - 1).toNat Tr.nil).br Tr.nil).w).w.w))).w.w) rfl ?_
 refine Eq.mpr (by kernel_rfl : _ = ((decide (s = []) = true → [] = List.map strL (lins s) ∧ true = endB s) ∧ (decide (s = []) = false → (R FT X).f 41 [strL s, strL [(10 : UInt8)]] = some (AV.slice 1 (List.map strL (flds (10 : UInt8) s))) ∧ (List.map strL (flds (10 : UInt8) s)).length = (flds (10 : UInt8) s).length ∧ InI64 ((↑(flds (10 : UInt8) s).length : Int) - 1) ∧ List.map strL (flds (10 : UInt8) s) = List.map strL (flds (10 : UInt8) s) ∧ (↑(flds (10 : UInt8) s).length : Int) - 1 = (↑((↑(flds (10 : UInt8) s).length : Int) - 1).toNat : Int) ∧ ((↑(flds (10 : UInt8) s).length : Int) - 1).toNat < (flds (10 : UInt8) s).length ∧ ∀ (x3 : Bs), (flds (10 : UInt8) s)[((↑(flds (10 : UInt8) s).length : Int) - 1).toNat]? = some x3 → (decide (x3 = []) = true → (↑(flds (10 : UInt8) s).length : Int) - 1 = (↑((↑(flds (10 : UInt8) s).length : Int) - 1).toNat : Int) ∧ (↑(flds (10 : UInt8) s).length : Int) - 1 = (↑((↑(flds (10 : UInt8) s).length : Int) - 1).toNat : Int) ∧ ((↑(flds (10 : UInt8) s).length : Int) - 1).toNat ≤ ((↑(flds (10 : UInt8) s).length : Int) - 1).toNat ∧ ((↑(flds (10 : UInt8) s).length : Int) - 1).toNat
 ≤ (List.map strL (flds (10 : UInt8) s)).length ∧ List.take ((↑(flds (10 : UInt8) s).length : Int) - 1).toNat (List.map strL (flds (10 : UInt8) s)) = List.map strL (lins s) ∧ true = endB s) ∧ (decide (x3 = []) = false → List.map strL (flds (10 : UInt8) s) = List.map strL (lins s) ∧ false = endB s)))) ?_
 refine ⟨fun h1_ => have h1 := dT h1_; ⟨?_, ?_⟩, fun h2_ => have h2 := dF h2_; ⟨(g _ hs), (by simp), (by unfold InI64; omega), rfl, (by omega), (by omega), fun x3 => fun h4 => ⟨fun h5_ => have h5 := dT h5_; ⟨(by omega), (by omega), (by omega), (by simp), ?_, ?_⟩, fun h6_ => have h6 := dF h6_; ⟨?_, ?_⟩⟩⟩⟩
 ·subst h1; rfl
 ·subst h1; rfl
 all_goals rw [flds_last] at h4
 all_goals obtain rfl := Option.some.inj h4
 iterate 2
  ·have hn : ¬ flF 10 s s.length < s.length := fun q => by
    have := congrArg List.length h5
    rw [List.length_drop, List.length_nil] at this
    omega
   first | (rw [lins, if_neg hn, ← List.map_take, flds_init]; done) | exact (decide_eq_true hn).symm
 all_goals
  have hy : flF 10 s s.length < s.length := Classical.byContradiction fun q => h6 (List.drop_of_length_le (by omega))
 ·rw [lins, if_pos hy]
 ·exact (decide_eq_false (fun q => q hy)).symm
theorem check2_run (p : Spec) (hm : p.spans.length ≤ maxLen) (hl : ∀ x ∈ p.spans, x.f ≤ 9223372036854775807) : (R FT X).f 19 [encSc p] = some (intA (chkE p)) := by
 have nr := norB_run (X := X)
 refine R_wp (((Tr.nil.br (Tr.c (boolA (norB p.spans)) ((Tr.b true Tr.nil).w.br (Tr.nil.br Tr.nil).w)).w).w.br (Tr.b false (Tr.c (boolA (norB p.spans)) ((Tr.b true Tr.nil).w.br (Tr.nil.br Tr.nil).w)).w).w).w) rfl ?_
 refine Eq.mpr (by kernel_rfl : _ = (((!decide (p.kind = 1)) = true → ((!decide (p.kind = 2)) = true → (7 : Int) = chkE p) ∧ ((!decide (p.kind = 2)) = false → (R FT X).f 24 [AV.slice 2 (List.map encSp p.spans)] = some (boolA (norB p.spans)) ∧ ((!norB p.spans) = true → true = true ∧ (2 : Int) = chkE p) ∧ ((!norB p.spans) = false → (decide ((↑p.sep.toNat : Int) = 10) = true → (2 : Int) = chkE p) ∧ (decide ((↑p.sep.toNat : Int) = 10) = false → (0 : Int) = chkE p)))) ∧ ((!decide (p.kind = 1)) = false → false = false ∧ (R FT X).f 24 [AV.slice 2 (List.map encSp p.spans)] = some (boolA (norB p.spans)) ∧ ((!norB p.spans) = true → true = true ∧ (2 : Int) = chkE p) ∧ ((!norB p.spans) = false → (decide ((↑p.sep.toNat : Int) = 10) = true → (2 : Int) = chkE p) ∧ (decide ((↑p.sep.toNat : Int) = 10) = false → (0 : Int) = chkE p))))) ?_
 refine ⟨fun h1_ => have h1 := dnT h1_; ⟨fun h2_ => have h2 := dnT h2_; ?_, fun h3_ => have h3 := dnF h3_; ⟨(nr _ hm hl), fun h4_ => have h4 := nT h4_; ⟨rfl, ?_⟩, fun h5_ => have h5 := nF h5_; ⟨fun h6_ => have h6 := dT h6_; ?_, fun h7_ => have h7 := dF h7_; ?_⟩⟩⟩, fun h8_ => have h8 := dnF h8_; ⟨rfl, (nr _ hm hl), fun h9_ => have h9 := nT h9_; ⟨rfl, ?_⟩, fun h10_ => have h10 := nF h10_; ⟨fun h11_ => have h11 := dT h11_; ?_, fun h12_ => have h12 := dF h12_; ?_⟩⟩⟩
 ·exact (chkE_t h1 h2).symm
 ·exact (chkE_r (.inr h3) (.inl h4)).symm
 ·exact (chkE_r (.inr h3) (.inr (sep10.1 h6))).symm
 ·exact (chkE_o (.inr h3) h5 (fun q => h7 (sep10.2 q))).symm
 ·exact (chkE_r (.inl h8) (.inl h9)).symm
 ·exact (chkE_r (.inl h8) (.inr (sep10.1 h11))).symm
 ·exact (chkE_o (.inl h8) h10 (fun q => h12 (sep10.2 q))).symm
theorem check_run (p : Spec) (hm : p.spans.length ≤ maxLen) (hl : ∀ x ∈ p.spans, x.f ≤ 9223372036854775807) : (R FT X).f 18 [encSc p] = some (intA (chkE p)) := by
 have hm' := maxLen_i64
 refine R_wp (((Tr.nil.br (Tr.k p.spans.length (Tr.inv (fun (k : Nat) ↦ St.mk [(1, AV.ptr 0 0), (14, AV.slice 2 (List.map encSp p.spans)), (15, intA (↑p.spans.length : Int)), (16, intA (↑k : Int))] [MObj.box 31 [intA p.kind, AV.slice 2 (List.map encSp p.spans), u8A p.sep, strL p.out, boolA p.only, boolA p.not]]) (fun (k : Nat) ↦ k ≤ p.spans.length ∧ NorJ p.spans k) (fun (k : Nat) ↦ p.spans.length - k) fun (k : Nat) ↦ (Tr.ix encSp p.spans k fun (x7 : Sp) ↦ ((Tr.b true (Tr.b true Tr.nil).w).br (((Tr.b true Tr.nil).w.br (Tr.b false (Tr.b false ((Tr.ix encSp p.spans ((↑k : Int) - 1).toNat fun (x15 : Sp) ↦ (Tr.nil.br Tr.nil.w).w).w.w.br (Tr.b false Tr.nil.w).w).w).w)).br (Tr.b false (Tr.b true (Tr.k p.spans.length (Tr.nil.br ((Tr.ix encSp p.spans ((↑k : Int) - 1).toNat fun (x26 : Sp) ↦ (Tr.nil.br Tr.nil.w).w).w.w.br (Tr.b false Tr.nil.w).w).w).w).w)))).w).w.br (Tr.nil.br Tr.nil).w.w).w)).w.br (Tr.b false (Tr.k p.spans.length (Tr.inv (fun (k : Nat) ↦ St.mk [(1, AV.ptr 0 0), (14, AV.slice 2 (List.map encSp p.spans)), (15, intA (↑p.spans.length : Int)), (16, intA
 (↑k : Int))] [MObj.box 31 [intA p.kind, AV.slice 2 (List.map encSp p.spans), u8A p.sep, strL p.out, boolA p.only, boolA p.not]]) (fun (k : Nat) ↦ k ≤ p.spans.length ∧ NorJ p.spans k) (fun (k : Nat) ↦ p.spans.length - k) fun (k : Nat) ↦ (Tr.ix encSp p.spans k fun (x40 : Sp) ↦ ((Tr.b true (Tr.b true Tr.nil).w).br (((Tr.b true Tr.nil).w.br (Tr.b false (Tr.b false ((Tr.ix encSp p.spans ((↑k : Int) - 1).toNat fun (x48 : Sp) ↦ (Tr.nil.br Tr.nil.w).w).w.w.br (Tr.b false Tr.nil.w).w).w).w)).br (Tr.b false (Tr.b true (Tr.k p.spans.length (Tr.nil.br ((Tr.ix encSp p.spans ((↑k : Int) - 1).toNat fun (x59 : Sp) ↦ (Tr.nil.br Tr.nil.w).w).w.w.br (Tr.b false Tr.nil.w).w).w).w).w)))).w).w.br (Tr.nil.br Tr.nil).w.w).w)).w).w) rfl ?_
 refine Eq.mpr (by kernel_rfl : _ = (((!decide (p.kind = 1)) = true → ((!decide (p.kind = 2)) = true → (7 : Int) = chkE p) ∧ ((!decide (p.kind = 2)) = false → (List.map encSp p.spans).length = p.spans.length ∧ (∃ (j4 : Nat), ((True ∧ List.map encSp p.spans = List.map encSp p.spans ∧ (↑p.spans.length : Int) = (↑p.spans.length : Int) ∧ (0 : Int) = (↑j4 : Int) ∧ True) ∧ p.kind = p.kind ∧ List.map encSp p.spans = List.map encSp p.spans ∧ (↑p.sep.toNat : Int) = (↑p.sep.toNat : Int) ∧ p.out = p.out ∧ p.only = p.only ∧ p.not = p.not) ∧ j4 ≤ p.spans.length ∧ NorJ p.spans j4) ∧ ∀ (k : Nat), k ≤ p.spans.length ∧ NorJ p.spans k → (decide ((↑k : Int) < (↑p.spans.length : Int)) = true → List.map encSp p.spans = List.map encSp p.spans ∧ (↑k : Int) = (↑k : Int) ∧ k < p.spans.length ∧ ∀ (x7 : Sp), p.spans[k]? = some x7 → (decide (x7.f < 1) = true → true = true ∧ true = true ∧ (2 : Int) = chkE p) ∧ (decide (x7.f < 1) = false → ((!decide (x7.t = 0)) = true → (decide (x7.t < x7.f) = true → true = true ∧ (2 : Int) = chkE p) ∧ (decide (x7.t < x7.f) = false → decide (x7.t = 0) = false ∧ false = false ∧ (decide ((0 : Int) < (↑k : Int)) = true → InI64 (x7.f - 2) ∧ InI64 ((↑k : Int)
 - (1 : Int)) ∧ List.map encSp p.spans = List.map encSp p.spans ∧ (↑k : Int) - 1 = (↑((↑k : Int) - 1).toNat : Int) ∧ ((↑k : Int) - 1).toNat < p.spans.length ∧ ∀ (x15 : Sp), p.spans[((↑k : Int) - 1).toNat]? = some x15 → (decide (x7.f - 2 < x15.t) = true → (2 : Int) = chkE p) ∧ (decide (x7.f - 2 < x15.t) = false → InI64 ((↑k : Int) + 1) ∧ ∃ (j19 : Nat), ((True ∧ List.map encSp p.spans = List.map encSp p.spans ∧ (↑p.spans.length : Int) = (↑p.spans.length : Int) ∧ (↑k : Int) + 1 = (↑j19 : Int) ∧ True) ∧ p.kind = p.kind ∧ List.map encSp p.spans = List.map encSp p.spans ∧ (↑p.sep.toNat : Int) = (↑p.sep.toNat : Int) ∧ p.out = p.out ∧ p.only = p.only ∧ p.not = p.not) ∧ (j19 ≤ p.spans.length ∧ NorJ p.spans j19) ∧ p.spans.length - j19 < p.spans.length - k)) ∧ (decide ((0 : Int) < (↑k : Int)) = false → false = false ∧ InI64 ((↑k : Int) + 1) ∧ ∃ (j21 : Nat), ((True ∧ List.map encSp p.spans = List.map encSp p.spans ∧ (↑p.spans.length : Int) = (↑p.spans.length : Int) ∧ (↑k : Int) + 1 = (↑j21 : Int) ∧ True) ∧ p.kind = p.kind ∧ List.map encSp p.spans = List.map encSp p.spans ∧ (↑p.sep.toNat : Int) = (↑p.sep.toNat : Int)
 ∧ p.out = p.out ∧ p.only = p.only ∧ p.not = p.not) ∧ (j21 ≤ p.spans.length ∧ NorJ p.spans j21) ∧ p.spans.length - j21 < p.spans.length - k))) ∧ ((!decide (x7.t = 0)) = false → false = false ∧ decide (x7.t = 0) = true ∧ InI64 ((↑k : Int) + 1) ∧ (List.map encSp p.spans).length = p.spans.length ∧ (decide ((↑k : Int) + 1 < (↑p.spans.length : Int)) = true → (2 : Int) = chkE p) ∧ (decide ((↑k : Int) + 1 < (↑p.spans.length : Int)) = false → (decide ((0 : Int) < (↑k : Int)) = true → InI64 (x7.f - 2) ∧ InI64 ((↑k : Int) - 1) ∧ List.map encSp p.spans = List.map encSp p.spans ∧ (↑k : Int) - 1 = (↑((↑k : Int) - 1).toNat : Int) ∧ ((↑k : Int) - 1).toNat < p.spans.length ∧ ∀ (x26 : Sp), p.spans[((↑k : Int) - 1).toNat]? = some x26 → (decide (x7.f - 2 < x26.t) = true → (2 : Int) = chkE p) ∧ (decide (x7.f - 2 < x26.t) = false → InI64 ((↑k : Int) + 1) ∧ ∃ (j30 : Nat), ((True ∧ List.map encSp p.spans = List.map encSp p.spans ∧ (↑p.spans.length : Int) = (↑p.spans.length : Int) ∧ (↑k : Int) + 1 = (↑j30 : Int) ∧ True) ∧ p.kind = p.kind ∧ List.map encSp p.spans = List.map encSp p.spans ∧
 (↑p.sep.toNat : Int) = (↑p.sep.toNat : Int) ∧ p.out = p.out ∧ p.only = p.only ∧ p.not = p.not) ∧ (j30 ≤ p.spans.length ∧ NorJ p.spans j30) ∧ p.spans.length - j30 < p.spans.length - k)) ∧ (decide ((0 : Int) < (↑k : Int)) = false → false = false ∧ InI64 ((↑k : Int) + 1) ∧ ∃ (j32 : Nat), ((True ∧ List.map encSp p.spans = List.map encSp p.spans ∧ (↑p.spans.length : Int) = (↑p.spans.length : Int) ∧ (↑k : Int) + 1 = (↑j32 : Int) ∧ True) ∧ p.kind = p.kind ∧ List.map encSp p.spans = List.map encSp p.spans ∧ (↑p.sep.toNat : Int) = (↑p.sep.toNat : Int) ∧ p.out = p.out ∧ p.only = p.only ∧ p.not = p.not) ∧ (j32 ≤ p.spans.length ∧ NorJ p.spans j32) ∧ p.spans.length - j32 < p.spans.length - k))))) ∧ (decide ((↑k : Int) < (↑p.spans.length : Int)) = false → (decide ((↑p.sep.toNat : Int) = 10) = true → (2 : Int) = chkE p) ∧ (decide ((↑p.sep.toNat : Int) = 10) = false → (0 : Int) = chkE p)))) ∧ ((!decide (p.kind = 1)) = false → false = false ∧ (List.map encSp p.spans).length = p.spans.length ∧ (∃ (j37 : Nat), ((True ∧ List.map encSp p.spans = List.map encSp p.spans ∧ (↑p.spans.length : Int) = (↑p.spans.length : Int) ∧ (0 : Int) = (↑j37 : Int) ∧ True) ∧ p.kind =
 p.kind ∧ List.map encSp p.spans = List.map encSp p.spans ∧ (↑p.sep.toNat : Int) = (↑p.sep.toNat : Int) ∧ p.out = p.out ∧ p.only = p.only ∧ p.not = p.not) ∧ j37 ≤ p.spans.length ∧ NorJ p.spans j37) ∧ ∀ (k : Nat), k ≤ p.spans.length ∧ NorJ p.spans k → (decide ((↑k : Int) < (↑p.spans.length : Int)) = true → List.map encSp p.spans = List.map encSp p.spans ∧ (↑k : Int) = (↑k : Int) ∧ k < p.spans.length ∧ ∀ (x40 : Sp), p.spans[k]? = some x40 → (decide (x40.f < 1) = true → true = true ∧ true = true ∧ (2 : Int) = chkE p) ∧ (decide (x40.f < 1) = false → ((!decide (x40.t = 0)) = true → (decide (x40.t < x40.f) = true → true = true ∧ (2 : Int) = chkE p) ∧ (decide (x40.t < x40.f) = false → decide (x40.t = 0) = false ∧ false = false ∧ (decide ((0 : Int) < (↑k : Int)) = true → InI64 (x40.f - 2) ∧ InI64 ((↑k : Int) - 1) ∧ List.map encSp p.spans = List.map encSp p.spans ∧ (↑k : Int) - 1 = (↑((↑k : Int) - 1).toNat : Int) ∧ ((↑k : Int) - 1).toNat < p.spans.length ∧ ∀ (x48 : Sp), p.spans[((↑k : Int) - 1).toNat]? = some x48 → (decide (x40.f - 2 < x48.t) = true → (2 : Int) = chkE p) ∧ (decide (x40.f - 2 < x48.t)
 = false → InI64 ((↑k : Int) + 1) ∧ ∃ (j52 : Nat), ((True ∧ List.map encSp p.spans = List.map encSp p.spans ∧ (↑p.spans.length : Int) = (↑p.spans.length : Int) ∧ (↑k : Int) + 1 = (↑j52 : Int) ∧ True) ∧ p.kind = p.kind ∧ List.map encSp p.spans = List.map encSp p.spans ∧ (↑p.sep.toNat : Int) = (↑p.sep.toNat : Int) ∧ p.out = p.out ∧ p.only = p.only ∧ p.not = p.not) ∧ (j52 ≤ p.spans.length ∧ NorJ p.spans j52) ∧ p.spans.length - j52 < p.spans.length - k)) ∧ (decide ((0 : Int) < (↑k : Int)) = false → false = false ∧ InI64 ((↑k : Int) + 1) ∧ ∃ (j54 : Nat), ((True ∧ List.map encSp p.spans = List.map encSp p.spans ∧ (↑p.spans.length : Int) = (↑p.spans.length : Int) ∧ (↑k : Int) + 1 = (↑j54 : Int) ∧ True) ∧ p.kind = p.kind ∧ List.map encSp p.spans = List.map encSp p.spans ∧ (↑p.sep.toNat : Int) = (↑p.sep.toNat : Int) ∧ p.out = p.out ∧ p.only = p.only ∧ p.not = p.not) ∧ (j54 ≤ p.spans.length ∧ NorJ p.spans j54) ∧ p.spans.length - j54 < p.spans.length - k))) ∧ ((!decide (x40.t = 0)) = false → false = false ∧ decide (x40.t = 0) = true ∧ InI64 ((↑k : Int) + 1) ∧ (List.map encSp p.spans).length = p.spans.length ∧ (decide ((↑k : Int) + 1
 < (↑p.spans.length : Int)) = true → (2 : Int) = chkE p) ∧ (decide ((↑k : Int) + 1 < (↑p.spans.length : Int)) = false → (decide ((0 : Int) < (↑k : Int)) = true → InI64 (x40.f - 2) ∧ InI64 ((↑k : Int) - 1) ∧ List.map encSp p.spans = List.map encSp p.spans ∧ (↑k : Int) - 1 = (↑((↑k : Int) - 1).toNat : Int) ∧ ((↑k : Int) - 1).toNat < p.spans.length ∧ ∀ (x59 : Sp), p.spans[((↑k : Int) - 1).toNat]? = some x59 → (decide (x40.f - 2 < x59.t) = true → (2 : Int) = chkE p) ∧ (decide (x40.f - 2 < x59.t) = false → InI64 ((↑k : Int) + 1) ∧ ∃ (j63 : Nat), ((True ∧ List.map encSp p.spans = List.map encSp p.spans ∧ (↑p.spans.length : Int) = (↑p.spans.length : Int) ∧ (↑k : Int) + 1 = (↑j63 : Int) ∧ True) ∧ p.kind = p.kind ∧ List.map encSp p.spans = List.map encSp p.spans ∧ (↑p.sep.toNat : Int) = (↑p.sep.toNat : Int) ∧ p.out = p.out ∧ p.only = p.only ∧ p.not = p.not) ∧ (j63 ≤ p.spans.length ∧ NorJ p.spans j63) ∧ p.spans.length - j63 < p.spans.length - k)) ∧ (decide ((0 : Int) < (↑k : Int)) = false → false = false ∧ InI64 ((↑k : Int) + 1) ∧ ∃ (j65 : Nat), ((True ∧ List.map encSp p.spans = List.map encSp p.spans
 ∧ (↑p.spans.length : Int) = (↑p.spans.length : Int) ∧ (↑k : Int) + 1 = (↑j65 : Int) ∧ True) ∧ p.kind = p.kind ∧ List.map encSp p.spans = List.map encSp p.spans ∧ (↑p.sep.toNat : Int) = (↑p.sep.toNat : Int) ∧ p.out = p.out ∧ p.only = p.only ∧ p.not = p.not) ∧ (j65 ≤ p.spans.length ∧ NorJ p.spans j65) ∧ p.spans.length - j65 < p.spans.length - k))))) ∧ (decide ((↑k : Int) < (↑p.spans.length : Int)) = false → (decide ((↑p.sep.toNat : Int) = 10) = true → (2 : Int) = chkE p) ∧ (decide ((↑p.sep.toNat : Int) = 10) = false → (0 : Int) = chkE p))))) ?_
 refine ⟨fun h1_ => have h1 := dnT h1_; ⟨fun h2_ => have h2 := dnT h2_; ?_, fun h3_ => have h3 := dnF h3_; ⟨(by simp), ⟨(0 : Nat), ⟨⟨trivial, rfl, rfl, (by omega), trivial⟩, rfl, rfl, rfl, rfl, rfl, rfl⟩, ⟨(by omega), ?_⟩⟩, fun k => fun h5 => have h5a := h5.1; have h5b := h5.2; ⟨fun h6_ => have h6 := dT h6_; ⟨rfl, rfl, (by omega), fun x7 => fun h8 => ⟨fun h9_ => have h9 := dT h9_; ⟨rfl, rfl, ?_⟩, fun h10_ => have h10 := dF h10_; ⟨fun h11_ => have h11 := dnT h11_; ⟨fun h12_ => have h12 := dT h12_; ⟨rfl, ?_⟩, fun h13_ => have h13 := dF h13_; ⟨(fD h11), rfl, fun h14_ => have h14 := dT h14_; ⟨?_, (by unfold InI64; omega), rfl, (by omega), (by omega), fun x15 => fun h16 => ⟨fun h17_ => have h17 := dT h17_; ?_, fun h18_ => have h18 := dF h18_; ⟨(by unfold InI64; omega), ⟨k + (1 : Nat), ⟨⟨trivial, rfl, rfl, (by omega), trivial⟩, rfl, rfl, rfl, rfl, rfl, rfl⟩, ⟨⟨(by omega), ?_⟩, (by omega)⟩⟩⟩⟩⟩, fun h20_ => have h20 := dF h20_; ⟨rfl, (by unfold InI64; omega), ⟨k + (1 : Nat), ⟨⟨trivial, rfl, rfl, (by omega), trivial⟩, rfl, rfl, rfl, rfl, rfl, rfl⟩, ⟨⟨(by omega), ?_⟩, (by omega)⟩⟩⟩⟩⟩, fun h22_ => have h22 := dnF h22_; ⟨rfl, (tD h22), (by unfold InI64; omega), (by simp), fun h23_ => have h23 := dT h23_; ?_, fun h24_ => have h24 := dF h24_; ⟨fun h25_ => have h25 := dT h25_; ⟨?_, (by unfold InI64; omega), rfl, (by omega), (by omega), fun x26 => fun h27 => ⟨fun h28_ => have h28 := dT h28_; ?_, fun h29_ => have h29 := dF h29_; ⟨(by unfold InI64; omega), ⟨k + (1 : Nat), ⟨⟨trivial, rfl, rfl, (by omega), trivial⟩, rfl, rfl, rfl, rfl, rfl, rfl⟩, ⟨⟨(by omega), ?_⟩, (by omega)⟩⟩⟩⟩⟩, fun h31_ => have h31 := dF h31_; ⟨rfl, (by unfold InI64; omega), ⟨k + (1 : Nat), ⟨⟨trivial, rfl, rfl, (by omega), trivial⟩, rfl, rfl, rfl, rfl, rfl, rfl⟩, ⟨⟨(by omega), ?_⟩, (by omega)⟩⟩⟩⟩⟩⟩⟩⟩, fun h33_ => have h33 := dF h33_; ⟨fun h34_ => have h34 := dT h34_; ?_, fun h35_ => have h35 := dF h35_; ?_⟩⟩⟩⟩, fun h36_ => have h36 := dnF h36_; ⟨rfl, (by simp), ⟨(0 : Nat), ⟨⟨trivial, rfl, rfl, (by omega), trivial⟩, rfl, rfl, rfl, rfl, rfl, rfl⟩, ⟨(by omega), ?_⟩⟩, fun k => fun h38 => have h38a := h38.1; have h38b := h38.2; ⟨fun h39_ => have h39 := dT h39_; ⟨rfl, rfl, (by omega), fun x40 => fun h41 => ⟨fun h42_ => have h42 := dT h42_; ⟨rfl, rfl, ?_⟩, fun h43_ => have h43 := dF h43_; ⟨fun h44_ => have h44 := dnT h44_; ⟨fun h45_ => have h45 := dT h45_; ⟨rfl, ?_⟩, fun h46_ => have h46 := dF h46_; ⟨(fD h44), rfl, fun h47_ => have h47 := dT h47_; ⟨?_, (by unfold InI64; omega), rfl, (by omega), (by omega), fun x48 => fun h49 => ⟨fun h50_ => have h50 := dT h50_; ?_, fun h51_ => have h51 := dF h51_; ⟨(by unfold InI64; omega), ⟨k + (1 : Nat), ⟨⟨trivial, rfl, rfl, (by omega), trivial⟩, rfl, rfl, rfl, rfl, rfl, rfl⟩, ⟨⟨(by omega), ?_⟩, (by omega)⟩⟩⟩⟩⟩, fun h53_ => have h53 := dF h53_; ⟨rfl, (by unfold InI64; omega), ⟨k + (1 : Nat), ⟨⟨trivial, rfl, rfl, (by omega), trivial⟩, rfl, rfl, rfl, rfl, rfl, rfl⟩, ⟨⟨(by omega), ?_⟩, (by omega)⟩⟩⟩⟩⟩, fun h55_ => have h55 := dnF h55_; ⟨rfl, (tD h55), (by unfold InI64; omega), (by simp), fun h56_ => have h56 := dT h56_; ?_, fun h57_ => have h57 := dF h57_; ⟨fun h58_ => have h58 := dT h58_; ⟨?_, (by unfold InI64; omega), rfl, (by omega), (by omega), fun x59 => fun h60 => ⟨fun h61_ => have h61 := dT h61_; ?_, fun h62_ => have h62 := dF h62_; ⟨(by unfold InI64; omega), ⟨k + (1 : Nat), ⟨⟨trivial, rfl, rfl, (by omega), trivial⟩, rfl, rfl, rfl, rfl, rfl, rfl⟩, ⟨⟨(by omega), ?_⟩, (by omega)⟩⟩⟩⟩⟩, fun h64_ => have h64 := dF h64_; ⟨rfl, (by unfold InI64; omega), ⟨k + (1 : Nat), ⟨⟨trivial, rfl, rfl, (by omega), trivial⟩, rfl, rfl, rfl, rfl, rfl, rfl⟩, ⟨⟨(by omega), ?_⟩, (by omega)⟩⟩⟩⟩⟩⟩⟩⟩, fun h66_ => have h66 := dF h66_; ⟨fun h67_ => have h67 := dT h67_; ?_, fun h68_ => have h68 := dF h68_; ?_⟩⟩⟩⟩
 ·exact (chkE_t h1 h2).symm
 ·exact .zero _
 ·exact (chkE_r (.inr h3) (.inl (norB_bad h8 (okB_no (.inl h9))).symm)).symm
 ·exact (chkE_r (.inr h3) (.inl (norB_bad h8 (okB_no (.inr ⟨h11, h12⟩))).symm)).symm
 ·have := hl _ (List.mem_of_getElem? h8); unfold InI64; omega
 ·exact (chkE_r (.inr h3) (.inl (norB_gap (pre_at h16 h14 h8).1 (pre_at h16 h14 h8).2 (fun q => by have := q.2; omega)).symm)).symm
 ·exact h5b.step h8 (okB_yes h10 (.inr h13)) (fun _ => h11) (.inr ⟨by omega, _, (pre_at h16 h14 h8).1, h18⟩)
 ·exact h5b.step h8 (okB_yes h10 (.inr h13)) (fun _ => h11) (.inl (by omega))
 ·exact (chkE_r (.inr h3) (.inl (norB_gap h8 (List.getElem?_eq_getElem (by omega)) (fun q => q.1 h22)).symm)).symm
 ·have := hl _ (List.mem_of_getElem? h8); unfold InI64; omega
 ·exact (chkE_r (.inr h3) (.inl (norB_gap (pre_at h27 h25 h8).1 (pre_at h27 h25 h8).2 (fun q => by have := q.2; omega)).symm)).symm
 ·exact h5b.step h8 (okB_yes h10 (.inl h22)) (fun q => absurd q (by omega)) (.inr ⟨by omega, _, (pre_at h27 h25 h8).1, h29⟩)
 ·exact h5b.step h8 (okB_yes h10 (.inl h22)) (fun q => absurd q (by omega)) (.inl (by omega))
 ·exact (chkE_r (.inr h3) (.inr (sep10.1 h34))).symm
 ·exact (chkE_o (.inr h3) (h5b.i.all (by omega)).symm (fun q => h35 (sep10.2 q))).symm
 ·exact .zero _
 ·exact (chkE_r (.inl h36) (.inl (norB_bad h41 (okB_no (.inl h42))).symm)).symm
 ·exact (chkE_r (.inl h36) (.inl (norB_bad h41 (okB_no (.inr ⟨h44, h45⟩))).symm)).symm
 ·have := hl _ (List.mem_of_getElem? h41); unfold InI64; omega
 ·exact (chkE_r (.inl h36) (.inl (norB_gap (pre_at h49 h47 h41).1 (pre_at h49 h47 h41).2 (fun q => by have := q.2; omega)).symm)).symm
 ·exact h38b.step h41 (okB_yes h43 (.inr h46)) (fun _ => h44) (.inr ⟨by omega, _, (pre_at h49 h47 h41).1, h51⟩)
 ·exact h38b.step h41 (okB_yes h43 (.inr h46)) (fun _ => h44) (.inl (by omega))
 ·exact (chkE_r (.inl h36) (.inl (norB_gap h41 (List.getElem?_eq_getElem (by omega)) (fun q => q.1 h55)).symm)).symm
 ·have := hl _ (List.mem_of_getElem? h41); unfold InI64; omega
 ·exact (chkE_r (.inl h36) (.inl (norB_gap (pre_at h60 h58 h41).1 (pre_at h60 h58 h41).2 (fun q => by have := q.2; omega)).symm)).symm
 ·exact h38b.step h41 (okB_yes h43 (.inl h55)) (fun q => absurd q (by omega)) (.inr ⟨by omega, _, (pre_at h60 h58 h41).1, h62⟩)
 ·exact h38b.step h41 (okB_yes h43 (.inl h55)) (fun q => absurd q (by omega)) (.inl (by omega))
 ·exact (chkE_r (.inl h36) (.inr (sep10.1 h67))).symm
 ·exact (chkE_o (.inl h36) (h38b.i.all (by omega)).symm (fun q => h68 (sep10.2 q))).symm
end
end Go.Proofs.YtfedemnaeggokaaGreatDoor
end
section
namespace Go.Proofs.YtfedemnaeggokaaGreatDoor
set_option linter.unusedVariables false
set_option linter.unusedSimpArgs false
open Go.RowKit
set_option maxHeartbeats 2000000 in
set_option maxRecDepth 100000 in
theorem cc_fresh (b : Nat) (w : World) (h0 : w.cell? ⟨b, 0, none⟩ = some (.pointer none)) (hsh : w.shape? b = some (71, 2)) (hfz : w.frozen? ⟨b, 0, none⟩ = false) :
    Calls Tryz.prog 64 #[.pointer (some ⟨b, 0, none⟩)] w fun e w' => e = .returned (.tuple #[]) ∧ w' = w.setCell ⟨b, 0, none⟩ (.pointer (some ⟨b, 0, none⟩)) := by
  obtain ⟨j, hj, hjs⟩ := Option.map_eq_some_iff.1 (show (Tryz.prog.info? 71).map (·.size) = some 2 by kernel_rfl)
  have hlies : liesAt Tryz.prog Tryz.prog.depth 71 (2 / Tryz.prog.cellsOf 71) 0 71 1 = true := by kernel_rfl
  go_enter Tryz.func64, Tryz.ntmps64
  go_wp2
  rw [Lib.run_to_unsafe w ⟨b, 0, none⟩ Tryz.underlying69 Tryz.underlying99 hj (by rw [hjs]; decide) hsh (Nat.zero_lt_succ 1)]
  simp only [Result.andThen]
  rw [Oper.upon_value]
  go_wp2
  rw [run_callFunc_extern Tryz.func76 (by kernel_rfl) (by kernel_rfl) (by kernel_rfl) (e := Extern.AbiNoEscape.same) (by kernel_rfl)]
  rw [Lib.run_noEscape]
  simp only [Result.andThen]
  rw [Oper.upon_value]
  go_wp2
  rw [Lib.run_from_unsafe w ⟨b, 0, none⟩ Tryz.underlying99 Tryz.underlying69 hj hsh hlies]
  simp only [Result.andThen]
  rw [Oper.upon_value]
  go_wp2
  go_end0
  exact ⟨rfl, rfl⟩
set_option maxHeartbeats 2000000 in
set_option maxRecDepth 100000 in
theorem cc_used (b : Nat) (w : World) (h0 : w.cell? ⟨b, 0, none⟩ = some (.pointer (some ⟨b, 0, none⟩))) :
    Calls Tryz.prog 64 #[.pointer (some ⟨b, 0, none⟩)] w fun e w' => e = .returned (.tuple #[]) ∧ w' = w := by
  obtain ⟨j, hj, hjs⟩ := Option.map_eq_some_iff.1 (show (Tryz.prog.info? 71).map (·.size) = some 2 by kernel_rfl)
  go_enter Tryz.func64, Tryz.ntmps64
  go_wp2
  rw [Lib.run_neq_ptr_same w _ Tryz.underlying69 hj]
  go_wp2
  go_end0
  exact ⟨rfl, rfl⟩
theorem us_none (W : World) (q : Option Addr) : (Builtin.unsafeString_ #[90, 3] 9 #[.pointer q, .int .i64 0]).run Tryz.prog W = .ok (.string .empty) W :=
 Lib.run_unsafeString_none W _ _ _ q
set_option maxHeartbeats 2000000 in
set_option maxRecDepth 100000 in
theorem bs_nil (b : Nat) (p : Value) (w : World) (hbk : w.heap[b]? = some (.cells #[p, .slice none 0 0] 71 (0, 0))) :
    Calls Tryz.prog 46 #[.pointer (some ⟨b, 0, none⟩)] w fun e w' => e = .returned (.string ⟨#[]⟩) ∧ w'.heap = w.heap ∧ Below w.heap.size w w' := by
  have hUS := us_none
  have c1 : w.drew.cell? ⟨b, 1, none⟩ = some (.slice none 0 0) := by
    have : w.drew.heap[b]? = some (.cells #[p, .slice none 0 0] 71 (0, 0)) := hbk
    rw [Lib.cell_of_heap this]; rfl
  have hSD : (Builtin.unsafeSliceData_ #[44] 90 #[.slice none 0 0]).run Tryz.prog w.drew = .ok (.pointer none) w.drew := rfl
  have mixed : Tryz.prog.follows .mixedOrders = true := by kernel_rfl
  go_enter Tryz.func46, Tryz.ntmps46
  go_wp2
  go_region_o
  all_goals (go_wp2; go_ret; exact ⟨rfl, rfl, Below.drew (Below.refl _ w)⟩)
set_option maxHeartbeats 2000000 in
set_option maxRecDepth 100000 in
theorem bs_room (b g cap : Nat) (p : Value) (w : World) (hc0 : cap ≠ 0) (hbk : w.heap[b]? = some (.cells #[p, .slice (some ⟨g, 0, none⟩) 0 cap] 71 (0, 0))) :
    Calls Tryz.prog 46 #[.pointer (some ⟨b, 0, none⟩)] w fun e w' => e = .returned (.string ⟨#[]⟩) ∧ w'.heap = w.heap ∧ Below w.heap.size w w' := by
  have hUS := us_none
  have c1 : w.drew.cell? ⟨b, 1, none⟩ = some (.slice (some ⟨g, 0, none⟩) 0 cap) := by
    have : w.drew.heap[b]? = some (.cells #[p, .slice (some ⟨g, 0, none⟩) 0 cap] 71 (0, 0)) := hbk
    rw [Lib.cell_of_heap this]; rfl
  have hSD : (Builtin.unsafeSliceData_ #[44] 90 #[.slice (some ⟨g, 0, none⟩) 0 cap]).run Tryz.prog w.drew = .ok (.pointer (some ⟨g, 0, none⟩)) w.drew :=
    Lib.run_unsafeSliceData_row _ _ _ _ _ _ hc0
  clear hc0
  have mixed : Tryz.prog.follows .mixedOrders = true := by kernel_rfl
  go_enter Tryz.func46, Tryz.ntmps46
  go_wp2
  go_region_o
  all_goals (go_wp2; go_ret; exact ⟨rfl, rfl, Below.drew (Below.refl _ w)⟩)
set_option maxHeartbeats 2000000 in
set_option maxRecDepth 100000 in
theorem bs_row (b g cap : Nat) (p : Value) (cur : Array Value) (fz : Nat × Nat) (l : List UInt8) (w : World) (h0 : l ≠ []) (hbk : w.heap[b]? = some (.cells #[p, .slice (some ⟨g, 0, none⟩) l.length cap] 71 (0, 0)))
    (hg : w.heap[g]? = some (.cells cur 5 fz)) (hnc : l.length ≤ cap) (hcm : l.length ≤ 9223372036854775807) (hcs : cur.size = cap) (hcell : ∀ j x, l[j]? = some x → w.cell? ⟨g, j, none⟩ = some (.int .u8 x.toNat)) :
    Calls Tryz.prog 46 #[.pointer (some ⟨b, 0, none⟩)] w fun e w' => e = .returned (.string ⟨l.toArray⟩) ∧ w' = w.drew.freeze ⟨g, 0, none⟩ l.length := by
  have hl0 : l.length ≠ 0 := by simpa using h0
  have c1 : w.drew.cell? ⟨b, 1, none⟩ = some (.slice (some ⟨g, 0, none⟩) l.length cap) := by
    have : w.drew.heap[b]? = some (.cells #[p, .slice (some ⟨g, 0, none⟩) l.length cap] 71 (0, 0)) := hbk
    rw [Lib.cell_of_heap this]; rfl
  have hSD : (Builtin.unsafeSliceData_ #[44] 90 #[.slice (some ⟨g, 0, none⟩) l.length cap]).run Tryz.prog w.drew = .ok (.pointer (some ⟨g, 0, none⟩)) w.drew :=
    Lib.run_unsafeSliceData_row _ _ _ _ _ _ (by omega)
  have hUS : (Builtin.unsafeString_ #[90, 3] 9 #[.pointer (some ⟨g, 0, none⟩), .int .i64 l.length]).run Tryz.prog w.drew = .ok (.string ⟨l.toArray⟩) (w.drew.freeze ⟨g, 0, none⟩ l.length) := by
    refine Lib.run_unsafeString_row w.drew 90 3 9 5 Tryz.underlying90 (by kernel_rfl) g cur.size (by have hg' : w.drew.heap[g]? = some (.cells cur 5 fz) := hg; simp [World.shape?, hg']) l h0 (by omega) hcm ?_
    intro j x hx
    have e : (⟨g, 0, none⟩ : Addr).add j = ⟨g, j, none⟩ := by by_cases h : j = 0 <;> simp [Addr.add, h]
    rw [e]
    exact hcell j x hx
  have mixed : Tryz.prog.follows .mixedOrders = true := by kernel_rfl
  go_enter Tryz.func46, Tryz.ntmps46
  go_wp2
  go_region_o
  all_goals (go_wp2; go_ret; exact ⟨rfl, rfl⟩)
end Go.Proofs.YtfedemnaeggokaaGreatDoor
end
section
namespace Go.Proofs.YtfedemnaeggokaaGreatDoor
set_option linter.unusedVariables false
set_option linter.unusedSimpArgs false
set_option maxRecDepth 100000
open Go.RowKit
abbrev bldT : TypeId := BT
def u8F : Nat := 5 + 2
def ccOk (id : Nat) (m : List MObj) : Bool := match m[id]? with
 | some (.box t [.any, _]) => decide (t = bldT)
 | _ => false
def bytesV : List AV → Option Bs
 | [] => some []
 | .val (.int .u8 n) :: r => if 0 ≤ n ∧ n < 256 then (bytesV r).map (UInt8.ofNat n.toNat :: ·) else none
 | _ => none
theorem bytesV_map : ∀ l : Bs, bytesV (l.map u8A) = some l
 | [] => rfl
 | c :: l => by
  have h := c.toNat_lt
  show (if 0 ≤ (c.toNat : Int) ∧ (c.toNat : Int) < 256 then (bytesV (l.map u8A)).map (UInt8.ofNat (c.toNat : Int).toNat :: ·) else none) = _
  rw [if_pos (by omega), bytesV_map l]
  simp
theorem bytesV_eq : ∀ {l : List AV} {bs : Bs}, bytesV l = some bs → l = bs.map u8A
 | [], bs, h => by simp [bytesV] at h; subst h; rfl
 | x :: l, bs, h => by
  unfold bytesV at h
  split at h
  ·rename_i e; cases e
  ·rename_i n r e
   cases e
   split at h
   ·rename_i hn
    simp only [Option.map_eq_some_iff] at h
    obtain ⟨bs', h1, rfl⟩ := h
    rw [bytesV_eq h1]
    simp only [List.map_cons, u8A, List.cons.injEq, AV.val.injEq, Value.int.injEq, true_and, and_true]
    rw [UInt8.toNat_ofNat']; omega
   ·cases h
  ·cases h
def bsM (id : Nat) (m : List MObj) : Option (AV × List MObj) := match m[id]? with
 | some (.box t [_, .row rid ver used 0 len]) => (match m[rid]? with
  | some (.row v 1 l wr ap) => if t = bldT ∧ v = ver ∧ l.length = used ∧ len = used ∧ ap = u8F ∧ used ≤ 9223372036854775807 then (bytesV l).map fun bs => (strL bs, m.set rid (.row (ver + 1) 1 [] wr ap)) else none
  | _ => none)
 | _ => none
theorem bsM_of {id rid ver used : Nat} {m : List MObj} {c : AV} {l : List AV} {wr : Bool} {bs : Bs} (h1 : m[id]? = some (.box bldT [c, .row rid ver used 0 used])) (h2 : m[rid]? = some (.row ver 1 l wr u8F)) (h3 : l.length = used) (h4 : bytesV l = some bs) (h5 : used ≤ 9223372036854775807) :
    bsM id m = some (strL bs, m.set rid (.row (ver + 1) 1 [] wr u8F)) := by
  simp only [bsM, h1, h2, h3, h4, h5, and_self, if_true, Option.map_some]
section
variable {X : Nat → Nat → Prop} {o w w' : World} {m : List MObj} {H : List Hd}
theorem setCell_row {b i : Nat} {cs : Array Value} {t : TypeId} {fz : Nat × Nat} (h : w.heap[b]? = some (.cells cs t fz)) (v : Value) : w.setCell ⟨b, i, none⟩ v = w.setRow b (cs.setIfInBounds i v) := by
 have : (w.heap.modify b fun o => match o with | .cells c elem frozen => .cells (if (none : Option Nat).isSome then c else c.setIfInBounds i v) elem frozen | o => o) = w.heap.modify b fun o => match o with | .cells _ elem frozen => .cells (cs.setIfInBounds i v) elem frozen | o => o := by
  apply Array.ext_getElem?
  intro k
  rw [Array.getElem?_modify, Array.getElem?_modify]
  split
  ·rename_i e
   subst e
   rw [h]; rfl
  ·rfl
 unfold World.setCell World.setRow
 exact congrArg (fun hp => ({ w with heap := hp } : World)) this
theorem arg_ptr {vs : Array Value} {id : Nat} {t : TypeId} {cells : List AV} (hm : MemAt X w m H) (hr : RepL (Stab X H w) w H vs [.ptr id 0]) (hobj : m[id]? = some (.box t cells)) :
    ∃ (b : Nat) (cs : Array Value), vs = #[.pointer (some ⟨b, 0, none⟩)] ∧ H[id]? = some (.box b cells.length) ∧ w.heap[b]? = some (.cells cs t (0, 0)) ∧ cs.size = cells.length ∧ (∀ (i : Nat) (y : AV), cells[i]? = some y → Rep (Stab X H w) w H (cs.getD i undef) y) ∧ (t = BT → BOk b cs) := by
  obtain ⟨hn, hr⟩ := hr
  have h0 := hr 0 _ rfl
  have hv : vs = #[vs.getD 0 undef] := by
    apply Array.ext
    · simpa using hn
    · intro i h1 h2
      have h3 : i = 0 := by simp at h2; omega
      subst h3
      simp [Array.getD_eq_getD_getElem?, Array.getElem?_eq_getElem h1]
  generalize vs.getD 0 undef = v at h0 hv
  cases h0 with
  | ptr id off hH =>
    rename_i b n
    have hO := hm.obj _ _ _ hobj hH
    simp only [ObjAt] at hO
    obtain ⟨rfl, cs, h1, h2, h3, h4⟩ := hO
    exact ⟨b, cs, hv, hH, h1, h2, h3, h4⟩
theorem arr2 {cs : Array Value} (h : cs.size = 2) : cs = #[cs.getD 0 undef, cs.getD 1 undef] := by
 apply Array.ext
 ·simpa using h
 ·intro i h1 h2
  have : i < 2 := by simpa using h2
  rcases i with _ | _ | i
  ·simp [Array.getD_eq_getD_getElem?, Array.getElem?_eq_getElem h1]
  ·simp [Array.getD_eq_getD_getElem?, Array.getElem?_eq_getElem h1]
  ·omega
theorem cc_ok {id : Nat} (h : ccOk id m = true) : CallOkM Tryz.prog 64 [.ptr id 0] m (.tuple []) m := by
 refine ⟨⟨_, Tryz.func64, by kernel_rfl, by kernel_rfl⟩, fun X o w H vs hm hfr hnew hX hG hr => ?_⟩
 have rt : ∀ {S : Nat → Nat → Prop} {w : World} {H : List Hd}, Rep S w H (.tuple #[]) (.tuple []) := .tuple rfl fun i y hy => by simp at hy
 unfold ccOk at h
 split at h
 ·rename_i t x hobj
  have ht := of_decide_eq_true h
  subst ht
  obtain ⟨b, cs, rfl, hH, hb, hs, hc, hbk⟩ := arg_ptr hm hr hobj
  have hcs := arr2 hs
  have hbk := hbk rfl
  rcases hbk with h0 | h0
  ·rw [h0] at hcs
   have hcell : w.cell? ⟨b, 0, none⟩ = some (.pointer none) := by
    have : cs[0]? = some (.pointer none) := by rw [hcs]; rfl
    simp [World.cell?, hb, this]
   refine (cc_fresh b w hcell (by simp only [World.shape?, hb, hs]; rfl) (by simp [World.frozen?, hb])).mono fun e w' ⟨he, hw⟩ => ?_
   subst he hw
   rw [setCell_row hb]
   have hgo : Goes X w H (w.setRow b (cs.setIfInBounds 0 (.pointer (some ⟨b, 0, none⟩)))) H := goes_write hH fun o => rfl
   have hset := set_same hH
   have hobs : m.set id (.box bldT [.any, x]) = m := by
    apply List.ext_getElem?
    intro k
    rw [List.getElem?_set]
    split
    ·rename_i e
     subst e
     rw [hobj]
     have := (List.getElem?_eq_some_iff.1 hobj).1
     simp [this]
    ·rfl
   have hmem := hm.upd (id := id) (k' := .box b 2) (o' := .box bldT [.any, x]) (w' := w.setRow b (cs.setIfInBounds 0 (.pointer (some ⟨b, 0, none⟩)))) (by rw [show (Hd.box b 2) = .box b [AV.any, x].length from rfl, hset]; exact hgo) (by simp [World.setRow])
    (fun i k b' hi hk hb' => setRow_other w b b' _ (fun e => hi (hm.apart i id k _ b' hk hH hb' (by rw [e]; rfl)))) (fun b' hb' => by
     simp only [Hd.blk, Option.some.injEq] at hb'
     subst hb'
     exact ⟨by simpa [World.setRow] using hm.lt _ _ b hH rfl, fun i k hi hk hkb => hi (hm.apart i id k _ b hk hH hkb rfl)⟩) (by
     rw [show (Hd.box b 2) = .box b [AV.any, x].length from rfl, hset]
     simp only [ObjAt]
     refine ⟨by simp, _, setRow_heap w b cs _ bldT _ hb, by simpa using hs, fun i y hy => ?_, fun _ => .inr (by rw [hcs]; rfl)⟩
     match i, hy with
     | 0, hy => cases hy; exact .any _ _
     | 1, hy =>
      cases hy
      have : (cs.setIfInBounds 0 (Value.pointer (some ⟨b, 0, none⟩))).getD 1 undef = cs.getD 1 undef := by rw [hcs]; rfl
      rw [this]
      exact hgo.rep (hc 1 _ rfl))
   rw [show (Hd.box b 2) = .box b [AV.any, x].length from rfl, hset, hobs] at hmem
   exact ⟨_, H, rfl, rt, hmem, ⟨hfr.os, hfr.tape, hfr.output, by simpa [World.setRow] using hfr.size, fun k hk q => (setRow_other w b k _ (by have := hnew id _ b hH rfl; omega)).trans (hfr.block k hk q)⟩, hnew, hgo⟩
  ·rw [h0] at hcs
   have hcell : w.cell? ⟨b, 0, none⟩ = some (.pointer (some ⟨b, 0, none⟩)) := by
    have : cs[0]? = some (.pointer (some ⟨b, 0, none⟩)) := by rw [hcs]; rfl
    simp [World.cell?, hb, this]
   refine (cc_used b w hcell).mono fun e w' ⟨he, hw⟩ => ?_
   subst he hw
   exact ⟨_, H, rfl, rt, hm, hfr, hnew, .refl⟩
 ·cases h
theorem freeze_cell (a : Addr) (n b o : Nat) : (w.freeze a n).cell? ⟨b, o, none⟩ = w.cell? ⟨b, o, none⟩ := by
 unfold World.freeze
 split
 ·rfl
 ·unfold World.cell?
  simp only [Array.getElem?_modify]
  by_cases e : a.block = b
  ·rw [if_pos e]
   rcases h : w.heap[b]? with _ | ob
   ·rfl
   ·cases ob with
    | cells c t fz => obtain ⟨lo, hi⟩ := fz; rfl
    | _ => rfl
  ·rw [if_neg e]
theorem freeze_other (a : Addr) (n k : Nat) (hk : k ≠ a.block) : (w.freeze a n).heap[k]? = w.heap[k]? := by
 unfold World.freeze
 split
 ·rfl
 ·simp only [Array.getElem?_modify]
  rw [if_neg (fun e => hk e.symm)]
theorem freeze_size (a : Addr) (n : Nat) : (w.freeze a n).heap.size = w.heap.size := by
 unfold World.freeze
 split
 ·rfl
 ·simp
theorem drop_row {rid ver ver' sz sz' cap g used : Nat} {l : List AV} {wr wr' : Bool} {ap : Nat} (hm : MemAt X w m H) (hrow : m[rid]? = some (.row ver sz l wr ap)) (hH : H[rid]? = some (.row g cap sz' ver' used wr')) (hsz : w'.heap.size = w.heap.size)
    (hoth : ∀ k, (0 < cap → k ≠ g) → w'.heap[k]? = w.heap[k]?) (hcell : ∀ b o, w'.cell? ⟨b, o, none⟩ = w.cell? ⟨b, o, none⟩) :
    MemAt X w' (m.set rid (.row (ver + 1) sz [] wr ap)) (H.set rid (.row 0 0 sz (ver + 1) 0 wr)) ∧ Goes X w H w' (H.set rid (.row 0 0 sz (ver + 1) 0 wr)) := by
  have hO := hm.obj _ _ _ hrow hH
  simp only [ObjAt] at hO
  obtain ⟨rfl, rfl, rfl, -⟩ := hO
  have hlt : rid < H.length := (List.getElem?_eq_some_iff.1 hH).1
  have hgo : Goes X w H w' (H.set rid (.row 0 0 sz (ver' + 1) 0 wr')) := by
    refine ⟨fun i k hk => ?_, fun b o ⟨h1, h2, h3⟩ => ⟨⟨by omega, h2, fun ⟨i, k, hk, hmut⟩ => ?_⟩, hcell b o⟩⟩
    · by_cases hi : i = rid
      · subst hi
        rw [hH] at hk; injection hk with hk; subst hk
        exact ⟨_, List.getElem?_set_self hlt, .inr (.inl (by omega))⟩
      · exact ⟨k, by rw [List.getElem?_set_ne (Ne.symm hi)]; exact hk, k.le_refl⟩
    · by_cases hi : i = rid
      · subst hi
        rw [List.getElem?_set_self hlt] at hk
        injection hk with hk; subst hk
        simp only [Hd.mut] at hmut
        omega
      · rw [List.getElem?_set_ne (Ne.symm hi)] at hk
        exact h3 ⟨i, k, hk, hmut⟩
  refine ⟨hm.upd hgo (by omega) (fun i k b hi hk hb => ?_) (fun b hb => by simp [Hd.blk] at hb) ?_, hgo⟩
  · refine hoth b fun hc e => ?_
    subst e
    exact hi (hm.apart i rid k _ b hk hH hb (by simp [Hd.blk, hc]))
  · simp only [ObjAt]
    exact ⟨by simp, by simp, by simp, by simp, by simp, fun q => by omega, fun i x hx => by simp at hx, fun _ _ => by simp⟩
theorem fr_same {o : World} (hf : Fr (fun _ => False) o w) (hb : Below w.heap.size w w') (hs : o.heap.size ≤ w.heap.size) : Fr (fun _ => False) o w' :=
 hf.trans (Fr.of_below hb) fun _ q => q.elim
theorem bs_ok {id : Nat} {r : AV} {m' : List MObj} (h : bsM id m = some (r, m')) : CallOkM Tryz.prog 46 [.ptr id 0] m r m' := by
  refine ⟨⟨_, Tryz.func46, by kernel_rfl, by kernel_rfl⟩, fun X o w H vs hm hfr hnew hX hG hr => ?_⟩
  unfold bsM at h
  split at h
  · rename_i t c rid ver used len hobj
    split at h
    · rename_i v l wr ap hrow
      split at h
      · rename_i hcond
        obtain ⟨ht, hv, hu, hlen, hap, hmx⟩ := hcond
        subst ht hv hlen hap
        simp only [Option.map_eq_some_iff, Prod.mk.injEq] at h
        obtain ⟨bs, hbs, rfl, rfl⟩ := h
        have hl := bytesV_eq hbs
        obtain ⟨b, cs, rfl, hH, hb, hs, hc, -⟩ := arg_ptr hm hr hobj
        have hcs := arr2 hs
        have h1 := hc 1 _ rfl
        generalize cs.getD 1 undef = v1 at h1 hcs
        generalize cs.getD 0 undef = v0 at hcs
        subst hcs
        cases h1 with
        | row _ _ _ _ _ hs' hH' hle hvv =>
          rename_i g cap sz cver cused wr'
          have hO := hm.obj _ _ _ hrow hH'
          simp only [ObjAt] at hO
          obtain ⟨e1, e2, es, e3, e4, e5, e6, e7⟩ := hO
          obtain ⟨g1, g2, A, rfl, g3, g4, g4n⟩ := hvv e1.symm (by omega)
          simp only [Nat.sub_zero, Nat.zero_mul] at g3 g4 g4n hb
          subst e1 e2 es
          have hlen2 := hu.symm.trans (show l.length = bs.length by rw [hl, List.length_map])
          have fin : ∀ w' : World, w'.heap.size = w.heap.size → (∀ k, (0 < cap → k ≠ g) → w'.heap[k]? = w.heap[k]?) → (∀ b o, w'.cell? ⟨b, o, none⟩ = w.cell? ⟨b, o, none⟩) → w'.os = w.os → w'.tape = w.tape → w'.output = w.output →
              ∃ v H', Ending.returned (Value.string ⟨bs.toArray⟩) = .returned v ∧ Rep (Stab X H' w') w' H' v (strL bs) ∧ MemAt X w' (m.set rid (.row (cver + 1) 1 [] wr' u8F)) H' ∧ Fr (fun _ => False) o w' ∧ (∀ (i : Nat) (h : Hd) (b : Nat), H'[i]? = some h → h.blk = some b → o.heap.size ≤ b) ∧ Goes X w H w' H' := by
            intro w' q1 q2 q3 q4 q5 q6
            obtain ⟨r1, r2⟩ := drop_row hm hrow hH' q1 q2 q3
            refine ⟨_, _, rfl, .val _ _, r1, ⟨q4.trans hfr.os, q5.trans hfr.tape, q6.trans hfr.output, by have := hfr.size; omega, fun k hk q => (q2 k fun hcap e => ?_).trans (hfr.block k hk q)⟩, fun i h b' hi hb' => ?_, r2⟩
            · have := hnew _ _ g hH' (by simp [Hd.blk, hcap])
              omega
            · by_cases hi' : i = rid
              · subst hi'
                rw [List.getElem?_set_self (List.getElem?_eq_some_iff.1 hH').1] at hi
                injection hi with hi; subst hi
                simp [Hd.blk] at hb'
              · rw [List.getElem?_set_ne (Ne.symm hi')] at hi
                exact hnew i h b' hi hb'
          by_cases h0 : bs = []
          · subst h0
            simp only [List.length_nil] at hlen2
            subst hlen2
            by_cases hcap : cap = 0
            · subst hcap
              have hg := e7 (by unfold u8F; omega) rfl
              obtain rfl := g4n rfl hg
              refine (bs_nil b v0 w hb).mono fun e w' ⟨he, hw, hbel⟩ => ?_
              subst he
              exact fin w' (by rw [hw]) (fun k _ => by rw [hw]) (fun b o => by simp [World.cell?, hw]) hbel.os hbel.tape hbel.output
            · obtain rfl := g3 (by omega)
              refine (bs_room b g cap v0 w hcap hb).mono fun e w' ⟨he, hw, hbel⟩ => ?_
              subst he
              exact fin w' (by rw [hw]) (fun k _ => by rw [hw]) (fun b o => by simp [World.cell?, hw]) hbel.os hbel.tape hbel.output
          · have hpos : 0 < bs.length := List.length_pos_iff.2 h0
            have hcap : 0 < cap := by omega
            obtain rfl := g3 hcap
            obtain ⟨cur, t, fz, hh, hap, hfz, hsz, hold⟩ := e5 hcap
            have ht : t = 5 := hap.2 (by unfold u8F; omega)
            subst ht
            subst hlen2
            refine (bs_row b g cap v0 cur fz bs w h0 hb hh (by omega) hmx (by omega) fun j x hx => ?_).mono fun e w' ⟨he, hw⟩ => ?_
            · have hjl : j < bs.length := (List.getElem?_eq_some_iff.1 hx).1
              have hlx : l[j]? = some (u8A x) := by rw [hl, List.getElem?_map, hx]; rfl
              have := hold j _ 0 _ hlx rfl
              simp only [Nat.mul_one, Nat.add_zero] at this
              rw [cell_getD hh (by omega), rep_val this]
            · subst he hw
              exact fin _ (freeze_size (w := w.drew) _ _) (fun k hk => freeze_other (w := w.drew) _ _ _ (hk hcap)) (fun b o => freeze_cell (w := w.drew) _ _ _ _) (by unfold World.freeze; split <;> rfl) (by unfold World.freeze; split <;> rfl) (by unfold World.freeze; split <;> rfl)
      · cases h
    · cases h
  · cases h
end
end Go.Proofs.YtfedemnaeggokaaGreatDoor
end
section
namespace Go.Proofs.YtfedemnaeggokaaGreatDoor
set_option linter.unusedVariables false
set_option linter.unusedSimpArgs false
set_option maxRecDepth 100000
set_option maxHeartbeats 1000000
abbrev spB (p : Spec) : MObj := .box 31 [intA p.kind, .slice 2 (p.spans.map encSp), u8A p.sep, strL p.out, boolA p.only, boolA p.not]
structure BldC (X : CallF) : Prop where
 cc : ∀ (id : Nat) (m : List MObj), ccOk id m = true → (R FT X).m 64 [.ptr id 0] m = some (.tuple [], m)
 str : ∀ (id rid ver used : Nat) (m : List MObj) (c : AV) (l : List AV) (wr : Bool) (bs : Bs) (m' : List MObj), m[id]? = some (.box bldT [c, .row rid ver used 0 used]) → m[rid]? = some (.row ver 1 l wr 7) → l.length = used → bytesV l = some bs → used ≤ 9223372036854775807 → m.set rid (.row (ver + 1) 1 [] wr 7) = m' →
  (R FT X).m 46 [.ptr id 0] m = some (strL bs, m')
section
variable {X : CallF}
theorem selB_run (p : Spec) (hm : p.spans.length ≤ maxLen) (m n : Int) (h : m ≤ n) (L : List AV) (u : Nat) : (R FT X).m 62 [intA n, .ptr 2 0, .ptr 1 0] [spB p, spB p, .box 3 [intA (selK p.spans m)], .row 0 1 L true 7, .box 71 [.any, .row 3 0 u 0 u]] = some (boolA (slV p n), [spB p, spB p, .box 3 [intA (selK p.spans n)], .row 0 1 L true 7, .box 71 [.any, .row 3 0 u 0 u]]) := by
 have hm' := maxLen_i64
 have hk := selK_le p.spans
 have hmo := selK_mono p.spans h
 refine RM_wp ((Tr.inv (fun (k : Nat) ↦ St.mk [(0, intA n), (1, AV.ptr 2 0), (2, AV.ptr 1 0)] [spB p, spB p, MObj.box 3 [intA (↑k : Int)], MObj.row 0 1 L true (7 : Nat), MObj.box 71 [AV.any, AV.row 3 0 u (0 : Nat) u]]) (fun (k : Nat) ↦ selK p.spans m ≤ k ∧ k ≤ selK p.spans n) (fun (k : Nat) ↦ p.spans.length - k) fun (k : Nat) ↦ (Tr.k p.spans.length ((Tr.ix encSp p.spans k fun (x4 : Sp) ↦ (Tr.ix encSp p.spans k fun (x7 : Sp) ↦ Tr.nil.w.w.br (Tr.k p.spans.length (Tr.b true (Tr.ix encSp p.spans k fun (x : Sp) ↦ Tr.nil))).w).br (Tr.b false (Tr.k p.spans.length (Tr.b true (Tr.ix encSp p.spans k fun (x : Sp) ↦ Tr.nil))).w)).br (Tr.b false (Tr.b false (Tr.k p.spans.length (Tr.b false Tr.nil)).w)))).w).w) rfl ?_
 refine Eq.mpr (by kernel_rfl : _ = ((∃ (j1 : Nat), ((n = n ∧ True ∧ True ∧ True) ∧ (p.kind = p.kind ∧ List.map encSp p.spans = List.map encSp p.spans ∧ (↑p.sep.toNat : Int) = (↑p.sep.toNat : Int) ∧ p.out = p.out ∧ p.only = p.only ∧ p.not = p.not) ∧ (p.kind = p.kind ∧ List.map encSp p.spans = List.map encSp p.spans ∧ (↑p.sep.toNat : Int) = (↑p.sep.toNat : Int) ∧ p.out = p.out ∧ p.only = p.only ∧ p.not = p.not) ∧ (↑(selK p.spans m) : Int) = (↑j1 : Int) ∧ L = L ∧ True ∧ u = u ∧ (0 : Nat) = 0 ∧ u = u) ∧ selK p.spans m ≤ j1 ∧ j1 ≤ selK p.spans n) ∧ ∀ (k : Nat), selK p.spans m ≤ k ∧ k ≤ selK p.spans n → (List.map encSp p.spans).length = p.spans.length ∧ (decide ((↑k : Int) < (↑p.spans.length : Int)) = true → List.map encSp p.spans = List.map encSp p.spans ∧ (↑k : Int) = (↑k : Int) ∧ k < p.spans.length ∧ ∀ (x4 : Sp), p.spans[k]? = some x4 → ((!decide (x4.t = 0)) = true → List.map encSp p.spans = List.map encSp p.spans ∧ (↑k : Int) = (↑k : Int) ∧ k < p.spans.length ∧ ∀ (x7 : Sp), p.spans[k]? = some x7 → (decide (x7.t < n) = true → InI64 ((↑k : Int) + 1) ∧ ∃ (j10 : Nat), ((n = n ∧ True ∧ True ∧ True) ∧ (p.kind = p.kind ∧ List.map encSp p.spans = List.map encSp p.spans ∧ (↑p.sep.toNat : Int) = (↑p.sep.toNat
 : Int) ∧ p.out = p.out ∧ p.only = p.only ∧ p.not = p.not) ∧ (p.kind = p.kind ∧ List.map encSp p.spans = List.map encSp p.spans ∧ (↑p.sep.toNat : Int) = (↑p.sep.toNat : Int) ∧ p.out = p.out ∧ p.only = p.only ∧ p.not = p.not) ∧ (↑k : Int) + 1 = (↑j10 : Int) ∧ L = L ∧ True ∧ u = u ∧ (0 : Nat) = 0 ∧ u = u) ∧ (selK p.spans m ≤ j10 ∧ j10 ≤ selK p.spans n) ∧ p.spans.length - j10 < p.spans.length - k) ∧ (decide (x7.t < n) = false → (List.map encSp p.spans).length = p.spans.length ∧ decide ((↑k : Int) < (↑p.spans.length : Int)) = true ∧ List.map encSp p.spans = List.map encSp p.spans ∧ (↑k : Int) = (↑k : Int) ∧ k < p.spans.length ∧ ∀ (x12 : Sp), p.spans[k]? = some x12 → (!decide (x12.f ≤ n) == p.not) = slV p n ∧ (p.kind = p.kind ∧ List.map encSp p.spans = List.map encSp p.spans ∧ (↑p.sep.toNat : Int) = (↑p.sep.toNat : Int) ∧ p.out = p.out ∧ p.only = p.only ∧ p.not = p.not) ∧ (p.kind = p.kind ∧ List.map encSp p.spans = List.map encSp p.spans ∧ (↑p.sep.toNat : Int) = (↑p.sep.toNat : Int) ∧ p.out = p.out ∧ p.only = p.only ∧ p.not = p.not) ∧ (↑k : Int) = (↑(selK p.spans n) : Int) ∧ L = L ∧ True ∧ u = u ∧ (0 : Nat) = 0 ∧ u = u)) ∧ ((!decide (x4.t = 0)) = false → false
 = false ∧ (List.map encSp p.spans).length = p.spans.length ∧ decide ((↑k : Int) < (↑p.spans.length : Int)) = true ∧ List.map encSp p.spans = List.map encSp p.spans ∧ (↑k : Int) = (↑k : Int) ∧ k < p.spans.length ∧ ∀ (x15 : Sp), p.spans[k]? = some x15 → (!decide (x15.f ≤ n) == p.not) = slV p n ∧ (p.kind = p.kind ∧ List.map encSp p.spans = List.map encSp p.spans ∧ (↑p.sep.toNat : Int) = (↑p.sep.toNat : Int) ∧ p.out = p.out ∧ p.only = p.only ∧ p.not = p.not) ∧ (p.kind = p.kind ∧ List.map encSp p.spans = List.map encSp p.spans ∧ (↑p.sep.toNat : Int) = (↑p.sep.toNat : Int) ∧ p.out = p.out ∧ p.only = p.only ∧ p.not = p.not) ∧ (↑k : Int) = (↑(selK p.spans n) : Int) ∧ L = L ∧ True ∧ u = u ∧ (0 : Nat) = 0 ∧ u = u)) ∧ (decide ((↑k : Int) < (↑p.spans.length : Int)) = false → false = false ∧ false = false ∧ (List.map encSp p.spans).length = p.spans.length ∧ decide ((↑k : Int) < (↑p.spans.length : Int)) = false ∧ (!false == p.not) = slV p n ∧ (p.kind = p.kind ∧ List.map encSp p.spans = List.map encSp p.spans ∧ (↑p.sep.toNat : Int) = (↑p.sep.toNat : Int) ∧ p.out = p.out ∧ p.only = p.only ∧ p.not = p.not) ∧ (p.kind = p.kind ∧ List.map encSp p.spans = List.map encSp p.spans ∧ (↑p.sep.toNat :
 Int) = (↑p.sep.toNat : Int) ∧ p.out = p.out ∧ p.only = p.only ∧ p.not = p.not) ∧ (↑k : Int) = (↑(selK p.spans n) : Int) ∧ L = L ∧ True ∧ u = u ∧ (0 : Nat) = 0 ∧ u = u))) ?_
 refine ⟨⟨selK p.spans m, ⟨⟨rfl, trivial, trivial, trivial⟩, ⟨rfl, rfl, rfl, rfl, rfl, rfl⟩, ⟨rfl, rfl, rfl, rfl, rfl, rfl⟩, rfl, rfl, trivial, rfl, rfl, rfl⟩, ⟨(by omega), (by omega)⟩⟩, fun k => fun h2 => have h2a := h2.1; have h2b := h2.2; ⟨(by simp), fun h3_ => have h3 := dT h3_; ⟨rfl, rfl, (by omega), fun x4 => fun h5 => ⟨fun h6_ => have h6 := dnT h6_; ⟨rfl, rfl, (by omega), fun x7 => fun h8 => ⟨fun h9_ => have h9 := dT h9_; ⟨(by unfold InI64; omega), ⟨k + (1 : Nat), ⟨⟨rfl, trivial, trivial, trivial⟩, ⟨rfl, rfl, rfl, rfl, rfl, rfl⟩, ⟨rfl, rfl, rfl, rfl, rfl, rfl⟩, (by omega), rfl, trivial, rfl, rfl, rfl⟩, ⟨⟨(by omega), ?_⟩, (by omega)⟩⟩⟩, fun h11_ => have h11 := dF h11_; ⟨(by simp), h3_, rfl, rfl, (by omega), fun x12 => fun h13 => ⟨?_, ⟨rfl, rfl, rfl, rfl, rfl, rfl⟩, ⟨rfl, rfl, rfl, rfl, rfl, rfl⟩, ?_, rfl, trivial, rfl, rfl, rfl⟩⟩⟩⟩, fun h14_ => have h14 := dnF h14_; ⟨rfl, (by simp), h3_, rfl, rfl, (by omega), fun x15 => fun h16 => ⟨?_, ⟨rfl, rfl, rfl, rfl, rfl, rfl⟩, ⟨rfl, rfl, rfl, rfl, rfl, rfl⟩, ?_, rfl, trivial, rfl, rfl, rfl⟩⟩⟩⟩, fun h17_ => have h17 := dF h17_; ⟨rfl, rfl, (by simp), h17_, ?_, ⟨rfl, rfl, rfl, rfl, rfl, rfl⟩, ⟨rfl, rfl, rfl, rfl, rfl, rfl⟩, ?_, rfl, trivial, rfl, rfl, rfl⟩⟩⟩
 ·exact selK_more h2b h5 h6 (same_at h5 h8 ▸ h9)
 ·obtain rfl := same_at h5 h8
  obtain rfl := same_at h5 h13
  have e := selK_stop h2b h5 (.inr h11)
  rw [slV_y (e ▸ h5)]; rfl
 ·obtain rfl := same_at h5 h8
  rw [← selK_stop h2b h5 (.inr h11)]
 ·obtain rfl := same_at h5 h16
  have e := selK_stop h2b h5 (.inl h14)
  rw [slV_y (e ▸ h5)]; rfl
 ·rw [← selK_stop h2b h5 (.inl h14)]
 ·have e := selK_end h2b (by omega)
  rw [slV_n (by omega)]; rfl
 ·rw [← selK_end h2b (by omega)]
theorem sel_init (p : Spec) : (R FT X).m 40 [encSc p] [spB p] = some (.fn (.func 62) [] [.ptr 2 0, .ptr 1 0], [spB p, spB p, .box 3 [intA 0]]) := by
 refine RM_wp (Tr.nil) rfl ?_
 refine Eq.mpr (by kernel_rfl : _ = (AV.fn (Fn.func 62) [] [AV.ptr 2 0, AV.ptr 1 0] = AV.fn (Fn.func 62) [] [AV.ptr 2 0, AV.ptr 1 0] ∧ (p.kind = p.kind ∧ List.map encSp p.spans = List.map encSp p.spans ∧ (↑p.sep.toNat : Int) = (↑p.sep.toNat : Int) ∧ p.out = p.out ∧ p.only = p.only ∧ p.not = p.not) ∧ (p.kind = p.kind ∧ List.map encSp p.spans = List.map encSp p.spans ∧ (↑p.sep.toNat : Int) = (↑p.sep.toNat : Int) ∧ p.out = p.out ∧ p.only = p.only ∧ p.not = p.not) ∧ (0 : Int) = 0)) ?_
 refine ⟨rfl, ⟨rfl, rfl, rfl, rfl, rfl, rfl⟩, ⟨rfl, rfl, rfl, rfl, rfl, rfl⟩, rfl⟩
theorem bytes_run (hB : BldC X) (p : Spec) (hn : norB p.spans = true) (hm : p.spans.length ≤ maxLen) (s : Bs) (hs : s.length ≤ 100000000) (hs2 : s.length * (p.out.length + 1) ≤ 10000000000000) : (R FT X).f 38 [encSc p, strL s] = some (strL (byK p s s.length)) := by
 have cc := hB.cc
 have bs := hB.str
 have si := sel_init (X := X) p
 have sr := selB_run (X := X) p hm
 have hm' := maxLen_le
 refine R_wp (Tr.cm (AV.fn (Fn.func 62) [] [AV.ptr 2 0, AV.ptr 1 0]) [MObj.box 31 [intA p.kind, AV.slice 2 (List.map encSp p.spans), u8A p.sep, strL p.out, boolA p.only, boolA p.not], MObj.box 31 [intA p.kind, AV.slice 2 (List.map encSp p.spans), u8A p.sep, strL p.out, boolA p.only, boolA p.not], MObj.box 3 [intA 0]] (Tr.inv (fun (k : Nat) ↦ St.mk [(1, strL s), (2, AV.ptr 0 0), (5, AV.fn (Fn.func 62) [] [AV.ptr 2 0, AV.ptr 1 0]), (6, AV.ptr 4 0), (7, boolA (decide ((0 : Nat) < byL p k))), (8, boolA (decide (byL p k < k))), (13, intA (↑(List.length s) : Int)), (14, intA (↑k : Int))] [spB p, spB p, MObj.box 3 [intA (↑(selK p.spans (↑k : Int)) : Int)], MObj.row 0 1 (List.map u8A (byK p s k)) true (7 : Nat), MObj.box 71 [AV.any, AV.row 3 0 (List.length (byK p s k)) (0 : Nat) (List.length (byK p s k))]]) (fun (k : Nat) ↦ k ≤ List.length s) (fun (k : Nat) ↦ List.length s - k) fun (k : Nat) ↦ (Tr.cm (boolA (slV p ((↑k : Int)
 + (1 : Int)))) [MObj.box 31 [intA p.kind, AV.slice 2 (List.map encSp p.spans), u8A p.sep, strL p.out, boolA p.only, boolA p.not], MObj.box 31 [intA p.kind, AV.slice 2 (List.map encSp p.spans), u8A p.sep, strL p.out, boolA p.only, boolA p.not], MObj.box 3 [intA (↑(selK p.spans ((↑k : Int) + 1)) : Int)], MObj.row 0 1 (List.map u8A (byK p s k)) true (7 : Nat), MObj.box 71 [AV.any, AV.row 3 0 (List.length (byK p s k)) (0 : Nat) (List.length (byK p s k))]] (Tr.nil.w.br (((Tr.cm (AV.tuple []) [MObj.box 31 [intA p.kind, AV.slice 2 (List.map encSp p.spans), u8A p.sep, strL p.out, boolA p.only, boolA p.not], MObj.box 31 [intA p.kind, AV.slice 2 (List.map encSp p.spans), u8A p.sep, strL p.out, boolA p.only, boolA p.not], MObj.box 3 [intA (↑(selK p.spans ((↑k : Int) + 1)) : Int)], MObj.row 0 1 (List.map u8A (byK p s k)) true (7 : Nat), MObj.box 71 [AV.any, AV.row 3 0 (List.length (byK p s k)) (0 : Nat) (List.length (byK p s k))]] (Tr.k (List.length (byK p s k) + List.length p.out) (Tr.y k fun (c9 : UInt8) ↦ (Tr.cm (AV.tuple
 []) [MObj.box 31 [intA p.kind, AV.slice 2 (List.map encSp p.spans), u8A p.sep, strL p.out, boolA p.only, boolA p.not], MObj.box 31 [intA p.kind, AV.slice 2 (List.map encSp p.spans), u8A p.sep, strL p.out, boolA p.only, boolA p.not], MObj.box 3 [intA (↑(selK p.spans ((↑k : Int) + 1)) : Int)], MObj.row 0 1 (List.map u8A (byK p s k) ++ List.map u8A p.out) true (7 : Nat), MObj.box 71 [AV.any, AV.row 3 0 (List.length (byK p s k) + List.length p.out) (0 : Nat) (List.length (byK p s k) + List.length p.out)]] (Tr.k (List.length (byK p s k) + List.length p.out + 1) Tr.nil.w)).inl))).inl.br (Tr.y k fun (c13 : UInt8) ↦ (Tr.cm (AV.tuple []) [MObj.box 31 [intA p.kind, AV.slice 2 (List.map encSp p.spans), u8A p.sep, strL p.out, boolA p.only, boolA p.not], MObj.box 31 [intA p.kind, AV.slice 2 (List.map encSp p.spans), u8A p.sep, strL p.out, boolA p.only, boolA p.not], MObj.box 3 [intA (↑(selK p.spans ((↑k : Int) + 1)) : Int)], MObj.row 0 1 (List.map u8A (byK p s k)) true (7 : Nat), MObj.box 71 [AV.any, AV.row 3 0 (List.length
 (byK p s k)) (0 : Nat) (List.length (byK p s k))]] (Tr.k (List.length (byK p s k) + 1) Tr.nil.w)).inl)).w.br (Tr.b false (Tr.y k fun (c17 : UInt8) ↦ (Tr.cm (AV.tuple []) [MObj.box 31 [intA p.kind, AV.slice 2 (List.map encSp p.spans), u8A p.sep, strL p.out, boolA p.only, boolA p.not], MObj.box 31 [intA p.kind, AV.slice 2 (List.map encSp p.spans), u8A p.sep, strL p.out, boolA p.only, boolA p.not], MObj.box 3 [intA (↑(selK p.spans ((↑k : Int) + 1)) : Int)], MObj.row 0 1 (List.map u8A (byK p s k)) true (7 : Nat), MObj.box 71 [AV.any, AV.row 3 0 (List.length (byK p s k)) (0 : Nat) (List.length (byK p s k))]] (Tr.k (List.length (byK p s k) + 1) Tr.nil.w)).inl)).w).w).w).w.w.w.br (Tr.cm (strL (byK p s k)) [MObj.box 31 [intA p.kind, AV.slice 2 (List.map encSp p.spans), u8A p.sep, strL p.out, boolA p.only, boolA p.not], MObj.box 31 [intA p.kind, AV.slice 2 (List.map encSp p.spans), u8A p.sep, strL p.out, boolA p.only, boolA p.not], MObj.box 3 [intA (↑(selK p.spans (↑k : Int)) : Int)], MObj.row 1 1 [] true (7 : Nat), MObj.box 71
 [AV.any, AV.row 3 0 (List.length (byK p s k)) (0 : Nat) (List.length (byK p s k))]] Tr.nil)).w) rfl ?_
 refine Eq.mpr (by kernel_rfl : _ = ((R FT X).m 40 [encSc p] [spB p] = some (AV.fn (Fn.func 62) [] [AV.ptr 2 0, AV.ptr 1 0], [spB p, spB p, MObj.box 3 [intA 0]]) ∧ (∃ (j1 : Nat), ((s = s ∧ True ∧ AV.fn (Fn.func 62) [] [AV.ptr 2 0, AV.ptr 1 0] = AV.fn (Fn.func 62) [] [AV.ptr 2 0, AV.ptr 1 0] ∧ True ∧ false = decide ((0 : Nat) < byL p j1) ∧ false = decide (byL p j1 < j1) ∧ (↑(List.length s) : Int) = (↑(List.length s) : Int) ∧ (0 : Int) = (↑j1 : Int) ∧ True) ∧ (p.kind = p.kind ∧ List.map encSp p.spans = List.map encSp p.spans ∧ (↑p.sep.toNat : Int) = (↑p.sep.toNat : Int) ∧ p.out = p.out ∧ p.only = p.only ∧ p.not = p.not) ∧ (p.kind = p.kind ∧ List.map encSp p.spans = List.map encSp p.spans ∧ (↑p.sep.toNat : Int) = (↑p.sep.toNat : Int) ∧ p.out = p.out ∧ p.only = p.only ∧ p.not = p.not) ∧ (0 : Int) = (↑(selK p.spans (↑j1 : Int)) : Int) ∧ [] = List.map u8A (byK p s j1) ∧ True ∧ (0 : Nat) = List.length (byK p s j1) ∧ (0 : Nat) = 0 ∧ (0 : Nat) = List.length (byK p s j1)) ∧ j1 ≤ List.length s) ∧ ∀ (k : Nat), k ≤ List.length s → (decide ((↑k : Int) < (↑(List.length
 s) : Int)) = true → InI64 ((↑k : Int) + 1) ∧ (R FT X).m 62 [intA ((↑k : Int) + 1), AV.ptr 2 0, AV.ptr 1 0] [spB p, spB p, MObj.box 3 [intA (↑(selK p.spans (↑k : Int)) : Int)], MObj.row 0 1 (List.map u8A (byK p s k)) true (7 : Nat), MObj.box 71 [AV.any, AV.row 3 0 (List.length (byK p s k)) (0 : Nat) (List.length (byK p s k))]] = some (boolA (slV p ((↑k : Int) + 1)), [spB p, spB p, MObj.box 3 [intA (↑(selK p.spans ((↑k : Int) + 1)) : Int)], MObj.row 0 1 (List.map u8A (byK p s k)) true (7 : Nat), MObj.box 71 [AV.any, AV.row 3 0 (List.length (byK p s k)) (0 : Nat) (List.length (byK p s k))]]) ∧ ((!slV p ((↑k : Int) + 1)) = true → InI64 ((↑k : Int) + 1) ∧ ∃ (j5 : Nat), ((s = s ∧ True ∧ AV.fn (Fn.func 62) [] [AV.ptr 2 0, AV.ptr 1 0] = AV.fn (Fn.func 62) [] [AV.ptr 2 0, AV.ptr 1 0] ∧ True ∧ decide ((0 : Nat) < byL p k) = decide ((0 : Nat) < byL p j5) ∧ true = decide (byL p j5 < j5) ∧ (↑(List.length s) : Int) =
 (↑(List.length s) : Int) ∧ (↑k : Int) + 1 = (↑j5 : Int) ∧ True) ∧ (p.kind = p.kind ∧ List.map encSp p.spans = List.map encSp p.spans ∧ (↑p.sep.toNat : Int) = (↑p.sep.toNat : Int) ∧ p.out = p.out ∧ p.only = p.only ∧ p.not = p.not) ∧ (p.kind = p.kind ∧ List.map encSp p.spans = List.map encSp p.spans ∧ (↑p.sep.toNat : Int) = (↑p.sep.toNat : Int) ∧ p.out = p.out ∧ p.only = p.only ∧ p.not = p.not) ∧ (↑(selK p.spans ((↑k : Int) + 1)) : Int) = (↑(selK p.spans (↑j5 : Int)) : Int) ∧ List.map u8A (byK p s k) = List.map u8A (byK p s j5) ∧ True ∧ List.length (byK p s k) = List.length (byK p s j5) ∧ (0 : Nat) = 0 ∧ List.length (byK p s k) = List.length (byK p s j5)) ∧ j5 ≤ List.length s ∧ List.length s - j5 < List.length s - k) ∧ ((!slV p ((↑k : Int) + 1)) = false → (decide ((0 : Nat) < byL p k) = true → (decide (byL p k < k) = true → (R FT X).m 64 [AV.ptr 4 0] [MObj.box 31 [intA p.kind, AV.slice 2 (List.map encSp p.spans), u8A p.sep, strL p.out, boolA p.only, boolA p.not], MObj.box 31 [intA p.kind, AV.slice 2 (List.map encSp p.spans), u8A p.sep, strL p.out, boolA p.only, boolA p.not], MObj.box 3 [intA
 (↑(selK p.spans ((↑k : Int) + 1)) : Int)], MObj.row 0 1 (List.map u8A (byK p s k)) true (7 : Nat), MObj.box 71 [AV.any, AV.row 3 0 (List.length (byK p s k)) (0 : Nat) (List.length (byK p s k))]] = some (AV.tuple [], [MObj.box 31 [intA p.kind, AV.slice 2 (List.map encSp p.spans), u8A p.sep, strL p.out, boolA p.only, boolA p.not], MObj.box 31 [intA p.kind, AV.slice 2 (List.map encSp p.spans), u8A p.sep, strL p.out, boolA p.only, boolA p.not], MObj.box 3 [intA (↑(selK p.spans ((↑k : Int) + 1)) : Int)], MObj.row 0 1 (List.map u8A (byK p s k)) true (7 : Nat), MObj.box 71 [AV.any, AV.row 3 0 (List.length (byK p s k)) (0 : Nat) (List.length (byK p s k))]]) ∧ (List.map u8A (byK p s k)).length = List.length (byK p s k) ∧ (0 : Nat) = 0 ∧ List.length (byK p s k) = List.length (byK p s k) ∧ List.length (byK p s k) + List.length p.out = List.length (byK p s k) + List.length p.out ∧ List.length (byK p s k) + List.length p.out ≤ 140737488355328 ∧ List.length (byK p s k) + List.length p.out ≤ 9223372036854775807 ∧ (↑k : Int) = (↑k : Int) ∧ k
 < List.length s ∧ ∀ (c9 : UInt8), s[k]? = some c9 → (R FT X).m 64 [AV.ptr 4 0] [MObj.box 31 [intA p.kind, AV.slice 2 (List.map encSp p.spans), u8A p.sep, strL p.out, boolA p.only, boolA p.not], MObj.box 31 [intA p.kind, AV.slice 2 (List.map encSp p.spans), u8A p.sep, strL p.out, boolA p.only, boolA p.not], MObj.box 3 [intA (↑(selK p.spans ((↑k : Int) + 1)) : Int)], MObj.row 0 1 (List.map u8A (byK p s k) ++ List.map u8A p.out) true (7 : Nat), MObj.box 71 [AV.any, AV.row 3 0 (List.length (byK p s k) + List.length p.out) (0 : Nat) (List.length (byK p s k) + List.length p.out)]] = some (AV.tuple [], [MObj.box 31 [intA p.kind, AV.slice 2 (List.map encSp p.spans), u8A p.sep, strL p.out, boolA p.only, boolA p.not], MObj.box 31 [intA p.kind, AV.slice 2 (List.map encSp p.spans), u8A p.sep, strL p.out, boolA p.only, boolA p.not], MObj.box 3 [intA (↑(selK p.spans ((↑k : Int) + 1)) : Int)], MObj.row 0 1 (List.map u8A (byK p s k) ++ List.map u8A p.out) true (7 : Nat), MObj.box 71 [AV.any, AV.row 3 0
 (List.length (byK p s k) + List.length p.out) (0 : Nat) (List.length (byK p s k) + List.length p.out)]]) ∧ (List.map u8A (byK p s k) ++ List.map u8A p.out).length = List.length (byK p s k) + List.length p.out ∧ (0 : Nat) = 0 ∧ List.length (byK p s k) + List.length p.out = List.length (byK p s k) + List.length p.out ∧ List.length (byK p s k) + List.length p.out + [u8A c9].length = List.length (byK p s k) + List.length p.out + 1 ∧ (List.length (byK p s k) + List.length p.out + 1) * 1 ≤ (140737488355328 : Nat) ∧ List.length (byK p s k) + List.length p.out + 1 ≤ (9223372036854775807 : Nat) ∧ InI64 ((↑k : Int) + 1) ∧ ∃ (j11 : Nat), ((s = s ∧ True ∧ AV.fn (Fn.func 62) [] [AV.ptr 2 0, AV.ptr 1 0] = AV.fn (Fn.func 62) [] [AV.ptr 2 0, AV.ptr 1 0] ∧ True ∧ true = decide ((0 : Nat) < byL p j11) ∧ false = decide (byL p j11 < j11) ∧ (↑(List.length s) : Int) = (↑(List.length s) : Int) ∧ (↑k : Int) + 1 = (↑j11 : Int) ∧ True) ∧ (p.kind = p.kind ∧ List.map encSp p.spans = List.map encSp p.spans ∧ (↑p.sep.toNat : Int) = (↑p.sep.toNat : Int) ∧ p.out = p.out ∧ p.only
 = p.only ∧ p.not = p.not) ∧ (p.kind = p.kind ∧ List.map encSp p.spans = List.map encSp p.spans ∧ (↑p.sep.toNat : Int) = (↑p.sep.toNat : Int) ∧ p.out = p.out ∧ p.only = p.only ∧ p.not = p.not) ∧ (↑(selK p.spans ((↑k : Int) + 1)) : Int) = (↑(selK p.spans (↑j11 : Int)) : Int) ∧ List.map u8A (byK p s k) ++ List.map u8A p.out ++ [u8A c9] = List.map u8A (byK p s j11) ∧ True ∧ List.length (byK p s k) + List.length p.out + 1 = List.length (byK p s j11) ∧ (0 : Nat) = 0 ∧ List.length (byK p s k) + List.length p.out + 1 = List.length (byK p s j11)) ∧ j11 ≤ List.length s ∧ List.length s - j11 < List.length s - k) ∧ (decide (byL p k < k) = false → (↑k : Int) = (↑k : Int) ∧ k < List.length s ∧ ∀ (c13 : UInt8), s[k]? = some c13 → (R FT X).m 64 [AV.ptr 4 0] [MObj.box 31 [intA p.kind, AV.slice 2 (List.map encSp p.spans), u8A p.sep, strL p.out, boolA p.only, boolA p.not], MObj.box 31 [intA p.kind, AV.slice 2 (List.map encSp p.spans), u8A p.sep, strL p.out, boolA p.only, boolA p.not], MObj.box 3 [intA (↑(selK p.spans ((↑k : Int) + 1)) : Int)], MObj.row 0 1 (List.map u8A (byK p s k))
 true (7 : Nat), MObj.box 71 [AV.any, AV.row 3 0 (List.length (byK p s k)) (0 : Nat) (List.length (byK p s k))]] = some (AV.tuple [], [MObj.box 31 [intA p.kind, AV.slice 2 (List.map encSp p.spans), u8A p.sep, strL p.out, boolA p.only, boolA p.not], MObj.box 31 [intA p.kind, AV.slice 2 (List.map encSp p.spans), u8A p.sep, strL p.out, boolA p.only, boolA p.not], MObj.box 3 [intA (↑(selK p.spans ((↑k : Int) + 1)) : Int)], MObj.row 0 1 (List.map u8A (byK p s k)) true (7 : Nat), MObj.box 71 [AV.any, AV.row 3 0 (List.length (byK p s k)) (0 : Nat) (List.length (byK p s k))]]) ∧ (List.map u8A (byK p s k)).length = List.length (byK p s k) ∧ (0 : Nat) = 0 ∧ List.length (byK p s k) = List.length (byK p s k) ∧ List.length (byK p s k) + [u8A c13].length = List.length (byK p s k) + 1 ∧ (List.length (byK p s k) + 1) * 1 ≤ (140737488355328 : Nat) ∧ List.length (byK p s k) + 1 ≤ (9223372036854775807 : Nat) ∧ InI64 ((↑k : Int) + 1) ∧ ∃ (j15 : Nat), ((s = s ∧ True ∧ AV.fn (Fn.func 62) [] [AV.ptr 2 0, AV.ptr 1 (0
 : Nat)] = AV.fn (Fn.func 62) [] [AV.ptr 2 0, AV.ptr 1 0] ∧ True ∧ true = decide ((0 : Nat) < byL p j15) ∧ false = decide (byL p j15 < j15) ∧ (↑(List.length s) : Int) = (↑(List.length s) : Int) ∧ (↑k : Int) + 1 = (↑j15 : Int) ∧ True) ∧ (p.kind = p.kind ∧ List.map encSp p.spans = List.map encSp p.spans ∧ (↑p.sep.toNat : Int) = (↑p.sep.toNat : Int) ∧ p.out = p.out ∧ p.only = p.only ∧ p.not = p.not) ∧ (p.kind = p.kind ∧ List.map encSp p.spans = List.map encSp p.spans ∧ (↑p.sep.toNat : Int) = (↑p.sep.toNat : Int) ∧ p.out = p.out ∧ p.only = p.only ∧ p.not = p.not) ∧ (↑(selK p.spans ((↑k : Int) + 1)) : Int) = (↑(selK p.spans (↑j15 : Int)) : Int) ∧ List.map u8A (byK p s k) ++ [u8A c13] = List.map u8A (byK p s j15) ∧ True ∧ List.length (byK p s k) + 1 = List.length (byK p s j15) ∧ (0 : Nat) = 0 ∧ List.length (byK p s k) + 1 = List.length (byK p s j15)) ∧ j15 ≤ List.length s ∧ List.length s - j15 < List.length s - k)) ∧ (decide ((0 : Nat) < byL p k) = false → false = false ∧ (↑k : Int) = (↑k : Int) ∧ k < List.length s ∧ ∀ (c17 : UInt8), s[k]? = some c17 → (R FT X).m 64 [AV.ptr 4 0] [MObj.box
 (31 : Nat) [intA p.kind, AV.slice 2 (List.map encSp p.spans), u8A p.sep, strL p.out, boolA p.only, boolA p.not], MObj.box 31 [intA p.kind, AV.slice 2 (List.map encSp p.spans), u8A p.sep, strL p.out, boolA p.only, boolA p.not], MObj.box 3 [intA (↑(selK p.spans ((↑k : Int) + 1)) : Int)], MObj.row 0 1 (List.map u8A (byK p s k)) true (7 : Nat), MObj.box 71 [AV.any, AV.row 3 0 (List.length (byK p s k)) (0 : Nat) (List.length (byK p s k))]] = some (AV.tuple [], [MObj.box 31 [intA p.kind, AV.slice 2 (List.map encSp p.spans), u8A p.sep, strL p.out, boolA p.only, boolA p.not], MObj.box 31 [intA p.kind, AV.slice 2 (List.map encSp p.spans), u8A p.sep, strL p.out, boolA p.only, boolA p.not], MObj.box 3 [intA (↑(selK p.spans ((↑k : Int) + 1)) : Int)], MObj.row 0 1 (List.map u8A (byK p s k)) true (7 : Nat), MObj.box 71 [AV.any, AV.row 3 0 (List.length (byK p s k)) (0 : Nat) (List.length (byK p s k))]]) ∧ (List.map u8A (byK p s k)).length = List.length (byK p s k) ∧ (0 : Nat) = 0 ∧ List.length (byK p s k) = List.length (byK
 p s k) ∧ List.length (byK p s k) + [u8A c17].length = List.length (byK p s k) + 1 ∧ (List.length (byK p s k) + 1) * 1 ≤ (140737488355328 : Nat) ∧ List.length (byK p s k) + 1 ≤ (9223372036854775807 : Nat) ∧ InI64 ((↑k : Int) + 1) ∧ ∃ (j19 : Nat), ((s = s ∧ True ∧ AV.fn (Fn.func 62) [] [AV.ptr 2 0, AV.ptr 1 0] = AV.fn (Fn.func 62) [] [AV.ptr 2 0, AV.ptr 1 0] ∧ True ∧ true = decide ((0 : Nat) < byL p j19) ∧ false = decide (byL p j19 < j19) ∧ (↑(List.length s) : Int) = (↑(List.length s) : Int) ∧ (↑k : Int) + 1 = (↑j19 : Int) ∧ True) ∧ (p.kind = p.kind ∧ List.map encSp p.spans = List.map encSp p.spans ∧ (↑p.sep.toNat : Int) = (↑p.sep.toNat : Int) ∧ p.out = p.out ∧ p.only = p.only ∧ p.not = p.not) ∧ (p.kind = p.kind ∧ List.map encSp p.spans = List.map encSp p.spans ∧ (↑p.sep.toNat : Int) = (↑p.sep.toNat : Int) ∧ p.out = p.out ∧ p.only = p.only ∧ p.not = p.not) ∧ (↑(selK p.spans ((↑k : Int) + 1)) : Int) = (↑(selK p.spans (↑j19 : Int)) : Int) ∧ List.map u8A (byK p s k) ++ [u8A c17] = List.map u8A (byK p s j19) ∧ True ∧ List.length (byK p s k) + 1
 = List.length (byK p s j19) ∧ (0 : Nat) = 0 ∧ List.length (byK p s k) + 1 = List.length (byK p s j19)) ∧ j19 ≤ List.length s ∧ List.length s - j19 < List.length s - k))) ∧ (decide ((↑k : Int) < (↑(List.length s) : Int)) = false → (R FT X).m 46 [AV.ptr 4 0] [MObj.box 31 [intA p.kind, AV.slice 2 (List.map encSp p.spans), u8A p.sep, strL p.out, boolA p.only, boolA p.not], MObj.box 31 [intA p.kind, AV.slice 2 (List.map encSp p.spans), u8A p.sep, strL p.out, boolA p.only, boolA p.not], MObj.box 3 [intA (↑(selK p.spans (↑k : Int)) : Int)], MObj.row 0 1 (List.map u8A (byK p s k)) true (7 : Nat), MObj.box 71 [AV.any, AV.row 3 0 (List.length (byK p s k)) (0 : Nat) (List.length (byK p s k))]] = some (strL (byK p s k), [MObj.box 31 [intA p.kind, AV.slice 2 (List.map encSp p.spans), u8A p.sep, strL p.out, boolA p.only, boolA p.not], MObj.box 31 [intA p.kind, AV.slice 2 (List.map encSp p.spans), u8A p.sep, strL p.out, boolA p.only, boolA p.not], MObj.box 3 [intA (↑(selK p.spans (↑k : Int)) : Int)], MObj.row 1 1 [] true
 (7 : Nat), MObj.box 71 [AV.any, AV.row 3 0 (List.length (byK p s k)) (0 : Nat) (List.length (byK p s k))]]) ∧ byK p s k = byK p s (List.length s)))) ?_
 refine ⟨(si), ⟨(0 : Nat), ⟨⟨rfl, trivial, rfl, trivial, rfl, rfl, rfl, (by omega), trivial⟩, ⟨rfl, rfl, rfl, rfl, rfl, rfl⟩, ⟨rfl, rfl, rfl, rfl, rfl, rfl⟩, ?_, rfl, trivial, rfl, rfl, rfl⟩, (by omega)⟩, fun k => fun h2 => ⟨fun h3_ => have h3 := dT h3_; ⟨(by unfold InI64; omega), (sr _ _ (by exact (by omega)) _ _), fun h4_ => have h4 := nT h4_; ⟨(by unfold InI64; omega), ⟨k + (1 : Nat), ⟨⟨rfl, trivial, rfl, trivial, ?_, ?_, rfl, (by omega), trivial⟩, ⟨rfl, rfl, rfl, rfl, rfl, rfl⟩, ⟨rfl, rfl, rfl, rfl, rfl, rfl⟩, rfl, ?_, trivial, ?_, rfl, ?_⟩, ⟨(by omega), (by omega)⟩⟩⟩, fun h6_ => have h6 := nF h6_; ⟨fun h7_ => have h7 := dT h7_; ⟨fun h8_ => have h8 := dT h8_; ⟨(cc _ _ (by exact rfl)), (by simp), rfl, rfl, rfl, ?_, ?_, rfl, (by omega), fun c9 => fun h10 => ⟨(cc _ _ (by exact rfl)), (by simp), rfl, rfl, rfl, ?_, ?_, (by unfold InI64; omega), ⟨k + (1 : Nat), ⟨⟨rfl, trivial, rfl, trivial, ?_, ?_, rfl, (by omega), trivial⟩, ⟨rfl, rfl, rfl, rfl, rfl, rfl⟩, ⟨rfl, rfl, rfl, rfl, rfl, rfl⟩, rfl, ?_, trivial, ?_, rfl, ?_⟩, ⟨(by omega), (by omega)⟩⟩⟩⟩, fun h12_ => have h12 := dF h12_; ⟨rfl, (by omega), fun c13 => fun h14 => ⟨(cc _ _ (by exact rfl)), (by simp), rfl, rfl, rfl, ?_, ?_, (by unfold InI64; omega), ⟨k + (1 : Nat), ⟨⟨rfl, trivial, rfl, trivial, ?_, ?_, rfl, (by omega), trivial⟩, ⟨rfl, rfl, rfl, rfl, rfl, rfl⟩, ⟨rfl, rfl, rfl, rfl, rfl, rfl⟩, rfl, ?_, trivial, ?_, rfl, ?_⟩, ⟨(by omega), (by omega)⟩⟩⟩⟩⟩, fun h16_ => have h16 := dF h16_; ⟨rfl, rfl, (by omega), fun c17 => fun h18 => ⟨(cc _ _ (by exact rfl)), (by simp), rfl, rfl, rfl, ?_, ?_, (by unfold InI64; omega), ⟨k + (1 : Nat), ⟨⟨rfl, trivial, rfl, trivial, ?_, ?_, rfl, (by omega), trivial⟩, ⟨rfl, rfl, rfl, rfl, rfl, rfl⟩, ⟨rfl, rfl, rfl, rfl, rfl, rfl⟩, rfl, ?_, trivial, ?_, rfl, ?_⟩, ⟨(by omega), (by omega)⟩⟩⟩⟩⟩⟩, fun h20_ => have h20 := dF h20_; ⟨(bs _ _ _ _ _ _ _ _ _ _ (by exact rfl) (by exact rfl) (by exact (by simp)) (by exact (bytesV_map _)) ?_ (by exact rfl)), ?_⟩⟩⟩
 ·rw [selK_0 hn (by omega)]; rfl
 all_goals (try have hb := byK_bd hs2 k h2)
 all_goals (try have hb1 := byK_bd1 hs2 k (by omega))
 all_goals (try have hl := byL_le p k)
 all_goals (try have n4 := slV_b hn h4)
 all_goals (try have y4 := slV_b hn h6)
 ·rw [byL_n n4]
 ·rw [byL_n n4]; exact (decide_eq_true (by omega)).symm
 iterate 3 · rw [byK_n n4]
 iterate 4 · omega
 ·rw [byL_y y4]; exact (decide_eq_true (by omega)).symm
 ·rw [byL_y y4]; exact (decide_eq_false (by omega)).symm
 ·rw [byK_g y4 h7 h8, take1 h10, List.map_append, List.map_append]; rfl
 iterate 2 · rw [byK_g y4 h7 h8, take1 h10]; simp; omega
 iterate 2 · omega
 ·rw [byL_y y4]; exact (decide_eq_true (by omega)).symm
 ·rw [byL_y y4]; exact (decide_eq_false (by omega)).symm
 ·rw [byK_y y4 (fun q => h12 q.2), take1 h14, List.map_append]; rfl
 iterate 2 · rw [byK_y y4 (fun q => h12 q.2), take1 h14]; simp
 iterate 2 · omega
 ·rw [byL_y y4]; exact (decide_eq_true (by omega)).symm
 ·rw [byL_y y4]; exact (decide_eq_false (by omega)).symm
 ·rw [byK_y y4 (fun q => h16 q.1), take1 h18, List.map_append]; rfl
 iterate 2 · rw [byK_y y4 (fun q => h16 q.1), take1 h18]; simp
 ·omega
 ·obtain rfl : k = s.length := by omega
  rfl
theorem bytes2_run (p : Spec) (hm : p.spans.length ≤ maxLen) (s : Bs) (hs : s.length ≤ 100000000) (hs2 : s.length * (p.out.length + 1) ≤ 10000000000000) : (R FT X).f 42 [encSc p, strL s] = some (strL (byK p s s.length)) := by
 have hr := hasB_run (X := X)
 have hm' := maxLen_le
 refine R_wp ((Tr.inv (fun (k : Nat × Bs × Nat) ↦ St.mk [(1, strL s), (2, AV.ptr 0 0), (5, strL k.snd.fst), (6, intA (↑k.snd.snd : Int)), (7, intA (↑(k.fst + 1) : Int))] [spB p]) (fun (k : Nat × Bs × Nat) ↦ k.fst ≤ List.length s ∧ k.snd.fst = byK p s k.fst ∧ k.snd.snd = byL p k.fst) (fun (k : Nat × Bs × Nat) ↦ List.length s - k.fst) fun (k : Nat × Bs × Nat) ↦ ((Tr.c (boolA (hasB p.spans (↑(k.fst + 1) : Int))) (Tr.nil.w.br (((Tr.sl ((↑(k.fst + 1) : Int) - 1).toNat (k.fst + 1) Tr.nil.w.w).w.w.br (Tr.sl ((↑(k.fst + 1) : Int) - 1).toNat (k.fst + 1) Tr.nil.w.w).w).w.w.br (Tr.b false (Tr.sl ((↑(k.fst + 1) : Int) - 1).toNat (k.fst + 1) Tr.nil.w.w).w).w).w)).w.w.br Tr.nil).w).w) rfl ?_
 refine Eq.mpr (by kernel_rfl : _ = ((∃ (j1 : Nat × Bs × Nat), ((s = s ∧ True ∧ [] = j1.snd.fst ∧ (0 : Int) = (↑j1.snd.snd : Int) ∧ (1 : Int) = (↑(j1.fst + 1) : Int) ∧ True) ∧ p.kind = p.kind ∧ List.map encSp p.spans = List.map encSp p.spans ∧ (↑p.sep.toNat : Int) = (↑p.sep.toNat : Int) ∧ p.out = p.out ∧ p.only = p.only ∧ p.not = p.not) ∧ j1.fst ≤ List.length s ∧ j1.snd.fst = byK p s j1.fst ∧ j1.snd.snd = byL p j1.fst) ∧ ∀ (k : Nat × Bs × Nat), k.fst ≤ List.length s ∧ k.snd.fst = byK p s k.fst ∧ k.snd.snd = byL p k.fst → (decide ((↑(k.fst + 1) : Int) ≤ (↑(List.length s) : Int)) = true → (R FT X).f 43 [AV.slice 2 (List.map encSp p.spans), intA (↑(k.fst + 1) : Int)] = some (boolA (hasB p.spans (↑(k.fst + 1) : Int))) ∧ ((hasB p.spans (↑(k.fst + 1) : Int) == p.not) = true → InI64 ((↑(k.fst + 1) : Int) + 1) ∧ ∃ (j5 : Nat × Bs × Nat), ((s = s ∧ True ∧ k.snd.fst = j5.snd.fst ∧ (↑k.snd.snd : Int) = (↑j5.snd.snd : Int) ∧ (↑(k.fst + 1) : Int) + 1 = (↑(j5.fst + 1) : Int) ∧ True) ∧ p.kind = p.kind ∧ List.map encSp p.spans = List.map encSp p.spans ∧ (↑p.sep.toNat : Int) = (↑p.sep.toNat : Int) ∧ p.out = p.out ∧ p.only = p.only ∧ p.not
 = p.not) ∧ (j5.fst ≤ List.length s ∧ j5.snd.fst = byK p s j5.fst ∧ j5.snd.snd = byL p j5.fst) ∧ List.length s - j5.fst < List.length s - k.fst) ∧ ((hasB p.spans (↑(k.fst + 1) : Int) == p.not) = false → (decide ((0 : Int) < (↑k.snd.snd : Int)) = true → InI64 ((↑(k.fst + 1) : Int) - 1) ∧ (decide ((↑k.snd.snd : Int) < (↑(k.fst + 1) : Int) - 1) = true → List.length k.snd.fst + List.length p.out ≤ 9223372036854775807 ∧ InI64 ((↑(k.fst + 1) : Int) - 1) ∧ (↑(k.fst + 1) : Int) - 1 = (↑((↑(k.fst + 1) : Int) - 1).toNat : Int) ∧ (↑(k.fst + 1) : Int) = (↑(k.fst + 1) : Int) ∧ ((↑(k.fst + 1) : Int) - 1).toNat ≤ k.fst + 1 ∧ k.fst + 1 ≤ List.length s ∧ List.length (k.snd.fst ++ p.out) + (List.drop ((↑(k.fst + 1) : Int) - 1).toNat (List.take (k.fst + 1) s)).length ≤ 9223372036854775807 ∧ InI64 ((↑(k.fst + 1) : Int) + 1) ∧ ∃ (j9 : Nat × Bs × Nat), ((s = s ∧ True ∧ k.snd.fst ++ p.out ++ List.drop ((↑(k.fst + 1) : Int) - 1).toNat (List.take (k.fst + 1) s) = j9.snd.fst ∧ (↑(k.fst + 1)
 : Int) = (↑j9.snd.snd : Int) ∧ (↑(k.fst + 1) : Int) + 1 = (↑(j9.fst + 1) : Int) ∧ True) ∧ p.kind = p.kind ∧ List.map encSp p.spans = List.map encSp p.spans ∧ (↑p.sep.toNat : Int) = (↑p.sep.toNat : Int) ∧ p.out = p.out ∧ p.only = p.only ∧ p.not = p.not) ∧ (j9.fst ≤ List.length s ∧ j9.snd.fst = byK p s j9.fst ∧ j9.snd.snd = byL p j9.fst) ∧ List.length s - j9.fst < List.length s - k.fst) ∧ (decide ((↑k.snd.snd : Int) < (↑(k.fst + 1) : Int) - 1) = false → InI64 ((↑(k.fst + 1) : Int) - 1) ∧ (↑(k.fst + 1) : Int) - 1 = (↑((↑(k.fst + 1) : Int) - 1).toNat : Int) ∧ (↑(k.fst + 1) : Int) = (↑(k.fst + 1) : Int) ∧ ((↑(k.fst + 1) : Int) - 1).toNat ≤ k.fst + 1 ∧ k.fst + 1 ≤ List.length s ∧ List.length k.snd.fst + (List.drop ((↑(k.fst + 1) : Int) - 1).toNat (List.take (k.fst + 1) s)).length ≤ 9223372036854775807 ∧ InI64 ((↑(k.fst + 1) : Int) + 1) ∧ ∃ (j11 : Nat × Bs × Nat), ((s = s ∧ True ∧ k.snd.fst ++ List.drop ((↑(k.fst + 1) : Int) - 1).toNat (List.take (k.fst + 1) s) = j11.snd.fst ∧ (↑(k.fst
 + (1 : Nat)) : Int) = (↑j11.snd.snd : Int) ∧ (↑(k.fst + 1) : Int) + 1 = (↑(j11.fst + 1) : Int) ∧ True) ∧ p.kind = p.kind ∧ List.map encSp p.spans = List.map encSp p.spans ∧ (↑p.sep.toNat : Int) = (↑p.sep.toNat : Int) ∧ p.out = p.out ∧ p.only = p.only ∧ p.not = p.not) ∧ (j11.fst ≤ List.length s ∧ j11.snd.fst = byK p s j11.fst ∧ j11.snd.snd = byL p j11.fst) ∧ List.length s - j11.fst < List.length s - k.fst)) ∧ (decide ((0 : Int) < (↑k.snd.snd : Int)) = false → false = false ∧ InI64 ((↑(k.fst + 1) : Int) - 1) ∧ (↑(k.fst + 1) : Int) - 1 = (↑((↑(k.fst + 1) : Int) - 1).toNat : Int) ∧ (↑(k.fst + 1) : Int) = (↑(k.fst + 1) : Int) ∧ ((↑(k.fst + 1) : Int) - 1).toNat ≤ k.fst + 1 ∧ k.fst + 1 ≤ List.length s ∧ List.length k.snd.fst + (List.drop ((↑(k.fst + 1) : Int) - 1).toNat (List.take (k.fst + 1) s)).length ≤ 9223372036854775807 ∧ InI64 ((↑(k.fst + 1) : Int) + 1) ∧ ∃ (j13 : Nat × Bs × Nat), ((s = s ∧ True ∧ k.snd.fst ++ List.drop ((↑(k.fst + 1) : Int) - 1).toNat (List.take (k.fst + 1) s) = j13.snd.fst ∧ (↑(k.fst
 + (1 : Nat)) : Int) = (↑j13.snd.snd : Int) ∧ (↑(k.fst + 1) : Int) + 1 = (↑(j13.fst + 1) : Int) ∧ True) ∧ p.kind = p.kind ∧ List.map encSp p.spans = List.map encSp p.spans ∧ (↑p.sep.toNat : Int) = (↑p.sep.toNat : Int) ∧ p.out = p.out ∧ p.only = p.only ∧ p.not = p.not) ∧ (j13.fst ≤ List.length s ∧ j13.snd.fst = byK p s j13.fst ∧ j13.snd.snd = byL p j13.fst) ∧ List.length s - j13.fst < List.length s - k.fst))) ∧ (decide ((↑(k.fst + 1) : Int) ≤ (↑(List.length s) : Int)) = false → k.snd.fst = byK p s (List.length s)))) ?_
 refine ⟨?_, fun k => fun h2 => have h2a := h2.1; have h2b := h2.2.1; have h2c := h2.2.2; ⟨fun h3_ => have h3 := dT h3_; ⟨(hr _ _ hm), fun h4 => ⟨(by unfold InI64; omega), ?_⟩, fun h6 => ⟨fun h7_ => have h7 := dT h7_; ⟨(by unfold InI64; omega), fun h8_ => have h8 := dT h8_; ⟨?_, (by unfold InI64; omega), (by omega), rfl, (by omega), (by omega), ?_, (by unfold InI64; omega), ?_⟩, fun h10_ => have h10 := dF h10_; ⟨(by unfold InI64; omega), (by omega), rfl, (by omega), (by omega), ?_, (by unfold InI64; omega), ?_⟩⟩, fun h12_ => have h12 := dF h12_; ⟨rfl, (by unfold InI64; omega), (by omega), rfl, (by omega), (by omega), ?_, (by unfold InI64; omega), ?_⟩⟩⟩, fun h14_ => have h14 := dF h14_; ?_⟩⟩
 ·exact ⟨(0, [], 0), ⟨⟨rfl, trivial, rfl, rfl, rfl, trivial⟩, rfl, rfl, rfl, rfl, rfl, rfl⟩, Nat.zero_le _, rfl, rfl⟩
 ·have n4 := slB_n h4
  exact ⟨(k.1 + 1, k.2.1, k.2.2), ⟨⟨rfl, trivial, rfl, rfl, rfl, trivial⟩, rfl, rfl, rfl, rfl, rfl, rfl⟩, ⟨by dsimp only; omega, by dsimp only; rw [byK_n n4]; exact h2b, by dsimp only; rw [byL_n n4]; exact h2c⟩, by dsimp only; omega⟩
 rotate_right 1
 ·rw [h2b, show k.1 = s.length by omega]
 all_goals have y4 := slB_y h6
 all_goals have hb1 := byK_bd1 hs2 k.1 (by omega)
 all_goals rw [← h2b] at hb1
 all_goals (try rw [cut1])
 all_goals have ht1 : ((s.drop k.1).take 1).length ≤ 1 := by rw [List.length_take]; omega
 ·omega
 ·rw [List.length_append]; omega
 ·refine ⟨(k.1 + 1, _, k.1 + 1), ⟨⟨rfl, trivial, rfl, rfl, rfl, trivial⟩, rfl, rfl, rfl, rfl, rfl, rfl⟩, ⟨by dsimp only; omega, ?_, ?_⟩, by dsimp only; omega⟩
  ·dsimp only; rw [byK_g y4 (by omega) (by omega), h2b]
  ·dsimp only; rw [byL_y y4]
 ·omega
 ·refine ⟨(k.1 + 1, _, k.1 + 1), ⟨⟨rfl, trivial, rfl, rfl, rfl, trivial⟩, rfl, rfl, rfl, rfl, rfl, rfl⟩, ⟨by dsimp only; omega, ?_, ?_⟩, by dsimp only; omega⟩
  ·dsimp only; rw [byK_y y4 (by omega), h2b]
  ·dsimp only; rw [byL_y y4]
 ·omega
 ·refine ⟨(k.1 + 1, _, k.1 + 1), ⟨⟨rfl, trivial, rfl, rfl, rfl, trivial⟩, rfl, rfl, rfl, rfl, rfl, rfl⟩, ⟨by dsimp only; omega, ?_, ?_⟩, by dsimp only; omega⟩
  ·dsimp only; rw [byK_y y4 (by omega), h2b]
  ·dsimp only; rw [byL_y y4]
structure LnOk (p : Spec) (s : Bs) : Prop where
 sp : p.spans.length ≤ maxLen
 hi : ∀ x ∈ p.spans, x.f ≤ 9223372036854775807
 ln : s.length ≤ 100000000
 bd : s.length * (p.out.length + 1) ≤ 10000000000000
theorem line2_run (p : Spec) (s : Bs) (h : LnOk p s) : (R FT X).f 17 [encSc p, strL s] = some (.tuple [strL (lnB p s), boolA (lnO p s)]) := by
 obtain ⟨hsp, hhi, hln, hbd⟩ := h
 have ck := check2_run (X := X) p hsp hhi
 have by2 := bytes2_run (X := X) p hsp s hln hbd
 have fr := fields_run (X := X) p.sep s hln
 have hr := hasB_run (X := X)
 have hm' := maxLen_le
 refine R_wp ((Tr.c (intA (chkE p)) (Tr.nil.br ((Tr.c (strL (byK p s (List.length s))) Tr.nil).br (Tr.c (AV.slice 1 (List.map strL (flds p.sep s))) (Tr.k (flds p.sep s).length ((Tr.nil.br Tr.nil).w.w.br (Tr.inv (fun (k : Nat × Bs × Bool) ↦ St.mk [(2, AV.ptr 0 0), (6, AV.slice 1 (List.map strL (flds p.sep s))), (7, strL k.snd.fst), (8, boolA k.snd.snd), (9, intA (↑k.fst : Int))] [spB p]) (fun (k : Nat × Bs × Bool) ↦ k.fst ≤ (flds p.sep s).length ∧ k.snd.fst = joinB p.out (fdK p (flds p.sep s) k.fst) ∧ k.snd.snd = decide (fdK p (flds p.sep s) k.fst = [])) (fun (k : Nat × Bs × Bool) ↦ (flds p.sep s).length - k.fst) fun (k : Nat × Bs × Bool) ↦ (Tr.k (flds p.sep s).length ((Tr.c (boolA (hasB p.spans ((↑k.fst : Int) + 1))) (Tr.nil.w.br ((Tr.ix strL (flds p.sep s) k.fst fun (x16 : Bs) ↦ Tr.nil.w.w).w.br (Tr.ix strL (flds p.sep s) k.fst fun (x20 : Bs) ↦ Tr.nil.w.w)).w.w)).w.w.w.br Tr.nil)).w).w).w).w)).w.w).w).w) rfl ?_
 refine Eq.mpr (by kernel_rfl : _ = ((R FT X).f 19 [encSc p] = some (intA (chkE p)) ∧ ((!decide (chkE p = 0)) = true → [] = lnB p s ∧ false = lnO p s) ∧ ((!decide (chkE p = 0)) = false → (decide (p.kind = 1) = true → (R FT X).f 42 [encSc p, strL s] = some (strL (byK p s (List.length s))) ∧ byK p s (List.length s) = lnB p s ∧ true = lnO p s) ∧ (decide (p.kind = 1) = false → (R FT X).f 26 [strL s, u8A p.sep] = some (AV.slice 1 (List.map strL (flds p.sep s))) ∧ (List.map strL (flds p.sep s)).length = (flds p.sep s).length ∧ (decide ((↑(flds p.sep s).length : Int) = 1) = true → (p.only = true → [] = lnB p s ∧ false = lnO p s) ∧ (p.only = false → s = lnB p s ∧ true = lnO p s)) ∧ (decide ((↑(flds p.sep s).length : Int) = 1) = false → (∃ (j9 : Nat × Bs × Bool), ((True ∧ List.map strL (flds p.sep s) = List.map strL (flds p.sep s) ∧ [] = j9.snd.fst ∧ true = j9.snd.snd ∧ (0 : Int) = (↑j9.fst : Int) ∧ True) ∧ p.kind = p.kind ∧ List.map encSp p.spans = List.map encSp p.spans ∧ (↑p.sep.toNat : Int) = (↑p.sep.toNat : Int) ∧ p.out = p.out ∧ p.only = p.only ∧ p.not = p.not) ∧ j9.fst ≤ (flds p.sep s).length ∧ j9.snd.fst = joinB p.out (fdK p (flds p.sep
 s) j9.fst) ∧ j9.snd.snd = decide (fdK p (flds p.sep s) j9.fst = [])) ∧ ∀ (k : Nat × Bs × Bool), k.fst ≤ (flds p.sep s).length ∧ k.snd.fst = joinB p.out (fdK p (flds p.sep s) k.fst) ∧ k.snd.snd = decide (fdK p (flds p.sep s) k.fst = []) → (List.map strL (flds p.sep s)).length = (flds p.sep s).length ∧ (decide ((↑k.fst : Int) < (↑(flds p.sep s).length : Int)) = true → InI64 ((↑k.fst : Int) + 1) ∧ (R FT X).f 43 [AV.slice 2 (List.map encSp p.spans), intA ((↑k.fst : Int) + 1)] = some (boolA (hasB p.spans ((↑k.fst : Int) + 1))) ∧ ((hasB p.spans ((↑k.fst : Int) + 1) == p.not) = true → InI64 ((↑k.fst : Int) + 1) ∧ ∃ (j13 : Nat × Bs × Bool), ((True ∧ List.map strL (flds p.sep s) = List.map strL (flds p.sep s) ∧ k.snd.fst = j13.snd.fst ∧ k.snd.snd = j13.snd.snd ∧ (↑k.fst : Int) + 1 = (↑j13.fst : Int) ∧ True) ∧ p.kind = p.kind ∧ List.map encSp p.spans = List.map encSp p.spans ∧ (↑p.sep.toNat : Int) = (↑p.sep.toNat : Int) ∧ p.out = p.out ∧ p.only = p.only ∧ p.not = p.not) ∧ (j13.fst ≤ (flds p.sep s).length ∧ j13.snd.fst = joinB p.out (fdK p (flds p.sep s) j13.fst) ∧ j13.snd.snd = decide (fdK p (flds p.sep s) j13.fst = [])) ∧ (flds
 p.sep s).length - j13.fst < (flds p.sep s).length - k.fst) ∧ ((hasB p.spans ((↑k.fst : Int) + 1) == p.not) = false → ((!k.snd.snd) = true → List.length k.snd.fst + List.length p.out ≤ 9223372036854775807 ∧ List.map strL (flds p.sep s) = List.map strL (flds p.sep s) ∧ (↑k.fst : Int) = (↑k.fst : Int) ∧ k.fst < (flds p.sep s).length ∧ ∀ (x16 : Bs), (flds p.sep s)[k.fst]? = some x16 → List.length (k.snd.fst ++ p.out) + List.length x16 ≤ 9223372036854775807 ∧ InI64 ((↑k.fst : Int) + 1) ∧ ∃ (j18 : Nat × Bs × Bool), ((True ∧ List.map strL (flds p.sep s) = List.map strL (flds p.sep s) ∧ k.snd.fst ++ p.out ++ x16 = j18.snd.fst ∧ false = j18.snd.snd ∧ (↑k.fst : Int) + 1 = (↑j18.fst : Int) ∧ True) ∧ p.kind = p.kind ∧ List.map encSp p.spans = List.map encSp p.spans ∧ (↑p.sep.toNat : Int) = (↑p.sep.toNat : Int) ∧ p.out = p.out ∧ p.only = p.only ∧ p.not = p.not) ∧ (j18.fst ≤ (flds p.sep s).length ∧ j18.snd.fst = joinB p.out (fdK p (flds p.sep s) j18.fst) ∧ j18.snd.snd = decide (fdK p (flds p.sep s) j18.fst = [])) ∧ (flds p.sep s).length - j18.fst < (flds p.sep s).length - k.fst) ∧ ((!k.snd.snd) = false → List.map strL (flds p.sep s) = List.map strL (flds p.sep
 s) ∧ (↑k.fst : Int) = (↑k.fst : Int) ∧ k.fst < (flds p.sep s).length ∧ ∀ (x20 : Bs), (flds p.sep s)[k.fst]? = some x20 → List.length k.snd.fst + List.length x20 ≤ 9223372036854775807 ∧ InI64 ((↑k.fst : Int) + 1) ∧ ∃ (j22 : Nat × Bs × Bool), ((True ∧ List.map strL (flds p.sep s) = List.map strL (flds p.sep s) ∧ k.snd.fst ++ x20 = j22.snd.fst ∧ false = j22.snd.snd ∧ (↑k.fst : Int) + 1 = (↑j22.fst : Int) ∧ True) ∧ p.kind = p.kind ∧ List.map encSp p.spans = List.map encSp p.spans ∧ (↑p.sep.toNat : Int) = (↑p.sep.toNat : Int) ∧ p.out = p.out ∧ p.only = p.only ∧ p.not = p.not) ∧ (j22.fst ≤ (flds p.sep s).length ∧ j22.snd.fst = joinB p.out (fdK p (flds p.sep s) j22.fst) ∧ j22.snd.snd = decide (fdK p (flds p.sep s) j22.fst = [])) ∧ (flds p.sep s).length - j22.fst < (flds p.sep s).length - k.fst))) ∧ (decide ((↑k.fst : Int) < (↑(flds p.sep s).length : Int)) = false → k.snd.fst = lnB p s ∧ true = lnO p s)))))) ?_
 refine ⟨(ck), fun h1_ => have h1 := dnT h1_; ⟨?_, ?_⟩, fun h2_ => have h2 := dnF h2_; ⟨fun h3_ => have h3 := dT h3_; ⟨(by2), ?_, ?_⟩, fun h4_ => have h4 := dF h4_; ⟨(fr), (by simp), fun h5_ => have h5 := dT h5_; ⟨fun h6 => ⟨?_, ?_⟩, fun h7 => ⟨?_, ?_⟩⟩, fun h8_ => have h8 := dF h8_; ⟨⟨((0 : Nat), [], true), ⟨⟨trivial, rfl, rfl, rfl, (by (try dsimp only); omega), trivial⟩, rfl, rfl, rfl, rfl, rfl, rfl⟩, ⟨(by (try dsimp only); omega), rfl, rfl⟩⟩, fun k => fun h10 => have h10a := h10.1; have h10b := h10.2.1; have h10c := h10.2.2; ⟨(by simp), fun h11_ => have h11 := dT h11_; ⟨?_, (hr _ _ hsp), fun h12 => ⟨?_, ⟨(k.fst + (1 : Nat), k.snd.fst, k.snd.snd), ⟨⟨trivial, rfl, rfl, rfl, (by (try dsimp only); omega), trivial⟩, rfl, rfl, rfl, rfl, rfl, rfl⟩, ⟨⟨(by (try dsimp only); omega), ?_, ?_⟩, (by (try dsimp only); omega)⟩⟩⟩, fun h14 => ⟨fun h15_ => have h15 := nT h15_; ⟨?_, rfl, rfl, (by omega), fun x16 => fun h17 => ⟨?_, ?_, ⟨(k.fst + (1 : Nat), k.snd.fst ++ p.out ++ x16, false), ⟨⟨trivial, rfl, rfl, rfl, (by (try dsimp only); omega), trivial⟩, rfl, rfl, rfl, rfl, rfl, rfl⟩, ⟨⟨(by (try dsimp only); omega), ?_, ?_⟩, (by (try dsimp only); omega)⟩⟩⟩⟩, fun h19_ => have h19 := nF h19_; ⟨rfl, rfl, (by omega), fun x20 => fun h21 => ⟨?_, ?_, ⟨(k.fst + (1 : Nat), k.snd.fst ++ x20, false), ⟨⟨trivial, rfl, rfl, rfl, (by (try dsimp only); omega), trivial⟩, rfl, rfl, rfl, rfl, rfl, rfl⟩, ⟨⟨(by (try dsimp only); omega), ?_, ?_⟩, (by (try dsimp only); omega)⟩⟩⟩⟩⟩⟩, fun h23_ => have h23 := dF h23_; ⟨?_, ?_⟩⟩⟩⟩⟩⟩
 iterate 2 · first | exact (ln_bad h1).1.symm | exact (ln_bad h1).2.symm
 iterate 2 · first | exact (ln_byt h2 h3).1.symm | exact (ln_byt h2 h3).2.symm
 ·rw [(ln_one h2 h4 (by omega)).1, if_pos h6]
 ·rw [(ln_one h2 h4 (by omega)).2, h6]; rfl
 ·rw [(ln_one h2 h4 (by omega)).1, if_neg (by rw [h7]; decide)]
 ·rw [(ln_one h2 h4 (by omega)).2, h7]; rfl
 all_goals have h8' : ¬ (flds p.sep s).length = 1 := by omega
 all_goals have hne := flds_ne1 h8'
 all_goals have hcnt := cnt_flds p.sep s
 all_goals have hcl := cnt_le p.sep s
 rotate_right 2
 ·rw [(ln_fld h2 h4 h8').1, h10b, show k.1 = (flds p.sep s).length by omega]
 ·rw [(ln_fld h2 h4 h8').2]
 all_goals have hbk := fdJ_bd p s hne hbd
 ·unfold InI64; omega
 ·unfold InI64; omega
 ·dsimp only; rw [fdK_n (slB_n h12)]; exact h10b
 ·dsimp only; rw [fdK_n (slB_n h12)]; exact h10c
 ·have := List.getElem?_eq_getElem (l := flds p.sep s) (i := k.1) (by omega)
  have := congrArg List.length (fdK_jn this (slB_y h14) (h10c.symm.trans h15))
  have hb2 := hbk (k.1 + 1) (by omega)
  rw [this, ← h10b, List.length_append, List.length_append] at hb2
  omega
 ·have := congrArg List.length (fdK_jn h17 (slB_y h14) (h10c.symm.trans h15))
  have hb2 := hbk (k.1 + 1) (by omega)
  rw [this, ← h10b, List.length_append, List.length_append] at hb2
  rw [List.length_append]
  omega
 ·unfold InI64; omega
 ·dsimp only; rw [fdK_jn h17 (slB_y h14) (h10c.symm.trans h15), h10b]
 ·dsimp only; rw [fdK_y h17 (slB_y h14)]; simp
 ·have := congrArg List.length (fdK_j1 h21 (slB_y h14) (h10c.symm.trans h19))
  have hb2 := hbk (k.1 + 1) (by omega)
  rw [this, ← h10b, List.length_append] at hb2
  omega
 ·unfold InI64; omega
 ·dsimp only; rw [fdK_j1 h21 (slB_y h14) (h10c.symm.trans h19), h10b]
 ·dsimp only; rw [fdK_y h21 (slB_y h14)]; simp
theorem sel_len (p : Spec) (hm : p.spans.length ≤ maxLen) (m n : Int) (h : m ≤ n) (L : List AV) : (R FT X).m 62 [intA n, .ptr 2 0, .ptr 1 0] [spB p, spB p, .box 3 [intA (selK p.spans m)], .row 0 1 L true 1] = some (boolA (slV p n), [spB p, spB p, .box 3 [intA (selK p.spans n)], .row 0 1 L true 1]) := by
 have hm' := maxLen_i64
 have hk := selK_le p.spans
 have hmo := selK_mono p.spans h
 refine RM_wp ((Tr.inv (fun (k : Nat) ↦ St.mk [(0, intA n), (1, AV.ptr 2 0), (2, AV.ptr 1 0)] [spB p, spB p, MObj.box 3 [intA (↑k : Int)], MObj.row 0 1 L true (1 : Nat)]) (fun (k : Nat) ↦ selK p.spans m ≤ k ∧ k ≤ selK p.spans n) (fun (k : Nat) ↦ p.spans.length - k) fun (k : Nat) ↦ (Tr.k p.spans.length ((Tr.ix encSp p.spans k fun (x4 : Sp) ↦ (Tr.ix encSp p.spans k fun (x7 : Sp) ↦ Tr.nil.w.w.br (Tr.k p.spans.length (Tr.b true (Tr.ix encSp p.spans k fun (x : Sp) ↦ Tr.nil))).w).br (Tr.b false (Tr.k p.spans.length (Tr.b true (Tr.ix encSp p.spans k fun (x : Sp) ↦ Tr.nil))).w)).br (Tr.b false (Tr.b false (Tr.k p.spans.length (Tr.b false Tr.nil)).w)))).w).w) rfl ?_
 refine Eq.mpr (by kernel_rfl : _ = ((∃ (j1 : Nat), ((n = n ∧ True ∧ True ∧ True) ∧ (p.kind = p.kind ∧ List.map encSp p.spans = List.map encSp p.spans ∧ (↑p.sep.toNat : Int) = (↑p.sep.toNat : Int) ∧ p.out = p.out ∧ p.only = p.only ∧ p.not = p.not) ∧ (p.kind = p.kind ∧ List.map encSp p.spans = List.map encSp p.spans ∧ (↑p.sep.toNat : Int) = (↑p.sep.toNat : Int) ∧ p.out = p.out ∧ p.only = p.only ∧ p.not = p.not) ∧ (↑(selK p.spans m) : Int) = (↑j1 : Int) ∧ L = L) ∧ selK p.spans m ≤ j1 ∧ j1 ≤ selK p.spans n) ∧ ∀ (k : Nat), selK p.spans m ≤ k ∧ k ≤ selK p.spans n → (List.map encSp p.spans).length = p.spans.length ∧ (decide ((↑k : Int) < (↑p.spans.length : Int)) = true → List.map encSp p.spans = List.map encSp p.spans ∧ (↑k : Int) = (↑k : Int) ∧ k < p.spans.length ∧ ∀ (x4 : Sp), p.spans[k]? = some x4 → ((!decide (x4.t = 0)) = true → List.map encSp p.spans = List.map encSp p.spans ∧ (↑k : Int) = (↑k : Int) ∧ k < p.spans.length ∧ ∀ (x7 : Sp), p.spans[k]? = some x7 → (decide (x7.t < n) = true → InI64 ((↑k : Int) + 1) ∧ ∃ (j10 : Nat), ((n = n ∧ True ∧ True ∧ True) ∧ (p.kind = p.kind ∧ List.map encSp p.spans = List.map encSp p.spans ∧ (↑p.sep.toNat : Int) = (↑p.sep.toNat : Int) ∧ p.out = p.out ∧ p.only = p.only ∧
 p.not = p.not) ∧ (p.kind = p.kind ∧ List.map encSp p.spans = List.map encSp p.spans ∧ (↑p.sep.toNat : Int) = (↑p.sep.toNat : Int) ∧ p.out = p.out ∧ p.only = p.only ∧ p.not = p.not) ∧ (↑k : Int) + 1 = (↑j10 : Int) ∧ L = L) ∧ (selK p.spans m ≤ j10 ∧ j10 ≤ selK p.spans n) ∧ p.spans.length - j10 < p.spans.length - k) ∧ (decide (x7.t < n) = false → (List.map encSp p.spans).length = p.spans.length ∧ decide ((↑k : Int) < (↑p.spans.length : Int)) = true ∧ List.map encSp p.spans = List.map encSp p.spans ∧ (↑k : Int) = (↑k : Int) ∧ k < p.spans.length ∧ ∀ (x12 : Sp), p.spans[k]? = some x12 → (!decide (x12.f ≤ n) == p.not) = slV p n ∧ (p.kind = p.kind ∧ List.map encSp p.spans = List.map encSp p.spans ∧ (↑p.sep.toNat : Int) = (↑p.sep.toNat : Int) ∧ p.out = p.out ∧ p.only = p.only ∧ p.not = p.not) ∧ (p.kind = p.kind ∧ List.map encSp p.spans = List.map encSp p.spans ∧ (↑p.sep.toNat : Int) = (↑p.sep.toNat : Int) ∧ p.out = p.out ∧ p.only = p.only ∧ p.not = p.not) ∧ (↑k : Int) = (↑(selK p.spans n) : Int) ∧ L = L)) ∧ ((!decide (x4.t = 0)) = false → false = false ∧ (List.map encSp p.spans).length = p.spans.length ∧ decide ((↑k : Int) < (↑p.spans.length : Int)) = true ∧ List.map encSp p.spans
 = List.map encSp p.spans ∧ (↑k : Int) = (↑k : Int) ∧ k < p.spans.length ∧ ∀ (x15 : Sp), p.spans[k]? = some x15 → (!decide (x15.f ≤ n) == p.not) = slV p n ∧ (p.kind = p.kind ∧ List.map encSp p.spans = List.map encSp p.spans ∧ (↑p.sep.toNat : Int) = (↑p.sep.toNat : Int) ∧ p.out = p.out ∧ p.only = p.only ∧ p.not = p.not) ∧ (p.kind = p.kind ∧ List.map encSp p.spans = List.map encSp p.spans ∧ (↑p.sep.toNat : Int) = (↑p.sep.toNat : Int) ∧ p.out = p.out ∧ p.only = p.only ∧ p.not = p.not) ∧ (↑k : Int) = (↑(selK p.spans n) : Int) ∧ L = L)) ∧ (decide ((↑k : Int) < (↑p.spans.length : Int)) = false → false = false ∧ false = false ∧ (List.map encSp p.spans).length = p.spans.length ∧ decide ((↑k : Int) < (↑p.spans.length : Int)) = false ∧ (!false == p.not) = slV p n ∧ (p.kind = p.kind ∧ List.map encSp p.spans = List.map encSp p.spans ∧ (↑p.sep.toNat : Int) = (↑p.sep.toNat : Int) ∧ p.out = p.out ∧ p.only = p.only ∧ p.not = p.not) ∧ (p.kind = p.kind ∧ List.map encSp p.spans = List.map encSp p.spans ∧ (↑p.sep.toNat : Int) = (↑p.sep.toNat : Int) ∧ p.out = p.out ∧ p.only = p.only ∧ p.not = p.not) ∧ (↑k : Int) = (↑(selK p.spans n) : Int) ∧ L = L))) ?_
 refine ⟨⟨selK p.spans m, ⟨⟨rfl, trivial, trivial, trivial⟩, ⟨rfl, rfl, rfl, rfl, rfl, rfl⟩, ⟨rfl, rfl, rfl, rfl, rfl, rfl⟩, rfl, rfl⟩, ⟨(by omega), (by omega)⟩⟩, fun k => fun h2 => have h2a := h2.1; have h2b := h2.2; ⟨(by simp), fun h3_ => have h3 := dT h3_; ⟨rfl, rfl, (by omega), fun x4 => fun h5 => ⟨fun h6_ => have h6 := dnT h6_; ⟨rfl, rfl, (by omega), fun x7 => fun h8 => ⟨fun h9_ => have h9 := dT h9_; ⟨(by unfold InI64; omega), ⟨k + (1 : Nat), ⟨⟨rfl, trivial, trivial, trivial⟩, ⟨rfl, rfl, rfl, rfl, rfl, rfl⟩, ⟨rfl, rfl, rfl, rfl, rfl, rfl⟩, (by omega), rfl⟩, ⟨⟨(by omega), ?_⟩, (by omega)⟩⟩⟩, fun h11_ => have h11 := dF h11_; ⟨(by simp), h3_, rfl, rfl, (by omega), fun x12 => fun h13 => ⟨?_, ⟨rfl, rfl, rfl, rfl, rfl, rfl⟩, ⟨rfl, rfl, rfl, rfl, rfl, rfl⟩, ?_, rfl⟩⟩⟩⟩, fun h14_ => have h14 := dnF h14_; ⟨rfl, (by simp), h3_, rfl, rfl, (by omega), fun x15 => fun h16 => ⟨?_, ⟨rfl, rfl, rfl, rfl, rfl, rfl⟩, ⟨rfl, rfl, rfl, rfl, rfl, rfl⟩, ?_, rfl⟩⟩⟩⟩, fun h17_ => have h17 := dF h17_; ⟨rfl, rfl, (by simp), h17_, ?_, ⟨rfl, rfl, rfl, rfl, rfl, rfl⟩, ⟨rfl, rfl, rfl, rfl, rfl, rfl⟩, ?_, rfl⟩⟩⟩
 ·exact selK_more h2b h5 h6 (same_at h5 h8 ▸ h9)
 ·obtain rfl := same_at h5 h8
  obtain rfl := same_at h5 h13
  have e := selK_stop h2b h5 (.inr h11)
  rw [slV_y (e ▸ h5)]; rfl
 ·obtain rfl := same_at h5 h8
  rw [← selK_stop h2b h5 (.inr h11)]
 ·obtain rfl := same_at h5 h16
  have e := selK_stop h2b h5 (.inl h14)
  rw [slV_y (e ▸ h5)]; rfl
 ·rw [← selK_stop h2b h5 (.inl h14)]
 ·have e := selK_end h2b (by omega)
  rw [slV_n (by omega)]; rfl
 ·rw [← selK_end h2b (by omega)]
theorem line_run (hB : BldC X) (hx : StrC X) (p : Spec) (s : Bs) (h : LnOk p s) : (R FT X).f 16 [encSc p, strL s] = some (.tuple [strL (lnB p s), boolA (lnO p s)]) := by
 obtain ⟨hsp, hhi, hln, hbd⟩ := h
 have ck := check_run (X := X) p hsp hhi
 have by2 := fun hn => bytes_run hB p hn hsp s hln hbd
 have fr := split_run hx p.sep s hln
 have ix := hx.idx
 have jn := hx.join
 have si := sel_init (X := X) p
 have sr := sel_len (X := X) p hsp
 have hm' := maxLen_le
 refine R_wp ((Tr.c (intA (chkE p)) (Tr.nil.br ((Tr.c (strL (byK p s (List.length s))) Tr.nil).br (Tr.c (intA (Lib.indexByte s p.sep)) ((Tr.nil.br Tr.nil).w.w.br (Tr.cm (AV.fn (Fn.func 62) [] [AV.ptr 2 0, AV.ptr 1 0]) [MObj.box 31 [intA p.kind, AV.slice 2 (List.map encSp p.spans), u8A p.sep, strL p.out, boolA p.only, boolA p.not], MObj.box 31 [intA p.kind, AV.slice 2 (List.map encSp p.spans), u8A p.sep, strL p.out, boolA p.only, boolA p.not], MObj.box 3 [intA 0]] (Tr.bs [p.sep] (Tr.c (AV.slice 1 (List.map strL (flds p.sep s))) (Tr.k (flds p.sep s).length (Tr.inv (fun (k : Nat) ↦ St.mk [(2, AV.ptr 0 0), (6, AV.fn (Fn.func 62) [] [AV.ptr 2 0, AV.ptr 1 0]), (7, AV.row 3 0 (fdK p (flds p.sep s) k).length (0 : Nat) (fdK p (flds p.sep s) k).length), (34, AV.slice 1 (List.map strL (flds p.sep s))), (35, intA (↑(flds p.sep s).length : Int)), (36, intA (↑k : Int))] [spB p, spB p, MObj.box 3 [intA (↑(selK p.spans (↑k : Int)) : Int)], MObj.row 0 1 (List.map
 strL (fdK p (flds p.sep s) k)) true (1 : Nat)]) (fun (k : Nat) ↦ k ≤ (flds p.sep s).length) (fun (k : Nat) ↦ (flds p.sep s).length - k) fun (k : Nat) ↦ (Tr.ix strL (flds p.sep s) k fun (x12 : Bs) ↦ (Tr.cm (boolA (slV p ((↑k : Int) + 1))) [MObj.box 31 [intA p.kind, AV.slice 2 (List.map encSp p.spans), u8A p.sep, strL p.out, boolA p.only, boolA p.not], MObj.box 31 [intA p.kind, AV.slice 2 (List.map encSp p.spans), u8A p.sep, strL p.out, boolA p.only, boolA p.not], MObj.box 3 [intA (↑(selK p.spans ((↑k : Int) + 1)) : Int)], MObj.row 0 1 (List.map strL (fdK p (flds p.sep s) k)) true (1 : Nat)] ((Tr.k ((fdK p (flds p.sep s) k).length + 1) Tr.nil.w).br Tr.nil.w).w).w.w).w.br (Tr.g (List.map strL (fdK p (flds p.sep s) k)) (Tr.c (strL (joinB p.out (fdK p (flds p.sep s) k))) Tr.nil))).w))))).w).w).w.w).w).w) rfl ?_
 refine Eq.mpr (by kernel_rfl : _ = ((R FT X).f 18 [encSc p] = some (intA (chkE p)) ∧ ((!decide (chkE p = 0)) = true → [] = lnB p s ∧ false = lnO p s) ∧ ((!decide (chkE p = 0)) = false → (decide (p.kind = 1) = true → (R FT X).f 38 [encSc p, strL s] = some (strL (byK p s (List.length s))) ∧ byK p s (List.length s) = lnB p s ∧ true = lnO p s) ∧ (decide (p.kind = 1) = false → (R FT X).f 39 [strL s, u8A p.sep] = some (intA (Lib.indexByte s p.sep)) ∧ (decide (Lib.indexByte s p.sep < 0) = true → (p.only = true → [] = lnB p s ∧ false = lnO p s) ∧ (p.only = false → s = lnB p s ∧ true = lnO p s)) ∧ (decide (Lib.indexByte s p.sep < 0) = false → (R FT X).m 40 [encSc p] [spB p] = some (AV.fn (Fn.func 62) [] [AV.ptr 2 0, AV.ptr 1 0], [spB p, spB p, MObj.box 3 [intA 0]]) ∧ (1 : Nat) = 1 ∧ some [UInt8.ofNat (↑p.sep.toNat : Int).toNat] = some [p.sep] ∧ (R FT X).f 41 [strL s, strL [p.sep]] = some (AV.slice 1 (List.map strL (flds p.sep s))) ∧ (List.map strL (flds p.sep s)).length = (flds p.sep s).length ∧ (∃ (j9 : Nat), ((True ∧ AV.fn (Fn.func 62)
 [] [AV.ptr 2 0, AV.ptr 1 0] = AV.fn (Fn.func 62) [] [AV.ptr 2 0, AV.ptr 1 0] ∧ ((0 : Nat) = (fdK p (flds p.sep s) j9).length ∧ (0 : Nat) = 0 ∧ (0 : Nat) = (fdK p (flds p.sep s) j9).length) ∧ List.map strL (flds p.sep s) = List.map strL (flds p.sep s) ∧ (↑(flds p.sep s).length : Int) = (↑(flds p.sep s).length : Int) ∧ (0 : Int) = (↑j9 : Int) ∧ True) ∧ (p.kind = p.kind ∧ List.map encSp p.spans = List.map encSp p.spans ∧ (↑p.sep.toNat : Int) = (↑p.sep.toNat : Int) ∧ p.out = p.out ∧ p.only = p.only ∧ p.not = p.not) ∧ (p.kind = p.kind ∧ List.map encSp p.spans = List.map encSp p.spans ∧ (↑p.sep.toNat : Int) = (↑p.sep.toNat : Int) ∧ p.out = p.out ∧ p.only = p.only ∧ p.not = p.not) ∧ (0 : Int) = (↑(selK p.spans (↑j9 : Int)) : Int) ∧ [] = List.map strL (fdK p (flds p.sep s) j9)) ∧ j9 ≤ (flds p.sep s).length) ∧ ∀ (k : Nat), k ≤ (flds p.sep s).length → (decide ((↑k : Int) < (↑(flds p.sep s).length : Int)) = true → List.map strL (flds p.sep s) = List.map strL (flds p.sep s) ∧ (↑k : Int) = (↑k : Int) ∧ k < (flds p.sep s).length ∧ ∀ (x12 : Bs), (flds p.sep s)[k]? = some x12 → InI64 ((↑k : Int) + 1) ∧ (R FT
 X).m 62 [intA ((↑k : Int) + 1), AV.ptr 2 0, AV.ptr 1 0] [spB p, spB p, MObj.box 3 [intA (↑(selK p.spans (↑k : Int)) : Int)], MObj.row 0 1 (List.map strL (fdK p (flds p.sep s) k)) true (1 : Nat)] = some (boolA (slV p ((↑k : Int) + 1)), [spB p, spB p, MObj.box 3 [intA (↑(selK p.spans ((↑k : Int) + 1)) : Int)], MObj.row 0 1 (List.map strL (fdK p (flds p.sep s) k)) true (1 : Nat)]) ∧ (slV p ((↑k : Int) + 1) = true → (List.map strL (fdK p (flds p.sep s) k)).length = (fdK p (flds p.sep s) k).length ∧ (0 : Nat) = 0 ∧ (fdK p (flds p.sep s) k).length = (fdK p (flds p.sep s) k).length ∧ (fdK p (flds p.sep s) k).length + [AV.val (Value.string (ofL x12))].length = (fdK p (flds p.sep s) k).length + 1 ∧ ((fdK p (flds p.sep s) k).length + 1) * 16 ≤ (140737488355328 : Nat) ∧ (fdK p (flds p.sep s) k).length + 1 ≤ (9223372036854775807 : Nat) ∧ InI64 ((↑k : Int) + 1) ∧ ∃ (j15 : Nat), ((True ∧ AV.fn (Fn.func 62) [] [AV.ptr 2 0, AV.ptr 1 0] = AV.fn (Fn.func 62) [] [AV.ptr (2 :
 Nat) (0 : Nat), AV.ptr 1 0] ∧ ((fdK p (flds p.sep s) k).length + 1 = (fdK p (flds p.sep s) j15).length ∧ (0 : Nat) = 0 ∧ (fdK p (flds p.sep s) k).length + 1 = (fdK p (flds p.sep s) j15).length) ∧ List.map strL (flds p.sep s) = List.map strL (flds p.sep s) ∧ (↑(flds p.sep s).length : Int) = (↑(flds p.sep s).length : Int) ∧ (↑k : Int) + 1 = (↑j15 : Int) ∧ True) ∧ (p.kind = p.kind ∧ List.map encSp p.spans = List.map encSp p.spans ∧ (↑p.sep.toNat : Int) = (↑p.sep.toNat : Int) ∧ p.out = p.out ∧ p.only = p.only ∧ p.not = p.not) ∧ (p.kind = p.kind ∧ List.map encSp p.spans = List.map encSp p.spans ∧ (↑p.sep.toNat : Int) = (↑p.sep.toNat : Int) ∧ p.out = p.out ∧ p.only = p.only ∧ p.not = p.not) ∧ (↑(selK p.spans ((↑k : Int) + 1)) : Int) = (↑(selK p.spans (↑j15 : Int)) : Int) ∧ List.map strL (fdK p (flds p.sep s) k) ++ [AV.val (Value.string (ofL x12))] = List.map strL (fdK p (flds p.sep s) j15)) ∧ j15 ≤ (flds p.sep s).length ∧ (flds p.sep s).length - j15 < (flds p.sep s).length - k) ∧ (slV p ((↑k : Int) + 1) = false → InI64 ((↑k : Int) + 1) ∧ ∃ (j17 : Nat), ((True ∧ AV.fn (Fn.func 62) [] [AV.ptr 2 0,
 AV.ptr 1 0] = AV.fn (Fn.func 62) [] [AV.ptr 2 0, AV.ptr 1 0] ∧ ((fdK p (flds p.sep s) k).length = (fdK p (flds p.sep s) j17).length ∧ (0 : Nat) = 0 ∧ (fdK p (flds p.sep s) k).length = (fdK p (flds p.sep s) j17).length) ∧ List.map strL (flds p.sep s) = List.map strL (flds p.sep s) ∧ (↑(flds p.sep s).length : Int) = (↑(flds p.sep s).length : Int) ∧ (↑k : Int) + 1 = (↑j17 : Int) ∧ True) ∧ (p.kind = p.kind ∧ List.map encSp p.spans = List.map encSp p.spans ∧ (↑p.sep.toNat : Int) = (↑p.sep.toNat : Int) ∧ p.out = p.out ∧ p.only = p.only ∧ p.not = p.not) ∧ (p.kind = p.kind ∧ List.map encSp p.spans = List.map encSp p.spans ∧ (↑p.sep.toNat : Int) = (↑p.sep.toNat : Int) ∧ p.out = p.out ∧ p.only = p.only ∧ p.not = p.not) ∧ (↑(selK p.spans ((↑k : Int) + 1)) : Int) = (↑(selK p.spans (↑j17 : Int)) : Int) ∧ List.map strL (fdK p (flds p.sep s) k) = List.map strL (fdK p (flds p.sep s) j17)) ∧ j17 ≤ (flds p.sep s).length ∧ (flds p.sep s).length - j17 < (flds p.sep s).length - k)) ∧ (decide ((↑k : Int) < (↑(flds p.sep s).length : Int)) = false → (List.map strL (fdK p (flds p.sep s) k)).length = (fdK p (flds p.sep s) k).length
 ∧ List.take (fdK p (flds p.sep s) k).length (List.drop (0 : Nat) (List.map strL (fdK p (flds p.sep s) k))) = List.map strL (fdK p (flds p.sep s) k) ∧ (R FT X).f 36 [AV.slice 1 (List.map strL (fdK p (flds p.sep s) k)), strL p.out] = some (strL (joinB p.out (fdK p (flds p.sep s) k))) ∧ joinB p.out (fdK p (flds p.sep s) k) = lnB p s ∧ true = lnO p s)))))) ?_
 refine ⟨(ck), fun h1_ => have h1 := dnT h1_; ⟨?_, ?_⟩, fun h2_ => have h2 := dnF h2_; ⟨fun h3_ => have h3 := dT h3_; ⟨(by2 ?_), ?_, ?_⟩, fun h4_ => have h4 := dF h4_; ⟨(ix _ _), fun h5_ => have h5 := dT h5_; ⟨fun h6 => ⟨?_, ?_⟩, fun h7 => ⟨?_, ?_⟩⟩, fun h8_ => have h8 := dF h8_; ⟨(si), rfl, (by simp), (fr), (by simp), ⟨(0 : Nat), ⟨⟨trivial, rfl, ⟨rfl, rfl, rfl⟩, rfl, rfl, (by omega), trivial⟩, ⟨rfl, rfl, rfl, rfl, rfl, rfl⟩, ⟨rfl, rfl, rfl, rfl, rfl, rfl⟩, ?_, rfl⟩, (by omega)⟩, fun k => fun h10 => ⟨fun h11_ => have h11 := dT h11_; ⟨rfl, rfl, (by omega), fun x12 => fun h13 => ⟨?_, (sr _ _ (by exact (by omega)) _), fun h14 => ⟨(by simp), rfl, rfl, rfl, ?_, ?_, ?_, ⟨k + (1 : Nat), ⟨⟨trivial, rfl, ⟨?_, rfl, ?_⟩, rfl, rfl, (by omega), trivial⟩, ⟨rfl, rfl, rfl, rfl, rfl, rfl⟩, ⟨rfl, rfl, rfl, rfl, rfl, rfl⟩, rfl, ?_⟩, ⟨(by omega), (by omega)⟩⟩⟩, fun h16 => ⟨?_, ⟨k + (1 : Nat), ⟨⟨trivial, rfl, ⟨?_, rfl, ?_⟩, rfl, rfl, (by omega), trivial⟩, ⟨rfl, rfl, rfl, rfl, rfl, rfl⟩, ⟨rfl, rfl, rfl, rfl, rfl, rfl⟩, rfl, ?_⟩, ⟨(by omega), (by omega)⟩⟩⟩⟩⟩, fun h18_ => have h18 := dF h18_; ⟨(by simp), ?_, (jn _ _ ?_ ?_), ?_, ?_⟩⟩⟩⟩⟩⟩
 iterate 2 · first | exact (ln_bad h1).1.symm | exact (ln_bad h1).2.symm
 ·exact (chkE_0 h2).2.1
 iterate 2 · first | exact (ln_byt h2 h3).1.symm | exact (ln_byt h2 h3).2.symm
 ·rw [(ln_one h2 h4 (flds_n1.2 h5)).1, if_pos h6]
 ·rw [(ln_one h2 h4 (flds_n1.2 h5)).2, h6]; rfl
 ·rw [(ln_one h2 h4 (flds_n1.2 h5)).1, if_neg (by rw [h7]; decide)]
 ·rw [(ln_one h2 h4 (flds_n1.2 h5)).2, h7]; rfl
 all_goals have h8' : ¬ (flds p.sep s).length = 1 := fun q => h8 (flds_n1.1 q)
 all_goals have hne := flds_ne1 h8'
 all_goals have hcnt := cnt_flds p.sep s
 all_goals have hcl := cnt_le p.sep s
 all_goals have hfl := fdK_len p (flds p.sep s)
 ·rw [selK_0 (chkE_0 h2).2.1 (by omega)]; rfl
 all_goals have hfk := hfl k
 ·unfold InI64; omega
 ·omega
 ·omega
 ·unfold InI64; omega
 all_goals (try have y14 := slV_b (chkE_0 h2).2.1 h14)
 iterate 2 · rw [fdK_y h13 y14]; simp
 ·rw [fdK_y h13 y14, List.map_append]; rfl
 ·unfold InI64; omega
 all_goals (try have n16 := slV_b (chkE_0 h2).2.1 h16)
 iterate 3 · rw [fdK_n n16]
 ·rw [List.drop_zero, List.take_of_length_le (by simp)]
 ·omega
 ·have := fdJ_bd p s hne hbd k h10; omega
 ·rw [(ln_fld h2 h4 h8').1, show k = (flds p.sep s).length by omega]
 ·rw [(ln_fld h2 h4 h8').2]
end
end Go.Proofs.YtfedemnaeggokaaGreatDoor
end
section
namespace Go.Proofs.YtfedemnaeggokaaGreatDoor
set_option linter.unusedVariables false
set_option linter.unusedSimpArgs false
def apK (p : Spec) (l : List Bs) : Nat → Bs
 | 0 => []
 | k + 1 => match l[k]? with
  | some x => if lnO p x = true then apK p l k ++ (lnB p x ++ [10]) else apK p l k
  | none => apK p l k
def apB (p : Spec) (s : Bs) : Bs := apK p (lins s) (lins s).length
section
variable {p : Spec} {l : List Bs} {k : Nat} {x : Bs}
theorem apK_y (h : l[k]? = some x) (h2 : lnO p x = true) : apK p l (k + 1) = apK p l k ++ (lnB p x ++ [10]) := by rw [apK, h]; exact if_pos h2
theorem apK_n (h : l[k]? = some x) (h2 : lnO p x = false) : apK p l (k + 1) = apK p l k := by rw [apK, h]; exact if_neg (by rw [h2]; decide)
end
theorem apK_bad {p : Spec} (h : ¬ chkE p = 0) (l : List Bs) : ∀ k, apK p l k = []
 | 0 => rfl
 | k + 1 => by
  cases hx : l[k]? with
  | none => rw [apK, hx]; exact apK_bad h l k
  | some x => rw [apK_n hx (ln_bad h).2]; exact apK_bad h l k
theorem lnB_le (p : Spec) (s : Bs) : (lnB p s).length ≤ s.length * (2 * p.out.length + 1) := by
 by_cases h : chkE p = 0
 ·by_cases h2 : p.kind = 1
  ·rw [(ln_byt h h2).1]
   refine Nat.le_trans (byK_le p s s.length) (Nat.mul_le_mul_left _ (by omega))
  ·by_cases h3 : (flds p.sep s).length = 1
   ·rw [(ln_one h h2 h3).1]
    split
    ·exact Nat.zero_le _
    ·rw [Nat.mul_add, Nat.mul_one]; omega
   ·rw [(ln_fld h h2 h3).1]
    have hne := flds_ne1 h3
    have h1 := joinB_lens p.out (fdK p (flds p.sep s) (flds p.sep s).length)
    have h2 := fdK_lens p (flds p.sep s) (flds p.sep s).length
    have h3 := lensB_take (flds p.sep s) (flds p.sep s).length
    have h4 := flds_lens p.sep s
    have h5 := fdK_len p (flds p.sep s) (flds p.sep s).length
    have h6 := cnt_flds p.sep s
    have h7 := cnt_le p.sep s
    have h8 : (fdK p (flds p.sep s) (flds p.sep s).length).length * p.out.length ≤ (s.length + s.length) * p.out.length := Nat.mul_le_mul_right _ (by omega)
    rw [Nat.mul_add, Nat.mul_one, Nat.mul_comm 2, ← Nat.mul_assoc, Nat.mul_two]
    rw [Nat.add_mul] at h8
    omega
 ·rw [(ln_bad h).1]; exact Nat.zero_le _
theorem apK_le (p : Spec) (l : List Bs) : ∀ k, (apK p l k).length ≤ lensB (l.take k) * (2 * p.out.length + 1) + k
 | 0 => Nat.zero_le _
 | k + 1 => by
  have ih := apK_le p l k
  cases hx : l[k]? with
  | none =>
   have hle := List.getElem?_eq_none_iff.1 hx
   rw [apK, hx, List.take_of_length_le (by omega : l.length ≤ k + 1)]
   rw [List.take_of_length_le hle] at ih
   dsimp only; omega
  | some x =>
   rw [take_succ_get hx, lensB_app, Nat.add_mul]
   have hx2 := lnB_le p x
   cases hb : lnO p x
   ·rw [apK_n hx hb]; omega
   ·rw [apK_y hx hb]
    simp only [List.length_append, List.length_singleton, lensB, Nat.add_zero]
    omega
theorem lins_len (s : Bs) : (lins s).length ≤ s.length + 1 := by
 have h6 := cnt_flds 10 s
 have h7 := cnt_le 10 s
 have h8 := flO_len 10 s s.length
 unfold lins; split <;> omega
theorem lins_lens (s : Bs) : lensB (lins s) ≤ s.length := by
 have h1 := flds_lens 10 s
 have h2 := flO_lens 10 s s.length (Nat.le_refl _)
 have h3 := flF_le 10 s s.length
 unfold lins; split <;> omega
theorem lens_mem {l : List Bs} {x : Bs} (h : x ∈ l) : x.length ≤ lensB l := by
 induction l with
 | nil => simp at h
 | cons y l ih =>
  simp only [lensB]
  rcases List.mem_cons.1 h with q | q
  ·subst q; omega
  ·have := ih q; omega
theorem apK_bd {p : Spec} {s : Bs} (hs : s.length ≤ 10000000) (hb : s.length * (2 * p.out.length + 1) ≤ 10000000000000) (k : Nat) (hk : k ≤ (lins s).length) : (apK p (lins s) k).length ≤ 10000100000000 := by
 have h1 := apK_le p (lins s) k
 have h2 := lensB_take (lins s) k
 have h3 := lins_lens s
 have h4 := lins_len s
 have h5 : lensB ((lins s).take k) * (2 * p.out.length + 1) ≤ s.length * (2 * p.out.length + 1) := Nat.mul_le_mul_right _ (by omega)
 omega
def spA (seps : Bs) (k : Nat) : Bs := if seps = [] then [] else (seps.drop (k % seps.length)).take 1
theorem sp_at {seps : Bs} (h : ¬ seps = []) (k : Nat) : ((k : Int).tmod (seps.length : Int)).toNat = k % seps.length ∧ k % seps.length < seps.length ∧ 0 ≤ (k : Int).tmod (seps.length : Int) ∧ (k : Int).tmod (seps.length : Int) < seps.length := by
 have hp : 0 < seps.length := List.length_pos_iff.2 h
 have h2 := Nat.mod_lt k hp
 have e : (k : Int).tmod (seps.length : Int) = ((k % seps.length : Nat) : Int) := by
  rw [Int.tmod_eq_emod_of_nonneg (by omega)]; exact (Int.natCast_emod _ _).symm
 rw [e]
 exact ⟨by omega, h2, by omega, by omega⟩
theorem sp_cut {seps : Bs} (h : ¬ seps = []) {j k : Nat} (hj : j = k % seps.length) : (seps.take (j + 1)).drop j = spA seps k := by
 subst hj
 rw [spA, if_neg h, List.drop_take]; congr 1; omega
theorem sp_atI {seps : Bs} (h : ¬ seps = []) {k : Nat} (hk : 0 < (k : Int)) : (((k : Int) - 1).tmod (seps.length : Int)).toNat = (k - 1) % seps.length ∧ (k - 1) % seps.length < seps.length ∧ 0 ≤ ((k : Int) - 1).tmod (seps.length : Int) ∧ ((k : Int) - 1).tmod (seps.length : Int) < seps.length := by
 have := sp_at h (k - 1)
 rw [show (((k - 1 : Nat)) : Int) = (k : Int) - 1 by omega] at this
 exact this
theorem sp_one {seps : Bs} (h : ¬ seps = []) {k : Nat} (hk : 0 < (k : Int)) {c : UInt8} (hc : seps[(((k : Int) - 1).tmod (seps.length : Int)).toNat]? = some c) : spA seps (k - 1) = [c] := by
 rw [(sp_atI h hk).1] at hc
 rw [spA, if_neg h, drop_get hc]; rfl
def rwK (seps : Bs) (l : List Bs) : Nat → Bs
 | 0 => []
 | k + 1 => rwK seps l k ++ (if 0 < k then spA seps (k - 1) else []) ++ l.getD k []
def rwB (seps : Bs) (l : List Bs) : Bs := rwK seps l l.length ++ [10]
theorem rwK_0 {seps : Bs} {l : List Bs} {x : Bs} (h : l[0]? = some x) : rwK seps l 1 = x := by
 rw [rwK, rwK, if_neg (by omega), getD_of h]; rfl
theorem rwK_s {seps : Bs} {l : List Bs} {k : Nat} {x : Bs} (hk : 0 < k) (h : l[k]? = some x) : rwK seps l (k + 1) = rwK seps l k ++ spA seps (k - 1) ++ x := by
 rw [rwK, if_pos hk, getD_of h]
theorem spA_le (seps : Bs) (k : Nat) : (spA seps k).length ≤ 1 := by
 unfold spA; split
 ·simp
 ·rw [List.length_take]; omega
theorem rwK_le (seps : Bs) (l : List Bs) : ∀ k, (rwK seps l k).length ≤ lensB (l.take k) + k
 | 0 => Nat.zero_le _
 | k + 1 => by
  have ih := rwK_le seps l k
  have h1 := spA_le seps (k - 1)
  cases hx : l[k]? with
  | none =>
   have hle := List.getElem?_eq_none_iff.1 hx
   rw [rwK, List.take_of_length_le (by omega : l.length ≤ k + 1), List.length_append, List.length_append]
   rw [List.take_of_length_le hle] at ih
   have : l.getD k [] = [] := by rw [List.getD_eq_getElem?_getD, hx]; rfl
   rw [this]
   split <;> simp <;> omega
  | some x =>
   rw [take_succ_get hx, lensB_app, rwK, getD_of hx, List.length_append, List.length_append]
   simp only [lensB]
   split <;> simp <;> omega
theorem spA_nil (k : Nat) : spA [] k = [] := if_pos rfl
theorem rwK_bd (seps : Bs) {l : List Bs} (hl : l.length ≤ 100000000) (hn : lensB l ≤ 100000000) (k : Nat) (hk : k ≤ l.length) : (rwK seps l k).length ≤ 200000000 := by
 have h1 := rwK_le seps l k
 have h2 := lensB_take l k
 omega
section
variable {seps : Bs} {l : List Bs} {k : Nat} {x : Bs} {c : UInt8} (hx : l[k]? = some x)
include hx
theorem rw3 (h : ¬ seps = []) (hk : 0 < (k : Int)) (hc : seps[(((k : Int) - 1).tmod (seps.length : Int)).toNat]? = some c) : rwK seps l (k + 1) = rwK seps l k ++ [c] ++ x := by rw [rwK_s (by omega) hx, sp_one h hk hc]
theorem rw2 (h : seps = []) (hk : 0 < (k : Int)) : rwK seps l (k + 1) = rwK seps l k ++ x := by subst h; rw [rwK_s (by omega) hx, spA_nil, List.append_nil]
theorem rw1 (hk : ¬ 0 < (k : Int)) : rwK seps l (k + 1) = rwK seps l k ++ x := by
 obtain rfl : k = 0 := by omega
 rw [rwK_0 hx]; rfl
end
def lsts (texts : List Bs) : List (List Bs) := texts.map lins
def mst : List (List Bs) → Nat
 | [] => 0
 | l :: r => max l.length (mst r)
def mstK (ls : List (List Bs)) (k : Nat) : Nat := mst (ls.take k)
def colm (ls : List (List Bs)) (i : Nat) : List Bs := ls.map fun l => l.getD i []
def serK (seps : Bs) (ls : List (List Bs)) : Nat → Bs
 | 0 => []
 | k + 1 => match ls[k]? with
  | some l => serK seps ls k ++ rwB seps l
  | none => serK seps ls k
def parK (seps : Bs) (ls : List (List Bs)) : Nat → Bs
 | 0 => []
 | i + 1 => parK seps ls i ++ rwB seps (colm ls i)
def pstB (texts : List Bs) (seps : Bs) (serial : Bool) : Bs := if serial then serK seps (lsts texts) (lsts texts).length else parK seps (lsts texts) (mst (lsts texts))
theorem mst_app (a b : List (List Bs)) : mst (a ++ b) = max (mst a) (mst b) := by
 induction a with
 | nil => simp [mst]
 | cons x a ih => simp only [List.cons_append, mst, ih]; omega
theorem mstK_s {ls : List (List Bs)} {k : Nat} {l : List Bs} (h : ls[k]? = some l) : mstK ls (k + 1) = max (mstK ls k) l.length := by
 rw [mstK, take_succ_get h, mst_app]; simp [mst, mstK]
theorem mst_le {ls : List (List Bs)} {b : Nat} (h : ∀ l ∈ ls, l.length ≤ b) : mst ls ≤ b := by
 induction ls with
 | nil => exact Nat.zero_le _
 | cons l r ih =>
  have h1 := h l List.mem_cons_self
  have h2 := ih fun x hx => h x (List.mem_cons_of_mem _ hx)
  simp only [mst]; omega
theorem serK_s {seps : Bs} {ls : List (List Bs)} {k : Nat} {l : List Bs} (h : ls[k]? = some l) : serK seps ls (k + 1) = serK seps ls k ++ rwB seps l := by rw [serK, h]
theorem colm_at {ls : List (List Bs)} {k i : Nat} {l : List Bs} (h : ls[k]? = some l) : (colm ls i)[k]? = some (l.getD i []) := by rw [colm, List.getElem?_map, h]; rfl
theorem colm_y {ls : List (List Bs)} {k i : Nat} {l : List Bs} {x : Bs} (h : ls[k]? = some l) (hx : l[i]? = some x) : (colm ls i)[k]? = some x := by rw [colm_at h, getD_of hx]
theorem colm_n {ls : List (List Bs)} {k i : Nat} {l : List Bs} (h : ls[k]? = some l) (hx : ¬ (i : Int) < (l.length : Int)) : (colm ls i)[k]? = some [] := by
 rw [colm_at h, List.getD_eq_getElem?_getD, List.getElem?_eq_none (by omega)]; rfl
theorem colm_len (ls : List (List Bs)) (i : Nat) : (colm ls i).length = ls.length := by simp [colm]
structure PsOk (texts : List Bs) (seps : Bs) : Prop where
 n : texts.length ≤ 20
 t : ∀ t ∈ texts, t.length ≤ 1048576
 s : seps.length ≤ maxLen
theorem rwB_le (seps : Bs) (l : List Bs) : (rwB seps l).length ≤ lensB l + l.length + 1 := by
 have := rwK_le seps l l.length
 rw [List.take_length] at this
 unfold rwB; simp; omega
theorem serK_le {seps : Bs} {ls : List (List Bs)} {b : Nat} (h : ∀ l ∈ ls, lensB l + l.length + 1 ≤ b) : ∀ k, (serK seps ls k).length ≤ k * b
 | 0 => Nat.zero_le _
 | k + 1 => by
  have ih := serK_le (seps := seps) h k
  rw [Nat.add_mul, Nat.one_mul]
  cases hx : ls[k]? with
  | none => rw [serK, hx]; dsimp only; omega
  | some l =>
   rw [serK_s hx]
   have h1 := rwB_le seps l
   have h2 := h l (List.mem_of_getElem? hx)
   simp only [List.length_append]; omega
theorem lensB_le {l : List Bs} {b : Nat} (h : ∀ x ∈ l, x.length ≤ b) : lensB l ≤ l.length * b := by
 induction l with
 | nil => simp [lensB]
 | cons x l ih =>
  have h1 := h x List.mem_cons_self
  have h2 := ih fun y hy => h y (List.mem_cons_of_mem _ hy)
  simp only [lensB, List.length_cons, Nat.add_mul, Nat.one_mul]; omega
theorem parK_le {seps : Bs} {ls : List (List Bs)} {b : Nat} (h : ∀ i, lensB (colm ls i) + ls.length + 1 ≤ b) : ∀ k, (parK seps ls k).length ≤ k * b
 | 0 => Nat.zero_le _
 | k + 1 => by
  have ih := parK_le (seps := seps) h k
  have h1 := rwB_le seps (colm ls k)
  rw [colm_len] at h1
  have h2 := h k
  rw [Nat.add_mul, Nat.one_mul]
  simp only [parK, List.length_append]; omega
section
variable {texts : List Bs} {seps : Bs} (h : PsOk texts seps)
include h
theorem PsOk.ln : (lsts texts).length ≤ 20 := by have := h.n; simpa [lsts] using this
theorem PsOk.el {l : List Bs} (hl : l ∈ lsts texts) : l.length ≤ 1048577 ∧ lensB l ≤ 1048576 := by
 obtain ⟨t, ht, rfl⟩ := List.mem_map.1 hl
 have h1 := lins_len t
 have h2 := lins_lens t
 have h3 := h.t t ht
 omega
theorem PsOk.col (i : Nat) : lensB (colm (lsts texts) i) ≤ 20971520 := by
 have h1 := h.ln
 have := lensB_le (l := colm (lsts texts) i) (b := 1048576) fun x hx => by
  obtain ⟨l, hl, rfl⟩ := List.mem_map.1 hx
  have h2 := h.el hl
  rw [List.getD_eq_getElem?_getD]
  cases hg : l[i]? with
  | none => exact Nat.zero_le _
  | some x => exact Nat.le_trans (lens_mem (List.mem_of_getElem? hg)) h2.2
 rw [colm_len] at this
 omega
theorem PsOk.ser (k : Nat) (hk : k ≤ (lsts texts).length) : (serK seps (lsts texts) k).length ≤ 100000000 := by
 have h1 := h.ln
 have := serK_le (seps := seps) (ls := lsts texts) (b := 2097154) (fun l hl => by have := h.el hl; omega) k
 omega
theorem PsOk.ms : mst (lsts texts) ≤ 1048577 := mst_le fun l hl => (h.el hl).1
theorem PsOk.par (k : Nat) (hk : k ≤ mst (lsts texts)) : (parK seps (lsts texts) k).length ≤ 30000000000000 := by
 have h1 := h.ln
 have h2 := h.ms
 have := parK_le (seps := seps) (ls := lsts texts) (b := 20971541) (fun i => by have := h.col i; omega) k
 omega
end
theorem mstK_le {ls : List (List Bs)} {b : Nat} (h : ∀ l ∈ ls, l.length ≤ b) (k : Nat) : mstK ls k ≤ b := mst_le fun l hl => h l (List.mem_of_mem_take hl)
theorem mstK_all (ls : List (List Bs)) {k : Nat} (hk : ls.length ≤ k) : mstK ls k = mst ls := by rw [mstK, List.take_of_length_le hk]
theorem lsts_len (texts : List Bs) : (lsts texts).length = texts.length := by simp [lsts]
theorem lsts_at {texts : List Bs} {k : Nat} {t : Bs} (h : texts[k]? = some t) : (lsts texts)[k]? = some (lins t) := by rw [lsts, List.getElem?_map, h]; rfl
theorem lsts_s {texts : List Bs} {k : Nat} {t : Bs} (h : texts[k]? = some t) : lsts (texts.take (k + 1)) = lsts (texts.take k) ++ [lins t] := by rw [take_succ_get h, lsts, List.map_append]; rfl
end Go.Proofs.YtfedemnaeggokaaGreatDoor
end
