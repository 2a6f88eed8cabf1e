/- Own texts of this claim, merged: TrG, TrW, TrY, TrL, TrJ. -/
import Derived.Test.YtienfdjfochlcaaGreatDoorPrd
section
namespace Go.Proofs.YtienfdjfochlcaaGreatDoor
set_option linter.unusedVariables false
set_option linter.unusedSimpArgs false
set_option maxRecDepth 100000
set_option maxHeartbeats 4000000
section
variable {X : CallF}
theorem list2_run (D : CS) : (R FT X).f 68 [encCS D] = some (strL (bsL D 256)) := by
 have hm := maxLen_i64
 have hh := has2_run (X := X)
 refine R_wp ((Tr.inv (fun (k : Nat) ↦ St.mk [(1, AV.ptr 0 0), (3, AV.row 1 0 (List.length (bsL D k)) (0 : Nat) (List.length (bsL D k))), (4, intA (↑k : Int))] [MObj.box 52 [w64 (wd D (0 : Nat)), w64 (wd D (1 : Nat)), w64 (wd D (2 : Nat)), w64 (wd D (3 : Nat))], MObj.row 0 1 (List.map u8A (bsL D k)) true (1 : Nat)]) (fun (k : Nat) ↦ k ≤ 256) (fun (k : Nat) ↦ (256 : Nat) - k) fun (k : Nat) ↦ ((Tr.c (boolA (BitVec.getLsbD D (toU8 (↑k : Int)).toNat)) ((Tr.k (List.length (bsL D k) + 1) Tr.nil.w).br Tr.nil.w).w).w.w.br (Tr.bs (bsL D k) Tr.nil)).w).w) rfl ?_
 refine Eq.mpr (by kernel_rfl : _ = ((∃ (j1 : Nat), ((True ∧ ((0 : Nat) = List.length (bsL D j1) ∧ (0 : Nat) = 0 ∧ (0 : Nat) = List.length (bsL D j1)) ∧ (0 : Int) = (↑j1 : Int) ∧ True) ∧ ((↑(wd D (0 : Nat)).toNat : Int) = (↑(wd D (0 : Nat)).toNat : Int) ∧ (↑(wd D (1 : Nat)).toNat : Int) = (↑(wd D (1 : Nat)).toNat : Int) ∧ (↑(wd D (2 : Nat)).toNat : Int) = (↑(wd D (2 : Nat)).toNat : Int) ∧ (↑(wd D (3 : Nat)).toNat : Int) = (↑(wd D (3 : Nat)).toNat : Int)) ∧ [] = List.map u8A (bsL D j1)) ∧ j1 ≤ 256) ∧ ∀ (k : Nat), k ≤ 256 → (decide ((↑k : Int) < 256) = true → (R FT X).f 33 [encCS D, u8A (toU8 (↑k : Int))] = some (boolA (BitVec.getLsbD D (toU8 (↑k : Int)).toNat)) ∧ (BitVec.getLsbD D (toU8 (↑k : Int)).toNat = true → (List.map u8A (bsL D k)).length = List.length (bsL D k) ∧ (0 : Nat) = 0 ∧ List.length (bsL D k) = List.length (bsL D k) ∧ List.length (bsL D k) + [u8A (toU8 (↑k : Int))].length = List.length (bsL D k) + 1 ∧ (List.length (bsL D k) + 1) * 1 ≤ (140737488355328 : Nat) ∧ List.length (bsL D k) + 1 ≤ (9223372036854775807 : Nat) ∧ InI64 ((↑k : Int) + 1) ∧ ∃ (j5 : Nat), ((True ∧ (List.length (bsL D k) + 1 = List.length (bsL
 D j5) ∧ (0 : Nat) = 0 ∧ List.length (bsL D k) + 1 = List.length (bsL D j5)) ∧ (↑k : Int) + 1 = (↑j5 : Int) ∧ True) ∧ ((↑(wd D (0 : Nat)).toNat : Int) = (↑(wd D (0 : Nat)).toNat : Int) ∧ (↑(wd D (1 : Nat)).toNat : Int) = (↑(wd D (1 : Nat)).toNat : Int) ∧ (↑(wd D (2 : Nat)).toNat : Int) = (↑(wd D (2 : Nat)).toNat : Int) ∧ (↑(wd D (3 : Nat)).toNat : Int) = (↑(wd D (3 : Nat)).toNat : Int)) ∧ List.map u8A (bsL D k) ++ [u8A (toU8 (↑k : Int))] = List.map u8A (bsL D j5)) ∧ j5 ≤ 256 ∧ (256 : Nat) - j5 < 256 - k) ∧ (BitVec.getLsbD D (toU8 (↑k : Int)).toNat = false → InI64 ((↑k : Int) + 1) ∧ ∃ (j7 : Nat), ((True ∧ (List.length (bsL D k) = List.length (bsL D j7) ∧ (0 : Nat) = 0 ∧ List.length (bsL D k) = List.length (bsL D j7)) ∧ (↑k : Int) + 1 = (↑j7 : Int) ∧ True) ∧ ((↑(wd D (0 : Nat)).toNat : Int) = (↑(wd D (0 : Nat)).toNat : Int) ∧ (↑(wd D (1 : Nat)).toNat : Int) = (↑(wd D (1 : Nat)).toNat : Int) ∧ (↑(wd D (2 : Nat)).toNat : Int) = (↑(wd D (2 : Nat)).toNat : Int) ∧ (↑(wd D (3 : Nat)).toNat : Int) = (↑(wd D (3 : Nat)).toNat : Int)) ∧ List.map u8A (bsL D k) = List.map u8A (bsL D j7)) ∧ j7 ≤ 256 ∧ (256 : Nat) - j7 < (256 :
 Nat) - k)) ∧ (decide ((↑k : Int) < 256) = false → (List.map u8A (bsL D k)).length = List.length (bsL D k) ∧ bytesL (List.take (List.length (bsL D k)) (List.drop (0 : Nat) (List.map u8A (bsL D k)))) = some (bsL D k) ∧ bsL D k = bsL D (256 : Nat)))) ?_
 refine ⟨⟨(0 : Nat), ⟨⟨trivial, ⟨rfl, rfl, rfl⟩, (by omega), trivial⟩, ⟨rfl, rfl, rfl, rfl⟩, rfl⟩, (by omega)⟩, fun k => fun h2 => ⟨fun h3_ => have h3 := dT h3_; ⟨(hh _ _), fun h4 => ⟨(by simp), rfl, rfl, rfl, ?_, ?_, (by unfold InI64; omega), ⟨k + (1 : Nat), ⟨⟨trivial, ⟨?_, rfl, ?_⟩, (by omega), trivial⟩, ⟨rfl, rfl, rfl, rfl⟩, ?_⟩, ⟨(by omega), (by omega)⟩⟩⟩, fun h6 => ⟨(by unfold InI64; omega), ⟨k + (1 : Nat), ⟨⟨trivial, ⟨?_, rfl, ?_⟩, (by omega), trivial⟩, ⟨rfl, rfl, rfl, rfl⟩, ?_⟩, ⟨(by omega), (by omega)⟩⟩⟩⟩, fun h8_ => have h8 := dF h8_; ⟨(by simp), (by first | exact bytesL_map _ | (rw [List.drop_zero, List.take_of_length_le (by simp)]; exact bytesL_map _) | (simp only [← List.map_take, ← List.map_drop]; exact bytesL_map _) | (rw [← List.map_replicate (f := u8A), ← List.map_append, ← List.map_drop, ← List.map_take]; exact bytesL_map _)), ?_⟩⟩⟩
 all_goals have hb := bsL_len D k
 all_goals have ek : k < 256 → (toU8 (k : Int)).toNat = k := toU8_k
 all_goals try rw [ek (by omega)] at h4
 all_goals try rw [ek (by omega)] at h6
 all_goals first
  | omega
  | (rw [bsL_succ, if_pos h4, List.length_append]; rfl)
  | (rw [bsL_succ, if_pos h4, List.map_append, toU8_nat]; rfl)
  | (rw [bsL_succ, if_neg (by rw [h6]; simp)]; done)
  | (rw [show k = 256 by omega]; done)
theorem count2_run (D : CS) : (R FT X).f 31 [encCS D] = some (intA (card D)) := by
 have hm := maxLen_i64
 have hl := list2_run (X := X) D
 have hc := bsL_len D 256
 refine R_wp (Tr.c (strL (bsL D (256 : Nat))) Tr.nil) rfl ?_
 refine Eq.mpr (by kernel_rfl : _ = ((R FT X).f 68 [encCS D] = some (strL (bsL D (256 : Nat))) ∧ (↑(List.length (bsL D (256 : Nat))) : Int) = (↑(card D) : Int))) ?_
 refine ⟨(hl), rfl⟩
theorem returns_y (haw : (R FT X).f 24 [] = some (boolA true)) (hI : LibT X) (a b s : Bs) (hl : a.length ≤ 30) (hb : b.length = a.length) (h0 : 0 < a.length) (hs : s.length ≤ 300) (hab : (a ++ b).Nodup) (hcd : card (setOf (a ++ b)) = 2 * a.length) (n : Bs) (W : List AV) (A B : Bs) (hV : (R FT X).f 34 [] = some (lvA n W A B))
    (t : Bs) (ht : t = s.map (mp1 a b)) : (R FT X).f 11 [strL a, strL b, strL s] = some (boolA true) := by
  have hm := maxLen_i64
  have htl : t.length = s.length := by rw [ht, List.length_map]
  have oa := octal_run (X := X) a (by omega)
  have ob := octal_run (X := X) b (by omega)
  have p1 := parse_t hI n W A B a b hl hb h0
  have p2 := parse_t hI n W A B b a (by omega) hb.symm (by omega)
  rw [hb] at p2
  have hM : ∀ x y k, (mpK x y k).length ≤ maxLen := fun x y k => by rw [mpK_len]; unfold maxLen; omega
  have a1 := apply_run (X := X) 0 (mpK a b a.length) 0 (hM _ _ _) s (by omega)
  have a2 := apply_run (X := X) 0 (mpK b a a.length) 0 (hM _ _ _) t (by omega)
  rw [show apS 0 (mpK a b a.length) 0 s = t from by rw [apS, if_pos (mpK_len _ _ _), fd_map, ht]; rfl] at a1
  have of1 := of2_run (X := X) (a ++ b) (by rw [List.length_append]; unfold maxLen; omega)
  have of2 := of2_run (X := X) a (by unfold maxLen; omega)
  have of3 := of2_run (X := X) b (by unfold maxLen; omega)
  have ct := count2_run (X := X) (setOf (a ++ b))
  rw [hcd] at ct
  have hh := has2_run (X := X)
  refine R_wp ((Tr.b false (Tr.b false ((Tr.b true (Tr.b true (Tr.c (boolA true) Tr.nil)).w).br (Tr.b false (Tr.c (encCS (setOf (a ++ b))) (Tr.c (intA (↑((2 : Nat) * List.length a) : Int)) (Tr.b false (Tr.inv (fun (k : Nat) ↦ St.mk [(0, strL a), (1, strL b), (2, strL s), (7, intA (↑k : Int))] []) (fun (k : Nat) ↦ k ≤ List.length s ∧ ∀ (c : UInt8), c ∈ List.take k s → BitVec.getLsbD (setOf b) c.toNat = false) (fun (k : Nat) ↦ List.length s - k) fun (k : Nat) ↦ ((Tr.c (encCS (setOf b)) (Tr.y k fun (c8 : UInt8) ↦ Tr.c (boolA (BitVec.getLsbD (setOf b) c8.toNat)) ((Tr.c (boolA true) Tr.nil).br Tr.nil.w).w)).w.w.br (Tr.c (lvA n W A B) (Tr.c (strL (octS a)) (Tr.c (strL (octS b)) (Tr.g (List.map strL [toL (ByteArray.mk #[(45 : UInt8), (45 : UInt8)]), octS a, octS b]) (Tr.c (AV.tuple [encSp (0 : CS) (mpK a b (List.length a)) (0 : CS), intA 0, intA 0]) (Tr.c (lvA n W A B) (Tr.c (strL (octS b)) (Tr.c (strL (octS a)) (Tr.g (List.map strL [toL (ByteArray.mk #[(45 : UInt8), (45 : UInt8)]), octS b, octS a]) (Tr.c (AV.tuple [encSp (0 : CS) (mpK b a (List.length a)) (0 : CS), intA 0, intA 0]) (Tr.b false (Tr.b false (Tr.c (strL t) (Tr.inv (fun (q : Nat)
  ↦ St.mk [(0, strL a), (2, strL s), (11, AV.ptr 3 0), (14, strL t), (15, intA (↑q : Int))] [MObj.row 0 1 [strL [(45 : UInt8), (45 : UInt8)], strL (octS a), strL (octS b)] true (1 : Nat), MObj.box 54 [w64 (0 : BitVec (64 : Nat)), w64 (0 : BitVec (64 : Nat)), w64 (0 : BitVec (64 : Nat)), w64 (0 : BitVec (64 : Nat)), strL (mpK a b (List.length a)), w64 (0 : BitVec (64 : Nat)), w64 (0 : BitVec (64 : Nat)), w64 (0 : BitVec (64 : Nat)), w64 (0 : BitVec (64 : Nat))], MObj.row 0 1 [strL [(45 : UInt8), (45 : UInt8)], strL (octS b), strL (octS a)] true (1 : Nat), MObj.box 54 [w64 (0 : BitVec (64 : Nat)), w64 (0 : BitVec (64 : Nat)), w64 (0 : BitVec (64 : Nat)), w64 (0 : BitVec (64 : Nat)), strL (mpK b a (List.length a)), w64 (0 : BitVec (64 : Nat)), w64 (0 : BitVec (64 : Nat)), w64 (0 : BitVec (64 : Nat)), w64 (0 : BitVec (64 : Nat))]]) (fun (q : Nat) ↦ q ≤ List.length t) (fun (q : Nat) ↦ List.length t - q) fun (q : Nat) ↦ ((Tr.c (encCS (setOf a)) (Tr.y q fun (c19 : UInt8) ↦ Tr.c (boolA (BitVec.getLsbD (setOf a) c19.toNat)) (Tr.nil.br Tr.nil.w).w)).w.w.br (Tr.b true (Tr.c (strL (apS (0
  : CS) (mpK b a (List.length a)) (0 : CS) t)) ((Tr.c (boolA true) Tr.nil).br Tr.nil))).w).w).w)).w).w))))))))))).w).w).w.w)).w)))).w) rfl ?_
  refine Eq.mpr (by kernel_rfl : _ = (decide ((30 : Int) < (↑(List.length a) : Int)) = false ∧ (!decide ((↑(List.length a) : Int) = (↑(List.length b) : Int))) = false ∧ (decide (a = []) = true → true = true ∧ true = true ∧ (R FT X).f 24 [] = some (boolA true) ∧ true = true) ∧ (decide (a = []) = false → decide ((300 : Int) < (↑(List.length s) : Int)) = false ∧ List.length a + List.length b ≤ 9223372036854775807 ∧ (R FT X).f 32 [strL (a ++ b)] = some (encCS (setOf (a ++ b))) ∧ (R FT X).f 31 [encCS (setOf (a ++ b))] = some (intA (↑((2 : Nat) * List.length a) : Int)) ∧ InI64 ((2 : Int) * (↑(List.length a) : Int)) ∧ (!decide ((↑((2 : Nat) * List.length a) : Int) = 2 * (↑(List.length a) : Int))) = false ∧ (∃ (j3 : Nat), ((a = a ∧ b = b ∧ s = s ∧ (0 : Int) = (↑j3 : Int) ∧ True) ∧ True) ∧ j3 ≤ List.length s ∧ ∀ (c4 : UInt8), c4 ∈ List.take j3 s → BitVec.getLsbD (setOf b) c4.toNat = false) ∧ ∀ (k : Nat), (k ≤ List.length s ∧ ∀ (c : UInt8), c ∈ List.take k s → BitVec.getLsbD (setOf b) c.toNat = false) → (decide ((↑k : Int) < (↑(List.length s) : Int)) = true → (R FT X).f 32 [strL b] = some (encCS (setOf b)) ∧ (↑k : Int) = (↑k : Int) ∧ k < List.length s ∧ ∀ (c8 : UInt8), s[k]?
  = some c8 → (R FT X).f 33 [encCS (setOf b), u8A c8] = some (boolA (BitVec.getLsbD (setOf b) c8.toNat)) ∧ (BitVec.getLsbD (setOf b) c8.toNat = true → (R FT X).f 24 [] = some (boolA true) ∧ true = true) ∧ (BitVec.getLsbD (setOf b) c8.toNat = false → InI64 ((↑k : Int) + 1) ∧ ∃ (j12 : Nat), ((a = a ∧ b = b ∧ s = s ∧ (↑k : Int) + 1 = (↑j12 : Int) ∧ True) ∧ True) ∧ (j12 ≤ List.length s ∧ ∀ (c13 : UInt8), c13 ∈ List.take j12 s → BitVec.getLsbD (setOf b) c13.toNat = false) ∧ List.length s - j12 < List.length s - k)) ∧ (decide ((↑k : Int) < (↑(List.length s) : Int)) = false → (R FT X).f 34 [] = some (lvA n W A B) ∧ (R FT X).f 35 [strL a] = some (strL (octS a)) ∧ (R FT X).f 35 [strL b] = some (strL (octS b)) ∧ (3 : Nat) = 3 ∧ List.take (3 : Nat) (List.drop (0 : Nat) [AV.val (Value.string (ByteArray.mk #[(45 : UInt8), (45 : UInt8)])), strL (octS a), strL (octS b)]) = List.map strL [[(45 : UInt8), (45 : UInt8)], octS a, octS b] ∧ (R FT X).f 28 [lvA n W A B, AV.slice 1 [strL [(45 : UInt8), (45 : UInt8)], strL (octS a), strL (octS b)]] = some (AV.tuple [encSp (0 : CS) (mpK a b (List.length a)) (0 : CS),
  intA 0, intA 0]) ∧ (R FT X).f 34 [] = some (lvA n W A B) ∧ (R FT X).f 35 [strL b] = some (strL (octS b)) ∧ (R FT X).f 35 [strL a] = some (strL (octS a)) ∧ (3 : Nat) = 3 ∧ List.take (3 : Nat) (List.drop (0 : Nat) [AV.val (Value.string (ByteArray.mk #[(45 : UInt8), (45 : UInt8)])), strL (octS b), strL (octS a)]) = List.map strL [[(45 : UInt8), (45 : UInt8)], octS b, octS a] ∧ (R FT X).f 28 [lvA n W A B, AV.slice 1 [strL [(45 : UInt8), (45 : UInt8)], strL (octS b), strL (octS a)]] = some (AV.tuple [encSp (0 : CS) (mpK b a (List.length a)) (0 : CS), intA 0, intA 0]) ∧ false = false ∧ false = false ∧ (R FT X).f 36 [encSp (0 : CS) (mpK a b (List.length a)) (0 : CS), strL s] = some (strL t) ∧ (∃ (j16 : Nat), ((a = a ∧ s = s ∧ True ∧ t = t ∧ (0 : Int) = (↑j16 : Int) ∧ True) ∧ [AV.val (Value.string (ByteArray.mk #[(45 : UInt8), (45 : UInt8)])), strL (octS a), strL (octS b)] = [strL [(45 : UInt8), (45 : UInt8)], strL (octS a), strL (octS b)] ∧ ((0 : Int) = 0 ∧ (0 : Int) = 0 ∧ (0 : Int) = 0 ∧ (0 : Int) = 0 ∧ mpK a b (List.length a) = mpK a b (List.length a) ∧ (0
  : Int) = 0 ∧ (0 : Int) = 0 ∧ (0 : Int) = 0 ∧ (0 : Int) = 0) ∧ [AV.val (Value.string (ByteArray.mk #[(45 : UInt8), (45 : UInt8)])), strL (octS b), strL (octS a)] = [strL [(45 : UInt8), (45 : UInt8)], strL (octS b), strL (octS a)] ∧ (0 : Int) = 0 ∧ (0 : Int) = 0 ∧ (0 : Int) = 0 ∧ (0 : Int) = 0 ∧ mpK b a (List.length a) = mpK b a (List.length a) ∧ (0 : Int) = 0 ∧ (0 : Int) = 0 ∧ (0 : Int) = 0 ∧ (0 : Int) = 0) ∧ j16 ≤ List.length t) ∧ ∀ (q : Nat), q ≤ List.length t → (decide ((↑q : Int) < (↑(List.length t) : Int)) = true → (R FT X).f 32 [strL a] = some (encCS (setOf a)) ∧ (↑q : Int) = (↑q : Int) ∧ q < List.length t ∧ ∀ (c19 : UInt8), t[q]? = some c19 → (R FT X).f 33 [encCS (setOf a), u8A c19] = some (boolA (BitVec.getLsbD (setOf a) c19.toNat)) ∧ (BitVec.getLsbD (setOf a) c19.toNat = true → false = true) ∧ (BitVec.getLsbD (setOf a) c19.toNat = false → InI64 ((↑q : Int) + 1) ∧ ∃ (j23 : Nat), ((a = a ∧ s = s ∧ True ∧ t = t ∧ (↑q : Int) + 1 = (↑j23 : Int) ∧ True) ∧ [strL [(45 : UInt8), (45 : UInt8)], strL (octS a), strL (octS b)] = [strL [(45 : UInt8), (45 :
  UInt8)], strL (octS a), strL (octS b)] ∧ ((0 : Int) = 0 ∧ (0 : Int) = 0 ∧ (0 : Int) = 0 ∧ (0 : Int) = 0 ∧ mpK a b (List.length a) = mpK a b (List.length a) ∧ (0 : Int) = 0 ∧ (0 : Int) = 0 ∧ (0 : Int) = 0 ∧ (0 : Int) = 0) ∧ [strL [(45 : UInt8), (45 : UInt8)], strL (octS b), strL (octS a)] = [strL [(45 : UInt8), (45 : UInt8)], strL (octS b), strL (octS a)] ∧ (0 : Int) = 0 ∧ (0 : Int) = 0 ∧ (0 : Int) = 0 ∧ (0 : Int) = 0 ∧ mpK b a (List.length a) = mpK b a (List.length a) ∧ (0 : Int) = 0 ∧ (0 : Int) = 0 ∧ (0 : Int) = 0 ∧ (0 : Int) = 0) ∧ j23 ≤ List.length t ∧ List.length t - j23 < List.length t - q)) ∧ (decide ((↑q : Int) < (↑(List.length t) : Int)) = false → decide ((↑(List.length t) : Int) = (↑(List.length s) : Int)) = true ∧ (R FT X).f 36 [encSp (0 : CS) (mpK b a (List.length a)) (0 : CS), strL t] = some (strL (apS (0 : CS) (mpK b a (List.length a)) (0 : CS) t)) ∧ (decide (apS (0 : CS) (mpK b a (List.length a)) (0 : CS) t = s) = true → (R FT X).f 24 [] = some (boolA true) ∧ true = true) ∧ (decide (apS (0 : CS) (mpK b a (List.length a))
  (0 : CS) t = s) = false → false = true)))))) ?_
  refine ⟨(fD (by omega)), (fnD (by omega)), fun h1_ => have h1 := dT h1_; ⟨rfl, rfl, haw, rfl⟩, fun h2_ => have h2 := dF h2_; ⟨(fD (by omega)), (by omega), (of1), ct, (by unfold InI64; omega), (fnD (by omega)), ⟨(0 : Nat), ⟨⟨rfl, rfl, rfl, (by omega), trivial⟩, trivial⟩, ⟨(by omega), fun c4 => fun h5 => ?_⟩⟩, fun k => fun h6 => have h6a := h6.1; have h6b := h6.2; ⟨fun h7_ => have h7 := dT h7_; ⟨(of3), rfl, (by omega), fun c8 => fun h9 => ⟨(hh _ _), fun h10 => ⟨haw, rfl⟩, fun h11 => ⟨(by unfold InI64; omega), ⟨k + (1 : Nat), ⟨⟨rfl, rfl, rfl, (by omega), trivial⟩, trivial⟩, ⟨⟨(by omega), fun c13 => fun h14 => ?_⟩, (by omega)⟩⟩⟩⟩⟩, fun h15_ => have h15 := dF h15_; ⟨hV, (oa), (ob), rfl, rfl, (p1), hV, (ob), (oa), rfl, rfl, p2, rfl, rfl, a1, ⟨(0 : Nat), ⟨⟨rfl, rfl, trivial, rfl, (by omega), trivial⟩, rfl, ⟨rfl, rfl, rfl, rfl, rfl, rfl, rfl, rfl, rfl⟩, rfl, rfl, rfl, rfl, rfl, rfl, rfl, rfl, rfl, rfl⟩, (by omega)⟩, fun q => fun h17 => ⟨fun h18_ => have h18 := dT h18_; ⟨(of2), rfl, (by omega), fun c19 => fun h20 => ⟨(hh _ _), fun h21 => ?_, fun h22 => ⟨(by unfold InI64; omega), ⟨q + (1 : Nat), ⟨⟨rfl, rfl, trivial, rfl, (by omega), trivial⟩, rfl, ⟨rfl, rfl, rfl, rfl, rfl, rfl, rfl, rfl, rfl⟩, rfl, rfl, rfl, rfl, rfl, rfl, rfl, rfl, rfl, rfl⟩, ⟨(by omega), (by omega)⟩⟩⟩⟩⟩, fun h24_ => have h24 := dF h24_; ⟨(tD (by omega)), a2, fun h25_ => have h25 := dT h25_; ⟨haw, rfl⟩, fun h26_ => have h26 := dF h26_; ?_⟩⟩⟩⟩⟩⟩
  all_goals have hbk : ∀ c, c ∈ a → (setOf a).getLsbD c.toNat = true := fun c h => (mem_setOf a c).2 h
  · rw [List.take_zero] at h5; cases h5
  · rw [take_succ_get h9] at h14
    rcases List.mem_append.1 h14 with q | q
    · exact h6b _ q
    · rw [List.mem_singleton.1 q]; exact h11
  · exfalso
    have q1 := List.mem_of_getElem? h20
    rw [ht] at q1
    obtain ⟨c, hc, e⟩ := List.mem_map.1 q1
    have q2 := (mem_setOf a c19).1 h21
    rw [← e] at q2
    exact mp1_not hab hb q2
  · refine absurd ?_ h26
    rw [apS, if_pos (mpK_len _ _ _), fd_map, ht, List.map_map]
    have hs2 : ∀ c ∈ s, c ∉ b := fun c hc hm => by
      have q := h6b c (by rw [List.take_of_length_le (by omega)]; exact hc)
      rw [(mem_setOf b c).2 hm] at q; cases q
    conv => rhs; rw [← List.map_id s]
    refine List.map_congr_left fun c hc => ?_
    show (mpK b a a.length).getD (mp1 a b c).toNat 0 = c
    have q := mp1_back hab hb (hs2 c hc)
    rw [mp1, hb] at q
    exact q
theorem returns_o (haw : (R FT X).f 24 [] = some (boolA true)) (a b s : Bs) (h : ¬ (a.length ≤ 30 ∧ a.length = b.length ∧ s.length ≤ 300)) : (R FT X).f 11 [strL a, strL b, strL s] = some (boolA true) := by
 have hm := maxLen_i64
 refine R_wp (((Tr.b true (Tr.b true (Tr.b true (Tr.b true (Tr.c (boolA true) Tr.nil)).w))).br ((Tr.b true (Tr.b true (Tr.b true (Tr.c (boolA true) Tr.nil)).w)).br ((Tr.b true (Tr.b true (Tr.c (boolA true) Tr.nil)).w).br (Tr.b true (Tr.b true (Tr.c (boolA true) Tr.nil)).w)))).w) rfl ?_
 refine Eq.mpr (by kernel_rfl : _ = ((decide ((30 : Int) < (↑(List.length a) : Int)) = true → true = true ∧ true = true ∧ true = true ∧ true = true ∧ (R FT X).f 24 [] = some (boolA true) ∧ true = true) ∧ (decide ((30 : Int) < (↑(List.length a) : Int)) = false → ((!decide ((↑(List.length a) : Int) = (↑(List.length b) : Int))) = true → true = true ∧ true = true ∧ true = true ∧ (R FT X).f 24 [] = some (boolA true) ∧ true = true) ∧ ((!decide ((↑(List.length a) : Int) = (↑(List.length b) : Int))) = false → (decide (a = []) = true → true = true ∧ true = true ∧ (R FT X).f 24 [] = some (boolA true) ∧ true = true) ∧ (decide (a = []) = false → decide ((300 : Int) < (↑(List.length s) : Int)) = true ∧ true = true ∧ (R FT X).f 24 [] = some (boolA true) ∧ true = true))))) ?_
 refine ⟨fun h1_ => have h1 := dT h1_; ⟨rfl, rfl, rfl, rfl, haw, rfl⟩, fun h2_ => have h2 := dF h2_; ⟨fun h3_ => have h3 := dnT h3_; ⟨rfl, rfl, rfl, haw, rfl⟩, fun h4_ => have h4 := dnF h4_; ⟨fun h5_ => have h5 := dT h5_; ⟨rfl, rfl, haw, rfl⟩, fun h6_ => have h6 := dF h6_; ⟨(tD (by omega)), rfl, haw, rfl⟩⟩⟩⟩
theorem returns_e (haw : (R FT X).f 24 [] = some (boolA true)) (b s : Bs) (hb : b.length = 0) : (R FT X).f 11 [strL [], strL b, strL s] = some (boolA true) := by
 have hm := maxLen_i64
 refine R_wp ((Tr.b false ((Tr.b true (Tr.b true (Tr.b true (Tr.c (boolA true) Tr.nil)).w)).br (Tr.b true (Tr.b true (Tr.b true (Tr.c (boolA true) Tr.nil)).w)))).w) rfl ?_
 refine Eq.mpr (by kernel_rfl : _ = (false = false ∧ ((!decide ((↑(@List.nil UInt8).length : Int) = (↑(List.length b) : Int))) = true → true = true ∧ true = true ∧ true = true ∧ (R FT X).f 24 [] = some (boolA true) ∧ true = true) ∧ ((!decide ((↑(@List.nil UInt8).length : Int) = (↑(List.length b) : Int))) = false → true = true ∧ true = true ∧ true = true ∧ (R FT X).f 24 [] = some (boolA true) ∧ true = true))) ?_
 refine ⟨rfl, fun h1_ => have h1 := dnT h1_; ⟨rfl, rfl, rfl, haw, rfl⟩, fun h2_ => have h2 := dnF h2_; ⟨rfl, rfl, rfl, haw, rfl⟩⟩
theorem returns_c (haw : (R FT X).f 24 [] = some (boolA true)) (a b s : Bs) (hl : a.length ≤ 30) (hb : b.length = a.length) (h0 : 0 < a.length) (hs : s.length ≤ 300) (hcd : ¬ card (setOf (a ++ b)) = 2 * a.length) : (R FT X).f 11 [strL a, strL b, strL s] = some (boolA true) := by
 have hm := maxLen_i64
 have of1 := of2_run (X := X) (a ++ b) (by rw [List.length_append]; unfold maxLen; omega)
 have ct := count2_run (X := X) (setOf (a ++ b))
 refine R_wp ((Tr.b false (Tr.b false ((Tr.b true (Tr.b true (Tr.c (boolA true) Tr.nil)).w).br (Tr.b false (Tr.c (encCS (setOf (a ++ b))) (Tr.c (intA (↑(card (setOf (a ++ b))) : Int)) (Tr.b true (Tr.c (boolA true) Tr.nil)).w.w)).w)))).w) rfl ?_
 refine Eq.mpr (by kernel_rfl : _ = (decide ((30 : Int) < (↑(List.length a) : Int)) = false ∧ (!decide ((↑(List.length a) : Int) = (↑(List.length b) : Int))) = false ∧ (decide (a = []) = true → true = true ∧ true = true ∧ (R FT X).f 24 [] = some (boolA true) ∧ true = true) ∧ (decide (a = []) = false → decide ((300 : Int) < (↑(List.length s) : Int)) = false ∧ List.length a + List.length b ≤ 9223372036854775807 ∧ (R FT X).f 32 [strL (a ++ b)] = some (encCS (setOf (a ++ b))) ∧ (R FT X).f 31 [encCS (setOf (a ++ b))] = some (intA (↑(card (setOf (a ++ b))) : Int)) ∧ InI64 ((2 : Int) * (↑(List.length a) : Int)) ∧ (!decide ((↑(card (setOf (a ++ b))) : Int) = 2 * (↑(List.length a) : Int))) = true ∧ (R FT X).f 24 [] = some (boolA true) ∧ true = true))) ?_
 refine ⟨(fD (by omega)), (fnD (by omega)), fun h1_ => have h1 := dT h1_; ⟨rfl, rfl, haw, rfl⟩, fun h2_ => have h2 := dF h2_; ⟨(fD (by omega)), (by omega), (of1), (ct), (by unfold InI64; omega), (tnD (by omega)), haw, rfl⟩⟩
end
end Go.Proofs.YtienfdjfochlcaaGreatDoor
end
section
namespace Go.Proofs.YtienfdjfochlcaaGreatDoor
section
variable {F F' : FuncId → Option AFunc} {X X' : CallF}
theorem Lp_via {c0 : CallF} (h : CLe c0 (R F X)) (b : Nat) : ∀ n, LLe (loopK c0 b n) (Lp F X b) := by
 intro n
 induction n with
 | zero => intro c ks st r hs; simp [loopK] at hs
 | succ n ih =>
  intro c ks st r hs
  simp only [loopK] at hs
  split at hs
  ·rename_i st' hst
   exact Lp_step (aexec_mono h ih hst) (ih _ _ _ _ hs)
  ·rename_i r' hr
   rcases hq : aexec c0 b (loopK c0 b n) c (normSt b ks st) with _ | ⟨ex, st1⟩
   ·rw [hq] at hs; cases hs
   ·rw [hq] at hs
    cases hs
    cases ex with
    | normal => exact absurd hq (hr _)
    | exit i => exact Lp_exit (aexec_mono h ih hq)
    | ret => exact Lp_ret (aexec_mono h ih hq)
theorem run_via (h1 : ∀ f fn, F' f = some fn → F f = some fn)
    (h2 : ∀ f vs r, F' f = none → X'.f f vs = some r → (R F X).f f vs = some r)
    (h3 : ∀ f vs m r, F' f = none → X'.m f vs m = some r → (R F X).m f vs m = some r) : ∀ n, CLe (runF F' X' n) (R F X) := by
  intro n
  induction n with
  | zero => exact ⟨fun f vs r h => by simp [runF] at h, fun f vs m r h => by simp [runF] at h⟩
  | succ n ih =>
    refine ⟨fun f vs r h => ?_, fun f vs m r h => ?_⟩
    · simp only [runF] at h
      split at h
      · rename_i fn hfn
        exact R_body (h1 _ _ hfn) (runBody_mono ih (Lp_via ih 0 n) h)
      · rename_i hn
        exact h2 _ _ _ hn h
    · simp only [runF] at h
      split at h
      · rename_i fn hfn
        exact RM_body (h1 _ _ hfn) (runBodyM_mono ih (Lp_via ih _ n) h)
      · rename_i hn
        exact h3 _ _ _ _ hn h
def lessF (F : FuncId → Option AFunc) (l : List FuncId) (f : FuncId) : Option AFunc := if l.contains f then none else F f
def moreX (X : CallF) (t : FuncId → List AV → Option AV) (l : List FuncId) : CallF := ⟨fun f vs => if l.contains f then t f vs else X.f f vs, fun f vs m => if l.contains f then none else X.m f vs m⟩
theorem R_via {l : List FuncId} {t : FuncId → List AV → Option AV} (ht : ∀ f vs r, f ∈ l → t f vs = some r → (R F X).f f vs = some r) {n : Nat} {f : FuncId} {vs : List AV} {r : AV}
    (h : (runF (lessF F l) (moreX X t l) n).f f vs = some r) : (R F X).f f vs = some r := by
  refine (run_via (F := F) (X := X) (F' := lessF F l) (X' := moreX X t l) (fun f fn h => ?_) (fun f vs r h h' => ?_) (fun f vs m r h h' => ?_) n).1 f vs r h
  · unfold lessF at h
    split at h
    · cases h
    · exact h
  · unfold lessF at h
    simp only [moreX] at h'
    split at h'
    · rename_i hc
      exact ht _ _ _ (List.contains_iff_mem.1 hc) h'
    · rename_i hc
      rw [if_neg hc] at h
      exact R_ext h h'
  · unfold lessF at h
    simp only [moreX] at h'
    split at h'
    · cases h'
    · rename_i hc
      rw [if_neg hc] at h
      exact RM_ext h h'
end
end Go.Proofs.YtienfdjfochlcaaGreatDoor
end
section
namespace Go.Proofs.YtienfdjfochlcaaGreatDoor
set_option linter.unusedVariables false
set_option linter.unusedSimpArgs false
set_option maxRecDepth 100000
def known (f : FuncId) (vs : List AV) : Option AV := match vs with
 | [] => if f = 34 then some defV else if f = 65 then some (.agg (((List.range 256).map UInt8.ofNat).map u8A)) else none
 | _ => none
theorem known_ok {X : CallF} (f : FuncId) (vs : List AV) (r : AV) (h : known f vs = some r) : (R FT X).f f vs = some r := by
 unfold known at h
 split at h
 ·split at h
  ·rename_i e; subst e; cases h; exact def2_run
  ·split at h
   ·rename_i e; subst e; cases h; exact identity_run
   ·cases h
 ·cases h
theorem awake_run : (R FT XS).f 24 [] = some (boolA true) :=
 R_via (l := [34, 65]) (t := known) (fun f vs r _ h => known_ok f vs r h) (n := 40) (by kernel_rfl)
end Go.Proofs.YtienfdjfochlcaaGreatDoor
end
section
namespace Go.Proofs.YtienfdjfochlcaaGreatDoor
theorem libT_XS : LibT XS := ⟨fun s c => R_ext rfl (by
    have e : idxX [strL s, u8A c] = some (intA (Lib.indexByte s c)) := by
      show some (intA (Lib.indexByte s (Int.toNat (c.toNat : Int)).toUInt8)) = _
      rw [Int.toNat_natCast, show c.toNat.toUInt8 = c from UInt8.ofNat_toNat]
    exact e), fun s p => R_ext rfl rfl⟩
end Go.Proofs.YtienfdjfochlcaaGreatDoor
end
section
namespace Go.Proofs.YtienfdjfochlcaaGreatDoor
theorem returns_law (haw : (R FT XS).f 24 [] = some (boolA true)) (a : Bs) (_ : a.length ≤ maxLen) (b : Bs) (_ : b.length ≤ maxLen) (s : Bs) (_ : s.length ≤ maxLen) : (R FT XS).f 11 [strL a, strL b, strL s] = some (boolA true) := by
 by_cases h : a.length ≤ 30 ∧ a.length = b.length ∧ s.length ≤ 300
 ·obtain ⟨h1, h2, h3⟩ := h
  by_cases h0 : a = []
  ·subst h0; exact returns_e haw b s h2.symm
  ·have hp : 0 < a.length := List.length_pos_iff.2 h0
   by_cases hc : card (setOf (a ++ b)) = 2 * a.length
   ·exact returns_y haw libT_XS a b s h1 h2.symm hp h3 (card_nodup (by rw [hc, List.length_append]; omega)) hc _ _ _ _ def2_run _ rfl
   ·exact returns_c haw a b s h1 h2.symm hp h3 hc
 ·exact returns_o haw a b s h
end Go.Proofs.YtienfdjfochlcaaGreatDoor
end
