/- Comm: the comparison is an order; the example of the chapter; columns; the statements. -/
import Derived.Test.YtbdmioekohmcnaaCoP
import Derived.Test.YtbdmioekohmcnaaCo3
namespace Go.Proofs.Ytbdmioekohmcnaa
set_option linter.unusedVariables false
set_option linter.unusedSimpArgs false
set_option maxRecDepth 100000
set_option maxHeartbeats 4000000
theorem ord_rng : ∀ a b : List Int, -1 ≤ ord a b ∧ ord a b ≤ 1
  | [], [] => by simp [ord]
  | [], _ :: _ => by simp [ord]
  | _ :: _, [] => by simp [ord]
  | x :: a, y :: b => by
    have ih := ord_rng a b
    simp only [ord]
    split
    · omega
    · split <;> omega
theorem ord_anti : ∀ a b : List Int, ord b a = - ord a b
  | [], [] => by simp [ord]
  | [], _ :: _ => by simp [ord]
  | _ :: _, [] => by simp [ord]
  | x :: a, y :: b => by
    have ih := ord_anti a b
    simp only [ord]
    split <;> split <;> (try split) <;> omega
theorem ord_zero : ∀ {a b : List Int}, ord a b = 0 → a = b
  | [], [], _ => rfl
  | [], _ :: _, h => by simp [ord] at h
  | _ :: _, [], h => by simp [ord] at h
  | x :: a, y :: b, h => by
    simp only [ord] at h
    split at h
    · omega
    · split at h
      · omega
      · rw [ord_zero h, show x = y by omega]
theorem ord_self : ∀ a : List Int, ord a a = 0
  | [] => rfl
  | x :: a => by simp only [ord, Int.lt_irrefl, gt_iff_lt, if_false]; exact ord_self a
theorem ord_trans : ∀ {a b c : List Int}, ord a b ≤ 0 → ord b c ≤ 0 → ord a c ≤ 0 ∧ (ord a b < 0 ∨ ord b c < 0 → ord a c < 0)
  | [], [], [], _, _ => by simp [ord]
  | [], [], _ :: _, _, _ => by simp [ord]
  | [], _ :: _, [], _, h => by simp [ord] at h
  | [], _ :: _, _ :: _, _, _ => by simp [ord]
  | _ :: _, [], _, h, _ => by simp [ord] at h
  | _ :: _, _ :: _, [], _, h => by simp [ord] at h
  | x :: a, y :: b, z :: c, h1, h2 => by
    simp only [ord] at h1 h2 ⊢
    by_cases e1 : x < y
    · rw [if_pos e1] at h1 ⊢
      by_cases e2 : y < z
      · rw [if_pos (by omega : x < z)]; omega
      · rw [if_neg e2] at h2 ⊢
        by_cases e3 : y > z
        · rw [if_pos e3] at h2; omega
        · rw [if_pos (by omega : x < z)]; omega
    · rw [if_neg e1] at h1 ⊢
      by_cases e4 : x > y
      · rw [if_pos e4] at h1; omega
      · rw [if_neg e4] at h1 ⊢
        obtain rfl : x = y := by omega
        by_cases e2 : x < z
        · simp only [if_pos e2]; omega
        · rw [if_neg e2] at h2
          by_cases e3 : x > z
          · rw [if_pos e3] at h2; omega
          · rw [if_neg e3] at h2
            simp only [if_neg e2, if_neg e3]
            exact ord_trans h1 h2
theorem ints_inj {a b : Bs} (h : ints a = ints b) : a = b := by
  unfold ints at h
  exact (List.map_inj_right fun x y e => UInt8.toNat_inj.1 (Int.ofNat.inj e)).1 h
theorem cmpL_rng (L : Loc) (a b : Bs) : -1 ≤ cmpL L a b ∧ cmpL L a b ≤ 1 := by
  unfold cmpL
  split <;> exact ord_rng _ _
theorem cmpL_anti (L : Loc) (a b : Bs) : cmpL L b a = - cmpL L a b := by
  unfold cmpL
  rw [ord_anti (wts L a) (wts L b), ord_anti (ints a) (ints b)]
  split <;> split <;> omega
theorem cmpL_zero {L : Loc} {a b : Bs} : cmpL L a b = 0 ↔ a = b := by
  constructor
  · intro h
    unfold cmpL at h
    split at h
    · omega
    · exact ints_inj (ord_zero h)
  · intro h
    subst h
    unfold cmpL
    rw [ord_self, ord_self]; rfl
theorem cmpL_trans {L : Loc} {a b c : Bs} (h1 : cmpL L a b ≤ 0) (h2 : cmpL L b c ≤ 0) : cmpL L a c ≤ 0 := by
  unfold cmpL at h1 h2 ⊢
  by_cases e1 : ord (wts L a) (wts L b) = 0
  · rw [if_neg (by simpa using e1)] at h1
    have e1' := ord_zero e1
    rw [← e1'] at h2
    by_cases e2 : ord (wts L a) (wts L c) = 0
    · rw [if_neg (by simpa using e2)] at h2 ⊢
      exact (ord_trans h1 h2).1
    · rw [if_pos e2] at h2 ⊢; exact h2
  · rw [if_pos e1] at h1
    by_cases e2 : ord (wts L b) (wts L c) = 0
    · have e2' := ord_zero e2
      rw [← e2', if_pos e1]; exact h1
    · rw [if_pos e2] at h2
      have := (ord_trans h1 h2).2 (.inl (by omega))
      rw [if_pos (by omega)]; omega
theorem cmpL_ok (L : Loc) : COk (cmpL L) := ⟨fun _ _ => cmpL_zero, fun _ _ => cmpL_rng _ _ _, fun _ _ => cmpL_anti _ _ _, fun _ _ _ => cmpL_trans⟩
def exL : List CLn := [⟨1, [97]⟩, ⟨3, [98]⟩, ⟨2, [99]⟩, ⟨1, [100]⟩]
theorem exL_mrg : mrg (cmpL defL) [[97], [98], [100]] [[98], [99]] = exL := by
  have c1 : cmpL defL [97] [98] = -1 := by decide +kernel
  have c2 : cmpL defL [98] [98] = 0 := by decide +kernel
  have c3 : cmpL defL [100] [99] = 1 := by decide +kernel
  rw [mrg, c1, if_pos (by decide), mrg, c2, if_neg (by decide), if_neg (by decide), mrg, c3, if_neg (by decide), if_pos (by decide), mrg_nil]; rfl
theorem exL_uns : uns (cmpL defL) [[98], [97]] = 1 := by decide +kernel
theorem exL_prt : prt true true true exL = [[97], [9, 9, 98], [9, 99], [100]] := by decide +kernel
def StrC (X : CallF) : Prop := ∀ a b : Bs, (R FT X).f 69 [strL a, strL b] = some (intA (ord (ints a) (ints b)))
section
variable {X : CallF}
theorem cawake_run' (D : Loc) (hD : D = defL) (hc : StrC X) : (R FT X).f 42 [] = some (boolA true) := by
  have hcmp : ∀ x y : Bs, x.length ≤ 1048576 → y.length ≤ 1048576 → (R FT X).f 21 [encLoc defL, strL x, strL y] = some (intA (cmpL defL x y)) := fun x y hx hy => by
    have := cmp_run defL x y defL_ok hc hx hy
    rw [valL_y defL_err] at this
    exact this
  have e1 : (R FT X).f 27 [] = some (encLoc D) := by rw [hD]; exact def2_run
  have e2 : (R FT X).f 44 [encLoc D, .slice 1 ([[97], [98], [100]].map strL), .slice 1 ([[98], [99]].map strL)] = some (.slice 2 (exL.map encCL)) := by
    rw [hD, comm_run defL [[97], [98], [100]] [[98], [99]] (cmpL defL) hcmp (by simp) (by simp) (by simp) (by simp), exL_mrg]
  have e3 : (R FT X).f 46 [encLoc D, .slice 1 ([[98], [97]].map strL)] = some (intA 1) := by
    rw [hD, uns_run defL [[98], [97]] (cmpL defL) hcmp (by simp) (by simp), exL_uns]
  have e4 : (R FT X).f 49 [.slice 2 (exL.map encCL), .agg [boolA true, boolA true, boolA true]] = some (.slice 1 ([[97], [9, 9, 98], [9, 99], [100]].map strL)) := by
    rw [print_run true true true exL (by simp [exL]) (by simp [exL, InI64]), exL_prt]
  have e5 : (R FT X).f 43 [.slice 2 (exL.map encCL), .slice 2 (exL.map encCL)] = some (boolA true) := by
    have hm := maxLen_le
    rw [same28_run exL exL (by simp [exL]; omega) (by simp [exL]; omega), ← sameB_y rfl]
  have e6 : (R FT X).f 48 [.slice 1 ([[97], [9, 9, 98], [9, 99], [100]].map strL), .slice 1 ([[97], [9, 9, 98], [9, 99], [100]].map strL)] = some (boolA true) := by
    have hm := maxLen_le
    rw [same21_run _ _ (by simp; omega) (by simp; omega), ← sameB_y rfl]
  refine R_wp (Tr.c (encLoc D) (Tr.g (List.map strL [toL (ByteArray.mk #[(97 : UInt8)]), toL (ByteArray.mk #[(98 : UInt8)]), toL (ByteArray.mk #[(100 : UInt8)])]) (Tr.g (List.map strL [toL (ByteArray.mk #[(98 : UInt8)]), toL (ByteArray.mk #[(99 : UInt8)])]) (Tr.c (AV.slice (2 : Nat) (List.map encCL exL)) (Tr.g (List.map encCL [CLn.mk (1 : Int) [(97 : UInt8)], CLn.mk (3 : Int) [(98 : UInt8)], CLn.mk (2 : Int) [(99 : UInt8)], CLn.mk (1 : Int) [(100 : UInt8)]]) (Tr.c (boolA true) (Tr.b false (Tr.c (AV.slice (1 : Nat) (List.map strL [[(97 : UInt8)], [(9 : UInt8), (9 : UInt8), (98 : UInt8)], [(9 : UInt8), (99 : UInt8)], [(100 : UInt8)]])) (Tr.g (List.map strL [toL (ByteArray.mk #[(97 : UInt8)]), toL (ByteArray.mk #[(9 : UInt8), (9 : UInt8), (98 : UInt8)]), toL (ByteArray.mk #[(9 : UInt8), (99 : UInt8)]), toL (ByteArray.mk #[(100 : UInt8)])]) (Tr.c (boolA true) (Tr.b true (Tr.c (encLoc D) (Tr.g (List.map strL [toL (ByteArray.mk #[(98 : UInt8)]), toL (ByteArray.mk #[(97 : UInt8)])]) (Tr.c (intA (1 : Int)) Tr.nil))))))).w).w)).w)))) rfl ?_
  refine Eq.mpr (by kernel_rfl : _ = ((R FT X).f (27 : FuncId) [] = some (AV.agg [strL D.name, AV.slice (1 : Nat) (List.map intA D.weights), strL D.lower, strL D.upper, AV.slice (5 : Nat) (List.map encCls D.classes), AV.slice (2 : Nat) (List.map encEl D.elements)]) ∧
  (3 : Nat) = (3 : Nat) ∧
    List.take (3 : Nat) (List.drop (0 : Nat) [AV.val (Value.string (ByteArray.mk #[(97 : UInt8)])), AV.val (Value.string (ByteArray.mk #[(98 : UInt8)])), AV.val (Value.string (ByteArray.mk #[(100 : UInt8)]))]) = List.map strL [toL (ByteArray.mk #[(97 : UInt8)]), toL (ByteArray.mk #[(98 : UInt8)]), toL (ByteArray.mk #[(100 : UInt8)])] ∧
      (2 : Nat) = (2 : Nat) ∧
        List.take (2 : Nat) (List.drop (0 : Nat) [AV.val (Value.string (ByteArray.mk #[(98 : UInt8)])), AV.val (Value.string (ByteArray.mk #[(99 : UInt8)]))]) = List.map strL [toL (ByteArray.mk #[(98 : UInt8)]), toL (ByteArray.mk #[(99 : UInt8)])] ∧
          (R FT X).f (44 : FuncId) [AV.agg [strL D.name, AV.slice (1 : Nat) (List.map intA D.weights), strL D.lower, strL D.upper, AV.slice (5 : Nat) (List.map encCls D.classes), AV.slice (2 : Nat) (List.map encEl D.elements)], AV.slice (1 : Nat) (List.map strL [toL (ByteArray.mk #[(97 : UInt8)]), toL (ByteArray.mk #[(98 : UInt8)]), toL (ByteArray.mk #[(100 : UInt8)])]), AV.slice (1 : Nat) (List.map strL [toL (ByteArray.mk #[(98 : UInt8)]), toL (ByteArray.mk #[(99 : UInt8)])])] = some (AV.slice (2 : Nat) (List.map encCL exL)) ∧
            (4 : Nat) = (4 : Nat) ∧
              List.take (4 : Nat) (List.drop (0 : Nat) [AV.agg [AV.val (Value.int IntKind.i64 (1 : Int)), AV.val (Value.string (ByteArray.mk #[(97 : UInt8)]))], AV.agg [AV.val (Value.int IntKind.i64 (3 : Int)), AV.val (Value.string (ByteArray.mk #[(98 : UInt8)]))], AV.agg [AV.val (Value.int IntKind.i64 (2 : Int)), AV.val (Value.string (ByteArray.mk #[(99 : UInt8)]))], AV.agg [AV.val (Value.int IntKind.i64 (1 : Int)), AV.val (Value.string (ByteArray.mk #[(100 : UInt8)]))]]) = List.map encCL [CLn.mk (1 : Int) [(97 : UInt8)], CLn.mk (3 : Int) [(98 : UInt8)], CLn.mk (2 : Int) [(99 : UInt8)], CLn.mk (1 : Int) [(100 : UInt8)]] ∧
                (R FT X).f (43 : FuncId) [AV.slice (2 : Nat) (List.map encCL exL), AV.slice (2 : Nat) (List.map encCL [CLn.mk (1 : Int) [(97 : UInt8)], CLn.mk (3 : Int) [(98 : UInt8)], CLn.mk (2 : Int) [(99 : UInt8)], CLn.mk (1 : Int) [(100 : UInt8)]])] = some (boolA true) ∧ false = false ∧ (R FT X).f (49 : FuncId) [AV.slice (2 : Nat) (List.map encCL exL), AV.agg [AV.val (Value.bool true), AV.val (Value.bool true), AV.val (Value.bool true)]] = some (AV.slice (1 : Nat) (List.map strL [[(97 : UInt8)], [(9 : UInt8), (9 : UInt8), (98 : UInt8)], [(9 : UInt8), (99 : UInt8)], [(100 : UInt8)]])) ∧ (4 : Nat) = (4 : Nat) ∧ List.take (4 : Nat) (List.drop (0 : Nat) [AV.val (Value.string (ByteArray.mk #[(97 : UInt8)])), AV.val (Value.string (ByteArray.mk #[(9 : UInt8), (9 : UInt8), (98 : UInt8)])), AV.val (Value.string (ByteArray.mk #[(9 : UInt8), (99 : UInt8)])), AV.val (Value.string (ByteArray.mk #[(100 : UInt8)]))]) = List.map strL [toL (ByteArray.mk #[(97 : UInt8)]), toL (ByteArray.mk #[(9 : UInt8), (9 : UInt8), (98 : UInt8)]), toL (ByteArray.mk #[(9 : UInt8), (99 : UInt8)]), toL (ByteArray.mk #[(100 : UInt8)])] ∧ (R FT X).f (48 : FuncId) [AV.slice (1 : Nat) (List.map strL [[(97 : UInt8)], [(9 : UInt8), (9 : UInt8), (98 : UInt8)], [(9 : UInt8), (99 : UInt8)], [(100 : UInt8)]]), AV.slice (1 : Nat) (List.map strL [toL (ByteArray.mk #[(97 : UInt8)]), toL (ByteArray.mk #[(9 : UInt8), (9 : UInt8), (98 : UInt8)]), toL (ByteArray.mk #[(9 : UInt8), (99 : UInt8)]), toL (ByteArray.mk #[(100 : UInt8)])])] = some (boolA true) ∧ true = true ∧ (R FT X).f (27 : FuncId) [] = some (AV.agg [strL D.name, AV.slice (1 : Nat) (List.map intA D.weights), strL D.lower, strL D.upper, AV.slice (5 : Nat) (List.map encCls D.classes), AV.slice (2 : Nat) (List.map encEl D.elements)]) ∧ (2 : Nat) = (2 : Nat) ∧ List.take (2 : Nat) (List.drop (0 : Nat) [AV.val (Value.string (ByteArray.mk #[(98 : UInt8)])), AV.val (Value.string (ByteArray.mk #[(97 : UInt8)]))]) = List.map strL [toL (ByteArray.mk #[(98 : UInt8)]), toL (ByteArray.mk #[(97 : UInt8)])] ∧ (R FT X).f (46 : FuncId) [AV.agg [strL D.name, AV.slice (1 : Nat) (List.map intA D.weights), strL D.lower, strL D.upper, AV.slice (5 : Nat) (List.map encCls D.classes), AV.slice (2 : Nat) (List.map encEl D.elements)], AV.slice (1 : Nat) (List.map strL [toL (ByteArray.mk #[(98 : UInt8)]), toL (ByteArray.mk #[(97 : UInt8)])])] = some (intA (1 : Int)) ∧ true = true)) ?_
  refine ⟨(e1), rfl, rfl, rfl, rfl, (e2), rfl, rfl, (e5), rfl, (e4), rfl, rfl, (e6), rfl, (e1), rfl, rfl, (e3), rfl⟩
theorem cawake_run (hc : StrC X) : (R FT X).f 42 [] = some (boolA true) := cawake_run' defL rfl hc
theorem column_run (l : List CLn) (c : Int) (hl : l.length ≤ 1000) : (R FT X).f 51 [.slice 2 (l.map encCL), intA c] = some (.slice 1 ((colm c l).map strL)) := by
  refine R_wp ((Tr.inv (fun (k : Nat) ↦ St.mk [((0 : Nat), AV.slice (2 : Nat) (List.map encCL l)), ((1 : Nat), intA c), ((5 : Nat), AV.row (0 : Nat) (0 : Nat) (colm c (List.take k l)).length (0 : Nat) (colm c (List.take k l)).length), ((6 : Nat), intA (↑k : Int))] [MObj.row (0 : Nat) (1 : Nat) (List.map strL (colm c (List.take k l))) true true]) (fun (k : Nat) ↦ k ≤ l.length) (fun (k : Nat) ↦ l.length - k) fun (k : Nat) ↦ (Tr.k l.length ((Tr.ix encCL l k fun (x4 : CLn) ↦ (Tr.b true (Tr.ix encCL l k fun (x7 : CLn) ↦ Tr.k ((colm c (List.take k l)).length + (1 : Nat)) Tr.nil.w)).w.br (Tr.ix encCL l k fun (x11 : CLn) ↦ ((Tr.ix encCL l k fun (x14 : CLn) ↦ Tr.k ((colm c (List.take k l)).length + (1 : Nat)) Tr.nil.w).br Tr.nil.w).w)).w.w.br (Tr.g (List.map strL (colm c (List.take k l))) Tr.nil))).w).w) rfl ?_
  refine Eq.mpr (by kernel_rfl : _ = ((∃ (j1 : Nat), ((List.map encCL l = List.map encCL l ∧ c = c ∧ ((0 : Nat) = (colm c (List.take j1 l)).length ∧ (0 : Nat) = (0 : Nat) ∧ (0 : Nat) = (colm c (List.take j1 l)).length) ∧ (0 : Int) = (↑j1 : Int) ∧ True) ∧ [] = List.map strL (colm c (List.take j1 l))) ∧ j1 ≤ l.length) ∧
  ∀ (k : Nat),
    k ≤ l.length →
      (List.map encCL l).length = l.length ∧
        (decide ((↑k : Int) < (↑l.length : Int)) = true →
            List.map encCL l = List.map encCL l ∧
              (↑k : Int) = (↑k : Int) ∧ k < l.length ∧ ∀ (x4 : CLn), l[k]? = some x4 → (decide (x4.col = c) = true → true = true ∧ List.map encCL l = List.map encCL l ∧ (↑k : Int) = (↑k : Int) ∧ k < l.length ∧ ∀ (x7 : CLn), l[k]? = some x7 → (List.map strL (colm c (List.take k l))).length = (colm c (List.take k l)).length ∧ (0 : Nat) = (0 : Nat) ∧ (colm c (List.take k l)).length = (colm c (List.take k l)).length ∧ (colm c (List.take k l)).length + [AV.val (Value.string (ofL x7.text))].length = (colm c (List.take k l)).length + (1 : Nat) ∧ ((colm c (List.take k l)).length + (1 : Nat)) * (16 : Nat) ≤ (140737488355328 : Nat) ∧ (colm c (List.take k l)).length + (1 : Nat) ≤ (9223372036854775807 : Nat) ∧ InI64 ((↑k : Int) + (1 : Int)) ∧ ∃ (j9 : Nat), ((List.map encCL l = List.map encCL l ∧ c = c ∧ ((colm c (List.take k l)).length + (1 : Nat) = (colm c (List.take j9 l)).length ∧ (0 : Nat) = (0 : Nat) ∧ (colm c (List.take k l)).length + (1 : Nat) = (colm c (List.take j9 l)).length) ∧ (↑k : Int) + (1 : Int) = (↑j9 : Int) ∧ True) ∧ List.map strL (colm c (List.take k l)) ++ [AV.val (Value.string (ofL x7.text))] = List.map strL (colm c (List.take j9 l))) ∧ j9 ≤ l.length ∧ l.length - j9 < l.length - k) ∧ (decide (x4.col = c) = false → List.map encCL l = List.map encCL l ∧ (↑k : Int) = (↑k : Int) ∧ k < l.length ∧ ∀ (x11 : CLn), l[k]? = some x11 → (decide (x11.col = (3 : Int)) = true → List.map encCL l = List.map encCL l ∧ (↑k : Int) = (↑k : Int) ∧ k < l.length ∧ ∀ (x14 : CLn), l[k]? = some x14 → (List.map strL (colm c (List.take k l))).length = (colm c (List.take k l)).length ∧ (0 : Nat) = (0 : Nat) ∧ (colm c (List.take k l)).length = (colm c (List.take k l)).length ∧ (colm c (List.take k l)).length + [AV.val (Value.string (ofL x14.text))].length = (colm c (List.take k l)).length + (1 : Nat) ∧ ((colm c (List.take k l)).length + (1 : Nat)) * (16 : Nat) ≤ (140737488355328 : Nat) ∧ (colm c (List.take k l)).length + (1 : Nat) ≤ (9223372036854775807 : Nat) ∧ InI64 ((↑k : Int) + (1 : Int)) ∧ ∃ (j16 : Nat), ((List.map encCL l = List.map encCL l ∧ c = c ∧ ((colm c (List.take k l)).length + (1 : Nat) = (colm c (List.take j16 l)).length ∧ (0 : Nat) = (0 : Nat) ∧ (colm c (List.take k l)).length + (1 : Nat) = (colm c (List.take j16 l)).length) ∧ (↑k : Int) + (1 : Int) = (↑j16 : Int) ∧ True) ∧ List.map strL (colm c (List.take k l)) ++ [AV.val (Value.string (ofL x14.text))] = List.map strL (colm c (List.take j16 l))) ∧ j16 ≤ l.length ∧ l.length - j16 < l.length - k) ∧ (decide (x11.col = (3 : Int)) = false → InI64 ((↑k : Int) + (1 : Int)) ∧ ∃ (j18 : Nat), ((List.map encCL l = List.map encCL l ∧ c = c ∧ ((colm c (List.take k l)).length = (colm c (List.take j18 l)).length ∧ (0 : Nat) = (0 : Nat) ∧ (colm c (List.take k l)).length = (colm c (List.take j18 l)).length) ∧ (↑k : Int) + (1 : Int) = (↑j18 : Int) ∧ True) ∧ List.map strL (colm c (List.take k l)) = List.map strL (colm c (List.take j18 l))) ∧ j18 ≤ l.length ∧ l.length - j18 < l.length - k))) ∧
          (decide ((↑k : Int) < (↑l.length : Int)) = false → (List.map strL (colm c (List.take k l))).length = (colm c (List.take k l)).length ∧ List.take (colm c (List.take k l)).length (List.drop (0 : Nat) (List.map strL (colm c (List.take k l)))) = List.map strL (colm c (List.take k l)) ∧ List.map strL (colm c (List.take k l)) = List.map strL (colm c l)))) ?_
  refine ⟨⟨(0 : Nat), ⟨⟨rfl, rfl, ⟨rfl, rfl, rfl⟩, (by omega), trivial⟩, rfl⟩, (by omega)⟩, fun k => fun h2 => ⟨(by simp), fun h3_ => have h3 := dT h3_; ⟨rfl, rfl, (by omega), fun x4 => fun h5 => ⟨fun h6_ => have h6 := dT h6_; ⟨rfl, rfl, rfl, (by omega), fun x7 => fun h8 => ⟨(by simp), rfl, rfl, rfl, ?_, ?_, (by unfold InI64; omega), ⟨k + (1 : Nat), ⟨⟨rfl, rfl, ⟨?_, rfl, ?_⟩, (by omega), trivial⟩, ?_⟩, ⟨(by omega), (by omega)⟩⟩⟩⟩, fun h10_ => have h10 := dF h10_; ⟨rfl, rfl, (by omega), fun x11 => fun h12 => ⟨fun h13_ => have h13 := dT h13_; ⟨rfl, rfl, (by omega), fun x14 => fun h15 => ⟨(by simp), rfl, rfl, rfl, ?_, ?_, (by unfold InI64; omega), ⟨k + (1 : Nat), ⟨⟨rfl, rfl, ⟨?_, rfl, ?_⟩, (by omega), trivial⟩, ?_⟩, ⟨(by omega), (by omega)⟩⟩⟩⟩, fun h17_ => have h17 := dF h17_; ⟨(by unfold InI64; omega), ⟨k + (1 : Nat), ⟨⟨rfl, rfl, ⟨?_, rfl, ?_⟩, (by omega), trivial⟩, ?_⟩, ⟨(by omega), (by omega)⟩⟩⟩⟩⟩⟩⟩, fun h19_ => have h19 := dF h19_; ⟨(by simp), ?_, ?_⟩⟩⟩
  ·
    have hp := colm_len c (l.take k)
    have hq := List.length_take_le k l
    omega
  ·
    have hp := colm_len c (l.take k)
    have hq := List.length_take_le k l
    omega
  ·
    rw [colm_succ h8, if_pos (.inl (by rw [same_at h5 h8]; exact h6)), List.length_append]; rfl
  ·
    rw [colm_succ h8, if_pos (.inl (by rw [same_at h5 h8]; exact h6)), List.length_append]; rfl
  ·
    rw [colm_succ h8, if_pos (.inl (by rw [same_at h5 h8]; exact h6)), List.map_append]; rfl
  ·
    have hp := colm_len c (l.take k)
    have hq := List.length_take_le k l
    omega
  ·
    have hp := colm_len c (l.take k)
    have hq := List.length_take_le k l
    omega
  ·
    rw [colm_succ h15, if_pos (.inr (by rw [same_at h12 h15]; exact h13)), List.length_append]; rfl
  ·
    rw [colm_succ h15, if_pos (.inr (by rw [same_at h12 h15]; exact h13)), List.length_append]; rfl
  ·
    rw [colm_succ h15, if_pos (.inr (by rw [same_at h12 h15]; exact h13)), List.map_append]; rfl
  ·
    rw [colm_succ h5, if_neg (by rw [not_or]; refine ⟨h10, ?_⟩; rw [← same_at h5 h12]; exact h17), List.append_nil]
  ·
    rw [colm_succ h5, if_neg (by rw [not_or]; refine ⟨h10, ?_⟩; rw [← same_at h5 h12]; exact h17), List.append_nil]
  ·
    rw [colm_succ h5, if_neg (by rw [not_or]; refine ⟨h10, ?_⟩; rw [← same_at h5 h12]; exact h17), List.append_nil]
  · rw [List.drop_zero, List.take_of_length_le (by simp)]
  · rw [List.take_of_length_le (l := l) (by omega)]
theorem compares_n1 (l : Loc) (a b : List Bs) (r1 : (R FT X).f 40 [.slice 1 (a.map strL)] = some (boolA false)) (aw : (R FT X).f 42 [] = some (boolA true)) : (R FT X).f 11 [encLoc l, .slice 1 (a.map strL), .slice 1 (b.map strL)] = some (boolA true) := by
  refine R_wp ((Tr.c (boolA false) (Tr.b true (Tr.b true (Tr.b true (Tr.c (boolA true) Tr.nil)).w))).w) rfl ?_
  refine Eq.mpr (by kernel_rfl : _ = ((R FT X).f (40 : FuncId) [AV.slice (1 : Nat) (List.map strL a)] = some (boolA false) ∧ true = true ∧ true = true ∧ true = true ∧ (R FT X).f (42 : FuncId) [] = some (boolA true) ∧ true = true)) ?_
  refine ⟨r1, rfl, rfl, rfl, aw, rfl⟩
theorem compares_n2 (l : Loc) (a b : List Bs) (r1 : (R FT X).f 40 [.slice 1 (a.map strL)] = some (boolA true)) (r2 : (R FT X).f 40 [.slice 1 (b.map strL)] = some (boolA false)) (aw : (R FT X).f 42 [] = some (boolA true)) : (R FT X).f 11 [encLoc l, .slice 1 (a.map strL), .slice 1 (b.map strL)] = some (boolA true) := by
  refine R_wp ((Tr.c (boolA true) (Tr.b false (Tr.c (boolA false) (Tr.b true (Tr.b true (Tr.c (boolA true) Tr.nil)).w)))).w) rfl ?_
  refine Eq.mpr (by kernel_rfl : _ = ((R FT X).f (40 : FuncId) [AV.slice (1 : Nat) (List.map strL a)] = some (boolA true) ∧ false = false ∧ (R FT X).f (40 : FuncId) [AV.slice (1 : Nat) (List.map strL b)] = some (boolA false) ∧ true = true ∧ true = true ∧ (R FT X).f (42 : FuncId) [] = some (boolA true) ∧ true = true)) ?_
  refine ⟨r1, rfl, r2, rfl, rfl, aw, rfl⟩
theorem compares_n3 (l : Loc) (a b : List Bs) (r1 : (R FT X).f 40 [.slice 1 (a.map strL)] = some (boolA true)) (r2 : (R FT X).f 40 [.slice 1 (b.map strL)] = some (boolA true)) (r3 : (R FT X).f 41 [encLoc l] = some (boolA false)) (aw : (R FT X).f 42 [] = some (boolA true)) : (R FT X).f 11 [encLoc l, .slice 1 (a.map strL), .slice 1 (b.map strL)] = some (boolA true) := by
  refine R_wp ((Tr.c (boolA true) (Tr.b false (Tr.c (boolA true) (Tr.b false (Tr.c (boolA false) (Tr.b true (Tr.c (boolA true) Tr.nil)).w))))).w) rfl ?_
  refine Eq.mpr (by kernel_rfl : _ = ((R FT X).f (40 : FuncId) [AV.slice (1 : Nat) (List.map strL a)] = some (boolA true) ∧ false = false ∧ (R FT X).f (40 : FuncId) [AV.slice (1 : Nat) (List.map strL b)] = some (boolA true) ∧ false = false ∧ (R FT X).f (41 : FuncId) [AV.agg [strL l.name, AV.slice (1 : Nat) (List.map intA l.weights), strL l.lower, strL l.upper, AV.slice (5 : Nat) (List.map encCls l.classes), AV.slice (2 : Nat) (List.map encEl l.elements)]] = some (boolA false) ∧ true = true ∧ (R FT X).f (42 : FuncId) [] = some (boolA true) ∧ true = true)) ?_
  refine ⟨r1, rfl, r2, rfl, (r3), rfl, aw, rfl⟩
theorem compares_y (l : Loc) (a b : List Bs) (n : Int) (m : List CLn) (r1 : (R FT X).f 40 [.slice 1 (a.map strL)] = some (boolA true)) (r2 : (R FT X).f 40 [.slice 1 (b.map strL)] = some (boolA true)) (r3 : (R FT X).f 41 [encLoc l] = some (boolA true)) (aw : (R FT X).f 42 [] = some (boolA true)) (r4 : (R FT X).f 44 [encLoc l, .slice 1 (a.map strL), .slice 1 (b.map strL)] = some (.slice 2 (m.map encCL))) (r5 : (R FT X).f 45 [encLoc l, .slice 1 (a.map strL), .slice 1 (b.map strL)] = some (.slice 2 (m.map encCL))) (r6 : (R FT X).f 43 [.slice 2 (m.map encCL), .slice 2 (m.map encCL)] = some (boolA true)) (r7 : (R FT X).f 46 [encLoc l, .slice 1 (a.map strL)] = some (intA n)) (r8 : (R FT X).f 47 [encLoc l, .slice 1 (a.map strL)] = some (intA n)) : (R FT X).f 11 [encLoc l, .slice 1 (a.map strL), .slice 1 (b.map strL)] = some (boolA true) := by
  refine R_wp ((Tr.c (boolA true) (Tr.b false (Tr.c (boolA true) (Tr.b false (Tr.c (boolA true) (Tr.b false (Tr.c (AV.slice (2 : Nat) (List.map encCL m)) (Tr.c (AV.slice (2 : Nat) (List.map encCL m)) (Tr.c (boolA true) (Tr.b true (Tr.c (intA n) (Tr.c (intA n) (Tr.b true (Tr.c (boolA true) Tr.nil)))))))).w).w))))).w) rfl ?_
  refine Eq.mpr (by kernel_rfl : _ = ((R FT X).f (40 : FuncId) [AV.slice (1 : Nat) (List.map strL a)] = some (boolA true) ∧ false = false ∧ (R FT X).f (40 : FuncId) [AV.slice (1 : Nat) (List.map strL b)] = some (boolA true) ∧ false = false ∧ (R FT X).f (41 : FuncId) [AV.agg [strL l.name, AV.slice (1 : Nat) (List.map intA l.weights), strL l.lower, strL l.upper, AV.slice (5 : Nat) (List.map encCls l.classes), AV.slice (2 : Nat) (List.map encEl l.elements)]] = some (boolA true) ∧ false = false ∧ (R FT X).f (44 : FuncId) [AV.agg [strL l.name, AV.slice (1 : Nat) (List.map intA l.weights), strL l.lower, strL l.upper, AV.slice (5 : Nat) (List.map encCls l.classes), AV.slice (2 : Nat) (List.map encEl l.elements)], AV.slice (1 : Nat) (List.map strL a), AV.slice (1 : Nat) (List.map strL b)] = some (AV.slice (2 : Nat) (List.map encCL m)) ∧ (R FT X).f (45 : FuncId) [AV.agg [strL l.name, AV.slice (1 : Nat) (List.map intA l.weights), strL l.lower, strL l.upper, AV.slice (5 : Nat) (List.map encCls l.classes), AV.slice (2 : Nat) (List.map encEl l.elements)], AV.slice (1 : Nat) (List.map strL a), AV.slice (1 : Nat) (List.map strL b)] = some (AV.slice (2 : Nat) (List.map encCL m)) ∧ (R FT X).f (43 : FuncId) [AV.slice (2 : Nat) (List.map encCL m), AV.slice (2 : Nat) (List.map encCL m)] = some (boolA true) ∧ true = true ∧ (R FT X).f (46 : FuncId) [AV.agg [strL l.name, AV.slice (1 : Nat) (List.map intA l.weights), strL l.lower, strL l.upper, AV.slice (5 : Nat) (List.map encCls l.classes), AV.slice (2 : Nat) (List.map encEl l.elements)], AV.slice (1 : Nat) (List.map strL a)] = some (intA n) ∧ (R FT X).f (47 : FuncId) [AV.agg [strL l.name, AV.slice (1 : Nat) (List.map intA l.weights), strL l.lower, strL l.upper, AV.slice (5 : Nat) (List.map encCls l.classes), AV.slice (2 : Nat) (List.map encEl l.elements)], AV.slice (1 : Nat) (List.map strL a)] = some (intA n) ∧ decide (n = n) = true ∧ (R FT X).f (42 : FuncId) [] = some (boolA true) ∧ true = true)) ?_
  refine ⟨r1, rfl, r2, rfl, (r3), rfl, (r4), (r5), r6, rfl, (r7), (r8), (tD rfl), aw, rfl⟩
theorem compares_law' (l : Loc) (a b : List Bs) (C : Bs → Bs → Int) (hC : COk C) (ha : a.length ≤ maxLen) (hb : b.length ≤ maxLen) (c1 : ∀ x y : Bs, x.length ≤ 1048576 → y.length ≤ 1048576 → (R FT X).f 21 [encLoc l, strL x, strL y] = some (intA (C x y))) (c2 : ∀ x y : Bs, x.length ≤ 1048576 → y.length ≤ 1048576 → (R FT X).f 22 [encLoc l, strL x, strL y] = some (intA (C x y))) (aw : (R FT X).f 42 [] = some (boolA true)) : (R FT X).f 11 [encLoc l, .slice 1 (a.map strL), .slice 1 (b.map strL)] = some (boolA true) := by
  have hm := maxLen_le
  have r1 := few_run (X := X) a ha
  have r2 := few_run (X := X) b hb
  have r3 := light7_run (X := X) l
  cases f1 : fewB a
  · rw [f1] at r1; exact compares_n1 l a b r1 aw
  rw [f1] at r1
  cases f2 : fewB b
  · rw [f2] at r2; exact compares_n2 l a b r1 r2 aw
  rw [f2] at r2
  cases f3 : lightB l
  · rw [f3] at r3; exact compares_n3 l a b r1 r2 r3 aw
  rw [f3] at r3
  obtain ⟨g1, g2⟩ := fewB_of f1
  obtain ⟨g3, g4⟩ := fewB_of f2
  have hl := mrg_len C _ a b (Nat.le_refl _)
  have r6 := same28_run (X := X) (mrg C a b) (mrg C a b) (by omega) (by omega)
  rw [← sameB_y rfl] at r6
  exact compares_y l a b (uns C a) (mrg C a b) r1 r2 r3 aw (comm_run l a b C c1 g1 g3 g2 g4) (comm2_run l a b C c2 g1 g3 g2 g4) r6 (uns_run l a C c1 g1 g2) (uns2_run l a C c2 g1 g2)
theorem merges_n1 (l : Loc) (a b : List Bs) (r1 : (R FT X).f 40 [.slice 1 (a.map strL)] = some (boolA false)) (aw : (R FT X).f 42 [] = some (boolA true)) : (R FT X).f 13 [encLoc l, .slice 1 (a.map strL), .slice 1 (b.map strL)] = some (boolA true) := by
  refine R_wp ((Tr.c (boolA false) (Tr.b true (Tr.b true (Tr.b true (Tr.c (boolA true) Tr.nil)).w))).w) rfl ?_
  refine Eq.mpr (by kernel_rfl : _ = ((R FT X).f (40 : FuncId) [AV.slice (1 : Nat) (List.map strL a)] = some (boolA false) ∧ true = true ∧ true = true ∧ true = true ∧ (R FT X).f (42 : FuncId) [] = some (boolA true) ∧ true = true)) ?_
  refine ⟨r1, rfl, rfl, rfl, aw, rfl⟩
theorem merges_n2 (l : Loc) (a b : List Bs) (r1 : (R FT X).f 40 [.slice 1 (a.map strL)] = some (boolA true)) (r2 : (R FT X).f 40 [.slice 1 (b.map strL)] = some (boolA false)) (aw : (R FT X).f 42 [] = some (boolA true)) : (R FT X).f 13 [encLoc l, .slice 1 (a.map strL), .slice 1 (b.map strL)] = some (boolA true) := by
  refine R_wp ((Tr.c (boolA true) (Tr.b false (Tr.c (boolA false) (Tr.b true (Tr.b true (Tr.c (boolA true) Tr.nil)).w)))).w) rfl ?_
  refine Eq.mpr (by kernel_rfl : _ = ((R FT X).f (40 : FuncId) [AV.slice (1 : Nat) (List.map strL a)] = some (boolA true) ∧ false = false ∧ (R FT X).f (40 : FuncId) [AV.slice (1 : Nat) (List.map strL b)] = some (boolA false) ∧ true = true ∧ true = true ∧ (R FT X).f (42 : FuncId) [] = some (boolA true) ∧ true = true)) ?_
  refine ⟨r1, rfl, r2, rfl, rfl, aw, rfl⟩
theorem merges_n3 (l : Loc) (a b : List Bs) (r1 : (R FT X).f 40 [.slice 1 (a.map strL)] = some (boolA true)) (r2 : (R FT X).f 40 [.slice 1 (b.map strL)] = some (boolA true)) (r3 : (R FT X).f 41 [encLoc l] = some (boolA false)) (aw : (R FT X).f 42 [] = some (boolA true)) : (R FT X).f 13 [encLoc l, .slice 1 (a.map strL), .slice 1 (b.map strL)] = some (boolA true) := by
  refine R_wp ((Tr.c (boolA true) (Tr.b false (Tr.c (boolA true) (Tr.b false (Tr.c (boolA false) (Tr.b true (Tr.c (boolA true) Tr.nil)).w))))).w) rfl ?_
  refine Eq.mpr (by kernel_rfl : _ = ((R FT X).f (40 : FuncId) [AV.slice (1 : Nat) (List.map strL a)] = some (boolA true) ∧ false = false ∧ (R FT X).f (40 : FuncId) [AV.slice (1 : Nat) (List.map strL b)] = some (boolA true) ∧ false = false ∧ (R FT X).f (41 : FuncId) [AV.agg [strL l.name, AV.slice (1 : Nat) (List.map intA l.weights), strL l.lower, strL l.upper, AV.slice (5 : Nat) (List.map encCls l.classes), AV.slice (2 : Nat) (List.map encEl l.elements)]] = some (boolA false) ∧ true = true ∧ (R FT X).f (42 : FuncId) [] = some (boolA true) ∧ true = true)) ?_
  refine ⟨r1, rfl, r2, rfl, (r3), rfl, aw, rfl⟩
theorem merges_y (l : Loc) (a b : List Bs) (m m2 : List CLn) (hm : m.length ≤ 1000) (hm2 : m2 = m.map swp) (hc : ∀ c ∈ m, c.col = 1 ∨ c.col = 2 ∨ c.col = 3) (r1 : (R FT X).f 40 [.slice 1 (a.map strL)] = some (boolA true)) (r2 : (R FT X).f 40 [.slice 1 (b.map strL)] = some (boolA true)) (r3 : (R FT X).f 41 [encLoc l] = some (boolA true)) (aw : (R FT X).f 42 [] = some (boolA true)) (r4 : (R FT X).f 44 [encLoc l, .slice 1 (a.map strL), .slice 1 (b.map strL)] = some (.slice 2 (m.map encCL))) (r5 : (R FT X).f 44 [encLoc l, .slice 1 (b.map strL), .slice 1 (a.map strL)] = some (.slice 2 (m2.map encCL))) (r6 : (R FT X).f 51 [.slice 2 (m.map encCL), intA 1] = some (.slice 1 (a.map strL))) (r7 : (R FT X).f 51 [.slice 2 (m.map encCL), intA 2] = some (.slice 1 (b.map strL))) (r8 : (R FT X).f 48 [.slice 1 (a.map strL), .slice 1 (a.map strL)] = some (boolA true)) (r9 : (R FT X).f 48 [.slice 1 (b.map strL), .slice 1 (b.map strL)] = some (boolA true)) : (R FT X).f 13 [encLoc l, .slice 1 (a.map strL), .slice 1 (b.map strL)] = some (boolA true) := by
  have hl2 : m2.length = m.length := by rw [hm2, List.length_map]
  refine R_wp ((Tr.c (boolA true) (Tr.b false (Tr.c (boolA true) (Tr.b false (Tr.c (boolA true) (Tr.b false (Tr.c (AV.slice (2 : Nat) (List.map encCL m)) (Tr.c (AV.slice (2 : Nat) (List.map encCL m2)) (Tr.k m.length (Tr.k m2.length ((Tr.b true (Tr.b true Tr.nil).w).br (Tr.c (AV.slice (1 : Nat) (List.map strL a)) (Tr.c (boolA true) (Tr.b false (Tr.c (AV.slice (1 : Nat) (List.map strL b)) (Tr.c (boolA true) (Tr.b false (Tr.inv (fun (k : Nat) ↦ St.mk [((7 : Nat), AV.slice (2 : Nat) (List.map encCL m)), ((8 : Nat), AV.slice (2 : Nat) (List.map encCL m2)), ((9 : Nat), intA (↑k : Int))] []) (fun (k : Nat) ↦ k ≤ m.length) (fun (k : Nat) ↦ m.length - k) fun (k : Nat) ↦ (Tr.k m.length ((Tr.ix encCL m k fun (x6 : CLn) ↦ ((Tr.b true (Tr.b true (Tr.b true (Tr.b true Tr.nil).w))).br ((Tr.b true (Tr.b true (Tr.b true Tr.nil).w)).br (Tr.ix encCL m k fun (x12 : CLn) ↦ Tr.ix encCL m2 k fun (x14 : CLn) ↦ (Tr.b true (Tr.b true Tr.nil).w).br ((Tr.ix encCL m2 k fun (x19 : CLn) ↦ (Tr.b true Tr.nil).w.br (Tr.b false (Tr.b false Tr.nil.w).w)).br (Tr.b false (Tr.b true (Tr.ix encCL m2 k fun (x25 : CLn) ↦ (Tr.nil.br Tr.nil.w).w.w))))))).w).w.br (Tr.c (boolA true) Tr.nil))).w).w).w)))))))).w))).w))))).w) rfl ?_
  refine Eq.mpr (by kernel_rfl : _ = ((R FT X).f (40 : FuncId) [AV.slice (1 : Nat) (List.map strL a)] = some (boolA true) ∧
  false = false ∧
    (R FT X).f (40 : FuncId) [AV.slice (1 : Nat) (List.map strL b)] = some (boolA true) ∧
      false = false ∧
        (R FT X).f (41 : FuncId) [AV.agg [strL l.name, AV.slice (1 : Nat) (List.map intA l.weights), strL l.lower, strL l.upper, AV.slice (5 : Nat) (List.map encCls l.classes), AV.slice (2 : Nat) (List.map encEl l.elements)]] = some (boolA true) ∧
          false = false ∧
            (R FT X).f (44 : FuncId) [AV.agg [strL l.name, AV.slice (1 : Nat) (List.map intA l.weights), strL l.lower, strL l.upper, AV.slice (5 : Nat) (List.map encCls l.classes), AV.slice (2 : Nat) (List.map encEl l.elements)], AV.slice (1 : Nat) (List.map strL a), AV.slice (1 : Nat) (List.map strL b)] = some (AV.slice (2 : Nat) (List.map encCL m)) ∧
              (R FT X).f (44 : FuncId) [AV.agg [strL l.name, AV.slice (1 : Nat) (List.map intA l.weights), strL l.lower, strL l.upper, AV.slice (5 : Nat) (List.map encCls l.classes), AV.slice (2 : Nat) (List.map encEl l.elements)], AV.slice (1 : Nat) (List.map strL b), AV.slice (1 : Nat) (List.map strL a)] = some (AV.slice (2 : Nat) (List.map encCL m2)) ∧
                (List.map encCL m).length = m.length ∧
                  (List.map encCL m2).length = m2.length ∧
                    ((!decide ((↑m.length : Int) = (↑m2.length : Int))) = true → true = true ∧ true = true ∧ false = true) ∧
                      ((!decide ((↑m.length : Int) = (↑m2.length : Int))) = false → (R FT X).f (51 : FuncId) [AV.slice (2 : Nat) (List.map encCL m), AV.val (Value.int IntKind.i64 (1 : Int))] = some (AV.slice (1 : Nat) (List.map strL a)) ∧ (R FT X).f (48 : FuncId) [AV.slice (1 : Nat) (List.map strL a), AV.slice (1 : Nat) (List.map strL a)] = some (boolA true) ∧ false = false ∧ (R FT X).f (51 : FuncId) [AV.slice (2 : Nat) (List.map encCL m), AV.val (Value.int IntKind.i64 (2 : Int))] = some (AV.slice (1 : Nat) (List.map strL b)) ∧ (R FT X).f (48 : FuncId) [AV.slice (1 : Nat) (List.map strL b), AV.slice (1 : Nat) (List.map strL b)] = some (boolA true) ∧ false = false ∧ (∃ (j3 : Nat), ((List.map encCL m = List.map encCL m ∧ List.map encCL m2 = List.map encCL m2 ∧ (0 : Int) = (↑j3 : Int) ∧ True) ∧ True) ∧ j3 ≤ m.length) ∧ ∀ (k : Nat), k ≤ m.length → (List.map encCL m).length = m.length ∧ (decide ((↑k : Int) < (↑m.length : Int)) = true → List.map encCL m = List.map encCL m ∧ (↑k : Int) = (↑k : Int) ∧ k < m.length ∧ ∀ (x6 : CLn), m[k]? = some x6 → (decide (x6.col < (1 : Int)) = true → true = true ∧ true = true ∧ true = true ∧ true = true ∧ false = true) ∧ (decide (x6.col < (1 : Int)) = false → (decide ((3 : Int) < x6.col) = true → true = true ∧ true = true ∧ true = true ∧ false = true) ∧ (decide ((3 : Int) < x6.col) = false → List.map encCL m = List.map encCL m ∧ (↑k : Int) = (↑k : Int) ∧ k < m.length ∧ ∀ (x12 : CLn), m[k]? = some x12 → List.map encCL m2 = List.map encCL m2 ∧ (↑k : Int) = (↑k : Int) ∧ k < m2.length ∧ ∀ (x14 : CLn), m2[k]? = some x14 → ((!decide (x12.text = x14.text)) = true → true = true ∧ true = true ∧ false = true) ∧ ((!decide (x12.text = x14.text)) = false → (decide (x6.col = (3 : Int)) = true → List.map encCL m2 = List.map encCL m2 ∧ (↑k : Int) = (↑k : Int) ∧ k < m2.length ∧ ∀ (x19 : CLn), m2[k]? = some x19 → ((!decide (x19.col = (3 : Int))) = true → true = true ∧ false = true) ∧ ((!decide (x19.col = (3 : Int))) = false → decide (x6.col < (3 : Int)) = false ∧ false = false ∧ InI64 ((↑k : Int) + (1 : Int)) ∧ ∃ (j23 : Nat), ((List.map encCL m = List.map encCL m ∧ List.map encCL m2 = List.map encCL m2 ∧ (↑k : Int) + (1 : Int) = (↑j23 : Int) ∧ True) ∧ True) ∧ j23 ≤ m.length ∧ m.length - j23 < m.length - k)) ∧ (decide (x6.col = (3 : Int)) = false → false = false ∧ decide (x6.col < (3 : Int)) = true ∧ List.map encCL m2 = List.map encCL m2 ∧ (↑k : Int) = (↑k : Int) ∧ k < m2.length ∧ ∀ (x25 : CLn), m2[k]? = some x25 → InI64 ((3 : Int) - x6.col) ∧ ((!decide (x25.col = (3 : Int) - x6.col)) = true → false = true) ∧ ((!decide (x25.col = (3 : Int) - x6.col)) = false → InI64 ((↑k : Int) + (1 : Int)) ∧ ∃ (j29 : Nat), ((List.map encCL m = List.map encCL m ∧ List.map encCL m2 = List.map encCL m2 ∧ (↑k : Int) + (1 : Int) = (↑j29 : Int) ∧ True) ∧ True) ∧ j29 ≤ m.length ∧ m.length - j29 < m.length - k)))))) ∧ (decide ((↑k : Int) < (↑m.length : Int)) = false → (R FT X).f (42 : FuncId) [] = some (boolA true) ∧ true = true)))) ?_
  refine ⟨r1, rfl, r2, rfl, (r3), rfl, (r4), (r5), (by simp), (by simp), fun h1_ => have h1 := dnT h1_; ⟨rfl, rfl, ?_⟩, fun h2_ => have h2 := dnF h2_; ⟨(r6), r8, rfl, (r7), r9, rfl, ⟨(0 : Nat), ⟨⟨rfl, rfl, (by omega), trivial⟩, trivial⟩, (by omega)⟩, fun k => fun h4 => ⟨(by simp), fun h5_ => have h5 := dT h5_; ⟨rfl, rfl, (by omega), fun x6 => fun h7 => ⟨fun h8_ => have h8 := dT h8_; ⟨rfl, rfl, rfl, rfl, ?_⟩, fun h9_ => have h9 := dF h9_; ⟨fun h10_ => have h10 := dT h10_; ⟨rfl, rfl, rfl, ?_⟩, fun h11_ => have h11 := dF h11_; ⟨rfl, rfl, (by omega), fun x12 => fun h13 => ⟨rfl, rfl, (by omega), fun x14 => fun h15 => ⟨fun h16_ => have h16 := dnT h16_; ⟨rfl, rfl, ?_⟩, fun h17_ => have h17 := dnF h17_; ⟨fun h18_ => have h18 := dT h18_; ⟨rfl, rfl, (by omega), fun x19 => fun h20 => ⟨fun h21_ => have h21 := dnT h21_; ⟨rfl, ?_⟩, fun h22_ => have h22 := dnF h22_; ⟨(fD (by omega)), rfl, (by unfold InI64; omega), ⟨k + (1 : Nat), ⟨⟨rfl, rfl, (by omega), trivial⟩, trivial⟩, ⟨(by omega), (by omega)⟩⟩⟩⟩⟩, fun h24_ => have h24 := dF h24_; ⟨rfl, (tD (by omega)), rfl, rfl, (by omega), fun x25 => fun h26 => ⟨(by unfold InI64; omega), fun h27_ => have h27 := dnT h27_; ?_, fun h28_ => have h28 := dnF h28_; ⟨(by unfold InI64; omega), ⟨k + (1 : Nat), ⟨⟨rfl, rfl, (by omega), trivial⟩, trivial⟩, ⟨(by omega), (by omega)⟩⟩⟩⟩⟩⟩⟩⟩⟩⟩⟩⟩, fun h30_ => have h30 := dF h30_; ⟨aw, rfl⟩⟩⟩⟩
  · exact absurd (by omega) h1
  · rcases hc x6 (List.mem_of_getElem? h7) with h | h | h <;> omega
  · rcases hc x6 (List.mem_of_getElem? h7) with h | h | h <;> omega
  · obtain rfl := same_at h7 h13
    rw [hm2, List.getElem?_map, h7] at h15
    cases h15
    exact absurd rfl h16
  · rw [hm2, List.getElem?_map, h7] at h20
    cases h20
    exact absurd (by unfold swp; rw [if_pos h18]) h21
  · rw [hm2, List.getElem?_map, h7] at h26
    cases h26
    exact absurd (by unfold swp; rw [if_neg h24]) h27
theorem merges_law' (l : Loc) (a b : List Bs) (C : Bs → Bs → Int) (hC : COk C) (ha : a.length ≤ maxLen) (hb : b.length ≤ maxLen) (c1 : ∀ x y : Bs, x.length ≤ 1048576 → y.length ≤ 1048576 → (R FT X).f 21 [encLoc l, strL x, strL y] = some (intA (C x y))) (c2 : ∀ x y : Bs, x.length ≤ 1048576 → y.length ≤ 1048576 → (R FT X).f 22 [encLoc l, strL x, strL y] = some (intA (C x y))) (aw : (R FT X).f 42 [] = some (boolA true)) : (R FT X).f 13 [encLoc l, .slice 1 (a.map strL), .slice 1 (b.map strL)] = some (boolA true) := by
  have hm := maxLen_le
  have r1 := few_run (X := X) a ha
  have r2 := few_run (X := X) b hb
  have r3 := light7_run (X := X) l
  cases f1 : fewB a
  · rw [f1] at r1; exact merges_n1 l a b r1 aw
  rw [f1] at r1
  cases f2 : fewB b
  · rw [f2] at r2; exact merges_n2 l a b r1 r2 aw
  rw [f2] at r2
  cases f3 : lightB l
  · rw [f3] at r3; exact merges_n3 l a b r1 r2 r3 aw
  rw [f3] at r3
  obtain ⟨g1, g2⟩ := fewB_of f1
  obtain ⟨g3, g4⟩ := fewB_of f2
  have hl := mrg_len C _ a b (Nat.le_refl _)
  have hm2 := mrg_swap hC a b
  have r6 := column_run (X := X) (mrg C a b) 1 (by omega)
  rw [mrg_col1] at r6
  have r7 := column_run (X := X) (mrg C a b) 2 (by omega)
  rw [mrg_col2 hC] at r7
  have r8 := same21_run (X := X) a a ha ha
  rw [← sameB_y rfl] at r8
  have r9 := same21_run (X := X) b b hb hb
  rw [← sameB_y rfl] at r9
  exact merges_y l a b (mrg C a b) (mrg C b a) (by omega) hm2 (fun c h => by rcases mrg_cols hC a b c h with h | h | h; exact .inl h.1; exact .inr (.inl h.1); exact .inr (.inr h.1)) r1 r2 r3 aw (comm_run l a b C c1 g1 g3 g2 g4) (comm_run l b a C c1 g3 g1 g4 g2) r6 r7 r8 r9
theorem cl_in {m : List CLn} {k : Nat} {x y : CLn} {n : Int} {b : List Bs} {i : Nat} {u t : Bs} (h : m[k]? = some x) (h' : m[k]? = some y) (hu : b[i]? = some u) (ht : b[i]? = some t) (e : x.text = u) (e' : y.col = n) : (⟨n, t⟩ : CLn) ∈ m := by
  obtain rfl := same_at h h'
  obtain rfl := same_at hu ht
  have := List.mem_of_getElem? h
  cases y; simp only at e e'; subst e e'; exact this
theorem pw_at {α : Type} {m : List α} {P : α → α → Prop} (h : m.Pairwise P) {i j : Nat} {x y : α} (hij : i < j) (hi : m[i]? = some x) (hj : m[j]? = some y) : P x y := by
  obtain ⟨hi', rfl⟩ := get_of hi
  obtain ⟨hj', rfl⟩ := get_of hj
  exact List.pairwise_iff_getElem.1 h _ _ hi' hj' hij
theorem sorted_n1 (l : Loc) (a b : List Bs) (r1 : (R FT X).f 40 [.slice 1 (a.map strL)] = some (boolA false)) (aw : (R FT X).f 42 [] = some (boolA true)) : (R FT X).f 14 [encLoc l, .slice 1 (a.map strL), .slice 1 (b.map strL)] = some (boolA true) := by
  refine R_wp ((Tr.c (boolA false) (Tr.b true (Tr.b true (Tr.b true (Tr.b true (Tr.b true (Tr.c (boolA true) Tr.nil)).w))))).w) rfl ?_
  refine Eq.mpr (by kernel_rfl : _ = ((R FT X).f (40 : FuncId) [AV.slice (1 : Nat) (List.map strL a)] = some (boolA false) ∧ true = true ∧ true = true ∧ true = true ∧ true = true ∧ true = true ∧ (R FT X).f (42 : FuncId) [] = some (boolA true) ∧ true = true)) ?_
  refine ⟨r1, rfl, rfl, rfl, rfl, rfl, aw, rfl⟩
theorem sorted_n2 (l : Loc) (a b : List Bs) (r1 : (R FT X).f 40 [.slice 1 (a.map strL)] = some (boolA true)) (r2 : (R FT X).f 40 [.slice 1 (b.map strL)] = some (boolA false)) (aw : (R FT X).f 42 [] = some (boolA true)) : (R FT X).f 14 [encLoc l, .slice 1 (a.map strL), .slice 1 (b.map strL)] = some (boolA true) := by
  refine R_wp ((Tr.c (boolA true) (Tr.b false (Tr.c (boolA false) (Tr.b true (Tr.b true (Tr.b true (Tr.b true (Tr.c (boolA true) Tr.nil)).w)))))).w) rfl ?_
  refine Eq.mpr (by kernel_rfl : _ = ((R FT X).f (40 : FuncId) [AV.slice (1 : Nat) (List.map strL a)] = some (boolA true) ∧ false = false ∧ (R FT X).f (40 : FuncId) [AV.slice (1 : Nat) (List.map strL b)] = some (boolA false) ∧ true = true ∧ true = true ∧ true = true ∧ true = true ∧ (R FT X).f (42 : FuncId) [] = some (boolA true) ∧ true = true)) ?_
  refine ⟨r1, rfl, r2, rfl, rfl, rfl, rfl, aw, rfl⟩
theorem sorted_n3 (l : Loc) (a b : List Bs) (r1 : (R FT X).f 40 [.slice 1 (a.map strL)] = some (boolA true)) (r2 : (R FT X).f 40 [.slice 1 (b.map strL)] = some (boolA true)) (r3 : (R FT X).f 41 [encLoc l] = some (boolA false)) (aw : (R FT X).f 42 [] = some (boolA true)) : (R FT X).f 14 [encLoc l, .slice 1 (a.map strL), .slice 1 (b.map strL)] = some (boolA true) := by
  refine R_wp ((Tr.c (boolA true) (Tr.b false (Tr.c (boolA true) (Tr.b false (Tr.c (boolA false) (Tr.b true (Tr.b true (Tr.b true (Tr.c (boolA true) Tr.nil)).w))))))).w) rfl ?_
  refine Eq.mpr (by kernel_rfl : _ = ((R FT X).f (40 : FuncId) [AV.slice (1 : Nat) (List.map strL a)] = some (boolA true) ∧ false = false ∧ (R FT X).f (40 : FuncId) [AV.slice (1 : Nat) (List.map strL b)] = some (boolA true) ∧ false = false ∧ (R FT X).f (41 : FuncId) [AV.agg [strL l.name, AV.slice (1 : Nat) (List.map intA l.weights), strL l.lower, strL l.upper, AV.slice (5 : Nat) (List.map encCls l.classes), AV.slice (2 : Nat) (List.map encEl l.elements)]] = some (boolA false) ∧ true = true ∧ true = true ∧ true = true ∧ (R FT X).f (42 : FuncId) [] = some (boolA true) ∧ true = true)) ?_
  refine ⟨r1, rfl, r2, rfl, (r3), rfl, rfl, rfl, aw, rfl⟩
theorem sorted_y (l : Loc) (a b : List Bs) (n1 n2 : Int) (m : List CLn) (C : Bs → Bs → Int) (hb : b.length ≤ 1000) (hm : m.length ≤ 1000) (hx : ∀ c ∈ m, c.text.length ≤ 1000) (hs : n1 < 0 → n2 < 0 → m.Pairwise fun c d => C c.text d.text ≤ 0) (ho : n1 < 0 → n2 < 0 → ∀ t, ¬ ((⟨1, t⟩ : CLn) ∈ m ∧ (⟨2, t⟩ : CLn) ∈ m)) (c2 : ∀ x y : Bs, x.length ≤ 1048576 → y.length ≤ 1048576 → (R FT X).f 22 [encLoc l, strL x, strL y] = some (intA (C x y))) (r1 : (R FT X).f 40 [.slice 1 (a.map strL)] = some (boolA true)) (r2 : (R FT X).f 40 [.slice 1 (b.map strL)] = some (boolA true)) (r3 : (R FT X).f 41 [encLoc l] = some (boolA true)) (aw : (R FT X).f 42 [] = some (boolA true)) (r4 : (R FT X).f 44 [encLoc l, .slice 1 (a.map strL), .slice 1 (b.map strL)] = some (.slice 2 (m.map encCL))) (r5 : (R FT X).f 46 [encLoc l, .slice 1 (a.map strL)] = some (intA n1)) (r6 : (R FT X).f 46 [encLoc l, .slice 1 (b.map strL)] = some (intA n2)) : (R FT X).f 14 [encLoc l, .slice 1 (a.map strL), .slice 1 (b.map strL)] = some (boolA true) := by
  refine R_wp ((Tr.c (boolA true) (Tr.b false (Tr.c (boolA true) (Tr.b false (Tr.c (boolA true) (Tr.b false (Tr.c (intA n1) ((Tr.b true (Tr.c (boolA true) Tr.nil)).w.br (Tr.c (intA n2) ((Tr.c (boolA true) Tr.nil).br (Tr.c (AV.slice (2 : Nat) (List.map encCL m)) (Tr.inv (fun (k : Nat) ↦ St.mk [((2 : Nat), AV.slice (1 : Nat) (List.map strL b)), ((3 : Nat), AV.ptr (0 : Nat) (0 : Nat)), ((7 : Nat), AV.slice (2 : Nat) (List.map encCL m)), ((8 : Nat), intA (↑k : Int))] [MObj.box [strL l.name, AV.slice (1 : Nat) (List.map intA l.weights), strL l.lower, strL l.upper, AV.slice (5 : Nat) (List.map encCls l.classes), AV.slice (2 : Nat) (List.map encEl l.elements)]]) (fun (k : Nat) ↦ k ≤ m.length) (fun (k : Nat) ↦ m.length - k) fun (k : Nat) ↦ (Tr.k m.length (((Tr.ix encCL m ((↑k : Int) - (1 : Int)).toNat fun (x9 : CLn) ↦ Tr.ix encCL m k fun (x11 : CLn) ↦ Tr.c (intA (C x9.text x11.text)) (Tr.nil.br Tr.nil.w).w).w.br (Tr.b false Tr.nil.w).w).w.w.br (Tr.inv (fun (i : Nat) ↦ St.mk [((2 : Nat), AV.slice (1 : Nat) (List.map strL b)), ((7 : Nat), AV.slice (2 : Nat) (List.map encCL m)), ((9 : Nat), intA (↑i : Int))] []) (fun (i : Nat) ↦ i ≤ b.length) (fun (i : Nat) ↦ b.length - i) fun (i : Nat) ↦ (Tr.k b.length ((Tr.inv (fun (q : Nat × Nat × Nat) ↦ St.mk [((2 : Nat), AV.slice (1 : Nat) (List.map strL b)), ((7 : Nat), AV.slice (2 : Nat) (List.map encCL m)), ((9 : Nat), intA (↑i : Int)), ((10 : Nat), intA (↑q.fst : Int)), ((11 : Nat), intA (↑q.snd.fst : Int)), ((12 : Nat), intA (↑q.snd.snd : Int))] []) (fun (q : Nat × Nat × Nat) ↦ q.snd.snd ≤ m.length ∧ q.fst ≤ q.snd.snd ∧ q.snd.fst ≤ q.snd.snd ∧ ∀ (t : Bs), b[i]? = some t → ((0 : Nat) < q.fst → CLn.mk (1 : Int) t ∈ m) ∧ ((0 : Nat) < q.snd.fst → CLn.mk (2 : Int) t ∈ m)) (fun (q : Nat × Nat × Nat) ↦ m.length - q.snd.snd) fun (q : Nat × Nat × Nat) ↦ (Tr.k m.length ((Tr.ix encCL m q.snd.snd fun (x29 : CLn) ↦ Tr.ix strL b i fun (x31 : Bs) ↦ (Tr.ix encCL m q.snd.snd fun (x34 : CLn) ↦ ((Tr.ix encCL m q.snd.snd fun (x37 : CLn) ↦ Tr.ix strL b i fun (x39 : Bs) ↦ (Tr.ix encCL m q.snd.snd fun (x42 : CLn) ↦ (Tr.nil.w.w.br Tr.nil.w).w).br (Tr.b false Tr.nil.w).w).w.w.br (Tr.ix encCL m q.snd.snd fun (x63 : CLn) ↦ Tr.ix strL b i fun (x65 : Bs) ↦ (Tr.ix encCL m q.snd.snd fun (x68 : CLn) ↦ (Tr.nil.w.w.br Tr.nil.w).w).br (Tr.b false Tr.nil.w).w).w).w).br (Tr.b false (Tr.ix encCL m q.snd.snd fun (x89 : CLn) ↦ Tr.ix strL b i fun (x91 : Bs) ↦ (Tr.ix encCL m q.snd.snd fun (x94 : CLn) ↦ (Tr.nil.w.w.br Tr.nil.w).w).br (Tr.b false Tr.nil.w).w).w).w).w.w.br ((Tr.nil.br Tr.nil.w).w.br (Tr.b false Tr.nil.w).w).w)).w).w.w.br (Tr.c (boolA true) Tr.nil))).w).w)).w).w)).w))))))))).w) rfl ?_
  refine Eq.mpr (by kernel_rfl : _ = ((R FT X).f (40 : FuncId) [AV.slice (1 : Nat) (List.map strL a)] = some (boolA true) ∧
  false = false ∧
    (R FT X).f (40 : FuncId) [AV.slice (1 : Nat) (List.map strL b)] = some (boolA true) ∧
      false = false ∧
        (R FT X).f (41 : FuncId) [AV.agg [strL l.name, AV.slice (1 : Nat) (List.map intA l.weights), strL l.lower, strL l.upper, AV.slice (5 : Nat) (List.map encCls l.classes), AV.slice (2 : Nat) (List.map encEl l.elements)]] = some (boolA true) ∧
          false = false ∧
            (R FT X).f (46 : FuncId) [AV.agg [strL l.name, AV.slice (1 : Nat) (List.map intA l.weights), strL l.lower, strL l.upper, AV.slice (5 : Nat) (List.map encCls l.classes), AV.slice (2 : Nat) (List.map encEl l.elements)], AV.slice (1 : Nat) (List.map strL a)] = some (intA n1) ∧
              (decide ((0 : Int) ≤ n1) = true → true = true ∧ (R FT X).f (42 : FuncId) [] = some (boolA true) ∧ true = true) ∧
                (decide ((0 : Int) ≤ n1) = false →
                  (R FT X).f (46 : FuncId) [AV.agg [strL l.name, AV.slice (1 : Nat) (List.map intA l.weights), strL l.lower, strL l.upper, AV.slice (5 : Nat) (List.map encCls l.classes), AV.slice (2 : Nat) (List.map encEl l.elements)], AV.slice (1 : Nat) (List.map strL b)] = some (intA n2) ∧
                    (decide ((0 : Int) ≤ n2) = true → (R FT X).f (42 : FuncId) [] = some (boolA true) ∧ true = true) ∧
                      (decide ((0 : Int) ≤ n2) = false →
                        (R FT X).f (44 : FuncId) [AV.agg [strL l.name, AV.slice (1 : Nat) (List.map intA l.weights), strL l.lower, strL l.upper, AV.slice (5 : Nat) (List.map encCls l.classes), AV.slice (2 : Nat) (List.map encEl l.elements)], AV.slice (1 : Nat) (List.map strL a), AV.slice (1 : Nat) (List.map strL b)] = some (AV.slice (2 : Nat) (List.map encCL m)) ∧
                          (∃ (j5 : Nat), ((List.map strL b = List.map strL b ∧ True ∧ List.map encCL m = List.map encCL m ∧ (0 : Int) = (↑j5 : Int) ∧ True) ∧ l.name = l.name ∧ List.map intA l.weights = List.map intA l.weights ∧ l.lower = l.lower ∧ l.upper = l.upper ∧ List.map encCls l.classes = List.map encCls l.classes ∧ List.map encEl l.elements = List.map encEl l.elements) ∧ j5 ≤ m.length) ∧
                            ∀ (k : Nat),
                              k ≤ m.length →
                                (List.map encCL m).length = m.length ∧
                                  (decide ((↑k : Int) < (↑m.length : Int)) = true → (decide ((0 : Int) < (↑k : Int)) = true → InI64 ((↑k : Int) - (1 : Int)) ∧ List.map encCL m = List.map encCL m ∧ (↑k : Int) - (1 : Int) = (↑((↑k : Int) - (1 : Int)).toNat : Int) ∧ ((↑k : Int) - (1 : Int)).toNat < m.length ∧ ∀ (x9 : CLn), m[((↑k : Int) - (1 : Int)).toNat]? = some x9 → List.map encCL m = List.map encCL m ∧ (↑k : Int) = (↑k : Int) ∧ k < m.length ∧ ∀ (x11 : CLn), m[k]? = some x11 → (R FT X).f (22 : FuncId) [AV.agg [strL l.name, AV.slice (1 : Nat) (List.map intA l.weights), strL l.lower, strL l.upper, AV.slice (5 : Nat) (List.map encCls l.classes), AV.slice (2 : Nat) (List.map encEl l.elements)], AV.val (Value.string (ofL x9.text)), AV.val (Value.string (ofL x11.text))] = some (intA (C x9.text x11.text)) ∧ (decide ((0 : Int) < C x9.text x11.text) = true → false = true) ∧ (decide ((0 : Int) < C x9.text x11.text) = false → InI64 ((↑k : Int) + (1 : Int)) ∧ ∃ (j15 : Nat), ((List.map strL b = List.map strL b ∧ True ∧ List.map encCL m = List.map encCL m ∧ (↑k : Int) + (1 : Int) = (↑j15 : Int) ∧ True) ∧ l.name = l.name ∧ List.map intA l.weights = List.map intA l.weights ∧ l.lower = l.lower ∧ l.upper = l.upper ∧ List.map encCls l.classes = List.map encCls l.classes ∧ List.map encEl l.elements = List.map encEl l.elements) ∧ j15 ≤ m.length ∧ m.length - j15 < m.length - k)) ∧ (decide ((0 : Int) < (↑k : Int)) = false → false = false ∧ InI64 ((↑k : Int) + (1 : Int)) ∧ ∃ (j17 : Nat), ((List.map strL b = List.map strL b ∧ True ∧ List.map encCL m = List.map encCL m ∧ (↑k : Int) + (1 : Int) = (↑j17 : Int) ∧ True) ∧ l.name = l.name ∧ List.map intA l.weights = List.map intA l.weights ∧ l.lower = l.lower ∧ l.upper = l.upper ∧ List.map encCls l.classes = List.map encCls l.classes ∧ List.map encEl l.elements = List.map encEl l.elements) ∧ j17 ≤ m.length ∧ m.length - j17 < m.length - k)) ∧
                                    (decide ((↑k : Int) < (↑m.length : Int)) = false →
                                      (∃ (j19 : Nat), ((List.map strL b = List.map strL b ∧ List.map encCL m = List.map encCL m ∧ (0 : Int) = (↑j19 : Int) ∧ True) ∧ True) ∧ j19 ≤ b.length) ∧
                                        ∀ (i : Nat),
                                          i ≤ b.length →
                                            (List.map strL b).length = b.length ∧
                                              (decide ((↑i : Int) < (↑b.length : Int)) = true →
                                                  (∃ (j22 : Nat × Nat × Nat), ((List.map strL b = List.map strL b ∧ List.map encCL m = List.map encCL m ∧ (↑i : Int) = (↑i : Int) ∧ (0 : Int) = (↑j22.fst : Int) ∧ (0 : Int) = (↑j22.snd.fst : Int) ∧ (0 : Int) = (↑j22.snd.snd : Int) ∧ True) ∧ True) ∧ j22.snd.snd ≤ m.length ∧ j22.fst ≤ j22.snd.snd ∧ j22.snd.fst ≤ j22.snd.snd ∧ ∀ (t23 : Bs), b[i]? = some t23 → ((0 : Nat) < j22.fst → CLn.mk (1 : Int) t23 ∈ m) ∧ ((0 : Nat) < j22.snd.fst → CLn.mk (2 : Int) t23 ∈ m)) ∧
                                                    ∀ (q : Nat × Nat × Nat),
                                                      (q.snd.snd ≤ m.length ∧ q.fst ≤ q.snd.snd ∧ q.snd.fst ≤ q.snd.snd ∧ ∀ (t : Bs), b[i]? = some t → ((0 : Nat) < q.fst → CLn.mk (1 : Int) t ∈ m) ∧ ((0 : Nat) < q.snd.fst → CLn.mk (2 : Int) t ∈ m)) →
                                                        (List.map encCL m).length = m.length ∧
                                                          (decide ((↑q.snd.snd : Int) < (↑m.length : Int)) = true →
                                                              List.map encCL m = List.map encCL m ∧
                                                                (↑q.snd.snd : Int) = (↑q.snd.snd : Int) ∧
                                                                  q.snd.snd < m.length ∧
                                                                    ∀ (x29 : CLn),
                                                                      m[q.snd.snd]? = some x29 →
                                                                        List.map strL b = List.map strL b ∧
                                                                          (↑i : Int) = (↑i : Int) ∧
                                                                            i < b.length ∧
                                                                              ∀ (x31 : Bs),
                                                                                b[i]? = some x31 →
                                                                                  (decide (x29.text = x31) = true →
                                                                                      List.map encCL m = List.map encCL m ∧
                                                                                        (↑q.snd.snd : Int) = (↑q.snd.snd : Int) ∧
                                                                                          q.snd.snd < m.length ∧
                                                                                            ∀ (x34 : CLn),
                                                                                              m[q.snd.snd]? = some x34 →
                                                                                                (decide (x34.col = (1 : Int)) = true → InI64 ((↑q.fst : Int) + (1 : Int)) ∧ List.map encCL m = List.map encCL m ∧ (↑q.snd.snd : Int) = (↑q.snd.snd : Int) ∧ q.snd.snd < m.length ∧ ∀ (x37 : CLn), m[q.snd.snd]? = some x37 → List.map strL b = List.map strL b ∧ (↑i : Int) = (↑i : Int) ∧ i < b.length ∧ ∀ (x39 : Bs), b[i]? = some x39 → (decide (x37.text = x39) = true → List.map encCL m = List.map encCL m ∧ (↑q.snd.snd : Int) = (↑q.snd.snd : Int) ∧ q.snd.snd < m.length ∧ ∀ (x42 : CLn), m[q.snd.snd]? = some x42 → (decide (x42.col = (2 : Int)) = true → InI64 ((↑q.snd.fst : Int) + (1 : Int)) ∧ InI64 ((↑q.snd.snd : Int) + (1 : Int)) ∧ ∃ (j45 : Nat × Nat × Nat), ((List.map strL b = List.map strL b ∧ List.map encCL m = List.map encCL m ∧ (↑i : Int) = (↑i : Int) ∧ (↑q.fst : Int) + (1 : Int) = (↑j45.fst : Int) ∧ (↑q.snd.fst : Int) + (1 : Int) = (↑j45.snd.fst : Int) ∧ (↑q.snd.snd : Int) + (1 : Int) = (↑j45.snd.snd : Int) ∧ True) ∧ True) ∧ (j45.snd.snd ≤ m.length ∧ j45.fst ≤ j45.snd.snd ∧ j45.snd.fst ≤ j45.snd.snd ∧ ∀ (t46 : Bs), b[i]? = some t46 → ((0 : Nat) < j45.fst → CLn.mk (1 : Int) t46 ∈ m) ∧ ((0 : Nat) < j45.snd.fst → CLn.mk (2 : Int) t46 ∈ m)) ∧ m.length - j45.snd.snd < m.length - q.snd.snd) ∧ (decide (x42.col = (2 : Int)) = false → InI64 ((↑q.snd.snd : Int) + (1 : Int)) ∧ ∃ (j51 : Nat × Nat × Nat), ((List.map strL b = List.map strL b ∧ List.map encCL m = List.map encCL m ∧ (↑i : Int) = (↑i : Int) ∧ (↑q.fst : Int) + (1 : Int) = (↑j51.fst : Int) ∧ (↑q.snd.fst : Int) = (↑j51.snd.fst : Int) ∧ (↑q.snd.snd : Int) + (1 : Int) = (↑j51.snd.snd : Int) ∧ True) ∧ True) ∧ (j51.snd.snd ≤ m.length ∧ j51.fst ≤ j51.snd.snd ∧ j51.snd.fst ≤ j51.snd.snd ∧ ∀ (t52 : Bs), b[i]? = some t52 → ((0 : Nat) < j51.fst → CLn.mk (1 : Int) t52 ∈ m) ∧ ((0 : Nat) < j51.snd.fst → CLn.mk (2 : Int) t52 ∈ m)) ∧ m.length - j51.snd.snd < m.length - q.snd.snd)) ∧ (decide (x37.text = x39) = false → false = false ∧ InI64 ((↑q.snd.snd : Int) + (1 : Int)) ∧ ∃ (j57 : Nat × Nat × Nat), ((List.map strL b = List.map strL b ∧ List.map encCL m = List.map encCL m ∧ (↑i : Int) = (↑i : Int) ∧ (↑q.fst : Int) + (1 : Int) = (↑j57.fst : Int) ∧ (↑q.snd.fst : Int) = (↑j57.snd.fst : Int) ∧ (↑q.snd.snd : Int) + (1 : Int) = (↑j57.snd.snd : Int) ∧ True) ∧ True) ∧ (j57.snd.snd ≤ m.length ∧ j57.fst ≤ j57.snd.snd ∧ j57.snd.fst ≤ j57.snd.snd ∧ ∀ (t58 : Bs), b[i]? = some t58 → ((0 : Nat) < j57.fst → CLn.mk (1 : Int) t58 ∈ m) ∧ ((0 : Nat) < j57.snd.fst → CLn.mk (2 : Int) t58 ∈ m)) ∧ m.length - j57.snd.snd < m.length - q.snd.snd)) ∧
                                                                                                  (decide (x34.col = (1 : Int)) = false → List.map encCL m = List.map encCL m ∧ (↑q.snd.snd : Int) = (↑q.snd.snd : Int) ∧ q.snd.snd < m.length ∧ ∀ (x63 : CLn), m[q.snd.snd]? = some x63 → List.map strL b = List.map strL b ∧ (↑i : Int) = (↑i : Int) ∧ i < b.length ∧ ∀ (x65 : Bs), b[i]? = some x65 → (decide (x63.text = x65) = true → List.map encCL m = List.map encCL m ∧ (↑q.snd.snd : Int) = (↑q.snd.snd : Int) ∧ q.snd.snd < m.length ∧ ∀ (x68 : CLn), m[q.snd.snd]? = some x68 → (decide (x68.col = (2 : Int)) = true → InI64 ((↑q.snd.fst : Int) + (1 : Int)) ∧ InI64 ((↑q.snd.snd : Int) + (1 : Int)) ∧ ∃ (j71 : Nat × Nat × Nat), ((List.map strL b = List.map strL b ∧ List.map encCL m = List.map encCL m ∧ (↑i : Int) = (↑i : Int) ∧ (↑q.fst : Int) = (↑j71.fst : Int) ∧ (↑q.snd.fst : Int) + (1 : Int) = (↑j71.snd.fst : Int) ∧ (↑q.snd.snd : Int) + (1 : Int) = (↑j71.snd.snd : Int) ∧ True) ∧ True) ∧ (j71.snd.snd ≤ m.length ∧ j71.fst ≤ j71.snd.snd ∧ j71.snd.fst ≤ j71.snd.snd ∧ ∀ (t72 : Bs), b[i]? = some t72 → ((0 : Nat) < j71.fst → CLn.mk (1 : Int) t72 ∈ m) ∧ ((0 : Nat) < j71.snd.fst → CLn.mk (2 : Int) t72 ∈ m)) ∧ m.length - j71.snd.snd < m.length - q.snd.snd) ∧ (decide (x68.col = (2 : Int)) = false → InI64 ((↑q.snd.snd : Int) + (1 : Int)) ∧ ∃ (j77 : Nat × Nat × Nat), ((List.map strL b = List.map strL b ∧ List.map encCL m = List.map encCL m ∧ (↑i : Int) = (↑i : Int) ∧ (↑q.fst : Int) = (↑j77.fst : Int) ∧ (↑q.snd.fst : Int) = (↑j77.snd.fst : Int) ∧ (↑q.snd.snd : Int) + (1 : Int) = (↑j77.snd.snd : Int) ∧ True) ∧ True) ∧ (j77.snd.snd ≤ m.length ∧ j77.fst ≤ j77.snd.snd ∧ j77.snd.fst ≤ j77.snd.snd ∧ ∀ (t78 : Bs), b[i]? = some t78 → ((0 : Nat) < j77.fst → CLn.mk (1 : Int) t78 ∈ m) ∧ ((0 : Nat) < j77.snd.fst → CLn.mk (2 : Int) t78 ∈ m)) ∧ m.length - j77.snd.snd < m.length - q.snd.snd)) ∧ (decide (x63.text = x65) = false → false = false ∧ InI64 ((↑q.snd.snd : Int) + (1 : Int)) ∧ ∃ (j83 : Nat × Nat × Nat), ((List.map strL b = List.map strL b ∧ List.map encCL m = List.map encCL m ∧ (↑i : Int) = (↑i : Int) ∧ (↑q.fst : Int) = (↑j83.fst : Int) ∧ (↑q.snd.fst : Int) = (↑j83.snd.fst : Int) ∧ (↑q.snd.snd : Int) + (1 : Int) = (↑j83.snd.snd : Int) ∧ True) ∧ True) ∧ (j83.snd.snd ≤ m.length ∧ j83.fst ≤ j83.snd.snd ∧ j83.snd.fst ≤ j83.snd.snd ∧ ∀ (t84 : Bs), b[i]? = some t84 → ((0 : Nat) < j83.fst → CLn.mk (1 : Int) t84 ∈ m) ∧ ((0 : Nat) < j83.snd.fst → CLn.mk (2 : Int) t84 ∈ m)) ∧ m.length - j83.snd.snd < m.length - q.snd.snd))) ∧
                                                                                    (decide (x29.text = x31) = false → false = false ∧ List.map encCL m = List.map encCL m ∧ (↑q.snd.snd : Int) = (↑q.snd.snd : Int) ∧ q.snd.snd < m.length ∧ ∀ (x89 : CLn), m[q.snd.snd]? = some x89 → List.map strL b = List.map strL b ∧ (↑i : Int) = (↑i : Int) ∧ i < b.length ∧ ∀ (x91 : Bs), b[i]? = some x91 → (decide (x89.text = x91) = true → List.map encCL m = List.map encCL m ∧ (↑q.snd.snd : Int) = (↑q.snd.snd : Int) ∧ q.snd.snd < m.length ∧ ∀ (x94 : CLn), m[q.snd.snd]? = some x94 → (decide (x94.col = (2 : Int)) = true → InI64 ((↑q.snd.fst : Int) + (1 : Int)) ∧ InI64 ((↑q.snd.snd : Int) + (1 : Int)) ∧ ∃ (j97 : Nat × Nat × Nat), ((List.map strL b = List.map strL b ∧ List.map encCL m = List.map encCL m ∧ (↑i : Int) = (↑i : Int) ∧ (↑q.fst : Int) = (↑j97.fst : Int) ∧ (↑q.snd.fst : Int) + (1 : Int) = (↑j97.snd.fst : Int) ∧ (↑q.snd.snd : Int) + (1 : Int) = (↑j97.snd.snd : Int) ∧ True) ∧ True) ∧ (j97.snd.snd ≤ m.length ∧ j97.fst ≤ j97.snd.snd ∧ j97.snd.fst ≤ j97.snd.snd ∧ ∀ (t98 : Bs), b[i]? = some t98 → ((0 : Nat) < j97.fst → CLn.mk (1 : Int) t98 ∈ m) ∧ ((0 : Nat) < j97.snd.fst → CLn.mk (2 : Int) t98 ∈ m)) ∧ m.length - j97.snd.snd < m.length - q.snd.snd) ∧ (decide (x94.col = (2 : Int)) = false → InI64 ((↑q.snd.snd : Int) + (1 : Int)) ∧ ∃ (j103 : Nat × Nat × Nat), ((List.map strL b = List.map strL b ∧ List.map encCL m = List.map encCL m ∧ (↑i : Int) = (↑i : Int) ∧ (↑q.fst : Int) = (↑j103.fst : Int) ∧ (↑q.snd.fst : Int) = (↑j103.snd.fst : Int) ∧ (↑q.snd.snd : Int) + (1 : Int) = (↑j103.snd.snd : Int) ∧ True) ∧ True) ∧ (j103.snd.snd ≤ m.length ∧ j103.fst ≤ j103.snd.snd ∧ j103.snd.fst ≤ j103.snd.snd ∧ ∀ (t104 : Bs), b[i]? = some t104 → ((0 : Nat) < j103.fst → CLn.mk (1 : Int) t104 ∈ m) ∧ ((0 : Nat) < j103.snd.fst → CLn.mk (2 : Int) t104 ∈ m)) ∧ m.length - j103.snd.snd < m.length - q.snd.snd)) ∧ (decide (x89.text = x91) = false → false = false ∧ InI64 ((↑q.snd.snd : Int) + (1 : Int)) ∧ ∃ (j109 : Nat × Nat × Nat), ((List.map strL b = List.map strL b ∧ List.map encCL m = List.map encCL m ∧ (↑i : Int) = (↑i : Int) ∧ (↑q.fst : Int) = (↑j109.fst : Int) ∧ (↑q.snd.fst : Int) = (↑j109.snd.fst : Int) ∧ (↑q.snd.snd : Int) + (1 : Int) = (↑j109.snd.snd : Int) ∧ True) ∧ True) ∧ (j109.snd.snd ≤ m.length ∧ j109.fst ≤ j109.snd.snd ∧ j109.snd.fst ≤ j109.snd.snd ∧ ∀ (t110 : Bs), b[i]? = some t110 → ((0 : Nat) < j109.fst → CLn.mk (1 : Int) t110 ∈ m) ∧ ((0 : Nat) < j109.snd.fst → CLn.mk (2 : Int) t110 ∈ m)) ∧ m.length - j109.snd.snd < m.length - q.snd.snd))) ∧
                                                            (decide ((↑q.snd.snd : Int) < (↑m.length : Int)) = false → (decide ((0 : Int) < (↑q.fst : Int)) = true → (decide ((0 : Int) < (↑q.snd.fst : Int)) = true → false = true) ∧ (decide ((0 : Int) < (↑q.snd.fst : Int)) = false → InI64 ((↑i : Int) + (1 : Int)) ∧ ∃ (j118 : Nat), ((List.map strL b = List.map strL b ∧ List.map encCL m = List.map encCL m ∧ (↑i : Int) + (1 : Int) = (↑j118 : Int) ∧ True) ∧ True) ∧ j118 ≤ b.length ∧ b.length - j118 < b.length - i)) ∧ (decide ((0 : Int) < (↑q.fst : Int)) = false → false = false ∧ InI64 ((↑i : Int) + (1 : Int)) ∧ ∃ (j120 : Nat), ((List.map strL b = List.map strL b ∧ List.map encCL m = List.map encCL m ∧ (↑i : Int) + (1 : Int) = (↑j120 : Int) ∧ True) ∧ True) ∧ j120 ≤ b.length ∧ b.length - j120 < b.length - i))) ∧
                                                (decide ((↑i : Int) < (↑b.length : Int)) = false → (R FT X).f (42 : FuncId) [] = some (boolA true) ∧ true = true)))))) ?_
  refine ⟨r1, rfl, r2, rfl, (r3), rfl, (r5), fun h1_ => have h1 := dT h1_; ⟨rfl, aw, rfl⟩, fun h2_ => have h2 := dF h2_; ⟨(r6), fun h3_ => have h3 := dT h3_; ⟨aw, rfl⟩, fun h4_ => have h4 := dF h4_; ⟨(r4), ⟨(0 : Nat), ⟨⟨rfl, trivial, rfl, (by omega), trivial⟩, rfl, rfl, rfl, rfl, rfl, rfl⟩, (by omega)⟩, fun k => fun h6 => ⟨(by simp), fun h7_ => have h7 := dT h7_; ⟨fun h8_ => have h8 := dT h8_; ⟨(by unfold InI64; omega), rfl, (by omega), (by omega), fun x9 => fun h10 => ⟨rfl, rfl, (by omega), fun x11 => fun h12 => ⟨(c2 _ _ ?_ ?_), fun h13_ => have h13 := dT h13_; ?_, fun h14_ => have h14 := dF h14_; ⟨(by unfold InI64; omega), ⟨k + (1 : Nat), ⟨⟨rfl, trivial, rfl, (by omega), trivial⟩, rfl, rfl, rfl, rfl, rfl, rfl⟩, ⟨(by omega), (by omega)⟩⟩⟩⟩⟩⟩, fun h16_ => have h16 := dF h16_; ⟨rfl, (by unfold InI64; omega), ⟨k + (1 : Nat), ⟨⟨rfl, trivial, rfl, (by omega), trivial⟩, rfl, rfl, rfl, rfl, rfl, rfl⟩, ⟨(by omega), (by omega)⟩⟩⟩⟩, fun h18_ => have h18 := dF h18_; ⟨⟨(0 : Nat), ⟨⟨rfl, rfl, (by omega), trivial⟩, trivial⟩, (by omega)⟩, fun i => fun h20 => ⟨(by simp), fun h21_ => have h21 := dT h21_; ⟨⟨((0 : Nat), (0 : Nat), (0 : Nat)), ⟨⟨rfl, rfl, rfl, (by (try dsimp only); omega), (by (try dsimp only); omega), (by (try dsimp only); omega), trivial⟩, trivial⟩, ⟨(by (try dsimp only); omega), (by (try dsimp only); omega), (by (try dsimp only); omega), fun t23 => fun h24 => ⟨fun h25 => ?_, fun h26 => ?_⟩⟩⟩, fun q => fun h27 => have h27a := h27.1; have h27b := h27.2.1; have h27c := h27.2.2.1; have h27d := h27.2.2.2; ⟨(by simp), fun h28_ => have h28 := dT h28_; ⟨rfl, rfl, (by omega), fun x29 => fun h30 => ⟨rfl, rfl, (by omega), fun x31 => fun h32 => ⟨fun h33_ => have h33 := dT h33_; ⟨rfl, rfl, (by omega), fun x34 => fun h35 => ⟨fun h36_ => have h36 := dT h36_; ⟨(by unfold InI64; omega), rfl, rfl, (by omega), fun x37 => fun h38 => ⟨rfl, rfl, (by omega), fun x39 => fun h40 => ⟨fun h41_ => have h41 := dT h41_; ⟨rfl, rfl, (by omega), fun x42 => fun h43 => ⟨fun h44_ => have h44 := dT h44_; ⟨(by unfold InI64; omega), (by unfold InI64; omega), ⟨(q.fst + (1 : Nat), q.snd.fst + (1 : Nat), q.snd.snd + (1 : Nat)), ⟨⟨rfl, rfl, rfl, (by (try dsimp only); omega), (by (try dsimp only); omega), (by (try dsimp only); omega), trivial⟩, trivial⟩, ⟨⟨(by (try dsimp only); omega), (by (try dsimp only); omega), (by (try dsimp only); omega), fun t46 => fun h47 => ⟨fun h48 => ?_, fun h49 => ?_⟩⟩, (by (try dsimp only); omega)⟩⟩⟩, fun h50_ => have h50 := dF h50_; ⟨(by unfold InI64; omega), ⟨(q.fst + (1 : Nat), q.snd.fst, q.snd.snd + (1 : Nat)), ⟨⟨rfl, rfl, rfl, (by (try dsimp only); omega), rfl, (by (try dsimp only); omega), trivial⟩, trivial⟩, ⟨⟨(by (try dsimp only); omega), (by (try dsimp only); omega), (by (try dsimp only); omega), fun t52 => fun h53 => ⟨fun h54 => ?_, fun h55 => ?_⟩⟩, (by (try dsimp only); omega)⟩⟩⟩⟩⟩, fun h56_ => have h56 := dF h56_; ⟨rfl, (by unfold InI64; omega), ⟨(q.fst + (1 : Nat), q.snd.fst, q.snd.snd + (1 : Nat)), ⟨⟨rfl, rfl, rfl, (by (try dsimp only); omega), rfl, (by (try dsimp only); omega), trivial⟩, trivial⟩, ⟨⟨(by (try dsimp only); omega), (by (try dsimp only); omega), (by (try dsimp only); omega), fun t58 => fun h59 => ⟨fun h60 => ?_, fun h61 => ?_⟩⟩, (by (try dsimp only); omega)⟩⟩⟩⟩⟩⟩, fun h62_ => have h62 := dF h62_; ⟨rfl, rfl, (by omega), fun x63 => fun h64 => ⟨rfl, rfl, (by omega), fun x65 => fun h66 => ⟨fun h67_ => have h67 := dT h67_; ⟨rfl, rfl, (by omega), fun x68 => fun h69 => ⟨fun h70_ => have h70 := dT h70_; ⟨(by unfold InI64; omega), (by unfold InI64; omega), ⟨(q.fst, q.snd.fst + (1 : Nat), q.snd.snd + (1 : Nat)), ⟨⟨rfl, rfl, rfl, rfl, (by (try dsimp only); omega), (by (try dsimp only); omega), trivial⟩, trivial⟩, ⟨⟨(by (try dsimp only); omega), (by (try dsimp only); omega), (by (try dsimp only); omega), fun t72 => fun h73 => ⟨fun h74 => ?_, fun h75 => ?_⟩⟩, (by (try dsimp only); omega)⟩⟩⟩, fun h76_ => have h76 := dF h76_; ⟨(by unfold InI64; omega), ⟨(q.fst, q.snd.fst, q.snd.snd + (1 : Nat)), ⟨⟨rfl, rfl, rfl, rfl, rfl, (by (try dsimp only); omega), trivial⟩, trivial⟩, ⟨⟨(by (try dsimp only); omega), (by (try dsimp only); omega), (by (try dsimp only); omega), fun t78 => fun h79 => ⟨fun h80 => ?_, fun h81 => ?_⟩⟩, (by (try dsimp only); omega)⟩⟩⟩⟩⟩, fun h82_ => have h82 := dF h82_; ⟨rfl, (by unfold InI64; omega), ⟨(q.fst, q.snd.fst, q.snd.snd + (1 : Nat)), ⟨⟨rfl, rfl, rfl, rfl, rfl, (by (try dsimp only); omega), trivial⟩, trivial⟩, ⟨⟨(by (try dsimp only); omega), (by (try dsimp only); omega), (by (try dsimp only); omega), fun t84 => fun h85 => ⟨fun h86 => ?_, fun h87 => ?_⟩⟩, (by (try dsimp only); omega)⟩⟩⟩⟩⟩⟩⟩⟩, fun h88_ => have h88 := dF h88_; ⟨rfl, rfl, rfl, (by omega), fun x89 => fun h90 => ⟨rfl, rfl, (by omega), fun x91 => fun h92 => ⟨fun h93_ => have h93 := dT h93_; ⟨rfl, rfl, (by omega), fun x94 => fun h95 => ⟨fun h96_ => have h96 := dT h96_; ⟨(by unfold InI64; omega), (by unfold InI64; omega), ⟨(q.fst, q.snd.fst + (1 : Nat), q.snd.snd + (1 : Nat)), ⟨⟨rfl, rfl, rfl, rfl, (by (try dsimp only); omega), (by (try dsimp only); omega), trivial⟩, trivial⟩, ⟨⟨(by (try dsimp only); omega), (by (try dsimp only); omega), (by (try dsimp only); omega), fun t98 => fun h99 => ⟨fun h100 => ?_, fun h101 => ?_⟩⟩, (by (try dsimp only); omega)⟩⟩⟩, fun h102_ => have h102 := dF h102_; ⟨(by unfold InI64; omega), ⟨(q.fst, q.snd.fst, q.snd.snd + (1 : Nat)), ⟨⟨rfl, rfl, rfl, rfl, rfl, (by (try dsimp only); omega), trivial⟩, trivial⟩, ⟨⟨(by (try dsimp only); omega), (by (try dsimp only); omega), (by (try dsimp only); omega), fun t104 => fun h105 => ⟨fun h106 => ?_, fun h107 => ?_⟩⟩, (by (try dsimp only); omega)⟩⟩⟩⟩⟩, fun h108_ => have h108 := dF h108_; ⟨rfl, (by unfold InI64; omega), ⟨(q.fst, q.snd.fst, q.snd.snd + (1 : Nat)), ⟨⟨rfl, rfl, rfl, rfl, rfl, (by (try dsimp only); omega), trivial⟩, trivial⟩, ⟨⟨(by (try dsimp only); omega), (by (try dsimp only); omega), (by (try dsimp only); omega), fun t110 => fun h111 => ⟨fun h112 => ?_, fun h113 => ?_⟩⟩, (by (try dsimp only); omega)⟩⟩⟩⟩⟩⟩⟩⟩⟩, fun h114_ => have h114 := dF h114_; ⟨fun h115_ => have h115 := dT h115_; ⟨fun h116_ => have h116 := dT h116_; ?_, fun h117_ => have h117 := dF h117_; ⟨(by unfold InI64; omega), ⟨i + (1 : Nat), ⟨⟨rfl, rfl, (by omega), trivial⟩, trivial⟩, ⟨(by omega), (by omega)⟩⟩⟩⟩, fun h119_ => have h119 := dF h119_; ⟨rfl, (by unfold InI64; omega), ⟨i + (1 : Nat), ⟨⟨rfl, rfl, (by omega), trivial⟩, trivial⟩, ⟨(by omega), (by omega)⟩⟩⟩⟩⟩⟩, fun h121_ => have h121 := dF h121_; ⟨aw, rfl⟩⟩⟩⟩⟩⟩⟩
  iterate 2 · exact Nat.le_trans (hx _ (List.mem_of_getElem? (by assumption))) (by decide)
  · have := pw_at (hs (by omega) (by omega)) (by omega) h10 h12
    omega
  iterate 2 · exact absurd (by assumption) (by decide)
  iterate 18 · first
      | exact (h27d _ (by assumption)).1 (by assumption)
      | exact (h27d _ (by assumption)).2 (by assumption)
      | exact cl_in h30 h35 h32 (by assumption) h33 h36
      | exact cl_in h38 h43 h40 (by assumption) h41 h44
      | exact cl_in h64 h69 h66 (by assumption) h67 h70
      | exact cl_in h90 h95 h92 (by assumption) h93 h96
  · have hb0 : b[i]? = some (b[i]'(by omega)) := List.getElem?_eq_getElem (by omega)
    have h5 := h27d _ hb0
    exact absurd ⟨h5.1 (by omega), h5.2 (by omega)⟩ (ho (by omega) (by omega) _)
theorem sorted_law' (l : Loc) (a b : List Bs) (C : Bs → Bs → Int) (hC : COk C) (ha : a.length ≤ maxLen) (hb : b.length ≤ maxLen) (c1 : ∀ x y : Bs, x.length ≤ 1048576 → y.length ≤ 1048576 → (R FT X).f 21 [encLoc l, strL x, strL y] = some (intA (C x y))) (c2 : ∀ x y : Bs, x.length ≤ 1048576 → y.length ≤ 1048576 → (R FT X).f 22 [encLoc l, strL x, strL y] = some (intA (C x y))) (aw : (R FT X).f 42 [] = some (boolA true)) : (R FT X).f 14 [encLoc l, .slice 1 (a.map strL), .slice 1 (b.map strL)] = some (boolA true) := by
  have hm := maxLen_le
  have r1 := few_run (X := X) a ha
  have r2 := few_run (X := X) b hb
  have r3 := light7_run (X := X) l
  cases f1 : fewB a
  · rw [f1] at r1; exact sorted_n1 l a b r1 aw
  rw [f1] at r1
  cases f2 : fewB b
  · rw [f2] at r2; exact sorted_n2 l a b r1 r2 aw
  rw [f2] at r2
  cases f3 : lightB l
  · rw [f3] at r3; exact sorted_n3 l a b r1 r2 r3 aw
  rw [f3] at r3
  obtain ⟨g1, g2⟩ := fewB_of f1
  obtain ⟨g3, g4⟩ := fewB_of f2
  have hl := mrg_len C _ a b (Nat.le_refl _)
  have hx : ∀ c ∈ mrg C a b, c.text.length ≤ 1000 := fun c h => by
    rcases mrg_mem hC h with h1 | h1
    · exact Nat.le_trans (g2 _ h1) (by decide)
    · exact Nat.le_trans (g4 _ h1) (by decide)
  exact sorted_y l a b (uns C a) (uns C b) (mrg C a b) C (by omega) (by omega) hx (fun h1 h2 => mrg_srt hC a b (srt_of hC a (uns_sign a h1)) (srt_of hC b (uns_sign b h2))) (fun h1 h2 => mrg_once hC a b (srt_of hC a (uns_sign a h1)) (srt_of hC b (uns_sign b h2))) c2 r1 r2 r3 aw (comm_run l a b C c1 g1 g3 g2 g4) (uns_run l a C c1 g1 g2) (uns_run l b C c1 g3 g4)
theorem clos_c (l : Loc) (hl : LocOk l) (hc : StrC X) : (∀ x y : Bs, x.length ≤ 1048576 → y.length ≤ 1048576 → (R FT X).f 21 [encLoc l, strL x, strL y] = some (intA (cmpL (valL l) x y))) ∧ (∀ x y : Bs, x.length ≤ 1048576 → y.length ≤ 1048576 → (R FT X).f 22 [encLoc l, strL x, strL y] = some (intA (cmpL (valL l) x y))) :=
  ⟨fun x y hx hy => cmp_run l x y hl hc hx hy, fun x y hx hy => cmp2_run l x y hl hx hy⟩
theorem compares_law (l : Loc) (a b : List Bs) (hl : LocOk l) (ha : a.length ≤ maxLen) (hb : b.length ≤ maxLen) (hc : StrC X) : (R FT X).f 11 [encLoc l, .slice 1 (a.map strL), .slice 1 (b.map strL)] = some (boolA true) :=
  compares_law' l a b (cmpL (valL l)) (cmpL_ok _) ha hb (clos_c l hl hc).1 (clos_c l hl hc).2 (cawake_run hc)
theorem merges_law (l : Loc) (a b : List Bs) (hl : LocOk l) (ha : a.length ≤ maxLen) (hb : b.length ≤ maxLen) (hc : StrC X) : (R FT X).f 13 [encLoc l, .slice 1 (a.map strL), .slice 1 (b.map strL)] = some (boolA true) :=
  merges_law' l a b (cmpL (valL l)) (cmpL_ok _) ha hb (clos_c l hl hc).1 (clos_c l hl hc).2 (cawake_run hc)
theorem sorted_law (l : Loc) (a b : List Bs) (hl : LocOk l) (ha : a.length ≤ maxLen) (hb : b.length ≤ maxLen) (hc : StrC X) : (R FT X).f 14 [encLoc l, .slice 1 (a.map strL), .slice 1 (b.map strL)] = some (boolA true) :=
  sorted_law' l a b (cmpL (valL l)) (cmpL_ok _) ha hb (clos_c l hl hc).1 (clos_c l hl hc).2 (cawake_run hc)
theorem prints_law (l : List CLn) (x y z : Bool) (hl : l.length ≤ maxLen) (hi : ∀ c ∈ l, InI64 c.col) (hc : StrC X) : (R FT X).f 12 [.slice 2 (l.map encCL), .agg [boolA x, boolA y, boolA z]] = some (boolA true) := by
  have aw := cawake_run (X := X) hc
  refine R_wp ((Tr.inv (fun (k : Nat) ↦ St.mk [((0 : Nat), AV.slice (2 : Nat) (List.map encCL l)), ((3 : Nat), AV.ptr (0 : Nat) (0 : Nat)), ((5 : Nat), intA (↑k : Int))] [MObj.box [boolA x, boolA y, boolA z]]) (fun (k : Nat) ↦ k ≤ l.length ∧ k ≤ (30 : Nat) ∧ ∀ (c : CLn), c ∈ List.take k l → List.length c.text ≤ (40 : Nat)) (fun (k : Nat) ↦ l.length - k) fun (k : Nat) ↦ (Tr.k l.length (((Tr.b true (Tr.c (boolA true) Tr.nil)).w.br (Tr.ix encCL l k fun (x8 : CLn) ↦ ((Tr.c (boolA true) Tr.nil).br Tr.nil.w).w)).w.w.br (Tr.c (AV.slice (1 : Nat) (List.map strL (prt x y z l))) (Tr.c (AV.slice (1 : Nat) (List.map strL (prt x y z l))) (Tr.c (boolA (sameB (prt x y z l) (prt x y z l))) ((Tr.c (boolA true) Tr.nil).br Tr.nil)))).w)).w).w) rfl ?_
  refine Eq.mpr (by kernel_rfl : _ = ((∃ (j1 : Nat), ((List.map encCL l = List.map encCL l ∧ True ∧ (0 : Int) = (↑j1 : Int) ∧ True) ∧ x = x ∧ y = y ∧ z = z) ∧ j1 ≤ l.length ∧ j1 ≤ (30 : Nat) ∧ ∀ (c2 : CLn), c2 ∈ List.take j1 l → List.length c2.text ≤ (40 : Nat)) ∧ ∀ (k : Nat), (k ≤ l.length ∧ k ≤ (30 : Nat) ∧ ∀ (c : CLn), c ∈ List.take k l → List.length c.text ≤ (40 : Nat)) → (List.map encCL l).length = l.length ∧ (decide ((↑k : Int) < (↑l.length : Int)) = true → (decide ((30 : Int) ≤ (↑k : Int)) = true → true = true ∧ (R FT X).f (42 : FuncId) [] = some (boolA true) ∧ true = true) ∧ (decide ((30 : Int) ≤ (↑k : Int)) = false → List.map encCL l = List.map encCL l ∧ (↑k : Int) = (↑k : Int) ∧ k < l.length ∧ ∀ (x8 : CLn), l[k]? = some x8 → (decide ((40 : Int) < (↑(List.length x8.text) : Int)) = true → (R FT X).f (42 : FuncId) [] = some (boolA true) ∧ true = true) ∧ (decide ((40 : Int) < (↑(List.length x8.text) : Int)) = false → InI64 ((↑k : Int) + (1 : Int)) ∧ ∃ (j12 : Nat), ((List.map encCL l = List.map encCL l ∧ True ∧ (↑k : Int) + (1 : Int) = (↑j12 : Int) ∧ True) ∧ x = x ∧ y = y ∧ z = z) ∧ (j12 ≤ l.length ∧ j12 ≤ (30 : Nat) ∧ ∀ (c13 : CLn), c13 ∈ List.take j12 l → List.length c13.text ≤ (40 : Nat)) ∧ l.length - j12 < l.length - k))) ∧ (decide ((↑k : Int) < (↑l.length : Int)) = false → (R FT X).f (49 : FuncId) [AV.slice (2 : Nat) (List.map encCL l), AV.agg [boolA x, boolA y, boolA z]] = some (AV.slice (1 : Nat) (List.map strL (prt x y z l))) ∧ (R FT X).f (50 : FuncId) [AV.slice (2 : Nat) (List.map encCL l), AV.agg [boolA x, boolA y, boolA z]] = some (AV.slice (1 : Nat) (List.map strL (prt x y z l))) ∧ (R FT X).f (48 : FuncId) [AV.slice (1 : Nat) (List.map strL (prt x y z l)), AV.slice (1 : Nat) (List.map strL (prt x y z l))] = some (boolA (sameB (prt x y z l) (prt x y z l))) ∧ (sameB (prt x y z l) (prt x y z l) = true → (R FT X).f (42 : FuncId) [] = some (boolA true) ∧ true = true) ∧ (sameB (prt x y z l) (prt x y z l) = false → false = true)))) ?_
  refine ⟨⟨(0 : Nat), ⟨⟨rfl, trivial, (by omega), trivial⟩, rfl, rfl, rfl⟩, ⟨(by omega), (by omega), fun c2 => fun h3 => ?_⟩⟩, fun k => fun h4 => have h4a := h4.1; have h4b := h4.2.1; have h4c := h4.2.2; ⟨(by simp), fun h5_ => have h5 := dT h5_; ⟨fun h6_ => have h6 := dT h6_; ⟨rfl, (aw), rfl⟩, fun h7_ => have h7 := dF h7_; ⟨rfl, rfl, (by omega), fun x8 => fun h9 => ⟨fun h10_ => have h10 := dT h10_; ⟨(aw), rfl⟩, fun h11_ => have h11 := dF h11_; ⟨(by unfold InI64; omega), ⟨k + (1 : Nat), ⟨⟨rfl, trivial, (by omega), trivial⟩, rfl, rfl, rfl⟩, ⟨⟨(by omega), (by omega), fun c13 => fun h14 => ?_⟩, (by omega)⟩⟩⟩⟩⟩⟩, fun h15_ => have h15 := dF h15_; ⟨(print_run _ _ _ _ (by omega) ?_), (print2_run _ _ _ _ (by omega) ?_), (same21_run _ _ ?_ ?_), fun h16 => ⟨(aw), rfl⟩, fun h17 => ?_⟩⟩⟩
  · simp at h3
  · exact all_of (P := fun c : CLn => c.text.length ≤ 40) h9 h4c (by omega) _ h14
  iterate 2 · exact fun c h => ⟨hi c h, Nat.le_trans (h4c c (by rw [List.take_of_length_le (by omega)]; exact h)) (by decide)⟩
  iterate 2 · exact Nat.le_trans (prt_len x y z l) hl
  · rw [← sameB_y rfl] at h17; cases h17
end
end Go.Proofs.Ytbdmioekohmcnaa
