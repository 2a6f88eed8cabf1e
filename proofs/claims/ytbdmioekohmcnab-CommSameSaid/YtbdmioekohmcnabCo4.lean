/- Comm: the comparison is an order; the example of the chapter; columns; the statements. -/
import Derived.Test.YtbdmioekohmcnabCoP
import Derived.Test.YtbdmioekohmcnabCo3
namespace Go.Proofs.Ytbdmioekohmcnab
set_option linter.unusedVariables false
set_option linter.unusedSimpArgs false
set_option maxRecDepth 100000
set_option maxHeartbeats 4000000
theorem ord_rng : ∀ a b : List Int, -1 ≤ ord a b ∧ ord a b ≤ 1
  | [], [] => by simp [ord]
  | [], _ :: _ => by simp [ord]
  | _ :: _, [] => by simp [ord]
  | x :: a, y :: b => by
    have ih := ord_rng a b
    simp only [ord]
    split
    · omega
    · split <;> omega
theorem ord_anti : ∀ a b : List Int, ord b a = - ord a b
  | [], [] => by simp [ord]
  | [], _ :: _ => by simp [ord]
  | _ :: _, [] => by simp [ord]
  | x :: a, y :: b => by
    have ih := ord_anti a b
    simp only [ord]
    split <;> split <;> (try split) <;> omega
theorem ord_zero : ∀ {a b : List Int}, ord a b = 0 → a = b
  | [], [], _ => rfl
  | [], _ :: _, h => by simp [ord] at h
  | _ :: _, [], h => by simp [ord] at h
  | x :: a, y :: b, h => by
    simp only [ord] at h
    split at h
    · omega
    · split at h
      · omega
      · rw [ord_zero h, show x = y by omega]
theorem ord_self : ∀ a : List Int, ord a a = 0
  | [] => rfl
  | x :: a => by simp only [ord, Int.lt_irrefl, gt_iff_lt, if_false]; exact ord_self a
theorem ord_trans : ∀ {a b c : List Int}, ord a b ≤ 0 → ord b c ≤ 0 → ord a c ≤ 0 ∧ (ord a b < 0 ∨ ord b c < 0 → ord a c < 0)
  | [], [], [], _, _ => by simp [ord]
  | [], [], _ :: _, _, _ => by simp [ord]
  | [], _ :: _, [], _, h => by simp [ord] at h
  | [], _ :: _, _ :: _, _, _ => by simp [ord]
  | _ :: _, [], _, h, _ => by simp [ord] at h
  | _ :: _, _ :: _, [], _, h => by simp [ord] at h
  | x :: a, y :: b, z :: c, h1, h2 => by
    simp only [ord] at h1 h2 ⊢
    by_cases e1 : x < y
    · rw [if_pos e1] at h1 ⊢
      by_cases e2 : y < z
      · rw [if_pos (by omega : x < z)]; omega
      · rw [if_neg e2] at h2 ⊢
        by_cases e3 : y > z
        · rw [if_pos e3] at h2; omega
        · rw [if_pos (by omega : x < z)]; omega
    · rw [if_neg e1] at h1 ⊢
      by_cases e4 : x > y
      · rw [if_pos e4] at h1; omega
      · rw [if_neg e4] at h1 ⊢
        obtain rfl : x = y := by omega
        by_cases e2 : x < z
        · simp only [if_pos e2]; omega
        · rw [if_neg e2] at h2
          by_cases e3 : x > z
          · rw [if_pos e3] at h2; omega
          · rw [if_neg e3] at h2
            simp only [if_neg e2, if_neg e3]
            exact ord_trans h1 h2
theorem ints_inj {a b : Bs} (h : ints a = ints b) : a = b := by
  unfold ints at h
  exact (List.map_inj_right fun x y e => UInt8.toNat_inj.1 (Int.ofNat.inj e)).1 h
theorem cmpL_rng (L : Loc) (a b : Bs) : -1 ≤ cmpL L a b ∧ cmpL L a b ≤ 1 := by
  unfold cmpL
  split <;> exact ord_rng _ _
theorem cmpL_anti (L : Loc) (a b : Bs) : cmpL L b a = - cmpL L a b := by
  unfold cmpL
  rw [ord_anti (wts L a) (wts L b), ord_anti (ints a) (ints b)]
  split <;> split <;> omega
theorem cmpL_zero {L : Loc} {a b : Bs} : cmpL L a b = 0 ↔ a = b := by
  constructor
  · intro h
    unfold cmpL at h
    split at h
    · omega
    · exact ints_inj (ord_zero h)
  · intro h
    subst h
    unfold cmpL
    rw [ord_self, ord_self]; rfl
theorem cmpL_trans {L : Loc} {a b c : Bs} (h1 : cmpL L a b ≤ 0) (h2 : cmpL L b c ≤ 0) : cmpL L a c ≤ 0 := by
  unfold cmpL at h1 h2 ⊢
  by_cases e1 : ord (wts L a) (wts L b) = 0
  · rw [if_neg (by simpa using e1)] at h1
    have e1' := ord_zero e1
    rw [← e1'] at h2
    by_cases e2 : ord (wts L a) (wts L c) = 0
    · rw [if_neg (by simpa using e2)] at h2 ⊢
      exact (ord_trans h1 h2).1
    · rw [if_pos e2] at h2 ⊢; exact h2
  · rw [if_pos e1] at h1
    by_cases e2 : ord (wts L b) (wts L c) = 0
    · have e2' := ord_zero e2
      rw [← e2', if_pos e1]; exact h1
    · rw [if_pos e2] at h2
      have := (ord_trans h1 h2).2 (.inl (by omega))
      rw [if_pos (by omega)]; omega
theorem cmpL_ok (L : Loc) : COk (cmpL L) := ⟨fun _ _ => cmpL_zero, fun _ _ => cmpL_rng _ _ _, fun _ _ => cmpL_anti _ _ _, fun _ _ _ => cmpL_trans⟩
def exL : List CLn := [⟨1, [97]⟩, ⟨3, [98]⟩, ⟨2, [99]⟩, ⟨1, [100]⟩]
theorem exL_mrg : mrg (cmpL defL) [[97], [98], [100]] [[98], [99]] = exL := by
  have c1 : cmpL defL [97] [98] = -1 := by decide +kernel
  have c2 : cmpL defL [98] [98] = 0 := by decide +kernel
  have c3 : cmpL defL [100] [99] = 1 := by decide +kernel
  rw [mrg, c1, if_pos (by decide), mrg, c2, if_neg (by decide), if_neg (by decide), mrg, c3, if_neg (by decide), if_pos (by decide), mrg_nil]; rfl
theorem exL_uns : uns (cmpL defL) [[98], [97]] = 1 := by decide +kernel
theorem exL_prt : prt true true true exL = [[97], [9, 9, 98], [9, 99], [100]] := by decide +kernel
def StrC (X : CallF) : Prop := ∀ a b : Bs, (R FT X).f 20 [strL a, strL b] = some (intA (ord (ints a) (ints b)))
section
variable {X : CallF}
theorem cawake_run' (D : Loc) (hD : D = defL) (hc : StrC X) : (R FT X).f 6 [] = some (boolA true) := by
  have hcmp : ∀ x y : Bs, x.length ≤ 1048576 → y.length ≤ 1048576 → (R FT X).f 14 [encLoc defL, strL x, strL y] = some (intA (cmpL defL x y)) := fun x y hx hy => by
    have := cmp_run defL x y defL_ok hc hx hy
    rw [valL_y defL_err] at this
    exact this
  have e1 : (R FT X).f 8 [] = some (encLoc D) := by rw [hD]; exact def2_run
  have e2 : (R FT X).f 7 [encLoc D, .slice 1 ([[97], [98], [100]].map strL), .slice 1 ([[98], [99]].map strL)] = some (.slice 2 (exL.map encCL)) := by
    rw [hD, comm_run defL [[97], [98], [100]] [[98], [99]] (cmpL defL) hcmp (by simp) (by simp) (by simp) (by simp), exL_mrg]
  have e3 : (R FT X).f 12 [encLoc D, .slice 1 ([[98], [97]].map strL)] = some (intA 1) := by
    rw [hD, uns_run defL [[98], [97]] (cmpL defL) hcmp (by simp) (by simp), exL_uns]
  have e4 : (R FT X).f 11 [.slice 2 (exL.map encCL), .agg [boolA true, boolA true, boolA true]] = some (.slice 1 ([[97], [9, 9, 98], [9, 99], [100]].map strL)) := by
    rw [print_run true true true exL (by simp [exL]) (by simp [exL, InI64]), exL_prt]
  have e5 : (R FT X).f 9 [.slice 2 (exL.map encCL), .slice 2 (exL.map encCL)] = some (boolA true) := by
    have hm := maxLen_le
    rw [same28_run exL exL (by simp [exL]; omega) (by simp [exL]; omega), ← sameB_y rfl]
  have e6 : (R FT X).f 10 [.slice 1 ([[97], [9, 9, 98], [9, 99], [100]].map strL), .slice 1 ([[97], [9, 9, 98], [9, 99], [100]].map strL)] = some (boolA true) := by
    have hm := maxLen_le
    rw [same21_run _ _ (by simp; omega) (by simp; omega), ← sameB_y rfl]
  refine R_wp (Tr.c (encLoc D) (Tr.g (List.map strL [toL (ByteArray.mk #[(97 : UInt8)]), toL (ByteArray.mk #[(98 : UInt8)]), toL (ByteArray.mk #[(100 : UInt8)])]) (Tr.g (List.map strL [toL (ByteArray.mk #[(98 : UInt8)]), toL (ByteArray.mk #[(99 : UInt8)])]) (Tr.c (AV.slice (2 : Nat) (List.map encCL exL)) (Tr.g (List.map encCL [CLn.mk (1 : Int) [(97 : UInt8)], CLn.mk (3 : Int) [(98 : UInt8)], CLn.mk (2 : Int) [(99 : UInt8)], CLn.mk (1 : Int) [(100 : UInt8)]]) (Tr.c (boolA true) (Tr.b false (Tr.c (AV.slice (1 : Nat) (List.map strL [[(97 : UInt8)], [(9 : UInt8), (9 : UInt8), (98 : UInt8)], [(9 : UInt8), (99 : UInt8)], [(100 : UInt8)]])) (Tr.g (List.map strL [toL (ByteArray.mk #[(97 : UInt8)]), toL (ByteArray.mk #[(9 : UInt8), (9 : UInt8), (98 : UInt8)]), toL (ByteArray.mk #[(9 : UInt8), (99 : UInt8)]), toL (ByteArray.mk #[(100 : UInt8)])]) (Tr.c (boolA true) (Tr.b true (Tr.c (encLoc D) (Tr.g (List.map strL [toL (ByteArray.mk #[(98 : UInt8)]), toL (ByteArray.mk #[(97 : UInt8)])]) (Tr.c (intA (1 : Int)) Tr.nil))))))).w).w)).w)))) rfl ?_
  refine Eq.mpr (by kernel_rfl : _ = ((R FT X).f (8 : FuncId) [] = some (AV.agg [strL D.name, AV.slice (1 : Nat) (List.map intA D.weights), strL D.lower, strL D.upper, AV.slice (5 : Nat) (List.map encCls D.classes), AV.slice (2 : Nat) (List.map encEl D.elements)]) ∧
  (3 : Nat) = (3 : Nat) ∧
    List.take (3 : Nat) (List.drop (0 : Nat) [AV.val (Value.string (ByteArray.mk #[(97 : UInt8)])), AV.val (Value.string (ByteArray.mk #[(98 : UInt8)])), AV.val (Value.string (ByteArray.mk #[(100 : UInt8)]))]) = List.map strL [toL (ByteArray.mk #[(97 : UInt8)]), toL (ByteArray.mk #[(98 : UInt8)]), toL (ByteArray.mk #[(100 : UInt8)])] ∧
      (2 : Nat) = (2 : Nat) ∧
        List.take (2 : Nat) (List.drop (0 : Nat) [AV.val (Value.string (ByteArray.mk #[(98 : UInt8)])), AV.val (Value.string (ByteArray.mk #[(99 : UInt8)]))]) = List.map strL [toL (ByteArray.mk #[(98 : UInt8)]), toL (ByteArray.mk #[(99 : UInt8)])] ∧
          (R FT X).f (7 : FuncId) [AV.agg [strL D.name, AV.slice (1 : Nat) (List.map intA D.weights), strL D.lower, strL D.upper, AV.slice (5 : Nat) (List.map encCls D.classes), AV.slice (2 : Nat) (List.map encEl D.elements)], AV.slice (1 : Nat) (List.map strL [toL (ByteArray.mk #[(97 : UInt8)]), toL (ByteArray.mk #[(98 : UInt8)]), toL (ByteArray.mk #[(100 : UInt8)])]), AV.slice (1 : Nat) (List.map strL [toL (ByteArray.mk #[(98 : UInt8)]), toL (ByteArray.mk #[(99 : UInt8)])])] = some (AV.slice (2 : Nat) (List.map encCL exL)) ∧
            (4 : Nat) = (4 : Nat) ∧
              List.take (4 : Nat) (List.drop (0 : Nat) [AV.agg [AV.val (Value.int IntKind.i64 (1 : Int)), AV.val (Value.string (ByteArray.mk #[(97 : UInt8)]))], AV.agg [AV.val (Value.int IntKind.i64 (3 : Int)), AV.val (Value.string (ByteArray.mk #[(98 : UInt8)]))], AV.agg [AV.val (Value.int IntKind.i64 (2 : Int)), AV.val (Value.string (ByteArray.mk #[(99 : UInt8)]))], AV.agg [AV.val (Value.int IntKind.i64 (1 : Int)), AV.val (Value.string (ByteArray.mk #[(100 : UInt8)]))]]) = List.map encCL [CLn.mk (1 : Int) [(97 : UInt8)], CLn.mk (3 : Int) [(98 : UInt8)], CLn.mk (2 : Int) [(99 : UInt8)], CLn.mk (1 : Int) [(100 : UInt8)]] ∧
                (R FT X).f (9 : FuncId) [AV.slice (2 : Nat) (List.map encCL exL), AV.slice (2 : Nat) (List.map encCL [CLn.mk (1 : Int) [(97 : UInt8)], CLn.mk (3 : Int) [(98 : UInt8)], CLn.mk (2 : Int) [(99 : UInt8)], CLn.mk (1 : Int) [(100 : UInt8)]])] = some (boolA true) ∧ false = false ∧ (R FT X).f (11 : FuncId) [AV.slice (2 : Nat) (List.map encCL exL), AV.agg [AV.val (Value.bool true), AV.val (Value.bool true), AV.val (Value.bool true)]] = some (AV.slice (1 : Nat) (List.map strL [[(97 : UInt8)], [(9 : UInt8), (9 : UInt8), (98 : UInt8)], [(9 : UInt8), (99 : UInt8)], [(100 : UInt8)]])) ∧ (4 : Nat) = (4 : Nat) ∧ List.take (4 : Nat) (List.drop (0 : Nat) [AV.val (Value.string (ByteArray.mk #[(97 : UInt8)])), AV.val (Value.string (ByteArray.mk #[(9 : UInt8), (9 : UInt8), (98 : UInt8)])), AV.val (Value.string (ByteArray.mk #[(9 : UInt8), (99 : UInt8)])), AV.val (Value.string (ByteArray.mk #[(100 : UInt8)]))]) = List.map strL [toL (ByteArray.mk #[(97 : UInt8)]), toL (ByteArray.mk #[(9 : UInt8), (9 : UInt8), (98 : UInt8)]), toL (ByteArray.mk #[(9 : UInt8), (99 : UInt8)]), toL (ByteArray.mk #[(100 : UInt8)])] ∧ (R FT X).f (10 : FuncId) [AV.slice (1 : Nat) (List.map strL [[(97 : UInt8)], [(9 : UInt8), (9 : UInt8), (98 : UInt8)], [(9 : UInt8), (99 : UInt8)], [(100 : UInt8)]]), AV.slice (1 : Nat) (List.map strL [toL (ByteArray.mk #[(97 : UInt8)]), toL (ByteArray.mk #[(9 : UInt8), (9 : UInt8), (98 : UInt8)]), toL (ByteArray.mk #[(9 : UInt8), (99 : UInt8)]), toL (ByteArray.mk #[(100 : UInt8)])])] = some (boolA true) ∧ true = true ∧ (R FT X).f (8 : FuncId) [] = some (AV.agg [strL D.name, AV.slice (1 : Nat) (List.map intA D.weights), strL D.lower, strL D.upper, AV.slice (5 : Nat) (List.map encCls D.classes), AV.slice (2 : Nat) (List.map encEl D.elements)]) ∧ (2 : Nat) = (2 : Nat) ∧ List.take (2 : Nat) (List.drop (0 : Nat) [AV.val (Value.string (ByteArray.mk #[(98 : UInt8)])), AV.val (Value.string (ByteArray.mk #[(97 : UInt8)]))]) = List.map strL [toL (ByteArray.mk #[(98 : UInt8)]), toL (ByteArray.mk #[(97 : UInt8)])] ∧ (R FT X).f (12 : FuncId) [AV.agg [strL D.name, AV.slice (1 : Nat) (List.map intA D.weights), strL D.lower, strL D.upper, AV.slice (5 : Nat) (List.map encCls D.classes), AV.slice (2 : Nat) (List.map encEl D.elements)], AV.slice (1 : Nat) (List.map strL [toL (ByteArray.mk #[(98 : UInt8)]), toL (ByteArray.mk #[(97 : UInt8)])])] = some (intA (1 : Int)) ∧ true = true)) ?_
  refine ⟨(e1), rfl, rfl, rfl, rfl, (e2), rfl, rfl, (e5), rfl, (e4), rfl, rfl, (e6), rfl, (e1), rfl, rfl, (e3), rfl⟩
theorem cawake_run (hc : StrC X) : (R FT X).f 6 [] = some (boolA true) := cawake_run' defL rfl hc
theorem cl_in {m : List CLn} {k : Nat} {x y : CLn} {n : Int} {b : List Bs} {i : Nat} {u t : Bs} (h : m[k]? = some x) (h' : m[k]? = some y) (hu : b[i]? = some u) (ht : b[i]? = some t) (e : x.text = u) (e' : y.col = n) : (⟨n, t⟩ : CLn) ∈ m := by
  obtain rfl := same_at h h'
  obtain rfl := same_at hu ht
  have := List.mem_of_getElem? h
  cases y; simp only at e e'; subst e e'; exact this
theorem pw_at {α : Type} {m : List α} {P : α → α → Prop} (h : m.Pairwise P) {i j : Nat} {x y : α} (hij : i < j) (hi : m[i]? = some x) (hj : m[j]? = some y) : P x y := by
  obtain ⟨hi', rfl⟩ := get_of hi
  obtain ⟨hj', rfl⟩ := get_of hj
  exact List.pairwise_iff_getElem.1 h _ _ hi' hj' hij
end
end Go.Proofs.Ytbdmioekohmcnab
