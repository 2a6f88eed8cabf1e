/- Comm: the lines of columns. -/
import Derived.Test.YtbdmioekohmcnabCo2
namespace Go.Proofs.Ytbdmioekohmcnab
set_option linter.unusedVariables false
set_option linter.unusedSimpArgs false
set_option maxRecDepth 100000
set_option maxHeartbeats 4000000
def tabN (x y : Bool) : Nat → Nat
  | 0 => 0
  | 1 => if x then 1 else 0
  | _ => (if x then 1 else 0) + (if y then 1 else 0)
/-- what is printed of a line -/
def prLine (x y z : Bool) (c : CLn) : List Bs :=
  if c.col = 1 then (if x then [c.text] else [])
  else if c.col = 2 then (if y then [List.replicate (tabN x y 1) 9 ++ c.text] else [])
  else if c.col = 3 then (if z then [List.replicate (tabN x y 2) 9 ++ c.text] else [])
  else []
def prt (x y z : Bool) (l : List CLn) : List Bs := l.flatMap (prLine x y z)
theorem prt_len (x y z : Bool) (l : List CLn) : (prt x y z l).length ≤ l.length := by
  induction l with
  | nil => simp [prt]
  | cons c l ih =>
    have h1 : (prLine x y z c).length ≤ 1 := by
      unfold prLine
      repeat' split
      all_goals simp
    unfold prt at ih ⊢
    rw [List.flatMap_cons, List.length_append, List.length_cons]
    omega
theorem prt_succ {x y z : Bool} {l : List CLn} {k : Nat} {c : CLn} (h : l[k]? = some c) : prt x y z (l.take (k + 1)) = prt x y z (l.take k) ++ prLine x y z c := by
  obtain ⟨hk, rfl⟩ := get_of h
  rw [List.take_succ_eq_append_getElem hk, prt, List.flatMap_append]
  simp [prt]
theorem prL_1 {x y z : Bool} {c : CLn} (h : c.col = 1) (hx : x = true) : prLine x y z c = [[] ++ c.text] := by simp [prLine, h, hx]
theorem prL_2 {x y z : Bool} {c : CLn} (h : c.col = 2) (hx : y = true) : prLine x y z c = [List.replicate (tabN x y 1) 9 ++ c.text] := by simp [prLine, h, hx]
theorem prL_3 {x y z : Bool} {c : CLn} (h : c.col = 3) (hx : z = true) : prLine x y z c = [List.replicate (tabN x y 2) 9 ++ c.text] := by simp [prLine, h, hx]
theorem prL_0 {x y z : Bool} {c : CLn} (h1 : c.col = 1 → x = false) (h2 : c.col = 2 → y = false) (h3 : c.col = 3 → z = false) : prLine x y z c = [] := by
  unfold prLine
  by_cases e1 : c.col = 1
  · rw [if_pos e1, h1 e1]; rfl
  · rw [if_neg e1]
    by_cases e2 : c.col = 2
    · rw [if_pos e2, h2 e2]; rfl
    · rw [if_neg e2]
      by_cases e3 : c.col = 3
      · rw [if_pos e3, h3 e3]; rfl
      · rw [if_neg e3]
theorem tabN_le (x y : Bool) (i : Nat) : tabN x y i ≤ 2 := by
  unfold tabN
  cases x <;> cases y <;> (repeat' split) <;> simp
theorem wrapm {n : Int} (h : InI64 n) : IntKind.i64.wrap (n - 1) = n - 1 ∨ (n = -9223372036854775808 ∧ IntKind.i64.wrap (n - 1) = 9223372036854775807) := by
  unfold InI64 at h
  by_cases e : n = -9223372036854775808
  · right; subst e; exact ⟨rfl, by decide⟩
  · left; exact wrap64_id (by omega) (by omega)
theorem prt_end {x y z : Bool} {l : List CLn} {k : Nat} (h : l.length ≤ k) : prt x y z (l.take k) = prt x y z l := by rw [List.take_of_length_le h]
section
variable {X : CallF}
theorem rep0 : (R FT X).f 15 [.val (.string ⟨#[9]⟩), .val (.int .i64 0)] = some (strL []) := by
  refine R_wp ((Tr.b true Tr.nil).w.w.w) rfl ?_
  refine Eq.mpr (by kernel_rfl : _ = (true = true ∧ @List.nil UInt8 = [])) ?_
  refine ⟨rfl, rfl⟩
theorem rep1 : (R FT X).f 15 [.val (.string ⟨#[9]⟩), .val (.int .i64 1)] = some (strL [9]) := by
  refine R_wp ((Tr.b false (Tr.b true Tr.nil).w.w).w.w.w) rfl ?_
  refine Eq.mpr (by kernel_rfl : _ = (false = false ∧ true = true ∧ [(9 : UInt8)] = [(9 : UInt8)])) ?_
  refine ⟨rfl, rfl, rfl⟩
theorem mul64_run : (R FT X).f 31 [.val (.int .u64 1), .val (.int .u64 2)] = some (.tuple [.val (.int .u64 0), .val (.int .u64 2)]) := by
  refine R_wp (Tr.nil.w.w.w.w.w) rfl ?_
  refine Eq.mpr (by kernel_rfl : _ = ((0 : Int) ≤ (32 : Int) ∧ (0 : Int) ≤ (32 : Int) ∧ (0 : Int) ≤ (32 : Int) ∧ (0 : Int) ≤ (32 : Int) ∧ (0 : Int) ≤ (32 : Int) ∧ (0 : Int) = (0 : Int) ∧ (2 : Int) = (2 : Int))) ?_
  refine ⟨(by omega), (by omega), (by omega), (by omega), (by omega), rfl, rfl⟩
theorem mul_run : (R FT X).f 21 [.val (.int .u64 1), .val (.int .u64 2)] = some (.tuple [.val (.int .u64 0), .val (.int .u64 2)]) := by
  have h64 : (R FT X).f 31 [.val (.int .u64 1), .val (.int .u64 2)] = some (.tuple [.val (.int .u64 0), .val (.int .u64 2)]) := mul64_run
  refine R_wp ((Tr.b false (Tr.c (AV.tuple [AV.val (Value.int IntKind.u64 (0 : Int)), AV.val (Value.int IntKind.u64 (2 : Int))]) Tr.nil)).w) rfl ?_
  refine Eq.mpr (by kernel_rfl : _ = (false = false ∧ (R FT X).f (31 : FuncId) [AV.val (Value.int IntKind.u64 (1 : Int)), AV.val (Value.int IntKind.u64 (2 : Int))] = some (AV.tuple [AV.val (Value.int IntKind.u64 (0 : Int)), AV.val (Value.int IntKind.u64 (2 : Int))]) ∧ (0 : Int) = (0 : Int) ∧ (2 : Int) = (2 : Int))) ?_
  refine ⟨rfl, (h64), rfl, rfl⟩
theorem hpl_run (a b : Bs) : (R FT X).f 32 [strL a, strL b] = some (boolA (decide (b.length ≤ a.length) && decide (a.take b.length = b))) := by
  refine R_wp (((Tr.sl (0 : Nat) (List.length b) Tr.nil).br Tr.nil).w) rfl ?_
  refine Eq.mpr (by kernel_rfl : _ = ((decide ((↑(List.length b) : Int) ≤ (↑(List.length a) : Int)) = true → (0 : Int) = (0 : Int) ∧ (↑(List.length b) : Int) = (↑(List.length b) : Int) ∧ (0 : Nat) ≤ List.length b ∧ List.length b ≤ List.length a ∧ decide (List.drop (0 : Nat) (List.take (List.length b) a) = b) = (decide (List.length b ≤ List.length a) && decide (List.take (List.length b) a = b))) ∧ (decide ((↑(List.length b) : Int) ≤ (↑(List.length a) : Int)) = false → false = (decide (List.length b ≤ List.length a) && decide (List.take (List.length b) a = b))))) ?_
  refine ⟨fun h1_ => have h1 := dT h1_; ⟨rfl, rfl, (by omega), (by omega), ?_⟩, fun h2_ => have h2 := dF h2_; ?_⟩
  · rw [List.drop_zero, decide_eq_true (show b.length ≤ a.length by omega), Bool.true_and]
  · rw [decide_eq_false (show ¬ b.length ≤ a.length by omega), Bool.false_and]
theorem hp_run (a b : Bs) : (R FT X).f 22 [strL a, strL b] = some (boolA (decide (b.length ≤ a.length) && decide (a.take b.length = b))) := by
  refine R_wp (Tr.c (boolA (decide (List.length b ≤ List.length a) && decide (List.take (List.length b) a = b))) Tr.nil) rfl ?_
  refine Eq.mpr (by kernel_rfl : _ = ((R FT X).f (32 : FuncId) [AV.val (Value.string (ofL a)), AV.val (Value.string (ofL b))] = some (boolA (decide (List.length b ≤ List.length a) && decide (List.take (List.length b) a = b))) ∧ (decide (List.length b ≤ List.length a) && decide (List.take (List.length b) a = b)) = (decide (List.length b ≤ List.length a) && decide (List.take (List.length b) a = b)))) ?_
  refine ⟨(hpl_run _ _), rfl⟩
theorem rep2 : (R FT X).f 15 [.val (.string ⟨#[9]⟩), .val (.int .i64 2)] = some (strL [9, 9]) := by
  refine R_wp ((Tr.b false
        (Tr.b false
              (Tr.b false
                    (Tr.c (AV.tuple [AV.val (Value.int IntKind.u64 (0 : Int)), AV.val (Value.int IntKind.u64 (2 : Int))])
                      (Tr.b false
                          (Tr.b false
                              (Tr.b false
                                      (Tr.yk (0 : Nat) (9 : UInt8)
                                        (Tr.b false
                                                  (Tr.b false
                                                        (Tr.b false
                                                              (Tr.b false
                                                                    (Tr.b true
                                                                        (Tr.b true
                                                                              (Tr.c
                                                                                (boolA
                                                                                  (decide
                                                                                      ([(9 : UInt8)].length ≤
                                                                                        (have y :=
                                                                                            have y :=
                                                                                              have y :=
                                                                                                have y :=
                                                                                                  have y := [(32 : UInt8), (32 : UInt8), (32 : UInt8), (32 : UInt8)];
                                                                                                  (32 : UInt8) :: (32 : UInt8) :: (32 : UInt8) :: (32 : UInt8) :: y;
                                                                                                have y := (32 : UInt8) :: (32 : UInt8) :: (32 : UInt8) :: (32 : UInt8) :: y;
                                                                                                (32 : UInt8) :: (32 : UInt8) :: (32 : UInt8) :: (32 : UInt8) :: y;
                                                                                              have y :=
                                                                                                have y := (32 : UInt8) :: (32 : UInt8) :: (32 : UInt8) :: (32 : UInt8) :: y;
                                                                                                (32 : UInt8) :: (32 : UInt8) :: (32 : UInt8) :: (32 : UInt8) :: y;
                                                                                              have y := (32 : UInt8) :: (32 : UInt8) :: (32 : UInt8) :: (32 : UInt8) :: y;
                                                                                              (32 : UInt8) :: (32 : UInt8) :: (32 : UInt8) :: (32 : UInt8) :: y;
                                                                                            have y :=
                                                                                              have y :=
                                                                                                have y := (32 : UInt8) :: (32 : UInt8) :: (32 : UInt8) :: (32 : UInt8) :: y;
                                                                                                (32 : UInt8) :: (32 : UInt8) :: (32 : UInt8) :: (32 : UInt8) :: y;
                                                                                              have y := (32 : UInt8) :: (32 : UInt8) :: (32 : UInt8) :: (32 : UInt8) :: y;
                                                                                              (32 : UInt8) :: (32 : UInt8) :: (32 : UInt8) :: (32 : UInt8) :: y;
                                                                                            have y :=
                                                                                              have y := (32 : UInt8) :: (32 : UInt8) :: (32 : UInt8) :: (32 : UInt8) :: y;
                                                                                              (32 : UInt8) :: (32 : UInt8) :: (32 : UInt8) :: (32 : UInt8) :: y;
                                                                                            have y := (32 : UInt8) :: (32 : UInt8) :: (32 : UInt8) :: (32 : UInt8) :: y;
                                                                                            (32 : UInt8) :: (32 : UInt8) :: (32 : UInt8) :: (32 : UInt8) :: y;
                                                                                          have y :=
                                                                                            have y :=
                                                                                              have y :=
                                                                                                have y := (32 : UInt8) :: (32 : UInt8) :: (32 : UInt8) :: (32 : UInt8) :: y;
                                                                                                (32 : UInt8) :: (32 : UInt8) :: (32 : UInt8) :: (32 : UInt8) :: y;
                                                                                              have y := (32 : UInt8) :: (32 : UInt8) :: (32 : UInt8) :: (32 : UInt8) :: y;
                                                                                              (32 : UInt8) :: (32 : UInt8) :: (32 : UInt8) :: (32 : UInt8) :: y;
                                                                                            have y :=
                                                                                              have y := (32 : UInt8) :: (32 : UInt8) :: (32 : UInt8) :: (32 : UInt8) :: y;
                                                                                              (32 : UInt8) :: (32 : UInt8) :: (32 : UInt8) :: (32 : UInt8) :: y;
                                                                                            have y := (32 : UInt8) :: (32 : UInt8) :: (32 : UInt8) :: (32 : UInt8) :: y;
                                                                                            (32 : UInt8) :: (32 : UInt8) :: (32 : UInt8) :: (32 : UInt8) :: y;
                                                                                          have y :=
                                                                                            have y :=
                                                                                              have y := (32 : UInt8) :: (32 : UInt8) :: (32 : UInt8) :: (32 : UInt8) :: y;
                                                                                              (32 : UInt8) :: (32 : UInt8) :: (32 : UInt8) :: (32 : UInt8) :: y;
                                                                                            have y := (32 : UInt8) :: (32 : UInt8) :: (32 : UInt8) :: (32 : UInt8) :: y;
                                                                                            (32 : UInt8) :: (32 : UInt8) :: (32 : UInt8) :: (32 : UInt8) :: y;
                                                                                          have y :=
                                                                                            have y := (32 : UInt8) :: (32 : UInt8) :: (32 : UInt8) :: (32 : UInt8) :: y;
                                                                                            (32 : UInt8) :: (32 : UInt8) :: (32 : UInt8) :: (32 : UInt8) :: y;
                                                                                          have y := (32 : UInt8) :: (32 : UInt8) :: (32 : UInt8) :: (32 : UInt8) :: y;
                                                                                          (32 : UInt8) :: (32 : UInt8) :: (32 : UInt8) :: (32 : UInt8) :: y).length) &&
                                                                                    decide
                                                                                      (List.take [(9 : UInt8)].length
                                                                                          (have y :=
                                                                                            have y :=
                                                                                              have y :=
                                                                                                have y :=
                                                                                                  have y := [(32 : UInt8), (32 : UInt8), (32 : UInt8), (32 : UInt8)];
                                                                                                  (32 : UInt8) :: (32 : UInt8) :: (32 : UInt8) :: (32 : UInt8) :: y;
                                                                                                have y := (32 : UInt8) :: (32 : UInt8) :: (32 : UInt8) :: (32 : UInt8) :: y;
                                                                                                (32 : UInt8) :: (32 : UInt8) :: (32 : UInt8) :: (32 : UInt8) :: y;
                                                                                              have y :=
                                                                                                have y := (32 : UInt8) :: (32 : UInt8) :: (32 : UInt8) :: (32 : UInt8) :: y;
                                                                                                (32 : UInt8) :: (32 : UInt8) :: (32 : UInt8) :: (32 : UInt8) :: y;
                                                                                              have y := (32 : UInt8) :: (32 : UInt8) :: (32 : UInt8) :: (32 : UInt8) :: y;
                                                                                              (32 : UInt8) :: (32 : UInt8) :: (32 : UInt8) :: (32 : UInt8) :: y;
                                                                                            have y :=
                                                                                              have y :=
                                                                                                have y := (32 : UInt8) :: (32 : UInt8) :: (32 : UInt8) :: (32 : UInt8) :: y;
                                                                                                (32 : UInt8) :: (32 : UInt8) :: (32 : UInt8) :: (32 : UInt8) :: y;
                                                                                              have y := (32 : UInt8) :: (32 : UInt8) :: (32 : UInt8) :: (32 : UInt8) :: y;
                                                                                              (32 : UInt8) :: (32 : UInt8) :: (32 : UInt8) :: (32 : UInt8) :: y;
                                                                                            have y :=
                                                                                              have y := (32 : UInt8) :: (32 : UInt8) :: (32 : UInt8) :: (32 : UInt8) :: y;
                                                                                              (32 : UInt8) :: (32 : UInt8) :: (32 : UInt8) :: (32 : UInt8) :: y;
                                                                                            have y := (32 : UInt8) :: (32 : UInt8) :: (32 : UInt8) :: (32 : UInt8) :: y;
                                                                                            (32 : UInt8) :: (32 : UInt8) :: (32 : UInt8) :: (32 : UInt8) :: y;
                                                                                          have y :=
                                                                                            have y :=
                                                                                              have y :=
                                                                                                have y := (32 : UInt8) :: (32 : UInt8) :: (32 : UInt8) :: (32 : UInt8) :: y;
                                                                                                (32 : UInt8) :: (32 : UInt8) :: (32 : UInt8) :: (32 : UInt8) :: y;
                                                                                              have y := (32 : UInt8) :: (32 : UInt8) :: (32 : UInt8) :: (32 : UInt8) :: y;
                                                                                              (32 : UInt8) :: (32 : UInt8) :: (32 : UInt8) :: (32 : UInt8) :: y;
                                                                                            have y :=
                                                                                              have y := (32 : UInt8) :: (32 : UInt8) :: (32 : UInt8) :: (32 : UInt8) :: y;
                                                                                              (32 : UInt8) :: (32 : UInt8) :: (32 : UInt8) :: (32 : UInt8) :: y;
                                                                                            have y := (32 : UInt8) :: (32 : UInt8) :: (32 : UInt8) :: (32 : UInt8) :: y;
                                                                                            (32 : UInt8) :: (32 : UInt8) :: (32 : UInt8) :: (32 : UInt8) :: y;
                                                                                          have y :=
                                                                                            have y :=
                                                                                              have y := (32 : UInt8) :: (32 : UInt8) :: (32 : UInt8) :: (32 : UInt8) :: y;
                                                                                              (32 : UInt8) :: (32 : UInt8) :: (32 : UInt8) :: (32 : UInt8) :: y;
                                                                                            have y := (32 : UInt8) :: (32 : UInt8) :: (32 : UInt8) :: (32 : UInt8) :: y;
                                                                                            (32 : UInt8) :: (32 : UInt8) :: (32 : UInt8) :: (32 : UInt8) :: y;
                                                                                          have y :=
                                                                                            have y := (32 : UInt8) :: (32 : UInt8) :: (32 : UInt8) :: (32 : UInt8) :: y;
                                                                                            (32 : UInt8) :: (32 : UInt8) :: (32 : UInt8) :: (32 : UInt8) :: y;
                                                                                          have y := (32 : UInt8) :: (32 : UInt8) :: (32 : UInt8) :: (32 : UInt8) :: y;
                                                                                          (32 : UInt8) :: (32 : UInt8) :: (32 : UInt8) :: (32 : UInt8) :: y) =
                                                                                        [(9 : UInt8)])))
                                                                                (Tr.b false
                                                                                    (Tr.b true
                                                                                        (Tr.c
                                                                                          (boolA
                                                                                            (decide
                                                                                                ([(9 : UInt8)].length ≤
                                                                                                  (have y :=
                                                                                                      have y :=
                                                                                                        have y :=
                                                                                                          have y :=
                                                                                                            have y := [(45 : UInt8), (45 : UInt8), (45 : UInt8), (45 : UInt8)];
                                                                                                            (45 : UInt8) :: (45 : UInt8) :: (45 : UInt8) :: (45 : UInt8) :: y;
                                                                                                          have y := (45 : UInt8) :: (45 : UInt8) :: (45 : UInt8) :: (45 : UInt8) :: y;
                                                                                                          (45 : UInt8) :: (45 : UInt8) :: (45 : UInt8) :: (45 : UInt8) :: y;
                                                                                                        have y :=
                                                                                                          have y := (45 : UInt8) :: (45 : UInt8) :: (45 : UInt8) :: (45 : UInt8) :: y;
                                                                                                          (45 : UInt8) :: (45 : UInt8) :: (45 : UInt8) :: (45 : UInt8) :: y;
                                                                                                        have y := (45 : UInt8) :: (45 : UInt8) :: (45 : UInt8) :: (45 : UInt8) :: y;
                                                                                                        (45 : UInt8) :: (45 : UInt8) :: (45 : UInt8) :: (45 : UInt8) :: y;
                                                                                                      have y :=
                                                                                                        have y :=
                                                                                                          have y := (45 : UInt8) :: (45 : UInt8) :: (45 : UInt8) :: (45 : UInt8) :: y;
                                                                                                          (45 : UInt8) :: (45 : UInt8) :: (45 : UInt8) :: (45 : UInt8) :: y;
                                                                                                        have y := (45 : UInt8) :: (45 : UInt8) :: (45 : UInt8) :: (45 : UInt8) :: y;
                                                                                                        (45 : UInt8) :: (45 : UInt8) :: (45 : UInt8) :: (45 : UInt8) :: y;
                                                                                                      have y :=
                                                                                                        have y := (45 : UInt8) :: (45 : UInt8) :: (45 : UInt8) :: (45 : UInt8) :: y;
                                                                                                        (45 : UInt8) :: (45 : UInt8) :: (45 : UInt8) :: (45 : UInt8) :: y;
                                                                                                      have y := (45 : UInt8) :: (45 : UInt8) :: (45 : UInt8) :: (45 : UInt8) :: y;
                                                                                                      (45 : UInt8) :: (45 : UInt8) :: (45 : UInt8) :: (45 : UInt8) :: y;
                                                                                                    have y :=
                                                                                                      have y :=
                                                                                                        have y :=
                                                                                                          have y := (45 : UInt8) :: (45 : UInt8) :: (45 : UInt8) :: (45 : UInt8) :: y;
                                                                                                          (45 : UInt8) :: (45 : UInt8) :: (45 : UInt8) :: (45 : UInt8) :: y;
                                                                                                        have y := (45 : UInt8) :: (45 : UInt8) :: (45 : UInt8) :: (45 : UInt8) :: y;
                                                                                                        (45 : UInt8) :: (45 : UInt8) :: (45 : UInt8) :: (45 : UInt8) :: y;
                                                                                                      have y :=
                                                                                                        have y := (45 : UInt8) :: (45 : UInt8) :: (45 : UInt8) :: (45 : UInt8) :: y;
                                                                                                        (45 : UInt8) :: (45 : UInt8) :: (45 : UInt8) :: (45 : UInt8) :: y;
                                                                                                      have y := (45 : UInt8) :: (45 : UInt8) :: (45 : UInt8) :: (45 : UInt8) :: y;
                                                                                                      (45 : UInt8) :: (45 : UInt8) :: (45 : UInt8) :: (45 : UInt8) :: y;
                                                                                                    have y :=
                                                                                                      have y :=
                                                                                                        have y := (45 : UInt8) :: (45 : UInt8) :: (45 : UInt8) :: (45 : UInt8) :: y;
                                                                                                        (45 : UInt8) :: (45 : UInt8) :: (45 : UInt8) :: (45 : UInt8) :: y;
                                                                                                      have y := (45 : UInt8) :: (45 : UInt8) :: (45 : UInt8) :: (45 : UInt8) :: y;
                                                                                                      (45 : UInt8) :: (45 : UInt8) :: (45 : UInt8) :: (45 : UInt8) :: y;
                                                                                                    have y :=
                                                                                                      have y := (45 : UInt8) :: (45 : UInt8) :: (45 : UInt8) :: (45 : UInt8) :: y;
                                                                                                      (45 : UInt8) :: (45 : UInt8) :: (45 : UInt8) :: (45 : UInt8) :: y;
                                                                                                    have y := (45 : UInt8) :: (45 : UInt8) :: (45 : UInt8) :: (45 : UInt8) :: y;
                                                                                                    (45 : UInt8) :: (45 : UInt8) :: (45 : UInt8) :: (45 : UInt8) :: y).length) &&
                                                                                              decide
                                                                                                (List.take [(9 : UInt8)].length
                                                                                                    (have y :=
                                                                                                      have y :=
                                                                                                        have y :=
                                                                                                          have y :=
                                                                                                            have y := [(45 : UInt8), (45 : UInt8), (45 : UInt8), (45 : UInt8)];
                                                                                                            (45 : UInt8) :: (45 : UInt8) :: (45 : UInt8) :: (45 : UInt8) :: y;
                                                                                                          have y := (45 : UInt8) :: (45 : UInt8) :: (45 : UInt8) :: (45 : UInt8) :: y;
                                                                                                          (45 : UInt8) :: (45 : UInt8) :: (45 : UInt8) :: (45 : UInt8) :: y;
                                                                                                        have y :=
                                                                                                          have y := (45 : UInt8) :: (45 : UInt8) :: (45 : UInt8) :: (45 : UInt8) :: y;
                                                                                                          (45 : UInt8) :: (45 : UInt8) :: (45 : UInt8) :: (45 : UInt8) :: y;
                                                                                                        have y := (45 : UInt8) :: (45 : UInt8) :: (45 : UInt8) :: (45 : UInt8) :: y;
                                                                                                        (45 : UInt8) :: (45 : UInt8) :: (45 : UInt8) :: (45 : UInt8) :: y;
                                                                                                      have y :=
                                                                                                        have y :=
                                                                                                          have y := (45 : UInt8) :: (45 : UInt8) :: (45 : UInt8) :: (45 : UInt8) :: y;
                                                                                                          (45 : UInt8) :: (45 : UInt8) :: (45 : UInt8) :: (45 : UInt8) :: y;
                                                                                                        have y := (45 : UInt8) :: (45 : UInt8) :: (45 : UInt8) :: (45 : UInt8) :: y;
                                                                                                        (45 : UInt8) :: (45 : UInt8) :: (45 : UInt8) :: (45 : UInt8) :: y;
                                                                                                      have y :=
                                                                                                        have y := (45 : UInt8) :: (45 : UInt8) :: (45 : UInt8) :: (45 : UInt8) :: y;
                                                                                                        (45 : UInt8) :: (45 : UInt8) :: (45 : UInt8) :: (45 : UInt8) :: y;
                                                                                                      have y := (45 : UInt8) :: (45 : UInt8) :: (45 : UInt8) :: (45 : UInt8) :: y;
                                                                                                      (45 : UInt8) :: (45 : UInt8) :: (45 : UInt8) :: (45 : UInt8) :: y;
                                                                                                    have y :=
                                                                                                      have y :=
                                                                                                        have y :=
                                                                                                          have y := (45 : UInt8) :: (45 : UInt8) :: (45 : UInt8) :: (45 : UInt8) :: y;
                                                                                                          (45 : UInt8) :: (45 : UInt8) :: (45 : UInt8) :: (45 : UInt8) :: y;
                                                                                                        have y := (45 : UInt8) :: (45 : UInt8) :: (45 : UInt8) :: (45 : UInt8) :: y;
                                                                                                        (45 : UInt8) :: (45 : UInt8) :: (45 : UInt8) :: (45 : UInt8) :: y;
                                                                                                      have y :=
                                                                                                        have y := (45 : UInt8) :: (45 : UInt8) :: (45 : UInt8) :: (45 : UInt8) :: y;
                                                                                                        (45 : UInt8) :: (45 : UInt8) :: (45 : UInt8) :: (45 : UInt8) :: y;
                                                                                                      have y := (45 : UInt8) :: (45 : UInt8) :: (45 : UInt8) :: (45 : UInt8) :: y;
                                                                                                      (45 : UInt8) :: (45 : UInt8) :: (45 : UInt8) :: (45 : UInt8) :: y;
                                                                                                    have y :=
                                                                                                      have y :=
                                                                                                        have y := (45 : UInt8) :: (45 : UInt8) :: (45 : UInt8) :: (45 : UInt8) :: y;
                                                                                                        (45 : UInt8) :: (45 : UInt8) :: (45 : UInt8) :: (45 : UInt8) :: y;
                                                                                                      have y := (45 : UInt8) :: (45 : UInt8) :: (45 : UInt8) :: (45 : UInt8) :: y;
                                                                                                      (45 : UInt8) :: (45 : UInt8) :: (45 : UInt8) :: (45 : UInt8) :: y;
                                                                                                    have y :=
                                                                                                      have y := (45 : UInt8) :: (45 : UInt8) :: (45 : UInt8) :: (45 : UInt8) :: y;
                                                                                                      (45 : UInt8) :: (45 : UInt8) :: (45 : UInt8) :: (45 : UInt8) :: y;
                                                                                                    have y := (45 : UInt8) :: (45 : UInt8) :: (45 : UInt8) :: (45 : UInt8) :: y;
                                                                                                    (45 : UInt8) :: (45 : UInt8) :: (45 : UInt8) :: (45 : UInt8) :: y) =
                                                                                                  [(9 : UInt8)])))
                                                                                          (Tr.b false
                                                                                              (Tr.b true
                                                                                                  (Tr.c
                                                                                                    (boolA
                                                                                                      (decide
                                                                                                          ([(9 : UInt8)].length ≤
                                                                                                            (have y :=
                                                                                                                have y :=
                                                                                                                  have y :=
                                                                                                                    have y := [(48 : UInt8), (48 : UInt8), (48 : UInt8), (48 : UInt8)];
                                                                                                                    (48 : UInt8) :: (48 : UInt8) :: (48 : UInt8) :: (48 : UInt8) :: y;
                                                                                                                  have y := (48 : UInt8) :: (48 : UInt8) :: (48 : UInt8) :: (48 : UInt8) :: y;
                                                                                                                  (48 : UInt8) :: (48 : UInt8) :: (48 : UInt8) :: (48 : UInt8) :: y;
                                                                                                                have y :=
                                                                                                                  have y := (48 : UInt8) :: (48 : UInt8) :: (48 : UInt8) :: (48 : UInt8) :: y;
                                                                                                                  (48 : UInt8) :: (48 : UInt8) :: (48 : UInt8) :: (48 : UInt8) :: y;
                                                                                                                have y := (48 : UInt8) :: (48 : UInt8) :: (48 : UInt8) :: (48 : UInt8) :: y;
                                                                                                                (48 : UInt8) :: (48 : UInt8) :: (48 : UInt8) :: (48 : UInt8) :: y;
                                                                                                              have y :=
                                                                                                                have y :=
                                                                                                                  have y := (48 : UInt8) :: (48 : UInt8) :: (48 : UInt8) :: (48 : UInt8) :: y;
                                                                                                                  (48 : UInt8) :: (48 : UInt8) :: (48 : UInt8) :: (48 : UInt8) :: y;
                                                                                                                have y := (48 : UInt8) :: (48 : UInt8) :: (48 : UInt8) :: (48 : UInt8) :: y;
                                                                                                                (48 : UInt8) :: (48 : UInt8) :: (48 : UInt8) :: (48 : UInt8) :: y;
                                                                                                              have y :=
                                                                                                                have y := (48 : UInt8) :: (48 : UInt8) :: (48 : UInt8) :: (48 : UInt8) :: y;
                                                                                                                (48 : UInt8) :: (48 : UInt8) :: (48 : UInt8) :: (48 : UInt8) :: y;
                                                                                                              have y := (48 : UInt8) :: (48 : UInt8) :: (48 : UInt8) :: (48 : UInt8) :: y;
                                                                                                              (48 : UInt8) :: (48 : UInt8) :: (48 : UInt8) :: (48 : UInt8) :: y).length) &&
                                                                                                        decide
                                                                                                          (List.take [(9 : UInt8)].length
                                                                                                              (have y :=
                                                                                                                have y :=
                                                                                                                  have y :=
                                                                                                                    have y := [(48 : UInt8), (48 : UInt8), (48 : UInt8), (48 : UInt8)];
                                                                                                                    (48 : UInt8) :: (48 : UInt8) :: (48 : UInt8) :: (48 : UInt8) :: y;
                                                                                                                  have y := (48 : UInt8) :: (48 : UInt8) :: (48 : UInt8) :: (48 : UInt8) :: y;
                                                                                                                  (48 : UInt8) :: (48 : UInt8) :: (48 : UInt8) :: (48 : UInt8) :: y;
                                                                                                                have y :=
                                                                                                                  have y := (48 : UInt8) :: (48 : UInt8) :: (48 : UInt8) :: (48 : UInt8) :: y;
                                                                                                                  (48 : UInt8) :: (48 : UInt8) :: (48 : UInt8) :: (48 : UInt8) :: y;
                                                                                                                have y := (48 : UInt8) :: (48 : UInt8) :: (48 : UInt8) :: (48 : UInt8) :: y;
                                                                                                                (48 : UInt8) :: (48 : UInt8) :: (48 : UInt8) :: (48 : UInt8) :: y;
                                                                                                              have y :=
                                                                                                                have y :=
                                                                                                                  have y := (48 : UInt8) :: (48 : UInt8) :: (48 : UInt8) :: (48 : UInt8) :: y;
                                                                                                                  (48 : UInt8) :: (48 : UInt8) :: (48 : UInt8) :: (48 : UInt8) :: y;
                                                                                                                have y := (48 : UInt8) :: (48 : UInt8) :: (48 : UInt8) :: (48 : UInt8) :: y;
                                                                                                                (48 : UInt8) :: (48 : UInt8) :: (48 : UInt8) :: (48 : UInt8) :: y;
                                                                                                              have y :=
                                                                                                                have y := (48 : UInt8) :: (48 : UInt8) :: (48 : UInt8) :: (48 : UInt8) :: y;
                                                                                                                (48 : UInt8) :: (48 : UInt8) :: (48 : UInt8) :: (48 : UInt8) :: y;
                                                                                                              have y := (48 : UInt8) :: (48 : UInt8) :: (48 : UInt8) :: (48 : UInt8) :: y;
                                                                                                              (48 : UInt8) :: (48 : UInt8) :: (48 : UInt8) :: (48 : UInt8) :: y) =
                                                                                                            [(9 : UInt8)])))
                                                                                                    (Tr.b false
                                                                                                        (Tr.b true
                                                                                                            (Tr.c
                                                                                                              (boolA
                                                                                                                (decide
                                                                                                                    ([(9 : UInt8)].length ≤
                                                                                                                      (have y :=
                                                                                                                          have y :=
                                                                                                                            have y :=
                                                                                                                              have y :=
                                                                                                                                have y := [(61 : UInt8), (61 : UInt8), (61 : UInt8), (61 : UInt8)];
                                                                                                                                (61 : UInt8) :: (61 : UInt8) :: (61 : UInt8) :: (61 : UInt8) :: y;
                                                                                                                              have y := (61 : UInt8) :: (61 : UInt8) :: (61 : UInt8) :: (61 : UInt8) :: y;
                                                                                                                              (61 : UInt8) :: (61 : UInt8) :: (61 : UInt8) :: (61 : UInt8) :: y;
                                                                                                                            have y :=
                                                                                                                              have y := (61 : UInt8) :: (61 : UInt8) :: (61 : UInt8) :: (61 : UInt8) :: y;
                                                                                                                              (61 : UInt8) :: (61 : UInt8) :: (61 : UInt8) :: (61 : UInt8) :: y;
                                                                                                                            have y := (61 : UInt8) :: (61 : UInt8) :: (61 : UInt8) :: (61 : UInt8) :: y;
                                                                                                                            (61 : UInt8) :: (61 : UInt8) :: (61 : UInt8) :: (61 : UInt8) :: y;
                                                                                                                          have y :=
                                                                                                                            have y :=
                                                                                                                              have y := (61 : UInt8) :: (61 : UInt8) :: (61 : UInt8) :: (61 : UInt8) :: y;
                                                                                                                              (61 : UInt8) :: (61 : UInt8) :: (61 : UInt8) :: (61 : UInt8) :: y;
                                                                                                                            have y := (61 : UInt8) :: (61 : UInt8) :: (61 : UInt8) :: (61 : UInt8) :: y;
                                                                                                                            (61 : UInt8) :: (61 : UInt8) :: (61 : UInt8) :: (61 : UInt8) :: y;
                                                                                                                          have y :=
                                                                                                                            have y := (61 : UInt8) :: (61 : UInt8) :: (61 : UInt8) :: (61 : UInt8) :: y;
                                                                                                                            (61 : UInt8) :: (61 : UInt8) :: (61 : UInt8) :: (61 : UInt8) :: y;
                                                                                                                          have y := (61 : UInt8) :: (61 : UInt8) :: (61 : UInt8) :: (61 : UInt8) :: y;
                                                                                                                          (61 : UInt8) :: (61 : UInt8) :: (61 : UInt8) :: (61 : UInt8) :: y;
                                                                                                                        have y :=
                                                                                                                          have y :=
                                                                                                                            have y :=
                                                                                                                              have y := (61 : UInt8) :: (61 : UInt8) :: (61 : UInt8) :: (61 : UInt8) :: y;
                                                                                                                              (61 : UInt8) :: (61 : UInt8) :: (61 : UInt8) :: (61 : UInt8) :: y;
                                                                                                                            have y := (61 : UInt8) :: (61 : UInt8) :: (61 : UInt8) :: (61 : UInt8) :: y;
                                                                                                                            (61 : UInt8) :: (61 : UInt8) :: (61 : UInt8) :: (61 : UInt8) :: y;
                                                                                                                          have y :=
                                                                                                                            have y := (61 : UInt8) :: (61 : UInt8) :: (61 : UInt8) :: (61 : UInt8) :: y;
                                                                                                                            (61 : UInt8) :: (61 : UInt8) :: (61 : UInt8) :: (61 : UInt8) :: y;
                                                                                                                          have y := (61 : UInt8) :: (61 : UInt8) :: (61 : UInt8) :: (61 : UInt8) :: y;
                                                                                                                          (61 : UInt8) :: (61 : UInt8) :: (61 : UInt8) :: (61 : UInt8) :: y;
                                                                                                                        have y :=
                                                                                                                          have y :=
                                                                                                                            have y := (61 : UInt8) :: (61 : UInt8) :: (61 : UInt8) :: (61 : UInt8) :: y;
                                                                                                                            (61 : UInt8) :: (61 : UInt8) :: (61 : UInt8) :: (61 : UInt8) :: y;
                                                                                                                          have y := (61 : UInt8) :: (61 : UInt8) :: (61 : UInt8) :: (61 : UInt8) :: y;
                                                                                                                          (61 : UInt8) :: (61 : UInt8) :: (61 : UInt8) :: (61 : UInt8) :: y;
                                                                                                                        have y :=
                                                                                                                          have y := (61 : UInt8) :: (61 : UInt8) :: (61 : UInt8) :: (61 : UInt8) :: y;
                                                                                                                          (61 : UInt8) :: (61 : UInt8) :: (61 : UInt8) :: (61 : UInt8) :: y;
                                                                                                                        have y := (61 : UInt8) :: (61 : UInt8) :: (61 : UInt8) :: (61 : UInt8) :: y;
                                                                                                                        (61 : UInt8) :: (61 : UInt8) :: (61 : UInt8) :: (61 : UInt8) :: y).length) &&
                                                                                                                  decide
                                                                                                                    (List.take [(9 : UInt8)].length
                                                                                                                        (have y :=
                                                                                                                          have y :=
                                                                                                                            have y :=
                                                                                                                              have y :=
                                                                                                                                have y := [(61 : UInt8), (61 : UInt8), (61 : UInt8), (61 : UInt8)];
                                                                                                                                (61 : UInt8) :: (61 : UInt8) :: (61 : UInt8) :: (61 : UInt8) :: y;
                                                                                                                              have y := (61 : UInt8) :: (61 : UInt8) :: (61 : UInt8) :: (61 : UInt8) :: y;
                                                                                                                              (61 : UInt8) :: (61 : UInt8) :: (61 : UInt8) :: (61 : UInt8) :: y;
                                                                                                                            have y :=
                                                                                                                              have y := (61 : UInt8) :: (61 : UInt8) :: (61 : UInt8) :: (61 : UInt8) :: y;
                                                                                                                              (61 : UInt8) :: (61 : UInt8) :: (61 : UInt8) :: (61 : UInt8) :: y;
                                                                                                                            have y := (61 : UInt8) :: (61 : UInt8) :: (61 : UInt8) :: (61 : UInt8) :: y;
                                                                                                                            (61 : UInt8) :: (61 : UInt8) :: (61 : UInt8) :: (61 : UInt8) :: y;
                                                                                                                          have y :=
                                                                                                                            have y :=
                                                                                                                              have y := (61 : UInt8) :: (61 : UInt8) :: (61 : UInt8) :: (61 : UInt8) :: y;
                                                                                                                              (61 : UInt8) :: (61 : UInt8) :: (61 : UInt8) :: (61 : UInt8) :: y;
                                                                                                                            have y := (61 : UInt8) :: (61 : UInt8) :: (61 : UInt8) :: (61 : UInt8) :: y;
                                                                                                                            (61 : UInt8) :: (61 : UInt8) :: (61 : UInt8) :: (61 : UInt8) :: y;
                                                                                                                          have y :=
                                                                                                                            have y := (61 : UInt8) :: (61 : UInt8) :: (61 : UInt8) :: (61 : UInt8) :: y;
                                                                                                                            (61 : UInt8) :: (61 : UInt8) :: (61 : UInt8) :: (61 : UInt8) :: y;
                                                                                                                          have y := (61 : UInt8) :: (61 : UInt8) :: (61 : UInt8) :: (61 : UInt8) :: y;
                                                                                                                          (61 : UInt8) :: (61 : UInt8) :: (61 : UInt8) :: (61 : UInt8) :: y;
                                                                                                                        have y :=
                                                                                                                          have y :=
                                                                                                                            have y :=
                                                                                                                              have y := (61 : UInt8) :: (61 : UInt8) :: (61 : UInt8) :: (61 : UInt8) :: y;
                                                                                                                              (61 : UInt8) :: (61 : UInt8) :: (61 : UInt8) :: (61 : UInt8) :: y;
                                                                                                                            have y := (61 : UInt8) :: (61 : UInt8) :: (61 : UInt8) :: (61 : UInt8) :: y;
                                                                                                                            (61 : UInt8) :: (61 : UInt8) :: (61 : UInt8) :: (61 : UInt8) :: y;
                                                                                                                          have y :=
                                                                                                                            have y := (61 : UInt8) :: (61 : UInt8) :: (61 : UInt8) :: (61 : UInt8) :: y;
                                                                                                                            (61 : UInt8) :: (61 : UInt8) :: (61 : UInt8) :: (61 : UInt8) :: y;
                                                                                                                          have y := (61 : UInt8) :: (61 : UInt8) :: (61 : UInt8) :: (61 : UInt8) :: y;
                                                                                                                          (61 : UInt8) :: (61 : UInt8) :: (61 : UInt8) :: (61 : UInt8) :: y;
                                                                                                                        have y :=
                                                                                                                          have y :=
                                                                                                                            have y := (61 : UInt8) :: (61 : UInt8) :: (61 : UInt8) :: (61 : UInt8) :: y;
                                                                                                                            (61 : UInt8) :: (61 : UInt8) :: (61 : UInt8) :: (61 : UInt8) :: y;
                                                                                                                          have y := (61 : UInt8) :: (61 : UInt8) :: (61 : UInt8) :: (61 : UInt8) :: y;
                                                                                                                          (61 : UInt8) :: (61 : UInt8) :: (61 : UInt8) :: (61 : UInt8) :: y;
                                                                                                                        have y :=
                                                                                                                          have y := (61 : UInt8) :: (61 : UInt8) :: (61 : UInt8) :: (61 : UInt8) :: y;
                                                                                                                          (61 : UInt8) :: (61 : UInt8) :: (61 : UInt8) :: (61 : UInt8) :: y;
                                                                                                                        have y := (61 : UInt8) :: (61 : UInt8) :: (61 : UInt8) :: (61 : UInt8) :: y;
                                                                                                                        (61 : UInt8) :: (61 : UInt8) :: (61 : UInt8) :: (61 : UInt8) :: y) =
                                                                                                                      [(9 : UInt8)])))
                                                                                                              (Tr.b false
                                                                                                                  (Tr.b true
                                                                                                                      (Tr.c
                                                                                                                        (boolA
                                                                                                                          (decide
                                                                                                                              ([(9 : UInt8)].length ≤
                                                                                                                                (have y :=
                                                                                                                                    have y :=
                                                                                                                                      have y :=
                                                                                                                                        have y := [(9 : UInt8), (9 : UInt8), (9 : UInt8), (9 : UInt8)];
                                                                                                                                        (9 : UInt8) :: (9 : UInt8) :: (9 : UInt8) :: (9 : UInt8) :: y;
                                                                                                                                      have y := (9 : UInt8) :: (9 : UInt8) :: (9 : UInt8) :: (9 : UInt8) :: y;
                                                                                                                                      (9 : UInt8) :: (9 : UInt8) :: (9 : UInt8) :: (9 : UInt8) :: y;
                                                                                                                                    have y :=
                                                                                                                                      have y := (9 : UInt8) :: (9 : UInt8) :: (9 : UInt8) :: (9 : UInt8) :: y;
                                                                                                                                      (9 : UInt8) :: (9 : UInt8) :: (9 : UInt8) :: (9 : UInt8) :: y;
                                                                                                                                    have y := (9 : UInt8) :: (9 : UInt8) :: (9 : UInt8) :: (9 : UInt8) :: y;
                                                                                                                                    (9 : UInt8) :: (9 : UInt8) :: (9 : UInt8) :: (9 : UInt8) :: y;
                                                                                                                                  have y :=
                                                                                                                                    have y :=
                                                                                                                                      have y := (9 : UInt8) :: (9 : UInt8) :: (9 : UInt8) :: (9 : UInt8) :: y;
                                                                                                                                      (9 : UInt8) :: (9 : UInt8) :: (9 : UInt8) :: (9 : UInt8) :: y;
                                                                                                                                    have y := (9 : UInt8) :: (9 : UInt8) :: (9 : UInt8) :: (9 : UInt8) :: y;
                                                                                                                                    (9 : UInt8) :: (9 : UInt8) :: (9 : UInt8) :: (9 : UInt8) :: y;
                                                                                                                                  have y :=
                                                                                                                                    have y := (9 : UInt8) :: (9 : UInt8) :: (9 : UInt8) :: (9 : UInt8) :: y;
                                                                                                                                    (9 : UInt8) :: (9 : UInt8) :: (9 : UInt8) :: (9 : UInt8) :: y;
                                                                                                                                  have y := (9 : UInt8) :: (9 : UInt8) :: (9 : UInt8) :: (9 : UInt8) :: y;
                                                                                                                                  (9 : UInt8) :: (9 : UInt8) :: (9 : UInt8) :: (9 : UInt8) :: y).length) &&
                                                                                                                            decide
                                                                                                                              (List.take [(9 : UInt8)].length
                                                                                                                                  (have y :=
                                                                                                                                    have y :=
                                                                                                                                      have y :=
                                                                                                                                        have y := [(9 : UInt8), (9 : UInt8), (9 : UInt8), (9 : UInt8)];
                                                                                                                                        (9 : UInt8) :: (9 : UInt8) :: (9 : UInt8) :: (9 : UInt8) :: y;
                                                                                                                                      have y := (9 : UInt8) :: (9 : UInt8) :: (9 : UInt8) :: (9 : UInt8) :: y;
                                                                                                                                      (9 : UInt8) :: (9 : UInt8) :: (9 : UInt8) :: (9 : UInt8) :: y;
                                                                                                                                    have y :=
                                                                                                                                      have y := (9 : UInt8) :: (9 : UInt8) :: (9 : UInt8) :: (9 : UInt8) :: y;
                                                                                                                                      (9 : UInt8) :: (9 : UInt8) :: (9 : UInt8) :: (9 : UInt8) :: y;
                                                                                                                                    have y := (9 : UInt8) :: (9 : UInt8) :: (9 : UInt8) :: (9 : UInt8) :: y;
                                                                                                                                    (9 : UInt8) :: (9 : UInt8) :: (9 : UInt8) :: (9 : UInt8) :: y;
                                                                                                                                  have y :=
                                                                                                                                    have y :=
                                                                                                                                      have y := (9 : UInt8) :: (9 : UInt8) :: (9 : UInt8) :: (9 : UInt8) :: y;
                                                                                                                                      (9 : UInt8) :: (9 : UInt8) :: (9 : UInt8) :: (9 : UInt8) :: y;
                                                                                                                                    have y := (9 : UInt8) :: (9 : UInt8) :: (9 : UInt8) :: (9 : UInt8) :: y;
                                                                                                                                    (9 : UInt8) :: (9 : UInt8) :: (9 : UInt8) :: (9 : UInt8) :: y;
                                                                                                                                  have y :=
                                                                                                                                    have y := (9 : UInt8) :: (9 : UInt8) :: (9 : UInt8) :: (9 : UInt8) :: y;
                                                                                                                                    (9 : UInt8) :: (9 : UInt8) :: (9 : UInt8) :: (9 : UInt8) :: y;
                                                                                                                                  have y := (9 : UInt8) :: (9 : UInt8) :: (9 : UInt8) :: (9 : UInt8) :: y;
                                                                                                                                  (9 : UInt8) :: (9 : UInt8) :: (9 : UInt8) :: (9 : UInt8) :: y) =
                                                                                                                                [(9 : UInt8)])))
                                                                                                                        (Tr.b true (Tr.sl (0 : Nat) (2 : Nat) Tr.nil)).w)).w).w)).w).w)).w).w)).w).w)).w.w).w).w.w).w.w).w.w).w.w.w.w)).w.w.w).w).w)).w.w).w.w).w.w.w) rfl ?_
  refine Eq.mpr (by kernel_rfl : _ = (false = false ∧
  false = false ∧
    false = false ∧
      (R FT X).f (21 : FuncId) [AV.val (Value.int IntKind.u64 (IntKind.u64.wrap (↑(List.length (toL (ByteArray.mk #[(9 : UInt8)]))) : Int))), AV.val (Value.int IntKind.u64 (IntKind.u64.wrap (2 : Int)))] = some (AV.tuple [AV.val (Value.int IntKind.u64 (0 : Int)), AV.val (Value.int IntKind.u64 (2 : Int))]) ∧
        false = false ∧
          false = false ∧
            InI64 (2 : Int) ∧
              false = false ∧
                (0 : Int) = (0 : Int) ∧
                  some (9 : UInt8) = some (9 : UInt8) ∧
                    false = false ∧
                      false = false ∧
                        false = false ∧
                          false = false ∧
                            true = true ∧
                              true = true ∧
                                (R FT X).f (22 : FuncId)
                                      [AV.val
                                          (Value.string
                                            (ByteArray.mk
                                              (have y :=
                                                  have y :=
                                                    have y :=
                                                      have y :=
                                                        have y := [(32 : UInt8), (32 : UInt8), (32 : UInt8), (32 : UInt8)];
                                                        (32 : UInt8) :: (32 : UInt8) :: (32 : UInt8) :: (32 : UInt8) :: y;
                                                      have y := (32 : UInt8) :: (32 : UInt8) :: (32 : UInt8) :: (32 : UInt8) :: y;
                                                      (32 : UInt8) :: (32 : UInt8) :: (32 : UInt8) :: (32 : UInt8) :: y;
                                                    have y :=
                                                      have y := (32 : UInt8) :: (32 : UInt8) :: (32 : UInt8) :: (32 : UInt8) :: y;
                                                      (32 : UInt8) :: (32 : UInt8) :: (32 : UInt8) :: (32 : UInt8) :: y;
                                                    have y := (32 : UInt8) :: (32 : UInt8) :: (32 : UInt8) :: (32 : UInt8) :: y;
                                                    (32 : UInt8) :: (32 : UInt8) :: (32 : UInt8) :: (32 : UInt8) :: y;
                                                  have y :=
                                                    have y :=
                                                      have y := (32 : UInt8) :: (32 : UInt8) :: (32 : UInt8) :: (32 : UInt8) :: y;
                                                      (32 : UInt8) :: (32 : UInt8) :: (32 : UInt8) :: (32 : UInt8) :: y;
                                                    have y := (32 : UInt8) :: (32 : UInt8) :: (32 : UInt8) :: (32 : UInt8) :: y;
                                                    (32 : UInt8) :: (32 : UInt8) :: (32 : UInt8) :: (32 : UInt8) :: y;
                                                  have y :=
                                                    have y := (32 : UInt8) :: (32 : UInt8) :: (32 : UInt8) :: (32 : UInt8) :: y;
                                                    (32 : UInt8) :: (32 : UInt8) :: (32 : UInt8) :: (32 : UInt8) :: y;
                                                  have y := (32 : UInt8) :: (32 : UInt8) :: (32 : UInt8) :: (32 : UInt8) :: y;
                                                  (32 : UInt8) :: (32 : UInt8) :: (32 : UInt8) :: (32 : UInt8) :: y;
                                                have y :=
                                                  have y :=
                                                    have y :=
                                                      have y := (32 : UInt8) :: (32 : UInt8) :: (32 : UInt8) :: (32 : UInt8) :: y;
                                                      (32 : UInt8) :: (32 : UInt8) :: (32 : UInt8) :: (32 : UInt8) :: y;
                                                    have y := (32 : UInt8) :: (32 : UInt8) :: (32 : UInt8) :: (32 : UInt8) :: y;
                                                    (32 : UInt8) :: (32 : UInt8) :: (32 : UInt8) :: (32 : UInt8) :: y;
                                                  have y :=
                                                    have y := (32 : UInt8) :: (32 : UInt8) :: (32 : UInt8) :: (32 : UInt8) :: y;
                                                    (32 : UInt8) :: (32 : UInt8) :: (32 : UInt8) :: (32 : UInt8) :: y;
                                                  have y := (32 : UInt8) :: (32 : UInt8) :: (32 : UInt8) :: (32 : UInt8) :: y;
                                                  (32 : UInt8) :: (32 : UInt8) :: (32 : UInt8) :: (32 : UInt8) :: y;
                                                have y :=
                                                  have y :=
                                                    have y := (32 : UInt8) :: (32 : UInt8) :: (32 : UInt8) :: (32 : UInt8) :: y;
                                                    (32 : UInt8) :: (32 : UInt8) :: (32 : UInt8) :: (32 : UInt8) :: y;
                                                  have y := (32 : UInt8) :: (32 : UInt8) :: (32 : UInt8) :: (32 : UInt8) :: y;
                                                  (32 : UInt8) :: (32 : UInt8) :: (32 : UInt8) :: (32 : UInt8) :: y;
                                                have y :=
                                                  have y := (32 : UInt8) :: (32 : UInt8) :: (32 : UInt8) :: (32 : UInt8) :: y;
                                                  (32 : UInt8) :: (32 : UInt8) :: (32 : UInt8) :: (32 : UInt8) :: y;
                                                have y := (32 : UInt8) :: (32 : UInt8) :: (32 : UInt8) :: (32 : UInt8) :: y;
                                                (32 : UInt8) :: (32 : UInt8) :: (32 : UInt8) :: (32 : UInt8) :: y).toArray)),
                                        AV.val (Value.string (ByteArray.mk #[(9 : UInt8)]))] =
                                    some (boolA false) ∧
                                  false = false ∧
                                    true = true ∧
                                      (R FT X).f (22 : FuncId)
                                            [AV.val
                                                (Value.string
                                                  (ByteArray.mk
                                                    (have y :=
                                                        have y :=
                                                          have y :=
                                                            have y :=
                                                              have y := [(45 : UInt8), (45 : UInt8), (45 : UInt8), (45 : UInt8)];
                                                              (45 : UInt8) :: (45 : UInt8) :: (45 : UInt8) :: (45 : UInt8) :: y;
                                                            have y := (45 : UInt8) :: (45 : UInt8) :: (45 : UInt8) :: (45 : UInt8) :: y;
                                                            (45 : UInt8) :: (45 : UInt8) :: (45 : UInt8) :: (45 : UInt8) :: y;
                                                          have y :=
                                                            have y := (45 : UInt8) :: (45 : UInt8) :: (45 : UInt8) :: (45 : UInt8) :: y;
                                                            (45 : UInt8) :: (45 : UInt8) :: (45 : UInt8) :: (45 : UInt8) :: y;
                                                          have y := (45 : UInt8) :: (45 : UInt8) :: (45 : UInt8) :: (45 : UInt8) :: y;
                                                          (45 : UInt8) :: (45 : UInt8) :: (45 : UInt8) :: (45 : UInt8) :: y;
                                                        have y :=
                                                          have y :=
                                                            have y := (45 : UInt8) :: (45 : UInt8) :: (45 : UInt8) :: (45 : UInt8) :: y;
                                                            (45 : UInt8) :: (45 : UInt8) :: (45 : UInt8) :: (45 : UInt8) :: y;
                                                          have y := (45 : UInt8) :: (45 : UInt8) :: (45 : UInt8) :: (45 : UInt8) :: y;
                                                          (45 : UInt8) :: (45 : UInt8) :: (45 : UInt8) :: (45 : UInt8) :: y;
                                                        have y :=
                                                          have y := (45 : UInt8) :: (45 : UInt8) :: (45 : UInt8) :: (45 : UInt8) :: y;
                                                          (45 : UInt8) :: (45 : UInt8) :: (45 : UInt8) :: (45 : UInt8) :: y;
                                                        have y := (45 : UInt8) :: (45 : UInt8) :: (45 : UInt8) :: (45 : UInt8) :: y;
                                                        (45 : UInt8) :: (45 : UInt8) :: (45 : UInt8) :: (45 : UInt8) :: y;
                                                      have y :=
                                                        have y :=
                                                          have y :=
                                                            have y := (45 : UInt8) :: (45 : UInt8) :: (45 : UInt8) :: (45 : UInt8) :: y;
                                                            (45 : UInt8) :: (45 : UInt8) :: (45 : UInt8) :: (45 : UInt8) :: y;
                                                          have y := (45 : UInt8) :: (45 : UInt8) :: (45 : UInt8) :: (45 : UInt8) :: y;
                                                          (45 : UInt8) :: (45 : UInt8) :: (45 : UInt8) :: (45 : UInt8) :: y;
                                                        have y :=
                                                          have y := (45 : UInt8) :: (45 : UInt8) :: (45 : UInt8) :: (45 : UInt8) :: y;
                                                          (45 : UInt8) :: (45 : UInt8) :: (45 : UInt8) :: (45 : UInt8) :: y;
                                                        have y := (45 : UInt8) :: (45 : UInt8) :: (45 : UInt8) :: (45 : UInt8) :: y;
                                                        (45 : UInt8) :: (45 : UInt8) :: (45 : UInt8) :: (45 : UInt8) :: y;
                                                      have y :=
                                                        have y :=
                                                          have y := (45 : UInt8) :: (45 : UInt8) :: (45 : UInt8) :: (45 : UInt8) :: y;
                                                          (45 : UInt8) :: (45 : UInt8) :: (45 : UInt8) :: (45 : UInt8) :: y;
                                                        have y := (45 : UInt8) :: (45 : UInt8) :: (45 : UInt8) :: (45 : UInt8) :: y;
                                                        (45 : UInt8) :: (45 : UInt8) :: (45 : UInt8) :: (45 : UInt8) :: y;
                                                      have y :=
                                                        have y := (45 : UInt8) :: (45 : UInt8) :: (45 : UInt8) :: (45 : UInt8) :: y;
                                                        (45 : UInt8) :: (45 : UInt8) :: (45 : UInt8) :: (45 : UInt8) :: y;
                                                      have y := (45 : UInt8) :: (45 : UInt8) :: (45 : UInt8) :: (45 : UInt8) :: y;
                                                      (45 : UInt8) :: (45 : UInt8) :: (45 : UInt8) :: (45 : UInt8) :: y).toArray)),
                                              AV.val (Value.string (ByteArray.mk #[(9 : UInt8)]))] =
                                          some (boolA false) ∧
                                        false = false ∧
                                          true = true ∧
                                            (R FT X).f (22 : FuncId)
                                                  [AV.val
                                                      (Value.string
                                                        (ByteArray.mk
                                                          (have y :=
                                                              have y :=
                                                                have y :=
                                                                  have y := [(48 : UInt8), (48 : UInt8), (48 : UInt8), (48 : UInt8)];
                                                                  (48 : UInt8) :: (48 : UInt8) :: (48 : UInt8) :: (48 : UInt8) :: y;
                                                                have y := (48 : UInt8) :: (48 : UInt8) :: (48 : UInt8) :: (48 : UInt8) :: y;
                                                                (48 : UInt8) :: (48 : UInt8) :: (48 : UInt8) :: (48 : UInt8) :: y;
                                                              have y :=
                                                                have y := (48 : UInt8) :: (48 : UInt8) :: (48 : UInt8) :: (48 : UInt8) :: y;
                                                                (48 : UInt8) :: (48 : UInt8) :: (48 : UInt8) :: (48 : UInt8) :: y;
                                                              have y := (48 : UInt8) :: (48 : UInt8) :: (48 : UInt8) :: (48 : UInt8) :: y;
                                                              (48 : UInt8) :: (48 : UInt8) :: (48 : UInt8) :: (48 : UInt8) :: y;
                                                            have y :=
                                                              have y :=
                                                                have y := (48 : UInt8) :: (48 : UInt8) :: (48 : UInt8) :: (48 : UInt8) :: y;
                                                                (48 : UInt8) :: (48 : UInt8) :: (48 : UInt8) :: (48 : UInt8) :: y;
                                                              have y := (48 : UInt8) :: (48 : UInt8) :: (48 : UInt8) :: (48 : UInt8) :: y;
                                                              (48 : UInt8) :: (48 : UInt8) :: (48 : UInt8) :: (48 : UInt8) :: y;
                                                            have y :=
                                                              have y := (48 : UInt8) :: (48 : UInt8) :: (48 : UInt8) :: (48 : UInt8) :: y;
                                                              (48 : UInt8) :: (48 : UInt8) :: (48 : UInt8) :: (48 : UInt8) :: y;
                                                            have y := (48 : UInt8) :: (48 : UInt8) :: (48 : UInt8) :: (48 : UInt8) :: y;
                                                            (48 : UInt8) :: (48 : UInt8) :: (48 : UInt8) :: (48 : UInt8) :: y).toArray)),
                                                    AV.val (Value.string (ByteArray.mk #[(9 : UInt8)]))] =
                                                some (boolA false) ∧
                                              false = false ∧
                                                true = true ∧
                                                  (R FT X).f (22 : FuncId)
                                                        [AV.val
                                                            (Value.string
                                                              (ByteArray.mk
                                                                (have y :=
                                                                    have y :=
                                                                      have y :=
                                                                        have y :=
                                                                          have y := [(61 : UInt8), (61 : UInt8), (61 : UInt8), (61 : UInt8)];
                                                                          (61 : UInt8) :: (61 : UInt8) :: (61 : UInt8) :: (61 : UInt8) :: y;
                                                                        have y := (61 : UInt8) :: (61 : UInt8) :: (61 : UInt8) :: (61 : UInt8) :: y;
                                                                        (61 : UInt8) :: (61 : UInt8) :: (61 : UInt8) :: (61 : UInt8) :: y;
                                                                      have y :=
                                                                        have y := (61 : UInt8) :: (61 : UInt8) :: (61 : UInt8) :: (61 : UInt8) :: y;
                                                                        (61 : UInt8) :: (61 : UInt8) :: (61 : UInt8) :: (61 : UInt8) :: y;
                                                                      have y := (61 : UInt8) :: (61 : UInt8) :: (61 : UInt8) :: (61 : UInt8) :: y;
                                                                      (61 : UInt8) :: (61 : UInt8) :: (61 : UInt8) :: (61 : UInt8) :: y;
                                                                    have y :=
                                                                      have y :=
                                                                        have y := (61 : UInt8) :: (61 : UInt8) :: (61 : UInt8) :: (61 : UInt8) :: y;
                                                                        (61 : UInt8) :: (61 : UInt8) :: (61 : UInt8) :: (61 : UInt8) :: y;
                                                                      have y := (61 : UInt8) :: (61 : UInt8) :: (61 : UInt8) :: (61 : UInt8) :: y;
                                                                      (61 : UInt8) :: (61 : UInt8) :: (61 : UInt8) :: (61 : UInt8) :: y;
                                                                    have y :=
                                                                      have y := (61 : UInt8) :: (61 : UInt8) :: (61 : UInt8) :: (61 : UInt8) :: y;
                                                                      (61 : UInt8) :: (61 : UInt8) :: (61 : UInt8) :: (61 : UInt8) :: y;
                                                                    have y := (61 : UInt8) :: (61 : UInt8) :: (61 : UInt8) :: (61 : UInt8) :: y;
                                                                    (61 : UInt8) :: (61 : UInt8) :: (61 : UInt8) :: (61 : UInt8) :: y;
                                                                  have y :=
                                                                    have y :=
                                                                      have y :=
                                                                        have y := (61 : UInt8) :: (61 : UInt8) :: (61 : UInt8) :: (61 : UInt8) :: y;
                                                                        (61 : UInt8) :: (61 : UInt8) :: (61 : UInt8) :: (61 : UInt8) :: y;
                                                                      have y := (61 : UInt8) :: (61 : UInt8) :: (61 : UInt8) :: (61 : UInt8) :: y;
                                                                      (61 : UInt8) :: (61 : UInt8) :: (61 : UInt8) :: (61 : UInt8) :: y;
                                                                    have y :=
                                                                      have y := (61 : UInt8) :: (61 : UInt8) :: (61 : UInt8) :: (61 : UInt8) :: y;
                                                                      (61 : UInt8) :: (61 : UInt8) :: (61 : UInt8) :: (61 : UInt8) :: y;
                                                                    have y := (61 : UInt8) :: (61 : UInt8) :: (61 : UInt8) :: (61 : UInt8) :: y;
                                                                    (61 : UInt8) :: (61 : UInt8) :: (61 : UInt8) :: (61 : UInt8) :: y;
                                                                  have y :=
                                                                    have y :=
                                                                      have y := (61 : UInt8) :: (61 : UInt8) :: (61 : UInt8) :: (61 : UInt8) :: y;
                                                                      (61 : UInt8) :: (61 : UInt8) :: (61 : UInt8) :: (61 : UInt8) :: y;
                                                                    have y := (61 : UInt8) :: (61 : UInt8) :: (61 : UInt8) :: (61 : UInt8) :: y;
                                                                    (61 : UInt8) :: (61 : UInt8) :: (61 : UInt8) :: (61 : UInt8) :: y;
                                                                  have y :=
                                                                    have y := (61 : UInt8) :: (61 : UInt8) :: (61 : UInt8) :: (61 : UInt8) :: y;
                                                                    (61 : UInt8) :: (61 : UInt8) :: (61 : UInt8) :: (61 : UInt8) :: y;
                                                                  have y := (61 : UInt8) :: (61 : UInt8) :: (61 : UInt8) :: (61 : UInt8) :: y;
                                                                  (61 : UInt8) :: (61 : UInt8) :: (61 : UInt8) :: (61 : UInt8) :: y).toArray)),
                                                          AV.val (Value.string (ByteArray.mk #[(9 : UInt8)]))] =
                                                      some (boolA false) ∧
                                                    false = false ∧
                                                      true = true ∧
                                                        (R FT X).f (22 : FuncId)
                                                              [AV.val
                                                                  (Value.string
                                                                    (ByteArray.mk
                                                                      (have y :=
                                                                          have y :=
                                                                            have y :=
                                                                              have y := [(9 : UInt8), (9 : UInt8), (9 : UInt8), (9 : UInt8)];
                                                                              (9 : UInt8) :: (9 : UInt8) :: (9 : UInt8) :: (9 : UInt8) :: y;
                                                                            have y := (9 : UInt8) :: (9 : UInt8) :: (9 : UInt8) :: (9 : UInt8) :: y;
                                                                            (9 : UInt8) :: (9 : UInt8) :: (9 : UInt8) :: (9 : UInt8) :: y;
                                                                          have y :=
                                                                            have y := (9 : UInt8) :: (9 : UInt8) :: (9 : UInt8) :: (9 : UInt8) :: y;
                                                                            (9 : UInt8) :: (9 : UInt8) :: (9 : UInt8) :: (9 : UInt8) :: y;
                                                                          have y := (9 : UInt8) :: (9 : UInt8) :: (9 : UInt8) :: (9 : UInt8) :: y;
                                                                          (9 : UInt8) :: (9 : UInt8) :: (9 : UInt8) :: (9 : UInt8) :: y;
                                                                        have y :=
                                                                          have y :=
                                                                            have y := (9 : UInt8) :: (9 : UInt8) :: (9 : UInt8) :: (9 : UInt8) :: y;
                                                                            (9 : UInt8) :: (9 : UInt8) :: (9 : UInt8) :: (9 : UInt8) :: y;
                                                                          have y := (9 : UInt8) :: (9 : UInt8) :: (9 : UInt8) :: (9 : UInt8) :: y;
                                                                          (9 : UInt8) :: (9 : UInt8) :: (9 : UInt8) :: (9 : UInt8) :: y;
                                                                        have y :=
                                                                          have y := (9 : UInt8) :: (9 : UInt8) :: (9 : UInt8) :: (9 : UInt8) :: y;
                                                                          (9 : UInt8) :: (9 : UInt8) :: (9 : UInt8) :: (9 : UInt8) :: y;
                                                                        have y := (9 : UInt8) :: (9 : UInt8) :: (9 : UInt8) :: (9 : UInt8) :: y;
                                                                        (9 : UInt8) :: (9 : UInt8) :: (9 : UInt8) :: (9 : UInt8) :: y).toArray)),
                                                                AV.val (Value.string (ByteArray.mk #[(9 : UInt8)]))] =
                                                            some (boolA true) ∧
                                                          true = true ∧ (0 : Int) = (0 : Int) ∧ (2 : Int) = (2 : Int) ∧ (0 : Nat) ≤ (2 : Nat) ∧ (2 : Nat) ≤ (64 : Nat) ∧ [(9 : UInt8), (9 : UInt8)] = [(9 : UInt8), (9 : UInt8)])) ?_
  refine ⟨rfl, rfl, rfl, (mul_run), rfl, rfl, (by unfold InI64; omega), rfl, rfl, rfl, rfl, rfl, rfl, rfl, rfl, rfl, (hp_run _ _), rfl, rfl, (hp_run _ _), rfl, rfl, (hp_run _ _), rfl, rfl, (hp_run _ _), rfl, rfl, (hp_run _ _), rfl, rfl, rfl, (by omega), (by omega), rfl⟩
theorem repN (x y : Bool) (i : Nat) : (R FT X).f 15 [.val (.string ⟨#[9]⟩), .val (.int .i64 ((tabN x y i : Nat) : Int))] = some (strL (List.replicate (tabN x y i) 9)) := by
  have h : tabN x y i = 0 ∨ tabN x y i = 1 ∨ tabN x y i = 2 := by
    unfold tabN
    cases x <;> cases y <;> (repeat' split) <;> simp
  rcases h with h | h | h <;> rw [h]
  · exact rep0
  · exact rep1
  · exact rep2
theorem print_run (x y z : Bool) (l : List CLn) (hl : l.length ≤ 1000) (hc : ∀ c ∈ l, InI64 c.col ∧ c.text.length ≤ 1000) : (R FT X).f 11 [.slice 2 (l.map encCL), .agg [boolA x, boolA y, boolA z]] = some (.slice 1 ((prt x y z l).map strL)) := by
  refine R_wp ((Tr.un (3 : Nat) (Tr.b true (Tr.k (0 : Nat) (Tr.k (1 : Nat) (Tr.k (0 : Nat) (Tr.cut (fun (v1 : Cut (5 : Nat) Int) ↦ St.mk [((0 : Nat), AV.slice (2 : Nat) (List.map encCL l)), ((3 : Nat), AV.ptr (0 : Nat) (0 : Nat)), ((5 : Nat), AV.ptr (1 : Nat) (0 : Nat)), ((6 : Nat), AV.val (Value.int IntKind.i64 (1 : Int)))] [MObj.box [boolA x, boolA y, boolA z], MObj.box [AV.val (Value.int IntKind.i64 (0 : Int)), AV.val (Value.int IntKind.i64 v1), AV.val (Value.int IntKind.i64 (0 : Int))]]) (fun (v1 : Cut (5 : Nat) Int) ↦ x = true ∧ v1 = (1 : Int) ∨ x = false ∧ v1 = (0 : Int)) ((Tr.k (1 : Nat) (Tr.k (1 : Nat) Tr.nil).w).br Tr.nil) fun (v1 : Cut (5 : Nat) Int) ↦ (Tr.b true (Tr.k (1 : Nat) (Tr.k (2 : Nat) (Tr.k (1 : Nat) (Tr.cut (fun (v7 : Cut (9 : Nat) Int) ↦ St.mk [((0 : Nat), AV.slice (2 : Nat) (List.map encCL l)), ((3 : Nat), AV.ptr (0 : Nat) (0 : Nat)), ((5 : Nat), AV.ptr (1 : Nat) (0 : Nat)), ((6 : Nat), AV.val (Value.int IntKind.i64 (2 : Int)))] [MObj.box [boolA x, boolA y, boolA z], MObj.box [AV.val (Value.int IntKind.i64 (0 : Int)), AV.val (Value.int IntKind.i64 v1), AV.val (Value.int IntKind.i64 v7)]]) (fun (v7 : Cut (9 : Nat) Int) ↦ y = true ∧ v7 = IntKind.i64.wrap (v1 + (1 : Int)) ∨ y = false ∧ v7 = v1) ((Tr.k (2 : Nat) (Tr.k (2 : Nat) Tr.nil).raw).br Tr.nil) fun (v7 : Cut (9 : Nat) Int) ↦ (Tr.b false (Tr.k l.length (Tr.inv (fun (k : Nat) ↦ St.mk [((3 : Nat), AV.ptr (0 : Nat) (0 : Nat)), ((5 : Nat), AV.ptr (1 : Nat) (0 : Nat)), ((7 : Nat), AV.row (2 : Nat) (0 : Nat) (prt x y z (List.take k l)).length (0 : Nat) (prt x y z (List.take k l)).length), ((30 : Nat), AV.slice (2 : Nat) (List.map encCL l)), ((31 : Nat), intA (↑l.length : Int)), ((32 : Nat), intA (↑k : Int))] [MObj.box [boolA x, boolA y, boolA z], MObj.box [intA (↑(tabN x y (0 : Nat)) : Int), intA (↑(tabN x y (1 : Nat)) : Int), intA (↑(tabN x y (2 : Nat)) : Int)], MObj.row (0 : Nat) (1 : Nat) (List.map strL (prt x y z (List.take k l))) true true]) (fun (k : Nat) ↦ k ≤ l.length) (fun (k : Nat) ↦ l.length - k) fun (k : Nat) ↦ (Tr.ix encCL l k fun (x16 : CLn) ↦ (((((Tr.b true (Tr.c (strL []) (Tr.k ((prt x y z (List.take k l)).length + (1 : Nat)) Tr.nil.w).w)).br Tr.nil.w).w.br (((Tr.b false (Tr.b true (Tr.c (strL (List.replicate (tabN x y (1 : Nat)) (9 : UInt8))) (Tr.k ((prt x y z (List.take k l)).length + (1 : Nat)) Tr.nil.w).w))).br Tr.nil.w).w.br (Tr.b true ((Tr.b false (Tr.b false (Tr.b true (Tr.c (strL (List.replicate (tabN x y (2 : Nat)) (9 : UInt8))) (Tr.k ((prt x y z (List.take k l)).length + (1 : Nat)) Tr.nil.w).w)))).br Tr.nil.w).w))).br (Tr.b false Tr.nil.w).w).br (Tr.b false (Tr.b false Tr.nil.w).w)).w.raw).w.br (Tr.g (List.map strL (prt x y z (List.take k l))) Tr.nil)).w)).w.w)).w.w)).w.w).w.w)).w.w)).w.w).w).w) rfl ?_
  refine Eq.mpr (by kernel_rfl : _ = (true = true ∧
  InI64 (0 : Int) ∧
    (0 : Int) = (0 : Int) ∧
      (0 : Nat) < (3 : Nat) ∧
        (1 : Int) = (1 : Int) ∧
          (1 : Nat) < (3 : Nat) ∧
            InI64 (0 : Int) ∧
              (0 : Int) = (0 : Int) ∧
                (0 : Nat) < (3 : Nat) ∧
                  ((x = true → (1 : Int) = (1 : Int) ∧ (1 : Nat) < (3 : Nat) ∧ InI64 (1 : Int) ∧ (1 : Int) = (1 : Int) ∧ (1 : Nat) < (3 : Nat) ∧ ∃ (m5_2 : Cut (5 : Nat) Int), ((List.map encCL l = List.map encCL l ∧ True ∧ True ∧ (1 : Int) = (1 : Int) ∧ True) ∧ (x = x ∧ y = y ∧ z = z) ∧ (0 : Int) = (0 : Int) ∧ (1 : Int) = m5_2 ∧ (0 : Int) = (0 : Int)) ∧ (x = true ∧ m5_2 = (1 : Int) ∨ x = false ∧ m5_2 = (0 : Int))) ∧ (x = false → ∃ (m5_4 : Cut (5 : Nat) Int), ((List.map encCL l = List.map encCL l ∧ True ∧ True ∧ (1 : Int) = (1 : Int) ∧ True) ∧ (x = x ∧ y = y ∧ z = z) ∧ (0 : Int) = (0 : Int) ∧ (0 : Int) = m5_4 ∧ (0 : Int) = (0 : Int)) ∧ (x = true ∧ m5_4 = (1 : Int) ∨ x = false ∧ m5_4 = (0 : Int)))) ∧
                    ∀ (v1 : Cut (5 : Nat) Int),
                      x = true ∧ v1 = (1 : Int) ∨ x = false ∧ v1 = (0 : Int) →
                        InI64 (2 : Int) ∧
                          true = true ∧
                            InI64 (1 : Int) ∧
                              (1 : Int) = (1 : Int) ∧
                                (1 : Nat) < (3 : Nat) ∧
                                  (2 : Int) = (2 : Int) ∧
                                    (2 : Nat) < (3 : Nat) ∧
                                      InI64 (1 : Int) ∧
                                        (1 : Int) = (1 : Int) ∧
                                          (1 : Nat) < (3 : Nat) ∧
                                            ((y = true → (2 : Int) = (2 : Int) ∧ (2 : Nat) < (3 : Nat) ∧ (2 : Int) = (2 : Int) ∧ (2 : Nat) < (3 : Nat) ∧ ∃ (m9_8 : Cut (9 : Nat) Int), ((List.map encCL l = List.map encCL l ∧ True ∧ True ∧ (2 : Int) = (2 : Int) ∧ True) ∧ (x = x ∧ y = y ∧ z = z) ∧ (0 : Int) = (0 : Int) ∧ v1 = v1 ∧ IntKind.i64.wrap (v1 + (1 : Int)) = m9_8) ∧ (y = true ∧ m9_8 = IntKind.i64.wrap (v1 + (1 : Int)) ∨ y = false ∧ m9_8 = v1)) ∧ (y = false → ∃ (m9_10 : Cut (9 : Nat) Int), ((List.map encCL l = List.map encCL l ∧ True ∧ True ∧ (2 : Int) = (2 : Int) ∧ True) ∧ (x = x ∧ y = y ∧ z = z) ∧ (0 : Int) = (0 : Int) ∧ v1 = v1 ∧ v1 = m9_10) ∧ (y = true ∧ m9_10 = IntKind.i64.wrap (v1 + (1 : Int)) ∨ y = false ∧ m9_10 = v1))) ∧
                                              ∀ (v7 : Cut (9 : Nat) Int),
                                                y = true ∧ v7 = IntKind.i64.wrap (v1 + (1 : Int)) ∨ y = false ∧ v7 = v1 →
                                                  InI64 (3 : Int) ∧
                                                    false = false ∧
                                                      (List.map encCL l).length = l.length ∧
                                                        (∃ (j13 : Nat), ((True ∧ True ∧ ((0 : Nat) = (prt x y z (List.take j13 l)).length ∧ (0 : Nat) = (0 : Nat) ∧ (0 : Nat) = (prt x y z (List.take j13 l)).length) ∧ List.map encCL l = List.map encCL l ∧ (↑l.length : Int) = (↑l.length : Int) ∧ (0 : Int) = (↑j13 : Int) ∧ True) ∧ (x = x ∧ y = y ∧ z = z) ∧ ((0 : Int) = (0 : Int) ∧ v1 = (↑(tabN x y (1 : Nat)) : Int) ∧ v7 = (↑(tabN x y (2 : Nat)) : Int)) ∧ [] = List.map strL (prt x y z (List.take j13 l))) ∧ j13 ≤ l.length) ∧
                                                          ∀ (k : Nat),
                                                            k ≤ l.length →
                                                              (decide ((↑k : Int) < (↑l.length : Int)) = true →
                                                                  List.map encCL l = List.map encCL l ∧
                                                                    (↑k : Int) = (↑k : Int) ∧
                                                                      k < l.length ∧
                                                                        ∀ (x16 : CLn),
                                                                          l[k]? = some x16 →
                                                                            (decide ((0 : Int) ≤ IntKind.i64.wrap (x16.col - (1 : Int))) = true →
                                                                                (decide (IntKind.i64.wrap (x16.col - (1 : Int)) < (3 : Int)) = true →
                                                                                    (IntKind.i64.wrap (x16.col - (1 : Int)) = (0 : Int) → (x = true → IntKind.i64.wrap (x16.col - (1 : Int)) = (0 : Int) ∧ (R FT X).f (15 : FuncId) [AV.val (Value.string (ByteArray.mk #[(9 : UInt8)])), AV.val (Value.int IntKind.i64 (0 : Int))] = some (strL []) ∧ (@List.nil UInt8).length + List.length x16.text ≤ (9223372036854775807 : Nat) ∧ (List.map strL (prt x y z (List.take k l))).length = (prt x y z (List.take k l)).length ∧ (0 : Nat) = (0 : Nat) ∧ (prt x y z (List.take k l)).length = (prt x y z (List.take k l)).length ∧ (prt x y z (List.take k l)).length + [AV.val (Value.string (ofL ([] ++ x16.text)))].length = (prt x y z (List.take k l)).length + (1 : Nat) ∧ ((prt x y z (List.take k l)).length + (1 : Nat)) * (16 : Nat) ≤ (140737488355328 : Nat) ∧ (prt x y z (List.take k l)).length + (1 : Nat) ≤ (9223372036854775807 : Nat) ∧ InI64 ((↑k : Int) + (1 : Int)) ∧ ∃ (j22 : Nat), ((True ∧ True ∧ ((prt x y z (List.take k l)).length + (1 : Nat) = (prt x y z (List.take j22 l)).length ∧ (0 : Nat) = (0 : Nat) ∧ (prt x y z (List.take k l)).length + (1 : Nat) = (prt x y z (List.take j22 l)).length) ∧ List.map encCL l = List.map encCL l ∧ (↑l.length : Int) = (↑l.length : Int) ∧ (↑k : Int) + (1 : Int) = (↑j22 : Int) ∧ True) ∧ (x = x ∧ y = y ∧ z = z) ∧ ((0 : Int) = (0 : Int) ∧ (↑(tabN x y (1 : Nat)) : Int) = (↑(tabN x y (1 : Nat)) : Int) ∧ (↑(tabN x y (2 : Nat)) : Int) = (↑(tabN x y (2 : Nat)) : Int)) ∧ List.map strL (prt x y z (List.take k l)) ++ [AV.val (Value.string (ofL ([] ++ x16.text)))] = List.map strL (prt x y z (List.take j22 l))) ∧ j22 ≤ l.length ∧ l.length - j22 < l.length - k) ∧ (x = false → InI64 ((↑k : Int) + (1 : Int)) ∧ ∃ (j24 : Nat), ((True ∧ True ∧ ((prt x y z (List.take k l)).length = (prt x y z (List.take j24 l)).length ∧ (0 : Nat) = (0 : Nat) ∧ (prt x y z (List.take k l)).length = (prt x y z (List.take j24 l)).length) ∧ List.map encCL l = List.map encCL l ∧ (↑l.length : Int) = (↑l.length : Int) ∧ (↑k : Int) + (1 : Int) = (↑j24 : Int) ∧ True) ∧ (x = x ∧ y = y ∧ z = z) ∧ ((0 : Int) = (0 : Int) ∧ (↑(tabN x y (1 : Nat)) : Int) = (↑(tabN x y (1 : Nat)) : Int) ∧ (↑(tabN x y (2 : Nat)) : Int) = (↑(tabN x y (2 : Nat)) : Int)) ∧ List.map strL (prt x y z (List.take k l)) = List.map strL (prt x y z (List.take j24 l))) ∧ j24 ≤ l.length ∧ l.length - j24 < l.length - k)) ∧
                                                                                      (IntKind.i64.wrap (x16.col - (1 : Int)) ≠ (0 : Int) →
                                                                                        (IntKind.i64.wrap (x16.col - (1 : Int)) = (1 : Int) → (y = true → IntKind.i64.wrap (x16.col - (1 : Int)) ≠ (0 : Int) ∧ IntKind.i64.wrap (x16.col - (1 : Int)) = (1 : Int) ∧ (R FT X).f (15 : FuncId) [AV.val (Value.string (ByteArray.mk #[(9 : UInt8)])), AV.val (Value.int IntKind.i64 (↑(tabN x y (1 : Nat)) : Int))] = some (strL (List.replicate (tabN x y (1 : Nat)) (9 : UInt8))) ∧ (List.replicate (tabN x y (1 : Nat)) (9 : UInt8)).length + List.length x16.text ≤ (9223372036854775807 : Nat) ∧ (List.map strL (prt x y z (List.take k l))).length = (prt x y z (List.take k l)).length ∧ (0 : Nat) = (0 : Nat) ∧ (prt x y z (List.take k l)).length = (prt x y z (List.take k l)).length ∧ (prt x y z (List.take k l)).length + [AV.val (Value.string (ofL (List.replicate (tabN x y (1 : Nat)) (9 : UInt8) ++ x16.text)))].length = (prt x y z (List.take k l)).length + (1 : Nat) ∧ ((prt x y z (List.take k l)).length + (1 : Nat)) * (16 : Nat) ≤ (140737488355328 : Nat) ∧ (prt x y z (List.take k l)).length + (1 : Nat) ≤ (9223372036854775807 : Nat) ∧ InI64 ((↑k : Int) + (1 : Int)) ∧ ∃ (j28 : Nat), ((True ∧ True ∧ ((prt x y z (List.take k l)).length + (1 : Nat) = (prt x y z (List.take j28 l)).length ∧ (0 : Nat) = (0 : Nat) ∧ (prt x y z (List.take k l)).length + (1 : Nat) = (prt x y z (List.take j28 l)).length) ∧ List.map encCL l = List.map encCL l ∧ (↑l.length : Int) = (↑l.length : Int) ∧ (↑k : Int) + (1 : Int) = (↑j28 : Int) ∧ True) ∧ (x = x ∧ y = y ∧ z = z) ∧ ((0 : Int) = (0 : Int) ∧ (↑(tabN x y (1 : Nat)) : Int) = (↑(tabN x y (1 : Nat)) : Int) ∧ (↑(tabN x y (2 : Nat)) : Int) = (↑(tabN x y (2 : Nat)) : Int)) ∧ List.map strL (prt x y z (List.take k l)) ++ [AV.val (Value.string (ofL (List.replicate (tabN x y (1 : Nat)) (9 : UInt8) ++ x16.text)))] = List.map strL (prt x y z (List.take j28 l))) ∧ j28 ≤ l.length ∧ l.length - j28 < l.length - k) ∧ (y = false → InI64 ((↑k : Int) + (1 : Int)) ∧ ∃ (j30 : Nat), ((True ∧ True ∧ ((prt x y z (List.take k l)).length = (prt x y z (List.take j30 l)).length ∧ (0 : Nat) = (0 : Nat) ∧ (prt x y z (List.take k l)).length = (prt x y z (List.take j30 l)).length) ∧ List.map encCL l = List.map encCL l ∧ (↑l.length : Int) = (↑l.length : Int) ∧ (↑k : Int) + (1 : Int) = (↑j30 : Int) ∧ True) ∧ (x = x ∧ y = y ∧ z = z) ∧ ((0 : Int) = (0 : Int) ∧ (↑(tabN x y (1 : Nat)) : Int) = (↑(tabN x y (1 : Nat)) : Int) ∧ (↑(tabN x y (2 : Nat)) : Int) = (↑(tabN x y (2 : Nat)) : Int)) ∧ List.map strL (prt x y z (List.take k l)) = List.map strL (prt x y z (List.take j30 l))) ∧ j30 ≤ l.length ∧ l.length - j30 < l.length - k)) ∧
                                                                                          (IntKind.i64.wrap (x16.col - (1 : Int)) ≠ (1 : Int) → IntKind.i64.wrap (x16.col - (1 : Int)) = (2 : Int) ∧ (z = true → IntKind.i64.wrap (x16.col - (1 : Int)) ≠ (0 : Int) ∧ IntKind.i64.wrap (x16.col - (1 : Int)) ≠ (1 : Int) ∧ IntKind.i64.wrap (x16.col - (1 : Int)) = (2 : Int) ∧ (R FT X).f (15 : FuncId) [AV.val (Value.string (ByteArray.mk #[(9 : UInt8)])), AV.val (Value.int IntKind.i64 (↑(tabN x y (2 : Nat)) : Int))] = some (strL (List.replicate (tabN x y (2 : Nat)) (9 : UInt8))) ∧ (List.replicate (tabN x y (2 : Nat)) (9 : UInt8)).length + List.length x16.text ≤ (9223372036854775807 : Nat) ∧ (List.map strL (prt x y z (List.take k l))).length = (prt x y z (List.take k l)).length ∧ (0 : Nat) = (0 : Nat) ∧ (prt x y z (List.take k l)).length = (prt x y z (List.take k l)).length ∧ (prt x y z (List.take k l)).length + [AV.val (Value.string (ofL (List.replicate (tabN x y (2 : Nat)) (9 : UInt8) ++ x16.text)))].length = (prt x y z (List.take k l)).length + (1 : Nat) ∧ ((prt x y z (List.take k l)).length + (1 : Nat)) * (16 : Nat) ≤ (140737488355328 : Nat) ∧ (prt x y z (List.take k l)).length + (1 : Nat) ≤ (9223372036854775807 : Nat) ∧ InI64 ((↑k : Int) + (1 : Int)) ∧ ∃ (j33 : Nat), ((True ∧ True ∧ ((prt x y z (List.take k l)).length + (1 : Nat) = (prt x y z (List.take j33 l)).length ∧ (0 : Nat) = (0 : Nat) ∧ (prt x y z (List.take k l)).length + (1 : Nat) = (prt x y z (List.take j33 l)).length) ∧ List.map encCL l = List.map encCL l ∧ (↑l.length : Int) = (↑l.length : Int) ∧ (↑k : Int) + (1 : Int) = (↑j33 : Int) ∧ True) ∧ (x = x ∧ y = y ∧ z = z) ∧ ((0 : Int) = (0 : Int) ∧ (↑(tabN x y (1 : Nat)) : Int) = (↑(tabN x y (1 : Nat)) : Int) ∧ (↑(tabN x y (2 : Nat)) : Int) = (↑(tabN x y (2 : Nat)) : Int)) ∧ List.map strL (prt x y z (List.take k l)) ++ [AV.val (Value.string (ofL (List.replicate (tabN x y (2 : Nat)) (9 : UInt8) ++ x16.text)))] = List.map strL (prt x y z (List.take j33 l))) ∧ j33 ≤ l.length ∧ l.length - j33 < l.length - k) ∧ (z = false → InI64 ((↑k : Int) + (1 : Int)) ∧ ∃ (j35 : Nat), ((True ∧ True ∧ ((prt x y z (List.take k l)).length = (prt x y z (List.take j35 l)).length ∧ (0 : Nat) = (0 : Nat) ∧ (prt x y z (List.take k l)).length = (prt x y z (List.take j35 l)).length) ∧ List.map encCL l = List.map encCL l ∧ (↑l.length : Int) = (↑l.length : Int) ∧ (↑k : Int) + (1 : Int) = (↑j35 : Int) ∧ True) ∧ (x = x ∧ y = y ∧ z = z) ∧ ((0 : Int) = (0 : Int) ∧ (↑(tabN x y (1 : Nat)) : Int) = (↑(tabN x y (1 : Nat)) : Int) ∧ (↑(tabN x y (2 : Nat)) : Int) = (↑(tabN x y (2 : Nat)) : Int)) ∧ List.map strL (prt x y z (List.take k l)) = List.map strL (prt x y z (List.take j35 l))) ∧ j35 ≤ l.length ∧ l.length - j35 < l.length - k)))) ∧
                                                                                  (decide (IntKind.i64.wrap (x16.col - (1 : Int)) < (3 : Int)) = false → false = false ∧ InI64 ((↑k : Int) + (1 : Int)) ∧ ∃ (j37 : Nat), ((True ∧ True ∧ ((prt x y z (List.take k l)).length = (prt x y z (List.take j37 l)).length ∧ (0 : Nat) = (0 : Nat) ∧ (prt x y z (List.take k l)).length = (prt x y z (List.take j37 l)).length) ∧ List.map encCL l = List.map encCL l ∧ (↑l.length : Int) = (↑l.length : Int) ∧ (↑k : Int) + (1 : Int) = (↑j37 : Int) ∧ True) ∧ (x = x ∧ y = y ∧ z = z) ∧ ((0 : Int) = (0 : Int) ∧ (↑(tabN x y (1 : Nat)) : Int) = (↑(tabN x y (1 : Nat)) : Int) ∧ (↑(tabN x y (2 : Nat)) : Int) = (↑(tabN x y (2 : Nat)) : Int)) ∧ List.map strL (prt x y z (List.take k l)) = List.map strL (prt x y z (List.take j37 l))) ∧ j37 ≤ l.length ∧ l.length - j37 < l.length - k)) ∧
                                                                              (decide ((0 : Int) ≤ IntKind.i64.wrap (x16.col - (1 : Int))) = false → false = false ∧ false = false ∧ InI64 ((↑k : Int) + (1 : Int)) ∧ ∃ (j39 : Nat), ((True ∧ True ∧ ((prt x y z (List.take k l)).length = (prt x y z (List.take j39 l)).length ∧ (0 : Nat) = (0 : Nat) ∧ (prt x y z (List.take k l)).length = (prt x y z (List.take j39 l)).length) ∧ List.map encCL l = List.map encCL l ∧ (↑l.length : Int) = (↑l.length : Int) ∧ (↑k : Int) + (1 : Int) = (↑j39 : Int) ∧ True) ∧ (x = x ∧ y = y ∧ z = z) ∧ ((0 : Int) = (0 : Int) ∧ (↑(tabN x y (1 : Nat)) : Int) = (↑(tabN x y (1 : Nat)) : Int) ∧ (↑(tabN x y (2 : Nat)) : Int) = (↑(tabN x y (2 : Nat)) : Int)) ∧ List.map strL (prt x y z (List.take k l)) = List.map strL (prt x y z (List.take j39 l))) ∧ j39 ≤ l.length ∧ l.length - j39 < l.length - k)) ∧
                                                                (decide ((↑k : Int) < (↑l.length : Int)) = false → (List.map strL (prt x y z (List.take k l))).length = (prt x y z (List.take k l)).length ∧ List.take (prt x y z (List.take k l)).length (List.drop (0 : Nat) (List.map strL (prt x y z (List.take k l)))) = List.map strL (prt x y z (List.take k l)) ∧ List.map strL (prt x y z (List.take k l)) = List.map strL (prt x y z l)))) ?_
  refine ⟨rfl, (by unfold InI64; omega), rfl, (by omega), rfl, (by omega), (by unfold InI64; omega), rfl, (by omega), ⟨fun h1 => ⟨rfl, (by omega), (by unfold InI64; omega), rfl, (by omega), ⟨(1 : Int), ⟨⟨(by first | rfl | simp), ⟨trivial, ⟨trivial, ⟨(by first | rfl | simp), trivial⟩⟩⟩⟩, ⟨⟨(by first | rfl | simp), ⟨(by first | rfl | simp), (by first | rfl | simp)⟩⟩, ⟨(by first | rfl | simp), ⟨(by first | rfl | simp), (by first | rfl | simp)⟩⟩⟩⟩, Or.inl (⟨h1, rfl⟩)⟩⟩, fun h3 => ⟨(0 : Int), ⟨⟨(by first | rfl | simp), ⟨trivial, ⟨trivial, ⟨(by first | rfl | simp), trivial⟩⟩⟩⟩, ⟨⟨(by first | rfl | simp), ⟨(by first | rfl | simp), (by first | rfl | simp)⟩⟩, ⟨(by first | rfl | simp), ⟨(by first | rfl | simp), (by first | rfl | simp)⟩⟩⟩⟩, Or.inr (⟨h3, rfl⟩)⟩⟩, fun v1 => fun h6 => ⟨(by unfold InI64; omega), rfl, (by unfold InI64; omega), rfl, (by omega), rfl, (by omega), (by unfold InI64; omega), rfl, (by omega), ⟨fun h7 => ⟨rfl, (by omega), rfl, (by omega), ⟨IntKind.i64.wrap (v1 + (1 : Int)), ⟨⟨(by first | rfl | simp), ⟨trivial, ⟨trivial, ⟨(by first | rfl | simp), trivial⟩⟩⟩⟩, ⟨⟨(by first | rfl | simp), ⟨(by first | rfl | simp), (by first | rfl | simp)⟩⟩, ⟨(by first | rfl | simp), ⟨(by first | rfl | simp), (by first | rfl | simp)⟩⟩⟩⟩, Or.inl (⟨h7, rfl⟩)⟩⟩, fun h9 => ⟨v1, ⟨⟨(by first | rfl | simp), ⟨trivial, ⟨trivial, ⟨(by first | rfl | simp), trivial⟩⟩⟩⟩, ⟨⟨(by first | rfl | simp), ⟨(by first | rfl | simp), (by first | rfl | simp)⟩⟩, ⟨(by first | rfl | simp), ⟨(by first | rfl | simp), (by first | rfl | simp)⟩⟩⟩⟩, Or.inr (⟨h9, rfl⟩)⟩⟩, fun v7 => fun h12 => ⟨(by unfold InI64; omega), rfl, (by simp), ⟨(0 : Nat), ⟨⟨trivial, trivial, ⟨rfl, rfl, rfl⟩, rfl, rfl, (by omega), trivial⟩, ⟨rfl, rfl, rfl⟩, ⟨rfl, ?_, ?_⟩, rfl⟩, (by omega)⟩, fun k => fun h14 => ⟨fun h15_ => have h15 := dT h15_; ⟨rfl, rfl, (by omega), fun x16 => fun h17 => ⟨fun h18_ => have h18 := dT h18_; ⟨fun h19_ => have h19 := dT h19_; ⟨fun h20 => ⟨fun h21 => ⟨h20, (rep0), ?_, (by simp), rfl, rfl, rfl, ?_, ?_, (by unfold InI64; omega), ⟨k + (1 : Nat), ⟨⟨trivial, trivial, ⟨?_, rfl, ?_⟩, rfl, rfl, (by omega), trivial⟩, ⟨rfl, rfl, rfl⟩, ⟨rfl, rfl, rfl⟩, ?_⟩, ⟨(by omega), (by omega)⟩⟩⟩, fun h23 => ⟨(by unfold InI64; omega), ⟨k + (1 : Nat), ⟨⟨trivial, trivial, ⟨?_, rfl, ?_⟩, rfl, rfl, (by omega), trivial⟩, ⟨rfl, rfl, rfl⟩, ⟨rfl, rfl, rfl⟩, ?_⟩, ⟨(by omega), (by omega)⟩⟩⟩⟩, fun h25 => ⟨fun h26 => ⟨fun h27 => ⟨h25, h26, (repN _ _ _), ?_, (by simp), rfl, rfl, rfl, ?_, ?_, (by unfold InI64; omega), ⟨k + (1 : Nat), ⟨⟨trivial, trivial, ⟨?_, rfl, ?_⟩, rfl, rfl, (by omega), trivial⟩, ⟨rfl, rfl, rfl⟩, ⟨rfl, rfl, rfl⟩, ?_⟩, ⟨(by omega), (by omega)⟩⟩⟩, fun h29 => ⟨(by unfold InI64; omega), ⟨k + (1 : Nat), ⟨⟨trivial, trivial, ⟨?_, rfl, ?_⟩, rfl, rfl, (by omega), trivial⟩, ⟨rfl, rfl, rfl⟩, ⟨rfl, rfl, rfl⟩, ?_⟩, ⟨(by omega), (by omega)⟩⟩⟩⟩, fun h31 => ⟨(by omega), fun h32 => ⟨h25, h31, (by omega), (repN _ _ _), ?_, (by simp), rfl, rfl, rfl, ?_, ?_, (by unfold InI64; omega), ⟨k + (1 : Nat), ⟨⟨trivial, trivial, ⟨?_, rfl, ?_⟩, rfl, rfl, (by omega), trivial⟩, ⟨rfl, rfl, rfl⟩, ⟨rfl, rfl, rfl⟩, ?_⟩, ⟨(by omega), (by omega)⟩⟩⟩, fun h34 => ⟨(by unfold InI64; omega), ⟨k + (1 : Nat), ⟨⟨trivial, trivial, ⟨?_, rfl, ?_⟩, rfl, rfl, (by omega), trivial⟩, ⟨rfl, rfl, rfl⟩, ⟨rfl, rfl, rfl⟩, ?_⟩, ⟨(by omega), (by omega)⟩⟩⟩⟩⟩⟩, fun h36_ => have h36 := dF h36_; ⟨rfl, (by unfold InI64; omega), ⟨k + (1 : Nat), ⟨⟨trivial, trivial, ⟨?_, rfl, ?_⟩, rfl, rfl, (by omega), trivial⟩, ⟨rfl, rfl, rfl⟩, ⟨rfl, rfl, rfl⟩, ?_⟩, ⟨(by omega), (by omega)⟩⟩⟩⟩, fun h38_ => have h38 := dF h38_; ⟨rfl, rfl, (by unfold InI64; omega), ⟨k + (1 : Nat), ⟨⟨trivial, trivial, ⟨?_, rfl, ?_⟩, rfl, rfl, (by omega), trivial⟩, ⟨rfl, rfl, rfl⟩, ⟨rfl, rfl, rfl⟩, ?_⟩, ⟨(by omega), (by omega)⟩⟩⟩⟩⟩, fun h40_ => have h40 := dF h40_; ⟨(by simp), ?_, ?_⟩⟩⟩⟩⟩
  iterate 2 · (cases x <;> cases y <;> simp_all [tabN] <;> decide)
  ·
    have hp := prt_len x y z (l.take k)
    have hq := List.length_take_le k l
    have hcx := hc _ (List.mem_of_getElem? h17)
    have hw := wrapm hcx.1
    have e := prL_1 (x := x) (y := y) (z := z) (c := x16) (by omega) h21
    have := tabN_le x y 1
    have := hcx.2
    simp; omega
  ·
    have hp := prt_len x y z (l.take k)
    have hq := List.length_take_le k l
    have hcx := hc _ (List.mem_of_getElem? h17)
    have hw := wrapm hcx.1
    have e := prL_1 (x := x) (y := y) (z := z) (c := x16) (by omega) h21
    omega
  ·
    have hp := prt_len x y z (l.take k)
    have hq := List.length_take_le k l
    have hcx := hc _ (List.mem_of_getElem? h17)
    have hw := wrapm hcx.1
    have e := prL_1 (x := x) (y := y) (z := z) (c := x16) (by omega) h21
    omega
  ·
    have hp := prt_len x y z (l.take k)
    have hq := List.length_take_le k l
    have hcx := hc _ (List.mem_of_getElem? h17)
    have hw := wrapm hcx.1
    have e := prL_1 (x := x) (y := y) (z := z) (c := x16) (by omega) h21
    rw [prt_succ h17, e, List.length_append]; rfl
  ·
    have hp := prt_len x y z (l.take k)
    have hq := List.length_take_le k l
    have hcx := hc _ (List.mem_of_getElem? h17)
    have hw := wrapm hcx.1
    have e := prL_1 (x := x) (y := y) (z := z) (c := x16) (by omega) h21
    rw [prt_succ h17, e, List.length_append]; rfl
  ·
    have hp := prt_len x y z (l.take k)
    have hq := List.length_take_le k l
    have hcx := hc _ (List.mem_of_getElem? h17)
    have hw := wrapm hcx.1
    have e := prL_1 (x := x) (y := y) (z := z) (c := x16) (by omega) h21
    rw [prt_succ h17, e, List.map_append]; rfl
  ·
    have hp := prt_len x y z (l.take k)
    have hq := List.length_take_le k l
    have hcx := hc _ (List.mem_of_getElem? h17)
    have hw := wrapm hcx.1
    have e := prL_0 (x := x) (y := y) (z := z) (c := x16) (fun _ => h23) (fun _ => by omega) (fun _ => by omega)
    rw [prt_succ h17, e, List.append_nil]
  ·
    have hp := prt_len x y z (l.take k)
    have hq := List.length_take_le k l
    have hcx := hc _ (List.mem_of_getElem? h17)
    have hw := wrapm hcx.1
    have e := prL_0 (x := x) (y := y) (z := z) (c := x16) (fun _ => h23) (fun _ => by omega) (fun _ => by omega)
    rw [prt_succ h17, e, List.append_nil]
  ·
    have hp := prt_len x y z (l.take k)
    have hq := List.length_take_le k l
    have hcx := hc _ (List.mem_of_getElem? h17)
    have hw := wrapm hcx.1
    have e := prL_0 (x := x) (y := y) (z := z) (c := x16) (fun _ => h23) (fun _ => by omega) (fun _ => by omega)
    rw [prt_succ h17, e, List.append_nil]
  ·
    have hp := prt_len x y z (l.take k)
    have hq := List.length_take_le k l
    have hcx := hc _ (List.mem_of_getElem? h17)
    have hw := wrapm hcx.1
    have e := prL_2 (x := x) (y := y) (z := z) (c := x16) (by omega) h27
    have := tabN_le x y 1
    have := hcx.2
    simp; omega
  ·
    have hp := prt_len x y z (l.take k)
    have hq := List.length_take_le k l
    have hcx := hc _ (List.mem_of_getElem? h17)
    have hw := wrapm hcx.1
    have e := prL_2 (x := x) (y := y) (z := z) (c := x16) (by omega) h27
    omega
  ·
    have hp := prt_len x y z (l.take k)
    have hq := List.length_take_le k l
    have hcx := hc _ (List.mem_of_getElem? h17)
    have hw := wrapm hcx.1
    have e := prL_2 (x := x) (y := y) (z := z) (c := x16) (by omega) h27
    omega
  ·
    have hp := prt_len x y z (l.take k)
    have hq := List.length_take_le k l
    have hcx := hc _ (List.mem_of_getElem? h17)
    have hw := wrapm hcx.1
    have e := prL_2 (x := x) (y := y) (z := z) (c := x16) (by omega) h27
    rw [prt_succ h17, e, List.length_append]; rfl
  ·
    have hp := prt_len x y z (l.take k)
    have hq := List.length_take_le k l
    have hcx := hc _ (List.mem_of_getElem? h17)
    have hw := wrapm hcx.1
    have e := prL_2 (x := x) (y := y) (z := z) (c := x16) (by omega) h27
    rw [prt_succ h17, e, List.length_append]; rfl
  ·
    have hp := prt_len x y z (l.take k)
    have hq := List.length_take_le k l
    have hcx := hc _ (List.mem_of_getElem? h17)
    have hw := wrapm hcx.1
    have e := prL_2 (x := x) (y := y) (z := z) (c := x16) (by omega) h27
    rw [prt_succ h17, e, List.map_append]; rfl
  ·
    have hp := prt_len x y z (l.take k)
    have hq := List.length_take_le k l
    have hcx := hc _ (List.mem_of_getElem? h17)
    have hw := wrapm hcx.1
    have e := prL_0 (x := x) (y := y) (z := z) (c := x16) (fun _ => by omega) (fun _ => h29) (fun _ => by omega)
    rw [prt_succ h17, e, List.append_nil]
  ·
    have hp := prt_len x y z (l.take k)
    have hq := List.length_take_le k l
    have hcx := hc _ (List.mem_of_getElem? h17)
    have hw := wrapm hcx.1
    have e := prL_0 (x := x) (y := y) (z := z) (c := x16) (fun _ => by omega) (fun _ => h29) (fun _ => by omega)
    rw [prt_succ h17, e, List.append_nil]
  ·
    have hp := prt_len x y z (l.take k)
    have hq := List.length_take_le k l
    have hcx := hc _ (List.mem_of_getElem? h17)
    have hw := wrapm hcx.1
    have e := prL_0 (x := x) (y := y) (z := z) (c := x16) (fun _ => by omega) (fun _ => h29) (fun _ => by omega)
    rw [prt_succ h17, e, List.append_nil]
  ·
    have hp := prt_len x y z (l.take k)
    have hq := List.length_take_le k l
    have hcx := hc _ (List.mem_of_getElem? h17)
    have hw := wrapm hcx.1
    have e := prL_3 (x := x) (y := y) (z := z) (c := x16) (by omega) h32
    have := tabN_le x y 2
    have := hcx.2
    simp; omega
  ·
    have hp := prt_len x y z (l.take k)
    have hq := List.length_take_le k l
    have hcx := hc _ (List.mem_of_getElem? h17)
    have hw := wrapm hcx.1
    have e := prL_3 (x := x) (y := y) (z := z) (c := x16) (by omega) h32
    omega
  ·
    have hp := prt_len x y z (l.take k)
    have hq := List.length_take_le k l
    have hcx := hc _ (List.mem_of_getElem? h17)
    have hw := wrapm hcx.1
    have e := prL_3 (x := x) (y := y) (z := z) (c := x16) (by omega) h32
    omega
  ·
    have hp := prt_len x y z (l.take k)
    have hq := List.length_take_le k l
    have hcx := hc _ (List.mem_of_getElem? h17)
    have hw := wrapm hcx.1
    have e := prL_3 (x := x) (y := y) (z := z) (c := x16) (by omega) h32
    rw [prt_succ h17, e, List.length_append]; rfl
  ·
    have hp := prt_len x y z (l.take k)
    have hq := List.length_take_le k l
    have hcx := hc _ (List.mem_of_getElem? h17)
    have hw := wrapm hcx.1
    have e := prL_3 (x := x) (y := y) (z := z) (c := x16) (by omega) h32
    rw [prt_succ h17, e, List.length_append]; rfl
  ·
    have hp := prt_len x y z (l.take k)
    have hq := List.length_take_le k l
    have hcx := hc _ (List.mem_of_getElem? h17)
    have hw := wrapm hcx.1
    have e := prL_3 (x := x) (y := y) (z := z) (c := x16) (by omega) h32
    rw [prt_succ h17, e, List.map_append]; rfl
  ·
    have hp := prt_len x y z (l.take k)
    have hq := List.length_take_le k l
    have hcx := hc _ (List.mem_of_getElem? h17)
    have hw := wrapm hcx.1
    have e := prL_0 (x := x) (y := y) (z := z) (c := x16) (fun _ => by omega) (fun _ => by omega) (fun _ => h34)
    rw [prt_succ h17, e, List.append_nil]
  ·
    have hp := prt_len x y z (l.take k)
    have hq := List.length_take_le k l
    have hcx := hc _ (List.mem_of_getElem? h17)
    have hw := wrapm hcx.1
    have e := prL_0 (x := x) (y := y) (z := z) (c := x16) (fun _ => by omega) (fun _ => by omega) (fun _ => h34)
    rw [prt_succ h17, e, List.append_nil]
  ·
    have hp := prt_len x y z (l.take k)
    have hq := List.length_take_le k l
    have hcx := hc _ (List.mem_of_getElem? h17)
    have hw := wrapm hcx.1
    have e := prL_0 (x := x) (y := y) (z := z) (c := x16) (fun _ => by omega) (fun _ => by omega) (fun _ => h34)
    rw [prt_succ h17, e, List.append_nil]
  ·
    have hp := prt_len x y z (l.take k)
    have hq := List.length_take_le k l
    have hcx := hc _ (List.mem_of_getElem? h17)
    have hw := wrapm hcx.1
    have e := prL_0 (x := x) (y := y) (z := z) (c := x16) (fun _ => by omega) (fun _ => by omega) (fun _ => by omega)
    rw [prt_succ h17, e, List.append_nil]
  ·
    have hp := prt_len x y z (l.take k)
    have hq := List.length_take_le k l
    have hcx := hc _ (List.mem_of_getElem? h17)
    have hw := wrapm hcx.1
    have e := prL_0 (x := x) (y := y) (z := z) (c := x16) (fun _ => by omega) (fun _ => by omega) (fun _ => by omega)
    rw [prt_succ h17, e, List.append_nil]
  ·
    have hp := prt_len x y z (l.take k)
    have hq := List.length_take_le k l
    have hcx := hc _ (List.mem_of_getElem? h17)
    have hw := wrapm hcx.1
    have e := prL_0 (x := x) (y := y) (z := z) (c := x16) (fun _ => by omega) (fun _ => by omega) (fun _ => by omega)
    rw [prt_succ h17, e, List.append_nil]
  ·
    have hp := prt_len x y z (l.take k)
    have hq := List.length_take_le k l
    have hcx := hc _ (List.mem_of_getElem? h17)
    have hw := wrapm hcx.1
    have e := prL_0 (x := x) (y := y) (z := z) (c := x16) (fun _ => by omega) (fun _ => by omega) (fun _ => by omega)
    rw [prt_succ h17, e, List.append_nil]
  ·
    have hp := prt_len x y z (l.take k)
    have hq := List.length_take_le k l
    have hcx := hc _ (List.mem_of_getElem? h17)
    have hw := wrapm hcx.1
    have e := prL_0 (x := x) (y := y) (z := z) (c := x16) (fun _ => by omega) (fun _ => by omega) (fun _ => by omega)
    rw [prt_succ h17, e, List.append_nil]
  ·
    have hp := prt_len x y z (l.take k)
    have hq := List.length_take_le k l
    have hcx := hc _ (List.mem_of_getElem? h17)
    have hw := wrapm hcx.1
    have e := prL_0 (x := x) (y := y) (z := z) (c := x16) (fun _ => by omega) (fun _ => by omega) (fun _ => by omega)
    rw [prt_succ h17, e, List.append_nil]
  · rw [List.drop_zero, List.take_of_length_le (by simp)]
  · rw [prt_end (by omega)]
end
end Go.Proofs.Ytbdmioekohmcnab
