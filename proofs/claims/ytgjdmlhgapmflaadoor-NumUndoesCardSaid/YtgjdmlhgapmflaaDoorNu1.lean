/- Numbers: sums, differences, products, quotients: what the program and the reference come to. -/
import Derived.Test.YtgjdmlhgapmflaaDoorFt
namespace Go.Proofs.YtgjdmlhgapmflaaDoor
set_option linter.unusedVariables false
set_option linter.unusedSimpArgs false
set_option maxRecDepth 100000
set_option maxHeartbeats 4000000
theorem wrap_if (n : Int) : IntKind.i64.wrap n = if 9223372036854775808 ≤ n % 18446744073709551616 then n % 18446744073709551616 - 18446744073709551616 else n % 18446744073709551616 := by
  have : IntKind.i64.wrap n = (if (true && decide (n % 18446744073709551616 ≥ 9223372036854775808)) = true then n % 18446744073709551616 - 18446744073709551616 else n % 18446744073709551616) := rfl
  rw [this]
  simp only [Bool.true_and, decide_eq_true_eq, ge_iff_le]
theorem wrap_nat (v : BitVec 64) : IntKind.i64.wrap (v.toNat : Int) = v.toInt := by
  have h : v.toNat < 18446744073709551616 := v.isLt
  rw [wrap_if, BitVec.toInt_eq_toNat_cond, show (2 : Nat) ^ 64 = 18446744073709551616 from rfl]
  (repeat' split) <;> omega
theorem msb_of {x : Int} (h : InI64 x) : (BitVec.ofInt 64 x).msb = decide (x < 0) := by
  rw [BitVec.msb_eq_toInt, BitVec.toInt_ofInt]
  unfold InI64 at h
  have : x.bmod (2 ^ 64) = x := by rw [Int.bmod_def]; split <;> omega
  rw [this]
theorem bit_xor (x y : Int) : bitW .xor .i64 x y = (BitVec.ofInt 64 x ^^^ BitVec.ofInt 64 y).toInt := wrap_nat _
theorem bit_and (x y : Int) : bitW .and .i64 x y = (BitVec.ofInt 64 x &&& BitVec.ofInt 64 y).toInt := wrap_nat _
/-- the sign of (x ^ c) & (y ^ c) -/
theorem bit_xor2 (x y : Int) : bitX .xor .i64 x y = bitW .xor .i64 x y := by rw [bitX_eq]
theorem sign_bits {x y c d : Int} (hx : InI64 x) (hy : InI64 y) (hc : InI64 c) (hd : InI64 d) : bitX .and .i64 (bitX .xor .i64 x c) (bitX .xor .i64 y d) < 0 ↔ ((x < 0 ∧ 0 ≤ c ∨ 0 ≤ x ∧ c < 0) ∧ (y < 0 ∧ 0 ≤ d ∨ 0 ≤ y ∧ d < 0)) := by
  rw [bitX_eq, bit_and, bit_xor, bit_xor, BitVec.ofInt_toInt, BitVec.ofInt_toInt]
  have h : ∀ v : BitVec 64, v.toInt < 0 ↔ v.msb = true := fun v => by rw [BitVec.msb_eq_toInt]; simp
  rw [h, BitVec.msb_and, BitVec.msb_xor, BitVec.msb_xor, msb_of hx, msb_of hy, msb_of hc, msb_of hd]
  have hp : ∀ p q : Int, (decide (p < 0) ^^ decide (q < 0)) = true ↔ (p < 0 ∧ 0 ≤ q ∨ 0 ≤ p ∧ q < 0) := fun p q => by
    by_cases h1 : p < 0 <;> by_cases h2 : q < 0 <;> simp [h1, h2] <;> omega
  rw [Bool.and_eq_true, hp, hp]
theorem wrap_cases (n : Int) (h : -18446744073709551616 ≤ n) (h' : n ≤ 18446744073709551616) : InI64 (IntKind.i64.wrap n) ∧ (IntKind.i64.wrap n = n ∨ IntKind.i64.wrap n = n - 18446744073709551616 ∨ IntKind.i64.wrap n = n + 18446744073709551616) := by
  rw [wrap_if]
  unfold InI64
  split <;> omega
theorem sign_add {a b : Int} (ha : InI64 a) (hb : InI64 b) : bitX .and .i64 (bitX .xor .i64 a (wrapX .i64 (a + b))) (bitX .xor .i64 b (wrapX .i64 (a + b))) < 0 ↔ ¬ InI64 (a + b) := by
  simp only [wrapX_eq]
  unfold InI64 at ha hb
  obtain ⟨hw, hc⟩ := wrap_cases (a + b) (by omega) (by omega)
  rw [sign_bits ha hb hw hw]
  generalize IntKind.i64.wrap (a + b) = c at *
  unfold InI64 at *
  constructor
  · rintro ⟨q1, q2⟩
    rcases hc with h | h | h <;> rcases q1 with q1 | q1 <;> rcases q2 with q2 | q2 <;> omega
  · intro q
    rcases hc with h | h | h
    · exact absurd hw (by rw [h]; exact q)
    · exact ⟨by omega, by omega⟩
    · exact ⟨by omega, by omega⟩
theorem sign_sub {a b : Int} (ha : InI64 a) (hb : InI64 b) : bitX .and .i64 (bitX .xor .i64 a b) (bitX .xor .i64 a (wrapX .i64 (a - b))) < 0 ↔ ¬ InI64 (a - b) := by
  simp only [wrapX_eq]
  unfold InI64 at ha hb
  obtain ⟨hw, hc⟩ := wrap_cases (a - b) (by omega) (by omega)
  rw [sign_bits ha ha hb hw]
  generalize IntKind.i64.wrap (a - b) = c at *
  unfold InI64 at *
  constructor
  · rintro ⟨q1, q2⟩
    rcases hc with h | h | h <;> rcases q1 with q1 | q1 <;> rcases q2 with q2 | q2 <;> omega
  · intro q
    rcases hc with h | h | h
    · exact absurd hw (by rw [h]; exact q)
    · exact ⟨by omega, by omega⟩
    · exact ⟨by omega, by omega⟩
theorem wrap_mod (n : Int) : ∃ k : Int, IntKind.i64.wrap n = n - 18446744073709551616 * k ∧ InI64 (IntKind.i64.wrap n) := by
  rw [wrap_if]
  unfold InI64
  have h := Int.mul_ediv_add_emod n 18446744073709551616
  have h1 := Int.emod_nonneg n (show (18446744073709551616 : Int) ≠ 0 by decide)
  have h2 := Int.emod_lt_of_pos n (show (0 : Int) < 18446744073709551616 by decide)
  split
  · exact ⟨n / 18446744073709551616 + 1, by omega, by omega⟩
  · exact ⟨n / 18446744073709551616, by omega, by omega⟩
theorem tmod_small (a : Int) {b : Int} (hb : b ≠ 0) : (a.tmod b).natAbs < b.natAbs := by
  rw [Int.natAbs_tmod]; exact Nat.mod_lt _ (by omega)
theorem tdiv_range {a b : Int} (ha : InI64 a) (hb : b ≠ 0) (h : ¬ (a = -9223372036854775808 ∧ b = -1)) : InI64 (a.tdiv b) ∧ (a.tmod b ≠ 0 → InI64 (a.tdiv b - 1)) := by
  unfold InI64 at *
  by_cases h1 : b = 1
  · subst h1; simp; omega
  by_cases h2 : b = -1
  · subst h2
    have : a.tmod (-1) = 0 := by rw [Int.tmod_neg]; exact Int.tmod_one a
    rw [Int.tdiv_neg, Int.tdiv_one, this]
    simp; omega
  have h3 : (a.tdiv b).natAbs ≤ a.natAbs / 2 := by
    rw [Int.natAbs_tdiv]; exact Nat.div_le_div_left (by omega) (by omega)
  omega
/-- the product, by way of the division -/
theorem mul_check {a b : Int} (ha : InI64 a) (hb : InI64 b) (h0 : b ≠ 0) (h : ¬ (a = -9223372036854775808 ∧ b = -1)) (h' : ¬ (b = -9223372036854775808 ∧ a = -1)) : wrapX .i64 ((wrapX .i64 (a * b)).tdiv b) = a ↔ InI64 (a * b) := by
  simp only [wrapX_eq]
  constructor
  · intro e
    obtain ⟨k, hk, hc⟩ := wrap_mod (a * b)
    generalize hcc : IntKind.i64.wrap (a * b) = c at *
    by_cases hs : c = -9223372036854775808 ∧ b = -1
    · obtain ⟨rfl, rfl⟩ := hs
      have : (-9223372036854775808 : Int).tdiv (-1) = 9223372036854775808 := by decide
      rw [this] at e
      have e2 : IntKind.i64.wrap 9223372036854775808 = -9223372036854775808 := by rw [wrap_if]; decide
      rw [e2] at e
      exact absurd ⟨e.symm, rfl⟩ h
    · obtain ⟨r1, _⟩ := tdiv_range hc h0 hs
      have e3 : IntKind.i64.wrap (c.tdiv b) = c.tdiv b := wrap64_id r1.1 r1.2
      rw [e3] at e
      have e4 := Int.mul_tdiv_add_tmod c b
      have e5 := tmod_small c h0
      rw [e, Int.mul_comm b a] at e4
      have hk0 : k = 0 := by unfold InI64 at hb; omega
      subst hk0
      have : a * b = c := by omega
      rw [this]; exact hc
  · intro hi
    rw [wrap64_id hi.1 hi.2, Int.mul_tdiv_cancel a h0, wrap64_id ha.1 ha.2]
/-- a result, if it is in range -/
def okV (n : Int) : Int := if InI64 n then n else 0
def okE (n : Int) : Int := if InI64 n then 0 else 9
theorem okV_y {n : Int} (h : InI64 n) : okV n = n := if_pos h
theorem okE_y {n : Int} (h : InI64 n) : okE n = 0 := if_pos h
theorem okV_n {n : Int} (h : ¬ InI64 n) : okV n = 0 := if_neg h
theorem okE_n {n : Int} (h : ¬ InI64 n) : okE n = 9 := if_neg h
section
variable {X : CallF}
theorem add_run (a b : Int) (ha : InI64 a) (hb : InI64 b) : (R FT X).f 15 [intA a, intA b] = some (.tuple [intA (okV (a + b)), intA (okE (a + b))]) := by
  unfold InI64 at ha hb
  refine R_wp ((Tr.nil.br Tr.nil).w.w.raw) rfl ?_
  refine Eq.mpr (by kernel_rfl : _ = ((decide (bitX BinOp.and IntKind.i64 (bitX BinOp.xor IntKind.i64 a (wrapX IntKind.i64 (a + b))) (bitX BinOp.xor IntKind.i64 b (wrapX IntKind.i64 (a + b))) < (0 : Int)) = true → (0 : Int) = okV (a + b) ∧ (9 : Int) = okE (a + b)) ∧ (decide (bitX BinOp.and IntKind.i64 (bitX BinOp.xor IntKind.i64 a (wrapX IntKind.i64 (a + b))) (bitX BinOp.xor IntKind.i64 b (wrapX IntKind.i64 (a + b))) < (0 : Int)) = false → wrapX IntKind.i64 (a + b) = okV (a + b) ∧ (0 : Int) = okE (a + b)))) ?_
  refine ⟨fun h1_ => have h1 := dT h1_; ⟨?_, ?_⟩, fun h2_ => have h2 := dF h2_; ⟨?_, ?_⟩⟩
  · rw [okV_n ((sign_add ha hb).1 h1)]
  · rw [okE_n ((sign_add ha hb).1 h1)]
  · have q : InI64 (a + b) := Classical.byContradiction fun q => h2 ((sign_add ha hb).2 q)
    rw [okV_y q, wrapX_eq, wrap64_id q.1 q.2]
  · have q : InI64 (a + b) := Classical.byContradiction fun q => h2 ((sign_add ha hb).2 q)
    rw [okE_y q]
theorem add2_run (a b : Int) (ha : InI64 a) (hb : InI64 b) : (R FT X).f 16 [intA a, intA b] = some (.tuple [intA (okV (a + b)), intA (okE (a + b))]) := by
  unfold InI64 at ha hb
  refine R_wp ((((Tr.b true Tr.nil).w.br (Tr.b false (Tr.b false Tr.nil.w).w)).w.br (Tr.b false ((Tr.nil.br Tr.nil.w).w.w.br (Tr.b false Tr.nil.w).w))).w) rfl ?_
  refine Eq.mpr (by kernel_rfl : _ = ((decide ((0 : Int) < b) = true → InI64 ((9223372036854775807 : Int) - b) ∧ (decide ((9223372036854775807 : Int) - b < a) = true → true = true ∧ (0 : Int) = okV (a + b) ∧ (9 : Int) = okE (a + b)) ∧ (decide ((9223372036854775807 : Int) - b < a) = false → decide (b < (0 : Int)) = false ∧ false = false ∧ InI64 (a + b) ∧ a + b = okV (a + b) ∧ (0 : Int) = okE (a + b))) ∧ (decide ((0 : Int) < b) = false → false = false ∧ (decide (b < (0 : Int)) = true → InI64 ((-9223372036854775808 : Int) - b) ∧ (decide (a < (-9223372036854775808 : Int) - b) = true → (0 : Int) = okV (a + b) ∧ (9 : Int) = okE (a + b)) ∧ (decide (a < (-9223372036854775808 : Int) - b) = false → InI64 (a + b) ∧ a + b = okV (a + b) ∧ (0 : Int) = okE (a + b))) ∧ (decide (b < (0 : Int)) = false → false = false ∧ InI64 (a + b) ∧ a + b = okV (a + b) ∧ (0 : Int) = okE (a + b))))) ?_
  refine ⟨fun h1_ => have h1 := dT h1_; ⟨(by unfold InI64; omega), fun h2_ => have h2 := dT h2_; ⟨rfl, ?_, ?_⟩, fun h3_ => have h3 := dF h3_; ⟨(fD (by omega)), rfl, (by unfold InI64; omega), ?_, ?_⟩⟩, fun h4_ => have h4 := dF h4_; ⟨rfl, fun h5_ => have h5 := dT h5_; ⟨(by unfold InI64; omega), fun h6_ => have h6 := dT h6_; ⟨?_, ?_⟩, fun h7_ => have h7 := dF h7_; ⟨(by unfold InI64; omega), ?_, ?_⟩⟩, fun h8_ => have h8 := dF h8_; ⟨rfl, (by unfold InI64; omega), ?_, ?_⟩⟩⟩
  all_goals first | rw [okV_n (by unfold InI64; omega)] | rw [okE_n (by unfold InI64; omega)] | rw [okV_y (by unfold InI64; omega)] | rw [okE_y (by unfold InI64; omega)]
theorem sub_run (a b : Int) (ha : InI64 a) (hb : InI64 b) : (R FT X).f 17 [intA a, intA b] = some (.tuple [intA (okV (a - b)), intA (okE (a - b))]) := by
  unfold InI64 at ha hb
  refine R_wp ((Tr.nil.br Tr.nil).w.w.raw) rfl ?_
  refine Eq.mpr (by kernel_rfl : _ = ((decide (bitX BinOp.and IntKind.i64 (bitX BinOp.xor IntKind.i64 a b) (bitX BinOp.xor IntKind.i64 a (wrapX IntKind.i64 (a - b))) < (0 : Int)) = true → (0 : Int) = okV (a - b) ∧ (9 : Int) = okE (a - b)) ∧ (decide (bitX BinOp.and IntKind.i64 (bitX BinOp.xor IntKind.i64 a b) (bitX BinOp.xor IntKind.i64 a (wrapX IntKind.i64 (a - b))) < (0 : Int)) = false → wrapX IntKind.i64 (a - b) = okV (a - b) ∧ (0 : Int) = okE (a - b)))) ?_
  refine ⟨fun h1_ => have h1 := dT h1_; ⟨?_, ?_⟩, fun h2_ => have h2 := dF h2_; ⟨?_, ?_⟩⟩
  · rw [okV_n ((sign_sub ha hb).1 h1)]
  · rw [okE_n ((sign_sub ha hb).1 h1)]
  · have q : InI64 (a - b) := Classical.byContradiction fun q => h2 ((sign_sub ha hb).2 q)
    rw [okV_y q, wrapX_eq, wrap64_id q.1 q.2]
  · have q : InI64 (a - b) := Classical.byContradiction fun q => h2 ((sign_sub ha hb).2 q)
    rw [okE_y q]
theorem sub2_run (a b : Int) (ha : InI64 a) (hb : InI64 b) : (R FT X).f 18 [intA a, intA b] = some (.tuple [intA (okV (a - b)), intA (okE (a - b))]) := by
  unfold InI64 at ha hb
  refine R_wp ((((Tr.b true Tr.nil).w.br (Tr.b false (Tr.b false Tr.nil.w).w)).w.br (Tr.b false ((Tr.nil.br Tr.nil.w).w.w.br (Tr.b false Tr.nil.w).w))).w) rfl ?_
  refine Eq.mpr (by kernel_rfl : _ = ((decide (b < (0 : Int)) = true → InI64 ((9223372036854775807 : Int) + b) ∧ (decide ((9223372036854775807 : Int) + b < a) = true → true = true ∧ (0 : Int) = okV (a - b) ∧ (9 : Int) = okE (a - b)) ∧ (decide ((9223372036854775807 : Int) + b < a) = false → decide ((0 : Int) < b) = false ∧ false = false ∧ InI64 (a - b) ∧ a - b = okV (a - b) ∧ (0 : Int) = okE (a - b))) ∧ (decide (b < (0 : Int)) = false → false = false ∧ (decide ((0 : Int) < b) = true → InI64 ((-9223372036854775808 : Int) + b) ∧ (decide (a < (-9223372036854775808 : Int) + b) = true → (0 : Int) = okV (a - b) ∧ (9 : Int) = okE (a - b)) ∧ (decide (a < (-9223372036854775808 : Int) + b) = false → InI64 (a - b) ∧ a - b = okV (a - b) ∧ (0 : Int) = okE (a - b))) ∧ (decide ((0 : Int) < b) = false → false = false ∧ InI64 (a - b) ∧ a - b = okV (a - b) ∧ (0 : Int) = okE (a - b))))) ?_
  refine ⟨fun h1_ => have h1 := dT h1_; ⟨(by unfold InI64; omega), fun h2_ => have h2 := dT h2_; ⟨rfl, ?_, ?_⟩, fun h3_ => have h3 := dF h3_; ⟨(fD (by omega)), rfl, (by unfold InI64; omega), ?_, ?_⟩⟩, fun h4_ => have h4 := dF h4_; ⟨rfl, fun h5_ => have h5 := dT h5_; ⟨(by unfold InI64; omega), fun h6_ => have h6 := dT h6_; ⟨?_, ?_⟩, fun h7_ => have h7 := dF h7_; ⟨(by unfold InI64; omega), ?_, ?_⟩⟩, fun h8_ => have h8 := dF h8_; ⟨rfl, (by unfold InI64; omega), ?_, ?_⟩⟩⟩
  all_goals first | rw [okV_n (by unfold InI64; omega)] | rw [okE_n (by unfold InI64; omega)] | rw [okV_y (by unfold InI64; omega)] | rw [okE_y (by unfold InI64; omega)]
/-- the quotient, rounded down -/
def divQ (a b : Int) : Int := if b = 0 then 0 else if a = -9223372036854775808 ∧ b = -1 then 0 else if a.tmod b ≠ 0 ∧ (decide (a < 0) == decide (b < 0)) = false then a.tdiv b - 1 else a.tdiv b
def divE (a b : Int) : Int := if b = 0 then 10 else if a = -9223372036854775808 ∧ b = -1 then 9 else 0
theorem divQ_lo {a b : Int} (ha : InI64 a) (h0 : ¬ b = 0) (h : ¬ (a = -9223372036854775808 ∧ b = -1)) (h1 : ¬ a.tmod b = 0) (h2 : (decide (a < 0) == decide (b < 0)) = false) : wrapX .i64 (wrapX .i64 (a.tdiv b) - 1) = divQ a b := by
  simp only [wrapX_eq]
  obtain ⟨r1, r2⟩ := tdiv_range ha h0 h
  rw [wrap64_id r1.1 r1.2, wrap64_id (r2 h1).1 (r2 h1).2, divQ, if_neg h0, if_neg h, if_pos ⟨h1, h2⟩]
theorem divQ_hi {a b : Int} (ha : InI64 a) (h0 : ¬ b = 0) (h : ¬ (a = -9223372036854775808 ∧ b = -1)) (h2 : a.tmod b = 0 ∨ (decide (a < 0) == decide (b < 0)) = true) : wrapX .i64 (a.tdiv b) = divQ a b := by
  simp only [wrapX_eq]
  obtain ⟨r1, r2⟩ := tdiv_range ha h0 h
  rw [wrap64_id r1.1 r1.2, divQ, if_neg h0, if_neg h, if_neg]
  rintro ⟨q1, q2⟩
  rcases h2 with h2 | h2
  · exact q1 h2
  · rw [h2] at q2; cases q2
theorem divE_ok {a b : Int} (h0 : ¬ b = 0) (h : ¬ (a = -9223372036854775808 ∧ b = -1)) : 0 = divE a b := by rw [divE, if_neg h0, if_neg h]
theorem div_run (a b : Int) (ha : InI64 a) (hb : InI64 b) : (R FT X).f 9 [intA a, intA b] = some (.tuple [intA (divQ a b), intA (divE a b)]) := by
  unfold InI64 at ha hb
  refine R_wp ((Tr.nil.br ((Tr.nil.br ((Tr.nil.raw.br Tr.nil).w.br (Tr.b false Tr.nil).w).w.w.raw).w.br (Tr.b false ((Tr.nil.raw.br Tr.nil).w.br (Tr.b false Tr.nil).w).w.w.raw).w).w).w.w) rfl ?_
  refine Eq.mpr (by kernel_rfl : _ = ((decide (b = (0 : Int)) = true → (0 : Int) = divQ a b ∧ (10 : Int) = divE a b) ∧ (decide (b = (0 : Int)) = false → (decide (a = (-9223372036854775808 : Int)) = true → (decide (b = (-1 : Int)) = true → (0 : Int) = divQ a b ∧ (9 : Int) = divE a b) ∧ (decide (b = (-1 : Int)) = false → b ≠ (0 : Int) ∧ b ≠ (0 : Int) ∧ ((!decide (a.tmod b = (0 : Int))) = true → ((!decide (a < (0 : Int)) == decide (b < (0 : Int))) = true → wrapX IntKind.i64 (wrapX IntKind.i64 (a.tdiv b) - (1 : Int)) = divQ a b ∧ (0 : Int) = divE a b) ∧ ((!decide (a < (0 : Int)) == decide (b < (0 : Int))) = false → wrapX IntKind.i64 (a.tdiv b) = divQ a b ∧ (0 : Int) = divE a b)) ∧ ((!decide (a.tmod b = (0 : Int))) = false → false = false ∧ wrapX IntKind.i64 (a.tdiv b) = divQ a b ∧ (0 : Int) = divE a b))) ∧ (decide (a = (-9223372036854775808 : Int)) = false → false = false ∧ b ≠ (0 : Int) ∧ b ≠ (0 : Int) ∧ ((!decide (a.tmod b = (0 : Int))) = true → ((!decide (a < (0 : Int)) == decide (b < (0 : Int))) = true → wrapX IntKind.i64 (wrapX IntKind.i64 (a.tdiv b) - (1 : Int)) = divQ a b ∧ (0 : Int) = divE a b) ∧ ((!decide (a < (0 : Int)) == decide (b < (0 : Int))) = false → wrapX IntKind.i64 (a.tdiv b) = divQ a b ∧ (0 : Int) = divE a b)) ∧ ((!decide (a.tmod b = (0 : Int))) = false → false = false ∧ wrapX IntKind.i64 (a.tdiv b) = divQ a b ∧ (0 : Int) = divE a b))))) ?_
  refine ⟨fun h1_ => have h1 := dT h1_; ⟨?_, ?_⟩, fun h2_ => have h2 := dF h2_; ⟨fun h3_ => have h3 := dT h3_; ⟨fun h4_ => have h4 := dT h4_; ⟨?_, ?_⟩, fun h5_ => have h5 := dF h5_; ⟨(by omega), (by omega), fun h6_ => have h6 := dnT h6_; ⟨fun h7_ => have h7 := nT h7_; ⟨?_, ?_⟩, fun h8_ => have h8 := nF h8_; ⟨?_, ?_⟩⟩, fun h9_ => have h9 := dnF h9_; ⟨rfl, ?_, ?_⟩⟩⟩, fun h10_ => have h10 := dF h10_; ⟨rfl, (by omega), (by omega), fun h11_ => have h11 := dnT h11_; ⟨fun h12_ => have h12 := nT h12_; ⟨?_, ?_⟩, fun h13_ => have h13 := nF h13_; ⟨?_, ?_⟩⟩, fun h14_ => have h14 := dnF h14_; ⟨rfl, ?_, ?_⟩⟩⟩⟩
  · rw [divQ, if_pos h1]
  · rw [divE, if_pos h1]
  · rw [divQ, if_neg h2, if_pos ⟨h3, h4⟩]
  · rw [divE, if_neg h2, if_pos ⟨h3, h4⟩]
  · exact divQ_lo ha h2 (by omega) h6 h7
  · exact divE_ok h2 (by omega)
  · exact divQ_hi ha h2 (by omega) (.inr h8)
  · exact divE_ok h2 (by omega)
  · exact divQ_hi ha h2 (by omega) (.inl h9)
  · exact divE_ok h2 (by omega)
  · exact divQ_lo ha h2 (by omega) h11 h12
  · exact divE_ok h2 (by omega)
  · exact divQ_hi ha h2 (by omega) (.inr h13)
  · exact divE_ok h2 (by omega)
  · exact divQ_hi ha h2 (by omega) (.inl h14)
  · exact divE_ok h2 (by omega)
theorem mul_run (a b : Int) (ha : InI64 a) (hb : InI64 b) : (R FT X).f 19 [intA a, intA b] = some (.tuple [intA (okV (a * b)), intA (okE (a * b))]) := by
  unfold InI64 at ha hb
  refine R_wp (((Tr.b true Tr.nil).w.br (Tr.nil.br (((Tr.b true Tr.nil).w.br ((Tr.b false (Tr.nil.br Tr.nil).w.raw.w.raw).w.br (Tr.b false (Tr.nil.br Tr.nil).w.raw.w.raw).w)).br (Tr.b false ((Tr.nil.br (Tr.nil.br Tr.nil).w.raw.w.raw).w.br (Tr.b false (Tr.nil.br Tr.nil).w.raw.w.raw).w))).w).w).w) rfl ?_
  refine Eq.mpr (by kernel_rfl : _ = ((decide (a = (0 : Int)) = true → true = true ∧ (0 : Int) = okV (a * b) ∧ (0 : Int) = okE (a * b)) ∧ (decide (a = (0 : Int)) = false → (decide (b = (0 : Int)) = true → (0 : Int) = okV (a * b) ∧ (0 : Int) = okE (a * b)) ∧ (decide (b = (0 : Int)) = false → (decide (a = (-1 : Int)) = true → (decide (b = (-9223372036854775808 : Int)) = true → true = true ∧ (0 : Int) = okV (a * b) ∧ (9 : Int) = okE (a * b)) ∧ (decide (b = (-9223372036854775808 : Int)) = false → (decide (b = (-1 : Int)) = true → decide (a = (-9223372036854775808 : Int)) = false ∧ b ≠ (0 : Int) ∧ ((!decide (wrapX IntKind.i64 ((wrapX IntKind.i64 (a * b)).tdiv b) = a)) = true → (0 : Int) = okV (a * b) ∧ (9 : Int) = okE (a * b)) ∧ ((!decide (wrapX IntKind.i64 ((wrapX IntKind.i64 (a * b)).tdiv b) = a)) = false → wrapX IntKind.i64 (a * b) = okV (a * b) ∧ (0 : Int) = okE (a * b))) ∧ (decide (b = (-1 : Int)) = false → false = false ∧ b ≠ (0 : Int) ∧ ((!decide (wrapX IntKind.i64 ((wrapX IntKind.i64 (a * b)).tdiv b) = a)) = true → (0 : Int) = okV (a * b) ∧ (9 : Int) = okE (a * b)) ∧ ((!decide (wrapX IntKind.i64 ((wrapX IntKind.i64 (a * b)).tdiv b) = a)) = false → wrapX IntKind.i64 (a * b) = okV (a * b) ∧ (0 : Int) = okE (a * b))))) ∧ (decide (a = (-1 : Int)) = false → false = false ∧ (decide (b = (-1 : Int)) = true → (decide (a = (-9223372036854775808 : Int)) = true → (0 : Int) = okV (a * b) ∧ (9 : Int) = okE (a * b)) ∧ (decide (a = (-9223372036854775808 : Int)) = false → b ≠ (0 : Int) ∧ ((!decide (wrapX IntKind.i64 ((wrapX IntKind.i64 (a * b)).tdiv b) = a)) = true → (0 : Int) = okV (a * b) ∧ (9 : Int) = okE (a * b)) ∧ ((!decide (wrapX IntKind.i64 ((wrapX IntKind.i64 (a * b)).tdiv b) = a)) = false → wrapX IntKind.i64 (a * b) = okV (a * b) ∧ (0 : Int) = okE (a * b)))) ∧ (decide (b = (-1 : Int)) = false → false = false ∧ b ≠ (0 : Int) ∧ ((!decide (wrapX IntKind.i64 ((wrapX IntKind.i64 (a * b)).tdiv b) = a)) = true → (0 : Int) = okV (a * b) ∧ (9 : Int) = okE (a * b)) ∧ ((!decide (wrapX IntKind.i64 ((wrapX IntKind.i64 (a * b)).tdiv b) = a)) = false → wrapX IntKind.i64 (a * b) = okV (a * b) ∧ (0 : Int) = okE (a * b)))))))) ?_
  refine ⟨fun h1_ => have h1 := dT h1_; ⟨rfl, ?_, ?_⟩, fun h2_ => have h2 := dF h2_; ⟨fun h3_ => have h3 := dT h3_; ⟨?_, ?_⟩, fun h4_ => have h4 := dF h4_; ⟨fun h5_ => have h5 := dT h5_; ⟨fun h6_ => have h6 := dT h6_; ⟨rfl, ?_, ?_⟩, fun h7_ => have h7 := dF h7_; ⟨fun h8_ => have h8 := dT h8_; ⟨(fD (by omega)), (by omega), fun h9_ => have h9 := dnT h9_; ⟨?_, ?_⟩, fun h10_ => have h10 := dnF h10_; ⟨?_, ?_⟩⟩, fun h11_ => have h11 := dF h11_; ⟨rfl, (by omega), fun h12_ => have h12 := dnT h12_; ⟨?_, ?_⟩, fun h13_ => have h13 := dnF h13_; ⟨?_, ?_⟩⟩⟩⟩, fun h14_ => have h14 := dF h14_; ⟨rfl, fun h15_ => have h15 := dT h15_; ⟨fun h16_ => have h16 := dT h16_; ⟨?_, ?_⟩, fun h17_ => have h17 := dF h17_; ⟨(by omega), fun h18_ => have h18 := dnT h18_; ⟨?_, ?_⟩, fun h19_ => have h19 := dnF h19_; ⟨?_, ?_⟩⟩⟩, fun h20_ => have h20 := dF h20_; ⟨rfl, (by omega), fun h21_ => have h21 := dnT h21_; ⟨?_, ?_⟩, fun h22_ => have h22 := dnF h22_; ⟨?_, ?_⟩⟩⟩⟩⟩⟩
  · subst h1; rw [Int.zero_mul, okV_y (by unfold InI64; omega)]
  · subst h1; rw [Int.zero_mul, okE_y (by unfold InI64; omega)]
  · subst h3; rw [Int.mul_zero, okV_y (by unfold InI64; omega)]
  · subst h3; rw [Int.mul_zero, okE_y (by unfold InI64; omega)]
  · subst h5 h6; rw [okV_n (by unfold InI64; omega)]
  · subst h5 h6; rw [okE_n (by unfold InI64; omega)]
  rotate_left 8
  · subst h15 h16; rw [okV_n (by unfold InI64; omega)]
  · subst h15 h16; rw [okE_n (by unfold InI64; omega)]
  rotate_right 8
  all_goals have hmc := mul_check ha hb h4 (by omega) (by omega)
  · rw [okV_n (fun q => h9 (hmc.2 q))]
  · rw [okE_n (fun q => h9 (hmc.2 q))]
  · have q := hmc.1 h10; rw [okV_y q, wrapX_eq, wrap64_id q.1 q.2]
  · rw [okE_y (hmc.1 h10)]
  · rw [okV_n (fun q => h12 (hmc.2 q))]
  · rw [okE_n (fun q => h12 (hmc.2 q))]
  · have q := hmc.1 h13; rw [okV_y q, wrapX_eq, wrap64_id q.1 q.2]
  · rw [okE_y (hmc.1 h13)]
  · rw [okV_n (fun q => h18 (hmc.2 q))]
  · rw [okE_n (fun q => h18 (hmc.2 q))]
  · have q := hmc.1 h19; rw [okV_y q, wrapX_eq, wrap64_id q.1 q.2]
  · rw [okE_y (hmc.1 h19)]
  · rw [okV_n (fun q => h21 (hmc.2 q))]
  · rw [okE_n (fun q => h21 (hmc.2 q))]
  · have q := hmc.1 h22; rw [okV_y q, wrapX_eq, wrap64_id q.1 q.2]
  · rw [okE_y (hmc.1 h22)]
theorem mul2_run (a b : Int) (ha : InI64 a) (hb : InI64 b) : (R FT X).f 20 [intA a, intA b] = some (.tuple [intA (okV (a * b)), intA (okE (a * b))]) := by
  unfold InI64 at ha hb
  refine R_wp (((Tr.b true Tr.nil).w.br (Tr.nil.br (((Tr.b true (Tr.b true Tr.nil).w).br ((Tr.b false (Tr.nil.br Tr.nil.raw).w.raw.raw).br (Tr.b false (Tr.nil.br Tr.nil.raw).w.raw.raw))).br (Tr.b false (((Tr.b true Tr.nil).w.br (Tr.nil.br Tr.nil.raw).w.raw.raw).br (Tr.b false (Tr.nil.br Tr.nil.raw).w.raw.raw)))).w).w).w) rfl ?_
  refine Eq.mpr (by kernel_rfl : _ = ((decide (a = (0 : Int)) = true → true = true ∧ (0 : Int) = okV (a * b) ∧ (0 : Int) = okE (a * b)) ∧ (decide (a = (0 : Int)) = false → (decide (b = (0 : Int)) = true → (0 : Int) = okV (a * b) ∧ (0 : Int) = okE (a * b)) ∧ (decide (b = (0 : Int)) = false → (decide (a = (-1 : Int)) = true → (decide (b = (-9223372036854775808 : Int)) = true → true = true ∧ true = true ∧ (0 : Int) = okV (a * b) ∧ (9 : Int) = okE (a * b)) ∧ (decide (b = (-9223372036854775808 : Int)) = false → (decide (b = (-1 : Int)) = true → decide (a = (-9223372036854775808 : Int)) = false ∧ b ≠ (0 : Int) ∧ ((!decide (wrapX IntKind.i64 ((wrapX IntKind.i64 (a * b)).tdiv b) = a)) = true → (0 : Int) = okV (a * b) ∧ (9 : Int) = okE (a * b)) ∧ ((!decide (wrapX IntKind.i64 ((wrapX IntKind.i64 (a * b)).tdiv b) = a)) = false → wrapX IntKind.i64 (a * b) = okV (a * b) ∧ (0 : Int) = okE (a * b))) ∧ (decide (b = (-1 : Int)) = false → false = false ∧ b ≠ (0 : Int) ∧ ((!decide (wrapX IntKind.i64 ((wrapX IntKind.i64 (a * b)).tdiv b) = a)) = true → (0 : Int) = okV (a * b) ∧ (9 : Int) = okE (a * b)) ∧ ((!decide (wrapX IntKind.i64 ((wrapX IntKind.i64 (a * b)).tdiv b) = a)) = false → wrapX IntKind.i64 (a * b) = okV (a * b) ∧ (0 : Int) = okE (a * b))))) ∧ (decide (a = (-1 : Int)) = false → false = false ∧ (decide (b = (-1 : Int)) = true → (decide (a = (-9223372036854775808 : Int)) = true → true = true ∧ (0 : Int) = okV (a * b) ∧ (9 : Int) = okE (a * b)) ∧ (decide (a = (-9223372036854775808 : Int)) = false → b ≠ (0 : Int) ∧ ((!decide (wrapX IntKind.i64 ((wrapX IntKind.i64 (a * b)).tdiv b) = a)) = true → (0 : Int) = okV (a * b) ∧ (9 : Int) = okE (a * b)) ∧ ((!decide (wrapX IntKind.i64 ((wrapX IntKind.i64 (a * b)).tdiv b) = a)) = false → wrapX IntKind.i64 (a * b) = okV (a * b) ∧ (0 : Int) = okE (a * b)))) ∧ (decide (b = (-1 : Int)) = false → false = false ∧ b ≠ (0 : Int) ∧ ((!decide (wrapX IntKind.i64 ((wrapX IntKind.i64 (a * b)).tdiv b) = a)) = true → (0 : Int) = okV (a * b) ∧ (9 : Int) = okE (a * b)) ∧ ((!decide (wrapX IntKind.i64 ((wrapX IntKind.i64 (a * b)).tdiv b) = a)) = false → wrapX IntKind.i64 (a * b) = okV (a * b) ∧ (0 : Int) = okE (a * b)))))))) ?_
  refine ⟨fun h1_ => have h1 := dT h1_; ⟨rfl, ?_, ?_⟩, fun h2_ => have h2 := dF h2_; ⟨fun h3_ => have h3 := dT h3_; ⟨?_, ?_⟩, fun h4_ => have h4 := dF h4_; ⟨fun h5_ => have h5 := dT h5_; ⟨fun h6_ => have h6 := dT h6_; ⟨rfl, rfl, ?_, ?_⟩, fun h7_ => have h7 := dF h7_; ⟨fun h8_ => have h8 := dT h8_; ⟨(fD (by omega)), (by omega), fun h9_ => have h9 := dnT h9_; ⟨?_, ?_⟩, fun h10_ => have h10 := dnF h10_; ⟨?_, ?_⟩⟩, fun h11_ => have h11 := dF h11_; ⟨rfl, (by omega), fun h12_ => have h12 := dnT h12_; ⟨?_, ?_⟩, fun h13_ => have h13 := dnF h13_; ⟨?_, ?_⟩⟩⟩⟩, fun h14_ => have h14 := dF h14_; ⟨rfl, fun h15_ => have h15 := dT h15_; ⟨fun h16_ => have h16 := dT h16_; ⟨rfl, ?_, ?_⟩, fun h17_ => have h17 := dF h17_; ⟨(by omega), fun h18_ => have h18 := dnT h18_; ⟨?_, ?_⟩, fun h19_ => have h19 := dnF h19_; ⟨?_, ?_⟩⟩⟩, fun h20_ => have h20 := dF h20_; ⟨rfl, (by omega), fun h21_ => have h21 := dnT h21_; ⟨?_, ?_⟩, fun h22_ => have h22 := dnF h22_; ⟨?_, ?_⟩⟩⟩⟩⟩⟩
  · subst h1; rw [Int.zero_mul, okV_y (by unfold InI64; omega)]
  · subst h1; rw [Int.zero_mul, okE_y (by unfold InI64; omega)]
  · subst h3; rw [Int.mul_zero, okV_y (by unfold InI64; omega)]
  · subst h3; rw [Int.mul_zero, okE_y (by unfold InI64; omega)]
  · subst h5 h6; rw [okV_n (by unfold InI64; omega)]
  · subst h5 h6; rw [okE_n (by unfold InI64; omega)]
  rotate_left 8
  · subst h15 h16; rw [okV_n (by unfold InI64; omega)]
  · subst h15 h16; rw [okE_n (by unfold InI64; omega)]
  rotate_right 8
  all_goals have hmc := mul_check ha hb h4 (by omega) (by omega)
  · rw [okV_n (fun q => h9 (hmc.2 q))]
  · rw [okE_n (fun q => h9 (hmc.2 q))]
  · have q := hmc.1 h10; rw [okV_y q, wrapX_eq, wrap64_id q.1 q.2]
  · rw [okE_y (hmc.1 h10)]
  · rw [okV_n (fun q => h12 (hmc.2 q))]
  · rw [okE_n (fun q => h12 (hmc.2 q))]
  · have q := hmc.1 h13; rw [okV_y q, wrapX_eq, wrap64_id q.1 q.2]
  · rw [okE_y (hmc.1 h13)]
  · rw [okV_n (fun q => h18 (hmc.2 q))]
  · rw [okE_n (fun q => h18 (hmc.2 q))]
  · have q := hmc.1 h19; rw [okV_y q, wrapX_eq, wrap64_id q.1 q.2]
  · rw [okE_y (hmc.1 h19)]
  · rw [okV_n (fun q => h21 (hmc.2 q))]
  · rw [okE_n (fun q => h21 (hmc.2 q))]
  · have q := hmc.1 h22; rw [okV_y q, wrapX_eq, wrap64_id q.1 q.2]
  · rw [okE_y (hmc.1 h22)]
end
end Go.Proofs.YtgjdmlhgapmflaaDoor
