/- Numbers: their decimal forms. No program. -/
import Derived.Test.YtgjdmlhgapmflaaDoorPl
import Derived.Lib.AtoiAll
import Derived.Lib.ItoaNum
namespace Go.Proofs.YtgjdmlhgapmflaaDoor
set_option linter.unusedVariables false
set_option linter.unusedSimpArgs false
/-- a digit -/
structure dig (c : UInt8) : Prop where
  lo : 48 ≤ c.toNat
  hi : c.toNat ≤ 57
theorem dig_iff {c : UInt8} : dig c ↔ 48 ≤ c.toNat ∧ c.toNat ≤ 57 := ⟨fun h => ⟨h.lo, h.hi⟩, fun h => ⟨h.1, h.2⟩⟩
instance (c : UInt8) : Decidable (dig c) := decidable_of_iff _ dig_iff.symm
/-- digits, at least one, without a leading zero unless it is 0 -/
def digsB (l : Bs) : Bool := decide (0 < l.length) && (decide (l.length ≤ 1) || decide (l[0]? ≠ some 48)) && decide (∀ c ∈ l, dig c)
/-- what is behind the sign -/
def negB (l : Bs) : Bool := decide (l[0]? = some 45)
def numBody (l : Bs) : Bs := if negB l then l.drop 1 else l
/-- a decimal form -/
def decB (l : Bs) : Bool := digsB (numBody l) && decide (l ≠ [45, 48])
/-- what digits say -/
def valF (a : Nat) (l : Bs) : Nat := l.foldl (fun a c => a * 10 + (c.toNat - 48)) a
def valD (l : Bs) : Nat := valF 0 l
theorem valF_cons (a : Nat) (c : UInt8) (l : Bs) : valF a (c :: l) = valF (a * 10 + (c.toNat - 48)) l := by unfold valF; rw [List.foldl_cons]
theorem valF_app (a : Nat) (l r : Bs) : valF a (l ++ r) = valF (valF a l) r := by simp [valF]
theorem valD_snoc (l : Bs) (c : UInt8) : valD (l ++ [c]) = valD l * 10 + (c.toNat - 48) := by simp [valD, valF]
theorem valF_ge : ∀ (l : Bs) (a : Nat), a ≤ valF a l
  | [], a => Nat.le_refl _
  | c :: l, a => by rw [valF_cons]; have := valF_ge l (a * 10 + (c.toNat - 48)); omega
theorem valD_take (l : Bs) (k : Nat) : valD (l.take k) ≤ valD l := by
  have h := valF_app 0 (l.take k) (l.drop k)
  rw [List.take_append_drop] at h
  unfold valD; rw [h]; exact valF_ge _ _
def valI (l : Bs) : Int := if negB l then -(valD (numBody l) : Int) else valD (numBody l)
/-- what Parse returns -/
def numV (l : Bs) : Int := if decB l = true ∧ InI64 (valI l) then valI l else 0
def numE (l : Bs) : Int := if decB l = true then (if InI64 (valI l) then 0 else 9) else 1
theorem num_ok {l : Bs} (h : decB l = true) (h2 : InI64 (valI l)) : numV l = valI l ∧ numE l = 0 := ⟨if_pos ⟨h, h2⟩, by rw [numE, if_pos h, if_pos h2]⟩
theorem num_over {l : Bs} (h : decB l = true) (h2 : ¬ InI64 (valI l)) : numV l = 0 ∧ numE l = 9 := ⟨if_neg fun q => h2 q.2, by rw [numE, if_pos h, if_neg h2]⟩
theorem num_bad {l : Bs} (h : decB l = false) : numV l = 0 ∧ numE l = 1 := ⟨if_neg fun q => by rw [h] at q; exact absurd q.1 (by decide), by rw [numE, if_neg (by rw [h]; decide)]⟩
theorem digsB_iff {l : Bs} : digsB l = true ↔ 0 < l.length ∧ (l.length ≤ 1 ∨ l[0]? ≠ some 48) ∧ ∀ c ∈ l, dig c := by
  simp only [digsB, Bool.and_eq_true, Bool.or_eq_true, decide_eq_true_eq, and_assoc]
theorem digsB_false {l : Bs} : digsB l = false ↔ ¬ (0 < l.length ∧ (l.length ≤ 1 ∨ l[0]? ≠ some 48) ∧ ∀ c ∈ l, dig c) := by
  rw [← digsB_iff]; simp
theorem decB_iff {l : Bs} : decB l = true ↔ digsB (numBody l) = true ∧ l ≠ [45, 48] := by simp [decB]
theorem decB_false {l : Bs} : decB l = false ↔ ¬ (digsB (numBody l) = true ∧ l ≠ [45, 48]) := by
  rw [← decB_iff]; simp
/-! ### the library's Atoi at a decimal form -/
theorem parseU : ∀ (l : Bs) (a : Nat), (∀ c ∈ l, dig c) → Lib.parseUint10 a l = if valF a l < 18446744073709551616 ∨ l = [] then .ok (valF a l) else .range
  | [], a, _ => by simp [Lib.parseUint10, valF]
  | c :: l, a, h => by
    have hd : dig c := h c (by simp)
    have ih := parseU l (a * 10 + (c.toNat - 48)) fun x hx => h x (by simp [hx])
    have hg := valF_ge l (a * 10 + (c.toNat - 48))
    rw [dig_iff] at hd
    rw [Lib.parseUint10, if_pos hd, valF_cons]
    by_cases h1 : 1844674407370955162 ≤ a
    · rw [if_pos h1, if_neg]
      simp only [reduceCtorEq, or_false]; omega
    · rw [if_neg h1]
      by_cases h2 : 18446744073709551616 ≤ a * 10 + (c.toNat - 48)
      · rw [if_pos h2, if_neg]
        simp only [reduceCtorEq, or_false]; omega
      · rw [if_neg h2, ih]
        cases l with
        | nil => simp [valF]; omega
        | cons x l => simp
theorem atoi_dec {l : Bs} (h : decB l = true) : Lib.atoiAll l = if InI64 (valI l) then .ok (valI l) else .range := by
  rw [decB_iff] at h
  obtain ⟨hd, -⟩ := h
  rw [digsB_iff] at hd
  obtain ⟨h1, h2, h3⟩ := hd
  cases l with
  | nil => simp [numBody, negB] at h1
  | cons c r =>
    have key : Lib.parseMag (numBody (c :: r)) = if valD (numBody (c :: r)) < 18446744073709551616 then .ok (valD (numBody (c :: r))) else .range := by
      have hne : numBody (c :: r) ≠ [] := fun e => by rw [e] at h1; simp at h1
      rw [Lib.parseMag, if_neg hne, parseU _ _ h3]
      simp only [hne, or_false]; rfl
    by_cases hc : c = 45
    · have hn : negB (c :: r) = true := by simp [negB, hc]
      have hb : numBody (c :: r) = r := by simp [numBody, hn]
      have hc2 : c.toNat = 45 := by rw [hc]; rfl
      rw [hb] at key
      rw [Lib.atoiAll, if_pos (.inr hc2), key, valI, if_pos hn, hb]
      by_cases hv : valD r < 18446744073709551616
      · simp only [if_pos hv, hc2, not_true_eq_false, false_and, if_false, true_and, if_true]
        by_cases h9 : 9223372036854775808 < valD r
        · rw [if_pos h9, if_neg (by unfold InI64; omega)]
        · rw [if_neg h9, if_pos (by unfold InI64; omega)]
      · simp only [if_neg hv]
        rw [if_neg (by unfold InI64; omega)]
    · have hn : negB (c :: r) = false := by simp [negB, hc]
      have hb : numBody (c :: r) = c :: r := by simp [numBody, hn]
      have hd : dig c := h3 c (by rw [hb]; simp)
      have hc2 : ¬ (c.toNat = 43 ∨ c.toNat = 45) := by rw [dig_iff] at hd; omega
      have hc3 : ¬ c.toNat = 45 := by omega
      rw [hb] at key
      rw [Lib.atoiAll, if_neg hc2, key, valI, hn, hb]
      by_cases hv : valD (c :: r) < 18446744073709551616
      · simp only [if_pos hv, hc3, not_false_eq_true, true_and, false_and, if_false, Bool.false_eq_true]
        by_cases h9 : 9223372036854775808 ≤ valD (c :: r)
        · rw [if_pos h9, if_neg (by unfold InI64; omega)]
        · rw [if_neg h9, if_pos (by unfold InI64; omega)]
      · simp only [if_neg hv, Bool.false_eq_true, if_false]
        rw [if_neg (by unfold InI64; omega)]
/-! ### decimal forms of numbers -/
theorem digit_nat {n : Nat} (h : n < 10) : (UInt8.ofNat (48 + n)).toNat = 48 + n := by rw [UInt8.toNat_ofNat']; omega
theorem dd_small {u : Nat} (h : u < 10) : Lib.decDigits u = [UInt8.ofNat (48 + u)] := by rw [Lib.decDigits, dif_pos h]
theorem dd_big {u : Nat} (h : ¬ u < 10) : Lib.decDigits u = Lib.decDigits (u / 10) ++ [UInt8.ofNat (48 + u % 10)] := by rw [Lib.decDigits, dif_neg h]
theorem dd_dig (u : Nat) : ∀ c ∈ Lib.decDigits u, dig c := by
  induction u using Nat.strongRecOn with
  | ind u ih =>
    intro c hc
    by_cases h : u < 10
    · rw [dd_small h, List.mem_singleton] at hc
      subst hc; rw [dig_iff]; rw [digit_nat h]; omega
    · rw [dd_big h] at hc
      rcases List.mem_append.1 hc with h1 | h1
      · exact ih (u / 10) (by omega) c h1
      · rw [List.mem_singleton] at h1
        subst h1; rw [dig_iff]; rw [digit_nat (Nat.mod_lt _ (by decide))]; omega
theorem dd_val (u : Nat) : valD (Lib.decDigits u) = u := by
  induction u using Nat.strongRecOn with
  | ind u ih =>
    by_cases h : u < 10
    · rw [dd_small h]
      show 0 * 10 + ((UInt8.ofNat (48 + u)).toNat - 48) = u
      rw [digit_nat h]; omega
    · rw [dd_big h, valD_snoc, ih (u / 10) (by omega), digit_nat (Nat.mod_lt _ (by decide))]; omega
theorem dd_pos (u : Nat) : 0 < (Lib.decDigits u).length := by rw [Lib.decDigits_length]; exact Lib.nDigits_pos u
theorem dd_head {u : Nat} (h : u ≠ 0) : (Lib.decDigits u)[0]? ≠ some 48 := by
  induction u using Nat.strongRecOn with
  | ind u ih =>
    by_cases h1 : u < 10
    · rw [dd_small h1]
      simp only [List.getElem?_cons_zero, ne_eq, Option.some.injEq]
      intro e
      have := congrArg UInt8.toNat e
      rw [digit_nat h1] at this
      have e2 : (48 : UInt8).toNat = 48 := rfl
      omega
    · rw [dd_big h1, List.getElem?_append_left (dd_pos _)]
      exact ih (u / 10) (by omega) (by omega)
theorem dd_digs (u : Nat) : digsB (Lib.decDigits u) = true := by
  rw [digsB_iff]
  refine ⟨dd_pos u, ?_, dd_dig u⟩
  by_cases h : u = 0
  · left; subst h; rw [dd_small (by decide)]; simp
  · exact .inr (dd_head h)
theorem dd_sign (u : Nat) : negB (Lib.decDigits u) = false := by
  unfold negB
  simp only [decide_eq_false_iff_not]
  intro e
  have hd := dd_dig u _ (List.mem_of_getElem? e)
  rw [dig_iff] at hd
  have e2 : (45 : UInt8).toNat = 45 := rfl
  omega
theorem itoa_neg' {n : Int} (h : n < 0) : Lib.itoa n = 45 :: Lib.decDigits n.natAbs := if_pos h
theorem itoa_pos' {n : Int} (h : ¬ n < 0) : Lib.itoa n = Lib.decDigits n.natAbs := by rw [Lib.itoa, if_neg h]; congr 1; omega
theorem itoa_body (n : Int) : numBody (Lib.itoa n) = Lib.decDigits n.natAbs := by
  by_cases h : n < 0
  · rw [itoa_neg' h]; simp [numBody, negB]
  · rw [itoa_pos' h]; simp [numBody, dd_sign]
theorem itoa_neg_iff (n : Int) : negB (Lib.itoa n) = decide (n < 0) := by
  by_cases h : n < 0
  · rw [itoa_neg' h]; simp [negB, h]
  · rw [itoa_pos' h, dd_sign]; simp [h]
theorem itoa_val (n : Int) : valI (Lib.itoa n) = n := by
  rw [valI, itoa_neg_iff, itoa_body, dd_val]
  by_cases h : n < 0
  · simp only [h, decide_true, if_true]; omega
  · simp only [h, decide_false, Bool.false_eq_true, if_false]; omega
theorem itoa_dec (n : Int) : decB (Lib.itoa n) = true := by
  rw [decB_iff, itoa_body]
  refine ⟨dd_digs _, fun e => ?_⟩
  have h := itoa_val n
  rw [e] at h
  have h0 : n = 0 := by rw [← h]; decide
  subst h0
  have : Lib.itoa 0 = [48] := by rw [itoa_pos' (by decide)]; exact dd_small (by decide)
  rw [this] at e
  cases e
theorem nd_le : ∀ (k u : Nat), 1 ≤ k → u < 10 ^ k → Lib.nDigits u ≤ k
  | 0, u, h, _ => by omega
  | k + 1, u, _, hu => by
    by_cases h1 : u < 10
    · rw [Lib.nDigits_small h1]; omega
    · rw [Lib.nDigits_big h1]
      have hk : 1 ≤ k := by
        rcases k with _ | k
        · simp at hu; omega
        · omega
      have := nd_le k (u / 10) hk (by rw [Nat.pow_succ] at hu; omega)
      omega
theorem dd_len {n : Int} (h : InI64 n) : (Lib.decDigits n.natAbs).length ≤ 19 := by
  rw [Lib.decDigits_length]
  have h19 : (10 : Nat) ^ 19 = 10000000000000000000 := by decide
  exact nd_le 19 _ (by decide) (by unfold InI64 at h; rw [h19]; omega)
theorem itoa_len {n : Int} (h : InI64 n) : (Lib.itoa n).length ≤ 20 := by
  have := dd_len h
  by_cases h1 : n < 0
  · rw [itoa_neg' h1]; simp only [List.length_cons]; omega
  · rw [itoa_pos' h1]; omega
/-- digits are told by what they say -/
theorem dd_uniq : ∀ (k : Nat) (l : Bs), l.length = k → digsB l = true → Lib.decDigits (valD l) = l
  | 0, l, hk, h => by rw [digsB_iff] at h; omega
  | k + 1, l, hk, h => by
    rw [digsB_iff] at h
    obtain ⟨h1, h2, h3⟩ := h
    obtain ⟨r, c, rfl⟩ : ∃ r c, l = r ++ [c] := ⟨l.dropLast, l.getLast (by intro e; subst e; simp at h1), (List.dropLast_concat_getLast _).symm⟩
    have hc : dig c := h3 c (by simp)
    have hc' := hc
    rw [dig_iff] at hc
    rw [valD_snoc]
    simp only [List.length_append, List.length_singleton] at hk
    by_cases hr : r = []
    · subst hr
      rw [show valD [] = 0 from rfl, Nat.zero_mul, Nat.zero_add, dd_small (by omega)]
      simp only [List.nil_append, List.cons.injEq, and_true]
      apply UInt8.toNat_inj.1
      rw [digit_nat (by omega)]; omega
    · have hl : 0 < r.length := List.length_pos_iff.2 hr
      have hh : r[0]? ≠ some 48 := by
        rw [List.getElem?_append_left hl] at h2
        simp only [List.length_append, List.length_singleton] at h2
        rcases h2 with h2 | h2
        · omega
        · exact h2
      have hdr : digsB r = true := by rw [digsB_iff]; exact ⟨hl, .inr hh, fun x hx => h3 x (by simp [hx])⟩
      have ih := dd_uniq k r (by omega) hdr
      have hv : valD r ≠ 0 := fun e => by
        rw [e, dd_small (by decide)] at ih
        rw [← ih] at hh
        exact hh rfl
      rw [dd_big (by omega), show (valD r * 10 + (c.toNat - 48)) / 10 = valD r from by omega, ih, show (valD r * 10 + (c.toNat - 48)) % 10 = c.toNat - 48 from by omega]
      congr 2
      apply UInt8.toNat_inj.1
      rw [digit_nat (by omega)]; omega
theorem itoa_uniq {l : Bs} (h : decB l = true) : Lib.itoa (valI l) = l := by
  rw [decB_iff] at h
  obtain ⟨hd, hz⟩ := h
  have hu := dd_uniq _ _ rfl hd
  by_cases hn : negB l = true
  · have hb : numBody l = l.drop 1 := if_pos hn
    have hl : l = 45 :: l.drop 1 := by
      cases l with
      | nil => simp [negB] at hn
      | cons c r => simp [negB] at hn; simp [hn]
    rw [valI, if_pos hn]
    have h0 : valD (numBody l) ≠ 0 := fun e => by
      rw [e, dd_small (by decide)] at hu
      apply hz
      rw [hl, ← hb, ← hu]
      rfl
    rw [itoa_neg' (by omega), show (-(valD (numBody l) : Int)).natAbs = valD (numBody l) from by omega, hu, hb]
    exact hl.symm
  · rw [valI, if_neg hn, itoa_pos' (by omega), show ((valD (numBody l) : Int)).natAbs = valD (numBody l) from by omega, hu, numBody, if_neg hn]
end Go.Proofs.YtgjdmlhgapmflaaDoor
