/- The facts on the distance: it is 0 exactly for equal lists, the same both ways, at most the sum by way of a third list. -/
import Derived.Test.YtejajmmacmcijaaFt
import Derived.Test.YtejajmmacmcijaaLx
import Derived.Test.YtejajmmacmcijaaAm23
namespace Go.Proofs.Ytejajmmacmcijaa
set_option maxRecDepth 100000

theorem awake_run : R FT XL 22 [] = some (boolA true) := R_of (n := 20) (by kernel_rfl)

section
variable {X : CallF}
theorem same_loop (a b : List ByteArray) (hm : a.length ≤ 9223372036854775806) (hl : a.length = b.length) : ∀ (j k : Nat), k + j = a.length → (∀ i : Nat, i < k → a[i]? = b[i]?) → ∃ st : St,
    (Lp FT X lp30_1 [0, 1, 5] ⟨[(0, strs a), (1, strs b), (5, intA k)], []⟩ = if a = b then some (.exit 0, st) else some (.ret, st)) ∧ st.m = [] ∧ (a ≠ b → look st.fr 4 = boolA false) := by
  intro j
  induction j with
  | zero =>
    intro k hk he
    have hab : a = b := List.ext_getElem? fun i => by
      by_cases h : i < k
      · exact he i h
      · rw [List.getElem?_eq_none (by omega), List.getElem?_eq_none (by omega)]
    simp only [if_pos hab]
    have : ¬ k < a.length := by omega
    refine ⟨⟨[(0, strs a), (1, strs b), (5, intA k), (14, boolA false)], []⟩, Lp_exit ?_, rfl, fun h => absurd hab h⟩
    simp [lp30_1, strs, intA, boolA, this]
  | succ j ih =>
    intro k hk he
    have hlt : k < a.length := by omega
    have h1 : b[k]? = some (b[k]'(by omega)) := List.getElem?_eq_getElem _
    have h0 : a[k]? = some (a[k]'(by omega)) := List.getElem?_eq_getElem _
    have hw : IntKind.i64.wrap ((k : Int) + 1) = (k : Int) + 1 := by rw [wrap64_id (by omega) (by omega)]
    by_cases hx : a[k] = b[k]'(by omega)
    · obtain ⟨st, h2, h3⟩ := ih (k + 1) (by omega) (fun i hi => by
        by_cases h : i = k
        · subst h; rw [h0, h1, hx]
        · exact he i (by omega))
      have hb : (a[k].toList == (b[k]'(by omega)).toList) = true := by rw [hx]; simp
      refine ⟨st, ?_, h3⟩
      have hst : aexec (R FT X) (Lp FT X) lp30_1 ⟨[(0, strs a), (1, strs b), (5, intA k)], []⟩ = some (.normal, ⟨[(0, strs a), (1, strs b), (5, intA (k + 1 : Nat)), (14, boolA true), (25, boolA false)], []⟩) := by
        simp [lp30_1, strs, intA, boolA, hlt, h0, h1, hb, strV, hw]
      split at h2
      · rename_i hab
        rw [if_pos hab]
        exact Lp_go hst (by simp [strs, intA, boolA]) h2
      · rename_i hab
        rw [if_neg hab]
        exact Lp_go hst (by simp [strs, intA, boolA]) h2
    · have hb : (a[k].toList == (b[k]'(by omega)).toList) = false := str_ne hx
      have hne : a ≠ b := fun h => hx (by subst h; rfl)
      simp only [if_neg hne]
      refine ⟨_, Lp_ret (st' := ⟨[(0, strs a), (1, strs b), (5, intA k), (14, boolA true), (25, boolA true), (4, boolA false)], []⟩) ?_, rfl, fun _ => rfl⟩
      simp [lp30_1, strs, intA, boolA, hlt, h0, h1, hb, strV, hw]

theorem same_run (a b : List ByteArray) (hm : a.length ≤ 9223372036854775806) : R FT X 30 [strs a, strs b] = some (boolA (decide (a = b))) := by
  refine R_body (F := FT) rfl ?_
  by_cases hl : a.length = b.length
  · obtain ⟨st, h1, h2, h3⟩ := same_loop (X := X) a b hm hl a.length 0 (by omega) (fun i hi => by omega)
    simp only [strs, intA, Int.natCast_zero] at h1
    by_cases hab : a = b
    · subst hab
      rw [if_pos rfl] at h1
      simp [ac30, strs, h1, boolA, look_setf]
    · rw [if_neg hab] at h1
      have hl2 : ((a.length : Int) != (b.length : Int)) = false := by simp [hl]
      simp [ac30, strs, hl2, h1, hab, boolA, h3 hab]
  · have hab : a ≠ b := fun h => hl (by rw [h])
    have hne : ((a.length : Int) != (b.length : Int)) = true := by simp; omega
    simp [ac30, strs, hne, hab, boolA]

theorem few_run (a : List ByteArray) (k : Int) : R FT X 21 [strs a, intA k] = some (boolA (decide ((a.length : Int) ≤ k))) := by
  refine R_body (F := FT) rfl ?_
  simp [ac21, strs, intA, boolA]
end

theorem dist_run (a b : List ByteArray) (ha : a.length ≤ 500) (hb : b.length ≤ 500) : R FT XL 26 [strs a, strs b] = some (intA (dist a b : Nat)) := by
  refine R_ext rfl ?_
  simp [XL, strs, unstr_strs, ha, hb, intA]

theorem metric_run (a b c : List ByteArray) : R FT XL 9 [strs a, strs b, strs c] = some (boolA true) := by
  have fa := few_run (X := XL) a 40
  have fb := few_run (X := XL) b 40
  have fc := few_run (X := XL) c 40
  have aw := awake_run
  by_cases ha : (a.length : Int) ≤ 40
  · by_cases hb : (b.length : Int) ≤ 40
    · by_cases hc : (c.length : Int) ≤ 40
      · have d1 := dist_run a b (by omega) (by omega)
        have d2 := dist_run b a (by omega) (by omega)
        have d3 := dist_run a c (by omega) (by omega)
        have d4 := dist_run b c (by omega) (by omega)
        have sm := same_run (X := XL) a b (by omega)
        have l1 := dist_le a b
        have l2 := dist_le a c
        have l3 := dist_le b c
        have tri := dist_tri _ a b c (Nat.le_refl _)
        have sy := dist_symm a b
        have par := dist_parity _ a b (Nat.le_refl _)
        have h0 : (dist a b = 0) ↔ a = b := ⟨eq_of_dist a b, fun h => by rw [h, dist_self]⟩
        have t1 : ((((dist a b : Nat) : Int) == 0) != decide (a = b)) = false := by
          by_cases hab : a = b
          · simp [hab, dist_self]
          · have : ¬ dist a b = 0 := fun h => hab (h0.1 h)
            simp [hab, this]
        have t2 : (((a.length : Int) + (b.length : Int) - (dist a b : Nat)).tmod 2) = 0 := by
          rw [Int.tmod_eq_emod_of_nonneg (by omega)]; omega
        have t4 : (((dist b a : Nat) : Int) != ((dist a b : Nat) : Int)) = false := by rw [sy]; simp
        have t5 : ((dist a c : Nat) : Int) ≤ ((dist a b : Nat) : Int) + (dist b c : Nat) := by omega
        refine R_it [iC fa, iNT ha, iC fb, iNT hb, iC fc, iNT hc, iC d1, iC sm, iB t1, iF (p := ((dist a b : Nat) : Int) < 0) (by omega), iLm strV a, iLm strV b, iW (n := (a.length : Int) + b.length) (by omega), iF (p := (a.length : Int) + b.length < (dist a b : Nat)) (by omega),
          iLm strV a, iLm strV b, iW (n := (a.length : Int) + b.length) (by omega), iW (n := (a.length : Int) + b.length - (dist a b : Nat)) (by omega), iQ (b := 2) (by decide) t2, i0, iC d2, iB t4, iC d3, iC d4, iW (n := ((dist a b : Nat) : Int) + (dist b c : Nat)) (by omega), iT t5, iC aw] (F := FT) rfl ?_
        kernel_rfl
      · refine R_it [iC fa, iNT ha, iC fb, iNT hb, iC fc, iNF hc, iC aw] (F := FT) rfl ?_
        kernel_rfl
    · refine R_it [iC fa, iNT ha, iC fb, iNF hb, i1, iC aw] (F := FT) rfl ?_
      kernel_rfl
  · refine R_it [iC fa, iNF ha, i1, i1, iC aw] (F := FT) rfl ?_
    kernel_rfl
end Go.Proofs.Ytejajmmacmcijaa
