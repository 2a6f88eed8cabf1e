/- Own texts of this claim, merged: Df13, DfV, Df17, DfW, Df18, Df16, Df19, Dfj. -/
import Derived.Test.YtfbpbkcplpkndaaGreatDoorPog
section
namespace Go.Proofs.YtfbpbkcplpkndaaGreatDoor
set_option linter.unusedVariables false
set_option linter.unusedSimpArgs false
set_option maxRecDepth 100000
set_option maxHeartbeats 2000000
section
variable {X : CallF}
end
end Go.Proofs.YtfbpbkcplpkndaaGreatDoor
end
section
namespace Go.Proofs.YtfbpbkcplpkndaaGreatDoor
set_option linter.unusedVariables false
set_option linter.unusedSimpArgs false
def wd (s : Bs) (i : Nat) : Bs := (flds 32 s).getD i []
def w1 (s : Bs) : Bs := ((wd s 1).take (wd s 1).length).drop 1
def w2 (s : Bs) : Bs := ((wd s 2).take (wd s 2).length).drop 1
def shp (s : Bs) : Bool := decide ((flds 32 s).length = 4) && decide (wd s 0 = [64, 64]) && decide (wd s 3 = [64, 64]) && decide ((wd s 1)[0]? = some 45) && decide ((wd s 2)[0]? = some 43)
def hd2G (s : Bs) : HdN := if shp s = true then ⟨ptA (w1 s), ptB (w1 s), ptA (w2 s), ptB (w2 s)⟩ else ⟨0, 0, 0, 0⟩
def hd2E (s : Bs) : Int := if shp s = true then (if (ptO (w1 s) && ptO (w2 s)) = true then (if (ptFi (w1 s) && ptFi (w2 s)) = true then 0 else 2) else 1) else 1
def hd2A (ls : List Bs) (k : Nat) : Nat := if hd2E (lnAt ls k) = 0 then k + 1 else k
theorem hd2_n {s : Bs} (h : shp s = false) : hd2G s = ⟨0, 0, 0, 0⟩ ∧ hd2E s = 1 := by unfold hd2G hd2E; rw [h]; exact ⟨rfl, rfl⟩
theorem hd2_y {s : Bs} (h : shp s = true) : hd2G s = ⟨ptA (w1 s), ptB (w1 s), ptA (w2 s), ptB (w2 s)⟩ := by unfold hd2G; rw [if_pos h]
theorem hd2_1 {s : Bs} (h : shp s = true) (g : (ptO (w1 s) && ptO (w2 s)) = false) : hd2E s = 1 := by unfold hd2E; rw [if_pos h, if_neg (by rw [g]; decide)]
theorem hd2_2 {s : Bs} (h : shp s = true) (g : (ptO (w1 s) && ptO (w2 s)) = true) (g2 : (ptFi (w1 s) && ptFi (w2 s)) = false) : hd2E s = 2 := by unfold hd2E; rw [if_pos h, if_pos g, if_neg (by rw [g2]; decide)]
theorem hd2_0 {s : Bs} (h : shp s = true) (g : (ptO (w1 s) && ptO (w2 s)) = true) (g2 : (ptFi (w1 s) && ptFi (w2 s)) = true) : hd2E s = 0 := by unfold hd2E; rw [if_pos h, if_pos g, if_pos g2]
theorem hd2A_n {ls : List Bs} {k : Nat} (h : hd2E (lnAt ls k) ≠ 0) : hd2A ls k = k := if_neg h
theorem hd2A_y {ls : List Bs} {k : Nat} (h : hd2E (lnAt ls k) = 0) : hd2A ls k = k + 1 := if_pos h
end Go.Proofs.YtfbpbkcplpkndaaGreatDoor
end
section
namespace Go.Proofs.YtfbpbkcplpkndaaGreatDoor
set_option linter.unusedVariables false
set_option linter.unusedSimpArgs false
set_option maxRecDepth 100000
set_option maxHeartbeats 2000000
section
variable {X : CallF}
end
end Go.Proofs.YtfbpbkcplpkndaaGreatDoor
end
section
namespace Go.Proofs.YtfbpbkcplpkndaaGreatDoor
set_option linter.unusedVariables false
set_option linter.unusedSimpArgs false
theorem idx_occ : ∀ {s p : Bs}, 0 ≤ Lib.index s p → s = s.take (Lib.index s p).toNat ++ p ++ s.drop ((Lib.index s p).toNat + p.length)
 | [], p, h => by
  unfold Lib.index at h ⊢
  cases p with
  | nil => rfl
  | cons c p => simp at h
 | b :: l, p, h => by
  unfold Lib.index at h ⊢
  by_cases q : p.isPrefixOf (b :: l) = true
  ·rw [if_pos q]
   obtain ⟨t, ht⟩ := List.isPrefixOf_iff_prefix.1 q
   simp [← ht]
  ·rw [if_neg q] at h ⊢
   by_cases q2 : (Lib.index l p == -1) = true
   ·rw [if_pos q2] at h; exact absurd h (by decide)
   ·rw [if_neg q2] at h ⊢
    have hge := Lib.index_ge l p
    have hne : ¬ Lib.index l p = -1 := fun e => q2 (by rw [e]; rfl)
    have h0 : 0 ≤ Lib.index l p := by omega
    have ih := idx_occ h0
    have e : (Lib.index l p + 1).toNat = (Lib.index l p).toNat + 1 := by omega
    rw [e, show (Lib.index l p).toNat + 1 + p.length = ((Lib.index l p).toNat + p.length) + 1 by omega, List.take_succ_cons, List.drop_succ_cons, List.cons_append, List.cons_append, ← ih]
theorem cut_inv {s p : Bs} (h : (Lib.cut s p).2.2 = true) : s = (Lib.cut s p).1 ++ p ++ (Lib.cut s p).2.1 := by
 unfold Lib.cut at h ⊢
 split at h
 ·rename_i q
  rw [if_pos q]; exact idx_occ q
 ·cases h
theorem cut_inv_n {s p : Bs} (h : (Lib.cut s p).2.2 = false) : (Lib.cut s p).1 = s := by
 unfold Lib.cut at h ⊢
 split at h
 ·cases h
 ·rename_i q; rw [if_neg q]
theorem dgO_ch {s : Bs} (h : dgO s = true) : ∀ c ∈ s, dig c := by
 unfold dgO at h
 rw [Bool.and_eq_true, decide_eq_true_eq] at h
 obtain ⟨h1, h2⟩ := h
 have hd : decB s = true := by
  cases q : decB s with
  | true => rfl
  | false => rw [numE, if_neg (by rw [q]; decide)] at h1; exact absurd rfl h1
 unfold decB at hd
 rw [Bool.and_eq_true] at hd
 have hn : negB s = false := by
  cases q : negB s with
  | false => rfl
  | true =>
   unfold negB at q
   have q := of_decide_eq_true q
   rw [hp_one.2 q] at h2; cases h2
 have hb := (digsB_iff.1 hd.1).2.2
 unfold numBody at hb
 rw [hn] at hb
 exact hb
theorem prO_ch {s : Bs} (h : prO s = true) : ∀ c ∈ s, c ≠ 32 := by
 unfold prO at h
 rw [Bool.and_eq_true] at h
 have no : ∀ {l : Bs}, dgO l = true → ∀ c ∈ l, c ≠ 32 := fun hl c hc e => by
  have := (dig_iff.1 (dgO_ch hl c hc)).1
  rw [e] at this; exact absurd this (by decide)
 cases hc : (Lib.cut s [44]).2.2 with
 | false =>
  have := cut_inv_n hc
  rw [this] at h
  exact no h.1
 | true =>
  rw [hc] at h
  have e := cut_inv hc
  intro c hm
  rw [e] at hm
  rcases List.mem_append.1 hm with hm | hm
  ·rcases List.mem_append.1 hm with hm | hm
   ·exact no h.1 c hm
   ·rw [List.mem_singleton.1 hm]; decide
  ·exact no (by simpa using h.2) c hm
theorem flds_inv {c : UInt8} {s x : Bs} {l : List Bs} (h : flds c s = x :: l) : (∀ y ∈ x, y ≠ c) ∧ ((l = [] ∧ s = x) ∨ ∃ r, s = x ++ c :: r ∧ flds c r = l) := by
 by_cases hi : Lib.indexByte s c < 0
 ·have h1 := idx_no hi
  rw [flds_one c s h1] at h
  injection h with h2 h3
  subst h2
  exact ⟨h1, .inl ⟨h3.symm, rfl⟩⟩
 ·obtain ⟨y, r, h1, h2, -⟩ := idx_yes (Int.not_lt.1 hi)
  rw [h1, flds_cons c y r h2] at h
  injection h with h3 h4
  subst h3
  exact ⟨h2, .inr ⟨r, h1, h4⟩⟩
theorem flds_ne (c : UInt8) (s : Bs) : flds c s ≠ [] := fun h => by
 have := cnt_flds c s
 rw [h] at this; simp at this
theorem get4 {α : Type} {l : List α} (h : l.length = 4) : ∃ a b c d, l = [a, b, c, d] := by
 match l, h with
 | [a, b, c, d], _ => exact ⟨a, b, c, d, rfl⟩
def hdS (a b : Bs) : Bs := [64, 64, 32, 45] ++ a ++ [32, 43] ++ b ++ [32, 64, 64]
theorem shp_form {s : Bs} (h : shp s = true) : s = hdS (w1 s) (w2 s) ∧ (∀ c ∈ w1 s, c ≠ 32) ∧ (∀ c ∈ w2 s, c ≠ 32) := by
 unfold shp at h
 simp only [Bool.and_eq_true, decide_eq_true_eq] at h
 obtain ⟨⟨⟨⟨h1, h2⟩, h3⟩, h4⟩, h5⟩ := h
 obtain ⟨x0, x1, x2, x3, e⟩ := get4 h1
 have e0 : wd s 0 = x0 := by unfold wd; rw [e]; rfl
 have e1 : wd s 1 = x1 := by unfold wd; rw [e]; rfl
 have e2 : wd s 2 = x2 := by unfold wd; rw [e]; rfl
 have e3 : wd s 3 = x3 := by unfold wd; rw [e]; rfl
 have ew1 : w1 s = x1.drop 1 := by unfold w1; rw [e1, List.take_of_length_le (Nat.le_refl _)]
 have ew2 : w2 s = x2.drop 1 := by unfold w2; rw [e2, List.take_of_length_le (Nat.le_refl _)]
 rw [e0] at h2; rw [e1] at h4; rw [e2] at h5; rw [e3] at h3
 have f1 : x1 = 45 :: x1.drop 1 := by
  cases x1 with
  | nil => cases h4
  | cons c x => simp at h4; rw [h4]; rfl
 have f2 : x2 = 43 :: x2.drop 1 := by
  cases x2 with
  | nil => cases h5
  | cons c x => simp at h5; rw [h5]; rfl
 obtain ⟨-, g⟩ := flds_inv e
 rcases g with ⟨g, -⟩ | ⟨r1, g1, g1'⟩
 ·cases g
 obtain ⟨n1, g⟩ := flds_inv g1'
 rcases g with ⟨g, -⟩ | ⟨r2, g2, g2'⟩
 ·cases g
 obtain ⟨n2, g⟩ := flds_inv g2'
 rcases g with ⟨g, -⟩ | ⟨r3, g3, g3'⟩
 ·cases g
 obtain ⟨n3, g⟩ := flds_inv g3'
 rcases g with ⟨-, g4⟩ | ⟨r4, -, g4'⟩
 ·rw [ew1, ew2]
  refine ⟨?_, fun c hc => n1 c (List.mem_of_mem_drop hc), fun c hc => n2 c (List.mem_of_mem_drop hc)⟩
  rw [g1, g2, g3, g4, h2, h3]
  conv => lhs; rw [f1, f2]
  unfold hdS; simp
 ·exact absurd g4' (flds_ne _ _)
theorem form_shp {a b : Bs} (ha : ∀ c ∈ a, c ≠ 32) (hb : ∀ c ∈ b, c ≠ 32) : shp (hdS a b) = true ∧ w1 (hdS a b) = a ∧ w2 (hdS a b) = b := by
 have e : flds 32 (hdS a b) = [[64, 64], 45 :: a, 43 :: b, [64, 64]] := by
  have : hdS a b = [64, 64] ++ 32 :: ((45 :: a) ++ 32 :: ((43 :: b) ++ 32 :: [64, 64])) := by unfold hdS; simp
  rw [this, flds_cons, flds_cons, flds_cons, flds_one]
  ·decide
  ·intro x hx
   rcases List.mem_cons.1 hx with q | q
   ·rw [q]; decide
   ·exact hb x q
  ·intro x hx
   rcases List.mem_cons.1 hx with q | q
   ·rw [q]; decide
   ·exact ha x q
  ·decide
 have e0 : wd (hdS a b) 0 = [64, 64] := by unfold wd; rw [e]; rfl
 have e1 : wd (hdS a b) 1 = 45 :: a := by unfold wd; rw [e]; rfl
 have e2 : wd (hdS a b) 2 = 43 :: b := by unfold wd; rw [e]; rfl
 have e3 : wd (hdS a b) 3 = [64, 64] := by unfold wd; rw [e]; rfl
 refine ⟨?_, ?_, ?_⟩
 ·unfold shp; rw [e0, e1, e2, e3, e]; rfl
 ·unfold w1; rw [e1, List.take_of_length_le (Nat.le_refl _)]; rfl
 ·unfold w2; rw [e2, List.take_of_length_le (Nat.le_refl _)]; rfl
theorem hdO_form {s : Bs} (h : hdO s = true) : s = hdS (hdX s).1 (hdX s).2.1 ∧ prO (hdX s).1 = true ∧ prO (hdX s).2.1 = true := by
 unfold hdO at h
 simp only [Bool.and_eq_true] at h
 obtain ⟨⟨⟨⟨h1, h2⟩, h3⟩, h4⟩, h5⟩ := h
 refine ⟨?_, h4, h5⟩
 obtain ⟨t, ht⟩ := List.isPrefixOf_iff_prefix.1 h1
 have hd : s.drop 4 = t := by rw [← ht]; rfl
 obtain ⟨u, hu⟩ := List.isSuffixOf_iff_suffix.1 h2
 have hT : hdT s = u := by
  unfold hdT Lib.trimSuffix
  rw [if_pos h2, ← hu]
  simp
 have hc := cut_inv h3
 have e : Lib.cut (hdT s) [32, 43] = hdX s := rfl
 rw [e, hT] at hc
 have : s = [64, 64, 32, 45] ++ (u ++ [32, 64, 64]) := by rw [hu, hd]; exact ht.symm
 conv => lhs; rw [this, hc]
 unfold hdS; simp
theorem form_hdO {a b : Bs} (ha : ∀ c ∈ a, c ≠ 32) : hdX (hdS a b) = (a, b, true) ∧ (hdO (hdS a b) = (prO a && prO b)) := by
 have e0 : (hdS a b).drop 4 = a ++ ([32, 43] ++ b) ++ [32, 64, 64] := by simp [hdS]
 have hs : Lib.hasSuffix ((hdS a b).drop 4) [32, 64, 64] = true := by
  rw [e0]; unfold Lib.hasSuffix
  exact List.isSuffixOf_iff_suffix.2 ⟨_, rfl⟩
 have ht : hdT (hdS a b) = a ++ [32, 43] ++ b := by
  unfold hdT Lib.trimSuffix
  rw [if_pos hs, e0]
  have : ((a ++ ([32, 43] ++ b) ++ [32, 64, 64]).length - [(32 : UInt8), 64, 64].length) = (a ++ ([32, 43] ++ b)).length := by simp; omega
  rw [this, List.take_left']
  ·simp
  ·rfl
 have hx : hdX (hdS a b) = (a, b, true) := by
  unfold hdX; rw [ht]; exact cut_at ha
 have hp : Lib.hasPrefix (hdS a b) [64, 64, 32, 45] = true := by
  unfold Lib.hasPrefix hdS
  exact List.isPrefixOf_iff_prefix.2 ⟨_, by simp; rfl⟩
 refine ⟨hx, ?_⟩
 unfold hdO; rw [hp, hs, hx]; simp
theorem ptO_eq (s : Bs) : ptO s = prO s := rfl
theorem nt_fit {s : Bs} (h : dgO s = true) : (ntF s = true ↔ dgV s ≤ 2147483647) ∧ (ntF s = true → ntV s = dgV s) := by
 have h1 : numE s = 0 ∨ numE s = 9 := by
  unfold dgO at h
  rw [Bool.and_eq_true, decide_eq_true_eq] at h
  have := h.1
  unfold numE at this ⊢
  split
  ·split
   ·exact .inl rfl
   ·exact .inr rfl
  ·rename_i q; rw [if_neg q] at this; exact absurd rfl this
 unfold ntF ntV dgV
 rw [h]
 rcases h1 with q | q
 ·rw [q]; simp
 ·rw [q]; simp
theorem pt_fit {s : Bs} (h : prO s = true) : (ptFi s = true ↔ prA s ≤ 2147483647 ∧ prB s ≤ 2147483647) ∧ (ptFi s = true → ptA s = prA s ∧ ptB s = prB s) := by
 unfold prO at h
 rw [Bool.and_eq_true] at h
 obtain ⟨h1, h2⟩ := h
 have f1 := nt_fit h1
 unfold ptFi ptA ptB prA prB
 rw [Bool.and_eq_true, f1.1]
 cases hc : (Lib.cut s [44]).2.2 with
 | false =>
  simp
  intro q
  exact f1.2 (f1.1.2 q)
 | true =>
  rw [hc] at h2
  have f2 := nt_fit (by simpa using h2)
  simp
  rw [f2.1]
  refine ⟨fun _ => Iff.rfl, fun q1 q2 => ⟨f1.2 (f1.1.2 q1), f2.2 (f2.1.2 q2)⟩⟩
theorem hd2_eq (s : Bs) : hd2E s = hdE s ∧ (hdE s = 0 → hd2G s = hdV s) := by
 by_cases ho : hdO s = true
 ·obtain ⟨e, p1, p2⟩ := hdO_form ho
  generalize hx : hdX s = q at e p1 p2
  obtain ⟨a, b, u⟩ := q
  simp only at e p1 p2
  have n1 := prO_ch p1
  have n2 := prO_ch p2
  obtain ⟨g1, g2, g3⟩ := form_shp n1 n2
  rw [← e] at g1 g2 g3
  have hv : hdV s = ⟨prA a, prB a, prA b, prB b⟩ := by unfold hdV; rw [hx]
  have fa := pt_fit p1
  have fb := pt_fit p2
  have hE : hdE s = if (prA a ≤ 2147483647 ∧ prB a ≤ 2147483647 ∧ prA b ≤ 2147483647 ∧ prB b ≤ 2147483647) then 0 else 2 := by unfold hdE; rw [if_pos ho, hv]
  by_cases hf : (ptFi a && ptFi b) = true
  ·have hf' := hf
   rw [Bool.and_eq_true] at hf'
   have q1 := fa.1.1 hf'.1
   have q2 := fb.1.1 hf'.2
   refine ⟨?_, fun _ => ?_⟩
   ·rw [hE, if_pos ⟨q1.1, q1.2, q2.1, q2.2⟩]
    exact hd2_0 g1 (by rw [g2, g3, ptO_eq, ptO_eq, p1, p2]; rfl) (by rw [g2, g3]; exact hf)
   ·rw [hd2_y g1, g2, g3, hv, (fa.2 hf'.1).1, (fa.2 hf'.1).2, (fb.2 hf'.2).1, (fb.2 hf'.2).2]
  ·have hn : ¬ (prA a ≤ 2147483647 ∧ prB a ≤ 2147483647 ∧ prA b ≤ 2147483647 ∧ prB b ≤ 2147483647) := fun q => hf (by rw [Bool.and_eq_true]; exact ⟨fa.1.2 ⟨q.1, q.2.1⟩, fb.1.2 q.2.2⟩)
   refine ⟨?_, fun q => ?_⟩
   ·rw [hE, if_neg hn]
    exact hd2_2 g1 (by rw [g2, g3, ptO_eq, ptO_eq, p1, p2]; rfl) (by rw [g2, g3]; simpa using hf)
   ·rw [hE, if_neg hn] at q; cases q
 ·have hE := hdE_o (by simpa using ho : hdO s = false)
  refine ⟨?_, fun q => by rw [hE] at q; cases q⟩
  rw [hE]
  cases hs : shp s with
  | false => exact (hd2_n hs).2
  | true =>
   obtain ⟨e, n1, n2⟩ := shp_form hs
   refine hd2_1 hs ?_
   rw [ptO_eq, ptO_eq, ← (form_hdO (b := w2 s) n1).2, ← e]
   simpa using ho
end Go.Proofs.YtfbpbkcplpkndaaGreatDoor
end
section
namespace Go.Proofs.YtfbpbkcplpkndaaGreatDoor
set_option linter.unusedVariables false
set_option linter.unusedSimpArgs false
set_option maxRecDepth 100000
set_option maxHeartbeats 2000000
def opV (s : Bs) : Int := if s[0]? = some 32 then 1 else if s[0]? = some 45 then 2 else if s[0]? = some 43 then 3 else 0
structure Hk2I (ls : List Bs) (k : Nat) (j : Nat × Int × List DL) : Prop where
 le : j.1 ≤ ls.length
 ln : j.2.2.length ≤ j.1
 ok : j.2.1 = 0 → hdE (lnAt ls k) = 0 ∧ Bd ls ((hd2G (lnAt ls k)).la - cA j.2.2) ((hd2G (lnAt ls k)).lb - cB j.2.2) j.1 j.2.2 (hkB ls k)
 bad : j.2.1 ≠ 0 → hdE (lnAt ls k) = j.2.1 ∧ k = j.1 ∧ j.2.2 = []
def hk2M (ls : List Bs) (j : Nat × Int × List DL) : Nat := if j.2.1 = 0 then ls.length - j.1 + 1 else 0
section
variable {ls : List Bs} {k : Nat} {j : Nat × Int × List DL}
theorem opV_c (x : Bs) : (opV x = 1 ∧ x[0]? = some 32) ∨ (opV x = 2 ∧ x[0]? = some 45) ∨ (opV x = 3 ∧ x[0]? = some 43) ∨ (opV x = 0 ∧ x[0]? ≠ some 32 ∧ x[0]? ≠ some 45 ∧ x[0]? ≠ some 43) := by
 unfold opV
 split
 ·rename_i h; exact .inl ⟨rfl, h⟩
 ·split
  ·rename_i h; exact .inr (.inl ⟨rfl, h⟩)
  ·split
   ·rename_i h; exact .inr (.inr (.inl ⟨rfl, h⟩))
   ·rename_i h1 h2 h3; exact .inr (.inr (.inr ⟨rfl, h1, h2, h3⟩))
theorem opV_P {x : Bs} {a b : Int} (h : ¬ opV x = 0) (ha : opV x ≠ 3 → 0 < a) (hb : opV x ≠ 2 → 0 < b) : opP x a b = some (opV x) := by
 rcases opV_c x with ⟨q, q2⟩ | ⟨q, q2⟩ | ⟨q, q2⟩ | ⟨q, -⟩
 ·rw [q] at ha hb ⊢; exact opP_1 q2 (ha (by decide)) (hb (by decide))
 ·rw [q] at ha hb ⊢; exact opP_2 q2 (ha (by decide))
 ·rw [q] at ha hb ⊢; exact opP_3 q2 (hb (by decide))
 ·exact absurd q h
theorem opV_N {x : Bs} {a b : Int} (h : opV x = 0 ∨ (opV x ≠ 3 ∧ a ≤ 0) ∨ (opV x ≠ 2 ∧ b ≤ 0)) : opP x a b = none := by
 cases ho : opP x a b with
 | none => rfl
 | some op =>
  have : ∀ {c d : UInt8}, x[0]? = some c → x[0]? = some d → c = d := fun h1 h2 => by rw [h1] at h2; injection h2
  rcases opV_c x with ⟨q, q2⟩ | ⟨q, q2⟩ | ⟨q, q2⟩ | ⟨q, n1, n2, n3⟩ <;> rcases opP_cases ho with ⟨-, g, g2, g3⟩ | ⟨-, g, g2⟩ | ⟨-, g, g2⟩
  ·omega
  ·exact absurd (this q2 g) (by decide)
  ·exact absurd (this q2 g) (by decide)
  ·exact absurd (this q2 g) (by decide)
  ·omega
  ·exact absurd (this q2 g) (by decide)
  ·exact absurd (this q2 g) (by decide)
  ·exact absurd (this q2 g) (by decide)
  ·omega
  ·exact absurd g n1
  ·exact absurd g n2
  ·exact absurd g n3
theorem Hk2I.init (hk : k < ls.length) : Hk2I ls k (hd2A ls k, hd2E (lnAt ls k), []) := by
 have e := hd2_eq (lnAt ls k)
 refine ⟨?_, Nat.zero_le _, fun h => ?_, fun h => ?_⟩
 ·show hd2A ls k ≤ ls.length
  unfold hd2A; split <;> omega
 ·have h : hd2E (lnAt ls k) = 0 := h
  have h' : hdE (lnAt ls k) = 0 := by rw [← e.1]; exact h
  refine ⟨h', ?_⟩
  show Bd ls ((hd2G (lnAt ls k)).la - (cA [] : Nat)) ((hd2G (lnAt ls k)).lb - (cB [] : Nat)) (hd2A ls k) [] (hkB ls k)
  rw [e.2 h', hd2A_y h]
  have := bdR_ok ls (hdV (lnAt ls k)).la (hdV (lnAt ls k)).lb (k + 1)
  simpa [cA, cB, hkB] using this
 ·exact ⟨e.1.symm, (hd2A_n h).symm, rfl⟩
theorem Hk2I.go {x x' : Bs} {t : Bool} {k' : Nat} (h : Hk2I ls k j) (e : j.2.1 = 0) (hx : ls[j.1]? = some x) (hx' : ls[j.1]? = some x') (ho : ¬ opV x = 0) (ha : opV x ≠ 3 → (cA j.2.2 : Int) < (hd2G (lnAt ls k)).la) (hb : opV x ≠ 2 → (cB j.2.2 : Int) < (hd2G (lnAt ls k)).lb)
    (hn : neB ls (j.1 + 1) = t) (hk : k' = if t = true then j.1 + 1 + 1 else j.1 + 1) : Hk2I ls k (k', j.2.1, j.2.2 ++ [⟨opV x, (x'.take x'.length).drop 1, t⟩]) := by
  rw [hx] at hx'; injection hx' with hx'; subst hx'
  obtain ⟨h1, h2⟩ := h.ok e
  have hP := opV_P (a := (hd2G (lnAt ls k)).la - cA j.2.2) (b := (hd2G (lnAt ls k)).lb - cB j.2.2) ho (fun q => by have := ha q; omega) (fun q => by have := hb q; omega)
  have hl := (List.getElem?_eq_some_iff.1 hx).1
  have hq : nxt ls (j.1 + 1) = k' := by unfold nxt; rw [hn, hk]
  have hle : k' ≤ ls.length := by rw [← hq]; exact nxt_le (by omega)
  have hge : j.1 + 1 ≤ k' := by rw [← hq]; exact nxt_ge _
  refine ⟨hle, ?_, fun _ => ⟨h1, ?_⟩, fun q => absurd e q⟩
  · show (j.2.2 ++ _).length ≤ k'
    rw [List.length_append, List.length_singleton]
    have := h.ln; omega
  · show Bd ls ((hd2G (lnAt ls k)).la - (cA (j.2.2 ++ [_]) : Nat)) ((hd2G (lnAt ls k)).lb - (cB (j.2.2 ++ [_]) : Nat)) k' (j.2.2 ++ [_]) (hkB ls k)
    rw [cA_app, cB_app, cA_one, cB_one, List.take_of_length_le (Nat.le_refl _)]
    generalize hkB ls k = r at h2 ⊢
    cases h2 with
    | fin q => rcases opP_cases hP with q' | q' | q' <;> omega
    | out _ q => omega
    | bad _ q q2 => rw [hx] at q; cases q; rw [hP] at q2; cases q2
    | go q q2 q3 =>
      rw [hx] at q; cases q; rw [hP] at q2; cases q2
      rw [← hq, ← hn]
      simp only
      have e1 : ((hd2G (lnAt ls k)).la - ((cA j.2.2 + if opV x = 3 then 0 else 1 : Nat) : Int)) = if opV x = 3 then (hd2G (lnAt ls k)).la - cA j.2.2 else (hd2G (lnAt ls k)).la - cA j.2.2 - 1 := by split <;> omega
      have e2 : ((hd2G (lnAt ls k)).lb - ((cB j.2.2 + if opV x = 2 then 0 else 1 : Nat) : Int)) = if opV x = 2 then (hd2G (lnAt ls k)).lb - cB j.2.2 else (hd2G (lnAt ls k)).lb - cB j.2.2 - 1 := by split <;> omega
      rw [e1, e2]
      exact q3
abbrev Hk2E (ls : List Bs) (k : Nat) (j : Nat × Int × List DL) (e : Int) : Prop := HunkE ls k (j.1, j.2.1, 0, 0, j.2.2) e
theorem Hk2I.end (h : Hk2I ls k j) (e : j.2.1 = 0) {r : Int × Nat × List DL} (hr : hkB ls k = r) (h1 : r.2.1 = j.1) (h2 : r.2.2 = j.2.2) : Hk2E ls k j r.1 := by
 obtain ⟨q, -⟩ := h.ok e
 refine ⟨?_, ?_, ?_⟩
 ·unfold hkE; rw [if_pos q, hr]
 ·unfold hkA; rw [if_pos q, hr, h1]
 ·unfold hkLn; rw [if_pos q, hr, h2]
theorem Hk2I.fin (h : Hk2I ls k j) (e : j.2.1 = 0) (ha : ¬ (cA j.2.2 : Int) < (hd2G (lnAt ls k)).la) (hb : ¬ (cB j.2.2 : Int) < (hd2G (lnAt ls k)).lb) : Hk2E ls k j j.2.1 := by
 rw [e]
 exact h.end e ((h.ok e).2.det (.fin (by omega))) rfl rfl
theorem Hk2I.err (h : Hk2I ls k j) (e : ¬ j.2.1 = 0) : Hk2E ls k j j.2.1 := by
 obtain ⟨q1, q2, q3⟩ := h.bad e
 have hn : ¬ hdE (lnAt ls k) = 0 := by rw [q1]; exact e
 refine ⟨?_, ?_, ?_⟩
 ·unfold hkE; rw [if_neg hn, q1]
 ·unfold hkA; rw [if_neg hn, q2]
 ·unfold hkLn; rw [if_neg hn, q3]
theorem Hk2I.out (h : Hk2I ls k j) (e : j.2.1 = 0) (hab : (cA j.2.2 : Int) < (hd2G (lnAt ls k)).la ∨ (cB j.2.2 : Int) < (hd2G (lnAt ls k)).lb) (hl : (ls.length : Int) ≤ j.1) : Hk2E ls k j 1 :=
 h.end e ((h.ok e).2.det (.out (by omega) (by omega))) rfl rfl
theorem Hk2I.no {x : Bs} (h : Hk2I ls k j) (e : j.2.1 = 0) (hab : (cA j.2.2 : Int) < (hd2G (lnAt ls k)).la ∨ (cB j.2.2 : Int) < (hd2G (lnAt ls k)).lb) (hx : ls[j.1]? = some x) (q : opV x = 0 ∨ (opV x ≠ 3 ∧ (hd2G (lnAt ls k)).la ≤ cA j.2.2) ∨ (opV x ≠ 2 ∧ (hd2G (lnAt ls k)).lb ≤ cB j.2.2)) : Hk2E ls k j 1 :=
 h.end e ((h.ok e).2.det (.bad (by omega) hx (opV_N (by omega)))) rfl rfl
end
section
variable {X : CallF}
end
end Go.Proofs.YtfbpbkcplpkndaaGreatDoor
end
section
namespace Go.Proofs.YtfbpbkcplpkndaaGreatDoor
set_option linter.unusedVariables false
set_option linter.unusedSimpArgs false
set_option maxRecDepth 100000
set_option maxHeartbeats 2000000
section
variable {ls : List Bs} {k n : Nat} {x x' p : Bs}
theorem z0 (h : ls[k]? = some x) : ls[0 + k]? = some x := by rw [Nat.zero_add]; exact h
end
section
variable {X : CallF}
end
end Go.Proofs.YtfbpbkcplpkndaaGreatDoor
end
section
namespace Go.Proofs.YtfbpbkcplpkndaaGreatDoor
set_option linter.unusedVariables false
set_option linter.unusedSimpArgs false
set_option maxRecDepth 100000
set_option maxHeartbeats 2000000
section
variable {X : CallF}
theorem sameHunk_run (h : Hk) (hl : h.ls.length ≤ 1000000000) : (R FT X).f 27 [encHk h, encHk h] = some (boolA true) := by
 have hm := maxLen_le
 refine R_wp ((Tr.b false (Tr.b false (Tr.b false (Tr.b false (Tr.k h.ls.length (Tr.k h.ls.length (Tr.b false (Tr.inv (fun (k : Nat) ↦ St.mk [(2, AV.ptr 0 0), (3, AV.ptr 1 0), (5, intA (↑k : Int))] [MObj.box 46 [intA h.fa, intA h.la, intA h.fb, intA h.lb, AV.slice 3 (List.map encDL h.ls)], MObj.box 46 [intA h.fa, intA h.la, intA h.fb, intA h.lb, AV.slice 3 (List.map encDL h.ls)]]) (fun (k : Nat) ↦ k ≤ h.ls.length) (fun (k : Nat) ↦ h.ls.length - k) fun (k : Nat) ↦ (Tr.k h.ls.length ((Tr.ix encDL h.ls k fun (x4 : DL) ↦ Tr.ix encDL h.ls k fun (x6 : DL) ↦ (Tr.nil.br Tr.nil.w).w).w.w.br Tr.nil)).w).w).w)))))).w) rfl ?_
 refine Eq.mpr (by kernel_rfl : _ = ((!decide (h.fa = h.fa)) = false ∧ (!decide (h.la = h.la)) = false ∧ (!decide (h.fb = h.fb)) = false ∧ (!decide (h.lb = h.lb)) = false ∧ (List.map encDL h.ls).length = h.ls.length ∧ (List.map encDL h.ls).length = h.ls.length ∧ (!decide ((↑h.ls.length : Int) = (↑h.ls.length : Int))) = false ∧ (∃ (j1 : Nat), ((True ∧ True ∧ (0 : Int) = (↑j1 : Int) ∧ True) ∧ (h.fa = h.fa ∧ h.la = h.la ∧ h.fb = h.fb ∧ h.lb = h.lb ∧ List.map encDL h.ls = List.map encDL h.ls) ∧ h.fa = h.fa ∧ h.la = h.la ∧ h.fb = h.fb ∧ h.lb = h.lb ∧ List.map encDL h.ls = List.map encDL h.ls) ∧ j1 ≤ h.ls.length) ∧ ∀ (k : Nat), k ≤ h.ls.length → (List.map encDL h.ls).length = h.ls.length ∧ (decide ((↑k : Int) < (↑h.ls.length : Int)) = true → List.map encDL h.ls = List.map encDL h.ls ∧ (↑k : Int) = (↑k : Int) ∧ k < h.ls.length ∧ ∀ (x4 : DL), h.ls[k]? = some x4 → List.map encDL h.ls = List.map encDL h.ls ∧ (↑k : Int) = (↑k : Int) ∧ k < h.ls.length ∧ ∀ (x6 : DL), h.ls[k]? = some x6 → ((!(decide (x4.op = x6.op) && (decide ((ofL x4.tx).data.toList = (ofL x6.tx).data.toList) && decide (x4.ne = x6.ne)))) = true → false = true) ∧ ((!(decide (x4.op = x6.op) && (decide ((ofL x4.tx).data.toList = (ofL x6.tx).data.toList) && decide (x4.ne
 = x6.ne)))) = false → InI64 ((↑k : Int) + 1) ∧ ∃ (j10 : Nat), ((True ∧ True ∧ (↑k : Int) + 1 = (↑j10 : Int) ∧ True) ∧ (h.fa = h.fa ∧ h.la = h.la ∧ h.fb = h.fb ∧ h.lb = h.lb ∧ List.map encDL h.ls = List.map encDL h.ls) ∧ h.fa = h.fa ∧ h.la = h.la ∧ h.fb = h.fb ∧ h.lb = h.lb ∧ List.map encDL h.ls = List.map encDL h.ls) ∧ j10 ≤ h.ls.length ∧ h.ls.length - j10 < h.ls.length - k)) ∧ (decide ((↑k : Int) < (↑h.ls.length : Int)) = false → true = true))) ?_
 refine ⟨(fnD rfl), (fnD rfl), (fnD rfl), (fnD rfl), (by simp), (by simp), (fnD rfl), ⟨(0 : Nat), ⟨⟨trivial, trivial, (by omega), trivial⟩, ⟨rfl, rfl, rfl, rfl, rfl⟩, rfl, rfl, rfl, rfl, rfl⟩, (by omega)⟩, fun k => fun h2 => ⟨(by simp), fun h3_ => have h3 := dT h3_; ⟨rfl, rfl, (by omega), fun x4 => fun h5 => ⟨rfl, rfl, (by omega), fun x6 => fun h7 => ⟨fun h8_ => have h8 := nT h8_; ?_, fun h9_ => have h9 := nF h9_; ⟨(by unfold InI64; omega), ⟨k + (1 : Nat), ⟨⟨trivial, trivial, (by omega), trivial⟩, ⟨rfl, rfl, rfl, rfl, rfl⟩, rfl, rfl, rfl, rfl, rfl⟩, ⟨(by omega), (by omega)⟩⟩⟩⟩⟩⟩, fun h11_ => have h11 := dF h11_; rfl⟩⟩
 rw [h5] at h7; injection h7 with h7; subst h7; simp at h8
theorem sameHunk_e (h h' : Hk) (e : h = h') (hl : h.ls.length ≤ 1000000000) : (R FT X).f 27 [encHk h, encHk h'] = some (boolA true) := by
 subst e; exact sameHunk_run h hl
theorem samePatch_run (p : Pt) (hl : p.hs.length ≤ 1000000000) (hx : ∀ h ∈ p.hs, h.ls.length ≤ 1000000000) : (R FT X).f 12 [encPt p, encPt p] = some (boolA true) := by
 have hm := maxLen_le
 have sh := fun (h h' : Hk) e hl => sameHunk_e (X := X) h h' e hl
 refine R_wp (((Tr.b true (Tr.b true Tr.nil).w).br ((Tr.b true Tr.nil).w.br (Tr.k p.hs.length (Tr.k p.hs.length (Tr.b false (Tr.inv (fun (k : Nat) ↦ St.mk [(2, AV.ptr 0 0), (3, AV.ptr 1 0), (5, intA (↑k : Int))] [MObj.box 29 [strL p.old, strL p.new, AV.slice 5 (List.map encHk p.hs)], MObj.box 29 [strL p.old, strL p.new, AV.slice 5 (List.map encHk p.hs)]]) (fun (k : Nat) ↦ k ≤ p.hs.length) (fun (k : Nat) ↦ p.hs.length - k) fun (k : Nat) ↦ (Tr.k p.hs.length ((Tr.ix encHk p.hs k fun (x8 : Hk) ↦ Tr.ix encHk p.hs k fun (x10 : Hk) ↦ Tr.c (boolA true) (Tr.b false Tr.nil.w).w).w.w.br Tr.nil)).w).w).w)))).w) rfl ?_
 refine Eq.mpr (by kernel_rfl : _ = (((!decide (p.old = p.old)) = true → true = true ∧ true = true ∧ false = true) ∧ ((!decide (p.old = p.old)) = false → ((!decide (p.new = p.new)) = true → true = true ∧ false = true) ∧ ((!decide (p.new = p.new)) = false → (List.map encHk p.hs).length = p.hs.length ∧ (List.map encHk p.hs).length = p.hs.length ∧ (!decide ((↑p.hs.length : Int) = (↑p.hs.length : Int))) = false ∧ (∃ (j5 : Nat), ((True ∧ True ∧ (0 : Int) = (↑j5 : Int) ∧ True) ∧ (p.old = p.old ∧ p.new = p.new ∧ List.map encHk p.hs = List.map encHk p.hs) ∧ p.old = p.old ∧ p.new = p.new ∧ List.map encHk p.hs = List.map encHk p.hs) ∧ j5 ≤ p.hs.length) ∧ ∀ (k : Nat), k ≤ p.hs.length → (List.map encHk p.hs).length = p.hs.length ∧ (decide ((↑k : Int) < (↑p.hs.length : Int)) = true → List.map encHk p.hs = List.map encHk p.hs ∧ (↑k : Int) = (↑k : Int) ∧ k < p.hs.length ∧ ∀ (x8 : Hk), p.hs[k]? = some x8 → List.map encHk p.hs = List.map encHk p.hs ∧ (↑k : Int) = (↑k : Int) ∧ k < p.hs.length ∧ ∀ (x10 : Hk), p.hs[k]? = some x10 → (R FT X).f 27 [encHk x8, encHk x10] = some (boolA true) ∧ false = false ∧ InI64 ((↑k : Int) + 1) ∧ ∃ (j12 : Nat), ((True ∧ True ∧ (↑k : Int) + 1 = (↑j12 : Int) ∧ True) ∧ (p.old = p.old
 ∧ p.new = p.new ∧ List.map encHk p.hs = List.map encHk p.hs) ∧ p.old = p.old ∧ p.new = p.new ∧ List.map encHk p.hs = List.map encHk p.hs) ∧ j12 ≤ p.hs.length ∧ p.hs.length - j12 < p.hs.length - k) ∧ (decide ((↑k : Int) < (↑p.hs.length : Int)) = false → true = true))))) ?_
 refine ⟨fun h1_ => have h1 := dnT h1_; ⟨rfl, rfl, ?_⟩, fun h2_ => have h2 := dnF h2_; ⟨fun h3_ => have h3 := dnT h3_; ⟨rfl, ?_⟩, fun h4_ => have h4 := dnF h4_; ⟨(by simp), (by simp), (fnD rfl), ⟨(0 : Nat), ⟨⟨trivial, trivial, (by omega), trivial⟩, ⟨rfl, rfl, rfl⟩, rfl, rfl, rfl⟩, (by omega)⟩, fun k => fun h6 => ⟨(by simp), fun h7_ => have h7 := dT h7_; ⟨rfl, rfl, (by omega), fun x8 => fun h9 => ⟨rfl, rfl, (by omega), fun x10 => fun h11 => ⟨(sh _ _ ?_ ?_), rfl, (by unfold InI64; omega), ⟨k + (1 : Nat), ⟨⟨trivial, trivial, (by omega), trivial⟩, ⟨rfl, rfl, rfl⟩, rfl, rfl, rfl⟩, ⟨(by omega), (by omega)⟩⟩⟩⟩⟩, fun h13_ => have h13 := dF h13_; rfl⟩⟩⟩⟩
 ·exact absurd rfl h1
 ·exact absurd rfl h3
 ·exact Option.some.inj (h9.symm.trans h11)
 ·exact hx _ (List.mem_of_getElem? h9)
end
end Go.Proofs.YtfbpbkcplpkndaaGreatDoor
end
section
namespace Go.Proofs.YtfbpbkcplpkndaaGreatDoor
set_option linter.unusedVariables false
set_option linter.unusedSimpArgs false
set_option maxRecDepth 100000
set_option maxHeartbeats 2000000
theorem compares_run (on ot nn nt : Bs) (c : Int) (hc : InI64 c) (ho : ot.length ≤ 1048576) (hn : nt.length ≤ 1048576) : (R FT XS).f 3 [encNm on ot, encNm nn nt, intA c] = some (boolA true) := by
 have hm := maxLen_le
 have f1 := few_run ot (by omega)
 have f2 := few_run nt (by omega)
 have aw := awake_run
 have fw : ∀ s : Bs, fewB s = true → s.length ≤ 10000 ∧ (lins s).length ≤ 60 := fun s h => by
  unfold fewB at h; simp at h; omega
 have l2 : Lc2C XS := ⟨fun a b ha hb => script2_run a b ha hb⟩
 obtain ⟨P, hP⟩ : ∃ P, P = cmpP on ot nn nt c.toNat := ⟨_, rfl⟩
 have cm : fewB ot = true → fewB nt = true → (R FT XS).f 13 [encNm on ot, encNm nn nt, intA c] = some (encPt P) := fun h1 h2 => by
  have g1 := fw _ h1
  have g2 := fw _ h2
  rw [hP]; exact compare_run (X := XS) XS_lib XS_lcs on ot nn nt c hc (by omega) (by omega) (by omega) (by omega)
 have c2 : fewB ot = true → fewB nt = true → (R FT XS).f 14 [encNm on ot, encNm nn nt, intA c] = some (encPt P) := fun h1 h2 => by
  have g1 := fw _ h1
  have g2 := fw _ h2
  rw [hP]; exact compare2_run (X := XS) l2 on ot nn nt c hc (by omega) (by omega) (by omega) (by omega)
 have sp : fewB ot = true → fewB nt = true → (R FT XS).f 12 [encPt P, encPt P] = some (boolA true) := fun h1 h2 => by
  have g1 := fw _ h1
  have g2 := fw _ h2
  have k := cmp_F (on := on) (nn := nn) (c := c.toNat) g1.1 g2.1 (by omega) (by omega)
  rw [← hP] at k
  exact samePatch_run (X := XS) P k.1.hn fun h hh => (k.1.hz h hh).ln
 refine R_wp ((Tr.c (boolA (fewB ot)) ((Tr.b true (Tr.c (boolA true) Tr.nil)).w.br (Tr.c (boolA (fewB nt)) ((Tr.c (boolA true) Tr.nil).br (Tr.c (encPt P) (Tr.c (encPt P) (Tr.c (boolA true) (Tr.b true (Tr.c (boolA true) Tr.nil))))).w).w))).w) rfl ?_
 refine Eq.mpr (by kernel_rfl : _ = ((R FT XS).f 10 [strL ot] = some (boolA (fewB ot)) ∧ ((!fewB ot) = true → true = true ∧ (R FT XS).f 11 [] = some (boolA true) ∧ true = true) ∧ ((!fewB ot) = false → (R FT XS).f 10 [strL nt] = some (boolA (fewB nt)) ∧ ((!fewB nt) = true → (R FT XS).f 11 [] = some (boolA true) ∧ true = true) ∧ ((!fewB nt) = false → (R FT XS).f 13 [encNm on ot, encNm nn nt, intA c] = some (encPt P) ∧ (R FT XS).f 14 [encNm on ot, encNm nn nt, intA c] = some (encPt P) ∧ (R FT XS).f 12 [encPt P, encPt P] = some (boolA true) ∧ true = true ∧ (R FT XS).f 11 [] = some (boolA true) ∧ true = true)))) ?_
 refine ⟨(f1), fun h1_ => have h1 := nT h1_; ⟨rfl, (aw), rfl⟩, fun h2_ => have h2 := nF h2_; ⟨(f2), fun h3_ => have h3 := nT h3_; ⟨(aw), rfl⟩, fun h4_ => have h4 := nF h4_; ⟨(cm h2 h4), (c2 h2 h4), (sp h2 h4), rfl, (aw), rfl⟩⟩⟩
end Go.Proofs.YtfbpbkcplpkndaaGreatDoor
end
