/- Own texts of this claim, merged: Pn, Df1, Df2, DfX, Up, DfC, DfK, Df9, Df10, Df11, Df12, DfT, Df14, Df15, DfU. -/
import Derived.Test.YtfbpbkcplpkndaaGreatDoorPd
import Derived.Deep.DeepHandedRow
import Derived.Lay
import Derived.Deep.DeepWitnessRowRef
import Derived.Shelf.Vars
section
namespace Go.Proofs.YtfbpbkcplpkndaaGreatDoor
set_option linter.unusedVariables false
set_option linter.unusedSimpArgs false
set_option maxRecDepth 100000
theorem body_le (s : Bs) : (numBody s).length ≤ s.length := by
 unfold numBody; split
 ·simp
 ·exact Nat.le_refl _
theorem body_lt (s : Bs) : (numBody s).length < s.length ↔ negB s = true := by
 unfold numBody
 by_cases h : negB s = true
 ·rw [if_pos h]
  cases s with
  | nil => simp [negB] at h
  | cons c r => simp [h]
 ·rw [if_neg h]; simp [h]
theorem body_y {s : Bs} {c : UInt8} (h : s[0]? = some c) (hc : (c.toNat : Int) = 45) : s.drop 1 = numBody s := by
 have : c = 45 := u8_of (n := 45) hc (by decide)
 subst this
 rw [numBody, if_pos (by simp [negB, h])]
theorem body_n {s : Bs} {c : UInt8} (h : s[0]? = some c) (hc : ¬ (c.toNat : Int) = 45) : s = numBody s := by
 have : c ≠ 45 := fun e => by subst e; exact hc rfl
 rw [numBody, if_neg (by simp [negB, h, this])]
theorem dig_of {c : UInt8} (h : ¬ (c.toNat : Int) < 48) (h2 : ¬ 57 < (c.toNat : Int)) : dig c := ⟨by omega, by omega⟩
theorem digs_bad {s : Bs} {k : Nat} {c : UInt8} (h : s[k]? = some c) (hc : (c.toNat : Int) < 48 ∨ 57 < (c.toNat : Int)) : false = digsB s := by
 symm; rw [digsB_false]
 rintro ⟨-, -, q⟩
 have := q c (List.mem_of_getElem? h)
 rw [dig_iff] at this; omega
theorem digs_zero {s : Bs} {c : UInt8} (h : s[0]? = some c) (hc : (c.toNat : Int) = 48) (hl : 1 < s.length) : false = digsB s := by
 symm; rw [digsB_false]
 rintro ⟨-, q, -⟩
 have : c = 48 := u8_of (n := 48) hc (by decide)
 subst this
 rcases q with q | q
 ·omega
 ·exact q h
theorem digs_ok {s : Bs} {k : Nat} (h0 : 0 < s.length) (hz : s.length ≤ 1 ∨ ∀ c, s[0]? = some c → ¬ (c.toNat : Int) = 48) (hk : s.length ≤ k) (h : ∀ c ∈ s.take k, dig c) : true = digsB s := by
 symm; rw [digsB_iff]
 rw [List.take_of_length_le hk] at h
 refine ⟨h0, ?_, h⟩
 rcases hz with hz | hz
 ·exact .inl hz
 ·exact .inr fun e => hz _ e rfl
theorem pos_of {s : Bs} (h : ¬ s = []) : 0 < s.length := List.length_pos_iff.2 h
theorem join_body {s v : Bs} (h : (∃ (c : UInt8) (v4 : Bs), ¬ s = [] ∧ s[0]? = some c ∧ ((c.toNat : Int) = 45 ∧ v4 = (s.take s.length).drop 1 ∨ ¬ (c.toNat : Int) = 45 ∧ v4 = s) ∧ v = v4) ∨ s = [] ∧ v = s) : v = numBody s := by
 rcases h with ⟨c, v4, h1, h2, h3, rfl⟩ | ⟨rfl, rfl⟩
 ·rcases h3 with ⟨h3, rfl⟩ | ⟨h3, rfl⟩
  ·rw [List.take_length]; exact body_y h2 h3
  ·exact body_n h2 h3
 ·rfl
theorem num_step {s : Bs} {k : Nat} {c : UInt8} (hd : digsB (numBody s) = true) (hc : (numBody s)[k]? = some c) : valD ((numBody s).take (k + 1)) = valD ((numBody s).take k) * 10 + (c.toNat - 48) ∧ dig c ∧ valD ((numBody s).take (k + 1)) ≤ valD (numBody s) := by
 refine ⟨by rw [take_succ_get hc, valD_snoc], ?_, valD_take _ _⟩
 rw [digsB_iff] at hd
 exact hd.2.2 c (List.mem_of_getElem? hc)
theorem num_over' {s : Bs} (hd : digsB (numBody s) = true) (hz : ¬ s = [45, 48]) (h : 9223372036854775808 < valD (numBody s)) : 0 = numV s ∧ 9 = numE s := by
 have := num_over (decB_iff.2 ⟨hd, hz⟩) (by unfold InI64 valI; split <;> omega)
 exact ⟨this.1.symm, this.2.symm⟩
theorem num_bad' {s : Bs} (h : ¬ (digsB (numBody s) = true ∧ s ≠ [45, 48])) : 0 = numV s ∧ 1 = numE s := by
 have := num_bad (decB_false.2 h)
 exact ⟨this.1.symm, this.2.symm⟩
theorem num_ok' {s : Bs} (hd : digsB (numBody s) = true) (hz : ¬ s = [45, 48]) {v : Int} (h : v = valI s) (hi : InI64 v) : v = numV s ∧ 0 = numE s := by
 have := num_ok (decB_iff.2 ⟨hd, hz⟩) (h ▸ hi)
 exact ⟨h.trans this.1.symm, this.2.symm⟩
theorem valI_y {s : Bs} (h : (numBody s).length < s.length) : valI s = -(valD (numBody s) : Int) := by rw [valI, if_pos ((body_lt s).1 h)]
theorem valI_n {s : Bs} (h : ¬ (numBody s).length < s.length) : valI s = valD (numBody s) := by rw [valI, if_neg (fun q => h ((body_lt s).2 q))]
theorem lt_of_at {s : Bs} {k : Nat} {c : UInt8} (h : s[k]? = some c) : k < s.length := (get_of h).1
section
variable {X : CallF}
theorem digits_run (s : Bs) (hs : s.length ≤ maxLen) : (R FT X).f 133 [strL s] = some (boolA (digsB s)) := by
 have hm := maxLen_i64
 refine R_wp (((Tr.b true Tr.nil).w.br ((Tr.y 0 fun (c4 : UInt8) ↦ (Tr.nil.br (Tr.inv (fun (k : Nat) ↦ St.mk [(0, strL s), (3, intA (↑k : Int))] []) (fun (k : Nat) ↦ k ≤ List.length s ∧ ∀ (c : UInt8), c ∈ List.take k s → dig c) (fun (k : Nat) ↦ List.length s - k) fun (k : Nat) ↦ ((Tr.y k fun (c13 : UInt8) ↦ (Tr.b true Tr.nil).w.br (Tr.y k fun (c17 : UInt8) ↦ (Tr.nil.br Tr.nil.w).w)).w.w.br Tr.nil).w).w).w).br (Tr.b false (Tr.inv (fun (k : Nat) ↦ St.mk [(0, strL s), (3, intA (↑k : Int))] []) (fun (k : Nat) ↦ k ≤ List.length s ∧ ∀ (c : UInt8), c ∈ List.take k s → dig c) (fun (k : Nat) ↦ List.length s - k) fun (k : Nat) ↦ ((Tr.y k fun (c31 : UInt8) ↦ (Tr.b true Tr.nil).w.br (Tr.y k fun (c35 : UInt8) ↦ (Tr.nil.br Tr.nil.w).w)).w.w.br Tr.nil).w).w).w)).w) rfl ?_
 refine Eq.mpr (by kernel_rfl : _ = ((decide (s = []) = true → true = true ∧ false = digsB s) ∧ (decide (s = []) = false → (decide ((1 : Int) < (↑(List.length s) : Int)) = true → (0 : Int) = 0 ∧ (0 : Nat) < List.length s ∧ ∀ (c4 : UInt8), s[(0 : Nat)]? = some c4 → (decide ((↑c4.toNat : Int) = 48) = true → false = digsB s) ∧ (decide ((↑c4.toNat : Int) = 48) = false → (∃ (j8 : Nat), ((s = s ∧ (0 : Int) = (↑j8 : Int) ∧ True) ∧ True) ∧ j8 ≤ List.length s ∧ ∀ (c9 : UInt8), c9 ∈ List.take j8 s → dig c9) ∧ ∀ (k : Nat), (k ≤ List.length s ∧ ∀ (c : UInt8), c ∈ List.take k s → dig c) → (decide ((↑k : Int) < (↑(List.length s) : Int)) = true → (↑k : Int) = (↑k : Int) ∧ k < List.length s ∧ ∀ (c13 : UInt8), s[k]? = some c13 → (decide ((↑c13.toNat : Int) < 48) = true → true = true ∧ false = digsB s) ∧ (decide ((↑c13.toNat : Int) < 48) = false → (↑k : Int) = (↑k : Int) ∧ k < List.length s ∧ ∀ (c17 : UInt8), s[k]? = some c17 → (decide ((57 : Int) < (↑c17.toNat : Int)) = true → false = digsB s) ∧ (decide ((57 : Int) < (↑c17.toNat : Int)) = false → InI64 ((↑k : Int) + 1) ∧ ∃ (j21 : Nat), ((s = s ∧ (↑k : Int) + 1 = (↑j21 : Int) ∧ True) ∧ True) ∧ (j21 ≤ List.length s ∧ ∀ (c22 : UInt8),
 c22 ∈ List.take j21 s → dig c22) ∧ List.length s - j21 < List.length s - k))) ∧ (decide ((↑k : Int) < (↑(List.length s) : Int)) = false → true = digsB s))) ∧ (decide ((1 : Int) < (↑(List.length s) : Int)) = false → false = false ∧ (∃ (j26 : Nat), ((s = s ∧ (0 : Int) = (↑j26 : Int) ∧ True) ∧ True) ∧ j26 ≤ List.length s ∧ ∀ (c27 : UInt8), c27 ∈ List.take j26 s → dig c27) ∧ ∀ (k : Nat), (k ≤ List.length s ∧ ∀ (c : UInt8), c ∈ List.take k s → dig c) → (decide ((↑k : Int) < (↑(List.length s) : Int)) = true → (↑k : Int) = (↑k : Int) ∧ k < List.length s ∧ ∀ (c31 : UInt8), s[k]? = some c31 → (decide ((↑c31.toNat : Int) < 48) = true → true = true ∧ false = digsB s) ∧ (decide ((↑c31.toNat : Int) < 48) = false → (↑k : Int) = (↑k : Int) ∧ k < List.length s ∧ ∀ (c35 : UInt8), s[k]? = some c35 → (decide ((57 : Int) < (↑c35.toNat : Int)) = true → false = digsB s) ∧ (decide ((57 : Int) < (↑c35.toNat : Int)) = false → InI64 ((↑k : Int) + 1) ∧ ∃ (j39 : Nat), ((s = s ∧ (↑k : Int) + 1 = (↑j39 : Int) ∧ True) ∧ True) ∧ (j39 ≤ List.length s ∧ ∀ (c40 : UInt8), c40 ∈ List.take j39 s → dig c40) ∧ List.length s - j39 < List.length s - k))) ∧ (decide ((↑k : Int) < (↑(List.length
 s) : Int)) = false → true = digsB s))))) ?_
 refine ⟨fun h1_ => have h1 := dT h1_; ⟨rfl, ?_⟩, fun h2_ => have h2 := dF h2_; ⟨fun h3_ => have h3 := dT h3_; ⟨rfl, (by omega), fun c4 => fun h5 => ⟨fun h6_ => have h6 := dT h6_; ?_, fun h7_ => have h7 := dF h7_; ⟨⟨(0 : Nat), ⟨⟨rfl, (by omega), trivial⟩, trivial⟩, ⟨(by omega), fun c9 => fun h10 => ?_⟩⟩, fun k => fun h11 => have h11a := h11.1; have h11b := h11.2; ⟨fun h12_ => have h12 := dT h12_; ⟨rfl, (by omega), fun c13 => fun h14 => ⟨fun h15_ => have h15 := dT h15_; ⟨rfl, ?_⟩, fun h16_ => have h16 := dF h16_; ⟨rfl, (by omega), fun c17 => fun h18 => ⟨fun h19_ => have h19 := dT h19_; ?_, fun h20_ => have h20 := dF h20_; ⟨(by unfold InI64; omega), ⟨k + (1 : Nat), ⟨⟨rfl, (by omega), trivial⟩, trivial⟩, ⟨⟨(by omega), fun c22 => fun h23 => ?_⟩, (by omega)⟩⟩⟩⟩⟩⟩⟩, fun h24_ => have h24 := dF h24_; ?_⟩⟩⟩⟩, fun h25_ => have h25 := dF h25_; ⟨rfl, ⟨(0 : Nat), ⟨⟨rfl, (by omega), trivial⟩, trivial⟩, ⟨(by omega), fun c27 => fun h28 => ?_⟩⟩, fun k => fun h29 => have h29a := h29.1; have h29b := h29.2; ⟨fun h30_ => have h30 := dT h30_; ⟨rfl, (by omega), fun c31 => fun h32 => ⟨fun h33_ => have h33 := dT h33_; ⟨rfl, ?_⟩, fun h34_ => have h34 := dF h34_; ⟨rfl, (by omega), fun c35 => fun h36 => ⟨fun h37_ => have h37 := dT h37_; ?_, fun h38_ => have h38 := dF h38_; ⟨(by unfold InI64; omega), ⟨k + (1 : Nat), ⟨⟨rfl, (by omega), trivial⟩, trivial⟩, ⟨⟨(by omega), fun c40 => fun h41 => ?_⟩, (by omega)⟩⟩⟩⟩⟩⟩⟩, fun h42_ => have h42 := dF h42_; ?_⟩⟩⟩⟩
 ·subst h1; rfl
 ·exact digs_zero h5 h6 (by omega)
 ·simp at h10
 ·exact digs_bad h14 (.inl h15)
 ·exact digs_bad h18 (.inr h19)
 ·exact all_of h18 h11b (dig_of (by rw [same_at h14 h18]; exact h16) h20) _ h23
 ·exact digs_ok (by omega) (.inr fun c hc => same_at h5 hc ▸ h7) (by omega) h11b
 ·simp at h28
 ·exact digs_bad h32 (.inl h33)
 ·exact digs_bad h36 (.inr h37)
 ·exact all_of h36 h29b (dig_of (by rw [same_at h32 h36]; exact h34) h38) _ h41
 ·exact digs_ok (pos_of h2) (.inl (by omega)) (by omega) h29b
theorem dec_digs {s : Bs} (h : false = digsB (numBody s)) : false = decB s := by rw [decB, ← h]; rfl
theorem decimal_run (s : Bs) (hs : s.length ≤ maxLen) : (R FT X).f 131 [strL s] = some (boolA (decB s)) := by
 have hm := maxLen_i64
 have hb := body_le s
 refine R_wp (Tr.cut (fun (v1 : Cut (1 : Nat) Bs) ↦ St.mk [(0, strL s), (3, strL v1)] []) (fun (v1 : Cut (1 : Nat) Bs) ↦ (∃ (c2 : UInt8), ∃ (v4 : Cut (2 : Nat) Bs), ¬s = [] ∧ s[(0 : Nat)]? = some c2 ∧ ((↑c2.toNat : Int) = 45 ∧ v4 = List.drop (1 : Nat) (List.take (List.length s) s) ∨ ¬(↑c2.toNat : Int) = 45 ∧ v4 = s) ∧ v1 = v4) ∨ s = [] ∧ v1 = s) ((Tr.y 0 fun (c2 : UInt8) ↦ Tr.cut (fun (v4 : Cut (2 : Nat) Bs) ↦ St.mk [(0, strL s), (3, strL v4)] []) (fun (v4 : Cut (2 : Nat) Bs) ↦ (↑c2.toNat : Int) = 45 ∧ v4 = List.drop (1 : Nat) (List.take (List.length s) s) ∨ ¬(↑c2.toNat : Int) = 45 ∧ v4 = s) ((Tr.sl (1 : Nat) (List.length s) Tr.nil).br Tr.nil) fun (v : Cut (2 : Nat) Bs) ↦ Tr.nil).br (Tr.b false Tr.nil).w) fun (v1 : Cut (1 : Nat) Bs) ↦ Tr.cut (fun (v15 : Cut (4 : Nat) Unit) ↦ St.mk [(3, AV.val (Value.string (ofL v1)))] []) (fun (v15 : Cut (4 : Nat) Unit) ↦ (∃ (c17 : UInt8), ¬v1 = [] ∧ v1[(0 : Nat)]? = some c17 ∧ (↑c17.toNat : Int) = 48 ∧ s = [(48 : UInt8)]) ∨ ∃ (c17 : UInt8), ¬v1 = [] ∧ v1[(0 : Nat)]? = some c17 ∧ ¬(↑c17.toNat : Int) = 48) ((Tr.b true Tr.nil).w.br (Tr.y 0 fun (c17 : UInt8) ↦ (Tr.nil.br
 Tr.nil).w.br (Tr.b false Tr.nil).w)) fun (v15 : Cut (4 : Nat) Unit) ↦ (Tr.inv (fun (k : Nat) ↦ St.mk [(3, strL (numBody s)), (27, intA (↑(List.length (numBody s)) : Int)), (28, intA (↑k : Int))] []) (fun (k : Nat) ↦ k ≤ List.length (numBody s) ∧ ∀ (c : UInt8), c ∈ List.take k (numBody s) → dig c) (fun (k : Nat) ↦ List.length (numBody s) - k) fun (k : Nat) ↦ (Tr.y k fun (c32 : UInt8) ↦ (Tr.b true Tr.nil).w.br (Tr.y k fun (c36 : UInt8) ↦ (Tr.nil.br Tr.nil.w).w)).w.w.br Tr.nil).w) rfl ?_
 refine Eq.mpr (by kernel_rfl : _ = ((((!decide (s = [])) = true → (0 : Int) = 0 ∧ (0 : Nat) < List.length s ∧ ∀ (c2 : UInt8), s[(0 : Nat)]? = some c2 → ((decide ((↑c2.toNat : Int) = 45) = true → (1 : Int) = 1 ∧ (↑(List.length s) : Int) = (↑(List.length s) : Int) ∧ (1 : Nat) ≤ List.length s ∧ List.length s ≤ List.length s ∧ ∃ (m2_5 : Cut (2 : Nat) Bs), ((s = s ∧ List.drop (1 : Nat) (List.take (List.length s) s) = m2_5 ∧ True) ∧ True) ∧ ((↑c2.toNat : Int) = 45 ∧ m2_5 = List.drop (1 : Nat) (List.take (List.length s) s) ∨ ¬(↑c2.toNat : Int) = 45 ∧ m2_5 = s)) ∧ (decide ((↑c2.toNat : Int) = 45) = false → ∃ (m2_7 : Cut (2 : Nat) Bs), ((s = s ∧ s = m2_7 ∧ True) ∧ True) ∧ ((↑c2.toNat : Int) = 45 ∧ m2_7 = List.drop (1 : Nat) (List.take (List.length s) s) ∨ ¬(↑c2.toNat : Int) = 45 ∧ m2_7 = s))) ∧ ∀ (v4 : Cut (2 : Nat) Bs), (↑c2.toNat : Int) = 45 ∧ v4 = List.drop (1 : Nat) (List.take (List.length s) s) ∨ ¬(↑c2.toNat : Int) = 45 ∧ v4 = s → ∃ (m1_10 : Cut (1 : Nat) Bs), ((s = s ∧ v4 = m1_10 ∧ True) ∧ True) ∧ ((∃ (c2 : UInt8), ∃ (v4 : Cut (2 : Nat) Bs), ¬s = [] ∧ s[(0 : Nat)]? = some c2 ∧ ((↑c2.toNat : Int) = 45 ∧ v4 = List.drop (1 : Nat) (List.take
 (List.length s) s) ∨ ¬(↑c2.toNat : Int) = 45 ∧ v4 = s) ∧ m1_10 = v4) ∨ s = [] ∧ m1_10 = s)) ∧ ((!decide (s = [])) = false → false = false ∧ ∃ (m1_12 : Cut (1 : Nat) Bs), ((s = s ∧ s = m1_12 ∧ True) ∧ True) ∧ ((∃ (c2 : UInt8), ∃ (v4 : Cut (2 : Nat) Bs), ¬s = [] ∧ s[(0 : Nat)]? = some c2 ∧ ((↑c2.toNat : Int) = 45 ∧ v4 = List.drop (1 : Nat) (List.take (List.length s) s) ∨ ¬(↑c2.toNat : Int) = 45 ∧ v4 = s) ∧ m1_12 = v4) ∨ s = [] ∧ m1_12 = s))) ∧ ∀ (v1 : Cut (1 : Nat) Bs), (∃ (c2 : UInt8), ∃ (v4 : Cut (2 : Nat) Bs), ¬s = [] ∧ s[(0 : Nat)]? = some c2 ∧ ((↑c2.toNat : Int) = 45 ∧ v4 = List.drop (1 : Nat) (List.take (List.length s) s) ∨ ¬(↑c2.toNat : Int) = 45 ∧ v4 = s) ∧ v1 = v4) ∨ s = [] ∧ v1 = s → ((decide (v1 = []) = true → true = true ∧ false = decB s) ∧ (decide (v1 = []) = false → (0 : Int) = 0 ∧ (0 : Nat) < List.length v1 ∧ ∀ (c17 : UInt8), v1[(0 : Nat)]? = some c17 → (decide ((↑c17.toNat : Int) = 48) = true → ((!decide (s = [(48 : UInt8)])) = true → false = decB s) ∧ ((!decide (s = [(48 : UInt8)])) = false → ∃ (m4_22 : Cut (4 : Nat) Unit), ((v1 = v1 ∧ True) ∧ True) ∧ ((∃ (c17 : UInt8), ¬v1 = [] ∧ v1[(0 : Nat)]? = some c17 ∧ (↑c17.toNat
 : Int) = 48 ∧ s = [(48 : UInt8)]) ∨ ∃ (c17 : UInt8), ¬v1 = [] ∧ v1[(0 : Nat)]? = some c17 ∧ ¬(↑c17.toNat : Int) = 48))) ∧ (decide ((↑c17.toNat : Int) = 48) = false → false = false ∧ ∃ (m4_24 : Cut (4 : Nat) Unit), ((v1 = v1 ∧ True) ∧ True) ∧ ((∃ (c17 : UInt8), ¬v1 = [] ∧ v1[(0 : Nat)]? = some c17 ∧ (↑c17.toNat : Int) = 48 ∧ s = [(48 : UInt8)]) ∨ ∃ (c17 : UInt8), ¬v1 = [] ∧ v1[(0 : Nat)]? = some c17 ∧ ¬(↑c17.toNat : Int) = 48)))) ∧ ∀ (v15 : Cut (4 : Nat) Unit), ((∃ (c17 : UInt8), ¬v1 = [] ∧ v1[(0 : Nat)]? = some c17 ∧ (↑c17.toNat : Int) = 48 ∧ s = [(48 : UInt8)]) ∨ ∃ (c17 : UInt8), ¬v1 = [] ∧ v1[(0 : Nat)]? = some c17 ∧ ¬(↑c17.toNat : Int) = 48) → (∃ (j27 : Nat), ((v1 = numBody s ∧ (↑(List.length v1) : Int) = (↑(List.length (numBody s)) : Int) ∧ (0 : Int) = (↑j27 : Int) ∧ True) ∧ True) ∧ j27 ≤ List.length (numBody s) ∧ ∀ (c28 : UInt8), c28 ∈ List.take j27 (numBody s) → dig c28) ∧ ∀ (k : Nat), (k ≤ List.length (numBody s) ∧ ∀ (c : UInt8), c ∈ List.take k (numBody s) → dig c) → (decide ((↑k : Int) < (↑(List.length (numBody s)) : Int)) = true → (↑k : Int) = (↑k : Int) ∧ k < List.length (numBody s) ∧ ∀ (c32 : UInt8), (numBody s)[k]?
 = some c32 → (decide ((↑c32.toNat : Int) < 48) = true → true = true ∧ false = decB s) ∧ (decide ((↑c32.toNat : Int) < 48) = false → (↑k : Int) = (↑k : Int) ∧ k < List.length (numBody s) ∧ ∀ (c36 : UInt8), (numBody s)[k]? = some c36 → (decide ((57 : Int) < (↑c36.toNat : Int)) = true → false = decB s) ∧ (decide ((57 : Int) < (↑c36.toNat : Int)) = false → InI64 ((↑k : Int) + 1) ∧ ∃ (j40 : Nat), ((numBody s = numBody s ∧ (↑(List.length (numBody s)) : Int) = (↑(List.length (numBody s)) : Int) ∧ (↑k : Int) + 1 = (↑j40 : Int) ∧ True) ∧ True) ∧ (j40 ≤ List.length (numBody s) ∧ ∀ (c41 : UInt8), c41 ∈ List.take j40 (numBody s) → dig c41) ∧ List.length (numBody s) - j40 < List.length (numBody s) - k))) ∧ (decide ((↑k : Int) < (↑(List.length (numBody s)) : Int)) = false → true = decB s))) ?_
 refine ⟨⟨fun h1_ => have h1 := dnT h1_; ⟨rfl, ?_, fun c2 => fun h3 => ⟨⟨fun h4_ => have h4 := dT h4_; ⟨rfl, rfl, ?_, (by omega), ⟨List.drop (1 : Nat) (List.take (List.length s) s), ⟨⟨(by first | rfl | simp), ⟨(by first | rfl | simp), trivial⟩⟩, trivial⟩, Or.inl (⟨h4, rfl⟩)⟩⟩, fun h6_ => have h6 := dF h6_; ⟨s, ⟨⟨(by first | rfl | simp), ⟨(by first | rfl | simp), trivial⟩⟩, trivial⟩, Or.inr (⟨h6, rfl⟩)⟩⟩, fun v4 => fun h9 => ⟨v4, ⟨⟨(by first | rfl | simp), ⟨(by first | rfl | simp), trivial⟩⟩, trivial⟩, Or.inl (⟨c2, v4, h1, h3, h9, rfl⟩)⟩⟩⟩, fun h11_ => have h11 := dnF h11_; ⟨rfl, ⟨s, ⟨⟨(by first | rfl | simp), ⟨(by first | rfl | simp), trivial⟩⟩, trivial⟩, Or.inr (⟨h11, rfl⟩)⟩⟩⟩, fun v1 => fun h14 => ⟨⟨fun h15_ => have h15 := dT h15_; ⟨rfl, ?_⟩, fun h16_ => have h16 := dF h16_; ⟨rfl, ?_, fun c17 => fun h18 => ⟨fun h19_ => have h19 := dT h19_; ⟨fun h20_ => have h20 := dnT h20_; ?_, fun h21_ => have h21 := dnF h21_; ⟨(), ⟨⟨(by first | rfl | simp), trivial⟩, trivial⟩, Or.inl (⟨c17, h16, h18, h19, h21⟩)⟩⟩, fun h23_ => have h23 := dF h23_; ⟨rfl, ⟨(), ⟨⟨(by first | rfl | simp), trivial⟩, trivial⟩, Or.inr (⟨c17, h16, h18, h23⟩)⟩⟩⟩⟩⟩, fun v15 => fun h26 => ⟨⟨(0 : Nat), ⟨⟨?_, ?_, (by omega), trivial⟩, trivial⟩, ⟨(by omega), fun c28 => fun h29 => ?_⟩⟩, fun k => fun h30 => have h30a := h30.1; have h30b := h30.2; ⟨fun h31_ => have h31 := dT h31_; ⟨rfl, (by omega), fun c32 => fun h33 => ⟨fun h34_ => have h34 := dT h34_; ⟨rfl, ?_⟩, fun h35_ => have h35 := dF h35_; ⟨rfl, (by omega), fun c36 => fun h37 => ⟨fun h38_ => have h38 := dT h38_; ?_, fun h39_ => have h39 := dF h39_; ⟨(by unfold InI64; omega), ⟨k + (1 : Nat), ⟨⟨rfl, rfl, (by omega), trivial⟩, trivial⟩, ⟨⟨(by omega), fun c41 => fun h42 => ?_⟩, (by omega)⟩⟩⟩⟩⟩⟩⟩, fun h43_ => have h43 := dF h43_; ?_⟩⟩⟩⟩
 ·exact pos_of h1
 ·exact lt_of_at h3
 ·obtain rfl := join_body h14
  exact dec_digs (by rw [h15]; rfl)
 ·exact pos_of h16
 all_goals (try obtain rfl := join_body h14)
 ·symm; rw [decB_false]
  rintro ⟨q1, q2⟩
  rw [digsB_iff] at q1
  have h48 : c17 = 48 := u8_of (n := 48) h19 (by decide)
  subst h48
  have h1 : (numBody s).length = 1 := by
   have := lt_of_at h18
   rcases q1.2.1 with q | q
   ·omega
   ·exact absurd h18 q
  have h2 : numBody s = [48] := by
   match hb : numBody s, h1 with
   | [x], _ => rw [hb] at h18; simp at h18; rw [h18]
  by_cases hn : negB s = true
  ·apply q2
   cases s with
   | nil => simp [negB] at hn
   | cons c r =>
    simp [negB] at hn
    subst hn
    rw [numBody, if_pos (by simp [negB])] at h2
    simp at h2; rw [h2]
  ·rw [numBody, if_neg hn] at h2; exact h20 h2
 ·rfl
 ·rfl
 ·simp at h29
 ·exact dec_digs (digs_bad h33 (.inl h34))
 ·exact dec_digs (digs_bad h37 (.inr h38))
 ·exact all_of h37 h30b (dig_of (by rw [same_at h33 h37]; exact h35) h39) _ h42
 ·rcases h26 with ⟨c, q1, q2, q3, rfl⟩ | ⟨c, q1, q2, q3⟩
  ·rfl
  ·symm; rw [decB_iff]
   refine ⟨(digs_ok (pos_of q1) (.inr fun x hx => by rw [same_at q2 hx]; exact q3) (by omega) h30b).symm, fun e => ?_⟩
   subst e
   cases q2
   exact q3 rfl
theorem refParse_run (s : Bs) (hs : s.length ≤ maxLen) : (R FT X).f 124 [strL s] = some (.tuple [intA (numV s), intA (numE s)]) := by
 have hm := maxLen_i64
 have hb := body_le s
 refine R_wp (Tr.cut (fun (v1 : Cut (1 : Nat) Bs) ↦ St.mk [(0, strL s), (4, strL v1)] []) (fun (v1 : Cut (1 : Nat) Bs) ↦ (∃ (c2 : UInt8), ∃ (v4 : Cut (2 : Nat) Bs), ¬s = [] ∧ s[(0 : Nat)]? = some c2 ∧ ((↑c2.toNat : Int) = 45 ∧ v4 = List.drop (1 : Nat) (List.take (List.length s) s) ∨ ¬(↑c2.toNat : Int) = 45 ∧ v4 = s) ∧ v1 = v4) ∨ s = [] ∧ v1 = s) ((Tr.y 0 fun (c2 : UInt8) ↦ Tr.cut (fun (v4 : Cut (2 : Nat) Bs) ↦ St.mk [(0, strL s), (4, strL v4)] []) (fun (v4 : Cut (2 : Nat) Bs) ↦ (↑c2.toNat : Int) = 45 ∧ v4 = List.drop (1 : Nat) (List.take (List.length s) s) ∨ ¬(↑c2.toNat : Int) = 45 ∧ v4 = s) ((Tr.sl (1 : Nat) (List.length s) Tr.nil).br Tr.nil) fun (v : Cut (2 : Nat) Bs) ↦ Tr.nil).br (Tr.b false Tr.nil).w) fun (v1 : Cut (1 : Nat) Bs) ↦ (Tr.c (boolA (digsB v1)) ((Tr.b true Tr.nil).w.br (Tr.nil.br (Tr.inv (fun (k : Nat) ↦ St.mk [(0, strL s), (4, strL (numBody s)), (5, intA (-(↑(valD (List.take k (numBody s))) : Int))), (6, intA (↑k : Int))] []) (fun (k : Nat) ↦ k ≤ List.length (numBody s) ∧ valD (List.take k (numBody s)) ≤ 9223372036854775808) (fun (k : Nat) ↦ List.length (numBody s) - k)
 fun (k : Nat) ↦ ((Tr.y k fun (c22 : UInt8) ↦ (Tr.nil.br Tr.nil.w.w.w).w.w.w.w.w).w.br (Tr.nil.br (Tr.nil.br Tr.nil.w).w.w).w.w).w).w).w)).w) rfl ?_
 refine Eq.mpr (by kernel_rfl : _ = ((((!decide (s = [])) = true → (0 : Int) = 0 ∧ (0 : Nat) < List.length s ∧ ∀ (c2 : UInt8), s[(0 : Nat)]? = some c2 → ((decide ((↑c2.toNat : Int) = 45) = true → (1 : Int) = 1 ∧ (↑(List.length s) : Int) = (↑(List.length s) : Int) ∧ (1 : Nat) ≤ List.length s ∧ List.length s ≤ List.length s ∧ ∃ (m2_5 : Cut (2 : Nat) Bs), ((s = s ∧ List.drop (1 : Nat) (List.take (List.length s) s) = m2_5 ∧ True) ∧ True) ∧ ((↑c2.toNat : Int) = 45 ∧ m2_5 = List.drop (1 : Nat) (List.take (List.length s) s) ∨ ¬(↑c2.toNat : Int) = 45 ∧ m2_5 = s)) ∧ (decide ((↑c2.toNat : Int) = 45) = false → ∃ (m2_7 : Cut (2 : Nat) Bs), ((s = s ∧ s = m2_7 ∧ True) ∧ True) ∧ ((↑c2.toNat : Int) = 45 ∧ m2_7 = List.drop (1 : Nat) (List.take (List.length s) s) ∨ ¬(↑c2.toNat : Int) = 45 ∧ m2_7 = s))) ∧ ∀ (v4 : Cut (2 : Nat) Bs), (↑c2.toNat : Int) = 45 ∧ v4 = List.drop (1 : Nat) (List.take (List.length s) s) ∨ ¬(↑c2.toNat : Int) = 45 ∧ v4 = s → ∃ (m1_10 : Cut (1 : Nat) Bs), ((s = s ∧ v4 = m1_10 ∧ True) ∧ True) ∧ ((∃ (c2 : UInt8), ∃ (v4 : Cut (2 : Nat) Bs), ¬s = [] ∧ s[(0 : Nat)]? = some c2 ∧ ((↑c2.toNat : Int) = 45 ∧ v4 = List.drop (1 : Nat) (List.take
 (List.length s) s) ∨ ¬(↑c2.toNat : Int) = 45 ∧ v4 = s) ∧ m1_10 = v4) ∨ s = [] ∧ m1_10 = s)) ∧ ((!decide (s = [])) = false → false = false ∧ ∃ (m1_12 : Cut (1 : Nat) Bs), ((s = s ∧ s = m1_12 ∧ True) ∧ True) ∧ ((∃ (c2 : UInt8), ∃ (v4 : Cut (2 : Nat) Bs), ¬s = [] ∧ s[(0 : Nat)]? = some c2 ∧ ((↑c2.toNat : Int) = 45 ∧ v4 = List.drop (1 : Nat) (List.take (List.length s) s) ∨ ¬(↑c2.toNat : Int) = 45 ∧ v4 = s) ∧ m1_12 = v4) ∨ s = [] ∧ m1_12 = s))) ∧ ∀ (v1 : Cut (1 : Nat) Bs), (∃ (c2 : UInt8), ∃ (v4 : Cut (2 : Nat) Bs), ¬s = [] ∧ s[(0 : Nat)]? = some c2 ∧ ((↑c2.toNat : Int) = 45 ∧ v4 = List.drop (1 : Nat) (List.take (List.length s) s) ∨ ¬(↑c2.toNat : Int) = 45 ∧ v4 = s) ∧ v1 = v4) ∨ s = [] ∧ v1 = s → (R FT X).f 133 [strL v1] = some (boolA (digsB v1)) ∧ ((!digsB v1) = true → true = true ∧ (0 : Int) = numV s ∧ (1 : Int) = numE s) ∧ ((!digsB v1) = false → (decide (s = [(45 : UInt8), (48 : UInt8)]) = true → (0 : Int) = numV s ∧ (1 : Int) = numE s) ∧ (decide (s = [(45 : UInt8), (48 : UInt8)]) = false → (∃ (j19 : Nat), ((s = s ∧ v1 = numBody s ∧ (0 : Int) = -(↑(valD (List.take j19 (numBody s))) : Int) ∧ (0 : Int) = (↑j19 : Int) ∧ True) ∧ True) ∧ j19
 ≤ List.length (numBody s) ∧ valD (List.take j19 (numBody s)) ≤ 9223372036854775808) ∧ ∀ (k : Nat), k ≤ List.length (numBody s) ∧ valD (List.take k (numBody s)) ≤ 9223372036854775808 → (decide ((↑k : Int) < (↑(List.length (numBody s)) : Int)) = true → (↑k : Int) = (↑k : Int) ∧ k < List.length (numBody s) ∧ ∀ (c22 : UInt8), (numBody s)[k]? = some c22 → InI64 (↑(toU8 ((↑c22.toNat : Int) - 48)).toNat : Int) ∧ InI64 ((-9223372036854775808 : Int) + (↑(toU8 ((↑c22.toNat : Int) - 48)).toNat : Int)) ∧ (10 : Int) ≠ 0 ∧ InI64 (((-9223372036854775808 : Int) + (↑(toU8 ((↑c22.toNat : Int) - 48)).toNat : Int)).tdiv 10) ∧ IntKind.i64 = IntKind.i64 ∧ (decide (-(↑(valD (List.take k (numBody s))) : Int) < ((-9223372036854775808 : Int) + (↑(toU8 ((↑c22.toNat : Int) - 48)).toNat : Int)).tdiv 10) = true → (0 : Int) = numV s ∧ (9 : Int) = numE s) ∧ (decide (-(↑(valD (List.take k (numBody s))) : Int) < ((-9223372036854775808 : Int) + (↑(toU8 ((↑c22.toNat : Int) - 48)).toNat : Int)).tdiv 10) = false → InI64 ((10 : Int) * -(↑(valD (List.take k (numBody s))) : Int)) ∧ InI64 ((10 : Int) * -(↑(valD (List.take k (numBody s)))
 : Int) - (↑(toU8 ((↑c22.toNat : Int) - 48)).toNat : Int)) ∧ InI64 ((↑k : Int) + 1) ∧ ∃ (j26 : Nat), ((s = s ∧ numBody s = numBody s ∧ (10 : Int) * -(↑(valD (List.take k (numBody s))) : Int) - (↑(toU8 ((↑c22.toNat : Int) - 48)).toNat : Int) = -(↑(valD (List.take j26 (numBody s))) : Int) ∧ (↑k : Int) + 1 = (↑j26 : Int) ∧ True) ∧ True) ∧ (j26 ≤ List.length (numBody s) ∧ valD (List.take j26 (numBody s)) ≤ 9223372036854775808) ∧ List.length (numBody s) - j26 < List.length (numBody s) - k)) ∧ (decide ((↑k : Int) < (↑(List.length (numBody s)) : Int)) = false → (decide ((↑(List.length (numBody s)) : Int) < (↑(List.length s) : Int)) = true → -(↑(valD (List.take k (numBody s))) : Int) = numV s ∧ (0 : Int) = numE s) ∧ (decide ((↑(List.length (numBody s)) : Int) < (↑(List.length s) : Int)) = false → (decide (-(↑(valD (List.take k (numBody s))) : Int) = (-9223372036854775808 : Int)) = true → (0 : Int) = numV s ∧ (9 : Int) = numE s) ∧ (decide (-(↑(valD (List.take k (numBody s))) : Int) = (-9223372036854775808 : Int)) = false → InI64 ((0 : Int) - -(↑(valD (List.take k (numBody s))) : Int)) ∧ (0 : Int) - -(↑(valD (List.take k (numBody s))) : Int) = numV s ∧ (0
 : Int) = numE s))))))) ?_
 refine ⟨⟨fun h1_ => have h1 := dnT h1_; ⟨rfl, ?_, fun c2 => fun h3 => ⟨⟨fun h4_ => have h4 := dT h4_; ⟨rfl, rfl, ?_, (by omega), ⟨List.drop (1 : Nat) (List.take (List.length s) s), ⟨⟨(by first | rfl | simp), ⟨(by first | rfl | simp), trivial⟩⟩, trivial⟩, Or.inl (⟨h4, rfl⟩)⟩⟩, fun h6_ => have h6 := dF h6_; ⟨s, ⟨⟨(by first | rfl | simp), ⟨(by first | rfl | simp), trivial⟩⟩, trivial⟩, Or.inr (⟨h6, rfl⟩)⟩⟩, fun v4 => fun h9 => ⟨v4, ⟨⟨(by first | rfl | simp), ⟨(by first | rfl | simp), trivial⟩⟩, trivial⟩, Or.inl (⟨c2, v4, h1, h3, h9, rfl⟩)⟩⟩⟩, fun h11_ => have h11 := dnF h11_; ⟨rfl, ⟨s, ⟨⟨(by first | rfl | simp), ⟨(by first | rfl | simp), trivial⟩⟩, trivial⟩, Or.inr (⟨h11, rfl⟩)⟩⟩⟩, fun v1 => fun h14 => ⟨(digits_run _ ?_), fun h15_ => have h15 := nT h15_; ⟨rfl, ?_, ?_⟩, fun h16_ => have h16 := nF h16_; ⟨fun h17_ => have h17 := dT h17_; ⟨?_, ?_⟩, fun h18_ => have h18 := dF h18_; ⟨⟨(0 : Nat), ⟨⟨rfl, ?_, rfl, (by omega), trivial⟩, trivial⟩, ⟨(by omega), ?_⟩⟩, fun k => fun h20 => have h20a := h20.1; have h20b := h20.2; ⟨fun h21_ => have h21 := dT h21_; ⟨rfl, (by omega), fun c22 => fun h23 => ⟨(by have := u8_lt c22; have := toU8_mod ((↑c22.toNat : Int) - (48 : Int)); unfold InI64; omega), (by have := u8_lt c22; have := toU8_mod ((↑c22.toNat : Int) - (48 : Int)); unfold InI64; omega), (by omega), (by have := u8_lt c22; have := toU8_mod ((↑c22.toNat : Int) - (48 : Int)); have := tdiv_lit ((-9223372036854775808 : Int) + (↑(toU8 ((↑c22.toNat : Int) - (48 : Int))).toNat : Int)) 10 (by decide); unfold InI64; omega), rfl, fun h24_ => have h24 := dT h24_; ⟨?_, ?_⟩, fun h25_ => have h25 := dF h25_; ⟨(by have := u8_lt c22; have := toU8_mod ((↑c22.toNat : Int) - (48 : Int)); have := tdiv_lit ((-9223372036854775808 : Int) + (↑(toU8 ((↑c22.toNat : Int) - (48 : Int))).toNat : Int)) 10 (by decide); unfold InI64; omega), (by have := u8_lt c22; have := tdiv_lit ((-9223372036854775808 : Int) + (↑(toU8 ((↑c22.toNat : Int) - (48 : Int))).toNat : Int)) 10 (by decide); have := toU8_mod ((↑c22.toNat : Int) - (48 : Int)); unfold InI64; omega), (by unfold InI64; omega), ⟨k + (1 : Nat), ⟨⟨rfl, rfl, ?_, (by omega), trivial⟩, trivial⟩, ⟨⟨(by omega), ?_⟩, (by omega)⟩⟩⟩⟩⟩, fun h27_ => have h27 := dF h27_; ⟨fun h28_ => have h28 := dT h28_; ⟨?_, ?_⟩, fun h29_ => have h29 := dF h29_; ⟨fun h30_ => have h30 := dT h30_; ⟨?_, ?_⟩, fun h31_ => have h31 := dF h31_; ⟨(by unfold InI64; omega), ?_, ?_⟩⟩⟩⟩⟩⟩⟩⟩
 ·exact pos_of h1
 ·exact lt_of_at h3
 all_goals (try obtain rfl := join_body h14)
 ·omega
 iterate 2 · first | exact (num_bad' (fun q => by rw [q.1] at h15; cases h15)).1 | exact (num_bad' (fun q => by rw [q.1] at h15; cases h15)).2
 iterate 2 · first | exact (num_bad' (fun q => q.2 h17)).1 | exact (num_bad' (fun q => q.2 h17)).2
 ·rfl
 ·simp [valD, valF]
 iterate 2
  ·obtain ⟨q1, q2, q3⟩ := num_step h16 h23
   have q4 := toU8_mod (↑c22.toNat - 48)
   have q5 := tdiv_lit (-9223372036854775808 + ↑(toU8 (↑c22.toNat - 48)).toNat) 10 (by decide)
   have := num_over' h16 h18 (by rw [dig_iff] at q2; omega)
   first | exact this.1 | exact this.2
 ·obtain ⟨q1, q2, q3⟩ := num_step h16 h23
  have q4 := toU8_mod (↑c22.toNat - 48)
  rw [q1]
  rw [dig_iff] at q2; omega
 ·obtain ⟨q1, q2, q3⟩ := num_step h16 h23
  have q4 := toU8_mod (↑c22.toNat - 48)
  have q5 := tdiv_lit (-9223372036854775808 + ↑(toU8 (↑c22.toNat - 48)).toNat) 10 (by decide)
  rw [q1]
  rw [dig_iff] at q2; omega
 all_goals
  rw [List.take_of_length_le (by omega)] at h20b
  try rw [List.take_of_length_le (by omega)] at h30
  try rw [List.take_of_length_le (by omega)] at h31
  try rw [List.take_of_length_le (by omega)]
 iterate 2
  ·have := num_ok' h16 h18 (valI_y (by omega)).symm (by unfold InI64; omega)
   first | exact this.1 | exact this.2
 iterate 2
  ·have := num_over (decB_iff.2 ⟨h16, h18⟩) (by rw [valI_n (by omega)]; unfold InI64; omega)
   first | exact this.1.symm | exact this.2.symm
 iterate 2
  ·have := num_ok' h16 h18 (v := 0 - -(valD (numBody s) : Int)) (by rw [valI_n (by omega)]; omega) (by unfold InI64; omega)
   first | exact this.1 | exact this.2
end
theorem lmx {n : Nat} (h : n ≤ 281474976710656) : n ≤ maxLen := Nat.le_trans h (by decide +kernel)
structure NumC (X : CallF) : Prop where
 itoa : ∀ n : Int, InI64 n → (R FT X).f 95 [intA n] = some (strL (Lib.itoa n))
 ok : ∀ s : Bs, s.length ≤ 281474976710656 → decB s = true → InI64 (valI s) → (R FT X).f 132 [strL s] = some (.tuple [intA (valI s), .val .nilIface])
 over : ∀ s : Bs, s.length ≤ 281474976710656 → decB s = true → ¬ InI64 (valI s) → (R FT X).f 132 [strL s] = some (.tuple [intA (Lib.atoiSat s), .nif])
section
variable {X : CallF}
theorem parse_n (s : Bs) (hs : s.length ≤ maxLen) (hd : decB s = false) : (R FT X).f 123 [strL s] = some (.tuple [intA 0, intA 1]) := by
 have hm := maxLen_i64
 refine R_wp ((Tr.c (boolA (decB s)) (Tr.b true Tr.nil).w).w) rfl ?_
 refine Eq.mpr (by kernel_rfl : _ = ((R FT X).f 131 [strL s] = some (boolA (decB s)) ∧ (!decB s) = true ∧ (0 : Int) = 0 ∧ (1 : Int) = 1)) ?_
 refine ⟨(decimal_run _ hs), (nTi hd), rfl, rfl⟩
theorem parse_y (s : Bs) (hs : s.length ≤ maxLen) (hd : decB s = true) (v : Int) (ra : (R FT X).f 132 [strL s] = some (.tuple [intA v, .val .nilIface])) : (R FT X).f 123 [strL s] = some (.tuple [intA v, intA 0]) := by
 have hm := maxLen_i64
 refine R_wp ((Tr.c (boolA (decB s)) (Tr.b false (Tr.c (AV.tuple [intA v, AV.val Value.nilIface]) (Tr.b false Tr.nil).w.w)).w).w) rfl ?_
 refine Eq.mpr (by kernel_rfl : _ = ((R FT X).f 131 [strL s] = some (boolA (decB s)) ∧ (!decB s) = false ∧ (R FT X).f 132 [strL s] = some (AV.tuple [intA v, AV.val Value.nilIface]) ∧ false = false ∧ v = v ∧ (0 : Int) = 0)) ?_
 refine ⟨(decimal_run _ hs), (nFi hd), ra, rfl, rfl, rfl⟩
theorem parse_o (s : Bs) (hs : s.length ≤ maxLen) (hd : decB s = true) (v : Int) (ra : (R FT X).f 132 [strL s] = some (.tuple [intA v, .nif])) : (R FT X).f 123 [strL s] = some (.tuple [intA 0, intA 9]) := by
 have hm := maxLen_i64
 refine R_wp ((Tr.c (boolA (decB s)) (Tr.b false (Tr.c (AV.tuple [intA v, AV.nif]) (Tr.b true Tr.nil).w.w)).w).w) rfl ?_
 refine Eq.mpr (by kernel_rfl : _ = ((R FT X).f 131 [strL s] = some (boolA (decB s)) ∧ (!decB s) = false ∧ (R FT X).f 132 [strL s] = some (AV.tuple [intA v, AV.nif]) ∧ true = true ∧ (0 : Int) = 0 ∧ (9 : Int) = 9)) ?_
 refine ⟨(decimal_run _ hs), (nFi hd), ra, rfl, rfl, rfl⟩
theorem parse_run (hc : NumC X) (s : Bs) (hs : s.length ≤ 281474976710656) : (R FT X).f 123 [strL s] = some (.tuple [intA (numV s), intA (numE s)]) := by
 cases hd : decB s
 ·rw [parse_n s (lmx hs) hd, (num_bad hd).1, (num_bad hd).2]
 ·by_cases hi : InI64 (valI s)
  ·rw [parse_y s (lmx hs) hd _ (hc.ok s hs hd hi), (num_ok hd hi).1, (num_ok hd hi).2]
  ·rw [parse_o s (lmx hs) hd _ (hc.over s hs hd hi), (num_over hd hi).1, (num_over hd hi).2]
theorem numV_in (s : Bs) : InI64 (numV s) := by
 unfold numV
 split
 ·rename_i h; exact h.2
 ·unfold InI64; omega
end
end Go.Proofs.YtfbpbkcplpkndaaGreatDoor
end
section
namespace Go.Proofs.YtfbpbkcplpkndaaGreatDoor
set_option linter.unusedVariables false
set_option linter.unusedSimpArgs false
set_option maxRecDepth 100000
section
variable {X : CallF}
theorem lines2_run (s : Bs) (hs : s.length ≤ 100000000) : (R FT X).f 52 [strL s] = some (.tuple [.slice 1 ((lins s).map strL), boolA (endB s)]) := by
 have hm := maxLen_le
 have hf := flF_le 10 s
 have ho := flO_len 10 s
 refine R_wp ((Tr.inv (fun (k : Nat) ↦ St.mk [(0, strL s), (4, AV.row 0 0 (flO (10 : UInt8) s k).length (0 : Nat) (flO (10 : UInt8) s k).length), (5, intA (↑(flF (10 : UInt8) s k) : Int)), (6, intA (↑k : Int))] [MObj.row 0 1 (List.map strL (flO (10 : UInt8) s k)) true (1 : Nat)]) (fun (k : Nat) ↦ k ≤ List.length s) (fun (k : Nat) ↦ List.length s - k) fun (k : Nat) ↦ ((Tr.y k fun (c4 : UInt8) ↦ ((Tr.sl (flF (10 : UInt8) s k) k (Tr.k ((flO (10 : UInt8) s k).length + 1) Tr.nil.w.w)).br Tr.nil.w).w).w.w.br ((Tr.sl (flF (10 : UInt8) s k) (List.length s) (Tr.k ((flO (10 : UInt8) s k).length + 1) (Tr.g (List.map strL (flO (10 : UInt8) s k ++ [List.drop (flF (10 : UInt8) s k) (List.take (List.length s) s)])) Tr.nil))).br (Tr.g (List.map strL (flO (10 : UInt8) s k)) Tr.nil)).w.w).w).w) rfl ?_
 refine Eq.mpr (by kernel_rfl : _ = ((∃ (j1 : Nat), ((s = s ∧ ((0 : Nat) = (flO (10 : UInt8) s j1).length ∧ (0 : Nat) = 0 ∧ (0 : Nat) = (flO (10 : UInt8) s j1).length) ∧ (0 : Int) = (↑(flF (10 : UInt8) s j1) : Int) ∧ (0 : Int) = (↑j1 : Int) ∧ True) ∧ [] = List.map strL (flO (10 : UInt8) s j1)) ∧ j1 ≤ List.length s) ∧ ∀ (k : Nat), k ≤ List.length s → (decide ((↑k : Int) < (↑(List.length s) : Int)) = true → (↑k : Int) = (↑k : Int) ∧ k < List.length s ∧ ∀ (c4 : UInt8), s[k]? = some c4 → (decide ((↑c4.toNat : Int) = 10) = true → (↑(flF (10 : UInt8) s k) : Int) = (↑(flF (10 : UInt8) s k) : Int) ∧ (↑k : Int) = (↑k : Int) ∧ flF (10 : UInt8) s k ≤ k ∧ k ≤ List.length s ∧ (List.map strL (flO (10 : UInt8) s k)).length = (flO (10 : UInt8) s k).length ∧ (0 : Nat) = 0 ∧ (flO (10 : UInt8) s k).length = (flO (10 : UInt8) s k).length ∧ (flO (10 : UInt8) s k).length + [AV.val (Value.string (ofL (List.drop (flF (10 : UInt8) s k) (List.take k s))))].length = (flO (10 : UInt8) s k).length + 1 ∧ ((flO (10 : UInt8) s k).length + 1) * 16 ≤ (140737488355328 : Nat) ∧ (flO (10 : UInt8) s k).length + 1 ≤ (9223372036854775807 : Nat) ∧ InI64 ((↑k : Int) + 1) ∧ InI64 ((↑k : Int) + (1 :
 Int)) ∧ ∃ (j7 : Nat), ((s = s ∧ ((flO (10 : UInt8) s k).length + 1 = (flO (10 : UInt8) s j7).length ∧ (0 : Nat) = 0 ∧ (flO (10 : UInt8) s k).length + 1 = (flO (10 : UInt8) s j7).length) ∧ (↑k : Int) + 1 = (↑(flF (10 : UInt8) s j7) : Int) ∧ (↑k : Int) + 1 = (↑j7 : Int) ∧ True) ∧ List.map strL (flO (10 : UInt8) s k) ++ [AV.val (Value.string (ofL (List.drop (flF (10 : UInt8) s k) (List.take k s))))] = List.map strL (flO (10 : UInt8) s j7)) ∧ j7 ≤ List.length s ∧ List.length s - j7 < List.length s - k) ∧ (decide ((↑c4.toNat : Int) = 10) = false → InI64 ((↑k : Int) + 1) ∧ ∃ (j9 : Nat), ((s = s ∧ ((flO (10 : UInt8) s k).length = (flO (10 : UInt8) s j9).length ∧ (0 : Nat) = 0 ∧ (flO (10 : UInt8) s k).length = (flO (10 : UInt8) s j9).length) ∧ (↑(flF (10 : UInt8) s k) : Int) = (↑(flF (10 : UInt8) s j9) : Int) ∧ (↑k : Int) + 1 = (↑j9 : Int) ∧ True) ∧ List.map strL (flO (10 : UInt8) s k) = List.map strL (flO (10 : UInt8) s j9)) ∧ j9 ≤ List.length s ∧ List.length s - j9 < List.length s - k)) ∧ (decide ((↑k : Int) < (↑(List.length s) : Int)) = false → (decide ((↑(flF (10 : UInt8) s k) : Int) < (↑(List.length s) : Int)) = true
 → (↑(flF (10 : UInt8) s k) : Int) = (↑(flF (10 : UInt8) s k) : Int) ∧ (↑(List.length s) : Int) = (↑(List.length s) : Int) ∧ flF (10 : UInt8) s k ≤ List.length s ∧ List.length s ≤ List.length s ∧ (List.map strL (flO (10 : UInt8) s k)).length = (flO (10 : UInt8) s k).length ∧ (0 : Nat) = 0 ∧ (flO (10 : UInt8) s k).length = (flO (10 : UInt8) s k).length ∧ (flO (10 : UInt8) s k).length + [AV.val (Value.string (ofL (List.drop (flF (10 : UInt8) s k) (List.take (List.length s) s))))].length = (flO (10 : UInt8) s k).length + 1 ∧ ((flO (10 : UInt8) s k).length + 1) * 16 ≤ (140737488355328 : Nat) ∧ (flO (10 : UInt8) s k).length + 1 ≤ (9223372036854775807 : Nat) ∧ (List.map strL (flO (10 : UInt8) s k) ++ [AV.val (Value.string (ofL (List.drop (flF (10 : UInt8) s k) (List.take (List.length s) s))))]).length = (flO (10 : UInt8) s k).length + 1 ∧ List.take ((flO (10 : UInt8) s k).length + 1) (List.drop (0 : Nat) (List.map strL (flO (10 : UInt8) s k) ++ [AV.val (Value.string (ofL (List.drop (flF (10 : UInt8) s k) (List.take (List.length s) s))))])) = List.map strL (flO (10 : UInt8) s k ++ [List.drop (flF (10 : UInt8) s k) (List.take (List.length
 s) s)]) ∧ List.map strL (flO (10 : UInt8) s k ++ [List.drop (flF (10 : UInt8) s k) (List.take (List.length s) s)]) = List.map strL (lins s) ∧ false = endB s) ∧ (decide ((↑(flF (10 : UInt8) s k) : Int) < (↑(List.length s) : Int)) = false → (List.map strL (flO (10 : UInt8) s k)).length = (flO (10 : UInt8) s k).length ∧ List.take (flO (10 : UInt8) s k).length (List.drop (0 : Nat) (List.map strL (flO (10 : UInt8) s k))) = List.map strL (flO (10 : UInt8) s k) ∧ List.map strL (flO (10 : UInt8) s k) = List.map strL (lins s) ∧ true = endB s)))) ?_
 refine ⟨⟨(0 : Nat), ⟨⟨rfl, ⟨rfl, rfl, rfl⟩, rfl, (by omega), trivial⟩, rfl⟩, (by omega)⟩, fun k => fun h2 => ⟨fun h3_ => have h3 := dT h3_; ⟨rfl, (by omega), fun c4 => fun h5 => ⟨fun h6_ => have h6 := dT h6_; ⟨rfl, rfl, ?_, h2, (by simp), rfl, rfl, rfl, ?_, ?_, (by unfold InI64; omega), (by unfold InI64; omega), ⟨k + (1 : Nat), ⟨⟨rfl, ⟨?_, rfl, ?_⟩, ?_, (by omega), trivial⟩, ?_⟩, ⟨(by omega), (by omega)⟩⟩⟩, fun h8_ => have h8 := dF h8_; ⟨(by unfold InI64; omega), ⟨k + (1 : Nat), ⟨⟨rfl, ⟨?_, rfl, ?_⟩, ?_, (by omega), trivial⟩, ?_⟩, ⟨(by omega), (by omega)⟩⟩⟩⟩⟩, fun h10_ => have h10 := dF h10_; ⟨fun h11_ => have h11 := dT h11_; ⟨rfl, rfl, (by omega), (by omega), (by simp), rfl, rfl, rfl, ?_, ?_, (by simp), ?_, ?_, ?_⟩, fun h12_ => have h12 := dF h12_; ⟨(by simp), ?_, ?_, ?_⟩⟩⟩⟩
 ·exact hf k
 iterate 2 · have := ho k; omega
 iterate 4 · first | (rw [flO_y (c := 10) (u8eq (d := 10) h6 ▸ h5)]; simp; done) | (rw [flF_y (c := 10) (u8eq (d := 10) h6 ▸ h5)]; done) | (rw [flF_y (c := 10) (u8eq (d := 10) h6 ▸ h5)]; omega) | (rw [flO_y (c := 10) (u8eq (d := 10) h6 ▸ h5), List.map_append]; rfl)
 iterate 4 · first | rw [flO_n (c := 10) (fun q => h8 (by rw [h5] at q; rw [Option.some.inj q]; rfl))] | rw [flF_n (c := 10) (fun q => h8 (by rw [h5] at q; rw [Option.some.inj q]; rfl))]
 all_goals (obtain rfl : k = s.length := by omega)
 iterate 2 · have := ho s.length; omega
 ·rw [List.drop_zero, List.take_of_length_le (by simp), List.map_append]; rfl
 ·rw [List.take_length, lins, if_pos (by omega)]; rfl
 ·exact (decide_eq_false (fun q => q (by omega))).symm
 ·rw [List.drop_zero, List.take_of_length_le (by simp)]
 ·rw [lins, if_neg (by omega)]
 ·exact (decide_eq_true (by omega)).symm
theorem count_run (l : List DL) (hl : l.length ≤ maxLen) : (R FT X).f 33 [.slice 3 (l.map encDL)] = some (.tuple [intA (cA l), intA (cB l)]) := by
 have hm := maxLen_i64
 refine R_wp ((Tr.inv (fun (k : Nat) ↦ St.mk [(0, AV.slice 3 (List.map encDL l)), (4, intA (↑(cA (List.take k l)) : Int)), (5, intA (↑(cB (List.take k l)) : Int)), (6, intA (↑k : Int))] []) (fun (k : Nat) ↦ k ≤ l.length) (fun (k : Nat) ↦ l.length - k) fun (k : Nat) ↦ (Tr.k l.length ((Tr.ix encDL l k fun (x4 : DL) ↦ ((Tr.ix encDL l k fun (x7 : DL) ↦ (Tr.nil.w.w.br Tr.nil.w).w).w.w.br (Tr.ix encDL l k fun (x14 : DL) ↦ (Tr.nil.w.w.br Tr.nil.w).w).w).w).w.w.br Tr.nil)).w).w) rfl ?_
 refine Eq.mpr (by kernel_rfl : _ = ((∃ (j1 : Nat), ((List.map encDL l = List.map encDL l ∧ (0 : Int) = (↑(cA (List.take j1 l)) : Int) ∧ (0 : Int) = (↑(cB (List.take j1 l)) : Int) ∧ (0 : Int) = (↑j1 : Int) ∧ True) ∧ True) ∧ j1 ≤ l.length) ∧ ∀ (k : Nat), k ≤ l.length → (List.map encDL l).length = l.length ∧ (decide ((↑k : Int) < (↑l.length : Int)) = true → List.map encDL l = List.map encDL l ∧ (↑k : Int) = (↑k : Int) ∧ k < l.length ∧ ∀ (x4 : DL), l[k]? = some x4 → ((!decide (x4.op = 3)) = true → InI64 ((↑(cA (List.take k l)) : Int) + 1) ∧ List.map encDL l = List.map encDL l ∧ (↑k : Int) = (↑k : Int) ∧ k < l.length ∧ ∀ (x7 : DL), l[k]? = some x7 → ((!decide (x7.op = 2)) = true → InI64 ((↑(cB (List.take k l)) : Int) + 1) ∧ InI64 ((↑k : Int) + 1) ∧ ∃ (j10 : Nat), ((List.map encDL l = List.map encDL l ∧ (↑(cA (List.take k l)) : Int) + 1 = (↑(cA (List.take j10 l)) : Int) ∧ (↑(cB (List.take k l)) : Int) + 1 = (↑(cB (List.take j10 l)) : Int) ∧ (↑k : Int) + 1 = (↑j10 : Int) ∧ True) ∧ True) ∧ j10 ≤ l.length ∧ l.length - j10 < l.length - k) ∧ ((!decide (x7.op = 2)) = false → InI64 ((↑k : Int) + 1) ∧ ∃ (j12 : Nat), ((List.map encDL l = List.map encDL l
 ∧ (↑(cA (List.take k l)) : Int) + 1 = (↑(cA (List.take j12 l)) : Int) ∧ (↑(cB (List.take k l)) : Int) = (↑(cB (List.take j12 l)) : Int) ∧ (↑k : Int) + 1 = (↑j12 : Int) ∧ True) ∧ True) ∧ j12 ≤ l.length ∧ l.length - j12 < l.length - k)) ∧ ((!decide (x4.op = 3)) = false → List.map encDL l = List.map encDL l ∧ (↑k : Int) = (↑k : Int) ∧ k < l.length ∧ ∀ (x14 : DL), l[k]? = some x14 → ((!decide (x14.op = 2)) = true → InI64 ((↑(cB (List.take k l)) : Int) + 1) ∧ InI64 ((↑k : Int) + 1) ∧ ∃ (j17 : Nat), ((List.map encDL l = List.map encDL l ∧ (↑(cA (List.take k l)) : Int) = (↑(cA (List.take j17 l)) : Int) ∧ (↑(cB (List.take k l)) : Int) + 1 = (↑(cB (List.take j17 l)) : Int) ∧ (↑k : Int) + 1 = (↑j17 : Int) ∧ True) ∧ True) ∧ j17 ≤ l.length ∧ l.length - j17 < l.length - k) ∧ ((!decide (x14.op = 2)) = false → InI64 ((↑k : Int) + 1) ∧ ∃ (j19 : Nat), ((List.map encDL l = List.map encDL l ∧ (↑(cA (List.take k l)) : Int) = (↑(cA (List.take j19 l)) : Int) ∧ (↑(cB (List.take k l)) : Int) = (↑(cB (List.take j19 l)) : Int) ∧ (↑k : Int) + 1 = (↑j19 : Int) ∧ True) ∧ True) ∧ j19 ≤ l.length ∧ l.length - j19 < l.length - k)))
 ∧ (decide ((↑k : Int) < (↑l.length : Int)) = false → (↑(cA (List.take k l)) : Int) = (↑(cA l) : Int) ∧ (↑(cB (List.take k l)) : Int) = (↑(cB l) : Int)))) ?_
 refine ⟨⟨(0 : Nat), ⟨⟨rfl, rfl, rfl, (by omega), trivial⟩, trivial⟩, (by omega)⟩, fun k => fun h2 => ⟨(by simp), fun h3_ => have h3 := dT h3_; ⟨rfl, rfl, (by omega), fun x4 => fun h5 => ⟨fun h6_ => have h6 := dnT h6_; ⟨?_, rfl, rfl, (by omega), fun x7 => fun h8 => ⟨fun h9_ => have h9 := dnT h9_; ⟨?_, (by unfold InI64; omega), ⟨k + (1 : Nat), ⟨⟨rfl, ?_, ?_, (by omega), trivial⟩, trivial⟩, ⟨(by omega), (by omega)⟩⟩⟩, fun h11_ => have h11 := dnF h11_; ⟨(by unfold InI64; omega), ⟨k + (1 : Nat), ⟨⟨rfl, ?_, ?_, (by omega), trivial⟩, trivial⟩, ⟨(by omega), (by omega)⟩⟩⟩⟩⟩, fun h13_ => have h13 := dnF h13_; ⟨rfl, rfl, (by omega), fun x14 => fun h15 => ⟨fun h16_ => have h16 := dnT h16_; ⟨?_, (by unfold InI64; omega), ⟨k + (1 : Nat), ⟨⟨rfl, ?_, ?_, (by omega), trivial⟩, trivial⟩, ⟨(by omega), (by omega)⟩⟩⟩, fun h18_ => have h18 := dnF h18_; ⟨(by unfold InI64; omega), ⟨k + (1 : Nat), ⟨⟨rfl, ?_, ?_, (by omega), trivial⟩, trivial⟩, ⟨(by omega), (by omega)⟩⟩⟩⟩⟩⟩⟩, fun h20_ => have h20 := dF h20_; ⟨?_, ?_⟩⟩⟩
 all_goals have h1 := cA_le (l.take k)
 all_goals have h2' := cB_le (l.take k)
 all_goals rw [List.length_take] at h1 h2'
 iterate 2 · unfold InI64; omega
 ·rw [cA_take h5, if_neg h6]; rfl
 ·rw [cB_take h8, if_neg h9]; rfl
 ·rw [cA_take h5, if_neg h6]; rfl
 ·rw [cB_take h8, if_pos h11]; rfl
 ·unfold InI64; omega
 ·rw [cA_take h5, if_pos h13]; rfl
 ·rw [cB_take h15, if_neg h16]; rfl
 ·rw [cA_take h5, if_pos h13]; rfl
 ·rw [cB_take h15, if_pos h18]; rfl
 iterate 2 · rw [List.take_of_length_le (by omega)]
end
end Go.Proofs.YtfbpbkcplpkndaaGreatDoor
end
section
namespace Go.Proofs.YtfbpbkcplpkndaaGreatDoor
set_option linter.unusedVariables false
set_option linter.unusedSimpArgs false
set_option maxRecDepth 100000
structure LcsC (X : CallF) : Prop where
 scr : ∀ a b : List Bs, a.length ≤ 400 → b.length ≤ 400 → (R FT X).f 62 [.slice 1 (a.map strL), .slice 1 (b.map strL)] = some (.slice 4 ((script a b).map encEd))
 dst : ∀ a b : List Bs, a.length ≤ 500 → b.length ≤ 500 → (R FT X).f 26 [.slice 1 (a.map strL), .slice 1 (b.map strL)] = some (intA (dist a b : Nat))
structure Lc2C (X : CallF) : Prop where
 sc2 : ∀ a b : List Bs, a.length ≤ 60 → b.length ≤ 60 → (R FT X).f 65 [.slice 1 (a.map strL), .slice 1 (b.map strL)] = some (.slice 4 ((script a b).map encEd))
section
variable {X : CallF}
end
end Go.Proofs.YtfbpbkcplpkndaaGreatDoor
end
section
namespace Go.Proofs.YtfbpbkcplpkndaaGreatDoor
set_option linter.unusedVariables false
set_option linter.unusedSimpArgs false
set_option maxRecDepth 100000
open Go.RowKit
def strV (s : ByteArray) : AV := .val (.string s)
def unstr : List AV → Option (List ByteArray)
 | [] => some []
 | .val (.string s) :: r => (unstr r).map (s :: ·)
 | _ => none
theorem unstr_eq : ∀ {x : List AV} {a : List ByteArray}, unstr x = some a → x = a.map strV
 | [], a, h => by simp [unstr] at h; subst h; rfl
 | y :: r, a, h => by
  unfold unstr at h
  split at h
  ·rename_i e; cases e
  ·rename_i s r' e
   injection e with e1 e2
   subst e1 e2
   simp only [Option.map_eq_some_iff] at h
   obtain ⟨a', h', rfl⟩ := h
   rw [unstr_eq h']; rfl
  ·cases h
def eds (l : List Ed) : AV := .slice 4 (l.map encEd)
def sAt (a : List ByteArray) (i : Nat) : ByteArray := a.getD i ⟨#[]⟩
theorem listOf_sAt (a : List ByteArray) : listOf (sAt a) a.length = a := by
 apply List.ext_getElem?
 intro i
 by_cases h : i < a.length
 ·rw [listOf_get _ h]; simp [sAt, h]
 ·rw [List.getElem?_eq_none (by rw [listOf_length]; omega), List.getElem?_eq_none (by omega)]
theorem rep_strs {X : Nat → Nat → Prop} {w : World} {v : Value} {a : List ByteArray} (h : Rep (Stab X [] w) w [] v (.slice 1 (a.map strV))) :
    ∃ A c, v = .slice A a.length c ∧ Sl w A a.length (fun i => .string (sAt a i)) ∧ a.length ≤ c ∧ (A = none → a.length = 0 ∧ c = 0) := by
  generalize hx : a.map strV = x at h
  have hlen : x.length = a.length := by rw [← hx]; simp
  cases h with
  | slice b off sz u hc hz hA hsz hcell hrep =>
    rename_i A c
    refine ⟨A, c, by rw [hlen], fun hn => ?_, by omega, fun hA0 => ⟨by have := hz hA0; omega, hz hA0⟩⟩
    refine ⟨b, off, hA (by omega), ?_, fun i hi => ?_⟩
    · have h0 : x[0]? = some (strV (sAt a 0)) := by rw [← hx]; simp [sAt, hn]
      exact (hcell 0 _ 0 (strV (sAt a 0)) h0 rfl).2.1
    · have h0 : x[i]? = some (strV (sAt a i)) := by rw [← hx]; simp [sAt, hi]
      have h1 := (hcell i _ 0 (strV (sAt a i)) h0 rfl).1
      have h2 := rep_val (hrep i _ 0 (strV (sAt a i)) h0 rfl)
      rw [h2] at h1
      simpa using h1
def dstX : List AV → Option AV
 | [.slice 1 x, .slice 1 y] => (match unstr x, unstr y with
  | some a, some b => if a.length ≤ 500 ∧ b.length ≤ 500 then some (.val (.int .i64 (dist a b : Nat))) else none
  | _, _ => none)
 | _ => none
def scrX : List AV → Option AV
 | [.slice 1 x, .slice 1 y] => (match unstr x, unstr y with
  | some a, some b => if a.length ≤ 400 ∧ b.length ≤ 400 then some (eds (script a b)) else none
  | _, _ => none)
 | _ => none
def idxX : List AV → Option AV
 | [.val (.string s), .val (.int .u8 c)] => some (intA (Lib.indexByte s.data.toList c.toNat.toUInt8))
 | _ => none
def hpX : List AV → Option AV
 | [.val (.string s), .val (.string p)] => some (boolA (Lib.hasPrefix (toL s) (toL p)))
 | _ => none
def cpX : List AV → Option AV
 | [.val (.string s), .val (.string p)] => some (.tuple [strL (Lib.trimPrefix (toL s) (toL p)), boolA (Lib.hasPrefix (toL s) (toL p))])
 | _ => none
def csX : List AV → Option AV
 | [.val (.string s), .val (.string p)] => if s.size ≤ 9223372036854775807 then some (.tuple [strL (Lib.trimSuffix (toL s) (toL p)), boolA (Lib.hasSuffix (toL s) (toL p))]) else none
 | _ => none
def ctX : List AV → Option AV
 | [.val (.string s), .val (.string p)] => if s.size < 4294967281 then some (.tuple [strL (Lib.cut (toL s) (toL p)).1, strL (Lib.cut (toL s) (toL p)).2.1, boolA (Lib.cut (toL s) (toL p)).2.2]) else none
 | _ => none
def coX : List AV → Option AV
 | [.val (.string s), .val (.string p)] => (match toL p with
  | [c] => some (boolA (decide (0 ≤ Lib.indexByte (toL s) c)))
  | _ => none)
 | _ => none
def ccX : List AV → List MObj → Option (AV × List MObj)
 | [.ptr id 0], m => if ccOk id m = true then some (.tuple [], m) else none
 | _, _ => none
def bsX : List AV → List MObj → Option (AV × List MObj)
 | [.ptr id 0], m => bsM id m
 | _, _ => none
theorem fr_drew (w : World) (n : Nat) : Fr (fun _ => False) w (w.drewN n) := ⟨rfl, rfl, rfl, Nat.le_refl _, fun _ _ _ => rfl⟩
theorem gr_max {S : Nat → Nat → Prop} {w : World} {H : List Hd} (h : GR S w H) : ∃ k : Int, w.cell? ⟨0, 0, none⟩ = some (.int .i64 k) := by
 obtain ⟨m, h1, -⟩ := h.i 0 (by decide)
 exact ⟨m, h1⟩
theorem rep_t2 {S : Nat → Nat → Prop} {w : World} {H : List Hd} (a b : Value) : Rep S w H (.tuple #[a, b]) (.tuple [.val a, .val b]) := .tuple rfl fun i y hy => by
 match i, hy with
 | 0, hy => simp at hy; subst hy; exact .val _ _
 | 1, hy => simp at hy; subst hy; exact .val _ _
theorem rep_t3 {S : Nat → Nat → Prop} {w : World} {H : List Hd} (a b c : Value) : Rep S w H (.tuple #[a, b, c]) (.tuple [.val a, .val b, .val c]) := .tuple rfl fun i y hy => by
 match i, hy with
 | 0, hy => simp at hy; subst hy; exact .val _ _
 | 1, hy => simp at hy; subst hy; exact .val _ _
 | 2, hy => simp at hy; subst hy; exact .val _ _
theorem idxX_ok {vs : List AV} {r : AV} (h : idxX vs = some r) : CallOk Tryz.prog 69 vs r := by
 unfold idxX at h
 split at h
 ·rename_i s c
  injection h with h; subst h
  intro X w cs hX hG hr
  obtain ⟨u, v, rfl, h1, h2⟩ := args2 hr
  obtain rfl := rep_val h1
  obtain rfl := rep_val h2
  exact (Tryz.strings_IndexByte s c w).mono fun e w' ⟨q1, q2⟩ => by subst q1 q2; exact ⟨_, rfl, .val _ _, Fr.refl _ _⟩
 ·cases h
theorem hpX_ok {vs : List AV} {r : AV} (h : hpX vs = some r) : CallOk Tryz.prog 80 vs r := by
 unfold hpX at h
 split at h
 ·rename_i s p
  injection h with h; subst h
  intro X w cs hX hG hr
  obtain ⟨u, v, rfl, h1, h2⟩ := args2 hr
  obtain rfl := rep_val h1
  obtain rfl := rep_val h2
  exact (Tryz.strings_HasPrefix s p w).mono fun e w' ⟨q1, q2⟩ => by subst q1 q2; exact ⟨_, rfl, .val _ _, Fr.refl _ _⟩
 ·cases h
theorem cpX_ok {vs : List AV} {r : AV} (h : cpX vs = some r) : CallOk Tryz.prog 97 vs r := by
 unfold cpX at h
 split at h
 ·rename_i s p
  injection h with h; subst h
  intro X w cs hX hG hr
  obtain ⟨u, v, rfl, h1, h2⟩ := args2 hr
  obtain rfl := rep_val h1
  obtain rfl := rep_val h2
  exact (Tryz.strings_CutPrefix s p w).mono fun e w' ⟨q1, q2⟩ => by subst q1 q2; exact ⟨_, rfl, rep_t2 _ _, Fr.refl _ _⟩
 ·cases h
theorem csX_ok {vs : List AV} {r : AV} (h : csX vs = some r) : CallOk Tryz.prog 63 vs r := by
 unfold csX at h
 split at h
 ·rename_i s p
  split at h
  ·rename_i hle
   injection h with h; subst h
   intro X w cs hX hG hr
   obtain ⟨u, v, rfl, h1, h2⟩ := args2 hr
   obtain rfl := rep_val h1
   obtain rfl := rep_val h2
   exact (Tryz.strings_CutSuffix s p w hle).mono fun e w' ⟨q1, q2⟩ => by subst q1 q2; exact ⟨_, rfl, rep_t2 _ _, Fr.refl _ _⟩
  ·cases h
 ·cases h
theorem ctX_ok {vs : List AV} {r : AV} (h : ctX vs = some r) : CallOk Tryz.prog 100 vs r := by
 unfold ctX at h
 split at h
 ·rename_i s p
  split at h
  ·rename_i hle
   injection h with h; subst h
   intro X w cs hX hG hr
   obtain ⟨u, v, rfl, h1, h2⟩ := args2 hr
   obtain rfl := rep_val h1
   obtain rfl := rep_val h2
   obtain ⟨m, hm⟩ := gr_max hG
   exact (Tryz.strings_Cut s p m w hle hm).mono fun e w' ⟨q1, n, q2⟩ => by subst q1 q2; exact ⟨_, rfl, rep_t3 _ _ _, fr_drew _ _⟩
  ·cases h
 ·cases h
theorem coX_ok {vs : List AV} {r : AV} (h : coX vs = some r) : CallOk Tryz.prog 67 vs r := by
 unfold coX at h
 split at h
 ·rename_i s t
  split at h
  ·rename_i c hc
   injection h with h; subst h
   intro X w cs hX hG hr
   obtain ⟨u, v, rfl, h1, h2⟩ := args2 hr
   obtain rfl := rep_val h1
   obtain rfl := rep_val h2
   have ht : t = ⟨#[c]⟩ := by rw [← ofL_toL t, hc]; rfl
   subst ht
   exact (Tryz.strings_Contains_one s c w).mono fun e w' ⟨q1, q2⟩ => by subst q1 q2; exact ⟨_, rfl, .val _ _, Fr.refl _ _⟩
  ·cases h
 ·cases h
theorem ccX_ok {vs : List AV} {m m' : List MObj} {r : AV} (h : ccX vs m = some (r, m')) : CallOkM Tryz.prog 68 vs m r m' := by
 unfold ccX at h
 split at h
 ·split at h
  ·rename_i hc
   simp only [Option.some.injEq, Prod.mk.injEq] at h
   obtain ⟨rfl, rfl⟩ := h
   exact cc_ok hc
  ·cases h
 ·cases h
theorem bsX_ok {vs : List AV} {m m' : List MObj} {r : AV} (h : bsX vs m = some (r, m')) : CallOkM Tryz.prog 40 vs m r m' := by
 unfold bsX at h
 split at h
 ·exact bs_ok h
 ·cases h
theorem dstX_ok {vs : List AV} {r : AV} (h : dstX vs = some r) : CallOk Tryz.prog 26 vs r := by
 unfold dstX at h
 split at h
 ·split at h
  ·rename_i a b ha hb
   obtain rfl := unstr_eq ha
   obtain rfl := unstr_eq hb
   split at h
   ·rename_i hle
    injection h with h; subst h
    intro X w us hX hG hr
    obtain ⟨u, v, rfl, h1, h2⟩ := args2 hr
    obtain ⟨A, c, rfl, g1, _⟩ := rep_strs h1
    obtain ⟨B, d, rfl, g2, _⟩ := rep_strs h2
    refine (Distance_any hle.1 hle.2 g1 g2).mono fun e w' ⟨q1, q2⟩ => ⟨_, q1, ?_, q2⟩
    rw [listOf_sAt, listOf_sAt]; exact .val _ _
   ·cases h
  ·cases h
 ·cases h
theorem scrX_ok {vs : List AV} {r : AV} (h : scrX vs = some r) : CallOk Tryz.prog 62 vs r := by
 unfold scrX at h
 split at h
 ·split at h
  ·rename_i a b ha hb
   obtain rfl := unstr_eq ha
   obtain rfl := unstr_eq hb
   split at h
   ·rename_i hle
    injection h with h; subst h
    intro X w us hX hG hr
    obtain ⟨u, v, rfl, h1, h2⟩ := args2 hr
    obtain ⟨A, c, rfl, g1, _⟩ := rep_strs h1
    obtain ⟨B, d, rfl, g2, _⟩ := rep_strs h2
    refine (Script_any hle.1 hle.2 g1 g2).mono fun e w' hp => ?_
    rw [listOf_sAt, listOf_sAt] at hp
    obtain ⟨C, k, q1, q2, q3⟩ := hp
    refine ⟨_, q1, ?_, q3⟩
    unfold eds
    have hlen : ((script a b).map encEd).length = (script a b).length := by simp
    by_cases h0 : 0 < (script a b).length
    ·obtain ⟨g, cur, rfl, hb, hh, hc, hsz, hget⟩ := q2.form h0
     have key : ∀ (i : Nat) (x : AV), ((script a b).map encEd)[i]? = some x → ∃ e, (script a b)[i]? = some e ∧ x = encEd e := fun i x hx => by
      simp only [List.getElem?_map, Option.map_eq_some_iff] at hx
      obtain ⟨e, he, rfl⟩ := hx
      exact ⟨e, he, rfl⟩
     have := Rep.slice (S := Stab X [] w') (w := w') (H := []) (A := some ⟨g, 0, none⟩) (c := k) (l := (script a b).map encEd) g 0 4 (fun i j => cur.getD (i * 4 + j) undef) (by omega) (fun q => by cases q) (fun _ => rfl)
      (fun i x hx => by obtain ⟨e, _, rfl⟩ := key i x hx; exact ⟨rfl, rfl⟩)
      (fun i x j y hx hy => by
       obtain ⟨e, he, rfl⟩ := key i x hx
       have hil := (List.getElem?_eq_some_iff.1 he).1
       have hj : j < 4 := (List.getElem?_eq_some_iff.1 hy).1
       refine ⟨by rw [Nat.zero_add]; exact cell_getD hh (by omega), lt_of_heap hh, fun hx => ?_, by rintro ⟨i, k, hk, _⟩; simp at hk⟩
       have := hX _ _ hx; omega)
      (fun i x j y hx hy => by
       obtain ⟨e, he, rfl⟩ := key i x hx
       have hil := (List.getElem?_eq_some_iff.1 he).1
       have hj : j < 4 := (List.getElem?_eq_some_iff.1 hy).1
       have hg := hget i hil j hj
       have he' : (script a b)[i] = e := by rw [List.getElem?_eq_getElem hil] at he; injection he
       rw [he'] at hg
       rw [Array.getD_eq_getD_getElem?, hg]
       match j, hj with
       | 0, _ => simp [encEd, AV.cells] at hy; subst hy; exact .val _ _
       | 1, _ => simp [encEd, AV.cells] at hy; subst hy; exact .val _ _
       | 2, _ => simp [encEd, AV.cells] at hy; subst hy; exact .val _ _
       | 3, _ => simp [encEd, AV.cells] at hy; subst hy; exact .val _ _)
     rw [hlen] at this
     exact this
    ·have hnil : script a b = [] := List.eq_nil_of_length_eq_zero (by omega)
     rw [hnil] at q2 ⊢
     rcases q2.2 with ⟨hv, _⟩ | ⟨g, cap, cur, hv, _, _, hle2, _⟩
     ·injection hv with e1 e2 e3
      subst e1 e3
      exact .slice (l := []) 0 0 4 (fun _ _ => undef) (Nat.le_refl _) (fun _ => rfl) (fun q => by simp at q) (fun i x hx => by simp at hx) (fun i x j y hx => by simp at hx) (fun i x j y hx => by simp at hx)
     ·injection hv with e1 e2 e3
      subst e1 e3
      exact .slice (l := []) 0 0 4 (fun _ _ => undef) (Nat.zero_le _) (fun q => by cases q) (fun q => by simp at q) (fun i x hx => by simp at hx) (fun i x j y hx => by simp at hx) (fun i x j y hx => by simp at hx)
   ·cases h
  ·cases h
 ·cases h
def XS : CallF := ⟨fun f vs => if f = 95 then itoaX vs else if f = 132 then atoiX vs else if f = 69 then idxX vs else if f = 80 then hpX vs else if f = 97 then cpX vs else if f = 63 then csX vs else if f = 100 then ctX vs else if f = 67 then coX vs else if f = 26 then dstX vs else if f = 62 then scrX vs else none,
 fun f vs m => if f = 68 then ccX vs m else if f = 40 then bsX vs m else if f = 48 then linesX vs m else none⟩
theorem XS_ok : CallsOk Tryz.prog XS := by
 refine ⟨fun f vs r h => ?_, fun f vs m r m' h => ?_⟩
 ·simp only [XS] at h
  split at h
  ·rename_i hf; subst hf; exact itoaX_ok h
  split at h
  ·rename_i hf; subst hf; exact atoiX_ok h
  split at h
  ·rename_i hf; subst hf; exact idxX_ok h
  split at h
  ·rename_i hf; subst hf; exact hpX_ok h
  split at h
  ·rename_i hf; subst hf; exact cpX_ok h
  split at h
  ·rename_i hf; subst hf; exact csX_ok h
  split at h
  ·rename_i hf; subst hf; exact ctX_ok h
  split at h
  ·rename_i hf; subst hf; exact coX_ok h
  split at h
  ·rename_i hf; subst hf; exact dstX_ok h
  split at h
  ·rename_i hf; subst hf; exact scrX_ok h
  cases h
 ·simp only [XS] at h
  split at h
  ·rename_i hf; subst hf; exact ccX_ok h
  split at h
  ·rename_i hf; subst hf; exact bsX_ok h
  split at h
  ·rename_i hf; subst hf; exact linesX_ok h fun S w H hG => gr_max hG
  cases h
theorem XS_num : NumC XS where
 itoa n hn := R_ext rfl (by
  show itoaX [intA n] = _
  simp only [itoaX, intA]
  rw [if_pos hn])
 ok s hs hd hi := R_ext rfl (by
  show atoiX [strL s] = _
  have e : (ofL s).data.toList = s := rfl
  simp only [atoiX, strL]
  rw [if_pos (show (ofL s).size ≤ 281474976710656 from hs), e, atoi_dec hd, if_pos hi])
 over s hs hd hi := R_ext rfl (by
  show atoiX [strL s] = _
  have e : (ofL s).data.toList = s := rfl
  simp only [atoiX, strL]
  rw [if_pos (show (ofL s).size ≤ 281474976710656 from hs), e, atoi_dec hd, if_neg hi])
theorem XS_bld : BldC XS where
 cc id m h := RM_ext rfl (by
  show ccX [.ptr id 0] m = _
  simp only [ccX]
  rw [if_pos h])
 str id rid ver used m c l wr bs m' h1 h2 h3 h4 h5 h6 := RM_ext rfl (by
  show bsM id m = _
  rw [bsM_of h1 h2 h3 h4 h5]
  exact congrArg (fun q => some (strL bs, q)) h6)
theorem XS_lib : LibC XS where
 ib s c := R_ext rfl (by
  show idxX [strL s, u8A c] = _
  have e : (ofL s).data.toList = s := rfl
  simp only [idxX, strL, u8A, e]
  simp)
 hp s p := R_ext rfl rfl
 cp s p := R_ext rfl rfl
 cs s p hs := R_ext rfl (by
  show csX [strL s, strL p] = _
  simp only [csX, strL]
  rw [if_pos (Nat.le_trans (show (ofL s).size ≤ maxLen from hs) (by decide +kernel))]
  rfl)
 ct s p hs := R_ext rfl (by
  show ctX [strL s, strL p] = _
  simp only [ctX, strL]
  rw [if_pos (Nat.lt_of_le_of_lt (show (ofL s).size ≤ 4000000000 from hs) (by decide))]
  rfl)
 co s c := R_ext rfl rfl
 ln s m hs := RM_ext rfl (by
  show linesX [strL s] m = _
  simp only [linesX, strL]
  rw [if_pos (show (ofL s).size ≤ 4000000000 from hs)]
  rfl)
section
variable {α β : Type} [DecidableEq α] [DecidableEq β]
end
end Go.Proofs.YtfbpbkcplpkndaaGreatDoor
end
section
namespace Go.Proofs.YtfbpbkcplpkndaaGreatDoor
set_option linter.unusedVariables false
set_option linter.unusedSimpArgs false
open Go.RowKit Go.ChangeShapes Go.WideShapes Go.ChangeAt Go.Deep
section
variable {H : Type} {enc : TypeId × Value → H}
set_option maxRecDepth 100000 in
end
theorem bulk_str {H : Type} {l : List UInt8} {d : DataW H} (hd : d = .lit (.string l)) {n : Nat} (h : Rows.uptoBulk d ≤ n) : l.length ≤ n := by
 subst hd; simp only [Rows.uptoBulk] at h; omega
theorem bulk_mem {H : Type} {d : DataW H} {l : List (DataW H)} (h : d ∈ l) : Rows.uptoBulk d ≤ Rows.uptoBulkAll l := by
 induction l with
 | nil => cases h
 | cons x r ih =>
  simp only [Rows.uptoBulkAll]
  cases List.mem_cons.1 h with
  | inl e => subst e; omega
  | inr e => have := ih e; omega
end Go.Proofs.YtfbpbkcplpkndaaGreatDoor
end
section
namespace Go.Proofs.YtfbpbkcplpkndaaGreatDoor
set_option linter.unusedVariables false
set_option linter.unusedSimpArgs false
open Go.RowKit Go.ChangeShapes Go.WideShapes Go.ChangeAt Go.Deep
set_option maxRecDepth 100000
section
variable {H : Type}
def dStr : DataW H → Bs
 | .lit (.string l) => l
 | _ => []
def dInt : DataW H → Int
 | .lit (.int _ n) => n
 | _ => 0
def dEls : DataW H → List (DataW H)
 | .slice l _ => l
 | _ => []
def dPart (d : DataW H) (i : Nat) : DataW H := match d with
 | .agg l => l.getD i .nil
 | _ => .nil
variable {enc : TypeId × Value → H} {w : World}
theorem rep_str {v : Value} {d : DataW H} {p : List MemPlace} {b0 : Nat} (hv : Value.okWide Tryz.prog w .any b0 9 v)
    (h : DataW.Trod enc Tryz.prog w 0 (fun _ => true) true 9 v d p) : (dStr d).length ≤ maxLen ∧ Rep (S0 w) w [] v (strL (dStr d)) ∧ d = .lit (.string (dStr d)) := by
  obtain ⟨h1, h2⟩ := rep_arg (s := .str) (by kernel_rfl) hv h
  obtain ⟨l, rfl, hl⟩ := Ty_str h1
  exact ⟨hl, h2, rfl⟩
end
theorem gr_df {W : World} (h : laidMetH Tryz.prog Rows.difftextParsesUptoRow.laid W) (hs : W.ShapedOpen Tryz.prog) : GR (S0 W) W [] := by
 rw [MakeChecks.laidMetH_plain _ _ _ (by kernel_rfl)] at h
 refine ⟨fun g l hg => ?_, fun g hg => ?_⟩
 ·unfold GT at hg
  split at hg
  ·rename_i e
   cases hg
   subst e
   have := gr_ints (n := "internal/strconv.uint64pow10") (g := 1) (t := 157) (e := 151) (k := .u64) (zs := pow10L.map fun (n : Nat) => (n : Int)) h (List.mem_of_getElem? (i := 2) rfl) (by kernel_rfl) (by kernel_rfl) (c := 20) (by kernel_rfl) (by kernel_rfl) (by kernel_rfl) (by kernel_rfl)
   exact this
  ·split at hg
   ·rename_i e
    cases hg
    subst e
    exact gr_err (t := 64) (n := "strconv.ErrRange") h (List.mem_of_getElem? (i := 4) rfl) (by kernel_rfl) (by kernel_rfl) Tryz.underlying64
   ·split at hg
    ·rename_i e
     cases hg
     subst e
     exact gr_err (t := 64) (n := "strconv.ErrSyntax") h (List.mem_of_getElem? (i := 5) rfl) (by kernel_rfl) (by kernel_rfl) Tryz.underlying64
    ·cases hg
 ·have e : g = 0 := by
   unfold GI at hg
   split at hg
   ·assumption
   ·cases hg
  subst e
  obtain ⟨m, hm⟩ := Go.Proofs.cell_of_shapedOpen_int (g := 0) (t := 3) (k := .i64) (zero := #[.int .i64 0]) hs (by decide +kernel) (by kernel_rfl) rfl (by kernel_rfl) (by kernel_rfl) Tryz.underlying3
  refine ⟨m, hm, s0_of ?_ _⟩
  unfold World.cell? at hm
  split at hm
  ·rename_i hh
   exact (Array.getElem?_eq_some_iff.1 hh).1
  ·cases hm
theorem door_met (os : Os) (args : Array Value) : laidMetH Tryz.prog Rows.difftextParsesUptoRow.laid ((World.laidAll Tryz.prog os Rows.difftextParsesUptoRow.laid).forCall (fun _ _ => 0) ⟨#[], args, []⟩).memory := by
 rw [MakeChecks.laidMetH_plain _ _ _ (by kernel_rfl)]; exact laidMet_laidAll _ (by kernel_rfl) (by kernel_rfl)
section
variable {H : Type} {enc : TypeId × Value → H}
theorem law_liftedUL {F : FuncId} {fn : Func} {s : ChangeSpec} {conds : List PathCond} {laid : List (String × DataW Unit)} {os : Os} {J : Stop.Interp} (started : os.Started) (noInit : Tryz.prog.inits.idxOf? F = none) (hfn : Tryz.prog.funcs[F]? = some fn)
    (hv : s.vars = []) (hs : ∀ ds : List (DataW H), ds.length = fn.params.size → s.fn H ds = { results := [.lit (.bool true)], args := ds }) (hres : fn.resultTypes = #[4])
    (hpar : ∀ t ∈ fn.params.toList, Tryz.prog.readableRec t = true ∧ t < Tryz.prog.types.size)
    (witness : ∃ (w : World) (tape : Tape) (i : Input), w.os = os ∧ (w.forCall tape i).Shaped Tryz.checked.prog ∧ i.vars = [] ∧ Input.okWide Tryz.checked.prog (w.forCall tape i) .any w.heap.size F i ∧
      (Rows.OpenSpec.upto s).preRow enc Tryz.checked.prog fn conds false laid (w.forCall tape i).memory i.args ∧ Assume.holds {} Tryz.checked.prog (lone (Frame.enter Tryz.checked.prog F i.args .normal) [] (w.forCall tape i)))
    (walk : ∀ (W : World) (base : Nat) (args : Array Value) (ds : List (DataW H)) (p : List MemPlace),
      (∀ (j : Nat) t v, fn.params[j]? = some t → args[j]? = some v → Value.okWide Tryz.prog W .any base t v) →
      DataW.TrodAll enc Tryz.prog W 0 (fun _ => true) true fn.params.toList args.toList ds p →
      Rows.uptoBulkAll ds ≤ 1048576 → laidMetH Tryz.prog laid W → W.ShapedOpen Tryz.prog →
      Calls Tryz.prog F args W fun e w' => e = .returned (.bool true) ∧ Below W.heap.size W w') :
    ReturnsInHanded {} Tryz.checked os F .any ((Rows.OpenSpec.upto s).preRow enc Tryz.prog fn conds false laid) (((Rows.OpenSpec.upto s).at J).post enc Tryz.prog fn false true false false) := by
  refine returnsInHanded_of_row (C := Tryz.checked) (s := Rows.OpenSpec.upto s) own started noInit hfn witness ?_
  intro W base args ds gs before hval hW hcnd hk0 hsz hL hSh _
  have hk := hk0 Rows.uptoSmall rfl
  have hW' := hW
  obtain ⟨p, q, hA, hV, rfl, hfz, hnd⟩ := hW
  have hv' : (Rows.OpenSpec.upto s).vars = [] := hv
  rw [hv'] at hV
  obtain ⟨rfl, rfl⟩ := trodVars_none hV
  have hlen : ds.length = fn.params.size := by
    have : ∀ {ts : List TypeId} {vs : List Value} {ds : List (DataW H)} {ps : List MemPlace}, DataW.TrodAll enc Tryz.checked.prog W 0 (fun _ => true) true ts vs ds ps → ds.length = ts.length := by
      intro ts
      induction ts with
      | nil => intro vs ds ps h; cases vs <;> cases ds <;> first | rfl | exact h.elim
      | cons t ts ih => intro vs ds ps h; cases vs <;> cases ds <;> first | exact h.elim | (obtain ⟨_, _, _, h2, _⟩ := h; simp [ih h2])
    rw [this hA]; simp
  rw [List.append_nil] at hk
  have hk' : Rows.uptoBulkAll ds ≤ 1048576 := of_decide_eq_true hk
  refine (walk W base args ds p hval hA hk' hL hSh).mono fun e W' ⟨he, bel⟩ => ?_
  subst he
  have h1 := hs (ds ++ []) (by simpa using hlen)
  have h1' : ((Rows.OpenSpec.upto s).at J).fn H (ds ++ []) = { results := [.lit (.bool true)], args := ds ++ [] } := h1
  have hv2 : ((Rows.OpenSpec.upto s).at J).vars = [] := hv
  refine ⟨_, rfl, ds, [], p ++ [], [], p, [], hW', ?_, ?_, ?_, bel.frame _, fun h => by cases h⟩
  · rw [h1', hres]; exact trodAll_mk1 (shut_bool Tryz.underlying4 _)
  · rw [h1']; simp only [List.append_nil]; exact trodAll_below bel hpar hA
  · rw [h1', hv2]; exact rfl
end
end Go.Proofs.YtfbpbkcplpkndaaGreatDoor
end
section
namespace Go.Proofs.YtfbpbkcplpkndaaGreatDoor
set_option linter.unusedVariables false
set_option linter.unusedSimpArgs false
set_option linter.unusedSectionVars false
theorem cut_at {a b t : Bs} {x : UInt8} (h : ∀ c ∈ a, c ≠ x) : Lib.cut (a ++ (x :: t) ++ b) (x :: t) = (a, b, true) := by
 have hi : Lib.index (a ++ (x :: t) ++ b) (x :: t) = a.length := by
  refine Lib.index_first (by simp) ?_ fun j hj => ?_
  ·rw [Lib.occAt_iff_take _ _ _ (by simp)]
   simp
  ·cases ho : Lib.occAt (a ++ (x :: t) ++ b) (x :: t) j with
   | false => rfl
   | true =>
    have := Lib.occAt_head rfl ho
    rw [List.append_assoc, List.getElem?_append_left hj] at this
    exact absurd rfl (h x (List.mem_of_getElem? this))
 unfold Lib.cut
 rw [hi, if_pos (by omega)]
 simp
theorem cut_no {a t : Bs} {x : UInt8} (h : ∀ c ∈ a, c ≠ x) : Lib.cut a (x :: t) = (a, [], false) := by
 have hi : Lib.index a (x :: t) = -1 := Lib.index_none fun j _ => by
  cases ho : Lib.occAt a (x :: t) j with
  | false => rfl
  | true => exact absurd rfl (h x (List.mem_of_getElem? (Lib.occAt_head rfl ho)))
 unfold Lib.cut
 rw [hi]; rfl
end Go.Proofs.YtfbpbkcplpkndaaGreatDoor
end
section
namespace Go.Proofs.YtfbpbkcplpkndaaGreatDoor
set_option linter.unusedVariables false
set_option linter.unusedSimpArgs false
set_option maxRecDepth 100000
theorem cut_ln (s : Bs) (c : UInt8) : (Lib.cut s [c]).1.length ≤ s.length ∧ (Lib.cut s [c]).2.1.length ≤ s.length := by
 unfold Lib.cut
 constructor <;> split <;> simp <;> exact Nat.min_le_right _ _
section
variable {X : CallF}
theorem digits3_run (hI : LibC X) (hc : NumC X) (s : Bs) (hs : s.length ≤ 4000000000) : (R FT X).f 114 [strL s] = some (.tuple [intA (dgV s), boolA (dgO s)]) := by
 have hh := hI.hp s [45]
 have pa := parse_run (X := X) hc s (by omega)
 refine R_wp (Tr.c (AV.tuple [intA (numV s), intA (numE s)]) ((Tr.b true (Tr.c (boolA (Lib.hasPrefix s [(45 : UInt8)])) Tr.nil)).w.br ((Tr.c (boolA (Lib.hasPrefix s [(45 : UInt8)])) Tr.nil).br Tr.nil).w).w.w) rfl ?_
 refine Eq.mpr (by kernel_rfl : _ = ((R FT X).f 123 [strL s] = some (AV.tuple [intA (numV s), intA (numE s)]) ∧ (decide (numE s = 9) = true → (!decide (numE s = 1)) = true ∧ (R FT X).f 80 [strL s, strL [(45 : UInt8)]] = some (boolA (Lib.hasPrefix s [(45 : UInt8)])) ∧ (2147483648 : Int) = dgV s ∧ (!Lib.hasPrefix s [(45 : UInt8)]) = dgO s) ∧ (decide (numE s = 9) = false → ((!decide (numE s = 1)) = true → (R FT X).f 80 [strL s, strL [(45 : UInt8)]] = some (boolA (Lib.hasPrefix s [(45 : UInt8)])) ∧ numV s = dgV s ∧ (!Lib.hasPrefix s [(45 : UInt8)]) = dgO s) ∧ ((!decide (numE s = 1)) = false → numV s = dgV s ∧ false = dgO s)))) ?_
 refine ⟨(pa), fun h1_ => have h1 := dT h1_; ⟨(tnD (by omega)), (hh), ?_, ?_⟩, fun h2_ => have h2 := dF h2_; ⟨fun h3_ => have h3 := dnT h3_; ⟨(hh), ?_, ?_⟩, fun h4_ => have h4 := dnF h4_; ⟨?_, ?_⟩⟩⟩
 ·unfold dgV; rw [if_pos h1]
 ·unfold dgO; rw [h1]; rfl
 ·unfold dgV; rw [if_neg h2]
 ·unfold dgO; rw [decide_eq_true h3]; rfl
 ·unfold dgV; rw [if_neg h2]
 ·unfold dgO; rw [h4]; rfl
theorem part3_run (hI : LibC X) (hc : NumC X) (s : Bs) (hs : s.length ≤ 4000000000) : (R FT X).f 101 [strL s] = some (.tuple [intA (prA s), intA (prB s), boolA (prO s)]) := by
 have hh := hI.ct s [44] hs
 have dg := fun (s : Bs) h => digits3_run (X := X) hI hc s h
 refine R_wp (Tr.c (AV.tuple [strL (Lib.cut s [(44 : UInt8)]).fst, strL (Lib.cut s [(44 : UInt8)]).snd.fst, boolA (Lib.cut s [(44 : UInt8)]).snd.snd]) (Tr.c (AV.tuple [intA (dgV (Lib.cut s [(44 : UInt8)]).fst), boolA (dgO (Lib.cut s [(44 : UInt8)]).fst)]) ((Tr.c (AV.tuple [intA (dgV (Lib.cut s [(44 : UInt8)]).snd.fst), boolA (dgO (Lib.cut s [(44 : UInt8)]).snd.fst)]) (Tr.nil.br Tr.nil).w).br (Tr.nil.br Tr.nil).w).w.w)) rfl ?_
 refine Eq.mpr (by kernel_rfl : _ = ((R FT X).f 100 [strL s, strL [(44 : UInt8)]] = some (AV.tuple [strL (Lib.cut s [(44 : UInt8)]).fst, strL (Lib.cut s [(44 : UInt8)]).snd.fst, boolA (Lib.cut s [(44 : UInt8)]).snd.snd]) ∧ (R FT X).f 114 [strL (Lib.cut s [(44 : UInt8)]).fst] = some (AV.tuple [intA (dgV (Lib.cut s [(44 : UInt8)]).fst), boolA (dgO (Lib.cut s [(44 : UInt8)]).fst)]) ∧ ((Lib.cut s [(44 : UInt8)]).snd.snd = true → (R FT X).f 114 [strL (Lib.cut s [(44 : UInt8)]).snd.fst] = some (AV.tuple [intA (dgV (Lib.cut s [(44 : UInt8)]).snd.fst), boolA (dgO (Lib.cut s [(44 : UInt8)]).snd.fst)]) ∧ (dgO (Lib.cut s [(44 : UInt8)]).fst = true → dgV (Lib.cut s [(44 : UInt8)]).fst = prA s ∧ dgV (Lib.cut s [(44 : UInt8)]).snd.fst = prB s ∧ dgO (Lib.cut s [(44 : UInt8)]).snd.fst = prO s) ∧ (dgO (Lib.cut s [(44 : UInt8)]).fst = false → dgV (Lib.cut s [(44 : UInt8)]).fst = prA s ∧ dgV (Lib.cut s [(44 : UInt8)]).snd.fst = prB s ∧ false = prO s)) ∧ ((Lib.cut s [(44 : UInt8)]).snd.snd = false → (dgO (Lib.cut s [(44 : UInt8)]).fst = true → dgV (Lib.cut s [(44 : UInt8)]).fst = prA s ∧ (1 : Int) = prB s ∧ true = prO s) ∧ (dgO (Lib.cut s [(44 : UInt8)]).fst = false → dgV (Lib.cut s [(44 : UInt8)]).fst = prA
 s ∧ (1 : Int) = prB s ∧ false = prO s)))) ?_
 refine ⟨(hh), (dg _ ?_), fun h1 => ⟨(dg _ ?_), fun h2 => ⟨rfl, ?_, ?_⟩, fun h3 => ⟨rfl, ?_, ?_⟩⟩, fun h4 => ⟨fun h5 => ⟨rfl, ?_, ?_⟩, fun h6 => ⟨rfl, ?_, ?_⟩⟩⟩
 ·have := cut_ln s 44; omega
 ·have := cut_ln s 44; omega
 ·unfold prB; rw [if_pos h1]
 ·unfold prO; rw [h2, if_pos h1]; rfl
 ·unfold prB; rw [if_pos h1]
 ·unfold prO; rw [h3]; rfl
 ·unfold prB; rw [h4]; rfl
 ·unfold prO; rw [h5, h4]; rfl
 ·unfold prB; rw [h4]; rfl
 ·unfold prO; rw [h6]; rfl
end
end Go.Proofs.YtfbpbkcplpkndaaGreatDoor
end
section
namespace Go.Proofs.YtfbpbkcplpkndaaGreatDoor
set_option linter.unusedVariables false
set_option linter.unusedSimpArgs false
set_option maxRecDepth 100000
def ntV (s : Bs) : Int := if dgO s = true then numV s else 0
def ntF (s : Bs) : Bool := dgO s && decide (numE s = 0) && decide (numV s ≤ 2147483647)
theorem hp_45 {s : Bs} {c : UInt8} (h : s[0]? = some c) : Lib.hasPrefix s [45] = decide (c = 45) := by
 cases s with
 | nil => cases h
 | cons x s =>
  cases h
  simp only [Lib.hasPrefix, List.isPrefixOf, Bool.and_true]
  by_cases q : c = 45
  ·subst q; rfl
  ·rw [decide_eq_false q]; exact beq_false_of_ne (Ne.symm q)
theorem dgO_1 {s : Bs} (h : numE s = 1) : dgO s = false := by unfold dgO; rw [h]; rfl
theorem dgO_m {s : Bs} {c : UInt8} (h : s[0]? = some c) (hc : (c.toNat : Int) = 45) : dgO s = false := by
 have : c = 45 := u8_of (n := 45) hc (by decide)
 unfold dgO; rw [hp_45 h, decide_eq_true this]; simp
theorem dgO_y {s : Bs} {c : UInt8} (h1 : ¬ numE s = 1) (h : s[0]? = some c) (hc : ¬ (c.toNat : Int) = 45) : dgO s = true := by
 have : c ≠ 45 := fun e => hc (by rw [e]; rfl)
 unfold dgO; rw [hp_45 h, decide_eq_false this, decide_eq_true h1]; rfl
theorem dgO_e {s : Bs} (h1 : ¬ numE s = 1) (h : ¬ (0 : Int) < s.length) : dgO s = true := by
 have e : s = [] := List.eq_nil_of_length_eq_zero (by omega)
 subst e
 unfold dgO; rw [decide_eq_true h1]; rfl
section
variable {X : CallF}
theorem natural_run (s : Bs) (hs : s.length ≤ maxLen) : (R FT X).f 115 [strL s] = some (.tuple [intA (ntV s), boolA (dgO s), boolA (ntF s)]) := by
 have pa := refParse_run (X := X) s hs
 refine R_wp (Tr.c (AV.tuple [intA (numV s), intA (numE s)]) ((Tr.b true Tr.nil).w.br ((Tr.y 0 fun (c4 : UInt8) ↦ (Tr.nil.br (Tr.nil.br Tr.nil).w).w).br (Tr.b false (Tr.nil.br Tr.nil).w).w)).w) rfl ?_
 refine Eq.mpr (by kernel_rfl : _ = ((R FT X).f 124 [strL s] = some (AV.tuple [intA (numV s), intA (numE s)]) ∧ (decide (numE s = 1) = true → true = true ∧ (0 : Int) = ntV s ∧ false = dgO s ∧ false = ntF s) ∧ (decide (numE s = 1) = false → (decide ((0 : Int) < (↑(List.length s) : Int)) = true → (0 : Int) = 0 ∧ (0 : Nat) < List.length s ∧ ∀ (c4 : UInt8), s[(0 : Nat)]? = some c4 → (decide ((↑c4.toNat : Int) = 45) = true → (0 : Int) = ntV s ∧ false = dgO s ∧ false = ntF s) ∧ (decide ((↑c4.toNat : Int) = 45) = false → (decide (numE s = 0) = true → numV s = ntV s ∧ true = dgO s ∧ decide (numV s ≤ 2147483647) = ntF s) ∧ (decide (numE s = 0) = false → numV s = ntV s ∧ true = dgO s ∧ false = ntF s))) ∧ (decide ((0 : Int) < (↑(List.length s) : Int)) = false → false = false ∧ (decide (numE s = 0) = true → numV s = ntV s ∧ true = dgO s ∧ decide (numV s ≤ 2147483647) = ntF s) ∧ (decide (numE s = 0) = false → numV s = ntV s ∧ true = dgO s ∧ false = ntF s))))) ?_
 refine ⟨(pa), fun h1_ => have h1 := dT h1_; ⟨rfl, ?_, ?_, ?_⟩, fun h2_ => have h2 := dF h2_; ⟨fun h3_ => have h3 := dT h3_; ⟨rfl, (by omega), fun c4 => fun h5 => ⟨fun h6_ => have h6 := dT h6_; ⟨?_, ?_, ?_⟩, fun h7_ => have h7 := dF h7_; ⟨fun h8_ => have h8 := dT h8_; ⟨?_, ?_, ?_⟩, fun h9_ => have h9 := dF h9_; ⟨?_, ?_, ?_⟩⟩⟩⟩, fun h10_ => have h10 := dF h10_; ⟨rfl, fun h11_ => have h11 := dT h11_; ⟨?_, ?_, ?_⟩, fun h12_ => have h12 := dF h12_; ⟨?_, ?_, ?_⟩⟩⟩⟩
 all_goals try have hd := dgO_1 h1
 all_goals try have hd := dgO_m h5 h6
 all_goals try have hd := dgO_y h2 h5 h7
 all_goals try have hd := dgO_e h2 h10
 all_goals first
  | exact hd.symm
  | (simp only [ntV, hd]; rfl)
  | (simp only [ntV, hd, if_true]; done)
  | (simp only [ntF, hd]; rfl)
  | (simp [ntF, hd, h8]; done)
  | (simp [ntF, hd, h9]; done)
  | (simp [ntF, hd, h11]; done)
  | (simp [ntF, hd, h12]; done)
  | skip
end
end Go.Proofs.YtfbpbkcplpkndaaGreatDoor
end
section
namespace Go.Proofs.YtfbpbkcplpkndaaGreatDoor
set_option linter.unusedVariables false
set_option linter.unusedSimpArgs false
set_option maxRecDepth 100000
def ptA (s : Bs) : Int := ntV (Lib.cut s [44]).1
def ptB (s : Bs) : Int := if (Lib.cut s [44]).2.2 = true then ntV (Lib.cut s [44]).2.1 else 1
def ptO (s : Bs) : Bool := dgO (Lib.cut s [44]).1 && (if (Lib.cut s [44]).2.2 = true then dgO (Lib.cut s [44]).2.1 else true)
def ptFi (s : Bs) : Bool := ntF (Lib.cut s [44]).1 && (if (Lib.cut s [44]).2.2 = true then ntF (Lib.cut s [44]).2.1 else true)
structure CoI (s : Bs) (k : Nat) : Prop where
 le : k ≤ s.length
 no : ∀ c ∈ s.take k, c ≠ 44
theorem CoI.cut_no {s : Bs} {k : Nat} (h : CoI s k) (e : ¬ (k : Int) < s.length) : Lib.cut s [44] = (s, [], false) := by
 have := h.no
 rw [List.take_of_length_le (by omega)] at this
 exact Go.Proofs.YtfbpbkcplpkndaaGreatDoor.cut_no this
theorem CoI.cut_at {s : Bs} {k : Nat} {c : UInt8} (h : CoI s k) (e : s[k]? = some c) (hc : (c.toNat : Int) = 44) : Lib.cut s [44] = (s.take k, s.drop (k + 1), true) := by
 have : c = 44 := u8_of (n := 44) hc (by decide)
 subst this
 have q := Go.Proofs.YtfbpbkcplpkndaaGreatDoor.cut_at (b := s.drop (k + 1)) (t := []) h.no
 rwa [List.append_assoc, List.singleton_append, ← drop_get e, List.take_append_drop] at q
theorem CoI.next {s : Bs} {k : Nat} {c : UInt8} (h : CoI s k) (e : s[k]? = some c) (hc : ¬ (c.toNat : Int) = 44) : CoI s (k + 1) := by
 refine ⟨(List.getElem?_eq_some_iff.1 e).1, fun x hx => ?_⟩
 rw [take_succ_get e, List.mem_append, List.mem_singleton] at hx
 exact hx.elim (h.no x) fun q => by subst q; exact fun e => hc (by rw [e]; rfl)
section
variable {X : CallF}
theorem part2_run (s : Bs) (hs : s.length ≤ 4000000000) : (R FT X).f 105 [strL s] = some (.tuple [intA (ptA s), intA (ptB s), boolA (ptO s), boolA (ptFi s)]) := by
 have hm := maxLen_le
 have na := fun (s : Bs) h => natural_run (X := X) s h
 refine R_wp ((Tr.inv (fun (k : Nat) ↦ St.mk [(0, strL s), (6, intA (↑k : Int))] []) (fun (k : Nat) ↦ CoI s k) (fun (k : Nat) ↦ List.length s - k) fun (k : Nat) ↦ ((Tr.y k fun (c4 : UInt8) ↦ Tr.nil.w.w.br (Tr.sl (0 : Nat) k (Tr.c (AV.tuple [intA (ntV (List.drop (0 : Nat) (List.take k s))), boolA (dgO (List.drop (0 : Nat) (List.take k s))), boolA (ntF (List.drop (0 : Nat) (List.take k s)))]) (Tr.b false (Tr.sl (k + 1) (List.length s) (Tr.c (AV.tuple [intA (ntV (List.drop (k + 1) (List.take (List.length s) s))), boolA (dgO (List.drop (k + 1) (List.take (List.length s) s))), boolA (ntF (List.drop (k + 1) (List.take (List.length s) s)))]) ((Tr.nil.br Tr.nil).br (Tr.nil.br Tr.nil)).w)).w).w.w))).br (Tr.b false (Tr.sl (0 : Nat) k (Tr.c (AV.tuple [intA (ntV (List.drop (0 : Nat) (List.take k s))), boolA (dgO (List.drop (0 : Nat) (List.take k s))), boolA (ntF (List.drop (0 : Nat) (List.take k s)))]) (Tr.nil.br (Tr.sl (k + 1) (List.length s) (Tr.c (AV.tuple [intA (ntV (List.drop (k + 1) (List.take (List.length s) s))), boolA (dgO (List.drop (k + 1) (List.take (List.length s) s))), boolA (ntF (List.drop (k + 1) (List.take (List.length
 s) s)))]) ((Tr.nil.br Tr.nil).br (Tr.nil.br Tr.nil)).w)).w).w.w)))).w).w) rfl ?_
 refine Eq.mpr (by kernel_rfl : _ = (let z4 := (↑(List.length s) : Int); (∃ (b0 : Nat), ((s = s ∧ (0 : Int) = (↑b0 : Int) ∧ True) ∧ True) ∧ CoI s b0) ∧ ∀ (b0 : Nat), let z5 := (↑b0 : Int); let z1 := (List.drop (0 : Nat) (List.take b0 s)); let z8 := ntV z1 = ptA s; let z6 := (R FT X).f 115 [strL z1] = some (AV.tuple [intA (ntV z1), boolA (dgO z1), boolA (ntF z1)]); let z0 := (List.drop (b0 + 1) (List.take (List.length s) s)); let z7 := (R FT X).f 115 [strL z0] = some (AV.tuple [intA (ntV z0), boolA (dgO z0), boolA (ntF z0)]); let z3 := (dgO z1 = false → (ntF z1 = true → z8 ∧ ntV z0 = ptB s ∧ false = ptO s ∧ ntF z0 = ptFi s) ∧ (ntF z1 = false → z8 ∧ ntV z0 = ptB s ∧ false = ptO s ∧ false = ptFi s)); let z2 := (dgO z1 = true → (ntF z1 = true → z8 ∧ ntV z0 = ptB s ∧ dgO z0 = ptO s ∧ ntF z0 = ptFi s) ∧ (ntF z1 = false → z8 ∧ ntV z0 = ptB s ∧ dgO z0 = ptO s ∧ false = ptFi s)); CoI s b0 → (decide (z5 < z4) = true → z5 = z5 ∧ b0 < List.length s ∧ ∀ (b1 : UInt8), s[b0]? = some b1 → ((!decide ((↑b1.toNat : Int) = 44)) = true → InI64 (z5 + 1) ∧ ∃ (b2 : Nat), ((s = s ∧ z5 + 1 = (↑b2 : Int) ∧ True) ∧ True) ∧ CoI s b2 ∧ List.length s - b2 < List.length s - b0) ∧ ((!decide ((↑b1.toNat : Int) = 44)) = false → (0 : Int) = 0 ∧ z5 = z5 ∧ (0 : Nat) ≤ b0 ∧ b0 ≤ List.length s ∧ z6 ∧ decide (z5 = z4) = false ∧ InI64 (z5 + 1) ∧ z5 + 1 = (↑(b0 + 1) : Int) ∧ z4 = z4 ∧ b0 + 1 ≤ List.length s ∧ List.length s ≤ List.length s ∧ z7 ∧ z2 ∧ z3)) ∧ (decide (z5 < z4) = false → false = false ∧ (0 : Int) = 0 ∧ z5 = z5 ∧ (0 : Nat) ≤ b0 ∧ b0 ≤ List.length s ∧ z6 ∧ (decide (z5 = z4) = true → z8 ∧ (1 : Int) = ptB s ∧ dgO z1 = ptO s ∧ ntF z1 = ptFi s) ∧ (decide (z5 = z4) = false → InI64 (z5 + 1) ∧ z5 + 1 = (↑(b0 + 1) : Int) ∧ z4 = z4 ∧ b0 + 1 ≤ List.length s ∧ List.length s ≤ List.length s ∧ z7 ∧ z2 ∧ z3)))) ?_
 conv => zeta
 refine ⟨⟨(0 : Nat), ⟨⟨rfl, (by omega), trivial⟩, trivial⟩, ?_⟩, fun k => fun h2 => ⟨fun h3_ => have h3 := dT h3_; ⟨rfl, (by omega), fun c4 => fun h5 => ⟨fun h6_ => have h6 := dnT h6_; ⟨(by unfold InI64; omega), ⟨k + (1 : Nat), ⟨⟨rfl, (by omega), trivial⟩, trivial⟩, ⟨?_, (by omega)⟩⟩⟩, fun h8_ => have h8 := dnF h8_; ⟨rfl, rfl, (by omega), (by omega), (na _ (by exact (by simp; omega))), (fD (by omega)), (by unfold InI64; omega), (by omega), rfl, (by omega), (by omega), (na _ (by exact (by simp; omega))), fun h9 => ⟨fun h10 => ⟨?_, ?_, ?_, ?_⟩, fun h11 => ⟨?_, ?_, ?_, ?_⟩⟩, fun h12 => ⟨fun h13 => ⟨?_, ?_, ?_, ?_⟩, fun h14 => ⟨?_, ?_, ?_, ?_⟩⟩⟩⟩⟩, fun h15_ => have h15 := dF h15_; ⟨rfl, rfl, rfl, (by omega), ?_, (na _ (by exact (by simp; omega))), fun h16_ => have h16 := dT h16_; ⟨?_, ?_, ?_, ?_⟩, fun h17_ => have h17 := dF h17_; ⟨?_, (by omega), rfl, ?_, (by omega), (na _ (by exact (by simp; omega))), fun h18 => ⟨fun h19 => ⟨?_, ?_, ?_, ?_⟩, fun h20 => ⟨?_, ?_, ?_, ?_⟩⟩, fun h21 => ⟨fun h22 => ⟨?_, ?_, ?_, ?_⟩, fun h23 => ⟨?_, ?_, ?_, ?_⟩⟩⟩⟩⟩⟩
 ·exact ⟨Nat.zero_le _, fun c q => by cases q⟩
 ·exact h2.next h5 h6
 all_goals have hl := h2.le
 all_goals try have hc := h2.cut_at h5 h8
 all_goals try have hc := h2.cut_no h15
 all_goals first
  | omega
  | (exact absurd (Int.le_antisymm (Int.ofNat_le.2 hl) (Int.not_lt.1 h15)) h17)
  | skip
 all_goals try have hk : s.take k = s := List.take_of_length_le (Int.ofNat_le.1 (Int.not_lt.1 h15))
 all_goals try rw [hk]
 all_goals simp only [ptA, ptB, ptO, ptFi, hc, List.drop_zero, List.take_length] at *
 all_goals first
  | rfl
  | (simp; done)
  | (simp [*]; done)
  | skip
end
end Go.Proofs.YtfbpbkcplpkndaaGreatDoor
end
section
namespace Go.Proofs.YtfbpbkcplpkndaaGreatDoor
set_option linter.unusedVariables false
set_option linter.unusedSimpArgs false
set_option maxRecDepth 100000
section
variable {X : CallF}
theorem words_run (s : Bs) (hs : s.length ≤ 100000000) : (R FT X).f 104 [strL s] = some (.slice 1 ((flds 32 s).map strL)) := by
 have hm := maxLen_le
 have hf := flF_le 32 s
 have ho := flO_len 32 s
 refine R_wp ((Tr.inv (fun (k : Nat) ↦ St.mk [(0, strL s), (3, AV.row 0 0 (flO (32 : UInt8) s k).length (0 : Nat) (flO (32 : UInt8) s k).length), (4, intA (↑(flF (32 : UInt8) s k) : Int)), (5, intA (↑k : Int))] [MObj.row 0 1 (List.map strL (flO (32 : UInt8) s k)) true (1 : Nat)]) (fun (k : Nat) ↦ k ≤ List.length s) (fun (k : Nat) ↦ List.length s - k) fun (k : Nat) ↦ ((Tr.y k fun (c4 : UInt8) ↦ ((Tr.sl (flF (32 : UInt8) s k) k (Tr.k ((flO (32 : UInt8) s k).length + 1) Tr.nil.w.w)).br Tr.nil.w).w).w.w.br (Tr.sl (flF (32 : UInt8) s k) (List.length s) (Tr.k ((flO (32 : UInt8) s k).length + 1) (Tr.g (List.map strL (flO (32 : UInt8) s k ++ [List.drop (flF (32 : UInt8) s k) (List.take (List.length s) s)])) Tr.nil)))).w).w) rfl ?_
 refine Eq.mpr (by kernel_rfl : _ = ((∃ (j1 : Nat), ((s = s ∧ ((0 : Nat) = (flO (32 : UInt8) s j1).length ∧ (0 : Nat) = 0 ∧ (0 : Nat) = (flO (32 : UInt8) s j1).length) ∧ (0 : Int) = (↑(flF (32 : UInt8) s j1) : Int) ∧ (0 : Int) = (↑j1 : Int) ∧ True) ∧ [] = List.map strL (flO (32 : UInt8) s j1)) ∧ j1 ≤ List.length s) ∧ ∀ (k : Nat), k ≤ List.length s → (decide ((↑k : Int) < (↑(List.length s) : Int)) = true → (↑k : Int) = (↑k : Int) ∧ k < List.length s ∧ ∀ (c4 : UInt8), s[k]? = some c4 → (decide ((↑c4.toNat : Int) = 32) = true → (↑(flF (32 : UInt8) s k) : Int) = (↑(flF (32 : UInt8) s k) : Int) ∧ (↑k : Int) = (↑k : Int) ∧ flF (32 : UInt8) s k ≤ k ∧ k ≤ List.length s ∧ (List.map strL (flO (32 : UInt8) s k)).length = (flO (32 : UInt8) s k).length ∧ (0 : Nat) = 0 ∧ (flO (32 : UInt8) s k).length = (flO (32 : UInt8) s k).length ∧ (flO (32 : UInt8) s k).length + [AV.val (Value.string (ofL (List.drop (flF (32 : UInt8) s k) (List.take k s))))].length = (flO (32 : UInt8) s k).length + 1 ∧ ((flO (32 : UInt8) s k).length + 1) * 16 ≤ (140737488355328 : Nat) ∧ (flO (32 : UInt8) s k).length + 1 ≤ (9223372036854775807 : Nat) ∧ InI64 ((↑k : Int) + 1) ∧ InI64 ((↑k : Int) + (1 :
 Int)) ∧ ∃ (j7 : Nat), ((s = s ∧ ((flO (32 : UInt8) s k).length + 1 = (flO (32 : UInt8) s j7).length ∧ (0 : Nat) = 0 ∧ (flO (32 : UInt8) s k).length + 1 = (flO (32 : UInt8) s j7).length) ∧ (↑k : Int) + 1 = (↑(flF (32 : UInt8) s j7) : Int) ∧ (↑k : Int) + 1 = (↑j7 : Int) ∧ True) ∧ List.map strL (flO (32 : UInt8) s k) ++ [AV.val (Value.string (ofL (List.drop (flF (32 : UInt8) s k) (List.take k s))))] = List.map strL (flO (32 : UInt8) s j7)) ∧ j7 ≤ List.length s ∧ List.length s - j7 < List.length s - k) ∧ (decide ((↑c4.toNat : Int) = 32) = false → InI64 ((↑k : Int) + 1) ∧ ∃ (j9 : Nat), ((s = s ∧ ((flO (32 : UInt8) s k).length = (flO (32 : UInt8) s j9).length ∧ (0 : Nat) = 0 ∧ (flO (32 : UInt8) s k).length = (flO (32 : UInt8) s j9).length) ∧ (↑(flF (32 : UInt8) s k) : Int) = (↑(flF (32 : UInt8) s j9) : Int) ∧ (↑k : Int) + 1 = (↑j9 : Int) ∧ True) ∧ List.map strL (flO (32 : UInt8) s k) = List.map strL (flO (32 : UInt8) s j9)) ∧ j9 ≤ List.length s ∧ List.length s - j9 < List.length s - k)) ∧ (decide ((↑k : Int) < (↑(List.length s) : Int)) = false → (↑(flF (32 : UInt8) s k) : Int) = (↑(flF (32 : UInt8) s k) : Int) ∧ (↑(List.length
 s) : Int) = (↑(List.length s) : Int) ∧ flF (32 : UInt8) s k ≤ List.length s ∧ List.length s ≤ List.length s ∧ (List.map strL (flO (32 : UInt8) s k)).length = (flO (32 : UInt8) s k).length ∧ (0 : Nat) = 0 ∧ (flO (32 : UInt8) s k).length = (flO (32 : UInt8) s k).length ∧ (flO (32 : UInt8) s k).length + [AV.val (Value.string (ofL (List.drop (flF (32 : UInt8) s k) (List.take (List.length s) s))))].length = (flO (32 : UInt8) s k).length + 1 ∧ ((flO (32 : UInt8) s k).length + 1) * 16 ≤ (140737488355328 : Nat) ∧ (flO (32 : UInt8) s k).length + 1 ≤ (9223372036854775807 : Nat) ∧ (List.map strL (flO (32 : UInt8) s k) ++ [AV.val (Value.string (ofL (List.drop (flF (32 : UInt8) s k) (List.take (List.length s) s))))]).length = (flO (32 : UInt8) s k).length + 1 ∧ List.take ((flO (32 : UInt8) s k).length + 1) (List.drop (0 : Nat) (List.map strL (flO (32 : UInt8) s k) ++ [AV.val (Value.string (ofL (List.drop (flF (32 : UInt8) s k) (List.take (List.length s) s))))])) = List.map strL (flO (32 : UInt8) s k ++ [List.drop (flF (32 : UInt8) s k) (List.take (List.length s) s)]) ∧ List.map strL (flO (32 : UInt8) s k ++ [List.drop (flF (32 : UInt8) s k)
 (List.take (List.length s) s)]) = List.map strL (flds (32 : UInt8) s)))) ?_
 refine ⟨⟨(0 : Nat), ⟨⟨rfl, ⟨rfl, rfl, rfl⟩, rfl, (by omega), trivial⟩, rfl⟩, (by omega)⟩, fun k => fun h2 => ⟨fun h3_ => have h3 := dT h3_; ⟨rfl, (by omega), fun c4 => fun h5 => ⟨fun h6_ => have h6 := dT h6_; ⟨rfl, rfl, ?_, h2, (by simp), rfl, rfl, rfl, ?_, ?_, (by unfold InI64; omega), (by unfold InI64; omega), ⟨k + (1 : Nat), ⟨⟨rfl, ⟨?_, rfl, ?_⟩, ?_, (by omega), trivial⟩, ?_⟩, ⟨(by omega), (by omega)⟩⟩⟩, fun h8_ => have h8 := dF h8_; ⟨(by unfold InI64; omega), ⟨k + (1 : Nat), ⟨⟨rfl, ⟨?_, rfl, ?_⟩, ?_, (by omega), trivial⟩, ?_⟩, ⟨(by omega), (by omega)⟩⟩⟩⟩⟩, fun h10_ => have h10 := dF h10_; ⟨rfl, rfl, ?_, (by omega), (by simp), rfl, rfl, rfl, ?_, ?_, (by simp), ?_, ?_⟩⟩⟩
 all_goals have q1 := hf k
 all_goals have q2 := ho k
 all_goals try have e32 := congrArg some (u8_of (n := 32) h6 (by decide))
 all_goals try have n32 : ¬ s[k]? = some 32 := fun q => h8 (congrArg (fun c : UInt8 => (c.toNat : Int)) (Option.some.inj (h5.symm.trans q)))
 all_goals try rw [flO_y (c := 32) (h5.trans e32)]
 all_goals try rw [flF_y (c := 32) (h5.trans e32)]
 all_goals try rw [flO_n (c := 32) n32]
 all_goals try rw [flF_n (c := 32) n32]
 all_goals first
  | omega
  | (simp; done)
  | (rw [List.map_append]; rfl)
  | rfl
  | skip
 all_goals (obtain rfl : k = s.length := by omega)
 ·rw [List.drop_zero, List.take_of_length_le (by simp), List.map_append]; rfl
 ·rw [List.take_length]; rfl
end
end Go.Proofs.YtfbpbkcplpkndaaGreatDoor
end
section
namespace Go.Proofs.YtfbpbkcplpkndaaGreatDoor
set_option linter.unusedVariables false
set_option linter.unusedSimpArgs false
def hdG (s : Bs) : HdN := if Lib.hasPrefix s [64, 64, 32, 45] = true then hdV s else ⟨0, 0, 0, 0⟩
theorem hdG_y {s : Bs} (h : hdE s = 0) : hdG s = hdV s := by
 unfold hdG; unfold hdE hdO at h
 split
 ·rfl
 ·rename_i q
  rw [Bool.not_eq_true] at q
  rw [q] at h; simp at h
def hdA (ls : List Bs) (k : Nat) : Nat := if hdE (lnAt ls k) = 0 then k + 1 else k
theorem hdA_n {ls : List Bs} {k : Nat} (h : hdE (lnAt ls k) ≠ 0) : hdA ls k = k := if_neg h
theorem hdA_y {ls : List Bs} {k : Nat} (h : hdE (lnAt ls k) = 0) : hdA ls k = k + 1 := if_pos h
theorem lnAt_eq {ls : List Bs} {k : Nat} {x : Bs} (h : ls[0 + k]? = some x) : lnAt ls k = x := by
 rw [Nat.zero_add] at h; unfold lnAt; rw [List.getD_eq_getElem?_getD, h]; rfl
def isB (ls : List Bs) (k : Nat) (p : Bs) : Bool := decide (k < ls.length) && Lib.hasPrefix (lnAt ls k) p
theorem hp_one {s : Bs} {c : UInt8} : Lib.hasPrefix s [c] = true ↔ s[0]? = some c := by
 cases s with
 | nil => simp [Lib.hasPrefix, List.isPrefixOf]
 | cons x s => simp [Lib.hasPrefix, List.isPrefixOf]; exact eq_comm
theorem isE {e : Int} {b : Bool} (h : (decide (e = 0) && b) = true) : b = true := by rw [Bool.and_eq_true] at h; exact h.2
theorem isE' {e : Int} {b : Bool} (h : (decide (e = 0) && b) = false) (h0 : e = 0) : b = false := by rw [decide_eq_true h0, Bool.true_and] at h; exact h
theorem isB_lt {ls : List Bs} {k : Nat} {p : Bs} (h : isB ls k p = true) : k < ls.length := by
 unfold isB at h; rw [Bool.and_eq_true] at h; exact of_decide_eq_true h.1
theorem isB_0 {ls : List Bs} {k : Nat} {c : UInt8} {x : Bs} (h : isB ls k [c] = true) (hx : ls[0 + k]? = some x) : x[0]? = some c := by
 unfold isB at h; rw [Bool.and_eq_true, lnAt_eq hx] at h; exact hp_one.1 h.2
theorem isB_1 {ls : List Bs} {k : Nat} {c : UInt8} {x : Bs} (h : isB ls k [c] = true) (hx : ls[0 + k]? = some x) : 1 ≤ x.length := by
 have := isB_0 h hx
 have := (List.getElem?_eq_some_iff.1 this).1
 omega
theorem isB_n {ls : List Bs} {k : Nat} {c : UInt8} {x : Bs} (h : isB ls k [c] = false) (hx : ls[k]? = some x) : x[0]? ≠ some c := fun q => by
 unfold isB at h
 have hk := (List.getElem?_eq_some_iff.1 hx).1
 rw [decide_eq_true hk, lnAt_eq (by rw [Nat.zero_add]; exact hx), hp_one.2 q] at h
 cases h
theorem neB_t {ls : List Bs} {k : Nat} {x : Bs} (h : ls[0 + (k + 1)]? = some x) (hx : x = [92, 32, 78, 111, 32, 110, 101, 119, 108, 105, 110, 101, 32, 97, 116, 32, 101, 110, 100, 32, 111, 102, 32, 102, 105, 108, 101]) : neB ls (k + 1) = true := by
 unfold neB; rw [Nat.zero_add] at h; rw [h, hx]; exact decide_eq_true rfl
theorem neB_f {ls : List Bs} {k : Nat} {x : Bs} (h : ls[0 + (k + 1)]? = some x) (hx : ¬ x = [92, 32, 78, 111, 32, 110, 101, 119, 108, 105, 110, 101, 32, 97, 116, 32, 101, 110, 100, 32, 111, 102, 32, 102, 105, 108, 101]) : neB ls (k + 1) = false := by
 unfold neB; rw [Nat.zero_add] at h; rw [h]; exact decide_eq_false fun q => hx (by injection q)
theorem neB_o {ls : List Bs} {k : Nat} (h : ¬ (k : Int) + 1 < ls.length) : neB ls (k + 1) = false := by
 unfold neB; rw [List.getElem?_eq_none (by omega)]; exact decide_eq_false fun q => by cases q
noncomputable def hkLn (ls : List Bs) (k : Nat) : List DL := if hdE (lnAt ls k) = 0 then (hkB ls k).2.2 else []
structure HunkI (ls : List Bs) (k : Nat) (j : Nat × Int × Int × Int × List DL) : Prop where
 le : j.1 ≤ ls.length
 ia : InI64 j.2.2.1
 ib : InI64 j.2.2.2.1
 ln : j.2.2.2.2.length ≤ j.1
 ok : j.2.1 = 0 → hdE (lnAt ls k) = 0 ∧ Bd ls j.2.2.1 j.2.2.2.1 j.1 j.2.2.2.2 (hkB ls k)
 bad : j.2.1 ≠ 0 → hdE (lnAt ls k) = j.2.1 ∧ k = j.1 ∧ j.2.2.2.2 = []
def hkM (ls : List Bs) (j : Nat × Int × Int × Int × List DL) : Nat := if j.2.1 = 0 then ls.length - j.1 + 1 else 0
section
variable {ls : List Bs} {k : Nat} {j : Nat × Int × Int × Int × List DL}
theorem dgV_in (s : Bs) : InI64 (dgV s) := by
 unfold dgV; split
 ·unfold InI64; omega
 ·exact numV_in s
theorem prB_in (s : Bs) : InI64 (prB s) := by
 unfold prB; split
 ·exact dgV_in _
 ·unfold InI64; omega
theorem hdG_in (s : Bs) : InI64 (hdG s).la ∧ InI64 (hdG s).lb := by
 unfold hdG; split
 ·exact ⟨prB_in _, prB_in _⟩
 ·exact ⟨by unfold InI64; decide, by unfold InI64; decide⟩
theorem HunkI.init (hk : k < ls.length) : HunkI ls k (hdA ls k, hdE (lnAt ls k), (hdG (lnAt ls k)).la, (hdG (lnAt ls k)).lb, []) := by
 refine ⟨?_, (hdG_in _).1, (hdG_in _).2, Nat.zero_le _, fun h => ?_, fun h => ?_⟩
 ·show hdA ls k ≤ ls.length
  unfold hdA; split <;> omega
 ·have h : hdE (lnAt ls k) = 0 := h
  refine ⟨h, ?_⟩
  show Bd ls (hdG (lnAt ls k)).la (hdG (lnAt ls k)).lb (hdA ls k) [] (hkB ls k)
  rw [hdG_y h, hdA_y h]
  exact bdR_ok _ _ _ _
 ·exact ⟨rfl, (hdA_n h).symm, rfl⟩
theorem HunkI.step {op a' b' : Int} {k' : Nat} {t : Bool} {x : Bs} (h : HunkI ls k j) (e : j.2.1 = 0) (hx : ls[0 + j.1]? = some x) (ho : opP x j.2.2.1 j.2.2.2.1 = some op)
    (ha : a' = if op = 3 then j.2.2.1 else j.2.2.1 - 1) (hb : b' = if op = 2 then j.2.2.2.1 else j.2.2.2.1 - 1) (hn : neB ls (j.1 + 1) = t) (hk : k' = if t = true then j.1 + 1 + 1 else j.1 + 1) : HunkI ls k (k', j.2.1, a', b', j.2.2.2.2 ++ [⟨op, (x.take x.length).drop 1, t⟩]) := by
  rw [Nat.zero_add] at hx
  have hl := (List.getElem?_eq_some_iff.1 hx).1
  obtain ⟨h1, h2⟩ := h.ok e
  have hia := h.ia
  have hib := h.ib
  have hq : nxt ls (j.1 + 1) = k' := by unfold nxt; rw [hn, hk]
  have hle : k' ≤ ls.length := by rw [← hq]; exact nxt_le (by omega)
  have hge : j.1 + 1 ≤ k' := by rw [← hq]; exact nxt_ge _
  refine ⟨hle, ?_, ?_, ?_, fun _ => ⟨h1, ?_⟩, fun q => absurd e q⟩
  · show InI64 a'
    rcases opP_cases ho with q | q | q <;> obtain ⟨rfl, q2, q⟩ := q <;> rw [ha] <;> simp <;> unfold InI64 at * <;> omega
  · show InI64 b'
    rcases opP_cases ho with q | q | q <;> obtain ⟨rfl, q2, q⟩ := q <;> rw [hb] <;> simp <;> unfold InI64 at * <;> omega
  · show (j.2.2.2.2 ++ _).length ≤ k'
    rw [List.length_append, List.length_singleton]
    have := h.ln
    omega
  · show Bd ls a' b' k' (j.2.2.2.2 ++ _) (hkB ls k)
    rw [List.take_of_length_le (Nat.le_refl _)]
    generalize hkB ls k = r at h2 ⊢
    cases h2 with
    | fin q => rcases opP_cases ho with q' | q' | q' <;> omega
    | out _ q => omega
    | bad _ q q2 => rw [hx] at q; cases q; rw [ho] at q2; cases q2
    | go q q2 q3 =>
      rw [hx] at q; cases q; rw [ho] at q2; cases q2
      rw [ha, hb, ← hq, ← hn]
      exact q3
theorem hkM_lt {k' : Nat} {a' b' : Int} {x : Bs} {acc : List DL} (e : j.2.1 = 0) (hx : ls[0 + j.1]? = some x) (h : j.1 < k') : hkM ls (k', j.2.1, a', b', acc) < hkM ls j := by
 have hl := (List.getElem?_eq_some_iff.1 hx).1
 unfold hkM
 rw [if_pos e, if_pos e]
 simp only
 omega
theorem opP_1 {x : Bs} {a b : Int} (h : x[0]? = some 32) (ha : 0 < a) (hb : 0 < b) : opP x a b = some 1 := by unfold opP; rw [if_pos ⟨h, ha, hb⟩]
theorem opP_2 {x : Bs} {a b : Int} (h : x[0]? = some 45) (ha : 0 < a) : opP x a b = some 2 := by unfold opP; rw [if_neg (by rw [h]; rintro ⟨q, -⟩; cases q), if_pos ⟨h, ha⟩]
theorem opP_3 {x : Bs} {a b : Int} (h : x[0]? = some 43) (hb : 0 < b) : opP x a b = some 3 := by unfold opP; rw [if_neg (by rw [h]; rintro ⟨q, -⟩; cases q), if_neg (by rw [h]; rintro ⟨q, -⟩; cases q), if_pos ⟨h, hb⟩]
theorem HunkI.s1 {t : Bool} {x : Bs} {k' : Nat} (h : HunkI ls k j) (e : j.2.1 = 0) (hx : ls[0 + j.1]? = some x) (p : (decide (j.2.1 = 0) && isB ls j.1 [32]) = true) (ha : 0 < j.2.2.1) (hb : 0 < j.2.2.2.1) (hn : neB ls (j.1 + 1) = t) (hk : k' = if t = true then j.1 + 1 + 1 else j.1 + 1) : HunkI ls k (k', j.2.1, j.2.2.1 - 1, j.2.2.2.1 - 1, j.2.2.2.2 ++ [⟨1, (x.take x.length).drop 1, t⟩]) :=
 h.step e hx (opP_1 (isB_0 (isE p) hx) ha hb) rfl rfl hn hk
theorem HunkI.s2 {t : Bool} {x : Bs} {k' : Nat} (h : HunkI ls k j) (e : j.2.1 = 0) (hx : ls[0 + j.1]? = some x) (p : (decide (j.2.1 = 0) && isB ls j.1 [45]) = true) (ha : 0 < j.2.2.1) (hn : neB ls (j.1 + 1) = t) (hk : k' = if t = true then j.1 + 1 + 1 else j.1 + 1) : HunkI ls k (k', j.2.1, j.2.2.1 - 1, j.2.2.2.1, j.2.2.2.2 ++ [⟨2, (x.take x.length).drop 1, t⟩]) :=
 h.step e hx (opP_2 (isB_0 (isE p) hx) ha) rfl rfl hn hk
theorem HunkI.s3 {t : Bool} {x : Bs} {k' : Nat} (h : HunkI ls k j) (e : j.2.1 = 0) (hx : ls[0 + j.1]? = some x) (p : (decide (j.2.1 = 0) && isB ls j.1 [43]) = true) (hb : 0 < j.2.2.2.1) (hn : neB ls (j.1 + 1) = t) (hk : k' = if t = true then j.1 + 1 + 1 else j.1 + 1) : HunkI ls k (k', j.2.1, j.2.2.1, j.2.2.2.1 - 1, j.2.2.2.2 ++ [⟨3, (x.take x.length).drop 1, t⟩]) :=
 h.step e hx (opP_3 (isB_0 (isE p) hx) hb) rfl rfl hn hk
def HunkE (ls : List Bs) (k : Nat) (j : Nat × Int × Int × Int × List DL) (e : Int) : Prop := e = hkE ls k ∧ j.1 = hkA ls k ∧ j.2.2.2.2 = hkLn ls k
theorem HunkI.end (h : HunkI ls k j) (e : j.2.1 = 0) {r : Int × Nat × List DL} (hr : hkB ls k = r) (h1 : r.2.1 = j.1) (h2 : r.2.2 = j.2.2.2.2) : HunkE ls k j r.1 := by
 obtain ⟨q, -⟩ := h.ok e
 refine ⟨?_, ?_, ?_⟩
 ·unfold hkE; rw [if_pos q, hr]
 ·unfold hkA; rw [if_pos q, hr, h1]
 ·unfold hkLn; rw [if_pos q, hr, h2]
theorem HunkI.fin (h : HunkI ls k j) (e : j.2.1 = 0) (ha : ¬ 0 < j.2.2.1) (hb : ¬ 0 < j.2.2.2.1) : HunkE ls k j j.2.1 := by
 rw [e]
 have h2 := (h.ok e).2
 have hr : hkB ls k = (0, j.1, j.2.2.2.2) := h2.det (.fin (by omega))
 exact h.end e hr rfl rfl
theorem HunkI.err (h : HunkI ls k j) (e : ¬ j.2.1 = 0) : HunkE ls k j j.2.1 := by
 obtain ⟨q1, q2, q3⟩ := h.bad e
 have hn : ¬ hdE (lnAt ls k) = 0 := by rw [q1]; exact e
 refine ⟨?_, ?_, ?_⟩
 ·unfold hkE; rw [if_neg hn, q1]
 ·unfold hkA; rw [if_neg hn, q2]
 ·unfold hkLn; rw [if_neg hn, q3]
theorem HunkI.out (h : HunkI ls k j) (e : j.2.1 = 0) (hab : 0 < j.2.2.1 ∨ 0 < j.2.2.2.1) (q1 : (decide (j.2.1 = 0) && isB ls j.1 [32]) = false ∨ ¬ 0 < j.2.2.1 ∨ ¬ 0 < j.2.2.2.1) (q2 : (decide (j.2.1 = 0) && isB ls j.1 [45]) = false ∨ ¬ 0 < j.2.2.1) (q3 : (decide (j.2.1 = 0) && isB ls j.1 [43]) = false ∨ ¬ 0 < j.2.2.2.1) : HunkE ls k j 1 := by
 have h2 := (h.ok e).2
 have hr : hkB ls k = (1, j.1, j.2.2.2.2) := by
  cases hl : ls[j.1]? with
  | none => exact h2.det (.out hab (List.getElem?_eq_none_iff.1 hl))
  | some x =>
   refine h2.det (.bad hab hl ?_)
   unfold opP
   rw [if_neg, if_neg, if_neg]
   ·rintro ⟨p, p2⟩
    rcases q3 with q3 | q3
    ·exact isB_n (isE' q3 e) hl p
    ·exact q3 p2
   ·rintro ⟨p, p2⟩
    rcases q2 with q2 | q2
    ·exact isB_n (isE' q2 e) hl p
    ·exact q2 p2
   ·rintro ⟨p, p2, p3⟩
    rcases q1 with q1 | q1 | q1
    ·exact isB_n (isE' q1 e) hl p
    ·exact q1 p2
    ·exact q1 p3
 exact h.end e hr rfl rfl
theorem HunkE.e {e : Int} (h : HunkE ls k j e) : e = hkE ls k := h.1
theorem HunkE.a {e : Int} (h : HunkE ls k j e) : (j.1 : Int) = hkA ls k := by rw [h.2.1]
theorem HunkE.n {e : Int} (h : HunkE ls k j e) : j.2.2.2.2.length = (hkLn ls k).length := by rw [h.2.2]
theorem HunkE.l {e : Int} {f : DL → AV} (h : HunkE ls k j e) : j.2.2.2.2.map f = (hkLn ls k).map f := by rw [h.2.2]
end
end Go.Proofs.YtfbpbkcplpkndaaGreatDoor
end
section
namespace Go.Proofs.YtfbpbkcplpkndaaGreatDoor
set_option linter.unusedVariables false
set_option linter.unusedSimpArgs false
set_option maxRecDepth 100000
set_option maxHeartbeats 2000000
theorem tpr4 {s : Bs} (h : Lib.hasPrefix s [64, 64, 32, 45] = true) : Lib.trimPrefix s [64, 64, 32, 45] = s.drop 4 := by unfold Lib.trimPrefix; rw [if_pos h]; rfl
theorem hdG_p {s : Bs} (h : Lib.hasPrefix s [64, 64, 32, 45] = true) : hdG s = hdV s := by unfold hdG; rw [if_pos h]
theorem hdG_n {s : Bs} (h : Lib.hasPrefix s [64, 64, 32, 45] = false) : hdG s = ⟨0, 0, 0, 0⟩ := by unfold hdG; rw [if_neg (by rw [h]; decide)]
theorem hdE_o {s : Bs} (h : hdO s = false) : hdE s = 1 := by unfold hdE; rw [if_neg (by rw [h]; decide)]
theorem hdE_p {s : Bs} (h : Lib.hasPrefix s [64, 64, 32, 45] = false) : hdE s = 1 := hdE_o (by unfold hdO; rw [h]; rfl)
def hdY (s : Bs) : Bs × Bs × Bool := Lib.cut (Lib.trimSuffix (Lib.trimPrefix s [64, 64, 32, 45]) [32, 64, 64]) [32, 43]
theorem hdX_y {s : Bs} (h : Lib.hasPrefix s [64, 64, 32, 45] = true) : hdX s = hdY s := by unfold hdX hdY hdT; rw [tpr4 h]
theorem hdV_y {s : Bs} (h : Lib.hasPrefix s [64, 64, 32, 45] = true) : hdG s = ⟨prA (hdY s).1, prB (hdY s).1, prA (hdY s).2.1, prB (hdY s).2.1⟩ := by rw [hdG_p h]; unfold hdV; rw [hdX_y h]
theorem hdE_s {s : Bs} (h0 : Lib.hasPrefix s [64, 64, 32, 45] = true) (h : Lib.hasSuffix (Lib.trimPrefix s [64, 64, 32, 45]) [32, 64, 64] = false) : hdE s = 1 := hdE_o (by rw [tpr4 h0] at h; unfold hdO; rw [h]; simp)
theorem hdE_c {s : Bs} (h0 : Lib.hasPrefix s [64, 64, 32, 45] = true) (h : (hdY s).2.2 = false) : hdE s = 1 := hdE_o (by rw [← hdX_y h0] at h; unfold hdO; rw [h]; simp)
theorem hdE_a {s : Bs} (h0 : Lib.hasPrefix s [64, 64, 32, 45] = true) (h : prO (hdY s).1 = false) : hdE s = 1 := hdE_o (by rw [← hdX_y h0] at h; unfold hdO; rw [h]; simp)
theorem hdE_b {s : Bs} (h0 : Lib.hasPrefix s [64, 64, 32, 45] = true) (h : prO (hdY s).2.1 = false) : hdE s = 1 := hdE_o (by rw [← hdX_y h0] at h; unfold hdO; rw [h]; simp)
theorem hdO_y {s : Bs} (h1 : Lib.hasPrefix s [64, 64, 32, 45] = true) (h2 : Lib.hasSuffix (Lib.trimPrefix s [64, 64, 32, 45]) [32, 64, 64] = true) (h3 : (hdY s).2.2 = true) (h4 : prO (hdY s).1 = true) (h5 : prO (hdY s).2.1 = true) : hdO s = true := by
 rw [tpr4 h1] at h2; unfold hdO; rw [hdX_y h1, h1, h2, h3, h4, h5]; rfl
theorem hdE_2 {s : Bs} (h1 : Lib.hasPrefix s [64, 64, 32, 45] = true) (h : hdO s = true) (q : ¬ (prA (hdY s).1 ≤ 2147483647 ∧ prB (hdY s).1 ≤ 2147483647 ∧ prA (hdY s).2.1 ≤ 2147483647 ∧ prB (hdY s).2.1 ≤ 2147483647)) : hdE s = 2 := by unfold hdE; rw [if_pos h, ← hdG_p h1, hdV_y h1, if_neg q]
theorem hdE_0 {s : Bs} (h1 : Lib.hasPrefix s [64, 64, 32, 45] = true) (h : hdO s = true) (q : prA (hdY s).1 ≤ 2147483647 ∧ prB (hdY s).1 ≤ 2147483647 ∧ prA (hdY s).2.1 ≤ 2147483647 ∧ prB (hdY s).2.1 ≤ 2147483647) : hdE s = 0 := by unfold hdE; rw [if_pos h, ← hdG_p h1, hdV_y h1, if_pos q]
theorem tp_len (s p : Bs) : (Lib.trimPrefix s p).length ≤ s.length := by
 unfold Lib.trimPrefix; split
 ·rw [List.length_drop]; omega
 ·exact Nat.le_refl _
theorem ts_len (s p : Bs) : (Lib.trimSuffix s p).length ≤ s.length := Lib.trimSuffix_le s p
theorem cut_len (s p : Bs) : (Lib.cut s p).1.length ≤ s.length ∧ (Lib.cut s p).2.1.length ≤ s.length := by
 unfold Lib.cut
 split <;> simp <;> omega
theorem mx4n {a b c d n : Int} (h : n < if d > (if c > (if b > a then b else a) then c else (if b > a then b else a)) then d else (if c > (if b > a then b else a) then c else (if b > a then b else a))) (q : a ≤ n ∧ b ≤ n ∧ c ≤ n ∧ d ≤ n) : False := by
 (repeat' split at h) <;> omega
theorem mx4y {a b c d n : Int} (h : ¬ (n < if d > (if c > (if b > a then b else a) then c else (if b > a then b else a)) then d else (if c > (if b > a then b else a) then c else (if b > a then b else a)))) : a ≤ n ∧ b ≤ n ∧ c ≤ n ∧ d ≤ n := by
 (repeat' split at h) <;> omega
section
variable {X : CallF}
theorem is3_run (hI : LibC X) (ls : List Bs) (k n : Nat) (e : Int) (p : Bs) (hn : n = ls.length) (hl : ls.length ≤ 100000000) (P : List Pt) (o nn : Bs) (hs : List Hk) (hq : Nat) (acc : List DL) (fa la fb lb op : Int) (tx : ByteArray) (ne : Bool) (ha : Nat) : (R FT X).m 50 [.ptr 1 0, strL p] [.row 0 1 (ls.map strL) true 0, .box 83 [.row 0 0 n 0 n, intA k, intA e], .row 0 3 (P.map encPt) true 1, .box 29 [strL o, strL nn, .row 4 0 hq 0 hq], .row 0 5 (hs.map encHk) true 1, .row 0 3 [] true 1, .box 46 [intA 0, intA 0, intA 0, intA 0, .row 5 0 0 0 0], .row 0 3 (acc.map encDL) true 1, .box 46 [intA fa, intA la, intA fb, intA lb, .row 7 0 ha 0 ha], .box 70 [intA op, .val (.string tx), boolA ne]] = some (boolA (decide (e = 0) && isB ls k p), [.row 0 1 (ls.map strL) true 0, .box 83 [.row 0 0 n 0 n, intA k, intA e], .row 0 3 (P.map encPt) true 1, .box 29 [strL o, strL nn, .row 4 0 hq 0 hq], .row 0 5 (hs.map encHk) true 1, .row 0 3 [] true 1, .box 46 [intA 0, intA 0, intA 0, intA 0, .row 5 0 0 0 0], .row 0 3 (acc.map encDL) true 1, .box 46 [intA fa, intA la, intA fb, intA lb, .row 7 0 ha 0 ha], .box 70 [intA op, .val (.string tx), boolA ne]]) := by
 have hh := hI.hp
 subst hn
 refine RM_wp (((Tr.k ls.length ((Tr.k k (Tr.ix strL ls ((0 : Nat) + k) fun (x3 : Bs) ↦ Tr.c (boolA (Lib.hasPrefix x3 p)) Tr.nil)).br Tr.nil)).br (Tr.b false Tr.nil)).w) rfl ?_
 refine Eq.mpr (by kernel_rfl : _ = ((decide (e = 0) = true → (List.map strL ls).length = ls.length ∧ (List.take ls.length (List.drop (0 : Nat) (List.map strL ls))).length = ls.length ∧ (decide ((↑k : Int) < (↑ls.length : Int)) = true → (List.map strL ls).length = ls.length ∧ (↑k : Int) = (↑k : Int) ∧ k < ls.length ∧ List.map strL ls = List.map strL ls ∧ (List.map strL ls).length = ls.length ∧ (0 : Nat) + k = 0 + k ∧ (0 : Nat) + k < ls.length ∧ ∀ (x3 : Bs), ls[(0 : Nat) + k]? = some x3 → (R FT X).f 80 [strL x3, strL p] = some (boolA (Lib.hasPrefix x3 p)) ∧ Lib.hasPrefix x3 p = (decide (e = 0) && isB ls k p) ∧ List.map strL ls = List.map strL ls ∧ ((ls.length = ls.length ∧ (0 : Nat) = 0 ∧ ls.length = ls.length) ∧ (↑k : Int) = (↑k : Int) ∧ e = e) ∧ List.map encPt P = List.map encPt P ∧ (o = o ∧ nn = nn ∧ hq = hq ∧ (0 : Nat) = 0 ∧ hq = hq) ∧ List.map encHk hs = List.map encHk hs ∧ @List.nil AV = [] ∧ ((0 : Int) = 0 ∧ (0 : Int) = 0 ∧ (0 : Int) = 0 ∧ (0 : Int) = 0 ∧ (0 : Nat) = 0 ∧ (0 : Nat) = 0 ∧ (0 : Nat) = 0) ∧ List.map encDL acc = List.map encDL acc ∧ (fa = fa ∧ la = la ∧ fb = fb ∧ lb = lb ∧ ha = ha ∧ (0 : Nat) = (0
 : Nat) ∧ ha = ha) ∧ op = op ∧ toL tx = toL tx ∧ ne = ne) ∧ (decide ((↑k : Int) < (↑ls.length : Int)) = false → false = (decide (e = 0) && isB ls k p) ∧ List.map strL ls = List.map strL ls ∧ ((ls.length = ls.length ∧ (0 : Nat) = 0 ∧ ls.length = ls.length) ∧ (↑k : Int) = (↑k : Int) ∧ e = e) ∧ List.map encPt P = List.map encPt P ∧ (o = o ∧ nn = nn ∧ hq = hq ∧ (0 : Nat) = 0 ∧ hq = hq) ∧ List.map encHk hs = List.map encHk hs ∧ @List.nil AV = [] ∧ ((0 : Int) = 0 ∧ (0 : Int) = 0 ∧ (0 : Int) = 0 ∧ (0 : Int) = 0 ∧ (0 : Nat) = 0 ∧ (0 : Nat) = 0 ∧ (0 : Nat) = 0) ∧ List.map encDL acc = List.map encDL acc ∧ (fa = fa ∧ la = la ∧ fb = fb ∧ lb = lb ∧ ha = ha ∧ (0 : Nat) = 0 ∧ ha = ha) ∧ op = op ∧ toL tx = toL tx ∧ ne = ne)) ∧ (decide (e = 0) = false → false = false ∧ false = (decide (e = 0) && isB ls k p) ∧ List.map strL ls = List.map strL ls ∧ ((ls.length = ls.length ∧ (0 : Nat) = 0 ∧ ls.length = ls.length) ∧ (↑k : Int) = (↑k : Int) ∧ e = e) ∧ List.map encPt P = List.map encPt P ∧ (o = o ∧ nn = nn ∧ hq = hq ∧ (0 : Nat) = 0 ∧ hq = hq) ∧ List.map encHk hs = List.map encHk hs ∧ @List.nil
 AV = [] ∧ ((0 : Int) = 0 ∧ (0 : Int) = 0 ∧ (0 : Int) = 0 ∧ (0 : Int) = 0 ∧ (0 : Nat) = 0 ∧ (0 : Nat) = 0 ∧ (0 : Nat) = 0) ∧ List.map encDL acc = List.map encDL acc ∧ (fa = fa ∧ la = la ∧ fb = fb ∧ lb = lb ∧ ha = ha ∧ (0 : Nat) = 0 ∧ ha = ha) ∧ op = op ∧ toL tx = toL tx ∧ ne = ne))) ?_
 refine ⟨fun h1_ => have h1 := dT h1_; ⟨(by simp), (by simp), fun h2_ => have h2 := dT h2_; ⟨(by simp), rfl, (by omega), rfl, (by simp), rfl, (by omega), fun x3 => fun h4 => ⟨(hh _ _), ?_, rfl, ⟨⟨rfl, rfl, rfl⟩, rfl, rfl⟩, rfl, ⟨rfl, rfl, rfl, rfl, rfl⟩, rfl, rfl, ⟨rfl, rfl, rfl, rfl, rfl, rfl, rfl⟩, rfl, ⟨rfl, rfl, rfl, rfl, rfl, rfl, rfl⟩, rfl, rfl, rfl⟩⟩, fun h5_ => have h5 := dF h5_; ⟨?_, rfl, ⟨⟨rfl, rfl, rfl⟩, rfl, rfl⟩, rfl, ⟨rfl, rfl, rfl, rfl, rfl⟩, rfl, rfl, ⟨rfl, rfl, rfl, rfl, rfl, rfl, rfl⟩, rfl, ⟨rfl, rfl, rfl, rfl, rfl, rfl, rfl⟩, rfl, rfl, rfl⟩⟩, fun h6_ => have h6 := dF h6_; ⟨rfl, ?_, rfl, ⟨⟨rfl, rfl, rfl⟩, rfl, rfl⟩, rfl, ⟨rfl, rfl, rfl, rfl, rfl⟩, rfl, rfl, ⟨rfl, rfl, rfl, rfl, rfl, rfl, rfl⟩, rfl, ⟨rfl, rfl, rfl, rfl, rfl, rfl, rfl⟩, rfl, rfl, rfl⟩⟩
 ·unfold isB; rw [lnAt_eq h4, decide_eq_true h1, decide_eq_true (by omega)]; rfl
 ·unfold isB; rw [decide_eq_false (by omega : ¬ k < ls.length)]; simp
 ·rw [decide_eq_false (by assumption)]; rfl
theorem head3_run (hI : LibC X) (hc : NumC X) (ls : List Bs) (k n : Nat) (hn : n = ls.length) (hl : ls.length ≤ 100000000) (hx : ∀ y ∈ ls, y.length ≤ 10000000) (hk : k < ls.length) (P : List Pt) (o nn : Bs) (hs : List Hk) (hq : Nat) : (R FT X).m 81 [.ptr 1 0] [.row 0 1 (ls.map strL) true 0, .box 83 [.row 0 0 n 0 n, intA k, intA 0], .row 0 3 (P.map encPt) true 1, .box 29 [strL o, strL nn, .row 4 0 hq 0 hq], .row 0 5 (hs.map encHk) true 1, .row 0 3 [] true 1, .box 46 [intA 0, intA 0, intA 0, intA 0, .row 5 0 0 0 0]] = some (.agg [intA (hdG (lnAt ls k)).fa, intA (hdG (lnAt ls k)).la, intA (hdG (lnAt ls k)).fb, intA (hdG (lnAt ls k)).lb, .row 7 0 0 0 0], [.row 0 1 (ls.map strL) true 0, .box 83 [.row 0 0 n 0 n, intA (hdA ls k), intA (hdE (lnAt ls k))], .row 0 3 (P.map encPt) true 1, .box 29 [strL o, strL nn, .row 4 0 hq 0 hq], .row 0 5 (hs.map encHk) true 1, .row 0 3 [] true 1, .box 46 [intA 0, intA 0, intA 0, intA 0, .row 5 0 0 0 0], .row 0 3 [] true 1]) := by
 have hm := maxLen_le
 have cp := hI.cp
 have pa := fun (s : Bs) h => part3_run (X := X) hI hc s h
 have cs := hI.cs
 have ct := fun (s p : Bs) h => hI.ct s p h
 subst hn
 have hxl : ∀ y, lnAt ls k = y → y.length ≤ 10000000 := fun y h => hx y (by rw [← h]; unfold lnAt; rw [List.getD_eq_getElem?_getD, List.getElem?_eq_getElem hk]; exact List.getElem_mem hk)
 refine RM_wp ((Tr.k ls.length (Tr.b true (Tr.k k (Tr.ix strL ls ((0 : Nat) + k) fun (x1 : Bs) ↦ Tr.c (AV.tuple [strL (Lib.trimPrefix x1 [(64 : UInt8), (64 : UInt8), (32 : UInt8), (45 : UInt8)]), boolA (Lib.hasPrefix x1 [(64 : UInt8), (64 : UInt8), (32 : UInt8), (45 : UInt8)])]) ((Tr.b true Tr.nil).w.w.br (Tr.b false (Tr.c (AV.tuple [strL (Lib.trimSuffix (Lib.trimPrefix x1 [(64 : UInt8), (64 : UInt8), (32 : UInt8), (45 : UInt8)]) [(32 : UInt8), (64 : UInt8), (64 : UInt8)]), boolA (Lib.hasSuffix (Lib.trimPrefix x1 [(64 : UInt8), (64 : UInt8), (32 : UInt8), (45 : UInt8)]) [(32 : UInt8), (64 : UInt8), (64 : UInt8)])]) (Tr.c (AV.tuple [strL (Lib.cut (Lib.trimSuffix (Lib.trimPrefix x1 [(64 : UInt8), (64 : UInt8), (32 : UInt8), (45 : UInt8)]) [(32 : UInt8), (64 : UInt8), (64 : UInt8)]) [(32 : UInt8), (43 : UInt8)]).fst, strL (Lib.cut (Lib.trimSuffix (Lib.trimPrefix x1 [(64 : UInt8), (64 : UInt8), (32 : UInt8), (45 : UInt8)]) [(32 : UInt8), (64 : UInt8), (64 : UInt8)]) [(32 : UInt8), (43 : UInt8)]).snd.fst, boolA (Lib.cut (Lib.trimSuffix (Lib.trimPrefix x1 [(64 : UInt8), (64 : UInt8), (32 : UInt8), (45 : UInt8)]) [(32 : UInt8), (64 : UInt8), (64 : UInt8)]) [(32 : UInt8), (43 : UInt8)]).snd.snd]) (Tr.c (AV.tuple
 [intA (prA (Lib.cut (Lib.trimSuffix (Lib.trimPrefix x1 [(64 : UInt8), (64 : UInt8), (32 : UInt8), (45 : UInt8)]) [(32 : UInt8), (64 : UInt8), (64 : UInt8)]) [(32 : UInt8), (43 : UInt8)]).fst), intA (prB (Lib.cut (Lib.trimSuffix (Lib.trimPrefix x1 [(64 : UInt8), (64 : UInt8), (32 : UInt8), (45 : UInt8)]) [(32 : UInt8), (64 : UInt8), (64 : UInt8)]) [(32 : UInt8), (43 : UInt8)]).fst), boolA (prO (Lib.cut (Lib.trimSuffix (Lib.trimPrefix x1 [(64 : UInt8), (64 : UInt8), (32 : UInt8), (45 : UInt8)]) [(32 : UInt8), (64 : UInt8), (64 : UInt8)]) [(32 : UInt8), (43 : UInt8)]).fst)]) (Tr.c (AV.tuple [intA (prA (Lib.cut (Lib.trimSuffix (Lib.trimPrefix x1 [(64 : UInt8), (64 : UInt8), (32 : UInt8), (45 : UInt8)]) [(32 : UInt8), (64 : UInt8), (64 : UInt8)]) [(32 : UInt8), (43 : UInt8)]).snd.fst), intA (prB (Lib.cut (Lib.trimSuffix (Lib.trimPrefix x1 [(64 : UInt8), (64 : UInt8), (32 : UInt8), (45 : UInt8)]) [(32 : UInt8), (64 : UInt8), (64 : UInt8)]) [(32 : UInt8), (43 : UInt8)]).snd.fst), boolA (prO (Lib.cut (Lib.trimSuffix (Lib.trimPrefix x1 [(64 : UInt8), (64 : UInt8), (32 : UInt8), (45 : UInt8)]) [(32 : UInt8), (64 : UInt8), (64 : UInt8)]) [(32 : UInt8), (43 : UInt8)]).snd.fst)]) ((Tr.b true (Tr.b
 true (Tr.b true (Tr.b true Tr.nil.w).w.w).w)).br ((Tr.b true (Tr.b true (Tr.b true Tr.nil.w).w.w).w).br ((Tr.b true (Tr.b true Tr.nil.w).w.w).w.br ((Tr.b true Tr.nil.w).w.w.br ((Tr.b true Tr.nil.w).w.w.br (Tr.b false Tr.nil).w.w).w.w).w))).w.w))))).w.w.w).w.w))).w).w.inl) rfl ?_
 refine Eq.mpr (by kernel_rfl : _ = (let z19 := (↑k : Int) + 1 - (1 : Int) = (↑(hdA ls k) : Int); let z18 := (0 : Nat) = 0; let z17 := (List.map strL ls).length = ls.length; let z16 := true = true; let z15 := [(32 : UInt8), (43 : UInt8)]; let z14 := @List.nil AV = []; let z13 := (hdG (lnAt ls k)); let z11 := [(32 : UInt8), (64 : UInt8), (64 : UInt8)]; let z10 := (ls.length = ls.length ∧ z18 ∧ ls.length = ls.length); let z9 := List.map encPt P = List.map encPt P; let z8 := List.map encHk hs = List.map encHk hs; let z7 := List.map strL ls = List.map strL ls; let z6 := (o = o ∧ nn = nn ∧ hq = hq ∧ z18 ∧ hq = hq); let z4 := (z10 ∧ z19 ∧ (1 : Int) = hdE (lnAt ls k)); let z3 := ((0 : Int) = 0 ∧ (0 : Int) = 0 ∧ (0 : Int) = 0 ∧ (0 : Int) = 0 ∧ z18 ∧ z18 ∧ (0 : Nat) = 0); let z2 := [(64 : UInt8), (64 : UInt8), (32 : UInt8), (45 : UInt8)]; z17 ∧ (List.take ls.length (List.drop (0 : Nat) (List.map strL ls))).length = ls.length ∧ decide ((↑k : Int) < (↑ls.length : Int)) = true ∧ z17 ∧ (↑k : Int) = (↑k : Int) ∧ k < ls.length ∧ z7 ∧ z17 ∧ (0 : Nat) + k = 0 + k ∧ (0 : Nat) + k < ls.length ∧ ∀ (b0 : Bs), let z12 := (Lib.trimPrefix b0 z2); let z5 := (Lib.trimSuffix z12 z11); let z0 := (Lib.cut z5 z15); let z1 := (prA z0.fst = z13.fa ∧ prB z0.fst = z13.la ∧ prA z0.snd.fst = z13.fb ∧ prB z0.snd.fst = z13.lb ∧ z18 ∧ z18 ∧ (0 : Nat) = 0); ls[(0 : Nat) + k]? = some b0 → (R FT X).f 97 [strL b0, strL z2] = some (AV.tuple [strL z12, boolA (Lib.hasPrefix b0 z2)]) ∧ ((!Lib.hasPrefix b0 z2) = true → z16 ∧ ((0 : Int) = z13.fa ∧ (0 : Int) = z13.la ∧ (0 : Int) = z13.fb ∧ (0 : Int) = z13.lb ∧ z18 ∧ z18 ∧ (0 : Nat) = 0) ∧ z7 ∧ (z10 ∧ (↑k : Int) = (↑(hdA ls k) : Int) ∧ (1 : Int) = hdE (lnAt ls k)) ∧ z9 ∧ z6 ∧ z8 ∧ z14 ∧ z3 ∧ @List.nil AV = []) ∧ ((!Lib.hasPrefix b0 z2) = false → InI64 ((↑k : Int) + 1) ∧ false = false ∧ (R FT X).f 63 [strL z12, strL z11] = some (AV.tuple [strL z5, boolA (Lib.hasSuffix z12 z11)]) ∧ (R FT X).f 100 [strL z5, strL z15] = some (AV.tuple [strL z0.fst, strL z0.snd.fst, boolA z0.snd.snd]) ∧ (R FT X).f 101 [strL z0.fst] = some (AV.tuple [intA (prA z0.fst), intA (prB z0.fst), boolA (prO z0.fst)]) ∧ (R FT X).f 101 [strL z0.snd.fst] = some (AV.tuple [intA (prA z0.snd.fst), intA (prB z0.snd.fst), boolA (prO z0.snd.fst)]) ∧ ((!Lib.hasSuffix z12 z11) = true → z16 ∧ z16 ∧ z16 ∧ z16 ∧ InI64 ((↑k : Int) + 1 - (1 : Int)) ∧ z1 ∧ z7 ∧ z4 ∧ z9 ∧ z6 ∧ z8 ∧ z14 ∧ z3 ∧ @List.nil AV = []) ∧ ((!Lib.hasSuffix z12 z11) = false → ((!(Lib.cut z5 z15).snd.snd) = true → z16 ∧ z16 ∧ z16 ∧ InI64 ((↑k : Int) + 1 - (1 : Int)) ∧ z1 ∧ z7 ∧ z4 ∧ z9 ∧ z6 ∧ z8 ∧ z14 ∧ z3 ∧ @List.nil AV = []) ∧ ((!(Lib.cut z5 z15).snd.snd) = false → ((!prO z0.fst) = true → z16 ∧ z16 ∧ InI64 ((↑k : Int) + 1 - (1 : Int)) ∧ z1 ∧ z7 ∧ z4 ∧ z9 ∧ z6 ∧ z8 ∧ z14 ∧ z3 ∧ @List.nil AV = []) ∧ ((!prO z0.fst) = false → ((!prO z0.snd.fst) = true → z16 ∧ InI64 ((↑k : Int) + 1 - (1 : Int)) ∧ z1 ∧ z7 ∧ z4 ∧ z9 ∧ z6 ∧ z8 ∧ z14 ∧ z3 ∧ @List.nil AV = []) ∧ ((!prO z0.snd.fst) = false → (decide ((2147483647 : Int) < if prB z0.snd.fst > if prA z0.snd.fst > if prB z0.fst > prA z0.fst then prB z0.fst else prA z0.fst then prA z0.snd.fst else if prB z0.fst > prA z0.fst then prB z0.fst else prA z0.fst then prB z0.snd.fst else if prA z0.snd.fst > if prB z0.fst > prA z0.fst then prB z0.fst else prA z0.fst then prA z0.snd.fst else if prB z0.fst > prA z0.fst then prB z0.fst else prA z0.fst) = true → z16 ∧ InI64 ((↑k : Int) + 1 - (1 : Int)) ∧ z1 ∧ z7 ∧ (z10 ∧ z19 ∧ (2 : Int) = hdE (lnAt ls k)) ∧ z9 ∧ z6 ∧ z8 ∧ z14 ∧ z3 ∧ @List.nil AV = []) ∧ (decide ((2147483647 : Int) < if prB z0.snd.fst > if prA z0.snd.fst > if prB z0.fst > prA z0.fst then prB z0.fst else prA z0.fst then prA z0.snd.fst else if prB z0.fst > prA z0.fst then prB z0.fst else prA z0.fst then prB z0.snd.fst else if prA z0.snd.fst > if prB z0.fst > prA z0.fst then prB z0.fst else prA z0.fst then prA z0.snd.fst else if prB z0.fst > prA z0.fst then prB z0.fst else prA z0.fst) = false → false = false ∧ z1 ∧ z7 ∧ (z10 ∧ (↑k : Int) + 1 = (↑(hdA ls k) : Int) ∧ (0 : Int) = hdE (lnAt ls k)) ∧ z9 ∧ z6 ∧ z8 ∧ z14 ∧ z3 ∧ @List.nil AV = [])))))))) ?_
 conv => zeta
 refine ⟨(by simp), (by simp), (tD (by omega)), (by simp), rfl, hk, rfl, (by simp), rfl, (by omega), fun x1 => fun h2 => ⟨(cp _ _), fun h3_ => have h3 := nT h3_; ⟨rfl, ⟨?_, ?_, ?_, ?_, rfl, rfl, rfl⟩, rfl, ⟨⟨rfl, rfl, rfl⟩, ?_, ?_⟩, rfl, ⟨rfl, rfl, rfl, rfl, rfl⟩, rfl, rfl, ⟨rfl, rfl, rfl, rfl, rfl, rfl, rfl⟩, rfl⟩, fun h4_ => have h4 := nF h4_; ⟨(by unfold InI64; omega), rfl, (cs _ _ ?_), (ct _ _ ?_), (pa _ ?_), (pa _ ?_), fun h5_ => have h5 := nT h5_; ⟨rfl, rfl, rfl, rfl, (by unfold InI64; omega), ⟨?_, ?_, ?_, ?_, rfl, rfl, rfl⟩, rfl, ⟨⟨rfl, rfl, rfl⟩, ?_, ?_⟩, rfl, ⟨rfl, rfl, rfl, rfl, rfl⟩, rfl, rfl, ⟨rfl, rfl, rfl, rfl, rfl, rfl, rfl⟩, rfl⟩, fun h6_ => have h6 := nF h6_; ⟨fun h7_ => have h7 := nT h7_; ⟨rfl, rfl, rfl, (by unfold InI64; omega), ⟨?_, ?_, ?_, ?_, rfl, rfl, rfl⟩, rfl, ⟨⟨rfl, rfl, rfl⟩, ?_, ?_⟩, rfl, ⟨rfl, rfl, rfl, rfl, rfl⟩, rfl, rfl, ⟨rfl, rfl, rfl, rfl, rfl, rfl, rfl⟩, rfl⟩, fun h8_ => have h8 := nF h8_; ⟨fun h9_ => have h9 := nT h9_; ⟨rfl, rfl, (by unfold InI64; omega), ⟨?_, ?_, ?_, ?_, rfl, rfl, rfl⟩, rfl, ⟨⟨rfl, rfl, rfl⟩, ?_, ?_⟩, rfl, ⟨rfl, rfl, rfl, rfl, rfl⟩, rfl, rfl, ⟨rfl, rfl, rfl, rfl, rfl, rfl, rfl⟩, rfl⟩, fun h10_ => have h10 := nF h10_; ⟨fun h11_ => have h11 := nT h11_; ⟨rfl, (by unfold InI64; omega), ⟨?_, ?_, ?_, ?_, rfl, rfl, rfl⟩, rfl, ⟨⟨rfl, rfl, rfl⟩, ?_, ?_⟩, rfl, ⟨rfl, rfl, rfl, rfl, rfl⟩, rfl, rfl, ⟨rfl, rfl, rfl, rfl, rfl, rfl, rfl⟩, rfl⟩, fun h12_ => have h12 := nF h12_; ⟨fun h13_ => have h13 := dT h13_; ⟨rfl, (by unfold InI64; omega), ⟨?_, ?_, ?_, ?_, rfl, rfl, rfl⟩, rfl, ⟨⟨rfl, rfl, rfl⟩, ?_, ?_⟩, rfl, ⟨rfl, rfl, rfl, rfl, rfl⟩, rfl, rfl, ⟨rfl, rfl, rfl, rfl, rfl, rfl, rfl⟩, rfl⟩, fun h14_ => have h14 := dF h14_; ⟨rfl, ⟨?_, ?_, ?_, ?_, rfl, rfl, rfl⟩, rfl, ⟨⟨rfl, rfl, rfl⟩, ?_, ?_⟩, rfl, ⟨rfl, rfl, rfl, rfl, rfl⟩, rfl, rfl, ⟨rfl, rfl, rfl, rfl, rfl, rfl, rfl⟩, rfl⟩⟩⟩⟩⟩⟩⟩⟩
 ·rw [lnAt_eq h2, hdG_n h3]
 ·rw [lnAt_eq h2, hdG_n h3]
 ·rw [lnAt_eq h2, hdG_n h3]
 ·rw [lnAt_eq h2, hdG_n h3]
 ·rw [hdA_n (by rw [lnAt_eq h2, hdE_p h3]; decide)]
 ·rw [lnAt_eq h2, hdE_p h3]
 ·exact Nat.le_trans (tp_len _ _) (Nat.le_trans (hxl _ (lnAt_eq h2)) (Nat.le_trans (by decide) hm))
 ·exact Nat.le_trans (ts_len _ _) (Nat.le_trans (tp_len _ _) (Nat.le_trans (hxl _ (lnAt_eq h2)) (by decide)))
 ·exact Nat.le_trans (cut_len _ _).1 (Nat.le_trans (ts_len _ _) (Nat.le_trans (tp_len _ _) (Nat.le_trans (hxl _ (lnAt_eq h2)) (by decide))))
 ·exact Nat.le_trans (cut_len _ _).2 (Nat.le_trans (ts_len _ _) (Nat.le_trans (tp_len _ _) (Nat.le_trans (hxl _ (lnAt_eq h2)) (by decide))))
 ·rw [lnAt_eq h2, hdV_y h4]; rfl
 ·rw [lnAt_eq h2, hdV_y h4]; rfl
 ·rw [lnAt_eq h2, hdV_y h4]; rfl
 ·rw [lnAt_eq h2, hdV_y h4]; rfl
 ·rw [hdA_n (by rw [lnAt_eq h2, hdE_s h4 h5]; decide)]; omega
 ·rw [lnAt_eq h2, hdE_s h4 h5]
 ·rw [lnAt_eq h2, hdV_y h4]; rfl
 ·rw [lnAt_eq h2, hdV_y h4]; rfl
 ·rw [lnAt_eq h2, hdV_y h4]; rfl
 ·rw [lnAt_eq h2, hdV_y h4]; rfl
 ·rw [hdA_n (by rw [lnAt_eq h2, hdE_c h4 h7]; decide)]; omega
 ·rw [lnAt_eq h2, hdE_c h4 h7]
 ·rw [lnAt_eq h2, hdV_y h4]; rfl
 ·rw [lnAt_eq h2, hdV_y h4]; rfl
 ·rw [lnAt_eq h2, hdV_y h4]; rfl
 ·rw [lnAt_eq h2, hdV_y h4]; rfl
 ·rw [hdA_n (by rw [lnAt_eq h2, hdE_a h4 h9]; decide)]; omega
 ·rw [lnAt_eq h2, hdE_a h4 h9]
 ·rw [lnAt_eq h2, hdV_y h4]; rfl
 ·rw [lnAt_eq h2, hdV_y h4]; rfl
 ·rw [lnAt_eq h2, hdV_y h4]; rfl
 ·rw [lnAt_eq h2, hdV_y h4]; rfl
 ·rw [hdA_n (by rw [lnAt_eq h2, hdE_b h4 h11]; decide)]; omega
 ·rw [lnAt_eq h2, hdE_b h4 h11]
 ·rw [lnAt_eq h2, hdV_y h4]; rfl
 ·rw [lnAt_eq h2, hdV_y h4]; rfl
 ·rw [lnAt_eq h2, hdV_y h4]; rfl
 ·rw [lnAt_eq h2, hdV_y h4]; rfl
 ·rw [hdA_n (by rw [lnAt_eq h2, hdE_2 h4 (hdO_y h4 h6 h8 h10 h12) (fun q => mx4n h13 q)]; decide)]; omega
 ·rw [lnAt_eq h2, hdE_2 h4 (hdO_y h4 h6 h8 h10 h12) (fun q => mx4n h13 q)]
 ·rw [lnAt_eq h2, hdV_y h4]; rfl
 ·rw [lnAt_eq h2, hdV_y h4]; rfl
 ·rw [lnAt_eq h2, hdV_y h4]; rfl
 ·rw [lnAt_eq h2, hdV_y h4]; rfl
 ·rw [hdA_y (by rw [lnAt_eq h2, hdE_0 h4 (hdO_y h4 h6 h8 h10 h12) (mx4y h14)])]; omega
 ·rw [lnAt_eq h2, hdE_0 h4 (hdO_y h4 h6 h8 h10 h12) (mx4y h14)]
end
end Go.Proofs.YtfbpbkcplpkndaaGreatDoor
end
section
namespace Go.Proofs.YtfbpbkcplpkndaaGreatDoor
set_option linter.unusedVariables false
set_option linter.unusedSimpArgs false
set_option maxRecDepth 100000
set_option maxHeartbeats 2000000
section
variable {X : CallF}
theorem hunk3_run (hI : LibC X) (hc : NumC X) (ls : List Bs) (k n : Nat) (hn : n = ls.length) (hl : ls.length ≤ 100000000) (hx : ∀ y ∈ ls, y.length ≤ 10000000) (hk : k < ls.length) (P : List Pt) (o nn : Bs) (hs : List Hk) (hq : Nat) : (R FT X).m 51 [.ptr 1 0] [.row 0 1 (ls.map strL) true 0, .box 83 [.row 0 0 n 0 n, intA k, intA 0], .row 0 3 (P.map encPt) true 1, .box 29 [strL o, strL nn, .row 4 0 hq 0 hq], .row 0 5 (hs.map encHk) true 1] = some (.agg [intA (hdG (lnAt ls k)).fa, intA (hdG (lnAt ls k)).la, intA (hdG (lnAt ls k)).fb, intA (hdG (lnAt ls k)).lb, .row 5 0 (hkLn ls k).length 0 (hkLn ls k).length], [.row 0 1 (ls.map strL) true 0, .box 83 [.row 0 0 n 0 n, intA (hkA ls k), intA (hkE ls k)], .row 0 3 (P.map encPt) true 1, .box 29 [strL o, strL nn, .row 4 0 hq 0 hq], .row 0 5 (hs.map encHk) true 1, .row 0 3 ((hkLn ls k).map encDL) true 1]) := by
 have hm := maxLen_le
 have is := fun (ls : List Bs) (k n : Nat) (e : Int) (p : Bs) hn hl (P : List Pt) (o nn : Bs) (hs : List Hk) (hq : Nat) (acc : List DL) (fa la fb lb op : Int) (tx : ByteArray) (ne : Bool) (ha : Nat) => is3_run (X := X) hI ls k n e p hn hl P o nn hs hq acc fa la fb lb op tx ne ha
 have hd := fun (ls : List Bs) (k n : Nat) hn hl hx hk (P : List Pt) (o nn : Bs) (hs : List Hk) (hq : Nat) => head3_run (X := X) hI hc ls k n hn hl hx hk P o nn hs hq
 subst hn
 refine RM_wp (let z512 := (List.map encPt P); let z511 := (List.map strL ls); let z510 := (List.map encHk hs); let z509 := (Tr.b false Tr.nil); let z508 := (Value.string (ByteArray.mk #[])); let z502 := (hdG (lnAt ls k)); Tr.cm (AV.agg [intA z502.fa, intA z502.la, intA z502.fb, intA z502.lb, AV.row 7 0 (0 : Nat) (0 : Nat) (0 : Nat)]) [MObj.row 0 1 z511 true (0 : Nat), MObj.box 83 [AV.row 0 0 ls.length (0 : Nat) ls.length, intA (↑(hdA ls k) : Int), intA (hdE (lnAt ls k))], MObj.row 0 3 z512 true (1 : Nat), MObj.box 29 [strL o, strL nn, AV.row 4 0 hq (0 : Nat) hq], MObj.row 0 5 z510 true (1 : Nat), MObj.row 0 3 [] true (1 : Nat), MObj.box 46 [intA 0, intA 0, intA 0, intA 0, AV.row 5 0 (0 : Nat) (0 : Nat) (0 : Nat)], MObj.row 0 3 [] true (1 : Nat)] (Tr.inv (fun (b0 : Nat × Int × Int × Int × List DL) ↦ St.mk [(0, AV.ptr 1 0), (2, AV.ptr 6 0), (3, AV.ptr 8 0), (4, intA b0.snd.snd.fst), (5, intA b0.snd.snd.snd.fst)] [MObj.row 0 1 z511 true (0 : Nat), MObj.box 83 [AV.row 0 0 ls.length (0 : Nat) ls.length, intA (↑b0.fst : Int), intA b0.snd.fst], MObj.row 0 3 z512 true (1 : Nat), MObj.box 29 [strL o, strL nn, AV.row 4 0 hq (0 : Nat) hq], MObj.row 0 5 z510 true (1 : Nat), MObj.row 0 3 [] true (1 : Nat), MObj.box 46 [intA 0, intA 0, intA 0, intA 0, AV.row 5 0 (0 : Nat) (0 : Nat) (0 : Nat)], MObj.row 0 3 (List.map encDL b0.snd.snd.snd.snd) true (1 : Nat), MObj.box 46 [intA z502.fa, intA z502.la, intA z502.fb, intA z502.lb, AV.row 7 0 b0.snd.snd.snd.snd.length (0 : Nat) b0.snd.snd.snd.snd.length]]) (fun (b0 : Nat × Int × Int × Int × List DL) ↦ HunkI ls k b0) (fun (b0 : Nat × Int × Int × Int × List DL) ↦ hkM ls b0) fun (b0 : Nat × Int × Int × Int × List DL) ↦ let z513 := (boolA (decide (b0.snd.fst = 0) && isB ls b0.fst [(32 : UInt8)])); let z507 := (List.map encDL b0.snd.snd.snd.snd); let z506 := (boolA (decide (b0.snd.fst = 0) && isB ls b0.fst [(45 : UInt8)])); let z505 := (Tr.k (b0.snd.snd.snd.snd.length + 1) Tr.nil); let z504 := (boolA (decide (b0.snd.fst = 0) && isB ls b0.fst [(43 : UInt8)])); let z503 := [AV.row 0 0 ls.length (0 : Nat) ls.length, intA (↑b0.fst : Int), intA b0.snd.fst]; let z501 := (Tr.k b0.fst (Tr.ix strL ls ((0 : Nat) + b0.fst) fun (b1 : Bs) ↦ Tr.sl (1 : Nat) (List.length b1) (Tr.k ls.length ((Tr.k (b0.fst + 1) (Tr.ix strL ls ((0 : Nat) + (b0.fst + 1)) fun (b2 : Bs) ↦ (z505.w.br z505).w)).br (Tr.b false z505).w)).w.w)); let z514 := (Tr.b true z501.w); let z500 := [MObj.row 0 1 z511 true (0 : Nat), MObj.box 83 z503, MObj.row 0 3 z512 true (1 : Nat), MObj.box 29 [strL o, strL nn, AV.row 4 0 hq (0 : Nat) hq], MObj.row 0 5 z510 true (1 : Nat), MObj.row 0 3 [] true (1 : Nat), MObj.box 46 [intA 0, intA 0, intA 0, intA 0, AV.row 5 0 (0 : Nat) (0 : Nat) (0 : Nat)], MObj.row 0 3 z507 true (1 : Nat), MObj.box 46 [intA z502.fa, intA z502.la, intA z502.fb, intA z502.lb, AV.row 7 0 b0.snd.snd.snd.snd.length (0 : Nat) b0.snd.snd.snd.snd.length], MObj.box 70 [intA 1, AV.val z508, boolA false]]; (((Tr.b true (Tr.cm z513 z500 ((Tr.b true (z501.w.w.br (Tr.cm z506 z500 ((Tr.b true (Tr.k b0.fst (Tr.ix strL ls ((0 : Nat) + b0.fst) fun (b1 : Bs) ↦ Tr.sl (1 : Nat) (List.length b1) (Tr.k ls.length ((Tr.k (b0.fst + (1 : Nat)) (Tr.ix strL ls ((0 : Nat) + (b0.fst + 1)) fun (b2 : Bs) ↦ (z505.w.br z505).w)).br (Tr.b false z505).w)).w.w)).w).w.br (Tr.b false (Tr.cm z504 z500 (z509.w.br z509.w)).w).w)).w).w).br (Tr.b false (Tr.b false (Tr.cm z506 z500 (z514.w.br (Tr.b false (Tr.cm z504 z500 ((z501.w.br Tr.nil).w.br z509.w)).w).w)).w).w))).w.w.w).br ((Tr.cm z513 [MObj.row 0 1 z511 true (0 : Nat), MObj.box 83 z503, MObj.row 0 3 z512 true (1 : Nat), MObj.box 29 [strL o, strL nn, AV.row (4 : Nat) (0 : Nat) hq (0 : Nat) hq], MObj.row 0 5 z510 true (1 : Nat), MObj.row 0 3 [] true (1 : Nat), MObj.box 46 [intA 0, intA 0, intA 0, intA 0, AV.row 5 0 (0 : Nat) (0 : Nat) (0 : Nat)], MObj.row 0 3 z507 true (1 : Nat), MObj.box 46 [intA z502.fa, intA z502.la, intA z502.fb, intA z502.lb, AV.row 7 0 b0.snd.snd.snd.snd.length (0 : Nat) b0.snd.snd.snd.snd.length], MObj.box 70 [intA 1, AV.val z508, boolA false]] ((Tr.b false (Tr.b false (Tr.cm z506 [MObj.row 0 1 z511 true (0 : Nat), MObj.box 83 z503, MObj.row 0 3 z512 true (1 : Nat), MObj.box 29 [strL o, strL nn, AV.row 4 0 hq (0 : Nat) hq], MObj.row 0 5 z510 true (1 : Nat), MObj.row 0 (3 : Nat) [] true (1 : Nat), MObj.box 46 [intA 0, intA 0, intA 0, intA 0, AV.row 5 0 (0 : Nat) (0 : Nat) (0 : Nat)], MObj.row 0 3 z507 true (1 : Nat), MObj.box 46 [intA z502.fa, intA z502.la, intA z502.fb, intA z502.lb, AV.row 7 0 b0.snd.snd.snd.snd.length (0 : Nat) b0.snd.snd.snd.snd.length], MObj.box 70 [intA 1, AV.val z508, boolA false]] ((Tr.b false (Tr.cm z504 [MObj.row 0 1 z511 true (0 : Nat), MObj.box 83 z503, MObj.row 0 3 z512 true (1 : Nat), MObj.box 29 [strL o, strL nn, AV.row 4 0 hq (0 : Nat) hq], MObj.row 0 5 z510 true (1 : Nat), MObj.row 0 3 [] true (1 : Nat), MObj.box 46 [intA 0, intA 0, intA 0, intA 0, AV.row 5 (0 : Nat) (0 : Nat) (0 : Nat) (0 : Nat)], MObj.row 0 3 z507 true (1 : Nat), MObj.box 46 [intA z502.fa, intA z502.la, intA z502.fb, intA z502.lb, AV.row 7 0 b0.snd.snd.snd.snd.length (0 : Nat) b0.snd.snd.snd.snd.length], MObj.box 70 [intA 1, AV.val z508, boolA false]] (z514.w.br z509.w)).w).w.br (Tr.b false (Tr.cm z504 z500 (z514.w.br z509.w)).w).w)).w).w).br (Tr.b false (Tr.b false (Tr.cm z506 z500 ((Tr.b false (Tr.cm z504 z500 ((Tr.b true (Tr.k b0.fst (Tr.ix strL ls ((0 : Nat) + b0.fst) fun (b1 : Bs) ↦ Tr.sl (1 : Nat) (List.length b1) (Tr.k ls.length ((Tr.k (b0.fst + 1) (Tr.ix strL ls ((0 : Nat) + (b0.fst + 1)) fun (b2 : Bs) ↦ ((Tr.k (b0.snd.snd.snd.snd.length + (1 : Nat)) Tr.nil).w.br z505).w)).br (Tr.b false z505).w)).w.w)).w).w.br z509.w)).w).w.br (Tr.b false (Tr.cm z504 [MObj.row 0 1 z511 true (0 : Nat), MObj.box 83 z503, MObj.row 0 3 z512 true (1 : Nat), MObj.box 29 [strL o, strL nn, AV.row 4 0 hq (0 : Nat) hq], MObj.row 0 5 z510 true (1 : Nat), MObj.row 0 3 [] true (1 : Nat), MObj.box 46 [intA 0, intA 0, intA 0, intA 0, AV.row 5 0 (0 : Nat) (0 : Nat) (0 : Nat)], MObj.row 0 3 z507 true (1 : Nat), MObj.box 46 [intA z502.fa, intA z502.la, intA z502.fb, intA z502.lb, AV.row 7 0 b0.snd.snd.snd.snd.length (0 : Nat) b0.snd.snd.snd.snd.length], MObj.box 70 [intA (1 : Int), AV.val z508, boolA false]] (z514.w.br z509.w)).w).w)).w).w))).w.w.w.br Tr.nil)).br z509).w).w) rfl ?_
 refine Eq.mpr (by kernel_rfl : _ = (let z80 := (hkLn ls k); let z78 := (1 : Int) = 1; let z77 := (32 : UInt8); let z65 := (0 : Int) = 0; let z64 := (List.map encPt P); let z63 := (List.map encHk hs); let z51 := (List.map strL ls); let z48 := false = false; let z47 := [AV.ptr 1 0, strL [(43 : UInt8)]]; let z46 := (Value.string (ByteArray.mk #[])); let z32 := @List.nil AV = []; let z22 := (0 : Nat) = 0; let z21 := (List.take ls.length (List.drop (0 : Nat) z51)).length = ls.length; let z16 := List.map encPt P = List.map encPt P; let z14 := List.map encHk hs = List.map encHk hs; let z10 := z51.length = ls.length; let z9 := List.map strL ls = List.map strL ls; let z8 := (o = o ∧ nn = nn ∧ hq = hq ∧ z22 ∧ hq = hq); let z6 := (ls.length = ls.length ∧ z22 ∧ ls.length = ls.length); let z5 := (z65 ∧ z65 ∧ z65 ∧ z65 ∧ z22 ∧ z22 ∧ (0 : Nat) = 0); let z4 := (hdG (lnAt ls k)); let z42 := z4.lb = z4.lb; let z41 := z4.fb = z4.fb; let z40 := z4.la = z4.la; let z39 := z4.fa = z4.fa; let z2 := [(92 : UInt8), z77, (78 : UInt8), (111 : UInt8), z77, (110 : UInt8), (101 : UInt8), (119 : UInt8), (108 : UInt8), (105 : UInt8), (110 : UInt8), (101 : UInt8), z77, (97 : UInt8), (116 : UInt8), z77, (101 : UInt8), (110 : UInt8), (100 : UInt8), z77, (111 : UInt8), (102 : UInt8), z77, (102 : UInt8), (105 : UInt8), (108 : UInt8), (101 : UInt8)]; (R FT X).m 81 [AV.ptr 1 0] [MObj.row 0 1 z51 true (0 : Nat), MObj.box 83 [AV.row 0 0 ls.length (0 : Nat) ls.length, intA (↑k : Int), intA 0], MObj.row 0 3 z64 true (1 : Nat), MObj.box 29 [strL o, strL nn, AV.row 4 0 hq (0 : Nat) hq], MObj.row 0 5 z63 true (1 : Nat), MObj.row 0 3 [] true (1 : Nat), MObj.box 46 [intA 0, intA 0, intA 0, intA 0, AV.row 5 0 (0 : Nat) (0 : Nat) (0 : Nat)]] = some (AV.agg [intA z4.fa, intA z4.la, intA z4.fb, intA z4.lb, AV.row 7 0 (0 : Nat) (0 : Nat) (0 : Nat)], [MObj.row 0 1 z51 true (0 : Nat), MObj.box 83 [AV.row 0 0 ls.length (0 : Nat) ls.length, intA (↑(hdA ls k) : Int), intA (hdE (lnAt ls k))], MObj.row 0 3 z64 true (1 : Nat), MObj.box 29 [strL o, strL nn, AV.row 4 0 hq (0 : Nat) hq], MObj.row 0 5 z63 true (1 : Nat), MObj.row 0 3 [] true (1 : Nat), MObj.box 46 [intA 0, intA 0, intA 0, intA 0, AV.row 5 0 (0 : Nat) (0 : Nat) (0 : Nat)], MObj.row 0 3 [] true (1 : Nat)]) ∧ (∃ (b0 : Nat × Int × Int × Int × List DL), ((True ∧ True ∧ True ∧ z4.la = b0.snd.snd.fst ∧ z4.lb = b0.snd.snd.snd.fst ∧ True) ∧ z9 ∧ (z6 ∧ (↑(hdA ls k) : Int) = (↑b0.fst : Int) ∧ hdE (lnAt ls k) = b0.snd.fst) ∧ z16 ∧ z8 ∧ z14 ∧ z32 ∧ z5 ∧ [] = List.map encDL b0.snd.snd.snd.snd ∧ z39 ∧ z40 ∧ z41 ∧ z42 ∧ (0 : Nat) = b0.snd.snd.snd.snd.length ∧ z22 ∧ (0 : Nat) = b0.snd.snd.snd.snd.length) ∧ HunkI ls k b0) ∧ ∀ (b0 : Nat × Int × Int × Int × List DL), let z79 := (b0.snd.fst = 0); let z66 := b0.fst < ls.length; let z61 := b0.fst + 1 < ls.length; let z60 := decide ((0 : Int) < b0.snd.snd.fst) = true; let z52 := decide ((0 : Int) < b0.snd.snd.fst) = false; let z50 := decide ((0 : Int) < b0.snd.snd.snd.fst) = false; let z45 := (0 : Nat) + b0.fst < ls.length; let z43 := (0 : Nat) + b0.fst = 0 + b0.fst; let z38 := (List.map encDL b0.snd.snd.snd.snd); let z37 := (0 : Nat) + (b0.fst + 1) < ls.length; let z35 := decide ((0 : Int) < b0.snd.snd.snd.fst) = true; let z34 := (0 : Nat) + (b0.fst + 1) = 0 + (b0.fst + 1); let z31 := (decide z79 && isB ls b0.fst [z77]); let z20 := (decide z79 && isB ls b0.fst [(45 : UInt8)]); let z19 := (decide z79 && isB ls b0.fst [(43 : UInt8)]); let z18 := (z39 ∧ z40 ∧ z41 ∧ z42 ∧ b0.snd.snd.snd.snd.length = z80.length ∧ z22 ∧ b0.snd.snd.snd.snd.length = z80.length); let z15 := (↑b0.fst : Int); let z76 := (z6 ∧ z15 = (↑(hkA ls k) : Int) ∧ b0.snd.fst = hkE ls k); let z62 := (z6 ∧ z15 = (↑(hkA ls k) : Int) ∧ (1 : Int) = hkE ls k); let z44 := z15 + 1 = (↑(b0.fst + 1) : Int); let z36 := decide (z15 + 1 < (↑ls.length : Int)) = true; let z33 := decide (z15 + 1 < (↑ls.length : Int)) = false; let z30 := [AV.row 0 0 ls.length (0 : Nat) ls.length, intA z15, intA b0.snd.fst]; let z17 := [MObj.row 0 1 z51 true (0 : Nat), MObj.box 83 z30, MObj.row 0 3 z64 true (1 : Nat), MObj.box 29 [strL o, strL nn, AV.row 4 0 hq (0 : Nat) hq], MObj.row (0 : Nat) (5 : Nat) z63 true (1 : Nat), MObj.row 0 3 [] true (1 : Nat), MObj.box 46 [intA 0, intA 0, intA 0, intA 0, AV.row 5 0 (0 : Nat) (0 : Nat) (0 : Nat)], MObj.row 0 3 z38 true (1 : Nat), MObj.box 46 [intA z4.fa, intA z4.la, intA z4.fb, intA z4.lb, AV.row 7 0 b0.snd.snd.snd.snd.length (0 : Nat) b0.snd.snd.snd.snd.length], MObj.box 70 [intA 1, AV.val z46, boolA false]]; let z13 := b0.snd.snd.snd.snd.length = b0.snd.snd.snd.snd.length; let z12 := b0.snd.snd.snd.snd.length + 1 ≤ (9223372036854775807 : Nat); let z11 := (b0.snd.snd.snd.snd.length + 1) * 32 ≤ (140737488355328 : Nat); let z7 := z38.length = b0.snd.snd.snd.snd.length; let z3 := (z19 = false → z48 ∧ z18 ∧ z9 ∧ z62 ∧ z16 ∧ z8 ∧ z14 ∧ List.map encDL b0.snd.snd.snd.snd = List.map encDL z80); let z1 := (z19 = true → z35 ∧ InI64 (b0.snd.snd.snd.fst - 1) ∧ z10 ∧ z15 = z15 ∧ z66 ∧ z9 ∧ z10 ∧ z43 ∧ z45 ∧ ∀ (b1 : Bs), let z23 := (Value.string (ofL (List.drop (1 : Nat) (List.take (List.length b1) b1)))); let z81 := [AV.agg [intA 3, AV.val z23, boolA true]]; let z53 := [AV.agg [intA 3, AV.val z23, boolA false]]; let z69 := b0.snd.snd.snd.snd.length + z53.length = b0.snd.snd.snd.snd.length + 1; ls[(0 : Nat) + b0.fst]? = some b1 → z78 ∧ (↑(List.length b1) : Int) = (↑(List.length b1) : Int) ∧ (1 : Nat) ≤ List.length b1 ∧ List.length b1 ≤ List.length b1 ∧ InI64 (z15 + 1) ∧ z10 ∧ z21 ∧ (z36 → z10 ∧ z44 ∧ z61 ∧ z9 ∧ z10 ∧ z34 ∧ z37 ∧ ∀ (b2 : Bs), ls[(0 : Nat) + (b0.fst + 1)]? = some b2 → (decide (b2 = z2) = true → InI64 (z15 + 1 + (1 : Int)) ∧ z7 ∧ z22 ∧ z13 ∧ b0.snd.snd.snd.snd.length + z81.length = b0.snd.snd.snd.snd.length + 1 ∧ z11 ∧ z12 ∧ ∃ (b3 : Nat × Int × Int × Int × List DL), ((True ∧ True ∧ True ∧ b0.snd.snd.fst = b3.snd.snd.fst ∧ b0.snd.snd.snd.fst - 1 = b3.snd.snd.snd.fst ∧ True) ∧ z9 ∧ (z6 ∧ z15 + 1 + (1 : Int) = (↑b3.fst : Int) ∧ b0.snd.fst = b3.snd.fst) ∧ z16 ∧ z8 ∧ z14 ∧ z32 ∧ z5 ∧ List.map encDL b0.snd.snd.snd.snd ++ z81 = List.map encDL b3.snd.snd.snd.snd ∧ z39 ∧ z40 ∧ z41 ∧ z42 ∧ b0.snd.snd.snd.snd.length + 1 = b3.snd.snd.snd.snd.length ∧ z22 ∧ b0.snd.snd.snd.snd.length + 1 = b3.snd.snd.snd.snd.length) ∧ HunkI ls k b3 ∧ hkM ls b3 < hkM ls b0) ∧ (decide (b2 = z2) = false → z7 ∧ z22 ∧ z13 ∧ z69 ∧ z11 ∧ z12 ∧ ∃ (b3 : Nat × Int × Int × Int × List DL), ((True ∧ True ∧ True ∧ b0.snd.snd.fst = b3.snd.snd.fst ∧ b0.snd.snd.snd.fst - 1 = b3.snd.snd.snd.fst ∧ True) ∧ z9 ∧ (z6 ∧ z15 + 1 = (↑b3.fst : Int) ∧ b0.snd.fst = b3.snd.fst) ∧ z16 ∧ z8 ∧ z14 ∧ z32 ∧ z5 ∧ List.map encDL b0.snd.snd.snd.snd ++ z53 = List.map encDL b3.snd.snd.snd.snd ∧ z39 ∧ z40 ∧ z41 ∧ z42 ∧ b0.snd.snd.snd.snd.length + 1 = b3.snd.snd.snd.snd.length ∧ z22 ∧ b0.snd.snd.snd.snd.length + 1 = b3.snd.snd.snd.snd.length) ∧ HunkI ls k b3 ∧ hkM ls b3 < hkM ls b0)) ∧ (z33 → z48 ∧ z7 ∧ z22 ∧ z13 ∧ z69 ∧ z11 ∧ z12 ∧ ∃ (b2 : Nat × Int × Int × Int × List DL), ((True ∧ True ∧ True ∧ b0.snd.snd.fst = b2.snd.snd.fst ∧ b0.snd.snd.snd.fst - 1 = b2.snd.snd.snd.fst ∧ True) ∧ z9 ∧ (z6 ∧ z15 + 1 = (↑b2.fst : Int) ∧ b0.snd.fst = b2.snd.fst) ∧ z16 ∧ z8 ∧ z14 ∧ z32 ∧ z5 ∧ List.map encDL b0.snd.snd.snd.snd ++ z53 = List.map encDL b2.snd.snd.snd.snd ∧ z39 ∧ z40 ∧ z41 ∧ z42 ∧ b0.snd.snd.snd.snd.length + 1 = b2.snd.snd.snd.snd.length ∧ z22 ∧ b0.snd.snd.snd.snd.length + 1 = b2.snd.snd.snd.snd.length) ∧ HunkI ls k b2 ∧ hkM ls b2 < hkM ls b0)); let z0 := [MObj.row 0 1 z51 true (0 : Nat), MObj.box 83 z30, MObj.row 0 3 z64 true (1 : Nat), MObj.box 29 [strL o, strL nn, AV.row 4 0 hq (0 : Nat) hq], MObj.row 0 5 z63 true (1 : Nat), MObj.row 0 3 [] true (1 : Nat), MObj.box 46 [intA 0, intA 0, intA 0, intA 0, AV.row 5 0 (0 : Nat) (0 : Nat) (0 : Nat)], MObj.row 0 3 z38 true (1 : Nat), MObj.box 46 [intA z4.fa, intA z4.la, intA z4.fb, intA z4.lb, AV.row 7 0 b0.snd.snd.snd.snd.length (0 : Nat) b0.snd.snd.snd.snd.length], MObj.box 70 [intA 1, AV.val z46, boolA false]]; let z68 := (R FT X).m 50 [AV.ptr 1 0, strL [z77]] z0 = some (boolA z31, z0); let z67 := (R FT X).m 50 z47 z0 = some (boolA z19, z0); let z49 := (R FT X).m 50 [AV.ptr 1 0, strL [(45 : UInt8)]] z0 = some (boolA z20, z0); HunkI ls k b0 → (decide z79 = true → (z60 → true = true ∧ z68 ∧ (z31 = true → z60 ∧ (z35 → InI64 (b0.snd.snd.fst - 1) ∧ InI64 (b0.snd.snd.snd.fst - 1) ∧ z10 ∧ z15 = z15 ∧ z66 ∧ z9 ∧ z10 ∧ z43 ∧ z45 ∧ ∀ (b1 : Bs), let z24 := (Value.string (ofL (List.drop (1 : Nat) (List.take (List.length b1) b1)))); let z82 := [AV.agg [intA 1, AV.val z24, boolA true]]; let z54 := [AV.agg [intA 1, AV.val z24, boolA false]]; let z70 := b0.snd.snd.snd.snd.length + z54.length = b0.snd.snd.snd.snd.length + 1; ls[(0 : Nat) + b0.fst]? = some b1 → z78 ∧ (↑(List.length b1) : Int) = (↑(List.length b1) : Int) ∧ (1 : Nat) ≤ List.length b1 ∧ List.length b1 ≤ List.length b1 ∧ InI64 (z15 + 1) ∧ z10 ∧ z21 ∧ (z36 → z10 ∧ z44 ∧ z61 ∧ z9 ∧ z10 ∧ z34 ∧ z37 ∧ ∀ (b2 : Bs), ls[(0 : Nat) + (b0.fst + 1)]? = some b2 → (decide (b2 = z2) = true → InI64 (z15 + 1 + (1 : Int)) ∧ z7 ∧ z22 ∧ z13 ∧ b0.snd.snd.snd.snd.length + z82.length = b0.snd.snd.snd.snd.length + 1 ∧ z11 ∧ z12 ∧ ∃ (b3 : Nat × Int × Int × Int × List DL), ((True ∧ True ∧ True ∧ b0.snd.snd.fst - 1 = b3.snd.snd.fst ∧ b0.snd.snd.snd.fst - 1 = b3.snd.snd.snd.fst ∧ True) ∧ z9 ∧ (z6 ∧ z15 + 1 + (1 : Int) = (↑b3.fst : Int) ∧ b0.snd.fst = b3.snd.fst) ∧ z16 ∧ z8 ∧ z14 ∧ z32 ∧ z5 ∧ List.map encDL b0.snd.snd.snd.snd ++ z82 = List.map encDL b3.snd.snd.snd.snd ∧ z39 ∧ z40 ∧ z41 ∧ z42 ∧ b0.snd.snd.snd.snd.length + 1 = b3.snd.snd.snd.snd.length ∧ z22 ∧ b0.snd.snd.snd.snd.length + 1 = b3.snd.snd.snd.snd.length) ∧ HunkI ls k b3 ∧ hkM ls b3 < hkM ls b0) ∧ (decide (b2 = z2) = false → z7 ∧ z22 ∧ z13 ∧ z70 ∧ z11 ∧ z12 ∧ ∃ (b3 : Nat × Int × Int × Int × List DL), ((True ∧ True ∧ True ∧ b0.snd.snd.fst - 1 = b3.snd.snd.fst ∧ b0.snd.snd.snd.fst - 1 = b3.snd.snd.snd.fst ∧ True) ∧ z9 ∧ (z6 ∧ z15 + 1 = (↑b3.fst : Int) ∧ b0.snd.fst = b3.snd.fst) ∧ z16 ∧ z8 ∧ z14 ∧ z32 ∧ z5 ∧ List.map encDL b0.snd.snd.snd.snd ++ z54 = List.map encDL b3.snd.snd.snd.snd ∧ z39 ∧ z40 ∧ z41 ∧ z42 ∧ b0.snd.snd.snd.snd.length + 1 = b3.snd.snd.snd.snd.length ∧ z22 ∧ b0.snd.snd.snd.snd.length + 1 = b3.snd.snd.snd.snd.length) ∧ HunkI ls k b3 ∧ hkM ls b3 < hkM ls b0)) ∧ (z33 → z48 ∧ z7 ∧ z22 ∧ z13 ∧ z70 ∧ z11 ∧ z12 ∧ ∃ (b2 : Nat × Int × Int × Int × List DL), ((True ∧ True ∧ True ∧ b0.snd.snd.fst - 1 = b2.snd.snd.fst ∧ b0.snd.snd.snd.fst - 1 = b2.snd.snd.snd.fst ∧ True) ∧ z9 ∧ (z6 ∧ z15 + 1 = (↑b2.fst : Int) ∧ b0.snd.fst = b2.snd.fst) ∧ z16 ∧ z8 ∧ z14 ∧ z32 ∧ z5 ∧ List.map encDL b0.snd.snd.snd.snd ++ z54 = List.map encDL b2.snd.snd.snd.snd ∧ z39 ∧ z40 ∧ z41 ∧ z42 ∧ b0.snd.snd.snd.snd.length + 1 = b2.snd.snd.snd.snd.length ∧ z22 ∧ b0.snd.snd.snd.snd.length + 1 = b2.snd.snd.snd.snd.length) ∧ HunkI ls k b2 ∧ hkM ls b2 < hkM ls b0)) ∧ (z50 → z49 ∧ (z20 = true → z60 ∧ InI64 (b0.snd.snd.fst - 1) ∧ z10 ∧ z15 = z15 ∧ z66 ∧ z9 ∧ z10 ∧ z43 ∧ z45 ∧ ∀ (b1 : Bs), let z25 := (Value.string (ofL (List.drop (1 : Nat) (List.take (List.length b1) b1)))); let z83 := [AV.agg [intA 2, AV.val z25, boolA true]]; let z55 := [AV.agg [intA 2, AV.val z25, boolA false]]; let z71 := b0.snd.snd.snd.snd.length + z55.length = b0.snd.snd.snd.snd.length + 1; ls[(0 : Nat) + b0.fst]? = some b1 → z78 ∧ (↑(List.length b1) : Int) = (↑(List.length b1) : Int) ∧ (1 : Nat) ≤ List.length b1 ∧ List.length b1 ≤ List.length b1 ∧ InI64 (z15 + 1) ∧ z10 ∧ z21 ∧ (z36 → z10 ∧ z44 ∧ z61 ∧ z9 ∧ z10 ∧ z34 ∧ z37 ∧ ∀ (b2 : Bs), ls[(0 : Nat) + (b0.fst + 1)]? = some b2 → (decide (b2 = z2) = true → InI64 (z15 + 1 + (1 : Int)) ∧ z7 ∧ z22 ∧ z13 ∧ b0.snd.snd.snd.snd.length + z83.length = b0.snd.snd.snd.snd.length + 1 ∧ z11 ∧ z12 ∧ ∃ (b3 : Nat × Int × Int × Int × List DL), ((True ∧ True ∧ True ∧ b0.snd.snd.fst - 1 = b3.snd.snd.fst ∧ b0.snd.snd.snd.fst = b3.snd.snd.snd.fst ∧ True) ∧ z9 ∧ (z6 ∧ z15 + 1 + (1 : Int) = (↑b3.fst : Int) ∧ b0.snd.fst = b3.snd.fst) ∧ z16 ∧ z8 ∧ z14 ∧ z32 ∧ z5 ∧ List.map encDL b0.snd.snd.snd.snd ++ z83 = List.map encDL b3.snd.snd.snd.snd ∧ z39 ∧ z40 ∧ z41 ∧ z42 ∧ b0.snd.snd.snd.snd.length + 1 = b3.snd.snd.snd.snd.length ∧ z22 ∧ b0.snd.snd.snd.snd.length + 1 = b3.snd.snd.snd.snd.length) ∧ HunkI ls k b3 ∧ hkM ls b3 < hkM ls b0) ∧ (decide (b2 = z2) = false → z7 ∧ z22 ∧ z13 ∧ z71 ∧ z11 ∧ z12 ∧ ∃ (b3 : Nat × Int × Int × Int × List DL), ((True ∧ True ∧ True ∧ b0.snd.snd.fst - 1 = b3.snd.snd.fst ∧ b0.snd.snd.snd.fst = b3.snd.snd.snd.fst ∧ True) ∧ z9 ∧ (z6 ∧ z15 + 1 = (↑b3.fst : Int) ∧ b0.snd.fst = b3.snd.fst) ∧ z16 ∧ z8 ∧ z14 ∧ z32 ∧ z5 ∧ List.map encDL b0.snd.snd.snd.snd ++ z55 = List.map encDL b3.snd.snd.snd.snd ∧ z39 ∧ z40 ∧ z41 ∧ z42 ∧ b0.snd.snd.snd.snd.length + 1 = b3.snd.snd.snd.snd.length ∧ z22 ∧ b0.snd.snd.snd.snd.length + 1 = b3.snd.snd.snd.snd.length) ∧ HunkI ls k b3 ∧ hkM ls b3 < hkM ls b0)) ∧ (z33 → z48 ∧ z7 ∧ z22 ∧ z13 ∧ z71 ∧ z11 ∧ z12 ∧ ∃ (b2 : Nat × Int × Int × Int × List DL), ((True ∧ True ∧ True ∧ b0.snd.snd.fst - 1 = b2.snd.snd.fst ∧ b0.snd.snd.snd.fst = b2.snd.snd.snd.fst ∧ True) ∧ z9 ∧ (z6 ∧ z15 + 1 = (↑b2.fst : Int) ∧ b0.snd.fst = b2.snd.fst) ∧ z16 ∧ z8 ∧ z14 ∧ z32 ∧ z5 ∧ List.map encDL b0.snd.snd.snd.snd ++ z55 = List.map encDL b2.snd.snd.snd.snd ∧ z39 ∧ z40 ∧ z41 ∧ z42 ∧ b0.snd.snd.snd.snd.length + 1 = b2.snd.snd.snd.snd.length ∧ z22 ∧ b0.snd.snd.snd.snd.length + 1 = b2.snd.snd.snd.snd.length) ∧ HunkI ls k b2 ∧ hkM ls b2 < hkM ls b0)) ∧ (z20 = false → z48 ∧ z67 ∧ (z19 = true → z50 ∧ z18 ∧ z9 ∧ z62 ∧ z16 ∧ z8 ∧ z14 ∧ List.map encDL b0.snd.snd.snd.snd = List.map encDL z80) ∧ z3))) ∧ (z31 = false → z48 ∧ z48 ∧ z49 ∧ (z20 = true → z60 ∧ InI64 (b0.snd.snd.fst - 1) ∧ z10 ∧ z15 = z15 ∧ z66 ∧ z9 ∧ z10 ∧ z43 ∧ z45 ∧ ∀ (b1 : Bs), let z26 := (Value.string (ofL (List.drop (1 : Nat) (List.take (List.length b1) b1)))); let z84 := [AV.agg [intA 2, AV.val z26, boolA true]]; let z56 := [AV.agg [intA 2, AV.val z26, boolA false]]; let z72 := b0.snd.snd.snd.snd.length + z56.length = b0.snd.snd.snd.snd.length + 1; ls[(0 : Nat) + b0.fst]? = some b1 → z78 ∧ (↑(List.length b1) : Int) = (↑(List.length b1) : Int) ∧ (1 : Nat) ≤ List.length b1 ∧ List.length b1 ≤ List.length b1 ∧ InI64 (z15 + 1) ∧ z10 ∧ z21 ∧ (decide (z15 + (1 : Int) < (↑ls.length : Int)) = true → z10 ∧ z44 ∧ z61 ∧ z9 ∧ z10 ∧ z34 ∧ z37 ∧ ∀ (b2 : Bs), ls[(0 : Nat) + (b0.fst + 1)]? = some b2 → (decide (b2 = z2) = true → InI64 (z15 + 1 + (1 : Int)) ∧ z7 ∧ z22 ∧ z13 ∧ b0.snd.snd.snd.snd.length + z84.length = b0.snd.snd.snd.snd.length + 1 ∧ z11 ∧ z12 ∧ ∃ (b3 : Nat × Int × Int × Int × List DL), ((True ∧ True ∧ True ∧ b0.snd.snd.fst - 1 = b3.snd.snd.fst ∧ b0.snd.snd.snd.fst = b3.snd.snd.snd.fst ∧ True) ∧ z9 ∧ (z6 ∧ z15 + 1 + (1 : Int) = (↑b3.fst : Int) ∧ b0.snd.fst = b3.snd.fst) ∧ z16 ∧ z8 ∧ z14 ∧ z32 ∧ z5 ∧ List.map encDL b0.snd.snd.snd.snd ++ z84 = List.map encDL b3.snd.snd.snd.snd ∧ z39 ∧ z40 ∧ z41 ∧ z42 ∧ b0.snd.snd.snd.snd.length + 1 = b3.snd.snd.snd.snd.length ∧ z22 ∧ b0.snd.snd.snd.snd.length + 1 = b3.snd.snd.snd.snd.length) ∧ HunkI ls k b3 ∧ hkM ls b3 < hkM ls b0) ∧ (decide (b2 = z2) = false → z7 ∧ z22 ∧ z13 ∧ z72 ∧ z11 ∧ z12 ∧ ∃ (b3 : Nat × Int × Int × Int × List DL), ((True ∧ True ∧ True ∧ b0.snd.snd.fst - 1 = b3.snd.snd.fst ∧ b0.snd.snd.snd.fst = b3.snd.snd.snd.fst ∧ True) ∧ z9 ∧ (z6 ∧ z15 + 1 = (↑b3.fst : Int) ∧ b0.snd.fst = b3.snd.fst) ∧ z16 ∧ z8 ∧ z14 ∧ z32 ∧ z5 ∧ List.map encDL b0.snd.snd.snd.snd ++ z56 = List.map encDL b3.snd.snd.snd.snd ∧ z39 ∧ z40 ∧ z41 ∧ z42 ∧ b0.snd.snd.snd.snd.length + 1 = b3.snd.snd.snd.snd.length ∧ z22 ∧ b0.snd.snd.snd.snd.length + 1 = b3.snd.snd.snd.snd.length) ∧ HunkI ls k b3 ∧ hkM ls b3 < hkM ls b0)) ∧ (z33 → z48 ∧ z7 ∧ z22 ∧ z13 ∧ z72 ∧ z11 ∧ z12 ∧ ∃ (b2 : Nat × Int × Int × Int × List DL), ((True ∧ True ∧ True ∧ b0.snd.snd.fst - 1 = b2.snd.snd.fst ∧ b0.snd.snd.snd.fst = b2.snd.snd.snd.fst ∧ True) ∧ z9 ∧ (z6 ∧ z15 + 1 = (↑b2.fst : Int) ∧ b0.snd.fst = b2.snd.fst) ∧ z16 ∧ z8 ∧ z14 ∧ z32 ∧ (z65 ∧ z65 ∧ (0 : Int) = (0 : Int) ∧ z65 ∧ z22 ∧ z22 ∧ (0 : Nat) = 0) ∧ List.map encDL b0.snd.snd.snd.snd ++ z56 = List.map encDL b2.snd.snd.snd.snd ∧ z39 ∧ z40 ∧ z41 ∧ z42 ∧ b0.snd.snd.snd.snd.length + 1 = b2.snd.snd.snd.snd.length ∧ z22 ∧ b0.snd.snd.snd.snd.length + 1 = b2.snd.snd.snd.snd.length) ∧ HunkI ls k b2 ∧ hkM ls b2 < hkM ls b0)) ∧ (z20 = false → z48 ∧ (R FT X).m 50 z47 z17 = some (boolA z19, [MObj.row 0 1 z51 true (0 : Nat), MObj.box 83 z30, MObj.row 0 3 z64 true (1 : Nat), MObj.box 29 [strL o, strL nn, AV.row 4 0 hq (0 : Nat) hq], MObj.row 0 5 z63 true (1 : Nat), MObj.row 0 3 [] true (1 : Nat), MObj.box 46 [intA (0 : Int), intA 0, intA 0, intA 0, AV.row 5 0 (0 : Nat) (0 : Nat) (0 : Nat)], MObj.row 0 3 z38 true (1 : Nat), MObj.box 46 [intA z4.fa, intA z4.la, intA z4.fb, intA z4.lb, AV.row 7 0 b0.snd.snd.snd.snd.length (0 : Nat) b0.snd.snd.snd.snd.length], MObj.box 70 [intA 1, AV.val z46, boolA false]]) ∧ (z19 = true → (z35 → InI64 (b0.snd.snd.snd.fst - 1) ∧ z10 ∧ z15 = z15 ∧ z66 ∧ z9 ∧ z10 ∧ z43 ∧ z45 ∧ ∀ (b1 : Bs), let z27 := (Value.string (ofL (List.drop (1 : Nat) (List.take (List.length b1) b1)))); let z85 := [AV.agg [intA 3, AV.val z27, boolA true]]; let z57 := [AV.agg [intA 3, AV.val z27, boolA false]]; let z73 := b0.snd.snd.snd.snd.length + z57.length = b0.snd.snd.snd.snd.length + 1; ls[(0 : Nat) + b0.fst]? = some b1 → z78 ∧ (↑(List.length b1) : Int) = (↑(List.length b1) : Int) ∧ (1 : Nat) ≤ List.length b1 ∧ List.length b1 ≤ List.length b1 ∧ InI64 (z15 + 1) ∧ z10 ∧ z21 ∧ (z36 → z10 ∧ z44 ∧ z61 ∧ z9 ∧ z10 ∧ z34 ∧ z37 ∧ ∀ (b2 : Bs), ls[(0 : Nat) + (b0.fst + 1)]? = some b2 → (decide (b2 = z2) = true → InI64 (z15 + 1 + (1 : Int)) ∧ z7 ∧ z22 ∧ z13 ∧ b0.snd.snd.snd.snd.length + z85.length = b0.snd.snd.snd.snd.length + 1 ∧ z11 ∧ z12 ∧ ∃ (b3 : Nat × Int × Int × Int × List DL), ((True ∧ True ∧ True ∧ b0.snd.snd.fst = b3.snd.snd.fst ∧ b0.snd.snd.snd.fst - 1 = b3.snd.snd.snd.fst ∧ True) ∧ z9 ∧ (z6 ∧ z15 + 1 + (1 : Int) = (↑b3.fst : Int) ∧ b0.snd.fst = b3.snd.fst) ∧ z16 ∧ z8 ∧ z14 ∧ z32 ∧ z5 ∧ List.map encDL b0.snd.snd.snd.snd ++ z85 = List.map encDL b3.snd.snd.snd.snd ∧ z39 ∧ z40 ∧ z41 ∧ z42 ∧ b0.snd.snd.snd.snd.length + 1 = b3.snd.snd.snd.snd.length ∧ z22 ∧ b0.snd.snd.snd.snd.length + 1 = b3.snd.snd.snd.snd.length) ∧ HunkI ls k b3 ∧ hkM ls b3 < hkM ls b0) ∧ (decide (b2 = z2) = false → z7 ∧ z22 ∧ z13 ∧ z73 ∧ z11 ∧ z12 ∧ ∃ (b3 : Nat × Int × Int × Int × List DL), ((True ∧ True ∧ True ∧ b0.snd.snd.fst = b3.snd.snd.fst ∧ b0.snd.snd.snd.fst - 1 = b3.snd.snd.snd.fst ∧ True) ∧ z9 ∧ (z6 ∧ z15 + 1 = (↑b3.fst : Int) ∧ b0.snd.fst = b3.snd.fst) ∧ z16 ∧ z8 ∧ z14 ∧ z32 ∧ z5 ∧ List.map encDL b0.snd.snd.snd.snd ++ z57 = List.map encDL b3.snd.snd.snd.snd ∧ z39 ∧ z40 ∧ z41 ∧ z42 ∧ b0.snd.snd.snd.snd.length + 1 = b3.snd.snd.snd.snd.length ∧ z22 ∧ b0.snd.snd.snd.snd.length + 1 = b3.snd.snd.snd.snd.length) ∧ HunkI ls k b3 ∧ hkM ls b3 < hkM ls b0)) ∧ (z33 → z48 ∧ z7 ∧ z22 ∧ z13 ∧ z73 ∧ z11 ∧ z12 ∧ ∃ (b2 : Nat × Int × Int × Int × List DL), ((True ∧ True ∧ True ∧ b0.snd.snd.fst = b2.snd.snd.fst ∧ b0.snd.snd.snd.fst - 1 = b2.snd.snd.snd.fst ∧ True) ∧ z9 ∧ (z6 ∧ z15 + 1 = (↑b2.fst : Int) ∧ b0.snd.fst = b2.snd.fst) ∧ z16 ∧ z8 ∧ z14 ∧ z32 ∧ z5 ∧ List.map encDL b0.snd.snd.snd.snd ++ z57 = List.map encDL b2.snd.snd.snd.snd ∧ z39 ∧ z40 ∧ z41 ∧ z42 ∧ b0.snd.snd.snd.snd.length + 1 = b2.snd.snd.snd.snd.length ∧ z22 ∧ b0.snd.snd.snd.snd.length + 1 = b2.snd.snd.snd.snd.length) ∧ HunkI ls k b2 ∧ hkM ls b2 < hkM ls b0)) ∧ (z50 → z18 ∧ z9 ∧ z62 ∧ z16 ∧ z8 ∧ z14 ∧ List.map encDL b0.snd.snd.snd.snd = List.map encDL z80)) ∧ z3))) ∧ (z52 → (z35 → z68 ∧ (z31 = true → z52 ∧ z48 ∧ (R FT X).m 50 [AV.ptr 1 0, strL [(45 : UInt8)]] z0 = some (boolA z20, [MObj.row 0 1 z51 true (0 : Nat), MObj.box 83 z30, MObj.row (0 : Nat) (3 : Nat) z64 true (1 : Nat), MObj.box 29 [strL o, strL nn, AV.row 4 0 hq (0 : Nat) hq], MObj.row 0 5 z63 true (1 : Nat), MObj.row 0 3 [] true (1 : Nat), MObj.box 46 [intA 0, intA 0, intA 0, intA 0, AV.row 5 0 (0 : Nat) (0 : Nat) (0 : Nat)], MObj.row 0 3 z38 true (1 : Nat), MObj.box 46 [intA z4.fa, intA z4.la, intA z4.fb, intA z4.lb, AV.row 7 0 b0.snd.snd.snd.snd.length (0 : Nat) b0.snd.snd.snd.snd.length], MObj.box 70 [intA 1, AV.val z46, boolA false]]) ∧ (z20 = true → z52 ∧ (R FT X).m 50 z47 [MObj.row 0 1 z51 true (0 : Nat), MObj.box 83 z30, MObj.row 0 (3 : Nat) z64 true (1 : Nat), MObj.box 29 [strL o, strL nn, AV.row 4 0 hq (0 : Nat) hq], MObj.row 0 5 z63 true (1 : Nat), MObj.row 0 3 [] true (1 : Nat), MObj.box 46 [intA 0, intA 0, intA 0, intA 0, AV.row 5 0 (0 : Nat) (0 : Nat) (0 : Nat)], MObj.row 0 3 z38 true (1 : Nat), MObj.box 46 [intA z4.fa, intA z4.la, intA z4.fb, intA z4.lb, AV.row 7 0 b0.snd.snd.snd.snd.length (0 : Nat) b0.snd.snd.snd.snd.length], MObj.box 70 [intA 1, AV.val z46, boolA false]] = some (boolA z19, z17) ∧ z1 ∧ z3) ∧ (z20 = false → z48 ∧ (R FT X).m 50 z47 [MObj.row 0 1 z51 true (0 : Nat), MObj.box 83 z30, MObj.row 0 3 z64 true (1 : Nat), MObj.box 29 [strL o, strL nn, AV.row 4 0 hq (0 : Nat) hq], MObj.row 0 5 z63 true (1 : Nat), MObj.row 0 3 [] true (1 : Nat), MObj.box 46 [intA 0, intA 0, intA 0, intA (0 : Int), AV.row 5 0 (0 : Nat) (0 : Nat) (0 : Nat)], MObj.row 0 3 z38 true (1 : Nat), MObj.box 46 [intA z4.fa, intA z4.la, intA z4.fb, intA z4.lb, AV.row 7 0 b0.snd.snd.snd.snd.length (0 : Nat) b0.snd.snd.snd.snd.length], MObj.box 70 [intA 1, AV.val z46, boolA false]] = some (boolA z19, z0) ∧ (z19 = true → z35 ∧ InI64 (b0.snd.snd.snd.fst - 1) ∧ z10 ∧ z15 = z15 ∧ z66 ∧ z9 ∧ z10 ∧ z43 ∧ z45 ∧ ∀ (b1 : Bs), let z28 := (Value.string (ofL (List.drop (1 : Nat) (List.take (List.length b1) b1)))); let z86 := [AV.agg [intA 3, AV.val z28, boolA true]]; let z58 := [AV.agg [intA 3, AV.val z28, boolA false]]; let z74 := b0.snd.snd.snd.snd.length + z58.length = b0.snd.snd.snd.snd.length + 1; ls[(0 : Nat) + b0.fst]? = some b1 → z78 ∧ (↑(List.length b1) : Int) = (↑(List.length b1) : Int) ∧ (1 : Nat) ≤ List.length b1 ∧ List.length b1 ≤ List.length b1 ∧ InI64 (z15 + 1) ∧ z10 ∧ z21 ∧ (z36 → z10 ∧ z44 ∧ z61 ∧ z9 ∧ z10 ∧ z34 ∧ z37 ∧ ∀ (b2 : Bs), ls[(0 : Nat) + (b0.fst + 1)]? = some b2 → (decide (b2 = z2) = true → InI64 (z15 + 1 + (1 : Int)) ∧ z7 ∧ z22 ∧ z13 ∧ b0.snd.snd.snd.snd.length + z86.length = b0.snd.snd.snd.snd.length + 1 ∧ (b0.snd.snd.snd.snd.length + (1 : Nat)) * 32 ≤ (140737488355328 : Nat) ∧ z12 ∧ ∃ (b3 : Nat × Int × Int × Int × List DL), ((True ∧ True ∧ True ∧ b0.snd.snd.fst = b3.snd.snd.fst ∧ b0.snd.snd.snd.fst - 1 = b3.snd.snd.snd.fst ∧ True) ∧ z9 ∧ (z6 ∧ z15 + 1 + (1 : Int) = (↑b3.fst : Int) ∧ b0.snd.fst = b3.snd.fst) ∧ z16 ∧ z8 ∧ z14 ∧ z32 ∧ z5 ∧ List.map encDL b0.snd.snd.snd.snd ++ z86 = List.map encDL b3.snd.snd.snd.snd ∧ z39 ∧ z40 ∧ z41 ∧ z42 ∧ b0.snd.snd.snd.snd.length + (1 : Nat) = b3.snd.snd.snd.snd.length ∧ z22 ∧ b0.snd.snd.snd.snd.length + 1 = b3.snd.snd.snd.snd.length) ∧ HunkI ls k b3 ∧ hkM ls b3 < hkM ls b0) ∧ (decide (b2 = z2) = false → z7 ∧ z22 ∧ z13 ∧ z74 ∧ z11 ∧ z12 ∧ ∃ (b3 : Nat × Int × Int × Int × List DL), ((True ∧ True ∧ True ∧ b0.snd.snd.fst = b3.snd.snd.fst ∧ b0.snd.snd.snd.fst - (1 : Int) = b3.snd.snd.snd.fst ∧ True) ∧ z9 ∧ (z6 ∧ z15 + 1 = (↑b3.fst : Int) ∧ b0.snd.fst = b3.snd.fst) ∧ z16 ∧ z8 ∧ z14 ∧ z32 ∧ z5 ∧ List.map encDL b0.snd.snd.snd.snd ++ z58 = List.map encDL b3.snd.snd.snd.snd ∧ z39 ∧ z40 ∧ z41 ∧ z42 ∧ b0.snd.snd.snd.snd.length + 1 = b3.snd.snd.snd.snd.length ∧ z22 ∧ b0.snd.snd.snd.snd.length + 1 = b3.snd.snd.snd.snd.length) ∧ HunkI ls k b3 ∧ hkM ls b3 < hkM ls b0)) ∧ (z33 → z48 ∧ z7 ∧ z22 ∧ z13 ∧ z74 ∧ z11 ∧ z12 ∧ ∃ (b2 : Nat × Int × Int × Int × List DL), ((True ∧ True ∧ True ∧ b0.snd.snd.fst = b2.snd.snd.fst ∧ b0.snd.snd.snd.fst - 1 = b2.snd.snd.snd.fst ∧ True) ∧ z9 ∧ (z6 ∧ z15 + 1 = (↑b2.fst : Int) ∧ b0.snd.fst = b2.snd.fst) ∧ z16 ∧ z8 ∧ z14 ∧ z32 ∧ (z65 ∧ z65 ∧ z65 ∧ z65 ∧ z22 ∧ z22 ∧ (0 : Nat) = (0 : Nat)) ∧ List.map encDL b0.snd.snd.snd.snd ++ z58 = List.map encDL b2.snd.snd.snd.snd ∧ z39 ∧ z40 ∧ z41 ∧ z42 ∧ b0.snd.snd.snd.snd.length + 1 = b2.snd.snd.snd.snd.length ∧ z22 ∧ b0.snd.snd.snd.snd.length + 1 = b2.snd.snd.snd.snd.length) ∧ HunkI ls k b2 ∧ hkM ls b2 < hkM ls b0)) ∧ z3)) ∧ (z31 = false → z48 ∧ z48 ∧ z49 ∧ (z20 = true → z52 ∧ z67 ∧ (z19 = true → z35 ∧ InI64 (b0.snd.snd.snd.fst - (1 : Int)) ∧ z10 ∧ z15 = z15 ∧ z66 ∧ z9 ∧ z10 ∧ z43 ∧ z45 ∧ ∀ (b1 : Bs), let z29 := (Value.string (ofL (List.drop (1 : Nat) (List.take (List.length b1) b1)))); let z87 := [AV.agg [intA 3, AV.val z29, boolA true]]; let z59 := [AV.agg [intA 3, AV.val z29, boolA false]]; let z75 := b0.snd.snd.snd.snd.length + z59.length = b0.snd.snd.snd.snd.length + 1; ls[(0 : Nat) + b0.fst]? = some b1 → z78 ∧ (↑(List.length b1) : Int) = (↑(List.length b1) : Int) ∧ (1 : Nat) ≤ List.length b1 ∧ List.length b1 ≤ List.length b1 ∧ InI64 (z15 + 1) ∧ z10 ∧ z21 ∧ (z36 → z10 ∧ z44 ∧ z61 ∧ z9 ∧ z10 ∧ z34 ∧ z37 ∧ ∀ (b2 : Bs), ls[(0 : Nat) + (b0.fst + 1)]? = some b2 → (decide (b2 = z2) = true → InI64 (z15 + 1 + (1 : Int)) ∧ z7 ∧ z22 ∧ z13 ∧ b0.snd.snd.snd.snd.length + z87.length = b0.snd.snd.snd.snd.length + 1 ∧ z11 ∧ z12 ∧ ∃ (b3 : Nat × Int × Int × Int × List DL), ((True ∧ True ∧ True ∧ b0.snd.snd.fst = b3.snd.snd.fst ∧ b0.snd.snd.snd.fst - 1 = b3.snd.snd.snd.fst ∧ True) ∧ z9 ∧ (z6 ∧ z15 + 1 + (1 : Int) = (↑b3.fst : Int) ∧ b0.snd.fst = b3.snd.fst) ∧ z16 ∧ z8 ∧ z14 ∧ z32 ∧ z5 ∧ List.map encDL b0.snd.snd.snd.snd ++ z87 = List.map encDL b3.snd.snd.snd.snd ∧ z39 ∧ z40 ∧ z41 ∧ z42 ∧ b0.snd.snd.snd.snd.length + 1 = b3.snd.snd.snd.snd.length ∧ z22 ∧ b0.snd.snd.snd.snd.length + 1 = b3.snd.snd.snd.snd.length) ∧ HunkI ls k b3 ∧ hkM ls b3 < hkM ls b0) ∧ (decide (b2 = z2) = false → z7 ∧ z22 ∧ z13 ∧ z75 ∧ z11 ∧ z12 ∧ ∃ (b3 : Nat × Int × Int × Int × List DL), ((True ∧ True ∧ True ∧ b0.snd.snd.fst = b3.snd.snd.fst ∧ b0.snd.snd.snd.fst - 1 = b3.snd.snd.snd.fst ∧ True) ∧ z9 ∧ (z6 ∧ z15 + 1 = (↑b3.fst : Int) ∧ b0.snd.fst = b3.snd.fst) ∧ z16 ∧ z8 ∧ z14 ∧ z32 ∧ z5 ∧ List.map encDL b0.snd.snd.snd.snd ++ z59 = List.map encDL b3.snd.snd.snd.snd ∧ z39 ∧ z40 ∧ z41 ∧ z42 ∧ b0.snd.snd.snd.snd.length + 1 = b3.snd.snd.snd.snd.length ∧ z22 ∧ b0.snd.snd.snd.snd.length + 1 = b3.snd.snd.snd.snd.length) ∧ HunkI ls k b3 ∧ hkM ls b3 < hkM ls b0)) ∧ (z33 → z48 ∧ z7 ∧ z22 ∧ z13 ∧ z75 ∧ z11 ∧ z12 ∧ ∃ (b2 : Nat × Int × Int × Int × List DL), ((True ∧ True ∧ True ∧ b0.snd.snd.fst = b2.snd.snd.fst ∧ b0.snd.snd.snd.fst - 1 = b2.snd.snd.snd.fst ∧ True) ∧ z9 ∧ (z6 ∧ z15 + 1 = (↑b2.fst : Int) ∧ b0.snd.fst = b2.snd.fst) ∧ z16 ∧ z8 ∧ z14 ∧ z32 ∧ z5 ∧ List.map encDL b0.snd.snd.snd.snd ++ z59 = List.map encDL b2.snd.snd.snd.snd ∧ z39 ∧ z40 ∧ z41 ∧ z42 ∧ b0.snd.snd.snd.snd.length + 1 = b2.snd.snd.snd.snd.length ∧ z22 ∧ b0.snd.snd.snd.snd.length + 1 = b2.snd.snd.snd.snd.length) ∧ HunkI ls k b2 ∧ hkM ls b2 < hkM ls b0)) ∧ z3) ∧ (z20 = false → z48 ∧ z67 ∧ z1 ∧ z3))) ∧ (z50 → z18 ∧ z9 ∧ z76 ∧ z16 ∧ z8 ∧ z14 ∧ List.map encDL b0.snd.snd.snd.snd = List.map encDL z80))) ∧ (decide z79 = false → z48 ∧ z18 ∧ z9 ∧ z76 ∧ z16 ∧ z8 ∧ z14 ∧ List.map encDL b0.snd.snd.snd.snd = List.map encDL z80))) ?_
 conv => zeta
 conv => zeta
 refine ⟨(hd _ _ _ (by exact rfl) hl hx hk _ _ _ _ _), ⟨(hdA ls k, hdE (lnAt ls k), (hdG (lnAt ls k)).la, (hdG (lnAt ls k)).lb, []), ⟨⟨trivial, trivial, trivial, rfl, rfl, trivial⟩, rfl, ⟨⟨rfl, rfl, rfl⟩, rfl, rfl⟩, rfl, ⟨rfl, rfl, rfl, rfl, rfl⟩, rfl, rfl, ⟨rfl, rfl, rfl, rfl, rfl, rfl, rfl⟩, rfl, rfl, rfl, rfl, rfl, rfl, rfl, rfl⟩, ?_⟩, fun j => fun h2 => ⟨fun h3_ => have h3 := dT h3_; ⟨fun h4_ => have h4 := dT h4_; ⟨rfl, (is _ _ _ _ _ (by exact rfl) hl _ _ _ _ _ _ _ _ _ _ _ _ _ _), fun h5 => ⟨h4_, fun h6_ => have h6 := dT h6_; ⟨?_, ?_, (by simp), rfl, ?_, rfl, (by simp), rfl, ?_, fun x7 => fun h8 => ⟨rfl, rfl, ?_, (by omega), ?_, (by simp), (by simp), fun h9_ => have h9 := dT h9_; ⟨(by simp), (by omega), (by omega), rfl, (by simp), rfl, (by omega), fun x10 => fun h11 => ⟨fun h12_ => have h12 := dT h12_; ⟨(by unfold InI64; omega), (by simp), rfl, rfl, rfl, ?_, ?_, ⟨(j.fst + (1 : Nat) + (1 : Nat), j.snd.fst, j.snd.snd.fst - (1 : Int), j.snd.snd.snd.fst - (1 : Int),
 j.snd.snd.snd.snd ++ [DL.mk (1 : Int) (List.drop (1 : Nat) (List.take (List.length x7) x7)) true]), ⟨⟨trivial, trivial, trivial, rfl, rfl, trivial⟩, rfl, ⟨⟨rfl, rfl, rfl⟩, (by (try dsimp only); omega), rfl⟩, rfl, ⟨rfl, rfl, rfl, rfl, rfl⟩, rfl, rfl, ⟨rfl, rfl, rfl, rfl, rfl, rfl, rfl⟩, ?_, rfl, rfl, rfl, rfl, (by simp), rfl, (by simp)⟩, ⟨?_, ?_⟩⟩⟩, fun h14_ => have h14 := dF h14_; ⟨(by simp), rfl, rfl, rfl, ?_, ?_, ⟨(j.fst + (1 : Nat), j.snd.fst, j.snd.snd.fst - (1 : Int), j.snd.snd.snd.fst - (1 : Int),
 j.snd.snd.snd.snd ++ [DL.mk (1 : Int) (List.drop (1 : Nat) (List.take (List.length x7) x7)) false]), ⟨⟨trivial, trivial, trivial, rfl, rfl, trivial⟩, rfl, ⟨⟨rfl, rfl, rfl⟩, (by (try dsimp only); omega), rfl⟩, rfl, ⟨rfl, rfl, rfl, rfl, rfl⟩, rfl, rfl, ⟨rfl, rfl, rfl, rfl, rfl, rfl, rfl⟩, ?_, rfl, rfl, rfl, rfl, (by simp), rfl, (by simp)⟩, ⟨?_, ?_⟩⟩⟩⟩⟩, fun h16_ => have h16 := dF h16_; ⟨rfl, (by simp), rfl, rfl, rfl, ?_, ?_, ⟨(j.fst + (1 : Nat), j.snd.fst, j.snd.snd.fst - (1 : Int), j.snd.snd.snd.fst - (1 : Int),
 j.snd.snd.snd.snd ++ [DL.mk (1 : Int) (List.drop (1 : Nat) (List.take (List.length x7) x7)) false]), ⟨⟨trivial, trivial, trivial, rfl, rfl, trivial⟩, rfl, ⟨⟨rfl, rfl, rfl⟩, (by (try dsimp only); omega), rfl⟩, rfl, ⟨rfl, rfl, rfl, rfl, rfl⟩, rfl, rfl, ⟨rfl, rfl, rfl, rfl, rfl, rfl, rfl⟩, ?_, rfl, rfl, rfl, rfl, (by simp), rfl, (by simp)⟩, ⟨?_, ?_⟩⟩⟩⟩⟩, fun h18_ => have h18 := dF h18_; ⟨(is _ _ _ _ _ (by exact rfl) hl _ _ _ _ _ _ _ _ _ _ _ _ _ _), fun h19 => ⟨h4_, ?_, (by simp), rfl, ?_, rfl, (by simp), rfl, ?_, fun x20 => fun h21 => ⟨rfl, rfl, ?_, (by omega), ?_, (by simp), (by simp), fun h22_ => have h22 := dT h22_; ⟨(by simp), (by omega), (by omega), rfl, (by simp), rfl, (by omega), fun x23 => fun h24 => ⟨fun h25_ => have h25 := dT h25_; ⟨(by unfold InI64; omega), (by simp), rfl, rfl, rfl, ?_, ?_, ⟨(j.fst + (1 : Nat) + (1 : Nat), j.snd.fst, j.snd.snd.fst - (1 : Int), j.snd.snd.snd.fst,
 j.snd.snd.snd.snd ++ [DL.mk (2 : Int) (List.drop (1 : Nat) (List.take (List.length x20) x20)) true]), ⟨⟨trivial, trivial, trivial, rfl, rfl, trivial⟩, rfl, ⟨⟨rfl, rfl, rfl⟩, (by (try dsimp only); omega), rfl⟩, rfl, ⟨rfl, rfl, rfl, rfl, rfl⟩, rfl, rfl, ⟨rfl, rfl, rfl, rfl, rfl, rfl, rfl⟩, ?_, rfl, rfl, rfl, rfl, (by simp), rfl, (by simp)⟩, ⟨?_, ?_⟩⟩⟩, fun h27_ => have h27 := dF h27_; ⟨(by simp), rfl, rfl, rfl, ?_, ?_, ⟨(j.fst + (1 : Nat), j.snd.fst, j.snd.snd.fst - (1 : Int), j.snd.snd.snd.fst,
 j.snd.snd.snd.snd ++ [DL.mk (2 : Int) (List.drop (1 : Nat) (List.take (List.length x20) x20)) false]), ⟨⟨trivial, trivial, trivial, rfl, rfl, trivial⟩, rfl, ⟨⟨rfl, rfl, rfl⟩, (by (try dsimp only); omega), rfl⟩, rfl, ⟨rfl, rfl, rfl, rfl, rfl⟩, rfl, rfl, ⟨rfl, rfl, rfl, rfl, rfl, rfl, rfl⟩, ?_, rfl, rfl, rfl, rfl, (by simp), rfl, (by simp)⟩, ⟨?_, ?_⟩⟩⟩⟩⟩, fun h29_ => have h29 := dF h29_; ⟨rfl, (by simp), rfl, rfl, rfl, ?_, ?_, ⟨(j.fst + (1 : Nat), j.snd.fst, j.snd.snd.fst - (1 : Int), j.snd.snd.snd.fst,
 j.snd.snd.snd.snd ++ [DL.mk (2 : Int) (List.drop (1 : Nat) (List.take (List.length x20) x20)) false]), ⟨⟨trivial, trivial, trivial, rfl, rfl, trivial⟩, rfl, ⟨⟨rfl, rfl, rfl⟩, (by (try dsimp only); omega), rfl⟩, rfl, ⟨rfl, rfl, rfl, rfl, rfl⟩, rfl, rfl, ⟨rfl, rfl, rfl, rfl, rfl, rfl, rfl⟩, ?_, rfl, rfl, rfl, rfl, (by simp), rfl, (by simp)⟩, ⟨?_, ?_⟩⟩⟩⟩⟩, fun h31 => ⟨rfl, (is _ _ _ _ _ (by exact rfl) hl _ _ _ _ _ _ _ _ _ _ _ _ _ _), fun h32 => ⟨h18_, ⟨rfl, rfl, rfl, rfl, ?_, rfl, ?_⟩, rfl, ⟨⟨rfl, rfl, rfl⟩, ?_, ?_⟩, rfl, ⟨rfl, rfl, rfl, rfl, rfl⟩, rfl, ?_⟩, fun h33 => ⟨rfl, ⟨rfl, rfl, rfl, rfl, ?_, rfl, ?_⟩, rfl, ⟨⟨rfl, rfl, rfl⟩, ?_, ?_⟩, rfl, ⟨rfl, rfl, rfl, rfl, rfl⟩, rfl, ?_⟩⟩⟩⟩, fun h34 => ⟨rfl, rfl, (is _ _ _ _ _ (by exact rfl) hl _ _ _ _ _ _ _ _ _ _ _ _ _ _), fun h35 => ⟨h4_, ?_, (by simp), rfl, ?_, rfl, (by simp), rfl, ?_, fun x36 => fun h37 => ⟨rfl, rfl, ?_, (by omega), ?_, (by simp), (by simp), fun h38_ => have h38 := dT h38_; ⟨(by simp), (by omega), (by omega), rfl, (by simp), rfl, (by omega), fun x39 => fun h40 => ⟨fun h41_ => have h41 := dT h41_; ⟨(by unfold InI64; omega), (by simp), rfl, rfl, rfl, ?_, ?_, ⟨(j.fst + (1 : Nat) + (1 : Nat), j.snd.fst, j.snd.snd.fst - (1 : Int), j.snd.snd.snd.fst,
 j.snd.snd.snd.snd ++ [DL.mk (2 : Int) (List.drop (1 : Nat) (List.take (List.length x36) x36)) true]), ⟨⟨trivial, trivial, trivial, rfl, rfl, trivial⟩, rfl, ⟨⟨rfl, rfl, rfl⟩, (by (try dsimp only); omega), rfl⟩, rfl, ⟨rfl, rfl, rfl, rfl, rfl⟩, rfl, rfl, ⟨rfl, rfl, rfl, rfl, rfl, rfl, rfl⟩, ?_, rfl, rfl, rfl, rfl, (by simp), rfl, (by simp)⟩, ⟨?_, ?_⟩⟩⟩, fun h43_ => have h43 := dF h43_; ⟨(by simp), rfl, rfl, rfl, ?_, ?_, ⟨(j.fst + (1 : Nat), j.snd.fst, j.snd.snd.fst - (1 : Int), j.snd.snd.snd.fst,
 j.snd.snd.snd.snd ++ [DL.mk (2 : Int) (List.drop (1 : Nat) (List.take (List.length x36) x36)) false]), ⟨⟨trivial, trivial, trivial, rfl, rfl, trivial⟩, rfl, ⟨⟨rfl, rfl, rfl⟩, (by (try dsimp only); omega), rfl⟩, rfl, ⟨rfl, rfl, rfl, rfl, rfl⟩, rfl, rfl, ⟨rfl, rfl, rfl, rfl, rfl, rfl, rfl⟩, ?_, rfl, rfl, rfl, rfl, (by simp), rfl, (by simp)⟩, ⟨?_, ?_⟩⟩⟩⟩⟩, fun h45_ => have h45 := dF h45_; ⟨rfl, (by simp), rfl, rfl, rfl, ?_, ?_, ⟨(j.fst + (1 : Nat), j.snd.fst, j.snd.snd.fst - (1 : Int), j.snd.snd.snd.fst,
 j.snd.snd.snd.snd ++ [DL.mk (2 : Int) (List.drop (1 : Nat) (List.take (List.length x36) x36)) false]), ⟨⟨trivial, trivial, trivial, rfl, rfl, trivial⟩, rfl, ⟨⟨rfl, rfl, rfl⟩, (by (try dsimp only); omega), rfl⟩, rfl, ⟨rfl, rfl, rfl, rfl, rfl⟩, rfl, rfl, ⟨rfl, rfl, rfl, rfl, rfl, rfl, rfl⟩, ?_, rfl, rfl, rfl, rfl, (by simp), rfl, (by simp)⟩, ⟨?_, ?_⟩⟩⟩⟩⟩, fun h47 => ⟨rfl, (is _ _ _ _ _ (by exact rfl) hl _ _ _ _ _ _ _ _ _ _ _ _ _ _), fun h48 => ⟨fun h49_ => have h49 := dT h49_; ⟨?_, (by simp), rfl, ?_, rfl, (by simp), rfl, ?_, fun x50 => fun h51 => ⟨rfl, rfl, ?_, (by omega), ?_, (by simp), (by simp), fun h52_ => have h52 := dT h52_; ⟨(by simp), (by omega), (by omega), rfl, (by simp), rfl, (by omega), fun x53 => fun h54 => ⟨fun h55_ => have h55 := dT h55_; ⟨(by unfold InI64; omega), (by simp), rfl, rfl, rfl, ?_, ?_, ⟨(j.fst + (1 : Nat) + (1 : Nat), j.snd.fst, j.snd.snd.fst, j.snd.snd.snd.fst - (1 : Int),
 j.snd.snd.snd.snd ++ [DL.mk (3 : Int) (List.drop (1 : Nat) (List.take (List.length x50) x50)) true]), ⟨⟨trivial, trivial, trivial, rfl, rfl, trivial⟩, rfl, ⟨⟨rfl, rfl, rfl⟩, (by (try dsimp only); omega), rfl⟩, rfl, ⟨rfl, rfl, rfl, rfl, rfl⟩, rfl, rfl, ⟨rfl, rfl, rfl, rfl, rfl, rfl, rfl⟩, ?_, rfl, rfl, rfl, rfl, (by simp), rfl, (by simp)⟩, ⟨?_, ?_⟩⟩⟩, fun h57_ => have h57 := dF h57_; ⟨(by simp), rfl, rfl, rfl, ?_, ?_, ⟨(j.fst + (1 : Nat), j.snd.fst, j.snd.snd.fst, j.snd.snd.snd.fst - (1 : Int),
 j.snd.snd.snd.snd ++ [DL.mk (3 : Int) (List.drop (1 : Nat) (List.take (List.length x50) x50)) false]), ⟨⟨trivial, trivial, trivial, rfl, rfl, trivial⟩, rfl, ⟨⟨rfl, rfl, rfl⟩, (by (try dsimp only); omega), rfl⟩, rfl, ⟨rfl, rfl, rfl, rfl, rfl⟩, rfl, rfl, ⟨rfl, rfl, rfl, rfl, rfl, rfl, rfl⟩, ?_, rfl, rfl, rfl, rfl, (by simp), rfl, (by simp)⟩, ⟨?_, ?_⟩⟩⟩⟩⟩, fun h59_ => have h59 := dF h59_; ⟨rfl, (by simp), rfl, rfl, rfl, ?_, ?_, ⟨(j.fst + (1 : Nat), j.snd.fst, j.snd.snd.fst, j.snd.snd.snd.fst - (1 : Int),
 j.snd.snd.snd.snd ++ [DL.mk (3 : Int) (List.drop (1 : Nat) (List.take (List.length x50) x50)) false]), ⟨⟨trivial, trivial, trivial, rfl, rfl, trivial⟩, rfl, ⟨⟨rfl, rfl, rfl⟩, (by (try dsimp only); omega), rfl⟩, rfl, ⟨rfl, rfl, rfl, rfl, rfl⟩, rfl, rfl, ⟨rfl, rfl, rfl, rfl, rfl, rfl, rfl⟩, ?_, rfl, rfl, rfl, rfl, (by simp), rfl, (by simp)⟩, ⟨?_, ?_⟩⟩⟩⟩⟩, fun h61_ => have h61 := dF h61_; ⟨⟨rfl, rfl, rfl, rfl, ?_, rfl, ?_⟩, rfl, ⟨⟨rfl, rfl, rfl⟩, ?_, ?_⟩, rfl, ⟨rfl, rfl, rfl, rfl, rfl⟩, rfl, ?_⟩⟩, fun h62 => ⟨rfl, ⟨rfl, rfl, rfl, rfl, ?_, rfl, ?_⟩, rfl, ⟨⟨rfl, rfl, rfl⟩, ?_, ?_⟩, rfl, ⟨rfl, rfl, rfl, rfl, rfl⟩, rfl, ?_⟩⟩⟩⟩, fun h63_ => have h63 := dF h63_; ⟨fun h64_ => have h64 := dT h64_; ⟨(is _ _ _ _ _ (by exact rfl) hl _ _ _ _ _ _ _ _ _ _ _ _ _ _), fun h65 => ⟨h63_, rfl, (is _ _ _ _ _ (by exact rfl) hl _ _ _ _ _ _ _ _ _ _ _ _ _ _), fun h66 => ⟨h63_, (is _ _ _ _ _ (by exact rfl) hl _ _ _ _ _ _ _ _ _ _ _ _ _ _), fun h67 => ⟨h64_, ?_, (by simp), rfl, ?_, rfl, (by simp), rfl, ?_, fun x68 => fun h69 => ⟨rfl, rfl, ?_, (by omega), ?_, (by simp), (by simp), fun h70_ => have h70 := dT h70_; ⟨(by simp), (by omega), (by omega), rfl, (by simp), rfl, (by omega), fun x71 => fun h72 => ⟨fun h73_ => have h73 := dT h73_; ⟨(by unfold InI64; omega), (by simp), rfl, rfl, rfl, ?_, ?_, ⟨(j.fst + (1 : Nat) + (1 : Nat), j.snd.fst, j.snd.snd.fst, j.snd.snd.snd.fst - (1 : Int),
 j.snd.snd.snd.snd ++ [DL.mk (3 : Int) (List.drop (1 : Nat) (List.take (List.length x68) x68)) true]), ⟨⟨trivial, trivial, trivial, rfl, rfl, trivial⟩, rfl, ⟨⟨rfl, rfl, rfl⟩, (by (try dsimp only); omega), rfl⟩, rfl, ⟨rfl, rfl, rfl, rfl, rfl⟩, rfl, rfl, ⟨rfl, rfl, rfl, rfl, rfl, rfl, rfl⟩, ?_, rfl, rfl, rfl, rfl, (by simp), rfl, (by simp)⟩, ⟨?_, ?_⟩⟩⟩, fun h75_ => have h75 := dF h75_; ⟨(by simp), rfl, rfl, rfl, ?_, ?_, ⟨(j.fst + (1 : Nat), j.snd.fst, j.snd.snd.fst, j.snd.snd.snd.fst - (1 : Int),
 j.snd.snd.snd.snd ++ [DL.mk (3 : Int) (List.drop (1 : Nat) (List.take (List.length x68) x68)) false]), ⟨⟨trivial, trivial, trivial, rfl, rfl, trivial⟩, rfl, ⟨⟨rfl, rfl, rfl⟩, (by (try dsimp only); omega), rfl⟩, rfl, ⟨rfl, rfl, rfl, rfl, rfl⟩, rfl, rfl, ⟨rfl, rfl, rfl, rfl, rfl, rfl, rfl⟩, ?_, rfl, rfl, rfl, rfl, (by simp), rfl, (by simp)⟩, ⟨?_, ?_⟩⟩⟩⟩⟩, fun h77_ => have h77 := dF h77_; ⟨rfl, (by simp), rfl, rfl, rfl, ?_, ?_, ⟨(j.fst + (1 : Nat), j.snd.fst, j.snd.snd.fst, j.snd.snd.snd.fst - (1 : Int),
 j.snd.snd.snd.snd ++ [DL.mk (3 : Int) (List.drop (1 : Nat) (List.take (List.length x68) x68)) false]), ⟨⟨trivial, trivial, trivial, rfl, rfl, trivial⟩, rfl, ⟨⟨rfl, rfl, rfl⟩, (by (try dsimp only); omega), rfl⟩, rfl, ⟨rfl, rfl, rfl, rfl, rfl⟩, rfl, rfl, ⟨rfl, rfl, rfl, rfl, rfl, rfl, rfl⟩, ?_, rfl, rfl, rfl, rfl, (by simp), rfl, (by simp)⟩, ⟨?_, ?_⟩⟩⟩⟩⟩, fun h79 => ⟨rfl, ⟨rfl, rfl, rfl, rfl, ?_, rfl, ?_⟩, rfl, ⟨⟨rfl, rfl, rfl⟩, ?_, ?_⟩, rfl, ⟨rfl, rfl, rfl, rfl, rfl⟩, rfl, ?_⟩⟩, fun h80 => ⟨rfl, (is _ _ _ _ _ (by exact rfl) hl _ _ _ _ _ _ _ _ _ _ _ _ _ _), fun h81 => ⟨h64_, ?_, (by simp), rfl, ?_, rfl, (by simp), rfl, ?_, fun x82 => fun h83 => ⟨rfl, rfl, ?_, (by omega), ?_, (by simp), (by simp), fun h84_ => have h84 := dT h84_; ⟨(by simp), (by omega), (by omega), rfl, (by simp), rfl, (by omega), fun x85 => fun h86 => ⟨fun h87_ => have h87 := dT h87_; ⟨(by unfold InI64; omega), (by simp), rfl, rfl, rfl, ?_, ?_, ⟨(j.fst + (1 : Nat) + (1 : Nat), j.snd.fst, j.snd.snd.fst, j.snd.snd.snd.fst - (1 : Int),
 j.snd.snd.snd.snd ++ [DL.mk (3 : Int) (List.drop (1 : Nat) (List.take (List.length x82) x82)) true]), ⟨⟨trivial, trivial, trivial, rfl, rfl, trivial⟩, rfl, ⟨⟨rfl, rfl, rfl⟩, (by (try dsimp only); omega), rfl⟩, rfl, ⟨rfl, rfl, rfl, rfl, rfl⟩, rfl, rfl, ⟨rfl, rfl, rfl, rfl, rfl, rfl, rfl⟩, ?_, rfl, rfl, rfl, rfl, (by simp), rfl, (by simp)⟩, ⟨?_, ?_⟩⟩⟩, fun h89_ => have h89 := dF h89_; ⟨(by simp), rfl, rfl, rfl, ?_, ?_, ⟨(j.fst + (1 : Nat), j.snd.fst, j.snd.snd.fst, j.snd.snd.snd.fst - (1 : Int),
 j.snd.snd.snd.snd ++ [DL.mk (3 : Int) (List.drop (1 : Nat) (List.take (List.length x82) x82)) false]), ⟨⟨trivial, trivial, trivial, rfl, rfl, trivial⟩, rfl, ⟨⟨rfl, rfl, rfl⟩, (by (try dsimp only); omega), rfl⟩, rfl, ⟨rfl, rfl, rfl, rfl, rfl⟩, rfl, rfl, ⟨rfl, rfl, rfl, rfl, rfl, rfl, rfl⟩, ?_, rfl, rfl, rfl, rfl, (by simp), rfl, (by simp)⟩, ⟨?_, ?_⟩⟩⟩⟩⟩, fun h91_ => have h91 := dF h91_; ⟨rfl, (by simp), rfl, rfl, rfl, ?_, ?_, ⟨(j.fst + (1 : Nat), j.snd.fst, j.snd.snd.fst, j.snd.snd.snd.fst - (1 : Int),
 j.snd.snd.snd.snd ++ [DL.mk (3 : Int) (List.drop (1 : Nat) (List.take (List.length x82) x82)) false]), ⟨⟨trivial, trivial, trivial, rfl, rfl, trivial⟩, rfl, ⟨⟨rfl, rfl, rfl⟩, (by (try dsimp only); omega), rfl⟩, rfl, ⟨rfl, rfl, rfl, rfl, rfl⟩, rfl, rfl, ⟨rfl, rfl, rfl, rfl, rfl, rfl, rfl⟩, ?_, rfl, rfl, rfl, rfl, (by simp), rfl, (by simp)⟩, ⟨?_, ?_⟩⟩⟩⟩⟩, fun h93 => ⟨rfl, ⟨rfl, rfl, rfl, rfl, ?_, rfl, ?_⟩, rfl, ⟨⟨rfl, rfl, rfl⟩, ?_, ?_⟩, rfl, ⟨rfl, rfl, rfl, rfl, rfl⟩, rfl, ?_⟩⟩⟩, fun h94 => ⟨rfl, rfl, (is _ _ _ _ _ (by exact rfl) hl _ _ _ _ _ _ _ _ _ _ _ _ _ _), fun h95 => ⟨h63_, (is _ _ _ _ _ (by exact rfl) hl _ _ _ _ _ _ _ _ _ _ _ _ _ _), fun h96 => ⟨h64_, ?_, (by simp), rfl, ?_, rfl, (by simp), rfl, ?_, fun x97 => fun h98 => ⟨rfl, rfl, ?_, (by omega), ?_, (by simp), (by simp), fun h99_ => have h99 := dT h99_; ⟨(by simp), (by omega), (by omega), rfl, (by simp), rfl, (by omega), fun x100 => fun h101 => ⟨fun h102_ => have h102 := dT h102_; ⟨(by unfold InI64; omega), (by simp), rfl, rfl, rfl, ?_, ?_, ⟨(j.fst + (1 : Nat) + (1 : Nat), j.snd.fst, j.snd.snd.fst, j.snd.snd.snd.fst - (1 : Int),
 j.snd.snd.snd.snd ++ [DL.mk (3 : Int) (List.drop (1 : Nat) (List.take (List.length x97) x97)) true]), ⟨⟨trivial, trivial, trivial, rfl, rfl, trivial⟩, rfl, ⟨⟨rfl, rfl, rfl⟩, (by (try dsimp only); omega), rfl⟩, rfl, ⟨rfl, rfl, rfl, rfl, rfl⟩, rfl, rfl, ⟨rfl, rfl, rfl, rfl, rfl, rfl, rfl⟩, ?_, rfl, rfl, rfl, rfl, (by simp), rfl, (by simp)⟩, ⟨?_, ?_⟩⟩⟩, fun h104_ => have h104 := dF h104_; ⟨(by simp), rfl, rfl, rfl, ?_, ?_, ⟨(j.fst + (1 : Nat), j.snd.fst, j.snd.snd.fst, j.snd.snd.snd.fst - (1 : Int),
 j.snd.snd.snd.snd ++ [DL.mk (3 : Int) (List.drop (1 : Nat) (List.take (List.length x97) x97)) false]), ⟨⟨trivial, trivial, trivial, rfl, rfl, trivial⟩, rfl, ⟨⟨rfl, rfl, rfl⟩, (by (try dsimp only); omega), rfl⟩, rfl, ⟨rfl, rfl, rfl, rfl, rfl⟩, rfl, rfl, ⟨rfl, rfl, rfl, rfl, rfl, rfl, rfl⟩, ?_, rfl, rfl, rfl, rfl, (by simp), rfl, (by simp)⟩, ⟨?_, ?_⟩⟩⟩⟩⟩, fun h106_ => have h106 := dF h106_; ⟨rfl, (by simp), rfl, rfl, rfl, ?_, ?_, ⟨(j.fst + (1 : Nat), j.snd.fst, j.snd.snd.fst, j.snd.snd.snd.fst - (1 : Int),
 j.snd.snd.snd.snd ++ [DL.mk (3 : Int) (List.drop (1 : Nat) (List.take (List.length x97) x97)) false]), ⟨⟨trivial, trivial, trivial, rfl, rfl, trivial⟩, rfl, ⟨⟨rfl, rfl, rfl⟩, (by (try dsimp only); omega), rfl⟩, rfl, ⟨rfl, rfl, rfl, rfl, rfl⟩, rfl, rfl, ⟨rfl, rfl, rfl, rfl, rfl, rfl, rfl⟩, ?_, rfl, rfl, rfl, rfl, (by simp), rfl, (by simp)⟩, ⟨?_, ?_⟩⟩⟩⟩⟩, fun h108 => ⟨rfl, ⟨rfl, rfl, rfl, rfl, ?_, rfl, ?_⟩, rfl, ⟨⟨rfl, rfl, rfl⟩, ?_, ?_⟩, rfl, ⟨rfl, rfl, rfl, rfl, rfl⟩, rfl, ?_⟩⟩, fun h109 => ⟨rfl, (is _ _ _ _ _ (by exact rfl) hl _ _ _ _ _ _ _ _ _ _ _ _ _ _), fun h110 => ⟨h64_, ?_, (by simp), rfl, ?_, rfl, (by simp), rfl, ?_, fun x111 => fun h112 => ⟨rfl, rfl, ?_, (by omega), ?_, (by simp), (by simp), fun h113_ => have h113 := dT h113_; ⟨(by simp), (by omega), (by omega), rfl, (by simp), rfl, (by omega), fun x114 => fun h115 => ⟨fun h116_ => have h116 := dT h116_; ⟨(by unfold InI64; omega), (by simp), rfl, rfl, rfl, ?_, ?_, ⟨(j.fst + (1 : Nat) + (1 : Nat), j.snd.fst, j.snd.snd.fst, j.snd.snd.snd.fst - (1 : Int),
 j.snd.snd.snd.snd ++ [DL.mk (3 : Int) (List.drop (1 : Nat) (List.take (List.length x111) x111)) true]), ⟨⟨trivial, trivial, trivial, rfl, rfl, trivial⟩, rfl, ⟨⟨rfl, rfl, rfl⟩, (by (try dsimp only); omega), rfl⟩, rfl, ⟨rfl, rfl, rfl, rfl, rfl⟩, rfl, rfl, ⟨rfl, rfl, rfl, rfl, rfl, rfl, rfl⟩, ?_, rfl, rfl, rfl, rfl, (by simp), rfl, (by simp)⟩, ⟨?_, ?_⟩⟩⟩, fun h118_ => have h118 := dF h118_; ⟨(by simp), rfl, rfl, rfl, ?_, ?_, ⟨(j.fst + (1 : Nat), j.snd.fst, j.snd.snd.fst, j.snd.snd.snd.fst - (1 : Int),
 j.snd.snd.snd.snd ++ [DL.mk (3 : Int) (List.drop (1 : Nat) (List.take (List.length x111) x111)) false]), ⟨⟨trivial, trivial, trivial, rfl, rfl, trivial⟩, rfl, ⟨⟨rfl, rfl, rfl⟩, (by (try dsimp only); omega), rfl⟩, rfl, ⟨rfl, rfl, rfl, rfl, rfl⟩, rfl, rfl, ⟨rfl, rfl, rfl, rfl, rfl, rfl, rfl⟩, ?_, rfl, rfl, rfl, rfl, (by simp), rfl, (by simp)⟩, ⟨?_, ?_⟩⟩⟩⟩⟩, fun h120_ => have h120 := dF h120_; ⟨rfl, (by simp), rfl, rfl, rfl, ?_, ?_, ⟨(j.fst + (1 : Nat), j.snd.fst, j.snd.snd.fst, j.snd.snd.snd.fst - (1 : Int),
 j.snd.snd.snd.snd ++ [DL.mk (3 : Int) (List.drop (1 : Nat) (List.take (List.length x111) x111)) false]), ⟨⟨trivial, trivial, trivial, rfl, rfl, trivial⟩, rfl, ⟨⟨rfl, rfl, rfl⟩, (by (try dsimp only); omega), rfl⟩, rfl, ⟨rfl, rfl, rfl, rfl, rfl⟩, rfl, rfl, ⟨rfl, rfl, rfl, rfl, rfl, rfl, rfl⟩, ?_, rfl, rfl, rfl, rfl, (by simp), rfl, (by simp)⟩, ⟨?_, ?_⟩⟩⟩⟩⟩, fun h122 => ⟨rfl, ⟨rfl, rfl, rfl, rfl, ?_, rfl, ?_⟩, rfl, ⟨⟨rfl, rfl, rfl⟩, ?_, ?_⟩, rfl, ⟨rfl, rfl, rfl, rfl, rfl⟩, rfl, ?_⟩⟩⟩⟩, fun h123_ => have h123 := dF h123_; ⟨⟨rfl, rfl, rfl, rfl, ?_, rfl, ?_⟩, rfl, ⟨⟨rfl, rfl, rfl⟩, ?_, ?_⟩, rfl, ⟨rfl, rfl, rfl, rfl, rfl⟩, rfl, ?_⟩⟩⟩, fun h124_ => have h124 := dF h124_; ⟨rfl, ⟨rfl, rfl, rfl, rfl, ?_, rfl, ?_⟩, rfl, ⟨⟨rfl, rfl, rfl⟩, ?_, ?_⟩, rfl, ⟨rfl, rfl, rfl, rfl, rfl⟩, rfl, ?_⟩⟩⟩
 ·exact HunkI.init hk
 all_goals have hia := h2.ia
 all_goals have hib := h2.ib
 all_goals have hle := h2.le
 all_goals have hln := h2.ln
 all_goals first
  | exact hkM_lt h3 (by assumption) (by omega)
  | exact h2.s1 h3 (by assumption) (by assumption) (by assumption) (by assumption) (neB_t (by assumption) (by assumption)) rfl
  | exact h2.s1 h3 (by assumption) (by assumption) (by assumption) (by assumption) (neB_f (by assumption) (by assumption)) rfl
  | exact h2.s1 h3 (by assumption) (by assumption) (by assumption) (by assumption) (neB_o (by assumption)) rfl
  | exact h2.s2 h3 (by assumption) (by assumption) (by assumption) (neB_t (by assumption) (by assumption)) rfl
  | exact h2.s2 h3 (by assumption) (by assumption) (by assumption) (neB_f (by assumption) (by assumption)) rfl
  | exact h2.s2 h3 (by assumption) (by assumption) (by assumption) (neB_o (by assumption)) rfl
  | exact h2.s3 h3 (by assumption) (by assumption) (by assumption) (neB_t (by assumption) (by assumption)) rfl
  | exact h2.s3 h3 (by assumption) (by assumption) (by assumption) (neB_f (by assumption) (by assumption)) rfl
  | exact h2.s3 h3 (by assumption) (by assumption) (by assumption) (neB_o (by assumption)) rfl
  | (rw [List.map_append]; rfl)
  | (unfold InI64 at *; omega)
  | omega
  | exact isB_1 (isE (by assumption)) (by assumption)
  | (have q := isB_lt (isE (by assumption)); omega)
  | (refine HunkE.n (e := 1) (h2.out h3 ?_ ?_ ?_ ?_) <;> first | omega | exact .inl (by assumption) | (right; omega))
  | (refine HunkE.n (e := _) (h2.fin h3 ?_ ?_) <;> omega)
  | (refine HunkE.n (e := _) (h2.err ?_) <;> assumption)
  | (refine HunkE.a (e := 1) (h2.out h3 ?_ ?_ ?_ ?_) <;> first | omega | exact .inl (by assumption) | (right; omega))
  | (refine HunkE.a (e := _) (h2.fin h3 ?_ ?_) <;> omega)
  | (refine HunkE.a (e := _) (h2.err ?_) <;> assumption)
  | (refine HunkE.e (e := 1) (h2.out h3 ?_ ?_ ?_ ?_) <;> first | omega | exact .inl (by assumption) | (right; omega))
  | (refine HunkE.e (e := _) (h2.fin h3 ?_ ?_) <;> omega)
  | (refine HunkE.e (e := _) (h2.err ?_) <;> assumption)
  | (refine HunkE.l (e := 1) (h2.out h3 ?_ ?_ ?_ ?_) <;> first | omega | exact .inl (by assumption) | (right; omega))
  | (refine HunkE.l (e := _) (h2.fin h3 ?_ ?_) <;> omega)
  | (refine HunkE.l (e := _) (h2.err ?_) <;> assumption)
end
end Go.Proofs.YtfbpbkcplpkndaaGreatDoor
end
section
namespace Go.Proofs.YtfbpbkcplpkndaaGreatDoor
set_option linter.unusedVariables false
set_option linter.unusedSimpArgs false
structure PaI (ls : List Bs) (j : Nat × Int × List Pt) : Prop where
 le : j.1 ≤ ls.length
 ln : j.2.2.length ≤ ls.length
 ok : j.2.1 = 0 → j.2.2.length ≤ j.1 ∧ Pm ls j.1 j.2.2 (pmR ls)
 bad : j.2.1 ≠ 0 → (pmR ls).1 = j.2.1 ∧ (pmR ls).2.1 = j.1
def paM (ls : List Bs) (j : Nat × Int × List Pt) : Nat := if j.2.1 = 0 then ls.length - j.1 + 1 else 0
structure HsI (ls : List Bs) (j : Nat × Int × List Pt) (q : Nat × Int × Bs × Bs × List Hk) : Prop where
 le : q.1 ≤ ls.length
 ln : q.2.2.2.2.length ≤ ls.length
 pl : j.2.2.length ≤ j.1
 lt : j.1 < ls.length
 je : j.1 ≤ q.1
 ok : q.2.1 = 0 → (j.1 + 2 ≤ q.1 ∧ q.2.2.2.2.length ≤ q.1) ∧ nmP ls j.1 mnA = some q.2.2.1 ∧ nmP ls (j.1 + 1) mnB = some q.2.2.2.1 ∧ Hs ls q.1 q.2.2.2.2 (hsR ls (j.1 + 2)) ∧ Pm ls j.1 j.2.2 (pmR ls)
 bad : q.2.1 ≠ 0 → (pmR ls).1 = q.2.1 ∧ (pmR ls).2.1 = q.1
def hsM (ls : List Bs) (q : Nat × Int × Bs × Bs × List Hk) : Nat := if q.2.1 = 0 then ls.length - q.1 + 1 else 0
section
variable {ls : List Bs} {j : Nat × Int × List Pt} {q : Nat × Int × Bs × Bs × List Hk}
theorem PaI.start (ls : List Bs) : PaI ls (0, 0, []) := ⟨Nat.zero_le _, Nat.zero_le _, fun _ => ⟨Nat.le_refl _, pmR_ok ls⟩, fun h => absurd rfl h⟩
theorem PaI.n1 (h : PaI ls j) (e : j.2.1 = 0) (hk : j.1 < ls.length) (hn : nmP ls j.1 mnA = none) (o n : Bs) : HsI ls j (j.1, 1, o, n, []) :=
 ⟨h.le, Nat.zero_le _, (h.ok e).1, hk, Nat.le_refl _, (fun q => by cases q), fun _ => by rw [(h.ok e).2.det (.b1 hk hn)]; exact ⟨rfl, rfl⟩⟩
theorem PaI.n2 (h : PaI ls j) (e : j.2.1 = 0) {o' : Bs} (hn : nmP ls j.1 mnA = some o') (hn2 : nmP ls (j.1 + 1) mnB = none) (o n : Bs) : HsI ls j (j.1 + 1, 1, o, n, []) :=
 ⟨nmP_lt hn, Nat.zero_le _, (h.ok e).1, nmP_lt hn, Nat.le_succ _, (fun q => by cases q), fun _ => by rw [(h.ok e).2.det (.b2 hn hn2)]; exact ⟨rfl, rfl⟩⟩
theorem PaI.n3 (h : PaI ls j) (e : j.2.1 = 0) {o n : Bs} (hn : nmP ls j.1 mnA = some o) (hn2 : nmP ls (j.1 + 1) mnB = some n) : HsI ls j (j.1 + 1 + 1, j.2.1, o, n, []) :=
 ⟨nmP_lt hn2, Nat.zero_le _, (h.ok e).1, nmP_lt hn, by simp only; omega, fun _ => ⟨⟨Nat.le_refl _, Nat.zero_le _⟩, hn, hn2, hsR_ok ls _, (h.ok e).2⟩, fun q => absurd e q⟩
theorem HsI.go {hk : Hk} (h : HsI ls j q) (e : q.2.1 = 0) (ha : atH ls q.1 = true) (hh : hkE ls q.1 = 0 → hk = hkH ls q.1) : HsI ls j (hkA ls q.1, hkE ls q.1, q.2.2.1, q.2.2.2.1, q.2.2.2.2 ++ [hk]) := by
 obtain ⟨⟨g0, gl⟩, g1, g2, g3, g4⟩ := h.ok e
 have hl := atH_lt ha
 have hge : q.1 ≤ hkA ls q.1 := by
  unfold hkA; split
  ·have := (bdR_ok ls (hdV (lnAt ls q.1)).la (hdV (lnAt ls q.1)).lb (q.1 + 1)).adv.1
   unfold hkB; omega
  ·exact Nat.le_refl _
 have hge2 : hkE ls q.1 = 0 → q.1 + 1 ≤ hkA ls q.1 := fun he => hkA_adv he
 have hlen := h.ln
 have hl2 : (q.2.2.2.2 ++ [hk]).length ≤ ls.length := by rw [List.length_append, List.length_singleton]; omega
 by_cases he : hkE ls q.1 = 0
 ·have hk1 := hh he
  subst hk1
  have h1 := hge2 he
  refine ⟨hkA_le hl, hl2, h.pl, h.lt, ?_, fun _ => ⟨⟨?_, ?_⟩, g1, g2, ?_, g4⟩, fun c => absurd he c⟩
  ·show j.1 ≤ hkA ls q.1
   omega
  ·show j.1 + 2 ≤ hkA ls q.1
   omega
  ·show (q.2.2.2.2 ++ _).length ≤ hkA ls q.1
   rw [List.length_append, List.length_singleton]; omega
  ·show Hs ls (hkA ls q.1) (q.2.2.2.2 ++ [hkH ls q.1]) _
   generalize hsR ls (j.1 + 2) = r at g3 ⊢
   cases g3 with
   | fin q => rw [ha] at q; cases q
   | bad _ q => exact absurd he q
   | go _ _ g => exact g
 ·have hr : hsR ls (j.1 + 2) = (hkE ls q.1, hkA ls q.1, q.2.2.2.2) := g3.det (.bad ha he)
  have hne : (hsR ls (j.1 + 2)).1 ≠ 0 := by rw [hr]; exact he
  refine ⟨hkA_le hl, hl2, h.pl, h.lt, ?_, fun c => absurd c he, fun _ => ?_⟩
  ·show j.1 ≤ hkA ls q.1
   have := h.je; omega
  ·rw [g4.det (.b3 g1 g2 hne), hr]; exact ⟨rfl, rfl⟩
theorem hsM_lt {o n : Bs} {l : List Hk} (e : q.2.1 = 0) (ha : atH ls q.1 = true) : hsM ls (hkA ls q.1, hkE ls q.1, o, n, l) < hsM ls q := by
 have hl := atH_lt ha
 unfold hsM
 rw [if_pos e]
 simp only
 split
 ·rename_i h; have := hkA_adv h; omega
 ·omega
theorem HsI.fin (h : HsI ls j q) (e : q.2.1 = 0) (ha : atH ls q.1 = false) : PaI ls (q.1, q.2.1, j.2.2 ++ [⟨q.2.2.1, q.2.2.2.1, q.2.2.2.2⟩]) := by
 obtain ⟨⟨g0, gl⟩, g1, g2, g3, g4⟩ := h.ok e
 have hle := h.le
 have hpl := h.pl
 have hr : hsR ls (j.1 + 2) = (0, q.1, q.2.2.2.2) := g3.det (.fin ha)
 refine ⟨h.le, ?_, fun _ => ⟨?_, ?_⟩, fun c => absurd e c⟩
 ·show (j.2.2 ++ _).length ≤ _
  rw [List.length_append, List.length_singleton]; omega
 ·show (j.2.2 ++ _).length ≤ q.1
  rw [List.length_append, List.length_singleton]; omega
 ·show Pm ls q.1 (j.2.2 ++ _) _
  generalize pmR ls = r at g4 ⊢
  cases g4 with
  | fin q => have := nmP_lt g1; omega
  | b1 _ q => rw [g1] at q; cases q
  | b2 _ q => rw [g2] at q; cases q
  | b3 _ _ q => rw [hr] at q; exact absurd rfl q
  | go q q2 _ g => rw [g1] at q; cases q; rw [g2] at q2; cases q2; rw [hr] at g; exact g
theorem HsI.err (h : HsI ls j q) (e : ¬ q.2.1 = 0) (l : List Pt) (hl : l.length = j.2.2.length + 1) : PaI ls (q.1, q.2.1, l) := by
 have h1 := h.pl
 have h2 := h.lt
 refine ⟨h.le, ?_, fun c => absurd c e, fun _ => h.bad e⟩
 show l.length ≤ _
 omega
theorem paM_lt {l : List Pt} (h : HsI ls j q) (e : j.2.1 = 0) : paM ls (q.1, q.2.1, l) < paM ls j := by
 have h2 := h.lt
 unfold paM
 rw [if_pos e]
 simp only
 split
 ·rename_i c
  have := (h.ok c).1
  omega
 ·omega
theorem PaI.fin (h : PaI ls j) (e : j.2.1 = 0) (hk : ¬ j.1 < ls.length) : pmR ls = (0, j.1, j.2.2) := (h.ok e).2.det (.fin (by omega))
end
section
variable {ls : List Bs} {k : Nat} {x p : Bs}
theorem nmP_o (h : ¬ (k : Int) < ls.length) : nmP ls k p = none := by unfold nmP; rw [if_neg (by rintro ⟨q, -⟩; omega)]
theorem nmP_p (h : ls[0 + k]? = some x) (hp : Lib.hasPrefix x p = false) : nmP ls k p = none := by
 unfold nmP; rw [lnAt_eq h, if_neg (by rintro ⟨-, q, -⟩; rw [hp] at q; cases q)]
theorem tp_drop (hp : Lib.hasPrefix x p = true) : Lib.trimPrefix x p = x.drop p.length := by unfold Lib.trimPrefix; rw [if_pos hp]
theorem nmP_e (h : ls[0 + k]? = some x) (hp : Lib.hasPrefix x p = true) (he : ¬ unE (Lib.trimPrefix x p) = 0) : nmP ls k p = none := by
 rw [tp_drop hp] at he; unfold nmP; rw [lnAt_eq h, if_neg (by rintro ⟨-, -, q⟩; exact he q)]
theorem nmP_y (h : ls[0 + k]? = some x) (hp : Lib.hasPrefix x p = true) (he : unE (Lib.trimPrefix x p) = 0) : nmP ls k p = some (unT (Lib.trimPrefix x p)) := by
 have hk := (List.getElem?_eq_some_iff.1 h).1
 rw [tp_drop hp] at he ⊢; unfold nmP; rw [lnAt_eq h, if_pos ⟨by omega, hp, he⟩]
theorem atH_o (h : ¬ (k : Int) < ls.length) : atH ls k = false := by unfold atH; rw [decide_eq_false (by omega)]; rfl
theorem atH_n (h : ls[0 + k]? = some x) (hp : Lib.hasPrefix x [64, 64] = false) : atH ls k = false := by unfold atH; rw [lnAt_eq h, hp]; simp
theorem atH_y (h : ls[0 + k]? = some x) (hp : Lib.hasPrefix x [64, 64] = true) : atH ls k = true := by
 have hk := (List.getElem?_eq_some_iff.1 h).1
 unfold atH; rw [lnAt_eq h, hp, decide_eq_true (by omega)]; rfl
theorem hkG_eq (he : hkE ls k = 0) : (⟨(hdG (lnAt ls k)).fa, (hdG (lnAt ls k)).la, (hdG (lnAt ls k)).fb, (hdG (lnAt ls k)).lb, hkLn ls k⟩ : Hk) = hkH ls k := by
 have h0 : hdE (lnAt ls k) = 0 := by
  unfold hkE at he; split at he
  ·assumption
  ·exact he
 unfold hkH hkLn; rw [hdG_y h0, if_pos h0]
theorem take0 {α β : Type} {f : α → β} {l : List α} {n : Nat} (h : n = l.length) : ((l.map f).drop 0).take n = l.map f := by
 rw [List.drop_zero, List.take_of_length_le (by rw [List.length_map]; omega)]
end
end Go.Proofs.YtfbpbkcplpkndaaGreatDoor
end
