/- Numbers: decimal forms: what the program and the reference come to. -/
import Derived.Test.YtgjdmlhgapmflaaDoorFt
import Derived.Test.YtgjdmlhgapmflaaDoorNuP
namespace Go.Proofs.YtgjdmlhgapmflaaDoor
set_option linter.unusedVariables false
set_option linter.unusedSimpArgs false
set_option maxRecDepth 100000
theorem body_le (s : Bs) : (numBody s).length ≤ s.length := by
  unfold numBody; split
  · simp
  · exact Nat.le_refl _
theorem body_lt (s : Bs) : (numBody s).length < s.length ↔ negB s = true := by
  unfold numBody
  by_cases h : negB s = true
  · rw [if_pos h]
    cases s with
    | nil => simp [negB] at h
    | cons c r => simp [h]
  · rw [if_neg h]; simp [h]
theorem body_y {s : Bs} {c : UInt8} (h : s[0]? = some c) (hc : (c.toNat : Int) = 45) : s.drop 1 = numBody s := by
  have : c = 45 := u8_of (n := 45) hc (by decide)
  subst this
  rw [numBody, if_pos (by simp [negB, h])]
theorem body_n {s : Bs} {c : UInt8} (h : s[0]? = some c) (hc : ¬ (c.toNat : Int) = 45) : s = numBody s := by
  have : c ≠ 45 := fun e => by subst e; exact hc rfl
  rw [numBody, if_neg (by simp [negB, h, this])]
theorem body_nil : numBody [] = [] := rfl
theorem dig_of {c : UInt8} (h : ¬ (c.toNat : Int) < 48) (h2 : ¬ 57 < (c.toNat : Int)) : dig c := ⟨by omega, by omega⟩
theorem digs_bad {s : Bs} {k : Nat} {c : UInt8} (h : s[k]? = some c) (hc : (c.toNat : Int) < 48 ∨ 57 < (c.toNat : Int)) : false = digsB s := by
  symm; rw [digsB_false]
  rintro ⟨-, -, q⟩
  have := q c (List.mem_of_getElem? h)
  rw [dig_iff] at this; omega
theorem digs_zero {s : Bs} {c : UInt8} (h : s[0]? = some c) (hc : (c.toNat : Int) = 48) (hl : 1 < s.length) : false = digsB s := by
  symm; rw [digsB_false]
  rintro ⟨-, q, -⟩
  have : c = 48 := u8_of (n := 48) hc (by decide)
  subst this
  rcases q with q | q
  · omega
  · exact q h
theorem digs_ok {s : Bs} {k : Nat} (h0 : 0 < s.length) (hz : s.length ≤ 1 ∨ ∀ c, s[0]? = some c → ¬ (c.toNat : Int) = 48) (hk : s.length ≤ k) (h : ∀ c ∈ s.take k, dig c) : true = digsB s := by
  symm; rw [digsB_iff]
  rw [List.take_of_length_le hk] at h
  refine ⟨h0, ?_, h⟩
  rcases hz with hz | hz
  · exact .inl hz
  · exact .inr fun e => hz _ e rfl
theorem pos_of {s : Bs} (h : ¬ s = []) : 0 < s.length := List.length_pos_iff.2 h
theorem join_body {s v : Bs} (h : (∃ (c : UInt8) (v4 : Bs), ¬ s = [] ∧ s[0]? = some c ∧ ((c.toNat : Int) = 45 ∧ v4 = (s.take s.length).drop 1 ∨ ¬ (c.toNat : Int) = 45 ∧ v4 = s) ∧ v = v4) ∨ s = [] ∧ v = s) : v = numBody s := by
  rcases h with ⟨c, v4, h1, h2, h3, rfl⟩ | ⟨rfl, rfl⟩
  · rcases h3 with ⟨h3, rfl⟩ | ⟨h3, rfl⟩
    · rw [List.take_length]; exact body_y h2 h3
    · exact body_n h2 h3
  · rfl
theorem num_step {s : Bs} {k : Nat} {c : UInt8} (hd : digsB (numBody s) = true) (hc : (numBody s)[k]? = some c) : valD ((numBody s).take (k + 1)) = valD ((numBody s).take k) * 10 + (c.toNat - 48) ∧ dig c ∧ valD ((numBody s).take (k + 1)) ≤ valD (numBody s) := by
  refine ⟨by rw [take_succ_get hc, valD_snoc], ?_, valD_take _ _⟩
  rw [digsB_iff] at hd
  exact hd.2.2 c (List.mem_of_getElem? hc)
theorem num_over' {s : Bs} (hd : digsB (numBody s) = true) (hz : ¬ s = [45, 48]) (h : 9223372036854775808 < valD (numBody s)) : 0 = numV s ∧ 9 = numE s := by
  have := num_over (decB_iff.2 ⟨hd, hz⟩) (by unfold InI64 valI; split <;> omega)
  exact ⟨this.1.symm, this.2.symm⟩
theorem num_bad' {s : Bs} (h : ¬ (digsB (numBody s) = true ∧ s ≠ [45, 48])) : 0 = numV s ∧ 1 = numE s := by
  have := num_bad (decB_false.2 h)
  exact ⟨this.1.symm, this.2.symm⟩
theorem num_ok' {s : Bs} (hd : digsB (numBody s) = true) (hz : ¬ s = [45, 48]) {v : Int} (h : v = valI s) (hi : InI64 v) : v = numV s ∧ 0 = numE s := by
  have := num_ok (decB_iff.2 ⟨hd, hz⟩) (h ▸ hi)
  exact ⟨h.trans this.1.symm, this.2.symm⟩
theorem valI_y {s : Bs} (h : (numBody s).length < s.length) : valI s = -(valD (numBody s) : Int) := by rw [valI, if_pos ((body_lt s).1 h)]
theorem valI_n {s : Bs} (h : ¬ (numBody s).length < s.length) : valI s = valD (numBody s) := by rw [valI, if_neg (fun q => h ((body_lt s).2 q))]
theorem lt_of_at {s : Bs} {k : Nat} {c : UInt8} (h : s[k]? = some c) : k < s.length := (get_of h).1
theorem fmt_step {n m : Int} {s : Bs} (hm : ¬ m = 0) (hd : m = 0 ∧ s = Lib.decDigits n.natAbs ∨ m ≠ 0 ∧ (m < 0 ↔ n < 0) ∧ Lib.decDigits n.natAbs = Lib.decDigits m.natAbs ++ s) {c : UInt8} (hc : c.toNat = 48 + m.natAbs % 10) :
    m.tdiv 10 = 0 ∧ c :: s = Lib.decDigits n.natAbs ∨ m.tdiv 10 ≠ 0 ∧ (m.tdiv 10 < 0 ↔ n < 0) ∧ Lib.decDigits n.natAbs = Lib.decDigits (m.tdiv 10).natAbs ++ c :: s := by
  rcases hd with ⟨h, -⟩ | ⟨-, h1, h2⟩
  · exact absurd h hm
  have hq := tdiv_lit m 10 (by decide)
  have hcc : c = UInt8.ofNat (48 + m.natAbs % 10) := by
    apply UInt8.toNat_inj.1; rw [digit_nat (Nat.mod_lt _ (by decide))]; exact hc
  by_cases h10 : m.natAbs < 10
  · left
    refine ⟨by omega, ?_⟩
    rw [h2, dd_small h10, hcc, Nat.mod_eq_of_lt h10]; rfl
  · right
    refine ⟨by omega, by omega, ?_⟩
    rw [h2, dd_big h10, hcc, show (m.tdiv 10).natAbs = m.natAbs / 10 from by omega, List.append_assoc]; rfl
theorem fmt_len {n m : Int} {l : Bs} (hn : InI64 n) (h : m = 0 ∧ l = Lib.decDigits n.natAbs ∨ m ≠ 0 ∧ (m < 0 ↔ n < 0) ∧ Lib.decDigits n.natAbs = Lib.decDigits m.natAbs ++ l) : l.length ≤ 20 := by
  have hl := dd_len hn
  rcases h with ⟨-, rfl⟩ | ⟨-, -, h⟩
  · omega
  · rw [h, List.length_append] at hl; omega
theorem fmt_neg {m : Int} (h : m.tmod 10 < 0) : (toU8 (48 + (0 - m.tmod 10))).toNat = 48 + m.natAbs % 10 := by
  have h1 := toU8_mod (48 + (0 - m.tmod 10))
  have h2 := tdiv_lit m 10 (by decide)
  omega
theorem fmt_pos {m : Int} (h : ¬ m.tmod 10 < 0) : (toU8 (48 + m.tmod 10)).toNat = 48 + m.natAbs % 10 := by
  have h1 := toU8_mod (48 + m.tmod 10)
  have h2 := tdiv_lit m 10 (by decide)
  omega
section
variable {X : CallF}
theorem digits_run (s : Bs) (hs : s.length ≤ maxLen) : (R FT X).f 27 [strL s] = some (boolA (digsB s)) := by
  have hm := maxLen_i64
  refine R_wp (((Tr.b true Tr.nil).w.br ((Tr.y (0 : Nat) fun (c4 : UInt8) ↦ (Tr.nil.br (Tr.inv (fun (k : Nat) ↦ St.mk [((0 : Nat), strL s), ((3 : Nat), intA (↑k : Int))] []) (fun (k : Nat) ↦ k ≤ List.length s ∧ ∀ (c : UInt8), c ∈ List.take k s → dig c) (fun (k : Nat) ↦ List.length s - k) fun (k : Nat) ↦ ((Tr.y k fun (c13 : UInt8) ↦ (Tr.b true Tr.nil).w.br (Tr.y k fun (c17 : UInt8) ↦ (Tr.nil.br Tr.nil.w).w)).w.w.br Tr.nil).w).w).w).br (Tr.b false (Tr.inv (fun (k : Nat) ↦ St.mk [((0 : Nat), strL s), ((3 : Nat), intA (↑k : Int))] []) (fun (k : Nat) ↦ k ≤ List.length s ∧ ∀ (c : UInt8), c ∈ List.take k s → dig c) (fun (k : Nat) ↦ List.length s - k) fun (k : Nat) ↦ ((Tr.y k fun (c31 : UInt8) ↦ (Tr.b true Tr.nil).w.br (Tr.y k fun (c35 : UInt8) ↦ (Tr.nil.br Tr.nil.w).w)).w.w.br Tr.nil).w).w).w)).w) rfl ?_
  refine Eq.mpr (by kernel_rfl : _ = ((decide (s = []) = true → true = true ∧ false = digsB s) ∧ (decide (s = []) = false → (decide ((1 : Int) < (↑(List.length s) : Int)) = true → (0 : Int) = (0 : Int) ∧ (0 : Nat) < List.length s ∧ ∀ (c4 : UInt8), s[(0 : Nat)]? = some c4 → (decide ((↑c4.toNat : Int) = (48 : Int)) = true → false = digsB s) ∧ (decide ((↑c4.toNat : Int) = (48 : Int)) = false → (∃ (j8 : Nat), ((s = s ∧ (0 : Int) = (↑j8 : Int) ∧ True) ∧ True) ∧ j8 ≤ List.length s ∧ ∀ (c9 : UInt8), c9 ∈ List.take j8 s → dig c9) ∧ ∀ (k : Nat), (k ≤ List.length s ∧ ∀ (c : UInt8), c ∈ List.take k s → dig c) → (decide ((↑k : Int) < (↑(List.length s) : Int)) = true → (↑k : Int) = (↑k : Int) ∧ k < List.length s ∧ ∀ (c13 : UInt8), s[k]? = some c13 → (decide ((↑c13.toNat : Int) < (48 : Int)) = true → true = true ∧ false = digsB s) ∧ (decide ((↑c13.toNat : Int) < (48 : Int)) = false → (↑k : Int) = (↑k : Int) ∧ k < List.length s ∧ ∀ (c17 : UInt8), s[k]? = some c17 → (decide ((57 : Int) < (↑c17.toNat : Int)) = true → false = digsB s) ∧ (decide ((57 : Int) < (↑c17.toNat : Int)) = false → InI64 ((↑k : Int) + (1 : Int)) ∧ ∃ (j21 : Nat), ((s = s ∧ (↑k : Int) + (1 : Int) = (↑j21 : Int) ∧ True) ∧ True) ∧ (j21 ≤ List.length s ∧ ∀ (c22 : UInt8), c22 ∈ List.take j21 s → dig c22) ∧ List.length s - j21 < List.length s - k))) ∧ (decide ((↑k : Int) < (↑(List.length s) : Int)) = false → true = digsB s))) ∧ (decide ((1 : Int) < (↑(List.length s) : Int)) = false → false = false ∧ (∃ (j26 : Nat), ((s = s ∧ (0 : Int) = (↑j26 : Int) ∧ True) ∧ True) ∧ j26 ≤ List.length s ∧ ∀ (c27 : UInt8), c27 ∈ List.take j26 s → dig c27) ∧ ∀ (k : Nat), (k ≤ List.length s ∧ ∀ (c : UInt8), c ∈ List.take k s → dig c) → (decide ((↑k : Int) < (↑(List.length s) : Int)) = true → (↑k : Int) = (↑k : Int) ∧ k < List.length s ∧ ∀ (c31 : UInt8), s[k]? = some c31 → (decide ((↑c31.toNat : Int) < (48 : Int)) = true → true = true ∧ false = digsB s) ∧ (decide ((↑c31.toNat : Int) < (48 : Int)) = false → (↑k : Int) = (↑k : Int) ∧ k < List.length s ∧ ∀ (c35 : UInt8), s[k]? = some c35 → (decide ((57 : Int) < (↑c35.toNat : Int)) = true → false = digsB s) ∧ (decide ((57 : Int) < (↑c35.toNat : Int)) = false → InI64 ((↑k : Int) + (1 : Int)) ∧ ∃ (j39 : Nat), ((s = s ∧ (↑k : Int) + (1 : Int) = (↑j39 : Int) ∧ True) ∧ True) ∧ (j39 ≤ List.length s ∧ ∀ (c40 : UInt8), c40 ∈ List.take j39 s → dig c40) ∧ List.length s - j39 < List.length s - k))) ∧ (decide ((↑k : Int) < (↑(List.length s) : Int)) = false → true = digsB s))))) ?_
  refine ⟨fun h1_ => have h1 := dT h1_; ⟨rfl, ?_⟩, fun h2_ => have h2 := dF h2_; ⟨fun h3_ => have h3 := dT h3_; ⟨rfl, (by omega), fun c4 => fun h5 => ⟨fun h6_ => have h6 := dT h6_; ?_, fun h7_ => have h7 := dF h7_; ⟨⟨(0 : Nat), ⟨⟨rfl, (by omega), trivial⟩, trivial⟩, ⟨(by omega), fun c9 => fun h10 => ?_⟩⟩, fun k => fun h11 => have h11a := h11.1; have h11b := h11.2; ⟨fun h12_ => have h12 := dT h12_; ⟨rfl, (by omega), fun c13 => fun h14 => ⟨fun h15_ => have h15 := dT h15_; ⟨rfl, ?_⟩, fun h16_ => have h16 := dF h16_; ⟨rfl, (by omega), fun c17 => fun h18 => ⟨fun h19_ => have h19 := dT h19_; ?_, fun h20_ => have h20 := dF h20_; ⟨(by unfold InI64; omega), ⟨k + (1 : Nat), ⟨⟨rfl, (by omega), trivial⟩, trivial⟩, ⟨⟨(by omega), fun c22 => fun h23 => ?_⟩, (by omega)⟩⟩⟩⟩⟩⟩⟩, fun h24_ => have h24 := dF h24_; ?_⟩⟩⟩⟩, fun h25_ => have h25 := dF h25_; ⟨rfl, ⟨(0 : Nat), ⟨⟨rfl, (by omega), trivial⟩, trivial⟩, ⟨(by omega), fun c27 => fun h28 => ?_⟩⟩, fun k => fun h29 => have h29a := h29.1; have h29b := h29.2; ⟨fun h30_ => have h30 := dT h30_; ⟨rfl, (by omega), fun c31 => fun h32 => ⟨fun h33_ => have h33 := dT h33_; ⟨rfl, ?_⟩, fun h34_ => have h34 := dF h34_; ⟨rfl, (by omega), fun c35 => fun h36 => ⟨fun h37_ => have h37 := dT h37_; ?_, fun h38_ => have h38 := dF h38_; ⟨(by unfold InI64; omega), ⟨k + (1 : Nat), ⟨⟨rfl, (by omega), trivial⟩, trivial⟩, ⟨⟨(by omega), fun c40 => fun h41 => ?_⟩, (by omega)⟩⟩⟩⟩⟩⟩⟩, fun h42_ => have h42 := dF h42_; ?_⟩⟩⟩⟩
  · subst h1; rfl
  · exact digs_zero h5 h6 (by omega)
  · simp at h10
  · exact digs_bad h14 (.inl h15)
  · exact digs_bad h18 (.inr h19)
  · exact all_of h18 h11b (dig_of (by rw [same_at h14 h18]; exact h16) h20) _ h23
  · exact digs_ok (by omega) (.inr fun c hc => same_at h5 hc ▸ h7) (by omega) h11b
  · simp at h28
  · exact digs_bad h32 (.inl h33)
  · exact digs_bad h36 (.inr h37)
  · exact all_of h36 h29b (dig_of (by rw [same_at h32 h36]; exact h34) h38) _ h41
  · exact digs_ok (pos_of h2) (.inl (by omega)) (by omega) h29b
theorem dec_digs {s : Bs} (h : false = digsB (numBody s)) : false = decB s := by rw [decB, ← h]; rfl
theorem decimal_run (s : Bs) (hs : s.length ≤ maxLen) : (R FT X).f 25 [strL s] = some (boolA (decB s)) := by
  have hm := maxLen_i64
  have hb := body_le s
  refine R_wp (Tr.cut (fun (v1 : Cut (1 : Nat) Bs) ↦ St.mk [((0 : Nat), AV.val (Value.string (ofL s))), ((3 : Nat), strL v1)] []) (fun (v1 : Cut (1 : Nat) Bs) ↦ (∃ (c2 : UInt8), ∃ (v4 : Cut (2 : Nat) Bs), ¬s = [] ∧ s[(0 : Nat)]? = some c2 ∧ ((↑c2.toNat : Int) = (45 : Int) ∧ v4 = List.drop (1 : Nat) (List.take (List.length s) s) ∨ ¬(↑c2.toNat : Int) = (45 : Int) ∧ v4 = s) ∧ v1 = v4) ∨ s = [] ∧ v1 = s) ((Tr.y (0 : Nat) fun (c2 : UInt8) ↦ Tr.cut (fun (v4 : Cut (2 : Nat) Bs) ↦ St.mk [((0 : Nat), AV.val (Value.string (ofL s))), ((3 : Nat), strL v4)] []) (fun (v4 : Cut (2 : Nat) Bs) ↦ (↑c2.toNat : Int) = (45 : Int) ∧ v4 = List.drop (1 : Nat) (List.take (List.length s) s) ∨ ¬(↑c2.toNat : Int) = (45 : Int) ∧ v4 = s) ((Tr.sl (1 : Nat) (List.length s) Tr.nil).br Tr.nil) fun (v : Cut (2 : Nat) Bs) ↦ Tr.nil).br (Tr.b false Tr.nil).w) fun (v1 : Cut (1 : Nat) Bs) ↦ Tr.cut (fun (v15 : Cut (4 : Nat) Unit) ↦ St.mk [((3 : Nat), AV.val (Value.string (ofL v1)))] []) (fun (v15 : Cut (4 : Nat) Unit) ↦ (∃ (c17 : UInt8), ¬v1 = [] ∧ v1[(0 : Nat)]? = some c17 ∧ (↑c17.toNat : Int) = (48 : Int) ∧ s = [(48 : UInt8)]) ∨ ∃ (c17 : UInt8), ¬v1 = [] ∧ v1[(0 : Nat)]? = some c17 ∧ ¬(↑c17.toNat : Int) = (48 : Int)) ((Tr.b true Tr.nil).w.br (Tr.y (0 : Nat) fun (c17 : UInt8) ↦ (Tr.nil.br Tr.nil).w.br (Tr.b false Tr.nil).w)) fun (v15 : Cut (4 : Nat) Unit) ↦ (Tr.inv (fun (k : Nat) ↦ St.mk [((3 : Nat), strL (numBody s)), ((27 : Nat), intA (↑(List.length (numBody s)) : Int)), ((28 : Nat), intA (↑k : Int))] []) (fun (k : Nat) ↦ k ≤ List.length (numBody s) ∧ ∀ (c : UInt8), c ∈ List.take k (numBody s) → dig c) (fun (k : Nat) ↦ List.length (numBody s) - k) fun (k : Nat) ↦ (Tr.y k fun (c32 : UInt8) ↦ (Tr.b true Tr.nil).w.br (Tr.y k fun (c36 : UInt8) ↦ (Tr.nil.br Tr.nil.w).w)).w.w.br Tr.nil).w) rfl ?_
  refine Eq.mpr (by kernel_rfl : _ = ((((!decide (s = [])) = true → (0 : Int) = (0 : Int) ∧ (0 : Nat) < List.length s ∧ ∀ (c2 : UInt8), s[(0 : Nat)]? = some c2 → ((decide ((↑c2.toNat : Int) = (45 : Int)) = true → (1 : Int) = (1 : Int) ∧ (↑(List.length s) : Int) = (↑(List.length s) : Int) ∧ (1 : Nat) ≤ List.length s ∧ List.length s ≤ List.length s ∧ ∃ (m2_5 : Cut (2 : Nat) Bs), ((s = s ∧ List.drop (1 : Nat) (List.take (List.length s) s) = m2_5 ∧ True) ∧ True) ∧ ((↑c2.toNat : Int) = (45 : Int) ∧ m2_5 = List.drop (1 : Nat) (List.take (List.length s) s) ∨ ¬(↑c2.toNat : Int) = (45 : Int) ∧ m2_5 = s)) ∧ (decide ((↑c2.toNat : Int) = (45 : Int)) = false → ∃ (m2_7 : Cut (2 : Nat) Bs), ((s = s ∧ s = m2_7 ∧ True) ∧ True) ∧ ((↑c2.toNat : Int) = (45 : Int) ∧ m2_7 = List.drop (1 : Nat) (List.take (List.length s) s) ∨ ¬(↑c2.toNat : Int) = (45 : Int) ∧ m2_7 = s))) ∧ ∀ (v4 : Cut (2 : Nat) Bs), (↑c2.toNat : Int) = (45 : Int) ∧ v4 = List.drop (1 : Nat) (List.take (List.length s) s) ∨ ¬(↑c2.toNat : Int) = (45 : Int) ∧ v4 = s → ∃ (m1_10 : Cut (1 : Nat) Bs), ((s = s ∧ v4 = m1_10 ∧ True) ∧ True) ∧ ((∃ (c2 : UInt8), ∃ (v4 : Cut (2 : Nat) Bs), ¬s = [] ∧ s[(0 : Nat)]? = some c2 ∧ ((↑c2.toNat : Int) = (45 : Int) ∧ v4 = List.drop (1 : Nat) (List.take (List.length s) s) ∨ ¬(↑c2.toNat : Int) = (45 : Int) ∧ v4 = s) ∧ m1_10 = v4) ∨ s = [] ∧ m1_10 = s)) ∧ ((!decide (s = [])) = false → false = false ∧ ∃ (m1_12 : Cut (1 : Nat) Bs), ((s = s ∧ s = m1_12 ∧ True) ∧ True) ∧ ((∃ (c2 : UInt8), ∃ (v4 : Cut (2 : Nat) Bs), ¬s = [] ∧ s[(0 : Nat)]? = some c2 ∧ ((↑c2.toNat : Int) = (45 : Int) ∧ v4 = List.drop (1 : Nat) (List.take (List.length s) s) ∨ ¬(↑c2.toNat : Int) = (45 : Int) ∧ v4 = s) ∧ m1_12 = v4) ∨ s = [] ∧ m1_12 = s))) ∧
  ∀ (v1 : Cut (1 : Nat) Bs), (∃ (c2 : UInt8), ∃ (v4 : Cut (2 : Nat) Bs), ¬s = [] ∧ s[(0 : Nat)]? = some c2 ∧ ((↑c2.toNat : Int) = (45 : Int) ∧ v4 = List.drop (1 : Nat) (List.take (List.length s) s) ∨ ¬(↑c2.toNat : Int) = (45 : Int) ∧ v4 = s) ∧ v1 = v4) ∨ s = [] ∧ v1 = s → ((decide (v1 = []) = true → true = true ∧ false = decB s) ∧ (decide (v1 = []) = false → (0 : Int) = (0 : Int) ∧ (0 : Nat) < List.length v1 ∧ ∀ (c17 : UInt8), v1[(0 : Nat)]? = some c17 → (decide ((↑c17.toNat : Int) = (48 : Int)) = true → ((!decide (s = [(48 : UInt8)])) = true → false = decB s) ∧ ((!decide (s = [(48 : UInt8)])) = false → ∃ (m4_22 : Cut (4 : Nat) Unit), ((v1 = v1 ∧ True) ∧ True) ∧ ((∃ (c17 : UInt8), ¬v1 = [] ∧ v1[(0 : Nat)]? = some c17 ∧ (↑c17.toNat : Int) = (48 : Int) ∧ s = [(48 : UInt8)]) ∨ ∃ (c17 : UInt8), ¬v1 = [] ∧ v1[(0 : Nat)]? = some c17 ∧ ¬(↑c17.toNat : Int) = (48 : Int)))) ∧ (decide ((↑c17.toNat : Int) = (48 : Int)) = false → false = false ∧ ∃ (m4_24 : Cut (4 : Nat) Unit), ((v1 = v1 ∧ True) ∧ True) ∧ ((∃ (c17 : UInt8), ¬v1 = [] ∧ v1[(0 : Nat)]? = some c17 ∧ (↑c17.toNat : Int) = (48 : Int) ∧ s = [(48 : UInt8)]) ∨ ∃ (c17 : UInt8), ¬v1 = [] ∧ v1[(0 : Nat)]? = some c17 ∧ ¬(↑c17.toNat : Int) = (48 : Int))))) ∧ ∀ (v15 : Cut (4 : Nat) Unit), ((∃ (c17 : UInt8), ¬v1 = [] ∧ v1[(0 : Nat)]? = some c17 ∧ (↑c17.toNat : Int) = (48 : Int) ∧ s = [(48 : UInt8)]) ∨ ∃ (c17 : UInt8), ¬v1 = [] ∧ v1[(0 : Nat)]? = some c17 ∧ ¬(↑c17.toNat : Int) = (48 : Int)) → (∃ (j27 : Nat), ((v1 = numBody s ∧ (↑(List.length v1) : Int) = (↑(List.length (numBody s)) : Int) ∧ (0 : Int) = (↑j27 : Int) ∧ True) ∧ True) ∧ j27 ≤ List.length (numBody s) ∧ ∀ (c28 : UInt8), c28 ∈ List.take j27 (numBody s) → dig c28) ∧ ∀ (k : Nat), (k ≤ List.length (numBody s) ∧ ∀ (c : UInt8), c ∈ List.take k (numBody s) → dig c) → (decide ((↑k : Int) < (↑(List.length (numBody s)) : Int)) = true → (↑k : Int) = (↑k : Int) ∧ k < List.length (numBody s) ∧ ∀ (c32 : UInt8), (numBody s)[k]? = some c32 → (decide ((↑c32.toNat : Int) < (48 : Int)) = true → true = true ∧ false = decB s) ∧ (decide ((↑c32.toNat : Int) < (48 : Int)) = false → (↑k : Int) = (↑k : Int) ∧ k < List.length (numBody s) ∧ ∀ (c36 : UInt8), (numBody s)[k]? = some c36 → (decide ((57 : Int) < (↑c36.toNat : Int)) = true → false = decB s) ∧ (decide ((57 : Int) < (↑c36.toNat : Int)) = false → InI64 ((↑k : Int) + (1 : Int)) ∧ ∃ (j40 : Nat), ((numBody s = numBody s ∧ (↑(List.length (numBody s)) : Int) = (↑(List.length (numBody s)) : Int) ∧ (↑k : Int) + (1 : Int) = (↑j40 : Int) ∧ True) ∧ True) ∧ (j40 ≤ List.length (numBody s) ∧ ∀ (c41 : UInt8), c41 ∈ List.take j40 (numBody s) → dig c41) ∧ List.length (numBody s) - j40 < List.length (numBody s) - k))) ∧ (decide ((↑k : Int) < (↑(List.length (numBody s)) : Int)) = false → true = decB s))) ?_
  refine ⟨⟨fun h1_ => have h1 := dnT h1_; ⟨rfl, ?_, fun c2 => fun h3 => ⟨⟨fun h4_ => have h4 := dT h4_; ⟨rfl, rfl, ?_, (by omega), ⟨List.drop (1 : Nat) (List.take (List.length s) s), ⟨⟨(by first | rfl | simp), ⟨(by first | rfl | simp), trivial⟩⟩, trivial⟩, Or.inl (⟨h4, rfl⟩)⟩⟩, fun h6_ => have h6 := dF h6_; ⟨s, ⟨⟨(by first | rfl | simp), ⟨(by first | rfl | simp), trivial⟩⟩, trivial⟩, Or.inr (⟨h6, rfl⟩)⟩⟩, fun v4 => fun h9 => ⟨v4, ⟨⟨(by first | rfl | simp), ⟨(by first | rfl | simp), trivial⟩⟩, trivial⟩, Or.inl (⟨c2, v4, h1, h3, h9, rfl⟩)⟩⟩⟩, fun h11_ => have h11 := dnF h11_; ⟨rfl, ⟨s, ⟨⟨(by first | rfl | simp), ⟨(by first | rfl | simp), trivial⟩⟩, trivial⟩, Or.inr (⟨h11, rfl⟩)⟩⟩⟩, fun v1 => fun h14 => ⟨⟨fun h15_ => have h15 := dT h15_; ⟨rfl, ?_⟩, fun h16_ => have h16 := dF h16_; ⟨rfl, ?_, fun c17 => fun h18 => ⟨fun h19_ => have h19 := dT h19_; ⟨fun h20_ => have h20 := dnT h20_; ?_, fun h21_ => have h21 := dnF h21_; ⟨(), ⟨⟨(by first | rfl | simp), trivial⟩, trivial⟩, Or.inl (⟨c17, h16, h18, h19, h21⟩)⟩⟩, fun h23_ => have h23 := dF h23_; ⟨rfl, ⟨(), ⟨⟨(by first | rfl | simp), trivial⟩, trivial⟩, Or.inr (⟨c17, h16, h18, h23⟩)⟩⟩⟩⟩⟩, fun v15 => fun h26 => ⟨⟨(0 : Nat), ⟨⟨?_, ?_, (by omega), trivial⟩, trivial⟩, ⟨(by omega), fun c28 => fun h29 => ?_⟩⟩, fun k => fun h30 => have h30a := h30.1; have h30b := h30.2; ⟨fun h31_ => have h31 := dT h31_; ⟨rfl, (by omega), fun c32 => fun h33 => ⟨fun h34_ => have h34 := dT h34_; ⟨rfl, ?_⟩, fun h35_ => have h35 := dF h35_; ⟨rfl, (by omega), fun c36 => fun h37 => ⟨fun h38_ => have h38 := dT h38_; ?_, fun h39_ => have h39 := dF h39_; ⟨(by unfold InI64; omega), ⟨k + (1 : Nat), ⟨⟨rfl, rfl, (by omega), trivial⟩, trivial⟩, ⟨⟨(by omega), fun c41 => fun h42 => ?_⟩, (by omega)⟩⟩⟩⟩⟩⟩⟩, fun h43_ => have h43 := dF h43_; ?_⟩⟩⟩⟩
  · exact pos_of h1
  · exact lt_of_at h3
  · obtain rfl := join_body h14
    exact dec_digs (by rw [h15]; rfl)
  · exact pos_of h16
  all_goals (try obtain rfl := join_body h14)
  · symm; rw [decB_false]
    rintro ⟨q1, q2⟩
    rw [digsB_iff] at q1
    have h48 : c17 = 48 := u8_of (n := 48) h19 (by decide)
    subst h48
    have h1 : (numBody s).length = 1 := by
      have := lt_of_at h18
      rcases q1.2.1 with q | q
      · omega
      · exact absurd h18 q
    have h2 : numBody s = [48] := by
      match hb : numBody s, h1 with
      | [x], _ => rw [hb] at h18; simp at h18; rw [h18]
    by_cases hn : negB s = true
    · apply q2
      cases s with
      | nil => simp [negB] at hn
      | cons c r =>
        simp [negB] at hn
        subst hn
        rw [numBody, if_pos (by simp [negB])] at h2
        simp at h2; rw [h2]
    · rw [numBody, if_neg hn] at h2; exact h20 h2
  · rfl
  · rfl
  · simp at h29
  · exact dec_digs (digs_bad h33 (.inl h34))
  · exact dec_digs (digs_bad h37 (.inr h38))
  · exact all_of h37 h30b (dig_of (by rw [same_at h33 h37]; exact h35) h39) _ h42
  · rcases h26 with ⟨c, q1, q2, q3, rfl⟩ | ⟨c, q1, q2, q3⟩
    · rfl
    · symm; rw [decB_iff]
      refine ⟨(digs_ok (pos_of q1) (.inr fun x hx => by rw [same_at q2 hx]; exact q3) (by omega) h30b).symm, fun e => ?_⟩
      subst e
      cases q2
      exact q3 rfl
theorem refParse_run (s : Bs) (hs : s.length ≤ 300) : (R FT X).f 12 [strL s] = some (.tuple [intA (numV s), intA (numE s)]) := by
  have hm := maxLen_le
  have hb := body_le s
  refine R_wp (Tr.cut (fun (v1 : Cut (1 : Nat) Bs) ↦ St.mk [((0 : Nat), AV.val (Value.string (ofL s))), ((4 : Nat), strL v1)] []) (fun (v1 : Cut (1 : Nat) Bs) ↦ (∃ (c2 : UInt8), ∃ (v4 : Cut (2 : Nat) Bs), ¬s = [] ∧ s[(0 : Nat)]? = some c2 ∧ ((↑c2.toNat : Int) = (45 : Int) ∧ v4 = List.drop (1 : Nat) (List.take (List.length s) s) ∨ ¬(↑c2.toNat : Int) = (45 : Int) ∧ v4 = s) ∧ v1 = v4) ∨ s = [] ∧ v1 = s) ((Tr.y (0 : Nat) fun (c2 : UInt8) ↦ Tr.cut (fun (v4 : Cut (2 : Nat) Bs) ↦ St.mk [((0 : Nat), AV.val (Value.string (ofL s))), ((4 : Nat), strL v4)] []) (fun (v4 : Cut (2 : Nat) Bs) ↦ (↑c2.toNat : Int) = (45 : Int) ∧ v4 = List.drop (1 : Nat) (List.take (List.length s) s) ∨ ¬(↑c2.toNat : Int) = (45 : Int) ∧ v4 = s) ((Tr.sl (1 : Nat) (List.length s) Tr.nil).br Tr.nil) fun (v : Cut (2 : Nat) Bs) ↦ Tr.nil).br (Tr.b false Tr.nil).w) fun (v1 : Cut (1 : Nat) Bs) ↦ (Tr.c (boolA (digsB v1)) ((Tr.b true Tr.nil).w.br (Tr.nil.br (Tr.inv (fun (k : Nat) ↦ St.mk [((0 : Nat), strL s), ((4 : Nat), strL (numBody s)), ((5 : Nat), intA (-(↑(valD (List.take k (numBody s))) : Int))), ((6 : Nat), intA (↑k : Int))] []) (fun (k : Nat) ↦ k ≤ List.length (numBody s) ∧ valD (List.take k (numBody s)) ≤ (9223372036854775808 : Nat)) (fun (k : Nat) ↦ List.length (numBody s) - k) fun (k : Nat) ↦ ((Tr.y k fun (c22 : UInt8) ↦ (Tr.nil.br Tr.nil.w.w.w).w.w.w.w.w).w.br (Tr.nil.br (Tr.nil.br Tr.nil.w).w.w).w.w).w).w).w)).w) rfl ?_
  refine Eq.mpr (by kernel_rfl : _ = ((((!decide (s = [])) = true → (0 : Int) = (0 : Int) ∧ (0 : Nat) < List.length s ∧ ∀ (c2 : UInt8), s[(0 : Nat)]? = some c2 → ((decide ((↑c2.toNat : Int) = (45 : Int)) = true → (1 : Int) = (1 : Int) ∧ (↑(List.length s) : Int) = (↑(List.length s) : Int) ∧ (1 : Nat) ≤ List.length s ∧ List.length s ≤ List.length s ∧ ∃ (m2_5 : Cut (2 : Nat) Bs), ((s = s ∧ List.drop (1 : Nat) (List.take (List.length s) s) = m2_5 ∧ True) ∧ True) ∧ ((↑c2.toNat : Int) = (45 : Int) ∧ m2_5 = List.drop (1 : Nat) (List.take (List.length s) s) ∨ ¬(↑c2.toNat : Int) = (45 : Int) ∧ m2_5 = s)) ∧ (decide ((↑c2.toNat : Int) = (45 : Int)) = false → ∃ (m2_7 : Cut (2 : Nat) Bs), ((s = s ∧ s = m2_7 ∧ True) ∧ True) ∧ ((↑c2.toNat : Int) = (45 : Int) ∧ m2_7 = List.drop (1 : Nat) (List.take (List.length s) s) ∨ ¬(↑c2.toNat : Int) = (45 : Int) ∧ m2_7 = s))) ∧ ∀ (v4 : Cut (2 : Nat) Bs), (↑c2.toNat : Int) = (45 : Int) ∧ v4 = List.drop (1 : Nat) (List.take (List.length s) s) ∨ ¬(↑c2.toNat : Int) = (45 : Int) ∧ v4 = s → ∃ (m1_10 : Cut (1 : Nat) Bs), ((s = s ∧ v4 = m1_10 ∧ True) ∧ True) ∧ ((∃ (c2 : UInt8), ∃ (v4 : Cut (2 : Nat) Bs), ¬s = [] ∧ s[(0 : Nat)]? = some c2 ∧ ((↑c2.toNat : Int) = (45 : Int) ∧ v4 = List.drop (1 : Nat) (List.take (List.length s) s) ∨ ¬(↑c2.toNat : Int) = (45 : Int) ∧ v4 = s) ∧ m1_10 = v4) ∨ s = [] ∧ m1_10 = s)) ∧ ((!decide (s = [])) = false → false = false ∧ ∃ (m1_12 : Cut (1 : Nat) Bs), ((s = s ∧ s = m1_12 ∧ True) ∧ True) ∧ ((∃ (c2 : UInt8), ∃ (v4 : Cut (2 : Nat) Bs), ¬s = [] ∧ s[(0 : Nat)]? = some c2 ∧ ((↑c2.toNat : Int) = (45 : Int) ∧ v4 = List.drop (1 : Nat) (List.take (List.length s) s) ∨ ¬(↑c2.toNat : Int) = (45 : Int) ∧ v4 = s) ∧ m1_12 = v4) ∨ s = [] ∧ m1_12 = s))) ∧
  ∀ (v1 : Cut (1 : Nat) Bs),
    (∃ (c2 : UInt8), ∃ (v4 : Cut (2 : Nat) Bs), ¬s = [] ∧ s[(0 : Nat)]? = some c2 ∧ ((↑c2.toNat : Int) = (45 : Int) ∧ v4 = List.drop (1 : Nat) (List.take (List.length s) s) ∨ ¬(↑c2.toNat : Int) = (45 : Int) ∧ v4 = s) ∧ v1 = v4) ∨ s = [] ∧ v1 = s →
      (R FT X).f (27 : FuncId) [AV.val (Value.string (ofL v1))] = some (boolA (digsB v1)) ∧ ((!digsB v1) = true → true = true ∧ (0 : Int) = numV s ∧ (1 : Int) = numE s) ∧ ((!digsB v1) = false → (decide (s = [(45 : UInt8), (48 : UInt8)]) = true → (0 : Int) = numV s ∧ (1 : Int) = numE s) ∧ (decide (s = [(45 : UInt8), (48 : UInt8)]) = false → (∃ (j19 : Nat), ((s = s ∧ v1 = numBody s ∧ (0 : Int) = -(↑(valD (List.take j19 (numBody s))) : Int) ∧ (0 : Int) = (↑j19 : Int) ∧ True) ∧ True) ∧ j19 ≤ List.length (numBody s) ∧ valD (List.take j19 (numBody s)) ≤ (9223372036854775808 : Nat)) ∧ ∀ (k : Nat), k ≤ List.length (numBody s) ∧ valD (List.take k (numBody s)) ≤ (9223372036854775808 : Nat) → (decide ((↑k : Int) < (↑(List.length (numBody s)) : Int)) = true → (↑k : Int) = (↑k : Int) ∧ k < List.length (numBody s) ∧ ∀ (c22 : UInt8), (numBody s)[k]? = some c22 → InI64 (↑(toU8 ((↑c22.toNat : Int) - (48 : Int))).toNat : Int) ∧ InI64 ((-9223372036854775808 : Int) + (↑(toU8 ((↑c22.toNat : Int) - (48 : Int))).toNat : Int)) ∧ (10 : Int) ≠ (0 : Int) ∧ InI64 (((-9223372036854775808 : Int) + (↑(toU8 ((↑c22.toNat : Int) - (48 : Int))).toNat : Int)).tdiv (10 : Int)) ∧ IntKind.i64 = IntKind.i64 ∧ (decide (-(↑(valD (List.take k (numBody s))) : Int) < ((-9223372036854775808 : Int) + (↑(toU8 ((↑c22.toNat : Int) - (48 : Int))).toNat : Int)).tdiv (10 : Int)) = true → (0 : Int) = numV s ∧ (9 : Int) = numE s) ∧ (decide (-(↑(valD (List.take k (numBody s))) : Int) < ((-9223372036854775808 : Int) + (↑(toU8 ((↑c22.toNat : Int) - (48 : Int))).toNat : Int)).tdiv (10 : Int)) = false → InI64 ((10 : Int) * -(↑(valD (List.take k (numBody s))) : Int)) ∧ InI64 ((10 : Int) * -(↑(valD (List.take k (numBody s))) : Int) - (↑(toU8 ((↑c22.toNat : Int) - (48 : Int))).toNat : Int)) ∧ InI64 ((↑k : Int) + (1 : Int)) ∧ ∃ (j26 : Nat), ((s = s ∧ numBody s = numBody s ∧ (10 : Int) * -(↑(valD (List.take k (numBody s))) : Int) - (↑(toU8 ((↑c22.toNat : Int) - (48 : Int))).toNat : Int) = -(↑(valD (List.take j26 (numBody s))) : Int) ∧ (↑k : Int) + (1 : Int) = (↑j26 : Int) ∧ True) ∧ True) ∧ (j26 ≤ List.length (numBody s) ∧ valD (List.take j26 (numBody s)) ≤ (9223372036854775808 : Nat)) ∧ List.length (numBody s) - j26 < List.length (numBody s) - k)) ∧ (decide ((↑k : Int) < (↑(List.length (numBody s)) : Int)) = false → (decide ((↑(List.length (numBody s)) : Int) < (↑(List.length s) : Int)) = true → -(↑(valD (List.take k (numBody s))) : Int) = numV s ∧ (0 : Int) = numE s) ∧ (decide ((↑(List.length (numBody s)) : Int) < (↑(List.length s) : Int)) = false → (decide (-(↑(valD (List.take k (numBody s))) : Int) = (-9223372036854775808 : Int)) = true → (0 : Int) = numV s ∧ (9 : Int) = numE s) ∧ (decide (-(↑(valD (List.take k (numBody s))) : Int) = (-9223372036854775808 : Int)) = false → InI64 ((0 : Int) - -(↑(valD (List.take k (numBody s))) : Int)) ∧ (0 : Int) - -(↑(valD (List.take k (numBody s))) : Int) = numV s ∧ (0 : Int) = numE s))))))) ?_
  refine ⟨⟨fun h1_ => have h1 := dnT h1_; ⟨rfl, ?_, fun c2 => fun h3 => ⟨⟨fun h4_ => have h4 := dT h4_; ⟨rfl, rfl, ?_, (by omega), ⟨List.drop (1 : Nat) (List.take (List.length s) s), ⟨⟨(by first | rfl | simp), ⟨(by first | rfl | simp), trivial⟩⟩, trivial⟩, Or.inl (⟨h4, rfl⟩)⟩⟩, fun h6_ => have h6 := dF h6_; ⟨s, ⟨⟨(by first | rfl | simp), ⟨(by first | rfl | simp), trivial⟩⟩, trivial⟩, Or.inr (⟨h6, rfl⟩)⟩⟩, fun v4 => fun h9 => ⟨v4, ⟨⟨(by first | rfl | simp), ⟨(by first | rfl | simp), trivial⟩⟩, trivial⟩, Or.inl (⟨c2, v4, h1, h3, h9, rfl⟩)⟩⟩⟩, fun h11_ => have h11 := dnF h11_; ⟨rfl, ⟨s, ⟨⟨(by first | rfl | simp), ⟨(by first | rfl | simp), trivial⟩⟩, trivial⟩, Or.inr (⟨h11, rfl⟩)⟩⟩⟩, fun v1 => fun h14 => ⟨(digits_run _ ?_), fun h15_ => have h15 := nT h15_; ⟨rfl, ?_, ?_⟩, fun h16_ => have h16 := nF h16_; ⟨fun h17_ => have h17 := dT h17_; ⟨?_, ?_⟩, fun h18_ => have h18 := dF h18_; ⟨⟨(0 : Nat), ⟨⟨rfl, ?_, rfl, (by omega), trivial⟩, trivial⟩, ⟨(by omega), ?_⟩⟩, fun k => fun h20 => have h20a := h20.1; have h20b := h20.2; ⟨fun h21_ => have h21 := dT h21_; ⟨rfl, (by omega), fun c22 => fun h23 => ⟨(by have := u8_lt c22; have := toU8_mod ((↑c22.toNat : Int) - (48 : Int)); unfold InI64; omega), (by have := u8_lt c22; have := toU8_mod ((↑c22.toNat : Int) - (48 : Int)); unfold InI64; omega), (by omega), (by have := u8_lt c22; have := toU8_mod ((↑c22.toNat : Int) - (48 : Int)); have := tdiv_lit ((-9223372036854775808 : Int) + (↑(toU8 ((↑c22.toNat : Int) - (48 : Int))).toNat : Int)) 10 (by decide); unfold InI64; omega), rfl, fun h24_ => have h24 := dT h24_; ⟨?_, ?_⟩, fun h25_ => have h25 := dF h25_; ⟨(by have := u8_lt c22; have := toU8_mod ((↑c22.toNat : Int) - (48 : Int)); have := tdiv_lit ((-9223372036854775808 : Int) + (↑(toU8 ((↑c22.toNat : Int) - (48 : Int))).toNat : Int)) 10 (by decide); unfold InI64; omega), (by have := u8_lt c22; have := tdiv_lit ((-9223372036854775808 : Int) + (↑(toU8 ((↑c22.toNat : Int) - (48 : Int))).toNat : Int)) 10 (by decide); have := toU8_mod ((↑c22.toNat : Int) - (48 : Int)); unfold InI64; omega), (by unfold InI64; omega), ⟨k + (1 : Nat), ⟨⟨rfl, rfl, ?_, (by omega), trivial⟩, trivial⟩, ⟨⟨(by omega), ?_⟩, (by omega)⟩⟩⟩⟩⟩, fun h27_ => have h27 := dF h27_; ⟨fun h28_ => have h28 := dT h28_; ⟨?_, ?_⟩, fun h29_ => have h29 := dF h29_; ⟨fun h30_ => have h30 := dT h30_; ⟨?_, ?_⟩, fun h31_ => have h31 := dF h31_; ⟨(by unfold InI64; omega), ?_, ?_⟩⟩⟩⟩⟩⟩⟩⟩
  · exact pos_of h1
  · exact lt_of_at h3
  all_goals (try obtain rfl := join_body h14)
  · omega
  iterate 2 · first | exact (num_bad' (fun q => by rw [q.1] at h15; cases h15)).1 | exact (num_bad' (fun q => by rw [q.1] at h15; cases h15)).2
  iterate 2 · first | exact (num_bad' (fun q => q.2 h17)).1 | exact (num_bad' (fun q => q.2 h17)).2
  · rfl
  · simp [valD, valF]
  iterate 2
    · obtain ⟨q1, q2, q3⟩ := num_step h16 h23
      have q4 := toU8_mod (↑c22.toNat - 48)
      have q5 := tdiv_lit (-9223372036854775808 + ↑(toU8 (↑c22.toNat - 48)).toNat) 10 (by decide)
      have := num_over' h16 h18 (by rw [dig_iff] at q2; omega)
      first | exact this.1 | exact this.2
  · obtain ⟨q1, q2, q3⟩ := num_step h16 h23
    have q4 := toU8_mod (↑c22.toNat - 48)
    rw [q1]
    rw [dig_iff] at q2; omega
  · obtain ⟨q1, q2, q3⟩ := num_step h16 h23
    have q4 := toU8_mod (↑c22.toNat - 48)
    have q5 := tdiv_lit (-9223372036854775808 + ↑(toU8 (↑c22.toNat - 48)).toNat) 10 (by decide)
    rw [q1]
    rw [dig_iff] at q2; omega
  all_goals
    rw [List.take_of_length_le (by omega)] at h20b
    try rw [List.take_of_length_le (by omega)] at h30
    try rw [List.take_of_length_le (by omega)] at h31
    try rw [List.take_of_length_le (by omega)]
  iterate 2
    · have := num_ok' h16 h18 (valI_y (by omega)).symm (by unfold InI64; omega)
      first | exact this.1 | exact this.2
  iterate 2
    · have := num_over (decB_iff.2 ⟨h16, h18⟩) (by rw [valI_n (by omega)]; unfold InI64; omega)
      first | exact this.1.symm | exact this.2.symm
  iterate 2
    · have := num_ok' h16 h18 (v := 0 - -(valD (numBody s) : Int)) (by rw [valI_n (by omega)]; omega) (by unfold InI64; omega)
      first | exact this.1 | exact this.2
theorem refFormat_run (n : Int) (hn : InI64 n) : (R FT X).f 14 [intA n] = some (strL (Lib.itoa n)) := by
  unfold InI64 at hn
  refine R_wp ((Tr.nil.br (Tr.inv (fun (k : Bs × Int) ↦ St.mk [((0 : Nat), intA n), ((3 : Nat), strL k.fst), ((4 : Nat), intA k.snd)] []) (fun (k : Bs × Int) ↦ List.length k.fst ≤ (20 : Nat) ∧ ((-9223372036854775808 : Int) ≤ k.snd ∧ k.snd ≤ (9223372036854775807 : Int)) ∧ k.snd.natAbs ≤ n.natAbs ∧ (k.snd = (0 : Int) ∧ k.fst = Lib.decDigits n.natAbs ∨ k.snd ≠ (0 : Int) ∧ (k.snd < (0 : Int) ↔ n < (0 : Int)) ∧ Lib.decDigits n.natAbs = Lib.decDigits k.snd.natAbs ++ k.fst)) (fun (k : Bs × Int) ↦ k.snd.natAbs) fun (k : Bs × Int) ↦ (((Tr.bs [toU8 ((48 : Int) + ((0 : Int) - k.snd.tmod (10 : Int)))] Tr.nil.w.w).w.w.br (Tr.bs [toU8 ((48 : Int) + k.snd.tmod (10 : Int))] Tr.nil.w.w).w).w.w.w.w.br (Tr.nil.w.br Tr.nil).w.w).w).w).w.w) rfl ?_
  refine Eq.mpr (by kernel_rfl : _ = ((decide (n = (0 : Int)) = true → [(48 : UInt8)] = Lib.itoa n) ∧
  (decide (n = (0 : Int)) = false →
    (∃ (j3 : Bs × Int), ((n = n ∧ [] = j3.fst ∧ n = j3.snd ∧ True) ∧ True) ∧ List.length j3.fst ≤ (20 : Nat) ∧ ((-9223372036854775808 : Int) ≤ j3.snd ∧ j3.snd ≤ (9223372036854775807 : Int)) ∧ j3.snd.natAbs ≤ n.natAbs ∧ (j3.snd = (0 : Int) ∧ j3.fst = Lib.decDigits n.natAbs ∨ j3.snd ≠ (0 : Int) ∧ (j3.snd < (0 : Int) ↔ n < (0 : Int)) ∧ Lib.decDigits n.natAbs = Lib.decDigits j3.snd.natAbs ++ j3.fst)) ∧
      ∀ (k : Bs × Int), List.length k.fst ≤ (20 : Nat) ∧ ((-9223372036854775808 : Int) ≤ k.snd ∧ k.snd ≤ (9223372036854775807 : Int)) ∧ k.snd.natAbs ≤ n.natAbs ∧ (k.snd = (0 : Int) ∧ k.fst = Lib.decDigits n.natAbs ∨ k.snd ≠ (0 : Int) ∧ (k.snd < (0 : Int) ↔ n < (0 : Int)) ∧ Lib.decDigits n.natAbs = Lib.decDigits k.snd.natAbs ++ k.fst) → ((!decide (k.snd = (0 : Int))) = true → (10 : Int) ≠ (0 : Int) ∧ (decide (k.snd.tmod (10 : Int) < (0 : Int)) = true → InI64 ((0 : Int) - k.snd.tmod (10 : Int)) ∧ InI64 ((48 : Int) + ((0 : Int) - k.snd.tmod (10 : Int))) ∧ (1 : Nat) = (1 : Nat) ∧ some [UInt8.ofNat (↑(toU8 ((48 : Int) + ((0 : Int) - k.snd.tmod (10 : Int)))).toNat : Int).toNat] = some [toU8 ((48 : Int) + ((0 : Int) - k.snd.tmod (10 : Int)))] ∧ [toU8 ((48 : Int) + ((0 : Int) - k.snd.tmod (10 : Int)))].length + List.length k.fst ≤ (9223372036854775807 : Nat) ∧ (10 : Int) ≠ (0 : Int) ∧ InI64 (k.snd.tdiv (10 : Int)) ∧ IntKind.i64 = IntKind.i64 ∧ ∃ (j7 : Bs × Int), ((n = n ∧ toU8 ((48 : Int) + ((0 : Int) - k.snd.tmod (10 : Int))) :: List.append._f [] PUnit.unit k.fst = j7.fst ∧ k.snd.tdiv (10 : Int) = j7.snd ∧ True) ∧ True) ∧ (List.length j7.fst ≤ (20 : Nat) ∧ ((-9223372036854775808 : Int) ≤ j7.snd ∧ j7.snd ≤ (9223372036854775807 : Int)) ∧ j7.snd.natAbs ≤ n.natAbs ∧ (j7.snd = (0 : Int) ∧ j7.fst = Lib.decDigits n.natAbs ∨ j7.snd ≠ (0 : Int) ∧ (j7.snd < (0 : Int) ↔ n < (0 : Int)) ∧ Lib.decDigits n.natAbs = Lib.decDigits j7.snd.natAbs ++ j7.fst)) ∧ j7.snd.natAbs < k.snd.natAbs) ∧ (decide (k.snd.tmod (10 : Int) < (0 : Int)) = false → InI64 ((48 : Int) + k.snd.tmod (10 : Int)) ∧ (1 : Nat) = (1 : Nat) ∧ some [UInt8.ofNat (↑(toU8 ((48 : Int) + k.snd.tmod (10 : Int))).toNat : Int).toNat] = some [toU8 ((48 : Int) + k.snd.tmod (10 : Int))] ∧ [toU8 ((48 : Int) + k.snd.tmod (10 : Int))].length + List.length k.fst ≤ (9223372036854775807 : Nat) ∧ (10 : Int) ≠ (0 : Int) ∧ InI64 (k.snd.tdiv (10 : Int)) ∧ IntKind.i64 = IntKind.i64 ∧ ∃ (j9 : Bs × Int), ((n = n ∧ toU8 ((48 : Int) + k.snd.tmod (10 : Int)) :: List.append._f [] PUnit.unit k.fst = j9.fst ∧ k.snd.tdiv (10 : Int) = j9.snd ∧ True) ∧ True) ∧ (List.length j9.fst ≤ (20 : Nat) ∧ ((-9223372036854775808 : Int) ≤ j9.snd ∧ j9.snd ≤ (9223372036854775807 : Int)) ∧ j9.snd.natAbs ≤ n.natAbs ∧ (j9.snd = (0 : Int) ∧ j9.fst = Lib.decDigits n.natAbs ∨ j9.snd ≠ (0 : Int) ∧ (j9.snd < (0 : Int) ↔ n < (0 : Int)) ∧ Lib.decDigits n.natAbs = Lib.decDigits j9.snd.natAbs ++ j9.fst)) ∧ j9.snd.natAbs < k.snd.natAbs)) ∧ ((!decide (k.snd = (0 : Int))) = false → (decide (n < (0 : Int)) = true → [(45 : UInt8)].length + List.length k.fst ≤ (9223372036854775807 : Nat) ∧ (45 : UInt8) :: List.append._f [] PUnit.unit k.fst = Lib.itoa n) ∧ (decide (n < (0 : Int)) = false → k.fst = Lib.itoa n))))) ?_
  refine ⟨fun h1_ => have h1 := dT h1_; ?_, fun h2_ => have h2 := dF h2_; ⟨⟨([], n), ⟨⟨rfl, rfl, rfl, trivial⟩, trivial⟩, ⟨(by simp), ⟨(by omega), (by omega)⟩, (by omega), ?_⟩⟩, fun k => fun h4 => have h4a := h4.1; have h4b := h4.2.1; have h4c := h4.2.2.1; have h4d := h4.2.2.2; ⟨fun h5_ => have h5 := dnT h5_; ⟨(by omega), fun h6_ => have h6 := dT h6_; ⟨(by have := tdiv_lit (k.snd) 10 (by decide); unfold InI64; omega), (by have := tdiv_lit (k.snd) 10 (by decide); unfold InI64; omega), rfl, (by simp), (by simp; omega), (by omega), (by have := tdiv_lit (k.snd) 10 (by decide); unfold InI64; omega), rfl, ⟨(toU8 ((48 : Int) + ((0 : Int) - k.snd.tmod (10 : Int))) :: List.append._f [] PUnit.unit k.fst, k.snd.tdiv (10 : Int)), ⟨⟨rfl, rfl, rfl, trivial⟩, trivial⟩, ⟨⟨?_, ⟨(by have := tdiv_lit (k.snd) 10 (by decide); omega), (by have := tdiv_lit (k.snd) 10 (by decide); omega)⟩, (by have := tdiv_lit (k.snd) 10 (by decide); omega), ?_⟩, (by have := tdiv_lit (k.snd) 10 (by decide); omega)⟩⟩⟩, fun h8_ => have h8 := dF h8_; ⟨(by have := tdiv_lit (k.snd) 10 (by decide); unfold InI64; omega), rfl, (by simp), (by simp; omega), (by omega), (by have := tdiv_lit (k.snd) 10 (by decide); unfold InI64; omega), rfl, ⟨(toU8 ((48 : Int) + k.snd.tmod (10 : Int)) :: List.append._f [] PUnit.unit k.fst, k.snd.tdiv (10 : Int)), ⟨⟨rfl, rfl, rfl, trivial⟩, trivial⟩, ⟨⟨?_, ⟨(by have := tdiv_lit (k.snd) 10 (by decide); omega), (by have := tdiv_lit (k.snd) 10 (by decide); omega)⟩, (by have := tdiv_lit (k.snd) 10 (by decide); omega), ?_⟩, (by have := tdiv_lit (k.snd) 10 (by decide); omega)⟩⟩⟩⟩, fun h10_ => have h10 := dnF h10_; ⟨fun h11_ => have h11 := dT h11_; ⟨(by simp; omega), ?_⟩, fun h12_ => have h12 := dF h12_; ?_⟩⟩⟩⟩
  all_goals try dsimp only
  · subst h1; rw [itoa_pos' (by decide)]; exact (dd_small (u := 0) (by decide)).symm
  · exact .inr ⟨h2, Iff.rfl, (List.append_nil _).symm⟩
  · exact fmt_len hn (fmt_step h5 h4d (fmt_neg h6))
  · exact fmt_step h5 h4d (fmt_neg h6)
  · exact fmt_len hn (fmt_step h5 h4d (fmt_pos h8))
  · exact fmt_step h5 h4d (fmt_pos h8)
  · rw [itoa_neg' h11]
    rcases h4d with ⟨-, h⟩ | ⟨h, -⟩
    · rw [← h]
    · exact absurd h10 h
  · rw [itoa_pos' h12]
    rcases h4d with ⟨-, h⟩ | ⟨h, -⟩
    · exact h
    · exact absurd h10 h
end
end Go.Proofs.YtgjdmlhgapmflaaDoor
