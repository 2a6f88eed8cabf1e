/- Own texts of this claim, merged: Pn, Df1, Df2, DfX, Up, DfC, Df3, DfK, DfR, Df4. -/
import Derived.Test.YtfbpbkcplpkndaaGreatDoorPdd
import Derived.Deep.DeepHandedRow
import Derived.Lay
import Derived.Deep.DeepWitnessRowRef
import Derived.Shelf.Vars
section
namespace Go.Proofs.YtfbpbkcplpkndaaGreatDoor
set_option linter.unusedVariables false
set_option linter.unusedSimpArgs false
set_option maxRecDepth 100000
theorem body_le (s : Bs) : (numBody s).length ≤ s.length := by
 unfold numBody; split
 ·simp
 ·exact Nat.le_refl _
theorem body_y {s : Bs} {c : UInt8} (h : s[0]? = some c) (hc : (c.toNat : Int) = 45) : s.drop 1 = numBody s := by
 have : c = 45 := u8_of (n := 45) hc (by decide)
 subst this
 rw [numBody, if_pos (by simp [negB, h])]
theorem body_n {s : Bs} {c : UInt8} (h : s[0]? = some c) (hc : ¬ (c.toNat : Int) = 45) : s = numBody s := by
 have : c ≠ 45 := fun e => by subst e; exact hc rfl
 rw [numBody, if_neg (by simp [negB, h, this])]
theorem dig_of {c : UInt8} (h : ¬ (c.toNat : Int) < 48) (h2 : ¬ 57 < (c.toNat : Int)) : dig c := ⟨by omega, by omega⟩
theorem digs_bad {s : Bs} {k : Nat} {c : UInt8} (h : s[k]? = some c) (hc : (c.toNat : Int) < 48 ∨ 57 < (c.toNat : Int)) : false = digsB s := by
 symm; rw [digsB_false]
 rintro ⟨-, -, q⟩
 have := q c (List.mem_of_getElem? h)
 rw [dig_iff] at this; omega
theorem digs_ok {s : Bs} {k : Nat} (h0 : 0 < s.length) (hz : s.length ≤ 1 ∨ ∀ c, s[0]? = some c → ¬ (c.toNat : Int) = 48) (hk : s.length ≤ k) (h : ∀ c ∈ s.take k, dig c) : true = digsB s := by
 symm; rw [digsB_iff]
 rw [List.take_of_length_le hk] at h
 refine ⟨h0, ?_, h⟩
 rcases hz with hz | hz
 ·exact .inl hz
 ·exact .inr fun e => hz _ e rfl
theorem pos_of {s : Bs} (h : ¬ s = []) : 0 < s.length := List.length_pos_iff.2 h
theorem join_body {s v : Bs} (h : (∃ (c : UInt8) (v4 : Bs), ¬ s = [] ∧ s[0]? = some c ∧ ((c.toNat : Int) = 45 ∧ v4 = (s.take s.length).drop 1 ∨ ¬ (c.toNat : Int) = 45 ∧ v4 = s) ∧ v = v4) ∨ s = [] ∧ v = s) : v = numBody s := by
 rcases h with ⟨c, v4, h1, h2, h3, rfl⟩ | ⟨rfl, rfl⟩
 ·rcases h3 with ⟨h3, rfl⟩ | ⟨h3, rfl⟩
  ·rw [List.take_length]; exact body_y h2 h3
  ·exact body_n h2 h3
 ·rfl
theorem lt_of_at {s : Bs} {k : Nat} {c : UInt8} (h : s[k]? = some c) : k < s.length := (get_of h).1
section
variable {X : CallF}
theorem dec_digs {s : Bs} (h : false = digsB (numBody s)) : false = decB s := by rw [decB, ← h]; rfl
theorem decimal_run (s : Bs) (hs : s.length ≤ maxLen) : (R FT X).f 131 [strL s] = some (boolA (decB s)) := by
 have hm := maxLen_i64
 have hb := body_le s
 refine R_wp (Tr.cut (fun (v1 : Cut (1 : Nat) Bs) ↦ St.mk [(0, strL s), (3, strL v1)] []) (fun (v1 : Cut (1 : Nat) Bs) ↦ (∃ (c2 : UInt8), ∃ (v4 : Cut (2 : Nat) Bs), ¬s = [] ∧ s[(0 : Nat)]? = some c2 ∧ ((↑c2.toNat : Int) = 45 ∧ v4 = List.drop (1 : Nat) (List.take (List.length s) s) ∨ ¬(↑c2.toNat : Int) = 45 ∧ v4 = s) ∧ v1 = v4) ∨ s = [] ∧ v1 = s) ((Tr.y 0 fun (c2 : UInt8) ↦ Tr.cut (fun (v4 : Cut (2 : Nat) Bs) ↦ St.mk [(0, strL s), (3, strL v4)] []) (fun (v4 : Cut (2 : Nat) Bs) ↦ (↑c2.toNat : Int) = 45 ∧ v4 = List.drop (1 : Nat) (List.take (List.length s) s) ∨ ¬(↑c2.toNat : Int) = 45 ∧ v4 = s) ((Tr.sl (1 : Nat) (List.length s) Tr.nil).br Tr.nil) fun (v : Cut (2 : Nat) Bs) ↦ Tr.nil).br (Tr.b false Tr.nil).w) fun (v1 : Cut (1 : Nat) Bs) ↦ Tr.cut (fun (v15 : Cut (4 : Nat) Unit) ↦ St.mk [(3, AV.val (Value.string (ofL v1)))] []) (fun (v15 : Cut (4 : Nat) Unit) ↦ (∃ (c17 : UInt8), ¬v1 = [] ∧ v1[(0 : Nat)]? = some c17 ∧ (↑c17.toNat : Int) = 48 ∧ s = [(48 : UInt8)]) ∨ ∃ (c17 : UInt8), ¬v1 = [] ∧ v1[(0 : Nat)]? = some c17 ∧ ¬(↑c17.toNat : Int) = 48) ((Tr.b true Tr.nil).w.br (Tr.y 0 fun (c17 : UInt8) ↦ (Tr.nil.br
 Tr.nil).w.br (Tr.b false Tr.nil).w)) fun (v15 : Cut (4 : Nat) Unit) ↦ (Tr.inv (fun (k : Nat) ↦ St.mk [(3, strL (numBody s)), (27, intA (↑(List.length (numBody s)) : Int)), (28, intA (↑k : Int))] []) (fun (k : Nat) ↦ k ≤ List.length (numBody s) ∧ ∀ (c : UInt8), c ∈ List.take k (numBody s) → dig c) (fun (k : Nat) ↦ List.length (numBody s) - k) fun (k : Nat) ↦ (Tr.y k fun (c32 : UInt8) ↦ (Tr.b true Tr.nil).w.br (Tr.y k fun (c36 : UInt8) ↦ (Tr.nil.br Tr.nil.w).w)).w.w.br Tr.nil).w) rfl ?_
 refine Eq.mpr (by kernel_rfl : _ = ((((!decide (s = [])) = true → (0 : Int) = 0 ∧ (0 : Nat) < List.length s ∧ ∀ (c2 : UInt8), s[(0 : Nat)]? = some c2 → ((decide ((↑c2.toNat : Int) = 45) = true → (1 : Int) = 1 ∧ (↑(List.length s) : Int) = (↑(List.length s) : Int) ∧ (1 : Nat) ≤ List.length s ∧ List.length s ≤ List.length s ∧ ∃ (m2_5 : Cut (2 : Nat) Bs), ((s = s ∧ List.drop (1 : Nat) (List.take (List.length s) s) = m2_5 ∧ True) ∧ True) ∧ ((↑c2.toNat : Int) = 45 ∧ m2_5 = List.drop (1 : Nat) (List.take (List.length s) s) ∨ ¬(↑c2.toNat : Int) = 45 ∧ m2_5 = s)) ∧ (decide ((↑c2.toNat : Int) = 45) = false → ∃ (m2_7 : Cut (2 : Nat) Bs), ((s = s ∧ s = m2_7 ∧ True) ∧ True) ∧ ((↑c2.toNat : Int) = 45 ∧ m2_7 = List.drop (1 : Nat) (List.take (List.length s) s) ∨ ¬(↑c2.toNat : Int) = 45 ∧ m2_7 = s))) ∧ ∀ (v4 : Cut (2 : Nat) Bs), (↑c2.toNat : Int) = 45 ∧ v4 = List.drop (1 : Nat) (List.take (List.length s) s) ∨ ¬(↑c2.toNat : Int) = 45 ∧ v4 = s → ∃ (m1_10 : Cut (1 : Nat) Bs), ((s = s ∧ v4 = m1_10 ∧ True) ∧ True) ∧ ((∃ (c2 : UInt8), ∃ (v4 : Cut (2 : Nat) Bs), ¬s = [] ∧ s[(0 : Nat)]? = some c2 ∧ ((↑c2.toNat : Int) = 45 ∧ v4 = List.drop (1 : Nat) (List.take
 (List.length s) s) ∨ ¬(↑c2.toNat : Int) = 45 ∧ v4 = s) ∧ m1_10 = v4) ∨ s = [] ∧ m1_10 = s)) ∧ ((!decide (s = [])) = false → false = false ∧ ∃ (m1_12 : Cut (1 : Nat) Bs), ((s = s ∧ s = m1_12 ∧ True) ∧ True) ∧ ((∃ (c2 : UInt8), ∃ (v4 : Cut (2 : Nat) Bs), ¬s = [] ∧ s[(0 : Nat)]? = some c2 ∧ ((↑c2.toNat : Int) = 45 ∧ v4 = List.drop (1 : Nat) (List.take (List.length s) s) ∨ ¬(↑c2.toNat : Int) = 45 ∧ v4 = s) ∧ m1_12 = v4) ∨ s = [] ∧ m1_12 = s))) ∧ ∀ (v1 : Cut (1 : Nat) Bs), (∃ (c2 : UInt8), ∃ (v4 : Cut (2 : Nat) Bs), ¬s = [] ∧ s[(0 : Nat)]? = some c2 ∧ ((↑c2.toNat : Int) = 45 ∧ v4 = List.drop (1 : Nat) (List.take (List.length s) s) ∨ ¬(↑c2.toNat : Int) = 45 ∧ v4 = s) ∧ v1 = v4) ∨ s = [] ∧ v1 = s → ((decide (v1 = []) = true → true = true ∧ false = decB s) ∧ (decide (v1 = []) = false → (0 : Int) = 0 ∧ (0 : Nat) < List.length v1 ∧ ∀ (c17 : UInt8), v1[(0 : Nat)]? = some c17 → (decide ((↑c17.toNat : Int) = 48) = true → ((!decide (s = [(48 : UInt8)])) = true → false = decB s) ∧ ((!decide (s = [(48 : UInt8)])) = false → ∃ (m4_22 : Cut (4 : Nat) Unit), ((v1 = v1 ∧ True) ∧ True) ∧ ((∃ (c17 : UInt8), ¬v1 = [] ∧ v1[(0 : Nat)]? = some c17 ∧ (↑c17.toNat
 : Int) = 48 ∧ s = [(48 : UInt8)]) ∨ ∃ (c17 : UInt8), ¬v1 = [] ∧ v1[(0 : Nat)]? = some c17 ∧ ¬(↑c17.toNat : Int) = 48))) ∧ (decide ((↑c17.toNat : Int) = 48) = false → false = false ∧ ∃ (m4_24 : Cut (4 : Nat) Unit), ((v1 = v1 ∧ True) ∧ True) ∧ ((∃ (c17 : UInt8), ¬v1 = [] ∧ v1[(0 : Nat)]? = some c17 ∧ (↑c17.toNat : Int) = 48 ∧ s = [(48 : UInt8)]) ∨ ∃ (c17 : UInt8), ¬v1 = [] ∧ v1[(0 : Nat)]? = some c17 ∧ ¬(↑c17.toNat : Int) = 48)))) ∧ ∀ (v15 : Cut (4 : Nat) Unit), ((∃ (c17 : UInt8), ¬v1 = [] ∧ v1[(0 : Nat)]? = some c17 ∧ (↑c17.toNat : Int) = 48 ∧ s = [(48 : UInt8)]) ∨ ∃ (c17 : UInt8), ¬v1 = [] ∧ v1[(0 : Nat)]? = some c17 ∧ ¬(↑c17.toNat : Int) = 48) → (∃ (j27 : Nat), ((v1 = numBody s ∧ (↑(List.length v1) : Int) = (↑(List.length (numBody s)) : Int) ∧ (0 : Int) = (↑j27 : Int) ∧ True) ∧ True) ∧ j27 ≤ List.length (numBody s) ∧ ∀ (c28 : UInt8), c28 ∈ List.take j27 (numBody s) → dig c28) ∧ ∀ (k : Nat), (k ≤ List.length (numBody s) ∧ ∀ (c : UInt8), c ∈ List.take k (numBody s) → dig c) → (decide ((↑k : Int) < (↑(List.length (numBody s)) : Int)) = true → (↑k : Int) = (↑k : Int) ∧ k < List.length (numBody s) ∧ ∀ (c32 : UInt8), (numBody s)[k]?
 = some c32 → (decide ((↑c32.toNat : Int) < 48) = true → true = true ∧ false = decB s) ∧ (decide ((↑c32.toNat : Int) < 48) = false → (↑k : Int) = (↑k : Int) ∧ k < List.length (numBody s) ∧ ∀ (c36 : UInt8), (numBody s)[k]? = some c36 → (decide ((57 : Int) < (↑c36.toNat : Int)) = true → false = decB s) ∧ (decide ((57 : Int) < (↑c36.toNat : Int)) = false → InI64 ((↑k : Int) + 1) ∧ ∃ (j40 : Nat), ((numBody s = numBody s ∧ (↑(List.length (numBody s)) : Int) = (↑(List.length (numBody s)) : Int) ∧ (↑k : Int) + 1 = (↑j40 : Int) ∧ True) ∧ True) ∧ (j40 ≤ List.length (numBody s) ∧ ∀ (c41 : UInt8), c41 ∈ List.take j40 (numBody s) → dig c41) ∧ List.length (numBody s) - j40 < List.length (numBody s) - k))) ∧ (decide ((↑k : Int) < (↑(List.length (numBody s)) : Int)) = false → true = decB s))) ?_
 refine ⟨⟨fun h1_ => have h1 := dnT h1_; ⟨rfl, ?_, fun c2 => fun h3 => ⟨⟨fun h4_ => have h4 := dT h4_; ⟨rfl, rfl, ?_, (by omega), ⟨List.drop (1 : Nat) (List.take (List.length s) s), ⟨⟨(by first | rfl | simp), ⟨(by first | rfl | simp), trivial⟩⟩, trivial⟩, Or.inl (⟨h4, rfl⟩)⟩⟩, fun h6_ => have h6 := dF h6_; ⟨s, ⟨⟨(by first | rfl | simp), ⟨(by first | rfl | simp), trivial⟩⟩, trivial⟩, Or.inr (⟨h6, rfl⟩)⟩⟩, fun v4 => fun h9 => ⟨v4, ⟨⟨(by first | rfl | simp), ⟨(by first | rfl | simp), trivial⟩⟩, trivial⟩, Or.inl (⟨c2, v4, h1, h3, h9, rfl⟩)⟩⟩⟩, fun h11_ => have h11 := dnF h11_; ⟨rfl, ⟨s, ⟨⟨(by first | rfl | simp), ⟨(by first | rfl | simp), trivial⟩⟩, trivial⟩, Or.inr (⟨h11, rfl⟩)⟩⟩⟩, fun v1 => fun h14 => ⟨⟨fun h15_ => have h15 := dT h15_; ⟨rfl, ?_⟩, fun h16_ => have h16 := dF h16_; ⟨rfl, ?_, fun c17 => fun h18 => ⟨fun h19_ => have h19 := dT h19_; ⟨fun h20_ => have h20 := dnT h20_; ?_, fun h21_ => have h21 := dnF h21_; ⟨(), ⟨⟨(by first | rfl | simp), trivial⟩, trivial⟩, Or.inl (⟨c17, h16, h18, h19, h21⟩)⟩⟩, fun h23_ => have h23 := dF h23_; ⟨rfl, ⟨(), ⟨⟨(by first | rfl | simp), trivial⟩, trivial⟩, Or.inr (⟨c17, h16, h18, h23⟩)⟩⟩⟩⟩⟩, fun v15 => fun h26 => ⟨⟨(0 : Nat), ⟨⟨?_, ?_, (by omega), trivial⟩, trivial⟩, ⟨(by omega), fun c28 => fun h29 => ?_⟩⟩, fun k => fun h30 => have h30a := h30.1; have h30b := h30.2; ⟨fun h31_ => have h31 := dT h31_; ⟨rfl, (by omega), fun c32 => fun h33 => ⟨fun h34_ => have h34 := dT h34_; ⟨rfl, ?_⟩, fun h35_ => have h35 := dF h35_; ⟨rfl, (by omega), fun c36 => fun h37 => ⟨fun h38_ => have h38 := dT h38_; ?_, fun h39_ => have h39 := dF h39_; ⟨(by unfold InI64; omega), ⟨k + (1 : Nat), ⟨⟨rfl, rfl, (by omega), trivial⟩, trivial⟩, ⟨⟨(by omega), fun c41 => fun h42 => ?_⟩, (by omega)⟩⟩⟩⟩⟩⟩⟩, fun h43_ => have h43 := dF h43_; ?_⟩⟩⟩⟩
 ·exact pos_of h1
 ·exact lt_of_at h3
 ·obtain rfl := join_body h14
  exact dec_digs (by rw [h15]; rfl)
 ·exact pos_of h16
 all_goals (try obtain rfl := join_body h14)
 ·symm; rw [decB_false]
  rintro ⟨q1, q2⟩
  rw [digsB_iff] at q1
  have h48 : c17 = 48 := u8_of (n := 48) h19 (by decide)
  subst h48
  have h1 : (numBody s).length = 1 := by
   have := lt_of_at h18
   rcases q1.2.1 with q | q
   ·omega
   ·exact absurd h18 q
  have h2 : numBody s = [48] := by
   match hb : numBody s, h1 with
   | [x], _ => rw [hb] at h18; simp at h18; rw [h18]
  by_cases hn : negB s = true
  ·apply q2
   cases s with
   | nil => simp [negB] at hn
   | cons c r =>
    simp [negB] at hn
    subst hn
    rw [numBody, if_pos (by simp [negB])] at h2
    simp at h2; rw [h2]
  ·rw [numBody, if_neg hn] at h2; exact h20 h2
 ·rfl
 ·rfl
 ·simp at h29
 ·exact dec_digs (digs_bad h33 (.inl h34))
 ·exact dec_digs (digs_bad h37 (.inr h38))
 ·exact all_of h37 h30b (dig_of (by rw [same_at h33 h37]; exact h35) h39) _ h42
 ·rcases h26 with ⟨c, q1, q2, q3, rfl⟩ | ⟨c, q1, q2, q3⟩
  ·rfl
  ·symm; rw [decB_iff]
   refine ⟨(digs_ok (pos_of q1) (.inr fun x hx => by rw [same_at q2 hx]; exact q3) (by omega) h30b).symm, fun e => ?_⟩
   subst e
   cases q2
   exact q3 rfl
end
theorem lmx {n : Nat} (h : n ≤ 281474976710656) : n ≤ maxLen := Nat.le_trans h (by decide +kernel)
structure NumC (X : CallF) : Prop where
 itoa : ∀ n : Int, InI64 n → (R FT X).f 95 [intA n] = some (strL (Lib.itoa n))
 ok : ∀ s : Bs, s.length ≤ 281474976710656 → decB s = true → InI64 (valI s) → (R FT X).f 132 [strL s] = some (.tuple [intA (valI s), .val .nilIface])
 over : ∀ s : Bs, s.length ≤ 281474976710656 → decB s = true → ¬ InI64 (valI s) → (R FT X).f 132 [strL s] = some (.tuple [intA (Lib.atoiSat s), .nif])
section
variable {X : CallF}
theorem format_run (hc : NumC X) (n : Int) (hn : InI64 n) : (R FT X).f 72 [intA n] = some (strL (Lib.itoa n)) := by
 have r := hc.itoa n hn
 refine R_wp (Tr.c (strL (Lib.itoa n)) Tr.nil) rfl ?_
 refine Eq.mpr (by kernel_rfl : _ = ((R FT X).f 95 [intA n] = some (strL (Lib.itoa n)) ∧ Lib.itoa n = Lib.itoa n)) ?_
 refine ⟨(r), rfl⟩
theorem parse_n (s : Bs) (hs : s.length ≤ maxLen) (hd : decB s = false) : (R FT X).f 123 [strL s] = some (.tuple [intA 0, intA 1]) := by
 have hm := maxLen_i64
 refine R_wp ((Tr.c (boolA (decB s)) (Tr.b true Tr.nil).w).w) rfl ?_
 refine Eq.mpr (by kernel_rfl : _ = ((R FT X).f 131 [strL s] = some (boolA (decB s)) ∧ (!decB s) = true ∧ (0 : Int) = 0 ∧ (1 : Int) = 1)) ?_
 refine ⟨(decimal_run _ hs), (nTi hd), rfl, rfl⟩
theorem parse_y (s : Bs) (hs : s.length ≤ maxLen) (hd : decB s = true) (v : Int) (ra : (R FT X).f 132 [strL s] = some (.tuple [intA v, .val .nilIface])) : (R FT X).f 123 [strL s] = some (.tuple [intA v, intA 0]) := by
 have hm := maxLen_i64
 refine R_wp ((Tr.c (boolA (decB s)) (Tr.b false (Tr.c (AV.tuple [intA v, AV.val Value.nilIface]) (Tr.b false Tr.nil).w.w)).w).w) rfl ?_
 refine Eq.mpr (by kernel_rfl : _ = ((R FT X).f 131 [strL s] = some (boolA (decB s)) ∧ (!decB s) = false ∧ (R FT X).f 132 [strL s] = some (AV.tuple [intA v, AV.val Value.nilIface]) ∧ false = false ∧ v = v ∧ (0 : Int) = 0)) ?_
 refine ⟨(decimal_run _ hs), (nFi hd), ra, rfl, rfl, rfl⟩
theorem parse_o (s : Bs) (hs : s.length ≤ maxLen) (hd : decB s = true) (v : Int) (ra : (R FT X).f 132 [strL s] = some (.tuple [intA v, .nif])) : (R FT X).f 123 [strL s] = some (.tuple [intA 0, intA 9]) := by
 have hm := maxLen_i64
 refine R_wp ((Tr.c (boolA (decB s)) (Tr.b false (Tr.c (AV.tuple [intA v, AV.nif]) (Tr.b true Tr.nil).w.w)).w).w) rfl ?_
 refine Eq.mpr (by kernel_rfl : _ = ((R FT X).f 131 [strL s] = some (boolA (decB s)) ∧ (!decB s) = false ∧ (R FT X).f 132 [strL s] = some (AV.tuple [intA v, AV.nif]) ∧ true = true ∧ (0 : Int) = 0 ∧ (9 : Int) = 9)) ?_
 refine ⟨(decimal_run _ hs), (nFi hd), ra, rfl, rfl, rfl⟩
theorem parse_run (hc : NumC X) (s : Bs) (hs : s.length ≤ 281474976710656) : (R FT X).f 123 [strL s] = some (.tuple [intA (numV s), intA (numE s)]) := by
 cases hd : decB s
 ·rw [parse_n s (lmx hs) hd, (num_bad hd).1, (num_bad hd).2]
 ·by_cases hi : InI64 (valI s)
  ·rw [parse_y s (lmx hs) hd _ (hc.ok s hs hd hi), (num_ok hd hi).1, (num_ok hd hi).2]
  ·rw [parse_o s (lmx hs) hd _ (hc.over s hs hd hi), (num_over hd hi).1, (num_over hd hi).2]
theorem numV_in (s : Bs) : InI64 (numV s) := by
 unfold numV
 split
 ·rename_i h; exact h.2
 ·unfold InI64; omega
end
end Go.Proofs.YtfbpbkcplpkndaaGreatDoor
end
section
namespace Go.Proofs.YtfbpbkcplpkndaaGreatDoor
set_option linter.unusedVariables false
set_option linter.unusedSimpArgs false
set_option maxRecDepth 100000
section
variable {X : CallF}
theorem lines2_run (s : Bs) (hs : s.length ≤ 100000000) : (R FT X).f 52 [strL s] = some (.tuple [.slice 1 ((lins s).map strL), boolA (endB s)]) := by
 have hm := maxLen_le
 have hf := flF_le 10 s
 have ho := flO_len 10 s
 refine R_wp ((Tr.inv (fun (k : Nat) ↦ St.mk [(0, strL s), (4, AV.row 0 0 (flO (10 : UInt8) s k).length (0 : Nat) (flO (10 : UInt8) s k).length), (5, intA (↑(flF (10 : UInt8) s k) : Int)), (6, intA (↑k : Int))] [MObj.row 0 1 (List.map strL (flO (10 : UInt8) s k)) true (1 : Nat)]) (fun (k : Nat) ↦ k ≤ List.length s) (fun (k : Nat) ↦ List.length s - k) fun (k : Nat) ↦ ((Tr.y k fun (c4 : UInt8) ↦ ((Tr.sl (flF (10 : UInt8) s k) k (Tr.k ((flO (10 : UInt8) s k).length + 1) Tr.nil.w.w)).br Tr.nil.w).w).w.w.br ((Tr.sl (flF (10 : UInt8) s k) (List.length s) (Tr.k ((flO (10 : UInt8) s k).length + 1) (Tr.g (List.map strL (flO (10 : UInt8) s k ++ [List.drop (flF (10 : UInt8) s k) (List.take (List.length s) s)])) Tr.nil))).br (Tr.g (List.map strL (flO (10 : UInt8) s k)) Tr.nil)).w.w).w).w) rfl ?_
 refine Eq.mpr (by kernel_rfl : _ = ((∃ (j1 : Nat), ((s = s ∧ ((0 : Nat) = (flO (10 : UInt8) s j1).length ∧ (0 : Nat) = 0 ∧ (0 : Nat) = (flO (10 : UInt8) s j1).length) ∧ (0 : Int) = (↑(flF (10 : UInt8) s j1) : Int) ∧ (0 : Int) = (↑j1 : Int) ∧ True) ∧ [] = List.map strL (flO (10 : UInt8) s j1)) ∧ j1 ≤ List.length s) ∧ ∀ (k : Nat), k ≤ List.length s → (decide ((↑k : Int) < (↑(List.length s) : Int)) = true → (↑k : Int) = (↑k : Int) ∧ k < List.length s ∧ ∀ (c4 : UInt8), s[k]? = some c4 → (decide ((↑c4.toNat : Int) = 10) = true → (↑(flF (10 : UInt8) s k) : Int) = (↑(flF (10 : UInt8) s k) : Int) ∧ (↑k : Int) = (↑k : Int) ∧ flF (10 : UInt8) s k ≤ k ∧ k ≤ List.length s ∧ (List.map strL (flO (10 : UInt8) s k)).length = (flO (10 : UInt8) s k).length ∧ (0 : Nat) = 0 ∧ (flO (10 : UInt8) s k).length = (flO (10 : UInt8) s k).length ∧ (flO (10 : UInt8) s k).length + [AV.val (Value.string (ofL (List.drop (flF (10 : UInt8) s k) (List.take k s))))].length = (flO (10 : UInt8) s k).length + 1 ∧ ((flO (10 : UInt8) s k).length + 1) * 16 ≤ (140737488355328 : Nat) ∧ (flO (10 : UInt8) s k).length + 1 ≤ (9223372036854775807 : Nat) ∧ InI64 ((↑k : Int) + 1) ∧ InI64 ((↑k : Int) + (1 :
 Int)) ∧ ∃ (j7 : Nat), ((s = s ∧ ((flO (10 : UInt8) s k).length + 1 = (flO (10 : UInt8) s j7).length ∧ (0 : Nat) = 0 ∧ (flO (10 : UInt8) s k).length + 1 = (flO (10 : UInt8) s j7).length) ∧ (↑k : Int) + 1 = (↑(flF (10 : UInt8) s j7) : Int) ∧ (↑k : Int) + 1 = (↑j7 : Int) ∧ True) ∧ List.map strL (flO (10 : UInt8) s k) ++ [AV.val (Value.string (ofL (List.drop (flF (10 : UInt8) s k) (List.take k s))))] = List.map strL (flO (10 : UInt8) s j7)) ∧ j7 ≤ List.length s ∧ List.length s - j7 < List.length s - k) ∧ (decide ((↑c4.toNat : Int) = 10) = false → InI64 ((↑k : Int) + 1) ∧ ∃ (j9 : Nat), ((s = s ∧ ((flO (10 : UInt8) s k).length = (flO (10 : UInt8) s j9).length ∧ (0 : Nat) = 0 ∧ (flO (10 : UInt8) s k).length = (flO (10 : UInt8) s j9).length) ∧ (↑(flF (10 : UInt8) s k) : Int) = (↑(flF (10 : UInt8) s j9) : Int) ∧ (↑k : Int) + 1 = (↑j9 : Int) ∧ True) ∧ List.map strL (flO (10 : UInt8) s k) = List.map strL (flO (10 : UInt8) s j9)) ∧ j9 ≤ List.length s ∧ List.length s - j9 < List.length s - k)) ∧ (decide ((↑k : Int) < (↑(List.length s) : Int)) = false → (decide ((↑(flF (10 : UInt8) s k) : Int) < (↑(List.length s) : Int)) = true
 → (↑(flF (10 : UInt8) s k) : Int) = (↑(flF (10 : UInt8) s k) : Int) ∧ (↑(List.length s) : Int) = (↑(List.length s) : Int) ∧ flF (10 : UInt8) s k ≤ List.length s ∧ List.length s ≤ List.length s ∧ (List.map strL (flO (10 : UInt8) s k)).length = (flO (10 : UInt8) s k).length ∧ (0 : Nat) = 0 ∧ (flO (10 : UInt8) s k).length = (flO (10 : UInt8) s k).length ∧ (flO (10 : UInt8) s k).length + [AV.val (Value.string (ofL (List.drop (flF (10 : UInt8) s k) (List.take (List.length s) s))))].length = (flO (10 : UInt8) s k).length + 1 ∧ ((flO (10 : UInt8) s k).length + 1) * 16 ≤ (140737488355328 : Nat) ∧ (flO (10 : UInt8) s k).length + 1 ≤ (9223372036854775807 : Nat) ∧ (List.map strL (flO (10 : UInt8) s k) ++ [AV.val (Value.string (ofL (List.drop (flF (10 : UInt8) s k) (List.take (List.length s) s))))]).length = (flO (10 : UInt8) s k).length + 1 ∧ List.take ((flO (10 : UInt8) s k).length + 1) (List.drop (0 : Nat) (List.map strL (flO (10 : UInt8) s k) ++ [AV.val (Value.string (ofL (List.drop (flF (10 : UInt8) s k) (List.take (List.length s) s))))])) = List.map strL (flO (10 : UInt8) s k ++ [List.drop (flF (10 : UInt8) s k) (List.take (List.length
 s) s)]) ∧ List.map strL (flO (10 : UInt8) s k ++ [List.drop (flF (10 : UInt8) s k) (List.take (List.length s) s)]) = List.map strL (lins s) ∧ false = endB s) ∧ (decide ((↑(flF (10 : UInt8) s k) : Int) < (↑(List.length s) : Int)) = false → (List.map strL (flO (10 : UInt8) s k)).length = (flO (10 : UInt8) s k).length ∧ List.take (flO (10 : UInt8) s k).length (List.drop (0 : Nat) (List.map strL (flO (10 : UInt8) s k))) = List.map strL (flO (10 : UInt8) s k) ∧ List.map strL (flO (10 : UInt8) s k) = List.map strL (lins s) ∧ true = endB s)))) ?_
 refine ⟨⟨(0 : Nat), ⟨⟨rfl, ⟨rfl, rfl, rfl⟩, rfl, (by omega), trivial⟩, rfl⟩, (by omega)⟩, fun k => fun h2 => ⟨fun h3_ => have h3 := dT h3_; ⟨rfl, (by omega), fun c4 => fun h5 => ⟨fun h6_ => have h6 := dT h6_; ⟨rfl, rfl, ?_, h2, (by simp), rfl, rfl, rfl, ?_, ?_, (by unfold InI64; omega), (by unfold InI64; omega), ⟨k + (1 : Nat), ⟨⟨rfl, ⟨?_, rfl, ?_⟩, ?_, (by omega), trivial⟩, ?_⟩, ⟨(by omega), (by omega)⟩⟩⟩, fun h8_ => have h8 := dF h8_; ⟨(by unfold InI64; omega), ⟨k + (1 : Nat), ⟨⟨rfl, ⟨?_, rfl, ?_⟩, ?_, (by omega), trivial⟩, ?_⟩, ⟨(by omega), (by omega)⟩⟩⟩⟩⟩, fun h10_ => have h10 := dF h10_; ⟨fun h11_ => have h11 := dT h11_; ⟨rfl, rfl, (by omega), (by omega), (by simp), rfl, rfl, rfl, ?_, ?_, (by simp), ?_, ?_, ?_⟩, fun h12_ => have h12 := dF h12_; ⟨(by simp), ?_, ?_, ?_⟩⟩⟩⟩
 ·exact hf k
 iterate 2 · have := ho k; omega
 iterate 4 · first | (rw [flO_y (c := 10) (u8eq (d := 10) h6 ▸ h5)]; simp; done) | (rw [flF_y (c := 10) (u8eq (d := 10) h6 ▸ h5)]; done) | (rw [flF_y (c := 10) (u8eq (d := 10) h6 ▸ h5)]; omega) | (rw [flO_y (c := 10) (u8eq (d := 10) h6 ▸ h5), List.map_append]; rfl)
 iterate 4 · first | rw [flO_n (c := 10) (fun q => h8 (by rw [h5] at q; rw [Option.some.inj q]; rfl))] | rw [flF_n (c := 10) (fun q => h8 (by rw [h5] at q; rw [Option.some.inj q]; rfl))]
 all_goals (obtain rfl : k = s.length := by omega)
 iterate 2 · have := ho s.length; omega
 ·rw [List.drop_zero, List.take_of_length_le (by simp), List.map_append]; rfl
 ·rw [List.take_length, lins, if_pos (by omega)]; rfl
 ·exact (decide_eq_false (fun q => q (by omega))).symm
 ·rw [List.drop_zero, List.take_of_length_le (by simp)]
 ·rw [lins, if_neg (by omega)]
 ·exact (decide_eq_true (by omega)).symm
theorem fed_ln1 {s : Bs} {k : Nat} (h : (k : Int) < (lins s).length) : ((fed s).take k).length + 1 = ((fed s).take (k + 1)).length := by
 have := fed_len s
 rw [List.length_take, List.length_take]; omega
theorem fed_st {s x y : Bs} {k : Nat} (h : (lins s)[k]? = some x) (hy : y = if endB s = true ∨ k + 1 < (lins s).length then x ++ [10] else x) : ((fed s).take k).map strL ++ [strL y] = ((fed s).take (k + 1)).map strL := by
 unfold fed; rw [fdK_snoc h hy, List.map_append]; rfl
theorem fed_run (s : Bs) (hs : s.length ≤ 100000000) : (R FT X).f 23 [strL s] = some (.slice 1 ((fed s).map strL)) := by
 have hm := maxLen_le
 have ll := lines2_run (X := X) s hs
 have hle := lins_len s
 have hfl := fed_len s
 refine R_wp (Tr.c (AV.tuple [AV.slice 1 (List.map strL (lins s)), boolA (endB s)]) (Tr.inv (fun (k : Nat) ↦ St.mk [(3, AV.slice 1 (List.map strL (lins s))), (4, boolA (endB s)), (5, AV.row 0 0 (List.take k (fed s)).length (0 : Nat) (List.take k (fed s)).length), (6, intA (↑k : Int))] [MObj.row 0 1 (List.map strL (List.take k (fed s))) true (1 : Nat)]) (fun (k : Nat) ↦ k ≤ (lins s).length) (fun (k : Nat) ↦ (lins s).length - k) fun (k : Nat) ↦ (Tr.k (lins s).length (((Tr.b true (Tr.ix strL (lins s) k fun (x5 : Bs) ↦ (Tr.k ((List.take k (fed s)).length + 1) Tr.nil.w).w)).w.br (Tr.k (lins s).length ((Tr.ix strL (lins s) k fun (x10 : Bs) ↦ (Tr.k ((List.take k (fed s)).length + 1) Tr.nil.w).w).br (Tr.ix strL (lins s) k fun (x14 : Bs) ↦ Tr.k ((List.take k (fed s)).length + 1) Tr.nil.w)).w).w).w.w.br (Tr.g (List.map strL (List.take k (fed s))) Tr.nil))).w).w) rfl ?_
 refine Eq.mpr (by kernel_rfl : _ = ((R FT X).f 52 [strL s] = some (AV.tuple [AV.slice 1 (List.map strL (lins s)), boolA (endB s)]) ∧ (∃ (j1 : Nat), ((List.map strL (lins s) = List.map strL (lins s) ∧ endB s = endB s ∧ ((0 : Nat) = (List.take j1 (fed s)).length ∧ (0 : Nat) = 0 ∧ (0 : Nat) = (List.take j1 (fed s)).length) ∧ (0 : Int) = (↑j1 : Int) ∧ True) ∧ [] = List.map strL (List.take j1 (fed s))) ∧ j1 ≤ (lins s).length) ∧ ∀ (k : Nat), k ≤ (lins s).length → (List.map strL (lins s)).length = (lins s).length ∧ (decide ((↑k : Int) < (↑(lins s).length : Int)) = true → (endB s = true → true = true ∧ List.map strL (lins s) = List.map strL (lins s) ∧ (↑k : Int) = (↑k : Int) ∧ k < (lins s).length ∧ ∀ (x5 : Bs), (lins s)[k]? = some x5 → List.length x5 + [(10 : UInt8)].length ≤ 9223372036854775807 ∧ (List.map strL (List.take k (fed s))).length = (List.take k (fed s)).length ∧ (0 : Nat) = 0 ∧ (List.take k (fed s)).length = (List.take k (fed s)).length ∧ (List.take k (fed s)).length + [AV.val (Value.string (ofL (x5 ++ [(10 : UInt8)])))].length = (List.take k (fed s)).length + 1 ∧ ((List.take k (fed s)).length + 1) * 16 ≤ (140737488355328 : Nat) ∧ (List.take k (fed
 s)).length + 1 ≤ (9223372036854775807 : Nat) ∧ InI64 ((↑k : Int) + 1) ∧ ∃ (j7 : Nat), ((List.map strL (lins s) = List.map strL (lins s) ∧ endB s = endB s ∧ ((List.take k (fed s)).length + 1 = (List.take j7 (fed s)).length ∧ (0 : Nat) = 0 ∧ (List.take k (fed s)).length + 1 = (List.take j7 (fed s)).length) ∧ (↑k : Int) + 1 = (↑j7 : Int) ∧ True) ∧ List.map strL (List.take k (fed s)) ++ [AV.val (Value.string (ofL (x5 ++ [(10 : UInt8)])))] = List.map strL (List.take j7 (fed s))) ∧ j7 ≤ (lins s).length ∧ (lins s).length - j7 < (lins s).length - k) ∧ (endB s = false → InI64 ((↑k : Int) + 1) ∧ (List.map strL (lins s)).length = (lins s).length ∧ (decide ((↑k : Int) + 1 < (↑(lins s).length : Int)) = true → List.map strL (lins s) = List.map strL (lins s) ∧ (↑k : Int) = (↑k : Int) ∧ k < (lins s).length ∧ ∀ (x10 : Bs), (lins s)[k]? = some x10 → List.length x10 + [(10 : UInt8)].length ≤ 9223372036854775807 ∧ (List.map strL (List.take k (fed s))).length = (List.take k (fed s)).length ∧ (0 : Nat) = 0 ∧ (List.take k (fed s)).length = (List.take k (fed s)).length ∧ (List.take k (fed s)).length + [AV.val (Value.string (ofL
 (x10 ++ [(10 : UInt8)])))].length = (List.take k (fed s)).length + 1 ∧ ((List.take k (fed s)).length + 1) * 16 ≤ (140737488355328 : Nat) ∧ (List.take k (fed s)).length + 1 ≤ (9223372036854775807 : Nat) ∧ InI64 ((↑k : Int) + 1) ∧ ∃ (j12 : Nat), ((List.map strL (lins s) = List.map strL (lins s) ∧ endB s = endB s ∧ ((List.take k (fed s)).length + 1 = (List.take j12 (fed s)).length ∧ (0 : Nat) = 0 ∧ (List.take k (fed s)).length + 1 = (List.take j12 (fed s)).length) ∧ (↑k : Int) + 1 = (↑j12 : Int) ∧ True) ∧ List.map strL (List.take k (fed s)) ++ [AV.val (Value.string (ofL (x10 ++ [(10 : UInt8)])))] = List.map strL (List.take j12 (fed s))) ∧ j12 ≤ (lins s).length ∧ (lins s).length - j12 < (lins s).length - k) ∧ (decide ((↑k : Int) + 1 < (↑(lins s).length : Int)) = false → List.map strL (lins s) = List.map strL (lins s) ∧ (↑k : Int) = (↑k : Int) ∧ k < (lins s).length ∧ ∀ (x14 : Bs), (lins s)[k]? = some x14 → (List.map strL (List.take k (fed s))).length = (List.take k (fed s)).length ∧ (0 : Nat) = 0 ∧ (List.take k (fed s)).length = (List.take k (fed s)).length ∧ (List.take k (fed s)).length + [AV.val (Value.string
 (ofL x14))].length = (List.take k (fed s)).length + 1 ∧ ((List.take k (fed s)).length + 1) * 16 ≤ (140737488355328 : Nat) ∧ (List.take k (fed s)).length + 1 ≤ (9223372036854775807 : Nat) ∧ InI64 ((↑k : Int) + 1) ∧ ∃ (j16 : Nat), ((List.map strL (lins s) = List.map strL (lins s) ∧ endB s = endB s ∧ ((List.take k (fed s)).length + 1 = (List.take j16 (fed s)).length ∧ (0 : Nat) = 0 ∧ (List.take k (fed s)).length + 1 = (List.take j16 (fed s)).length) ∧ (↑k : Int) + 1 = (↑j16 : Int) ∧ True) ∧ List.map strL (List.take k (fed s)) ++ [AV.val (Value.string (ofL x14))] = List.map strL (List.take j16 (fed s))) ∧ j16 ≤ (lins s).length ∧ (lins s).length - j16 < (lins s).length - k))) ∧ (decide ((↑k : Int) < (↑(lins s).length : Int)) = false → (List.map strL (List.take k (fed s))).length = (List.take k (fed s)).length ∧ List.take (List.take k (fed s)).length (List.drop (0 : Nat) (List.map strL (List.take k (fed s)))) = List.map strL (List.take k (fed s)) ∧ List.map strL (List.take k (fed s)) = List.map strL (fed s)))) ?_
 refine ⟨(ll), ⟨(0 : Nat), ⟨⟨rfl, rfl, ⟨rfl, rfl, rfl⟩, (by omega), trivial⟩, rfl⟩, (by omega)⟩, fun k => fun h2 => ⟨(by simp), fun h3_ => have h3 := dT h3_; ⟨fun h4 => ⟨rfl, rfl, rfl, (by omega), fun x5 => fun h6 => ⟨?_, (by simp), rfl, rfl, rfl, (by simp; omega), (by simp; omega), (by unfold InI64; omega), ⟨k + (1 : Nat), ⟨⟨rfl, rfl, ⟨?_, rfl, ?_⟩, (by omega), trivial⟩, ?_⟩, ⟨(by omega), (by omega)⟩⟩⟩⟩, fun h8 => ⟨(by unfold InI64; omega), (by simp), fun h9_ => have h9 := dT h9_; ⟨rfl, rfl, (by omega), fun x10 => fun h11 => ⟨?_, (by simp), rfl, rfl, rfl, (by simp; omega), (by simp; omega), (by unfold InI64; omega), ⟨k + (1 : Nat), ⟨⟨rfl, rfl, ⟨?_, rfl, ?_⟩, (by omega), trivial⟩, ?_⟩, ⟨(by omega), (by omega)⟩⟩⟩⟩, fun h13_ => have h13 := dF h13_; ⟨rfl, rfl, (by omega), fun x14 => fun h15 => ⟨(by simp), rfl, rfl, rfl, (by simp; omega), (by simp; omega), (by unfold InI64; omega), ⟨k + (1 : Nat), ⟨⟨rfl, rfl, ⟨?_, rfl, ?_⟩, (by omega), trivial⟩, ?_⟩, ⟨(by omega), (by omega)⟩⟩⟩⟩⟩⟩, fun h17_ => have h17 := dF h17_; ⟨(by simp), ?_, ?_⟩⟩⟩
 ·have := (lens_mem (List.mem_of_getElem? h6)); have := lins_lens s; simp only [List.length_singleton]; omega
 iterate 2 · exact fed_ln1 h3
 ·exact fed_st h6 (by simp [h4])
 ·have := (lens_mem (List.mem_of_getElem? h11)); have := lins_lens s; simp only [List.length_singleton]; omega
 iterate 2 · exact fed_ln1 h3
 ·exact fed_st h11 (by rw [if_pos (Or.inr (by omega))])
 iterate 2 · exact fed_ln1 h3
 ·exact fed_st h15 (by rw [h8, if_neg (fun q => q.elim (fun e => by cases e) (fun e => by omega))])
 ·rw [List.drop_zero, List.take_of_length_le (by simp)]
 ·exact congrArg (List.map strL) (List.take_of_length_le (by rw [hfl]; omega))
theorem count_run (l : List DL) (hl : l.length ≤ maxLen) : (R FT X).f 33 [.slice 3 (l.map encDL)] = some (.tuple [intA (cA l), intA (cB l)]) := by
 have hm := maxLen_i64
 refine R_wp ((Tr.inv (fun (k : Nat) ↦ St.mk [(0, AV.slice 3 (List.map encDL l)), (4, intA (↑(cA (List.take k l)) : Int)), (5, intA (↑(cB (List.take k l)) : Int)), (6, intA (↑k : Int))] []) (fun (k : Nat) ↦ k ≤ l.length) (fun (k : Nat) ↦ l.length - k) fun (k : Nat) ↦ (Tr.k l.length ((Tr.ix encDL l k fun (x4 : DL) ↦ ((Tr.ix encDL l k fun (x7 : DL) ↦ (Tr.nil.w.w.br Tr.nil.w).w).w.w.br (Tr.ix encDL l k fun (x14 : DL) ↦ (Tr.nil.w.w.br Tr.nil.w).w).w).w).w.w.br Tr.nil)).w).w) rfl ?_
 refine Eq.mpr (by kernel_rfl : _ = ((∃ (j1 : Nat), ((List.map encDL l = List.map encDL l ∧ (0 : Int) = (↑(cA (List.take j1 l)) : Int) ∧ (0 : Int) = (↑(cB (List.take j1 l)) : Int) ∧ (0 : Int) = (↑j1 : Int) ∧ True) ∧ True) ∧ j1 ≤ l.length) ∧ ∀ (k : Nat), k ≤ l.length → (List.map encDL l).length = l.length ∧ (decide ((↑k : Int) < (↑l.length : Int)) = true → List.map encDL l = List.map encDL l ∧ (↑k : Int) = (↑k : Int) ∧ k < l.length ∧ ∀ (x4 : DL), l[k]? = some x4 → ((!decide (x4.op = 3)) = true → InI64 ((↑(cA (List.take k l)) : Int) + 1) ∧ List.map encDL l = List.map encDL l ∧ (↑k : Int) = (↑k : Int) ∧ k < l.length ∧ ∀ (x7 : DL), l[k]? = some x7 → ((!decide (x7.op = 2)) = true → InI64 ((↑(cB (List.take k l)) : Int) + 1) ∧ InI64 ((↑k : Int) + 1) ∧ ∃ (j10 : Nat), ((List.map encDL l = List.map encDL l ∧ (↑(cA (List.take k l)) : Int) + 1 = (↑(cA (List.take j10 l)) : Int) ∧ (↑(cB (List.take k l)) : Int) + 1 = (↑(cB (List.take j10 l)) : Int) ∧ (↑k : Int) + 1 = (↑j10 : Int) ∧ True) ∧ True) ∧ j10 ≤ l.length ∧ l.length - j10 < l.length - k) ∧ ((!decide (x7.op = 2)) = false → InI64 ((↑k : Int) + 1) ∧ ∃ (j12 : Nat), ((List.map encDL l = List.map encDL l
 ∧ (↑(cA (List.take k l)) : Int) + 1 = (↑(cA (List.take j12 l)) : Int) ∧ (↑(cB (List.take k l)) : Int) = (↑(cB (List.take j12 l)) : Int) ∧ (↑k : Int) + 1 = (↑j12 : Int) ∧ True) ∧ True) ∧ j12 ≤ l.length ∧ l.length - j12 < l.length - k)) ∧ ((!decide (x4.op = 3)) = false → List.map encDL l = List.map encDL l ∧ (↑k : Int) = (↑k : Int) ∧ k < l.length ∧ ∀ (x14 : DL), l[k]? = some x14 → ((!decide (x14.op = 2)) = true → InI64 ((↑(cB (List.take k l)) : Int) + 1) ∧ InI64 ((↑k : Int) + 1) ∧ ∃ (j17 : Nat), ((List.map encDL l = List.map encDL l ∧ (↑(cA (List.take k l)) : Int) = (↑(cA (List.take j17 l)) : Int) ∧ (↑(cB (List.take k l)) : Int) + 1 = (↑(cB (List.take j17 l)) : Int) ∧ (↑k : Int) + 1 = (↑j17 : Int) ∧ True) ∧ True) ∧ j17 ≤ l.length ∧ l.length - j17 < l.length - k) ∧ ((!decide (x14.op = 2)) = false → InI64 ((↑k : Int) + 1) ∧ ∃ (j19 : Nat), ((List.map encDL l = List.map encDL l ∧ (↑(cA (List.take k l)) : Int) = (↑(cA (List.take j19 l)) : Int) ∧ (↑(cB (List.take k l)) : Int) = (↑(cB (List.take j19 l)) : Int) ∧ (↑k : Int) + 1 = (↑j19 : Int) ∧ True) ∧ True) ∧ j19 ≤ l.length ∧ l.length - j19 < l.length - k)))
 ∧ (decide ((↑k : Int) < (↑l.length : Int)) = false → (↑(cA (List.take k l)) : Int) = (↑(cA l) : Int) ∧ (↑(cB (List.take k l)) : Int) = (↑(cB l) : Int)))) ?_
 refine ⟨⟨(0 : Nat), ⟨⟨rfl, rfl, rfl, (by omega), trivial⟩, trivial⟩, (by omega)⟩, fun k => fun h2 => ⟨(by simp), fun h3_ => have h3 := dT h3_; ⟨rfl, rfl, (by omega), fun x4 => fun h5 => ⟨fun h6_ => have h6 := dnT h6_; ⟨?_, rfl, rfl, (by omega), fun x7 => fun h8 => ⟨fun h9_ => have h9 := dnT h9_; ⟨?_, (by unfold InI64; omega), ⟨k + (1 : Nat), ⟨⟨rfl, ?_, ?_, (by omega), trivial⟩, trivial⟩, ⟨(by omega), (by omega)⟩⟩⟩, fun h11_ => have h11 := dnF h11_; ⟨(by unfold InI64; omega), ⟨k + (1 : Nat), ⟨⟨rfl, ?_, ?_, (by omega), trivial⟩, trivial⟩, ⟨(by omega), (by omega)⟩⟩⟩⟩⟩, fun h13_ => have h13 := dnF h13_; ⟨rfl, rfl, (by omega), fun x14 => fun h15 => ⟨fun h16_ => have h16 := dnT h16_; ⟨?_, (by unfold InI64; omega), ⟨k + (1 : Nat), ⟨⟨rfl, ?_, ?_, (by omega), trivial⟩, trivial⟩, ⟨(by omega), (by omega)⟩⟩⟩, fun h18_ => have h18 := dnF h18_; ⟨(by unfold InI64; omega), ⟨k + (1 : Nat), ⟨⟨rfl, ?_, ?_, (by omega), trivial⟩, trivial⟩, ⟨(by omega), (by omega)⟩⟩⟩⟩⟩⟩⟩, fun h20_ => have h20 := dF h20_; ⟨?_, ?_⟩⟩⟩
 all_goals have h1 := cA_le (l.take k)
 all_goals have h2' := cB_le (l.take k)
 all_goals rw [List.length_take] at h1 h2'
 iterate 2 · unfold InI64; omega
 ·rw [cA_take h5, if_neg h6]; rfl
 ·rw [cB_take h8, if_neg h9]; rfl
 ·rw [cA_take h5, if_neg h6]; rfl
 ·rw [cB_take h8, if_pos h11]; rfl
 ·unfold InI64; omega
 ·rw [cA_take h5, if_pos h13]; rfl
 ·rw [cB_take h15, if_neg h16]; rfl
 ·rw [cA_take h5, if_pos h13]; rfl
 ·rw [cB_take h15, if_pos h18]; rfl
 iterate 2 · rw [List.take_of_length_le (by omega)]
end
end Go.Proofs.YtfbpbkcplpkndaaGreatDoor
end
section
namespace Go.Proofs.YtfbpbkcplpkndaaGreatDoor
set_option linter.unusedVariables false
set_option linter.unusedSimpArgs false
set_option maxRecDepth 100000
structure LcsC (X : CallF) : Prop where
 scr : ∀ a b : List Bs, a.length ≤ 400 → b.length ≤ 400 → (R FT X).f 62 [.slice 1 (a.map strL), .slice 1 (b.map strL)] = some (.slice 4 ((script a b).map encEd))
 dst : ∀ a b : List Bs, a.length ≤ 500 → b.length ≤ 500 → (R FT X).f 26 [.slice 1 (a.map strL), .slice 1 (b.map strL)] = some (intA (dist a b : Nat))
structure Lc2C (X : CallF) : Prop where
 sc2 : ∀ a b : List Bs, a.length ≤ 60 → b.length ≤ 60 → (R FT X).f 65 [.slice 1 (a.map strL), .slice 1 (b.map strL)] = some (.slice 4 ((script a b).map encEd))
section
variable {X : CallF}
end
end Go.Proofs.YtfbpbkcplpkndaaGreatDoor
end
section
namespace Go.Proofs.YtfbpbkcplpkndaaGreatDoor
set_option linter.unusedVariables false
set_option linter.unusedSimpArgs false
set_option maxRecDepth 100000
open Go.RowKit
def strV (s : ByteArray) : AV := .val (.string s)
def unstr : List AV → Option (List ByteArray)
 | [] => some []
 | .val (.string s) :: r => (unstr r).map (s :: ·)
 | _ => none
theorem unstr_eq : ∀ {x : List AV} {a : List ByteArray}, unstr x = some a → x = a.map strV
 | [], a, h => by simp [unstr] at h; subst h; rfl
 | y :: r, a, h => by
  unfold unstr at h
  split at h
  ·rename_i e; cases e
  ·rename_i s r' e
   injection e with e1 e2
   subst e1 e2
   simp only [Option.map_eq_some_iff] at h
   obtain ⟨a', h', rfl⟩ := h
   rw [unstr_eq h']; rfl
  ·cases h
def eds (l : List Ed) : AV := .slice 4 (l.map encEd)
def sAt (a : List ByteArray) (i : Nat) : ByteArray := a.getD i ⟨#[]⟩
theorem listOf_sAt (a : List ByteArray) : listOf (sAt a) a.length = a := by
 apply List.ext_getElem?
 intro i
 by_cases h : i < a.length
 ·rw [listOf_get _ h]; simp [sAt, h]
 ·rw [List.getElem?_eq_none (by rw [listOf_length]; omega), List.getElem?_eq_none (by omega)]
theorem rep_strs {X : Nat → Nat → Prop} {w : World} {v : Value} {a : List ByteArray} (h : Rep (Stab X [] w) w [] v (.slice 1 (a.map strV))) :
    ∃ A c, v = .slice A a.length c ∧ Sl w A a.length (fun i => .string (sAt a i)) ∧ a.length ≤ c ∧ (A = none → a.length = 0 ∧ c = 0) := by
  generalize hx : a.map strV = x at h
  have hlen : x.length = a.length := by rw [← hx]; simp
  cases h with
  | slice b off sz u hc hz hA hsz hcell hrep =>
    rename_i A c
    refine ⟨A, c, by rw [hlen], fun hn => ?_, by omega, fun hA0 => ⟨by have := hz hA0; omega, hz hA0⟩⟩
    refine ⟨b, off, hA (by omega), ?_, fun i hi => ?_⟩
    · have h0 : x[0]? = some (strV (sAt a 0)) := by rw [← hx]; simp [sAt, hn]
      exact (hcell 0 _ 0 (strV (sAt a 0)) h0 rfl).2.1
    · have h0 : x[i]? = some (strV (sAt a i)) := by rw [← hx]; simp [sAt, hi]
      have h1 := (hcell i _ 0 (strV (sAt a i)) h0 rfl).1
      have h2 := rep_val (hrep i _ 0 (strV (sAt a i)) h0 rfl)
      rw [h2] at h1
      simpa using h1
def dstX : List AV → Option AV
 | [.slice 1 x, .slice 1 y] => (match unstr x, unstr y with
  | some a, some b => if a.length ≤ 500 ∧ b.length ≤ 500 then some (.val (.int .i64 (dist a b : Nat))) else none
  | _, _ => none)
 | _ => none
def scrX : List AV → Option AV
 | [.slice 1 x, .slice 1 y] => (match unstr x, unstr y with
  | some a, some b => if a.length ≤ 400 ∧ b.length ≤ 400 then some (eds (script a b)) else none
  | _, _ => none)
 | _ => none
def idxX : List AV → Option AV
 | [.val (.string s), .val (.int .u8 c)] => some (intA (Lib.indexByte s.data.toList c.toNat.toUInt8))
 | _ => none
def hpX : List AV → Option AV
 | [.val (.string s), .val (.string p)] => some (boolA (Lib.hasPrefix (toL s) (toL p)))
 | _ => none
def cpX : List AV → Option AV
 | [.val (.string s), .val (.string p)] => some (.tuple [strL (Lib.trimPrefix (toL s) (toL p)), boolA (Lib.hasPrefix (toL s) (toL p))])
 | _ => none
def csX : List AV → Option AV
 | [.val (.string s), .val (.string p)] => if s.size ≤ 9223372036854775807 then some (.tuple [strL (Lib.trimSuffix (toL s) (toL p)), boolA (Lib.hasSuffix (toL s) (toL p))]) else none
 | _ => none
def ctX : List AV → Option AV
 | [.val (.string s), .val (.string p)] => if s.size < 4294967281 then some (.tuple [strL (Lib.cut (toL s) (toL p)).1, strL (Lib.cut (toL s) (toL p)).2.1, boolA (Lib.cut (toL s) (toL p)).2.2]) else none
 | _ => none
def coX : List AV → Option AV
 | [.val (.string s), .val (.string p)] => (match toL p with
  | [c] => some (boolA (decide (0 ≤ Lib.indexByte (toL s) c)))
  | _ => none)
 | _ => none
def ccX : List AV → List MObj → Option (AV × List MObj)
 | [.ptr id 0], m => if ccOk id m = true then some (.tuple [], m) else none
 | _, _ => none
def bsX : List AV → List MObj → Option (AV × List MObj)
 | [.ptr id 0], m => bsM id m
 | _, _ => none
theorem fr_drew (w : World) (n : Nat) : Fr (fun _ => False) w (w.drewN n) := ⟨rfl, rfl, rfl, Nat.le_refl _, fun _ _ _ => rfl⟩
theorem gr_max {S : Nat → Nat → Prop} {w : World} {H : List Hd} (h : GR S w H) : ∃ k : Int, w.cell? ⟨0, 0, none⟩ = some (.int .i64 k) := by
 obtain ⟨m, h1, -⟩ := h.i 0 (by decide)
 exact ⟨m, h1⟩
theorem rep_t2 {S : Nat → Nat → Prop} {w : World} {H : List Hd} (a b : Value) : Rep S w H (.tuple #[a, b]) (.tuple [.val a, .val b]) := .tuple rfl fun i y hy => by
 match i, hy with
 | 0, hy => simp at hy; subst hy; exact .val _ _
 | 1, hy => simp at hy; subst hy; exact .val _ _
theorem rep_t3 {S : Nat → Nat → Prop} {w : World} {H : List Hd} (a b c : Value) : Rep S w H (.tuple #[a, b, c]) (.tuple [.val a, .val b, .val c]) := .tuple rfl fun i y hy => by
 match i, hy with
 | 0, hy => simp at hy; subst hy; exact .val _ _
 | 1, hy => simp at hy; subst hy; exact .val _ _
 | 2, hy => simp at hy; subst hy; exact .val _ _
theorem idxX_ok {vs : List AV} {r : AV} (h : idxX vs = some r) : CallOk Tryz.prog 69 vs r := by
 unfold idxX at h
 split at h
 ·rename_i s c
  injection h with h; subst h
  intro X w cs hX hG hr
  obtain ⟨u, v, rfl, h1, h2⟩ := args2 hr
  obtain rfl := rep_val h1
  obtain rfl := rep_val h2
  exact (Tryz.strings_IndexByte s c w).mono fun e w' ⟨q1, q2⟩ => by subst q1 q2; exact ⟨_, rfl, .val _ _, Fr.refl _ _⟩
 ·cases h
theorem hpX_ok {vs : List AV} {r : AV} (h : hpX vs = some r) : CallOk Tryz.prog 80 vs r := by
 unfold hpX at h
 split at h
 ·rename_i s p
  injection h with h; subst h
  intro X w cs hX hG hr
  obtain ⟨u, v, rfl, h1, h2⟩ := args2 hr
  obtain rfl := rep_val h1
  obtain rfl := rep_val h2
  exact (Tryz.strings_HasPrefix s p w).mono fun e w' ⟨q1, q2⟩ => by subst q1 q2; exact ⟨_, rfl, .val _ _, Fr.refl _ _⟩
 ·cases h
theorem cpX_ok {vs : List AV} {r : AV} (h : cpX vs = some r) : CallOk Tryz.prog 97 vs r := by
 unfold cpX at h
 split at h
 ·rename_i s p
  injection h with h; subst h
  intro X w cs hX hG hr
  obtain ⟨u, v, rfl, h1, h2⟩ := args2 hr
  obtain rfl := rep_val h1
  obtain rfl := rep_val h2
  exact (Tryz.strings_CutPrefix s p w).mono fun e w' ⟨q1, q2⟩ => by subst q1 q2; exact ⟨_, rfl, rep_t2 _ _, Fr.refl _ _⟩
 ·cases h
theorem csX_ok {vs : List AV} {r : AV} (h : csX vs = some r) : CallOk Tryz.prog 63 vs r := by
 unfold csX at h
 split at h
 ·rename_i s p
  split at h
  ·rename_i hle
   injection h with h; subst h
   intro X w cs hX hG hr
   obtain ⟨u, v, rfl, h1, h2⟩ := args2 hr
   obtain rfl := rep_val h1
   obtain rfl := rep_val h2
   exact (Tryz.strings_CutSuffix s p w hle).mono fun e w' ⟨q1, q2⟩ => by subst q1 q2; exact ⟨_, rfl, rep_t2 _ _, Fr.refl _ _⟩
  ·cases h
 ·cases h
theorem ctX_ok {vs : List AV} {r : AV} (h : ctX vs = some r) : CallOk Tryz.prog 100 vs r := by
 unfold ctX at h
 split at h
 ·rename_i s p
  split at h
  ·rename_i hle
   injection h with h; subst h
   intro X w cs hX hG hr
   obtain ⟨u, v, rfl, h1, h2⟩ := args2 hr
   obtain rfl := rep_val h1
   obtain rfl := rep_val h2
   obtain ⟨m, hm⟩ := gr_max hG
   exact (Tryz.strings_Cut s p m w hle hm).mono fun e w' ⟨q1, n, q2⟩ => by subst q1 q2; exact ⟨_, rfl, rep_t3 _ _ _, fr_drew _ _⟩
  ·cases h
 ·cases h
theorem coX_ok {vs : List AV} {r : AV} (h : coX vs = some r) : CallOk Tryz.prog 67 vs r := by
 unfold coX at h
 split at h
 ·rename_i s t
  split at h
  ·rename_i c hc
   injection h with h; subst h
   intro X w cs hX hG hr
   obtain ⟨u, v, rfl, h1, h2⟩ := args2 hr
   obtain rfl := rep_val h1
   obtain rfl := rep_val h2
   have ht : t = ⟨#[c]⟩ := by rw [← ofL_toL t, hc]; rfl
   subst ht
   exact (Tryz.strings_Contains_one s c w).mono fun e w' ⟨q1, q2⟩ => by subst q1 q2; exact ⟨_, rfl, .val _ _, Fr.refl _ _⟩
  ·cases h
 ·cases h
theorem ccX_ok {vs : List AV} {m m' : List MObj} {r : AV} (h : ccX vs m = some (r, m')) : CallOkM Tryz.prog 68 vs m r m' := by
 unfold ccX at h
 split at h
 ·split at h
  ·rename_i hc
   simp only [Option.some.injEq, Prod.mk.injEq] at h
   obtain ⟨rfl, rfl⟩ := h
   exact cc_ok hc
  ·cases h
 ·cases h
theorem bsX_ok {vs : List AV} {m m' : List MObj} {r : AV} (h : bsX vs m = some (r, m')) : CallOkM Tryz.prog 40 vs m r m' := by
 unfold bsX at h
 split at h
 ·exact bs_ok h
 ·cases h
theorem dstX_ok {vs : List AV} {r : AV} (h : dstX vs = some r) : CallOk Tryz.prog 26 vs r := by
 unfold dstX at h
 split at h
 ·split at h
  ·rename_i a b ha hb
   obtain rfl := unstr_eq ha
   obtain rfl := unstr_eq hb
   split at h
   ·rename_i hle
    injection h with h; subst h
    intro X w us hX hG hr
    obtain ⟨u, v, rfl, h1, h2⟩ := args2 hr
    obtain ⟨A, c, rfl, g1, _⟩ := rep_strs h1
    obtain ⟨B, d, rfl, g2, _⟩ := rep_strs h2
    refine (Distance_any hle.1 hle.2 g1 g2).mono fun e w' ⟨q1, q2⟩ => ⟨_, q1, ?_, q2⟩
    rw [listOf_sAt, listOf_sAt]; exact .val _ _
   ·cases h
  ·cases h
 ·cases h
theorem scrX_ok {vs : List AV} {r : AV} (h : scrX vs = some r) : CallOk Tryz.prog 62 vs r := by
 unfold scrX at h
 split at h
 ·split at h
  ·rename_i a b ha hb
   obtain rfl := unstr_eq ha
   obtain rfl := unstr_eq hb
   split at h
   ·rename_i hle
    injection h with h; subst h
    intro X w us hX hG hr
    obtain ⟨u, v, rfl, h1, h2⟩ := args2 hr
    obtain ⟨A, c, rfl, g1, _⟩ := rep_strs h1
    obtain ⟨B, d, rfl, g2, _⟩ := rep_strs h2
    refine (Script_any hle.1 hle.2 g1 g2).mono fun e w' hp => ?_
    rw [listOf_sAt, listOf_sAt] at hp
    obtain ⟨C, k, q1, q2, q3⟩ := hp
    refine ⟨_, q1, ?_, q3⟩
    unfold eds
    have hlen : ((script a b).map encEd).length = (script a b).length := by simp
    by_cases h0 : 0 < (script a b).length
    ·obtain ⟨g, cur, rfl, hb, hh, hc, hsz, hget⟩ := q2.form h0
     have key : ∀ (i : Nat) (x : AV), ((script a b).map encEd)[i]? = some x → ∃ e, (script a b)[i]? = some e ∧ x = encEd e := fun i x hx => by
      simp only [List.getElem?_map, Option.map_eq_some_iff] at hx
      obtain ⟨e, he, rfl⟩ := hx
      exact ⟨e, he, rfl⟩
     have := Rep.slice (S := Stab X [] w') (w := w') (H := []) (A := some ⟨g, 0, none⟩) (c := k) (l := (script a b).map encEd) g 0 4 (fun i j => cur.getD (i * 4 + j) undef) (by omega) (fun q => by cases q) (fun _ => rfl)
      (fun i x hx => by obtain ⟨e, _, rfl⟩ := key i x hx; exact ⟨rfl, rfl⟩)
      (fun i x j y hx hy => by
       obtain ⟨e, he, rfl⟩ := key i x hx
       have hil := (List.getElem?_eq_some_iff.1 he).1
       have hj : j < 4 := (List.getElem?_eq_some_iff.1 hy).1
       refine ⟨by rw [Nat.zero_add]; exact cell_getD hh (by omega), lt_of_heap hh, fun hx => ?_, by rintro ⟨i, k, hk, _⟩; simp at hk⟩
       have := hX _ _ hx; omega)
      (fun i x j y hx hy => by
       obtain ⟨e, he, rfl⟩ := key i x hx
       have hil := (List.getElem?_eq_some_iff.1 he).1
       have hj : j < 4 := (List.getElem?_eq_some_iff.1 hy).1
       have hg := hget i hil j hj
       have he' : (script a b)[i] = e := by rw [List.getElem?_eq_getElem hil] at he; injection he
       rw [he'] at hg
       rw [Array.getD_eq_getD_getElem?, hg]
       match j, hj with
       | 0, _ => simp [encEd, AV.cells] at hy; subst hy; exact .val _ _
       | 1, _ => simp [encEd, AV.cells] at hy; subst hy; exact .val _ _
       | 2, _ => simp [encEd, AV.cells] at hy; subst hy; exact .val _ _
       | 3, _ => simp [encEd, AV.cells] at hy; subst hy; exact .val _ _)
     rw [hlen] at this
     exact this
    ·have hnil : script a b = [] := List.eq_nil_of_length_eq_zero (by omega)
     rw [hnil] at q2 ⊢
     rcases q2.2 with ⟨hv, _⟩ | ⟨g, cap, cur, hv, _, _, hle2, _⟩
     ·injection hv with e1 e2 e3
      subst e1 e3
      exact .slice (l := []) 0 0 4 (fun _ _ => undef) (Nat.le_refl _) (fun _ => rfl) (fun q => by simp at q) (fun i x hx => by simp at hx) (fun i x j y hx => by simp at hx) (fun i x j y hx => by simp at hx)
     ·injection hv with e1 e2 e3
      subst e1 e3
      exact .slice (l := []) 0 0 4 (fun _ _ => undef) (Nat.zero_le _) (fun q => by cases q) (fun q => by simp at q) (fun i x hx => by simp at hx) (fun i x j y hx => by simp at hx) (fun i x j y hx => by simp at hx)
   ·cases h
  ·cases h
 ·cases h
def XS : CallF := ⟨fun f vs => if f = 95 then itoaX vs else if f = 132 then atoiX vs else if f = 69 then idxX vs else if f = 80 then hpX vs else if f = 97 then cpX vs else if f = 63 then csX vs else if f = 100 then ctX vs else if f = 67 then coX vs else if f = 26 then dstX vs else if f = 62 then scrX vs else none,
 fun f vs m => if f = 68 then ccX vs m else if f = 40 then bsX vs m else if f = 48 then linesX vs m else none⟩
theorem XS_ok : CallsOk Tryz.prog XS := by
 refine ⟨fun f vs r h => ?_, fun f vs m r m' h => ?_⟩
 ·simp only [XS] at h
  split at h
  ·rename_i hf; subst hf; exact itoaX_ok h
  split at h
  ·rename_i hf; subst hf; exact atoiX_ok h
  split at h
  ·rename_i hf; subst hf; exact idxX_ok h
  split at h
  ·rename_i hf; subst hf; exact hpX_ok h
  split at h
  ·rename_i hf; subst hf; exact cpX_ok h
  split at h
  ·rename_i hf; subst hf; exact csX_ok h
  split at h
  ·rename_i hf; subst hf; exact ctX_ok h
  split at h
  ·rename_i hf; subst hf; exact coX_ok h
  split at h
  ·rename_i hf; subst hf; exact dstX_ok h
  split at h
  ·rename_i hf; subst hf; exact scrX_ok h
  cases h
 ·simp only [XS] at h
  split at h
  ·rename_i hf; subst hf; exact ccX_ok h
  split at h
  ·rename_i hf; subst hf; exact bsX_ok h
  split at h
  ·rename_i hf; subst hf; exact linesX_ok h fun S w H hG => gr_max hG
  cases h
theorem XS_num : NumC XS where
 itoa n hn := R_ext rfl (by
  show itoaX [intA n] = _
  simp only [itoaX, intA]
  rw [if_pos hn])
 ok s hs hd hi := R_ext rfl (by
  show atoiX [strL s] = _
  have e : (ofL s).data.toList = s := rfl
  simp only [atoiX, strL]
  rw [if_pos (show (ofL s).size ≤ 281474976710656 from hs), e, atoi_dec hd, if_pos hi])
 over s hs hd hi := R_ext rfl (by
  show atoiX [strL s] = _
  have e : (ofL s).data.toList = s := rfl
  simp only [atoiX, strL]
  rw [if_pos (show (ofL s).size ≤ 281474976710656 from hs), e, atoi_dec hd, if_neg hi])
theorem XS_bld : BldC XS where
 cc id m h := RM_ext rfl (by
  show ccX [.ptr id 0] m = _
  simp only [ccX]
  rw [if_pos h])
 str id rid ver used m c l wr bs m' h1 h2 h3 h4 h5 h6 := RM_ext rfl (by
  show bsM id m = _
  rw [bsM_of h1 h2 h3 h4 h5]
  exact congrArg (fun q => some (strL bs, q)) h6)
theorem XS_lib : LibC XS where
 ib s c := R_ext rfl (by
  show idxX [strL s, u8A c] = _
  have e : (ofL s).data.toList = s := rfl
  simp only [idxX, strL, u8A, e]
  simp)
 hp s p := R_ext rfl rfl
 cp s p := R_ext rfl rfl
 cs s p hs := R_ext rfl (by
  show csX [strL s, strL p] = _
  simp only [csX, strL]
  rw [if_pos (Nat.le_trans (show (ofL s).size ≤ maxLen from hs) (by decide +kernel))]
  rfl)
 ct s p hs := R_ext rfl (by
  show ctX [strL s, strL p] = _
  simp only [ctX, strL]
  rw [if_pos (Nat.lt_of_le_of_lt (show (ofL s).size ≤ 4000000000 from hs) (by decide))]
  rfl)
 co s c := R_ext rfl rfl
 ln s m hs := RM_ext rfl (by
  show linesX [strL s] m = _
  simp only [linesX, strL]
  rw [if_pos (show (ofL s).size ≤ 4000000000 from hs)]
  rfl)
section
variable {α β : Type} [DecidableEq α] [DecidableEq β]
end
end Go.Proofs.YtfbpbkcplpkndaaGreatDoor
end
section
namespace Go.Proofs.YtfbpbkcplpkndaaGreatDoor
set_option linter.unusedVariables false
set_option linter.unusedSimpArgs false
open Go.RowKit Go.ChangeShapes Go.WideShapes Go.ChangeAt Go.Deep
section
variable {H : Type} {enc : TypeId × Value → H}
set_option maxRecDepth 100000 in
end
theorem bulk_str {H : Type} {l : List UInt8} {d : DataW H} (hd : d = .lit (.string l)) {n : Nat} (h : Rows.uptoBulk d ≤ n) : l.length ≤ n := by
 subst hd; simp only [Rows.uptoBulk] at h; omega
theorem bulk_mem {H : Type} {d : DataW H} {l : List (DataW H)} (h : d ∈ l) : Rows.uptoBulk d ≤ Rows.uptoBulkAll l := by
 induction l with
 | nil => cases h
 | cons x r ih =>
  simp only [Rows.uptoBulkAll]
  cases List.mem_cons.1 h with
  | inl e => subst e; omega
  | inr e => have := ih e; omega
end Go.Proofs.YtfbpbkcplpkndaaGreatDoor
end
section
namespace Go.Proofs.YtfbpbkcplpkndaaGreatDoor
set_option linter.unusedVariables false
set_option linter.unusedSimpArgs false
open Go.RowKit Go.ChangeShapes Go.WideShapes Go.ChangeAt Go.Deep
set_option maxRecDepth 100000
section
variable {H : Type}
def dStr : DataW H → Bs
 | .lit (.string l) => l
 | _ => []
def dInt : DataW H → Int
 | .lit (.int _ n) => n
 | _ => 0
def dEls : DataW H → List (DataW H)
 | .slice l _ => l
 | _ => []
def dPart (d : DataW H) (i : Nat) : DataW H := match d with
 | .agg l => l.getD i .nil
 | _ => .nil
variable {enc : TypeId × Value → H} {w : World}
theorem rep_str {v : Value} {d : DataW H} {p : List MemPlace} {b0 : Nat} (hv : Value.okWide Tryz.prog w .any b0 9 v)
    (h : DataW.Trod enc Tryz.prog w 0 (fun _ => true) true 9 v d p) : (dStr d).length ≤ maxLen ∧ Rep (S0 w) w [] v (strL (dStr d)) ∧ d = .lit (.string (dStr d)) := by
  obtain ⟨h1, h2⟩ := rep_arg (s := .str) (by kernel_rfl) hv h
  obtain ⟨l, rfl, hl⟩ := Ty_str h1
  exact ⟨hl, h2, rfl⟩
end
theorem gr_df {W : World} (h : laidMetH Tryz.prog Rows.difftextParsesUptoRow.laid W) (hs : W.ShapedOpen Tryz.prog) : GR (S0 W) W [] := by
 rw [MakeChecks.laidMetH_plain _ _ _ (by kernel_rfl)] at h
 refine ⟨fun g l hg => ?_, fun g hg => ?_⟩
 ·unfold GT at hg
  split at hg
  ·rename_i e
   cases hg
   subst e
   have := gr_ints (n := "internal/strconv.uint64pow10") (g := 1) (t := 157) (e := 151) (k := .u64) (zs := pow10L.map fun (n : Nat) => (n : Int)) h (List.mem_of_getElem? (i := 2) rfl) (by kernel_rfl) (by kernel_rfl) (c := 20) (by kernel_rfl) (by kernel_rfl) (by kernel_rfl) (by kernel_rfl)
   exact this
  ·split at hg
   ·rename_i e
    cases hg
    subst e
    exact gr_err (t := 64) (n := "strconv.ErrRange") h (List.mem_of_getElem? (i := 4) rfl) (by kernel_rfl) (by kernel_rfl) Tryz.underlying64
   ·split at hg
    ·rename_i e
     cases hg
     subst e
     exact gr_err (t := 64) (n := "strconv.ErrSyntax") h (List.mem_of_getElem? (i := 5) rfl) (by kernel_rfl) (by kernel_rfl) Tryz.underlying64
    ·cases hg
 ·have e : g = 0 := by
   unfold GI at hg
   split at hg
   ·assumption
   ·cases hg
  subst e
  obtain ⟨m, hm⟩ := Go.Proofs.cell_of_shapedOpen_int (g := 0) (t := 3) (k := .i64) (zero := #[.int .i64 0]) hs (by decide +kernel) (by kernel_rfl) rfl (by kernel_rfl) (by kernel_rfl) Tryz.underlying3
  refine ⟨m, hm, s0_of ?_ _⟩
  unfold World.cell? at hm
  split at hm
  ·rename_i hh
   exact (Array.getElem?_eq_some_iff.1 hh).1
  ·cases hm
theorem door_met (os : Os) (args : Array Value) : laidMetH Tryz.prog Rows.difftextParsesUptoRow.laid ((World.laidAll Tryz.prog os Rows.difftextParsesUptoRow.laid).forCall (fun _ _ => 0) ⟨#[], args, []⟩).memory := by
 rw [MakeChecks.laidMetH_plain _ _ _ (by kernel_rfl)]; exact laidMet_laidAll _ (by kernel_rfl) (by kernel_rfl)
section
variable {H : Type} {enc : TypeId × Value → H}
theorem law_liftedUL {F : FuncId} {fn : Func} {s : ChangeSpec} {conds : List PathCond} {laid : List (String × DataW Unit)} {os : Os} {J : Stop.Interp} (started : os.Started) (noInit : Tryz.prog.inits.idxOf? F = none) (hfn : Tryz.prog.funcs[F]? = some fn)
    (hv : s.vars = []) (hs : ∀ ds : List (DataW H), ds.length = fn.params.size → s.fn H ds = { results := [.lit (.bool true)], args := ds }) (hres : fn.resultTypes = #[4])
    (hpar : ∀ t ∈ fn.params.toList, Tryz.prog.readableRec t = true ∧ t < Tryz.prog.types.size)
    (witness : ∃ (w : World) (tape : Tape) (i : Input), w.os = os ∧ (w.forCall tape i).Shaped Tryz.checked.prog ∧ i.vars = [] ∧ Input.okWide Tryz.checked.prog (w.forCall tape i) .any w.heap.size F i ∧
      (Rows.OpenSpec.upto s).preRow enc Tryz.checked.prog fn conds false laid (w.forCall tape i).memory i.args ∧ Assume.holds {} Tryz.checked.prog (lone (Frame.enter Tryz.checked.prog F i.args .normal) [] (w.forCall tape i)))
    (walk : ∀ (W : World) (base : Nat) (args : Array Value) (ds : List (DataW H)) (p : List MemPlace),
      (∀ (j : Nat) t v, fn.params[j]? = some t → args[j]? = some v → Value.okWide Tryz.prog W .any base t v) →
      DataW.TrodAll enc Tryz.prog W 0 (fun _ => true) true fn.params.toList args.toList ds p →
      Rows.uptoBulkAll ds ≤ 1048576 → laidMetH Tryz.prog laid W → W.ShapedOpen Tryz.prog →
      Calls Tryz.prog F args W fun e w' => e = .returned (.bool true) ∧ Below W.heap.size W w') :
    ReturnsInHanded {} Tryz.checked os F .any ((Rows.OpenSpec.upto s).preRow enc Tryz.prog fn conds false laid) (((Rows.OpenSpec.upto s).at J).post enc Tryz.prog fn false true false false) := by
  refine returnsInHanded_of_row (C := Tryz.checked) (s := Rows.OpenSpec.upto s) own started noInit hfn witness ?_
  intro W base args ds gs before hval hW hcnd hk0 hsz hL hSh _
  have hk := hk0 Rows.uptoSmall rfl
  have hW' := hW
  obtain ⟨p, q, hA, hV, rfl, hfz, hnd⟩ := hW
  have hv' : (Rows.OpenSpec.upto s).vars = [] := hv
  rw [hv'] at hV
  obtain ⟨rfl, rfl⟩ := trodVars_none hV
  have hlen : ds.length = fn.params.size := by
    have : ∀ {ts : List TypeId} {vs : List Value} {ds : List (DataW H)} {ps : List MemPlace}, DataW.TrodAll enc Tryz.checked.prog W 0 (fun _ => true) true ts vs ds ps → ds.length = ts.length := by
      intro ts
      induction ts with
      | nil => intro vs ds ps h; cases vs <;> cases ds <;> first | rfl | exact h.elim
      | cons t ts ih => intro vs ds ps h; cases vs <;> cases ds <;> first | exact h.elim | (obtain ⟨_, _, _, h2, _⟩ := h; simp [ih h2])
    rw [this hA]; simp
  rw [List.append_nil] at hk
  have hk' : Rows.uptoBulkAll ds ≤ 1048576 := of_decide_eq_true hk
  refine (walk W base args ds p hval hA hk' hL hSh).mono fun e W' ⟨he, bel⟩ => ?_
  subst he
  have h1 := hs (ds ++ []) (by simpa using hlen)
  have h1' : ((Rows.OpenSpec.upto s).at J).fn H (ds ++ []) = { results := [.lit (.bool true)], args := ds ++ [] } := h1
  have hv2 : ((Rows.OpenSpec.upto s).at J).vars = [] := hv
  refine ⟨_, rfl, ds, [], p ++ [], [], p, [], hW', ?_, ?_, ?_, bel.frame _, fun h => by cases h⟩
  · rw [h1', hres]; exact trodAll_mk1 (shut_bool Tryz.underlying4 _)
  · rw [h1']; simp only [List.append_nil]; exact trodAll_below bel hpar hA
  · rw [h1', hv2]; exact rfl
end
end Go.Proofs.YtfbpbkcplpkndaaGreatDoor
end
section
namespace Go.Proofs.YtfbpbkcplpkndaaGreatDoor
set_option linter.unusedVariables false
set_option linter.unusedSimpArgs false
set_option maxRecDepth 100000
section
variable {X : CallF}
end
end Go.Proofs.YtfbpbkcplpkndaaGreatDoor
end
section
namespace Go.Proofs.YtfbpbkcplpkndaaGreatDoor
set_option linter.unusedVariables false
set_option linter.unusedSimpArgs false
set_option linter.unusedSectionVars false
theorem cut_at {a b t : Bs} {x : UInt8} (h : ∀ c ∈ a, c ≠ x) : Lib.cut (a ++ (x :: t) ++ b) (x :: t) = (a, b, true) := by
 have hi : Lib.index (a ++ (x :: t) ++ b) (x :: t) = a.length := by
  refine Lib.index_first (by simp) ?_ fun j hj => ?_
  ·rw [Lib.occAt_iff_take _ _ _ (by simp)]
   simp
  ·cases ho : Lib.occAt (a ++ (x :: t) ++ b) (x :: t) j with
   | false => rfl
   | true =>
    have := Lib.occAt_head rfl ho
    rw [List.append_assoc, List.getElem?_append_left hj] at this
    exact absurd rfl (h x (List.mem_of_getElem? this))
 unfold Lib.cut
 rw [hi, if_pos (by omega)]
 simp
theorem cut_no {a t : Bs} {x : UInt8} (h : ∀ c ∈ a, c ≠ x) : Lib.cut a (x :: t) = (a, [], false) := by
 have hi : Lib.index a (x :: t) = -1 := Lib.index_none fun j _ => by
  cases ho : Lib.occAt a (x :: t) j with
  | false => rfl
  | true => exact absurd rfl (h x (List.mem_of_getElem? (Lib.occAt_head rfl ho)))
 unfold Lib.cut
 rw [hi]; rfl
end Go.Proofs.YtfbpbkcplpkndaaGreatDoor
end
section
namespace Go.Proofs.YtfbpbkcplpkndaaGreatDoor
set_option linter.unusedVariables false
set_option linter.unusedSimpArgs false
set_option linter.unusedSectionVars false
def jn (l : List Bs) : Bs := l.flatMap (· ++ [10])
theorem jn_app (a b : List Bs) : jn (a ++ b) = jn a ++ jn b := by simp [jn]
theorem lins_nil : lins [] = [] ∧ endB [] = true := ⟨rfl, rfl⟩
theorem lins_cons (y s : Bs) (hy : ∀ x ∈ y, x ≠ 10) : lins (y ++ 10 :: s) = y :: lins s ∧ endB (y ++ 10 :: s) = endB s := by
 have h := fl_shift 10 y s hy s.length
 have e : (y ++ 10 :: s).length = y.length + 1 + s.length := by simp; omega
 have hc := flds_cons 10 y s hy
 constructor
 ·unfold lins
  rw [e, h.1, h.2]
  by_cases q : flF 10 s s.length < s.length
  ·rw [if_pos (by omega), if_pos q, hc]
  ·rw [if_neg (by omega), if_neg q]
 ·unfold endB
  rw [e, h.1]
  congr 1
  apply propext; omega
theorem lins_jn : ∀ (l : List Bs), (∀ y ∈ l, ∀ c ∈ y, c ≠ 10) → lins (jn l) = l ∧ endB (jn l) = true
 | [], _ => lins_nil
 | y :: l, h => by
  have ih := lins_jn l fun z hz => h z (List.mem_cons_of_mem _ hz)
  have e : jn (y :: l) = y ++ 10 :: jn l := by simp [jn]
  have := lins_cons y (jn l) (h y (List.mem_cons_self))
  rw [e, this.1, this.2, ih.1, ih.2]; exact ⟨rfl, rfl⟩
def wrL (x : DL) : List Bs := (sgn x.op ++ x.tx) :: (if x.ne = true then [noE] else [])
def hkL (h : Hk) : List Bs := hdU h :: h.ls.flatMap wrL
def ptL (p : Pt) : List Bs := (mnA ++ esc p.old) :: (mnB ++ esc p.new) :: p.hs.flatMap hkL
theorem wrt_jn (x : DL) : wrt (sgn x.op) x = jn (wrL x) := by unfold wrt wrL jn; split <;> simp
theorem lsU_jn (l : List DL) : lsU l = jn (l.flatMap wrL) := by
 induction l with
 | nil => rfl
 | cons x l ih =>
  rw [show lsU (x :: l) = wrt (sgn x.op) x ++ lsU l by simp [lsU], List.flatMap_cons, jn_app, ih, wrt_jn]
theorem hkU_jn (h : Hk) : hkU h = jn (hkL h) := by
 rw [show jn (hkL h) = hdU h ++ [10] ++ jn (h.ls.flatMap wrL) by simp [jn, hkL], hkU, lsU_jn]
theorem hks_jn (l : List Hk) : l.flatMap hkU = jn (l.flatMap hkL) := by
 induction l with
 | nil => rfl
 | cons x l ih => rw [List.flatMap_cons, List.flatMap_cons, jn_app, ih, hkU_jn]
theorem ptU_jn (p : Pt) : ptU p = jn (ptL p) := by
 rw [show jn (ptL p) = mnA ++ esc p.old ++ [10] ++ (mnB ++ esc p.new ++ [10]) ++ jn (p.hs.flatMap hkL) by simp [jn, ptL], ptU, hks_jn]
 simp [nmU, mnA, mnB]
theorem pts_jn (l : List Pt) : l.flatMap ptU = jn (l.flatMap ptL) := by
 induction l with
 | nil => rfl
 | cons x l ih => rw [List.flatMap_cons, List.flatMap_cons, jn_app, ih, ptU_jn]
theorem itoa_ch {n : Int} : ∀ c ∈ Lib.itoa n, c = 45 ∨ (48 ≤ c.toNat ∧ c.toNat ≤ 57) := by
 intro c hc
 by_cases h : n < 0
 ·rw [itoa_neg' h] at hc
  rcases List.mem_cons.1 hc with q | q
  ·exact Or.inl q
  ·exact Or.inr (dig_iff.1 (dd_dig _ c q))
 ·rw [itoa_pos' h] at hc
  exact Or.inr (dig_iff.1 (dd_dig _ c hc))
theorem itoa_no {n : Int} {x : UInt8} (hx : x ≠ 45 ∧ ¬ (48 ≤ x.toNat ∧ x.toNat ≤ 57)) : ∀ c ∈ Lib.itoa n, c ≠ x := fun c hc e => by
 subst e
 rcases itoa_ch c hc with q | q
 ·exact hx.1 q
 ·exact hx.2 q
theorem ext_no {f n : Int} {x : UInt8} (hx : x ≠ 45 ∧ ¬ (48 ≤ x.toNat ∧ x.toNat ≤ 57)) (h44 : x ≠ 44) : ∀ c ∈ ext f n, c ≠ x := fun c hc => by
 unfold ext at hc
 split at hc
 ·exact itoa_no hx c hc
 ·rcases List.mem_append.1 hc with q | q
  ·rcases List.mem_append.1 q with q | q
   ·exact itoa_no hx c q
   ·rw [List.mem_singleton.1 q]; exact fun e => h44 e.symm
  ·exact itoa_no hx c q
theorem num_itoa {n : Int} (h : InI64 n) : numV (Lib.itoa n) = n ∧ numE (Lib.itoa n) = 0 := by
 have := num_ok (itoa_dec n) (by rw [itoa_val]; exact h)
 rw [itoa_val] at this; exact this
theorem dg_itoa {n : Int} (h0 : 0 ≤ n) (h1 : n ≤ 2147483647) : dgV (Lib.itoa n) = n ∧ dgO (Lib.itoa n) = true := by
 have h := num_itoa (n := n) (by unfold InI64; omega)
 unfold dgV dgO
 rw [h.2, if_neg (by decide), h.1]
 refine ⟨rfl, ?_⟩
 have e := itoa_neg_iff n
 have hp : Lib.hasPrefix (Lib.itoa n) [45] = false := by
  rw [show decide (n < 0) = false by simp; omega] at e
  unfold negB at e
  unfold Lib.hasPrefix
  cases hl : Lib.itoa n with
  | nil => rfl
  | cons c r =>
   rw [hl] at e
   simp at e
   have : (45 == c) = false := by simpa using fun q => e q.symm
   simp [List.isPrefixOf, this]
 rw [hp]; decide
theorem pr_ext {f n : Int} (hf : 0 ≤ f ∧ f ≤ 2147483647) (hn : 0 ≤ n ∧ n ≤ 2147483647) : prA (ext f n) = f ∧ prB (ext f n) = n ∧ prO (ext f n) = true := by
 have hd : ∀ c ∈ Lib.itoa f, c ≠ 44 := itoa_no (by decide)
 have h1 := dg_itoa hf.1 hf.2
 have h2 := dg_itoa hn.1 hn.2
 by_cases q : n = 1
 ·have e : ext f n = Lib.itoa f := if_pos q
  rw [e]
  unfold prA prB prO
  rw [cut_no hd]
  simp [h1, q]
 ·have e : ext f n = Lib.itoa f ++ [44] ++ Lib.itoa n := if_neg q
  rw [e]
  unfold prA prB prO
  rw [cut_at hd]
  simp [h1, h2]
theorem hd_ok {h : Hk} (ha : 0 ≤ h.fa ∧ h.fa ≤ 2147483647) (hla : 0 ≤ h.la ∧ h.la ≤ 2147483647) (hb : 0 ≤ h.fb ∧ h.fb ≤ 2147483647) (hlb : 0 ≤ h.lb ∧ h.lb ≤ 2147483647) : hdE (hdU h) = 0 ∧ hdV (hdU h) = ⟨h.fa, h.la, h.fb, h.lb⟩ := by
 have e0 : (hdU h).drop 4 = ext h.fa h.la ++ ([32, 43] ++ ext h.fb h.lb) ++ [32, 64, 64] := by simp [hdU]
 have hs : Lib.hasSuffix ((hdU h).drop 4) [32, 64, 64] = true := by
  rw [e0]; unfold Lib.hasSuffix
  exact List.isSuffixOf_iff_suffix.2 ⟨_, rfl⟩
 have ht : hdT (hdU h) = ext h.fa h.la ++ [32, 43] ++ ext h.fb h.lb := by
  unfold hdT Lib.trimSuffix
  rw [if_pos hs, e0]
  have : ((ext h.fa h.la ++ ([32, 43] ++ ext h.fb h.lb) ++ [32, 64, 64]).length - [(32 : UInt8), 64, 64].length) = (ext h.fa h.la ++ ([32, 43] ++ ext h.fb h.lb)).length := by simp; omega
  rw [this, List.take_left']
  ·simp
  ·rfl
 have hx : hdX (hdU h) = (ext h.fa h.la, ext h.fb h.lb, true) := by
  unfold hdX; rw [ht]; exact cut_at (ext_no (by decide) (by decide))
 have hp : Lib.hasPrefix (hdU h) [64, 64, 32, 45] = true := by
  unfold Lib.hasPrefix hdU
  exact List.isPrefixOf_iff_prefix.2 ⟨_, by simp; rfl⟩
 have pa := pr_ext ha hla
 have pb := pr_ext hb hlb
 have hv : hdV (hdU h) = ⟨h.fa, h.la, h.fb, h.lb⟩ := by
  unfold hdV; rw [hx]; simp only; rw [pa.1, pa.2.1, pb.1, pb.2.1]
 refine ⟨?_, hv⟩
 have ho : hdO (hdU h) = true := by unfold hdO; rw [hp, hs, hx]; simp [pa, pb]
 unfold hdE
 rw [if_pos ho, hv, if_pos ⟨ha.2, hla.2, hb.2, hlb.2⟩]
theorem at_mid {pre X rest : List Bs} {i : Nat} (hi : i < X.length) : (pre ++ X ++ rest)[pre.length + i]? = X[i]? := by
 rw [List.append_assoc, List.getElem?_append_right (by omega), show pre.length + i - pre.length = i by omega, List.getElem?_append_left hi]
theorem at_rest {pre X rest : List Bs} : (pre ++ X ++ rest)[pre.length + X.length]? = rest[0]? := by
 rw [List.getElem?_append_right (by simp)]; simp
theorem sgn_c {op : Int} (h : 1 ≤ op ∧ op ≤ 3) : ∃ c, sgn op = [c] ∧ c ≠ 92 ∧ c ≠ 64 ∧ c ≠ 10 ∧ ((op = 1 ∧ c = 32) ∨ (op = 2 ∧ c = 45) ∨ (op = 3 ∧ c = 43)) := by
 rcases (by omega : op = 1 ∨ op = 2 ∨ op = 3) with q | q | q <;> subst q
 ·exact ⟨32, rfl, by decide, by decide, by decide, Or.inl ⟨rfl, rfl⟩⟩
 ·exact ⟨45, rfl, by decide, by decide, by decide, Or.inr (Or.inl ⟨rfl, rfl⟩)⟩
 ·exact ⟨43, rfl, by decide, by decide, by decide, Or.inr (Or.inr ⟨rfl, rfl⟩)⟩
theorem ne_noE {c : UInt8} {t : Bs} (h : c ≠ 92) : (c :: t) ≠ noE := fun e => by unfold noE at e; cases e; exact h rfl
theorem Bd.written : ∀ (l : List DL) (pre rest : List Bs) (acc : List DL), (∀ x ∈ l, lnF x) → rest[0]? ≠ some noE →
    Bd (pre ++ l.flatMap wrL ++ rest) (cA l) (cB l) pre.length acc (0, pre.length + (l.flatMap wrL).length, acc ++ l)
  | [], pre, rest, acc, _, _ => by
    have := Bd.fin (ls := pre ++ ([] : List DL).flatMap wrL ++ rest) (a := 0) (b := 0) (k := pre.length) (acc := acc) (by omega)
    simpa [cA, cB] using this
  | x :: l, pre, rest, acc, hl, hr => by
    have hx := hl x (List.mem_cons_self)
    obtain ⟨c, hc, c1, c2, c3, c4⟩ := sgn_c ⟨hx.1, hx.2.1⟩
    have hl' : ∀ y ∈ l, lnF y := fun y hy => hl y (List.mem_cons_of_mem _ hy)
    have hls : pre ++ (x :: l).flatMap wrL ++ rest = (pre ++ wrL x) ++ l.flatMap wrL ++ rest := by simp
    have e0 : (pre ++ (x :: l).flatMap wrL ++ rest)[pre.length]? = some (c :: x.tx) := by
      have := at_mid (pre := pre) (X := (x :: l).flatMap wrL) (rest := rest) (i := 0) (by simp [wrL])
      rw [Nat.add_zero] at this
      rw [this]; simp [wrL, hc]
    have hnext : ∀ (pre' : List Bs), (pre' ++ l.flatMap wrL ++ rest)[pre'.length]? ≠ some noE := fun pre' => by
      cases l with
      | nil =>
        have := at_rest (pre := pre') (X := ([] : List DL).flatMap wrL) (rest := rest)
        simp only [List.flatMap_nil, List.length_nil, Nat.add_zero] at this ⊢
        rw [this]; exact hr
      | cons y l =>
        have hy := hl' y (List.mem_cons_self)
        obtain ⟨d, hd, d1, _⟩ := sgn_c ⟨hy.1, hy.2.1⟩
        have := at_mid (pre := pre') (X := (y :: l).flatMap wrL) (rest := rest) (i := 0) (by simp [wrL])
        rw [Nat.add_zero] at this
        rw [this]
        simp [wrL, hd]
        exact fun e => ne_noE (t := y.tx) d1 e
    have hne : neB (pre ++ (x :: l).flatMap wrL ++ rest) (pre.length + 1) = x.ne := by
      unfold neB
      cases hxn : x.ne with
      | true =>
        have := at_mid (pre := pre) (X := (x :: l).flatMap wrL) (rest := rest) (i := 1) (by simp [wrL, hxn])
        rw [this]; simp [wrL, hxn]
      | false =>
        have := hnext (pre ++ wrL x)
        rw [← hls] at this
        have e1 : (pre ++ wrL x).length = pre.length + 1 := by simp [wrL, hxn]
        rw [e1] at this
        exact decide_eq_false this
    have ho : opP (c :: x.tx) ((cA (x :: l) : Nat) : Int) ((cB (x :: l) : Nat) : Int) = some x.op := by
      have ea : cA (x :: l) = cA [x] + cA l := cA_app [x] l
      have eb : cB (x :: l) = cB [x] + cB l := cB_app [x] l
      rw [cA_one] at ea; rw [cB_one] at eb
      unfold opP
      rcases c4 with ⟨q, q2⟩ | ⟨q, q2⟩ | ⟨q, q2⟩ <;> subst q2 <;> rw [q] at ea eb ⊢ <;> simp at ea eb ⊢ <;> omega
    refine .go e0 ho ?_
    rw [hne, show (c :: x.tx).drop 1 = x.tx from rfl]
    have ih := Bd.written l (pre ++ wrL x) rest (acc ++ [x]) hl' hr
    rw [← hls] at ih
    have e1 : (pre ++ wrL x).length = nxt (pre ++ (x :: l).flatMap wrL ++ rest) (pre.length + 1) := by
      unfold nxt; rw [hne]
      cases hxn : x.ne <;> simp [wrL, hxn]
    have e2 : (pre ++ wrL x).length + (l.flatMap wrL).length = pre.length + ((x :: l).flatMap wrL).length := by simp; omega
    rw [e2, e1] at ih
    have ea : (if x.op = 3 then ((cA (x :: l) : Nat) : Int) else (cA (x :: l) : Nat) - 1) = cA l := by
      rw [show x :: l = [x] ++ l from rfl, cA_app, cA_one]; split <;> omega
    have eb : (if x.op = 2 then ((cB (x :: l) : Nat) : Int) else (cB (x :: l) : Nat) - 1) = cB l := by
      rw [show x :: l = [x] ++ l from rfl, cB_app, cB_one]; split <;> omega
    rw [ea, eb]
    have e3 : acc ++ [x] ++ l = acc ++ x :: l := by simp
    rw [e3] at ih
    exact ih
structure HkG (h : Hk) : Prop extends HkF h where
 sa : h.la ≤ 2147483647
 sb : h.lb ≤ 2147483647
theorem hdU_no {h : Hk} : hdU h ≠ noE := fun e => by unfold hdU noE at e; simp at e
theorem lnAt_at {ls : List Bs} {k : Nat} {l : Bs} (h : ls[k]? = some l) : lnAt ls k = l := getD_of h
theorem Hs.written : ∀ (hs : List Hk) (pre rest : List Bs) (acc : List Hk), (∀ h ∈ hs, HkG h) → rest[0]? ≠ some noE → (∀ l, rest[0]? = some l → Lib.hasPrefix l [64, 64] = false) →
    Hs (pre ++ hs.flatMap hkL ++ rest) pre.length acc (0, pre.length + (hs.flatMap hkL).length, acc ++ hs)
  | [], pre, rest, acc, _, _, h2 => by
    have := Hs.fin (ls := pre ++ ([] : List Hk).flatMap hkL ++ rest) (k := pre.length) (acc := acc) (by
      unfold atH
      by_cases q : pre.length < (pre ++ ([] : List Hk).flatMap hkL ++ rest).length
      · cases hr : rest[0]? with
        | none =>
          have := List.getElem?_eq_none_iff.1 hr
          simp at q; omega
        | some l =>
          have e := at_rest (pre := pre) (X := ([] : List Hk).flatMap hkL) (rest := rest)
          rw [show pre.length + (([] : List Hk).flatMap hkL).length = pre.length from rfl, hr] at e
          rw [lnAt_at e, h2 l hr]; simp
      · simp only [q, decide_false, Bool.false_and])
    simpa using this
  | h :: hs, pre, rest, acc, hl, h1, h2 => by
    have hh := hl h (List.mem_cons_self)
    have e0 : (pre ++ (h :: hs).flatMap hkL ++ rest)[pre.length]? = some (hdU h) := by
      have := at_mid (pre := pre) (X := (h :: hs).flatMap hkL) (rest := rest) (i := 0) (by simp [hkL])
      rw [Nat.add_zero] at this
      rw [this]; simp [hkL]
    have hd := hd_ok (h := h) ⟨hh.a0, hh.a1⟩ ⟨by rw [hh.la]; omega, hh.sa⟩ ⟨hh.b0, hh.b1⟩ ⟨by rw [hh.lb]; omega, hh.sb⟩
    have e1 := lnAt_at e0
    have hls : pre ++ (h :: hs).flatMap hkL ++ rest = (pre ++ [hdU h]) ++ h.ls.flatMap wrL ++ (hs.flatMap hkL ++ rest) := by simp [hkL]
    have hn0 : (hs.flatMap hkL ++ rest)[0]? ≠ some noE := by
      cases hs with
      | nil => simpa using h1
      | cons g hs => simp [hkL]; exact hdU_no
    have hb := Bd.written h.ls (pre ++ [hdU h]) (hs.flatMap hkL ++ rest) [] hh.ln hn0
    rw [← hls, ← hh.la, ← hh.lb] at hb
    have hB : hkB (pre ++ (h :: hs).flatMap hkL ++ rest) pre.length = (0, (pre ++ [hdU h]).length + (h.ls.flatMap wrL).length, h.ls) := by
      unfold hkB
      rw [e1, hd.2]
      refine bdR_eq ?_
      simpa using hb
    have hE : hkE (pre ++ (h :: hs).flatMap hkL ++ rest) pre.length = 0 := by unfold hkE; rw [e1, if_pos hd.1, hB]
    have hA : hkA (pre ++ (h :: hs).flatMap hkL ++ rest) pre.length = (pre ++ hkL h).length := by unfold hkA; rw [e1, if_pos hd.1, hB]; simp [hkL]; omega
    have hH : hkH (pre ++ (h :: hs).flatMap hkL ++ rest) pre.length = h := by unfold hkH; rw [e1, hd.2, hB]
    refine .go ?_ hE ?_
    · unfold atH
      rw [e1]
      have q := (List.getElem?_eq_some_iff.1 e0).1
      simp only [q, decide_true, Bool.true_and]
      unfold Lib.hasPrefix hdU
      exact List.isPrefixOf_iff_prefix.2 ⟨_, by simp; rfl⟩
    · rw [hA, hH]
      have ih := Hs.written hs (pre ++ hkL h) rest (acc ++ [h]) (fun g hg => hl g (List.mem_cons_of_mem _ hg)) h1 h2
      have e3 : pre ++ hkL h ++ hs.flatMap hkL ++ rest = pre ++ (h :: hs).flatMap hkL ++ rest := by simp
      have e4 : (pre ++ hkL h).length + (hs.flatMap hkL).length = pre.length + ((h :: hs).flatMap hkL).length := by simp; omega
      rw [e3, e4] at ih
      have e5 : acc ++ [h] ++ hs = acc ++ h :: hs := by simp
      rw [e5] at ih; exact ih
theorem hp_app (p t : Bs) : Lib.hasPrefix (p ++ t) p = true := List.isPrefixOf_iff_prefix.2 ⟨t, rfl⟩
theorem nm_written {ls : List Bs} {k : Nat} {p s : Bs} (h : ls[k]? = some (p ++ esc s)) : nmP ls k p = some s := by
 have hk := (List.getElem?_eq_some_iff.1 h).1
 unfold nmP
 rw [lnAt_at h, if_pos]
 ·rw [List.drop_left, (un_esc s).1]
 ·exact ⟨hk, hp_app _ _, by rw [List.drop_left, (un_esc s).2.1]⟩
def PtG (p : Pt) : Prop := ∀ h ∈ p.hs, HkG h
theorem PtG.f {p : Pt} (h : PtG p) : ptF p := fun x hx => (h x hx).toHkF
theorem Pm.written : ∀ (ps : List Pt) (pre : List Bs) (acc : List Pt), (∀ p ∈ ps, PtG p) →
    Pm (pre ++ ps.flatMap ptL) pre.length acc (0, pre.length + (ps.flatMap ptL).length, acc ++ ps)
  | [], pre, acc, _ => by
    have := Pm.fin (ls := pre ++ ([] : List Pt).flatMap ptL) (k := pre.length) (acc := acc) (by simp)
    simpa using this
  | p :: ps, pre, acc, hl => by
    have hp := hl p (List.mem_cons_self)
    have hls : pre ++ (p :: ps).flatMap ptL = (pre ++ [mnA ++ esc p.old, mnB ++ esc p.new]) ++ p.hs.flatMap hkL ++ ps.flatMap ptL := by simp [ptL]
    have g0 : (pre ++ (p :: ps).flatMap ptL)[pre.length]? = some (mnA ++ esc p.old) := by
      rw [List.getElem?_append_right (by omega)]; simp [ptL]
    have g1 : (pre ++ (p :: ps).flatMap ptL)[pre.length + 1]? = some (mnB ++ esc p.new) := by
      rw [List.getElem?_append_right (by omega)]; simp [ptL]
    have hr0 : (ps.flatMap ptL)[0]? ≠ some noE := by
      cases ps with
      | nil => simp
      | cons q ps => simp [ptL, mnA, noE]
    have hr1 : ∀ l, (ps.flatMap ptL)[0]? = some l → Lib.hasPrefix l [64, 64] = false := by
      cases ps with
      | nil => simp
      | cons q ps =>
        intro l hq
        simp [ptL, mnA] at hq
        subst hq
        simp [Lib.hasPrefix, List.isPrefixOf]
    have hh := Hs.written p.hs (pre ++ [mnA ++ esc p.old, mnB ++ esc p.new]) (ps.flatMap ptL) [] hp hr0 hr1
    rw [← hls] at hh
    have hR : hsR (pre ++ (p :: ps).flatMap ptL) (pre.length + 2) = (0, (pre ++ [mnA ++ esc p.old, mnB ++ esc p.new]).length + (p.hs.flatMap hkL).length, p.hs) := by
      refine hsR_eq ?_
      simpa using hh
    refine .go (nm_written g0) (nm_written g1) (by rw [hR]) ?_
    rw [hR]
    have ih := Pm.written ps (pre ++ ptL p) (acc ++ [p]) fun q hq => hl q (List.mem_cons_of_mem _ hq)
    have e3 : pre ++ ptL p ++ ps.flatMap ptL = pre ++ (p :: ps).flatMap ptL := by simp
    have e4 : (pre ++ ptL p).length + (ps.flatMap ptL).length = pre.length + ((p :: ps).flatMap ptL).length := by simp; omega
    have e5 : (pre ++ ptL p).length = (pre ++ [mnA ++ esc p.old, mnB ++ esc p.new]).length + (p.hs.flatMap hkL).length := by simp [ptL]; omega
    have e6 : acc ++ [p] ++ ps = acc ++ p :: ps := by simp
    rw [e3, e4, e5, e6] at ih
    exact ih
theorem ptL_no {p : Pt} (h : ptF p) : ∀ y ∈ ptL p, ∀ c ∈ y, c ≠ 10 := by
 intro y hy
 unfold ptL at hy
 rcases List.mem_cons.1 hy with q | hy
 ·subst q; intro c hc
  rcases List.mem_append.1 hc with q | q
  ·intro e; subst e; revert q; decide
  ·exact esc_no10 c q
 ·rcases List.mem_cons.1 hy with q | hy
  ·subst q; intro c hc
   rcases List.mem_append.1 hc with q | q
   ·intro e; subst e; revert q; decide
   ·exact esc_no10 c q
  ·obtain ⟨k, hk, hy⟩ := List.mem_flatMap.1 hy
   have hf := h k hk
   unfold hkL at hy
   rcases List.mem_cons.1 hy with q | hy
   ·subst q; intro c hc
    have hx := fun f n => ext_no (f := f) (n := n) (x := 10) (by decide) (by decide)
    unfold hdU at hc
    simp only [List.mem_append] at hc
    rcases hc with (((q | q) | q) | q) | q
    ·intro e; subst e; revert q; decide
    ·exact hx _ _ c q
    ·intro e; subst e; revert q; decide
    ·exact hx _ _ c q
    ·intro e; subst e; revert q; decide
   ·obtain ⟨x, hx, hy⟩ := List.mem_flatMap.1 hy
    have hn := hf.ln x hx
    unfold wrL at hy
    rcases List.mem_cons.1 hy with q | hy
    ·subst q; intro c hc
     obtain ⟨d, hd, _, _, d3, _⟩ := sgn_c ⟨hn.1, hn.2.1⟩
     rcases List.mem_append.1 hc with q | q
     ·rw [hd] at q; rw [List.mem_singleton.1 q]; exact d3
     ·exact hn.2.2 c q
    ·split at hy
     ·rw [List.mem_singleton.1 hy]; decide
     ·cases hy
theorem pa_written {ps : List Pt} (h : ∀ p ∈ ps, PtG p) : paP (ps.flatMap uni) = ps ∧ paE (ps.flatMap uni) = 0 ∧ paL (ps.flatMap uni) = 0 := by
 have e1 : ps.flatMap uni = ps.flatMap ptU := by
  rw [List.flatMap_def, List.flatMap_def]; congr 1
  exact List.map_congr_left fun p hp => uni_y (h p hp).f
 have e2 : lins (ps.flatMap ptU) = ps.flatMap ptL := by
  rw [pts_jn]
  exact (lins_jn _ fun y hy => by
   obtain ⟨p, hp, hy⟩ := List.mem_flatMap.1 hy
   exact ptL_no (h p hp).f y hy).1
 have e3 : pmR (ps.flatMap ptL) = (0, (ps.flatMap ptL).length, ps) := pmR_eq (by simpa using Pm.written ps [] [] h)
 unfold paP paE paL
 rw [e1, e2, e3]
 exact ⟨rfl, rfl, rfl⟩
theorem dg_ge {s : Bs} (h : dgO s = true) : 0 ≤ dgV s := by
 unfold dgO at h
 simp at h
 unfold dgV
 split
 ·omega
 ·rename_i q9
  by_cases hd : decB s = true
  ·by_cases hi : InI64 (valI s)
   ·rw [(num_ok hd hi).1]
    have : negB s = false := by
     unfold negB
     have h2 := h.2
     unfold Lib.hasPrefix at h2
     cases s with
     | nil => rfl
     | cons c r =>
      simp [List.isPrefixOf] at h2
      simp
      exact fun e => h2 e.symm
    unfold valI; rw [this]; simp
   ·rw [(num_over hd hi).1]; exact Int.le_refl _
  ·rw [(num_bad (by simpa using hd)).1]; exact Int.le_refl _
theorem pr_ge {s : Bs} (h : prO s = true) : 0 ≤ prA s ∧ 0 ≤ prB s := by
 unfold prO at h
 simp only [Bool.and_eq_true] at h
 refine ⟨dg_ge h.1, ?_⟩
 unfold prB
 split
 ·rename_i q; rw [if_pos q] at h; exact dg_ge h.2
 ·decide
theorem hd_ge {s : Bs} (h : hdE s = 0) : (0 ≤ (hdV s).fa ∧ (hdV s).fa ≤ 2147483647) ∧ (0 ≤ (hdV s).la ∧ (hdV s).la ≤ 2147483647) ∧ (0 ≤ (hdV s).fb ∧ (hdV s).fb ≤ 2147483647) ∧ (0 ≤ (hdV s).lb ∧ (hdV s).lb ≤ 2147483647) := by
 unfold hdE at h
 split at h
 ·rename_i ho
  split at h
  ·rename_i hq
   unfold hdO at ho
   simp only [Bool.and_eq_true] at ho
   have h1 := pr_ge ho.1.2
   have h2 := pr_ge ho.2
   exact ⟨⟨h1.1, hq.1⟩, ⟨h1.2, hq.2.1⟩, ⟨h2.1, hq.2.2.1⟩, ⟨h2.2, hq.2.2.2⟩⟩
  ·cases h
 ·cases h
theorem Bd.formed {ls : List Bs} (hl : ∀ y ∈ ls, ∀ c ∈ y, c ≠ 10) {a b : Int} {k : Nat} {acc : List DL} {r : Int × Nat × List DL} (h : Bd ls a b k acc r) : 0 ≤ a → 0 ≤ b → (∀ x ∈ acc, lnF x) →
    (∀ x ∈ r.2.2, lnF x) ∧ (r.1 = 0 → (cA r.2.2 : Int) = cA acc + a ∧ (cB r.2.2 : Int) = cB acc + b) := by
  induction h with
  | fin h => intro h1 h2 h3; exact ⟨h3, fun _ => ⟨by simp only; omega, by simp only; omega⟩⟩
  | out h => intro h1 h2 h3; exact ⟨h3, fun q => by cases q⟩
  | bad h => intro h1 h2 h3; exact ⟨h3, fun q => by cases q⟩
  | @go a b op k acc l r h ho _ ih =>
    intro h1 h2 h3
    have hop := opP_cases ho
    have hin := hl l (List.mem_of_getElem? h)
    have hx : lnF ⟨op, l.drop 1, neB ls (k + 1)⟩ := ⟨by rcases hop with q | q | q <;> simp [q.1], by rcases hop with q | q | q <;> simp [q.1], fun c hc => hin c (List.mem_of_mem_drop hc)⟩
    have := ih (by split <;> omega) (by split <;> omega) (fun x hx' => by
      rcases List.mem_append.1 hx' with q | q
      · exact h3 x q
      · rw [List.mem_singleton.1 q]; exact hx)
    refine ⟨this.1, fun q => ?_⟩
    have h5 := this.2 q
    rw [cA_app, cB_app, cA_one, cB_one] at h5
    rcases hop with ⟨q, _⟩ | ⟨q, _⟩ | ⟨q, _⟩ <;> subst q <;> simp at h5 <;> omega
theorem hkH_ok {ls : List Bs} (hl : ∀ y ∈ ls, ∀ c ∈ y, c ≠ 10) {k : Nat} (h : hkE ls k = 0) : HkG (hkH ls k) := by
 unfold hkE at h
 split at h
 ·rename_i q
  have hg := hd_ge q
  have hf := (bdR_ok ls (hdV (lnAt ls k)).la (hdV (lnAt ls k)).lb (k + 1)).formed hl hg.2.1.1 hg.2.2.2.1 (fun x hx => by cases hx)
  have hc := hf.2 h
  have z1 : cA [] = 0 := rfl
  have z2 : cB [] = 0 := rfl
  rw [z1, z2] at hc
  exact { ln := hf.1, la := by have := hc.1; exact (this.trans (Int.zero_add _)).symm, lb := by have := hc.2; exact (this.trans (Int.zero_add _)).symm, a0 := hg.1.1, a1 := hg.1.2, b0 := hg.2.2.1.1, b1 := hg.2.2.1.2, sa := hg.2.1.2, sb := hg.2.2.2.2 }
 ·rename_i q; exact absurd h q
theorem Hs.formed {ls : List Bs} (hl : ∀ y ∈ ls, ∀ c ∈ y, c ≠ 10) {k : Nat} {acc : List Hk} {r : Int × Nat × List Hk} (h : Hs ls k acc r) : (∀ x ∈ acc, HkG x) → ∀ x ∈ r.2.2, HkG x := by
 induction h with
 | fin => exact id
 | bad => exact id
 | go h h2 _ ih =>
  intro h3
  refine ih fun x hx => ?_
  rcases List.mem_append.1 hx with q | q
  ·exact h3 x q
  ·rw [List.mem_singleton.1 q]; exact hkH_ok hl h2
theorem Pm.formed {ls : List Bs} (hl : ∀ y ∈ ls, ∀ c ∈ y, c ≠ 10) {k : Nat} {acc : List Pt} {r : Int × Nat × List Pt} (h : Pm ls k acc r) : (∀ x ∈ acc, PtG x) → ∀ x ∈ r.2.2, PtG x := by
 induction h with
 | fin => exact id
 | b1 => exact id
 | b2 => exact id
 | b3 => exact id
 | go h h2 h3 _ ih =>
  intro h4
  refine ih fun x hx => ?_
  rcases List.mem_append.1 hx with q | q
  ·exact h4 x q
  ·rw [List.mem_singleton.1 q]; exact (hsR_ok ls _).formed hl fun x hx => by cases hx
theorem lins_no (s : Bs) : ∀ y ∈ lins s, ∀ c ∈ y, c ≠ 10 := by
 have hF : ∀ i, i ≤ s.length → ∀ j, flF 10 s i ≤ j → j < i → ¬ s[j]? = some 10 := by
  intro i
  induction i with
  | zero => intro _ j _ h; omega
  | succ i ih =>
   intro hi j h1 h2
   by_cases hc : s[i]? = some 10
   ·rw [flF_y hc] at h1; omega
   ·rw [flF_n hc] at h1
    by_cases q : j = i
    ·subst q; exact hc
    ·exact ih (by omega) j h1 (by omega)
 have hO : ∀ i, i ≤ s.length → ∀ y ∈ flO 10 s i, ∀ c ∈ y, c ≠ 10 := by
  intro i
  induction i with
  | zero => intro _ y hy; simp [flO] at hy
  | succ i ih =>
   intro hi y hy
   by_cases hc : s[i]? = some 10
   ·rw [flO_y hc] at hy
    rcases List.mem_append.1 hy with q | q
    ·exact ih (by omega) y q
    ·rw [List.mem_singleton.1 q]
     intro c hcm e
     subst e
     obtain ⟨j, hj⟩ := List.getElem?_of_mem hcm
     rw [List.getElem?_drop, List.getElem?_take] at hj
     split at hj
     ·exact hF i (by omega) _ (by omega) (by assumption) hj
     ·cases hj
   ·rw [flO_n hc] at hy; exact ih (by omega) y hy
 intro y hy
 unfold lins at hy
 split at hy
 ·unfold flds at hy
  rcases List.mem_append.1 hy with q | q
  ·exact hO _ (Nat.le_refl _) y q
  ·rw [List.mem_singleton.1 q]
   intro c hcm e
   subst e
   obtain ⟨j, hj⟩ := List.getElem?_of_mem hcm
   rw [List.getElem?_drop] at hj
   exact hF s.length (Nat.le_refl _) _ (by omega) (List.getElem?_eq_some_iff.1 hj).1 hj
 ·exact hO _ (Nat.le_refl _) y hy
theorem pa_formed (s : Bs) : ∀ p ∈ paP s, PtG p := by
 unfold paP
 split
 ·exact (pmR_ok (lins s)).formed (lins_no s) fun x hx => by cases hx
 ·intro p hp; cases hp
end Go.Proofs.YtfbpbkcplpkndaaGreatDoor
end
section
namespace Go.Proofs.YtfbpbkcplpkndaaGreatDoor
set_option linter.unusedVariables false
set_option linter.unusedSimpArgs false
set_option maxRecDepth 100000
structure HkZ (h : Hk) : Prop where
 fa : InI64 h.fa
 la : InI64 h.la
 fb : InI64 h.fb
 lb : InI64 h.lb
 ln : h.ls.length ≤ 1000000000
 tx : ∀ x ∈ h.ls, InI64 x.op ∧ x.tx.length ≤ 1000000000
structure PtZ (p : Pt) : Prop where
 hn : p.hs.length ≤ 1000000000
 hz : ∀ h ∈ p.hs, HkZ h
structure LnI (p : Pt) (i : Nat) (j : Nat × Hk) : Prop where
 at' : p.hs[i]? = some j.2
 le : j.1 ≤ j.2.ls.length
 fm : ∀ x ∈ j.2.ls.take j.1, lnF x
def lnM (j : Nat × Hk) : Nat := j.2.ls.length - j.1
structure PlI (s : Bs) (k : Nat) : Prop where
 le : k ≤ s.length
 no : ∀ c ∈ s.take k, c ≠ 10
structure HkI (p : Pt) (i : Nat) : Prop where
 le : i ≤ p.hs.length
 fm : ∀ h ∈ p.hs.take i, HkF h
theorem HkI.zero (p : Pt) : HkI p 0 := ⟨Nat.zero_le _, fun h q => by cases q⟩
theorem LnI.zero {p : Pt} {i : Nat} {h : Hk} (e : p.hs[i]? = some h) : LnI p i (0, h) := ⟨e, Nat.zero_le _, fun x q => by cases q⟩
theorem LnI.next {p : Pt} {i : Nat} {j : Nat × Hk} {x : DL} (h : LnI p i j) (e : j.2.ls[j.1]? = some x) (hx : lnF x) : LnI p i (j.1 + 1, j.2) ∧ lnM (j.1 + 1, j.2) < lnM j := by
 have hl := (List.getElem?_eq_some_iff.1 e).1
 refine ⟨⟨h.at', hl, fun y hy => ?_⟩, by simp only [lnM]; omega⟩
 rw [take_succ_get e, List.mem_append, List.mem_singleton] at hy
 exact hy.elim (h.fm y) fun q => q ▸ hx
theorem LnI.bad {p : Pt} {i : Nat} {j : Nat × Hk} {x : DL} (h : LnI p i j) (e : j.2.ls[j.1]? = some x) (hx : ¬ lnF x) : false = dcd (ptF p) :=
 (dcd_f fun q => hx ((q _ (List.mem_of_getElem? h.at')).ln _ (List.mem_of_getElem? e))).symm
theorem LnI.all {p : Pt} {i : Nat} {j : Nat × Hk} (h : LnI p i j) (e : ¬ (j.1 : Int) < j.2.ls.length) : ∀ x ∈ j.2.ls, lnF x := by
 have := h.fm
 rwa [List.take_of_length_le (by omega)] at this
theorem LnI.z {p : Pt} {i : Nat} {j : Nat × Hk} (h : LnI p i j) (hp : PtZ p) : HkZ j.2 := hp.hz _ (List.mem_of_getElem? h.at')
theorem HkI.next {p : Pt} {i : Nat} {h : Hk} (hi : HkI p i) (e : p.hs[i]? = some h) (hh : HkF h) : HkI p (i + 1) := by
 refine ⟨(List.getElem?_eq_some_iff.1 e).1, fun y hy => ?_⟩
 rw [take_succ_get e, List.mem_append, List.mem_singleton] at hy
 exact hy.elim (hi.fm y) fun q => q ▸ hh
theorem HkI.bad {p : Pt} {i : Nat} {h : Hk} (e : p.hs[i]? = some h) (hh : ¬ HkF h) : false = dcd (ptF p) :=
 (dcd_f fun q => hh (q _ (List.mem_of_getElem? e))).symm
theorem HkI.all {p : Pt} {i : Nat} (h : HkI p i) (e : ¬ (i : Int) < p.hs.length) : true = dcd (ptF p) := by
 have := h.fm
 rw [List.take_of_length_le (by omega)] at this
 exact (dcd_t this).symm
section
variable {X : CallF}
theorem plain_run (s : Bs) (hs : s.length ≤ maxLen) : (R FT X).f 56 [strL s] = some (boolA (dcd (∀ c ∈ s, c ≠ 10))) := by
 have hm := maxLen_i64
 refine R_wp ((Tr.inv (fun (k : Nat) ↦ St.mk [(0, strL s), (3, intA (↑k : Int))] []) (fun (k : Nat) ↦ PlI s k) (fun (k : Nat) ↦ List.length s - k) fun (k : Nat) ↦ ((Tr.y k fun (c4 : UInt8) ↦ (Tr.nil.br Tr.nil.w).w).w.w.br Tr.nil).w).w) rfl ?_
 refine Eq.mpr (by kernel_rfl : _ = ((∃ (j1 : Nat), ((s = s ∧ (0 : Int) = (↑j1 : Int) ∧ True) ∧ True) ∧ PlI s j1) ∧ ∀ (k : Nat), PlI s k → (decide ((↑k : Int) < (↑(List.length s) : Int)) = true → (↑k : Int) = (↑k : Int) ∧ k < List.length s ∧ ∀ (c4 : UInt8), s[k]? = some c4 → (decide ((↑c4.toNat : Int) = 10) = true → false = dcd (∀ (c : UInt8), c ∈ s → c ≠ (10 : UInt8))) ∧ (decide ((↑c4.toNat : Int) = 10) = false → InI64 ((↑k : Int) + 1) ∧ ∃ (j8 : Nat), ((s = s ∧ (↑k : Int) + 1 = (↑j8 : Int) ∧ True) ∧ True) ∧ PlI s j8 ∧ List.length s - j8 < List.length s - k)) ∧ (decide ((↑k : Int) < (↑(List.length s) : Int)) = false → true = dcd (∀ (c : UInt8), c ∈ s → c ≠ (10 : UInt8))))) ?_
 refine ⟨⟨(0 : Nat), ⟨⟨rfl, (by omega), trivial⟩, trivial⟩, ?_⟩, fun k => fun h2 => ⟨fun h3_ => have h3 := dT h3_; ⟨rfl, (by omega), fun c4 => fun h5 => ⟨fun h6_ => have h6 := dT h6_; ?_, fun h7_ => have h7 := dF h7_; ⟨(by unfold InI64; omega), ⟨k + (1 : Nat), ⟨⟨rfl, (by omega), trivial⟩, trivial⟩, ⟨?_, (by omega)⟩⟩⟩⟩⟩, fun h9_ => have h9 := dF h9_; ?_⟩⟩
 ·exact ⟨Nat.zero_le _, fun c q => by cases q⟩
 ·exact (dcd_f (fun q : ∀ c ∈ s, c ≠ 10 => q _ (List.mem_of_getElem? h5) (u8_of (n := 10) h6 (by decide)))).symm
 ·refine ⟨by omega, fun c hc => ?_⟩
  rw [take_succ_get h5, List.mem_append, List.mem_singleton] at hc
  rcases hc with q | q
  ·exact h2.no _ q
  ·subst q; exact fun e => h7 (by rw [e]; rfl)
 ·refine (dcd_t ?_).symm
  have := h2.no
  rwa [List.take_of_length_le (by omega)] at this
theorem extent_run (hc : NumC X) (f n : Int) (hf : InI64 f) (hn : InI64 n) : (R FT X).f 38 [intA f, intA n] = some (strL (ext f n)) := by
 have fm := fun (n : Int) (h : InI64 n) => format_run (X := X) hc n h
 have le := fun (n : Int) => itoa_len (n := n)
 refine R_wp (((Tr.c (strL (Lib.itoa f)) Tr.nil).br (Tr.c (strL (Lib.itoa f)) (Tr.c (strL (Lib.itoa n)) Tr.nil.w).w)).w.w) rfl ?_
 refine Eq.mpr (by kernel_rfl : _ = ((decide (n = 1) = true → (R FT X).f 72 [intA f] = some (strL (Lib.itoa f)) ∧ Lib.itoa f = ext f n) ∧ (decide (n = 1) = false → (R FT X).f 72 [intA f] = some (strL (Lib.itoa f)) ∧ (Lib.itoa f).length + [(44 : UInt8)].length ≤ 9223372036854775807 ∧ (R FT X).f 72 [intA n] = some (strL (Lib.itoa n)) ∧ List.length (Lib.itoa f ++ [(44 : UInt8)]) + (Lib.itoa n).length ≤ 9223372036854775807 ∧ Lib.itoa f ++ [(44 : UInt8)] ++ Lib.itoa n = ext f n))) ?_
 refine ⟨fun h1_ => have h1 := dT h1_; ⟨(fm _ hf), ?_⟩, fun h2_ => have h2 := dF h2_; ⟨(fm _ hf), ?_, (fm _ hn), ?_, ?_⟩⟩
 all_goals have l1 := le f hf
 all_goals have l2 := le n hn
 all_goals first
  | (simp only [List.length_append, List.length_singleton]; omega)
  | (unfold ext; (repeat' split) <;> first | rfl | omega)
theorem formed2_run (p : Pt) (hp : PtZ p) : (R FT X).f 22 [encPt p] = some (boolA (dcd (ptF p))) := by
 have hm := maxLen_le
 have pl := fun (s : Bs) h => plain_run (X := X) s h
 have ct := fun (l : List DL) h => count_run (X := X) l h
 refine R_wp ((Tr.inv (fun (i : Nat) ↦ St.mk [(1, AV.ptr 0 0), (3, intA (↑i : Int))] [MObj.box 29 [strL p.old, strL p.new, AV.slice 5 (List.map encHk p.hs)]]) (fun (i : Nat) ↦ HkI p i) (fun (i : Nat) ↦ p.hs.length - i) fun (i : Nat) ↦ (Tr.k p.hs.length ((Tr.ix encHk p.hs i fun (x4 : Hk) ↦ (Tr.inv (fun (j : Nat × Hk) ↦ St.mk [(1, AV.ptr 0 0), (3, intA (↑i : Int)), (4, AV.ptr 2 0), (5, intA (↑j.fst : Int))] [MObj.box 29 [strL p.old, strL p.new, AV.slice 5 (List.map encHk p.hs)], MObj.row 0 3 [] true (1 : Nat), MObj.box 46 [intA j.snd.fa, intA j.snd.la, intA j.snd.fb, intA j.snd.lb, AV.slice 3 (List.map encDL j.snd.ls)]]) (fun (j : Nat × Hk) ↦ LnI p i j) (fun (j : Nat × Hk) ↦ lnM j) fun (j : Nat × Hk) ↦ (Tr.k j.snd.ls.length ((Tr.ix encDL j.snd.ls j.fst fun (x9 : DL) ↦ (Tr.b true (Tr.b true Tr.nil).w).br (Tr.ix encDL j.snd.ls j.fst fun (x13 : DL) ↦ (Tr.b true Tr.nil).w.br (Tr.ix encDL j.snd.ls j.fst fun (x17 : DL) ↦ Tr.c (boolA (dcd (∀ (c : UInt8), c ∈ x17.tx → c ≠ (10 : UInt8)))) (Tr.nil.br Tr.nil.w).w))).w.w.br (Tr.c (AV.tuple [intA
 (↑(cA j.snd.ls) : Int), intA (↑(cB j.snd.ls) : Int)]) ((Tr.b true (Tr.b true (Tr.b true (Tr.b true (Tr.b true Tr.nil).w)))).br ((Tr.b true (Tr.b true (Tr.b true (Tr.b true Tr.nil).w))).br ((Tr.b true (Tr.b true (Tr.b true Tr.nil).w)).br ((Tr.b true (Tr.b true Tr.nil).w).br ((Tr.b true Tr.nil).w.br (Tr.nil.br Tr.nil.w).w))))).w))).w).w).w.br Tr.nil)).w).w) rfl ?_
 refine Eq.mpr (by kernel_rfl : _ = ((∃ (j1 : Nat), ((True ∧ (0 : Int) = (↑j1 : Int) ∧ True) ∧ p.old = p.old ∧ p.new = p.new ∧ List.map encHk p.hs = List.map encHk p.hs) ∧ HkI p j1) ∧ ∀ (i : Nat), HkI p i → (List.map encHk p.hs).length = p.hs.length ∧ (decide ((↑i : Int) < (↑p.hs.length : Int)) = true → List.map encHk p.hs = List.map encHk p.hs ∧ (↑i : Int) = (↑i : Int) ∧ i < p.hs.length ∧ ∀ (x4 : Hk), p.hs[i]? = some x4 → (∃ (j6 : Nat × Hk), ((True ∧ (↑i : Int) = (↑i : Int) ∧ True ∧ (0 : Int) = (↑j6.fst : Int) ∧ True) ∧ (p.old = p.old ∧ p.new = p.new ∧ List.map encHk p.hs = List.map encHk p.hs) ∧ @List.nil AV = [] ∧ x4.fa = j6.snd.fa ∧ x4.la = j6.snd.la ∧ x4.fb = j6.snd.fb ∧ x4.lb = j6.snd.lb ∧ List.map encDL x4.ls = List.map encDL j6.snd.ls) ∧ LnI p i j6) ∧ ∀ (j : Nat × Hk), LnI p i j → (List.map encDL j.snd.ls).length = j.snd.ls.length ∧ (decide ((↑j.fst : Int) < (↑j.snd.ls.length : Int)) = true → List.map encDL j.snd.ls = List.map encDL j.snd.ls ∧ (↑j.fst : Int) = (↑j.fst : Int) ∧ j.fst < j.snd.ls.length ∧ ∀ (x9 : DL), j.snd.ls[j.fst]? = some x9 → (decide (x9.op < 1) = true → true = true ∧ true = true ∧ false = dcd (ptF p)) ∧ (decide (x9.op < 1) = false → List.map encDL j.snd.ls = List.map encDL j.snd.ls
 ∧ (↑j.fst : Int) = (↑j.fst : Int) ∧ j.fst < j.snd.ls.length ∧ ∀ (x13 : DL), j.snd.ls[j.fst]? = some x13 → (decide ((3 : Int) < x13.op) = true → true = true ∧ false = dcd (ptF p)) ∧ (decide ((3 : Int) < x13.op) = false → List.map encDL j.snd.ls = List.map encDL j.snd.ls ∧ (↑j.fst : Int) = (↑j.fst : Int) ∧ j.fst < j.snd.ls.length ∧ ∀ (x17 : DL), j.snd.ls[j.fst]? = some x17 → (R FT X).f 56 [strL x17.tx] = some (boolA (dcd (∀ (c : UInt8), c ∈ x17.tx → c ≠ (10 : UInt8)))) ∧ ((!dcd (∀ (c : UInt8), c ∈ x17.tx → c ≠ (10 : UInt8))) = true → false = dcd (ptF p)) ∧ ((!dcd (∀ (c : UInt8), c ∈ x17.tx → c ≠ (10 : UInt8))) = false → InI64 ((↑j.fst : Int) + 1) ∧ ∃ (j21 : Nat × Hk), ((True ∧ (↑i : Int) = (↑i : Int) ∧ True ∧ (↑j.fst : Int) + 1 = (↑j21.fst : Int) ∧ True) ∧ (p.old = p.old ∧ p.new = p.new ∧ List.map encHk p.hs = List.map encHk p.hs) ∧ @List.nil AV = [] ∧ j.snd.fa = j21.snd.fa ∧ j.snd.la = j21.snd.la ∧ j.snd.fb = j21.snd.fb ∧ j.snd.lb = j21.snd.lb ∧ List.map encDL j.snd.ls = List.map encDL j21.snd.ls) ∧ LnI p i j21 ∧ lnM j21 < lnM j)))) ∧ (decide ((↑j.fst : Int) < (↑j.snd.ls.length : Int)) = false → (R FT X).f 33 [AV.slice 3 (List.map encDL j.snd.ls)]
 = some (AV.tuple [intA (↑(cA j.snd.ls) : Int), intA (↑(cB j.snd.ls) : Int)]) ∧ ((!decide ((↑(cA j.snd.ls) : Int) = j.snd.la)) = true → true = true ∧ true = true ∧ true = true ∧ true = true ∧ true = true ∧ false = dcd (ptF p)) ∧ ((!decide ((↑(cA j.snd.ls) : Int) = j.snd.la)) = false → ((!decide ((↑(cB j.snd.ls) : Int) = j.snd.lb)) = true → true = true ∧ true = true ∧ true = true ∧ true = true ∧ false = dcd (ptF p)) ∧ ((!decide ((↑(cB j.snd.ls) : Int) = j.snd.lb)) = false → (decide (j.snd.fa < 0) = true → true = true ∧ true = true ∧ true = true ∧ false = dcd (ptF p)) ∧ (decide (j.snd.fa < 0) = false → (decide ((2147483647 : Int) < j.snd.fa) = true → true = true ∧ true = true ∧ false = dcd (ptF p)) ∧ (decide ((2147483647 : Int) < j.snd.fa) = false → (decide (j.snd.fb < 0) = true → true = true ∧ false = dcd (ptF p)) ∧ (decide (j.snd.fb < 0) = false → (decide ((2147483647 : Int) < j.snd.fb) = true → false = dcd (ptF p)) ∧ (decide ((2147483647 : Int) < j.snd.fb) = false → InI64 ((↑i : Int) + 1) ∧ ∃ (j35 : Nat), ((True ∧ (↑i : Int) + 1 = (↑j35 : Int) ∧ True) ∧ p.old = p.old ∧ p.new = p.new ∧ List.map encHk p.hs = List.map encHk p.hs) ∧ HkI p
 j35 ∧ p.hs.length - j35 < p.hs.length - i)))))))) ∧ (decide ((↑i : Int) < (↑p.hs.length : Int)) = false → true = dcd (ptF p)))) ?_
 refine ⟨⟨(0 : Nat), ⟨⟨trivial, (by omega), trivial⟩, rfl, rfl, rfl⟩, ?_⟩, fun i => fun h2 => ⟨(by simp), fun h3_ => have h3 := dT h3_; ⟨rfl, rfl, (by omega), fun x4 => fun h5 => ⟨⟨((0 : Nat), x4), ⟨⟨trivial, rfl, trivial, (by omega), trivial⟩, ⟨rfl, rfl, rfl⟩, rfl, rfl, rfl, rfl, rfl, rfl⟩, ?_⟩, fun j => fun h7 => ⟨(by simp), fun h8_ => have h8 := dT h8_; ⟨rfl, rfl, (by omega), fun x9 => fun h10 => ⟨fun h11_ => have h11 := dT h11_; ⟨rfl, rfl, ?_⟩, fun h12_ => have h12 := dF h12_; ⟨rfl, rfl, (by omega), fun x13 => fun h14 => ⟨fun h15_ => have h15 := dT h15_; ⟨rfl, ?_⟩, fun h16_ => have h16 := dF h16_; ⟨rfl, rfl, (by omega), fun x17 => fun h18 => ⟨(pl _ ?_), fun h19_ => have h19 := nT h19_; ?_, fun h20_ => have h20 := nF h20_; ⟨?_, ⟨(j.fst + (1 : Nat), j.snd), ⟨⟨trivial, rfl, trivial, (by omega), trivial⟩, ⟨rfl, rfl, rfl⟩, rfl, rfl, rfl, rfl, rfl, rfl⟩, ⟨?_, ?_⟩⟩⟩⟩⟩⟩⟩⟩⟩, fun h22_ => have h22 := dF h22_; ⟨(ct _ ?_), fun h23_ => have h23 := dnT h23_; ⟨rfl, rfl, rfl, rfl, rfl, ?_⟩, fun h24_ => have h24 := dnF h24_; ⟨fun h25_ => have h25 := dnT h25_; ⟨rfl, rfl, rfl, rfl, ?_⟩, fun h26_ => have h26 := dnF h26_; ⟨fun h27_ => have h27 := dT h27_; ⟨rfl, rfl, rfl, ?_⟩, fun h28_ => have h28 := dF h28_; ⟨fun h29_ => have h29 := dT h29_; ⟨rfl, rfl, ?_⟩, fun h30_ => have h30 := dF h30_; ⟨fun h31_ => have h31 := dT h31_; ⟨rfl, ?_⟩, fun h32_ => have h32 := dF h32_; ⟨fun h33_ => have h33 := dT h33_; ?_, fun h34_ => have h34 := dF h34_; ⟨?_, ⟨i + (1 : Nat), ⟨⟨trivial, (by omega), trivial⟩, rfl, rfl, rfl⟩, ⟨?_, (by omega)⟩⟩⟩⟩⟩⟩⟩⟩⟩⟩⟩⟩, fun h36_ => have h36 := dF h36_; ?_⟩⟩
 all_goals try have hz := h7.z hp
 all_goals try have e9 := h10
 all_goals try have e13 := Option.some.inj (h10.symm.trans h14)
 all_goals try have e17 := Option.some.inj (h10.symm.trans h18)
 all_goals try subst e13
 all_goals try subst e17
 all_goals try have hl9 := hz.tx _ (List.mem_of_getElem? h10)
 all_goals try have hln := hz.ln
 all_goals try have hhn := hp.hn
 all_goals first
  | exact HkI.zero p
  | exact LnI.zero h5
  | exact h2.all (by assumption)
  | exact h7.bad h10 fun q => by have := q.1; have := q.2.1; omega
  | (unfold InI64; omega)
  | exact h7.bad h10 fun q => dcd_nf.1 h19 q.2.2
  | exact (h7.next h10 ⟨by omega, by omega, dcd_iff.1 h20⟩).1
  | exact (h7.next h10 ⟨by omega, by omega, dcd_iff.1 h20⟩).2
  | exact HkI.next h2 h7.at' ⟨h7.all h22, h24.symm, h26.symm, by omega, by omega, by omega, by omega⟩
  | (refine HkI.bad h7.at' fun q => ?_; have := q.la; have := q.lb; have := q.a0; have := q.a1; have := q.b0; have := q.b1; omega)
  | omega
  | skip
theorem formed_run (hI : LibC X) (p : Pt) (hp : PtZ p) : (R FT X).f 35 [encPt p] = some (boolA (dcd (ptF p))) := by
 have hm := maxLen_le
 have co := hI.co
 refine R_wp (Tr.k p.hs.length (Tr.inv (fun (i : Nat) ↦ St.mk [(10, AV.slice 5 (List.map encHk p.hs)), (11, intA (↑p.hs.length : Int)), (12, intA (↑i : Int))] []) (fun (i : Nat) ↦ HkI p i) (fun (i : Nat) ↦ p.hs.length - i) fun (i : Nat) ↦ (Tr.ix encHk p.hs i fun (x4 : Hk) ↦ Tr.k x4.ls.length (Tr.inv (fun (j : Nat × Hk) ↦ St.mk [(4, AV.ptr 1 0), (5, intA (↑(cA (List.take j.fst j.snd.ls)) : Int)), (6, intA (↑(cB (List.take j.fst j.snd.ls)) : Int)), (10, AV.slice 5 (List.map encHk p.hs)), (11, intA (↑p.hs.length : Int)), (12, intA (↑i : Int)), (17, AV.slice 3 (List.map encDL j.snd.ls)), (18, intA (↑j.snd.ls.length : Int)), (19, intA (↑j.fst : Int))] [MObj.row 0 3 [] true (1 : Nat), MObj.box 46 [intA j.snd.fa, intA j.snd.la, intA j.snd.fb, intA j.snd.lb, AV.slice 3 (List.map encDL j.snd.ls)]]) (fun (j : Nat × Hk) ↦ LnI p i j) (fun (j : Nat × Hk) ↦ lnM j) fun (j : Nat × Hk) ↦ (Tr.ix encDL j.snd.ls j.fst fun (x9 : DL) ↦ ((Tr.b true (Tr.b true Tr.nil).w).br ((Tr.b true Tr.nil).w.br (Tr.c (boolA (decide ((0 : Int) ≤ Lib.indexByte x9.tx
 (10 : UInt8)))) (Tr.nil.br ((Tr.nil.w.w.br Tr.nil.w).w.w.w.br (Tr.b true Tr.nil.w.w).w.w).w.w).w))).w).w.br ((Tr.b true (Tr.b true (Tr.b true Tr.nil).w)).br ((Tr.b true (Tr.b true Tr.nil).w).br ((Tr.b true Tr.nil).w.br (Tr.nil.br Tr.nil.w).w))).w).w).w.br Tr.nil).w) rfl ?_
 refine Eq.mpr (by kernel_rfl : _ = ((List.map encHk p.hs).length = p.hs.length ∧ (∃ (j1 : Nat), ((List.map encHk p.hs = List.map encHk p.hs ∧ (↑p.hs.length : Int) = (↑p.hs.length : Int) ∧ (0 : Int) = (↑j1 : Int) ∧ True) ∧ True) ∧ HkI p j1) ∧ ∀ (i : Nat), HkI p i → (decide ((↑i : Int) < (↑p.hs.length : Int)) = true → List.map encHk p.hs = List.map encHk p.hs ∧ (↑i : Int) = (↑i : Int) ∧ i < p.hs.length ∧ ∀ (x4 : Hk), p.hs[i]? = some x4 → (List.map encDL x4.ls).length = x4.ls.length ∧ (∃ (j6 : Nat × Hk), ((True ∧ (0 : Int) = (↑(cA (List.take j6.fst j6.snd.ls)) : Int) ∧ (0 : Int) = (↑(cB (List.take j6.fst j6.snd.ls)) : Int) ∧ List.map encHk p.hs = List.map encHk p.hs ∧ (↑p.hs.length : Int) = (↑p.hs.length : Int) ∧ (↑i : Int) = (↑i : Int) ∧ List.map encDL x4.ls = List.map encDL j6.snd.ls ∧ (↑x4.ls.length : Int) = (↑j6.snd.ls.length : Int) ∧ (0 : Int) = (↑j6.fst : Int) ∧ True) ∧ @List.nil AV = [] ∧ x4.fa = j6.snd.fa ∧ x4.la = j6.snd.la ∧ x4.fb = j6.snd.fb ∧ x4.lb = j6.snd.lb ∧ List.map encDL x4.ls = List.map encDL j6.snd.ls) ∧ LnI p i j6) ∧ ∀ (j : Nat × Hk), LnI p i j → (decide ((↑j.fst : Int) < (↑j.snd.ls.length : Int)) = true → List.map encDL j.snd.ls = List.map encDL j.snd.ls ∧ (↑j.fst : Int) = (↑j.fst : Int) ∧ j.fst < j.snd.ls.length
 ∧ ∀ (x9 : DL), j.snd.ls[j.fst]? = some x9 → (decide (x9.op < 1) = true → true = true ∧ true = true ∧ false = dcd (ptF p)) ∧ (decide (x9.op < 1) = false → (decide ((3 : Int) < x9.op) = true → true = true ∧ false = dcd (ptF p)) ∧ (decide ((3 : Int) < x9.op) = false → (R FT X).f 67 [strL x9.tx, strL [(10 : UInt8)]] = some (boolA (decide ((0 : Int) ≤ Lib.indexByte x9.tx (10 : UInt8)))) ∧ (decide ((0 : Int) ≤ Lib.indexByte x9.tx (10 : UInt8)) = true → false = dcd (ptF p)) ∧ (decide ((0 : Int) ≤ Lib.indexByte x9.tx (10 : UInt8)) = false → ((!decide (x9.op = 3)) = true → InI64 ((↑(cA (List.take j.fst j.snd.ls)) : Int) + 1) ∧ ((!decide (x9.op = 2)) = true → InI64 ((↑(cB (List.take j.fst j.snd.ls)) : Int) + 1) ∧ InI64 ((↑j.fst : Int) + 1) ∧ ∃ (j19 : Nat × Hk), ((True ∧ (↑(cA (List.take j.fst j.snd.ls)) : Int) + 1 = (↑(cA (List.take j19.fst j19.snd.ls)) : Int) ∧ (↑(cB (List.take j.fst j.snd.ls)) : Int) + 1 = (↑(cB (List.take j19.fst j19.snd.ls)) : Int) ∧ List.map encHk p.hs = List.map encHk p.hs ∧ (↑p.hs.length : Int) = (↑p.hs.length : Int) ∧ (↑i : Int) = (↑i : Int) ∧ List.map encDL j.snd.ls = List.map encDL j19.snd.ls
 ∧ (↑j.snd.ls.length : Int) = (↑j19.snd.ls.length : Int) ∧ (↑j.fst : Int) + 1 = (↑j19.fst : Int) ∧ True) ∧ @List.nil AV = [] ∧ j.snd.fa = j19.snd.fa ∧ j.snd.la = j19.snd.la ∧ j.snd.fb = j19.snd.fb ∧ j.snd.lb = j19.snd.lb ∧ List.map encDL j.snd.ls = List.map encDL j19.snd.ls) ∧ LnI p i j19 ∧ lnM j19 < lnM j) ∧ ((!decide (x9.op = 2)) = false → InI64 ((↑j.fst : Int) + 1) ∧ ∃ (j21 : Nat × Hk), ((True ∧ (↑(cA (List.take j.fst j.snd.ls)) : Int) + 1 = (↑(cA (List.take j21.fst j21.snd.ls)) : Int) ∧ (↑(cB (List.take j.fst j.snd.ls)) : Int) = (↑(cB (List.take j21.fst j21.snd.ls)) : Int) ∧ List.map encHk p.hs = List.map encHk p.hs ∧ (↑p.hs.length : Int) = (↑p.hs.length : Int) ∧ (↑i : Int) = (↑i : Int) ∧ List.map encDL j.snd.ls = List.map encDL j21.snd.ls ∧ (↑j.snd.ls.length : Int) = (↑j21.snd.ls.length : Int) ∧ (↑j.fst : Int) + 1 = (↑j21.fst : Int) ∧ True) ∧ @List.nil AV = [] ∧ j.snd.fa = j21.snd.fa ∧ j.snd.la = j21.snd.la ∧ j.snd.fb = j21.snd.fb ∧ j.snd.lb = j21.snd.lb ∧ List.map encDL j.snd.ls = List.map encDL j21.snd.ls) ∧ LnI p i j21 ∧ lnM j21 < lnM j)) ∧ ((!decide (x9.op = 3)) = false → (!decide (x9.op = 2)) = true ∧ InI64 ((↑(cB (List.take
 j.fst j.snd.ls)) : Int) + 1) ∧ InI64 ((↑j.fst : Int) + 1) ∧ ∃ (j23 : Nat × Hk), ((True ∧ (↑(cA (List.take j.fst j.snd.ls)) : Int) = (↑(cA (List.take j23.fst j23.snd.ls)) : Int) ∧ (↑(cB (List.take j.fst j.snd.ls)) : Int) + 1 = (↑(cB (List.take j23.fst j23.snd.ls)) : Int) ∧ List.map encHk p.hs = List.map encHk p.hs ∧ (↑p.hs.length : Int) = (↑p.hs.length : Int) ∧ (↑i : Int) = (↑i : Int) ∧ List.map encDL j.snd.ls = List.map encDL j23.snd.ls ∧ (↑j.snd.ls.length : Int) = (↑j23.snd.ls.length : Int) ∧ (↑j.fst : Int) + 1 = (↑j23.fst : Int) ∧ True) ∧ @List.nil AV = [] ∧ j.snd.fa = j23.snd.fa ∧ j.snd.la = j23.snd.la ∧ j.snd.fb = j23.snd.fb ∧ j.snd.lb = j23.snd.lb ∧ List.map encDL j.snd.ls = List.map encDL j23.snd.ls) ∧ LnI p i j23 ∧ lnM j23 < lnM j))))) ∧ (decide ((↑j.fst : Int) < (↑j.snd.ls.length : Int)) = false → ((!decide (j.snd.la = (↑(cA (List.take j.fst j.snd.ls)) : Int))) = true → true = true ∧ true = true ∧ true = true ∧ false = dcd (ptF p)) ∧ ((!decide (j.snd.la = (↑(cA (List.take j.fst j.snd.ls)) : Int))) = false → ((!decide (j.snd.lb = (↑(cB (List.take j.fst j.snd.ls)) : Int))) = true → true = true ∧ true = true ∧ false = dcd (ptF p)) ∧ ((!decide (j.snd.lb
 = (↑(cB (List.take j.fst j.snd.ls)) : Int))) = false → (decide ((if j.snd.fb < j.snd.fa then j.snd.fb else j.snd.fa) < 0) = true → true = true ∧ false = dcd (ptF p)) ∧ (decide ((if j.snd.fb < j.snd.fa then j.snd.fb else j.snd.fa) < 0) = false → (decide ((2147483647 : Int) < if j.snd.fb > j.snd.fa then j.snd.fb else j.snd.fa) = true → false = dcd (ptF p)) ∧ (decide ((2147483647 : Int) < if j.snd.fb > j.snd.fa then j.snd.fb else j.snd.fa) = false → InI64 ((↑i : Int) + 1) ∧ ∃ (j33 : Nat), ((List.map encHk p.hs = List.map encHk p.hs ∧ (↑p.hs.length : Int) = (↑p.hs.length : Int) ∧ (↑i : Int) + 1 = (↑j33 : Int) ∧ True) ∧ True) ∧ HkI p j33 ∧ p.hs.length - j33 < p.hs.length - i)))))) ∧ (decide ((↑i : Int) < (↑p.hs.length : Int)) = false → true = dcd (ptF p)))) ?_
 refine ⟨(by simp), ⟨(0 : Nat), ⟨⟨rfl, rfl, (by omega), trivial⟩, trivial⟩, ?_⟩, fun i => fun h2 => ⟨fun h3_ => have h3 := dT h3_; ⟨rfl, rfl, (by omega), fun x4 => fun h5 => ⟨(by simp), ⟨((0 : Nat), x4), ⟨⟨trivial, rfl, rfl, rfl, rfl, rfl, rfl, rfl, (by omega), trivial⟩, rfl, rfl, rfl, rfl, rfl, rfl⟩, ?_⟩, fun j => fun h7 => ⟨fun h8_ => have h8 := dT h8_; ⟨rfl, rfl, (by omega), fun x9 => fun h10 => ⟨fun h11_ => have h11 := dT h11_; ⟨rfl, rfl, ?_⟩, fun h12_ => have h12 := dF h12_; ⟨fun h13_ => have h13 := dT h13_; ⟨rfl, ?_⟩, fun h14_ => have h14 := dF h14_; ⟨(co _ _), fun h15_ => have h15 := dT h15_; ?_, fun h16_ => have h16 := dF h16_; ⟨fun h17_ => have h17 := dnT h17_; ⟨?_, fun h18_ => have h18 := dnT h18_; ⟨?_, ?_, ⟨(j.fst + (1 : Nat), j.snd), ⟨⟨trivial, ?_, ?_, rfl, rfl, rfl, rfl, rfl, (by omega), trivial⟩, rfl, rfl, rfl, rfl, rfl, rfl⟩, ⟨?_, ?_⟩⟩⟩, fun h20_ => have h20 := dnF h20_; ⟨?_, ⟨(j.fst + (1 : Nat), j.snd), ⟨⟨trivial, ?_, ?_, rfl, rfl, rfl, rfl, rfl, (by omega), trivial⟩, rfl, rfl, rfl, rfl, rfl, rfl⟩, ⟨?_, ?_⟩⟩⟩⟩, fun h22_ => have h22 := dnF h22_; ⟨(tnD (by omega)), ?_, ?_, ⟨(j.fst + (1 : Nat), j.snd), ⟨⟨trivial, ?_, ?_, rfl, rfl, rfl, rfl, rfl, (by omega), trivial⟩, rfl, rfl, rfl, rfl, rfl, rfl⟩, ⟨?_, ?_⟩⟩⟩⟩⟩⟩⟩⟩, fun h24_ => have h24 := dF h24_; ⟨fun h25_ => have h25 := dnT h25_; ⟨rfl, rfl, rfl, ?_⟩, fun h26_ => have h26 := dnF h26_; ⟨fun h27_ => have h27 := dnT h27_; ⟨rfl, rfl, ?_⟩, fun h28_ => have h28 := dnF h28_; ⟨fun h29_ => have h29 := dT h29_; ⟨rfl, ?_⟩, fun h30_ => have h30 := dF h30_; ⟨fun h31_ => have h31 := dT h31_; ?_, fun h32_ => have h32 := dF h32_; ⟨?_, ⟨i + (1 : Nat), ⟨⟨rfl, rfl, (by omega), trivial⟩, trivial⟩, ⟨?_, (by omega)⟩⟩⟩⟩⟩⟩⟩⟩⟩⟩, fun h34_ => have h34 := dF h34_; ?_⟩⟩
 all_goals try have hz := h7.z hp
 all_goals try have e9 := h10
 all_goals try have e13 := Option.some.inj (h10.symm.trans h10)
 all_goals try have e17 := Option.some.inj (h10.symm.trans h10)
 all_goals try subst e13
 all_goals try subst e17
 all_goals try have hl9 := hz.tx _ (List.mem_of_getElem? h10)
 all_goals try have hln := hz.ln
 all_goals try have hhn := hp.hn
 all_goals try have qa := cA_le (j.2.ls.take j.1)
 all_goals try have qb := cB_le (j.2.ls.take j.1)
 all_goals try rw [List.length_take] at qa qb
 all_goals try rw [List.take_of_length_le (show j.2.ls.length ≤ j.1 by omega)] at *
 all_goals first
  | exact HkI.zero p
  | exact LnI.zero h5
  | exact h2.all (by assumption)
  | exact h7.bad h10 fun q => by have := q.1; have := q.2.1; omega
  | (unfold InI64; omega)
  | (refine h7.bad h10 fun q => ?_; obtain ⟨y, r, e, -⟩ := idx_yes h15; exact q.2.2 10 (by rw [e]; simp) rfl)
  | exact (h7.next h10 ⟨by omega, by omega, idx_no (by omega)⟩).1
  | exact (h7.next h10 ⟨by omega, by omega, idx_no (by omega)⟩).2
  | (show _ = ((cA (j.2.ls.take (j.1 + 1)) : Nat) : Int); rw [cA_take h10]; split <;> omega)
  | (show _ = ((cB (j.2.ls.take (j.1 + 1)) : Nat) : Int); rw [cB_take h10]; split <;> omega)
  | (refine HkI.bad h7.at' fun q => ?_; have := q.la; have := q.lb; have := q.a0; have := q.a1; have := q.b0; have := q.b1; omega)
  | (refine HkI.bad h7.at' fun q => ?_; have := q.la; have := q.lb; have := q.a0; have := q.a1; have := q.b0; have := q.b1; split at h29 <;> omega)
  | (refine HkI.bad h7.at' fun q => ?_; have := q.la; have := q.lb; have := q.a0; have := q.a1; have := q.b0; have := q.b1; split at h31 <;> omega)
  | exact HkI.next h2 h7.at' ⟨h7.all h24, h26, h28, by split at h30 <;> omega, by split at h32 <;> omega, by split at h30 <;> omega, by split at h32 <;> omega⟩
  | omega
  | skip
def nmb (b n : Int) : Bs := if n ≤ 1 then Lib.itoa (b + n) else Lib.itoa (b + 1) ++ [44] ++ Lib.itoa (b + n)
end
end Go.Proofs.YtfbpbkcplpkndaaGreatDoor
end
