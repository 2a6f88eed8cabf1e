/- Own texts of this claim, merged: Df18, Df16, Df19, DfF, DfG, DfN, DfH, DfY, Dfd. -/
import Derived.Test.YtfbpbkcplpkndaaGreatDoorPdf
section
namespace Go.Proofs.YtfbpbkcplpkndaaGreatDoor
set_option linter.unusedVariables false
set_option linter.unusedSimpArgs false
set_option maxRecDepth 100000
set_option maxHeartbeats 2000000
def opV (s : Bs) : Int := if s[0]? = some 32 then 1 else if s[0]? = some 45 then 2 else if s[0]? = some 43 then 3 else 0
structure Hk2I (ls : List Bs) (k : Nat) (j : Nat × Int × List DL) : Prop where
 le : j.1 ≤ ls.length
 ln : j.2.2.length ≤ j.1
 ok : j.2.1 = 0 → hdE (lnAt ls k) = 0 ∧ Bd ls ((hd2G (lnAt ls k)).la - cA j.2.2) ((hd2G (lnAt ls k)).lb - cB j.2.2) j.1 j.2.2 (hkB ls k)
 bad : j.2.1 ≠ 0 → hdE (lnAt ls k) = j.2.1 ∧ k = j.1 ∧ j.2.2 = []
def hk2M (ls : List Bs) (j : Nat × Int × List DL) : Nat := if j.2.1 = 0 then ls.length - j.1 + 1 else 0
section
variable {ls : List Bs} {k : Nat} {j : Nat × Int × List DL}
theorem opV_c (x : Bs) : (opV x = 1 ∧ x[0]? = some 32) ∨ (opV x = 2 ∧ x[0]? = some 45) ∨ (opV x = 3 ∧ x[0]? = some 43) ∨ (opV x = 0 ∧ x[0]? ≠ some 32 ∧ x[0]? ≠ some 45 ∧ x[0]? ≠ some 43) := by
 unfold opV
 split
 ·rename_i h; exact .inl ⟨rfl, h⟩
 ·split
  ·rename_i h; exact .inr (.inl ⟨rfl, h⟩)
  ·split
   ·rename_i h; exact .inr (.inr (.inl ⟨rfl, h⟩))
   ·rename_i h1 h2 h3; exact .inr (.inr (.inr ⟨rfl, h1, h2, h3⟩))
theorem opV_P {x : Bs} {a b : Int} (h : ¬ opV x = 0) (ha : opV x ≠ 3 → 0 < a) (hb : opV x ≠ 2 → 0 < b) : opP x a b = some (opV x) := by
 rcases opV_c x with ⟨q, q2⟩ | ⟨q, q2⟩ | ⟨q, q2⟩ | ⟨q, -⟩
 ·rw [q] at ha hb ⊢; exact opP_1 q2 (ha (by decide)) (hb (by decide))
 ·rw [q] at ha hb ⊢; exact opP_2 q2 (ha (by decide))
 ·rw [q] at ha hb ⊢; exact opP_3 q2 (hb (by decide))
 ·exact absurd q h
theorem opV_N {x : Bs} {a b : Int} (h : opV x = 0 ∨ (opV x ≠ 3 ∧ a ≤ 0) ∨ (opV x ≠ 2 ∧ b ≤ 0)) : opP x a b = none := by
 cases ho : opP x a b with
 | none => rfl
 | some op =>
  have : ∀ {c d : UInt8}, x[0]? = some c → x[0]? = some d → c = d := fun h1 h2 => by rw [h1] at h2; injection h2
  rcases opV_c x with ⟨q, q2⟩ | ⟨q, q2⟩ | ⟨q, q2⟩ | ⟨q, n1, n2, n3⟩ <;> rcases opP_cases ho with ⟨-, g, g2, g3⟩ | ⟨-, g, g2⟩ | ⟨-, g, g2⟩
  ·omega
  ·exact absurd (this q2 g) (by decide)
  ·exact absurd (this q2 g) (by decide)
  ·exact absurd (this q2 g) (by decide)
  ·omega
  ·exact absurd (this q2 g) (by decide)
  ·exact absurd (this q2 g) (by decide)
  ·exact absurd (this q2 g) (by decide)
  ·omega
  ·exact absurd g n1
  ·exact absurd g n2
  ·exact absurd g n3
theorem Hk2I.init (hk : k < ls.length) : Hk2I ls k (hd2A ls k, hd2E (lnAt ls k), []) := by
 have e := hd2_eq (lnAt ls k)
 refine ⟨?_, Nat.zero_le _, fun h => ?_, fun h => ?_⟩
 ·show hd2A ls k ≤ ls.length
  unfold hd2A; split <;> omega
 ·have h : hd2E (lnAt ls k) = 0 := h
  have h' : hdE (lnAt ls k) = 0 := by rw [← e.1]; exact h
  refine ⟨h', ?_⟩
  show Bd ls ((hd2G (lnAt ls k)).la - (cA [] : Nat)) ((hd2G (lnAt ls k)).lb - (cB [] : Nat)) (hd2A ls k) [] (hkB ls k)
  rw [e.2 h', hd2A_y h]
  have := bdR_ok ls (hdV (lnAt ls k)).la (hdV (lnAt ls k)).lb (k + 1)
  simpa [cA, cB, hkB] using this
 ·exact ⟨e.1.symm, (hd2A_n h).symm, rfl⟩
theorem Hk2I.go {x x' : Bs} {t : Bool} {k' : Nat} (h : Hk2I ls k j) (e : j.2.1 = 0) (hx : ls[j.1]? = some x) (hx' : ls[j.1]? = some x') (ho : ¬ opV x = 0) (ha : opV x ≠ 3 → (cA j.2.2 : Int) < (hd2G (lnAt ls k)).la) (hb : opV x ≠ 2 → (cB j.2.2 : Int) < (hd2G (lnAt ls k)).lb)
    (hn : neB ls (j.1 + 1) = t) (hk : k' = if t = true then j.1 + 1 + 1 else j.1 + 1) : Hk2I ls k (k', j.2.1, j.2.2 ++ [⟨opV x, (x'.take x'.length).drop 1, t⟩]) := by
  rw [hx] at hx'; injection hx' with hx'; subst hx'
  obtain ⟨h1, h2⟩ := h.ok e
  have hP := opV_P (a := (hd2G (lnAt ls k)).la - cA j.2.2) (b := (hd2G (lnAt ls k)).lb - cB j.2.2) ho (fun q => by have := ha q; omega) (fun q => by have := hb q; omega)
  have hl := (List.getElem?_eq_some_iff.1 hx).1
  have hq : nxt ls (j.1 + 1) = k' := by unfold nxt; rw [hn, hk]
  have hle : k' ≤ ls.length := by rw [← hq]; exact nxt_le (by omega)
  have hge : j.1 + 1 ≤ k' := by rw [← hq]; exact nxt_ge _
  refine ⟨hle, ?_, fun _ => ⟨h1, ?_⟩, fun q => absurd e q⟩
  · show (j.2.2 ++ _).length ≤ k'
    rw [List.length_append, List.length_singleton]
    have := h.ln; omega
  · show Bd ls ((hd2G (lnAt ls k)).la - (cA (j.2.2 ++ [_]) : Nat)) ((hd2G (lnAt ls k)).lb - (cB (j.2.2 ++ [_]) : Nat)) k' (j.2.2 ++ [_]) (hkB ls k)
    rw [cA_app, cB_app, cA_one, cB_one, List.take_of_length_le (Nat.le_refl _)]
    generalize hkB ls k = r at h2 ⊢
    cases h2 with
    | fin q => rcases opP_cases hP with q' | q' | q' <;> omega
    | out _ q => omega
    | bad _ q q2 => rw [hx] at q; cases q; rw [hP] at q2; cases q2
    | go q q2 q3 =>
      rw [hx] at q; cases q; rw [hP] at q2; cases q2
      rw [← hq, ← hn]
      simp only
      have e1 : ((hd2G (lnAt ls k)).la - ((cA j.2.2 + if opV x = 3 then 0 else 1 : Nat) : Int)) = if opV x = 3 then (hd2G (lnAt ls k)).la - cA j.2.2 else (hd2G (lnAt ls k)).la - cA j.2.2 - 1 := by split <;> omega
      have e2 : ((hd2G (lnAt ls k)).lb - ((cB j.2.2 + if opV x = 2 then 0 else 1 : Nat) : Int)) = if opV x = 2 then (hd2G (lnAt ls k)).lb - cB j.2.2 else (hd2G (lnAt ls k)).lb - cB j.2.2 - 1 := by split <;> omega
      rw [e1, e2]
      exact q3
abbrev Hk2E (ls : List Bs) (k : Nat) (j : Nat × Int × List DL) (e : Int) : Prop := HunkE ls k (j.1, j.2.1, 0, 0, j.2.2) e
theorem Hk2I.end (h : Hk2I ls k j) (e : j.2.1 = 0) {r : Int × Nat × List DL} (hr : hkB ls k = r) (h1 : r.2.1 = j.1) (h2 : r.2.2 = j.2.2) : Hk2E ls k j r.1 := by
 obtain ⟨q, -⟩ := h.ok e
 refine ⟨?_, ?_, ?_⟩
 ·unfold hkE; rw [if_pos q, hr]
 ·unfold hkA; rw [if_pos q, hr, h1]
 ·unfold hkLn; rw [if_pos q, hr, h2]
theorem Hk2I.fin (h : Hk2I ls k j) (e : j.2.1 = 0) (ha : ¬ (cA j.2.2 : Int) < (hd2G (lnAt ls k)).la) (hb : ¬ (cB j.2.2 : Int) < (hd2G (lnAt ls k)).lb) : Hk2E ls k j j.2.1 := by
 rw [e]
 exact h.end e ((h.ok e).2.det (.fin (by omega))) rfl rfl
theorem Hk2I.err (h : Hk2I ls k j) (e : ¬ j.2.1 = 0) : Hk2E ls k j j.2.1 := by
 obtain ⟨q1, q2, q3⟩ := h.bad e
 have hn : ¬ hdE (lnAt ls k) = 0 := by rw [q1]; exact e
 refine ⟨?_, ?_, ?_⟩
 ·unfold hkE; rw [if_neg hn, q1]
 ·unfold hkA; rw [if_neg hn, q2]
 ·unfold hkLn; rw [if_neg hn, q3]
theorem Hk2I.out (h : Hk2I ls k j) (e : j.2.1 = 0) (hab : (cA j.2.2 : Int) < (hd2G (lnAt ls k)).la ∨ (cB j.2.2 : Int) < (hd2G (lnAt ls k)).lb) (hl : (ls.length : Int) ≤ j.1) : Hk2E ls k j 1 :=
 h.end e ((h.ok e).2.det (.out (by omega) (by omega))) rfl rfl
theorem Hk2I.no {x : Bs} (h : Hk2I ls k j) (e : j.2.1 = 0) (hab : (cA j.2.2 : Int) < (hd2G (lnAt ls k)).la ∨ (cB j.2.2 : Int) < (hd2G (lnAt ls k)).lb) (hx : ls[j.1]? = some x) (q : opV x = 0 ∨ (opV x ≠ 3 ∧ (hd2G (lnAt ls k)).la ≤ cA j.2.2) ∨ (opV x ≠ 2 ∧ (hd2G (lnAt ls k)).lb ≤ cB j.2.2)) : Hk2E ls k j 1 :=
 h.end e ((h.ok e).2.det (.bad (by omega) hx (opV_N (by omega)))) rfl rfl
end
section
variable {X : CallF}
end
end Go.Proofs.YtfbpbkcplpkndaaGreatDoor
end
section
namespace Go.Proofs.YtfbpbkcplpkndaaGreatDoor
set_option linter.unusedVariables false
set_option linter.unusedSimpArgs false
set_option maxRecDepth 100000
set_option maxHeartbeats 2000000
section
variable {ls : List Bs} {k n : Nat} {x x' p : Bs}
theorem z0 (h : ls[k]? = some x) : ls[0 + k]? = some x := by rw [Nat.zero_add]; exact h
end
section
variable {X : CallF}
end
end Go.Proofs.YtfbpbkcplpkndaaGreatDoor
end
section
namespace Go.Proofs.YtfbpbkcplpkndaaGreatDoor
set_option linter.unusedVariables false
set_option linter.unusedSimpArgs false
set_option maxRecDepth 100000
set_option maxHeartbeats 2000000
section
variable {X : CallF}
theorem sameHunk_run (h : Hk) (hl : h.ls.length ≤ 1000000000) : (R FT X).f 27 [encHk h, encHk h] = some (boolA true) := by
 have hm := maxLen_le
 refine R_wp ((Tr.b false (Tr.b false (Tr.b false (Tr.b false (Tr.k h.ls.length (Tr.k h.ls.length (Tr.b false (Tr.inv (fun (k : Nat) ↦ St.mk [(2, AV.ptr 0 0), (3, AV.ptr 1 0), (5, intA (↑k : Int))] [MObj.box 46 [intA h.fa, intA h.la, intA h.fb, intA h.lb, AV.slice 3 (List.map encDL h.ls)], MObj.box 46 [intA h.fa, intA h.la, intA h.fb, intA h.lb, AV.slice 3 (List.map encDL h.ls)]]) (fun (k : Nat) ↦ k ≤ h.ls.length) (fun (k : Nat) ↦ h.ls.length - k) fun (k : Nat) ↦ (Tr.k h.ls.length ((Tr.ix encDL h.ls k fun (x4 : DL) ↦ Tr.ix encDL h.ls k fun (x6 : DL) ↦ (Tr.nil.br Tr.nil.w).w).w.w.br Tr.nil)).w).w).w)))))).w) rfl ?_
 refine Eq.mpr (by kernel_rfl : _ = ((!decide (h.fa = h.fa)) = false ∧ (!decide (h.la = h.la)) = false ∧ (!decide (h.fb = h.fb)) = false ∧ (!decide (h.lb = h.lb)) = false ∧ (List.map encDL h.ls).length = h.ls.length ∧ (List.map encDL h.ls).length = h.ls.length ∧ (!decide ((↑h.ls.length : Int) = (↑h.ls.length : Int))) = false ∧ (∃ (j1 : Nat), ((True ∧ True ∧ (0 : Int) = (↑j1 : Int) ∧ True) ∧ (h.fa = h.fa ∧ h.la = h.la ∧ h.fb = h.fb ∧ h.lb = h.lb ∧ List.map encDL h.ls = List.map encDL h.ls) ∧ h.fa = h.fa ∧ h.la = h.la ∧ h.fb = h.fb ∧ h.lb = h.lb ∧ List.map encDL h.ls = List.map encDL h.ls) ∧ j1 ≤ h.ls.length) ∧ ∀ (k : Nat), k ≤ h.ls.length → (List.map encDL h.ls).length = h.ls.length ∧ (decide ((↑k : Int) < (↑h.ls.length : Int)) = true → List.map encDL h.ls = List.map encDL h.ls ∧ (↑k : Int) = (↑k : Int) ∧ k < h.ls.length ∧ ∀ (x4 : DL), h.ls[k]? = some x4 → List.map encDL h.ls = List.map encDL h.ls ∧ (↑k : Int) = (↑k : Int) ∧ k < h.ls.length ∧ ∀ (x6 : DL), h.ls[k]? = some x6 → ((!(decide (x4.op = x6.op) && (decide ((ofL x4.tx).data.toList = (ofL x6.tx).data.toList) && decide (x4.ne = x6.ne)))) = true → false = true) ∧ ((!(decide (x4.op = x6.op) && (decide ((ofL x4.tx).data.toList = (ofL x6.tx).data.toList) && decide (x4.ne
 = x6.ne)))) = false → InI64 ((↑k : Int) + 1) ∧ ∃ (j10 : Nat), ((True ∧ True ∧ (↑k : Int) + 1 = (↑j10 : Int) ∧ True) ∧ (h.fa = h.fa ∧ h.la = h.la ∧ h.fb = h.fb ∧ h.lb = h.lb ∧ List.map encDL h.ls = List.map encDL h.ls) ∧ h.fa = h.fa ∧ h.la = h.la ∧ h.fb = h.fb ∧ h.lb = h.lb ∧ List.map encDL h.ls = List.map encDL h.ls) ∧ j10 ≤ h.ls.length ∧ h.ls.length - j10 < h.ls.length - k)) ∧ (decide ((↑k : Int) < (↑h.ls.length : Int)) = false → true = true))) ?_
 refine ⟨(fnD rfl), (fnD rfl), (fnD rfl), (fnD rfl), (by simp), (by simp), (fnD rfl), ⟨(0 : Nat), ⟨⟨trivial, trivial, (by omega), trivial⟩, ⟨rfl, rfl, rfl, rfl, rfl⟩, rfl, rfl, rfl, rfl, rfl⟩, (by omega)⟩, fun k => fun h2 => ⟨(by simp), fun h3_ => have h3 := dT h3_; ⟨rfl, rfl, (by omega), fun x4 => fun h5 => ⟨rfl, rfl, (by omega), fun x6 => fun h7 => ⟨fun h8_ => have h8 := nT h8_; ?_, fun h9_ => have h9 := nF h9_; ⟨(by unfold InI64; omega), ⟨k + (1 : Nat), ⟨⟨trivial, trivial, (by omega), trivial⟩, ⟨rfl, rfl, rfl, rfl, rfl⟩, rfl, rfl, rfl, rfl, rfl⟩, ⟨(by omega), (by omega)⟩⟩⟩⟩⟩⟩, fun h11_ => have h11 := dF h11_; rfl⟩⟩
 rw [h5] at h7; injection h7 with h7; subst h7; simp at h8
theorem sameHunk_e (h h' : Hk) (e : h = h') (hl : h.ls.length ≤ 1000000000) : (R FT X).f 27 [encHk h, encHk h'] = some (boolA true) := by
 subst e; exact sameHunk_run h hl
theorem samePatch_run (p : Pt) (hl : p.hs.length ≤ 1000000000) (hx : ∀ h ∈ p.hs, h.ls.length ≤ 1000000000) : (R FT X).f 12 [encPt p, encPt p] = some (boolA true) := by
 have hm := maxLen_le
 have sh := fun (h h' : Hk) e hl => sameHunk_e (X := X) h h' e hl
 refine R_wp (((Tr.b true (Tr.b true Tr.nil).w).br ((Tr.b true Tr.nil).w.br (Tr.k p.hs.length (Tr.k p.hs.length (Tr.b false (Tr.inv (fun (k : Nat) ↦ St.mk [(2, AV.ptr 0 0), (3, AV.ptr 1 0), (5, intA (↑k : Int))] [MObj.box 29 [strL p.old, strL p.new, AV.slice 5 (List.map encHk p.hs)], MObj.box 29 [strL p.old, strL p.new, AV.slice 5 (List.map encHk p.hs)]]) (fun (k : Nat) ↦ k ≤ p.hs.length) (fun (k : Nat) ↦ p.hs.length - k) fun (k : Nat) ↦ (Tr.k p.hs.length ((Tr.ix encHk p.hs k fun (x8 : Hk) ↦ Tr.ix encHk p.hs k fun (x10 : Hk) ↦ Tr.c (boolA true) (Tr.b false Tr.nil.w).w).w.w.br Tr.nil)).w).w).w)))).w) rfl ?_
 refine Eq.mpr (by kernel_rfl : _ = (((!decide (p.old = p.old)) = true → true = true ∧ true = true ∧ false = true) ∧ ((!decide (p.old = p.old)) = false → ((!decide (p.new = p.new)) = true → true = true ∧ false = true) ∧ ((!decide (p.new = p.new)) = false → (List.map encHk p.hs).length = p.hs.length ∧ (List.map encHk p.hs).length = p.hs.length ∧ (!decide ((↑p.hs.length : Int) = (↑p.hs.length : Int))) = false ∧ (∃ (j5 : Nat), ((True ∧ True ∧ (0 : Int) = (↑j5 : Int) ∧ True) ∧ (p.old = p.old ∧ p.new = p.new ∧ List.map encHk p.hs = List.map encHk p.hs) ∧ p.old = p.old ∧ p.new = p.new ∧ List.map encHk p.hs = List.map encHk p.hs) ∧ j5 ≤ p.hs.length) ∧ ∀ (k : Nat), k ≤ p.hs.length → (List.map encHk p.hs).length = p.hs.length ∧ (decide ((↑k : Int) < (↑p.hs.length : Int)) = true → List.map encHk p.hs = List.map encHk p.hs ∧ (↑k : Int) = (↑k : Int) ∧ k < p.hs.length ∧ ∀ (x8 : Hk), p.hs[k]? = some x8 → List.map encHk p.hs = List.map encHk p.hs ∧ (↑k : Int) = (↑k : Int) ∧ k < p.hs.length ∧ ∀ (x10 : Hk), p.hs[k]? = some x10 → (R FT X).f 27 [encHk x8, encHk x10] = some (boolA true) ∧ false = false ∧ InI64 ((↑k : Int) + 1) ∧ ∃ (j12 : Nat), ((True ∧ True ∧ (↑k : Int) + 1 = (↑j12 : Int) ∧ True) ∧ (p.old = p.old
 ∧ p.new = p.new ∧ List.map encHk p.hs = List.map encHk p.hs) ∧ p.old = p.old ∧ p.new = p.new ∧ List.map encHk p.hs = List.map encHk p.hs) ∧ j12 ≤ p.hs.length ∧ p.hs.length - j12 < p.hs.length - k) ∧ (decide ((↑k : Int) < (↑p.hs.length : Int)) = false → true = true))))) ?_
 refine ⟨fun h1_ => have h1 := dnT h1_; ⟨rfl, rfl, ?_⟩, fun h2_ => have h2 := dnF h2_; ⟨fun h3_ => have h3 := dnT h3_; ⟨rfl, ?_⟩, fun h4_ => have h4 := dnF h4_; ⟨(by simp), (by simp), (fnD rfl), ⟨(0 : Nat), ⟨⟨trivial, trivial, (by omega), trivial⟩, ⟨rfl, rfl, rfl⟩, rfl, rfl, rfl⟩, (by omega)⟩, fun k => fun h6 => ⟨(by simp), fun h7_ => have h7 := dT h7_; ⟨rfl, rfl, (by omega), fun x8 => fun h9 => ⟨rfl, rfl, (by omega), fun x10 => fun h11 => ⟨(sh _ _ ?_ ?_), rfl, (by unfold InI64; omega), ⟨k + (1 : Nat), ⟨⟨trivial, trivial, (by omega), trivial⟩, ⟨rfl, rfl, rfl⟩, rfl, rfl, rfl⟩, ⟨(by omega), (by omega)⟩⟩⟩⟩⟩, fun h13_ => have h13 := dF h13_; rfl⟩⟩⟩⟩
 ·exact absurd rfl h1
 ·exact absurd rfl h3
 ·exact Option.some.inj (h9.symm.trans h11)
 ·exact hx _ (List.mem_of_getElem? h9)
theorem samePatch_e (p p' : Pt) (e : p = p') (hl : p.hs.length ≤ 1000000000) (hx : ∀ h ∈ p.hs, h.ls.length ≤ 1000000000) : (R FT X).f 12 [encPt p, encPt p'] = some (boolA true) := by
 subst e; exact samePatch_run p hl hx
theorem samePatches_run (l : List Pt) (hl : l.length ≤ 1000000000) (hx : ∀ p ∈ l, p.hs.length ≤ 1000000000 ∧ ∀ h ∈ p.hs, h.ls.length ≤ 1000000000) : (R FT X).f 21 [.slice 3 (l.map encPt), .slice 3 (l.map encPt)] = some (boolA true) := by
 have hm := maxLen_le
 have sp := fun (p p' : Pt) e hl hx => samePatch_e (X := X) p p' e hl hx
 refine R_wp ((Tr.k l.length (Tr.k l.length (Tr.b false (Tr.inv (fun (k : Nat) ↦ St.mk [(0, AV.slice 3 (List.map encPt l)), (1, AV.slice 3 (List.map encPt l)), (5, intA (↑k : Int))] []) (fun (k : Nat) ↦ k ≤ l.length) (fun (k : Nat) ↦ l.length - k) fun (k : Nat) ↦ (Tr.k l.length ((Tr.ix encPt l k fun (x4 : Pt) ↦ Tr.ix encPt l k fun (x6 : Pt) ↦ Tr.c (boolA true) (Tr.b false Tr.nil.w).w).w.w.br Tr.nil)).w).w).w)).w) rfl ?_
 refine Eq.mpr (by kernel_rfl : _ = ((List.map encPt l).length = l.length ∧ (List.map encPt l).length = l.length ∧ (!decide ((↑l.length : Int) = (↑l.length : Int))) = false ∧ (∃ (j1 : Nat), ((List.map encPt l = List.map encPt l ∧ List.map encPt l = List.map encPt l ∧ (0 : Int) = (↑j1 : Int) ∧ True) ∧ True) ∧ j1 ≤ l.length) ∧ ∀ (k : Nat), k ≤ l.length → (List.map encPt l).length = l.length ∧ (decide ((↑k : Int) < (↑l.length : Int)) = true → List.map encPt l = List.map encPt l ∧ (↑k : Int) = (↑k : Int) ∧ k < l.length ∧ ∀ (x4 : Pt), l[k]? = some x4 → List.map encPt l = List.map encPt l ∧ (↑k : Int) = (↑k : Int) ∧ k < l.length ∧ ∀ (x6 : Pt), l[k]? = some x6 → (R FT X).f 12 [encPt x4, encPt x6] = some (boolA true) ∧ false = false ∧ InI64 ((↑k : Int) + 1) ∧ ∃ (j8 : Nat), ((List.map encPt l = List.map encPt l ∧ List.map encPt l = List.map encPt l ∧ (↑k : Int) + 1 = (↑j8 : Int) ∧ True) ∧ True) ∧ j8 ≤ l.length ∧ l.length - j8 < l.length - k) ∧ (decide ((↑k : Int) < (↑l.length : Int)) = false → true = true))) ?_
 refine ⟨(by simp), (by simp), (fnD rfl), ⟨(0 : Nat), ⟨⟨rfl, rfl, (by omega), trivial⟩, trivial⟩, (by omega)⟩, fun k => fun h2 => ⟨(by simp), fun h3_ => have h3 := dT h3_; ⟨rfl, rfl, (by omega), fun x4 => fun h5 => ⟨rfl, rfl, (by omega), fun x6 => fun h7 => ⟨(sp _ _ ?_ ?_ ?_), rfl, (by unfold InI64; omega), ⟨k + (1 : Nat), ⟨⟨rfl, rfl, (by omega), trivial⟩, trivial⟩, ⟨(by omega), (by omega)⟩⟩⟩⟩⟩, fun h9_ => have h9 := dF h9_; rfl⟩⟩
 ·exact Option.some.inj (h5.symm.trans h7)
 ·exact (hx _ (List.mem_of_getElem? h5)).1
 ·exact (hx _ (List.mem_of_getElem? h5)).2
end
end Go.Proofs.YtfbpbkcplpkndaaGreatDoor
end
section
namespace Go.Proofs.YtfbpbkcplpkndaaGreatDoor
set_option linter.unusedVariables false
set_option linter.unusedSimpArgs false
def wL (l : List DL) : Nat := (l.map fun x => x.tx.length + 1).sum
def wP (l : List Hk) : Nat := (l.map fun h => wL h.ls + 1).sum
theorem fm_le {α : Type} (f : α → Bs) (g : α → Nat) (c : Nat) (l : List α) (h : ∀ x ∈ l, (f x).length ≤ c * g x) : (l.flatMap f).length ≤ c * (l.map g).sum := by
 induction l with
 | nil => simp
 | cons x r ih =>
  have h1 := h x (by simp)
  have h2 := ih fun y hy => h y (by simp [hy])
  rw [List.flatMap_cons, List.length_append, List.map_cons, List.sum_cons, Nat.mul_add]; omega
theorem wL_app (a b : List DL) : wL (a ++ b) = wL a + wL b := by simp [wL]
theorem wL_one (x : DL) : wL [x] = x.tx.length + 1 := by simp [wL]
theorem wL_cons (x : DL) (r : List DL) : wL (x :: r) = x.tx.length + 1 + wL r := by simp [wL]
theorem wL_len (l : List DL) : l.length ≤ wL l := by
 induction l with
 | nil => simp
 | cons x r ih => rw [wL_cons, List.length_cons]; omega
theorem sum_ge {α : Type} (g : α → Nat) {l : List α} {x : α} (h : x ∈ l) : g x ≤ (l.map g).sum := by
 induction l with
 | nil => cases h
 | cons y r ih =>
  rw [List.map_cons, List.sum_cons]
  rcases List.mem_cons.1 h with rfl | h
  ·omega
  ·have := ih h; omega
theorem itoa_l2 {n : Int} (h : -100000000000000000000 ≤ n ∧ n ≤ 100000000000000000000) : (Lib.itoa n).length ≤ 30 := by
 have := (Lib.decDigits_length n.natAbs)
 have h2 := nd_le 29 n.natAbs (by decide) (by rw [show (10 : Nat) ^ 29 = 100000000000000000000000000000 by decide]; omega)
 by_cases h1 : n < 0
 ·rw [itoa_neg' h1]; simp only [List.length_cons]; omega
 ·rw [itoa_pos' h1]; omega
theorem ends_l2 {f t : Int} (hf : -100000000000000000000 ≤ f ∧ f ≤ 100000000000000000000) (ht : -100000000000000000000 ≤ t ∧ t ≤ 100000000000000000000) : (ends f t).length ≤ 61 := by
 have := itoa_l2 hf
 have := itoa_l2 ht
 unfold ends; split
 ·omega
 ·simp only [List.length_append, List.length_singleton]; omega
theorem ext_l2 {f n : Int} (hf : InI64 f) (hn : InI64 n) : (ext f n).length ≤ 61 := by
 have := itoa_l2 (n := f) (by unfold InI64 at hf; omega)
 have := itoa_l2 (n := n) (by unfold InI64 at hn; omega)
 unfold ext; split
 ·omega
 ·simp only [List.length_append, List.length_singleton]; omega
theorem wrt_le {b : Bs} (hb : b.length ≤ 2) (x : DL) : (wrt b x).length ≤ 40 * (x.tx.length + 1) := by
 unfold wrt
 simp only [List.length_append, List.length_singleton]
 have : (if x.ne = true then noE ++ [10] else []).length ≤ 28 := by split <;> simp [noE]
 omega
theorem sgn_l (op : Int) : (sgn op).length ≤ 2 := by unfold sgn; (repeat' split) <;> simp
theorem wrs_l {b : Bs} (hb : b.length ≤ 2) (l : List DL) : (l.flatMap (wrt b)).length ≤ 40 * wL l := fm_le _ _ 40 l fun x _ => wrt_le hb x
theorem lsU_l (l : List DL) : (lsU l).length ≤ 40 * wL l := fm_le _ _ 40 l fun x _ => wrt_le (sgn_l x.op) x
theorem hkU_l {h : Hk} (z : HkZ h) : (hkU h).length ≤ 300 * (wL h.ls + 1) := by
 have h1 := lsU_l h.ls
 have h2 := ext_l2 z.fa z.la
 have h3 := ext_l2 z.fb z.lb
 unfold hkU hdU
 simp only [List.length_append, List.length_cons, List.length_nil]; omega
theorem ptU_l {p : Pt} (z : PtZ p) : (ptU p).length ≤ 20 + 4 * p.old.length + 4 * p.new.length + 300 * wP p.hs := by
 have h1 : (p.hs.flatMap hkU).length ≤ 300 * wP p.hs := fm_le _ _ 300 p.hs fun h hh => hkU_l (z.hz h hh)
 have h2 := esc_len p.old
 have h3 := esc_len p.new
 unfold ptU nmU
 simp only [List.length_append, List.length_cons, List.length_nil]; omega
theorem norG_l {a b : Int} {d i : List DL} (ha : -10000000000000000000 ≤ a ∧ a + d.length ≤ 90000000000000000000) (hb : -10000000000000000000 ≤ b ∧ b + i.length ≤ 90000000000000000000) : (norG a b d i).length ≤ 300 * (wL d + wL i) := by
 have l1 := itoa_l2 (n := a) (by omega)
 have l2 := itoa_l2 (n := b) (by omega)
 have l3 := ends_l2 (f := a + 1) (t := a + d.length) (by omega) (by omega)
 have l4 := ends_l2 (f := b + 1) (t := b + i.length) (by omega) (by omega)
 have l5 := wrs_l (b := [60, 32]) (by simp) d
 have l6 := wrs_l (b := [62, 32]) (by simp) i
 have l7 := wL_len d
 have l8 := wL_len i
 unfold norG
 by_cases h : d = [] ∧ i = []
 ·rw [if_pos h]; exact Nat.zero_le _
 ·have : 1 ≤ d.length + i.length := by
   cases d with
   | nil => cases i with
    | nil => exact absurd ⟨rfl, rfl⟩ h
    | cons x r => simp
   | cons x r => simp; omega
  rw [if_neg h]
  (repeat' split) <;> (simp only [List.length_append, List.length_cons, List.length_nil]; omega)
theorem norF_l : ∀ (l : List DL) (a b : Int) (d i : List DL), (-10000000000000000000 ≤ a ∧ a + d.length + l.length ≤ 80000000000000000000) → (-10000000000000000000 ≤ b ∧ b + i.length + l.length ≤ 80000000000000000000) → (norF a b d i l).length ≤ 300 * (wL d + wL i + wL l)
 | [], a, b, d, i, ha, hb => by
  have := norG_l (a := a) (b := b) (d := d) (i := i) (by omega) (by omega)
  show (norG a b d i).length ≤ _
  omega
 | x :: r, a, b, d, i, ha, hb => by
  rw [wL_cons]
  simp only [List.length_cons] at ha hb
  unfold norF
  split
  ·have := norF_l r a b (d ++ [x]) i (by simp only [List.length_append, List.length_singleton]; omega) (by omega)
   rw [wL_app, wL_one] at this; omega
  ·split
   ·have := norF_l r a b d (i ++ [x]) (by omega) (by simp only [List.length_append, List.length_singleton]; omega)
    rw [wL_app, wL_one] at this; omega
   ·have h1 := norG_l (a := a) (b := b) (d := d) (i := i) (by omega) (by omega)
    have h2 := norF_l r (a + d.length + 1) (b + i.length + 1) [] [] (by simp only [List.length_nil]; omega) (by simp only [List.length_nil]; omega)
    have h3 : wL [] = 0 := rfl
    rw [h3] at h2
    rw [List.length_append]; omega
theorem hkN_l {h : Hk} (z : HkZ h) : (hkN h).length ≤ 300 * (wL h.ls + 1) := by
 have h1 := z.fa
 have h2 := z.fb
 have h3 := z.ln
 unfold InI64 at h1 h2
 have := norF_l h.ls (bfr h.fa h.la) (bfr h.fb h.lb) [] [] (by unfold bfr; simp only [List.length_nil]; split <;> omega) (by unfold bfr; simp only [List.length_nil]; split <;> omega)
 have h3 : wL [] = 0 := rfl
 rw [h3] at this
 unfold hkN; omega
theorem nor_l {p : Pt} (z : PtZ p) : (p.hs.flatMap hkN).length ≤ 300 * wP p.hs := fm_le _ _ 300 p.hs fun h hh => hkN_l (z.hz h hh)
structure PtB (p : Pt) : Prop where
 z : PtZ p
 o : p.old.length ≤ 1048576
 n : p.new.length ≤ 1048576
 w : wP p.hs ≤ 1048576
theorem PtB.u {p : Pt} (h : PtB p) : (ptU p).length ≤ 400000000 := by
 have := ptU_l h.z; have := h.o; have := h.n; have := h.w; omega
theorem PtB.nn {p : Pt} (h : PtB p) : (p.hs.flatMap hkN).length ≤ 400000000 := by
 have := nor_l h.z; have := h.w; omega
end Go.Proofs.YtfbpbkcplpkndaaGreatDoor
end
section
namespace Go.Proofs.YtfbpbkcplpkndaaGreatDoor
set_option linter.unusedVariables false
set_option linter.unusedSimpArgs false
theorem sgn_l1 (op : Int) : (sgn op).length = 1 := by unfold sgn; (repeat' split) <;> rfl
theorem wL_mem {l : List DL} {x : DL} (h : x ∈ l) : x.tx.length + 1 ≤ wL l := sum_ge (fun x : DL => x.tx.length + 1) h
theorem wP_mem {l : List Hk} {h : Hk} (q : h ∈ l) : wL h.ls + 1 ≤ wP l := sum_ge (fun h : Hk => wL h.ls + 1) q
theorem PtB.g {p : Pt} (h : PtB p) (f : ptF p) : PtG p := fun k hk => by
 have h1 := wL_len k.ls
 have h2 := wP_mem hk
 have h3 := h.w
 have h4 := cA_le k.ls
 have h8 := cB_le k.ls
 have h5 := f k hk
 have h6 := h5.la
 have h7 := h5.lb
 exact ⟨h5, by omega, by omega⟩
theorem fm_len {α : Type} (f : α → List Bs) (g : α → Nat) (c : Nat) (l : List α) (h : ∀ x ∈ l, (f x).length ≤ c * g x) : (l.flatMap f).length ≤ c * (l.map g).sum := by
 induction l with
 | nil => simp
 | cons x r ih =>
  have h1 := h x (by simp)
  have h2 := ih fun y hy => h y (by simp [hy])
  rw [List.flatMap_cons, List.length_append, List.map_cons, List.sum_cons, Nat.mul_add]; omega
theorem hkL_len (h : Hk) : (hkL h).length ≤ 2 * (wL h.ls + 1) := by
 have h1 : (h.ls.flatMap wrL).length ≤ 2 * wL h.ls := fm_len wrL (fun x => x.tx.length + 1) 2 h.ls fun x _ => by
  unfold wrL; split <;> (simp; omega)
 unfold hkL
 rw [List.length_cons]; omega
theorem ptL_len (p : Pt) : (ptL p).length ≤ 2 + 2 * wP p.hs := by
 have h1 : (p.hs.flatMap hkL).length ≤ 2 * wP p.hs := fm_len hkL (fun h => wL h.ls + 1) 2 p.hs fun h _ => hkL_len h
 unfold ptL
 simp only [List.length_cons]; omega
theorem ptL_le {p : Pt} (z : PtZ p) {n : Nat} (ho : p.old.length ≤ n) (hn : p.new.length ≤ n) (hw : wP p.hs ≤ n) : ∀ y ∈ ptL p, y.length ≤ 4 * n + 300 := by
 intro y hy
 have e1 := esc_len p.old
 have e2 := esc_len p.new
 unfold ptL at hy
 rcases List.mem_cons.1 hy with q | hy
 ·subst q; simp only [List.length_append, mnA, List.length_cons, List.length_nil]; omega
 ·rcases List.mem_cons.1 hy with q | hy
  ·subst q; simp only [List.length_append, mnB, List.length_cons, List.length_nil]; omega
  ·obtain ⟨k, hk, hy⟩ := List.mem_flatMap.1 hy
   have w1 := wP_mem hk
   unfold hkL at hy
   rcases List.mem_cons.1 hy with q | hy
   ·subst q
    have zz := z.hz k hk
    have h2 := ext_l2 zz.fa zz.la
    have h3 := ext_l2 zz.fb zz.lb
    unfold hdU
    simp only [List.length_append, List.length_cons, List.length_nil]; omega
   ·obtain ⟨x, hx, hy⟩ := List.mem_flatMap.1 hy
    have w2 := wL_mem hx
    unfold wrL at hy
    rcases List.mem_cons.1 hy with q | hy
    ·subst q; rw [List.length_append, sgn_l1]; omega
    ·split at hy
     ·rw [List.mem_singleton.1 hy]; simp only [noE, List.length_cons, List.length_nil]; omega
     ·cases hy
theorem pts_lins {ps : List Pt} (h : ∀ p ∈ ps, ptF p) : ps.flatMap uni = ps.flatMap ptU ∧ lins (ps.flatMap ptU) = ps.flatMap ptL := by
 refine ⟨?_, ?_⟩
 ·rw [List.flatMap_def, List.flatMap_def]; congr 1
  exact List.map_congr_left fun p hp => uni_y (h p hp)
 ·rw [pts_jn]
  exact (lins_jn _ fun y hy => by
   obtain ⟨p, hp, hy⟩ := List.mem_flatMap.1 hy
   exact ptL_no (h p hp) y hy).1
end Go.Proofs.YtfbpbkcplpkndaaGreatDoor
end
section
namespace Go.Proofs.YtfbpbkcplpkndaaGreatDoor
set_option linter.unusedVariables false
set_option linter.unusedSimpArgs false
section
variable {ls : List Bs}
theorem Bd.ln {a b : Int} {k : Nat} {acc : List DL} {r : Int × Nat × List DL} (h : Bd ls a b k acc r) : acc.length ≤ k → r.2.2.length ≤ r.2.1 := by
 induction h with
 | fin => exact id
 | out => exact id
 | bad => exact id
 | @go a b op k acc l r h _ _ ih =>
  intro q
  have := nxt_ge (ls := ls) (k + 1)
  exact ih (by rw [List.length_append, List.length_singleton]; omega)
theorem hkH_ln {k : Nat} (hk : k < ls.length) : (hkH ls k).ls.length ≤ ls.length := by
 have h := bdR_ok ls (hdV (lnAt ls k)).la (hdV (lnAt ls k)).lb (k + 1)
 have h1 := h.ln (Nat.zero_le _)
 have h2 := h.adv.2 hk
 unfold hkH hkB
 simp only
 omega
theorem hkA_ge {k : Nat} : k ≤ hkA ls k := by
 unfold hkA hkB
 split
 ·have := (bdR_ok ls (hdV (lnAt ls k)).la (hdV (lnAt ls k)).lb (k + 1)).adv.1; omega
 ·exact Nat.le_refl _
theorem Hs.ln {k : Nat} {acc : List Hk} {r : Int × Nat × List Hk} (h : Hs ls k acc r) : acc.length ≤ k → (∀ h ∈ acc, h.ls.length ≤ ls.length) → r.2.2.length ≤ r.2.1 ∧ ∀ h ∈ r.2.2, h.ls.length ≤ ls.length := by
 induction h with
 | fin => exact fun a b => ⟨a, b⟩
 | @bad k acc _ _ => exact fun a b => ⟨Nat.le_trans a hkA_ge, b⟩
 | @go k acc r h h2 _ ih =>
  intro a b
  have := hkA_adv h2
  refine ih (by rw [List.length_append, List.length_singleton]; omega) fun y hy => ?_
  rcases List.mem_append.1 hy with q | q
  ·exact b y q
  ·rw [List.mem_singleton.1 q]; exact hkH_ln (atH_lt h)
def PtS (n : Nat) (p : Pt) : Prop := p.hs.length ≤ n ∧ ∀ h ∈ p.hs, h.ls.length ≤ n
theorem Pm.ln {k : Nat} {acc : List Pt} {r : Int × Nat × List Pt} (h : Pm ls k acc r) : k ≤ ls.length → acc.length ≤ k → (∀ p ∈ acc, PtS ls.length p) → r.2.2.length ≤ r.2.1 ∧ ∀ p ∈ r.2.2, PtS ls.length p := by
 induction h with
 | fin => exact fun _ a b => ⟨a, b⟩
 | b1 => exact fun _ a b => ⟨a, b⟩
 | b2 => exact fun _ a b => ⟨Nat.le_succ_of_le a, b⟩
 | @b3 k acc o n h h2 h3 =>
  refine fun hk a b => ⟨?_, b⟩
  have h4 := nmP_lt h2
  have : k + 2 ≤ (hsR ls (k + 2)).2.1 := by
   have : ∀ {k : Nat} {acc : List Hk} {r : Int × Nat × List Hk}, Hs ls k acc r → k ≤ r.2.1 := by
    intro k acc r h
    induction h with
    | fin => exact Nat.le_refl _
    | bad => exact hkA_ge
    | go _ h2 _ ih => have := hkA_adv h2; omega
   exact this (hsR_ok ls (k + 2))
  show acc.length ≤ (hsR ls (k + 2)).2.1
  omega
 | @go k acc o n r h h2 h3 _ ih =>
  intro hk a b
  have h4 := nmP_lt h2
  have g := hsR_ok ls (k + 2)
  have g1 := g.adv.1 h3
  have g2 := g.adv.2 (by omega)
  have g3 := g.ln (Nat.zero_le _) (fun h hh => by cases hh)
  refine ih g2 (by rw [List.length_append, List.length_singleton]; omega) fun y hy => ?_
  rcases List.mem_append.1 hy with q | q
  ·exact b y q
  ·rw [List.mem_singleton.1 q]
   exact ⟨Nat.le_trans g3.1 g2, g3.2⟩
end
theorem paP_S (s : Bs) : (paP s).length ≤ (lins s).length ∧ ∀ p ∈ paP s, PtS (lins s).length p := by
 unfold paP
 split
 ·have h := (pmR_ok (lins s)).ln (Nat.zero_le _) (Nat.zero_le _) fun p hp => by cases hp
  have h2 := (pmR_ok (lins s)).adv (Nat.zero_le _)
  exact ⟨Nat.le_trans h.1 h2, h.2⟩
 ·exact ⟨Nat.zero_le _, fun p hp => by cases hp⟩
end Go.Proofs.YtfbpbkcplpkndaaGreatDoor
end
section
namespace Go.Proofs.YtfbpbkcplpkndaaGreatDoor
set_option linter.unusedVariables false
set_option linter.unusedSimpArgs false
def wS (ls : List Bs) (k : Nat) : Nat := ((ls.take k).map fun l => l.length + 1).sum
def wQ (p : Pt) : Nat := p.old.length + p.new.length + 2 + wP p.hs
section
variable {ls : List Bs}
theorem wS_s {k : Nat} {l : Bs} (h : ls[k]? = some l) : wS ls (k + 1) = wS ls k + l.length + 1 := by
 unfold wS
 rw [List.take_add_one, h]
 simp; omega
theorem wS_mono {k m : Nat} (h : k ≤ m) : wS ls k ≤ wS ls m := by
 induction m with
 | zero => rw [Nat.le_zero.1 h]; exact Nat.le_refl _
 | succ m ih =>
  by_cases e : k = m + 1
  ·rw [e]; exact Nat.le_refl _
  ·have := ih (by omega)
   by_cases q : m < ls.length
   ·have := wS_s (List.getElem?_eq_getElem q); omega
   ·unfold wS at *
    rw [List.take_of_length_le (show ls.length ≤ m + 1 by omega)]
    rw [List.take_of_length_le (show ls.length ≤ m by omega)] at this
    exact this
theorem wS_all (s : Bs) (k : Nat) : wS (lins s) k ≤ s.length + 1 := by
 have h1 : ∀ l : List Bs, (l.map fun l => l.length + 1).sum = lensB l + l.length := fun l => by
  induction l with
  | nil => rfl
  | cons x r ih => rw [List.map_cons, List.sum_cons, ih]; simp only [lensB, List.length_cons]; omega
 have h2 : lensB (lins s) + (lins s).length ≤ s.length + 1 := by
  have h := flO_lens 10 s s.length (Nat.le_refl _)
  have hf := flF_le 10 s s.length
  unfold lins; split
  ·rw [flds, lensB_app, List.length_append]
   simp only [lensB, List.length_drop, List.length_singleton]; omega
  ·omega
 have h3 : wS (lins s) k ≤ wS (lins s) (max k (lins s).length) := wS_mono (Nat.le_max_left _ _)
 have h4 : wS (lins s) (max k (lins s).length) = lensB (lins s) + (lins s).length := by
  unfold wS; rw [List.take_of_length_le (Nat.le_max_right _ _), h1]
 omega
theorem wP_app (a b : List Hk) : wP (a ++ b) = wP a + wP b := by simp [wP]
theorem wP_one (h : Hk) : wP [h] = wL h.ls + 1 := by simp [wP]
theorem nxt_ge' (k : Nat) : k ≤ nxt ls k := by unfold nxt; split <;> omega
theorem Bd.w {a b : Int} {k : Nat} {acc : List DL} {r : Int × Nat × List DL} (h : Bd ls a b k acc r) : wL r.2.2 + wS ls k ≤ wL acc + wS ls r.2.1 := by
 induction h with
 | fin => exact Nat.le_refl _
 | out => exact Nat.le_refl _
 | bad => exact Nat.le_refl _
 | @go a b op k acc l r h _ _ ih =>
  have h1 := wS_s h
  have h2 : wS ls (k + 1) ≤ wS ls (nxt ls (k + 1)) := wS_mono (nxt_ge' _)
  rw [wL_app, wL_one] at ih
  have h3 : (l.drop 1).length ≤ l.length := by rw [List.length_drop]; omega
  show _ ≤ _
  have ih' : wL r.2.2 + wS ls (nxt ls (k + 1)) ≤ wL acc + ((l.drop 1).length + 1) + wS ls r.2.1 := ih
  omega
theorem lnAt_get {k : Nat} (h : k < ls.length) : ls[k]? = some (lnAt ls k) := by
 unfold lnAt; rw [List.getD_eq_getElem?_getD, List.getElem?_eq_getElem h]; rfl
theorem hkH_w {k : Nat} (hk : k < ls.length) (h : hkE ls k = 0) : wL (hkH ls k).ls + 1 + wS ls k ≤ wS ls (hkA ls k) := by
 have h0 : hdE (lnAt ls k) = 0 := by
  unfold hkE at h; split at h
  ·assumption
  ·contradiction
 have h1 := wS_s (lnAt_get hk)
 have h2 := (bdR_ok ls (hdV (lnAt ls k)).la (hdV (lnAt ls k)).lb (k + 1)).w
 have h3 : wL [] = 0 := rfl
 rw [h3] at h2
 unfold hkA
 rw [if_pos h0]
 unfold hkH hkB
 simp only
 omega
theorem Hs.w {k : Nat} {acc : List Hk} {r : Int × Nat × List Hk} (h : Hs ls k acc r) : wP r.2.2 + wS ls k ≤ wP acc + wS ls r.2.1 := by
 induction h with
 | fin => exact Nat.le_refl _
 | @bad k acc _ _ => have : wS ls k ≤ wS ls (hkA ls k) := wS_mono hkA_ge; exact Nat.add_le_add_left this _
 | @go k acc r h h2 _ ih =>
  have h3 := hkH_w (atH_lt h) h2
  rw [wP_app, wP_one] at ih
  omega
theorem nmP_w {k : Nat} {p x : Bs} (h : nmP ls k p = some x) : x.length ≤ (lnAt ls k).length := by
 unfold nmP at h; split at h
 ·cases h
  have := unT_len ((lnAt ls k).drop p.length)
  rw [List.length_drop] at this; omega
 ·cases h
theorem Pm.w {k : Nat} {acc : List Pt} {r : Int × Nat × List Pt} (h : Pm ls k acc r) : (r.2.2.map wQ).sum + wS ls k ≤ (acc.map wQ).sum + wS ls r.2.1 := by
 induction h with
 | fin => exact Nat.le_refl _
 | b1 => exact Nat.le_refl _
 | @b2 k acc o _ _ => have : wS ls k ≤ wS ls (k + 1) := wS_mono (Nat.le_succ k); exact Nat.add_le_add_left this _
 | @b3 k acc o n h1 h2 h3 =>
  have q := (hsR_ok ls (k + 2)).w
  have h0 : wP [] = 0 := rfl
  rw [h0] at q
  have : wS ls k ≤ wS ls (k + 2) := wS_mono (by omega)
  show (acc.map wQ).sum + wS ls k ≤ (acc.map wQ).sum + wS ls (hsR ls (k + 2)).2.1
  omega
 | @go k acc o n r h1 h2 h3 _ ih =>
  have q := (hsR_ok ls (k + 2)).w
  have h0 : wP [] = 0 := rfl
  rw [h0] at q
  have l1 := nmP_lt h1
  have l2 := nmP_lt h2
  have e1 := wS_s (lnAt_get l1)
  have e2 : wS ls (k + 2) = wS ls (k + 1) + (lnAt ls (k + 1)).length + 1 := wS_s (lnAt_get l2)
  have n1 := nmP_w h1
  have n2 := nmP_w h2
  rw [List.map_append, List.sum_append] at ih
  have e3 : (List.map wQ [(⟨o, n, (hsR ls (k + 2)).2.2⟩ : Pt)]).sum = o.length + n.length + 2 + wP (hsR ls (k + 2)).2.2 := by simp [wQ]
  rw [e3] at ih
  clear e3
  omega
end
theorem paP_w (s : Bs) : ((paP s).map wQ).sum ≤ s.length + 1 := by
 unfold paP; split
 ·have h := (pmR_ok (lins s)).w
  have h2 := wS_all s (pmR (lins s)).2.1
  have h3 : (List.map wQ []).sum = 0 := rfl
  rw [h3] at h
  omega
 ·exact Nat.zero_le _
theorem paP_B (s : Bs) (hs : s.length ≤ 1048576) : ∀ p ∈ paP s, PtB p ∧ ptF p := fun p hp => by
 have h1 := paP_w s
 have h2 : p.old.length + p.new.length + 2 + wP p.hs ≤ ((paP s).map wQ).sum := sum_ge wQ hp
 have g := pa_formed s p hp
 have f : ptF p := g.f
 have hl : p.hs.length ≤ wP p.hs := by
  have : ∀ l : List Hk, l.length ≤ wP l := fun l => by
   induction l with
   | nil => exact Nat.zero_le _
   | cons x r ih => unfold wP at *; rw [List.map_cons, List.sum_cons, List.length_cons]; omega
  exact this _
 refine ⟨⟨⟨by omega, fun h hh => ?_⟩, by omega, by omega, by omega⟩, f⟩
 have w := wP_mem hh
 have q := g h hh
 have a0 := q.a0
 have a1 := q.a1
 have b0 := q.b0
 have b1 := q.b1
 have la := q.la
 have lb := q.lb
 have sa := q.sa
 have sb := q.sb
 have ll := wL_len h.ls
 refine ⟨by unfold InI64; omega, by unfold InI64; omega, by unfold InI64; omega, by unfold InI64; omega, by omega, fun x hx => ?_⟩
 have o := q.ln x hx
 have wx := wL_mem hx
 exact ⟨by unfold InI64; have := o.1; have := o.2.1; omega, by omega⟩
theorem pts_u {ps : List Pt} (h : ∀ p ∈ ps, PtB p ∧ ptF p) : (ps.flatMap uni).length ≤ 300 * (ps.map wQ).sum := by
 rw [(pts_lins fun p hp => (h p hp).2).1]
 refine fm_le ptU wQ 300 ps fun p hp => ?_
 have := ptU_l (h p hp).1.z
 unfold wQ; omega
theorem pts_l {ps : List Pt} (h : ∀ p ∈ ps, PtB p ∧ ptF p) : (lins (ps.flatMap uni)).length ≤ 2 * (ps.map wQ).sum := by
 have e := pts_lins fun p hp => (h p hp).2
 rw [e.1, e.2]
 refine fm_len ptL wQ 2 ps fun p hp => ?_
 have := ptL_len p
 unfold wQ; omega
theorem pts_y {ps : List Pt} (h : ∀ p ∈ ps, PtB p ∧ ptF p) : ∀ y ∈ lins (ps.flatMap uni), y.length ≤ 10000000 := fun y hy => by
 have e := pts_lins fun p hp => (h p hp).2
 rw [e.1, e.2] at hy
 obtain ⟨p, hp, hy⟩ := List.mem_flatMap.1 hy
 have b := (h p hp).1
 have := ptL_le b.z b.o b.n b.w y hy; omega
end Go.Proofs.YtfbpbkcplpkndaaGreatDoor
end
section
namespace Go.Proofs.YtfbpbkcplpkndaaGreatDoor
set_option linter.unusedVariables false
set_option linter.unusedSimpArgs false
set_option maxRecDepth 100000
theorem awake_run : (R FT XS).f 11 [] = some (boolA true) := R_of (n := 40) (by kernel_rfl)
end Go.Proofs.YtfbpbkcplpkndaaGreatDoor
end
section
namespace Go.Proofs.YtfbpbkcplpkndaaGreatDoor
set_option linter.unusedVariables false
set_option linter.unusedSimpArgs false
set_option maxRecDepth 100000
set_option maxHeartbeats 2000000
theorem parseZ_run (s : Bs) (hs : s.length ≤ 1048576) : (R FT XS).f 19 [strL ((paP s).flatMap uni)] = some (.tuple [.slice 3 ((paP s).map encPt), intA 0, intA 0]) := by
 have b := paP_B s hs
 have w := paP_w s
 have l1 := pts_u b
 have l2 := pts_l b
 have p3 := parse3L_run (X := XS) XS_bld XS_lib XS_num ((paP s).flatMap uni) (by omega) (by omega) (pts_y b)
 have e := pa_written (ps := paP s) (pa_formed s)
 rw [e.1, e.2.1, e.2.2] at p3
 exact p3
noncomputable def rdU (s : Bs) (k : Nat) : Bs := ((paP s).take k).flatMap uni
theorem rdU_s {s : Bs} {k : Nat} {p : Pt} (h : (paP s)[k]? = some p) : rdU s (k + 1) = rdU s k ++ uni p := by
 unfold rdU; rw [List.take_add_one, h]; simp
theorem rdU_all {s : Bs} {k : Nat} (h : (paP s).length ≤ k) : rdU s k = (paP s).flatMap uni := by
 unfold rdU; rw [List.take_of_length_le h]
theorem rdU_len {s : Bs} (hs : s.length ≤ 1048576) (k : Nat) : (rdU s k).length ≤ 400000000 := by
 have h1 : (rdU s k).length ≤ ((paP s).flatMap uni).length := by
  unfold rdU
  conv => rhs; rw [← List.take_append_drop k (paP s), List.flatMap_append, List.length_append]
  omega
 have l1 := pts_u (paP_B s hs)
 have w := paP_w s
 omega
theorem paL_b (s : Bs) (h : ¬ paE s = 0) : 1 ≤ paL s ∧ paL s ≤ (lins s).length + 1 := by
 have h2 := (pmR_ok (lins s)).adv (Nat.zero_le _)
 unfold paL; unfold paE at h
 rw [if_neg h]; omega
theorem reads_run (s : Bs) (hs : s.length ≤ 1048576) : (R FT XS).f 7 [strL s] = some (boolA true) := by
 have hm := maxLen_le
 have b := paP_B s hs
 have w := paP_w s
 have p3 := parse3_run (X := XS) XS_bld XS_lib XS_num s (by omega)
 have fd := fed_run (X := XS) s (by omega)
 have lf := fed_len s
 have ll := lins_len s
 have fo := fun (p : Pt) (h : p ∈ paP s) => formed2_run (X := XS) p (b p h).1.z
 have un := fun (p : Pt) (h : p ∈ paP s) => unified_run (X := XS) XS_bld XS_lib XS_num p (b p h).1.z (by have := (b p h).1.o; omega) (by have := (b p h).1.n; omega) (by have := (b p h).1.u; omega)
 have sp := samePatches_run (X := XS) (paP s) (by have := (paP_S s).1; omega) fun p hp => ⟨(b p hp).1.z.hn, fun k hk => ((b p hp).1.z.hz k hk).ln⟩
 have aw := awake_run
 have pl := (paP_S s).1
 have ub := paL_b s
 have ul := rdU_len hs
 have dt : ∀ p ∈ paP s, dcd (ptF p) = true := fun p hp => dcd_t (b p hp).2
 obtain ⟨U, hU⟩ : ∃ U, U = rdU s := ⟨_, rfl⟩
 have pz : ∀ k, (paP s).length ≤ k → (R FT XS).f 19 [strL (U k)] = some (.tuple [.slice 3 ((paP s).map encPt), intA 0, intA 0]) := fun k h => by
  rw [hU, rdU_all h]; exact parseZ_run s hs
 refine R_wp (Tr.c (AV.tuple [AV.slice 3 (List.map encPt (paP s)), intA (paE s), intA (paL s)]) ((Tr.k (paP s).length (((Tr.c (AV.slice 1 (List.map strL (fed s))) (Tr.k (fed s).length ((Tr.c (boolA true) Tr.nil).br Tr.nil).w)).br (Tr.b false Tr.nil)).br (Tr.b false (Tr.b false Tr.nil)))).w.br (Tr.inv (fun (k : Nat) ↦ St.mk [(3, AV.slice 3 (List.map encPt (paP s))), (6, strL (U k)), (7, intA (↑k : Int))] []) (fun (k : Nat) ↦ k ≤ (paP s).length) (fun (k : Nat) ↦ (paP s).length - k) fun (k : Nat) ↦ (Tr.k (paP s).length ((Tr.ix encPt (paP s) k fun (x12 : Pt) ↦ Tr.c (boolA (dcd (ptF x12))) (Tr.nil.br (Tr.ix encPt (paP s) k fun (x16 : Pt) ↦ Tr.c (strL (uni x16)) Tr.nil.w.w)).w).w.w.br (Tr.c (AV.tuple [AV.slice 3 (List.map encPt (paP s)), intA 0, intA 0]) (Tr.b true (Tr.c (boolA true) (Tr.b true (Tr.c (boolA true) Tr.nil)))).w))).w).w).w.w) rfl ?_
 refine Eq.mpr (by kernel_rfl : _ = ((R FT XS).f 19 [strL s] = some (AV.tuple [AV.slice 3 (List.map encPt (paP s)), intA (paE s), intA (paL s)]) ∧ ((!decide (paE s = 0)) = true → (List.map encPt (paP s)).length = (paP s).length ∧ (decide ((↑(paP s).length : Int) = 0) = true → (decide ((1 : Int) ≤ paL s) = true → (R FT XS).f 23 [strL s] = some (AV.slice 1 (List.map strL (fed s))) ∧ (List.map strL (fed s)).length = (fed s).length ∧ InI64 ((↑(fed s).length : Int) + 1) ∧ (decide (paL s ≤ (↑(fed s).length : Int) + 1) = true → (R FT XS).f 11 [] = some (boolA true) ∧ true = true) ∧ (decide (paL s ≤ (↑(fed s).length : Int) + 1) = false → false = true)) ∧ (decide ((1 : Int) ≤ paL s) = false → false = false ∧ false = true)) ∧ (decide ((↑(paP s).length : Int) = 0) = false → false = false ∧ false = false ∧ false = true)) ∧ ((!decide (paE s = 0)) = false → (∃ (j9 : Nat), ((List.map encPt (paP s) = List.map encPt (paP s) ∧ [] = U j9 ∧ (0 : Int) = (↑j9 : Int) ∧ True) ∧ True) ∧ j9 ≤ (paP s).length) ∧ ∀ (k : Nat), k ≤ (paP s).length → (List.map encPt (paP s)).length = (paP s).length ∧ (decide ((↑k : Int) < (↑(paP s).length : Int)) =
 true → List.map encPt (paP s) = List.map encPt (paP s) ∧ (↑k : Int) = (↑k : Int) ∧ k < (paP s).length ∧ ∀ (x12 : Pt), (paP s)[k]? = some x12 → (R FT XS).f 22 [encPt x12] = some (boolA (dcd (ptF x12))) ∧ ((!dcd (ptF x12)) = true → false = true) ∧ ((!dcd (ptF x12)) = false → List.map encPt (paP s) = List.map encPt (paP s) ∧ (↑k : Int) = (↑k : Int) ∧ k < (paP s).length ∧ ∀ (x16 : Pt), (paP s)[k]? = some x16 → (R FT XS).f 15 [encPt x16] = some (strL (uni x16)) ∧ List.length (U k) + List.length (uni x16) ≤ 9223372036854775807 ∧ InI64 ((↑k : Int) + 1) ∧ ∃ (j18 : Nat), ((List.map encPt (paP s) = List.map encPt (paP s) ∧ U k ++ uni x16 = U j18 ∧ (↑k : Int) + 1 = (↑j18 : Int) ∧ True) ∧ True) ∧ j18 ≤ (paP s).length ∧ (paP s).length - j18 < (paP s).length - k)) ∧ (decide ((↑k : Int) < (↑(paP s).length : Int)) = false → (R FT XS).f 19 [strL (U k)] = some (AV.tuple [AV.slice 3 (List.map encPt (paP s)), intA 0, intA 0]) ∧ true = true ∧ (R FT XS).f 21 [AV.slice 3 (List.map encPt (paP s)), AV.slice 3 (List.map encPt (paP s))] = some (boolA true) ∧ true = true ∧ (R FT XS).f 11 [] =
 some (boolA true) ∧ true = true)))) ?_
 refine ⟨(p3), fun h1_ => have h1 := dnT h1_; ⟨(by simp), fun h2_ => have h2 := dT h2_; ⟨fun h3_ => have h3 := dT h3_; ⟨(fd), (by simp), (by unfold InI64; omega), fun h4_ => have h4 := dT h4_; ⟨(aw), rfl⟩, fun h5_ => have h5 := dF h5_; ?_⟩, fun h6_ => have h6 := dF h6_; ⟨rfl, ?_⟩⟩, fun h7_ => have h7 := dF h7_; ⟨rfl, rfl, ?_⟩⟩, fun h8_ => have h8 := dnF h8_; ⟨⟨(0 : Nat), ⟨⟨rfl, ?_, (by omega), trivial⟩, trivial⟩, (by omega)⟩, fun k => fun h10 => ⟨(by simp), fun h11_ => have h11 := dT h11_; ⟨rfl, rfl, (by omega), fun x12 => fun h13 => ⟨(fo _ ?_), fun h14_ => have h14 := nT h14_; ?_, fun h15_ => have h15 := nF h15_; ⟨rfl, rfl, (by omega), fun x16 => fun h17 => ⟨(un _ ?_), ?_, (by unfold InI64; omega), ⟨k + (1 : Nat), ⟨⟨rfl, ?_, (by omega), trivial⟩, trivial⟩, ⟨(by omega), (by omega)⟩⟩⟩⟩⟩⟩, fun h19_ => have h19 := dF h19_; ⟨(pz _ (by exact (by omega))), rfl, (sp), rfl, (aw), rfl⟩⟩⟩⟩
 ·exact absurd (ub h1).2 (by omega)
 ·exact absurd (ub h1).1 h6
 ·exact absurd (by unfold paP; unfold paE at h1; rw [if_neg h1]; rfl) h7
 all_goals first
  | exact List.mem_of_getElem? (by assumption)
  | (rw [hU]; rfl)
  | (rw [hU]; exact (rdU_s (by assumption)).symm)
  | (rw [dt _ (List.mem_of_getElem? h13)] at h14; cases h14)
  | (have q1 := ul k; have q2 := ul (k + 1); rw [rdU_s h17, List.length_append] at q2; rw [hU]; omega)
end Go.Proofs.YtfbpbkcplpkndaaGreatDoor
end
