/- Own texts of this claim, merged: Df18, Df16, Df19, DfG, DfY, Dfc. -/
import Derived.Test.YtfbpbkcplpkndaaGreatDoorPrf
section
namespace Go.Proofs.YtfbpbkcplpkndaaGreatDoor
set_option linter.unusedVariables false
set_option linter.unusedSimpArgs false
set_option maxRecDepth 100000
set_option maxHeartbeats 2000000
def opV (s : Bs) : Int := if s[0]? = some 32 then 1 else if s[0]? = some 45 then 2 else if s[0]? = some 43 then 3 else 0
structure Hk2I (ls : List Bs) (k : Nat) (j : Nat × Int × List DL) : Prop where
 le : j.1 ≤ ls.length
 ln : j.2.2.length ≤ j.1
 ok : j.2.1 = 0 → hdE (lnAt ls k) = 0 ∧ Bd ls ((hd2G (lnAt ls k)).la - cA j.2.2) ((hd2G (lnAt ls k)).lb - cB j.2.2) j.1 j.2.2 (hkB ls k)
 bad : j.2.1 ≠ 0 → hdE (lnAt ls k) = j.2.1 ∧ k = j.1 ∧ j.2.2 = []
def hk2M (ls : List Bs) (j : Nat × Int × List DL) : Nat := if j.2.1 = 0 then ls.length - j.1 + 1 else 0
section
variable {ls : List Bs} {k : Nat} {j : Nat × Int × List DL}
theorem opV_c (x : Bs) : (opV x = 1 ∧ x[0]? = some 32) ∨ (opV x = 2 ∧ x[0]? = some 45) ∨ (opV x = 3 ∧ x[0]? = some 43) ∨ (opV x = 0 ∧ x[0]? ≠ some 32 ∧ x[0]? ≠ some 45 ∧ x[0]? ≠ some 43) := by
 unfold opV
 split
 ·rename_i h; exact .inl ⟨rfl, h⟩
 ·split
  ·rename_i h; exact .inr (.inl ⟨rfl, h⟩)
  ·split
   ·rename_i h; exact .inr (.inr (.inl ⟨rfl, h⟩))
   ·rename_i h1 h2 h3; exact .inr (.inr (.inr ⟨rfl, h1, h2, h3⟩))
theorem opV_P {x : Bs} {a b : Int} (h : ¬ opV x = 0) (ha : opV x ≠ 3 → 0 < a) (hb : opV x ≠ 2 → 0 < b) : opP x a b = some (opV x) := by
 rcases opV_c x with ⟨q, q2⟩ | ⟨q, q2⟩ | ⟨q, q2⟩ | ⟨q, -⟩
 ·rw [q] at ha hb ⊢; exact opP_1 q2 (ha (by decide)) (hb (by decide))
 ·rw [q] at ha hb ⊢; exact opP_2 q2 (ha (by decide))
 ·rw [q] at ha hb ⊢; exact opP_3 q2 (hb (by decide))
 ·exact absurd q h
theorem opV_N {x : Bs} {a b : Int} (h : opV x = 0 ∨ (opV x ≠ 3 ∧ a ≤ 0) ∨ (opV x ≠ 2 ∧ b ≤ 0)) : opP x a b = none := by
 cases ho : opP x a b with
 | none => rfl
 | some op =>
  have : ∀ {c d : UInt8}, x[0]? = some c → x[0]? = some d → c = d := fun h1 h2 => by rw [h1] at h2; injection h2
  rcases opV_c x with ⟨q, q2⟩ | ⟨q, q2⟩ | ⟨q, q2⟩ | ⟨q, n1, n2, n3⟩ <;> rcases opP_cases ho with ⟨-, g, g2, g3⟩ | ⟨-, g, g2⟩ | ⟨-, g, g2⟩
  ·omega
  ·exact absurd (this q2 g) (by decide)
  ·exact absurd (this q2 g) (by decide)
  ·exact absurd (this q2 g) (by decide)
  ·omega
  ·exact absurd (this q2 g) (by decide)
  ·exact absurd (this q2 g) (by decide)
  ·exact absurd (this q2 g) (by decide)
  ·omega
  ·exact absurd g n1
  ·exact absurd g n2
  ·exact absurd g n3
theorem Hk2I.init (hk : k < ls.length) : Hk2I ls k (hd2A ls k, hd2E (lnAt ls k), []) := by
 have e := hd2_eq (lnAt ls k)
 refine ⟨?_, Nat.zero_le _, fun h => ?_, fun h => ?_⟩
 ·show hd2A ls k ≤ ls.length
  unfold hd2A; split <;> omega
 ·have h : hd2E (lnAt ls k) = 0 := h
  have h' : hdE (lnAt ls k) = 0 := by rw [← e.1]; exact h
  refine ⟨h', ?_⟩
  show Bd ls ((hd2G (lnAt ls k)).la - (cA [] : Nat)) ((hd2G (lnAt ls k)).lb - (cB [] : Nat)) (hd2A ls k) [] (hkB ls k)
  rw [e.2 h', hd2A_y h]
  have := bdR_ok ls (hdV (lnAt ls k)).la (hdV (lnAt ls k)).lb (k + 1)
  simpa [cA, cB, hkB] using this
 ·exact ⟨e.1.symm, (hd2A_n h).symm, rfl⟩
theorem Hk2I.go {x x' : Bs} {t : Bool} {k' : Nat} (h : Hk2I ls k j) (e : j.2.1 = 0) (hx : ls[j.1]? = some x) (hx' : ls[j.1]? = some x') (ho : ¬ opV x = 0) (ha : opV x ≠ 3 → (cA j.2.2 : Int) < (hd2G (lnAt ls k)).la) (hb : opV x ≠ 2 → (cB j.2.2 : Int) < (hd2G (lnAt ls k)).lb)
    (hn : neB ls (j.1 + 1) = t) (hk : k' = if t = true then j.1 + 1 + 1 else j.1 + 1) : Hk2I ls k (k', j.2.1, j.2.2 ++ [⟨opV x, (x'.take x'.length).drop 1, t⟩]) := by
  rw [hx] at hx'; injection hx' with hx'; subst hx'
  obtain ⟨h1, h2⟩ := h.ok e
  have hP := opV_P (a := (hd2G (lnAt ls k)).la - cA j.2.2) (b := (hd2G (lnAt ls k)).lb - cB j.2.2) ho (fun q => by have := ha q; omega) (fun q => by have := hb q; omega)
  have hl := (List.getElem?_eq_some_iff.1 hx).1
  have hq : nxt ls (j.1 + 1) = k' := by unfold nxt; rw [hn, hk]
  have hle : k' ≤ ls.length := by rw [← hq]; exact nxt_le (by omega)
  have hge : j.1 + 1 ≤ k' := by rw [← hq]; exact nxt_ge _
  refine ⟨hle, ?_, fun _ => ⟨h1, ?_⟩, fun q => absurd e q⟩
  · show (j.2.2 ++ _).length ≤ k'
    rw [List.length_append, List.length_singleton]
    have := h.ln; omega
  · show Bd ls ((hd2G (lnAt ls k)).la - (cA (j.2.2 ++ [_]) : Nat)) ((hd2G (lnAt ls k)).lb - (cB (j.2.2 ++ [_]) : Nat)) k' (j.2.2 ++ [_]) (hkB ls k)
    rw [cA_app, cB_app, cA_one, cB_one, List.take_of_length_le (Nat.le_refl _)]
    generalize hkB ls k = r at h2 ⊢
    cases h2 with
    | fin q => rcases opP_cases hP with q' | q' | q' <;> omega
    | out _ q => omega
    | bad _ q q2 => rw [hx] at q; cases q; rw [hP] at q2; cases q2
    | go q q2 q3 =>
      rw [hx] at q; cases q; rw [hP] at q2; cases q2
      rw [← hq, ← hn]
      simp only
      have e1 : ((hd2G (lnAt ls k)).la - ((cA j.2.2 + if opV x = 3 then 0 else 1 : Nat) : Int)) = if opV x = 3 then (hd2G (lnAt ls k)).la - cA j.2.2 else (hd2G (lnAt ls k)).la - cA j.2.2 - 1 := by split <;> omega
      have e2 : ((hd2G (lnAt ls k)).lb - ((cB j.2.2 + if opV x = 2 then 0 else 1 : Nat) : Int)) = if opV x = 2 then (hd2G (lnAt ls k)).lb - cB j.2.2 else (hd2G (lnAt ls k)).lb - cB j.2.2 - 1 := by split <;> omega
      rw [e1, e2]
      exact q3
abbrev Hk2E (ls : List Bs) (k : Nat) (j : Nat × Int × List DL) (e : Int) : Prop := HunkE ls k (j.1, j.2.1, 0, 0, j.2.2) e
theorem Hk2I.end (h : Hk2I ls k j) (e : j.2.1 = 0) {r : Int × Nat × List DL} (hr : hkB ls k = r) (h1 : r.2.1 = j.1) (h2 : r.2.2 = j.2.2) : Hk2E ls k j r.1 := by
 obtain ⟨q, -⟩ := h.ok e
 refine ⟨?_, ?_, ?_⟩
 ·unfold hkE; rw [if_pos q, hr]
 ·unfold hkA; rw [if_pos q, hr, h1]
 ·unfold hkLn; rw [if_pos q, hr, h2]
theorem Hk2I.fin (h : Hk2I ls k j) (e : j.2.1 = 0) (ha : ¬ (cA j.2.2 : Int) < (hd2G (lnAt ls k)).la) (hb : ¬ (cB j.2.2 : Int) < (hd2G (lnAt ls k)).lb) : Hk2E ls k j j.2.1 := by
 rw [e]
 exact h.end e ((h.ok e).2.det (.fin (by omega))) rfl rfl
theorem Hk2I.err (h : Hk2I ls k j) (e : ¬ j.2.1 = 0) : Hk2E ls k j j.2.1 := by
 obtain ⟨q1, q2, q3⟩ := h.bad e
 have hn : ¬ hdE (lnAt ls k) = 0 := by rw [q1]; exact e
 refine ⟨?_, ?_, ?_⟩
 ·unfold hkE; rw [if_neg hn, q1]
 ·unfold hkA; rw [if_neg hn, q2]
 ·unfold hkLn; rw [if_neg hn, q3]
theorem Hk2I.out (h : Hk2I ls k j) (e : j.2.1 = 0) (hab : (cA j.2.2 : Int) < (hd2G (lnAt ls k)).la ∨ (cB j.2.2 : Int) < (hd2G (lnAt ls k)).lb) (hl : (ls.length : Int) ≤ j.1) : Hk2E ls k j 1 :=
 h.end e ((h.ok e).2.det (.out (by omega) (by omega))) rfl rfl
theorem Hk2I.no {x : Bs} (h : Hk2I ls k j) (e : j.2.1 = 0) (hab : (cA j.2.2 : Int) < (hd2G (lnAt ls k)).la ∨ (cB j.2.2 : Int) < (hd2G (lnAt ls k)).lb) (hx : ls[j.1]? = some x) (q : opV x = 0 ∨ (opV x ≠ 3 ∧ (hd2G (lnAt ls k)).la ≤ cA j.2.2) ∨ (opV x ≠ 2 ∧ (hd2G (lnAt ls k)).lb ≤ cB j.2.2)) : Hk2E ls k j 1 :=
 h.end e ((h.ok e).2.det (.bad (by omega) hx (opV_N (by omega)))) rfl rfl
end
section
variable {X : CallF}
end
end Go.Proofs.YtfbpbkcplpkndaaGreatDoor
end
section
namespace Go.Proofs.YtfbpbkcplpkndaaGreatDoor
set_option linter.unusedVariables false
set_option linter.unusedSimpArgs false
set_option maxRecDepth 100000
set_option maxHeartbeats 2000000
section
variable {ls : List Bs} {k n : Nat} {x x' p : Bs}
theorem z0 (h : ls[k]? = some x) : ls[0 + k]? = some x := by rw [Nat.zero_add]; exact h
end
section
variable {X : CallF}
end
end Go.Proofs.YtfbpbkcplpkndaaGreatDoor
end
section
namespace Go.Proofs.YtfbpbkcplpkndaaGreatDoor
set_option linter.unusedVariables false
set_option linter.unusedSimpArgs false
set_option maxRecDepth 100000
set_option maxHeartbeats 2000000
section
variable {X : CallF}
theorem sameHunk_run (h : Hk) (hl : h.ls.length ≤ 1000000000) : (R FT X).f 27 [encHk h, encHk h] = some (boolA true) := by
 have hm := maxLen_le
 refine R_wp ((Tr.b false (Tr.b false (Tr.b false (Tr.b false (Tr.k h.ls.length (Tr.k h.ls.length (Tr.b false (Tr.inv (fun (k : Nat) ↦ St.mk [(2, AV.ptr 0 0), (3, AV.ptr 1 0), (5, intA (↑k : Int))] [MObj.box 46 [intA h.fa, intA h.la, intA h.fb, intA h.lb, AV.slice 3 (List.map encDL h.ls)], MObj.box 46 [intA h.fa, intA h.la, intA h.fb, intA h.lb, AV.slice 3 (List.map encDL h.ls)]]) (fun (k : Nat) ↦ k ≤ h.ls.length) (fun (k : Nat) ↦ h.ls.length - k) fun (k : Nat) ↦ (Tr.k h.ls.length ((Tr.ix encDL h.ls k fun (x4 : DL) ↦ Tr.ix encDL h.ls k fun (x6 : DL) ↦ (Tr.nil.br Tr.nil.w).w).w.w.br Tr.nil)).w).w).w)))))).w) rfl ?_
 refine Eq.mpr (by kernel_rfl : _ = ((!decide (h.fa = h.fa)) = false ∧ (!decide (h.la = h.la)) = false ∧ (!decide (h.fb = h.fb)) = false ∧ (!decide (h.lb = h.lb)) = false ∧ (List.map encDL h.ls).length = h.ls.length ∧ (List.map encDL h.ls).length = h.ls.length ∧ (!decide ((↑h.ls.length : Int) = (↑h.ls.length : Int))) = false ∧ (∃ (j1 : Nat), ((True ∧ True ∧ (0 : Int) = (↑j1 : Int) ∧ True) ∧ (h.fa = h.fa ∧ h.la = h.la ∧ h.fb = h.fb ∧ h.lb = h.lb ∧ List.map encDL h.ls = List.map encDL h.ls) ∧ h.fa = h.fa ∧ h.la = h.la ∧ h.fb = h.fb ∧ h.lb = h.lb ∧ List.map encDL h.ls = List.map encDL h.ls) ∧ j1 ≤ h.ls.length) ∧ ∀ (k : Nat), k ≤ h.ls.length → (List.map encDL h.ls).length = h.ls.length ∧ (decide ((↑k : Int) < (↑h.ls.length : Int)) = true → List.map encDL h.ls = List.map encDL h.ls ∧ (↑k : Int) = (↑k : Int) ∧ k < h.ls.length ∧ ∀ (x4 : DL), h.ls[k]? = some x4 → List.map encDL h.ls = List.map encDL h.ls ∧ (↑k : Int) = (↑k : Int) ∧ k < h.ls.length ∧ ∀ (x6 : DL), h.ls[k]? = some x6 → ((!(decide (x4.op = x6.op) && (decide ((ofL x4.tx).data.toList = (ofL x6.tx).data.toList) && decide (x4.ne = x6.ne)))) = true → false = true) ∧ ((!(decide (x4.op = x6.op) && (decide ((ofL x4.tx).data.toList = (ofL x6.tx).data.toList) && decide (x4.ne
 = x6.ne)))) = false → InI64 ((↑k : Int) + 1) ∧ ∃ (j10 : Nat), ((True ∧ True ∧ (↑k : Int) + 1 = (↑j10 : Int) ∧ True) ∧ (h.fa = h.fa ∧ h.la = h.la ∧ h.fb = h.fb ∧ h.lb = h.lb ∧ List.map encDL h.ls = List.map encDL h.ls) ∧ h.fa = h.fa ∧ h.la = h.la ∧ h.fb = h.fb ∧ h.lb = h.lb ∧ List.map encDL h.ls = List.map encDL h.ls) ∧ j10 ≤ h.ls.length ∧ h.ls.length - j10 < h.ls.length - k)) ∧ (decide ((↑k : Int) < (↑h.ls.length : Int)) = false → true = true))) ?_
 refine ⟨(fnD rfl), (fnD rfl), (fnD rfl), (fnD rfl), (by simp), (by simp), (fnD rfl), ⟨(0 : Nat), ⟨⟨trivial, trivial, (by omega), trivial⟩, ⟨rfl, rfl, rfl, rfl, rfl⟩, rfl, rfl, rfl, rfl, rfl⟩, (by omega)⟩, fun k => fun h2 => ⟨(by simp), fun h3_ => have h3 := dT h3_; ⟨rfl, rfl, (by omega), fun x4 => fun h5 => ⟨rfl, rfl, (by omega), fun x6 => fun h7 => ⟨fun h8_ => have h8 := nT h8_; ?_, fun h9_ => have h9 := nF h9_; ⟨(by unfold InI64; omega), ⟨k + (1 : Nat), ⟨⟨trivial, trivial, (by omega), trivial⟩, ⟨rfl, rfl, rfl, rfl, rfl⟩, rfl, rfl, rfl, rfl, rfl⟩, ⟨(by omega), (by omega)⟩⟩⟩⟩⟩⟩, fun h11_ => have h11 := dF h11_; rfl⟩⟩
 rw [h5] at h7; injection h7 with h7; subst h7; simp at h8
theorem sameHunk_e (h h' : Hk) (e : h = h') (hl : h.ls.length ≤ 1000000000) : (R FT X).f 27 [encHk h, encHk h'] = some (boolA true) := by
 subst e; exact sameHunk_run h hl
theorem samePatch_run (p : Pt) (hl : p.hs.length ≤ 1000000000) (hx : ∀ h ∈ p.hs, h.ls.length ≤ 1000000000) : (R FT X).f 12 [encPt p, encPt p] = some (boolA true) := by
 have hm := maxLen_le
 have sh := fun (h h' : Hk) e hl => sameHunk_e (X := X) h h' e hl
 refine R_wp (((Tr.b true (Tr.b true Tr.nil).w).br ((Tr.b true Tr.nil).w.br (Tr.k p.hs.length (Tr.k p.hs.length (Tr.b false (Tr.inv (fun (k : Nat) ↦ St.mk [(2, AV.ptr 0 0), (3, AV.ptr 1 0), (5, intA (↑k : Int))] [MObj.box 29 [strL p.old, strL p.new, AV.slice 5 (List.map encHk p.hs)], MObj.box 29 [strL p.old, strL p.new, AV.slice 5 (List.map encHk p.hs)]]) (fun (k : Nat) ↦ k ≤ p.hs.length) (fun (k : Nat) ↦ p.hs.length - k) fun (k : Nat) ↦ (Tr.k p.hs.length ((Tr.ix encHk p.hs k fun (x8 : Hk) ↦ Tr.ix encHk p.hs k fun (x10 : Hk) ↦ Tr.c (boolA true) (Tr.b false Tr.nil.w).w).w.w.br Tr.nil)).w).w).w)))).w) rfl ?_
 refine Eq.mpr (by kernel_rfl : _ = (((!decide (p.old = p.old)) = true → true = true ∧ true = true ∧ false = true) ∧ ((!decide (p.old = p.old)) = false → ((!decide (p.new = p.new)) = true → true = true ∧ false = true) ∧ ((!decide (p.new = p.new)) = false → (List.map encHk p.hs).length = p.hs.length ∧ (List.map encHk p.hs).length = p.hs.length ∧ (!decide ((↑p.hs.length : Int) = (↑p.hs.length : Int))) = false ∧ (∃ (j5 : Nat), ((True ∧ True ∧ (0 : Int) = (↑j5 : Int) ∧ True) ∧ (p.old = p.old ∧ p.new = p.new ∧ List.map encHk p.hs = List.map encHk p.hs) ∧ p.old = p.old ∧ p.new = p.new ∧ List.map encHk p.hs = List.map encHk p.hs) ∧ j5 ≤ p.hs.length) ∧ ∀ (k : Nat), k ≤ p.hs.length → (List.map encHk p.hs).length = p.hs.length ∧ (decide ((↑k : Int) < (↑p.hs.length : Int)) = true → List.map encHk p.hs = List.map encHk p.hs ∧ (↑k : Int) = (↑k : Int) ∧ k < p.hs.length ∧ ∀ (x8 : Hk), p.hs[k]? = some x8 → List.map encHk p.hs = List.map encHk p.hs ∧ (↑k : Int) = (↑k : Int) ∧ k < p.hs.length ∧ ∀ (x10 : Hk), p.hs[k]? = some x10 → (R FT X).f 27 [encHk x8, encHk x10] = some (boolA true) ∧ false = false ∧ InI64 ((↑k : Int) + 1) ∧ ∃ (j12 : Nat), ((True ∧ True ∧ (↑k : Int) + 1 = (↑j12 : Int) ∧ True) ∧ (p.old = p.old
 ∧ p.new = p.new ∧ List.map encHk p.hs = List.map encHk p.hs) ∧ p.old = p.old ∧ p.new = p.new ∧ List.map encHk p.hs = List.map encHk p.hs) ∧ j12 ≤ p.hs.length ∧ p.hs.length - j12 < p.hs.length - k) ∧ (decide ((↑k : Int) < (↑p.hs.length : Int)) = false → true = true))))) ?_
 refine ⟨fun h1_ => have h1 := dnT h1_; ⟨rfl, rfl, ?_⟩, fun h2_ => have h2 := dnF h2_; ⟨fun h3_ => have h3 := dnT h3_; ⟨rfl, ?_⟩, fun h4_ => have h4 := dnF h4_; ⟨(by simp), (by simp), (fnD rfl), ⟨(0 : Nat), ⟨⟨trivial, trivial, (by omega), trivial⟩, ⟨rfl, rfl, rfl⟩, rfl, rfl, rfl⟩, (by omega)⟩, fun k => fun h6 => ⟨(by simp), fun h7_ => have h7 := dT h7_; ⟨rfl, rfl, (by omega), fun x8 => fun h9 => ⟨rfl, rfl, (by omega), fun x10 => fun h11 => ⟨(sh _ _ ?_ ?_), rfl, (by unfold InI64; omega), ⟨k + (1 : Nat), ⟨⟨trivial, trivial, (by omega), trivial⟩, ⟨rfl, rfl, rfl⟩, rfl, rfl, rfl⟩, ⟨(by omega), (by omega)⟩⟩⟩⟩⟩, fun h13_ => have h13 := dF h13_; rfl⟩⟩⟩⟩
 ·exact absurd rfl h1
 ·exact absurd rfl h3
 ·exact Option.some.inj (h9.symm.trans h11)
 ·exact hx _ (List.mem_of_getElem? h9)
theorem samePatch_e (p p' : Pt) (e : p = p') (hl : p.hs.length ≤ 1000000000) (hx : ∀ h ∈ p.hs, h.ls.length ≤ 1000000000) : (R FT X).f 12 [encPt p, encPt p'] = some (boolA true) := by
 subst e; exact samePatch_run p hl hx
theorem samePatches_run (l : List Pt) (hl : l.length ≤ 1000000000) (hx : ∀ p ∈ l, p.hs.length ≤ 1000000000 ∧ ∀ h ∈ p.hs, h.ls.length ≤ 1000000000) : (R FT X).f 21 [.slice 3 (l.map encPt), .slice 3 (l.map encPt)] = some (boolA true) := by
 have hm := maxLen_le
 have sp := fun (p p' : Pt) e hl hx => samePatch_e (X := X) p p' e hl hx
 refine R_wp ((Tr.k l.length (Tr.k l.length (Tr.b false (Tr.inv (fun (k : Nat) ↦ St.mk [(0, AV.slice 3 (List.map encPt l)), (1, AV.slice 3 (List.map encPt l)), (5, intA (↑k : Int))] []) (fun (k : Nat) ↦ k ≤ l.length) (fun (k : Nat) ↦ l.length - k) fun (k : Nat) ↦ (Tr.k l.length ((Tr.ix encPt l k fun (x4 : Pt) ↦ Tr.ix encPt l k fun (x6 : Pt) ↦ Tr.c (boolA true) (Tr.b false Tr.nil.w).w).w.w.br Tr.nil)).w).w).w)).w) rfl ?_
 refine Eq.mpr (by kernel_rfl : _ = ((List.map encPt l).length = l.length ∧ (List.map encPt l).length = l.length ∧ (!decide ((↑l.length : Int) = (↑l.length : Int))) = false ∧ (∃ (j1 : Nat), ((List.map encPt l = List.map encPt l ∧ List.map encPt l = List.map encPt l ∧ (0 : Int) = (↑j1 : Int) ∧ True) ∧ True) ∧ j1 ≤ l.length) ∧ ∀ (k : Nat), k ≤ l.length → (List.map encPt l).length = l.length ∧ (decide ((↑k : Int) < (↑l.length : Int)) = true → List.map encPt l = List.map encPt l ∧ (↑k : Int) = (↑k : Int) ∧ k < l.length ∧ ∀ (x4 : Pt), l[k]? = some x4 → List.map encPt l = List.map encPt l ∧ (↑k : Int) = (↑k : Int) ∧ k < l.length ∧ ∀ (x6 : Pt), l[k]? = some x6 → (R FT X).f 12 [encPt x4, encPt x6] = some (boolA true) ∧ false = false ∧ InI64 ((↑k : Int) + 1) ∧ ∃ (j8 : Nat), ((List.map encPt l = List.map encPt l ∧ List.map encPt l = List.map encPt l ∧ (↑k : Int) + 1 = (↑j8 : Int) ∧ True) ∧ True) ∧ j8 ≤ l.length ∧ l.length - j8 < l.length - k) ∧ (decide ((↑k : Int) < (↑l.length : Int)) = false → true = true))) ?_
 refine ⟨(by simp), (by simp), (fnD rfl), ⟨(0 : Nat), ⟨⟨rfl, rfl, (by omega), trivial⟩, trivial⟩, (by omega)⟩, fun k => fun h2 => ⟨(by simp), fun h3_ => have h3 := dT h3_; ⟨rfl, rfl, (by omega), fun x4 => fun h5 => ⟨rfl, rfl, (by omega), fun x6 => fun h7 => ⟨(sp _ _ ?_ ?_ ?_), rfl, (by unfold InI64; omega), ⟨k + (1 : Nat), ⟨⟨rfl, rfl, (by omega), trivial⟩, trivial⟩, ⟨(by omega), (by omega)⟩⟩⟩⟩⟩, fun h9_ => have h9 := dF h9_; rfl⟩⟩
 ·exact Option.some.inj (h5.symm.trans h7)
 ·exact (hx _ (List.mem_of_getElem? h5)).1
 ·exact (hx _ (List.mem_of_getElem? h5)).2
end
end Go.Proofs.YtfbpbkcplpkndaaGreatDoor
end
section
namespace Go.Proofs.YtfbpbkcplpkndaaGreatDoor
set_option linter.unusedVariables false
set_option linter.unusedSimpArgs false
theorem sgn_l1 (op : Int) : (sgn op).length = 1 := by unfold sgn; (repeat' split) <;> rfl
theorem wL_mem {l : List DL} {x : DL} (h : x ∈ l) : x.tx.length + 1 ≤ wL l := sum_ge (fun x : DL => x.tx.length + 1) h
theorem wP_mem {l : List Hk} {h : Hk} (q : h ∈ l) : wL h.ls + 1 ≤ wP l := sum_ge (fun h : Hk => wL h.ls + 1) q
theorem PtB.g {p : Pt} (h : PtB p) (f : ptF p) : PtG p := fun k hk => by
 have h1 := wL_len k.ls
 have h2 := wP_mem hk
 have h3 := h.w
 have h4 := cA_le k.ls
 have h8 := cB_le k.ls
 have h5 := f k hk
 have h6 := h5.la
 have h7 := h5.lb
 exact ⟨h5, by omega, by omega⟩
theorem fm_len {α : Type} (f : α → List Bs) (g : α → Nat) (c : Nat) (l : List α) (h : ∀ x ∈ l, (f x).length ≤ c * g x) : (l.flatMap f).length ≤ c * (l.map g).sum := by
 induction l with
 | nil => simp
 | cons x r ih =>
  have h1 := h x (by simp)
  have h2 := ih fun y hy => h y (by simp [hy])
  rw [List.flatMap_cons, List.length_append, List.map_cons, List.sum_cons, Nat.mul_add]; omega
theorem hkL_len (h : Hk) : (hkL h).length ≤ 2 * (wL h.ls + 1) := by
 have h1 : (h.ls.flatMap wrL).length ≤ 2 * wL h.ls := fm_len wrL (fun x => x.tx.length + 1) 2 h.ls fun x _ => by
  unfold wrL; split <;> (simp; omega)
 unfold hkL
 rw [List.length_cons]; omega
theorem ptL_len (p : Pt) : (ptL p).length ≤ 2 + 2 * wP p.hs := by
 have h1 : (p.hs.flatMap hkL).length ≤ 2 * wP p.hs := fm_len hkL (fun h => wL h.ls + 1) 2 p.hs fun h _ => hkL_len h
 unfold ptL
 simp only [List.length_cons]; omega
theorem ptL_le {p : Pt} (z : PtZ p) {n : Nat} (ho : p.old.length ≤ n) (hn : p.new.length ≤ n) (hw : wP p.hs ≤ n) : ∀ y ∈ ptL p, y.length ≤ 4 * n + 300 := by
 intro y hy
 have e1 := esc_len p.old
 have e2 := esc_len p.new
 unfold ptL at hy
 rcases List.mem_cons.1 hy with q | hy
 ·subst q; simp only [List.length_append, mnA, List.length_cons, List.length_nil]; omega
 ·rcases List.mem_cons.1 hy with q | hy
  ·subst q; simp only [List.length_append, mnB, List.length_cons, List.length_nil]; omega
  ·obtain ⟨k, hk, hy⟩ := List.mem_flatMap.1 hy
   have w1 := wP_mem hk
   unfold hkL at hy
   rcases List.mem_cons.1 hy with q | hy
   ·subst q
    have zz := z.hz k hk
    have h2 := ext_l2 zz.fa zz.la
    have h3 := ext_l2 zz.fb zz.lb
    unfold hdU
    simp only [List.length_append, List.length_cons, List.length_nil]; omega
   ·obtain ⟨x, hx, hy⟩ := List.mem_flatMap.1 hy
    have w2 := wL_mem hx
    unfold wrL at hy
    rcases List.mem_cons.1 hy with q | hy
    ·subst q; rw [List.length_append, sgn_l1]; omega
    ·split at hy
     ·rw [List.mem_singleton.1 hy]; simp only [noE, List.length_cons, List.length_nil]; omega
     ·cases hy
theorem pts_lins {ps : List Pt} (h : ∀ p ∈ ps, ptF p) : ps.flatMap uni = ps.flatMap ptU ∧ lins (ps.flatMap ptU) = ps.flatMap ptL := by
 refine ⟨?_, ?_⟩
 ·rw [List.flatMap_def, List.flatMap_def]; congr 1
  exact List.map_congr_left fun p hp => uni_y (h p hp)
 ·rw [pts_jn]
  exact (lins_jn _ fun y hy => by
   obtain ⟨p, hp, hy⟩ := List.mem_flatMap.1 hy
   exact ptL_no (h p hp) y hy).1
end Go.Proofs.YtfbpbkcplpkndaaGreatDoor
end
section
namespace Go.Proofs.YtfbpbkcplpkndaaGreatDoor
set_option linter.unusedVariables false
set_option linter.unusedSimpArgs false
set_option maxRecDepth 100000
theorem awake_run : (R FT XS).f 11 [] = some (boolA true) := R_of (n := 40) (by kernel_rfl)
end Go.Proofs.YtfbpbkcplpkndaaGreatDoor
end
section
namespace Go.Proofs.YtfbpbkcplpkndaaGreatDoor
set_option linter.unusedVariables false
set_option linter.unusedSimpArgs false
set_option maxRecDepth 100000
set_option maxHeartbeats 2000000
theorem sum_one {α : Type} (l : List α) : (l.map fun _ => 1).sum = l.length := by
 induction l with
 | nil => rfl
 | cons x r ih => rw [List.map_cons, List.sum_cons, ih, List.length_cons]; omega
theorem parseW_run (ps : List Pt) (hn : ps.length ≤ 2) (h : ∀ q ∈ ps, PtB q ∧ ptF q) : (R FT XS).f 19 [strL (ps.flatMap uni)] = some (.tuple [.slice 3 (ps.map encPt), intA 0, intA 0]) := by
 have e := pa_written (ps := ps) fun p hp => (h p hp).1.g (h p hp).2
 have e2 := pts_lins (ps := ps) fun p hp => (h p hp).2
 have l1 : (ps.flatMap uni).length ≤ ps.length * 400000000 := by
  rw [e2.1]
  have : (ps.flatMap ptU).length ≤ 400000000 * (ps.map fun _ => 1).sum := fm_le ptU (fun _ => 1) 400000000 ps fun p hp => by have := (h p hp).1.u; omega
  rw [sum_one] at this; omega
 have l2 : (lins (ps.flatMap uni)).length ≤ ps.length * 5000000 := by
  rw [e2.1, e2.2]
  have : (ps.flatMap ptL).length ≤ 5000000 * (ps.map fun _ => 1).sum := fm_len ptL (fun _ => 1) 5000000 ps fun p hp => by have := ptL_len p; have := (h p hp).1.w; omega
  rw [sum_one] at this; omega
 have l3 : ∀ y ∈ lins (ps.flatMap uni), y.length ≤ 10000000 := fun y hy => by
  rw [e2.1, e2.2] at hy
  obtain ⟨p, hp, hy⟩ := List.mem_flatMap.1 hy
  have b := (h p hp).1
  have := ptL_le b.z b.o b.n b.w y hy; omega
 have p3 := parse3L_run (X := XS) XS_bld XS_lib XS_num (ps.flatMap uni) (by omega) (by omega) l3
 rw [e.1, e.2.1, e.2.2] at p3
 exact p3
theorem trips_run (p q : Pt) (hp : PtB p) (hq : PtB q) : (R FT XS).f 6 [encPt p, encPt q] = some (boolA true) := by
 have hm := maxLen_le
 have fp := formed2_run (X := XS) p hp.z
 have fq := formed2_run (X := XS) q hq.z
 have up := unified_run (X := XS) XS_bld XS_lib XS_num p hp.z (by have := hp.o; omega) (by have := hp.n; omega) (by have := hp.u; omega)
 have uq := unified_run (X := XS) XS_bld XS_lib XS_num q hq.z (by have := hq.o; omega) (by have := hq.n; omega) (by have := hq.u; omega)
 have one : ptF p → (R FT XS).f 19 [strL (uni p)] = some (.tuple [.slice 3 [encPt p], intA 0, intA 0]) := fun f => by
  have := parseW_run [p] (by simp) (by simp; exact ⟨hp, f⟩)
  simpa using this
 have two : ptF p → ptF q → (R FT XS).f 19 [strL (uni p ++ uni q)] = some (.tuple [.slice 3 [encPt p, encPt q], intA 0, intA 0]) := fun f g => by
  have := parseW_run [p, q] (by simp) (by simp; exact ⟨⟨hp, f⟩, hq, g⟩)
  simpa using this
 have z : ∀ {p : Pt}, PtB p → p.hs.length ≤ 1000000000 ∧ ∀ h ∈ p.hs, h.ls.length ≤ 1000000000 := fun h => ⟨h.z.hn, fun k hk => (h.z.hz k hk).ln⟩
 have s1 : (R FT XS).f 21 [.slice 3 [encPt p], .slice 3 [encPt p]] = some (boolA true) := samePatches_run (X := XS) [p] (by simp) (by simp; exact z hp)
 have s2 : (R FT XS).f 21 [.slice 3 [encPt p, encPt q], .slice 3 [encPt p, encPt q]] = some (boolA true) := samePatches_run (X := XS) [p, q] (by simp) (by simp; exact ⟨z hp, z hq⟩)
 have aw := awake_run
 have np := fun h => uni_n (p := p) (dcd_nf.1 h)
 have nq := fun h => uni_n (p := q) (dcd_nf.1 h)
 have lu := hp.u
 have lv := hq.u
 refine R_wp ((Tr.c (boolA (dcd (ptF p))) ((Tr.b true (Tr.c (boolA (dcd (ptF p))) (Tr.b false (Tr.c (strL (uni p)) ((Tr.c (boolA (dcd (ptF q))) ((Tr.b true (Tr.c (boolA true) Tr.nil)).br (Tr.c (strL (uni q)) ((Tr.c (boolA true) Tr.nil).br Tr.nil)))).br (Tr.b false Tr.nil))))).w).w.br (Tr.c (boolA (dcd (ptF q))) ((Tr.c (boolA (dcd (ptF p))) (Tr.b true (Tr.b true (Tr.c (boolA (dcd (ptF q))) (Tr.b false (Tr.c (strL (uni q)) ((Tr.c (boolA true) Tr.nil).br Tr.nil))))))).w.br (Tr.c (strL (uni p)) (Tr.c (AV.tuple [AV.slice 3 [encPt p], intA 0, intA 0]) (Tr.c (strL (uni p)) (Tr.c (strL (uni q)) (Tr.c (AV.tuple [AV.slice 3 [encPt p, encPt q], intA 0, intA 0]) (Tr.k 1 (Tr.k 2 (Tr.b true (Tr.b true (Tr.g [AV.agg [strL p.old, strL p.new, AV.slice 5 (List.map encHk p.hs)]] (Tr.c (boolA true) (Tr.b true (Tr.g [AV.agg [strL p.old, strL p.new, AV.slice 5 (List.map encHk p.hs)], AV.agg [strL q.old, strL q.new, AV.slice 5 (List.map encHk q.hs)]] (Tr.c (boolA true) (Tr.b true (Tr.c (boolA true) Tr.nil))))))))).w))).w))))).w))).w) rfl ?_
 refine Eq.mpr (by kernel_rfl : _ = ((R FT XS).f 22 [encPt p] = some (boolA (dcd (ptF p))) ∧ ((!dcd (ptF p)) = true → true = true ∧ (R FT XS).f 22 [encPt p] = some (boolA (dcd (ptF p))) ∧ dcd (ptF p) = false ∧ (R FT XS).f 15 [encPt p] = some (strL (uni p)) ∧ (decide (uni p = []) = true → (R FT XS).f 22 [encPt q] = some (boolA (dcd (ptF q))) ∧ (dcd (ptF q) = true → true = true ∧ (R FT XS).f 11 [] = some (boolA true) ∧ true = true) ∧ (dcd (ptF q) = false → (R FT XS).f 15 [encPt q] = some (strL (uni q)) ∧ (decide (uni q = []) = true → (R FT XS).f 11 [] = some (boolA true) ∧ true = true) ∧ (decide (uni q = []) = false → false = true))) ∧ (decide (uni p = []) = false → false = false ∧ false = true)) ∧ ((!dcd (ptF p)) = false → (R FT XS).f 22 [encPt q] = some (boolA (dcd (ptF q))) ∧ ((!dcd (ptF q)) = true → (R FT XS).f 22 [encPt p] = some (boolA (dcd (ptF p))) ∧ dcd (ptF p) = true ∧ true = true ∧ (R FT XS).f 22 [encPt q] = some (boolA (dcd (ptF q))) ∧ dcd (ptF q) = false ∧ (R FT XS).f 15 [encPt q] = some (strL (uni q)) ∧ (decide (uni q = []) = true → (R FT XS).f 11 [] = some (boolA true) ∧ true
 = true) ∧ (decide (uni q = []) = false → false = true)) ∧ ((!dcd (ptF q)) = false → (R FT XS).f 15 [encPt p] = some (strL (uni p)) ∧ (R FT XS).f 19 [strL (uni p)] = some (AV.tuple [AV.slice 3 [encPt p], intA 0, intA 0]) ∧ (R FT XS).f 15 [encPt p] = some (strL (uni p)) ∧ (R FT XS).f 15 [encPt q] = some (strL (uni q)) ∧ List.length (uni p) + List.length (uni q) ≤ 9223372036854775807 ∧ (R FT XS).f 19 [strL (uni p ++ uni q)] = some (AV.tuple [AV.slice 3 [encPt p, encPt q], intA 0, intA 0]) ∧ (0 : Nat) = 0 ∧ (0 : Nat) = 0 ∧ (0 : Nat) = 0 ∧ (1 : Nat) = 1 ∧ (56 : Nat) ≤ 140737488355328 ∧ (1 : Nat) ≤ 9223372036854775807 ∧ (0 : Nat) = 0 ∧ (0 : Nat) = 0 ∧ (0 : Nat) = 0 ∧ (2 : Nat) = 2 ∧ (112 : Nat) ≤ 140737488355328 ∧ (2 : Nat) ≤ 9223372036854775807 ∧ true = true ∧ true = true ∧ (1 : Nat) = 1 ∧ List.take (1 : Nat) (List.drop (0 : Nat) ([] ++ [AV.agg [strL p.old, strL p.new, AV.slice 5 (List.map encHk p.hs)]])) = [AV.agg [strL p.old, strL p.new, AV.slice 5 (List.map
 encHk p.hs)]] ∧ (R FT XS).f 21 [AV.slice 3 [encPt p], AV.slice 3 [encPt p]] = some (boolA true) ∧ true = true ∧ (2 : Nat) = 2 ∧ List.take (2 : Nat) (List.drop (0 : Nat) ([] ++ [AV.agg [strL p.old, strL p.new, AV.slice 5 (List.map encHk p.hs)], AV.agg [strL q.old, strL q.new, AV.slice 5 (List.map encHk q.hs)]])) = [AV.agg [strL p.old, strL p.new, AV.slice 5 (List.map encHk p.hs)], AV.agg [strL q.old, strL q.new, AV.slice 5 (List.map encHk q.hs)]] ∧ (R FT XS).f 21 [AV.slice 3 [encPt p, encPt q], AV.slice 3 [encPt p, encPt q]] = some (boolA true) ∧ true = true ∧ (R FT XS).f 11 [] = some (boolA true) ∧ true = true)))) ?_
 refine ⟨(fp), fun h1_ => have h1 := nT h1_; ⟨rfl, (fp), h1, (up), fun h2_ => have h2 := dT h2_; ⟨(fq), fun h3 => ⟨rfl, (aw), rfl⟩, fun h4 => ⟨(uq), fun h5_ => have h5 := dT h5_; ⟨(aw), rfl⟩, fun h6_ => have h6 := dF h6_; ?_⟩⟩, fun h7_ => have h7 := dF h7_; ⟨rfl, ?_⟩⟩, fun h8_ => have h8 := nF h8_; ⟨(fq), fun h9_ => have h9 := nT h9_; ⟨(fp), h8, rfl, (fq), h9, (uq), fun h10_ => have h10 := dT h10_; ⟨(aw), rfl⟩, fun h11_ => have h11 := dF h11_; ?_⟩, fun h12_ => have h12 := nF h12_; ⟨(up), (one ?_), (up), (uq), ?_, (two ?_ ?_), rfl, rfl, rfl, rfl, (by omega), (by omega), rfl, rfl, rfl, rfl, (by omega), (by omega), rfl, rfl, rfl, rfl, (s1), rfl, rfl, rfl, (s2), rfl, (aw), rfl⟩⟩⟩
 all_goals first
  | exact absurd (np (by assumption)) (by assumption)
  | exact absurd (nq (by assumption)) (by assumption)
  | exact dcd_iff.1 (by assumption)
  | (rw [uni_y (dcd_iff.1 h8), uni_y (dcd_iff.1 h12)]; omega)
end Go.Proofs.YtfbpbkcplpkndaaGreatDoor
end
