/- Own texts of this claim, merged: Df19, DfN, DfY, Dfa. -/
import Derived.Test.YtfbpbkcplpkndaaGreatDoorPf
section
namespace Go.Proofs.YtfbpbkcplpkndaaGreatDoor
set_option linter.unusedVariables false
set_option linter.unusedSimpArgs false
set_option maxRecDepth 100000
set_option maxHeartbeats 2000000
section
variable {X : CallF}
theorem sameHunk_run (h : Hk) (hl : h.ls.length ≤ 1000000000) : (R FT X).f 27 [encHk h, encHk h] = some (boolA true) := by
 have hm := maxLen_le
 refine R_wp ((Tr.b false (Tr.b false (Tr.b false (Tr.b false (Tr.k h.ls.length (Tr.k h.ls.length (Tr.b false (Tr.inv (fun (k : Nat) ↦ St.mk [(2, AV.ptr 0 0), (3, AV.ptr 1 0), (5, intA (↑k : Int))] [MObj.box 46 [intA h.fa, intA h.la, intA h.fb, intA h.lb, AV.slice 3 (List.map encDL h.ls)], MObj.box 46 [intA h.fa, intA h.la, intA h.fb, intA h.lb, AV.slice 3 (List.map encDL h.ls)]]) (fun (k : Nat) ↦ k ≤ h.ls.length) (fun (k : Nat) ↦ h.ls.length - k) fun (k : Nat) ↦ (Tr.k h.ls.length ((Tr.ix encDL h.ls k fun (x4 : DL) ↦ Tr.ix encDL h.ls k fun (x6 : DL) ↦ (Tr.nil.br Tr.nil.w).w).w.w.br Tr.nil)).w).w).w)))))).w) rfl ?_
 refine Eq.mpr (by kernel_rfl : _ = ((!decide (h.fa = h.fa)) = false ∧ (!decide (h.la = h.la)) = false ∧ (!decide (h.fb = h.fb)) = false ∧ (!decide (h.lb = h.lb)) = false ∧ (List.map encDL h.ls).length = h.ls.length ∧ (List.map encDL h.ls).length = h.ls.length ∧ (!decide ((↑h.ls.length : Int) = (↑h.ls.length : Int))) = false ∧ (∃ (j1 : Nat), ((True ∧ True ∧ (0 : Int) = (↑j1 : Int) ∧ True) ∧ (h.fa = h.fa ∧ h.la = h.la ∧ h.fb = h.fb ∧ h.lb = h.lb ∧ List.map encDL h.ls = List.map encDL h.ls) ∧ h.fa = h.fa ∧ h.la = h.la ∧ h.fb = h.fb ∧ h.lb = h.lb ∧ List.map encDL h.ls = List.map encDL h.ls) ∧ j1 ≤ h.ls.length) ∧ ∀ (k : Nat), k ≤ h.ls.length → (List.map encDL h.ls).length = h.ls.length ∧ (decide ((↑k : Int) < (↑h.ls.length : Int)) = true → List.map encDL h.ls = List.map encDL h.ls ∧ (↑k : Int) = (↑k : Int) ∧ k < h.ls.length ∧ ∀ (x4 : DL), h.ls[k]? = some x4 → List.map encDL h.ls = List.map encDL h.ls ∧ (↑k : Int) = (↑k : Int) ∧ k < h.ls.length ∧ ∀ (x6 : DL), h.ls[k]? = some x6 → ((!(decide (x4.op = x6.op) && (decide ((ofL x4.tx).data.toList = (ofL x6.tx).data.toList) && decide (x4.ne = x6.ne)))) = true → false = true) ∧ ((!(decide (x4.op = x6.op) && (decide ((ofL x4.tx).data.toList = (ofL x6.tx).data.toList) && decide (x4.ne
 = x6.ne)))) = false → InI64 ((↑k : Int) + 1) ∧ ∃ (j10 : Nat), ((True ∧ True ∧ (↑k : Int) + 1 = (↑j10 : Int) ∧ True) ∧ (h.fa = h.fa ∧ h.la = h.la ∧ h.fb = h.fb ∧ h.lb = h.lb ∧ List.map encDL h.ls = List.map encDL h.ls) ∧ h.fa = h.fa ∧ h.la = h.la ∧ h.fb = h.fb ∧ h.lb = h.lb ∧ List.map encDL h.ls = List.map encDL h.ls) ∧ j10 ≤ h.ls.length ∧ h.ls.length - j10 < h.ls.length - k)) ∧ (decide ((↑k : Int) < (↑h.ls.length : Int)) = false → true = true))) ?_
 refine ⟨(fnD rfl), (fnD rfl), (fnD rfl), (fnD rfl), (by simp), (by simp), (fnD rfl), ⟨(0 : Nat), ⟨⟨trivial, trivial, (by omega), trivial⟩, ⟨rfl, rfl, rfl, rfl, rfl⟩, rfl, rfl, rfl, rfl, rfl⟩, (by omega)⟩, fun k => fun h2 => ⟨(by simp), fun h3_ => have h3 := dT h3_; ⟨rfl, rfl, (by omega), fun x4 => fun h5 => ⟨rfl, rfl, (by omega), fun x6 => fun h7 => ⟨fun h8_ => have h8 := nT h8_; ?_, fun h9_ => have h9 := nF h9_; ⟨(by unfold InI64; omega), ⟨k + (1 : Nat), ⟨⟨trivial, trivial, (by omega), trivial⟩, ⟨rfl, rfl, rfl, rfl, rfl⟩, rfl, rfl, rfl, rfl, rfl⟩, ⟨(by omega), (by omega)⟩⟩⟩⟩⟩⟩, fun h11_ => have h11 := dF h11_; rfl⟩⟩
 rw [h5] at h7; injection h7 with h7; subst h7; simp at h8
theorem sameHunk_e (h h' : Hk) (e : h = h') (hl : h.ls.length ≤ 1000000000) : (R FT X).f 27 [encHk h, encHk h'] = some (boolA true) := by
 subst e; exact sameHunk_run h hl
theorem samePatch_run (p : Pt) (hl : p.hs.length ≤ 1000000000) (hx : ∀ h ∈ p.hs, h.ls.length ≤ 1000000000) : (R FT X).f 12 [encPt p, encPt p] = some (boolA true) := by
 have hm := maxLen_le
 have sh := fun (h h' : Hk) e hl => sameHunk_e (X := X) h h' e hl
 refine R_wp (((Tr.b true (Tr.b true Tr.nil).w).br ((Tr.b true Tr.nil).w.br (Tr.k p.hs.length (Tr.k p.hs.length (Tr.b false (Tr.inv (fun (k : Nat) ↦ St.mk [(2, AV.ptr 0 0), (3, AV.ptr 1 0), (5, intA (↑k : Int))] [MObj.box 29 [strL p.old, strL p.new, AV.slice 5 (List.map encHk p.hs)], MObj.box 29 [strL p.old, strL p.new, AV.slice 5 (List.map encHk p.hs)]]) (fun (k : Nat) ↦ k ≤ p.hs.length) (fun (k : Nat) ↦ p.hs.length - k) fun (k : Nat) ↦ (Tr.k p.hs.length ((Tr.ix encHk p.hs k fun (x8 : Hk) ↦ Tr.ix encHk p.hs k fun (x10 : Hk) ↦ Tr.c (boolA true) (Tr.b false Tr.nil.w).w).w.w.br Tr.nil)).w).w).w)))).w) rfl ?_
 refine Eq.mpr (by kernel_rfl : _ = (((!decide (p.old = p.old)) = true → true = true ∧ true = true ∧ false = true) ∧ ((!decide (p.old = p.old)) = false → ((!decide (p.new = p.new)) = true → true = true ∧ false = true) ∧ ((!decide (p.new = p.new)) = false → (List.map encHk p.hs).length = p.hs.length ∧ (List.map encHk p.hs).length = p.hs.length ∧ (!decide ((↑p.hs.length : Int) = (↑p.hs.length : Int))) = false ∧ (∃ (j5 : Nat), ((True ∧ True ∧ (0 : Int) = (↑j5 : Int) ∧ True) ∧ (p.old = p.old ∧ p.new = p.new ∧ List.map encHk p.hs = List.map encHk p.hs) ∧ p.old = p.old ∧ p.new = p.new ∧ List.map encHk p.hs = List.map encHk p.hs) ∧ j5 ≤ p.hs.length) ∧ ∀ (k : Nat), k ≤ p.hs.length → (List.map encHk p.hs).length = p.hs.length ∧ (decide ((↑k : Int) < (↑p.hs.length : Int)) = true → List.map encHk p.hs = List.map encHk p.hs ∧ (↑k : Int) = (↑k : Int) ∧ k < p.hs.length ∧ ∀ (x8 : Hk), p.hs[k]? = some x8 → List.map encHk p.hs = List.map encHk p.hs ∧ (↑k : Int) = (↑k : Int) ∧ k < p.hs.length ∧ ∀ (x10 : Hk), p.hs[k]? = some x10 → (R FT X).f 27 [encHk x8, encHk x10] = some (boolA true) ∧ false = false ∧ InI64 ((↑k : Int) + 1) ∧ ∃ (j12 : Nat), ((True ∧ True ∧ (↑k : Int) + 1 = (↑j12 : Int) ∧ True) ∧ (p.old = p.old
 ∧ p.new = p.new ∧ List.map encHk p.hs = List.map encHk p.hs) ∧ p.old = p.old ∧ p.new = p.new ∧ List.map encHk p.hs = List.map encHk p.hs) ∧ j12 ≤ p.hs.length ∧ p.hs.length - j12 < p.hs.length - k) ∧ (decide ((↑k : Int) < (↑p.hs.length : Int)) = false → true = true))))) ?_
 refine ⟨fun h1_ => have h1 := dnT h1_; ⟨rfl, rfl, ?_⟩, fun h2_ => have h2 := dnF h2_; ⟨fun h3_ => have h3 := dnT h3_; ⟨rfl, ?_⟩, fun h4_ => have h4 := dnF h4_; ⟨(by simp), (by simp), (fnD rfl), ⟨(0 : Nat), ⟨⟨trivial, trivial, (by omega), trivial⟩, ⟨rfl, rfl, rfl⟩, rfl, rfl, rfl⟩, (by omega)⟩, fun k => fun h6 => ⟨(by simp), fun h7_ => have h7 := dT h7_; ⟨rfl, rfl, (by omega), fun x8 => fun h9 => ⟨rfl, rfl, (by omega), fun x10 => fun h11 => ⟨(sh _ _ ?_ ?_), rfl, (by unfold InI64; omega), ⟨k + (1 : Nat), ⟨⟨trivial, trivial, (by omega), trivial⟩, ⟨rfl, rfl, rfl⟩, rfl, rfl, rfl⟩, ⟨(by omega), (by omega)⟩⟩⟩⟩⟩, fun h13_ => have h13 := dF h13_; rfl⟩⟩⟩⟩
 ·exact absurd rfl h1
 ·exact absurd rfl h3
 ·exact Option.some.inj (h9.symm.trans h11)
 ·exact hx _ (List.mem_of_getElem? h9)
theorem samePatch_e (p p' : Pt) (e : p = p') (hl : p.hs.length ≤ 1000000000) (hx : ∀ h ∈ p.hs, h.ls.length ≤ 1000000000) : (R FT X).f 12 [encPt p, encPt p'] = some (boolA true) := by
 subst e; exact samePatch_run p hl hx
theorem samePatches_run (l : List Pt) (hl : l.length ≤ 1000000000) (hx : ∀ p ∈ l, p.hs.length ≤ 1000000000 ∧ ∀ h ∈ p.hs, h.ls.length ≤ 1000000000) : (R FT X).f 21 [.slice 3 (l.map encPt), .slice 3 (l.map encPt)] = some (boolA true) := by
 have hm := maxLen_le
 have sp := fun (p p' : Pt) e hl hx => samePatch_e (X := X) p p' e hl hx
 refine R_wp ((Tr.k l.length (Tr.k l.length (Tr.b false (Tr.inv (fun (k : Nat) ↦ St.mk [(0, AV.slice 3 (List.map encPt l)), (1, AV.slice 3 (List.map encPt l)), (5, intA (↑k : Int))] []) (fun (k : Nat) ↦ k ≤ l.length) (fun (k : Nat) ↦ l.length - k) fun (k : Nat) ↦ (Tr.k l.length ((Tr.ix encPt l k fun (x4 : Pt) ↦ Tr.ix encPt l k fun (x6 : Pt) ↦ Tr.c (boolA true) (Tr.b false Tr.nil.w).w).w.w.br Tr.nil)).w).w).w)).w) rfl ?_
 refine Eq.mpr (by kernel_rfl : _ = ((List.map encPt l).length = l.length ∧ (List.map encPt l).length = l.length ∧ (!decide ((↑l.length : Int) = (↑l.length : Int))) = false ∧ (∃ (j1 : Nat), ((List.map encPt l = List.map encPt l ∧ List.map encPt l = List.map encPt l ∧ (0 : Int) = (↑j1 : Int) ∧ True) ∧ True) ∧ j1 ≤ l.length) ∧ ∀ (k : Nat), k ≤ l.length → (List.map encPt l).length = l.length ∧ (decide ((↑k : Int) < (↑l.length : Int)) = true → List.map encPt l = List.map encPt l ∧ (↑k : Int) = (↑k : Int) ∧ k < l.length ∧ ∀ (x4 : Pt), l[k]? = some x4 → List.map encPt l = List.map encPt l ∧ (↑k : Int) = (↑k : Int) ∧ k < l.length ∧ ∀ (x6 : Pt), l[k]? = some x6 → (R FT X).f 12 [encPt x4, encPt x6] = some (boolA true) ∧ false = false ∧ InI64 ((↑k : Int) + 1) ∧ ∃ (j8 : Nat), ((List.map encPt l = List.map encPt l ∧ List.map encPt l = List.map encPt l ∧ (↑k : Int) + 1 = (↑j8 : Int) ∧ True) ∧ True) ∧ j8 ≤ l.length ∧ l.length - j8 < l.length - k) ∧ (decide ((↑k : Int) < (↑l.length : Int)) = false → true = true))) ?_
 refine ⟨(by simp), (by simp), (fnD rfl), ⟨(0 : Nat), ⟨⟨rfl, rfl, (by omega), trivial⟩, trivial⟩, (by omega)⟩, fun k => fun h2 => ⟨(by simp), fun h3_ => have h3 := dT h3_; ⟨rfl, rfl, (by omega), fun x4 => fun h5 => ⟨rfl, rfl, (by omega), fun x6 => fun h7 => ⟨(sp _ _ ?_ ?_ ?_), rfl, (by unfold InI64; omega), ⟨k + (1 : Nat), ⟨⟨rfl, rfl, (by omega), trivial⟩, trivial⟩, ⟨(by omega), (by omega)⟩⟩⟩⟩⟩, fun h9_ => have h9 := dF h9_; rfl⟩⟩
 ·exact Option.some.inj (h5.symm.trans h7)
 ·exact (hx _ (List.mem_of_getElem? h5)).1
 ·exact (hx _ (List.mem_of_getElem? h5)).2
end
end Go.Proofs.YtfbpbkcplpkndaaGreatDoor
end
section
namespace Go.Proofs.YtfbpbkcplpkndaaGreatDoor
set_option linter.unusedVariables false
set_option linter.unusedSimpArgs false
section
variable {ls : List Bs}
theorem Bd.ln {a b : Int} {k : Nat} {acc : List DL} {r : Int × Nat × List DL} (h : Bd ls a b k acc r) : acc.length ≤ k → r.2.2.length ≤ r.2.1 := by
 induction h with
 | fin => exact id
 | out => exact id
 | bad => exact id
 | @go a b op k acc l r h _ _ ih =>
  intro q
  have := nxt_ge (ls := ls) (k + 1)
  exact ih (by rw [List.length_append, List.length_singleton]; omega)
theorem hkH_ln {k : Nat} (hk : k < ls.length) : (hkH ls k).ls.length ≤ ls.length := by
 have h := bdR_ok ls (hdV (lnAt ls k)).la (hdV (lnAt ls k)).lb (k + 1)
 have h1 := h.ln (Nat.zero_le _)
 have h2 := h.adv.2 hk
 unfold hkH hkB
 simp only
 omega
theorem hkA_ge {k : Nat} : k ≤ hkA ls k := by
 unfold hkA hkB
 split
 ·have := (bdR_ok ls (hdV (lnAt ls k)).la (hdV (lnAt ls k)).lb (k + 1)).adv.1; omega
 ·exact Nat.le_refl _
theorem Hs.ln {k : Nat} {acc : List Hk} {r : Int × Nat × List Hk} (h : Hs ls k acc r) : acc.length ≤ k → (∀ h ∈ acc, h.ls.length ≤ ls.length) → r.2.2.length ≤ r.2.1 ∧ ∀ h ∈ r.2.2, h.ls.length ≤ ls.length := by
 induction h with
 | fin => exact fun a b => ⟨a, b⟩
 | @bad k acc _ _ => exact fun a b => ⟨Nat.le_trans a hkA_ge, b⟩
 | @go k acc r h h2 _ ih =>
  intro a b
  have := hkA_adv h2
  refine ih (by rw [List.length_append, List.length_singleton]; omega) fun y hy => ?_
  rcases List.mem_append.1 hy with q | q
  ·exact b y q
  ·rw [List.mem_singleton.1 q]; exact hkH_ln (atH_lt h)
def PtS (n : Nat) (p : Pt) : Prop := p.hs.length ≤ n ∧ ∀ h ∈ p.hs, h.ls.length ≤ n
theorem Pm.ln {k : Nat} {acc : List Pt} {r : Int × Nat × List Pt} (h : Pm ls k acc r) : k ≤ ls.length → acc.length ≤ k → (∀ p ∈ acc, PtS ls.length p) → r.2.2.length ≤ r.2.1 ∧ ∀ p ∈ r.2.2, PtS ls.length p := by
 induction h with
 | fin => exact fun _ a b => ⟨a, b⟩
 | b1 => exact fun _ a b => ⟨a, b⟩
 | b2 => exact fun _ a b => ⟨Nat.le_succ_of_le a, b⟩
 | @b3 k acc o n h h2 h3 =>
  refine fun hk a b => ⟨?_, b⟩
  have h4 := nmP_lt h2
  have : k + 2 ≤ (hsR ls (k + 2)).2.1 := by
   have : ∀ {k : Nat} {acc : List Hk} {r : Int × Nat × List Hk}, Hs ls k acc r → k ≤ r.2.1 := by
    intro k acc r h
    induction h with
    | fin => exact Nat.le_refl _
    | bad => exact hkA_ge
    | go _ h2 _ ih => have := hkA_adv h2; omega
   exact this (hsR_ok ls (k + 2))
  show acc.length ≤ (hsR ls (k + 2)).2.1
  omega
 | @go k acc o n r h h2 h3 _ ih =>
  intro hk a b
  have h4 := nmP_lt h2
  have g := hsR_ok ls (k + 2)
  have g1 := g.adv.1 h3
  have g2 := g.adv.2 (by omega)
  have g3 := g.ln (Nat.zero_le _) (fun h hh => by cases hh)
  refine ih g2 (by rw [List.length_append, List.length_singleton]; omega) fun y hy => ?_
  rcases List.mem_append.1 hy with q | q
  ·exact b y q
  ·rw [List.mem_singleton.1 q]
   exact ⟨Nat.le_trans g3.1 g2, g3.2⟩
end
theorem paP_S (s : Bs) : (paP s).length ≤ (lins s).length ∧ ∀ p ∈ paP s, PtS (lins s).length p := by
 unfold paP
 split
 ·have h := (pmR_ok (lins s)).ln (Nat.zero_le _) (Nat.zero_le _) fun p hp => by cases hp
  have h2 := (pmR_ok (lins s)).adv (Nat.zero_le _)
  exact ⟨Nat.le_trans h.1 h2, h.2⟩
 ·exact ⟨Nat.zero_le _, fun p hp => by cases hp⟩
end Go.Proofs.YtfbpbkcplpkndaaGreatDoor
end
section
namespace Go.Proofs.YtfbpbkcplpkndaaGreatDoor
set_option linter.unusedVariables false
set_option linter.unusedSimpArgs false
set_option maxRecDepth 100000
theorem awake_run : (R FT XS).f 11 [] = some (boolA true) := R_of (n := 40) (by kernel_rfl)
end Go.Proofs.YtfbpbkcplpkndaaGreatDoor
end
section
namespace Go.Proofs.YtfbpbkcplpkndaaGreatDoor
set_option linter.unusedVariables false
set_option linter.unusedSimpArgs false
set_option maxRecDepth 100000
set_option maxHeartbeats 2000000
theorem parses_run (s : Bs) (hs : s.length ≤ 1048576) : (R FT XS).f 5 [strL s] = some (boolA true) := by
 have p3 := parse3_run (X := XS) XS_bld XS_lib XS_num s (by omega)
 have p2 := parse2_run (X := XS) XS_lib XS_num s (by omega)
 have hS := paP_S s
 have hL := lins_len s
 have sp := samePatches_run (X := XS) (paP s) (by omega) fun p hp => ⟨by have := (hS.2 p hp).1; omega, fun h hh => by have := (hS.2 p hp).2 h hh; omega⟩
 have aw := awake_run
 refine R_wp (Tr.c (AV.tuple [AV.slice 3 (List.map encPt (paP s)), intA (paE s), intA (paL s)]) (Tr.c (AV.tuple [AV.slice 3 (List.map encPt (paP s)), intA (paE s), intA (paL s)]) (Tr.c (boolA true) (Tr.b true (Tr.b true (Tr.b true (Tr.c (boolA true) Tr.nil))))).w)) rfl ?_
 refine Eq.mpr (by kernel_rfl : _ = ((R FT XS).f 19 [strL s] = some (AV.tuple [AV.slice 3 (List.map encPt (paP s)), intA (paE s), intA (paL s)]) ∧ (R FT XS).f 20 [strL s] = some (AV.tuple [AV.slice 3 (List.map encPt (paP s)), intA (paE s), intA (paL s)]) ∧ (R FT XS).f 21 [AV.slice 3 (List.map encPt (paP s)), AV.slice 3 (List.map encPt (paP s))] = some (boolA true) ∧ true = true ∧ decide (paE s = paE s) = true ∧ decide (paL s = paL s) = true ∧ (R FT XS).f 11 [] = some (boolA true) ∧ true = true)) ?_
 refine ⟨(p3), (p2), (sp), rfl, (tD rfl), (tD rfl), (aw), rfl⟩
end Go.Proofs.YtfbpbkcplpkndaaGreatDoor
end
