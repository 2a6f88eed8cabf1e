/- Own texts of this claim, merged: DfS, DfL, DfM, Sl, Lcs1, Lcs2, Lcs3, Lcs4, Ft, BldW, Bld, Tx0, TxS, Tx1. -/
import Derived.Test.YtfbpbkcplpkndaaGreatDoorPoc
import Derived.Test.YtfbpbkcplpkndaaGreatDoorRows
import Derived.Test.YtfbpbkcplpkndaaGreatDoorChecked
import Derived.KernelRfl
import Derived.Shelf.Strings.BuilderX
import Derived.Lib.Strings
import Derived.Lib.Slices
import Derived.Lib.Walk
import Derived.Lib.Builder
import Derived.Lib.UnsafeStr
import Derived.WalkKit
import Derived.Laws.Externs
import Derived.RegionTactic
import Derived.Shelf.RegionOpenPlain
import Derived.Lib.IndexMore
section
namespace Go.Proofs.YtfbpbkcplpkndaaGreatDoor
set_option linter.unusedVariables false
set_option linter.unusedSimpArgs false
set_option linter.unusedSectionVars false
section
variable {A B : List Bs}
theorem edR_pre {l : List Ed} {q : Nat × Nat} (h : edR A B l = some q) {k : Nat} {e : Ed} (he : l[k]? = some e) : ∃ i j, edR A B (l.take k) = some (i, j) ∧ EdOk A B e i j := by
 have hl : l = l.take k ++ (e :: l.drop (k + 1)) := by rw [← drop_get he, List.take_append_drop]
 rw [hl, edR_app] at h
 cases hr : edR A B (l.take k) with
 | none => rw [hr, edS_none] at h; cases h
 | some p =>
  obtain ⟨i, j⟩ := p
  rw [hr] at h
  refine ⟨i, j, rfl, Classical.byContradiction fun hn => ?_⟩
  rw [List.foldl_cons] at h
  have : edS A B (some (i, j)) e = none := by unfold edS; exact if_neg hn
  rw [this, edS_none] at h
  cases h
theorem edR_pI : ∀ (l : List Ed) (i j : Nat), edR A B l = some (i, j) → i = pI (stE l) 0 ∧ j = pJ (stE l) 0 := fun l => by
 refine list_snoc (P := fun l => ∀ i j, edR A B l = some (i, j) → i = pI (stE l) 0 ∧ j = pJ (stE l) 0) ?_ ?_ l
 ·intro i j h
  simp only [edR, List.foldl_nil, Option.some.injEq, Prod.mk.injEq] at h
  exact ⟨h.1.symm, h.2.symm⟩
 ·intro l e ih i j h
  obtain ⟨i', j', h1, h2, h3⟩ := edR_snoc h
  obtain ⟨g1, g2⟩ := ih i' j' h1
  rw [stE_app, stE_one, pI_app, pJ_app, ← g1, ← g2, pI_rep, pJ_rep]
  simp only [Prod.mk.injEq] at h3
  exact h3
theorem scr_at {k : Nat} {e : Ed} (he : (script A B)[k]? = some e) : EdOk A B e (pI (stE ((script A B).take k)) 0) (pJ (stE ((script A B).take k)) 0) := by
 obtain ⟨i, j, h1, h2⟩ := edR_pre (script_ok A B).1 he
 obtain ⟨g1, g2⟩ := edR_pI _ i j h1
 rw [← g1, ← g2]; exact h2
theorem pth_ln : ∀ (p : List Int) (i j : Nat), pth A B p i j → p.length + i + j ≤ A.length + B.length
 | [], i, j, h => by simp [pth] at h; simp; omega
 | op :: p, i, j, h => by
  obtain ⟨h1, h2⟩ := h
  have ih := pth_ln p _ _ h2
  simp only [List.length_cons]
  rcases h1 with ⟨q, _⟩ | ⟨q, _⟩ | ⟨q, _⟩ <;> subst q <;> simp [sI, sJ] at ih <;> omega
theorem scr_ln : (stE (script A B)).length ≤ A.length + B.length := by
 have := pth_ln _ 0 0 (ends_pth (script_ok A B).1); omega
end
theorem stE_ln (l : List Ed) (k : Nat) : (stE (l.take k)).length ≤ (stE l).length := by
 conv => rhs; rw [← List.take_append_drop k l, stE_app]
 simp
def eK (l : List Ed) (k : Nat) : Ed := l.getD k ⟨0, 0, 0, 0⟩
theorem eK_of {l : List Ed} {k : Nat} {x : Ed} (h : l[k]? = some x) : eK l k = x := getD_of h
def pQ (l : List Ed) (k n : Nat) : List Int := stE (l.take k) ++ List.replicate n (eK l k).op
theorem pQ_0 (l : List Ed) (k : Nat) : pQ l k 0 = stE (l.take k) := by simp [pQ]
theorem pQ_s (l : List Ed) (k n : Nat) : pQ l k (n + 1) = pQ l k n ++ [(eK l k).op] := by
 simp only [pQ, List.append_assoc, List.replicate_succ']
theorem pQ_n {l : List Ed} {k n : Nat} {e : Ed} (h : l[k]? = some e) (hn : n = e.n.toNat) : pQ l k n = stE (l.take (k + 1)) := by
 rw [take_succ_get h, stE_app, stE_one, pQ, eK_of h, hn]
def mkS (A B : List Bs) (op : Int) (i j : Nat) : Stp := ⟨op, i, j, if op = 3 then B.getD j [] else A.getD i []⟩
theorem stp_snoc (A B : List Bs) (p : List Int) (op : Int) : stp A B (p ++ [op]) 0 0 = stp A B p 0 0 ++ [mkS A B op (pI p 0) (pJ p 0)] := by rw [stp_app]; rfl
theorem pI_s (p : List Int) (op : Int) : pI (p ++ [op]) 0 = sI op (pI p 0) := by rw [pI_app]; rfl
theorem pJ_s (p : List Int) (op : Int) : pJ (p ++ [op]) 0 = sJ op (pJ p 0) := by rw [pJ_app]; rfl
section
variable {A B : List Bs} {k n : Nat} {e : Ed}
structure MidE (A B : List Bs) (k n : Nat) (e : Ed) : Prop where
 he : (script A B)[k]? = some e
 nn : (n : Int) ≤ e.n
theorem MidE.op (h : MidE A B k n e) : e.op = 1 ∨ e.op = 2 ∨ e.op = 3 := (scr_at h.he).op
theorem MidE.pi (h : MidE A B k n e) : pI (pQ (script A B) k n) 0 = if e.op = 3 then e.a.toNat else e.a.toNat + n := by
 have := (scr_at h.he).pa
 rw [pQ, pI_app, pI_rep, eK_of h.he, this]; rfl
theorem MidE.pj (h : MidE A B k n e) : pJ (pQ (script A B) k n) 0 = if e.op = 2 then e.b.toNat else e.b.toNat + n := by
 have := (scr_at h.he).pb
 rw [pQ, pJ_app, pJ_rep, eK_of h.he, this]; rfl
theorem MidE.a0 (h : MidE A B k n e) : 0 ≤ e.a ∧ 0 ≤ e.b := by have := scr_at h.he; rw [this.pa, this.pb]; omega
theorem MidE.ra (h : MidE A B k n e) (hn : (n : Int) < e.n) (h3 : e.op ≠ 3) : e.a.toNat + n < A.length := by
 have h1 := (scr_at h.he).ra h3; have h2 := (scr_at h.he).pa
 omega
theorem MidE.rb (h : MidE A B k n e) (hn : (n : Int) < e.n) (h3 : e.op ≠ 2) : e.b.toNat + n < B.length := by
 have h1 := (scr_at h.he).rb h3; have h2 := (scr_at h.he).pb
 omega
theorem MidE.ln (h : MidE A B k n e) : (pQ (script A B) k n).length ≤ A.length + B.length := by
 have h1 := stE_ln (script A B) (k + 1)
 have h2 := scr_ln (A := A) (B := B)
 rw [take_succ_get h.he, stE_app, stE_one, List.length_append, List.length_replicate] at h1
 rw [pQ, List.length_append, List.length_replicate]
 have := h.nn; omega
theorem MidE.bd (h : MidE A B k n e) : pI (pQ (script A B) k n) 0 ≤ A.length ∧ pJ (pQ (script A B) k n) 0 ≤ B.length := by
 have h1 := scr_at h.he
 obtain ⟨i', j', g1, -⟩ := edR_pre (script_ok A B).1 h.he
 have h2 := edR_le _ _ _ g1
 have h3 := edR_pI _ _ _ g1
 have h4 := h.nn
 rw [h.pi, h.pj]
 rw [h3.1, h3.2] at h2
 have h5 := h1.pa; have h6 := h1.pb
 constructor
 ·split
  ·omega
  ·rename_i q; have := h1.ra q; omega
 ·split
  ·omega
  ·rename_i q; have := h1.rb q; omega
end
theorem eK_get {l : List Ed} {k : Nat} (h : k < l.length) : l[k]? = some (eK l k) := by
 have e : l[k]? = some l[k] := List.getElem?_eq_getElem h
 rw [e, eK_of e]
section
variable {A B : List Bs} {k n : Nat} {e : Ed}
theorem MidE.zero (h : (k : Int) < (script A B).length) : MidE A B k 0 (eK (script A B) k) := by
 have h1 := eK_get (l := script A B) (k := k) (by omega)
 exact ⟨h1, by have := (scr_at h1).n; omega⟩
theorem MidE.next (h : MidE A B k n e) (hn : (n : Int) < e.n) : MidE A B k (n + 1) e := ⟨h.he, by omega⟩
theorem scr_len (A B : List Bs) : (script A B).length ≤ A.length + B.length := by
 have h : ∀ k, k ≤ (script A B).length → k ≤ (stE ((script A B).take k)).length := by
  intro k
  induction k with
  | zero => intro _; exact Nat.zero_le _
  | succ k ih =>
   intro hk
   have h1 := eK_get (l := script A B) (k := k) hk
   have h2 := (scr_at h1).n
   rw [take_succ_get h1, stE_app, stE_one, List.length_append, List.length_replicate]
   have := ih (by omega)
   omega
 have h1 := h _ (Nat.le_refl _)
 have h2 := scr_ln (A := A) (B := B)
 rw [List.take_length] at h1; omega
theorem mkS_3 {x : Bs} {i j : Nat} {op : Int} (h3 : op = 3) (hx : B[j]? = some x) : mkS A B op i j = ⟨op, i, j, x⟩ := by
 unfold mkS; rw [if_pos h3, getD_of hx]
theorem mkS_n {x : Bs} {i j : Nat} {op : Int} (h3 : ¬ op = 3) (hx : A[i]? = some x) : mkS A B op i j = ⟨op, i, j, x⟩ := by
 unfold mkS; rw [if_neg h3, getD_of hx]
theorem mid_s (h : MidE A B k n e) : stp A B (pQ (script A B) k (n + 1)) 0 0 = stp A B (pQ (script A B) k n) 0 0 ++ [mkS A B e.op (pI (pQ (script A B) k n) 0) (pJ (pQ (script A B) k n) 0)] := by
 rw [pQ_s, stp_snoc, eK_of h.he]
theorem all_3 (h : MidE A B k n e) (h3 : e.op = 3) {x : Bs} (hx : B[e.b.toNat + n]? = some x) : ((stp A B (pQ (script A B) k n) 0 0).map dlS).map encDL ++ [encDL (mkDL e.op x)] = ((stp A B (pQ (script A B) k (n + 1)) 0 0).map dlS).map encDL := by
 rw [mid_s h, mkS_3 h3 (x := x) (by rw [h.pj, if_neg (by omega)]; exact hx)]
 simp [dlS]
theorem all_n (h : MidE A B k n e) (h3 : ¬ e.op = 3) {x : Bs} (hx : A[e.a.toNat + n]? = some x) : ((stp A B (pQ (script A B) k n) 0 0).map dlS).map encDL ++ [encDL (mkDL e.op x)] = ((stp A B (pQ (script A B) k (n + 1)) 0 0).map dlS).map encDL := by
 rw [mid_s h, mkS_n h3 (x := x) (by rw [h.pi, if_neg h3]; exact hx)]
 simp [dlS]
end
section
variable {A B : List Bs} {k n : Nat} {e : Ed}
theorem mid_p (h : MidE A B k n e) : pI (pQ (script A B) k (n + 1)) 0 = sI e.op (pI (pQ (script A B) k n) 0) ∧ pJ (pQ (script A B) k (n + 1)) 0 = sJ e.op (pJ (pQ (script A B) k n) 0) := by
 rw [pQ_s, eK_of h.he, pI_s, pJ_s]; exact ⟨rfl, rfl⟩
theorem mid_ra (h : MidE A B k n e) (hn : (n : Int) < e.n) (h3 : ¬ e.op = 3) : pI (pQ (script A B) k n) 0 < A.length := by
 rw [h.pi, if_neg h3]; exact h.ra hn h3
theorem mid_rb (h : MidE A B k n e) (hn : (n : Int) < e.n) (h3 : ¬ e.op = 2) : pJ (pQ (script A B) k n) 0 < B.length := by
 rw [h.pj, if_neg h3]; exact h.rb hn h3
theorem stp_3 (h : MidE A B k n e) (h3 : e.op = 3) {x : Bs} (hx : B[pJ (pQ (script A B) k n) 0]? = some x) : (stp A B (pQ (script A B) k n) 0 0).map encStp ++ [AV.agg [.val (.int .i64 e.op), .val (.int .i64 (pI (pQ (script A B) k n) 0)), .val (.int .i64 (pJ (pQ (script A B) k n) 0)), .val (.string (ofL x))]] = (stp A B (pQ (script A B) k (n + 1)) 0 0).map encStp := by
 rw [mid_s h, mkS_3 h3 hx, List.map_append]; rfl
theorem stp_n (h : MidE A B k n e) (h3 : ¬ e.op = 3) {x : Bs} (hx : A[pI (pQ (script A B) k n) 0]? = some x) : (stp A B (pQ (script A B) k n) 0 0).map encStp ++ [AV.agg [.val (.int .i64 e.op), .val (.int .i64 (pI (pQ (script A B) k n) 0)), .val (.int .i64 (pJ (pQ (script A B) k n) 0)), .val (.string (ofL x))]] = (stp A B (pQ (script A B) k (n + 1)) 0 0).map encStp := by
 rw [mid_s h, mkS_n h3 hx, List.map_append]; rfl
end
theorem MidE.nle {A B : List Bs} {k n : Nat} {e : Ed} (h : MidE A B k n e) : n ≤ A.length + B.length := by
 have := h.ln
 rw [pQ, List.length_append, List.length_replicate] at this; omega
def hd0 (l : List Stp) : Stp := l.getD 0 ⟨0, 0, 0, []⟩
def hkS (l : List Stp) : Hk := ⟨frm (hd0 l).a (cA (l.map dlS)), cA (l.map dlS), frm (hd0 l).b (cB (l.map dlS)), cB (l.map dlS), l.map dlS⟩
theorem mkDL_cut (op : Int) (s : Bs) : mkDL op s = ⟨op, Lib.trimSuffix s [10], !Lib.hasSuffix s [10]⟩ := by
 unfold mkDL Lib.trimSuffix
 by_cases h : s.getLast? = some 10
 ·have hs : Lib.hasSuffix s [10] = true := by
   unfold Lib.hasSuffix
   have hne : s ≠ [] := fun e => by subst e; cases h
   refine List.isSuffixOf_iff_suffix.2 ⟨s.dropLast, ?_⟩
   have h2 := List.dropLast_concat_getLast hne
   have h3 : s.getLast hne = 10 := by rw [List.getLast?_eq_some_getLast hne] at h; exact Option.some.inj h
   rw [h3] at h2; exact h2
  rw [if_pos h, hs, if_pos rfl, List.dropLast_eq_take]; rfl
 ·have hs : Lib.hasSuffix s [10] = false := by
   cases hq : Lib.hasSuffix s [10] with
   | false => rfl
   | true =>
    obtain ⟨t, ht⟩ := List.isSuffixOf_iff_suffix.1 hq
    exact absurd (by rw [← ht]; simp) h
  rw [if_neg h, hs]; rfl
theorem difS_at {s t : Bs} {f : Nat} {x : Stp} (h : (difS s t)[f]? = some x) : x.a = cA ((difL s t).take f) ∧ x.b = cB ((difL s t).take f) := by
 unfold difS at h
 have hf : f < (stE (script (fed s) (fed t))).length := by
  have := (List.getElem?_eq_some_iff.1 h).1
  rwa [stp_len] at this
 have hp := List.getElem?_eq_getElem hf
 rw [stp_at _ 0 0 f _ hp] at h
 have e : (difL s t).take f = (stp (fed s) (fed t) ((stE (script (fed s) (fed t))).take f) 0 0).map dlS := by
  unfold difL difS
  rw [← List.map_take]
  congr 1
  have h1 : stE (script (fed s) (fed t)) = (stE (script (fed s) (fed t))).take f ++ (stE (script (fed s) (fed t))).drop f := (List.take_append_drop _ _).symm
  conv => lhs; rw [h1, stp_app]
  rw [List.take_append_of_le_length (by rw [stp_len, List.length_take]; omega), List.take_of_length_le (by rw [stp_len, List.length_take]; omega)]
 have h1 := stp_cA (A := fed s) (B := fed t) ((stE (script (fed s) (fed t))).take f) 0 0
 have h2 := stp_cB (A := fed s) (B := fed t) ((stE (script (fed s) (fed t))).take f) 0 0
 rw [← e] at h1 h2
 cases h
 exact ⟨by simpa using h1, by simpa using h2⟩
theorem hkS_R {s t : Bs} {f e : Nat} (hf : f < e) (he : e ≤ (difS s t).length) : hkS (((difS s t).take e).drop f) = hkR (difL s t) (f, e) := by
 have hx : (difS s t)[f]? = some (difS s t)[f] := List.getElem?_eq_getElem (by omega)
 have h1 := difS_at hx
 have h0 : hd0 (((difS s t).take e).drop f) = (difS s t)[f] := by
  unfold hd0
  refine getD_of ?_
  rw [List.getElem?_drop, List.getElem?_take, if_pos (by omega)]; exact hx
 have hm : (((difS s t).take e).drop f).map dlS = ((difL s t).take e).drop f := by
  unfold difL; rw [List.map_drop, List.map_take]
 unfold hkS hkR
 rw [h0, hm, h1.1, h1.2]
theorem difS_ln (s t : Bs) : (difS s t).length ≤ (lins s).length + (lins t).length := by
 unfold difS; rw [stp_len]
 have := scr_ln (A := fed s) (B := fed t)
 rw [fed_len, fed_len] at this; exact this
theorem difL_ln (s t : Bs) : (difL s t).length = (difS s t).length := by unfold difL; rw [List.length_map]
theorem rgs_clip (l : List DL) (n m : Nat) (h : m = min n l.length) : rgs l m = rgs l n := by
 have key : ∀ {j : Nat} {r : List (Nat × Nat)}, Rg (nr l m) l.length j r → Rg (nr l n) l.length j r := by
  intro j r hr
  induction hr with
  | fin h => exact .fin h
  | skip h1 h2 _ ih => exact .skip h1 (fun q => h2 ((nr_clip h _ h1).2 q)) ih
  | @run j e r h1 h2 h3 h4 _ ih =>
   refine .run h1 h2 (fun x hx hx' => (nr_clip h _ (by omega)).1 (h3 x hx hx')) ?_ ih
   by_cases q : e = l.length
   ·exact Or.inl q
   ·exact Or.inr fun q' => h4.elim (fun e => q e) (fun e => e ((nr_clip h _ (by omega)).2 q'))
 exact (key (rgs_ok l m)).det (rgs_ok l n)
inductive CmpJ (l : List DL) (n : Nat) : Nat → Int → Int → List (Nat × Nat) → Prop
 | none {i : Nat} : i ≤ l.length → (∀ x, x < i → ¬ chg l x) → CmpJ l n i (-1) (-1) []
 | some {i f t : Nat} {out : List (Nat × Nat)} : CmpI l n i out f t → out.length ≤ i → CmpJ l n i f t out
theorem cmpP_eq (on ot nn nt : Bs) (n : Nat) : cmpP on ot nn nt n = ⟨on, nn, (rgs (difL ot nt) n).map (hkR (difL ot nt))⟩ := rfl
theorem cut_if {D : List DL} {n f t m : Nat} (hf : f ≤ t) (ht : t < D.length) (hm : D.length = m) : (((f : Int) - if (f : Int) < (n : Int) then (f : Int) else (n : Int)).toNat, (t : Int).toNat + 1 + (if (m : Int) - (t : Int) - 1 < (n : Int) then (m : Int) - (t : Int) - 1 else (n : Int)).toNat) = cut D n f t := by
 unfold cut
 rw [hm]
 refine Prod.ext ?_ ?_
 ·simp only; split <;> omega
 ·simp only; split <;> omega
theorem chg_at {l : List DL} {i : Nat} {x : DL} (h : l[i]? = some x) : chg l i ↔ x.op ≠ 1 := by
 constructor
 ·rintro ⟨⟨y, h1, h2⟩⟩
  rw [h] at h1; cases h1; exact h2
 ·intro h2; exact ⟨⟨x, h, h2⟩⟩
theorem CmpJ.f0 {l : List DL} {n i : Nat} {f t : Int} {out : List (Nat × Nat)} (h : CmpJ l n i f t out) (hf : ¬ f < 0) : ∃ f' t' : Nat, f = f' ∧ t = t' ∧ CmpI l n i out f' t' ∧ out.length ≤ i := by
 cases h with
 | none => exact absurd (by decide) hf
 | some h1 h2 => exact ⟨_, _, rfl, rfl, h1, h2⟩
theorem CmpJ.f1 {l : List DL} {n i : Nat} {f t : Int} {out : List (Nat × Nat)} (h : CmpJ l n i f t out) (hf : f < 0) : f = -1 ∧ t = -1 ∧ out = [] ∧ i ≤ l.length ∧ ∀ x, x < i → ¬ chg l x := by
 cases h with
 | none h1 h2 => exact ⟨rfl, rfl, rfl, h1, h2⟩
 | some h1 h2 => omega
theorem CmpJ.keep {l : List DL} {n i : Nat} {f t : Int} {out : List (Nat × Nat)} (h : CmpJ l n i f t out) (hi : i < l.length) (hc : ¬ chg l i) : CmpJ l n (i + 1) f t out := by
 cases h with
 | none h1 h2 =>
  refine .none hi fun x hx => ?_
  by_cases q : x = i
  ·subst q; exact hc
  ·exact h2 x (by omega)
 | some h1 h2 => exact .some (h1.keep hi hc) (by omega)
end Go.Proofs.YtfbpbkcplpkndaaGreatDoor
end
section
namespace Go.Proofs.YtfbpbkcplpkndaaGreatDoor
open Go.RowKit
set_option linter.unusedVariables false
set_option linter.unusedSimpArgs false
set_option maxRecDepth 100000
set_option maxHeartbeats 4000000
theorem lines_any (s : ByteArray) (mx : Int) (w : World) (hs : s.size < 4294967281) (hm : w.cell? ⟨0, 0, none⟩ = some (.int .i64 mx)) (hne : (s.toList == ([] : List UInt8)) = false) (L : List ByteArray) (hL : L = Lib.splitB ⟨#[10]⟩ 0 (Lib.countB s ⟨#[10]⟩) s) (z : ByteArray) (K : Nat) (hK : L.length = K + 1) (hz : L[K]? = some z) (hKc : Lib.countB s ⟨#[10]⟩ = K) (hK2 : K < 4294967281) :
    Calls Tryz.prog 48 #[.string s] w fun e w' => w' = w.alloc (.cells (L.map Value.string).toArray 9) ∧
      ((z.toList == ([] : List UInt8)) = true → e = .returned (.tuple #[.slice (some ⟨w.heap.size, 0, none⟩) K K, .bool true])) ∧
      ((z.toList == ([] : List UInt8)) = false → e = .returned (.tuple #[.slice (some ⟨w.heap.size, 0, none⟩) (K + 1) (K + 1), .bool false])) := by
  have hsp := Tryz.strings_Split s ⟨#[10]⟩ mx w hs hm (by decide)
  rw [← hL, hKc] at hsp
  clear hL hKc
  have hcell : (w.alloc (.cells (L.map Value.string).toArray 9)).cell? ⟨w.heap.size, K, none⟩ = some (.string z) := by
    have hh : (w.alloc (.cells (L.map Value.string).toArray 9)).heap[w.heap.size]? = some (.cells (L.map Value.string).toArray 9) := (MapKept.heap_alloc w _).1
    rw [cell_of_row _ _ _ _ _ _ hh]
    simp [hz]
  have hsp := Lib.hid hsp
  go_enter Tryz.func48, Tryz.ntmps48
  go_wp2_with (first | (go_at_call 77; refine hsp.out.mono ?_; rintro e w' ⟨rfl, rfl⟩))
  · go_ret2
    rename_i h
    exact ⟨rfl, fun _ => rfl, fun q => by simp_all⟩
  · go_ret2
    rename_i h
    exact ⟨rfl, fun q => by simp_all, fun _ => rfl⟩
theorem lines_nil (s : ByteArray) (w : World) (hne : (s.toList == ([] : List UInt8)) = true) :
    Calls Tryz.prog 48 #[.string s] w fun e w' => w' = w ∧ e = .returned (.tuple #[.slice none 0 0, .bool true]) := by
  go_enter Tryz.func48, Tryz.ntmps48
  go_wp2
  go_ret2
  exact ⟨rfl, rfl⟩
end Go.Proofs.YtfbpbkcplpkndaaGreatDoor
end
section
namespace Go.Proofs.YtfbpbkcplpkndaaGreatDoor
set_option linter.unusedVariables false
set_option linter.unusedSimpArgs false
set_option maxRecDepth 100000
open Go.RowKit
theorem split_flds : ∀ (n : Nat) (l : Bs), l.length ≤ n → Lib.splitK [10] 0 (Lib.count l [10]) l = flds 10 l ∧ Lib.count l [10] + 1 = (flds 10 l).length
 | n, l, hn => by
  by_cases hi : Lib.indexByte l 10 < 0
  ·have e : Lib.index l [10] = -1 := by
    rw [Lib.index_one]
    have := Lib.indexByte_ge l 10
    omega
   rw [Lib.count_miss e, flds_one 10 l (idx_no hi)]
   exact ⟨rfl, rfl⟩
  ·obtain ⟨y, r, e, hy, hi2⟩ := idx_yes (Int.not_lt.1 hi)
   have e1 : Lib.index l [10] = (y.length : Nat) := by rw [Lib.index_one]; exact hi2
   have hc := Lib.count_hit (s := l) (sub := [10]) (i := y.length) (by simp) e1
   have hd : l.drop (y.length + [(10 : UInt8)].length) = r := by rw [e]; simp
   rw [hd] at hc
   cases n with
   | zero => rw [e] at hn; simp at hn
   | succ n =>
    have ih := split_flds n r (by rw [e] at hn; simp at hn; omega)
    have hf : flds 10 l = y :: flds 10 r := by rw [e, flds_cons 10 y r hy]
    rw [hc, hf, Nat.add_comm 1]
    refine ⟨?_, by simp only [List.length_cons]; omega⟩
    have hne : (Lib.index l [10] == -1) = false := by rw [e1]; simp
    rw [Lib.splitK, hne]
    simp only [e1, Int.toNat_natCast]
    rw [hd, ih.1]
    simp [e]
theorem splitB_flds (s : ByteArray) : (Lib.splitB ⟨#[10]⟩ 0 (Lib.countB s ⟨#[10]⟩) s) = (flds 10 (toL s)).map ofL ∧ Lib.countB s ⟨#[10]⟩ + 1 = (flds 10 (toL s)).length := by
 have h := split_flds _ (toL s) (Nat.le_refl _)
 have hc : Lib.countB s ⟨#[10]⟩ = Lib.count (toL s) [10] := rfl
 have hd := Lib.splitB_data ⟨#[10]⟩ 0 (Lib.countB s ⟨#[10]⟩) s
 rw [hc] at hd ⊢
 refine ⟨?_, h.2⟩
 have : (Lib.splitB ⟨#[10]⟩ 0 (Lib.count (toL s) [10]) s).map (fun x => toL x) = flds 10 (toL s) := hd.trans h.1
 rw [← this, List.map_map]
 exact ((List.map_congr_left fun x _ => ofL_toL x).trans (List.map_id _)).symm
def linesX : List AV → List MObj → Option (AV × List MObj)
 | [.val (.string s)], m => if s.size ≤ 4000000000 then some (.tuple [.row m.length 0 (lins (toL s)).length 0 (lins (toL s)).length, boolA (endB (toL s))], m ++ [.row 0 1 ((lins (toL s)).map strL) true 0]) else none
 | _, _ => none
section
variable {S : Nat → Nat → Prop}
theorem rowStr {w' : World} {H' : List Hd} {b n : Nat} {t : TypeId} {cells : Array Value} {L : List Bs} (hh : w'.heap[b]? = some (.cells cells t (0, 0))) (hn : n = L.length) (hs : n ≤ cells.size) (hg : ∀ (i : Nat) (x : Bs), L[i]? = some x → cells[i]? = some (.string (ofL x))) :
    ObjAt S w' H' (.row 0 1 (L.map strL) true 0) (.row b n 1 0 n true) := by
  refine ⟨rfl, rfl, rfl, by simp [hn], Nat.le_refl _, fun _ => ⟨cells, t, (0, 0), hh, ApOk.zero _ _, fun o ho => by simp, by omega, fun i x j y hx hy => ?_⟩, fun i x hx => ?_, fun h => by omega⟩
  · rw [List.getElem?_map, Option.map_eq_some_iff] at hx
    obtain ⟨z, hz, rfl⟩ := hx
    cases j with
    | zero =>
      simp [strL, AV.cells] at hy
      subst hy
      have := hg i z hz
      rw [show i * 1 + 0 = i by omega, Array.getD_eq_getD_getElem?, this]
      exact .val _ _
    | succ j => simp [strL, AV.cells] at hy
  · rw [List.getElem?_map, Option.map_eq_some_iff] at hx
    obtain ⟨z, hz, rfl⟩ := hx
    exact ⟨rfl, rfl⟩
end
theorem args1 {S : Nat → Nat → Prop} {w : World} {H : List Hd} {vs : Array Value} {x : AV} (hr : RepL S w H vs [x]) : ∃ u, vs = #[u] ∧ Rep S w H u x := by
 obtain ⟨h1, h2⟩ := hr
 match vs, h1 with
 | ⟨[u]⟩, _ => exact ⟨u, rfl, h2 0 x rfl⟩
theorem args2 {S : Nat → Nat → Prop} {w : World} {H : List Hd} {vs : Array Value} {x y : AV} (hr : RepL S w H vs [x, y]) : ∃ u v, vs = #[u, v] ∧ Rep S w H u x ∧ Rep S w H v y := by
 obtain ⟨h1, h2⟩ := hr
 match vs, h1 with
 | ⟨[u, v]⟩, _ => exact ⟨u, v, rfl, h2 0 x rfl, h2 1 y rfl⟩
theorem snocH {H : List Hd} {h : Hd} {m : List MObj} (hl : H.length = m.length) : (H ++ [h])[m.length]? = some h := by rw [← hl]; simp
theorem linesX_ok {vs : List AV} {m : List MObj} {r : AV} {m' : List MObj} (h : linesX vs m = some (r, m')) (hml : ∀ (S : Nat → Nat → Prop) (w : World) (H : List Hd), GR S w H → ∃ k : Int, w.cell? ⟨0, 0, none⟩ = some (.int .i64 k)) : CallOkM Tryz.prog 48 vs m r m' := by
  unfold linesX at h
  split at h
  · rename_i s
    split at h
    · rename_i hle
      injection h with h; injection h with h1 h2; subst h1 h2
      refine ⟨⟨_, Tryz.func48, by kernel_rfl, by kernel_rfl⟩, fun X o w H vs hm hf hn hX hG hr => ?_⟩
      obtain ⟨u, rfl, hu⟩ := args1 hr
      obtain rfl := rep_val hu
      obtain ⟨mx, hmx⟩ := hml _ _ _ hG
      have hsz : (toL s).length = s.size := rfl
      by_cases he : (toL s) = []
      · have hne : (s.toList == ([] : List UInt8)) = true := by rw [toList_data, he]; rfl
        refine (lines_nil s w hne).mono fun e w' ⟨q1, q2⟩ => ?_
        subst q1 q2
        have e1 : lins (toL s) = [] := by rw [he]; rfl
        have e2 : endB (toL s) = true := by rw [he]; rfl
        rw [e1, e2]
        refine ⟨_, H ++ [.row 0 0 1 0 0 true], rfl, ?_, ?_, hf, fun i h b hi hb => ?_, goes_new (fun k hk => rfl) (Nat.le_refl _) (fun b hb => by simp [Hd.blk] at hb)⟩
        · refine .tuple rfl fun i y hy => ?_
          match i, hy with
          | 0, hy =>
            simp at hy; subst hy
            exact .row _ 0 0 0 0 ⟨_, _, _, rfl⟩ (snocH hm.len) (.inr ⟨rfl, Nat.le_refl _⟩) fun _ _ => ⟨Nat.le_refl _, Nat.le_refl _, none, rfl, fun q => by omega, fun _ => rfl, fun _ _ => rfl⟩
          | 1, hy => simp at hy; subst hy; exact .val _ _
        · refine hm.new (fun k hk => rfl) (Nat.le_refl _) (fun b hb => by simp [Hd.blk] at hb) ?_
          exact ⟨rfl, rfl, rfl, rfl, Nat.le_refl _, fun q => by omega, fun i x hx => by simp at hx, fun q => by omega⟩
        · rcases getElem?_snoc hi with ⟨q1, q2⟩ | ⟨q1, q2⟩
          · exact hn i h b q1 hb
          · subst q2; simp [Hd.blk] at hb
      · have hne : (s.toList == ([] : List UInt8)) = false := by
          rw [toList_data]
          cases hq : toL s with
          | nil => exact absurd hq he
          | cons a l => rfl
        obtain ⟨f1, f2⟩ := splitB_flds s
        have hfl : flds 10 (toL s) = flO 10 (toL s) (toL s).length ++ [(toL s).drop (flF 10 (toL s) (toL s).length)] := rfl
        generalize hK : (flO 10 (toL s) (toL s).length).length = K at *
        have hlen : (flds 10 (toL s)).length = K + 1 := by rw [hfl, List.length_append, hK]; rfl
        have hz : ((flds 10 (toL s)).map ofL)[K]? = some (ofL ((toL s).drop (flF 10 (toL s) (toL s).length))) := by
          rw [List.getElem?_map, hfl, List.getElem?_append_right (by omega), hK]; simp
        have hO := flO_len 10 (toL s) (toL s).length
        refine (lines_any s mx w (by omega) hmx hne ((flds 10 (toL s)).map ofL) f1.symm _ K (by rw [List.length_map, hlen]) hz (by omega) (by omega)).mono fun e w' ⟨q1, q2, q3⟩ => ?_
        subst q1
        have hhp := (MapKept.heap_alloc w (.cells (((flds 10 (toL s)).map ofL).map Value.string).toArray 9)).1
        generalize hw' : w.alloc (.cells (((flds 10 (toL s)).map ofL).map Value.string).toArray 9) = w' at *
        have hext : Ext w w' := by rw [← hw']; exact ext_alloc w _
        have hsz' : w.heap.size ≤ w'.heap.size := by rw [← hw']; simp
        have hlt : w.heap.size < w'.heap.size := by rw [← hw']; simp
        have hFr : Fr (fun _ => False) o w' := by rw [← hw']; exact hf.alloc _
        have hdl := List.length_drop (l := toL s) (i := flF 10 (toL s) (toL s).length)
        have hFle := flF_le 10 (toL s) (toL s).length
        have cellsAt : ∀ (i : Nat) (x : Bs), (flds 10 (toL s))[i]? = some x → ((((flds 10 (toL s)).map ofL).map Value.string).toArray)[i]? = some (.string (ofL x)) := fun i x hx => by simp [hx]
        have csz : ((((flds 10 (toL s)).map ofL).map Value.string).toArray).size = K + 1 := by simp [hlen]
        have fin : ∀ (n : Nat) (t : Bool), n = (lins (toL s)).length → t = endB (toL s) → 0 < n → n ≤ K + 1 → (∀ (i : Nat) (x : Bs), (lins (toL s))[i]? = some x → (flds 10 (toL s))[i]? = some x) → e = .returned (.tuple #[.slice (some ⟨w.heap.size, 0, none⟩) n n, .bool t]) →
            ∃ v H', e = Ending.returned v ∧ Rep (Stab X H' w') w' H' v (.tuple [.row m.length 0 (lins (toL s)).length 0 (lins (toL s)).length, boolA (endB (toL s))]) ∧ MemAt X w' (m ++ [.row 0 1 ((lins (toL s)).map strL) true 0]) H' ∧ Fr (fun _ => False) o w' ∧ (∀ (i : Nat) (h : Hd) (b : Nat), H'[i]? = some h → h.blk = some b → o.heap.size ≤ b) ∧ Goes X w H w' H' := by
          intro n t hn1 ht h0 hnK hget hee
          subst hee
          have hblk : ∀ b, (Hd.row w.heap.size n 1 0 n true).blk = some b → b = w.heap.size := fun b hb => by
            simp only [Hd.blk] at hb; rw [if_pos h0] at hb; injection hb with hb; exact hb.symm
          refine ⟨_, H ++ [.row w.heap.size n 1 0 n true], rfl, ?_, ?_, hFr, fun i h b hi hb => ?_, goes_new hext hsz' (fun b hb => by rw [hblk b hb]; exact Nat.le_refl _)⟩
          · refine .tuple rfl fun i y hy => ?_
            match i, hy with
            | 0, hy =>
              simp at hy; subst hy
              rw [← hn1]
              exact .row _ 0 n 0 n ⟨_, _, _, rfl⟩ (snocH hm.len) (.inr ⟨rfl, Nat.le_refl _⟩) fun _ _ => ⟨by omega, Nat.le_refl _, some ⟨w.heap.size, 0, none⟩, by simp, fun _ => by simp, fun q => (by cases q), fun q => by omega⟩
            | 1, hy => simp at hy; subst hy; rw [ht]; exact .val _ _
          · refine hm.new hext hsz' (fun b hb => by rw [hblk b hb]; exact ⟨Nat.le_refl _, hlt⟩) ?_
            exact rowStr hhp hn1 (by rw [csz]; exact hnK) fun i x hx => cellsAt i x (hget i x hx)
          · rcases getElem?_snoc hi with ⟨q1, q2⟩ | ⟨q1, q2⟩
            · exact hn i h b q1 hb
            · subst q2; rw [hblk b hb]; exact hf.size
        by_cases hF : flF 10 (toL s) (toL s).length < (toL s).length
        · have e1 : lins (toL s) = flds 10 (toL s) := if_pos hF
          refine fin (K + 1) false (by rw [e1, hlen]) (by unfold endB; rw [decide_eq_false (by omega)]) (by omega) (Nat.le_refl _) (fun i x hx => by rw [← e1]; exact hx) (q3 ?_)
          rw [toList_data, toL_ofL]
          cases hq : (toL s).drop (flF 10 (toL s) (toL s).length) with
          | nil => rw [hq] at hdl; simp at hdl; omega
          | cons a l => rfl
        · have e1 : lins (toL s) = flO 10 (toL s) (toL s).length := if_neg hF
          have hnil : (toL s).drop (flF 10 (toL s) (toL s).length) = [] := List.eq_nil_of_length_eq_zero (by omega)
          have hK0 : 0 < K := by
            rcases Nat.eq_zero_or_pos K with h0 | h0
            · exfalso
              have hfl0 := flO_lens 10 (toL s) (toL s).length (Nat.le_refl _)
              have : flO 10 (toL s) (toL s).length = [] := List.eq_nil_of_length_eq_zero (by omega)
              rw [this] at hfl0
              simp [lensB] at hfl0
              exact he (List.eq_nil_of_length_eq_zero (by omega))
            · exact h0
          refine fin K true (by rw [e1, hK]) (by unfold endB; rw [decide_eq_true hF]) hK0 (by omega) (fun i x hx => ?_) (q2 (by rw [toList_data, toL_ofL, hnil]; rfl))
          rw [e1] at hx
          rw [hfl, List.getElem?_append_left (List.getElem?_eq_some_iff.1 hx).1]; exact hx
    · cases h
  · cases h
end Go.Proofs.YtfbpbkcplpkndaaGreatDoor
end
section
namespace Go.Proofs.YtfbpbkcplpkndaaGreatDoor
set_option linter.unusedVariables false
set_option linter.unusedSimpArgs false
open Go.RowKit Go.MapKept Go.ChangeMaps
def Sl (w : World) (A : Option Addr) (n : Nat) (f : Nat → Value) : Prop :=
 0 < n → ∃ b off, A = some ⟨b, off, none⟩ ∧ b < w.heap.size ∧ ∀ i, i < n → w.cell? ⟨b, off + i, none⟩ = some (f i)
section
variable {w w' : World} {A : Option Addr} {n : Nat} {f : Nat → Value} {L : Nat → Prop}
theorem Sl.fr (h : Sl w A n f) (hf : Fr (fun _ => False) w w') : Sl w' A n f := by
 intro hn
 obtain ⟨b, off, e, hlt, hc⟩ := h hn
 exact ⟨b, off, e, Nat.lt_of_lt_of_le hlt hf.size, fun i hi => (World.cell?_of_block (hf.block b hlt fun q => q)).trans (hc i hi)⟩
theorem Sl.congr {g : Nat → Value} (h : Sl w A n f) (hg : ∀ i, i < n → f i = g i) : Sl w A n g := by
 intro hn
 obtain ⟨b, off, e, hlt, hc⟩ := h hn
 exact ⟨b, off, e, hlt, fun i hi => by rw [hc i hi, hg i hi]⟩
theorem Sl.heq (h : Sl w A n f) (hw : w'.heap = w.heap) : Sl w' A n f := by
 intro hn
 obtain ⟨b, off, e, hlt, hc⟩ := h hn
 exact ⟨b, off, e, by rw [hw]; exact hlt, fun i hi => (World.cell?_of_block (by rw [hw])).trans (hc i hi)⟩
end
def RowAt (w : World) (g : Nat) (e : TypeId) (n : Nat) (f : Nat → Value) : Prop :=
 ∃ cur : Array Value, w.heap[g]? = some (.cells cur e (0, 0)) ∧ cur.size = n ∧ ∀ i, i < n → cur[i]? = some (f i)
section
variable {w w' : World} {g n : Nat} {e : TypeId} {f : Nat → Value} {L : Nat → Prop}
theorem RowAt.lt (h : RowAt w g e n f) : g < w.heap.size := by obtain ⟨cur, hh, _⟩ := h; exact lt_of_heap hh
theorem RowAt.cell (h : RowAt w g e n f) {i : Nat} (hi : i < n) : w.cell? ⟨g, i, none⟩ = some (f i) := by
 obtain ⟨cur, hh, hs, hc⟩ := h
 rw [cell_of_heap hh]; exact hc i hi
theorem RowAt.free (h : RowAt w g e n f) (i : Nat) : w.frozen? ⟨g, i, none⟩ = false := by obtain ⟨cur, hh, _⟩ := h; exact free_of_heap hh i
theorem RowAt.keep (h : RowAt w g e n f) (hf : w'.heap[g]? = w.heap[g]?) : RowAt w' g e n f := by obtain ⟨cur, hh, r⟩ := h; exact ⟨cur, hf.trans hh, r⟩
theorem RowAt.fr (h : RowAt w g e n f) (hf : Fr L w w') (hL : ¬ L g) : RowAt w' g e n f := h.keep (hf.block g h.lt hL)
theorem RowAt.set (h : RowAt w g e n f) (i : Nat) (v : Value) : RowAt (w.setCell ⟨g, i, none⟩ v) g e n (fun j => if j = i then v else f j) := by
 obtain ⟨cur, hh, hs, hc⟩ := h
 refine ⟨cur.setIfInBounds i v, heap_setCell_same _ _ _ _ hh, by simpa using hs, fun j hj => ?_⟩
 by_cases hji : j = i
 ·subst hji; simp [hs, hj]
 ·simp only [hji, if_false]; rw [Array.getElem?_setIfInBounds_ne (Ne.symm hji)]; exact hc j hj
theorem RowAt.congr {f' : Nat → Value} (h : RowAt w g e n f) (hg : ∀ i, i < n → f i = f' i) : RowAt w g e n f' := by
 obtain ⟨cur, hh, hs, hc⟩ := h
 exact ⟨cur, hh, hs, fun i hi => by rw [hc i hi, hg i hi]⟩
theorem RowAt.sl (h : RowAt w g e n f) : Sl w (some ⟨g, 0, none⟩) n f := fun _ => ⟨g, 0, rfl, h.lt, fun i hi => by rw [Nat.zero_add]; exact h.cell hi⟩
end
theorem run_make_row {P : Program} (w : World) {t e : TypeId} {z : Value} {bytes : Nat} (ht : P.underlying t = some (.slice e)) (hinfo : (P.info? e).map (fun i => (i.zero, i.size, i.bytes)) = some (some z, 1, bytes)) (hz : z.cells = #[z])
    (kl kc : IntKind) (n : Nat) (hb : bytes * n ≤ 281474976710656) (hm : n ≤ maxLen) :
    ∃ w', (Instr.makeSlice t (.int kl (n : Int)) (.int kc (n : Int))).run P w = .ok (.slice (some ⟨w.heap.size, 0, none⟩) n n) w' ∧ RowAt w' w.heap.size e n (fun _ => z) ∧ Fr (fun _ => False) w w' := by
  obtain ⟨i0, hi, hz0, hz1, hz2⟩ := info_parts hinfo
  obtain ⟨w', hrun, hown, hg⟩ := run_make_full (P := P) w w.heap.size t e i0 z 1 ht hi hz0 hz1 kl kc n (by rw [hz2]; exact hb) hm (Nat.le_refl _)
  refine ⟨w', hrun, ?_, (Fr.of_grown hg).mono fun _ _ q => by cases q⟩
  rcases hown.2 with ⟨h, _⟩ | ⟨g, cap, cur, hv, _, hh, hle, _, hsz, htake⟩
  · cases h
  · injection hv with hv1 hv2 hv3
    injection hv1 with hv1
    injection hv1 with hv1
    subst hv1
    have hcap : cap = n := by omega
    subst hcap
    refine ⟨cur, hh, by omega, fun i hi => ?_⟩
    have h1 := congrArg (fun l : List Value => l[i]?) htake
    simp only [Nat.mul_one, List.getElem?_take, hi, if_true] at h1
    have h2 : (madeCells z.cells cap).toList[i]? = some z := by
      rw [hz]
      simp [madeCells, hi, Nat.mod_one]
    simpa using h1.trans h2
theorem run_append_row {P : Program} {w : World} {base : Nat} {t ty e : TypeId} {z : Value} {size bytes : Nat} (ht : P.underlying t = some (.slice e)) (hinfo : (P.info? e).map (fun i => (i.zero, i.size, i.bytes)) = some (some z, size, bytes)) (hzs : z.cells.size = size) (hsz : 0 < size)
    {v : Value} {n : Nat} {xs : List Value} (hown : w.ownsRow base e size v n xs) {A : Option Addr} {m c : Nat} {news : List Value} (hl : news.length = m * size)
    (hA : m = 0 ∨ ∃ b off, A = some ⟨b, off, none⟩ ∧ ∀ j u, news[j]? = some u → w.cell? ⟨b, off + j, none⟩ = some u) (hnil : A = none → m = 0 ∧ c = 0) (h1 : ∀ u ∈ news, u.oneCell' = true)
    (h63 : n + m ≤ maxLen) (hbytes : (n + m) * bytes ≤ 140737488355328) (hbase : base ≤ w.heap.size) :
    ∃ v' w', (Builtin.append_ #[t, t] ty #[v, .slice A m c]).run P w = .ok v' w' ∧ w'.ownsRow base e size v' (n + m) (xs ++ news) ∧ w.grownBy w' v.ownBlock := by
  obtain ⟨i0, hi, hz0, hz1, hz2⟩ := info_parts hinfo
  rcases A with _ | ad
  · obtain ⟨rfl, rfl⟩ := hnil rfl
    have hn : news = [] := List.eq_nil_of_length_eq_zero (by simpa using hl)
    subst hn
    refine ⟨v, w, ?_, by simpa using hown, World.grownBy.refl w _⟩
    rcases hown.2 with ⟨rfl, rfl⟩ | ⟨g, cap, cur, rfl, _, _, hnc, _⟩
    · simp [Builtin.append_, run_underlying ht, sizeOf, typeInfo, hi, Builtin.lenOf, Builtin.firstCells]
    · simp [Builtin.append_, run_underlying ht, sizeOf, typeInfo, hi, Builtin.lenOf, Builtin.firstCells, hnc, storeCells]
  · have hcells : ∀ j u, news[j]? = some u → w.cell? (ad.add j) = some u := by
      intro j u hu
      rcases hA with h0 | ⟨b, off, e', hc⟩
      · subst h0
        have : news = [] := List.eq_nil_of_length_eq_zero (by simpa using hl)
        subst this; simp at hu
      · injection e' with e'
        subst e'
        have := hc j u hu
        unfold Addr.add
        split
        · rename_i hj; subst hj; simpa using this
        · exact this
    obtain ⟨v', w', h1', h2', h3', _⟩ := run_append_own w base t ty e i0 z size bytes ht hi hz0 hz1 hz2 hzs hsz v n xs hown ad m c news hl hcells h1 h63 hbytes hbase
    exact ⟨v', w', h1', h2', h3'⟩
end Go.Proofs.YtfbpbkcplpkndaaGreatDoor
end
section
namespace Go.Proofs.YtfbpbkcplpkndaaGreatDoor
set_option linter.unusedVariables false
set_option linter.unusedSimpArgs false
open Go.RowKit Go.MapKept Go.ChangeMaps
abbrev Num := List (ByteArray × Nat)
def addK (K : Num) (s : ByteArray) : Num := match mget K s with | some _ => K | none => K ++ [(s, K.length)]
def kk (K : Num) (s : Nat → ByteArray) : Nat → Num
 | 0 => K
 | n + 1 => addK (kk K s n) (s n)
def num (K : Num) (s : ByteArray) : Nat := (mget K s).getD 0
def lcsNumV (n : Nat) : Value := .int .i64 n
def numMap (K : Num) : List (ByteArray × Value) := mapV lcsNumV K
theorem num_get (K : Num) (s : ByteArray) : mget (numMap K) s = (mget K s).map lcsNumV := mget_mapV _ _ _
theorem numMap_length (K : Num) : (numMap K).length = K.length := mapV_length _ _
theorem mget_append {α : Type} (M L : List (ByteArray × α)) (s : ByteArray) : mget (M ++ L) s = match mget M s with | some v => some v | none => mget L s := by
 induction M with
 | nil => rfl
 | cons p r ih =>
  obtain ⟨k, x⟩ := p
  by_cases hk : k = s
  ·simp [mget, hk]
  ·simp only [List.cons_append, mget, if_neg hk, ih]
theorem num_add (K : Num) (s : ByteArray) (h : mget K s = none) : mput (numMap K) s (.int .i64 (K.length : Int)) = numMap (addK K s) := by
 rw [mput_new _ (by rw [num_get, h]; rfl), addK, h]
 simp [numMap, mapV, lcsNumV]
theorem addK_mem (K : Num) (s : ByteArray) : (mget (addK K s) s).isSome = true := by
 unfold addK
 cases h : mget K s with
 | some v => simp [h]
 | none => simp [mget_append, h, mget]
theorem addK_get {K : Num} {s t : ByteArray} {v : Nat} (h : mget K t = some v) : mget (addK K s) t = some v := by
 unfold addK
 cases hs : mget K s with
 | some _ => exact h
 | none => simp [mget_append, h]
theorem addK_new {K : Num} {s : ByteArray} (h : mget K s = none) : mget (addK K s) s = some K.length := by simp [addK, h, mget_append, mget]
theorem kk_get {K : Num} {s : Nat → ByteArray} {t : ByteArray} {v : Nat} (h : mget K t = some v) : ∀ n, mget (kk K s n) t = some v
 | 0 => h
 | n + 1 => addK_get (kk_get h n)
theorem kk_mem (K : Num) (s : Nat → ByteArray) : ∀ (n i : Nat), i < n → (mget (kk K s n) (s i)).isSome = true
 | n + 1, i, h => by
  by_cases hi : i = n
  ·subst hi; exact addK_mem _ _
  ·obtain ⟨v, hv⟩ := Option.isSome_iff_exists.1 (kk_mem K s n i (by omega))
   rw [kk, addK_get hv]; rfl
theorem kk_step (K : Num) (s : Nat → ByteArray) {n i : Nat} (h : i < n) : num (kk K s (n + 1)) (s i) = num (kk K s n) (s i) := by
 obtain ⟨v, hv⟩ := Option.isSome_iff_exists.1 (kk_mem K s n i h)
 rw [num, num, kk, addK_get hv, hv]
theorem addK_length (K : Num) (s : ByteArray) : (addK K s).length ≤ K.length + 1 := by unfold addK; split <;> simp
theorem kk_length (K : Num) (s : Nat → ByteArray) : ∀ n, (kk K s n).length ≤ K.length + n
 | 0 => Nat.le_refl _
 | n + 1 => by have := kk_length K s n; have := addK_length (kk K s n) (s n); simp only [kk]; omega
def Numbered (K : Num) : Prop := K.map (·.2) = List.range K.length
theorem addK_numbered {K : Num} (h : Numbered K) (s : ByteArray) : Numbered (addK K s) := by
 unfold addK Numbered at *
 split
 ·exact h
 ·simp [List.range_succ, h]
theorem kk_numbered {K : Num} (h : Numbered K) (s : Nat → ByteArray) : ∀ n, Numbered (kk K s n)
 | 0 => h
 | n + 1 => addK_numbered (kk_numbered h s n) _
theorem num_inj {K : Num} (h : Numbered K) {s t : ByteArray} (hs : (mget K s).isSome = true) (ht : (mget K t).isSome = true) (e : num K s = num K t) : s = t := by
 obtain ⟨v, hv⟩ := Option.isSome_iff_exists.1 hs
 obtain ⟨u, hu⟩ := Option.isSome_iff_exists.1 ht
 rw [num, num, hv, hu] at e
 simp only [Option.getD] at e
 subst e
 have h1 := mget_mem hv
 have h2 := mget_mem hu
 have hn : (K.map (·.2)).Nodup := by rw [h]; exact List.nodup_range
 clear hv hu hs ht h
 induction K with
 | nil => simp at h1
 | cons p r ih =>
  simp only [List.map_cons, List.nodup_cons] at hn
  rcases List.mem_cons.1 h1 with e1 | e1 <;> rcases List.mem_cons.1 h2 with e2 | e2
  ·rw [← e1] at e2; injection e2 with e2; exact e2.symm
  ·exact absurd (List.mem_map.2 ⟨_, e2, by rw [← e1]⟩) hn.1
  ·exact absurd (List.mem_map.2 ⟨_, e1, by rw [← e2]⟩) hn.1
  ·exact ih e1 e2 hn.2
theorem zeroInt (w : World) : (zeroValue 3).run Tryz.prog w = .ok (.int .i64 0) w := by kernel_rfl
theorem info_int : (Tryz.prog.info? 3).map (fun i => (i.zero, i.size, i.bytes)) = some (some (.int .i64 0), 1, 8) := by kernel_rfl
theorem info_i32 : (Tryz.prog.info? 21).map (fun i => (i.zero, i.size, i.bytes)) = some (some (.int .i32 0), 1, 4) := by kernel_rfl
def NumPost (w : World) (mb kb : Nat) (n : Nat) (K' : Num) (s : Nat → ByteArray) (e : Ending) (w' : World) : Prop :=
 ∃ g, e = .returned (.slice (some ⟨g, 0, none⟩) n n) ∧ RowAt w' g 3 n (fun i => .int .i64 (num K' (s i))) ∧ MapAt w' mb (numMap K') ∧ Fr (· = mb) w w' ∧ w.heap.size ≤ g
set_option maxHeartbeats 800000 in
set_option maxRecDepth 100000 in
theorem number_any {w : World} {A : Option Addr} {n c kb mb : Nat} {s : Nat → ByteArray} {K : Num} (hn : n ≤ 1000) (hKl : K.length ≤ 1000) (hA : Sl w A n (fun i => .string (s i))) (hk : w.heap[kb]? = some (.cells #[.map (some mb)] 113 (0, 0))) (hM : MapAt w mb (numMap K)) :
    Calls Tryz.prog 87 #[.slice A n c, .pointer (some ⟨kb, 0, none⟩)] w (NumPost w mb kb n (kk K s n) s) := by
  obtain ⟨w0, u0, hR0, hf0⟩ := run_make_row (P := Tryz.prog) w (z := .int .i64 0) Tryz.underlying89 info_int rfl .i64 .i64 n (by omega) (by unfold maxLen; omega)
  have hkm : kb ≠ mb := by
    rintro rfl
    obtain ⟨es, c, h1, _⟩ := hM
    rw [hk] at h1; cases h1
  have HA := Lib.hid hA
  have HK0 := Lib.hid (hf0.keep hk (fun q => q))
  have HM0 := Lib.hid (hM.fr hf0 (fun q => q))
  have HR0 := Lib.hid hR0
  have HF0 := Lib.hid hf0
  have hkl := lt_of_heap hk
  have hml := hM.lt
  clear hA hk hM hR0 hf0
  go_enter Tryz.func87, Tryz.ntmps87
  go_wp2_with fail
  clear u0
  go_loopw [14] (fun i wr => ∃ k : Nat, k ≤ n ∧ i = .int .i64 k ∧ RowAt wr w.heap.size 3 n (fun q => if q < k then .int .i64 (num (kk K s k) (s q)) else .int .i64 0) ∧ MapAt wr mb (numMap (kk K s k)) ∧ Fr (· = mb) w wr)
    (fun i _ => n - (intOf i).toNat)
  case atStart => exact ⟨0, Nat.zero_le _, rfl, HR0.out.congr (by simp), HM0.out, HF0.out.mono fun _ _ q => q.elim⟩
  case round =>
    obtain ⟨k, hk, rfl, hR, hM, hF⟩ := hrel
    by_cases hlt : k < n
    · obtain ⟨b, off, rfl, hb, hcs⟩ := HA.out (by omega)
      have a0 : wr.cell? ⟨b, off + k, none⟩ = some (.string (s k)) := by
        have hbm : b ≠ mb := by
          rintro rfl
          have h1 := hcs 0 (by omega)
          obtain ⟨es, c, h2, _⟩ := HM0.out.fr (w' := w0) (Fr.refl _ _) (fun q => q) (L := fun _ => False)
          have h3 := (HF0.out.block b hb (fun q => q))
          rw [h2] at h3
          simp [World.cell?, ← h3] at h1
        exact (World.cell?_of_block (hF.block b hb hbm)).trans (hcs k hlt)
      have a1 : wr.cell? ⟨kb, 0, none⟩ = some (.map (some mb)) := by
        rw [cell_of_heap ((hF.block kb hkl hkm).trans (((HF0.out.block kb hkl fun q => q).symm.trans HK0.out)))]; rfl
      have l1 := run_lookup_m Tryz.underlying113 Tryz.underlying9 (zeroInt wr) hM (s k) true
      rw [lookRes, num_get] at l1
      clear hcs
      have hlen := kk_length K s k
      have hstep : ∀ (wf : World) (x : Int) , RowAt wf w.heap.size 3 n (fun q => if q < k then .int .i64 (num (kk K s k) (s q)) else .int .i64 0) → x = (num (kk K s (k + 1)) (s k) : Nat) →
          RowAt (wf.setCell ⟨w.heap.size, k, none⟩ (.int .i64 x)) w.heap.size 3 n (fun q => if q < k + 1 then .int .i64 (num (kk K s (k + 1)) (s q)) else .int .i64 0) := by
        intro wf x h hx
        refine (h.set k (.int .i64 x)).congr fun i hi => ?_
        by_cases hik : i = k
        · subst hik; simp [hx]
        · simp only [hik, if_false]
          by_cases hi2 : i < k
          · rw [if_pos hi2, if_pos (by omega), kk_step K s hi2]
          · rw [if_neg hi2, if_neg (by omega)]
      have HST := Lib.hid hstep
      have HF := Lib.hid hF
      have hwr : w.heap.size < wr.heap.size := hR.lt
      clear hstep hF
      cases hin : mget (kk K s k) (s k) with
      | some v =>
        rw [hin] at l1
        simp only [Option.map, Option.getD, Option.isSome, lcsNumV, if_true] at l1
        have HKE := Lib.hid (show kk K s (k + 1) = kk K s k from by rw [kk, addK, hin])
        have HV := Lib.hid (show num (kk K s k) (s k) = v from by rw [num, hin]; rfl)
        have c0 := hR.cell hlt
        have c1 := hR.free k
        simp only [Nat.lt_irrefl, if_false] at c0
        have HR := Lib.hid hR
        have HM := Lib.hid hM
        clear hin hR hM
        go_wp2
        go_roundw
        case rel => exact ⟨k + 1, by omega, by go_num, HST.out _ _ HR.out (by rw [HKE.out, HV.out]), by rw [HKE.out]; exact HM.out.setCell _ _ (by simp; omega), HF.out.setCell _ _ (.inr (Nat.le_refl _))⟩
        case measure => simp [intOf]; omega
      | none =>
        rw [hin] at l1
        simp only [Option.map, Option.getD, Option.isSome, if_true] at l1
        have l2 := run_len_m (P := Tryz.prog) Tryz.underlying113 hM 3
        rw [numMap_length] at l2
        obtain ⟨w2, u2, hM2, f2, hs2⟩ := run_mapUpdate_f Tryz.underlying113 Tryz.underlying9 hM (s k) (.int .i64 (kk K s k).length)
        rw [num_add _ _ hin] at hM2
        have hR2 := hR.fr f2 (show ¬ w.heap.size = mb from by omega)
        have c0 := hR2.cell hlt
        have c1 := hR2.free k
        simp only [Nat.lt_irrefl, if_false] at c0
        have HR := Lib.hid hR2
        have HM := Lib.hid hM2
        have HF2 := Lib.hid (HF.out.trans f2 fun _ q => .inl q)
        have HNE := Lib.hid (show num (addK (kk K s k) (s k)) (s k) = (kk K s k).length from by rw [num, addK_new hin]; rfl)
        clear hin hR hM hR2 hM2 f2
        go_wp2
        go_roundw
        case rel => exact ⟨k + 1, by omega, by go_num, HST.out _ _ HR.out (by rw [kk, HNE.out]), HM.out.setCell _ _ (by simp; omega), HF2.out.setCell _ _ (.inr (Nat.le_refl _))⟩
        case measure => simp [intOf]; omega
    · have hke : k = n := by omega
      subst hke
      go_wp2
      go_ret
      exact ⟨_, rfl, hR.congr (fun i hi => by rw [if_pos hi]), hM, hF, Nat.le_refl _⟩
end Go.Proofs.YtfbpbkcplpkndaaGreatDoor
end
section
namespace Go.Proofs.YtfbpbkcplpkndaaGreatDoor
set_option linter.unusedVariables false
set_option linter.unusedSimpArgs false
open Go.RowKit Go.MapKept Go.ChangeMaps
def numsOf (K : Num) (s : Nat → ByteArray) (n : Nat) : List Nat := (List.range n).map fun i => num K (s i)
def intV (X : List Nat) (i : Nat) : Value := .int .i64 ((X.getD i 0 : Nat) : Int)
theorem numsOf_length (K : Num) (s : Nat → ByteArray) (n : Nat) : (numsOf K s n).length = n := by simp [numsOf]
theorem numsOf_get (K : Num) (s : Nat → ByteArray) {n i : Nat} (h : i < n) : intV (numsOf K s n) i = .int .i64 (num K (s i)) := by
 simp [intV, numsOf, List.getD, h]
def NumsPost (w : World) (n m : Nat) (s t : Nat → ByteArray) (e : Ending) (w' : World) : Prop :=
 ∃ (g h : Nat) (K : Num), e = .returned (.tuple #[.slice (some ⟨g, 0, none⟩) n n, .slice (some ⟨h, 0, none⟩) m m]) ∧ Sl w' (some ⟨g, 0, none⟩) n (intV (numsOf K s n)) ∧ Sl w' (some ⟨h, 0, none⟩) m (intV (numsOf K t m)) ∧
  Fr (fun _ => False) w w' ∧ w.heap.size ≤ g ∧ w.heap.size ≤ h ∧ Numbered K ∧ (∀ i, i < n → (mget K (s i)).isSome = true) ∧ (∀ i, i < m → (mget K (t i)).isSome = true)
set_option maxHeartbeats 400000 in
set_option maxRecDepth 100000 in
theorem numbers_any {w : World} {A B : Option Addr} {n m c d : Nat} {s t : Nat → ByteArray} (hn : n ≤ 500) (hm : m ≤ 500) (hA : Sl w A n (fun i => .string (s i))) (hB : Sl w B m (fun i => .string (t i))) :
    Calls Tryz.prog 59 #[.slice A n c, .slice B m d] w (NumsPost w n m s t) := by
  have hmm := fun w => @run_makeMap Tryz.prog 113 w
  have hmf : ∀ (fn : Fn) (first cap : Array Value) (w : World), (Instr.makeFunc fn first cap).run Tryz.prog w = .ok (.func fn first cap) w := fun _ _ _ _ => rfl
  have h0 : ∀ x, Fr (fun _ => False) w ((w.alloc (.map #[] 0)).alloc x) := fun x => ((Fr.refl _ _).alloc _).alloc x
  have HA := Lib.hid hA
  have HB := Lib.hid hB
  clear hA hB
  go_enter Tryz.func59, Tryz.ntmps59
  go_wp2_with fail
  have hw0 : (w.alloc (.map #[] 0)).heap.size = w.heap.size + 1 := by simp
  have hk0 := (MapKept.heap_alloc (w.alloc (.map #[] 0)) (.cells #[.map (some w.heap.size)] 113)).1
  rw [hw0] at hk0
  have hm0 := (MapAt.new w).alloc (.cells #[.map (some w.heap.size)] 113)
  refine (number_any (K := []) (by omega) (by simp) (HA.out.fr (h0 _)) hk0 hm0).mono ?_
  rintro e w1 ⟨g, rfl, hR1, hM1, hF1, hg1⟩
  have hk1 := hF1.keep hk0 (by show ¬ w.heap.size + 1 = w.heap.size; omega)
  have hF01 : Fr (fun _ => False) w w1 := ((h0 _).trans hF1 fun k hk => .inr (by have : k = w.heap.size := hk; omega))
  have HR1 := Lib.hid hR1
  have HF01 := Lib.hid hF01
  have HN := Lib.hid (number_any (c := d) (by omega : m ≤ 1000) (by have := kk_length [] s n; simp at this; omega) (HB.out.fr hF01) hk1 hM1)
  have hg1' : w.heap.size + 2 ≤ g := by simpa using hg1
  clear hk0 hm0 hR1 hM1 hF1 hg1 hk1 hF01 h0
  go_wp2_with fail
  refine HN.out.mono ?_
  rintro e w2 ⟨h, rfl, hR2, hM2, hF2, hg2⟩
  have HR2 := Lib.hid hR2
  have HF2 := Lib.hid hF2
  clear hR2 hM2 hF2
  go_wp2
  go_ret2
  have hK1 : Numbered (kk [] s n) := kk_numbered (by simp [Numbered]) s n
  have hget : ∀ i, i < n → ∃ v, mget (kk [] s n) (s i) = some v := fun i hi => Option.isSome_iff_exists.1 (kk_mem [] s n i hi)
  refine ⟨g, h, kk (kk [] s n) t m, rfl, ?_, ?_, HF01.out.trans HF2.out fun k hk => .inr (by have : k = w.heap.size := hk; omega), by omega, by have := HF01.out.size; omega, kk_numbered hK1 t m, fun i hi => ?_, fun i hi => kk_mem _ t m i hi⟩
  · refine ((HR1.out.fr HF2.out (by show ¬ g = w.heap.size; omega)).congr fun i hi => ?_).sl
    obtain ⟨v, hv⟩ := hget i hi
    rw [numsOf_get _ _ hi, num, num, hv, kk_get hv]
  · refine (HR2.out.congr fun i hi => ?_).sl
    rw [numsOf_get _ _ hi]
  · obtain ⟨v, hv⟩ := hget i hi
    rw [kk_get hv]; rfl
def RowPost (w : World) (X Y : List Nat) (i : Nat) (e : Ending) (w' : World) : Prop :=
 ∃ g, e = .returned (.slice (some ⟨g, 0, none⟩) (Y.length + 1) (Y.length + 1)) ∧ RowAt w' g 21 (Y.length + 1) (fun j => .int .i32 (dd X Y i j : Nat)) ∧ Fr (fun _ => False) w w' ∧ w.heap.size ≤ g
set_option maxHeartbeats 800000 in
set_option maxRecDepth 100000 in
theorem row_any {w : World} {A B C : Option Addr} {ca cb cn cc : Nat} {X Y : List Nat} {i : Nat} (hX : X.length ≤ 500) (hY : Y.length ≤ 500) (hi : i ≤ X.length) (hA : Sl w A X.length (intV X)) (hB : Sl w B Y.length (intV Y))
    (hC : i < X.length → cn = Y.length + 1 ∧ Sl w C cn (fun j => .int .i32 (dd X Y (i + 1) j : Nat))) :
    Calls Tryz.prog 60 #[.slice A X.length ca, .slice B Y.length cb, .int .i64 i, .slice C cn cc] w (RowPost w X Y i) := by
  obtain ⟨w0, u0, hR0, hf0⟩ := run_make_row (P := Tryz.prog) w (z := .int .i32 0) Tryz.underlying92 info_i32 rfl .i64 .i64 (Y.length + 1) (by omega) (by unfold maxLen; omega)
  have HA := Lib.hid hA
  have HB := Lib.hid hB
  have HC := Lib.hid hC
  have HR0 := Lib.hid hR0
  have HF0 := Lib.hid hf0
  have HDD := Lib.hid (fun j => dd_le X Y i j)
  have HDD1 := Lib.hid (fun j => dd_le X Y (i + 1) j)
  clear hA hB hC hR0 hf0
  have hcast : (((Y.length + 1 : Nat)) : Int) = (Y.length : Int) + 1 := by omega
  rw [hcast] at u0
  go_enter Tryz.func60, Tryz.ntmps60
  go_wp2_with fail
  clear u0 hcast
  go_loopw [10] (fun v wr => ∃ k : Nat, k ≤ Y.length + 1 ∧ v = .int .i64 ((k : Int) - 1) ∧ RowAt wr w.heap.size 21 (Y.length + 1) (fun q => if k ≤ q then .int .i32 (dd X Y i q : Nat) else .int .i32 0) ∧ Fr (fun _ => False) w wr)
    (fun v _ => (intOf v + 1).toNat)
  case atStart => exact ⟨Y.length + 1, Nat.le_refl _, by go_num, HR0.out.congr (fun q hq => by rw [if_neg (by omega)]), HF0.out⟩
  case round =>
    obtain ⟨k, hk, hv, hR, hF⟩ := hrel
    by_cases hk0 : k = 0
    · subst hk0
      rw [show ((0 : Nat) : Int) - 1 = -1 from rfl] at hv
      subst hv
      go_wp2
      go_ret
      exact ⟨_, rfl, hR.congr (fun q hq => by rw [if_pos (Nat.zero_le _)]), hF, Nat.le_refl _⟩
    · obtain ⟨j, rfl⟩ : ∃ j, k = j + 1 := ⟨k - 1, by omega⟩
      rw [show ((j + 1 : Nat) : Int) - 1 = (j : Int) from by omega] at hv
      subst hv
      have hj : j < Y.length + 1 := by omega
      have c0 := hR.cell hj
      have c1 := hR.free j
      have hw0 : w.heap.size < wr.heap.size := hR.lt
      have hstep : ∀ (wf : World) (x : Int), RowAt wf w.heap.size 21 (Y.length + 1) (fun q => if j + 1 ≤ q then .int .i32 (dd X Y i q : Nat) else .int .i32 0) → x = (dd X Y i j : Nat) →
          RowAt (wf.setCell ⟨w.heap.size, j, none⟩ (.int .i32 x)) w.heap.size 21 (Y.length + 1) (fun q => if j ≤ q then .int .i32 (dd X Y i q : Nat) else .int .i32 0) := by
        intro wf x h hx
        refine (h.set j (.int .i32 x)).congr fun q hq => ?_
        by_cases hqj : q = j
        · subst hqj; simp [hx]
        · simp only [hqj, if_false]
          by_cases h2 : j + 1 ≤ q
          · rw [if_pos h2, if_pos (by omega)]
          · rw [if_neg h2, if_neg (by omega)]
      have HST := Lib.hid hstep
      have HF := Lib.hid hF
      clear hstep hF hk0
      by_cases hin : i = X.length
      · have e1 : ((i : Int) == (X.length : Int)) = true := by rw [beq_iff_eq]; omega
        have HE := Lib.hid (dd_end X Y (Nat.le_of_eq hin.symm) j)
        have HR := Lib.hid hR
        clear hR hin
        go_wp2
        go_roundw
        case rel => exact ⟨j, by omega, rfl, HST.out _ _ HR.out (by rw [HE.out]; omega), HF.out.setCell _ _ (.inr (Nat.le_refl _))⟩
        case measure => simp [intOf] <;> omega
      · have hilt : i < X.length := by omega
        have e1 : ((i : Int) == (X.length : Int)) = false := by simp; omega
        obtain ⟨rfl, hC⟩ := HC.out hilt
        obtain ⟨b, off, rfl, hb, hcs⟩ := (hC.fr HF.out) (by omega)
        have d0 := hcs j (by omega)
        have HCS := Lib.hid hcs
        clear hcs hC hin
        have dl := HDD1.out j
        have dl2 := HDD1.out (j + 1)
        have dl3 := HDD.out (j + 1)
        by_cases hjn : j = Y.length
        · have e2 : ((j : Int) == (Y.length : Int)) = true := by rw [beq_iff_eq]; omega
          have HE := Lib.hid (show (dd X Y i j : Int) = (dd X Y (i + 1) j : Int) + 1 from by rw [dd_right X Y i (Nat.le_of_eq hjn.symm), dd_right X Y (i + 1) (Nat.le_of_eq hjn.symm)]; omega)
          have HR := Lib.hid hR
          clear hR hjn dl2 dl3
          go_wp2
          go_roundw
          case rel => exact ⟨j, by omega, rfl, HST.out _ _ HR.out (by rw [HE.out]), HF.out.setCell _ _ (.inr (Nat.le_refl _))⟩
          case measure => simp [intOf] <;> omega
        · have hjlt : j < Y.length := by omega
          have e2 : ((j : Int) == (Y.length : Int)) = false := by simp; omega
          obtain ⟨ba, offa, rfl, hba, hca⟩ := (HA.out.fr HF.out) (by omega)
          obtain ⟨bb, offb, rfl, hbb, hcb⟩ := (HB.out.fr HF.out) (by omega)
          have a0 := hca i hilt
          have b0 := hcb j hjlt
          have HX : X.getD i 0 = X[i] := by simp [List.getD, hilt]
          have HY : Y.getD j 0 = Y[j] := by simp [List.getD, hjlt]
          simp only [intV, HX, HY] at a0 b0
          have hds := dd_step X Y hilt hjlt
          clear hca hcb HX HY hjn
          by_cases hxy : X[i] = Y[j]
          · rw [if_pos hxy] at hds
            have HDS := Lib.hid hds
            have d1 := HCS.out (j + 1) (by omega)
            have e3 : (((X[i] : Nat) : Int) == ((Y[j] : Nat) : Int)) = true := by rw [beq_iff_eq]; omega
            generalize X[i] = xi at *
            generalize Y[j] = yj at *
            have HR := Lib.hid hR
            clear hR hxy hds d0 dl dl3
            go_wp2
            go_quiet (fail)
            have c0' := HR.out.cell hj
            have c1' := HR.out.free j
            go_wp2
            go_roundw
            case rel => exact ⟨j, by omega, rfl, HST.out _ _ (HR.out.keep rfl) (by rw [HDS.out]), ((HF.out.drewN _).setCell _ _ (.inr (Nat.le_refl _)))⟩
            case measure => simp [intOf] <;> omega
          · rw [if_neg hxy] at hds
            have HDS := Lib.hid (show (dd X Y i j : Int) = 1 + min (dd X Y (i + 1) j : Int) (dd X Y i (j + 1) : Int) from by omega)
            have d1 := hR.cell (show j + 1 < Y.length + 1 by omega)
            simp only [Nat.le_refl, if_true] at d1
            have e3 : (((X[i] : Nat) : Int) == ((Y[j] : Nat) : Int)) = false := by simp; omega
            generalize X[i] = xi at *
            generalize Y[j] = yj at *
            have HR := Lib.hid hR
            clear hR hxy hds dl2
            rcases Nat.lt_or_ge (dd X Y (i + 1) j) (dd X Y i (j + 1)) with hmin | hmin
            · have HDS2 := Lib.hid (show (dd X Y i j : Int) = 1 + (dd X Y (i + 1) j : Int) from by have := HDS.out; omega)
              go_wp2
              go_quiet (fail)
              go_wp2
              have q1 : (j : Int) < (Y.length : Int) + 1 := by omega
              have q2 : (j : Int) < (Y.length : Int) := by omega
              have q3 : IntKind.i64.wrap ((j : Int) + 1) = (j : Int) + 1 := IntWalk.i64_in _ (by omega)
              have q4 : ((j : Int) + 1).toNat = j + 1 := by omega
              have q5 : (0 : Int) ≤ (j : Int) + 1 := by omega
              have q6 : ((dd X Y (i + 1) j : Nat) : Int) < (dd X Y i (j + 1) : Nat) := by omega
              have q7 : IntKind.i32.wrap (1 + ((dd X Y (i + 1) j : Nat) : Int)) = 1 + ((dd X Y (i + 1) j : Nat) : Int) := IntWalk.i32_in _ (by omega)
              generalize hwq : wr.drewN _ = wq
              have hcq : ∀ a, wq.cell? a = wr.cell? a := fun a => by rw [← hwq]; rfl
              have d0' := (hcq _).trans d0
              have d1' := (hcq _).trans d1
              have HRq := Lib.hid (HR.out.keep (show wq.heap[w.heap.size]? = wr.heap[w.heap.size]? from by rw [← hwq]; rfl))
              have HFq := Lib.hid (show Fr (fun _ => False) w wq from by rw [← hwq]; exact HF.out.drewN _)
              clear hwq hcq d0 d1 a0 b0 c0 c1
              go_still_tail 14, (by kernel_rfl)
              change wpList _ _ _ _ _ wq.drew
              generalize hwd : wq.drew = wd
              have HRd := Lib.hid (HRq.out.keep (show wd.heap[w.heap.size]? = wq.heap[w.heap.size]? from by rw [← hwd]; rfl))
              have HFd := Lib.hid (show Fr (fun _ => False) w wd from by rw [← hwd]; exact HFq.out.drew)
              have c0 := HRd.out.cell hj
              have c1 := HRd.out.free j
              clear hwd d0' d1' q3 q4 q6 q7
              go_wp2
              go_roundw
              case rel => exact ⟨j, by omega, rfl, HST.out _ _ HRd.out (by rw [HDS2.out]; try first | omega | (split <;> omega)), HFd.out.setCell _ _ (.inr (Nat.le_refl _))⟩
              case measure => simp [intOf] <;> omega
            · have HDS2 := Lib.hid (show (dd X Y i j : Int) = 1 + (dd X Y i (j + 1) : Int) from by have := HDS.out; omega)
              go_wp2
              go_quiet (fail)
              go_wp2
              have q1 : (j : Int) < (Y.length : Int) + 1 := by omega
              have q2 : (j : Int) < (Y.length : Int) := by omega
              have q3 : IntKind.i64.wrap ((j : Int) + 1) = (j : Int) + 1 := IntWalk.i64_in _ (by omega)
              have q4 : ((j : Int) + 1).toNat = j + 1 := by omega
              have q5 : (0 : Int) ≤ (j : Int) + 1 := by omega
              have q6 : ¬ ((dd X Y (i + 1) j : Nat) : Int) < (dd X Y i (j + 1) : Nat) := by omega
              have q7 : IntKind.i32.wrap (1 + ((dd X Y i (j + 1) : Nat) : Int)) = 1 + ((dd X Y i (j + 1) : Nat) : Int) := IntWalk.i32_in _ (by omega)
              generalize hwq : wr.drewN _ = wq
              have hcq : ∀ a, wq.cell? a = wr.cell? a := fun a => by rw [← hwq]; rfl
              have d0' := (hcq _).trans d0
              have d1' := (hcq _).trans d1
              have HRq := Lib.hid (HR.out.keep (show wq.heap[w.heap.size]? = wr.heap[w.heap.size]? from by rw [← hwq]; rfl))
              have HFq := Lib.hid (show Fr (fun _ => False) w wq from by rw [← hwq]; exact HF.out.drewN _)
              clear hwq hcq d0 d1 a0 b0 c0 c1
              go_still_tail 14, (by kernel_rfl)
              change wpList _ _ _ _ _ wq.drew
              generalize hwd : wq.drew = wd
              have HRd := Lib.hid (HRq.out.keep (show wd.heap[w.heap.size]? = wq.heap[w.heap.size]? from by rw [← hwd]; rfl))
              have HFd := Lib.hid (show Fr (fun _ => False) w wd from by rw [← hwd]; exact HFq.out.drew)
              have c0 := HRd.out.cell hj
              have c1 := HRd.out.free j
              clear hwd d0' d1' q3 q4 q6 q7
              go_wp2
              go_roundw
              case rel => exact ⟨j, by omega, rfl, HST.out _ _ HRd.out (by rw [HDS2.out]; try first | omega | (split <;> omega)), HFd.out.setCell _ _ (.inr (Nat.le_refl _))⟩
              case measure => simp [intOf] <;> omega
def listOf (s : Nat → ByteArray) (n : Nat) : List ByteArray := (List.range n).map s
theorem listOf_length (s : Nat → ByteArray) (n : Nat) : (listOf s n).length = n := by simp [listOf]
theorem listOf_get (s : Nat → ByteArray) {n i : Nat} (h : i < n) : (listOf s n)[i]? = some (s i) := by simp [listOf, h]
theorem numsOf_eq (K : Num) (s : Nat → ByteArray) (n : Nat) : numsOf K s n = (listOf s n).map (num K) := by simp [numsOf, listOf]
theorem dist_map {α β : Type} [DecidableEq α] [DecidableEq β] (f : α → β) : ∀ (a b : List α), (∀ x ∈ a, ∀ y ∈ b, f x = f y → x = y) → dist (a.map f) (b.map f) = dist a b := by
 intro a
 induction a with
 | nil => intro b _; simp
 | cons x a ih =>
  intro b
  induction b with
  | nil => intro _; simp
  | cons y b ihb =>
   intro h
   have h1 := ih b (fun u hu v hv => h u (by simp [hu]) v (by simp [hv]))
   have h2 := ih (y :: b) (fun u hu v hv => h u (by simp [hu]) v hv)
   have h3 := ihb (fun u hu v hv => h u hu v (by simp [hv]))
   simp only [List.map_cons] at h2 h3 ⊢
   rw [dist_cons, dist_cons, h1, h2, h3]
   by_cases hxy : x = y
   ·rw [if_pos hxy, if_pos (by rw [hxy])]
   ·rw [if_neg hxy, if_neg (fun e => hxy (h x (by simp) y (by simp) e))]
theorem dd_nums {K : Num} (hK : Numbered K) {s t : Nat → ByteArray} {n m : Nat} (hs : ∀ i, i < n → (mget K (s i)).isSome = true) (ht : ∀ i, i < m → (mget K (t i)).isSome = true) (i j : Nat) :
    dd (numsOf K s n) (numsOf K t m) i j = dd (listOf s n) (listOf t m) i j := by
  rw [numsOf_eq, numsOf_eq, dd, dd, ← List.map_drop, ← List.map_drop]
  refine dist_map _ _ _ fun x hx y hy e => ?_
  obtain ⟨p, hp, rfl⟩ := List.mem_map.1 (List.mem_of_mem_drop hx)
  obtain ⟨q, hq, rfl⟩ := List.mem_map.1 (List.mem_of_mem_drop hy)
  exact num_inj hK (hs p (List.mem_range.1 hp)) (ht q (List.mem_range.1 hq)) e
theorem row_any' {w : World} {A B C : Option Addr} {ca cb cn cc n m : Nat} {X Y : List Nat} {i : Nat} (hn : X.length = n) (hm : Y.length = m) (hX : n ≤ 500) (hY : m ≤ 500) (hi : i ≤ n) (hA : Sl w A n (intV X)) (hB : Sl w B m (intV Y))
    (hC : i < n → cn = m + 1 ∧ Sl w C cn (fun j => .int .i32 (dd X Y (i + 1) j : Nat))) :
    Calls Tryz.prog 60 #[.slice A n ca, .slice B m cb, .int .i64 i, .slice C cn cc] w (RowPost w X Y i) := by
  subst hn hm
  exact row_any hX hY hi hA hB hC
set_option maxHeartbeats 800000 in
set_option maxRecDepth 100000 in
theorem Distance_any {w : World} {A B : Option Addr} {n m c d : Nat} {s t : Nat → ByteArray} (hn : n ≤ 500) (hm : m ≤ 500) (hA : Sl w A n (fun i => .string (s i))) (hB : Sl w B m (fun i => .string (t i))) :
    Calls Tryz.prog 26 #[.slice A n c, .slice B m d] w fun e w' => e = .returned (.int .i64 (dist (listOf s n) (listOf t m) : Nat)) ∧ Fr (fun _ => False) w w' := by
  have hnum := numbers_any (c := c) (d := d) hn hm hA hB
  clear hA hB
  go_enter Tryz.func26, Tryz.ntmps26
  go_wp2_with fail
  refine hnum.mono ?_
  clear hnum
  rintro e w1 ⟨g, h, K, rfl, hX, hY, hF, hg, hh, hK, hs, ht⟩
  have HX := Lib.hid hX
  have HY := Lib.hid hY
  have HF := Lib.hid hF
  have HD := Lib.hid (dd_nums hK hs ht)
  clear hX hY hF hK hs ht
  generalize hXX : numsOf K s n = X at *
  generalize hYY : numsOf K t m = Y at *
  have HXL := Lib.hid (show X.length = n from by rw [← hXX, numsOf_length])
  have HYL := Lib.hid (show Y.length = m from by rw [← hYY, numsOf_length])
  clear hXX hYY
  go_wp2_with fail
  go_loopw [7, 8] (fun r v wr => ∃ k : Nat, k ≤ n + 1 ∧ v = .int .i64 ((k : Int) - 1) ∧ Fr (fun _ => False) w1 wr ∧ ∃ C cn cc, r = .slice C cn cc ∧ (k ≤ n → cn = m + 1 ∧ Sl wr C (m + 1) (fun j => .int .i32 (dd X Y k j : Nat)))) (fun _ v _ => (intOf v + 1).toNat)
  case atStart => exact ⟨n + 1, Nat.le_refl _, by go_num, Fr.refl _ _, none, 0, 0, rfl, fun h => by omega⟩
  case round =>
    obtain ⟨k, hk, hv, hF, C, cn, cc, rfl, hC⟩ := hrel
    by_cases hk0 : k = 0
    · subst hk0
      rw [show ((0 : Nat) : Int) - 1 = -1 from rfl] at hv
      subst hv
      obtain ⟨rfl, hC2⟩ := hC (Nat.zero_le _)
      obtain ⟨b, off, rfl, hb, hcs⟩ := hC2 (by omega)
      have d0 := hcs 0 (by omega)
      simp only [Nat.add_zero] at d0
      have hle := dd_le X Y 0 0
      rw [HXL.out, HYL.out] at hle
      have HFW := Lib.hid (HF.out.trans hF fun _ q => q.elim)
      have HD0 := Lib.hid (HD.out 0 0)
      generalize dd X Y 0 0 = z at *
      clear hC hC2 hcs
      go_wp2
      go_ret
      refine ⟨?_, HFW.out⟩
      rw [HD0.out]
      simp [dd]
    · obtain ⟨j, rfl⟩ : ∃ j, k = j + 1 := ⟨k - 1, by omega⟩
      rw [show ((j + 1 : Nat) : Int) - 1 = (j : Int) from by omega] at hv
      subst hv
      have hrow := row_any' (w := wr) (A := some ⟨g, 0, none⟩) (B := some ⟨h, 0, none⟩) (C := C) (ca := n) (cb := m) (cn := cn) (cc := cc) (i := j) HXL.out HYL.out hn hm (by omega) (HX.out.fr hF) (HY.out.fr hF)
        (fun hlt => by obtain ⟨e1, e2⟩ := hC (by omega); subst e1; exact ⟨rfl, e2⟩)
      have HFr := Lib.hid hF
      have HYL2 := HYL.out
      clear hC hF hk0
      go_wp2_with fail
      refine hrow.mono ?_
      rintro e w2 ⟨g2, rfl, hR, hF2, hg2⟩
      rw [HYL2] at hR ⊢
      clear hrow HYL2
      have HR := Lib.hid hR
      have HF2 := Lib.hid hF2
      clear hR hF2
      go_wp2
      go_roundw
      case rel => exact ⟨j, by omega, rfl, HFr.out.trans HF2.out fun _ q => q.elim, _, _, _, rfl, fun _ => ⟨rfl, HR.out.sl⟩⟩
      case measure => simp [intOf] <;> omega
end Go.Proofs.YtfbpbkcplpkndaaGreatDoor
end
section
namespace Go.Proofs.YtfbpbkcplpkndaaGreatDoor
set_option linter.unusedVariables false
set_option linter.unusedSimpArgs false
open Go.RowKit Go.MapKept Go.ChangeMaps
theorem RowAt.ne {w : World} {g h n m : Nat} {e e' : TypeId} {f f' : Nat → Value} (h1 : RowAt w g e n f) (h2 : RowAt w h e' m f') (hne : e ≠ e') : g ≠ h := by
 rintro rfl
 obtain ⟨c1, e1, _⟩ := h1
 obtain ⟨c2, e2, _⟩ := h2
 rw [e1] at e2; cases e2; exact hne rfl
set_option maxHeartbeats 400000 in
set_option maxRecDepth 100000 in
theorem step_lcs {w : World} {i j : Nat} (op : Nat) (hi : i ≤ 1000) (hj : j ≤ 1000) (ho : op = 1 ∨ op = 2 ∨ op = 3) :
    Calls Tryz.prog 88 #[.agg #[.int .i64 i, .int .i64 j], .int .i64 op] w fun e w' => e = .returned (.agg #[.int .i64 ((if op = 3 then i else i + 1 : Nat) : Int), .int .i64 ((if op = 2 then j else j + 1 : Nat) : Int)]) ∧ Fr (fun _ => False) w w' := by
  rcases ho with rfl | rfl | rfl
  all_goals
    go_enter Tryz.func88, Tryz.ntmps88
    go_wp2
  · refine bodyPost_ret (v := .agg #[.int .i64 ((i : Int) + 1), .int .i64 ((j : Int) + 1)]) (by simp [results, Tryz.results88, go_sem]) rfl ⟨rfl, ?_⟩
    exact (((Fr.refl _ _).alloc _).alloc _)
  · refine bodyPost_ret (v := .agg #[.int .i64 ((i : Int) + 1), .int .i64 (j : Int)]) (by simp [results, Tryz.results88, go_sem]) rfl ⟨rfl, ?_⟩
    exact (((Fr.refl _ _).alloc _).alloc _)
  · refine bodyPost_ret (v := .agg #[.int .i64 (i : Int), .int .i64 ((j : Int) + 1)]) (by simp [results, Tryz.results88, go_sem]) rfl ⟨rfl, ?_⟩
    exact (((Fr.refl _ _).alloc _).alloc _)
theorem eq_place (w : World) (a b c d : Int) : (Op.equalIn 10000 117 (.agg #[.int .i64 a, .int .i64 b]) (.agg #[.int .i64 c, .int .i64 d])).run Tryz.prog w = .ok (a == c && b == d) w := by
 have h0 : (sizeOf 3).run Tryz.prog w = .ok 1 w := by kernel_rfl
 have p0 : ∀ a b : Int, (part 3 #[.int .i64 a, .int .i64 b] 0).run Tryz.prog w = .ok (.int .i64 a) w := fun a b => by kernel_rfl
 have p1 : ∀ a b : Int, (part 3 #[.int .i64 a, .int .i64 b] 1).run Tryz.prog w = .ok (.int .i64 b) w := fun a b => by kernel_rfl
 have q : ∀ a b : Int, (Op.equalIn 9999 3 (.int .i64 a) (.int .i64 b)).run Tryz.prog w = .ok (a == b) w := fun a b => run_equalIn_int w 9998 3 .i64 .i64 a b Tryz.underlying3
 rw [Op.equalIn]
 simp only [Sem.run_bind, run_underlying Tryz.underlying117, Result.andThen_ok, h0]
 simp [List.range', List.forIn_cons, p0, p1, q, Result.andThen]
 cases h1 : (a == c) <;> cases h2 : (b == d) <;> simp_all
def Ed.vals (e : Ed) : List Value := [.int .i64 e.op, .int .i64 e.a, .int .i64 e.b, .int .i64 e.n]
def EdOwn (w : World) (base : Nat) (A : Option Addr) (c : Nat) (l : List Ed) : Prop := w.ownsRow base 97 4 (.slice A l.length c) l.length (l.flatMap Ed.vals)
theorem info_edit : (Tryz.prog.info? 97).map (fun i => (i.zero, i.size, i.bytes)) = some (some (.agg #[.int .i64 0, .int .i64 0, .int .i64 0, .int .i64 0]), 4, 32) := by kernel_rfl
theorem info_row : (Tryz.prog.info? 92).map (fun i => (i.zero, i.size, i.bytes)) = some (some (.slice none 0 0), 1, 24) := by kernel_rfl
theorem vals_length (l : List Ed) : (l.flatMap Ed.vals).length = l.length * 4 := by
 induction l with
 | nil => rfl
 | cons e l ih => simp [Ed.vals, ih]; omega
theorem vals_get (l : List Ed) {i j : Nat} (hi : i < l.length) (hj : j < 4) : (l.flatMap Ed.vals)[i * 4 + j]? = (l[i]).vals[j]? := by
 induction l generalizing i with
 | nil => simp at hi
 | cons e l ih =>
  rw [List.flatMap_cons]
  cases i with
  | zero => rw [List.getElem?_append_left (by simp [Ed.vals]; omega)]; simp
  | succ i =>
   rw [List.getElem?_append_right (by simp [Ed.vals]; omega)]
   have : (i + 1) * 4 + j - e.vals.length = i * 4 + j := by simp [Ed.vals]; omega
   rw [this, ih (by simpa using hi)]; rfl
theorem EdOwn.form {w : World} {base : Nat} {A : Option Addr} {c : Nat} {l : List Ed} (h : EdOwn w base A c l) (hl : 0 < l.length) :
    ∃ g cur, A = some ⟨g, 0, none⟩ ∧ base ≤ g ∧ w.heap[g]? = some (.cells cur 97 (0, 0)) ∧ l.length ≤ c ∧ cur.size = c * 4 ∧ ∀ i, (hi : i < l.length) → ∀ j, j < 4 → cur[i * 4 + j]? = (l[i]).vals[j]? := by
  rcases h.2 with ⟨hv, hx⟩ | ⟨g, cap, cur, hv, hb, hh, hle, _, hsz, htake⟩
  · injection hv with h1 h2 h3
    omega
  · injection hv with h1 h2 h3
    subst h1 h3
    refine ⟨g, cur, rfl, hb, hh, hle, hsz, fun i hi j hj => ?_⟩
    rw [← vals_get l hi hj, ← htake, List.getElem?_take, if_pos (by omega)]
    simp
theorem EdOwn.cell {w : World} {base : Nat} {c g : Nat} {l : List Ed} (h : EdOwn w base (some ⟨g, 0, none⟩) c l) {i j : Nat} (hi : i < l.length) (hj : j < 4) : w.cell? ⟨g, i * 4 + j, none⟩ = (l[i]).vals[j]? := by
 obtain ⟨g', cur, h1, _, hh, _, _, hc⟩ := h.form (by omega)
 injection h1 with h1; injection h1 with h1; subst h1
 rw [cell_of_heap hh]; exact hc i hi j hj
theorem EdOwn.nil (w : World) (base : Nat) : EdOwn w base none 0 [] := World.ownsRow_nil w base 97 4
theorem EdOwn.kept {w w' : World} {base : Nat} {A : Option Addr} {c : Nat} {l : List Ed} {L : Nat → Prop} (h : EdOwn w base A c l) (hf : Fr L w w') (hL : ∀ k, base ≤ k → ¬ L k) : EdOwn w' base A c l := by
 refine ⟨h.1, ?_⟩
 rcases h.2 with hn | ⟨g, cap, cur, hv, hb, hh, r⟩
 ·exact .inl hn
 ·exact .inr ⟨g, cap, cur, hv, hb, hf.keep hh (hL g hb), r⟩
theorem EdOwn.bump {w : World} {base : Nat} {c g : Nat} {l : List Ed} {e : Ed} (h : EdOwn w base (some ⟨g, 0, none⟩) c (l ++ [e])) (x : Int) :
    EdOwn (w.setCell ⟨g, l.length * 4 + 3, none⟩ (.int .i64 x)) base (some ⟨g, 0, none⟩) c (l ++ [{ e with n := x }]) := by
  unfold EdOwn at *
  have hlen : (l ++ [{ e with n := x }]).length = (l ++ [e]).length := by simp
  refine ⟨by rw [vals_length], ?_⟩
  rcases h.2 with ⟨hv, hx⟩ | ⟨g', cap, cur, hv, hb, hh, hle, hmax, hsz, htake⟩
  · injection hv with h1; cases h1
  · injection hv with h1 h2 h3
    injection h1 with h1; injection h1 with h1
    subst h1 h3
    refine .inr ⟨g, c, cur.setIfInBounds (l.length * 4 + 3) (.int .i64 x), by rw [hlen], hb, heap_setCell_same _ _ _ _ hh, by rw [hlen]; exact hle, hmax, by simpa using hsz, ?_⟩
    rw [hlen]
    have hl : (l ++ [e]).length = l.length + 1 := by simp
    rw [hl] at htake hle ⊢
    apply List.ext_getElem?
    intro q
    have h0 := congrArg (fun z : List Value => z[q]?) htake
    simp only [List.getElem?_take] at h0 ⊢
    by_cases hq : q < (l.length + 1) * 4
    · rw [if_pos hq] at h0 ⊢
      simp only [Array.getElem?_toList, Array.getElem?_setIfInBounds] at h0 ⊢
      rw [List.flatMap_append] at h0 ⊢
      by_cases hq2 : q < l.length * 4
      · rw [if_neg (by omega), h0, List.getElem?_append_left (by rw [vals_length]; exact hq2), List.getElem?_append_left (by rw [vals_length]; exact hq2)]
      · rw [List.getElem?_append_right (by rw [vals_length]; omega)] at h0 ⊢
        rw [vals_length] at h0 ⊢
        obtain ⟨r, hr⟩ : ∃ r, q = l.length * 4 + r := ⟨q - l.length * 4, by omega⟩
        subst hr
        rw [Nat.add_sub_cancel_left] at h0 ⊢
        have hcs : l.length * 4 + 3 < cur.size := by omega
        have : r = 0 ∨ r = 1 ∨ r = 2 ∨ r = 3 := by omega
        rcases this with rfl | rfl | rfl | rfl
        · rw [if_neg (by omega), h0]; rfl
        · rw [if_neg (by omega), h0]; rfl
        · rw [if_neg (by omega), h0]; rfl
        · rw [if_pos rfl, if_pos hcs]; rfl
    · rw [if_neg hq]
      symm
      rw [List.getElem?_eq_none]
      rw [vals_length]; simp; omega
end Go.Proofs.YtfbpbkcplpkndaaGreatDoor
end
section
namespace Go.Proofs.YtfbpbkcplpkndaaGreatDoor
set_option linter.unusedVariables false
set_option linter.unusedSimpArgs false
open Go.RowKit Go.MapKept Go.ChangeMaps
def Table (w : World) (gc n m k : Nat) (gb : Nat → Nat) (X Y : List Nat) : Prop :=
 RowAt w gc 92 (n + 1) (fun q => if k ≤ q then .slice (some ⟨gb q, 0, none⟩) (m + 1) (m + 1) else .slice none 0 0) ∧
 ∀ q, k ≤ q → q ≤ n → RowAt w (gb q) 21 (m + 1) (fun j => .int .i32 (dd X Y q j : Nat))
theorem Table.fr {w w' : World} {gc n m k : Nat} {gb : Nat → Nat} {X Y : List Nat} {L : Nat → Prop} (h : Table w gc n m k gb X Y) (hf : Fr L w w') (hL : ∀ b, b < w.heap.size → ¬ L b) : Table w' gc n m k gb X Y :=
 ⟨h.1.fr hf (hL _ h.1.lt), fun q h1 h2 => (h.2 q h1 h2).fr hf (hL _ (h.2 q h1 h2).lt)⟩
theorem Table.fr2 {w w' : World} {gc n m k ba : Nat} {gb : Nat → Nat} {X Y : List Nat} (h : Table w gc n m k gb X Y) (hf : Fr (· = ba) w w') {cs : Array Value} {fz : Nat × Nat} (hb : w.heap[ba]? = some (.cells cs 117 fz)) : Table w' gc n m k gb X Y := by
 have hne : ∀ {g e l f}, RowAt w g e l f → e ≠ 117 → ¬ g = ba := by
  rintro g e l f ⟨c1, e1, _⟩ he rfl
  rw [hb] at e1; cases e1; exact he rfl
 exact ⟨h.1.fr hf (hne h.1 (by decide)), fun q h1 h2 => (h.2 q h1 h2).fr hf (hne (h.2 q h1 h2) (by decide))⟩
theorem Table.step {w : World} {gc n m j g : Nat} {gb : Nat → Nat} {X Y : List Nat} (h : Table w gc n m (j + 1) gb X Y) (hj : j ≤ n) (hR : RowAt w g 21 (m + 1) (fun q => .int .i32 (dd X Y j q : Nat))) :
    Table (w.setCell ⟨gc, j, none⟩ (.slice (some ⟨g, 0, none⟩) (m + 1) (m + 1))) gc n m j (fun q => if q = j then g else gb q) X Y := by
  have hs : Fr (· = gc) w (w.setCell ⟨gc, j, none⟩ (.slice (some ⟨g, 0, none⟩) (m + 1) (m + 1))) := (Fr.refl (· = gc) w).setCell _ _ (.inl rfl)
  refine ⟨(h.1.set j _).congr fun q hq => ?_, fun q h1 h2 => ?_⟩
  · by_cases hqj : q = j
    · subst hqj; simp
    · simp only [hqj, if_false]
      by_cases h2 : j + 1 ≤ q
      · rw [if_pos h2, if_pos (by omega)]
      · rw [if_neg h2, if_neg (by omega)]
  · by_cases hqj : q = j
    · subst hqj
      simp only [if_true]
      exact hR.fr hs (RowAt.ne hR h.1 (by decide))
    · simp only [hqj, if_false]
      have := h.2 q (by omega) h2
      exact this.fr hs (RowAt.ne this h.1 (by decide))
def ScriptPost (w : World) (a b : List ByteArray) (e : Ending) (w' : World) : Prop :=
 ∃ A c, e = .returned (.slice A (script a b).length c) ∧ EdOwn w' w.heap.size A c (script a b) ∧ Fr (fun _ => False) w w'
def remains (ba n m : Nat) (w : World) : Nat :=
 match w.cell? ⟨ba, 0, none⟩, w.cell? ⟨ba, 1, none⟩ with
 | some (.int _ i), some (.int _ j) => (n - i.toNat) + (m - j.toNat)
 | _, _ => 0
theorem remains_eq {ba n m : Nat} {w : World} {i j : Nat} {t : TypeId} {fz : Nat × Nat} (h : w.heap[ba]? = some (.cells #[.int .i64 i, .int .i64 j] t fz)) : remains ba n m w = (n - i) + (m - j) := by
 have c0 := cell_of_heap h 0
 have c1 := cell_of_heap h 1
 simp only [List.getElem?_toArray, List.getElem?_cons_zero, List.getElem?_cons_succ] at c0 c1
 simp [remains, c0, c1]
theorem EdOwn.mono {w : World} {base base' : Nat} {A : Option Addr} {c : Nat} {l : List Ed} (h : EdOwn w base A c l) (hb : base' ≤ base) : EdOwn w base' A c l :=
 ⟨h.1, h.2.imp id fun ⟨g, cap, cur, hv, hg, r⟩ => ⟨g, cap, cur, hv, Nat.le_trans hb hg, r⟩⟩
theorem addE_nil4 (op i j : Int) : addE [] op i j = [⟨op, i, j, 1⟩] := rfl
theorem addE_snoc4 (l : List Ed) (e : Ed) (op i j : Int) : addE (l ++ [e]) op i j = if e.op = op then l ++ [{ e with n := e.n + 1 }] else (l ++ [e]) ++ [⟨op, i, j, 1⟩] := by
 simp [addE]
theorem addE_length (l : List Ed) (op i j : Int) : (addE l op i j).length ≤ l.length + 1 := by
 rcases List.eq_nil_or_concat l with rfl | ⟨l', e, rfl⟩
 ·simp [addE]
 ·rw [List.concat_eq_append, addE_snoc4]; split <;> simp
theorem addE_n {l : List Ed} {op i j : Int} {k k' : Nat} (h : ∀ e ∈ l, 0 ≤ e.n ∧ e.n ≤ (k : Int)) (hk : k + 1 ≤ k') : ∀ e ∈ addE l op i j, 0 ≤ e.n ∧ e.n ≤ (k' : Int) := by
 rcases List.eq_nil_or_concat l with rfl | ⟨l', e, rfl⟩
 ·rw [addE_nil4]; intro e he; simp only [List.mem_singleton] at he; subst he; exact ⟨by show (0 : Int) ≤ 1; omega, by show (1 : Int) ≤ _; omega⟩
 ·rw [List.concat_eq_append] at *
  have h1 := h e (by simp)
  rw [addE_snoc4]
  split
  ·intro x hx
   rcases List.mem_append.1 hx with q | q
   ·have := h x (by simp [q]); omega
   ·simp only [List.mem_singleton] at q; subst q; exact ⟨by show 0 ≤ e.n + 1; omega, by show e.n + 1 ≤ _; omega⟩
  ·intro x hx
   rcases List.mem_append.1 hx with q | q
   ·have := h x q; omega
   ·simp only [List.mem_singleton] at q; subst q; exact ⟨by show (0 : Int) ≤ 1; omega, by show (1 : Int) ≤ _; omega⟩
theorem wpList_append_run {P : Program} {w w' : World} {ops : Array Oper} {rest : List Oper} {o : Oper} {a : Act} {Q : Exit → Act → World → Prop} (hgd : o.guard = none) (s x : Operand) (t : TypeId)
    (ho : o.op = .call { callee := .builtin .append, args := #[s, x], argTypes := #[t, t] }) {v xv v' : Value} (hs : a.eval s = v) (hx : a.eval x = xv)
    (hr : (Builtin.append_ #[t, t] o.type #[v, xv]).run P w = .ok v' w') (h : wpList P ops Q rest (a.put o.dst v') w') : wpList P ops Q (o :: rest) a w :=
  wpList_plain hgd fun _ hK => by
    unfold Oper.wp execOp
    simp only [ho, resolve, invoke, builtin, Sem.run_bind, Sem.run_pure, Result.andThen_ok, List.map_toArray, List.map_cons, List.map_nil, hs, hx, hr]
    exact hK _ _ h
theorem scrF_step {α : Type} [DecidableEq α] {a b : List α} {n m i j op : Nat} (hn : a.length = n) (hm : b.length = m) (hi : i ≤ n) (hj : j ≤ m) (h : i < n ∨ j < m) (out : List Ed) (ho : opAt a b i j = op) :
    (op = 1 ∨ op = 2 ∨ op = 3) ∧ (if op = 3 then i else i + 1) ≤ n ∧ (if op = 2 then j else j + 1) ≤ m ∧
    scrF a b ((n - i) + (m - j)) i j out = scrF a b ((n - (if op = 3 then i else i + 1)) + (m - (if op = 2 then j else j + 1))) (if op = 3 then i else i + 1) (if op = 2 then j else j + 1) (addE out op i j) := by
  subst hn hm
  have hc := opAt_cases a b hi hj h
  rw [ho] at hc
  have h1 : (op = 1 ∨ op = 2 ∨ op = 3) ∧ (if op = 3 then i else i + 1) ≤ a.length ∧ (if op = 2 then j else j + 1) ≤ b.length := by
    rcases hc with ⟨rfl, h2, _⟩ | ⟨rfl, h2, _⟩ | ⟨rfl, h2, h3, _⟩ <;> simp <;> omega
  refine ⟨h1.1, h1.2.1, h1.2.2, ?_⟩
  obtain ⟨k, hk⟩ : ∃ k, (a.length - i) + (b.length - j) = k + 1 := ⟨(a.length - i) + (b.length - j) - 1, by omega⟩
  rw [hk, scrF, if_neg (by omega), ho]
  refine (scrF_fuel a b _ k _ _ _ h1.2.1 h1.2.2 (Nat.le_refl _) ?_).symm
  rcases h1.1 with rfl | rfl | rfl <;> simp <;> omega
def Quiet (w w' : World) : Prop := ∃ m, w' = w.drewN m
theorem Quiet.refl (w : World) : Quiet w w := ⟨0, rfl⟩
theorem Quiet.drewN {w w' : World} (h : Quiet w w') (n : Nat) : Quiet w (w'.drewN n) := by obtain ⟨m, rfl⟩ := h; exact ⟨m + n, by simp⟩
theorem Quiet.trans {w w' w'' : World} (h : Quiet w w') (h' : Quiet w' w'') : Quiet w w'' := by obtain ⟨m, rfl⟩ := h; exact h'.elim fun k hk => ⟨m + k, by rw [hk]; simp⟩
theorem Quiet.heap {w w' : World} (h : Quiet w w') : w'.heap = w.heap := by obtain ⟨m, rfl⟩ := h; rfl
theorem Quiet.cell {w w' : World} (h : Quiet w w') (a : Addr) : w'.cell? a = w.cell? a := by obtain ⟨m, rfl⟩ := h; rfl
theorem Quiet.fr {w w' : World} (h : Quiet w w') (L : Nat → Prop) : Fr L w w' := by obtain ⟨m, rfl⟩ := h; exact (Fr.refl _ _).drewN _
def Mid2 (wB w' : World) (ba n m : Nat) (a b : List ByteArray) (v : Value) (i j : Nat) (out : List Ed) : Prop :=
 i ≤ n ∧ j ≤ m ∧ (∃ A c, v = .slice A out.length c ∧ EdOwn w' wB.heap.size A c out) ∧ w'.heap[ba]? = some (.cells #[.int .i64 i, .int .i64 j] 117 (0, 0)) ∧ Fr (· = ba) wB w' ∧ scrF a b ((n - i) + (m - j)) i j out = script a b ∧ out.length ≤ i + j ∧ ∀ e ∈ out, 0 ≤ e.n ∧ e.n ≤ ((i + j : Nat) : Int)
set_option maxHeartbeats 1600000 in
set_option maxRecDepth 100000 in
theorem Script_any {w : World} {A B : Option Addr} {n m c d : Nat} {s t : Nat → ByteArray} (hn : n ≤ 400) (hm : m ≤ 400) (hA : Sl w A n (fun i => .string (s i))) (hB : Sl w B m (fun i => .string (t i))) :
    Calls Tryz.prog 62 #[.slice A n c, .slice B m d] w (ScriptPost w (listOf s n) (listOf t m)) := by
  have hnum := numbers_any (c := c) (d := d) (by omega) (by omega) hA hB
  clear hA hB
  go_enter Tryz.func62, Tryz.ntmps62
  go_wp2_with fail
  refine hnum.mono ?_
  clear hnum
  rintro e w1 ⟨g, h, K, rfl, hX, hY, hF, hg, hh, hK, hs, ht⟩
  have HX := Lib.hid hX
  have HY := Lib.hid hY
  have HF := Lib.hid hF
  have HD := Lib.hid (dd_nums hK hs ht)
  clear hX hY hF hK hs ht
  generalize hXX : numsOf K s n = X at *
  generalize hYY : numsOf K t m = Y at *
  have HXL := Lib.hid (show X.length = n from by rw [← hXX, numsOf_length])
  have HYL := Lib.hid (show Y.length = m from by rw [← hYY, numsOf_length])
  clear hXX hYY
  obtain ⟨w2, u2, hR2, hf2⟩ := run_make_row (P := Tryz.prog) w1 (z := .slice none 0 0) Tryz.underlying115 info_row rfl .i64 .i64 (n + 1) (by omega) (by unfold maxLen; omega)
  have hcast : (((n + 1 : Nat)) : Int) = (n : Int) + 1 := by omega
  rw [hcast] at u2
  have HF2 := Lib.hid hf2
  have HT2 := Lib.hid (show Table w2 w1.heap.size n m (n + 1) (fun _ => 0) X Y from ⟨hR2.congr fun q hq => by rw [if_neg (by omega)], fun q h1 h2 => by omega⟩)
  clear hR2 hf2
  go_wp2_with fail
  clear u2 hcast
  go_loopw [8, 9] (fun v r wr => ∃ k : Nat, k ≤ n + 1 ∧ v = .int .i64 ((k : Int) - 1) ∧ Fr (fun _ => False) w1 wr ∧ ∃ gb, Table wr w1.heap.size n m k gb X Y) (fun v _ _ => (intOf v + 1).toNat)
  case atStart => exact ⟨n + 1, Nat.le_refl _, by go_num, HF2.out, _, HT2.out⟩
  case round =>
    clear HT2 HF2
    obtain ⟨k, hk, hv, hF, gb, hT⟩ := hrel
    by_cases hk0 : k = 0
    · subst hk0
      rw [show ((0 : Nat) : Int) - 1 = -1 from rfl] at hv
      subst hv
      have HT := Lib.hid hT
      have HF1 := Lib.hid hF
      clear hT hF
      go_wp2_with fail
      have hwb : ∀ x y, ((wr.alloc x).alloc y).heap.size = wr.heap.size + 2 := fun x y => by simp
      have hB0 : ∀ x y, ((wr.alloc x).alloc y).heap[wr.heap.size]? = some x := fun x y => (heap_alloc_lt _ _ (by simp)).trans (MapKept.heap_alloc wr x).1
      have hB1 : ∀ x y, ((wr.alloc x).alloc y).heap[wr.heap.size + 1]? = some y := fun x y => by have := (MapKept.heap_alloc (wr.alloc x) y).1; simpa using this
      have hBF : ∀ x y, Fr (fun _ => False) wr ((wr.alloc x).alloc y) := fun x y => ((Fr.refl _ _).alloc x).alloc y
      have hb0 := hB0 (.cells #[.int .i64 0, .int .i64 0] 117) (.cells #[.int .i64 (n : Int), .int .i64 (m : Int)] 117)
      have hb1 := hB1 (.cells #[.int .i64 0, .int .i64 0] 117) (.cells #[.int .i64 (n : Int), .int .i64 (m : Int)] 117)
      have hbf := hBF (.cells #[.int .i64 0, .int .i64 0] 117) (.cells #[.int .i64 (n : Int), .int .i64 (m : Int)] 117)
      have hbs := hwb (.cells #[.int .i64 0, .int .i64 0] 117) (.cells #[.int .i64 (n : Int), .int .i64 (m : Int)] 117)
      clear hwb hB0 hB1 hBF
      generalize hwB : (wr.alloc _).alloc _ = wB at *
      have HTB := Lib.hid (HT.out.fr hbf fun _ _ q => q)
      have HB0 := Lib.hid hb0
      have HB1 := Lib.hid hb1
      have HBF := Lib.hid ((HF.out.trans HF1.out fun _ q => q.elim).trans hbf fun _ q => q.elim)
      have HBS := Lib.hid hbs
      have HWS := Lib.hid (show w.heap.size ≤ wr.heap.size from Nat.le_trans HF.out.size HF1.out.size)
      generalize hba : wr.heap.size = ba at *
      clear hwB hb0 hb1 hbf hbs hba HT HF1 HF
      go_loopw [10] (fun v w' => ∃ i j out, Mid2 wB w' ba n m (listOf s n) (listOf t m) v i j out) (fun _ w' => remains ba n m w')
      case atStart => exact ⟨0, 0, [], by omega, by omega, ⟨none, 0, rfl, EdOwn.nil _ _⟩, HB0.out, Fr.refl _ _, by rw [script]; simp [listOf_length], by simp, by simp⟩
      case round =>
        obtain ⟨i, j, out, hi, hj, ⟨A2, c2, rfl, hE⟩, hcell, hF, hscr, hol, hon⟩ := hrel
        have HON := Lib.hid hon
        have hba : ba < wB.heap.size := by have := HBS.out; omega
        have hend := hF.keep HB1.out (by show ¬ ba + 1 = ba; omega)
        have c0 := cell_of_heap hcell 0
        have c1 := cell_of_heap hcell 1
        have d0 := cell_of_heap hend 0
        have d1 := cell_of_heap hend 1
        simp only [List.getElem?_toArray, List.getElem?_cons_zero, List.getElem?_cons_succ] at c0 c1 d0 d1
        have HE := Lib.hid hE
        have HCE := Lib.hid hcell
        have HFR := Lib.hid hF
        have HSC := Lib.hid hscr
        have hT := HTB.out.fr2 hF HB0.out
        clear hE hcell hF hscr hend hon
        by_cases hfin : i = n ∧ j = m
        · obtain ⟨rfl, rfl⟩ := hfin
          have hpl := eq_place
          have e1 : ((i : Int) == (i : Int)) = true := by simp
          have e2 : ((j : Int) == (j : Int)) = true := by simp
          clear hT
          go_wp2
          go_ret
          have hs0 := HSC.out
          rw [Nat.sub_self, Nat.sub_self] at hs0
          have hs1 : out = script (listOf s i) (listOf t j) := hs0
          unfold ScriptPost
          rw [← hs1]
          exact ⟨A2, c2, rfl, HE.out.mono (by have := HBF.out.size; omega), HBF.out.trans HFR.out fun k hk => .inr (by have : k = ba := hk; have := HWS.out; omega)⟩
        · have hlt : i < n ∨ j < m := by omega
          have hpl := eq_place
          have en : (!(((i : Int) == (n : Int)) && ((j : Int) == (m : Int)))) = true := by
            rcases hlt with q | q
            · have : ((i : Int) == (n : Int)) = false := by simp; omega
              rw [this]; rfl
            · have : ((j : Int) == (m : Int)) = false := by simp; omega
              rw [this]; simp
          have HLT := Lib.hid hlt
          have HT := Lib.hid hT
          have g0 := hT.1.cell (show i < n + 1 by omega)
          have g1 := (hT.2 i (Nat.zero_le _) hi).cell (show j < m + 1 by omega)
          simp only [Nat.zero_le, if_true] at g0
          have hb1 := dd_le X Y i j
          rw [HXL.out, HYL.out] at hb1
          clear hT hfin hlt
          go_upto_region 13 with (fail)
          have f0 := show ((i : Int) < (n : Int) + 1) from by omega
          have f1 := show ((j : Int) < (m : Int) + 1) from by omega
          have f2 := show (0 : Int) ≤ (i : Int) from by omega
          have f3 := show (0 : Int) ≤ (j : Int) from by omega
          have f4 := Int.toNat_natCast i
          have f5 := Int.toNat_natCast j
          clear d0 d1 en hpl
          go_quiet (fail)
          go_upto_region 15 with (fail)
          go_cut [86] (fun v wx => v = .bool (decide (i < n ∧ dd X Y (i + 1) j + 1 = dd X Y i j)) ∧ Quiet wr wx)
          case first =>
            by_cases hin : i < n
            · have t0 : ((i : Int) < (n : Int)) := by omega
              have g2 := HT.out.1.cell (show i + 1 < n + 1 by omega)
              have g3 := (HT.out.2 (i + 1) (Nat.zero_le _) (by omega)).cell (show j < m + 1 by omega)
              simp only [Nat.zero_le, if_true] at g2
              have f6 : IntKind.i64.wrap ((i : Int) + 1) = (i : Int) + 1 := IntWalk.i64_in _ (by omega)
              have f7 : ((i : Int) + 1).toNat = i + 1 := by omega
              have f8 : ((i : Int) + 1) < (n : Int) + 1 := by omega
              have f9 : (0 : Int) ≤ (i : Int) + 1 := by omega
              have f10 : IntKind.i32.wrap (((dd X Y i j : Nat) : Int) - 1) = ((dd X Y i j : Nat) : Int) - 1 := IntWalk.i32_in _ (by omega)
              by_cases he : dd X Y (i + 1) j + 1 = dd X Y i j
              · have t1 : (((dd X Y (i + 1) j : Nat) : Int) == ((dd X Y i j : Nat) : Int) - 1) = true := by rw [beq_iff_eq]; omega
                have HV := decide_eq_true (p := i < n ∧ dd X Y (i + 1) j + 1 = dd X Y i j) ⟨hin, he⟩
                clear he hin
                go_quiet (fail)
                go_wp2
                go_meet
                exact ⟨congrArg Value.bool HV.symm, by first | exact ⟨_, rfl⟩ | (rw [World.drewN_drewN]; exact ⟨_, rfl⟩)⟩
              · have t1 : (((dd X Y (i + 1) j : Nat) : Int) == ((dd X Y i j : Nat) : Int) - 1) = false := by rw [beq_eq_false_iff_ne]; omega
                have HV := decide_eq_false (p := i < n ∧ dd X Y (i + 1) j + 1 = dd X Y i j) (fun q => he q.2)
                clear he hin
                go_quiet (fail)
                go_wp2
                go_meet
                exact ⟨congrArg Value.bool HV.symm, by first | exact ⟨_, rfl⟩ | (rw [World.drewN_drewN]; exact ⟨_, rfl⟩)⟩
            · have t0 : ¬ ((i : Int) < (n : Int)) := by omega
              have HV := decide_eq_false (p := i < n ∧ dd X Y (i + 1) j + 1 = dd X Y i j) (fun q => hin q.1)
              clear hin
              go_quiet (fail)
              go_wp2
              go_meet
              exact ⟨congrArg Value.bool HV.symm, by first | exact ⟨_, rfl⟩ | (rw [World.drewN_drewN]; exact ⟨_, rfl⟩)⟩
          obtain ⟨rfl, hq⟩ := hcut
          have HQ := Lib.hid hq
          have q0 := (hq.cell ⟨ba, 0, none⟩).trans c0
          have q1 := (hq.cell ⟨ba, 1, none⟩).trans c1
          clear c0 c1 hq g1
          generalize hp2 : decide (i < n ∧ dd X Y (i + 1) j + 1 = dd X Y i j) = p2
          go_upto_if 86 with (fail)
          go_cut [14] (fun v wx => v = .int .i64 (opAt X Y i j : Nat) ∧ Quiet wr wx)
          case first =>
            cases p2 with
            | true =>
              have hop : opAt X Y i j = 2 := by unfold opAt; rw [HXL.out, if_pos (of_decide_eq_true hp2)]
              clear hp2
              go_wp2_with fail
              go_meet
              exact ⟨by rw [hop]; rfl, HQ.out⟩
            | false =>
              have hop := of_decide_eq_false hp2
              have HOP := Lib.hid hop
              clear hp2 hop
              have q2 := (HQ.out.cell ⟨w1.heap.size, i, none⟩).trans g0
              go_upto_region 17 with (fail)
              clear g0
              go_cut [106] (fun v wx => v = .bool (decide (j < m ∧ dd X Y i (j + 1) + 1 = dd X Y i j)) ∧ Quiet wr wx)
              case first =>
                by_cases hin : j < m
                · have t0 : ((j : Int) < (m : Int)) := by omega
                  have g3 := (HQ.out.cell ⟨gb i, j + 1, none⟩).trans ((HT.out.2 i (Nat.zero_le _) hi).cell (show j + 1 < m + 1 by omega))
                  have hb2 := dd_le X Y i (j + 1)
                  rw [HXL.out, HYL.out] at hb2
                  have f6 : IntKind.i64.wrap ((j : Int) + 1) = (j : Int) + 1 := IntWalk.i64_in _ (by omega)
                  have f7 : ((j : Int) + 1).toNat = j + 1 := by omega
                  have f8 : ((j : Int) + 1) < (m : Int) + 1 := by omega
                  have f9 : (0 : Int) ≤ (j : Int) + 1 := by omega
                  have f10 : IntKind.i32.wrap (((dd X Y i j : Nat) : Int) - 1) = ((dd X Y i j : Nat) : Int) - 1 := IntWalk.i32_in _ (by omega)
                  by_cases he : dd X Y i (j + 1) + 1 = dd X Y i j
                  · have t1 : (((dd X Y i (j + 1) : Nat) : Int) == ((dd X Y i j : Nat) : Int) - 1) = true := by rw [beq_iff_eq]; omega
                    have HV := decide_eq_true (p := j < m ∧ dd X Y i (j + 1) + 1 = dd X Y i j) ⟨hin, he⟩
                    clear he hin
                    go_quiet (fail)
                    go_wp2
                    go_meet
                    exact ⟨congrArg Value.bool HV.symm, HQ.out.trans (by first | exact ⟨_, rfl⟩ | (rw [World.drewN_drewN]; exact ⟨_, rfl⟩))⟩
                  · have t1 : (((dd X Y i (j + 1) : Nat) : Int) == ((dd X Y i j : Nat) : Int) - 1) = false := by rw [beq_eq_false_iff_ne]; omega
                    have HV := decide_eq_false (p := j < m ∧ dd X Y i (j + 1) + 1 = dd X Y i j) (fun q => he q.2)
                    clear he hin
                    go_quiet (fail)
                    go_wp2
                    go_meet
                    exact ⟨congrArg Value.bool HV.symm, HQ.out.trans (by first | exact ⟨_, rfl⟩ | (rw [World.drewN_drewN]; exact ⟨_, rfl⟩))⟩
                · have t0 : ¬ ((j : Int) < (m : Int)) := by omega
                  have HV := decide_eq_false (p := j < m ∧ dd X Y i (j + 1) + 1 = dd X Y i j) (fun q => hin q.1)
                  clear hin
                  go_quiet (fail)
                  go_wp2
                  go_meet
                  exact ⟨congrArg Value.bool HV.symm, HQ.out.trans (by first | exact ⟨_, rfl⟩ | (rw [World.drewN_drewN]; exact ⟨_, rfl⟩))⟩
              obtain ⟨rfl, hq⟩ := hcut
              have HQ2 := Lib.hid hq
              clear q0 q1 q2 hq
              generalize hp3 : decide (j < m ∧ dd X Y i (j + 1) + 1 = dd X Y i j) = p3
              cases p3 with
              | true =>
                have hop : opAt X Y i j = 3 := by unfold opAt; rw [HXL.out, HYL.out, if_neg HOP.out, if_pos (of_decide_eq_true hp3)]
                clear hp3
                go_wp2_with fail
                go_meet
                exact ⟨by rw [hop]; rfl, HQ2.out⟩
              | false =>
                have hop : opAt X Y i j = 1 := by unfold opAt; rw [HXL.out, HYL.out, if_neg HOP.out, if_neg (of_decide_eq_false hp3)]
                clear hp3
                go_wp2_with fail
                go_meet
                exact ⟨by rw [hop]; rfl, HQ2.out⟩
          obtain ⟨rfl, hq⟩ := hcut
          have HQ3 := Lib.hid hq
          have HP2 := Lib.hid hp2
          clear q0 q1 hq g0 f0 f1 f2 f3 f4 f5 HQ hp2 hb1
          have HEW := Lib.hid (HE.out.kept (HQ3.out.fr fun _ => False) fun _ _ q => q)
          have HFW := Lib.hid (HFR.out.trans (HQ3.out.fr fun _ => False) fun _ q => q.elim)
          have HTW := Lib.hid (HT.out.fr (HQ3.out.fr fun _ => False) fun _ _ q => q)
          have hcell := HQ3.out.fr (fun _ => False) |>.keep HCE.out (fun q => q)
          have HCW := Lib.hid hcell
          have c0 := cell_of_heap hcell 0
          have c1 := cell_of_heap hcell 1
          simp only [List.getElem?_toArray, List.getElem?_cons_zero, List.getElem?_cons_succ] at c0 c1
          clear hcell
          generalize hop : opAt X Y i j = op
          have HOP := Lib.hid hop
          clear hop
          go_upto_region 20 with (fail)
          have HB : ∀ e ∈ out.getLast?, 0 < out.length := by
            intro e he; rcases out with _ | ⟨x, l⟩
            · simp at he
            · simp
          go_cut [120] (fun v wx => v = .bool (decide (out.getLast?.map (·.op) = some (op : Int))) ∧ Quiet wc wx)
          case first =>
            rcases List.eq_nil_or_concat out with h0 | ⟨l, e, h0⟩
            · have hl : out.length = 0 := by rw [h0]; rfl
              have HV := decide_eq_false (p := out.getLast?.map (·.op) = some (op : Int)) (by rw [h0]; simp)
              clear h0
              generalize hln : out.length = ln at *
              subst hl
              go_wp2_with fail
              go_meet
              exact ⟨congrArg Value.bool HV.symm, Quiet.refl _⟩
            · obtain ⟨g', cur, rfl, _, hh', _, _, hc'⟩ := HEW.out.form (by rw [h0]; simp)
              have hl : out.length = l.length + 1 := by rw [h0]; simp
              have hce := HEW.out.cell (i := l.length) (j := 0) (by omega) (by omega)
              have he2 : out[l.length]'(by omega) = e := by simp [h0]
              rw [he2] at hce
              have hop : (wc.cell? ⟨g', l.length * 4, none⟩) = some (.int .i64 e.op) := hce
              have hfz := free_of_heap hh' (l.length * 4)
              have f1 : IntKind.i64.wrap (((l.length + 1 : Nat) : Int) - 1) = (l.length : Int) := by rw [IntWalk.i64_in _ (by omega)]; omega
              have f2 : (0 : Int) ≤ (l.length : Int) := by omega
              have f3 := Int.toNat_natCast l.length
              have f4 : (0 : Int) < ((l.length + 1 : Nat) : Int) := by omega
              have f5 : (l.length : Int) < ((l.length + 1 : Nat) : Int) := by omega
              have HV0 : out.getLast?.map (·.op) = some e.op := by rw [h0]; simp
              clear hce he2 hc' hh' h0 HB
              generalize hln : out.length = ln at *
              subst hl
              generalize hLL : l.length = LL at *
              by_cases hee : e.op = (op : Int)
              · have t1 : (e.op == (op : Int)) = true := by rw [beq_iff_eq]; exact hee
                have HV := decide_eq_true (p := out.getLast?.map (·.op) = some (op : Int)) (by rw [HV0, hee])
                clear hee HV0
                go_wp2_with fail
                go_meet
                exact ⟨congrArg Value.bool HV.symm, Quiet.refl _⟩
              · have t1 : (e.op == (op : Int)) = false := by rw [beq_eq_false_iff_ne]; exact hee
                have HV := decide_eq_false (p := out.getLast?.map (·.op) = some (op : Int)) (by rw [HV0]; exact fun q => hee (Option.some.inj q))
                clear hee HV0
                go_wp2_with fail
                go_meet
                exact ⟨congrArg Value.bool HV.symm, Quiet.refl _⟩
          obtain ⟨rfl, hq⟩ := hcut
          have HE5 := Lib.hid (HEW.out.kept (hq.fr fun _ => False) fun _ _ q => q)
          have HF5 := Lib.hid (HFW.out.trans (hq.fr fun _ => False) fun _ q => q.elim)
          have HT5 := Lib.hid (HTW.out.fr (hq.fr fun _ => False) fun _ _ q => q)
          have HQ5 := Lib.hid (HQ3.out.trans hq)
          have hcell := hq.fr (fun _ => False) |>.keep HCW.out (fun q => q)
          have HC5 := Lib.hid hcell
          clear hq c0 c1 HB HEW HFW HTW HCW HQ3
          have c0 := cell_of_heap hcell 0
          have c1 := cell_of_heap hcell 1
          simp only [List.getElem?_toArray, List.getElem?_cons_zero, List.getElem?_cons_succ] at c0 c1
          clear hcell
          generalize hp4 : decide (out.getLast?.map (·.op) = some (op : Int)) = p4
          have HP4 := Lib.hid hp4
          clear hp4
          go_upto_if 120 with (fail)
          go_cut [10] (fun v wx => ∃ A3 c3, v = .slice A3 (addE out op i j).length c3 ∧ EdOwn wx wB.heap.size A3 c3 (addE out op i j) ∧ Fr (fun k => wB.heap.size ≤ k) wr wx)
          case first =>
            cases p4 with
            | true =>
              rcases List.eq_nil_or_concat out with h0 | ⟨l, e, h0⟩
              · exfalso; have := of_decide_eq_true HP4.out; rw [h0] at this; simp at this
              · obtain ⟨g', cur, rfl, hb', hh', _, _, hc'⟩ := HE5.out.form (by rw [h0]; simp)
                have hl : out.length = l.length + 1 := by rw [h0]; simp
                have he2 : out[l.length]'(by omega) = e := by simp [h0]
                have hce := HE5.out.cell (i := l.length) (j := 3) (by omega) (by omega)
                rw [he2] at hce
                have hcn : (wc.cell? ⟨g', l.length * 4 + 3, none⟩) = some (.int .i64 e.n) := hce
                have hfz := free_of_heap hh' (l.length * 4 + 3)
                have hen := HON.out e (by rw [h0]; simp)
                have hop : e.op = (op : Int) := by have := of_decide_eq_true HP4.out; rw [h0] at this; simpa using this
                have f0 : IntKind.i64.wrap (e.n + 1) = e.n + 1 := IntWalk.i64_in _ (by omega)
                have f1 : IntKind.i64.wrap (((l.length + 1 : Nat) : Int) - 1) = (l.length : Int) := by rw [IntWalk.i64_in _ (by omega)]; omega
                have f2 : (0 : Int) ≤ (l.length : Int) := by omega
                have f3 := Int.toNat_natCast l.length
                have f5 : (l.length : Int) < ((l.length + 1 : Nat) : Int) := by omega
                have hE6 : EdOwn (wc.setCell ⟨g', l.length * 4 + 3, none⟩ (.int .i64 (e.n + 1))) wB.heap.size (some ⟨g', 0, none⟩) c2 (addE out op i j) := by
                  rw [h0, List.concat_eq_append, addE_snoc4, if_pos hop]
                  have := HE5.out
                  rw [h0, List.concat_eq_append] at this
                  exact this.bump _
                have hlen : (addE out op i j).length = l.length + 1 := by rw [h0, List.concat_eq_append, addE_snoc4, if_pos hop]; simp
                have hF6 : Fr (fun k => wB.heap.size ≤ k) wr (wc.setCell ⟨g', l.length * 4 + 3, none⟩ (.int .i64 (e.n + 1))) := (HQ5.out.fr _).setCell _ _ (.inl hb')
                have HE6 := Lib.hid hE6
                have HF6 := Lib.hid hF6
                have HLEN := Lib.hid hlen
                clear hE6 hF6 hlen hce he2 hc' hh' h0 hen hop
                generalize hln : out.length = ln at *
                subst hl
                generalize hLL : l.length = LL at *
                go_wp2_with fail
                go_meet
                exact ⟨_, _, by rw [HLEN.out], HE6.out, HF6.out⟩
            | false =>
              have hap : (wc.alloc (.cells #[.int .i64 op, .int .i64 i, .int .i64 j, .int .i64 1] 97)).heap.size = wc.heap.size + 1 := by simp
              have hA : (wc.alloc (.cells #[.int .i64 op, .int .i64 i, .int .i64 j, .int .i64 1] 97)).heap[wc.heap.size]? = some (.cells #[.int .i64 op, .int .i64 i, .int .i64 j, .int .i64 1] 97) := (MapKept.heap_alloc wc _).1
              have hfa : Fr (fun _ => False) wc (wc.alloc (.cells #[.int .i64 op, .int .i64 i, .int .i64 j, .int .i64 1] 97)) := (Fr.refl _ _).alloc _
              have hown := HE5.out.kept hfa (fun _ _ q => q)
              obtain ⟨v', w', hrun, hown', hgr⟩ := run_append_row (P := Tryz.prog) (t := 94) (ty := 94) Tryz.underlying94 info_edit rfl (by omega) hown (A := some ⟨wc.heap.size, 0, none⟩) (m := 1) (c := 1) (news := (Ed.mk op i j 1).vals) rfl
                (.inr ⟨_, _, rfl, fun q u hu => by rw [cell_of_heap hA, Nat.zero_add]; simpa [Ed.vals] using hu⟩) (fun q => by cases q) (by intro u hu; simp [Ed.vals] at hu; rcases hu with rfl | rfl | rfl | rfl <;> rfl) (by unfold maxLen; omega) (by omega) (by rw [hap]; have := HF5.out.size; omega)
              have hne : addE out op i j = out ++ [⟨op, i, j, 1⟩] := by
                rcases List.eq_nil_or_concat out with h0 | ⟨l, e, h0⟩
                · rw [h0, addE_nil4]; rfl
                · have := of_decide_eq_false HP4.out
                  rw [h0, List.concat_eq_append, addE_snoc4, if_neg (fun q => this (by rw [h0]; simp [q]))]
              have hE6 : ∃ A3 c3, v' = .slice A3 (addE out op i j).length c3 ∧ EdOwn w' wB.heap.size A3 c3 (addE out op i j) := by
                rw [hne]
                rcases hown'.2 with ⟨hv, hx2⟩ | ⟨g2, cap, cur, hv, hx2⟩
                · simp at hx2
                · subst hv
                  refine ⟨some ⟨g2, 0, none⟩, cap, by simp, ?_⟩
                  unfold EdOwn
                  simpa using hown'
              have hrow : ∀ k, some k = (Value.slice A2 out.length c2).ownBlock → wB.heap.size ≤ k := by
                intro k hk
                rcases HE5.out.2 with ⟨hv, _⟩ | ⟨g2, cap, cur, hv, hb2, _⟩
                · rw [hv] at hk; cases hk
                · rw [hv] at hk; cases hk; exact hb2
              have hF6 : Fr (fun k => wB.heap.size ≤ k) wr w' := (HQ5.out.fr _).trans ((hfa.mono fun _ _ q => q.elim).trans ((Fr.of_grown hgr).mono fun k _ q => hrow k q) fun k q => .inl q) fun k q => .inl q
              obtain ⟨A3, c3, rfl, hE7⟩ := hE6
              have HE6 := Lib.hid hE7
              have HF6 := Lib.hid hF6
              have HRUN := Lib.hid hrun
              clear hE7 hF6 hrow hne hgr hown hown' hap hA hfa hrun
              go_wp2_with (first | (at_builtin; refine wpList_append_run rfl _ _ _ rfl rfl rfl HRUN.out ?_) | fail)
              go_meet
              exact ⟨_, _, rfl, HE6.out, HF6.out⟩
          obtain ⟨A3, c3, rfl, hE, hF⟩ := hcut
          have HE7 := Lib.hid hE
          have hcell := hF.keep HCE.out (show ¬ wB.heap.size ≤ ba by omega)
          have HF7 := Lib.hid (HFR.out.trans hF fun k q => .inr q)
          have hoz : opAt (listOf s n) (listOf t m) i j = op := by
            rw [← HOP.out]; unfold opAt
            simp only [HXL.out, HYL.out, listOf_length, HD.out]
          obtain ⟨ho, hbi, hbj, hsc⟩ := scrF_step (listOf_length s n) (listOf_length t m) hi hj HLT.out out hoz
          have HSTEP := Lib.hid hsc
          have hstep := step_lcs (w := wc) (i := i) (j := j) op (by omega) (by omega) ho
          have hmea : (n - (if op = 3 then i else i + 1)) + (m - (if op = 2 then j else j + 1)) < (n - i) + (m - j) := by
            rcases ho with rfl | rfl | rfl <;> simp at hbi hbj ⊢ <;> omega
          have hij : i + j + 1 ≤ (if op = 3 then i else i + 1) + (if op = 2 then j else j + 1) := by
            rcases ho with rfl | rfl | rfl <;> simp <;> omega
          have HMEA := Lib.hid hmea
          have HIJ := Lib.hid hij
          generalize (if op = 3 then i else i + 1) = i2 at *
          generalize (if op = 2 then j else j + 1) = j2 at *
          have c0 := cell_of_heap hcell 0
          have c1 := cell_of_heap hcell 1
          simp only [List.getElem?_toArray, List.getElem?_cons_zero, List.getElem?_cons_succ] at c0 c1
          have HC7 := Lib.hid hcell
          clear hcell hE hF hoz hsc hmea hij ho
          go_wp2_with fail
          refine hstep.mono ?_
          rintro e w7 ⟨rfl, hf7⟩
          clear hstep c0 c1
          have hcell := hf7.keep HC7.out (fun q => q)
          have d0 := free_of_heap hcell 0
          have d1 := free_of_heap hcell 1
          have c0 := cell_of_heap hcell 0
          have c1 := cell_of_heap hcell 1
          simp only [List.getElem?_toArray, List.getElem?_cons_zero, List.getElem?_cons_succ] at c0 c1
          have HC8 := Lib.hid hcell
          have HF8 := Lib.hid hf7
          clear hcell hf7
          go_wp2
          go_roundw
          case rel =>
            have hf8 : Fr (· = ba) wc w7 := HF8.out.mono fun _ _ q => q.elim
            have hfx : Fr (· = ba) wc ((w7.setCell ⟨ba, 0, none⟩ (.int .i64 i2)).setCell ⟨ba, 1, none⟩ (.int .i64 j2)) := (hf8.setCell ⟨ba, 0, none⟩ _ (.inl rfl)).setCell ⟨ba, 1, none⟩ _ (.inl rfl)
            have hcx := heap_setCell_same _ _ 1 (.int .i64 j2) (heap_setCell_same _ _ 0 (.int .i64 i2) HC8.out)
            refine ⟨i2, j2, addE out op i j, hbi, hbj, ⟨A3, c3, rfl, HE7.out.kept hfx (fun k hk q => by have : k = ba := q; omega)⟩, hcx, HF7.out.trans hfx fun k q => .inl q, HSTEP.out.symm.trans HSC.out, ?_, addE_n HON.out HIJ.out⟩
            have := addE_length out op i j
            have := HIJ.out
            omega
          case measure =>
            have hcx := heap_setCell_same _ _ 1 (.int .i64 j2) (heap_setCell_same _ _ 0 (.int .i64 i2) HC8.out)
            rw [remains_eq hcx, remains_eq HCE.out]
            exact HMEA.out
    · obtain ⟨j, rfl⟩ : ∃ j, k = j + 1 := ⟨k - 1, by omega⟩
      rw [show ((j + 1 : Nat) : Int) - 1 = (j : Int) from by omega] at hv
      subst hv
      have hj : j < n + 1 := by omega
      have HT := Lib.hid hT
      have HFr := Lib.hid hF
      have HYL2 := HYL.out
      have hlt1 : w1.heap.size < wr.heap.size := hT.1.lt
      have hrowz := fun (C : Option Addr) (cn cc : Nat) => row_any' (w := wr) (A := some ⟨g, 0, none⟩) (B := some ⟨h, 0, none⟩) (C := C) (cn := cn) (cc := cc) (ca := n) (cb := m) (i := j) HXL.out HYL.out (by omega) (by omega) (by omega) (HX.out.fr hF) (HY.out.fr hF)
      clear hk0
      by_cases hjn : j = n
      · have e1 : ¬ ((j : Int) < (n : Int)) := by omega
        have hrow := hrowz none 0 0 (fun hlt => by omega)
        clear hT hF hrowz hjn
        go_wp2_with fail
        refine hrow.mono ?_
        rintro e w3 ⟨g2, rfl, hR, hF2, hg2⟩
        rw [HYL2] at hR ⊢
        clear hrow HYL2
        have hT3 := HT.out.fr hF2 (fun _ _ q => q)
        have c0 := hT3.1.cell hj
        have c1 := hT3.1.free j
        rw [if_neg (by omega)] at c0
        have HR := Lib.hid hR
        have HT3 := Lib.hid hT3
        have HF3 := Lib.hid (HFr.out.trans hF2 fun _ q => q.elim)
        clear hR hF2 hT3
        go_wp2
        go_roundw
        case rel => exact ⟨j, by omega, rfl, HF3.out.setCell _ _ (.inr (Nat.le_refl _)), _, HT3.out.step (by omega) HR.out⟩
        case measure => simp [intOf] <;> omega
      · have e1 : ((j : Int) < (n : Int)) := by omega
        have hrow := hrowz (some ⟨gb (j + 1), 0, none⟩) (m + 1) (m + 1) (fun hlt => ⟨rfl, (hT.2 (j + 1) (by omega) (by omega)).sl⟩)
        have b0 := hT.1.cell (show j + 1 < n + 1 by omega)
        rw [if_pos (by omega)] at b0
        clear hT hF hrowz hjn
        go_wp2_with fail
        refine hrow.mono ?_
        rintro e w3 ⟨g2, rfl, hR, hF2, hg2⟩
        rw [HYL2] at hR ⊢
        clear hrow HYL2 b0
        have hT3 := HT.out.fr hF2 (fun _ _ q => q)
        have c0 := hT3.1.cell hj
        have c1 := hT3.1.free j
        rw [if_neg (by omega)] at c0
        have HR := Lib.hid hR
        have HT3 := Lib.hid hT3
        have HF3 := Lib.hid (HFr.out.trans hF2 fun _ q => q.elim)
        clear hR hF2 hT3
        go_wp2
        go_roundw
        case rel => exact ⟨j, by omega, rfl, HF3.out.setCell _ _ (.inr (Nat.le_refl _)), _, HT3.out.step (by omega) HR.out⟩
        case measure => simp [intOf] <;> omega
end Go.Proofs.YtfbpbkcplpkndaaGreatDoor
end
section
namespace Go.Proofs.YtfbpbkcplpkndaaGreatDoor
set_option linter.unusedVariables false
set_option linter.unusedSimpArgs false
theorem get_some00 {α : Type} {o : Option α} {d : α} (h : o.isSome = true) : o = some (o.getD d) := by cases o with | none => cases h | some a => rfl
def ac00 : AFunc := AFunc.mk 0 0 [] (ACode.region [] []) false
def MS : List Nat := [36, 39, 40, 45, 49, 50, 51, 53, 54, 55, 68, 70, 78, 81, 82, 84, 86, 29, 36, 39, 40, 45, 48, 49, 50, 51, 53, 54, 55, 68, 70, 78, 81, 82, 84, 86, 91, 1000000, 2000051, 2000017, 2000045, 2000081, 2000086, 2000020, 2000019, 2000050, 2000078, 2000049, 2000054, 2000055, 2000053, 2000084, 2000086, 2000082, 34]
noncomputable def ac3 : AFunc := (comp Tryz.prog MS 3).getD ac00
theorem comp3 : comp Tryz.prog MS 3 = some ac3 := get_some00 (by kernel_rfl)
noncomputable def ac4 : AFunc := (comp Tryz.prog MS 4).getD ac00
theorem comp4 : comp Tryz.prog MS 4 = some ac4 := get_some00 (by kernel_rfl)
noncomputable def ac5 : AFunc := (comp Tryz.prog MS 5).getD ac00
theorem comp5 : comp Tryz.prog MS 5 = some ac5 := get_some00 (by kernel_rfl)
noncomputable def ac6 : AFunc := (comp Tryz.prog MS 6).getD ac00
theorem comp6 : comp Tryz.prog MS 6 = some ac6 := get_some00 (by kernel_rfl)
noncomputable def ac7 : AFunc := (comp Tryz.prog MS 7).getD ac00
theorem comp7 : comp Tryz.prog MS 7 = some ac7 := get_some00 (by kernel_rfl)
noncomputable def ac8 : AFunc := (comp Tryz.prog MS 8).getD ac00
theorem comp8 : comp Tryz.prog MS 8 = some ac8 := get_some00 (by kernel_rfl)
noncomputable def ac9 : AFunc := (comp Tryz.prog MS 9).getD ac00
theorem comp9 : comp Tryz.prog MS 9 = some ac9 := get_some00 (by kernel_rfl)
noncomputable def ac10 : AFunc := (comp Tryz.prog MS 10).getD ac00
theorem comp10 : comp Tryz.prog MS 10 = some ac10 := get_some00 (by kernel_rfl)
noncomputable def ac11 : AFunc := (comp Tryz.prog MS 11).getD ac00
theorem comp11 : comp Tryz.prog MS 11 = some ac11 := get_some00 (by kernel_rfl)
noncomputable def ac12 : AFunc := (comp Tryz.prog MS 12).getD ac00
theorem comp12 : comp Tryz.prog MS 12 = some ac12 := get_some00 (by kernel_rfl)
noncomputable def ac13 : AFunc := (comp Tryz.prog MS 13).getD ac00
theorem comp13 : comp Tryz.prog MS 13 = some ac13 := get_some00 (by kernel_rfl)
noncomputable def ac14 : AFunc := (comp Tryz.prog MS 14).getD ac00
theorem comp14 : comp Tryz.prog MS 14 = some ac14 := get_some00 (by kernel_rfl)
noncomputable def ac15 : AFunc := (comp Tryz.prog MS 15).getD ac00
theorem comp15 : comp Tryz.prog MS 15 = some ac15 := get_some00 (by kernel_rfl)
noncomputable def ac16 : AFunc := (comp Tryz.prog MS 16).getD ac00
theorem comp16 : comp Tryz.prog MS 16 = some ac16 := get_some00 (by kernel_rfl)
noncomputable def ac17 : AFunc := (comp Tryz.prog MS 17).getD ac00
theorem comp17 : comp Tryz.prog MS 17 = some ac17 := get_some00 (by kernel_rfl)
noncomputable def ac18 : AFunc := (comp Tryz.prog MS 18).getD ac00
theorem comp18 : comp Tryz.prog MS 18 = some ac18 := get_some00 (by kernel_rfl)
noncomputable def ac19 : AFunc := (comp Tryz.prog MS 19).getD ac00
theorem comp19 : comp Tryz.prog MS 19 = some ac19 := get_some00 (by kernel_rfl)
noncomputable def ac20 : AFunc := (comp Tryz.prog MS 20).getD ac00
theorem comp20 : comp Tryz.prog MS 20 = some ac20 := get_some00 (by kernel_rfl)
noncomputable def ac21 : AFunc := (comp Tryz.prog MS 21).getD ac00
theorem comp21 : comp Tryz.prog MS 21 = some ac21 := get_some00 (by kernel_rfl)
noncomputable def ac22 : AFunc := (comp Tryz.prog MS 22).getD ac00
theorem comp22 : comp Tryz.prog MS 22 = some ac22 := get_some00 (by kernel_rfl)
noncomputable def ac23 : AFunc := (comp Tryz.prog MS 23).getD ac00
theorem comp23 : comp Tryz.prog MS 23 = some ac23 := get_some00 (by kernel_rfl)
noncomputable def ac24 : AFunc := (comp Tryz.prog MS 24).getD ac00
theorem comp24 : comp Tryz.prog MS 24 = some ac24 := get_some00 (by kernel_rfl)
noncomputable def ac25 : AFunc := (comp Tryz.prog MS 25).getD ac00
theorem comp25 : comp Tryz.prog MS 25 = some ac25 := get_some00 (by kernel_rfl)
noncomputable def ac27 : AFunc := (comp Tryz.prog MS 27).getD ac00
theorem comp27 : comp Tryz.prog MS 27 = some ac27 := get_some00 (by kernel_rfl)
noncomputable def ac28 : AFunc := (comp Tryz.prog MS 28).getD ac00
theorem comp28 : comp Tryz.prog MS 28 = some ac28 := get_some00 (by kernel_rfl)
noncomputable def ac29 : AFunc := (comp Tryz.prog MS 29).getD ac00
theorem comp29 : comp Tryz.prog MS 29 = some ac29 := get_some00 (by kernel_rfl)
noncomputable def ac30 : AFunc := (comp Tryz.prog MS 30).getD ac00
theorem comp30 : comp Tryz.prog MS 30 = some ac30 := get_some00 (by kernel_rfl)
noncomputable def ac31 : AFunc := (comp Tryz.prog MS 31).getD ac00
theorem comp31 : comp Tryz.prog MS 31 = some ac31 := get_some00 (by kernel_rfl)
noncomputable def ac32 : AFunc := (comp Tryz.prog MS 32).getD ac00
theorem comp32 : comp Tryz.prog MS 32 = some ac32 := get_some00 (by kernel_rfl)
noncomputable def ac33 : AFunc := (comp Tryz.prog MS 33).getD ac00
theorem comp33 : comp Tryz.prog MS 33 = some ac33 := get_some00 (by kernel_rfl)
noncomputable def ac34 : AFunc := (comp Tryz.prog MS 34).getD ac00
theorem comp34 : comp Tryz.prog MS 34 = some ac34 := get_some00 (by kernel_rfl)
noncomputable def ac35 : AFunc := (comp Tryz.prog MS 35).getD ac00
theorem comp35 : comp Tryz.prog MS 35 = some ac35 := get_some00 (by kernel_rfl)
noncomputable def ac36 : AFunc := (comp Tryz.prog MS 36).getD ac00
theorem comp36 : comp Tryz.prog MS 36 = some ac36 := get_some00 (by kernel_rfl)
noncomputable def ac37 : AFunc := (comp Tryz.prog MS 37).getD ac00
theorem comp37 : comp Tryz.prog MS 37 = some ac37 := get_some00 (by kernel_rfl)
noncomputable def ac38 : AFunc := (comp Tryz.prog MS 38).getD ac00
theorem comp38 : comp Tryz.prog MS 38 = some ac38 := get_some00 (by kernel_rfl)
noncomputable def ac39 : AFunc := (comp Tryz.prog MS 39).getD ac00
theorem comp39 : comp Tryz.prog MS 39 = some ac39 := get_some00 (by kernel_rfl)
noncomputable def ac41 : AFunc := (comp Tryz.prog MS 41).getD ac00
theorem comp41 : comp Tryz.prog MS 41 = some ac41 := get_some00 (by kernel_rfl)
noncomputable def ac42 : AFunc := (comp Tryz.prog MS 42).getD ac00
theorem comp42 : comp Tryz.prog MS 42 = some ac42 := get_some00 (by kernel_rfl)
noncomputable def ac43 : AFunc := (comp Tryz.prog MS 43).getD ac00
theorem comp43 : comp Tryz.prog MS 43 = some ac43 := get_some00 (by kernel_rfl)
noncomputable def ac44 : AFunc := (comp Tryz.prog MS 44).getD ac00
theorem comp44 : comp Tryz.prog MS 44 = some ac44 := get_some00 (by kernel_rfl)
noncomputable def ac45 : AFunc := (comp Tryz.prog MS 45).getD ac00
theorem comp45 : comp Tryz.prog MS 45 = some ac45 := get_some00 (by kernel_rfl)
noncomputable def ac46 : AFunc := (comp Tryz.prog MS 46).getD ac00
theorem comp46 : comp Tryz.prog MS 46 = some ac46 := get_some00 (by kernel_rfl)
noncomputable def ac47 : AFunc := (comp Tryz.prog MS 47).getD ac00
theorem comp47 : comp Tryz.prog MS 47 = some ac47 := get_some00 (by kernel_rfl)
noncomputable def ac49 : AFunc := (comp Tryz.prog MS 49).getD ac00
theorem comp49 : comp Tryz.prog MS 49 = some ac49 := get_some00 (by kernel_rfl)
noncomputable def ac50 : AFunc := (comp Tryz.prog MS 50).getD ac00
theorem comp50 : comp Tryz.prog MS 50 = some ac50 := get_some00 (by kernel_rfl)
noncomputable def ac51 : AFunc := (comp Tryz.prog MS 51).getD ac00
theorem comp51 : comp Tryz.prog MS 51 = some ac51 := get_some00 (by kernel_rfl)
noncomputable def ac52 : AFunc := (comp Tryz.prog MS 52).getD ac00
theorem comp52 : comp Tryz.prog MS 52 = some ac52 := get_some00 (by kernel_rfl)
noncomputable def ac53 : AFunc := (comp Tryz.prog MS 53).getD ac00
theorem comp53 : comp Tryz.prog MS 53 = some ac53 := get_some00 (by kernel_rfl)
noncomputable def ac54 : AFunc := (comp Tryz.prog MS 54).getD ac00
theorem comp54 : comp Tryz.prog MS 54 = some ac54 := get_some00 (by kernel_rfl)
noncomputable def ac55 : AFunc := (comp Tryz.prog MS 55).getD ac00
theorem comp55 : comp Tryz.prog MS 55 = some ac55 := get_some00 (by kernel_rfl)
noncomputable def ac56 : AFunc := (comp Tryz.prog MS 56).getD ac00
theorem comp56 : comp Tryz.prog MS 56 = some ac56 := get_some00 (by kernel_rfl)
noncomputable def ac57 : AFunc := (comp Tryz.prog MS 57).getD ac00
theorem comp57 : comp Tryz.prog MS 57 = some ac57 := get_some00 (by kernel_rfl)
noncomputable def ac58 : AFunc := (comp Tryz.prog MS 58).getD ac00
theorem comp58 : comp Tryz.prog MS 58 = some ac58 := get_some00 (by kernel_rfl)
noncomputable def ac61 : AFunc := (comp Tryz.prog MS 61).getD ac00
theorem comp61 : comp Tryz.prog MS 61 = some ac61 := get_some00 (by kernel_rfl)
noncomputable def ac64 : AFunc := (comp Tryz.prog MS 64).getD ac00
theorem comp64 : comp Tryz.prog MS 64 = some ac64 := get_some00 (by kernel_rfl)
noncomputable def ac65 : AFunc := (comp Tryz.prog MS 65).getD ac00
theorem comp65 : comp Tryz.prog MS 65 = some ac65 := get_some00 (by kernel_rfl)
noncomputable def ac66 : AFunc := (comp Tryz.prog MS 66).getD ac00
theorem comp66 : comp Tryz.prog MS 66 = some ac66 := get_some00 (by kernel_rfl)
noncomputable def ac70 : AFunc := (comp Tryz.prog MS 70).getD ac00
theorem comp70 : comp Tryz.prog MS 70 = some ac70 := get_some00 (by kernel_rfl)
noncomputable def ac71 : AFunc := (comp Tryz.prog MS 71).getD ac00
theorem comp71 : comp Tryz.prog MS 71 = some ac71 := get_some00 (by kernel_rfl)
noncomputable def ac72 : AFunc := (comp Tryz.prog MS 72).getD ac00
theorem comp72 : comp Tryz.prog MS 72 = some ac72 := get_some00 (by kernel_rfl)
noncomputable def ac73 : AFunc := (comp Tryz.prog MS 73).getD ac00
theorem comp73 : comp Tryz.prog MS 73 = some ac73 := get_some00 (by kernel_rfl)
noncomputable def ac74 : AFunc := (comp Tryz.prog MS 74).getD ac00
theorem comp74 : comp Tryz.prog MS 74 = some ac74 := get_some00 (by kernel_rfl)
noncomputable def ac75 : AFunc := (comp Tryz.prog MS 75).getD ac00
theorem comp75 : comp Tryz.prog MS 75 = some ac75 := get_some00 (by kernel_rfl)
noncomputable def ac76 : AFunc := (comp Tryz.prog MS 76).getD ac00
theorem comp76 : comp Tryz.prog MS 76 = some ac76 := get_some00 (by kernel_rfl)
noncomputable def ac78 : AFunc := (comp Tryz.prog MS 78).getD ac00
theorem comp78 : comp Tryz.prog MS 78 = some ac78 := get_some00 (by kernel_rfl)
noncomputable def ac79 : AFunc := (comp Tryz.prog MS 79).getD ac00
theorem comp79 : comp Tryz.prog MS 79 = some ac79 := get_some00 (by kernel_rfl)
noncomputable def ac81 : AFunc := (comp Tryz.prog MS 81).getD ac00
theorem comp81 : comp Tryz.prog MS 81 = some ac81 := get_some00 (by kernel_rfl)
noncomputable def ac82 : AFunc := (comp Tryz.prog MS 82).getD ac00
theorem comp82 : comp Tryz.prog MS 82 = some ac82 := get_some00 (by kernel_rfl)
noncomputable def ac83 : AFunc := (comp Tryz.prog MS 83).getD ac00
theorem comp83 : comp Tryz.prog MS 83 = some ac83 := get_some00 (by kernel_rfl)
noncomputable def ac84 : AFunc := (comp Tryz.prog MS 84).getD ac00
theorem comp84 : comp Tryz.prog MS 84 = some ac84 := get_some00 (by kernel_rfl)
noncomputable def ac85 : AFunc := (comp Tryz.prog MS 85).getD ac00
theorem comp85 : comp Tryz.prog MS 85 = some ac85 := get_some00 (by kernel_rfl)
noncomputable def ac86 : AFunc := (comp Tryz.prog MS 86).getD ac00
theorem comp86 : comp Tryz.prog MS 86 = some ac86 := get_some00 (by kernel_rfl)
noncomputable def ac90 : AFunc := (comp Tryz.prog MS 90).getD ac00
theorem comp90 : comp Tryz.prog MS 90 = some ac90 := get_some00 (by kernel_rfl)
noncomputable def ac91 : AFunc := (comp Tryz.prog MS 91).getD ac00
theorem comp91 : comp Tryz.prog MS 91 = some ac91 := get_some00 (by kernel_rfl)
noncomputable def ac98 : AFunc := (comp Tryz.prog MS 98).getD ac00
theorem comp98 : comp Tryz.prog MS 98 = some ac98 := get_some00 (by kernel_rfl)
noncomputable def ac101 : AFunc := (comp Tryz.prog MS 101).getD ac00
theorem comp101 : comp Tryz.prog MS 101 = some ac101 := get_some00 (by kernel_rfl)
noncomputable def ac102 : AFunc := (comp Tryz.prog MS 102).getD ac00
theorem comp102 : comp Tryz.prog MS 102 = some ac102 := get_some00 (by kernel_rfl)
noncomputable def ac103 : AFunc := (comp Tryz.prog MS 103).getD ac00
theorem comp103 : comp Tryz.prog MS 103 = some ac103 := get_some00 (by kernel_rfl)
noncomputable def ac104 : AFunc := (comp Tryz.prog MS 104).getD ac00
theorem comp104 : comp Tryz.prog MS 104 = some ac104 := get_some00 (by kernel_rfl)
noncomputable def ac105 : AFunc := (comp Tryz.prog MS 105).getD ac00
theorem comp105 : comp Tryz.prog MS 105 = some ac105 := get_some00 (by kernel_rfl)
noncomputable def ac114 : AFunc := (comp Tryz.prog MS 114).getD ac00
theorem comp114 : comp Tryz.prog MS 114 = some ac114 := get_some00 (by kernel_rfl)
noncomputable def ac115 : AFunc := (comp Tryz.prog MS 115).getD ac00
theorem comp115 : comp Tryz.prog MS 115 = some ac115 := get_some00 (by kernel_rfl)
noncomputable def ac123 : AFunc := (comp Tryz.prog MS 123).getD ac00
theorem comp123 : comp Tryz.prog MS 123 = some ac123 := get_some00 (by kernel_rfl)
noncomputable def ac124 : AFunc := (comp Tryz.prog MS 124).getD ac00
theorem comp124 : comp Tryz.prog MS 124 = some ac124 := get_some00 (by kernel_rfl)
noncomputable def ac131 : AFunc := (comp Tryz.prog MS 131).getD ac00
theorem comp131 : comp Tryz.prog MS 131 = some ac131 := get_some00 (by kernel_rfl)
noncomputable def ac133 : AFunc := (comp Tryz.prog MS 133).getD ac00
theorem comp133 : comp Tryz.prog MS 133 = some ac133 := get_some00 (by kernel_rfl)
noncomputable def FT : FuncId → Option AFunc
 | 3 => some ac3
 | 4 => some ac4
 | 5 => some ac5
 | 6 => some ac6
 | 7 => some ac7
 | 8 => some ac8
 | 9 => some ac9
 | 10 => some ac10
 | 11 => some ac11
 | 12 => some ac12
 | 13 => some ac13
 | 14 => some ac14
 | 15 => some ac15
 | 16 => some ac16
 | 17 => some ac17
 | 18 => some ac18
 | 19 => some ac19
 | 20 => some ac20
 | 21 => some ac21
 | 22 => some ac22
 | 23 => some ac23
 | 24 => some ac24
 | 25 => some ac25
 | 27 => some ac27
 | 28 => some ac28
 | 29 => some ac29
 | 30 => some ac30
 | 31 => some ac31
 | 32 => some ac32
 | 33 => some ac33
 | 34 => some ac34
 | 35 => some ac35
 | 36 => some ac36
 | 37 => some ac37
 | 38 => some ac38
 | 39 => some ac39
 | 41 => some ac41
 | 42 => some ac42
 | 43 => some ac43
 | 44 => some ac44
 | 45 => some ac45
 | 46 => some ac46
 | 47 => some ac47
 | 49 => some ac49
 | 50 => some ac50
 | 51 => some ac51
 | 52 => some ac52
 | 53 => some ac53
 | 54 => some ac54
 | 55 => some ac55
 | 56 => some ac56
 | 57 => some ac57
 | 58 => some ac58
 | 61 => some ac61
 | 64 => some ac64
 | 65 => some ac65
 | 66 => some ac66
 | 70 => some ac70
 | 71 => some ac71
 | 72 => some ac72
 | 73 => some ac73
 | 74 => some ac74
 | 75 => some ac75
 | 76 => some ac76
 | 78 => some ac78
 | 79 => some ac79
 | 81 => some ac81
 | 82 => some ac82
 | 83 => some ac83
 | 84 => some ac84
 | 85 => some ac85
 | 86 => some ac86
 | 90 => some ac90
 | 91 => some ac91
 | 98 => some ac98
 | 101 => some ac101
 | 102 => some ac102
 | 103 => some ac103
 | 104 => some ac104
 | 105 => some ac105
 | 114 => some ac114
 | 115 => some ac115
 | 123 => some ac123
 | 124 => some ac124
 | 131 => some ac131
 | 133 => some ac133
 | _ => none
theorem FT_ok : ∀ f af, FT f = some af → ∃ hn, compFunc Tryz.prog hn f = some af := by
 intro f af h
 unfold FT at h
 split at h
 ·injection h with h; subst h; exact comp_ok comp3
 ·injection h with h; subst h; exact comp_ok comp4
 ·injection h with h; subst h; exact comp_ok comp5
 ·injection h with h; subst h; exact comp_ok comp6
 ·injection h with h; subst h; exact comp_ok comp7
 ·injection h with h; subst h; exact comp_ok comp8
 ·injection h with h; subst h; exact comp_ok comp9
 ·injection h with h; subst h; exact comp_ok comp10
 ·injection h with h; subst h; exact comp_ok comp11
 ·injection h with h; subst h; exact comp_ok comp12
 ·injection h with h; subst h; exact comp_ok comp13
 ·injection h with h; subst h; exact comp_ok comp14
 ·injection h with h; subst h; exact comp_ok comp15
 ·injection h with h; subst h; exact comp_ok comp16
 ·injection h with h; subst h; exact comp_ok comp17
 ·injection h with h; subst h; exact comp_ok comp18
 ·injection h with h; subst h; exact comp_ok comp19
 ·injection h with h; subst h; exact comp_ok comp20
 ·injection h with h; subst h; exact comp_ok comp21
 ·injection h with h; subst h; exact comp_ok comp22
 ·injection h with h; subst h; exact comp_ok comp23
 ·injection h with h; subst h; exact comp_ok comp24
 ·injection h with h; subst h; exact comp_ok comp25
 ·injection h with h; subst h; exact comp_ok comp27
 ·injection h with h; subst h; exact comp_ok comp28
 ·injection h with h; subst h; exact comp_ok comp29
 ·injection h with h; subst h; exact comp_ok comp30
 ·injection h with h; subst h; exact comp_ok comp31
 ·injection h with h; subst h; exact comp_ok comp32
 ·injection h with h; subst h; exact comp_ok comp33
 ·injection h with h; subst h; exact comp_ok comp34
 ·injection h with h; subst h; exact comp_ok comp35
 ·injection h with h; subst h; exact comp_ok comp36
 ·injection h with h; subst h; exact comp_ok comp37
 ·injection h with h; subst h; exact comp_ok comp38
 ·injection h with h; subst h; exact comp_ok comp39
 ·injection h with h; subst h; exact comp_ok comp41
 ·injection h with h; subst h; exact comp_ok comp42
 ·injection h with h; subst h; exact comp_ok comp43
 ·injection h with h; subst h; exact comp_ok comp44
 ·injection h with h; subst h; exact comp_ok comp45
 ·injection h with h; subst h; exact comp_ok comp46
 ·injection h with h; subst h; exact comp_ok comp47
 ·injection h with h; subst h; exact comp_ok comp49
 ·injection h with h; subst h; exact comp_ok comp50
 ·injection h with h; subst h; exact comp_ok comp51
 ·injection h with h; subst h; exact comp_ok comp52
 ·injection h with h; subst h; exact comp_ok comp53
 ·injection h with h; subst h; exact comp_ok comp54
 ·injection h with h; subst h; exact comp_ok comp55
 ·injection h with h; subst h; exact comp_ok comp56
 ·injection h with h; subst h; exact comp_ok comp57
 ·injection h with h; subst h; exact comp_ok comp58
 ·injection h with h; subst h; exact comp_ok comp61
 ·injection h with h; subst h; exact comp_ok comp64
 ·injection h with h; subst h; exact comp_ok comp65
 ·injection h with h; subst h; exact comp_ok comp66
 ·injection h with h; subst h; exact comp_ok comp70
 ·injection h with h; subst h; exact comp_ok comp71
 ·injection h with h; subst h; exact comp_ok comp72
 ·injection h with h; subst h; exact comp_ok comp73
 ·injection h with h; subst h; exact comp_ok comp74
 ·injection h with h; subst h; exact comp_ok comp75
 ·injection h with h; subst h; exact comp_ok comp76
 ·injection h with h; subst h; exact comp_ok comp78
 ·injection h with h; subst h; exact comp_ok comp79
 ·injection h with h; subst h; exact comp_ok comp81
 ·injection h with h; subst h; exact comp_ok comp82
 ·injection h with h; subst h; exact comp_ok comp83
 ·injection h with h; subst h; exact comp_ok comp84
 ·injection h with h; subst h; exact comp_ok comp85
 ·injection h with h; subst h; exact comp_ok comp86
 ·injection h with h; subst h; exact comp_ok comp90
 ·injection h with h; subst h; exact comp_ok comp91
 ·injection h with h; subst h; exact comp_ok comp98
 ·injection h with h; subst h; exact comp_ok comp101
 ·injection h with h; subst h; exact comp_ok comp102
 ·injection h with h; subst h; exact comp_ok comp103
 ·injection h with h; subst h; exact comp_ok comp104
 ·injection h with h; subst h; exact comp_ok comp105
 ·injection h with h; subst h; exact comp_ok comp114
 ·injection h with h; subst h; exact comp_ok comp115
 ·injection h with h; subst h; exact comp_ok comp123
 ·injection h with h; subst h; exact comp_ok comp124
 ·injection h with h; subst h; exact comp_ok comp131
 ·injection h with h; subst h; exact comp_ok comp133
 ·cases h
end Go.Proofs.YtfbpbkcplpkndaaGreatDoor
end
section
namespace Go.Proofs.YtfbpbkcplpkndaaGreatDoor
set_option linter.unusedVariables false
set_option linter.unusedSimpArgs false
open Go.RowKit
set_option maxHeartbeats 2000000 in
set_option maxRecDepth 100000 in
theorem cc_fresh (b : Nat) (w : World) (h0 : w.cell? ⟨b, 0, none⟩ = some (.pointer none)) (hsh : w.shape? b = some (62, 2)) (hfz : w.frozen? ⟨b, 0, none⟩ = false) :
    Calls Tryz.prog 68 #[.pointer (some ⟨b, 0, none⟩)] w fun e w' => e = .returned (.tuple #[]) ∧ w' = w.setCell ⟨b, 0, none⟩ (.pointer (some ⟨b, 0, none⟩)) := by
  obtain ⟨j, hj, hjs⟩ := Option.map_eq_some_iff.1 (show (Tryz.prog.info? 62).map (·.size) = some 2 by kernel_rfl)
  have hlies : liesAt Tryz.prog Tryz.prog.depth 62 (2 / Tryz.prog.cellsOf 62) 0 62 1 = true := by kernel_rfl
  go_enter Tryz.func68, Tryz.ntmps68
  go_wp2
  rw [Lib.run_to_unsafe w ⟨b, 0, none⟩ Tryz.underlying59 Tryz.underlying122 hj (by rw [hjs]; decide) hsh (Nat.zero_lt_succ 1)]
  simp only [Result.andThen]
  rw [Oper.upon_value]
  go_wp2
  rw [run_callFunc_extern Tryz.func93 (by kernel_rfl) (by kernel_rfl) (by kernel_rfl) (e := Extern.AbiNoEscape.same) (by kernel_rfl)]
  rw [Lib.run_noEscape]
  simp only [Result.andThen]
  rw [Oper.upon_value]
  go_wp2
  rw [Lib.run_from_unsafe w ⟨b, 0, none⟩ Tryz.underlying122 Tryz.underlying59 hj hsh hlies]
  simp only [Result.andThen]
  rw [Oper.upon_value]
  go_wp2
  go_end0
  exact ⟨rfl, rfl⟩
set_option maxHeartbeats 2000000 in
set_option maxRecDepth 100000 in
theorem cc_used (b : Nat) (w : World) (h0 : w.cell? ⟨b, 0, none⟩ = some (.pointer (some ⟨b, 0, none⟩))) :
    Calls Tryz.prog 68 #[.pointer (some ⟨b, 0, none⟩)] w fun e w' => e = .returned (.tuple #[]) ∧ w' = w := by
  obtain ⟨j, hj, hjs⟩ := Option.map_eq_some_iff.1 (show (Tryz.prog.info? 62).map (·.size) = some 2 by kernel_rfl)
  go_enter Tryz.func68, Tryz.ntmps68
  go_wp2
  rw [Lib.run_neq_ptr_same w _ Tryz.underlying59 hj]
  go_wp2
  go_end0
  exact ⟨rfl, rfl⟩
theorem us_none (W : World) (q : Option Addr) : (Builtin.unsafeString_ #[105, 3] 9 #[.pointer q, .int .i64 0]).run Tryz.prog W = .ok (.string .empty) W :=
 Lib.run_unsafeString_none W _ _ _ q
set_option maxHeartbeats 2000000 in
set_option maxRecDepth 100000 in
theorem bs_nil (b : Nat) (p : Value) (w : World) (hbk : w.heap[b]? = some (.cells #[p, .slice none 0 0] 62 (0, 0))) :
    Calls Tryz.prog 40 #[.pointer (some ⟨b, 0, none⟩)] w fun e w' => e = .returned (.string ⟨#[]⟩) ∧ w'.heap = w.heap ∧ Below w.heap.size w w' := by
  have hUS := us_none
  have c1 : w.drew.cell? ⟨b, 1, none⟩ = some (.slice none 0 0) := by
    have : w.drew.heap[b]? = some (.cells #[p, .slice none 0 0] 62 (0, 0)) := hbk
    rw [Lib.cell_of_heap this]; rfl
  have hSD : (Builtin.unsafeSliceData_ #[60] 105 #[.slice none 0 0]).run Tryz.prog w.drew = .ok (.pointer none) w.drew := rfl
  have mixed : Tryz.prog.follows .mixedOrders = true := by kernel_rfl
  go_enter Tryz.func40, Tryz.ntmps40
  go_wp2
  go_region_o
  all_goals (go_wp2; go_ret; exact ⟨rfl, rfl, Below.drew (Below.refl _ w)⟩)
set_option maxHeartbeats 2000000 in
set_option maxRecDepth 100000 in
theorem bs_room (b g cap : Nat) (p : Value) (w : World) (hc0 : cap ≠ 0) (hbk : w.heap[b]? = some (.cells #[p, .slice (some ⟨g, 0, none⟩) 0 cap] 62 (0, 0))) :
    Calls Tryz.prog 40 #[.pointer (some ⟨b, 0, none⟩)] w fun e w' => e = .returned (.string ⟨#[]⟩) ∧ w'.heap = w.heap ∧ Below w.heap.size w w' := by
  have hUS := us_none
  have c1 : w.drew.cell? ⟨b, 1, none⟩ = some (.slice (some ⟨g, 0, none⟩) 0 cap) := by
    have : w.drew.heap[b]? = some (.cells #[p, .slice (some ⟨g, 0, none⟩) 0 cap] 62 (0, 0)) := hbk
    rw [Lib.cell_of_heap this]; rfl
  have hSD : (Builtin.unsafeSliceData_ #[60] 105 #[.slice (some ⟨g, 0, none⟩) 0 cap]).run Tryz.prog w.drew = .ok (.pointer (some ⟨g, 0, none⟩)) w.drew :=
    Lib.run_unsafeSliceData_row _ _ _ _ _ _ hc0
  clear hc0
  have mixed : Tryz.prog.follows .mixedOrders = true := by kernel_rfl
  go_enter Tryz.func40, Tryz.ntmps40
  go_wp2
  go_region_o
  all_goals (go_wp2; go_ret; exact ⟨rfl, rfl, Below.drew (Below.refl _ w)⟩)
set_option maxHeartbeats 2000000 in
set_option maxRecDepth 100000 in
theorem bs_row (b g cap : Nat) (p : Value) (cur : Array Value) (fz : Nat × Nat) (l : List UInt8) (w : World) (h0 : l ≠ []) (hbk : w.heap[b]? = some (.cells #[p, .slice (some ⟨g, 0, none⟩) l.length cap] 62 (0, 0)))
    (hg : w.heap[g]? = some (.cells cur 5 fz)) (hnc : l.length ≤ cap) (hcm : l.length ≤ 9223372036854775807) (hcs : cap ≤ cur.size) (hcell : ∀ j x, l[j]? = some x → w.cell? ⟨g, j, none⟩ = some (.int .u8 x.toNat)) :
    Calls Tryz.prog 40 #[.pointer (some ⟨b, 0, none⟩)] w fun e w' => e = .returned (.string ⟨l.toArray⟩) ∧ w' = w.drew.freeze ⟨g, 0, none⟩ l.length := by
  have hl0 : l.length ≠ 0 := by simpa using h0
  have c1 : w.drew.cell? ⟨b, 1, none⟩ = some (.slice (some ⟨g, 0, none⟩) l.length cap) := by
    have : w.drew.heap[b]? = some (.cells #[p, .slice (some ⟨g, 0, none⟩) l.length cap] 62 (0, 0)) := hbk
    rw [Lib.cell_of_heap this]; rfl
  have hSD : (Builtin.unsafeSliceData_ #[60] 105 #[.slice (some ⟨g, 0, none⟩) l.length cap]).run Tryz.prog w.drew = .ok (.pointer (some ⟨g, 0, none⟩)) w.drew :=
    Lib.run_unsafeSliceData_row _ _ _ _ _ _ (by omega)
  have hUS : (Builtin.unsafeString_ #[105, 3] 9 #[.pointer (some ⟨g, 0, none⟩), .int .i64 l.length]).run Tryz.prog w.drew = .ok (.string ⟨l.toArray⟩) (w.drew.freeze ⟨g, 0, none⟩ l.length) := by
    refine Lib.run_unsafeString_row w.drew 105 3 9 5 Tryz.underlying105 (by kernel_rfl) g cur.size (by have hg' : w.drew.heap[g]? = some (.cells cur 5 fz) := hg; simp [World.shape?, hg']) l h0 (by omega) hcm ?_
    intro j x hx
    have e : (⟨g, 0, none⟩ : Addr).add j = ⟨g, j, none⟩ := by by_cases h : j = 0 <;> simp [Addr.add, h]
    rw [e]
    exact hcell j x hx
  have mixed : Tryz.prog.follows .mixedOrders = true := by kernel_rfl
  go_enter Tryz.func40, Tryz.ntmps40
  go_wp2
  go_region_o
  all_goals (go_wp2; go_ret; exact ⟨rfl, rfl⟩)
end Go.Proofs.YtfbpbkcplpkndaaGreatDoor
end
section
namespace Go.Proofs.YtfbpbkcplpkndaaGreatDoor
set_option linter.unusedVariables false
set_option linter.unusedSimpArgs false
set_option maxRecDepth 100000
open Go.RowKit
abbrev bldT : TypeId := BT
def u8F : Nat := 5 + 2
def ccOk (id : Nat) (m : List MObj) : Bool := match m[id]? with
 | some (.box t [.any, _]) => decide (t = bldT)
 | _ => false
def bytesV : List AV → Option Bs
 | [] => some []
 | .val (.int .u8 n) :: r => if 0 ≤ n ∧ n < 256 then (bytesV r).map (UInt8.ofNat n.toNat :: ·) else none
 | _ => none
theorem bytesV_eq : ∀ {l : List AV} {bs : Bs}, bytesV l = some bs → l = bs.map u8A
 | [], bs, h => by simp [bytesV] at h; subst h; rfl
 | x :: l, bs, h => by
  unfold bytesV at h
  split at h
  ·rename_i e; cases e
  ·rename_i n r e
   cases e
   split at h
   ·rename_i hn
    simp only [Option.map_eq_some_iff] at h
    obtain ⟨bs', h1, rfl⟩ := h
    rw [bytesV_eq h1]
    simp only [List.map_cons, u8A, List.cons.injEq, AV.val.injEq, Value.int.injEq, true_and, and_true]
    rw [UInt8.toNat_ofNat']; omega
   ·cases h
  ·cases h
def bsM (id : Nat) (m : List MObj) : Option (AV × List MObj) := match m[id]? with
 | some (.box t [_, .row rid ver used 0 len]) => (match m[rid]? with
  | some (.row v 1 l wr ap) => if t = bldT ∧ v = ver ∧ l.length = used ∧ len = used ∧ ap = u8F ∧ used ≤ 9223372036854775807 then (bytesV l).map fun bs => (strL bs, m.set rid (.row (ver + 1) 1 [] wr ap)) else none
  | _ => none)
 | _ => none
section
variable {X : Nat → Nat → Prop} {o w w' : World} {m : List MObj} {H : List Hd}
theorem setCell_row {b i : Nat} {cs : Array Value} {t : TypeId} {fz : Nat × Nat} (h : w.heap[b]? = some (.cells cs t fz)) (v : Value) : w.setCell ⟨b, i, none⟩ v = w.setRow b (cs.setIfInBounds i v) := by
 have : (w.heap.modify b fun o => match o with | .cells c elem frozen => .cells (if (none : Option Nat).isSome then c else c.setIfInBounds i v) elem frozen | o => o) = w.heap.modify b fun o => match o with | .cells _ elem frozen => .cells (cs.setIfInBounds i v) elem frozen | o => o := by
  apply Array.ext_getElem?
  intro k
  rw [Array.getElem?_modify, Array.getElem?_modify]
  split
  ·rename_i e
   subst e
   rw [h]; rfl
  ·rfl
 unfold World.setCell World.setRow
 exact congrArg (fun hp => ({ w with heap := hp } : World)) this
theorem arg_ptr {vs : Array Value} {id : Nat} {t : TypeId} {cells : List AV} (hm : MemAt X w m H) (hr : RepL (Stab X H w) w H vs [.ptr id 0]) (hobj : m[id]? = some (.box t cells)) :
    ∃ (b : Nat) (cs : Array Value), vs = #[.pointer (some ⟨b, 0, none⟩)] ∧ H[id]? = some (.box b cells.length) ∧ w.heap[b]? = some (.cells cs t (0, 0)) ∧ cs.size = cells.length ∧ (∀ (i : Nat) (y : AV), cells[i]? = some y → Rep (Stab X H w) w H (cs.getD i undef) y) ∧ (t = BT → BOk b cs) := by
  obtain ⟨hn, hr⟩ := hr
  have h0 := hr 0 _ rfl
  have hv : vs = #[vs.getD 0 undef] := by
    apply Array.ext
    · simpa using hn
    · intro i h1 h2
      have h3 : i = 0 := by simp at h2; omega
      subst h3
      simp [Array.getD_eq_getD_getElem?, Array.getElem?_eq_getElem h1]
  generalize vs.getD 0 undef = v at h0 hv
  cases h0 with
  | ptr id off hH =>
    rename_i b n
    have hO := hm.obj _ _ _ hobj hH
    simp only [ObjAt] at hO
    obtain ⟨rfl, cs, h1, h2, h3, h4⟩ := hO
    exact ⟨b, cs, hv, hH, h1, h2, h3, h4⟩
theorem arr2 {cs : Array Value} (h : cs.size = 2) : cs = #[cs.getD 0 undef, cs.getD 1 undef] := by
 apply Array.ext
 ·simpa using h
 ·intro i h1 h2
  have : i < 2 := by simpa using h2
  rcases i with _ | _ | i
  ·simp [Array.getD_eq_getD_getElem?, Array.getElem?_eq_getElem h1]
  ·simp [Array.getD_eq_getD_getElem?, Array.getElem?_eq_getElem h1]
  ·omega
theorem cc_ok {id : Nat} (h : ccOk id m = true) : CallOkM Tryz.prog 68 [.ptr id 0] m (.tuple []) m := by
 refine ⟨⟨_, Tryz.func68, by kernel_rfl, by kernel_rfl⟩, fun X o w H vs hm hfr hnew hX hG hr => ?_⟩
 have rt : ∀ {S : Nat → Nat → Prop} {w : World} {H : List Hd}, Rep S w H (.tuple #[]) (.tuple []) := .tuple rfl fun i y hy => by simp at hy
 unfold ccOk at h
 split at h
 ·rename_i t x hobj
  have ht := of_decide_eq_true h
  subst ht
  obtain ⟨b, cs, rfl, hH, hb, hs, hc, hbk⟩ := arg_ptr hm hr hobj
  have hcs := arr2 hs
  have hbk := hbk rfl
  rcases hbk with h0 | h0
  ·rw [h0] at hcs
   have hcell : w.cell? ⟨b, 0, none⟩ = some (.pointer none) := by
    have : cs[0]? = some (.pointer none) := by rw [hcs]; rfl
    simp [World.cell?, hb, this]
   refine (cc_fresh b w hcell (by simp only [World.shape?, hb, hs]; rfl) (by simp [World.frozen?, hb])).mono fun e w' ⟨he, hw⟩ => ?_
   subst he hw
   rw [setCell_row hb]
   have hgo : Goes X w H (w.setRow b (cs.setIfInBounds 0 (.pointer (some ⟨b, 0, none⟩)))) H := goes_write hH fun o => rfl
   have hset := set_same hH
   have hobs : m.set id (.box bldT [.any, x]) = m := by
    apply List.ext_getElem?
    intro k
    rw [List.getElem?_set]
    split
    ·rename_i e
     subst e
     rw [hobj]
     have := (List.getElem?_eq_some_iff.1 hobj).1
     simp [this]
    ·rfl
   have hmem := hm.upd (id := id) (k' := .box b 2) (o' := .box bldT [.any, x]) (w' := w.setRow b (cs.setIfInBounds 0 (.pointer (some ⟨b, 0, none⟩)))) (by rw [show (Hd.box b 2) = .box b [AV.any, x].length from rfl, hset]; exact hgo) (by simp [World.setRow])
    (fun i k b' hi hk hb' => setRow_other w b b' _ (fun e => hi (hm.apart i id k _ b' hk hH hb' (by rw [e]; rfl)))) (fun b' hb' => by
     simp only [Hd.blk, Option.some.injEq] at hb'
     subst hb'
     exact ⟨by simpa [World.setRow] using hm.lt _ _ b hH rfl, fun i k hi hk hkb => hi (hm.apart i id k _ b hk hH hkb rfl)⟩) (by
     rw [show (Hd.box b 2) = .box b [AV.any, x].length from rfl, hset]
     simp only [ObjAt]
     refine ⟨by simp, _, setRow_heap w b cs _ bldT _ hb, by simpa using hs, fun i y hy => ?_, fun _ => .inr (by rw [hcs]; rfl)⟩
     match i, hy with
     | 0, hy => cases hy; exact .any _ _
     | 1, hy =>
      cases hy
      have : (cs.setIfInBounds 0 (Value.pointer (some ⟨b, 0, none⟩))).getD 1 undef = cs.getD 1 undef := by rw [hcs]; rfl
      rw [this]
      exact hgo.rep (hc 1 _ rfl))
   rw [show (Hd.box b 2) = .box b [AV.any, x].length from rfl, hset, hobs] at hmem
   exact ⟨_, H, rfl, rt, hmem, ⟨hfr.os, hfr.tape, hfr.output, by simpa [World.setRow] using hfr.size, fun k hk q => (setRow_other w b k _ (by have := hnew id _ b hH rfl; omega)).trans (hfr.block k hk q)⟩, hnew, hgo⟩
  ·rw [h0] at hcs
   have hcell : w.cell? ⟨b, 0, none⟩ = some (.pointer (some ⟨b, 0, none⟩)) := by
    have : cs[0]? = some (.pointer (some ⟨b, 0, none⟩)) := by rw [hcs]; rfl
    simp [World.cell?, hb, this]
   refine (cc_used b w hcell).mono fun e w' ⟨he, hw⟩ => ?_
   subst he hw
   exact ⟨_, H, rfl, rt, hm, hfr, hnew, .refl⟩
 ·cases h
theorem freeze_cell (a : Addr) (n b o : Nat) : (w.freeze a n).cell? ⟨b, o, none⟩ = w.cell? ⟨b, o, none⟩ := by
 unfold World.freeze
 split
 ·rfl
 ·unfold World.cell?
  simp only [Array.getElem?_modify]
  by_cases e : a.block = b
  ·rw [if_pos e]
   rcases h : w.heap[b]? with _ | ob
   ·rfl
   ·cases ob with
    | cells c t fz => obtain ⟨lo, hi⟩ := fz; rfl
    | _ => rfl
  ·rw [if_neg e]
theorem freeze_other (a : Addr) (n k : Nat) (hk : k ≠ a.block) : (w.freeze a n).heap[k]? = w.heap[k]? := by
 unfold World.freeze
 split
 ·rfl
 ·simp only [Array.getElem?_modify]
  rw [if_neg (fun e => hk e.symm)]
theorem freeze_size (a : Addr) (n : Nat) : (w.freeze a n).heap.size = w.heap.size := by
 unfold World.freeze
 split
 ·rfl
 ·simp
theorem drop_row {rid ver ver' sz sz' cap g used : Nat} {l : List AV} {wr wr' : Bool} {ap : Nat} (hm : MemAt X w m H) (hrow : m[rid]? = some (.row ver sz l wr ap)) (hH : H[rid]? = some (.row g cap sz' ver' used wr')) (hsz : w'.heap.size = w.heap.size)
    (hoth : ∀ k, (0 < cap → k ≠ g) → w'.heap[k]? = w.heap[k]?) (hcell : ∀ b o, w'.cell? ⟨b, o, none⟩ = w.cell? ⟨b, o, none⟩) :
    MemAt X w' (m.set rid (.row (ver + 1) sz [] wr ap)) (H.set rid (.row 0 0 sz (ver + 1) 0 wr)) ∧ Goes X w H w' (H.set rid (.row 0 0 sz (ver + 1) 0 wr)) := by
  have hO := hm.obj _ _ _ hrow hH
  simp only [ObjAt] at hO
  obtain ⟨rfl, rfl, rfl, -⟩ := hO
  have hlt : rid < H.length := (List.getElem?_eq_some_iff.1 hH).1
  have hgo : Goes X w H w' (H.set rid (.row 0 0 sz (ver' + 1) 0 wr')) := by
    refine ⟨fun i k hk => ?_, fun b o ⟨h1, h2, h3⟩ => ⟨⟨by omega, h2, fun ⟨i, k, hk, hmut⟩ => ?_⟩, hcell b o⟩⟩
    · by_cases hi : i = rid
      · subst hi
        rw [hH] at hk; injection hk with hk; subst hk
        exact ⟨_, List.getElem?_set_self hlt, .inr (.inl (by omega))⟩
      · exact ⟨k, by rw [List.getElem?_set_ne (Ne.symm hi)]; exact hk, k.le_refl⟩
    · by_cases hi : i = rid
      · subst hi
        rw [List.getElem?_set_self hlt] at hk
        injection hk with hk; subst hk
        simp only [Hd.mut] at hmut
        omega
      · rw [List.getElem?_set_ne (Ne.symm hi)] at hk
        exact h3 ⟨i, k, hk, hmut⟩
  refine ⟨hm.upd hgo (by omega) (fun i k b hi hk hb => ?_) (fun b hb => by simp [Hd.blk] at hb) ?_, hgo⟩
  · refine hoth b fun hc e => ?_
    subst e
    exact hi (hm.apart i rid k _ b hk hH hb (by simp [Hd.blk, hc]))
  · simp only [ObjAt]
    exact ⟨by simp, by simp, by simp, by simp, by simp, fun q => by omega, fun i x hx => by simp at hx, fun _ _ => by simp⟩
theorem bs_ok {id : Nat} {r : AV} {m' : List MObj} (h : bsM id m = some (r, m')) : CallOkM Tryz.prog 40 [.ptr id 0] m r m' := by
  refine ⟨⟨_, Tryz.func40, by kernel_rfl, by kernel_rfl⟩, fun X o w H vs hm hfr hnew hX hG hr => ?_⟩
  unfold bsM at h
  split at h
  · rename_i t c rid ver used len hobj
    split at h
    · rename_i v l wr ap hrow
      split at h
      · rename_i hcond
        obtain ⟨ht, hv, hu, hlen, hap, hmx⟩ := hcond
        subst ht hv hlen hap
        simp only [Option.map_eq_some_iff, Prod.mk.injEq] at h
        obtain ⟨bs, hbs, rfl, rfl⟩ := h
        have hl := bytesV_eq hbs
        obtain ⟨b, cs, rfl, hH, hb, hs, hc, -⟩ := arg_ptr hm hr hobj
        have hcs := arr2 hs
        have h1 := hc 1 _ rfl
        generalize cs.getD 1 undef = v1 at h1 hcs
        generalize cs.getD 0 undef = v0 at hcs
        subst hcs
        cases h1 with
        | row _ _ _ _ _ hs' hH' hle hvv =>
          rename_i g cap sz cver cused wr'
          have hO := hm.obj _ _ _ hrow hH'
          simp only [ObjAt] at hO
          obtain ⟨e1, e2, es, e3, e4, e5, e6, e7⟩ := hO
          obtain ⟨g1, g2, A, rfl, g3, g4, g4n⟩ := hvv e1.symm (by omega)
          simp only [Nat.sub_zero, Nat.zero_mul] at g3 g4 g4n hb
          subst e1 e2 es
          have hlen2 := hu.symm.trans (show l.length = bs.length by rw [hl, List.length_map])
          have fin : ∀ w' : World, w'.heap.size = w.heap.size → (∀ k, (0 < cap → k ≠ g) → w'.heap[k]? = w.heap[k]?) → (∀ b o, w'.cell? ⟨b, o, none⟩ = w.cell? ⟨b, o, none⟩) → w'.os = w.os → w'.tape = w.tape → w'.output = w.output →
              ∃ v H', Ending.returned (Value.string ⟨bs.toArray⟩) = .returned v ∧ Rep (Stab X H' w') w' H' v (strL bs) ∧ MemAt X w' (m.set rid (.row (cver + 1) 1 [] wr' u8F)) H' ∧ Fr (fun _ => False) o w' ∧ (∀ (i : Nat) (h : Hd) (b : Nat), H'[i]? = some h → h.blk = some b → o.heap.size ≤ b) ∧ Goes X w H w' H' := by
            intro w' q1 q2 q3 q4 q5 q6
            obtain ⟨r1, r2⟩ := drop_row hm hrow hH' q1 q2 q3
            refine ⟨_, _, rfl, .val _ _, r1, ⟨q4.trans hfr.os, q5.trans hfr.tape, q6.trans hfr.output, by have := hfr.size; omega, fun k hk q => (q2 k fun hcap e => ?_).trans (hfr.block k hk q)⟩, fun i h b' hi hb' => ?_, r2⟩
            · have := hnew _ _ g hH' (by simp [Hd.blk, hcap])
              omega
            · by_cases hi' : i = rid
              · subst hi'
                rw [List.getElem?_set_self (List.getElem?_eq_some_iff.1 hH').1] at hi
                injection hi with hi; subst hi
                simp [Hd.blk] at hb'
              · rw [List.getElem?_set_ne (Ne.symm hi')] at hi
                exact hnew i h b' hi hb'
          by_cases h0 : bs = []
          · subst h0
            simp only [List.length_nil] at hlen2
            subst hlen2
            by_cases hcap : cap = 0
            · subst hcap
              have hg := e7 (by unfold u8F; omega) rfl
              obtain rfl := g4n rfl hg
              refine (bs_nil b v0 w hb).mono fun e w' ⟨he, hw, hbel⟩ => ?_
              subst he
              exact fin w' (by rw [hw]) (fun k _ => by rw [hw]) (fun b o => by simp [World.cell?, hw]) hbel.os hbel.tape hbel.output
            · obtain rfl := g3 (by omega)
              refine (bs_room b g cap v0 w hcap hb).mono fun e w' ⟨he, hw, hbel⟩ => ?_
              subst he
              exact fin w' (by rw [hw]) (fun k _ => by rw [hw]) (fun b o => by simp [World.cell?, hw]) hbel.os hbel.tape hbel.output
          · have hpos : 0 < bs.length := List.length_pos_iff.2 h0
            have hcap : 0 < cap := by omega
            obtain rfl := g3 hcap
            obtain ⟨cur, t, fz, hh, hap, hfz, hsz, hold⟩ := e5 hcap
            have ht : t = 5 := hap.2 (by unfold u8F; omega)
            subst ht
            subst hlen2
            refine (bs_row b g cap v0 cur fz bs w h0 hb hh (by omega) hmx (by omega) fun j x hx => ?_).mono fun e w' ⟨he, hw⟩ => ?_
            · have hjl : j < bs.length := (List.getElem?_eq_some_iff.1 hx).1
              have hlx : l[j]? = some (u8A x) := by rw [hl, List.getElem?_map, hx]; rfl
              have := hold j _ 0 _ hlx rfl
              simp only [Nat.mul_one, Nat.add_zero] at this
              rw [cell_getD hh (by omega), rep_val this]
            · subst he hw
              exact fin _ (freeze_size (w := w.drew) _ _) (fun k hk => freeze_other (w := w.drew) _ _ _ (hk hcap)) (fun b o => freeze_cell (w := w.drew) _ _ _ _) (by unfold World.freeze; split <;> rfl) (by unfold World.freeze; split <;> rfl) (by unfold World.freeze; split <;> rfl)
      · cases h
    · cases h
  · cases h
end
end Go.Proofs.YtfbpbkcplpkndaaGreatDoor
end
section
namespace Go.Proofs.YtfbpbkcplpkndaaGreatDoor
set_option linter.unusedVariables false
set_option linter.unusedSimpArgs false
set_option maxRecDepth 100000
structure BldC (X : CallF) : Prop where
 cc : ∀ (id : Nat) (m : List MObj), ccOk id m = true → (R FT X).m 68 [.ptr id 0] m = some (.tuple [], m)
 str : ∀ (id rid ver used : Nat) (m : List MObj) (c : AV) (l : List AV) (wr : Bool) (bs : Bs) (m' : List MObj), m[id]? = some (.box bldT [c, .row rid ver used 0 used]) → m[rid]? = some (.row ver 1 l wr 7) → l.length = used → bytesV l = some bs → used ≤ 9223372036854775807 → m.set rid (.row (ver + 1) 1 [] wr 7) = m' →
  (R FT X).m 40 [.ptr id 0] m = some (strL bs, m')
structure LibC (X : CallF) : Prop where
 ib : ∀ (s : Bs) (c : UInt8), (R FT X).f 69 [strL s, u8A c] = some (intA (Lib.indexByte s c))
 hp : ∀ s p : Bs, (R FT X).f 80 [strL s, strL p] = some (boolA (Lib.hasPrefix s p))
 cp : ∀ s p : Bs, (R FT X).f 97 [strL s, strL p] = some (.tuple [strL (Lib.trimPrefix s p), boolA (Lib.hasPrefix s p)])
 cs : ∀ s p : Bs, s.length ≤ maxLen → (R FT X).f 63 [strL s, strL p] = some (.tuple [strL (Lib.trimSuffix s p), boolA (Lib.hasSuffix s p)])
 ct : ∀ s p : Bs, s.length ≤ 4000000000 → (R FT X).f 100 [strL s, strL p] = some (.tuple [strL (Lib.cut s p).1, strL (Lib.cut s p).2.1, boolA (Lib.cut s p).2.2])
 co : ∀ (s : Bs) (c : UInt8), (R FT X).f 67 [strL s, strL [c]] = some (boolA (decide (0 ≤ Lib.indexByte s c)))
 ln : ∀ (s : Bs) (m : List MObj), s.length ≤ 4000000000 → (R FT X).m 48 [strL s] m = some (.tuple [.row m.length 0 (lins s).length 0 (lins s).length, boolA (endB s)], m ++ [.row 0 1 ((lins s).map strL) true 0])
end Go.Proofs.YtfbpbkcplpkndaaGreatDoor
end
section
namespace Go.Proofs.YtfbpbkcplpkndaaGreatDoor
set_option linter.unusedVariables false
set_option linter.unusedSimpArgs false
def sqF (s : Bs) : UInt8 × Nat × Bool := match s with
 | [] => (0, 0, false)
 | c :: _ => if 0 ≤ Lib.indexByte escL c then (escB.getD (Lib.indexByte escL c).toNat 0, 1, true) else if c = 92 ∨ c = 34 ∨ c = 47 then (c, 1, true) else (UInt8.ofNat (octV 3 0 s).1, (octV 3 0 s).2, decide (0 < (octV 3 0 s).2 ∧ (octV 3 0 s).1 < 256))
theorem octV_end {k v : Nat} : octV k v [] = (v, 0) := by cases k <;> rfl
theorem octV_n {k v : Nat} {c : UInt8} {r : Bs} (h : ¬ (48 ≤ c.toNat ∧ c.toNat ≤ 55)) : octV k v (c :: r) = (v, 0) := by
 cases k with
 | zero => rfl
 | succ k => rw [octV, if_neg h]
theorem octV_y {k v : Nat} {c : UInt8} {r : Bs} (h : 48 ≤ c.toNat ∧ c.toNat ≤ 55) : octV (k + 1) v (c :: r) = ((octV k (8 * v + (c.toNat - 48)) r).1, (octV k (8 * v + (c.toNat - 48)) r).2 + 1) := by rw [octV, if_pos h]
structure OcI (s : Bs) (n v : Nat) : Prop where
 le : n ≤ 3
 ln : n ≤ s.length
 eq : octV 3 0 s = ((octV (3 - n) v (s.drop n)).1, (octV (3 - n) v (s.drop n)).2 + n)
 bd : v < 8 ^ n
theorem OcI.zero (s : Bs) : OcI s 0 0 := ⟨by omega, by omega, rfl, by decide⟩
theorem OcI.step {s : Bs} {n v : Nat} {c : UInt8} (h : OcI s n v) (hn : n < 3) (hc : s[n]? = some c) (h1 : 48 ≤ c.toNat) (h2 : c.toNat ≤ 55) : OcI s (n + 1) (8 * v + (c.toNat - 48)) where
 le := hn
 ln := (List.getElem?_eq_some_iff.1 hc).1
 eq := by
  rw [h.eq, drop_get hc]
  obtain ⟨k, hk⟩ : ∃ k, 3 - n = k + 1 := ⟨2 - n, by omega⟩
  rw [hk, octV_y ⟨h1, h2⟩, show 3 - (n + 1) = k by omega]
  simp only [Prod.mk.injEq, true_and]; omega
 bd := by
  have := h.bd
  rw [Nat.pow_succ]; omega
theorem OcI.stop {s : Bs} {n v : Nat} (h : OcI s n v) (hs : ¬ n < 3 ∨ s.length ≤ n ∨ ∃ c, s[n]? = some c ∧ ¬ (48 ≤ c.toNat ∧ c.toNat ≤ 55)) : octV 3 0 s = (v, n) := by
 rw [h.eq]
 have hle := h.le
 rcases hs with q | q | ⟨c, hc, hq⟩
 ·rw [show 3 - n = 0 by omega]; simp [octV]
 ·rw [List.drop_eq_nil_of_le q, octV_end]; simp
 ·rw [drop_get hc, octV_n hq]; simp
def ltr (c : UInt8) : UInt8 := if 0 ≤ Lib.indexByte escB c then escL.getD (Lib.indexByte escB c).toNat 0 else if c = 92 then 92 else 0
def sgl (c : UInt8) : UInt8 × Bool := if c = 34 ∨ c = 47 ∨ c = 92 then (c, true) else if 0 ≤ Lib.indexByte escL c then (escB.getD (Lib.indexByte escL c).toNat 0, true) else (0, false)
section
variable {s out : Bs} {i : Nat} {c : UInt8}
end
end Go.Proofs.YtfbpbkcplpkndaaGreatDoor
end
section
namespace Go.Proofs.YtfbpbkcplpkndaaGreatDoor
set_option linter.unusedVariables false
set_option linter.unusedSimpArgs false
set_option maxRecDepth 100000
section
variable {X : CallF}
end
end Go.Proofs.YtfbpbkcplpkndaaGreatDoor
end
