/- Own texts of this claim, merged: DfR, Df4, DfI, Dfe, DfJ, DfY, Dff, Df9, Df10, Df11, Df12, DfT, Df14, Df15, DfU. -/
import Derived.Test.YtfbpbkcplpkndaaGreatDoorPof
section
namespace Go.Proofs.YtfbpbkcplpkndaaGreatDoor
set_option linter.unusedVariables false
set_option linter.unusedSimpArgs false
set_option linter.unusedSectionVars false
def jn (l : List Bs) : Bs := l.flatMap (· ++ [10])
def wrL (x : DL) : List Bs := (sgn x.op ++ x.tx) :: (if x.ne = true then [noE] else [])
def hkL (h : Hk) : List Bs := hdU h :: h.ls.flatMap wrL
def ptL (p : Pt) : List Bs := (mnA ++ esc p.old) :: (mnB ++ esc p.new) :: p.hs.flatMap hkL
theorem itoa_ch {n : Int} : ∀ c ∈ Lib.itoa n, c = 45 ∨ (48 ≤ c.toNat ∧ c.toNat ≤ 57) := by
 intro c hc
 by_cases h : n < 0
 ·rw [itoa_neg' h] at hc
  rcases List.mem_cons.1 hc with q | q
  ·exact Or.inl q
  ·exact Or.inr (dig_iff.1 (dd_dig _ c q))
 ·rw [itoa_pos' h] at hc
  exact Or.inr (dig_iff.1 (dd_dig _ c hc))
theorem itoa_no {n : Int} {x : UInt8} (hx : x ≠ 45 ∧ ¬ (48 ≤ x.toNat ∧ x.toNat ≤ 57)) : ∀ c ∈ Lib.itoa n, c ≠ x := fun c hc e => by
 subst e
 rcases itoa_ch c hc with q | q
 ·exact hx.1 q
 ·exact hx.2 q
theorem ext_no {f n : Int} {x : UInt8} (hx : x ≠ 45 ∧ ¬ (48 ≤ x.toNat ∧ x.toNat ≤ 57)) (h44 : x ≠ 44) : ∀ c ∈ ext f n, c ≠ x := fun c hc => by
 unfold ext at hc
 split at hc
 ·exact itoa_no hx c hc
 ·rcases List.mem_append.1 hc with q | q
  ·rcases List.mem_append.1 q with q | q
   ·exact itoa_no hx c q
   ·rw [List.mem_singleton.1 q]; exact fun e => h44 e.symm
  ·exact itoa_no hx c q
theorem num_itoa {n : Int} (h : InI64 n) : numV (Lib.itoa n) = n ∧ numE (Lib.itoa n) = 0 := by
 have := num_ok (itoa_dec n) (by rw [itoa_val]; exact h)
 rw [itoa_val] at this; exact this
theorem dg_itoa {n : Int} (h0 : 0 ≤ n) (h1 : n ≤ 2147483647) : dgV (Lib.itoa n) = n ∧ dgO (Lib.itoa n) = true := by
 have h := num_itoa (n := n) (by unfold InI64; omega)
 unfold dgV dgO
 rw [h.2, if_neg (by decide), h.1]
 refine ⟨rfl, ?_⟩
 have e := itoa_neg_iff n
 have hp : Lib.hasPrefix (Lib.itoa n) [45] = false := by
  rw [show decide (n < 0) = false by simp; omega] at e
  unfold negB at e
  unfold Lib.hasPrefix
  cases hl : Lib.itoa n with
  | nil => rfl
  | cons c r =>
   rw [hl] at e
   simp at e
   have : (45 == c) = false := by simpa using fun q => e q.symm
   simp [List.isPrefixOf, this]
 rw [hp]; decide
theorem pr_ext {f n : Int} (hf : 0 ≤ f ∧ f ≤ 2147483647) (hn : 0 ≤ n ∧ n ≤ 2147483647) : prA (ext f n) = f ∧ prB (ext f n) = n ∧ prO (ext f n) = true := by
 have hd : ∀ c ∈ Lib.itoa f, c ≠ 44 := itoa_no (by decide)
 have h1 := dg_itoa hf.1 hf.2
 have h2 := dg_itoa hn.1 hn.2
 by_cases q : n = 1
 ·have e : ext f n = Lib.itoa f := if_pos q
  rw [e]
  unfold prA prB prO
  rw [cut_no hd]
  simp [h1, q]
 ·have e : ext f n = Lib.itoa f ++ [44] ++ Lib.itoa n := if_neg q
  rw [e]
  unfold prA prB prO
  rw [cut_at hd]
  simp [h1, h2]
theorem hd_ok {h : Hk} (ha : 0 ≤ h.fa ∧ h.fa ≤ 2147483647) (hla : 0 ≤ h.la ∧ h.la ≤ 2147483647) (hb : 0 ≤ h.fb ∧ h.fb ≤ 2147483647) (hlb : 0 ≤ h.lb ∧ h.lb ≤ 2147483647) : hdE (hdU h) = 0 ∧ hdV (hdU h) = ⟨h.fa, h.la, h.fb, h.lb⟩ := by
 have e0 : (hdU h).drop 4 = ext h.fa h.la ++ ([32, 43] ++ ext h.fb h.lb) ++ [32, 64, 64] := by simp [hdU]
 have hs : Lib.hasSuffix ((hdU h).drop 4) [32, 64, 64] = true := by
  rw [e0]; unfold Lib.hasSuffix
  exact List.isSuffixOf_iff_suffix.2 ⟨_, rfl⟩
 have ht : hdT (hdU h) = ext h.fa h.la ++ [32, 43] ++ ext h.fb h.lb := by
  unfold hdT Lib.trimSuffix
  rw [if_pos hs, e0]
  have : ((ext h.fa h.la ++ ([32, 43] ++ ext h.fb h.lb) ++ [32, 64, 64]).length - [(32 : UInt8), 64, 64].length) = (ext h.fa h.la ++ ([32, 43] ++ ext h.fb h.lb)).length := by simp; omega
  rw [this, List.take_left']
  ·simp
  ·rfl
 have hx : hdX (hdU h) = (ext h.fa h.la, ext h.fb h.lb, true) := by
  unfold hdX; rw [ht]; exact cut_at (ext_no (by decide) (by decide))
 have hp : Lib.hasPrefix (hdU h) [64, 64, 32, 45] = true := by
  unfold Lib.hasPrefix hdU
  exact List.isPrefixOf_iff_prefix.2 ⟨_, by simp; rfl⟩
 have pa := pr_ext ha hla
 have pb := pr_ext hb hlb
 have hv : hdV (hdU h) = ⟨h.fa, h.la, h.fb, h.lb⟩ := by
  unfold hdV; rw [hx]; simp only; rw [pa.1, pa.2.1, pb.1, pb.2.1]
 refine ⟨?_, hv⟩
 have ho : hdO (hdU h) = true := by unfold hdO; rw [hp, hs, hx]; simp [pa, pb]
 unfold hdE
 rw [if_pos ho, hv, if_pos ⟨ha.2, hla.2, hb.2, hlb.2⟩]
theorem at_mid {pre X rest : List Bs} {i : Nat} (hi : i < X.length) : (pre ++ X ++ rest)[pre.length + i]? = X[i]? := by
 rw [List.append_assoc, List.getElem?_append_right (by omega), show pre.length + i - pre.length = i by omega, List.getElem?_append_left hi]
theorem at_rest {pre X rest : List Bs} : (pre ++ X ++ rest)[pre.length + X.length]? = rest[0]? := by
 rw [List.getElem?_append_right (by simp)]; simp
theorem sgn_c {op : Int} (h : 1 ≤ op ∧ op ≤ 3) : ∃ c, sgn op = [c] ∧ c ≠ 92 ∧ c ≠ 64 ∧ c ≠ 10 ∧ ((op = 1 ∧ c = 32) ∨ (op = 2 ∧ c = 45) ∨ (op = 3 ∧ c = 43)) := by
 rcases (by omega : op = 1 ∨ op = 2 ∨ op = 3) with q | q | q <;> subst q
 ·exact ⟨32, rfl, by decide, by decide, by decide, Or.inl ⟨rfl, rfl⟩⟩
 ·exact ⟨45, rfl, by decide, by decide, by decide, Or.inr (Or.inl ⟨rfl, rfl⟩)⟩
 ·exact ⟨43, rfl, by decide, by decide, by decide, Or.inr (Or.inr ⟨rfl, rfl⟩)⟩
theorem ne_noE {c : UInt8} {t : Bs} (h : c ≠ 92) : (c :: t) ≠ noE := fun e => by unfold noE at e; cases e; exact h rfl
theorem Bd.written : ∀ (l : List DL) (pre rest : List Bs) (acc : List DL), (∀ x ∈ l, lnF x) → rest[0]? ≠ some noE →
    Bd (pre ++ l.flatMap wrL ++ rest) (cA l) (cB l) pre.length acc (0, pre.length + (l.flatMap wrL).length, acc ++ l)
  | [], pre, rest, acc, _, _ => by
    have := Bd.fin (ls := pre ++ ([] : List DL).flatMap wrL ++ rest) (a := 0) (b := 0) (k := pre.length) (acc := acc) (by omega)
    simpa [cA, cB] using this
  | x :: l, pre, rest, acc, hl, hr => by
    have hx := hl x (List.mem_cons_self)
    obtain ⟨c, hc, c1, c2, c3, c4⟩ := sgn_c ⟨hx.1, hx.2.1⟩
    have hl' : ∀ y ∈ l, lnF y := fun y hy => hl y (List.mem_cons_of_mem _ hy)
    have hls : pre ++ (x :: l).flatMap wrL ++ rest = (pre ++ wrL x) ++ l.flatMap wrL ++ rest := by simp
    have e0 : (pre ++ (x :: l).flatMap wrL ++ rest)[pre.length]? = some (c :: x.tx) := by
      have := at_mid (pre := pre) (X := (x :: l).flatMap wrL) (rest := rest) (i := 0) (by simp [wrL])
      rw [Nat.add_zero] at this
      rw [this]; simp [wrL, hc]
    have hnext : ∀ (pre' : List Bs), (pre' ++ l.flatMap wrL ++ rest)[pre'.length]? ≠ some noE := fun pre' => by
      cases l with
      | nil =>
        have := at_rest (pre := pre') (X := ([] : List DL).flatMap wrL) (rest := rest)
        simp only [List.flatMap_nil, List.length_nil, Nat.add_zero] at this ⊢
        rw [this]; exact hr
      | cons y l =>
        have hy := hl' y (List.mem_cons_self)
        obtain ⟨d, hd, d1, _⟩ := sgn_c ⟨hy.1, hy.2.1⟩
        have := at_mid (pre := pre') (X := (y :: l).flatMap wrL) (rest := rest) (i := 0) (by simp [wrL])
        rw [Nat.add_zero] at this
        rw [this]
        simp [wrL, hd]
        exact fun e => ne_noE (t := y.tx) d1 e
    have hne : neB (pre ++ (x :: l).flatMap wrL ++ rest) (pre.length + 1) = x.ne := by
      unfold neB
      cases hxn : x.ne with
      | true =>
        have := at_mid (pre := pre) (X := (x :: l).flatMap wrL) (rest := rest) (i := 1) (by simp [wrL, hxn])
        rw [this]; simp [wrL, hxn]
      | false =>
        have := hnext (pre ++ wrL x)
        rw [← hls] at this
        have e1 : (pre ++ wrL x).length = pre.length + 1 := by simp [wrL, hxn]
        rw [e1] at this
        exact decide_eq_false this
    have ho : opP (c :: x.tx) ((cA (x :: l) : Nat) : Int) ((cB (x :: l) : Nat) : Int) = some x.op := by
      have ea : cA (x :: l) = cA [x] + cA l := cA_app [x] l
      have eb : cB (x :: l) = cB [x] + cB l := cB_app [x] l
      rw [cA_one] at ea; rw [cB_one] at eb
      unfold opP
      rcases c4 with ⟨q, q2⟩ | ⟨q, q2⟩ | ⟨q, q2⟩ <;> subst q2 <;> rw [q] at ea eb ⊢ <;> simp at ea eb ⊢ <;> omega
    refine .go e0 ho ?_
    rw [hne, show (c :: x.tx).drop 1 = x.tx from rfl]
    have ih := Bd.written l (pre ++ wrL x) rest (acc ++ [x]) hl' hr
    rw [← hls] at ih
    have e1 : (pre ++ wrL x).length = nxt (pre ++ (x :: l).flatMap wrL ++ rest) (pre.length + 1) := by
      unfold nxt; rw [hne]
      cases hxn : x.ne <;> simp [wrL, hxn]
    have e2 : (pre ++ wrL x).length + (l.flatMap wrL).length = pre.length + ((x :: l).flatMap wrL).length := by simp; omega
    rw [e2, e1] at ih
    have ea : (if x.op = 3 then ((cA (x :: l) : Nat) : Int) else (cA (x :: l) : Nat) - 1) = cA l := by
      rw [show x :: l = [x] ++ l from rfl, cA_app, cA_one]; split <;> omega
    have eb : (if x.op = 2 then ((cB (x :: l) : Nat) : Int) else (cB (x :: l) : Nat) - 1) = cB l := by
      rw [show x :: l = [x] ++ l from rfl, cB_app, cB_one]; split <;> omega
    rw [ea, eb]
    have e3 : acc ++ [x] ++ l = acc ++ x :: l := by simp
    rw [e3] at ih
    exact ih
structure HkG (h : Hk) : Prop extends HkF h where
 sa : h.la ≤ 2147483647
 sb : h.lb ≤ 2147483647
theorem hdU_no {h : Hk} : hdU h ≠ noE := fun e => by unfold hdU noE at e; simp at e
theorem lnAt_at {ls : List Bs} {k : Nat} {l : Bs} (h : ls[k]? = some l) : lnAt ls k = l := getD_of h
theorem Hs.written : ∀ (hs : List Hk) (pre rest : List Bs) (acc : List Hk), (∀ h ∈ hs, HkG h) → rest[0]? ≠ some noE → (∀ l, rest[0]? = some l → Lib.hasPrefix l [64, 64] = false) →
    Hs (pre ++ hs.flatMap hkL ++ rest) pre.length acc (0, pre.length + (hs.flatMap hkL).length, acc ++ hs)
  | [], pre, rest, acc, _, _, h2 => by
    have := Hs.fin (ls := pre ++ ([] : List Hk).flatMap hkL ++ rest) (k := pre.length) (acc := acc) (by
      unfold atH
      by_cases q : pre.length < (pre ++ ([] : List Hk).flatMap hkL ++ rest).length
      · cases hr : rest[0]? with
        | none =>
          have := List.getElem?_eq_none_iff.1 hr
          simp at q; omega
        | some l =>
          have e := at_rest (pre := pre) (X := ([] : List Hk).flatMap hkL) (rest := rest)
          rw [show pre.length + (([] : List Hk).flatMap hkL).length = pre.length from rfl, hr] at e
          rw [lnAt_at e, h2 l hr]; simp
      · simp only [q, decide_false, Bool.false_and])
    simpa using this
  | h :: hs, pre, rest, acc, hl, h1, h2 => by
    have hh := hl h (List.mem_cons_self)
    have e0 : (pre ++ (h :: hs).flatMap hkL ++ rest)[pre.length]? = some (hdU h) := by
      have := at_mid (pre := pre) (X := (h :: hs).flatMap hkL) (rest := rest) (i := 0) (by simp [hkL])
      rw [Nat.add_zero] at this
      rw [this]; simp [hkL]
    have hd := hd_ok (h := h) ⟨hh.a0, hh.a1⟩ ⟨by rw [hh.la]; omega, hh.sa⟩ ⟨hh.b0, hh.b1⟩ ⟨by rw [hh.lb]; omega, hh.sb⟩
    have e1 := lnAt_at e0
    have hls : pre ++ (h :: hs).flatMap hkL ++ rest = (pre ++ [hdU h]) ++ h.ls.flatMap wrL ++ (hs.flatMap hkL ++ rest) := by simp [hkL]
    have hn0 : (hs.flatMap hkL ++ rest)[0]? ≠ some noE := by
      cases hs with
      | nil => simpa using h1
      | cons g hs => simp [hkL]; exact hdU_no
    have hb := Bd.written h.ls (pre ++ [hdU h]) (hs.flatMap hkL ++ rest) [] hh.ln hn0
    rw [← hls, ← hh.la, ← hh.lb] at hb
    have hB : hkB (pre ++ (h :: hs).flatMap hkL ++ rest) pre.length = (0, (pre ++ [hdU h]).length + (h.ls.flatMap wrL).length, h.ls) := by
      unfold hkB
      rw [e1, hd.2]
      refine bdR_eq ?_
      simpa using hb
    have hE : hkE (pre ++ (h :: hs).flatMap hkL ++ rest) pre.length = 0 := by unfold hkE; rw [e1, if_pos hd.1, hB]
    have hA : hkA (pre ++ (h :: hs).flatMap hkL ++ rest) pre.length = (pre ++ hkL h).length := by unfold hkA; rw [e1, if_pos hd.1, hB]; simp [hkL]; omega
    have hH : hkH (pre ++ (h :: hs).flatMap hkL ++ rest) pre.length = h := by unfold hkH; rw [e1, hd.2, hB]
    refine .go ?_ hE ?_
    · unfold atH
      rw [e1]
      have q := (List.getElem?_eq_some_iff.1 e0).1
      simp only [q, decide_true, Bool.true_and]
      unfold Lib.hasPrefix hdU
      exact List.isPrefixOf_iff_prefix.2 ⟨_, by simp; rfl⟩
    · rw [hA, hH]
      have ih := Hs.written hs (pre ++ hkL h) rest (acc ++ [h]) (fun g hg => hl g (List.mem_cons_of_mem _ hg)) h1 h2
      have e3 : pre ++ hkL h ++ hs.flatMap hkL ++ rest = pre ++ (h :: hs).flatMap hkL ++ rest := by simp
      have e4 : (pre ++ hkL h).length + (hs.flatMap hkL).length = pre.length + ((h :: hs).flatMap hkL).length := by simp; omega
      rw [e3, e4] at ih
      have e5 : acc ++ [h] ++ hs = acc ++ h :: hs := by simp
      rw [e5] at ih; exact ih
theorem hp_app (p t : Bs) : Lib.hasPrefix (p ++ t) p = true := List.isPrefixOf_iff_prefix.2 ⟨t, rfl⟩
theorem nm_written {ls : List Bs} {k : Nat} {p s : Bs} (h : ls[k]? = some (p ++ esc s)) : nmP ls k p = some s := by
 have hk := (List.getElem?_eq_some_iff.1 h).1
 unfold nmP
 rw [lnAt_at h, if_pos]
 ·rw [List.drop_left, (un_esc s).1]
 ·exact ⟨hk, hp_app _ _, by rw [List.drop_left, (un_esc s).2.1]⟩
def PtG (p : Pt) : Prop := ∀ h ∈ p.hs, HkG h
theorem PtG.f {p : Pt} (h : PtG p) : ptF p := fun x hx => (h x hx).toHkF
theorem Pm.written : ∀ (ps : List Pt) (pre : List Bs) (acc : List Pt), (∀ p ∈ ps, PtG p) →
    Pm (pre ++ ps.flatMap ptL) pre.length acc (0, pre.length + (ps.flatMap ptL).length, acc ++ ps)
  | [], pre, acc, _ => by
    have := Pm.fin (ls := pre ++ ([] : List Pt).flatMap ptL) (k := pre.length) (acc := acc) (by simp)
    simpa using this
  | p :: ps, pre, acc, hl => by
    have hp := hl p (List.mem_cons_self)
    have hls : pre ++ (p :: ps).flatMap ptL = (pre ++ [mnA ++ esc p.old, mnB ++ esc p.new]) ++ p.hs.flatMap hkL ++ ps.flatMap ptL := by simp [ptL]
    have g0 : (pre ++ (p :: ps).flatMap ptL)[pre.length]? = some (mnA ++ esc p.old) := by
      rw [List.getElem?_append_right (by omega)]; simp [ptL]
    have g1 : (pre ++ (p :: ps).flatMap ptL)[pre.length + 1]? = some (mnB ++ esc p.new) := by
      rw [List.getElem?_append_right (by omega)]; simp [ptL]
    have hr0 : (ps.flatMap ptL)[0]? ≠ some noE := by
      cases ps with
      | nil => simp
      | cons q ps => simp [ptL, mnA, noE]
    have hr1 : ∀ l, (ps.flatMap ptL)[0]? = some l → Lib.hasPrefix l [64, 64] = false := by
      cases ps with
      | nil => simp
      | cons q ps =>
        intro l hq
        simp [ptL, mnA] at hq
        subst hq
        simp [Lib.hasPrefix, List.isPrefixOf]
    have hh := Hs.written p.hs (pre ++ [mnA ++ esc p.old, mnB ++ esc p.new]) (ps.flatMap ptL) [] hp hr0 hr1
    rw [← hls] at hh
    have hR : hsR (pre ++ (p :: ps).flatMap ptL) (pre.length + 2) = (0, (pre ++ [mnA ++ esc p.old, mnB ++ esc p.new]).length + (p.hs.flatMap hkL).length, p.hs) := by
      refine hsR_eq ?_
      simpa using hh
    refine .go (nm_written g0) (nm_written g1) (by rw [hR]) ?_
    rw [hR]
    have ih := Pm.written ps (pre ++ ptL p) (acc ++ [p]) fun q hq => hl q (List.mem_cons_of_mem _ hq)
    have e3 : pre ++ ptL p ++ ps.flatMap ptL = pre ++ (p :: ps).flatMap ptL := by simp
    have e4 : (pre ++ ptL p).length + (ps.flatMap ptL).length = pre.length + ((p :: ps).flatMap ptL).length := by simp; omega
    have e5 : (pre ++ ptL p).length = (pre ++ [mnA ++ esc p.old, mnB ++ esc p.new]).length + (p.hs.flatMap hkL).length := by simp [ptL]; omega
    have e6 : acc ++ [p] ++ ps = acc ++ p :: ps := by simp
    rw [e3, e4, e5, e6] at ih
    exact ih
theorem dg_ge {s : Bs} (h : dgO s = true) : 0 ≤ dgV s := by
 unfold dgO at h
 simp at h
 unfold dgV
 split
 ·omega
 ·rename_i q9
  by_cases hd : decB s = true
  ·by_cases hi : InI64 (valI s)
   ·rw [(num_ok hd hi).1]
    have : negB s = false := by
     unfold negB
     have h2 := h.2
     unfold Lib.hasPrefix at h2
     cases s with
     | nil => rfl
     | cons c r =>
      simp [List.isPrefixOf] at h2
      simp
      exact fun e => h2 e.symm
    unfold valI; rw [this]; simp
   ·rw [(num_over hd hi).1]; exact Int.le_refl _
  ·rw [(num_bad (by simpa using hd)).1]; exact Int.le_refl _
theorem pr_ge {s : Bs} (h : prO s = true) : 0 ≤ prA s ∧ 0 ≤ prB s := by
 unfold prO at h
 simp only [Bool.and_eq_true] at h
 refine ⟨dg_ge h.1, ?_⟩
 unfold prB
 split
 ·rename_i q; rw [if_pos q] at h; exact dg_ge h.2
 ·decide
theorem hd_ge {s : Bs} (h : hdE s = 0) : (0 ≤ (hdV s).fa ∧ (hdV s).fa ≤ 2147483647) ∧ (0 ≤ (hdV s).la ∧ (hdV s).la ≤ 2147483647) ∧ (0 ≤ (hdV s).fb ∧ (hdV s).fb ≤ 2147483647) ∧ (0 ≤ (hdV s).lb ∧ (hdV s).lb ≤ 2147483647) := by
 unfold hdE at h
 split at h
 ·rename_i ho
  split at h
  ·rename_i hq
   unfold hdO at ho
   simp only [Bool.and_eq_true] at ho
   have h1 := pr_ge ho.1.2
   have h2 := pr_ge ho.2
   exact ⟨⟨h1.1, hq.1⟩, ⟨h1.2, hq.2.1⟩, ⟨h2.1, hq.2.2.1⟩, ⟨h2.2, hq.2.2.2⟩⟩
  ·cases h
 ·cases h
theorem Bd.formed {ls : List Bs} (hl : ∀ y ∈ ls, ∀ c ∈ y, c ≠ 10) {a b : Int} {k : Nat} {acc : List DL} {r : Int × Nat × List DL} (h : Bd ls a b k acc r) : 0 ≤ a → 0 ≤ b → (∀ x ∈ acc, lnF x) →
    (∀ x ∈ r.2.2, lnF x) ∧ (r.1 = 0 → (cA r.2.2 : Int) = cA acc + a ∧ (cB r.2.2 : Int) = cB acc + b) := by
  induction h with
  | fin h => intro h1 h2 h3; exact ⟨h3, fun _ => ⟨by simp only; omega, by simp only; omega⟩⟩
  | out h => intro h1 h2 h3; exact ⟨h3, fun q => by cases q⟩
  | bad h => intro h1 h2 h3; exact ⟨h3, fun q => by cases q⟩
  | @go a b op k acc l r h ho _ ih =>
    intro h1 h2 h3
    have hop := opP_cases ho
    have hin := hl l (List.mem_of_getElem? h)
    have hx : lnF ⟨op, l.drop 1, neB ls (k + 1)⟩ := ⟨by rcases hop with q | q | q <;> simp [q.1], by rcases hop with q | q | q <;> simp [q.1], fun c hc => hin c (List.mem_of_mem_drop hc)⟩
    have := ih (by split <;> omega) (by split <;> omega) (fun x hx' => by
      rcases List.mem_append.1 hx' with q | q
      · exact h3 x q
      · rw [List.mem_singleton.1 q]; exact hx)
    refine ⟨this.1, fun q => ?_⟩
    have h5 := this.2 q
    rw [cA_app, cB_app, cA_one, cB_one] at h5
    rcases hop with ⟨q, _⟩ | ⟨q, _⟩ | ⟨q, _⟩ <;> subst q <;> simp at h5 <;> omega
theorem hkH_ok {ls : List Bs} (hl : ∀ y ∈ ls, ∀ c ∈ y, c ≠ 10) {k : Nat} (h : hkE ls k = 0) : HkG (hkH ls k) := by
 unfold hkE at h
 split at h
 ·rename_i q
  have hg := hd_ge q
  have hf := (bdR_ok ls (hdV (lnAt ls k)).la (hdV (lnAt ls k)).lb (k + 1)).formed hl hg.2.1.1 hg.2.2.2.1 (fun x hx => by cases hx)
  have hc := hf.2 h
  have z1 : cA [] = 0 := rfl
  have z2 : cB [] = 0 := rfl
  rw [z1, z2] at hc
  exact { ln := hf.1, la := by have := hc.1; exact (this.trans (Int.zero_add _)).symm, lb := by have := hc.2; exact (this.trans (Int.zero_add _)).symm, a0 := hg.1.1, a1 := hg.1.2, b0 := hg.2.2.1.1, b1 := hg.2.2.1.2, sa := hg.2.1.2, sb := hg.2.2.2.2 }
 ·rename_i q; exact absurd h q
theorem Hs.formed {ls : List Bs} (hl : ∀ y ∈ ls, ∀ c ∈ y, c ≠ 10) {k : Nat} {acc : List Hk} {r : Int × Nat × List Hk} (h : Hs ls k acc r) : (∀ x ∈ acc, HkG x) → ∀ x ∈ r.2.2, HkG x := by
 induction h with
 | fin => exact id
 | bad => exact id
 | go h h2 _ ih =>
  intro h3
  refine ih fun x hx => ?_
  rcases List.mem_append.1 hx with q | q
  ·exact h3 x q
  ·rw [List.mem_singleton.1 q]; exact hkH_ok hl h2
theorem Pm.formed {ls : List Bs} (hl : ∀ y ∈ ls, ∀ c ∈ y, c ≠ 10) {k : Nat} {acc : List Pt} {r : Int × Nat × List Pt} (h : Pm ls k acc r) : (∀ x ∈ acc, PtG x) → ∀ x ∈ r.2.2, PtG x := by
 induction h with
 | fin => exact id
 | b1 => exact id
 | b2 => exact id
 | b3 => exact id
 | go h h2 h3 _ ih =>
  intro h4
  refine ih fun x hx => ?_
  rcases List.mem_append.1 hx with q | q
  ·exact h4 x q
  ·rw [List.mem_singleton.1 q]; exact (hsR_ok ls _).formed hl fun x hx => by cases hx
theorem lins_no (s : Bs) : ∀ y ∈ lins s, ∀ c ∈ y, c ≠ 10 := by
 have hF : ∀ i, i ≤ s.length → ∀ j, flF 10 s i ≤ j → j < i → ¬ s[j]? = some 10 := by
  intro i
  induction i with
  | zero => intro _ j _ h; omega
  | succ i ih =>
   intro hi j h1 h2
   by_cases hc : s[i]? = some 10
   ·rw [flF_y hc] at h1; omega
   ·rw [flF_n hc] at h1
    by_cases q : j = i
    ·subst q; exact hc
    ·exact ih (by omega) j h1 (by omega)
 have hO : ∀ i, i ≤ s.length → ∀ y ∈ flO 10 s i, ∀ c ∈ y, c ≠ 10 := by
  intro i
  induction i with
  | zero => intro _ y hy; simp [flO] at hy
  | succ i ih =>
   intro hi y hy
   by_cases hc : s[i]? = some 10
   ·rw [flO_y hc] at hy
    rcases List.mem_append.1 hy with q | q
    ·exact ih (by omega) y q
    ·rw [List.mem_singleton.1 q]
     intro c hcm e
     subst e
     obtain ⟨j, hj⟩ := List.getElem?_of_mem hcm
     rw [List.getElem?_drop, List.getElem?_take] at hj
     split at hj
     ·exact hF i (by omega) _ (by omega) (by assumption) hj
     ·cases hj
   ·rw [flO_n hc] at hy; exact ih (by omega) y hy
 intro y hy
 unfold lins at hy
 split at hy
 ·unfold flds at hy
  rcases List.mem_append.1 hy with q | q
  ·exact hO _ (Nat.le_refl _) y q
  ·rw [List.mem_singleton.1 q]
   intro c hcm e
   subst e
   obtain ⟨j, hj⟩ := List.getElem?_of_mem hcm
   rw [List.getElem?_drop] at hj
   exact hF s.length (Nat.le_refl _) _ (by omega) (List.getElem?_eq_some_iff.1 hj).1 hj
 ·exact hO _ (Nat.le_refl _) y hy
end Go.Proofs.YtfbpbkcplpkndaaGreatDoor
end
section
namespace Go.Proofs.YtfbpbkcplpkndaaGreatDoor
set_option linter.unusedVariables false
set_option linter.unusedSimpArgs false
set_option maxRecDepth 100000
structure HkZ (h : Hk) : Prop where
 fa : InI64 h.fa
 la : InI64 h.la
 fb : InI64 h.fb
 lb : InI64 h.lb
 ln : h.ls.length ≤ 1000000000
 tx : ∀ x ∈ h.ls, InI64 x.op ∧ x.tx.length ≤ 1000000000
structure PtZ (p : Pt) : Prop where
 hn : p.hs.length ≤ 1000000000
 hz : ∀ h ∈ p.hs, HkZ h
structure LnI (p : Pt) (i : Nat) (j : Nat × Hk) : Prop where
 at' : p.hs[i]? = some j.2
 le : j.1 ≤ j.2.ls.length
 fm : ∀ x ∈ j.2.ls.take j.1, lnF x
def lnM (j : Nat × Hk) : Nat := j.2.ls.length - j.1
structure PlI (s : Bs) (k : Nat) : Prop where
 le : k ≤ s.length
 no : ∀ c ∈ s.take k, c ≠ 10
structure HkI (p : Pt) (i : Nat) : Prop where
 le : i ≤ p.hs.length
 fm : ∀ h ∈ p.hs.take i, HkF h
theorem HkI.zero (p : Pt) : HkI p 0 := ⟨Nat.zero_le _, fun h q => by cases q⟩
theorem LnI.zero {p : Pt} {i : Nat} {h : Hk} (e : p.hs[i]? = some h) : LnI p i (0, h) := ⟨e, Nat.zero_le _, fun x q => by cases q⟩
theorem LnI.next {p : Pt} {i : Nat} {j : Nat × Hk} {x : DL} (h : LnI p i j) (e : j.2.ls[j.1]? = some x) (hx : lnF x) : LnI p i (j.1 + 1, j.2) ∧ lnM (j.1 + 1, j.2) < lnM j := by
 have hl := (List.getElem?_eq_some_iff.1 e).1
 refine ⟨⟨h.at', hl, fun y hy => ?_⟩, by simp only [lnM]; omega⟩
 rw [take_succ_get e, List.mem_append, List.mem_singleton] at hy
 exact hy.elim (h.fm y) fun q => q ▸ hx
theorem LnI.bad {p : Pt} {i : Nat} {j : Nat × Hk} {x : DL} (h : LnI p i j) (e : j.2.ls[j.1]? = some x) (hx : ¬ lnF x) : false = dcd (ptF p) :=
 (dcd_f fun q => hx ((q _ (List.mem_of_getElem? h.at')).ln _ (List.mem_of_getElem? e))).symm
theorem LnI.all {p : Pt} {i : Nat} {j : Nat × Hk} (h : LnI p i j) (e : ¬ (j.1 : Int) < j.2.ls.length) : ∀ x ∈ j.2.ls, lnF x := by
 have := h.fm
 rwa [List.take_of_length_le (by omega)] at this
theorem LnI.z {p : Pt} {i : Nat} {j : Nat × Hk} (h : LnI p i j) (hp : PtZ p) : HkZ j.2 := hp.hz _ (List.mem_of_getElem? h.at')
theorem HkI.next {p : Pt} {i : Nat} {h : Hk} (hi : HkI p i) (e : p.hs[i]? = some h) (hh : HkF h) : HkI p (i + 1) := by
 refine ⟨(List.getElem?_eq_some_iff.1 e).1, fun y hy => ?_⟩
 rw [take_succ_get e, List.mem_append, List.mem_singleton] at hy
 exact hy.elim (hi.fm y) fun q => q ▸ hh
theorem HkI.bad {p : Pt} {i : Nat} {h : Hk} (e : p.hs[i]? = some h) (hh : ¬ HkF h) : false = dcd (ptF p) :=
 (dcd_f fun q => hh (q _ (List.mem_of_getElem? e))).symm
theorem HkI.all {p : Pt} {i : Nat} (h : HkI p i) (e : ¬ (i : Int) < p.hs.length) : true = dcd (ptF p) := by
 have := h.fm
 rw [List.take_of_length_le (by omega)] at this
 exact (dcd_t this).symm
section
variable {X : CallF}
def nmb (b n : Int) : Bs := if n ≤ 1 then Lib.itoa (b + n) else Lib.itoa (b + 1) ++ [44] ++ Lib.itoa (b + n)
end
end Go.Proofs.YtfbpbkcplpkndaaGreatDoor
end
section
namespace Go.Proofs.YtfbpbkcplpkndaaGreatDoor
set_option linter.unusedVariables false
set_option linter.unusedSimpArgs false
def fdL (x : DL) : Bs := if x.ne = true then x.tx else x.tx ++ [10]
theorem fdL_mk (op : Int) (y : Bs) : fdL (mkDL op y) = y := by
 unfold mkDL fdL
 by_cases h : y.getLast? = some 10
 ·rw [if_pos h, if_neg Bool.false_ne_true]
  have hne : y ≠ [] := fun e => by subst e; simp at h
  rw [List.getLast?_eq_some_getLast hne] at h
  have e := List.dropLast_concat_getLast hne
  rw [Option.some.inj h] at e; exact e
 ·rw [if_neg h, if_pos rfl]
structure LnK (A B : List Bs) (l : List DL) (k : Nat) (x : DL) : Prop where
 op : x.op = 1 ∨ x.op = 2 ∨ x.op = 3
 a : x.op ≠ 3 → A[cA (l.take k)]? = some (fdL x)
 b : x.op ≠ 2 → B[cB (l.take k)]? = some (fdL x)
section
variable {A B : List Bs}
theorem cA_cons (x : DL) (l : List DL) : cA (x :: l) = (if x.op = 3 then 0 else 1) + cA l := by
 rw [show x :: l = [x] ++ l from rfl, cA_app, cA_one]
theorem cB_cons (x : DL) (l : List DL) : cB (x :: l) = (if x.op = 2 then 0 else 1) + cB l := by
 rw [show x :: l = [x] ++ l from rfl, cB_app, cB_one]
theorem stp_ln : ∀ (p : List Int) (i j : Nat), pth A B p i j → ∀ k x, ((stp A B p i j).map dlS)[k]? = some x →
    (x.op = 1 ∨ x.op = 2 ∨ x.op = 3) ∧ (x.op ≠ 3 → A[i + cA (((stp A B p i j).map dlS).take k)]? = some (fdL x)) ∧ (x.op ≠ 2 → B[j + cB (((stp A B p i j).map dlS).take k)]? = some (fdL x))
  | [], i, j, _, k, x, h => by simp [stp] at h
  | op :: p, i, j, hp, 0, x, h => by
    simp only [stp, List.map_cons, List.getElem?_cons_zero, Option.some.injEq] at h
    subst h
    have hs := hp.1
    have e0 : cA ([] : List DL) = 0 ∧ cB ([] : List DL) = 0 := ⟨rfl, rfl⟩
    rw [List.take_zero, e0.1, e0.2, Nat.add_zero, Nat.add_zero]
    simp only [dlS, mkDL_op, fdL_mk]
    rcases hs with ⟨rfl, hi⟩ | ⟨rfl, hj⟩ | ⟨rfl, hi, hj, he⟩
    · refine ⟨by decide, fun _ => ?_, fun q => absurd rfl q⟩
      rw [if_neg (by decide), List.getD_eq_getElem?_getD, List.getElem?_eq_getElem hi]; rfl
    · refine ⟨by decide, fun q => absurd rfl q, fun _ => ?_⟩
      rw [if_pos rfl, List.getD_eq_getElem?_getD, List.getElem?_eq_getElem hj]; rfl
    · have ha : A[i]? = some (A.getD i []) := by rw [List.getD_eq_getElem?_getD, List.getElem?_eq_getElem hi]; rfl
      refine ⟨by decide, fun _ => ?_, fun _ => ?_⟩
      · rw [if_neg (by decide)]; exact ha
      · rw [if_neg (by decide), ← he]; exact ha
  | op :: p, i, j, hp, k + 1, x, h => by
    simp only [stp, List.map_cons, List.getElem?_cons_succ] at h
    obtain ⟨h1, h2, h3⟩ := stp_ln p (sI op i) (sJ op j) hp.2 k x h
    refine ⟨h1, fun q => ?_, fun q => ?_⟩
    · rw [← h2 q]
      simp only [stp, List.map_cons, List.take_succ_cons, cA_cons, dlS, mkDL_op]
      congr 1
      unfold sI; split <;> omega
    · rw [← h3 q]
      simp only [stp, List.map_cons, List.take_succ_cons, cB_cons, dlS, mkDL_op]
      congr 1
      unfold sJ; split <;> omega
theorem pth_end : ∀ (p : List Int) (i j : Nat), pth A B p i j → pI p i = A.length ∧ pJ p j = B.length
 | [], i, j, h => h
 | op :: p, i, j, h => pth_end p (sI op i) (sJ op j) h.2
end
theorem dif_pth (s t : Bs) : pth (fed s) (fed t) (stE (script (fed s) (fed t))) 0 0 := ends_pth (script_ok (fed s) (fed t)).1
theorem difL_ln' (s t : Bs) {k : Nat} {x : DL} (h : (difL s t)[k]? = some x) : LnK (fed s) (fed t) (difL s t) k x := by
 obtain ⟨h1, h2, h3⟩ := stp_ln _ 0 0 (dif_pth s t) k x h
 exact ⟨h1, fun q => by have := h2 q; rw [Nat.zero_add] at this; exact this, fun q => by have := h3 q; rw [Nat.zero_add] at this; exact this⟩
theorem difL_end (s t : Bs) : cA (difL s t) = (fed s).length ∧ cB (difL s t) = (fed t).length := by
 have h := pth_end _ 0 0 (dif_pth s t)
 have h1 := stp_cA (A := fed s) (B := fed t) (stE (script (fed s) (fed t))) 0 0
 have h2 := stp_cB (A := fed s) (B := fed t) (stE (script (fed s) (fed t))) 0 0
 rw [Nat.zero_add] at h1 h2
 exact ⟨h1.symm.trans h.1, h2.symm.trans h.2⟩
def eR (rs : List (Nat × Nat)) (n : Nat) : Nat := if n = 0 then 0 else (rs.getD (n - 1) (0, 0)).2
structure RgA (N : Nat → Prop) (len : Nat) (rs : List (Nat × Nat)) (n : Nat) (r : Nat × Nat) : Prop where
 es : eR rs n ≤ r.1
 se : r.1 < r.2
 el : r.2 ≤ len
 no : ∀ x, eR rs n ≤ x → x < r.1 → ¬ N x
 al : ∀ x, r.1 ≤ x → x < r.2 → N x
 mx : r.2 = len ∨ ¬ N r.2
 nx : eR rs (n + 1) = r.2
section
variable {N : Nat → Prop} {len : Nat}
theorem Rg.at {j : Nat} {rs : List (Nat × Nat)} (h : Rg N len j rs) : (∀ n r, rs[n]? = some r → (if n = 0 then j else eR rs n) ≤ r.1 ∧ r.1 < r.2 ∧ r.2 ≤ len ∧ (∀ x, (if n = 0 then j else eR rs n) ≤ x → x < r.1 → ¬ N x) ∧ (∀ x, r.1 ≤ x → x < r.2 → N x) ∧ (r.2 = len ∨ ¬ N r.2)) ∧
    (∀ x, (if rs.length = 0 then j else eR rs rs.length) ≤ x → x < len → ¬ N x) ∧ (j ≤ len → (if rs.length = 0 then j else eR rs rs.length) ≤ len) := by
  induction h with
  | fin h => exact ⟨fun n r q => by simp at q, fun x h1 h2 => by simp at h1; omega, fun h => by simpa using h⟩
  | @skip j l h1 h2 h3 ih =>
    obtain ⟨i1, i2, i3⟩ := ih
    refine ⟨fun n r q => ?_, fun x q1 q2 => ?_, fun _ => ?_⟩
    · obtain ⟨g1, g2, g3, g4, g5⟩ := i1 n r q
      by_cases hn : n = 0
      · rw [if_pos hn] at g1 g4 ⊢
        refine ⟨by omega, g2, g3, fun x a b => ?_, g5⟩
        by_cases e : x = j
        · subst e; exact h2
        · exact g4 x (by omega) b
      · rw [if_neg hn] at g1 g4 ⊢
        exact ⟨g1, g2, g3, g4, g5⟩
    · by_cases hn : l.length = 0
      · rw [if_pos hn] at q1
        by_cases e : x = j
        · subst e; exact h2
        · exact i2 x (by rw [if_pos hn]; omega) q2
      · rw [if_neg hn] at q1; exact i2 x (by rw [if_neg hn]; exact q1) q2
    · have := i3 (by omega)
      by_cases hn : l.length = 0
      · rw [if_pos hn]; omega
      · rw [if_neg hn] at this ⊢; exact this
  | @run j e l h1 h2 h3 h4 h5 ih =>
    obtain ⟨i1, i2, i3⟩ := ih
    have sh : ∀ n, (if n = 0 then e else eR l n) = eR ((j, e) :: l) (n + 1) := fun n => by
      unfold eR
      rw [if_neg (show n + 1 ≠ 0 by omega)]
      cases n with
      | zero => rfl
      | succ n => rw [if_neg (by omega), if_neg (by omega)]; rfl
    refine ⟨fun n r q => ?_, fun x q1 q2 => ?_, fun _ => ?_⟩
    · cases n with
      | zero =>
        rw [List.getElem?_cons_zero] at q
        cases q
        exact ⟨Nat.le_refl _, h1, h2, fun x a b => by simp at a; omega, h3, h4⟩
      | succ n =>
        rw [List.getElem?_cons_succ] at q
        obtain ⟨g1, g2, g3, g4, g5⟩ := i1 n r q
        rw [sh] at g1 g4
        rw [if_neg (by omega)]
        exact ⟨g1, g2, g3, g4, g5⟩
    · rw [if_neg (by simp), List.length_cons, ← sh] at q1
      exact i2 x q1 q2
    · rw [if_neg (by simp), List.length_cons, ← sh]
      exact i3 h2
theorem Rg.atR {rs : List (Nat × Nat)} (h : Rg N len 0 rs) {n : Nat} {r : Nat × Nat} (q : rs[n]? = some r) : RgA N len rs n r := by
 obtain ⟨g1, g2, g3, g4, g5, g6⟩ := h.at.1 n r q
 have e : (if n = 0 then 0 else eR rs n) = eR rs n := by
  split
  ·subst n; rfl
  ·rfl
 rw [e] at g1 g4
 refine ⟨g1, g2, g3, g4, g5, g6, ?_⟩
 unfold eR
 rw [if_neg (by omega), Nat.add_sub_cancel, List.getD_eq_getElem?_getD, q]; rfl
theorem Rg.atE {rs : List (Nat × Nat)} (h : Rg N len 0 rs) : eR rs rs.length ≤ len ∧ ∀ x, eR rs rs.length ≤ x → x < len → ¬ N x := by
 have g := h.at.2
 have e : (if rs.length = 0 then 0 else eR rs rs.length) = eR rs rs.length := by
  split
  ·rename_i h; rw [h]; rfl
  ·rfl
 rw [e] at g
 exact ⟨g.2 (Nat.zero_le _), g.1⟩
end
section
variable {l : List DL} {k : Nat} {x : DL}
theorem cA_s (h : l[k]? = some x) : cA (l.take (k + 1)) = cA (l.take k) + (if x.op = 3 then 0 else 1) := by
 rw [take_succ_get h, cA_app, cA_one]
theorem cB_s (h : l[k]? = some x) : cB (l.take (k + 1)) = cB (l.take k) + (if x.op = 2 then 0 else 1) := by
 rw [take_succ_get h, cB_app, cB_one]
theorem cA_mono {k m : Nat} (h : k ≤ m) : cA (l.take k) ≤ cA (l.take m) := by
 have e : l.take m = l.take k ++ (l.take m).drop k := by
  rw [show l.take k = (l.take m).take k by rw [List.take_take, Nat.min_eq_left h], List.take_append_drop]
 rw [e, cA_app]; omega
theorem c_mid {k m : Nat} (h : k ≤ m) : cA (l.take m) = cA (l.take k) + cA ((l.take m).drop k) ∧ cB (l.take m) = cB (l.take k) + cB ((l.take m).drop k) := by
 have e : l.take m = l.take k ++ (l.take m).drop k := by
  rw [show l.take k = (l.take m).take k by rw [List.take_take, Nat.min_eq_left h], List.take_append_drop]
 constructor
 ·conv => lhs; rw [e, cA_app]
 ·conv => lhs; rw [e, cB_app]
end
end Go.Proofs.YtfbpbkcplpkndaaGreatDoor
end
section
namespace Go.Proofs.YtfbpbkcplpkndaaGreatDoor
set_option linter.unusedVariables false
set_option linter.unusedSimpArgs false
set_option maxRecDepth 100000
set_option maxHeartbeats 2000000
section
variable {X : CallF}
def sR (l : List DL) (rs : List (Nat × Nat)) (n : Nat) : Nat := if n < rs.length then (rs.getD n (0, 0)).1 else l.length
end
structure RB (l : List DL) (A B : List Bs) (rs : List (Nat × Nat)) (hs : List Hk) : Prop where
 ko : ∀ n p, n ≤ hs.length → eR rs n ≤ p → p < sR l rs n → ∃ x, l[p]? = some x ∧ x.op = 1
 es : ∀ n, n ≤ hs.length → eR rs n ≤ sR l rs n
 el : ∀ n, n < hs.length → sR l rs n ≤ eR rs (n + 1) ∧ eR rs (n + 1) ≤ l.length
 hk : ∀ n h, hs[n]? = some h → h = hkR l (sR l rs n, eR rs (n + 1))
 ln : ∀ k x, l[k]? = some x → LnK A B l k x
 tx : ∀ x ∈ l, x.tx.length ≤ 1000000
 nn : l.length ≤ 1000000
 ea : cA l = A.length
 eb : cB l = B.length
 sn : sR l rs hs.length = l.length
 hb : hs.length ≤ 1000000
theorem Rg.cnt {N : Nat → Prop} {len j : Nat} {rs : List (Nat × Nat)} (h : Rg N len j rs) : rs.length ≤ len - j := by
 induction h with
 | fin => exact Nat.zero_le _
 | skip _ _ _ ih => omega
 | run _ _ _ _ _ ih => rw [List.length_cons]; omega
section
variable {l : List DL} {A B : List Bs} {rs : List (Nat × Nat)} {hs : List Hk} {n p m : Nat}
theorem RB.mk' {c : Nat} (h : Rg (nr l c) l.length 0 rs) (hl : ∀ k x, l[k]? = some x → LnK A B l k x) (he : cA l = A.length ∧ cB l = B.length) (hn : l.length ≤ 1000000) (ht : ∀ x ∈ l, x.tx.length ≤ 1000000) (hh : hs = rs.map (hkR l)) : RB l A B rs hs := by
 have len : hs.length = rs.length := by rw [hh, List.length_map]
 have sr : ∀ n r, rs[n]? = some r → sR l rs n = r.1 := fun n r q => by
  have hlt := (List.getElem?_eq_some_iff.1 q).1
  unfold sR; rw [if_pos hlt, List.getD_eq_getElem?_getD, q]; rfl
 have sn : sR l rs hs.length = l.length := by unfold sR; rw [if_neg (by omega)]
 have kp : ∀ x, x < l.length → ¬ nr l c x → ∃ y, l[x]? = some y ∧ y.op = 1 := fun x hx hq => by
  have e := List.getElem?_eq_getElem hx
  refine ⟨_, e, ?_⟩
  by_cases o : l[x].op = 1
  ·exact o
  ·exact absurd ⟨x, ⟨_, e, o⟩, by omega, by omega⟩ hq
 refine ⟨fun n p h1 h2 h3 => ?_, fun n h1 => ?_, fun n h1 => ?_, fun n k hk => ?_, hl, ht, hn, he.1, he.2, sn, by have := h.cnt; omega⟩
 ·by_cases q : n < rs.length
  ·have a := h.atR (List.getElem?_eq_getElem q)
   rw [sr n _ (List.getElem?_eq_getElem q)] at h3
   exact kp p (by have := a.se; have := a.el; omega) (a.no p h2 h3)
  ·obtain rfl : n = rs.length := by omega
   rw [← len, sn] at h3
   exact kp p h3 ((h.atE).2 p h2 h3)
 ·by_cases q : n < rs.length
  ·have a := h.atR (List.getElem?_eq_getElem q)
   rw [sr n _ (List.getElem?_eq_getElem q)]; exact a.es
  ·obtain rfl : n = rs.length := by omega
   rw [← len, sn, len]; exact (h.atE).1
 ·have q : n < rs.length := by omega
  have a := h.atR (List.getElem?_eq_getElem q)
  rw [sr n _ (List.getElem?_eq_getElem q), a.nx]
  exact ⟨Nat.le_of_lt a.se, a.el⟩
 ·rw [hh, List.getElem?_map] at hk
  obtain ⟨r, hr, rfl⟩ := Option.map_eq_some_iff.1 hk
  have a := h.atR hr
  rw [sr n r hr, a.nx]
variable (r : RB l A B rs hs)
include r
theorem RB.cb (k : Nat) : cA (l.take k) ≤ 1000000 ∧ cB (l.take k) ≤ 1000000 := by
 have h1 := cA_le (l.take k)
 have h2 := cB_le (l.take k)
 have h3 := r.nn
 rw [List.length_take] at h1 h2; omega
theorem RB.go (hn : n ≤ hs.length) (h9 : eR rs n ≤ p ∧ p ≤ sR l rs n) (h10 : (cA (l.take p) : Int) < cA (l.take (sR l rs n))) :
    (∃ x, A[cA (l.take p)]? = some x ∧ B[cB (l.take p)]? = some x) ∧ cA (l.take (p + 1)) = cA (l.take p) + 1 ∧ cB (l.take (p + 1)) = cB (l.take p) + 1 ∧ p + 1 ≤ sR l rs n := by
  have hp : p < sR l rs n := by
    by_cases e : p = sR l rs n
    · rw [e] at h10; omega
    · omega
  obtain ⟨x, hx, ho⟩ := r.ko n p hn h9.1 hp
  have q := r.ln p x hx
  refine ⟨⟨_, q.a (by omega), q.b (by omega)⟩, ?_, ?_, hp⟩
  · rw [cA_s hx, if_neg (by omega)]
  · rw [cB_s hx, if_neg (by omega)]
theorem RB.stop (hn : n ≤ hs.length) (h9 : eR rs n ≤ p ∧ p ≤ sR l rs n) (h10 : ¬ (cA (l.take p) : Int) < cA (l.take (sR l rs n))) : p = sR l rs n := by
 by_cases e : p = sR l rs n
 ·exact e
 ·obtain ⟨x, hx, ho⟩ := r.ko n p hn h9.1 (by omega)
  have h1 := cA_s hx
  rw [if_neg (by omega)] at h1
  have h2 := cA_mono (l := l) (show p + 1 ≤ sR l rs n by omega)
  omega
theorem RB.hd {h : Hk} (hh : hs[n]? = some h) : (InI64 (h.fa - 1) ∧ InI64 h.fa ∧ InI64 (h.fb - 1) ∧ InI64 h.fb) ∧ bfr h.fa h.la = cA (l.take (sR l rs n)) ∧ bfr h.fb h.lb = cB (l.take (sR l rs n)) ∧ sR l rs n ≤ eR rs (n + 1) ∧ eR rs (n + 1) ≤ 1000000 ∧ h.ls.length + sR l rs n = eR rs (n + 1) := by
 have hlt := (List.getElem?_eq_some_iff.1 hh).1
 have e := r.el n hlt
 have c1 := r.cb (sR l rs n)
 have nn := r.nn
 have fr : ∀ b n : Nat, b ≤ 1000000 → InI64 (frm b n - 1) ∧ InI64 (frm b n) ∧ bfr (frm b n) n = b := fun b n hb => by
  unfold frm bfr InI64
  by_cases q : n = 0
  ·rw [if_pos q, if_pos (by omega)]; omega
  ·rw [if_neg q, if_neg (by omega)]; omega
 rw [r.hk n h hh]
 have f1 := fr _ (cA ((l.take (eR rs (n + 1))).drop (sR l rs n))) c1.1
 have f2 := fr _ (cB ((l.take (eR rs (n + 1))).drop (sR l rs n))) c1.2
 refine ⟨⟨f1.1, f1.2.1, f2.1, f2.2.1⟩, f1.2.2, f2.2.2, e.1, by omega, ?_⟩
 show ((l.take (eR rs (n + 1))).drop (sR l rs n)).length + _ = _
 rw [List.length_drop, List.length_take]; omega
theorem RB.line {h : Hk} {x : DL} (hh : hs[n]? = some h) (hx : h.ls[m]? = some x) : x.tx.length ≤ 1000000000 ∧ (¬ x.op = 3 → A[cA (l.take (sR l rs n + m))]? = some (fdL x)) ∧ (¬ x.op = 2 → B[cB (l.take (sR l rs n + m))]? = some (fdL x)) ∧
    cA (l.take (sR l rs n + (m + 1))) = cA (l.take (sR l rs n + m)) + (if x.op = 3 then 0 else 1) ∧ cB (l.take (sR l rs n + (m + 1))) = cB (l.take (sR l rs n + m)) + (if x.op = 2 then 0 else 1) ∧ sR l rs n + (m + 1) ≤ eR rs (n + 1) ∧ (x.op = 1 ∨ x.op = 2 ∨ x.op = 3) := by
  have hlt := (List.getElem?_eq_some_iff.1 hh).1
  have e := r.el n hlt
  have k := r.hd hh
  have hm := (List.getElem?_eq_some_iff.1 hx).1
  rw [r.hk n h hh] at hx
  have g : l[sR l rs n + m]? = some x := by
    have hx' : ((l.take (eR rs (n + 1))).drop (sR l rs n))[m]? = some x := hx
    rw [List.getElem?_drop, List.getElem?_take_of_lt (by omega)] at hx'
    exact hx'
  have q := r.ln _ x g
  have t := r.tx x (List.mem_of_getElem? g)
  exact ⟨by omega, q.a, q.b, cA_s g, cB_s g, by omega, q.op⟩
end
section
variable {X : CallF}
end
end Go.Proofs.YtfbpbkcplpkndaaGreatDoor
end
section
namespace Go.Proofs.YtfbpbkcplpkndaaGreatDoor
set_option linter.unusedVariables false
set_option linter.unusedSimpArgs false
def lnE (y : Bs) : Prop := ∃ z : Bs, (∀ c ∈ z, c ≠ 10) ∧ (y = z ∨ y = z ++ [10])
theorem fed_lnE {s : Bs} : ∀ y ∈ fed s, lnE y := fun y hy => by
 obtain ⟨i, hi⟩ := List.getElem?_of_mem hy
 have hl : i < (lins s).length := by have := (List.getElem?_eq_some_iff.1 hi).1; rw [fed_len] at this; exact this
 have e := List.getElem?_eq_getElem hl
 unfold fed at hi
 rw [fdK_get e] at hi
 have n := lins_no s _ (List.getElem_mem hl)
 refine ⟨_, n, ?_⟩
 have hi' := Option.some.inj hi
 split at hi'
 ·exact Or.inr hi'.symm
 ·exact Or.inl hi'.symm
theorem mkDL_no {op : Int} {y : Bs} (h : lnE y) : ∀ c ∈ (mkDL op y).tx, c ≠ 10 := by
 obtain ⟨z, hz, rfl | rfl⟩ := h
 ·unfold mkDL
  split
  ·intro c hc
   exact hz c (List.dropLast_subset _ hc)
  ·exact hz
 ·unfold mkDL
  rw [if_pos (by simp)]
  simpa using hz
theorem mkDL_len (op : Int) (y : Bs) : (mkDL op y).tx.length ≤ y.length := by
 unfold mkDL; split
 ·simp
 ·exact Nat.le_refl _
theorem difS_lnE {s t : Bs} : ∀ y ∈ difS s t, lnE y.tx := fun y hy => by
 unfold difS at hy
 have key : ∀ (p : List Int) (i j : Nat), ∀ y ∈ stp (fed s) (fed t) p i j, lnE y.tx := by
  intro p
  induction p with
  | nil => intro i j y hy; cases hy
  | cons op p ih =>
   intro i j y hy
   rcases List.mem_cons.1 hy with q | q
   ·subst q
    simp only
    have g : ∀ {u : Bs}, ∀ k, lnE ((fed u).getD k []) := fun {u} k => by
     by_cases hk : k < (fed u).length
     ·rw [getD_of (List.getElem?_eq_getElem hk)]; exact fed_lnE _ (List.getElem_mem hk)
     ·rw [show (fed u).getD k [] = [] by rw [List.getD_eq_getElem?_getD, List.getElem?_eq_none (by omega)]; rfl]; exact ⟨[], by simp, Or.inl rfl⟩
    split
    ·exact g _
    ·exact g _
   ·exact ih _ _ y q
 exact key _ _ _ y hy
theorem difL_no (s t : Bs) : ∀ x ∈ difL s t, ∀ c ∈ x.tx, c ≠ 10 := fun x hx => by
 obtain ⟨y, hy, rfl⟩ := List.mem_map.1 hx
 exact mkDL_no (difS_lnE y hy)
theorem difL_tx {s t : Bs} {n : Nat} (hs : s.length ≤ n) (ht : t.length ≤ n) : ∀ x ∈ difL s t, x.tx.length ≤ n := fun x hx => by
 obtain ⟨y, hy, rfl⟩ := List.mem_map.1 hx
 exact Nat.le_trans (mkDL_len _ _) (difS_tx hs ht y hy)
theorem difL_n (s t : Bs) : (difL s t).length ≤ (lins s).length + (lins t).length := by
 rw [difL_ln]; exact difS_ln s t
theorem cmp_RB {on ot nn nt : Bs} {c : Nat} (ho : ot.length ≤ 10000) (hn : nt.length ≤ 10000) (hx : (lins ot).length ≤ 400) (hy : (lins nt).length ≤ 400) :
    RB (difL ot nt) (fed ot) (fed nt) (rgs (difL ot nt) c) (cmpP on ot nn nt c).hs :=
  RB.mk' (rgs_ok _ _) (fun k x h => difL_ln' ot nt h) (difL_end ot nt) (by have := difL_n ot nt; omega) (fun x hx => Nat.le_trans (difL_tx ho hn x hx) (by decide)) rfl
theorem cmp_F {on ot nn nt : Bs} {c : Nat} (ho : ot.length ≤ 10000) (hn : nt.length ≤ 10000) (hx : (lins ot).length ≤ 400) (hy : (lins nt).length ≤ 400) :
    PtZ (cmpP on ot nn nt c) ∧ ptF (cmpP on ot nn nt c) := by
  have r := cmp_RB (on := on) (nn := nn) (c := c) ho hn hx hy
  have key : ∀ h ∈ (cmpP on ot nn nt c).hs, HkZ h ∧ HkF h := fun h hh => by
    obtain ⟨n, hn'⟩ := List.getElem?_of_mem hh
    have e := r.hk n h hn'
    have hd := r.hd hn'
    have cb := r.cb (sR (difL ot nt) (rgs (difL ot nt) c) n)
    have cm := c_mid (l := difL ot nt) hd.2.2.2.1
    have cb2 := r.cb (eR (rgs (difL ot nt) c) (n + 1))
    have sub : ∀ x ∈ h.ls, x ∈ difL ot nt := fun x hx => by
      rw [e] at hx
      exact List.mem_of_mem_take (List.mem_of_mem_drop hx)
    have fr : ∀ b n : Nat, b ≤ 1000000 → 0 ≤ frm b n ∧ frm b n ≤ 2147483647 := fun b n hb => by
      unfold frm; split <;> omega
    have la : h.la = cA h.ls := by rw [e]; rfl
    have lb : h.lb = cB h.ls := by rw [e]; rfl
    have fa : 0 ≤ h.fa ∧ h.fa ≤ 2147483647 := by rw [e]; exact fr _ _ cb.1
    have fb : 0 ≤ h.fb ∧ h.fb ≤ 2147483647 := by rw [e]; exact fr _ _ cb.2
    have ll : h.ls.length ≤ 1000000 := by have := hd.2.2.2.2; omega
    have ca := cA_le h.ls
    have cb' := cB_le h.ls
    have ln : ∀ x ∈ h.ls, 1 ≤ x.op ∧ x.op ≤ 3 := fun x hx => by
      obtain ⟨m, hm⟩ := List.getElem?_of_mem hx
      have := (r.line hn' hm).2.2.2.2.2.2; omega
    refine ⟨⟨by unfold InI64; omega, by unfold InI64; omega, by unfold InI64; omega, by unfold InI64; omega, by omega, fun x hx => ⟨by have := ln x hx; unfold InI64; omega, by have := r.tx x (sub x hx); omega⟩⟩, ⟨fun x hx => ⟨(ln x hx).1, (ln x hx).2, difL_no ot nt x (sub x hx)⟩, la, lb, fa.1, fa.2, fb.1, fb.2⟩⟩
  exact ⟨⟨by have := r.hb; omega, fun h hh => (key h hh).1⟩, fun h hh => (key h hh).2⟩
end Go.Proofs.YtfbpbkcplpkndaaGreatDoor
end
section
namespace Go.Proofs.YtfbpbkcplpkndaaGreatDoor
set_option linter.unusedVariables false
set_option linter.unusedSimpArgs false
set_option maxRecDepth 100000
theorem awake_run : (R FT XS).f 11 [] = some (boolA true) := R_of (n := 40) (by kernel_rfl)
end Go.Proofs.YtfbpbkcplpkndaaGreatDoor
end
section
namespace Go.Proofs.YtfbpbkcplpkndaaGreatDoor
set_option linter.unusedVariables false
set_option linter.unusedSimpArgs false
set_option maxRecDepth 100000
set_option maxHeartbeats 2000000
def fewB (s : Bs) : Bool := decide (s.length ≤ 4000) && decide ((lins s).length ≤ 60)
theorem few_run (s : Bs) (hs : s.length ≤ 100000000) : (R FT XS).f 10 [strL s] = some (boolA (fewB s)) := by
 have hm := maxLen_le
 have fd := fed_run (X := XS) s hs
 have lf := fed_len s
 have f1 : s.length ≤ 4000 → fewB s = decide ((lins s).length ≤ 60) := fun h => by unfold fewB; rw [decide_eq_true h, Bool.true_and]
 have f2 : ¬ s.length ≤ 4000 → fewB s = false := fun h => by unfold fewB; rw [decide_eq_false h, Bool.false_and]
 refine R_wp (((Tr.c (AV.slice 1 (List.map strL (fed s))) (Tr.k (fed s).length Tr.nil)).br Tr.nil).w) rfl ?_
 refine Eq.mpr (by kernel_rfl : _ = ((decide ((↑(List.length s) : Int) ≤ 4000) = true → (R FT XS).f 23 [strL s] = some (AV.slice 1 (List.map strL (fed s))) ∧ (List.map strL (fed s)).length = (fed s).length ∧ decide ((↑(fed s).length : Int) ≤ 60) = fewB s) ∧ (decide ((↑(List.length s) : Int) ≤ 4000) = false → false = fewB s))) ?_
 refine ⟨fun h1_ => have h1 := dT h1_; ⟨(fd), (by simp), ?_⟩, fun h2_ => have h2 := dF h2_; ?_⟩
 ·rw [f1 (by omega)]; congr 1; rw [lf]; apply propext; omega
 ·exact (f2 (by omega)).symm
end Go.Proofs.YtfbpbkcplpkndaaGreatDoor
end
section
namespace Go.Proofs.YtfbpbkcplpkndaaGreatDoor
set_option linter.unusedVariables false
set_option linter.unusedSimpArgs false
set_option maxRecDepth 100000
section
variable {X : CallF}
end
end Go.Proofs.YtfbpbkcplpkndaaGreatDoor
end
section
namespace Go.Proofs.YtfbpbkcplpkndaaGreatDoor
set_option linter.unusedVariables false
set_option linter.unusedSimpArgs false
set_option maxRecDepth 100000
def ntV (s : Bs) : Int := if dgO s = true then numV s else 0
def ntF (s : Bs) : Bool := dgO s && decide (numE s = 0) && decide (numV s ≤ 2147483647)
section
variable {X : CallF}
end
end Go.Proofs.YtfbpbkcplpkndaaGreatDoor
end
section
namespace Go.Proofs.YtfbpbkcplpkndaaGreatDoor
set_option linter.unusedVariables false
set_option linter.unusedSimpArgs false
set_option maxRecDepth 100000
def ptA (s : Bs) : Int := ntV (Lib.cut s [44]).1
def ptB (s : Bs) : Int := if (Lib.cut s [44]).2.2 = true then ntV (Lib.cut s [44]).2.1 else 1
def ptO (s : Bs) : Bool := dgO (Lib.cut s [44]).1 && (if (Lib.cut s [44]).2.2 = true then dgO (Lib.cut s [44]).2.1 else true)
def ptFi (s : Bs) : Bool := ntF (Lib.cut s [44]).1 && (if (Lib.cut s [44]).2.2 = true then ntF (Lib.cut s [44]).2.1 else true)
structure CoI (s : Bs) (k : Nat) : Prop where
 le : k ≤ s.length
 no : ∀ c ∈ s.take k, c ≠ 44
theorem CoI.cut_no {s : Bs} {k : Nat} (h : CoI s k) (e : ¬ (k : Int) < s.length) : Lib.cut s [44] = (s, [], false) := by
 have := h.no
 rw [List.take_of_length_le (by omega)] at this
 exact Go.Proofs.YtfbpbkcplpkndaaGreatDoor.cut_no this
theorem CoI.cut_at {s : Bs} {k : Nat} {c : UInt8} (h : CoI s k) (e : s[k]? = some c) (hc : (c.toNat : Int) = 44) : Lib.cut s [44] = (s.take k, s.drop (k + 1), true) := by
 have : c = 44 := u8_of (n := 44) hc (by decide)
 subst this
 have q := Go.Proofs.YtfbpbkcplpkndaaGreatDoor.cut_at (b := s.drop (k + 1)) (t := []) h.no
 rwa [List.append_assoc, List.singleton_append, ← drop_get e, List.take_append_drop] at q
theorem CoI.next {s : Bs} {k : Nat} {c : UInt8} (h : CoI s k) (e : s[k]? = some c) (hc : ¬ (c.toNat : Int) = 44) : CoI s (k + 1) := by
 refine ⟨(List.getElem?_eq_some_iff.1 e).1, fun x hx => ?_⟩
 rw [take_succ_get e, List.mem_append, List.mem_singleton] at hx
 exact hx.elim (h.no x) fun q => by subst q; exact fun e => hc (by rw [e]; rfl)
section
variable {X : CallF}
end
end Go.Proofs.YtfbpbkcplpkndaaGreatDoor
end
section
namespace Go.Proofs.YtfbpbkcplpkndaaGreatDoor
set_option linter.unusedVariables false
set_option linter.unusedSimpArgs false
set_option maxRecDepth 100000
section
variable {X : CallF}
end
end Go.Proofs.YtfbpbkcplpkndaaGreatDoor
end
section
namespace Go.Proofs.YtfbpbkcplpkndaaGreatDoor
set_option linter.unusedVariables false
set_option linter.unusedSimpArgs false
def hdG (s : Bs) : HdN := if Lib.hasPrefix s [64, 64, 32, 45] = true then hdV s else ⟨0, 0, 0, 0⟩
theorem hdG_y {s : Bs} (h : hdE s = 0) : hdG s = hdV s := by
 unfold hdG; unfold hdE hdO at h
 split
 ·rfl
 ·rename_i q
  rw [Bool.not_eq_true] at q
  rw [q] at h; simp at h
def hdA (ls : List Bs) (k : Nat) : Nat := if hdE (lnAt ls k) = 0 then k + 1 else k
theorem hdA_n {ls : List Bs} {k : Nat} (h : hdE (lnAt ls k) ≠ 0) : hdA ls k = k := if_neg h
theorem hdA_y {ls : List Bs} {k : Nat} (h : hdE (lnAt ls k) = 0) : hdA ls k = k + 1 := if_pos h
theorem lnAt_eq {ls : List Bs} {k : Nat} {x : Bs} (h : ls[0 + k]? = some x) : lnAt ls k = x := by
 rw [Nat.zero_add] at h; unfold lnAt; rw [List.getD_eq_getElem?_getD, h]; rfl
def isB (ls : List Bs) (k : Nat) (p : Bs) : Bool := decide (k < ls.length) && Lib.hasPrefix (lnAt ls k) p
theorem hp_one {s : Bs} {c : UInt8} : Lib.hasPrefix s [c] = true ↔ s[0]? = some c := by
 cases s with
 | nil => simp [Lib.hasPrefix, List.isPrefixOf]
 | cons x s => simp [Lib.hasPrefix, List.isPrefixOf]; exact eq_comm
theorem isE {e : Int} {b : Bool} (h : (decide (e = 0) && b) = true) : b = true := by rw [Bool.and_eq_true] at h; exact h.2
theorem isE' {e : Int} {b : Bool} (h : (decide (e = 0) && b) = false) (h0 : e = 0) : b = false := by rw [decide_eq_true h0, Bool.true_and] at h; exact h
theorem isB_0 {ls : List Bs} {k : Nat} {c : UInt8} {x : Bs} (h : isB ls k [c] = true) (hx : ls[0 + k]? = some x) : x[0]? = some c := by
 unfold isB at h; rw [Bool.and_eq_true, lnAt_eq hx] at h; exact hp_one.1 h.2
theorem isB_n {ls : List Bs} {k : Nat} {c : UInt8} {x : Bs} (h : isB ls k [c] = false) (hx : ls[k]? = some x) : x[0]? ≠ some c := fun q => by
 unfold isB at h
 have hk := (List.getElem?_eq_some_iff.1 hx).1
 rw [decide_eq_true hk, lnAt_eq (by rw [Nat.zero_add]; exact hx), hp_one.2 q] at h
 cases h
noncomputable def hkLn (ls : List Bs) (k : Nat) : List DL := if hdE (lnAt ls k) = 0 then (hkB ls k).2.2 else []
structure HunkI (ls : List Bs) (k : Nat) (j : Nat × Int × Int × Int × List DL) : Prop where
 le : j.1 ≤ ls.length
 ia : InI64 j.2.2.1
 ib : InI64 j.2.2.2.1
 ln : j.2.2.2.2.length ≤ j.1
 ok : j.2.1 = 0 → hdE (lnAt ls k) = 0 ∧ Bd ls j.2.2.1 j.2.2.2.1 j.1 j.2.2.2.2 (hkB ls k)
 bad : j.2.1 ≠ 0 → hdE (lnAt ls k) = j.2.1 ∧ k = j.1 ∧ j.2.2.2.2 = []
def hkM (ls : List Bs) (j : Nat × Int × Int × Int × List DL) : Nat := if j.2.1 = 0 then ls.length - j.1 + 1 else 0
section
variable {ls : List Bs} {k : Nat} {j : Nat × Int × Int × Int × List DL}
theorem dgV_in (s : Bs) : InI64 (dgV s) := by
 unfold dgV; split
 ·unfold InI64; omega
 ·exact numV_in s
theorem prB_in (s : Bs) : InI64 (prB s) := by
 unfold prB; split
 ·exact dgV_in _
 ·unfold InI64; omega
theorem hdG_in (s : Bs) : InI64 (hdG s).la ∧ InI64 (hdG s).lb := by
 unfold hdG; split
 ·exact ⟨prB_in _, prB_in _⟩
 ·exact ⟨by unfold InI64; decide, by unfold InI64; decide⟩
theorem HunkI.init (hk : k < ls.length) : HunkI ls k (hdA ls k, hdE (lnAt ls k), (hdG (lnAt ls k)).la, (hdG (lnAt ls k)).lb, []) := by
 refine ⟨?_, (hdG_in _).1, (hdG_in _).2, Nat.zero_le _, fun h => ?_, fun h => ?_⟩
 ·show hdA ls k ≤ ls.length
  unfold hdA; split <;> omega
 ·have h : hdE (lnAt ls k) = 0 := h
  refine ⟨h, ?_⟩
  show Bd ls (hdG (lnAt ls k)).la (hdG (lnAt ls k)).lb (hdA ls k) [] (hkB ls k)
  rw [hdG_y h, hdA_y h]
  exact bdR_ok _ _ _ _
 ·exact ⟨rfl, (hdA_n h).symm, rfl⟩
theorem HunkI.step {op a' b' : Int} {k' : Nat} {t : Bool} {x : Bs} (h : HunkI ls k j) (e : j.2.1 = 0) (hx : ls[0 + j.1]? = some x) (ho : opP x j.2.2.1 j.2.2.2.1 = some op)
    (ha : a' = if op = 3 then j.2.2.1 else j.2.2.1 - 1) (hb : b' = if op = 2 then j.2.2.2.1 else j.2.2.2.1 - 1) (hn : neB ls (j.1 + 1) = t) (hk : k' = if t = true then j.1 + 1 + 1 else j.1 + 1) : HunkI ls k (k', j.2.1, a', b', j.2.2.2.2 ++ [⟨op, (x.take x.length).drop 1, t⟩]) := by
  rw [Nat.zero_add] at hx
  have hl := (List.getElem?_eq_some_iff.1 hx).1
  obtain ⟨h1, h2⟩ := h.ok e
  have hia := h.ia
  have hib := h.ib
  have hq : nxt ls (j.1 + 1) = k' := by unfold nxt; rw [hn, hk]
  have hle : k' ≤ ls.length := by rw [← hq]; exact nxt_le (by omega)
  have hge : j.1 + 1 ≤ k' := by rw [← hq]; exact nxt_ge _
  refine ⟨hle, ?_, ?_, ?_, fun _ => ⟨h1, ?_⟩, fun q => absurd e q⟩
  · show InI64 a'
    rcases opP_cases ho with q | q | q <;> obtain ⟨rfl, q2, q⟩ := q <;> rw [ha] <;> simp <;> unfold InI64 at * <;> omega
  · show InI64 b'
    rcases opP_cases ho with q | q | q <;> obtain ⟨rfl, q2, q⟩ := q <;> rw [hb] <;> simp <;> unfold InI64 at * <;> omega
  · show (j.2.2.2.2 ++ _).length ≤ k'
    rw [List.length_append, List.length_singleton]
    have := h.ln
    omega
  · show Bd ls a' b' k' (j.2.2.2.2 ++ _) (hkB ls k)
    rw [List.take_of_length_le (Nat.le_refl _)]
    generalize hkB ls k = r at h2 ⊢
    cases h2 with
    | fin q => rcases opP_cases ho with q' | q' | q' <;> omega
    | out _ q => omega
    | bad _ q q2 => rw [hx] at q; cases q; rw [ho] at q2; cases q2
    | go q q2 q3 =>
      rw [hx] at q; cases q; rw [ho] at q2; cases q2
      rw [ha, hb, ← hq, ← hn]
      exact q3
theorem opP_1 {x : Bs} {a b : Int} (h : x[0]? = some 32) (ha : 0 < a) (hb : 0 < b) : opP x a b = some 1 := by unfold opP; rw [if_pos ⟨h, ha, hb⟩]
theorem opP_2 {x : Bs} {a b : Int} (h : x[0]? = some 45) (ha : 0 < a) : opP x a b = some 2 := by unfold opP; rw [if_neg (by rw [h]; rintro ⟨q, -⟩; cases q), if_pos ⟨h, ha⟩]
theorem opP_3 {x : Bs} {a b : Int} (h : x[0]? = some 43) (hb : 0 < b) : opP x a b = some 3 := by unfold opP; rw [if_neg (by rw [h]; rintro ⟨q, -⟩; cases q), if_neg (by rw [h]; rintro ⟨q, -⟩; cases q), if_pos ⟨h, hb⟩]
theorem HunkI.s1 {t : Bool} {x : Bs} {k' : Nat} (h : HunkI ls k j) (e : j.2.1 = 0) (hx : ls[0 + j.1]? = some x) (p : (decide (j.2.1 = 0) && isB ls j.1 [32]) = true) (ha : 0 < j.2.2.1) (hb : 0 < j.2.2.2.1) (hn : neB ls (j.1 + 1) = t) (hk : k' = if t = true then j.1 + 1 + 1 else j.1 + 1) : HunkI ls k (k', j.2.1, j.2.2.1 - 1, j.2.2.2.1 - 1, j.2.2.2.2 ++ [⟨1, (x.take x.length).drop 1, t⟩]) :=
 h.step e hx (opP_1 (isB_0 (isE p) hx) ha hb) rfl rfl hn hk
theorem HunkI.s2 {t : Bool} {x : Bs} {k' : Nat} (h : HunkI ls k j) (e : j.2.1 = 0) (hx : ls[0 + j.1]? = some x) (p : (decide (j.2.1 = 0) && isB ls j.1 [45]) = true) (ha : 0 < j.2.2.1) (hn : neB ls (j.1 + 1) = t) (hk : k' = if t = true then j.1 + 1 + 1 else j.1 + 1) : HunkI ls k (k', j.2.1, j.2.2.1 - 1, j.2.2.2.1, j.2.2.2.2 ++ [⟨2, (x.take x.length).drop 1, t⟩]) :=
 h.step e hx (opP_2 (isB_0 (isE p) hx) ha) rfl rfl hn hk
def HunkE (ls : List Bs) (k : Nat) (j : Nat × Int × Int × Int × List DL) (e : Int) : Prop := e = hkE ls k ∧ j.1 = hkA ls k ∧ j.2.2.2.2 = hkLn ls k
theorem HunkI.end (h : HunkI ls k j) (e : j.2.1 = 0) {r : Int × Nat × List DL} (hr : hkB ls k = r) (h1 : r.2.1 = j.1) (h2 : r.2.2 = j.2.2.2.2) : HunkE ls k j r.1 := by
 obtain ⟨q, -⟩ := h.ok e
 refine ⟨?_, ?_, ?_⟩
 ·unfold hkE; rw [if_pos q, hr]
 ·unfold hkA; rw [if_pos q, hr, h1]
 ·unfold hkLn; rw [if_pos q, hr, h2]
theorem HunkI.fin (h : HunkI ls k j) (e : j.2.1 = 0) (ha : ¬ 0 < j.2.2.1) (hb : ¬ 0 < j.2.2.2.1) : HunkE ls k j j.2.1 := by
 rw [e]
 have h2 := (h.ok e).2
 have hr : hkB ls k = (0, j.1, j.2.2.2.2) := h2.det (.fin (by omega))
 exact h.end e hr rfl rfl
theorem HunkI.err (h : HunkI ls k j) (e : ¬ j.2.1 = 0) : HunkE ls k j j.2.1 := by
 obtain ⟨q1, q2, q3⟩ := h.bad e
 have hn : ¬ hdE (lnAt ls k) = 0 := by rw [q1]; exact e
 refine ⟨?_, ?_, ?_⟩
 ·unfold hkE; rw [if_neg hn, q1]
 ·unfold hkA; rw [if_neg hn, q2]
 ·unfold hkLn; rw [if_neg hn, q3]
theorem HunkI.out (h : HunkI ls k j) (e : j.2.1 = 0) (hab : 0 < j.2.2.1 ∨ 0 < j.2.2.2.1) (q1 : (decide (j.2.1 = 0) && isB ls j.1 [32]) = false ∨ ¬ 0 < j.2.2.1 ∨ ¬ 0 < j.2.2.2.1) (q2 : (decide (j.2.1 = 0) && isB ls j.1 [45]) = false ∨ ¬ 0 < j.2.2.1) (q3 : (decide (j.2.1 = 0) && isB ls j.1 [43]) = false ∨ ¬ 0 < j.2.2.2.1) : HunkE ls k j 1 := by
 have h2 := (h.ok e).2
 have hr : hkB ls k = (1, j.1, j.2.2.2.2) := by
  cases hl : ls[j.1]? with
  | none => exact h2.det (.out hab (List.getElem?_eq_none_iff.1 hl))
  | some x =>
   refine h2.det (.bad hab hl ?_)
   unfold opP
   rw [if_neg, if_neg, if_neg]
   ·rintro ⟨p, p2⟩
    rcases q3 with q3 | q3
    ·exact isB_n (isE' q3 e) hl p
    ·exact q3 p2
   ·rintro ⟨p, p2⟩
    rcases q2 with q2 | q2
    ·exact isB_n (isE' q2 e) hl p
    ·exact q2 p2
   ·rintro ⟨p, p2, p3⟩
    rcases q1 with q1 | q1 | q1
    ·exact isB_n (isE' q1 e) hl p
    ·exact q1 p2
    ·exact q1 p3
 exact h.end e hr rfl rfl
theorem HunkE.e {e : Int} (h : HunkE ls k j e) : e = hkE ls k := h.1
theorem HunkE.a {e : Int} (h : HunkE ls k j e) : (j.1 : Int) = hkA ls k := by rw [h.2.1]
theorem HunkE.n {e : Int} (h : HunkE ls k j e) : j.2.2.2.2.length = (hkLn ls k).length := by rw [h.2.2]
theorem HunkE.l {e : Int} {f : DL → AV} (h : HunkE ls k j e) : j.2.2.2.2.map f = (hkLn ls k).map f := by rw [h.2.2]
end
end Go.Proofs.YtfbpbkcplpkndaaGreatDoor
end
section
namespace Go.Proofs.YtfbpbkcplpkndaaGreatDoor
set_option linter.unusedVariables false
set_option linter.unusedSimpArgs false
set_option maxRecDepth 100000
set_option maxHeartbeats 2000000
theorem hdE_o {s : Bs} (h : hdO s = false) : hdE s = 1 := by unfold hdE; rw [if_neg (by rw [h]; decide)]
def hdY (s : Bs) : Bs × Bs × Bool := Lib.cut (Lib.trimSuffix (Lib.trimPrefix s [64, 64, 32, 45]) [32, 64, 64]) [32, 43]
section
variable {X : CallF}
end
end Go.Proofs.YtfbpbkcplpkndaaGreatDoor
end
section
namespace Go.Proofs.YtfbpbkcplpkndaaGreatDoor
set_option linter.unusedVariables false
set_option linter.unusedSimpArgs false
set_option maxRecDepth 100000
set_option maxHeartbeats 2000000
section
variable {X : CallF}
end
end Go.Proofs.YtfbpbkcplpkndaaGreatDoor
end
section
namespace Go.Proofs.YtfbpbkcplpkndaaGreatDoor
set_option linter.unusedVariables false
set_option linter.unusedSimpArgs false
structure PaI (ls : List Bs) (j : Nat × Int × List Pt) : Prop where
 le : j.1 ≤ ls.length
 ln : j.2.2.length ≤ ls.length
 ok : j.2.1 = 0 → j.2.2.length ≤ j.1 ∧ Pm ls j.1 j.2.2 (pmR ls)
 bad : j.2.1 ≠ 0 → (pmR ls).1 = j.2.1 ∧ (pmR ls).2.1 = j.1
def paM (ls : List Bs) (j : Nat × Int × List Pt) : Nat := if j.2.1 = 0 then ls.length - j.1 + 1 else 0
structure HsI (ls : List Bs) (j : Nat × Int × List Pt) (q : Nat × Int × Bs × Bs × List Hk) : Prop where
 le : q.1 ≤ ls.length
 ln : q.2.2.2.2.length ≤ ls.length
 pl : j.2.2.length ≤ j.1
 lt : j.1 < ls.length
 je : j.1 ≤ q.1
 ok : q.2.1 = 0 → (j.1 + 2 ≤ q.1 ∧ q.2.2.2.2.length ≤ q.1) ∧ nmP ls j.1 mnA = some q.2.2.1 ∧ nmP ls (j.1 + 1) mnB = some q.2.2.2.1 ∧ Hs ls q.1 q.2.2.2.2 (hsR ls (j.1 + 2)) ∧ Pm ls j.1 j.2.2 (pmR ls)
 bad : q.2.1 ≠ 0 → (pmR ls).1 = q.2.1 ∧ (pmR ls).2.1 = q.1
def hsM (ls : List Bs) (q : Nat × Int × Bs × Bs × List Hk) : Nat := if q.2.1 = 0 then ls.length - q.1 + 1 else 0
section
variable {ls : List Bs} {j : Nat × Int × List Pt} {q : Nat × Int × Bs × Bs × List Hk}
theorem PaI.start (ls : List Bs) : PaI ls (0, 0, []) := ⟨Nat.zero_le _, Nat.zero_le _, fun _ => ⟨Nat.le_refl _, pmR_ok ls⟩, fun h => absurd rfl h⟩
theorem PaI.n1 (h : PaI ls j) (e : j.2.1 = 0) (hk : j.1 < ls.length) (hn : nmP ls j.1 mnA = none) (o n : Bs) : HsI ls j (j.1, 1, o, n, []) :=
 ⟨h.le, Nat.zero_le _, (h.ok e).1, hk, Nat.le_refl _, (fun q => by cases q), fun _ => by rw [(h.ok e).2.det (.b1 hk hn)]; exact ⟨rfl, rfl⟩⟩
theorem PaI.n2 (h : PaI ls j) (e : j.2.1 = 0) {o' : Bs} (hn : nmP ls j.1 mnA = some o') (hn2 : nmP ls (j.1 + 1) mnB = none) (o n : Bs) : HsI ls j (j.1 + 1, 1, o, n, []) :=
 ⟨nmP_lt hn, Nat.zero_le _, (h.ok e).1, nmP_lt hn, Nat.le_succ _, (fun q => by cases q), fun _ => by rw [(h.ok e).2.det (.b2 hn hn2)]; exact ⟨rfl, rfl⟩⟩
theorem PaI.n3 (h : PaI ls j) (e : j.2.1 = 0) {o n : Bs} (hn : nmP ls j.1 mnA = some o) (hn2 : nmP ls (j.1 + 1) mnB = some n) : HsI ls j (j.1 + 1 + 1, j.2.1, o, n, []) :=
 ⟨nmP_lt hn2, Nat.zero_le _, (h.ok e).1, nmP_lt hn, by simp only; omega, fun _ => ⟨⟨Nat.le_refl _, Nat.zero_le _⟩, hn, hn2, hsR_ok ls _, (h.ok e).2⟩, fun q => absurd e q⟩
theorem HsI.go {hk : Hk} (h : HsI ls j q) (e : q.2.1 = 0) (ha : atH ls q.1 = true) (hh : hkE ls q.1 = 0 → hk = hkH ls q.1) : HsI ls j (hkA ls q.1, hkE ls q.1, q.2.2.1, q.2.2.2.1, q.2.2.2.2 ++ [hk]) := by
 obtain ⟨⟨g0, gl⟩, g1, g2, g3, g4⟩ := h.ok e
 have hl := atH_lt ha
 have hge : q.1 ≤ hkA ls q.1 := by
  unfold hkA; split
  ·have := (bdR_ok ls (hdV (lnAt ls q.1)).la (hdV (lnAt ls q.1)).lb (q.1 + 1)).adv.1
   unfold hkB; omega
  ·exact Nat.le_refl _
 have hge2 : hkE ls q.1 = 0 → q.1 + 1 ≤ hkA ls q.1 := fun he => hkA_adv he
 have hlen := h.ln
 have hl2 : (q.2.2.2.2 ++ [hk]).length ≤ ls.length := by rw [List.length_append, List.length_singleton]; omega
 by_cases he : hkE ls q.1 = 0
 ·have hk1 := hh he
  subst hk1
  have h1 := hge2 he
  refine ⟨hkA_le hl, hl2, h.pl, h.lt, ?_, fun _ => ⟨⟨?_, ?_⟩, g1, g2, ?_, g4⟩, fun c => absurd he c⟩
  ·show j.1 ≤ hkA ls q.1
   omega
  ·show j.1 + 2 ≤ hkA ls q.1
   omega
  ·show (q.2.2.2.2 ++ _).length ≤ hkA ls q.1
   rw [List.length_append, List.length_singleton]; omega
  ·show Hs ls (hkA ls q.1) (q.2.2.2.2 ++ [hkH ls q.1]) _
   generalize hsR ls (j.1 + 2) = r at g3 ⊢
   cases g3 with
   | fin q => rw [ha] at q; cases q
   | bad _ q => exact absurd he q
   | go _ _ g => exact g
 ·have hr : hsR ls (j.1 + 2) = (hkE ls q.1, hkA ls q.1, q.2.2.2.2) := g3.det (.bad ha he)
  have hne : (hsR ls (j.1 + 2)).1 ≠ 0 := by rw [hr]; exact he
  refine ⟨hkA_le hl, hl2, h.pl, h.lt, ?_, fun c => absurd c he, fun _ => ?_⟩
  ·show j.1 ≤ hkA ls q.1
   have := h.je; omega
  ·rw [g4.det (.b3 g1 g2 hne), hr]; exact ⟨rfl, rfl⟩
theorem HsI.fin (h : HsI ls j q) (e : q.2.1 = 0) (ha : atH ls q.1 = false) : PaI ls (q.1, q.2.1, j.2.2 ++ [⟨q.2.2.1, q.2.2.2.1, q.2.2.2.2⟩]) := by
 obtain ⟨⟨g0, gl⟩, g1, g2, g3, g4⟩ := h.ok e
 have hle := h.le
 have hpl := h.pl
 have hr : hsR ls (j.1 + 2) = (0, q.1, q.2.2.2.2) := g3.det (.fin ha)
 refine ⟨h.le, ?_, fun _ => ⟨?_, ?_⟩, fun c => absurd e c⟩
 ·show (j.2.2 ++ _).length ≤ _
  rw [List.length_append, List.length_singleton]; omega
 ·show (j.2.2 ++ _).length ≤ q.1
  rw [List.length_append, List.length_singleton]; omega
 ·show Pm ls q.1 (j.2.2 ++ _) _
  generalize pmR ls = r at g4 ⊢
  cases g4 with
  | fin q => have := nmP_lt g1; omega
  | b1 _ q => rw [g1] at q; cases q
  | b2 _ q => rw [g2] at q; cases q
  | b3 _ _ q => rw [hr] at q; exact absurd rfl q
  | go q q2 _ g => rw [g1] at q; cases q; rw [g2] at q2; cases q2; rw [hr] at g; exact g
theorem HsI.err (h : HsI ls j q) (e : ¬ q.2.1 = 0) (l : List Pt) (hl : l.length = j.2.2.length + 1) : PaI ls (q.1, q.2.1, l) := by
 have h1 := h.pl
 have h2 := h.lt
 refine ⟨h.le, ?_, fun c => absurd c e, fun _ => h.bad e⟩
 show l.length ≤ _
 omega
theorem PaI.fin (h : PaI ls j) (e : j.2.1 = 0) (hk : ¬ j.1 < ls.length) : pmR ls = (0, j.1, j.2.2) := (h.ok e).2.det (.fin (by omega))
end
section
variable {ls : List Bs} {k : Nat} {x p : Bs}
end
end Go.Proofs.YtfbpbkcplpkndaaGreatDoor
end
