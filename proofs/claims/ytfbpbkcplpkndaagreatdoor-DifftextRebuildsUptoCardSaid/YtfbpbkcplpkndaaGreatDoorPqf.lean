/- Own texts of this claim, merged: Dfe, DfJ, DfY, Dff. -/
import Derived.Test.YtfbpbkcplpkndaaGreatDoorPqe
section
namespace Go.Proofs.YtfbpbkcplpkndaaGreatDoor
set_option linter.unusedVariables false
set_option linter.unusedSimpArgs false
set_option maxRecDepth 100000
set_option maxHeartbeats 2000000
section
variable {X : CallF}
theorem begin_run (f n : Int) (h : InI64 (f - 1)) (h2 : InI64 f) : (R FT X).f 57 [intA f, intA n] = some (intA (bfr f n)) := by
 refine R_wp ((Tr.nil.br Tr.nil.w).w.w) rfl ?_
 refine Eq.mpr (by kernel_rfl : _ = ((decide (n = 0) = true → f = bfr f n) ∧ (decide (n = 0) = false → InI64 (f - 1) ∧ f - 1 = bfr f n))) ?_
 refine ⟨fun h1_ => have h1 := dT h1_; ?_, fun h2_ => have h2 := dF h2_; ⟨h, ?_⟩⟩
 ·exact (if_pos h1).symm
 ·exact (if_neg h2).symm
theorem fdl_run (x : DL) (h : x.tx.length ≤ 1000000000) : (R FT X).f 58 [encDL x] = some (strL (fdL x)) := by
 have hm := maxLen_le
 refine R_wp ((Tr.nil.br Tr.nil.w).w.w) rfl ?_
 refine Eq.mpr (by kernel_rfl : _ = ((x.ne = true → x.tx = fdL x) ∧ (x.ne = false → List.length x.tx + [(10 : UInt8)].length ≤ 9223372036854775807 ∧ x.tx ++ [(10 : UInt8)] = fdL x))) ?_
 refine ⟨fun h1 => ?_, fun h2 => ⟨(by simp; omega), ?_⟩⟩
 ·exact (if_pos h1).symm
 ·unfold fdL; rw [if_neg (by rw [h2]; decide)]
def sR (l : List DL) (rs : List (Nat × Nat)) (n : Nat) : Nat := if n < rs.length then (rs.getD n (0, 0)).1 else l.length
end
structure RB (l : List DL) (A B : List Bs) (rs : List (Nat × Nat)) (hs : List Hk) : Prop where
 ko : ∀ n p, n ≤ hs.length → eR rs n ≤ p → p < sR l rs n → ∃ x, l[p]? = some x ∧ x.op = 1
 es : ∀ n, n ≤ hs.length → eR rs n ≤ sR l rs n
 el : ∀ n, n < hs.length → sR l rs n ≤ eR rs (n + 1) ∧ eR rs (n + 1) ≤ l.length
 hk : ∀ n h, hs[n]? = some h → h = hkR l (sR l rs n, eR rs (n + 1))
 ln : ∀ k x, l[k]? = some x → LnK A B l k x
 tx : ∀ x ∈ l, x.tx.length ≤ 1000000
 nn : l.length ≤ 1000000
 ea : cA l = A.length
 eb : cB l = B.length
 sn : sR l rs hs.length = l.length
 hb : hs.length ≤ 1000000
theorem Rg.cnt {N : Nat → Prop} {len j : Nat} {rs : List (Nat × Nat)} (h : Rg N len j rs) : rs.length ≤ len - j := by
 induction h with
 | fin => exact Nat.zero_le _
 | skip _ _ _ ih => omega
 | run _ _ _ _ _ ih => rw [List.length_cons]; omega
section
variable {l : List DL} {A B : List Bs} {rs : List (Nat × Nat)} {hs : List Hk} {n p m : Nat}
theorem RB.mk' {c : Nat} (h : Rg (nr l c) l.length 0 rs) (hl : ∀ k x, l[k]? = some x → LnK A B l k x) (he : cA l = A.length ∧ cB l = B.length) (hn : l.length ≤ 1000000) (ht : ∀ x ∈ l, x.tx.length ≤ 1000000) (hh : hs = rs.map (hkR l)) : RB l A B rs hs := by
 have len : hs.length = rs.length := by rw [hh, List.length_map]
 have sr : ∀ n r, rs[n]? = some r → sR l rs n = r.1 := fun n r q => by
  have hlt := (List.getElem?_eq_some_iff.1 q).1
  unfold sR; rw [if_pos hlt, List.getD_eq_getElem?_getD, q]; rfl
 have sn : sR l rs hs.length = l.length := by unfold sR; rw [if_neg (by omega)]
 have kp : ∀ x, x < l.length → ¬ nr l c x → ∃ y, l[x]? = some y ∧ y.op = 1 := fun x hx hq => by
  have e := List.getElem?_eq_getElem hx
  refine ⟨_, e, ?_⟩
  by_cases o : l[x].op = 1
  ·exact o
  ·exact absurd ⟨x, ⟨_, e, o⟩, by omega, by omega⟩ hq
 refine ⟨fun n p h1 h2 h3 => ?_, fun n h1 => ?_, fun n h1 => ?_, fun n k hk => ?_, hl, ht, hn, he.1, he.2, sn, by have := h.cnt; omega⟩
 ·by_cases q : n < rs.length
  ·have a := h.atR (List.getElem?_eq_getElem q)
   rw [sr n _ (List.getElem?_eq_getElem q)] at h3
   exact kp p (by have := a.se; have := a.el; omega) (a.no p h2 h3)
  ·obtain rfl : n = rs.length := by omega
   rw [← len, sn] at h3
   exact kp p h3 ((h.atE).2 p h2 h3)
 ·by_cases q : n < rs.length
  ·have a := h.atR (List.getElem?_eq_getElem q)
   rw [sr n _ (List.getElem?_eq_getElem q)]; exact a.es
  ·obtain rfl : n = rs.length := by omega
   rw [← len, sn, len]; exact (h.atE).1
 ·have q : n < rs.length := by omega
  have a := h.atR (List.getElem?_eq_getElem q)
  rw [sr n _ (List.getElem?_eq_getElem q), a.nx]
  exact ⟨Nat.le_of_lt a.se, a.el⟩
 ·rw [hh, List.getElem?_map] at hk
  obtain ⟨r, hr, rfl⟩ := Option.map_eq_some_iff.1 hk
  have a := h.atR hr
  rw [sr n r hr, a.nx]
variable (r : RB l A B rs hs)
include r
theorem RB.cb (k : Nat) : cA (l.take k) ≤ 1000000 ∧ cB (l.take k) ≤ 1000000 := by
 have h1 := cA_le (l.take k)
 have h2 := cB_le (l.take k)
 have h3 := r.nn
 rw [List.length_take] at h1 h2; omega
theorem RB.go (hn : n ≤ hs.length) (h9 : eR rs n ≤ p ∧ p ≤ sR l rs n) (h10 : (cA (l.take p) : Int) < cA (l.take (sR l rs n))) :
    (∃ x, A[cA (l.take p)]? = some x ∧ B[cB (l.take p)]? = some x) ∧ cA (l.take (p + 1)) = cA (l.take p) + 1 ∧ cB (l.take (p + 1)) = cB (l.take p) + 1 ∧ p + 1 ≤ sR l rs n := by
  have hp : p < sR l rs n := by
    by_cases e : p = sR l rs n
    · rw [e] at h10; omega
    · omega
  obtain ⟨x, hx, ho⟩ := r.ko n p hn h9.1 hp
  have q := r.ln p x hx
  refine ⟨⟨_, q.a (by omega), q.b (by omega)⟩, ?_, ?_, hp⟩
  · rw [cA_s hx, if_neg (by omega)]
  · rw [cB_s hx, if_neg (by omega)]
theorem RB.stop (hn : n ≤ hs.length) (h9 : eR rs n ≤ p ∧ p ≤ sR l rs n) (h10 : ¬ (cA (l.take p) : Int) < cA (l.take (sR l rs n))) : p = sR l rs n := by
 by_cases e : p = sR l rs n
 ·exact e
 ·obtain ⟨x, hx, ho⟩ := r.ko n p hn h9.1 (by omega)
  have h1 := cA_s hx
  rw [if_neg (by omega)] at h1
  have h2 := cA_mono (l := l) (show p + 1 ≤ sR l rs n by omega)
  omega
theorem RB.hd {h : Hk} (hh : hs[n]? = some h) : (InI64 (h.fa - 1) ∧ InI64 h.fa ∧ InI64 (h.fb - 1) ∧ InI64 h.fb) ∧ bfr h.fa h.la = cA (l.take (sR l rs n)) ∧ bfr h.fb h.lb = cB (l.take (sR l rs n)) ∧ sR l rs n ≤ eR rs (n + 1) ∧ eR rs (n + 1) ≤ 1000000 ∧ h.ls.length + sR l rs n = eR rs (n + 1) := by
 have hlt := (List.getElem?_eq_some_iff.1 hh).1
 have e := r.el n hlt
 have c1 := r.cb (sR l rs n)
 have nn := r.nn
 have fr : ∀ b n : Nat, b ≤ 1000000 → InI64 (frm b n - 1) ∧ InI64 (frm b n) ∧ bfr (frm b n) n = b := fun b n hb => by
  unfold frm bfr InI64
  by_cases q : n = 0
  ·rw [if_pos q, if_pos (by omega)]; omega
  ·rw [if_neg q, if_neg (by omega)]; omega
 rw [r.hk n h hh]
 have f1 := fr _ (cA ((l.take (eR rs (n + 1))).drop (sR l rs n))) c1.1
 have f2 := fr _ (cB ((l.take (eR rs (n + 1))).drop (sR l rs n))) c1.2
 refine ⟨⟨f1.1, f1.2.1, f2.1, f2.2.1⟩, f1.2.2, f2.2.2, e.1, by omega, ?_⟩
 show ((l.take (eR rs (n + 1))).drop (sR l rs n)).length + _ = _
 rw [List.length_drop, List.length_take]; omega
theorem RB.line {h : Hk} {x : DL} (hh : hs[n]? = some h) (hx : h.ls[m]? = some x) : x.tx.length ≤ 1000000000 ∧ (¬ x.op = 3 → A[cA (l.take (sR l rs n + m))]? = some (fdL x)) ∧ (¬ x.op = 2 → B[cB (l.take (sR l rs n + m))]? = some (fdL x)) ∧
    cA (l.take (sR l rs n + (m + 1))) = cA (l.take (sR l rs n + m)) + (if x.op = 3 then 0 else 1) ∧ cB (l.take (sR l rs n + (m + 1))) = cB (l.take (sR l rs n + m)) + (if x.op = 2 then 0 else 1) ∧ sR l rs n + (m + 1) ≤ eR rs (n + 1) ∧ (x.op = 1 ∨ x.op = 2 ∨ x.op = 3) := by
  have hlt := (List.getElem?_eq_some_iff.1 hh).1
  have e := r.el n hlt
  have k := r.hd hh
  have hm := (List.getElem?_eq_some_iff.1 hx).1
  rw [r.hk n h hh] at hx
  have g : l[sR l rs n + m]? = some x := by
    have hx' : ((l.take (eR rs (n + 1))).drop (sR l rs n))[m]? = some x := hx
    rw [List.getElem?_drop, List.getElem?_take_of_lt (by omega)] at hx'
    exact hx'
  have q := r.ln _ x g
  have t := r.tx x (List.mem_of_getElem? g)
  exact ⟨by omega, q.a, q.b, cA_s g, cB_s g, by omega, q.op⟩
end
section
variable {X : CallF}
theorem rebuilt_run (l : List DL) (A B : List Bs) (rs : List (Nat × Nat)) (c : Nat) (h : Rg (nr l c) l.length 0 rs) (hl : ∀ k x, l[k]? = some x → LnK A B l k x) (he : cA l = A.length ∧ cB l = B.length) (hn : l.length ≤ 1000000) (ht : ∀ x ∈ l, x.tx.length ≤ 1000000) (hs : List Hk) (hh : hs = rs.map (hkR l)) : (R FT X).f 24 [.slice 5 (hs.map encHk), .slice 1 (A.map strL), .slice 1 (B.map strL)] = some (boolA true) := by
 have hm := maxLen_le
 have r : RB l A B rs hs := RB.mk' h hl he hn ht hh
 have hlen : hs.length = rs.length := by rw [hh, List.length_map]
 clear h hl he ht hh
 have hb := fun (f n : Int) h h2 => begin_run (X := X) f n h h2
 have hf := fun (x : DL) h => fdl_run (X := X) x h
 refine R_wp ((Tr.inv (fun (n : Nat) ↦ St.mk [(0, AV.slice 5 (List.map encHk hs)), (1, AV.slice 1 (List.map strL A)), (2, AV.slice 1 (List.map strL B)), (7, intA (↑(cA (List.take (eR rs n) l)) : Int)), (8, intA (↑(cB (List.take (eR rs n) l)) : Int)), (9, intA (↑n : Int))] []) (fun (n : Nat) ↦ n ≤ hs.length) (fun (n : Nat) ↦ hs.length + 1 - n) fun (n : Nat) ↦ (Tr.k hs.length (Tr.b true (Tr.k A.length (Tr.k hs.length ((Tr.ix encHk hs n fun (x4 : Hk) ↦ Tr.ix encHk hs n fun (x6 : Hk) ↦ Tr.c (intA (bfr x4.fa x6.la)) (Tr.inv (fun (p : Nat) ↦ St.mk [(0, AV.slice 5 (List.map encHk hs)), (1, AV.slice 1 (List.map strL A)), (2, AV.slice 1 (List.map strL B)), (7, intA (↑(cA (List.take p l)) : Int)), (8, intA (↑(cB (List.take p l)) : Int)), (9, intA (↑n : Int)), (10, intA (↑(cA (List.take (sR l rs n) l)) : Int))] []) (fun (p : Nat) ↦ eR rs n ≤ p ∧ p ≤ sR l rs n) (fun (p : Nat) ↦ sR l rs n - p) fun (p : Nat) ↦ ((Tr.k A.length ((Tr.b true (Tr.b true Tr.nil).w).br (Tr.k B.length ((Tr.b true Tr.nil).w.br (Tr.ix strL A (cA (List.take p l)) fun (x15 : Bs) ↦
 Tr.ix strL B (cB (List.take p l)) fun (x17 : Bs) ↦ (Tr.nil.br Tr.nil.w.w).w))))).w.w.br (Tr.k hs.length (Tr.b false ((Tr.b true Tr.nil).w.br (Tr.ix encHk hs n fun (x25 : Hk) ↦ Tr.ix encHk hs n fun (x27 : Hk) ↦ Tr.c (intA (bfr x25.fb x27.lb)) (Tr.nil.br (Tr.inv (fun (m : Nat) ↦ St.mk [(0, AV.slice 5 (List.map encHk hs)), (1, AV.slice 1 (List.map strL A)), (2, AV.slice 1 (List.map strL B)), (7, intA (↑(cA (List.take (sR l rs n + m) l)) : Int)), (8, intA (↑(cB (List.take (sR l rs n + m) l)) : Int)), (9, intA (↑n : Int)), (11, intA (↑m : Int))] []) (fun (m : Nat) ↦ sR l rs n + m ≤ eR rs (n + 1)) (fun (m : Nat) ↦ eR rs (n + 1) - (sR l rs n + m)) fun (m : Nat) ↦ (Tr.ix encHk hs n fun (x33 : Hk) ↦ Tr.k x33.ls.length ((Tr.ix encHk hs n fun (x36 : Hk) ↦ Tr.ix encDL x36.ls m fun (x38 : DL) ↦ ((Tr.k A.length ((Tr.b true Tr.nil).w.br (Tr.ix strL A (cA (List.take (sR l rs n + m) l)) fun (x43 : Bs) ↦ Tr.c (strL (fdL x38)) (Tr.nil.br ((Tr.k B.length ((Tr.b true Tr.nil).w.br (Tr.ix strL B (cB (List.take (sR l rs n + m) l)) fun (x50 : Bs) ↦ Tr.c (strL (fdL x38)) (Tr.nil.br Tr.nil.w.w).w))).w.br Tr.nil.w).w.w.w).w))).w.br
 (Tr.b true (Tr.k B.length ((Tr.b true Tr.nil).w.br (Tr.ix strL B (cB (List.take (sR l rs n + m) l)) fun (x60 : Bs) ↦ Tr.c (strL (fdL x38)) (Tr.nil.br Tr.nil.w.w).w))).w).w.w).w.w).w.br Tr.nil.w)).w).w).w)).w)).w).w).w).br (Tr.inv (fun (p : Nat) ↦ St.mk [(0, AV.slice 5 (List.map encHk hs)), (1, AV.slice 1 (List.map strL A)), (2, AV.slice 1 (List.map strL B)), (7, intA (↑(cA (List.take p l)) : Int)), (8, intA (↑(cB (List.take p l)) : Int)), (9, intA (↑n : Int)), (10, intA (↑(cA (List.take (sR l rs n) l)) : Int))] []) (fun (p : Nat) ↦ eR rs n ≤ p ∧ p ≤ sR l rs n) (fun (p : Nat) ↦ sR l rs n - p) fun (p : Nat) ↦ ((Tr.k A.length ((Tr.b true (Tr.b true Tr.nil).w).br (Tr.k B.length ((Tr.b true Tr.nil).w.br (Tr.ix strL A (cA (List.take p l)) fun (x75 : Bs) ↦ Tr.ix strL B (cB (List.take p l)) fun (x77 : Bs) ↦ (Tr.nil.br Tr.nil.w.w).w))))).w.w.br (Tr.k hs.length (Tr.b true (Tr.k A.length ((Tr.k B.length Tr.nil).br Tr.nil)).w)).w).w).w).w).w).w)).w).w) rfl ?_
 refine Eq.mpr (by kernel_rfl : _ = ((∃ (j1 : Nat), ((List.map encHk hs = List.map encHk hs ∧ List.map strL A = List.map strL A ∧ List.map strL B = List.map strL B ∧ (0 : Int) = (↑(cA (List.take (eR rs j1) l)) : Int) ∧ (0 : Int) = (↑(cB (List.take (eR rs j1) l)) : Int) ∧ (0 : Int) = (↑j1 : Int) ∧ True) ∧ True) ∧ j1 ≤ hs.length) ∧ ∀ (n : Nat), n ≤ hs.length → (List.map encHk hs).length = hs.length ∧ decide ((↑n : Int) ≤ (↑hs.length : Int)) = true ∧ (List.map strL A).length = A.length ∧ (List.map encHk hs).length = hs.length ∧ (decide ((↑n : Int) < (↑hs.length : Int)) = true → List.map encHk hs = List.map encHk hs ∧ (↑n : Int) = (↑n : Int) ∧ n < hs.length ∧ ∀ (x4 : Hk), hs[n]? = some x4 → List.map encHk hs = List.map encHk hs ∧ (↑n : Int) = (↑n : Int) ∧ n < hs.length ∧ ∀ (x6 : Hk), hs[n]? = some x6 → (R FT X).f 57 [intA x4.fa, intA x6.la] = some (intA (bfr x4.fa x6.la)) ∧ (∃ (j8 : Nat), ((List.map encHk hs = List.map encHk hs ∧ List.map strL A = List.map strL A ∧ List.map strL B = List.map strL B ∧ (↑(cA (List.take (eR rs n) l)) : Int) = (↑(cA (List.take j8 l)) : Int) ∧ (↑(cB (List.take (eR rs n) l)) : Int) = (↑(cB (List.take j8 l)) : Int) ∧ (↑n : Int) = (↑n : Int) ∧ bfr x4.fa x6.la = (↑(cA (List.take (sR l rs
 n) l)) : Int) ∧ True) ∧ True) ∧ eR rs n ≤ j8 ∧ j8 ≤ sR l rs n) ∧ ∀ (p : Nat), eR rs n ≤ p ∧ p ≤ sR l rs n → (decide ((↑(cA (List.take p l)) : Int) < (↑(cA (List.take (sR l rs n) l)) : Int)) = true → (List.map strL A).length = A.length ∧ (decide ((↑A.length : Int) ≤ (↑(cA (List.take p l)) : Int)) = true → true = true ∧ true = true ∧ false = true) ∧ (decide ((↑A.length : Int) ≤ (↑(cA (List.take p l)) : Int)) = false → (List.map strL B).length = B.length ∧ (decide ((↑B.length : Int) ≤ (↑(cB (List.take p l)) : Int)) = true → true = true ∧ false = true) ∧ (decide ((↑B.length : Int) ≤ (↑(cB (List.take p l)) : Int)) = false → List.map strL A = List.map strL A ∧ (↑(cA (List.take p l)) : Int) = (↑(cA (List.take p l)) : Int) ∧ cA (List.take p l) < A.length ∧ ∀ (x15 : Bs), A[cA (List.take p l)]? = some x15 → List.map strL B = List.map strL B ∧ (↑(cB (List.take p l)) : Int) = (↑(cB (List.take p l)) : Int) ∧ cB (List.take p l) < B.length ∧ ∀ (x17 : Bs), B[cB (List.take p l)]? = some x17 → ((!decide (x15 = x17)) = true → false = true) ∧ ((!decide (x15 = x17)) = false → InI64 ((↑(cA (List.take p l)) : Int) + 1) ∧ InI64 ((↑(cB (List.take p l)) : Int) + 1) ∧ ∃ (j21 : Nat), ((List.map
 encHk hs = List.map encHk hs ∧ List.map strL A = List.map strL A ∧ List.map strL B = List.map strL B ∧ (↑(cA (List.take p l)) : Int) + 1 = (↑(cA (List.take j21 l)) : Int) ∧ (↑(cB (List.take p l)) : Int) + 1 = (↑(cB (List.take j21 l)) : Int) ∧ (↑n : Int) = (↑n : Int) ∧ (↑(cA (List.take (sR l rs n) l)) : Int) = (↑(cA (List.take (sR l rs n) l)) : Int) ∧ True) ∧ True) ∧ (eR rs n ≤ j21 ∧ j21 ≤ sR l rs n) ∧ sR l rs n - j21 < sR l rs n - p)))) ∧ (decide ((↑(cA (List.take p l)) : Int) < (↑(cA (List.take (sR l rs n) l)) : Int)) = false → (List.map encHk hs).length = hs.length ∧ decide ((↑n : Int) = (↑hs.length : Int)) = false ∧ ((!decide ((↑(cA (List.take p l)) : Int) = (↑(cA (List.take (sR l rs n) l)) : Int))) = true → true = true ∧ false = true) ∧ ((!decide ((↑(cA (List.take p l)) : Int) = (↑(cA (List.take (sR l rs n) l)) : Int))) = false → List.map encHk hs = List.map encHk hs ∧ (↑n : Int) = (↑n : Int) ∧ n < hs.length ∧ ∀ (x25 : Hk), hs[n]? = some x25 → List.map encHk hs = List.map encHk hs ∧ (↑n : Int) = (↑n : Int) ∧ n < hs.length ∧ ∀ (x27 : Hk), hs[n]? = some x27 → (R FT X).f 57 [intA x25.fb, intA x27.lb] = some (intA (bfr x25.fb x27.lb)) ∧ ((!decide ((↑(cB (List.take
 p l)) : Int) = bfr x25.fb x27.lb)) = true → false = true) ∧ ((!decide ((↑(cB (List.take p l)) : Int) = bfr x25.fb x27.lb)) = false → (∃ (j31 : Nat), ((List.map encHk hs = List.map encHk hs ∧ List.map strL A = List.map strL A ∧ List.map strL B = List.map strL B ∧ (↑(cA (List.take p l)) : Int) = (↑(cA (List.take (sR l rs n + j31) l)) : Int) ∧ (↑(cB (List.take p l)) : Int) = (↑(cB (List.take (sR l rs n + j31) l)) : Int) ∧ (↑n : Int) = (↑n : Int) ∧ (0 : Int) = (↑j31 : Int) ∧ True) ∧ True) ∧ sR l rs n + j31 ≤ eR rs (n + 1)) ∧ ∀ (m : Nat), sR l rs n + m ≤ eR rs (n + 1) → List.map encHk hs = List.map encHk hs ∧ (↑n : Int) = (↑n : Int) ∧ n < hs.length ∧ ∀ (x33 : Hk), hs[n]? = some x33 → (List.map encDL x33.ls).length = x33.ls.length ∧ (decide ((↑m : Int) < (↑x33.ls.length : Int)) = true → List.map encHk hs = List.map encHk hs ∧ (↑n : Int) = (↑n : Int) ∧ n < hs.length ∧ ∀ (x36 : Hk), hs[n]? = some x36 → List.map encDL x36.ls = List.map encDL x36.ls ∧ (↑m : Int) = (↑m : Int) ∧ m < x36.ls.length ∧ ∀ (x38 : DL), x36.ls[m]? = some x38 → ((!decide (x38.op = 3)) = true → (List.map strL A).length = A.length ∧ (decide ((↑A.length : Int) ≤ (↑(cA (List.take (sR l rs n + m) l))
 : Int)) = true → true = true ∧ false = true) ∧ (decide ((↑A.length : Int) ≤ (↑(cA (List.take (sR l rs n + m) l)) : Int)) = false → List.map strL A = List.map strL A ∧ (↑(cA (List.take (sR l rs n + m) l)) : Int) = (↑(cA (List.take (sR l rs n + m) l)) : Int) ∧ cA (List.take (sR l rs n + m) l) < A.length ∧ ∀ (x43 : Bs), A[cA (List.take (sR l rs n + m) l)]? = some x43 → (R FT X).f 58 [encDL x38] = some (strL (fdL x38)) ∧ ((!decide (x43 = fdL x38)) = true → false = true) ∧ ((!decide (x43 = fdL x38)) = false → InI64 ((↑(cA (List.take (sR l rs n + m) l)) : Int) + 1) ∧ ((!decide (x38.op = 2)) = true → (List.map strL B).length = B.length ∧ (decide ((↑B.length : Int) ≤ (↑(cB (List.take (sR l rs n + m) l)) : Int)) = true → true = true ∧ false = true) ∧ (decide ((↑B.length : Int) ≤ (↑(cB (List.take (sR l rs n + m) l)) : Int)) = false → List.map strL B = List.map strL B ∧ (↑(cB (List.take (sR l rs n + m) l)) : Int) = (↑(cB (List.take (sR l rs n + m) l)) : Int) ∧ cB (List.take (sR l rs n + m) l) < B.length ∧ ∀ (x50 : Bs), B[cB (List.take (sR l rs n + m) l)]? = some x50 → (R FT X).f 58 [encDL x38] = some (strL (fdL x38)) ∧ ((!decide (x50 = fdL x38)) = true → false
 = true) ∧ ((!decide (x50 = fdL x38)) = false → InI64 ((↑(cB (List.take (sR l rs n + m) l)) : Int) + 1) ∧ InI64 ((↑m : Int) + 1) ∧ ∃ (j54 : Nat), ((List.map encHk hs = List.map encHk hs ∧ List.map strL A = List.map strL A ∧ List.map strL B = List.map strL B ∧ (↑(cA (List.take (sR l rs n + m) l)) : Int) + 1 = (↑(cA (List.take (sR l rs n + j54) l)) : Int) ∧ (↑(cB (List.take (sR l rs n + m) l)) : Int) + 1 = (↑(cB (List.take (sR l rs n + j54) l)) : Int) ∧ (↑n : Int) = (↑n : Int) ∧ (↑m : Int) + 1 = (↑j54 : Int) ∧ True) ∧ True) ∧ sR l rs n + j54 ≤ eR rs (n + 1) ∧ eR rs (n + 1) - (sR l rs n + j54) < eR rs (n + 1) - (sR l rs n + m)))) ∧ ((!decide (x38.op = 2)) = false → InI64 ((↑m : Int) + 1) ∧ ∃ (j56 : Nat), ((List.map encHk hs = List.map encHk hs ∧ List.map strL A = List.map strL A ∧ List.map strL B = List.map strL B ∧ (↑(cA (List.take (sR l rs n + m) l)) : Int) + 1 = (↑(cA (List.take (sR l rs n + j56) l)) : Int) ∧ (↑(cB (List.take (sR l rs n + m) l)) : Int) = (↑(cB (List.take (sR l rs n + j56) l)) : Int) ∧ (↑n : Int) = (↑n : Int) ∧ (↑m : Int) + 1 = (↑j56 : Int) ∧ True) ∧ True) ∧ sR l rs n + j56
 ≤ eR rs (n + 1) ∧ eR rs (n + 1) - (sR l rs n + j56) < eR rs (n + 1) - (sR l rs n + m))))) ∧ ((!decide (x38.op = 3)) = false → (!decide (x38.op = 2)) = true ∧ (List.map strL B).length = B.length ∧ (decide ((↑B.length : Int) ≤ (↑(cB (List.take (sR l rs n + m) l)) : Int)) = true → true = true ∧ false = true) ∧ (decide ((↑B.length : Int) ≤ (↑(cB (List.take (sR l rs n + m) l)) : Int)) = false → List.map strL B = List.map strL B ∧ (↑(cB (List.take (sR l rs n + m) l)) : Int) = (↑(cB (List.take (sR l rs n + m) l)) : Int) ∧ cB (List.take (sR l rs n + m) l) < B.length ∧ ∀ (x60 : Bs), B[cB (List.take (sR l rs n + m) l)]? = some x60 → (R FT X).f 58 [encDL x38] = some (strL (fdL x38)) ∧ ((!decide (x60 = fdL x38)) = true → false = true) ∧ ((!decide (x60 = fdL x38)) = false → InI64 ((↑(cB (List.take (sR l rs n + m) l)) : Int) + 1) ∧ InI64 ((↑m : Int) + 1) ∧ ∃ (j64 : Nat), ((List.map encHk hs = List.map encHk hs ∧ List.map strL A = List.map strL A ∧ List.map strL B = List.map strL B ∧ (↑(cA (List.take (sR l rs n + m) l)) : Int) = (↑(cA (List.take (sR l rs n + j64) l)) : Int) ∧ (↑(cB (List.take (sR l rs n + m) l)) : Int) + 1
 = (↑(cB (List.take (sR l rs n + j64) l)) : Int) ∧ (↑n : Int) = (↑n : Int) ∧ (↑m : Int) + 1 = (↑j64 : Int) ∧ True) ∧ True) ∧ sR l rs n + j64 ≤ eR rs (n + 1) ∧ eR rs (n + 1) - (sR l rs n + j64) < eR rs (n + 1) - (sR l rs n + m))))) ∧ (decide ((↑m : Int) < (↑x33.ls.length : Int)) = false → InI64 ((↑n : Int) + 1) ∧ ∃ (j66 : Nat), ((List.map encHk hs = List.map encHk hs ∧ List.map strL A = List.map strL A ∧ List.map strL B = List.map strL B ∧ (↑(cA (List.take (sR l rs n + m) l)) : Int) = (↑(cA (List.take (eR rs j66) l)) : Int) ∧ (↑(cB (List.take (sR l rs n + m) l)) : Int) = (↑(cB (List.take (eR rs j66) l)) : Int) ∧ (↑n : Int) + 1 = (↑j66 : Int) ∧ True) ∧ True) ∧ j66 ≤ hs.length ∧ hs.length + 1 - j66 < hs.length + 1 - n))))) ∧ (decide ((↑n : Int) < (↑hs.length : Int)) = false → (∃ (j68 : Nat), ((List.map encHk hs = List.map encHk hs ∧ List.map strL A = List.map strL A ∧ List.map strL B = List.map strL B ∧ (↑(cA (List.take (eR rs n) l)) : Int) = (↑(cA (List.take j68 l)) : Int) ∧ (↑(cB (List.take (eR rs n) l)) : Int) = (↑(cB (List.take j68 l)) : Int) ∧ (↑n : Int) = (↑n : Int) ∧ (↑A.length : Int) = (↑(cA (List.take (sR l rs n) l))
 : Int) ∧ True) ∧ True) ∧ eR rs n ≤ j68 ∧ j68 ≤ sR l rs n) ∧ ∀ (p : Nat), eR rs n ≤ p ∧ p ≤ sR l rs n → (decide ((↑(cA (List.take p l)) : Int) < (↑(cA (List.take (sR l rs n) l)) : Int)) = true → (List.map strL A).length = A.length ∧ (decide ((↑A.length : Int) ≤ (↑(cA (List.take p l)) : Int)) = true → true = true ∧ true = true ∧ false = true) ∧ (decide ((↑A.length : Int) ≤ (↑(cA (List.take p l)) : Int)) = false → (List.map strL B).length = B.length ∧ (decide ((↑B.length : Int) ≤ (↑(cB (List.take p l)) : Int)) = true → true = true ∧ false = true) ∧ (decide ((↑B.length : Int) ≤ (↑(cB (List.take p l)) : Int)) = false → List.map strL A = List.map strL A ∧ (↑(cA (List.take p l)) : Int) = (↑(cA (List.take p l)) : Int) ∧ cA (List.take p l) < A.length ∧ ∀ (x75 : Bs), A[cA (List.take p l)]? = some x75 → List.map strL B = List.map strL B ∧ (↑(cB (List.take p l)) : Int) = (↑(cB (List.take p l)) : Int) ∧ cB (List.take p l) < B.length ∧ ∀ (x77 : Bs), B[cB (List.take p l)]? = some x77 → ((!decide (x75 = x77)) = true → false = true) ∧ ((!decide (x75 = x77)) = false → InI64 ((↑(cA (List.take p l)) : Int) + 1) ∧ InI64 ((↑(cB (List.take p l)) : Int) + 1) ∧ ∃ (j81 : Nat), ((List.map encHk
 hs = List.map encHk hs ∧ List.map strL A = List.map strL A ∧ List.map strL B = List.map strL B ∧ (↑(cA (List.take p l)) : Int) + 1 = (↑(cA (List.take j81 l)) : Int) ∧ (↑(cB (List.take p l)) : Int) + 1 = (↑(cB (List.take j81 l)) : Int) ∧ (↑n : Int) = (↑n : Int) ∧ (↑(cA (List.take (sR l rs n) l)) : Int) = (↑(cA (List.take (sR l rs n) l)) : Int) ∧ True) ∧ True) ∧ (eR rs n ≤ j81 ∧ j81 ≤ sR l rs n) ∧ sR l rs n - j81 < sR l rs n - p)))) ∧ (decide ((↑(cA (List.take p l)) : Int) < (↑(cA (List.take (sR l rs n) l)) : Int)) = false → (List.map encHk hs).length = hs.length ∧ decide ((↑n : Int) = (↑hs.length : Int)) = true ∧ (List.map strL A).length = A.length ∧ (decide ((↑(cA (List.take p l)) : Int) = (↑A.length : Int)) = true → (List.map strL B).length = B.length ∧ decide ((↑(cB (List.take p l)) : Int) = (↑B.length : Int)) = true) ∧ (decide ((↑(cA (List.take p l)) : Int) = (↑A.length : Int)) = false → false = true))))) ?_
 refine ⟨⟨(0 : Nat), ⟨⟨rfl, rfl, rfl, rfl, rfl, (by omega), trivial⟩, trivial⟩, (by omega)⟩, fun n => fun h2 => ⟨(by simp), (tD (by omega)), (by simp), (by simp), fun h3_ => have h3 := dT h3_; ⟨rfl, rfl, (by omega), fun x4 => fun h5 => ⟨rfl, rfl, (by omega), fun x6 => fun h7 => ⟨(hb _ _ ?_ ?_), ?_, fun p => fun h9 => have h9a := h9.1; have h9b := h9.2; ⟨fun h10_ => have h10 := dT h10_; ⟨(by simp), fun h11_ => have h11 := dT h11_; ⟨rfl, rfl, ?_⟩, fun h12_ => have h12 := dF h12_; ⟨(by simp), fun h13_ => have h13 := dT h13_; ⟨rfl, ?_⟩, fun h14_ => have h14 := dF h14_; ⟨rfl, rfl, (by omega), fun x15 => fun h16 => ⟨rfl, rfl, (by omega), fun x17 => fun h18 => ⟨fun h19_ => have h19 := dnT h19_; ?_, fun h20_ => have h20 := dnF h20_; ⟨?_, ?_, ?_⟩⟩⟩⟩⟩⟩, fun h22_ => have h22 := dF h22_; ⟨(by simp), (fD (by omega)), fun h23_ => have h23 := dnT h23_; ⟨rfl, ?_⟩, fun h24_ => have h24 := dnF h24_; ⟨rfl, rfl, (by omega), fun x25 => fun h26 => ⟨rfl, rfl, (by omega), fun x27 => fun h28 => ⟨(hb _ _ ?_ ?_), fun h29_ => have h29 := dnT h29_; ?_, fun h30_ => have h30 := dnF h30_; ⟨⟨(0 : Nat), ⟨⟨rfl, rfl, rfl, (by omega), ?_, rfl, (by omega), trivial⟩, trivial⟩, ?_⟩, fun m => fun h32 => ⟨rfl, rfl, (by omega), fun x33 => fun h34 => ⟨(by simp), fun h35_ => have h35 := dT h35_; ⟨rfl, rfl, (by omega), fun x36 => fun h37 => ⟨rfl, rfl, ?_, fun x38 => fun h39 => ⟨fun h40_ => have h40 := dnT h40_; ⟨(by simp), fun h41_ => have h41 := dT h41_; ⟨rfl, ?_⟩, fun h42_ => have h42 := dF h42_; ⟨rfl, rfl, (by omega), fun x43 => fun h44 => ⟨(hf _ ?_), fun h45_ => have h45 := dnT h45_; ?_, fun h46_ => have h46 := dnF h46_; ⟨?_, fun h47_ => have h47 := dnT h47_; ⟨(by simp), fun h48_ => have h48 := dT h48_; ⟨rfl, ?_⟩, fun h49_ => have h49 := dF h49_; ⟨rfl, rfl, (by omega), fun x50 => fun h51 => ⟨(hf _ ?_), fun h52_ => have h52 := dnT h52_; ?_, fun h53_ => have h53 := dnF h53_; ⟨?_, ?_, ⟨m + (1 : Nat), ⟨⟨rfl, rfl, rfl, ?_, ?_, rfl, (by omega), trivial⟩, trivial⟩, ⟨?_, ?_⟩⟩⟩⟩⟩⟩, fun h55_ => have h55 := dnF h55_; ⟨?_, ⟨m + (1 : Nat), ⟨⟨rfl, rfl, rfl, ?_, ?_, rfl, (by omega), trivial⟩, trivial⟩, ⟨?_, ?_⟩⟩⟩⟩⟩⟩⟩, fun h57_ => have h57 := dnF h57_; ⟨(tnD (by omega)), (by simp), fun h58_ => have h58 := dT h58_; ⟨rfl, ?_⟩, fun h59_ => have h59 := dF h59_; ⟨rfl, rfl, (by omega), fun x60 => fun h61 => ⟨(hf _ ?_), fun h62_ => have h62 := dnT h62_; ?_, fun h63_ => have h63 := dnF h63_; ⟨?_, ?_, ⟨m + (1 : Nat), ⟨⟨rfl, rfl, rfl, ?_, ?_, rfl, (by omega), trivial⟩, trivial⟩, ⟨?_, ?_⟩⟩⟩⟩⟩⟩⟩⟩⟩, fun h65_ => have h65 := dF h65_; ⟨?_, ⟨n + (1 : Nat), ⟨⟨rfl, rfl, rfl, ?_, ?_, (by omega), trivial⟩, trivial⟩, ⟨(by omega), (by omega)⟩⟩⟩⟩⟩⟩⟩⟩⟩⟩⟩⟩⟩⟩, fun h67_ => have h67 := dF h67_; ⟨?_, fun p => fun h69 => have h69a := h69.1; have h69b := h69.2; ⟨fun h70_ => have h70 := dT h70_; ⟨(by simp), fun h71_ => have h71 := dT h71_; ⟨rfl, rfl, ?_⟩, fun h72_ => have h72 := dF h72_; ⟨(by simp), fun h73_ => have h73 := dT h73_; ⟨rfl, ?_⟩, fun h74_ => have h74 := dF h74_; ⟨rfl, rfl, (by omega), fun x75 => fun h76 => ⟨rfl, rfl, (by omega), fun x77 => fun h78 => ⟨fun h79_ => have h79 := dnT h79_; ?_, fun h80_ => have h80 := dnF h80_; ⟨?_, ?_, ?_⟩⟩⟩⟩⟩⟩, fun h82_ => have h82 := dF h82_; ⟨(by simp), (tD (by omega)), (by simp), fun h83_ => have h83 := dT h83_; ⟨(by simp), ?_⟩, fun h84_ => have h84 := dF h84_; ?_⟩⟩⟩⟩⟩
 all_goals first
  | exact (r.hd (by assumption)).1.1
  | exact (r.hd (by assumption)).1.2.1
  | exact (r.hd (by assumption)).1.2.2.1
  | exact (r.hd (by assumption)).1.2.2.2
  | exact (r.line h37 h39).1
  | exact (r.hd h26).2.2.2.1
  | (have := r.cb p; unfold InI64; omega)
  | (have := r.cb (sR l rs n + m); unfold InI64; omega)
  | (have := r.hb; unfold InI64; omega)
  | (have q := (r.line h37 h39).2.2.2.2.2.1; have := (r.hd h37).2.2.2.2.1; unfold InI64; omega)
  | exact (r.line h37 h39).2.2.2.2.2.1
  | (have q := (r.line h37 h39).2.2.2.2.2.1; omega)
  | skip
 ·obtain rfl := Option.some.inj (h5.symm.trans h7)
  exact ⟨eR rs n, ⟨⟨rfl, rfl, rfl, rfl, rfl, rfl, (r.hd h5).2.1, trivial⟩, trivial⟩, Nat.le_refl _, r.es n h2⟩
 ·obtain ⟨⟨x, q1, q2⟩, _⟩ := r.go h2 h9 h10
  have := (List.getElem?_eq_some_iff.1 q1).1; omega
 ·obtain ⟨⟨x, q1, q2⟩, _⟩ := r.go h2 h9 h10
  have := (List.getElem?_eq_some_iff.1 q2).1; omega
 ·obtain ⟨⟨x, q1, q2⟩, _⟩ := r.go h2 h9 h10
  exact absurd ((Option.some.inj (h16.symm.trans q1)).trans (Option.some.inj (h18.symm.trans q2)).symm) h19
 ·have g := (r.go h2 h9 h10).2
  exact ⟨p + 1, ⟨⟨rfl, rfl, rfl, by rw [g.1]; rfl, by rw [g.2.1]; rfl, rfl, rfl, trivial⟩, trivial⟩, ⟨by omega, g.2.2⟩, by have := g.2.2; omega⟩
 ·have := cA_mono (l := l) h9.2; omega
 ·obtain rfl := Option.some.inj (h26.symm.trans h28)
  have e := r.stop h2 h9 h22
  rw [e] at h29; exact absurd (r.hd h26).2.2.1.symm h29
 ·rw [r.stop h2 h9 h22]; rfl
 ·rw [← Option.some.inj (h34.symm.trans h37)]; omega
 ·have := (List.getElem?_eq_some_iff.1 ((r.line h37 h39).2.1 h40)).1; omega
 ·exact absurd (Option.some.inj (h44.symm.trans ((r.line h37 h39).2.1 h40))) h45
 ·have := (List.getElem?_eq_some_iff.1 ((r.line h37 h39).2.2.1 h47)).1; omega
 ·exact absurd (Option.some.inj (h51.symm.trans ((r.line h37 h39).2.2.1 h47))) h52
 ·have q := (r.line h37 h39).2.2.2.1; rw [if_neg h40] at q; omega
 ·have q := (r.line h37 h39).2.2.2.2.1; rw [if_neg h47] at q; omega
 ·have q := (r.line h37 h39).2.2.2.1; rw [if_neg h40] at q; omega
 ·have q := (r.line h37 h39).2.2.2.2.1; rw [if_pos h55] at q; omega
 ·have := (List.getElem?_eq_some_iff.1 ((r.line h37 h39).2.2.1 (by omega))).1; omega
 ·exact absurd (Option.some.inj (h61.symm.trans ((r.line h37 h39).2.2.1 (by omega)))) h62
 ·have q := (r.line h37 h39).2.2.2.1; rw [if_pos h57] at q; omega
 ·have q := (r.line h37 h39).2.2.2.2.1; rw [if_neg (by omega)] at q; omega
 ·rw [show sR l rs n + m = eR rs (n + 1) by have := (r.hd h34).2.2.2.2.2; omega]
 ·rw [show sR l rs n + m = eR rs (n + 1) by have := (r.hd h34).2.2.2.2.2; omega]
 ·have e : n = hs.length := by omega
  have e2 : sR l rs n = l.length := by rw [e]; exact r.sn
  exact ⟨eR rs n, ⟨⟨rfl, rfl, rfl, rfl, rfl, rfl, by rw [e2, List.take_length, r.ea], trivial⟩, trivial⟩, Nat.le_refl _, r.es n h2⟩
 ·obtain ⟨⟨x, q1, q2⟩, _⟩ := r.go h2 h69 h70
  have := (List.getElem?_eq_some_iff.1 q1).1; omega
 ·obtain ⟨⟨x, q1, q2⟩, _⟩ := r.go h2 h69 h70
  have := (List.getElem?_eq_some_iff.1 q2).1; omega
 ·obtain ⟨⟨x, q1, q2⟩, _⟩ := r.go h2 h69 h70
  exact absurd ((Option.some.inj (h76.symm.trans q1)).trans (Option.some.inj (h78.symm.trans q2)).symm) h79
 ·have g := (r.go h2 h69 h70).2
  exact ⟨p + 1, ⟨⟨rfl, rfl, rfl, by rw [g.1]; rfl, by rw [g.2.1]; rfl, rfl, rfl, trivial⟩, trivial⟩, ⟨by omega, g.2.2⟩, by have := g.2.2; omega⟩
 ·have e := r.stop h2 h69 h82
  have e1 : n = hs.length := by omega
  have e2 : sR l rs n = l.length := by rw [e1]; exact r.sn
  rw [e, e2, List.take_length, r.eb]; exact decide_eq_true rfl
 ·have e := r.stop h2 h69 h82
  have e1 : n = hs.length := by omega
  have e2 : sR l rs n = l.length := by rw [e1]; exact r.sn
  exact absurd (by rw [e, e2, List.take_length, r.ea]) h84
end
end Go.Proofs.YtfbpbkcplpkndaaGreatDoor
end
section
namespace Go.Proofs.YtfbpbkcplpkndaaGreatDoor
set_option linter.unusedVariables false
set_option linter.unusedSimpArgs false
def lnE (y : Bs) : Prop := ∃ z : Bs, (∀ c ∈ z, c ≠ 10) ∧ (y = z ∨ y = z ++ [10])
theorem fed_lnE {s : Bs} : ∀ y ∈ fed s, lnE y := fun y hy => by
 obtain ⟨i, hi⟩ := List.getElem?_of_mem hy
 have hl : i < (lins s).length := by have := (List.getElem?_eq_some_iff.1 hi).1; rw [fed_len] at this; exact this
 have e := List.getElem?_eq_getElem hl
 unfold fed at hi
 rw [fdK_get e] at hi
 have n := lins_no s _ (List.getElem_mem hl)
 refine ⟨_, n, ?_⟩
 have hi' := Option.some.inj hi
 split at hi'
 ·exact Or.inr hi'.symm
 ·exact Or.inl hi'.symm
theorem mkDL_no {op : Int} {y : Bs} (h : lnE y) : ∀ c ∈ (mkDL op y).tx, c ≠ 10 := by
 obtain ⟨z, hz, rfl | rfl⟩ := h
 ·unfold mkDL
  split
  ·intro c hc
   exact hz c (List.dropLast_subset _ hc)
  ·exact hz
 ·unfold mkDL
  rw [if_pos (by simp)]
  simpa using hz
theorem mkDL_len (op : Int) (y : Bs) : (mkDL op y).tx.length ≤ y.length := by
 unfold mkDL; split
 ·simp
 ·exact Nat.le_refl _
theorem difS_lnE {s t : Bs} : ∀ y ∈ difS s t, lnE y.tx := fun y hy => by
 unfold difS at hy
 have key : ∀ (p : List Int) (i j : Nat), ∀ y ∈ stp (fed s) (fed t) p i j, lnE y.tx := by
  intro p
  induction p with
  | nil => intro i j y hy; cases hy
  | cons op p ih =>
   intro i j y hy
   rcases List.mem_cons.1 hy with q | q
   ·subst q
    simp only
    have g : ∀ {u : Bs}, ∀ k, lnE ((fed u).getD k []) := fun {u} k => by
     by_cases hk : k < (fed u).length
     ·rw [getD_of (List.getElem?_eq_getElem hk)]; exact fed_lnE _ (List.getElem_mem hk)
     ·rw [show (fed u).getD k [] = [] by rw [List.getD_eq_getElem?_getD, List.getElem?_eq_none (by omega)]; rfl]; exact ⟨[], by simp, Or.inl rfl⟩
    split
    ·exact g _
    ·exact g _
   ·exact ih _ _ y q
 exact key _ _ _ y hy
theorem difL_no (s t : Bs) : ∀ x ∈ difL s t, ∀ c ∈ x.tx, c ≠ 10 := fun x hx => by
 obtain ⟨y, hy, rfl⟩ := List.mem_map.1 hx
 exact mkDL_no (difS_lnE y hy)
theorem difL_tx {s t : Bs} {n : Nat} (hs : s.length ≤ n) (ht : t.length ≤ n) : ∀ x ∈ difL s t, x.tx.length ≤ n := fun x hx => by
 obtain ⟨y, hy, rfl⟩ := List.mem_map.1 hx
 exact Nat.le_trans (mkDL_len _ _) (difS_tx hs ht y hy)
theorem difL_n (s t : Bs) : (difL s t).length ≤ (lins s).length + (lins t).length := by
 rw [difL_ln]; exact difS_ln s t
theorem cmp_RB {on ot nn nt : Bs} {c : Nat} (ho : ot.length ≤ 10000) (hn : nt.length ≤ 10000) (hx : (lins ot).length ≤ 400) (hy : (lins nt).length ≤ 400) :
    RB (difL ot nt) (fed ot) (fed nt) (rgs (difL ot nt) c) (cmpP on ot nn nt c).hs :=
  RB.mk' (rgs_ok _ _) (fun k x h => difL_ln' ot nt h) (difL_end ot nt) (by have := difL_n ot nt; omega) (fun x hx => Nat.le_trans (difL_tx ho hn x hx) (by decide)) rfl
theorem cmp_F {on ot nn nt : Bs} {c : Nat} (ho : ot.length ≤ 10000) (hn : nt.length ≤ 10000) (hx : (lins ot).length ≤ 400) (hy : (lins nt).length ≤ 400) :
    PtZ (cmpP on ot nn nt c) ∧ ptF (cmpP on ot nn nt c) := by
  have r := cmp_RB (on := on) (nn := nn) (c := c) ho hn hx hy
  have key : ∀ h ∈ (cmpP on ot nn nt c).hs, HkZ h ∧ HkF h := fun h hh => by
    obtain ⟨n, hn'⟩ := List.getElem?_of_mem hh
    have e := r.hk n h hn'
    have hd := r.hd hn'
    have cb := r.cb (sR (difL ot nt) (rgs (difL ot nt) c) n)
    have cm := c_mid (l := difL ot nt) hd.2.2.2.1
    have cb2 := r.cb (eR (rgs (difL ot nt) c) (n + 1))
    have sub : ∀ x ∈ h.ls, x ∈ difL ot nt := fun x hx => by
      rw [e] at hx
      exact List.mem_of_mem_take (List.mem_of_mem_drop hx)
    have fr : ∀ b n : Nat, b ≤ 1000000 → 0 ≤ frm b n ∧ frm b n ≤ 2147483647 := fun b n hb => by
      unfold frm; split <;> omega
    have la : h.la = cA h.ls := by rw [e]; rfl
    have lb : h.lb = cB h.ls := by rw [e]; rfl
    have fa : 0 ≤ h.fa ∧ h.fa ≤ 2147483647 := by rw [e]; exact fr _ _ cb.1
    have fb : 0 ≤ h.fb ∧ h.fb ≤ 2147483647 := by rw [e]; exact fr _ _ cb.2
    have ll : h.ls.length ≤ 1000000 := by have := hd.2.2.2.2; omega
    have ca := cA_le h.ls
    have cb' := cB_le h.ls
    have ln : ∀ x ∈ h.ls, 1 ≤ x.op ∧ x.op ≤ 3 := fun x hx => by
      obtain ⟨m, hm⟩ := List.getElem?_of_mem hx
      have := (r.line hn' hm).2.2.2.2.2.2; omega
    refine ⟨⟨by unfold InI64; omega, by unfold InI64; omega, by unfold InI64; omega, by unfold InI64; omega, by omega, fun x hx => ⟨by have := ln x hx; unfold InI64; omega, by have := r.tx x (sub x hx); omega⟩⟩, ⟨fun x hx => ⟨(ln x hx).1, (ln x hx).2, difL_no ot nt x (sub x hx)⟩, la, lb, fa.1, fa.2, fb.1, fb.2⟩⟩
  exact ⟨⟨by have := r.hb; omega, fun h hh => (key h hh).1⟩, fun h hh => (key h hh).2⟩
end Go.Proofs.YtfbpbkcplpkndaaGreatDoor
end
section
namespace Go.Proofs.YtfbpbkcplpkndaaGreatDoor
set_option linter.unusedVariables false
set_option linter.unusedSimpArgs false
set_option maxRecDepth 100000
theorem awake_run : (R FT XS).f 11 [] = some (boolA true) := R_of (n := 40) (by kernel_rfl)
end Go.Proofs.YtfbpbkcplpkndaaGreatDoor
end
section
namespace Go.Proofs.YtfbpbkcplpkndaaGreatDoor
set_option linter.unusedVariables false
set_option linter.unusedSimpArgs false
set_option maxRecDepth 100000
set_option maxHeartbeats 2000000
def fewB (s : Bs) : Bool := decide (s.length ≤ 4000) && decide ((lins s).length ≤ 60)
theorem few_run (s : Bs) (hs : s.length ≤ 100000000) : (R FT XS).f 10 [strL s] = some (boolA (fewB s)) := by
 have hm := maxLen_le
 have fd := fed_run (X := XS) s hs
 have lf := fed_len s
 have f1 : s.length ≤ 4000 → fewB s = decide ((lins s).length ≤ 60) := fun h => by unfold fewB; rw [decide_eq_true h, Bool.true_and]
 have f2 : ¬ s.length ≤ 4000 → fewB s = false := fun h => by unfold fewB; rw [decide_eq_false h, Bool.false_and]
 refine R_wp (((Tr.c (AV.slice 1 (List.map strL (fed s))) (Tr.k (fed s).length Tr.nil)).br Tr.nil).w) rfl ?_
 refine Eq.mpr (by kernel_rfl : _ = ((decide ((↑(List.length s) : Int) ≤ 4000) = true → (R FT XS).f 23 [strL s] = some (AV.slice 1 (List.map strL (fed s))) ∧ (List.map strL (fed s)).length = (fed s).length ∧ decide ((↑(fed s).length : Int) ≤ 60) = fewB s) ∧ (decide ((↑(List.length s) : Int) ≤ 4000) = false → false = fewB s))) ?_
 refine ⟨fun h1_ => have h1 := dT h1_; ⟨(fd), (by simp), ?_⟩, fun h2_ => have h2 := dF h2_; ?_⟩
 ·rw [f1 (by omega)]; congr 1; rw [lf]; apply propext; omega
 ·exact (f2 (by omega)).symm
theorem rebuilds_run (on ot nn nt : Bs) (c : Int) (hc : InI64 c) (ho : ot.length ≤ 1048576) (hn : nt.length ≤ 1048576) : (R FT XS).f 8 [encNm on ot, encNm nn nt, intA c] = some (boolA true) := by
 have hm := maxLen_le
 have f1 := few_run ot (by omega)
 have f2 := few_run nt (by omega)
 have fo := fed_run (X := XS) ot (by omega)
 have fn := fed_run (X := XS) nt (by omega)
 have aw := awake_run
 have fw : ∀ s : Bs, fewB s = true → s.length ≤ 10000 ∧ (lins s).length ≤ 60 := fun s h => by
  unfold fewB at h; simp at h; omega
 obtain ⟨P, hP⟩ : ∃ P, P = cmpP on ot nn nt c.toNat := ⟨_, rfl⟩
 have po : P.old = on := by rw [hP]; rfl
 have pn : P.new = nn := by rw [hP]; rfl
 have cm : fewB ot = true → fewB nt = true → (R FT XS).f 13 [encNm on ot, encNm nn nt, intA c] = some (encPt P) := fun h1 h2 => by
  have g1 := fw _ h1
  have g2 := fw _ h2
  rw [hP]; exact compare_run (X := XS) XS_lib XS_lcs on ot nn nt c hc (by omega) (by omega) (by omega) (by omega)
 have fm : fewB ot = true → fewB nt = true → (R FT XS).f 22 [encPt P] = some (boolA true) := fun h1 h2 => by
  have g1 := fw _ h1
  have g2 := fw _ h2
  have k := cmp_F (on := on) (nn := nn) (c := c.toNat) g1.1 g2.1 (by omega) (by omega)
  rw [← hP] at k
  have := formed2_run (X := XS) P k.1
  rw [dcd_t k.2] at this; exact this
 have rb : fewB ot = true → fewB nt = true → (R FT XS).f 24 [.slice 5 (P.hs.map encHk), .slice 1 ((fed ot).map strL), .slice 1 ((fed nt).map strL)] = some (boolA true) := fun h1 h2 => by
  have g1 := fw _ h1
  have g2 := fw _ h2
  refine rebuilt_run (X := XS) (difL ot nt) (fed ot) (fed nt) (rgs (difL ot nt) c.toNat) c.toNat (rgs_ok _ _) (fun k x h => difL_ln' ot nt h) (difL_end ot nt) (by have := difL_n ot nt; omega) (fun x hx => Nat.le_trans (difL_tx g1.1 g2.1 x hx) (by decide)) P.hs (by rw [hP]; rfl)
 refine R_wp ((Tr.c (boolA (fewB ot)) ((Tr.b true (Tr.c (boolA true) Tr.nil)).w.br (Tr.c (boolA (fewB nt)) ((Tr.c (boolA true) Tr.nil).br (Tr.c (encPt P) (((Tr.c (boolA true) (Tr.b true (Tr.c (AV.slice 1 (List.map strL (fed ot))) (Tr.c (AV.slice 1 (List.map strL (fed nt))) (Tr.c (boolA true) (Tr.b true (Tr.c (boolA true) Tr.nil))))))).br (Tr.b false (Tr.b false Tr.nil))).br (Tr.b false (Tr.b false (Tr.b false Tr.nil)))).w)).w))).w) rfl ?_
 refine Eq.mpr (by kernel_rfl : _ = ((R FT XS).f 10 [strL ot] = some (boolA (fewB ot)) ∧ ((!fewB ot) = true → true = true ∧ (R FT XS).f 11 [] = some (boolA true) ∧ true = true) ∧ ((!fewB ot) = false → (R FT XS).f 10 [strL nt] = some (boolA (fewB nt)) ∧ ((!fewB nt) = true → (R FT XS).f 11 [] = some (boolA true) ∧ true = true) ∧ ((!fewB nt) = false → (R FT XS).f 13 [encNm on ot, encNm nn nt, intA c] = some (encPt P) ∧ (decide (P.old = on) = true → (decide (P.new = nn) = true → (R FT XS).f 22 [encPt P] = some (boolA true) ∧ true = true ∧ (R FT XS).f 23 [strL ot] = some (AV.slice 1 (List.map strL (fed ot))) ∧ (R FT XS).f 23 [strL nt] = some (AV.slice 1 (List.map strL (fed nt))) ∧ (R FT XS).f 24 [AV.slice 5 (List.map encHk P.hs), AV.slice 1 (List.map strL (fed ot)), AV.slice 1 (List.map strL (fed nt))] = some (boolA true) ∧ true = true ∧ (R FT XS).f 11 [] = some (boolA true) ∧ true = true) ∧ (decide (P.new = nn) = false → false = false ∧ false = false ∧ false = true)) ∧ (decide (P.old = on) = false → false = false ∧ false = false ∧ false = false ∧ false = true))))) ?_
 refine ⟨(f1), fun h1_ => have h1 := nT h1_; ⟨rfl, (aw), rfl⟩, fun h2_ => have h2 := nF h2_; ⟨(f2), fun h3_ => have h3 := nT h3_; ⟨(aw), rfl⟩, fun h4_ => have h4 := nF h4_; ⟨(cm h2 h4), fun h5_ => have h5 := dT h5_; ⟨fun h6_ => have h6 := dT h6_; ⟨(fm h2 h4), rfl, (fo), (fn), (rb h2 h4), rfl, (aw), rfl⟩, fun h7_ => have h7 := dF h7_; ⟨rfl, rfl, ?_⟩⟩, fun h8_ => have h8 := dF h8_; ⟨rfl, rfl, rfl, ?_⟩⟩⟩⟩
 ·exact absurd pn h7
 ·exact absurd po h8
end Go.Proofs.YtfbpbkcplpkndaaGreatDoor
end
