/- Own texts of this claim, merged: Dfe, DfJ, DfZ, DfY, Dff, Dfg. -/
import Derived.Test.YtfbpbkcplpkndaaGreatDoorPse
section
namespace Go.Proofs.YtfbpbkcplpkndaaGreatDoor
set_option linter.unusedVariables false
set_option linter.unusedSimpArgs false
set_option maxRecDepth 100000
set_option maxHeartbeats 2000000
section
variable {X : CallF}
def sR (l : List DL) (rs : List (Nat × Nat)) (n : Nat) : Nat := if n < rs.length then (rs.getD n (0, 0)).1 else l.length
end
structure RB (l : List DL) (A B : List Bs) (rs : List (Nat × Nat)) (hs : List Hk) : Prop where
 ko : ∀ n p, n ≤ hs.length → eR rs n ≤ p → p < sR l rs n → ∃ x, l[p]? = some x ∧ x.op = 1
 es : ∀ n, n ≤ hs.length → eR rs n ≤ sR l rs n
 el : ∀ n, n < hs.length → sR l rs n ≤ eR rs (n + 1) ∧ eR rs (n + 1) ≤ l.length
 hk : ∀ n h, hs[n]? = some h → h = hkR l (sR l rs n, eR rs (n + 1))
 ln : ∀ k x, l[k]? = some x → LnK A B l k x
 tx : ∀ x ∈ l, x.tx.length ≤ 1000000
 nn : l.length ≤ 1000000
 ea : cA l = A.length
 eb : cB l = B.length
 sn : sR l rs hs.length = l.length
 hb : hs.length ≤ 1000000
theorem Rg.cnt {N : Nat → Prop} {len j : Nat} {rs : List (Nat × Nat)} (h : Rg N len j rs) : rs.length ≤ len - j := by
 induction h with
 | fin => exact Nat.zero_le _
 | skip _ _ _ ih => omega
 | run _ _ _ _ _ ih => rw [List.length_cons]; omega
section
variable {l : List DL} {A B : List Bs} {rs : List (Nat × Nat)} {hs : List Hk} {n p m : Nat}
theorem RB.mk' {c : Nat} (h : Rg (nr l c) l.length 0 rs) (hl : ∀ k x, l[k]? = some x → LnK A B l k x) (he : cA l = A.length ∧ cB l = B.length) (hn : l.length ≤ 1000000) (ht : ∀ x ∈ l, x.tx.length ≤ 1000000) (hh : hs = rs.map (hkR l)) : RB l A B rs hs := by
 have len : hs.length = rs.length := by rw [hh, List.length_map]
 have sr : ∀ n r, rs[n]? = some r → sR l rs n = r.1 := fun n r q => by
  have hlt := (List.getElem?_eq_some_iff.1 q).1
  unfold sR; rw [if_pos hlt, List.getD_eq_getElem?_getD, q]; rfl
 have sn : sR l rs hs.length = l.length := by unfold sR; rw [if_neg (by omega)]
 have kp : ∀ x, x < l.length → ¬ nr l c x → ∃ y, l[x]? = some y ∧ y.op = 1 := fun x hx hq => by
  have e := List.getElem?_eq_getElem hx
  refine ⟨_, e, ?_⟩
  by_cases o : l[x].op = 1
  ·exact o
  ·exact absurd ⟨x, ⟨_, e, o⟩, by omega, by omega⟩ hq
 refine ⟨fun n p h1 h2 h3 => ?_, fun n h1 => ?_, fun n h1 => ?_, fun n k hk => ?_, hl, ht, hn, he.1, he.2, sn, by have := h.cnt; omega⟩
 ·by_cases q : n < rs.length
  ·have a := h.atR (List.getElem?_eq_getElem q)
   rw [sr n _ (List.getElem?_eq_getElem q)] at h3
   exact kp p (by have := a.se; have := a.el; omega) (a.no p h2 h3)
  ·obtain rfl : n = rs.length := by omega
   rw [← len, sn] at h3
   exact kp p h3 ((h.atE).2 p h2 h3)
 ·by_cases q : n < rs.length
  ·have a := h.atR (List.getElem?_eq_getElem q)
   rw [sr n _ (List.getElem?_eq_getElem q)]; exact a.es
  ·obtain rfl : n = rs.length := by omega
   rw [← len, sn, len]; exact (h.atE).1
 ·have q : n < rs.length := by omega
  have a := h.atR (List.getElem?_eq_getElem q)
  rw [sr n _ (List.getElem?_eq_getElem q), a.nx]
  exact ⟨Nat.le_of_lt a.se, a.el⟩
 ·rw [hh, List.getElem?_map] at hk
  obtain ⟨r, hr, rfl⟩ := Option.map_eq_some_iff.1 hk
  have a := h.atR hr
  rw [sr n r hr, a.nx]
variable (r : RB l A B rs hs)
include r
theorem RB.cb (k : Nat) : cA (l.take k) ≤ 1000000 ∧ cB (l.take k) ≤ 1000000 := by
 have h1 := cA_le (l.take k)
 have h2 := cB_le (l.take k)
 have h3 := r.nn
 rw [List.length_take] at h1 h2; omega
theorem RB.go (hn : n ≤ hs.length) (h9 : eR rs n ≤ p ∧ p ≤ sR l rs n) (h10 : (cA (l.take p) : Int) < cA (l.take (sR l rs n))) :
    (∃ x, A[cA (l.take p)]? = some x ∧ B[cB (l.take p)]? = some x) ∧ cA (l.take (p + 1)) = cA (l.take p) + 1 ∧ cB (l.take (p + 1)) = cB (l.take p) + 1 ∧ p + 1 ≤ sR l rs n := by
  have hp : p < sR l rs n := by
    by_cases e : p = sR l rs n
    · rw [e] at h10; omega
    · omega
  obtain ⟨x, hx, ho⟩ := r.ko n p hn h9.1 hp
  have q := r.ln p x hx
  refine ⟨⟨_, q.a (by omega), q.b (by omega)⟩, ?_, ?_, hp⟩
  · rw [cA_s hx, if_neg (by omega)]
  · rw [cB_s hx, if_neg (by omega)]
theorem RB.stop (hn : n ≤ hs.length) (h9 : eR rs n ≤ p ∧ p ≤ sR l rs n) (h10 : ¬ (cA (l.take p) : Int) < cA (l.take (sR l rs n))) : p = sR l rs n := by
 by_cases e : p = sR l rs n
 ·exact e
 ·obtain ⟨x, hx, ho⟩ := r.ko n p hn h9.1 (by omega)
  have h1 := cA_s hx
  rw [if_neg (by omega)] at h1
  have h2 := cA_mono (l := l) (show p + 1 ≤ sR l rs n by omega)
  omega
theorem RB.hd {h : Hk} (hh : hs[n]? = some h) : (InI64 (h.fa - 1) ∧ InI64 h.fa ∧ InI64 (h.fb - 1) ∧ InI64 h.fb) ∧ bfr h.fa h.la = cA (l.take (sR l rs n)) ∧ bfr h.fb h.lb = cB (l.take (sR l rs n)) ∧ sR l rs n ≤ eR rs (n + 1) ∧ eR rs (n + 1) ≤ 1000000 ∧ h.ls.length + sR l rs n = eR rs (n + 1) := by
 have hlt := (List.getElem?_eq_some_iff.1 hh).1
 have e := r.el n hlt
 have c1 := r.cb (sR l rs n)
 have nn := r.nn
 have fr : ∀ b n : Nat, b ≤ 1000000 → InI64 (frm b n - 1) ∧ InI64 (frm b n) ∧ bfr (frm b n) n = b := fun b n hb => by
  unfold frm bfr InI64
  by_cases q : n = 0
  ·rw [if_pos q, if_pos (by omega)]; omega
  ·rw [if_neg q, if_neg (by omega)]; omega
 rw [r.hk n h hh]
 have f1 := fr _ (cA ((l.take (eR rs (n + 1))).drop (sR l rs n))) c1.1
 have f2 := fr _ (cB ((l.take (eR rs (n + 1))).drop (sR l rs n))) c1.2
 refine ⟨⟨f1.1, f1.2.1, f2.1, f2.2.1⟩, f1.2.2, f2.2.2, e.1, by omega, ?_⟩
 show ((l.take (eR rs (n + 1))).drop (sR l rs n)).length + _ = _
 rw [List.length_drop, List.length_take]; omega
end
section
variable {X : CallF}
end
end Go.Proofs.YtfbpbkcplpkndaaGreatDoor
end
section
namespace Go.Proofs.YtfbpbkcplpkndaaGreatDoor
set_option linter.unusedVariables false
set_option linter.unusedSimpArgs false
def lnE (y : Bs) : Prop := ∃ z : Bs, (∀ c ∈ z, c ≠ 10) ∧ (y = z ∨ y = z ++ [10])
theorem mkDL_len (op : Int) (y : Bs) : (mkDL op y).tx.length ≤ y.length := by
 unfold mkDL; split
 ·simp
 ·exact Nat.le_refl _
theorem difL_tx {s t : Bs} {n : Nat} (hs : s.length ≤ n) (ht : t.length ≤ n) : ∀ x ∈ difL s t, x.tx.length ≤ n := fun x hx => by
 obtain ⟨y, hy, rfl⟩ := List.mem_map.1 hx
 exact Nat.le_trans (mkDL_len _ _) (difS_tx hs ht y hy)
theorem difL_n (s t : Bs) : (difL s t).length ≤ (lins s).length + (lins t).length := by
 rw [difL_ln]; exact difS_ln s t
theorem cmp_RB {on ot nn nt : Bs} {c : Nat} (ho : ot.length ≤ 10000) (hn : nt.length ≤ 10000) (hx : (lins ot).length ≤ 400) (hy : (lins nt).length ≤ 400) :
    RB (difL ot nt) (fed ot) (fed nt) (rgs (difL ot nt) c) (cmpP on ot nn nt c).hs :=
  RB.mk' (rgs_ok _ _) (fun k x h => difL_ln' ot nt h) (difL_end ot nt) (by have := difL_n ot nt; omega) (fun x hx => Nat.le_trans (difL_tx ho hn x hx) (by decide)) rfl
end Go.Proofs.YtfbpbkcplpkndaaGreatDoor
end
section
namespace Go.Proofs.YtfbpbkcplpkndaaGreatDoor
set_option linter.unusedVariables false
set_option linter.unusedSimpArgs false
def cC (l : List DL) : Nat := l.countP fun x => decide (x.op ≠ 1)
def opN (l : List DL) (i : Nat) : Int := (l.getD i ⟨1, [], false⟩).op
def kp (l : List DL) : Nat → Nat
 | 0 => 0
 | i + 1 => if opN l i = 1 then kp l i + 1 else 0
theorem opN_at {l : List DL} {i : Nat} {x : DL} (h : l[i]? = some x) : opN l i = x.op := by
 unfold opN; rw [List.getD_eq_getElem?_getD, h]; rfl
theorem kp_le (l : List DL) : ∀ i, kp l i ≤ i
 | 0 => Nat.le_refl _
 | i + 1 => by have := kp_le l i; unfold kp; split <;> omega
theorem kp_at (l : List DL) : ∀ i j, i - kp l i ≤ j → j < i → opN l j = 1
 | 0, j, _, h => by omega
 | i + 1, j, h1, h2 => by
  unfold kp at h1
  by_cases q : opN l i = 1
  ·rw [if_pos q] at h1
   by_cases e : j = i
   ·rw [e]; exact q
   ·exact kp_at l i j (by omega) (by omega)
  ·rw [if_neg q] at h1; omega
theorem kp_y {l : List DL} {i : Nat} {x : DL} (h : l[i]? = some x) (q : x.op = 1) : kp l (i + 1) = kp l i + 1 := by
 unfold kp; rw [if_pos (by rw [opN_at h]; exact q)]; cases i <;> rfl
theorem kp_n {l : List DL} {i : Nat} {x : DL} (h : l[i]? = some x) (q : ¬ x.op = 1) : kp l (i + 1) = 0 := by
 unfold kp; rw [if_neg (by rw [opN_at h]; exact q)]
theorem cC_app (a b : List DL) : cC (a ++ b) = cC a + cC b := by simp [cC]
theorem cC_one (x : DL) : cC [x] = if x.op = 1 then 0 else 1 := by by_cases h : x.op = 1 <;> simp [cC, List.countP_cons, h]
theorem cC_le (l : List DL) : cC l ≤ l.length := List.countP_le_length
theorem cC_s {l : List DL} {k : Nat} {x : DL} (h : l[k]? = some x) : cC (l.take (k + 1)) = cC (l.take k) + (if x.op = 1 then 0 else 1) := by
 rw [take_succ_get h, cC_app, cC_one]
theorem cC_mid (l : List DL) {k m : Nat} (h : k ≤ m) : cC (l.take m) = cC (l.take k) + cC ((l.take m).drop k) := by
 have e : l.take m = l.take k ++ (l.take m).drop k := by
  rw [show l.take k = (l.take m).take k by rw [List.take_take, Nat.min_eq_left h], List.take_append_drop]
 conv => lhs; rw [e, cC_app]
theorem cC_zero {l : List DL} (h : cC l = 0) {i : Nat} {x : DL} (hx : l[i]? = some x) : x.op = 1 := by
 unfold cC at h
 rw [List.countP_eq_zero] at h
 have := h x (List.mem_of_getElem? hx)
 simpa using this
theorem cC_pos {l : List DL} {i : Nat} {x : DL} (hx : l[i]? = some x) (h : x.op ≠ 1) : 0 < cC l := by
 unfold cC
 rw [List.countP_pos_iff]
 exact ⟨x, List.mem_of_getElem? hx, by simpa using h⟩
theorem cC_keep {l : List DL} {k : Nat} : ∀ m, k ≤ m → (∀ p, k ≤ p → p < m → ∃ x, l[p]? = some x ∧ x.op = 1) → cC (l.take m) = cC (l.take k)
 | 0, h, _ => by rw [Nat.le_zero.1 h]
 | m + 1, h, g => by
  by_cases e : k = m + 1
  ·rw [e]
  ·obtain ⟨x, hx, ho⟩ := g m (by omega) (by omega)
   rw [cC_s hx, if_pos ho, Nat.add_zero]
   exact cC_keep m (by omega) fun p h1 h2 => g p h1 (by omega)
structure CsR (ls : List DL) (c : Nat) : Prop where
 f : ∀ i x, ls[i]? = some x → ¬ x.op = 1 → cC (ls.take i) = 0 → kp ls i ≤ c
 m : ∀ i x, ls[i]? = some x → ¬ x.op = 1 → kp ls i ≤ 2 * c
 n : 0 < cC ls
 l : kp ls ls.length ≤ c
theorem RgA.pv {N : Nat → Prop} {len : Nat} {rs : List (Nat × Nat)} (h : Rg N len 0 rs) {n : Nat} {r : Nat × Nat} (q : rs[n]? = some r) (h0 : 0 < r.1) : ¬ N (r.1 - 1) := by
 have a := h.atR q
 by_cases e : eR rs n ≤ r.1 - 1
 ·exact a.no _ e (by omega)
 ·exfalso
  have e2 : eR rs n = r.1 := by have := a.es; omega
  cases n with
  | zero => simp [eR] at e2; omega
  | succ n =>
   have hl := (List.getElem?_eq_some_iff.1 q).1
   have b := h.atR (List.getElem?_eq_getElem (show n < rs.length by omega))
   have nx := b.nx
   rw [e2] at nx
   rcases b.mx with m | m
   ·have := a.se; have := a.el; omega
   ·rw [← nx] at m; exact m (a.al _ (Nat.le_refl _) a.se)
theorem csr_of {l : List DL} {c : Nat} {rs : List (Nat × Nat)} (h : Rg (nr l c) l.length 0 rs) {n : Nat} {r : Nat × Nat} (q : rs[n]? = some r) : CsR ((l.take r.2).drop r.1) c := by
 have a := h.atR q
 have se := a.se
 have el := a.el
 have pv := fun h0 => RgA.pv h q h0
 have len : ((l.take r.2).drop r.1).length = r.2 - r.1 := by rw [List.length_drop, List.length_take]; omega
 have get : ∀ j, j < r.2 - r.1 → ((l.take r.2).drop r.1)[j]? = l[r.1 + j]? := fun j hj => by
  rw [List.getElem?_drop, List.getElem?_take_of_lt (by omega)]
 generalize hls : (l.take r.2).drop r.1 = ls at len get ⊢
 have ch : ∀ c', chg l c' → r.1 ≤ c' → c' < r.2 → ∃ x, ls[c' - r.1]? = some x ∧ ¬ x.op = 1 := fun c' hc h1 h2 => by
  obtain ⟨x, hx, ho⟩ := hc.ex
  exact ⟨x, by rw [get _ (by omega), show r.1 + (c' - r.1) = c' by omega]; exact hx, ho⟩
 have noA : ∀ c', chg l c' → c' ≤ r.1 + c → r.1 ≤ c' + c → r.1 ≤ c' := fun c' hc h1 h2 => by
  by_cases e : r.1 ≤ c'
  ·exact e
  ·exact absurd ⟨c', hc, by omega, by omega⟩ (pv (by omega))
 have noB : ∀ c', chg l c' → r.2 ≤ c' + c → c' ≤ r.2 + c → c' < r.2 ∨ False := fun c' hc h1 h2 => by
  by_cases e : c' < r.2
  ·exact Or.inl e
  ·have := chg_lt hc
   rcases a.mx with m | m
   ·omega
   ·exact absurd ⟨c', hc, by omega, by omega⟩ m
 have ex : ∀ x, r.1 ≤ x → x < r.2 → ∃ c', chg l c' ∧ c' ≤ x + c ∧ x ≤ c' + c := fun x h1 h2 => by
  obtain ⟨c', h3, h4, h5⟩ := (a.al x h1 h2).ex
  exact ⟨c', h3, h4, h5⟩
 refine ⟨fun i x hx ho hz => ?_, fun i x hx ho => ?_, ?_, ?_⟩
 ·have hi := (List.getElem?_eq_some_iff.1 hx).1
  rw [len] at hi
  obtain ⟨c', h1, h2, h3⟩ := ex r.1 (Nat.le_refl _) se
  have h4 := noA c' h1 h2 h3
  have k := kp_le ls i
  by_cases e : c' - r.1 < i
  ·obtain ⟨y, hy, hn⟩ := ch c' h1 h4 (by omega)
   exact absurd (cC_zero hz (i := c' - r.1) (by rw [List.getElem?_take_of_lt e]; exact hy)) hn
  ·omega
 ·have hi := (List.getElem?_eq_some_iff.1 hx).1
  rw [len] at hi
  have k := kp_le ls i
  by_cases e : kp ls i ≤ 2 * c
  ·exact e
  ·obtain ⟨c', h1, h2, h3⟩ := ex (r.1 + (i - kp ls i) + c) (by omega) (by omega)
   obtain ⟨y, hy, hn⟩ := ch c' h1 (by omega) (by omega)
   have := kp_at ls i (c' - r.1) (by omega) (by omega)
   rw [opN_at hy] at this
   exact absurd this hn
 ·obtain ⟨c', h1, h2, h3⟩ := ex r.1 (Nat.le_refl _) se
  have h4 := noA c' h1 h2 h3
  by_cases e : c' < r.2
  ·obtain ⟨y, hy, hn⟩ := ch c' h1 h4 e
   exact cC_pos hy hn
  ·rcases noB c' h1 (by omega) (by omega) with q | q
   ·omega
   ·exact q.elim
 ·rw [len]
  have k := kp_le ls (r.2 - r.1)
  by_cases e : kp ls (r.2 - r.1) ≤ c
  ·exact e
  ·obtain ⟨c', h1, h2, h3⟩ := ex (r.2 - 1) (by omega) (by omega)
   have lt : c' < r.2 := by
    by_cases e : c' < r.2
    ·exact e
    ·rcases noB c' h1 (by omega) (by omega) with q | q
     ·omega
     ·exact q.elim
   obtain ⟨y, hy, hn⟩ := ch c' h1 (by omega) lt
   have := kp_at ls (r.2 - r.1) (c' - r.1) (by omega) (by omega)
   rw [opN_at hy] at this
   exact absurd this hn
section
variable {l : List DL} {A B : List Bs} {rs : List (Nat × Nat)} {hs : List Hk} {n : Nat}
theorem RB.sum (r : RB l A B rs hs) {h : Hk} (hh : hs[n]? = some h) : cC (l.take (eR rs (n + 1))) = cC (l.take (eR rs n)) + cC h.ls := by
 have hlt := (List.getElem?_eq_some_iff.1 hh).1
 have e := r.el n hlt
 have g := r.es n (by omega)
 rw [cC_mid l e.1, cC_keep (l := l) (k := eR rs n) (sR l rs n) g fun p h1 h2 => r.ko n p (by omega) h1 h2, r.hk n h hh]
 rfl
theorem RB.tot (r : RB l A B rs hs) : cC (l.take (eR rs hs.length)) = cC l := by
 have g := r.es hs.length (Nat.le_refl _)
 rw [← cC_keep (l := l) (k := eR rs hs.length) (sR l rs hs.length) g fun p h1 h2 => r.ko hs.length p (Nat.le_refl _) h1 h2, r.sn, List.take_length]
theorem RB.none (r : RB l A B rs hs) (h : ∀ k ∈ hs, 0 < cC k.ls) : hs.length = 0 ↔ cC l = 0 := by
 constructor
 ·intro e
  rw [← r.tot, e]; rfl
 ·intro e
  cases hq : hs with
  | nil => rfl
  | cons k ks =>
   have h0 : hs[0]? = some k := by rw [hq]; rfl
   have := r.sum h0
   have p := h k (by rw [hq]; simp)
   have m : cC (l.take (eR rs 1)) ≤ cC l := by
    conv => rhs; rw [← List.take_append_drop (eR rs 1) l, cC_app]
    omega
   rw [Nat.zero_add] at this; omega
end
theorem cC_stp {A B : List Bs} : ∀ (p : List Int) (i j : Nat), cC ((stp A B p i j).map dlS) = cst p
 | [], _, _ => rfl
 | op :: p, i, j => by
  rw [show (stp A B (op :: p) i j).map dlS = [dlS ⟨op, i, j, if op = 3 then B.getD j [] else A.getD i []⟩] ++ (stp A B p (sI op i) (sJ op j)).map dlS from rfl, cC_app, cC_one, cC_stp p]
  rw [dlS, mkDL_op]; rfl
theorem cC_dif (s t : Bs) : cC (difL s t) = dist (fed s) (fed t) := by
 unfold difL difS; rw [cC_stp, script_cost]
end Go.Proofs.YtfbpbkcplpkndaaGreatDoor
end
section
namespace Go.Proofs.YtfbpbkcplpkndaaGreatDoor
set_option linter.unusedVariables false
set_option linter.unusedSimpArgs false
set_option maxRecDepth 100000
theorem awake_run : (R FT XS).f 11 [] = some (boolA true) := R_of (n := 40) (by kernel_rfl)
end Go.Proofs.YtfbpbkcplpkndaaGreatDoor
end
section
namespace Go.Proofs.YtfbpbkcplpkndaaGreatDoor
set_option linter.unusedVariables false
set_option linter.unusedSimpArgs false
set_option maxRecDepth 100000
set_option maxHeartbeats 2000000
def fewB (s : Bs) : Bool := decide (s.length ≤ 4000) && decide ((lins s).length ≤ 60)
theorem few_run (s : Bs) (hs : s.length ≤ 100000000) : (R FT XS).f 10 [strL s] = some (boolA (fewB s)) := by
 have hm := maxLen_le
 have fd := fed_run (X := XS) s hs
 have lf := fed_len s
 have f1 : s.length ≤ 4000 → fewB s = decide ((lins s).length ≤ 60) := fun h => by unfold fewB; rw [decide_eq_true h, Bool.true_and]
 have f2 : ¬ s.length ≤ 4000 → fewB s = false := fun h => by unfold fewB; rw [decide_eq_false h, Bool.false_and]
 refine R_wp (((Tr.c (AV.slice 1 (List.map strL (fed s))) (Tr.k (fed s).length Tr.nil)).br Tr.nil).w) rfl ?_
 refine Eq.mpr (by kernel_rfl : _ = ((decide ((↑(List.length s) : Int) ≤ 4000) = true → (R FT XS).f 23 [strL s] = some (AV.slice 1 (List.map strL (fed s))) ∧ (List.map strL (fed s)).length = (fed s).length ∧ decide ((↑(fed s).length : Int) ≤ 60) = fewB s) ∧ (decide ((↑(List.length s) : Int) ≤ 4000) = false → false = fewB s))) ?_
 refine ⟨fun h1_ => have h1 := dT h1_; ⟨(fd), (by simp), ?_⟩, fun h2_ => have h2 := dF h2_; ?_⟩
 ·rw [f1 (by omega)]; congr 1; rw [lf]; apply propext; omega
 ·exact (f2 (by omega)).symm
end Go.Proofs.YtfbpbkcplpkndaaGreatDoor
end
section
namespace Go.Proofs.YtfbpbkcplpkndaaGreatDoor
set_option linter.unusedVariables false
set_option linter.unusedSimpArgs false
set_option maxRecDepth 100000
set_option maxHeartbeats 2000000
theorem concise_run (h : Hk) (c : Nat) (hc : c ≤ 100) (hl : h.ls.length ≤ 1000000) (r : CsR h.ls c) : (R FT XS).f 25 [encHk h, intA c] = some (.tuple [intA (cC h.ls : Nat), boolA true]) := by
 have hm := maxLen_le
 refine R_wp ((Tr.inv (fun (k : Nat) ↦ St.mk [(1, intA (↑c : Int)), (2, AV.ptr 0 0), (6, intA (↑(cC (List.take k h.ls)) : Int)), (7, intA (↑(kp h.ls k) : Int)), (8, intA (↑k : Int))] [MObj.box 46 [intA h.fa, intA h.la, intA h.fb, intA h.lb, AV.slice 3 (List.map encDL h.ls)]]) (fun (k : Nat) ↦ k ≤ h.ls.length) (fun (k : Nat) ↦ h.ls.length - k) fun (k : Nat) ↦ (Tr.k h.ls.length ((Tr.ix encDL h.ls k fun (x4 : DL) ↦ (Tr.nil.w.w.br (((Tr.b true Tr.nil).w.br (Tr.b false Tr.nil.w.w).w.w).br (Tr.b false (Tr.nil.br Tr.nil.w.w).w.w)).w).w).w.w.br (Tr.nil.br Tr.nil).w)).w).w) rfl ?_
 refine Eq.mpr (by kernel_rfl : _ = ((∃ (j1 : Nat), (((↑c : Int) = (↑c : Int) ∧ True ∧ (0 : Int) = (↑(cC (List.take j1 h.ls)) : Int) ∧ (0 : Int) = (↑(kp h.ls j1) : Int) ∧ (0 : Int) = (↑j1 : Int) ∧ True) ∧ h.fa = h.fa ∧ h.la = h.la ∧ h.fb = h.fb ∧ h.lb = h.lb ∧ List.map encDL h.ls = List.map encDL h.ls) ∧ j1 ≤ h.ls.length) ∧ ∀ (k : Nat), k ≤ h.ls.length → (List.map encDL h.ls).length = h.ls.length ∧ (decide ((↑k : Int) < (↑h.ls.length : Int)) = true → List.map encDL h.ls = List.map encDL h.ls ∧ (↑k : Int) = (↑k : Int) ∧ k < h.ls.length ∧ ∀ (x4 : DL), h.ls[k]? = some x4 → (decide (x4.op = 1) = true → InI64 ((↑(kp h.ls k) : Int) + 1) ∧ InI64 ((↑k : Int) + 1) ∧ ∃ (j7 : Nat), (((↑c : Int) = (↑c : Int) ∧ True ∧ (↑(cC (List.take k h.ls)) : Int) = (↑(cC (List.take j7 h.ls)) : Int) ∧ (↑(kp h.ls k) : Int) + 1 = (↑(kp h.ls j7) : Int) ∧ (↑k : Int) + 1 = (↑j7 : Int) ∧ True) ∧ h.fa = h.fa ∧ h.la = h.la ∧ h.fb = h.fb ∧ h.lb = h.lb ∧ List.map encDL h.ls = List.map encDL h.ls) ∧ j7 ≤ h.ls.length ∧ h.ls.length - j7 < h.ls.length - k) ∧ (decide (x4.op = 1) = false → (decide ((↑(cC (List.take k h.ls)) : Int) = 0) = true → (decide ((↑c : Int) < (↑(kp h.ls k) : Int)) = true → true = true
 ∧ (0 : Int) = (↑(cC h.ls) : Int) ∧ false = true) ∧ (decide ((↑c : Int) < (↑(kp h.ls k) : Int)) = false → InI64 ((2 : Int) * (↑c : Int)) ∧ decide ((2 : Int) * (↑c : Int) < (↑(kp h.ls k) : Int)) = false ∧ InI64 ((↑(cC (List.take k h.ls)) : Int) + 1) ∧ InI64 ((↑k : Int) + 1) ∧ ∃ (j12 : Nat), (((↑c : Int) = (↑c : Int) ∧ True ∧ (↑(cC (List.take k h.ls)) : Int) + 1 = (↑(cC (List.take j12 h.ls)) : Int) ∧ (0 : Int) = (↑(kp h.ls j12) : Int) ∧ (↑k : Int) + 1 = (↑j12 : Int) ∧ True) ∧ h.fa = h.fa ∧ h.la = h.la ∧ h.fb = h.fb ∧ h.lb = h.lb ∧ List.map encDL h.ls = List.map encDL h.ls) ∧ j12 ≤ h.ls.length ∧ h.ls.length - j12 < h.ls.length - k)) ∧ (decide ((↑(cC (List.take k h.ls)) : Int) = 0) = false → false = false ∧ InI64 ((2 : Int) * (↑c : Int)) ∧ (decide ((2 : Int) * (↑c : Int) < (↑(kp h.ls k) : Int)) = true → (0 : Int) = (↑(cC h.ls) : Int) ∧ false = true) ∧ (decide ((2 : Int) * (↑c : Int) < (↑(kp h.ls k) : Int)) = false → InI64 ((↑(cC (List.take k h.ls)) : Int) + 1) ∧ InI64 ((↑k : Int) + 1) ∧ ∃ (j16 : Nat), (((↑c : Int) = (↑c : Int) ∧ True ∧ (↑(cC (List.take k h.ls)) : Int) + 1 = (↑(cC (List.take j16 h.ls)) : Int) ∧ (0 : Int) = (↑(kp
 h.ls j16) : Int) ∧ (↑k : Int) + 1 = (↑j16 : Int) ∧ True) ∧ h.fa = h.fa ∧ h.la = h.la ∧ h.fb = h.fb ∧ h.lb = h.lb ∧ List.map encDL h.ls = List.map encDL h.ls) ∧ j16 ≤ h.ls.length ∧ h.ls.length - j16 < h.ls.length - k)))) ∧ (decide ((↑k : Int) < (↑h.ls.length : Int)) = false → (decide ((0 : Int) < (↑(cC (List.take k h.ls)) : Int)) = true → (↑(cC (List.take k h.ls)) : Int) = (↑(cC h.ls) : Int) ∧ decide ((↑(kp h.ls k) : Int) ≤ (↑c : Int)) = true) ∧ (decide ((0 : Int) < (↑(cC (List.take k h.ls)) : Int)) = false → (↑(cC (List.take k h.ls)) : Int) = (↑(cC h.ls) : Int) ∧ false = true)))) ?_
 refine ⟨⟨(0 : Nat), ⟨⟨rfl, trivial, rfl, rfl, (by omega), trivial⟩, rfl, rfl, rfl, rfl, rfl⟩, (by omega)⟩, fun k => fun h2 => ⟨(by simp), fun h3_ => have h3 := dT h3_; ⟨rfl, rfl, (by omega), fun x4 => fun h5 => ⟨fun h6_ => have h6 := dT h6_; ⟨?_, (by unfold InI64; omega), ⟨k + (1 : Nat), ⟨⟨rfl, trivial, ?_, ?_, (by omega), trivial⟩, rfl, rfl, rfl, rfl, rfl⟩, ⟨(by omega), (by omega)⟩⟩⟩, fun h8_ => have h8 := dF h8_; ⟨fun h9_ => have h9 := dT h9_; ⟨fun h10_ => have h10 := dT h10_; ⟨rfl, ?_, ?_⟩, fun h11_ => have h11 := dF h11_; ⟨(by unfold InI64; omega), (fD (by omega)), (by unfold InI64; omega), (by unfold InI64; omega), ⟨k + (1 : Nat), ⟨⟨rfl, trivial, ?_, ?_, (by omega), trivial⟩, rfl, rfl, rfl, rfl, rfl⟩, ⟨(by omega), (by omega)⟩⟩⟩⟩, fun h13_ => have h13 := dF h13_; ⟨rfl, (by unfold InI64; omega), fun h14_ => have h14 := dT h14_; ⟨?_, ?_⟩, fun h15_ => have h15 := dF h15_; ⟨?_, (by unfold InI64; omega), ⟨k + (1 : Nat), ⟨⟨rfl, trivial, ?_, ?_, (by omega), trivial⟩, rfl, rfl, rfl, rfl, rfl⟩, ⟨(by omega), (by omega)⟩⟩⟩⟩⟩⟩⟩, fun h17_ => have h17 := dF h17_; ⟨fun h18_ => have h18 := dT h18_; ⟨?_, ?_⟩, fun h19_ => have h19 := dF h19_; ⟨?_, ?_⟩⟩⟩⟩
 all_goals have hk := kp_le h.ls k
 all_goals have hC := cC_le (h.ls.take k)
 all_goals rw [List.length_take] at hC
 ·unfold InI64; omega
 ·rw [cC_s h5, if_pos h6]; omega
 ·rw [kp_y h5 h6]; omega
 ·have := r.f k _ h5 h8 (by omega); omega
 ·have := r.f k _ h5 h8 (by omega); omega
 ·rw [cC_s h5, if_neg h8]; omega
 ·rw [kp_n h5 h8]; omega
 ·have := r.m k _ h5 h8; omega
 ·have := r.m k _ h5 h8; omega
 ·unfold InI64; omega
 ·rw [cC_s h5, if_neg h8]; omega
 ·rw [kp_n h5 h8]; omega
 ·rw [List.take_of_length_le (by omega)]
 ·obtain rfl : k = h.ls.length := by omega
  exact decide_eq_true (by have := r.l; omega)
 ·rw [List.take_of_length_le (by omega)]
 ·rw [List.take_of_length_le (by omega)] at h19; have := r.n; omega
theorem concises_run (on ot nn nt : Bs) (c : Int) (hc : InI64 c) (ho : ot.length ≤ 1048576) (hn : nt.length ≤ 1048576) : (R FT XS).f 9 [encNm on ot, encNm nn nt, intA c] = some (boolA true) := by
 have hm := maxLen_le
 have f1 := few_run ot (by omega)
 have f2 := few_run nt (by omega)
 have fo := fed_run (X := XS) ot (by omega)
 have fn := fed_run (X := XS) nt (by omega)
 have aw := awake_run
 have fw : ∀ s : Bs, fewB s = true → s.length ≤ 10000 ∧ (lins s).length ≤ 60 := fun s h => by
  unfold fewB at h; simp at h; omega
 obtain ⟨P, hP⟩ : ∃ P, P = cmpP on ot nn nt c.toNat := ⟨_, rfl⟩
 obtain ⟨l, hl⟩ : ∃ l, l = difL ot nt := ⟨_, rfl⟩
 obtain ⟨rs, hrs⟩ : ∃ rs, rs = rgs (difL ot nt) c.toNat := ⟨_, rfl⟩
 have cm : fewB ot = true → fewB nt = true → (R FT XS).f 13 [encNm on ot, encNm nn nt, intA c] = some (encPt P) := fun h1 h2 => by
  have g1 := fw _ h1
  have g2 := fw _ h2
  rw [hP]; exact compare_run (X := XS) XS_lib XS_lcs on ot nn nt c hc (by omega) (by omega) (by omega) (by omega)
 have rb : fewB ot = true → fewB nt = true → RB l (fed ot) (fed nt) rs P.hs := fun h1 h2 => by
  have g1 := fw _ h1
  have g2 := fw _ h2
  rw [hl, hrs, hP]
  exact cmp_RB (on := on) (nn := nn) (c := c.toNat) g1.1 g2.1 (by omega) (by omega)
 have cr : ∀ h ∈ P.hs, CsR h.ls c.toNat := fun h hh => by
  rw [hP] at hh
  obtain ⟨r, hr, rfl⟩ := List.mem_map.1 hh
  obtain ⟨n, hn⟩ := List.getElem?_of_mem hr
  exact csr_of (rgs_ok _ _) hn
 have no : fewB ot = true → fewB nt = true → (P.hs.length = 0 ↔ cC l = 0) := fun h1 h2 => (rb h1 h2).none fun k hk => (cr k hk).n
 have dl : cC l = dist (fed ot) (fed nt) := by rw [hl]; exact cC_dif ot nt
 have di : fewB ot = true → fewB nt = true → (R FT XS).f 26 [.slice 1 ((fed ot).map strL), .slice 1 ((fed nt).map strL)] = some (intA (cC l : Nat)) := fun h1 h2 => by
  have g1 := fw _ h1
  have g2 := fw _ h2
  rw [dl]; exact XS_lcs.dst _ _ (by rw [fed_len]; omega) (by rw [fed_len]; omega)
 have cs : fewB ot = true → fewB nt = true → 0 ≤ c → c ≤ 100 → ∀ h ∈ P.hs, (R FT XS).f 25 [encHk h, intA c] = some (.tuple [intA (cC h.ls : Nat), boolA true]) := fun h1 h2 h3 h4 h hh => by
  have e : c = (c.toNat : Int) := by omega
  have r := rb h1 h2
  obtain ⟨n, hn⟩ := List.getElem?_of_mem hh
  have q := (r.hd hn).2.2.2.2
  have := concise_run h c.toNat (by omega) (by omega) (cr h hh)
  rw [← e] at this; exact this
 have eq : ot = nt ↔ cC l = 0 := by
  rw [dl]
  constructor
  ·intro e; rw [e]; exact dist_self _
  ·intro e; exact fed_inj (eq_of_dist _ _ e)
 obtain ⟨S, hS⟩ : ∃ S : Nat → Nat, S = fun k => cC (l.take (eR rs k)) := ⟨_, rfl⟩
 refine R_wp ((Tr.c (boolA (fewB ot)) ((Tr.b true (Tr.b true (Tr.b true (Tr.c (boolA true) Tr.nil)).w)).br (Tr.c (boolA (fewB nt)) ((Tr.b true (Tr.b true (Tr.c (boolA true) Tr.nil)).w).br ((Tr.b true (Tr.c (boolA true) Tr.nil)).w.br ((Tr.c (boolA true) Tr.nil).br (Tr.c (encPt P) (Tr.inv (fun (k : Nat) ↦ St.mk [(2, intA c), (3, AV.ptr 0 0), (4, AV.ptr 1 0), (7, AV.ptr 3 0), (8, intA (↑(S k) : Int)), (9, intA (↑k : Int))] [MObj.box 23 [strL on, strL ot], MObj.box 23 [strL nn, strL nt], MObj.row 0 5 [] true (1 : Nat), MObj.box 29 [strL P.old, strL P.new, AV.slice 5 (List.map encHk P.hs)]]) (fun (k : Nat) ↦ k ≤ P.hs.length) (fun (k : Nat) ↦ P.hs.length - k) fun (k : Nat) ↦ (Tr.k P.hs.length ((Tr.ix encHk P.hs k fun (x12 : Hk) ↦ Tr.c (AV.tuple [intA (↑(cC x12.ls) : Int), boolA true]) (Tr.b false Tr.nil.w.w).w.w).w.br (Tr.c (AV.slice 1 (List.map strL (fed ot))) (Tr.c (AV.slice 1 (List.map strL (fed nt))) (Tr.c (intA (↑(cC l) : Int)) ((Tr.k P.hs.length ((Tr.c (boolA true) Tr.nil).br Tr.nil)).br (Tr.b false Tr.nil))))).w)).w).w)).w))))).w) rfl ?_
 refine Eq.mpr (by kernel_rfl : _ = ((R FT XS).f 10 [strL ot] = some (boolA (fewB ot)) ∧ ((!fewB ot) = true → true = true ∧ true = true ∧ true = true ∧ (R FT XS).f 11 [] = some (boolA true) ∧ true = true) ∧ ((!fewB ot) = false → (R FT XS).f 10 [strL nt] = some (boolA (fewB nt)) ∧ ((!fewB nt) = true → true = true ∧ true = true ∧ (R FT XS).f 11 [] = some (boolA true) ∧ true = true) ∧ ((!fewB nt) = false → (decide (c < 0) = true → true = true ∧ (R FT XS).f 11 [] = some (boolA true) ∧ true = true) ∧ (decide (c < 0) = false → (decide ((100 : Int) < c) = true → (R FT XS).f 11 [] = some (boolA true) ∧ true = true) ∧ (decide ((100 : Int) < c) = false → (R FT XS).f 13 [encNm on ot, encNm nn nt, intA c] = some (encPt P) ∧ (∃ (j9 : Nat), ((c = c ∧ True ∧ True ∧ True ∧ (0 : Int) = (↑(S j9) : Int) ∧ (0 : Int) = (↑j9 : Int) ∧ True) ∧ (on = on ∧ ot = ot) ∧ (nn = nn ∧ nt = nt) ∧ @List.nil AV = [] ∧ P.old = P.old ∧ P.new = P.new ∧ List.map encHk P.hs = List.map encHk P.hs) ∧ j9 ≤ P.hs.length) ∧ ∀ (k : Nat), k ≤ P.hs.length → (List.map encHk P.hs).length = P.hs.length ∧ (decide ((↑k : Int) < (↑P.hs.length : Int)) = true → List.map encHk P.hs = List.map
 encHk P.hs ∧ (↑k : Int) = (↑k : Int) ∧ k < P.hs.length ∧ ∀ (x12 : Hk), P.hs[k]? = some x12 → (R FT XS).f 25 [encHk x12, intA c] = some (AV.tuple [intA (↑(cC x12.ls) : Int), boolA true]) ∧ false = false ∧ InI64 ((↑(S k) : Int) + (↑(cC x12.ls) : Int)) ∧ InI64 ((↑k : Int) + 1) ∧ ∃ (j14 : Nat), ((c = c ∧ True ∧ True ∧ True ∧ (↑(S k) : Int) + (↑(cC x12.ls) : Int) = (↑(S j14) : Int) ∧ (↑k : Int) + 1 = (↑j14 : Int) ∧ True) ∧ (on = on ∧ ot = ot) ∧ (nn = nn ∧ nt = nt) ∧ @List.nil AV = [] ∧ P.old = P.old ∧ P.new = P.new ∧ List.map encHk P.hs = List.map encHk P.hs) ∧ j14 ≤ P.hs.length ∧ P.hs.length - j14 < P.hs.length - k) ∧ (decide ((↑k : Int) < (↑P.hs.length : Int)) = false → (R FT XS).f 23 [strL ot] = some (AV.slice 1 (List.map strL (fed ot))) ∧ (R FT XS).f 23 [strL nt] = some (AV.slice 1 (List.map strL (fed nt))) ∧ (R FT XS).f 26 [AV.slice 1 (List.map strL (fed ot)), AV.slice 1 (List.map strL (fed nt))] = some (intA (↑(cC l) : Int)) ∧ (decide ((↑(S k) : Int) = (↑(cC l) : Int)) = true → (List.map encHk P.hs).length = P.hs.length ∧ ((decide (ot = nt) == decide ((↑P.hs.length : Int) = 0)) = true
 → (R FT XS).f 11 [] = some (boolA true) ∧ true = true) ∧ ((decide (ot = nt) == decide ((↑P.hs.length : Int) = 0)) = false → false = true)) ∧ (decide ((↑(S k) : Int) = (↑(cC l) : Int)) = false → false = false ∧ false = true)))))))) ?_
 refine ⟨(f1), fun h1_ => have h1 := nT h1_; ⟨rfl, rfl, rfl, (aw), rfl⟩, fun h2_ => have h2 := nF h2_; ⟨(f2), fun h3_ => have h3 := nT h3_; ⟨rfl, rfl, (aw), rfl⟩, fun h4_ => have h4 := nF h4_; ⟨fun h5_ => have h5 := dT h5_; ⟨rfl, (aw), rfl⟩, fun h6_ => have h6 := dF h6_; ⟨fun h7_ => have h7 := dT h7_; ⟨(aw), rfl⟩, fun h8_ => have h8 := dF h8_; ⟨(cm h2 h4), ⟨(0 : Nat), ⟨⟨rfl, trivial, trivial, trivial, ?_, (by omega), trivial⟩, ⟨rfl, rfl⟩, ⟨rfl, rfl⟩, rfl, rfl, rfl, rfl⟩, (by omega)⟩, fun k => fun h10 => ⟨(by simp), fun h11_ => have h11 := dT h11_; ⟨rfl, rfl, (by omega), fun x12 => fun h13 => ⟨(cs h2 h4 (by exact (by omega)) (by exact (by omega)) _ ?_), rfl, ?_, ?_, ⟨k + (1 : Nat), ⟨⟨rfl, trivial, trivial, trivial, ?_, (by omega), trivial⟩, ⟨rfl, rfl⟩, ⟨rfl, rfl⟩, rfl, rfl, rfl, rfl⟩, ⟨(by omega), (by omega)⟩⟩⟩⟩, fun h15_ => have h15 := dF h15_; ⟨(fo), (fn), (di h2 h4), fun h16_ => have h16 := dT h16_; ⟨(by simp), fun h17 => ⟨(aw), rfl⟩, fun h18 => ?_⟩, fun h19_ => have h19 := dF h19_; ⟨rfl, ?_⟩⟩⟩⟩⟩⟩⟩⟩
 ·rw [hS]; rfl
 ·exact List.mem_of_getElem? h13
 ·have r := rb h2 h4
  have := r.sum h13
  have b := cC_le (l.take (eR rs (k + 1)))
  have nn := r.nn
  rw [List.length_take] at b
  have e1 : S k = cC (l.take (eR rs k)) := by rw [hS]
  rw [e1]; unfold InI64; omega
 ·have := (rb h2 h4).hb; unfold InI64; omega
 ·have := (rb h2 h4).sum h13
  have e1 : S k = cC (l.take (eR rs k)) := by rw [hS]
  have e2 : S (k + 1) = cC (l.take (eR rs (k + 1))) := by rw [hS]
  rw [e1, e2]; omega
 ·have n := no h2 h4
  have e : decide (ot = nt) = decide ((P.hs.length : Int) = 0) := decide_eq_decide.2 (eq.trans (n.symm.trans (by omega)))
  rw [e, beq_self_eq_true] at h18; cases h18
 ·have e : k = P.hs.length := by omega
  have t := (rb h2 h4).tot
  rw [hS, e] at h19
  exact absurd (congrArg Int.ofNat t) h19
end Go.Proofs.YtfbpbkcplpkndaaGreatDoor
end
