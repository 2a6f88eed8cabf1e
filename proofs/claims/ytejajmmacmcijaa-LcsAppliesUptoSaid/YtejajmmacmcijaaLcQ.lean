/- Plain facts on edits: what they say, step by step. No program is named here. -/
import Derived.Test.YtejajmmacmcijaaLcsP
namespace Go.Proofs.Ytejajmmacmcijaa
set_option linter.unusedVariables false
set_option linter.unusedSimpArgs false
set_option linter.unusedSectionVars false
section steps
variable {α : Type} [DecidableEq α]

/-- one step at a place: 1 keep, 2 delete, 3 insert -/
def stOk (a b : List α) (op : Int) (i j : Nat) : Prop :=
  (op = 2 ∧ i < a.length) ∨ (op = 3 ∧ j < b.length) ∨ (op = 1 ∧ i < a.length ∧ j < b.length ∧ a[i]? = b[j]?)
def sI (op : Int) (i : Nat) : Nat := if op = 3 then i else i + 1
def sJ (op : Int) (j : Nat) : Nat := if op = 2 then j else j + 1
/-- steps that lead from a place to the ends -/
def pth (a b : List α) : List Int → Nat → Nat → Prop
  | [], i, j => i = a.length ∧ j = b.length
  | op :: p, i, j => stOk a b op i j ∧ pth a b p (sI op i) (sJ op j)
def cst : List Int → Nat
  | [] => 0
  | op :: p => (if op = 1 then 0 else 1) + cst p
def kep : List Int → Nat
  | [] => 0
  | op :: p => (if op = 1 then 1 else 0) + kep p
theorem cst_app (p q : List Int) : cst (p ++ q) = cst p + cst q := by
  induction p with
  | nil => simp [cst]
  | cons x p ih => simp only [List.cons_append, cst, ih]; omega
theorem kep_app (p q : List Int) : kep (p ++ q) = kep p + kep q := by
  induction p with
  | nil => simp [kep]
  | cons x p ih => simp only [List.cons_append, kep, ih]; omega
theorem cst_rep (op : Int) (n : Nat) : cst (List.replicate n op) = if op = 1 then 0 else n := by
  induction n with
  | zero => simp [cst]
  | succ n ih => simp only [List.replicate_succ, cst, ih]; split <;> omega
theorem kep_rep (op : Int) (n : Nat) : kep (List.replicate n op) = if op = 1 then n else 0 := by
  induction n with
  | zero => simp [kep]
  | succ n ih => simp only [List.replicate_succ, kep, ih]; split <;> omega
theorem dd_keep (a b : List α) {i j : Nat} (hi : i < a.length) (hj : j < b.length) (h : a[i]? = b[j]?) : dd a b i j = dd a b (i + 1) (j + 1) := by
  rw [dd_step a b hi hj, if_pos]
  rw [List.getElem?_eq_getElem hi, List.getElem?_eq_getElem hj] at h
  exact Option.some.inj h
theorem pth_cost (a b : List α) : ∀ (p : List Int) (i j : Nat), pth a b p i j → dd a b i j ≤ cst p
  | [], i, j, h => by
    obtain ⟨rfl, rfl⟩ := h
    rw [dd_end a b (Nat.le_refl _)]; simp
  | op :: p, i, j, ⟨h1, h2⟩ => by
    have ih := pth_cost a b p _ _ h2
    rcases h1 with ⟨rfl, hi⟩ | ⟨rfl, hj⟩ | ⟨rfl, hi, hj, he⟩
    · have := (dd_del a b hi j).1
      simp only [sI, sJ, cst] at ih ⊢
      simp at ih ⊢; omega
    · have := (dd_ins a b i hj).1
      simp only [sI, sJ, cst] at ih ⊢
      simp at ih ⊢; omega
    · rw [dd_keep a b hi hj he]
      simp only [sI, sJ, cst] at ih ⊢
      simp at ih ⊢; omega
theorem pth_sum (a b : List α) : ∀ (p : List Int) (i j : Nat), pth a b p i j → cst p + 2 * kep p + i + j = a.length + b.length
  | [], i, j, h => by
    obtain ⟨rfl, rfl⟩ := h
    simp [cst, kep]
  | op :: p, i, j, ⟨h1, h2⟩ => by
    have ih := pth_sum a b p _ _ h2
    rcases h1 with ⟨rfl, hi⟩ | ⟨rfl, hj⟩ | ⟨rfl, hi, hj, he⟩ <;> simp only [sI, sJ, cst, kep] at ih ⊢ <;> simp at ih ⊢ <;> omega
/-- the steps of the first shortest script -/
def gp (a b : List α) : Nat → Nat → Nat → List Int
  | 0, _, _ => []
  | n + 1, i, j => if a.length ≤ i ∧ b.length ≤ j then [] else (opAt a b i j : Int) :: gp a b n (if opAt a b i j = 3 then i else i + 1) (if opAt a b i j = 2 then j else j + 1)
theorem gp_pth (a b : List α) : ∀ (n i j : Nat), i ≤ a.length → j ≤ b.length → (a.length - i) + (b.length - j) ≤ n → pth a b (gp a b n i j) i j ∧ cst (gp a b n i j) = dd a b i j
  | 0, i, j, hi, hj, h => by
    obtain rfl : i = a.length := by omega
    obtain rfl : j = b.length := by omega
    refine ⟨⟨rfl, rfl⟩, ?_⟩
    rw [dd_end a b (Nat.le_refl _)]; simp [gp, cst]
  | n + 1, i, j, hi, hj, h => by
    by_cases hE : a.length ≤ i ∧ b.length ≤ j
    · obtain rfl : i = a.length := by omega
      obtain rfl : j = b.length := by omega
      rw [gp, if_pos hE]
      refine ⟨⟨rfl, rfl⟩, ?_⟩
      rw [dd_end a b (Nat.le_refl _)]; simp [cst]
    · rw [gp, if_neg hE]
      have hlt : i < a.length ∨ j < b.length := by omega
      rcases opAt_cases a b hi hj hlt with ⟨e, h1, h2⟩ | ⟨e, h1, h2, _⟩ | ⟨e, h1, h2, h3, h4, _⟩ <;> rw [e] <;> simp only [Nat.reduceEqDiff, if_true, if_false]
      · obtain ⟨g1, g2⟩ := gp_pth a b n (i + 1) j (by omega) hj (by omega)
        exact ⟨⟨.inl ⟨rfl, h1⟩, g1⟩, by simp only [cst, g2]; simp; omega⟩
      · obtain ⟨g1, g2⟩ := gp_pth a b n i (j + 1) hi (by omega) (by omega)
        exact ⟨⟨.inr (.inl ⟨rfl, h1⟩), g1⟩, by simp only [cst, g2]; simp; omega⟩
      · obtain ⟨g1, g2⟩ := gp_pth a b n (i + 1) (j + 1) (by omega) (by omega) (by omega)
        exact ⟨⟨.inr (.inr ⟨rfl, h1, h2, h3⟩), g1⟩, by simp only [cst, g2]; simp; omega⟩
def rk (op : Int) : Int := if op = 2 then 1 else if op = 3 then 2 else 3
/-- does one come first? -/
def lexle : List Int → List Int → Bool
  | [], _ => true
  | _ :: _, [] => false
  | x :: a, y :: b => if x = y then lexle a b else decide (rk x < rk y)
theorem gp_first (a b : List α) : ∀ (n i j : Nat) (p : List Int), i ≤ a.length → j ≤ b.length → (a.length - i) + (b.length - j) ≤ n → pth a b p i j → cst p = dd a b i j → lexle (gp a b n i j) p = true
  | 0, i, j, p, hi, hj, h, hp, hc => by simp [gp, lexle]
  | n + 1, i, j, p, hi, hj, h, hp, hc => by
    by_cases hE : a.length ≤ i ∧ b.length ≤ j
    · rw [gp, if_pos hE]; simp [lexle]
    · rw [gp, if_neg hE]
      have hlt : i < a.length ∨ j < b.length := by omega
      match p, hp, hc with
      | [], hp, _ => exact absurd ⟨by have := hp.1; omega, by have := hp.2; omega⟩ hE
      | op :: p, ⟨s1, s2⟩, hc =>
        have hle := pth_cost a b p _ _ s2
        have d1 : ∀ hi : i < a.length, op = 2 → dd a b (i + 1) j + 1 = dd a b i j := fun hi e => by
          subst e
          have := (dd_del a b hi j).1
          simp [sI, sJ] at hle
          simp [cst] at hc
          omega
        have d2 : ∀ hj : j < b.length, op = 3 → dd a b i (j + 1) + 1 = dd a b i j := fun hj e => by
          subst e
          have := (dd_ins a b i hj).1
          simp [sI, sJ] at hle
          simp [cst] at hc
          omega
        rcases opAt_cases a b hi hj hlt with ⟨e, h1, h2⟩ | ⟨e, h1, h2, h3⟩ | ⟨e, h1, h2, h3, h4, h5, h6⟩ <;> rw [e] <;> simp only [Nat.reduceEqDiff, if_true, if_false, lexle]
        · rcases s1 with ⟨rfl, g⟩ | ⟨rfl, g⟩ | ⟨rfl, g, g2, g3⟩
          · rw [if_pos (show ((2 : Nat) : Int) = 2 from rfl)]
            refine gp_first a b n (i + 1) j p (by omega) hj (by omega) s2 ?_
            simp [cst] at hc; omega
          · simp [rk]
          · simp [rk]
        · rcases s1 with ⟨rfl, g⟩ | ⟨rfl, g⟩ | ⟨rfl, g, g2, g3⟩
          · exact absurd ⟨g, d1 g rfl⟩ h3
          · rw [if_pos (show ((3 : Nat) : Int) = 3 from rfl)]
            refine gp_first a b n i (j + 1) p hi (by omega) (by omega) s2 ?_
            simp [cst] at hc; omega
          · simp [rk]
        · rcases s1 with ⟨rfl, g⟩ | ⟨rfl, g⟩ | ⟨rfl, g, g2, g3⟩
          · exact absurd ⟨g, d1 g rfl⟩ h5
          · exact absurd ⟨g, d2 g rfl⟩ h6
          · rw [if_pos (show ((1 : Nat) : Int) = 1 from rfl)]
            refine gp_first a b n (i + 1) (j + 1) p (by omega) (by omega) (by omega) s2 ?_
            simp [cst] at hc; omega

/-! ### edits -/
def eI (e : Ed) (i : Nat) : Nat := if e.op = 3 then i else i + e.n.toNat
def eJ (e : Ed) (j : Nat) : Nat := if e.op = 2 then j else j + e.n.toNat
structure EdOk (a b : List α) (e : Ed) (i j : Nat) : Prop where
  op : e.op = 1 ∨ e.op = 2 ∨ e.op = 3
  n : 1 ≤ e.n
  pa : e.a = i
  pb : e.b = j
  ra : e.op ≠ 3 → i + e.n.toNat ≤ a.length
  rb : e.op ≠ 2 → j + e.n.toNat ≤ b.length
  eq : e.op = 1 → ∀ k, k < e.n.toNat → a[i + k]? = b[j + k]?
open Classical in
noncomputable def edS (a b : List α) (o : Option (Nat × Nat)) (e : Ed) : Option (Nat × Nat) := match o with
  | none => none
  | some p => if EdOk a b e p.1 p.2 then some (eI e p.1, eJ e p.2) else none
/-- where edits lead -/
noncomputable def edR (a b : List α) (l : List Ed) : Option (Nat × Nat) := l.foldl (edS a b) (some (0, 0))
variable {a b : List α} {l : List Ed} {e : Ed} {i j k : Nat}
theorem edS_none (l : List Ed) : l.foldl (edS a b) none = none := by
  induction l with
  | nil => rfl
  | cons e l ih => exact ih
theorem edR_app (l m : List Ed) : edR a b (l ++ m) = m.foldl (edS a b) (edR a b l) := by unfold edR; rw [List.foldl_append]
theorem take_succ' {β : Type} {l : List β} {k : Nat} {x : β} (h : l[k]? = some x) : l.take (k + 1) = l.take k ++ [x] := by
  obtain ⟨hk, rfl⟩ := List.getElem?_eq_some_iff.1 h
  exact List.take_succ_eq_append_getElem hk
theorem edR_ok (h : edR a b (l.take k) = some (i, j)) (he : l[k]? = some e) (ho : EdOk a b e i j) : edR a b (l.take (k + 1)) = some (eI e i, eJ e j) := by
  rw [take_succ' he, edR_app, h]
  simp only [List.foldl_cons, List.foldl_nil, edS, if_pos ho]
theorem edR_bad (h : edR a b (l.take k) = some (i, j)) (he : l[k]? = some e) (ho : ¬ EdOk a b e i j) : edR a b l = none := by
  have h1 : edR a b (l.take (k + 1)) = none := by
    rw [take_succ' he, edR_app, h]
    simp only [List.foldl_cons, List.foldl_nil, edS, if_neg ho]
  rw [← List.take_append_drop (k + 1) l, edR_app, h1, edS_none]
theorem edR_snoc {l : List Ed} {e : Ed} {q : Nat × Nat} (h : edR a b (l ++ [e]) = some q) : ∃ i j, edR a b l = some (i, j) ∧ EdOk a b e i j ∧ q = (eI e i, eJ e j) := by
  rw [edR_app] at h
  simp only [List.foldl_cons, List.foldl_nil] at h
  cases h1 : edR a b l with
  | none => rw [h1] at h; simp [edS] at h
  | some p =>
    rw [h1] at h
    simp only [edS] at h
    split at h
    · rename_i ho
      injection h with h
      exact ⟨p.1, p.2, rfl, ho, h.symm⟩
    · cases h
theorem edOk_le (h : EdOk a b e i j) (hi : i ≤ a.length) (hj : j ≤ b.length) : eI e i ≤ a.length ∧ eJ e j ≤ b.length := by
  unfold eI eJ
  constructor
  · split
    · exact hi
    · exact h.ra (by assumption)
  · split
    · exact hj
    · exact h.rb (by assumption)
theorem list_snoc {β : Type} {P : List β → Prop} (h0 : P []) (h1 : ∀ l x, P l → P (l ++ [x])) (l : List β) : P l := by
  have : ∀ n (l : List β), l.length = n → P l := by
    intro n
    induction n with
    | zero => intro l h; rw [List.length_eq_zero_iff.1 h]; exact h0
    | succ n ih =>
      intro l h
      have hne : l ≠ [] := fun e => by rw [e] at h; cases h
      rw [← List.dropLast_concat_getLast hne]
      exact h1 _ _ (ih _ (by rw [List.length_dropLast]; omega))
  exact this _ l rfl
theorem edR_le : ∀ (l : List Ed) (i j : Nat), edR a b l = some (i, j) → i ≤ a.length ∧ j ≤ b.length := fun l => by
  induction l using list_snoc with
  | h0 => intro i j h; cases h; exact ⟨Nat.zero_le _, Nat.zero_le _⟩
  | h1 l e ih =>
    intro i j h
    obtain ⟨i0, j0, h1, h2, h3⟩ := edR_snoc h
    cases h3
    exact edOk_le h2 (ih _ _ h1).1 (ih _ _ h1).2
def stE (l : List Ed) : List Int := l.flatMap fun e => List.replicate e.n.toNat e.op
theorem stE_app (l m : List Ed) : stE (l ++ m) = stE l ++ stE m := by simp [stE]
theorem stE_one (e : Ed) : stE [e] = List.replicate e.n.toNat e.op := by simp [stE]
theorem rep_pth (p : List Int) (op : Int) : ∀ (n i j : Nat), (op = 1 ∨ op = 2 ∨ op = 3) → (op ≠ 3 → i + n ≤ a.length) → (op ≠ 2 → j + n ≤ b.length) → (op = 1 → ∀ k, k < n → a[i + k]? = b[j + k]?) →
    pth a b p (if op = 3 then i else i + n) (if op = 2 then j else j + n) → pth a b (List.replicate n op ++ p) i j
  | 0, i, j, _, _, _, _, h => by simpa using h
  | n + 1, i, j, h0, h1, h2, h3, h => by
    rw [List.replicate_succ, List.cons_append]
    refine ⟨?_, rep_pth p op n (sI op i) (sJ op j) h0 ?_ ?_ ?_ ?_⟩
    · rcases h0 with rfl | rfl | rfl
      · exact .inr (.inr ⟨rfl, by have := h1 (by decide); omega, by have := h2 (by decide); omega, h3 rfl 0 (by omega)⟩)
      · exact .inl ⟨rfl, by have := h1 (by decide); omega⟩
      · exact .inr (.inl ⟨rfl, by have := h2 (by decide); omega⟩)
    · intro hn; have := h1 hn; unfold sI; rw [if_neg hn]; omega
    · intro hn; have := h2 hn; unfold sJ; rw [if_neg hn]; omega
    · intro e k hk
      subst e
      have := h3 rfl (k + 1) (by omega)
      simp only [sI, sJ]
      simp
      rw [show i + 1 + k = i + (k + 1) by omega, show j + 1 + k = j + (k + 1) by omega]; exact this
    · unfold sI sJ
      by_cases e3 : op = 3
      · subst e3; simp at h ⊢; rw [show j + 1 + n = j + (n + 1) by omega]; exact h
      · by_cases e2 : op = 2
        · subst e2; simp at h ⊢; rw [show i + 1 + n = i + (n + 1) by omega]; exact h
        · simp only [if_neg e2, if_neg e3] at h ⊢
          rw [show i + 1 + n = i + (n + 1) by omega, show j + 1 + n = j + (n + 1) by omega]; exact h
theorem edR_pth : ∀ (l : List Ed) (i j : Nat) (p : List Int), edR a b l = some (i, j) → pth a b p i j → pth a b (stE l ++ p) 0 0 := fun l => by
  induction l using list_snoc with
  | h0 => intro i j p h hp; cases h; simpa [stE] using hp
  | h1 l e ih =>
    intro i j p h hp
    obtain ⟨i0, j0, h1, h2, h3⟩ := edR_snoc h
    cases h3
    rw [stE_app, stE_one, List.append_assoc]
    exact ih _ _ _ h1 (rep_pth p e.op e.n.toNat i0 j0 h2.op h2.ra h2.rb h2.eq hp)
/-- no two edits of one kind in a row, none that deletes behind one that inserts -/
def Conc (l : List Ed) : Prop := ∀ k x y, l[k]? = some x → l[k + 1]? = some y → y.op ≠ x.op ∧ ¬ (y.op = 2 ∧ x.op = 3)
theorem addE_nil (op i j : Int) : addE [] op i j = [⟨op, i, j, 1⟩] := rfl
theorem addE_snoc (l : List Ed) (e : Ed) (op i j : Int) : addE (l ++ [e]) op i j = if e.op = op then l ++ [{ e with n := e.n + 1 }] else l ++ [e] ++ [⟨op, i, j, 1⟩] := by
  unfold addE
  simp only [List.getLast?_concat, List.dropLast_concat]
theorem edOk_one {op : Int} (h : stOk a b op i j) : EdOk a b ⟨op, i, j, 1⟩ i j ∧ eI ⟨op, i, j, 1⟩ i = sI op i ∧ eJ ⟨op, i, j, 1⟩ j = sJ op j := by
  refine ⟨⟨?_, Int.le_refl 1, rfl, rfl, ?_, ?_, ?_⟩, rfl, rfl⟩
  · rcases h with h | h | h
    · exact .inr (.inl h.1)
    · exact .inr (.inr h.1)
    · exact .inl h.1
  · intro hn
    rcases h with h | h | h
    · show i + 1 ≤ _; omega
    · exact absurd h.1 hn
    · show i + 1 ≤ _; omega
  · intro hn
    rcases h with h | h | h
    · exact absurd h.1 hn
    · show j + 1 ≤ _; omega
    · show j + 1 ≤ _; omega
  · intro hn k hk
    obtain rfl : k = 0 := by simp at hk; omega
    rcases h with h | h | h
    · simp only at hn; omega
    · simp only at hn; omega
    · exact h.2.2.2
theorem addE_ok {op : Int} (l : List Ed) (h : edR a b l = some (i, j)) (hs : stOk a b op i j) : edR a b (addE l op i j) = some (sI op i, sJ op j) ∧ stE (addE l op i j) = stE l ++ [op] := by
  revert h
  induction l using list_snoc with
  | h0 =>
    intro h
    cases h
    obtain ⟨g1, g2, g3⟩ := edOk_one hs
    rw [addE_nil]
    refine ⟨?_, by simp [stE]⟩
    unfold edR
    simp only [List.foldl_cons, List.foldl_nil, edS]
    rw [if_pos g1, g2, g3]
  | h1 l e _ =>
    intro h
    rw [addE_snoc]
    split
    · rename_i hop
      obtain ⟨i0, j0, h1, h2, h3⟩ := edR_snoc h
      have hi : i = eI e i0 := congrArg Prod.fst h3
      have hj : j = eJ e j0 := congrArg Prod.snd h3
      have hn : (e.n + 1).toNat = e.n.toNat + 1 := by have := h2.n; omega
      have ok : EdOk a b { e with n := e.n + 1 } i0 j0 := by
        unfold eI at hi
        unfold eJ at hj
        refine ⟨h2.op, by show 1 ≤ e.n + 1; have := h2.n; omega, h2.pa, h2.pb, ?_, ?_, ?_⟩
        · intro h3
          show i0 + (e.n + 1).toNat ≤ _
          have h3' : e.op ≠ 3 := h3
          rw [if_neg h3'] at hi
          rcases hs with hs | hs | hs
          · omega
          · exact absurd (hop.trans hs.1) h3'
          · omega
        · intro h3
          show j0 + (e.n + 1).toNat ≤ _
          have h3' : e.op ≠ 2 := h3
          rw [if_neg h3'] at hj
          rcases hs with hs | hs | hs
          · exact absurd (hop.trans hs.1) h3'
          · omega
          · omega
        · intro h3 k hk
          have h3' : e.op = 1 := h3
          have hk' : k < (e.n + 1).toNat := hk
          by_cases hh : k < e.n.toNat
          · exact h2.eq h3' k hh
          · obtain rfl : k = e.n.toNat := by omega
            rw [if_neg (by rw [h3']; decide)] at hi hj
            rcases hs with hs | hs | hs
            · omega
            · omega
            · rw [← hi, ← hj]; exact hs.2.2.2
      refine ⟨?_, ?_⟩
      · rw [edR_app, h1]
        simp only [List.foldl_cons, List.foldl_nil, edS]
        rw [if_pos ok, hi, hj]
        unfold eI eJ sI sJ
        simp only [hn, hop]
        congr 2
        · split <;> omega
        · split <;> omega
      · rw [stE_app, stE_app, stE_one, stE_one, List.append_assoc]
        congr 1
        show List.replicate (e.n + 1).toNat e.op = _
        rw [hn, List.replicate_succ', hop]
    · obtain ⟨g1, g2, g3⟩ := edOk_one hs
      refine ⟨?_, ?_⟩
      · rw [edR_app, h]
        simp only [List.foldl_cons, List.foldl_nil, edS]
        rw [if_pos g1, g2, g3]
      · rw [stE_app, stE_one]; rfl
theorem addE_last (l : List Ed) (op i j : Int) : ∃ l' e, addE l op i j = l' ++ [e] ∧ e.op = op := by
  induction l using list_snoc with
  | h0 => exact ⟨[], _, rfl, rfl⟩
  | h1 l e _ =>
    rw [addE_snoc]
    split
    · rename_i h; exact ⟨l, _, rfl, h⟩
    · exact ⟨l ++ [e], _, rfl, rfl⟩
theorem conc_snoc {l : List Ed} {e x : Ed} (h : Conc (l ++ [e])) (hx : x.op ≠ e.op ∧ ¬ (x.op = 2 ∧ e.op = 3)) : Conc (l ++ [e] ++ [x]) := by
  intro k u v h1 h2
  by_cases hk : k + 1 < (l ++ [e]).length
  · rw [List.getElem?_append_left (by omega)] at h1
    rw [List.getElem?_append_left hk] at h2
    exact h k u v h1 h2
  · have hlt : k + 1 < (l ++ [e] ++ [x]).length := (List.getElem?_eq_some_iff.1 h2).1
    simp at hk hlt
    obtain rfl : k = l.length := by omega
    simp [List.getElem?_append] at h1 h2
    subst h1 h2
    exact hx
theorem conc_last {l : List Ed} {e e' : Ed} (h : Conc (l ++ [e])) (ho : e'.op = e.op) : Conc (l ++ [e']) := by
  intro k u v h1 h2
  by_cases hk : k + 1 < l.length
  · rw [List.getElem?_append_left (by omega)] at h1
    rw [List.getElem?_append_left hk] at h2
    exact h k u v (by rw [List.getElem?_append_left (by omega)]; exact h1) (by rw [List.getElem?_append_left hk]; exact h2)
  · have hlt : k + 1 < (l ++ [e']).length := (List.getElem?_eq_some_iff.1 h2).1
    simp at hk hlt
    have hkl : k + 1 = l.length := by omega
    rw [List.getElem?_append_left (by omega)] at h1
    rw [hkl] at h2
    simp [List.getElem?_append] at h2
    subst h2
    rw [ho]
    exact h k u e (by rw [List.getElem?_append_left (by omega)]; exact h1) (by rw [hkl]; simp [List.getElem?_append])
theorem addE_conc {op : Int} {i j : Int} (l : List Ed) (h : Conc l) (hl : ∀ l' e, l = l' ++ [e] → ¬ (op = 2 ∧ e.op = 3)) : Conc (addE l op i j) := by
  revert h hl
  induction l using list_snoc with
  | h0 =>
    intro h hl k x y h1 h2
    rw [addE_nil] at h1 h2
    simp at h2
  | h1 l e _ =>
    intro h hl
    rw [addE_snoc]
    split
    · exact conc_last h rfl
    · rename_i hn
      exact conc_snoc h ⟨fun q => hn q.symm, hl l e rfl⟩
theorem opAt_32 {i j : Nat} (hi : i ≤ a.length) (hj : j < b.length) (h : opAt a b i j = 3) : opAt a b i (j + 1) ≠ 2 := by
  intro h2
  have hlt : i < a.length ∨ j < b.length := .inr hj
  rcases opAt_cases a b hi (by omega) hlt with ⟨e, _⟩ | ⟨e, h3, h4, h5⟩ | ⟨e, _⟩
  · omega
  · by_cases hlt2 : i < a.length ∨ j + 1 < b.length
    · rcases opAt_cases a b hi (j := j + 1) (by omega) hlt2 with ⟨e2, g1, g2⟩ | ⟨e2, _⟩ | ⟨e2, _⟩
      · refine h5 ⟨g1, ?_⟩
        have := (dd_ins a b (i + 1) h3).1
        have := (dd_del a b g1 j).1
        omega
      · omega
      · omega
    · have : opAt a b i (j + 1) = 1 := by
        unfold opAt
        rw [if_neg (by omega), if_neg (by omega)]
      omega
  · omega
theorem scrF_ok : ∀ (n i j : Nat) (out : List Ed), i ≤ a.length → j ≤ b.length → (a.length - i) + (b.length - j) ≤ n → edR a b out = some (i, j) → Conc out → (∀ l' e, out = l' ++ [e] → e.op = 3 → opAt a b i j ≠ 2) →
    edR a b (scrF a b n i j out) = some (a.length, b.length) ∧ stE (scrF a b n i j out) = stE out ++ gp a b n i j ∧ Conc (scrF a b n i j out)
  | 0, i, j, out, hi, hj, h, ho, hc, _ => by
    obtain rfl : i = a.length := by omega
    obtain rfl : j = b.length := by omega
    exact ⟨ho, by simp [gp, scrF], hc⟩
  | n + 1, i, j, out, hi, hj, h, ho, hc, h32 => by
    rw [scrF, gp]
    by_cases hE : a.length ≤ i ∧ b.length ≤ j
    · obtain rfl : i = a.length := by omega
      obtain rfl : j = b.length := by omega
      rw [if_pos hE, if_pos hE]
      exact ⟨ho, by simp, hc⟩
    · rw [if_neg hE, if_neg hE]
      have hlt : i < a.length ∨ j < b.length := by omega
      have key : ∀ op : Nat, opAt a b i j = op → stOk a b (op : Int) i j → ((a.length - (if op = 3 then i else i + 1)) + (b.length - (if op = 2 then j else j + 1)) ≤ n) → (if op = 3 then i else i + 1) ≤ a.length → (if op = 2 then j else j + 1) ≤ b.length →
          edR a b (scrF a b n (if op = 3 then i else i + 1) (if op = 2 then j else j + 1) (addE out (op : Int) i j)) = some (a.length, b.length) ∧ stE (scrF a b n (if op = 3 then i else i + 1) (if op = 2 then j else j + 1) (addE out (op : Int) i j)) = stE out ++ (op : Int) :: gp a b n (if op = 3 then i else i + 1) (if op = 2 then j else j + 1) ∧ Conc (scrF a b n (if op = 3 then i else i + 1) (if op = 2 then j else j + 1) (addE out (op : Int) i j)) := by
        intro op he hs hn hi2 hj2
        obtain ⟨g1, g2⟩ := addE_ok out ho hs
        have e1 : sI (op : Int) i = if op = 3 then i else i + 1 := by unfold sI; split <;> split <;> omega
        have e2 : sJ (op : Int) j = if op = 2 then j else j + 1 := by unfold sJ; split <;> split <;> omega
        rw [e1, e2] at g1
        obtain ⟨r1, r2, r3⟩ := scrF_ok n _ _ (addE out (op : Int) i j) hi2 hj2 hn g1 (addE_conc out hc fun l' e q q2 => h32 l' e q q2.2 (by omega)) (fun l' e q q2 => by
          obtain ⟨l2, e2, q3, q4⟩ := addE_last out (op : Int) i j
          rw [q3] at q
          have q5 : e2 = e := by have := List.append_inj_right' q rfl; simpa using this
          subst q5
          have hop : op = 3 := by omega
          subst hop
          rcases hs with hs | hs | hs
          · omega
          · exact opAt_32 hi hs.2 he
          · omega)
        exact ⟨r1, by rw [r2, g2, List.append_assoc]; rfl, r3⟩
      rcases opAt_cases a b hi hj hlt with ⟨e, h1, h2⟩ | ⟨e, h1, h2, _⟩ | ⟨e, h1, h2, h3, h4, _⟩ <;> rw [e]
      · exact key 2 e (.inl ⟨rfl, h1⟩) (by simp; omega) (by simp; omega) (by simp; omega)
      · exact key 3 e (.inr (.inl ⟨rfl, h1⟩)) (by simp; omega) (by simp; omega) (by simp; omega)
      · exact key 1 e (.inr (.inr ⟨rfl, h1, h2, h3⟩)) (by simp; omega) (by simp; omega) (by simp; omega)
theorem script_ok (a b : List α) : edR a b (script a b) = some (a.length, b.length) ∧ stE (script a b) = gp a b (a.length + b.length) 0 0 ∧ Conc (script a b) := by
  have := scrF_ok (a := a) (b := b) (a.length + b.length) 0 0 [] (Nat.zero_le _) (Nat.zero_le _) (by omega) rfl (fun k x y h => by simp at h) (fun l' e q => by simp at q)
  simpa [script, stE] using this
theorem script_cost (a b : List α) : cst (stE (script a b)) = dist a b := by
  rw [(script_ok a b).2.1, (gp_pth a b _ 0 0 (Nat.zero_le _) (Nat.zero_le _) (by omega)).2]; rfl
theorem ends_pth {l : List Ed} (h : edR a b l = some (a.length, b.length)) : pth a b (stE l) 0 0 := by
  have := edR_pth l _ _ [] h ⟨rfl, rfl⟩
  simpa using this
theorem ends_cost {l : List Ed} (h : edR a b l = some (a.length, b.length)) : dist a b ≤ cst (stE l) := pth_cost a b _ 0 0 (ends_pth h)
theorem ends_first {l : List Ed} (h : edR a b l = some (a.length, b.length)) (hc : cst (stE l) = dist a b) : lexle (stE (script a b)) (stE l) = true := by
  rw [(script_ok a b).2.1]
  exact gp_first a b _ 0 0 _ (Nat.zero_le _) (Nat.zero_le _) (by omega) (ends_pth h) hc
theorem ends_sum {l : List Ed} (h : edR a b l = some (a.length, b.length)) : cst (stE l) + 2 * kep (stE l) = a.length + b.length := by
  have := pth_sum a b _ 0 0 (ends_pth h); omega

/-! ### what edits keep and insert -/
def piece (a b : List α) (e : Ed) : Option (List α) :=
  if e.op = 3 then (if 0 ≤ e.n ∧ 0 ≤ e.b ∧ e.b ≤ b.length ∧ e.n ≤ b.length - e.b then some ((b.drop e.b.toNat).take e.n.toNat) else none)
  else if e.op = 1 ∨ e.op = 2 then (if 0 ≤ e.n ∧ 0 ≤ e.a ∧ e.a ≤ a.length ∧ e.n ≤ a.length - e.a then (if e.op = 2 then some [] else some ((a.drop e.a.toNat).take e.n.toNat)) else none)
  else none
def apS (a b : List α) (o : Option (List α)) (e : Ed) : Option (List α) := match o with
  | none => none
  | some out => (piece a b e).map (out ++ ·)
def apR (a b : List α) (l : List Ed) : Option (List α) := l.foldl (apS a b) (some [])
theorem apS_none (l : List Ed) : l.foldl (apS a b) none = none := by
  induction l with
  | nil => rfl
  | cons e l ih => exact ih
theorem apR_app (l m : List Ed) : apR a b (l ++ m) = m.foldl (apS a b) (apR a b l) := by unfold apR; rw [List.foldl_append]
theorem apR_ok {out p : List α} (h : apR a b (l.take k) = some out) (he : l[k]? = some e) (hp : piece a b e = some p) : apR a b (l.take (k + 1)) = some (out ++ p) := by
  rw [take_succ' he, apR_app, h]
  simp only [List.foldl_cons, List.foldl_nil, apS, hp, Option.map_some]
theorem apR_bad {out : List α} (h : apR a b (l.take k) = some out) (he : l[k]? = some e) (hp : piece a b e = none) : apR a b l = none := by
  have h1 : apR a b (l.take (k + 1)) = none := by
    rw [take_succ' he, apR_app, h]
    simp only [List.foldl_cons, List.foldl_nil, apS, hp, Option.map_none]
  rw [← List.take_append_drop (k + 1) l, apR_app, h1, apS_none]
theorem seg_eq (i j n : Nat) (ha : i + n ≤ a.length) (hb : j + n ≤ b.length) (h : ∀ k, k < n → a[i + k]? = b[j + k]?) : (a.drop i).take n = (b.drop j).take n := by
  apply List.ext_getElem?
  intro k
  rw [List.getElem?_take, List.getElem?_take]
  split
  · rw [List.getElem?_drop, List.getElem?_drop]; exact h k (by assumption)
  · rfl
theorem take_seg (j n : Nat) (h : j + n ≤ b.length) : b.take j ++ (b.drop j).take n = b.take (j + n) := by
  rw [List.take_add]
theorem edR_apR : ∀ (l : List Ed) (i j : Nat), edR a b l = some (i, j) → apR a b l = some (b.take j) := fun l => by
  induction l using list_snoc with
  | h0 => intro i j h; cases h; simp [apR]
  | h1 l e ih =>
    intro i j h
    obtain ⟨i0, j0, h1, h2, h3⟩ := edR_snoc h
    cases h3
    obtain ⟨l1, l2⟩ := edR_le l _ _ h1
    rw [apR_app, ih _ _ h1]
    simp only [List.foldl_cons, List.foldl_nil, apS]
    have hn := h2.n
    have hN : (e.n.toNat : Int) = e.n := by omega
    have ha := h2.pa
    have hb := h2.pb
    rcases h2.op with ho | ho | ho
    · have r1 := h2.ra (by omega)
      have r2 := h2.rb (by omega)
      have hp : piece a b e = some ((a.drop i0).take e.n.toNat) := by
        unfold piece
        rw [if_neg (by omega), if_pos (.inl ho), if_pos (by omega), if_neg (by omega), ha]; rfl
      rw [hp, Option.map_some, seg_eq i0 j0 _ r1 r2 (h2.eq ho), take_seg _ _ r2]
      unfold eJ
      rw [if_neg (by omega)]
    · have r1 := h2.ra (by omega)
      have hp : piece a b e = some [] := by
        unfold piece
        rw [if_neg (by omega), if_pos (.inr ho), if_pos (by omega), if_pos ho]
      rw [hp, Option.map_some, List.append_nil]
      unfold eJ
      rw [if_pos ho]
    · have r2 := h2.rb (by omega)
      have hp : piece a b e = some ((b.drop j0).take e.n.toNat) := by
        unfold piece
        rw [if_pos ho, if_pos (by omega), hb]; rfl
      rw [hp, Option.map_some, take_seg _ _ r2]
      unfold eJ
      rw [if_neg (by omega)]
theorem ends_apR {l : List Ed} (h : edR a b l = some (a.length, b.length)) : apR a b l = some b := by
  rw [edR_apR l _ _ h, List.take_length]
end steps
end Go.Proofs.Ytejajmmacmcijaa
