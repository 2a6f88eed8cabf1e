/- Plain facts on the distance of two lists (the number of deleted and inserted lines of a shortest edit script). No program is named here. -/
namespace Go.Proofs.Ytejajmmacmcijaa
set_option linter.unusedVariables false
set_option linter.unusedSimpArgs false

section dist
variable {α : Type} [DecidableEq α]

def rowf (f : List α → Nat) (x : α) : List α → Nat
  | [] => f [] + 1
  | y :: b => if x = y then f b else 1 + min (f (y :: b)) (rowf f x b)
/-- the distance -/
def dist : List α → List α → Nat
  | [] => List.length
  | x :: a => rowf (dist a) x

@[simp] theorem dist_nil (b : List α) : dist [] b = b.length := rfl
@[simp] theorem dist_cons_nil (x : α) (a : List α) : dist (x :: a) [] = dist a [] + 1 := rfl
theorem dist_cons (x y : α) (a b : List α) : dist (x :: a) (y :: b) = if x = y then dist a b else 1 + min (dist a (y :: b)) (dist (x :: a) b) := rfl
@[simp] theorem dist_nil_right (a : List α) : dist a [] = a.length := by
  induction a with
  | nil => rfl
  | cons x a ih => simp [ih]

theorem dist_lip (n : Nat) : ∀ (a b : List α), a.length + b.length ≤ n →
    (∀ x, dist (x :: a) b ≤ dist a b + 1) ∧ (∀ x, dist a b ≤ dist (x :: a) b + 1) ∧ (∀ y, dist a (y :: b) ≤ dist a b + 1) ∧ (∀ y, dist a b ≤ dist a (y :: b) + 1) := by
  induction n with
  | zero =>
    intro a b h
    have ha : a = [] := List.eq_nil_of_length_eq_zero (by omega)
    have hb : b = [] := List.eq_nil_of_length_eq_zero (by omega)
    subst ha hb
    simp
  | succ n ih =>
    intro a b h
    refine ⟨fun x => ?_, fun x => ?_, fun y => ?_, fun y => ?_⟩
    · cases b with
      | nil => simp
      | cons y b =>
        have h4 := (ih a b (by simp at h; omega)).2.2.2 y
        rw [dist_cons]; split <;> omega
    · cases b with
      | nil => simp; omega
      | cons y b =>
        have h3 := (ih a b (by simp at h; omega)).2.2.1 y
        have h2 := (ih a b (by simp at h; omega)).2.1 x
        rw [dist_cons]; split <;> omega
    · cases a with
      | nil => simp
      | cons x a =>
        have h2 := (ih a b (by simp at h; omega)).2.1 x
        rw [dist_cons]; split <;> omega
    · cases a with
      | nil => simp; omega
      | cons x a =>
        have h1 := (ih a b (by simp at h; omega)).1 x
        have h4 := (ih a b (by simp at h; omega)).2.2.2 y
        rw [dist_cons]; split <;> omega

theorem dist_del (x : α) (a b : List α) : dist (x :: a) b ≤ dist a b + 1 := (dist_lip _ a b (Nat.le_refl _)).1 x
theorem dist_del' (x : α) (a b : List α) : dist a b ≤ dist (x :: a) b + 1 := (dist_lip _ a b (Nat.le_refl _)).2.1 x
theorem dist_ins (y : α) (a b : List α) : dist a (y :: b) ≤ dist a b + 1 := (dist_lip _ a b (Nat.le_refl _)).2.2.1 y
theorem dist_ins' (y : α) (a b : List α) : dist a b ≤ dist a (y :: b) + 1 := (dist_lip _ a b (Nat.le_refl _)).2.2.2 y

theorem dist_le (a b : List α) : dist a b ≤ a.length + b.length := by
  induction a with
  | nil => simp
  | cons x a ih => have := dist_del x a b; simp; omega
theorem len_le (a b : List α) : b.length ≤ dist a b + a.length ∧ a.length ≤ dist a b + b.length := by
  induction a generalizing b with
  | nil => simp
  | cons x a ih =>
    have h1 := ih b
    have h2 := dist_del' x a b
    refine ⟨by simp; omega, ?_⟩
    induction b with
    | nil => simp
    | cons y b ihb =>
      rw [dist_cons]
      have h3 := ih b
      have h4 := ih (y :: b)
      have h5 := ihb h3 (dist_del' x a b)
      split
      · simp; omega
      · simp at h4 h5 ⊢; omega

theorem dist_parity (n : Nat) : ∀ (a b : List α), a.length + b.length ≤ n → (a.length + b.length + dist a b) % 2 = 0 := by
  induction n with
  | zero =>
    intro a b h
    have ha : a = [] := List.eq_nil_of_length_eq_zero (by omega)
    have hb : b = [] := List.eq_nil_of_length_eq_zero (by omega)
    subst ha hb
    simp
  | succ n ih =>
    intro a b h
    cases a with
    | nil => simp; omega
    | cons x a =>
      cases b with
      | nil => simp; omega
      | cons y b =>
        rw [dist_cons]
        have h1 := ih a b (by simp at h; omega)
        have h2 := ih a (y :: b) (by simp at h ⊢; omega)
        have h3 := ih (x :: a) b (by simp at h ⊢; omega)
        simp at h2 h3 ⊢
        split
        · omega
        · rcases Nat.le_total (dist a (y :: b)) (dist (x :: a) b) with hh | hh
          · rw [Nat.min_eq_left hh]; omega
          · rw [Nat.min_eq_right hh]; omega

theorem dist_self (a : List α) : dist a a = 0 := by
  induction a with
  | nil => rfl
  | cons x a ih => rw [dist_cons, if_pos rfl, ih]
theorem eq_of_dist (a b : List α) (h : dist a b = 0) : a = b := by
  induction a generalizing b with
  | nil => exact (List.eq_nil_of_length_eq_zero (by simpa using h)).symm
  | cons x a ih =>
    cases b with
    | nil => simp at h
    | cons y b =>
      rw [dist_cons] at h
      split at h
      · rename_i e; rw [e, ih b h]
      · omega
theorem dist_comm (n : Nat) : ∀ (a b : List α), a.length + b.length ≤ n → dist a b = dist b a := by
  induction n with
  | zero =>
    intro a b h
    have ha : a = [] := List.eq_nil_of_length_eq_zero (by omega)
    have hb : b = [] := List.eq_nil_of_length_eq_zero (by omega)
    subst ha hb
    rfl
  | succ n ih =>
    intro a b h
    cases a with
    | nil => simp
    | cons x a =>
      cases b with
      | nil => simp
      | cons y b =>
        rw [dist_cons, dist_cons, ih a b (by simp at h; omega), ih a (y :: b) (by simp at h ⊢; omega), ih (x :: a) b (by simp at h ⊢; omega)]
        by_cases hxy : x = y
        · subst hxy; simp
        · rw [if_neg hxy, if_neg (Ne.symm hxy), Nat.min_comm]
theorem dist_symm (a b : List α) : dist a b = dist b a := dist_comm _ a b (Nat.le_refl _)

theorem dist_tri (n : Nat) : ∀ (a b c : List α), a.length + b.length + c.length ≤ n → dist a c ≤ dist a b + dist b c := by
  induction n with
  | zero =>
    intro a b c h
    have ha : a = [] := List.eq_nil_of_length_eq_zero (by omega)
    have hb : b = [] := List.eq_nil_of_length_eq_zero (by omega)
    have hc : c = [] := List.eq_nil_of_length_eq_zero (by omega)
    subst ha hb hc
    simp
  | succ n ih =>
    intro a b c h
    cases b with
    | nil => have := dist_le a c; simp; omega
    | cons y b =>
      cases a with
      | nil => have := len_le (y :: b) c; simp at this ⊢; omega
      | cons x a =>
        cases c with
        | nil => have := (len_le (x :: a) (y :: b)).2; simp at this ⊢; omega
        | cons z c =>
          simp at h
          have i1 := ih a b c (by omega)
          have i2 := ih a b (z :: c) (by simp; omega)
          have i3 := ih (x :: a) (y :: b) c (by simp; omega)
          have i4 := ih a (y :: b) (z :: c) (by simp; omega)
          have i5 := ih (x :: a) b c (by simp; omega)
          have i6 := ih (x :: a) b (z :: c) (by simp; omega)
          have l1 := dist_del x a (z :: c)
          have l2 := dist_ins z (x :: a) c
          have e1 := dist_cons x y a b
          have e2 := dist_cons y z b c
          have e3 := dist_cons x z a c
          by_cases hxy : x = y
          · by_cases hyz : y = z
            · rw [if_pos hxy] at e1; rw [if_pos hyz] at e2; rw [if_pos (hxy.trans hyz)] at e3
              omega
            · rw [if_pos hxy] at e1; rw [if_neg hyz] at e2
              omega
          · by_cases hyz : y = z
            · rw [if_neg hxy] at e1; rw [if_pos hyz] at e2
              omega
            · rw [if_neg hxy] at e1; rw [if_neg hyz] at e2
              omega

theorem dist_prefix (w a b : List α) : dist (w ++ a) (w ++ b) = dist a b := by
  induction w with
  | nil => rfl
  | cons x w ih => rw [List.cons_append, List.cons_append, dist_cons, if_pos rfl, ih]
theorem dist_snoc (x : α) (n : Nat) : ∀ (a b : List α), a.length + b.length ≤ n → dist (a ++ [x]) (b ++ [x]) = dist a b := by
  induction n with
  | zero =>
    intro a b h
    have ha : a = [] := List.eq_nil_of_length_eq_zero (by omega)
    have hb : b = [] := List.eq_nil_of_length_eq_zero (by omega)
    subst ha hb
    exact dist_self _
  | succ n ih =>
    intro a b h
    cases a with
    | nil =>
      cases b with
      | nil => exact dist_self _
      | cons y b =>
        have h1 := ih [] b (by simp at h ⊢; omega)
        simp only [List.nil_append, List.cons_append, dist_nil] at h1 ⊢
        rw [dist_cons, h1]
        split <;> simp; omega
    | cons z a =>
      cases b with
      | nil =>
        have h1 := ih a [] (by simp at h ⊢; omega)
        simp only [List.nil_append, List.cons_append, dist_nil_right] at h1 ⊢
        rw [dist_cons, h1]
        split <;> simp; omega
      | cons y b =>
        have h1 := ih a b (by simp at h; omega)
        have h2 := ih a (y :: b) (by simp at h ⊢; omega)
        have h3 := ih (z :: a) b (by simp at h ⊢; omega)
        simp only [List.cons_append] at h2 h3 ⊢
        rw [dist_cons, dist_cons, h1, h2, h3]
theorem dist_suffix (w a b : List α) : dist (a ++ w) (b ++ w) = dist a b := by
  induction w generalizing a b with
  | nil => simp
  | cons x w ih =>
    have h1 := ih (a ++ [x]) (b ++ [x])
    rw [dist_snoc x _ a b (Nat.le_refl _)] at h1
    simpa using h1
end dist

/-! ### by places -/
section places
variable {α : Type} [DecidableEq α]
/-- the least cost of the rest of a path from the place (i, j) -/
def dd (a b : List α) (i j : Nat) : Nat := dist (a.drop i) (b.drop j)

theorem dd_end (a b : List α) {i : Nat} (h : a.length ≤ i) (j : Nat) : dd a b i j = b.length - j := by
  rw [dd, List.drop_eq_nil_of_le h]; simp
theorem dd_right (a b : List α) (i : Nat) {j : Nat} (h : b.length ≤ j) : dd a b i j = a.length - i := by
  rw [dd, List.drop_eq_nil_of_le h]; simp
theorem dd_step (a b : List α) {i j : Nat} (hi : i < a.length) (hj : j < b.length) :
    dd a b i j = if a[i] = b[j] then dd a b (i + 1) (j + 1) else 1 + min (dd a b (i + 1) j) (dd a b i (j + 1)) := by
  unfold dd
  rw [List.drop_eq_getElem_cons hi, List.drop_eq_getElem_cons hj, dist_cons]
theorem dd_del (a b : List α) {i : Nat} (hi : i < a.length) (j : Nat) : dd a b i j ≤ dd a b (i + 1) j + 1 ∧ dd a b (i + 1) j ≤ dd a b i j + 1 := by
  unfold dd
  rw [List.drop_eq_getElem_cons hi]
  exact ⟨dist_del _ _ _, dist_del' _ _ _⟩
theorem dd_ins (a b : List α) (i : Nat) {j : Nat} (hj : j < b.length) : dd a b i j ≤ dd a b i (j + 1) + 1 ∧ dd a b i (j + 1) ≤ dd a b i j + 1 := by
  unfold dd
  rw [List.drop_eq_getElem_cons hj]
  exact ⟨dist_ins _ _ _, dist_ins' _ _ _⟩
theorem dd_le (a b : List α) (i j : Nat) : dd a b i j ≤ (a.length - i) + (b.length - j) := by
  have := dist_le (a.drop i) (b.drop j)
  simpa [dd] using this

/-- the least of the four ways of the reference -/
def best (a b : List α) (i j : Nat) : Nat :=
  let b0 := (a.length - i) + (b.length - j)
  let b1 := if i < a.length ∧ dd a b (i + 1) j + 1 < b0 then dd a b (i + 1) j + 1 else b0
  let b2 := if j < b.length ∧ dd a b i (j + 1) + 1 < b1 then dd a b i (j + 1) + 1 else b1
  if i < a.length ∧ j < b.length ∧ a[i]? = b[j]? ∧ dd a b (i + 1) (j + 1) < b2 then dd a b (i + 1) (j + 1) else b2
theorem best_eq (a b : List α) {i j : Nat} (hi : i ≤ a.length) (hj : j ≤ b.length) : best a b i j = dd a b i j := by
  unfold best
  rcases Nat.lt_or_ge i a.length with h1 | h1
  · rcases Nat.lt_or_ge j b.length with h2 | h2
    · have e := dd_step a b h1 h2
      have d1 := dd_del a b h1 j
      have d2 := dd_ins a b i h2
      have l0 := dd_le a b i j
      have l1 := dd_le a b (i + 1) j
      have l2 := dd_le a b i (j + 1)
      simp only [h1, h2, true_and, List.getElem?_eq_getElem, Option.some.injEq]
      by_cases hab : a[i] = b[j]
      · rw [if_pos hab] at e
        simp only [hab, true_and]
        repeat' split
        all_goals omega
      · rw [if_neg hab] at e
        simp only [hab, false_and, if_false]
        repeat' split
        all_goals omega
    · have e0 : j = b.length := by omega
      subst e0
      have r1 := dd_right a b i (Nat.le_refl b.length)
      have r2 := dd_right a b (i + 1) (Nat.le_refl b.length)
      simp only [h1, true_and, Nat.lt_irrefl, false_and, and_false, if_false]
      split <;> omega
  · have e0 : i = a.length := by omega
    subst e0
    have r1 := dd_end a b (Nat.le_refl a.length) j
    have r2 := dd_end a b (Nat.le_refl a.length) (j + 1)
    simp only [Nat.lt_irrefl, false_and, if_false]
    split <;> omega

/-- the operation of the first shortest script at a place: 1 keep, 2 delete, 3 insert -/
def opAt (a b : List α) (i j : Nat) : Nat :=
  if i < a.length ∧ dd a b (i + 1) j + 1 = dd a b i j then 2 else if j < b.length ∧ dd a b i (j + 1) + 1 = dd a b i j then 3 else 1
theorem opAt_cases (a b : List α) {i j : Nat} (hi : i ≤ a.length) (hj : j ≤ b.length) (h : i < a.length ∨ j < b.length) :
    (opAt a b i j = 2 ∧ i < a.length ∧ dd a b (i + 1) j + 1 = dd a b i j) ∨
    (opAt a b i j = 3 ∧ j < b.length ∧ dd a b i (j + 1) + 1 = dd a b i j ∧ ¬ (i < a.length ∧ dd a b (i + 1) j + 1 = dd a b i j)) ∨
    (opAt a b i j = 1 ∧ i < a.length ∧ j < b.length ∧ a[i]? = b[j]? ∧ dd a b (i + 1) (j + 1) = dd a b i j ∧ ¬ (i < a.length ∧ dd a b (i + 1) j + 1 = dd a b i j) ∧ ¬ (j < b.length ∧ dd a b i (j + 1) + 1 = dd a b i j)) := by
  unfold opAt
  by_cases h2 : i < a.length ∧ dd a b (i + 1) j + 1 = dd a b i j
  · left; rw [if_pos h2]; exact ⟨rfl, h2.1, h2.2⟩
  · right
    rw [if_neg h2]
    by_cases h3 : j < b.length ∧ dd a b i (j + 1) + 1 = dd a b i j
    · left; rw [if_pos h3]; exact ⟨rfl, h3.1, h3.2, h2⟩
    · right
      rw [if_neg h3]
      have hi' : i < a.length := by
        rcases Nat.lt_or_ge i a.length with q | q
        · exact q
        · exfalso
          have e0 : i = a.length := by omega
          have hj' : j < b.length := by omega
          have r1 := dd_end a b q j
          have r2 := dd_end a b q (j + 1)
          exact h3 ⟨hj', by omega⟩
      have hj' : j < b.length := by
        rcases Nat.lt_or_ge j b.length with q | q
        · exact q
        · exfalso
          have r1 := dd_right a b i q
          have r2 := dd_right a b (i + 1) q
          exact h2 ⟨hi', by omega⟩
      have e := dd_step a b hi' hj'
      by_cases hab : a[i] = b[j]
      · rw [if_pos hab] at e
        exact ⟨rfl, hi', hj', by rw [List.getElem?_eq_getElem hi', List.getElem?_eq_getElem hj', hab], e.symm, h2, h3⟩
      · exfalso
        rw [if_neg hab] at e
        have n2 : dd a b (i + 1) j + 1 ≠ dd a b i j := fun q => h2 ⟨hi', q⟩
        have n3 : dd a b i (j + 1) + 1 ≠ dd a b i j := fun q => h3 ⟨hj', q⟩
        omega
end places

/-- an edit: the operation (1 keep, 2 delete, 3 insert), the places, the number of lines -/
structure Ed where
  op : Int
  a : Int
  b : Int
  n : Int
deriving DecidableEq

/-- an edit script with another step -/
def addE (l : List Ed) (op i j : Int) : List Ed :=
  match l.getLast? with
  | some e => if e.op = op then l.dropLast ++ [{ e with n := e.n + 1 }] else l ++ [⟨op, i, j, 1⟩]
  | none => [⟨op, i, j, 1⟩]

section script
variable {α : Type} [DecidableEq α]
def scrF (a b : List α) : Nat → Nat → Nat → List Ed → List Ed
  | 0, _, _, out => out
  | n + 1, i, j, out =>
    if a.length ≤ i ∧ b.length ≤ j then out
    else scrF a b n (if opAt a b i j = 3 then i else i + 1) (if opAt a b i j = 2 then j else j + 1) (addE out (opAt a b i j) i j)
def script (a b : List α) : List Ed := scrF a b (a.length + b.length) 0 0 []
theorem scrF_end (a b : List α) (n : Nat) {i j : Nat} (hi : a.length ≤ i) (hj : b.length ≤ j) (out : List Ed) : scrF a b n i j out = out := by
  cases n with
  | zero => rfl
  | succ n => rw [scrF, if_pos ⟨hi, hj⟩]
/-- the script from here on does not hang on how much fuel is left, if it is enough -/
theorem scrF_fuel (a b : List α) : ∀ (n m i j : Nat) (out : List Ed), i ≤ a.length → j ≤ b.length → (a.length - i) + (b.length - j) ≤ n → n ≤ m → scrF a b n i j out = scrF a b m i j out := by
  intro n
  induction n with
  | zero =>
    intro m i j out hi hj h _
    rw [scrF_end a b m (by omega) (by omega)]; rfl
  | succ n ih =>
    intro m i j out hi hj h hm
    obtain ⟨m, rfl⟩ : ∃ k, m = k + 1 := ⟨m - 1, by omega⟩
    simp only [scrF]
    split
    · rfl
    · rename_i hne
      have hlt : i < a.length ∨ j < b.length := by omega
      rcases opAt_cases a b hi hj hlt with ⟨e, h1, _⟩ | ⟨e, h1, _⟩ | ⟨e, h1, h2, _⟩ <;> rw [e] <;> simp only [Nat.reduceEqDiff, if_true, if_false]
      · exact ih m (i + 1) j _ (by omega) hj (by omega) (by omega)
      · exact ih m i (j + 1) _ hi (by omega) (by omega) (by omega)
      · exact ih m (i + 1) (j + 1) _ (by omega) (by omega) (by omega) (by omega)
end script
end Go.Proofs.Ytejajmmacmcijaa
