/- Comm: what is true of merged lists (plain). -/
import Derived.Test.YtbdmioekohmcnabCo2
namespace Go.Proofs.Ytbdmioekohmcnab
set_option linter.unusedVariables false
set_option linter.unusedSimpArgs false
set_option maxRecDepth 100000
/-- an order of strings -/
structure COk (C : Bs → Bs → Int) : Prop where
  z : ∀ x y, C x y = 0 ↔ x = y
  rng : ∀ x y, -1 ≤ C x y ∧ C x y ≤ 1
  anti : ∀ x y, C y x = - C x y
  trans : ∀ x y z, C x y ≤ 0 → C y z ≤ 0 → C x z ≤ 0
theorem mrg_ind {C : Bs → Bs → Int} {P : List Bs → List Bs → List CLn → Prop} (h1 : ∀ b, P [] b (b.map (CLn.mk 2))) (h2 : ∀ a, P a [] (a.map (CLn.mk 1)))
    (h3 : ∀ x a y b, C x y < 0 → P a (y :: b) (mrg C a (y :: b)) → P (x :: a) (y :: b) (⟨1, x⟩ :: mrg C a (y :: b)))
    (h4 : ∀ x a y b, 0 < C x y → P (x :: a) b (mrg C (x :: a) b) → P (x :: a) (y :: b) (⟨2, y⟩ :: mrg C (x :: a) b))
    (h5 : ∀ x a y b, C x y = 0 → P a b (mrg C a b) → P (x :: a) (y :: b) (⟨3, x⟩ :: mrg C a b)) : ∀ (n : Nat) (a b : List Bs), a.length + b.length ≤ n → P a b (mrg C a b)
  | _, [], b, _ => by rw [mrg]; exact h1 b
  | _, x :: a, [], _ => by rw [mrg_nil]; exact h2 (x :: a)
  | 0, x :: a, y :: b, h => by simp at h
  | n + 1, x :: a, y :: b, h => by
    simp only [List.length_cons] at h
    rw [mrg]
    split
    · rename_i h0
      exact h3 x a y b h0 (mrg_ind h1 h2 h3 h4 h5 n a (y :: b) (by simp; omega))
    · split
      · rename_i h0
        exact h4 x a y b h0 (mrg_ind h1 h2 h3 h4 h5 n (x :: a) b (by simp; omega))
      · exact h5 x a y b (by omega) (mrg_ind h1 h2 h3 h4 h5 n a b (by omega))
/-- the lines of a column and of the third one -/
def colm (c : Int) (l : List CLn) : List Bs := (l.filter fun x => decide (x.col = c) || decide (x.col = 3)).map CLn.text
theorem colm_cons (c : Int) (x : CLn) (l : List CLn) : colm c (x :: l) = if x.col = c ∨ x.col = 3 then x.text :: colm c l else colm c l := by
  unfold colm
  rw [List.filter_cons]
  by_cases h : x.col = c ∨ x.col = 3
  · rw [if_pos h, if_pos (by simpa using h)]; rfl
  · rw [if_neg h, if_neg (by simpa using h)]
theorem colm_map1 (l : List Bs) : colm 1 (l.map (CLn.mk 1)) = l ∧ colm 2 (l.map (CLn.mk 2)) = l ∧ colm 1 (l.map (CLn.mk 2)) = [] ∧ colm 2 (l.map (CLn.mk 1)) = [] := by
  induction l with
  | nil => simp [colm]
  | cons x l ih => simp only [List.map_cons, colm_cons]; simp [ih.1, ih.2.1, ih.2.2.1, ih.2.2.2]
theorem colm_succ {c : Int} {l : List CLn} {k : Nat} {x : CLn} (h : l[k]? = some x) : colm c (l.take (k + 1)) = colm c (l.take k) ++ if x.col = c ∨ x.col = 3 then [x.text] else [] := by
  obtain ⟨hk, rfl⟩ := get_of h
  rw [List.take_succ_eq_append_getElem hk, colm, List.filter_append, List.map_append]
  congr 1
  rw [List.filter_cons]
  split
  · rename_i h2; rw [if_pos (by simpa using h2)]; rfl
  · rename_i h2; rw [if_neg (by simpa using h2)]; rfl
theorem colm_len (c : Int) (l : List CLn) : (colm c l).length ≤ l.length := by
  unfold colm; rw [List.length_map]; exact List.length_filter_le _ _
def swp (c : CLn) : CLn := ⟨if c.col = 3 then 3 else 3 - c.col, c.text⟩
section
variable {C : Bs → Bs → Int} (hC : COk C)
include hC
omit hC in
theorem mrg_col1 (a b : List Bs) : colm 1 (mrg C a b) = a := by
  refine mrg_ind (C := C) (P := fun a b l => colm 1 l = a) ?_ ?_ ?_ ?_ ?_ (a.length + b.length) a b (Nat.le_refl _)
  · exact fun b => (colm_map1 b).2.2.1
  · exact fun a => (colm_map1 a).1
  · intro x a y b h ih; rw [colm_cons, if_pos (.inl rfl), ih]
  · intro x a y b h ih; rw [colm_cons, if_neg (by simp), ih]
  · intro x a y b h ih; rw [colm_cons, if_pos (.inr rfl), ih]
theorem mrg_col2 (a b : List Bs) : colm 2 (mrg C a b) = b := by
  refine mrg_ind (C := C) (P := fun a b l => colm 2 l = b) ?_ ?_ ?_ ?_ ?_ (a.length + b.length) a b (Nat.le_refl _)
  · exact fun b => (colm_map1 b).2.1
  · exact fun a => (colm_map1 a).2.2.2
  · intro x a y b h ih; rw [colm_cons, if_neg (by simp), ih]
  · intro x a y b h ih; rw [colm_cons, if_pos (.inl rfl), ih]
  · intro x a y b h ih; rw [colm_cons, if_pos (.inr rfl), ih, (hC.z x y).1 h]
theorem mrg_swap (a b : List Bs) : mrg C b a = (mrg C a b).map swp := by
  refine mrg_ind (C := C) (P := fun a b l => mrg C b a = l.map swp) ?_ ?_ ?_ ?_ ?_ (a.length + b.length) a b (Nat.le_refl _)
  · intro b; rw [mrg_nil, List.map_map]; rfl
  · intro a; rw [mrg, List.map_map]; rfl
  · intro x a y b h ih
    have := hC.anti x y
    rw [mrg, if_neg (by omega), if_pos (by omega), ih]; rfl
  · intro x a y b h ih
    have := hC.anti x y
    rw [mrg, if_pos (by omega), ih]; rfl
  · intro x a y b h ih
    have := hC.anti x y
    rw [mrg, if_neg (by omega), if_neg (by omega), ih, (hC.z x y).1 h]; rfl
theorem mrg_cols (a b : List Bs) : ∀ c ∈ mrg C a b, (c.col = 1 ∧ c.text ∈ a) ∨ (c.col = 2 ∧ c.text ∈ b) ∨ (c.col = 3 ∧ c.text ∈ a ∧ c.text ∈ b) := by
  refine mrg_ind (C := C) (P := fun a b l => ∀ c ∈ l, (c.col = 1 ∧ c.text ∈ a) ∨ (c.col = 2 ∧ c.text ∈ b) ∨ (c.col = 3 ∧ c.text ∈ a ∧ c.text ∈ b)) ?_ ?_ ?_ ?_ ?_ (a.length + b.length) a b (Nat.le_refl _)
  · intro b c hc
    obtain ⟨x, hx, rfl⟩ := List.mem_map.1 hc
    exact .inr (.inl ⟨rfl, hx⟩)
  · intro a c hc
    obtain ⟨x, hx, rfl⟩ := List.mem_map.1 hc
    exact .inl ⟨rfl, hx⟩
  · intro x a y b h ih c hc
    rcases List.mem_cons.1 hc with rfl | hc
    · exact .inl ⟨rfl, List.mem_cons_self⟩
    · rcases ih c hc with h | h | h
      · exact .inl ⟨h.1, List.mem_cons_of_mem _ h.2⟩
      · exact .inr (.inl h)
      · exact .inr (.inr ⟨h.1, List.mem_cons_of_mem _ h.2.1, h.2.2⟩)
  · intro x a y b h ih c hc
    rcases List.mem_cons.1 hc with rfl | hc
    · exact .inr (.inl ⟨rfl, List.mem_cons_self⟩)
    · rcases ih c hc with h | h | h
      · exact .inl h
      · exact .inr (.inl ⟨h.1, List.mem_cons_of_mem _ h.2⟩)
      · exact .inr (.inr ⟨h.1, h.2.1, List.mem_cons_of_mem _ h.2.2⟩)
  · intro x a y b h ih c hc
    rcases List.mem_cons.1 hc with rfl | hc
    · exact .inr (.inr ⟨rfl, List.mem_cons_self, by rw [(hC.z x y).1 h]; exact List.mem_cons_self⟩)
    · rcases ih c hc with h | h | h
      · exact .inl ⟨h.1, List.mem_cons_of_mem _ h.2⟩
      · exact .inr (.inl ⟨h.1, List.mem_cons_of_mem _ h.2⟩)
      · exact .inr (.inr ⟨h.1, List.mem_cons_of_mem _ h.2.1, List.mem_cons_of_mem _ h.2.2⟩)
theorem mrg_mem {a b : List Bs} {c : CLn} (h : c ∈ mrg C a b) : c.text ∈ a ∨ c.text ∈ b := by
  rcases mrg_cols hC a b c h with h | h | h
  · exact .inl h.2
  · exact .inr h.2
  · exact .inl h.2.1
theorem mrg_self (a : List Bs) : mrg C a a = a.map (CLn.mk 3) := by
  induction a with
  | nil => rw [mrg]; rfl
  | cons x a ih =>
    have := (hC.z x x).2 rfl
    rw [mrg, if_neg (by omega), if_neg (by omega), ih]; rfl
/-- sorted -/
def Srt (C : Bs → Bs → Int) (a : List Bs) : Prop := a.Pairwise fun x y => C x y ≤ 0
omit hC in
theorem srt_mem {x y : Bs} {a : List Bs} (h : Srt C (x :: a)) (hy : y ∈ a) : C x y ≤ 0 := (List.pairwise_cons.1 h).1 y hy
theorem srt_le {x y : Bs} {a : List Bs} (h : Srt C (x :: a)) (hy : y ∈ x :: a) : C x y ≤ 0 := by
  rcases List.mem_cons.1 hy with rfl | hy
  · have := (hC.z y y).2 rfl; omega
  · exact srt_mem h hy
theorem lt_le {x y z : Bs} (h : C x y < 0) (h2 : C y z ≤ 0) : C x z < 0 := by
  have h3 := hC.trans x y z (by omega) h2
  by_cases e : C x z = 0
  · obtain rfl := (hC.z x z).1 e
    have := hC.anti x y
    omega
  · omega
theorem srt_of (a : List Bs) (h : uns C a = -1) : Srt C a := by
  have hadj : ∀ j x y, a[j]? = some x → a[j + 1]? = some y → C x y ≤ 0 := fun j x y hx hy => by
    unfold uns at h
    split at h
    · omega
    · rename_i e
      have hlt := (get_of hy).1
      have := List.find?_eq_none.1 e j (List.mem_range.2 (by omega))
      unfold unsB at this
      rw [getD_of hx, getD_of hy] at this
      simpa using this
  clear h
  induction a with
  | nil => exact List.Pairwise.nil
  | cons x a ih =>
    have hs := ih fun j y z hy hz => hadj (j + 1) y z (by simpa using hy) (by simpa using hz)
    refine List.pairwise_cons.2 ⟨fun y hy => ?_, hs⟩
    cases a with
    | nil => cases hy
    | cons z a => exact hC.trans x z y (hadj 0 x z rfl rfl) (srt_le hC hs hy)
theorem mrg_srt (a b : List Bs) : Srt C a → Srt C b → (mrg C a b).Pairwise fun c d => C c.text d.text ≤ 0 := by
  refine mrg_ind (C := C) (P := fun a b l => Srt C a → Srt C b → l.Pairwise fun c d => C c.text d.text ≤ 0) ?_ ?_ ?_ ?_ ?_ (a.length + b.length) a b (Nat.le_refl _)
  · intro b _ h; exact List.pairwise_map.2 h
  · intro a h _; exact List.pairwise_map.2 h
  · intro x a y b h ih ha hb
    refine List.pairwise_cons.2 ⟨fun c hc => ?_, ih (List.pairwise_cons.1 ha).2 hb⟩
    rcases mrg_mem hC hc with h1 | h1
    · exact srt_mem ha h1
    · have := lt_le hC h (srt_le hC hb h1); exact Int.le_of_lt this
  · intro x a y b h ih ha hb
    refine List.pairwise_cons.2 ⟨fun c hc => ?_, ih ha (List.pairwise_cons.1 hb).2⟩
    have hyx : C y x < 0 := by have := hC.anti x y; omega
    rcases mrg_mem hC hc with h1 | h1
    · have := lt_le hC hyx (srt_le hC ha h1); exact Int.le_of_lt this
    · exact srt_mem hb h1
  · intro x a y b h ih ha hb
    obtain rfl := (hC.z x y).1 h
    refine List.pairwise_cons.2 ⟨fun c hc => ?_, ih (List.pairwise_cons.1 ha).2 (List.pairwise_cons.1 hb).2⟩
    rcases mrg_mem hC hc with h1 | h1
    · exact srt_mem ha h1
    · exact srt_mem hb h1
theorem mrg_once (a b : List Bs) : Srt C a → Srt C b → ∀ t, ¬ ((⟨1, t⟩ : CLn) ∈ mrg C a b ∧ (⟨2, t⟩ : CLn) ∈ mrg C a b) := by
  refine mrg_ind (C := C) (P := fun a b l => Srt C a → Srt C b → ∀ t, ¬ ((⟨1, t⟩ : CLn) ∈ l ∧ (⟨2, t⟩ : CLn) ∈ l)) ?_ ?_ ?_ ?_ ?_ (a.length + b.length) a b (Nat.le_refl _)
  · intro b _ _ t ⟨h, _⟩
    obtain ⟨x, _, e⟩ := List.mem_map.1 h
    cases e
  · intro a _ _ t ⟨_, h⟩
    obtain ⟨x, _, e⟩ := List.mem_map.1 h
    cases e
  · intro x a y b h ih ha hb t ⟨h1, h2⟩
    rcases List.mem_cons.1 h2 with e | h2
    · cases e
    · rcases List.mem_cons.1 h1 with e | h1
      · cases e
        rcases mrg_cols hC a (y :: b) _ h2 with h3 | h3 | h3
        · cases h3.1
        · have h4 : C x x < 0 := lt_le hC h (srt_le hC hb h3.2)
          have := (hC.z x x).2 rfl
          omega
        · cases h3.1
      · exact ih (List.pairwise_cons.1 ha).2 hb t ⟨h1, h2⟩
  · intro x a y b h ih ha hb t ⟨h1, h2⟩
    rcases List.mem_cons.1 h1 with e | h1
    · cases e
    · rcases List.mem_cons.1 h2 with e | h2
      · cases e
        rcases mrg_cols hC (x :: a) b _ h1 with h3 | h3 | h3
        · have h4 : C x y ≤ 0 := srt_le hC ha h3.2
          omega
        · cases h3.1
        · cases h3.1
      · exact ih ha (List.pairwise_cons.1 hb).2 t ⟨h1, h2⟩
  · intro x a y b h ih ha hb t ⟨h1, h2⟩
    rcases List.mem_cons.1 h1 with e | h1
    · cases e
    · rcases List.mem_cons.1 h2 with e | h2
      · cases e
      · exact ih (List.pairwise_cons.1 ha).2 (List.pairwise_cons.1 hb).2 t ⟨h1, h2⟩
omit hC in
theorem uns_sign (a : List Bs) (h : uns C a < 0) : uns C a = -1 := by
  unfold uns at h ⊢
  split
  · rename_i e; rw [e] at h; simp only at h; omega
  · rfl
end
end Go.Proofs.Ytbdmioekohmcnab
