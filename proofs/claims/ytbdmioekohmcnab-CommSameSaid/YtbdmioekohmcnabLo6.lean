/- Locales: the collating elements of a string. -/
import Derived.Test.YtbdmioekohmcnabLo5
namespace Go.Proofs.Ytbdmioekohmcnab
set_option linter.unusedVariables false
set_option linter.unusedSimpArgs false
set_option maxRecDepth 100000
/-- the weight of an element -/
def lk : List El → Bs → Option Int
  | [], _ => none
  | e :: r, t => if e.text = t then some e.weight else lk r t
/-- the place of an element -/
def ix : List El → Bs → Option Nat
  | [], _ => none
  | e :: r, t => if e.text = t then some 0 else (ix r t).map (· + 1)
theorem lk_append (A B : List El) (t : Bs) : lk (A ++ B) t = (lk A t).or (lk B t) := by
  induction A with
  | nil => rfl
  | cons e r ih => simp only [List.cons_append, lk, ih]; split <;> rfl
theorem lk_none {A : List El} {t : Bs} : lk A t = none ↔ t ∉ A.map El.text := by
  induction A with
  | nil => simp [lk]
  | cons e r ih =>
    simp only [lk, List.map_cons, List.mem_cons, not_or]
    split
    · rename_i h; simp [h]
    · rename_i h; rw [ih]; constructor
      · intro h'; exact ⟨fun e => h e.symm, h'⟩
      · exact fun h' => h'.2
theorem lk_step {E : List El} {k : Nat} {e : El} (h : E[k]? = some e) (hd : e.text ∉ (E.take k).map El.text) (t : Bs) : lk (E.take (k + 1)) t = if t = e.text then some e.weight else lk (E.take k) t := by
  obtain ⟨hk, rfl⟩ := get_of h
  rw [List.take_succ_eq_append_getElem hk, lk_append]
  by_cases ht : t = E[k].text
  · subst ht; rw [lk_none.2 hd]; simp [lk]
  · rw [if_neg ht]; simp only [lk, if_neg (fun e : E[k].text = t => ht e.symm)]; cases lk (E.take k) t <;> rfl
theorem ix_some {E : List El} {t : Bs} {k : Nat} (h : ix E t = some k) : ∃ e, E[k]? = some e ∧ e.text = t ∧ lk E t = some e.weight := by
  induction E generalizing k with
  | nil => simp [ix] at h
  | cons e r ih =>
    simp only [ix] at h
    by_cases ht : e.text = t
    · rw [if_pos ht] at h; injection h with h; subst h; exact ⟨e, rfl, ht, by simp [lk, ht]⟩
    · rw [if_neg ht] at h
      cases hx : ix r t with
      | none => rw [hx] at h; simp at h
      | some j =>
        rw [hx] at h; simp at h; subst h
        obtain ⟨e', h1, h2, h3⟩ := ih hx
        exact ⟨e', by simpa using h1, h2, by simp [lk, ht, h3]⟩
theorem ix_none {E : List El} {t : Bs} : ix E t = none ↔ lk E t = none := by
  induction E with
  | nil => simp [ix, lk]
  | cons e r ih => simp only [ix, lk]; split <;> simp [ih]
theorem ix_of {E : List El} {t : Bs} {k : Nat} {e : El} (h : E[k]? = some e) (ht : e.text = t) (hn : ∀ x ∈ E.take k, x.text ≠ t) : ix E t = some k := by
  induction E generalizing k with
  | nil => simp at h
  | cons x r ih =>
    cases k with
    | zero => simp at h; subst h; simp [ix, ht]
    | succ k =>
      have h1 : x.text ≠ t := hn x (by simp)
      have := ih (k := k) (by simpa using h) (fun y hy => hn y (by simp [hy]))
      simp [ix, h1, this]
theorem ix_no {E : List El} {t : Bs} (hn : ∀ x ∈ E, x.text ≠ t) : ix E t = none := by
  rw [ix_none, lk_none]; intro h
  obtain ⟨x, hx, rfl⟩ := List.mem_map.1 h
  exact hn x hx rfl
/-- what the check of elements says -/
theorem chkEl_ok {seen : List Bs} {l : List El} (h : chkEl seen l = 0) {k : Nat} {e : El} (hk : l[k]? = some e) : e.text.length = 2 ∧ 0 ≤ e.weight ∧ e.weight ≤ 65535 ∧ e.text ∉ seen ++ (l.take k).map El.text := by
  induction l generalizing seen k with
  | nil => simp at hk
  | cons x r ih =>
    simp only [chkEl] at h
    by_cases h1 : x.text.length = 2 ∧ 0 ≤ x.weight ∧ x.weight ≤ 65535
    · rw [if_pos h1] at h
      by_cases h2 : x.text ∈ seen
      · rw [if_pos h2] at h; omega
      · rw [if_neg h2] at h
        cases k with
        | zero => simp at hk; subst hk; exact ⟨h1.1, h1.2.1, h1.2.2, by simpa using h2⟩
        | succ k =>
          have := ih h (k := k) (by simpa using hk)
          simpa using this
    · rw [if_neg h1] at h; omega
theorem Good.els {l : Loc} (h : Good l) : l.elements.length ≤ 64 ∧ chkEl [] l.elements = 0 := by
  have := h.el; unfold errEl at this
  by_cases h1 : l.elements.length ≤ 64
  · rw [if_pos h1] at this; exact ⟨h1, this⟩
  · rw [if_neg h1] at this; omega
theorem Good.elt {l : Loc} (h : Good l) {k : Nat} {e : El} (hk : l.elements[k]? = some e) : e.text.length = 2 ∧ 0 ≤ e.weight ∧ e.weight ≤ 65535 ∧ e.text ∉ (l.elements.take k).map El.text := by
  simpa using chkEl_ok h.els.2 hk
/-- the pieces of a string: one byte, or an element with its weight -/
def pieces (E : List El) : Bs → List (Bs × Option Int)
  | [] => []
  | [c] => [([c], none)]
  | c :: d :: r => match lk E [c, d] with
    | some w => ([c, d], some w) :: pieces E r
    | none => ([c], none) :: pieces E (d :: r)
/-- is there an element at a place, and of which weight -/
def lkAt (E : List El) (s : Bs) (i : Nat) : Option Int := if i + 2 ≤ s.length then lk E ((s.drop i).take 2) else none
theorem pieces_one {E : List El} {s : Bs} {i : Nat} {c : UInt8} (h : s[i]? = some c) (hn : lkAt E s i = none) : pieces E (s.drop i) = ([c], none) :: pieces E (s.drop (i + 1)) := by
  obtain ⟨hi, rfl⟩ := get_of h
  rw [List.drop_eq_getElem_cons hi]
  by_cases h2 : i + 1 < s.length
  · rw [List.drop_eq_getElem_cons h2]
    rw [lkAt, if_pos (by omega), List.drop_eq_getElem_cons hi, List.drop_eq_getElem_cons h2] at hn
    have hn' : lk E [s[i], s[i + 1]] = none := hn
    simp only [pieces, hn']
  · rw [List.drop_of_length_le (by omega)]; rfl
theorem pieces_two {E : List El} {s : Bs} {i : Nat} {w : Int} (hn : lkAt E s i = some w) : pieces E (s.drop i) = ((s.drop i).take 2, some w) :: pieces E (s.drop (i + 2)) := by
  by_cases h2 : i + 2 ≤ s.length
  · rw [lkAt, if_pos h2] at hn
    rw [List.drop_eq_getElem_cons (by omega : i < s.length), List.drop_eq_getElem_cons (by omega : i + 1 < s.length)] at hn ⊢
    have hn' : lk E [s[i], s[i + 1]] = some w := hn
    simp only [pieces, hn']; rfl
  · rw [lkAt, if_neg h2] at hn; simp at hn
/-- the weight of a piece -/
def wtOf (W : List Int) (p : Bs × Option Int) : Int := p.2.getD (W.getD (p.1.headD 0).toNat 0)
/-- the place of the element at a place, or -1 -/
def fIx (E : List El) (s : Bs) (i : Nat) : Int := if i + 2 ≤ s.length then ((ix E ((s.drop i).take 2)).map Int.ofNat).getD (-1) else -1
/-- the order of two lists of numbers -/
def ord : List Int → List Int → Int
  | [], [] => 0
  | [], _ :: _ => -1
  | _ :: _, [] => 1
  | a :: x, b :: y => if a < b then -1 else if a > b then 1 else ord x y
theorem sub2 (s : Bs) (i : Nat) : (s.take (i + 2)).drop i = (s.drop i).take 2 := by rw [List.drop_take]; congr 1; omega
theorem fIx_of {E : List El} {s : Bs} {i k : Nat} {e : El} (hi : i + 2 ≤ s.length) (h : E[k]? = some e) (ht : (s.take (i + 2)).drop i = e.text) (hn : ∀ x ∈ E.take k, ¬ (i + 2 ≤ s.length ∧ x.text = (s.drop i).take 2)) : (k : Int) = fIx E s i := by
  rw [sub2] at ht
  rw [fIx, if_pos hi, ix_of h ht.symm (fun x hx e => hn x hx ⟨hi, e⟩)]; rfl
theorem fIx_no {E : List El} {s : Bs} {i : Nat} (hn : ∀ x ∈ E, ¬ (i + 2 ≤ s.length ∧ x.text = (s.drop i).take 2)) : -1 = fIx E s i := by
  rw [fIx]; split
  · rw [ix_no (fun x hx e => hn x hx ⟨by assumption, e⟩)]; rfl
  · rfl
theorem ord_lt {a b : List Int} {k : Nat} {x y : Int} (h : ord a b = ord (a.drop k) (b.drop k)) (ha : a[k]? = some x) (hb : b[k]? = some y) (hx : x < y) : -1 = ord a b := by
  obtain ⟨h1, rfl⟩ := get_of ha; obtain ⟨h2, rfl⟩ := get_of hb
  rw [h, List.drop_eq_getElem_cons h1, List.drop_eq_getElem_cons h2, ord, if_pos hx]
theorem ord_gt {a b : List Int} {k : Nat} {x y : Int} (h : ord a b = ord (a.drop k) (b.drop k)) (ha : a[k]? = some x) (hb : b[k]? = some y) (hx : y < x) : 1 = ord a b := by
  obtain ⟨h1, rfl⟩ := get_of ha; obtain ⟨h2, rfl⟩ := get_of hb
  rw [h, List.drop_eq_getElem_cons h1, List.drop_eq_getElem_cons h2, ord, if_neg (by omega), if_pos hx]
theorem ord_eq {a b : List Int} {k : Nat} {x y : Int} (h : ord a b = ord (a.drop k) (b.drop k)) (ha : a[k]? = some x) (hb : b[k]? = some y) (h3 : ¬ x < y) (h4 : ¬ y < x) : ord a b = ord (a.drop (k + 1)) (b.drop (k + 1)) := by
  obtain ⟨h1, rfl⟩ := get_of ha; obtain ⟨h2, rfl⟩ := get_of hb
  rw [h, List.drop_eq_getElem_cons h1, List.drop_eq_getElem_cons h2, ord, if_neg h3, if_neg h4]
theorem ord_end {a b : List Int} {k : Nat} (h : ord a b = ord (a.drop k) (b.drop k)) (hk : ¬ (k < a.length ∧ k < b.length)) (ha : k ≤ a.length) (hb : k ≤ b.length) : ord a b = if a.length < b.length then -1 else if a.length > b.length then 1 else 0 := by
  rw [h]
  by_cases h1 : k < a.length
  · rw [List.drop_eq_getElem_cons h1, List.drop_of_length_le (l := b) (by omega), ord, if_neg (by omega), if_pos (by omega)]
  · rw [List.drop_of_length_le (l := a) (by omega)]
    by_cases h2 : k < b.length
    · rw [List.drop_eq_getElem_cons h2, ord, if_pos (by omega)]
    · rw [List.drop_of_length_le (l := b) (by omega), ord, if_neg (by omega), if_neg (by omega)]
theorem inI64_u8 (c : UInt8) : InI64 (c.toNat : Int) := by have := u8_lt c; unfold InI64; omega
def ints (s : Bs) : List Int := s.map (fun c => (c.toNat : Int))
@[simp] theorem ints_length (s : Bs) : (ints s).length = s.length := by simp [ints]
theorem ints_succ {s : Bs} {k : Nat} {c : UInt8} (h : s[k]? = some c) : (ints (s.take k)).map intA ++ [AV.val (Value.int IntKind.i64 (c.toNat : Int))] = (ints (s.take (k + 1))).map intA := by
  obtain ⟨h1, rfl⟩ := get_of h
  rw [List.take_succ_eq_append_getElem h1, ints, ints, List.map_append, List.map_append]; rfl
section
variable {X : CallF}
end
end Go.Proofs.Ytbdmioekohmcnab
