/- Locales: the collating elements of a string. -/
import Derived.Test.YtbdmioekohmcnaaLo5
namespace Go.Proofs.Ytbdmioekohmcnaa
set_option linter.unusedVariables false
set_option linter.unusedSimpArgs false
set_option maxRecDepth 100000
/-- the weight of an element -/
def lk : List El → Bs → Option Int
  | [], _ => none
  | e :: r, t => if e.text = t then some e.weight else lk r t
/-- the place of an element -/
def ix : List El → Bs → Option Nat
  | [], _ => none
  | e :: r, t => if e.text = t then some 0 else (ix r t).map (· + 1)
theorem lk_append (A B : List El) (t : Bs) : lk (A ++ B) t = (lk A t).or (lk B t) := by
  induction A with
  | nil => rfl
  | cons e r ih => simp only [List.cons_append, lk, ih]; split <;> rfl
theorem lk_none {A : List El} {t : Bs} : lk A t = none ↔ t ∉ A.map El.text := by
  induction A with
  | nil => simp [lk]
  | cons e r ih =>
    simp only [lk, List.map_cons, List.mem_cons, not_or]
    split
    · rename_i h; simp [h]
    · rename_i h; rw [ih]; constructor
      · intro h'; exact ⟨fun e => h e.symm, h'⟩
      · exact fun h' => h'.2
theorem lk_step {E : List El} {k : Nat} {e : El} (h : E[k]? = some e) (hd : e.text ∉ (E.take k).map El.text) (t : Bs) : lk (E.take (k + 1)) t = if t = e.text then some e.weight else lk (E.take k) t := by
  obtain ⟨hk, rfl⟩ := get_of h
  rw [List.take_succ_eq_append_getElem hk, lk_append]
  by_cases ht : t = E[k].text
  · subst ht; rw [lk_none.2 hd]; simp [lk]
  · rw [if_neg ht]; simp only [lk, if_neg (fun e : E[k].text = t => ht e.symm)]; cases lk (E.take k) t <;> rfl
theorem ix_some {E : List El} {t : Bs} {k : Nat} (h : ix E t = some k) : ∃ e, E[k]? = some e ∧ e.text = t ∧ lk E t = some e.weight := by
  induction E generalizing k with
  | nil => simp [ix] at h
  | cons e r ih =>
    simp only [ix] at h
    by_cases ht : e.text = t
    · rw [if_pos ht] at h; injection h with h; subst h; exact ⟨e, rfl, ht, by simp [lk, ht]⟩
    · rw [if_neg ht] at h
      cases hx : ix r t with
      | none => rw [hx] at h; simp at h
      | some j =>
        rw [hx] at h; simp at h; subst h
        obtain ⟨e', h1, h2, h3⟩ := ih hx
        exact ⟨e', by simpa using h1, h2, by simp [lk, ht, h3]⟩
theorem ix_none {E : List El} {t : Bs} : ix E t = none ↔ lk E t = none := by
  induction E with
  | nil => simp [ix, lk]
  | cons e r ih => simp only [ix, lk]; split <;> simp [ih]
theorem ix_of {E : List El} {t : Bs} {k : Nat} {e : El} (h : E[k]? = some e) (ht : e.text = t) (hn : ∀ x ∈ E.take k, x.text ≠ t) : ix E t = some k := by
  induction E generalizing k with
  | nil => simp at h
  | cons x r ih =>
    cases k with
    | zero => simp at h; subst h; simp [ix, ht]
    | succ k =>
      have h1 : x.text ≠ t := hn x (by simp)
      have := ih (k := k) (by simpa using h) (fun y hy => hn y (by simp [hy]))
      simp [ix, h1, this]
theorem ix_no {E : List El} {t : Bs} (hn : ∀ x ∈ E, x.text ≠ t) : ix E t = none := by
  rw [ix_none, lk_none]; intro h
  obtain ⟨x, hx, rfl⟩ := List.mem_map.1 h
  exact hn x hx rfl
/-- what the check of elements says -/
theorem chkEl_ok {seen : List Bs} {l : List El} (h : chkEl seen l = 0) {k : Nat} {e : El} (hk : l[k]? = some e) : e.text.length = 2 ∧ 0 ≤ e.weight ∧ e.weight ≤ 65535 ∧ e.text ∉ seen ++ (l.take k).map El.text := by
  induction l generalizing seen k with
  | nil => simp at hk
  | cons x r ih =>
    simp only [chkEl] at h
    by_cases h1 : x.text.length = 2 ∧ 0 ≤ x.weight ∧ x.weight ≤ 65535
    · rw [if_pos h1] at h
      by_cases h2 : x.text ∈ seen
      · rw [if_pos h2] at h; omega
      · rw [if_neg h2] at h
        cases k with
        | zero => simp at hk; subst hk; exact ⟨h1.1, h1.2.1, h1.2.2, by simpa using h2⟩
        | succ k =>
          have := ih h (k := k) (by simpa using hk)
          simpa using this
    · rw [if_neg h1] at h; omega
theorem Good.els {l : Loc} (h : Good l) : l.elements.length ≤ 64 ∧ chkEl [] l.elements = 0 := by
  have := h.el; unfold errEl at this
  by_cases h1 : l.elements.length ≤ 64
  · rw [if_pos h1] at this; exact ⟨h1, this⟩
  · rw [if_neg h1] at this; omega
theorem Good.elt {l : Loc} (h : Good l) {k : Nat} {e : El} (hk : l.elements[k]? = some e) : e.text.length = 2 ∧ 0 ≤ e.weight ∧ e.weight ≤ 65535 ∧ e.text ∉ (l.elements.take k).map El.text := by
  simpa using chkEl_ok h.els.2 hk
/-- the pieces of a string: one byte, or an element with its weight -/
def pieces (E : List El) : Bs → List (Bs × Option Int)
  | [] => []
  | [c] => [([c], none)]
  | c :: d :: r => match lk E [c, d] with
    | some w => ([c, d], some w) :: pieces E r
    | none => ([c], none) :: pieces E (d :: r)
/-- is there an element at a place, and of which weight -/
def lkAt (E : List El) (s : Bs) (i : Nat) : Option Int := if i + 2 ≤ s.length then lk E ((s.drop i).take 2) else none
theorem pieces_one {E : List El} {s : Bs} {i : Nat} {c : UInt8} (h : s[i]? = some c) (hn : lkAt E s i = none) : pieces E (s.drop i) = ([c], none) :: pieces E (s.drop (i + 1)) := by
  obtain ⟨hi, rfl⟩ := get_of h
  rw [List.drop_eq_getElem_cons hi]
  by_cases h2 : i + 1 < s.length
  · rw [List.drop_eq_getElem_cons h2]
    rw [lkAt, if_pos (by omega), List.drop_eq_getElem_cons hi, List.drop_eq_getElem_cons h2] at hn
    have hn' : lk E [s[i], s[i + 1]] = none := hn
    simp only [pieces, hn']
  · rw [List.drop_of_length_le (by omega)]; rfl
theorem pieces_two {E : List El} {s : Bs} {i : Nat} {w : Int} (hn : lkAt E s i = some w) : pieces E (s.drop i) = ((s.drop i).take 2, some w) :: pieces E (s.drop (i + 2)) := by
  by_cases h2 : i + 2 ≤ s.length
  · rw [lkAt, if_pos h2] at hn
    rw [List.drop_eq_getElem_cons (by omega : i < s.length), List.drop_eq_getElem_cons (by omega : i + 1 < s.length)] at hn ⊢
    have hn' : lk E [s[i], s[i + 1]] = some w := hn
    simp only [pieces, hn']; rfl
  · rw [lkAt, if_neg h2] at hn; simp at hn
/-- the weight of a piece -/
def wtOf (W : List Int) (p : Bs × Option Int) : Int := p.2.getD (W.getD (p.1.headD 0).toNat 0)
/-- the place of the element at a place, or -1 -/
def fIx (E : List El) (s : Bs) (i : Nat) : Int := if i + 2 ≤ s.length then ((ix E ((s.drop i).take 2)).map Int.ofNat).getD (-1) else -1
/-- the order of two lists of numbers -/
def ord : List Int → List Int → Int
  | [], [] => 0
  | [], _ :: _ => -1
  | _ :: _, [] => 1
  | a :: x, b :: y => if a < b then -1 else if a > b then 1 else ord x y
theorem sub2 (s : Bs) (i : Nat) : (s.take (i + 2)).drop i = (s.drop i).take 2 := by rw [List.drop_take]; congr 1; omega
theorem fIx_of {E : List El} {s : Bs} {i k : Nat} {e : El} (hi : i + 2 ≤ s.length) (h : E[k]? = some e) (ht : (s.take (i + 2)).drop i = e.text) (hn : ∀ x ∈ E.take k, ¬ (i + 2 ≤ s.length ∧ x.text = (s.drop i).take 2)) : (k : Int) = fIx E s i := by
  rw [sub2] at ht
  rw [fIx, if_pos hi, ix_of h ht.symm (fun x hx e => hn x hx ⟨hi, e⟩)]; rfl
theorem fIx_no {E : List El} {s : Bs} {i : Nat} (hn : ∀ x ∈ E, ¬ (i + 2 ≤ s.length ∧ x.text = (s.drop i).take 2)) : -1 = fIx E s i := by
  rw [fIx]; split
  · rw [ix_no (fun x hx e => hn x hx ⟨by assumption, e⟩)]; rfl
  · rfl
theorem ord_lt {a b : List Int} {k : Nat} {x y : Int} (h : ord a b = ord (a.drop k) (b.drop k)) (ha : a[k]? = some x) (hb : b[k]? = some y) (hx : x < y) : -1 = ord a b := by
  obtain ⟨h1, rfl⟩ := get_of ha; obtain ⟨h2, rfl⟩ := get_of hb
  rw [h, List.drop_eq_getElem_cons h1, List.drop_eq_getElem_cons h2, ord, if_pos hx]
theorem ord_gt {a b : List Int} {k : Nat} {x y : Int} (h : ord a b = ord (a.drop k) (b.drop k)) (ha : a[k]? = some x) (hb : b[k]? = some y) (hx : y < x) : 1 = ord a b := by
  obtain ⟨h1, rfl⟩ := get_of ha; obtain ⟨h2, rfl⟩ := get_of hb
  rw [h, List.drop_eq_getElem_cons h1, List.drop_eq_getElem_cons h2, ord, if_neg (by omega), if_pos hx]
theorem ord_eq {a b : List Int} {k : Nat} {x y : Int} (h : ord a b = ord (a.drop k) (b.drop k)) (ha : a[k]? = some x) (hb : b[k]? = some y) (h3 : ¬ x < y) (h4 : ¬ y < x) : ord a b = ord (a.drop (k + 1)) (b.drop (k + 1)) := by
  obtain ⟨h1, rfl⟩ := get_of ha; obtain ⟨h2, rfl⟩ := get_of hb
  rw [h, List.drop_eq_getElem_cons h1, List.drop_eq_getElem_cons h2, ord, if_neg h3, if_neg h4]
theorem ord_end {a b : List Int} {k : Nat} (h : ord a b = ord (a.drop k) (b.drop k)) (hk : ¬ (k < a.length ∧ k < b.length)) (ha : k ≤ a.length) (hb : k ≤ b.length) : ord a b = if a.length < b.length then -1 else if a.length > b.length then 1 else 0 := by
  rw [h]
  by_cases h1 : k < a.length
  · rw [List.drop_eq_getElem_cons h1, List.drop_of_length_le (l := b) (by omega), ord, if_neg (by omega), if_pos (by omega)]
  · rw [List.drop_of_length_le (l := a) (by omega)]
    by_cases h2 : k < b.length
    · rw [List.drop_eq_getElem_cons h2, ord, if_pos (by omega)]
    · rw [List.drop_of_length_le (l := b) (by omega), ord, if_neg (by omega), if_neg (by omega)]
theorem inI64_u8 (c : UInt8) : InI64 (c.toNat : Int) := by have := u8_lt c; unfold InI64; omega
def ints (s : Bs) : List Int := s.map (fun c => (c.toNat : Int))
@[simp] theorem ints_length (s : Bs) : (ints s).length = s.length := by simp [ints]
theorem ints_succ {s : Bs} {k : Nat} {c : UInt8} (h : s[k]? = some c) : (ints (s.take k)).map intA ++ [AV.val (Value.int IntKind.i64 (c.toNat : Int))] = (ints (s.take (k + 1))).map intA := by
  obtain ⟨h1, rfl⟩ := get_of h
  rw [List.take_succ_eq_append_getElem h1, ints, ints, List.map_append, List.map_append]; rfl
section
variable {X : CallF}
theorem find_run (l : Loc) (s : Bs) (at_ : Nat) (hs : s.length ≤ maxLen) (hi : at_ ≤ s.length) (hE : l.elements.length ≤ maxLen) (hs' : s.length + 2 ≤ 9223372036854775807) : (R FT X).f 66 [encLoc l, strL s, intA at_] = some (intA (fIx l.elements s at_)) := by
  have hm := maxLen_i64
  refine R_wp ((Tr.inv (fun (k : Nat) ↦ St.mk [((1 : Nat), strL s), ((2 : Nat), intA (↑at_ : Int)), ((3 : Nat), AV.ptr (0 : Nat) (0 : Nat)), ((7 : Nat), intA (↑k : Int))] [MObj.box [strL l.name, AV.slice (1 : Nat) (List.map intA l.weights), strL l.lower, strL l.upper, AV.slice (5 : Nat) (List.map encCls l.classes), AV.slice (2 : Nat) (List.map encEl l.elements)]]) (fun (k : Nat) ↦ k ≤ l.elements.length ∧ ∀ (x : El), x ∈ List.take k l.elements → ¬(at_ + (2 : Nat) ≤ List.length s ∧ x.text = List.take (2 : Nat) (List.drop at_ s))) (fun (k : Nat) ↦ l.elements.length - k) fun (k : Nat) ↦ (Tr.k l.elements.length (((Tr.sl at_ (at_ + (2 : Nat)) (Tr.ix encEl l.elements k fun (x7 : El) ↦ (Tr.nil.br Tr.nil.w).w)).w.br (Tr.b false Tr.nil.w).w).w.w.w.br Tr.nil)).w).w) rfl ?_
  refine Eq.mpr (by kernel_rfl : _ = ((∃ (j1 : Nat), ((s = s ∧ (↑at_ : Int) = (↑at_ : Int) ∧ True ∧ (0 : Int) = (↑j1 : Int) ∧ True) ∧ l.name = l.name ∧ List.map intA l.weights = List.map intA l.weights ∧ l.lower = l.lower ∧ l.upper = l.upper ∧ List.map encCls l.classes = List.map encCls l.classes ∧ List.map encEl l.elements = List.map encEl l.elements) ∧ j1 ≤ l.elements.length ∧ ∀ (x2 : El), x2 ∈ List.take j1 l.elements → ¬(at_ + (2 : Nat) ≤ List.length s ∧ x2.text = List.take (2 : Nat) (List.drop at_ s))) ∧ ∀ (k : Nat), (k ≤ l.elements.length ∧ ∀ (x : El), x ∈ List.take k l.elements → ¬(at_ + (2 : Nat) ≤ List.length s ∧ x.text = List.take (2 : Nat) (List.drop at_ s))) → (List.map encEl l.elements).length = l.elements.length ∧ (decide ((↑k : Int) < (↑l.elements.length : Int)) = true → InI64 ((↑at_ : Int) + (2 : Int)) ∧ (decide ((↑at_ : Int) + (2 : Int) ≤ (↑(List.length s) : Int)) = true → InI64 ((↑at_ : Int) + (2 : Int)) ∧ (↑at_ : Int) = (↑at_ : Int) ∧ (↑at_ : Int) + (2 : Int) = (↑(at_ + (2 : Nat)) : Int) ∧ at_ ≤ at_ + (2 : Nat) ∧ at_ + (2 : Nat) ≤ List.length s ∧ List.map encEl l.elements = List.map encEl l.elements ∧ (↑k : Int) = (↑k : Int) ∧ k < l.elements.length ∧ ∀ (x7 : El), l.elements[k]? = some x7 → (decide (List.drop at_ (List.take (at_ + (2 : Nat)) s) = x7.text) = true → (↑k : Int) = fIx l.elements s at_) ∧ (decide (List.drop at_ (List.take (at_ + (2 : Nat)) s) = x7.text) = false → InI64 ((↑k : Int) + (1 : Int)) ∧ ∃ (j11 : Nat), ((s = s ∧ (↑at_ : Int) = (↑at_ : Int) ∧ True ∧ (↑k : Int) + (1 : Int) = (↑j11 : Int) ∧ True) ∧ l.name = l.name ∧ List.map intA l.weights = List.map intA l.weights ∧ l.lower = l.lower ∧ l.upper = l.upper ∧ List.map encCls l.classes = List.map encCls l.classes ∧ List.map encEl l.elements = List.map encEl l.elements) ∧ (j11 ≤ l.elements.length ∧ ∀ (x12 : El), x12 ∈ List.take j11 l.elements → ¬(at_ + (2 : Nat) ≤ List.length s ∧ x12.text = List.take (2 : Nat) (List.drop at_ s))) ∧ l.elements.length - j11 < l.elements.length - k)) ∧ (decide ((↑at_ : Int) + (2 : Int) ≤ (↑(List.length s) : Int)) = false → false = false ∧ InI64 ((↑k : Int) + (1 : Int)) ∧ ∃ (j15 : Nat), ((s = s ∧ (↑at_ : Int) = (↑at_ : Int) ∧ True ∧ (↑k : Int) + (1 : Int) = (↑j15 : Int) ∧ True) ∧ l.name = l.name ∧ List.map intA l.weights = List.map intA l.weights ∧ l.lower = l.lower ∧ l.upper = l.upper ∧ List.map encCls l.classes = List.map encCls l.classes ∧ List.map encEl l.elements = List.map encEl l.elements) ∧ (j15 ≤ l.elements.length ∧ ∀ (x16 : El), x16 ∈ List.take j15 l.elements → ¬(at_ + (2 : Nat) ≤ List.length s ∧ x16.text = List.take (2 : Nat) (List.drop at_ s))) ∧ l.elements.length - j15 < l.elements.length - k)) ∧ (decide ((↑k : Int) < (↑l.elements.length : Int)) = false → (-1 : Int) = fIx l.elements s at_))) ?_
  refine ⟨⟨(0 : Nat), ⟨⟨rfl, rfl, trivial, (by omega), trivial⟩, rfl, rfl, rfl, rfl, rfl, rfl⟩, ⟨(by omega), fun x2 => fun h3 => ?_⟩⟩, fun k => fun h4 => have h4a := h4.1; have h4b := h4.2; ⟨(by simp), fun h5_ => have h5 := dT h5_; ⟨(by unfold InI64; omega), fun h6_ => have h6 := dT h6_; ⟨(by unfold InI64; omega), rfl, (by omega), (by omega), (by omega), rfl, rfl, (by omega), fun x7 => fun h8 => ⟨fun h9_ => have h9 := dT h9_; ?_, fun h10_ => have h10 := dF h10_; ⟨(by unfold InI64; omega), ⟨k + (1 : Nat), ⟨⟨rfl, rfl, trivial, (by omega), trivial⟩, rfl, rfl, rfl, rfl, rfl, rfl⟩, ⟨⟨(by omega), fun x12 => fun h13 => ?_⟩, (by omega)⟩⟩⟩⟩⟩, fun h14_ => have h14 := dF h14_; ⟨rfl, (by unfold InI64; omega), ⟨k + (1 : Nat), ⟨⟨rfl, rfl, trivial, (by omega), trivial⟩, rfl, rfl, rfl, rfl, rfl, rfl⟩, ⟨⟨(by omega), fun x16 => fun h17 => (by omega)⟩, (by omega)⟩⟩⟩⟩, fun h18_ => have h18 := dF h18_; ?_⟩⟩
  · simp at h3
  · exact fIx_of (by omega) h8 h9 h4b
  · exact all_take_succ (P := fun x => ¬ (at_ + 2 ≤ s.length ∧ x.text = (s.drop at_).take 2)) h8 h4b (fun h => h10 (by rw [sub2, h.2])) _ h13
  · exact fIx_no (fun x hx => h4b x (by rw [List.take_of_length_le (by omega)]; exact hx))
theorem order_run (a b : List Int) (ha : a.length ≤ maxLen) (hb : b.length ≤ maxLen) : (R FT X).f 70 [.slice 1 (a.map intA), .slice 1 (b.map intA)] = some (intA (ord a b)) := by
  have hm := maxLen_i64
  refine R_wp ((Tr.inv (fun (k : Nat) ↦ St.mk [((0 : Nat), AV.slice (1 : Nat) (List.map intA a)), ((1 : Nat), AV.slice (1 : Nat) (List.map intA b)), ((5 : Nat), intA (↑k : Int))] []) (fun (k : Nat) ↦ k ≤ a.length ∧ k ≤ b.length ∧ ord a b = ord (List.drop k a) (List.drop k b)) (fun (k : Nat) ↦ a.length - k) fun (k : Nat) ↦ (Tr.k a.length ((Tr.k b.length ((Tr.ix intA a k fun (x5 : Int) ↦ Tr.ix intA b k fun (x7 : Int) ↦ (Tr.nil.br (Tr.ix intA a k fun (x11 : Int) ↦ Tr.ix intA b k fun (x13 : Int) ↦ (Tr.nil.br Tr.nil.w).w).w).w).w.w.br (Tr.k a.length (Tr.k b.length (Tr.b false (Tr.k a.length (Tr.k b.length (Tr.b true Tr.nil).w)).w).w)).w)).br (Tr.b false (Tr.k a.length (Tr.k b.length (Tr.nil.br (Tr.k a.length (Tr.k b.length (Tr.b false Tr.nil).w)).w).w)).w))).w).w) rfl ?_
  refine Eq.mpr (by kernel_rfl : _ = ((∃ (j1 : Nat), ((List.map intA a = List.map intA a ∧ List.map intA b = List.map intA b ∧ (0 : Int) = (↑j1 : Int) ∧ True) ∧ True) ∧ j1 ≤ a.length ∧ j1 ≤ b.length ∧ ord a b = ord (List.drop j1 a) (List.drop j1 b)) ∧ ∀ (k : Nat), k ≤ a.length ∧ k ≤ b.length ∧ ord a b = ord (List.drop k a) (List.drop k b) → (List.map intA a).length = a.length ∧ (decide ((↑k : Int) < (↑a.length : Int)) = true → (List.map intA b).length = b.length ∧ (decide ((↑k : Int) < (↑b.length : Int)) = true → List.map intA a = List.map intA a ∧ (↑k : Int) = (↑k : Int) ∧ k < a.length ∧ ∀ (x5 : Int), a[k]? = some x5 → List.map intA b = List.map intA b ∧ (↑k : Int) = (↑k : Int) ∧ k < b.length ∧ ∀ (x7 : Int), b[k]? = some x7 → (decide (x5 < x7) = true → (-1 : Int) = ord a b) ∧ (decide (x5 < x7) = false → List.map intA a = List.map intA a ∧ (↑k : Int) = (↑k : Int) ∧ k < a.length ∧ ∀ (x11 : Int), a[k]? = some x11 → List.map intA b = List.map intA b ∧ (↑k : Int) = (↑k : Int) ∧ k < b.length ∧ ∀ (x13 : Int), b[k]? = some x13 → (decide (x13 < x11) = true → (1 : Int) = ord a b) ∧ (decide (x13 < x11) = false → InI64 ((↑k : Int) + (1 : Int)) ∧ ∃ (j17 : Nat), ((List.map intA a = List.map intA a ∧ List.map intA b = List.map intA b ∧ (↑k : Int) + (1 : Int) = (↑j17 : Int) ∧ True) ∧ True) ∧ (j17 ≤ a.length ∧ j17 ≤ b.length ∧ ord a b = ord (List.drop j17 a) (List.drop j17 b)) ∧ a.length - j17 < a.length - k))) ∧ (decide ((↑k : Int) < (↑b.length : Int)) = false → (List.map intA a).length = a.length ∧ (List.map intA b).length = b.length ∧ decide ((↑a.length : Int) < (↑b.length : Int)) = false ∧ (List.map intA a).length = a.length ∧ (List.map intA b).length = b.length ∧ decide ((↑b.length : Int) < (↑a.length : Int)) = true ∧ (1 : Int) = ord a b)) ∧ (decide ((↑k : Int) < (↑a.length : Int)) = false → false = false ∧ (List.map intA a).length = a.length ∧ (List.map intA b).length = b.length ∧ (decide ((↑a.length : Int) < (↑b.length : Int)) = true → (-1 : Int) = ord a b) ∧ (decide ((↑a.length : Int) < (↑b.length : Int)) = false → (List.map intA a).length = a.length ∧ (List.map intA b).length = b.length ∧ decide ((↑b.length : Int) < (↑a.length : Int)) = false ∧ (0 : Int) = ord a b)))) ?_
  refine ⟨⟨(0 : Nat), ⟨⟨rfl, rfl, (by omega), trivial⟩, trivial⟩, ⟨(by omega), (by omega), rfl⟩⟩, fun k => fun h2 => have h2a := h2.1; have h2b := h2.2.1; have h2c := h2.2.2; ⟨(by simp), fun h3_ => have h3 := dT h3_; ⟨(by simp), fun h4_ => have h4 := dT h4_; ⟨rfl, rfl, (by omega), fun x5 => fun h6 => ⟨rfl, rfl, (by omega), fun x7 => fun h8 => ⟨fun h9_ => have h9 := dT h9_; ?_, fun h10_ => have h10 := dF h10_; ⟨rfl, rfl, (by omega), fun x11 => fun h12 => ⟨rfl, rfl, (by omega), fun x13 => fun h14 => ⟨fun h15_ => have h15 := dT h15_; ?_, fun h16_ => have h16 := dF h16_; ⟨(by unfold InI64; omega), ⟨k + (1 : Nat), ⟨⟨rfl, rfl, (by omega), trivial⟩, trivial⟩, ⟨⟨(by omega), (by omega), ?_⟩, (by omega)⟩⟩⟩⟩⟩⟩⟩⟩⟩, fun h18_ => have h18 := dF h18_; ⟨(by simp), (by simp), (fD (by omega)), (by simp), (by simp), (tD (by omega)), ?_⟩⟩, fun h19_ => have h19 := dF h19_; ⟨rfl, (by simp), (by simp), fun h20_ => have h20 := dT h20_; ?_, fun h21_ => have h21 := dF h21_; ⟨(by simp), (by simp), (fD (by omega)), ?_⟩⟩⟩⟩
  · exact ord_lt h2c h6 h8 h9
  · exact ord_gt h2c h12 h14 h15
  · exact ord_eq h2c h12 h14 (by have := h6.symm.trans h12; have := h8.symm.trans h14; simp at *; omega) h16
  all_goals rw [ord_end h2c (by omega) h2a h2b]
  · rw [if_neg (by omega), if_pos (by omega)]
  · rw [if_pos (by omega)]
  · rw [if_neg (by omega), if_neg (by omega)]
theorem bytes_run (a b : Bs) (ha : a.length ≤ 1048576) (hb : b.length ≤ 1048576) : (R FT X).f 30 [strL a, strL b] = some (intA (ord (ints a) (ints b))) := by
  have hm := maxLen_i64
  refine R_wp ((Tr.inv (fun (k : Nat) ↦ St.mk [((0 : Nat), strL a), ((1 : Nat), strL b), ((5 : Nat), AV.row (0 : Nat) (0 : Nat) k (0 : Nat) k), ((6 : Nat), AV.row (1 : Nat) (0 : Nat) (0 : Nat) (0 : Nat) (0 : Nat)), ((7 : Nat), intA (↑k : Int))] [MObj.row (0 : Nat) (1 : Nat) (List.map intA (ints (List.take k a))) true true, MObj.row (0 : Nat) (1 : Nat) [] true true]) (fun (k : Nat) ↦ k ≤ List.length a) (fun (k : Nat) ↦ List.length a - k) fun (k : Nat) ↦ ((Tr.y k fun (c4 : UInt8) ↦ (Tr.k (k + (1 : Nat)) Tr.nil.w).w).w.br (Tr.inv (fun (k : Nat) ↦ St.mk [((1 : Nat), strL b), ((5 : Nat), AV.row (0 : Nat) (0 : Nat) (List.length a) (0 : Nat) (List.length a)), ((6 : Nat), AV.row (1 : Nat) (0 : Nat) k (0 : Nat) k), ((8 : Nat), intA (↑k : Int))] [MObj.row (0 : Nat) (1 : Nat) (List.map intA (ints a)) true true, MObj.row (0 : Nat) (1 : Nat) (List.map intA (ints (List.take k b))) true true]) (fun (k : Nat) ↦ k ≤ List.length b) (fun (k : Nat) ↦ List.length b - k) fun (k : Nat) ↦ ((Tr.y k fun (c11 : UInt8) ↦ (Tr.k (k + (1 : Nat)) Tr.nil.w).w).w.br (Tr.g (List.map intA (List.take (List.length a) (ints a))) (Tr.g (List.map intA (List.take k (ints (List.take k b)))) (Tr.c (intA (ord (List.take (List.length a) (ints a)) (List.take k (ints (List.take k b))))) Tr.nil)))).w).w).w).w) rfl ?_
  refine Eq.mpr (by kernel_rfl : _ = ((∃ (j1 : Nat), ((a = a ∧ b = b ∧ ((0 : Nat) = j1 ∧ (0 : Nat) = (0 : Nat) ∧ (0 : Nat) = j1) ∧ ((0 : Nat) = (0 : Nat) ∧ (0 : Nat) = (0 : Nat) ∧ (0 : Nat) = (0 : Nat)) ∧ (0 : Int) = (↑j1 : Int) ∧ True) ∧ [] = List.map intA (ints (List.take j1 a)) ∧ @List.nil AV = []) ∧ j1 ≤ List.length a) ∧
  ∀ (k : Nat),
    k ≤ List.length a →
      (decide ((↑k : Int) < (↑(List.length a) : Int)) = true → (↑k : Int) = (↑k : Int) ∧ k < List.length a ∧ ∀ (c4 : UInt8), a[k]? = some c4 → InI64 (↑c4.toNat : Int) ∧ (List.map intA (ints (List.take k a))).length = k ∧ (0 : Nat) = (0 : Nat) ∧ k = k ∧ k + [AV.val (Value.int IntKind.i64 (↑c4.toNat : Int))].length = k + (1 : Nat) ∧ (k + (1 : Nat)) * (8 : Nat) ≤ (140737488355328 : Nat) ∧ k + (1 : Nat) ≤ (9223372036854775807 : Nat) ∧ InI64 ((↑k : Int) + (1 : Int)) ∧ ∃ (j6 : Nat), ((a = a ∧ b = b ∧ (k + (1 : Nat) = j6 ∧ (0 : Nat) = (0 : Nat) ∧ k + (1 : Nat) = j6) ∧ ((0 : Nat) = (0 : Nat) ∧ (0 : Nat) = (0 : Nat) ∧ (0 : Nat) = (0 : Nat)) ∧ (↑k : Int) + (1 : Int) = (↑j6 : Int) ∧ True) ∧ List.map intA (ints (List.take k a)) ++ [AV.val (Value.int IntKind.i64 (↑c4.toNat : Int))] = List.map intA (ints (List.take j6 a)) ∧ @List.nil AV = []) ∧ j6 ≤ List.length a ∧ List.length a - j6 < List.length a - k) ∧
        (decide ((↑k : Int) < (↑(List.length a) : Int)) = false → (∃ (j8 : Nat), ((b = b ∧ (k = List.length a ∧ (0 : Nat) = (0 : Nat) ∧ k = List.length a) ∧ ((0 : Nat) = j8 ∧ (0 : Nat) = (0 : Nat) ∧ (0 : Nat) = j8) ∧ (0 : Int) = (↑j8 : Int) ∧ True) ∧ List.map intA (ints (List.take k a)) = List.map intA (ints a) ∧ [] = List.map intA (ints (List.take j8 b))) ∧ j8 ≤ List.length b) ∧ ∀ (k : Nat), k ≤ List.length b → (decide ((↑k : Int) < (↑(List.length b) : Int)) = true → (↑k : Int) = (↑k : Int) ∧ k < List.length b ∧ ∀ (c11 : UInt8), b[k]? = some c11 → InI64 (↑c11.toNat : Int) ∧ (List.map intA (ints (List.take k b))).length = k ∧ (0 : Nat) = (0 : Nat) ∧ k = k ∧ k + [AV.val (Value.int IntKind.i64 (↑c11.toNat : Int))].length = k + (1 : Nat) ∧ (k + (1 : Nat)) * (8 : Nat) ≤ (140737488355328 : Nat) ∧ k + (1 : Nat) ≤ (9223372036854775807 : Nat) ∧ InI64 ((↑k : Int) + (1 : Int)) ∧ ∃ (j13 : Nat), ((b = b ∧ (List.length a = List.length a ∧ (0 : Nat) = (0 : Nat) ∧ List.length a = List.length a) ∧ (k + (1 : Nat) = j13 ∧ (0 : Nat) = (0 : Nat) ∧ k + (1 : Nat) = j13) ∧ (↑k : Int) + (1 : Int) = (↑j13 : Int) ∧ True) ∧ List.map intA (ints a) = List.map intA (ints a) ∧ List.map intA (ints (List.take k b)) ++ [AV.val (Value.int IntKind.i64 (↑c11.toNat : Int))] = List.map intA (ints (List.take j13 b))) ∧ j13 ≤ List.length b ∧ List.length b - j13 < List.length b - k) ∧ (decide ((↑k : Int) < (↑(List.length b) : Int)) = false → (List.map intA (ints a)).length = List.length a ∧ List.take (List.length a) (List.drop (0 : Nat) (List.map intA (ints a))) = List.map intA (List.take (List.length a) (ints a)) ∧ (List.map intA (ints (List.take k b))).length = k ∧ List.take k (List.drop (0 : Nat) (List.map intA (ints (List.take k b)))) = List.map intA (List.take k (ints (List.take k b))) ∧ (R FT X).f (70 : FuncId) [AV.slice (1 : Nat) (List.map intA (List.take (List.length a) (ints a))), AV.slice (1 : Nat) (List.map intA (List.take k (ints (List.take k b))))] = some (intA (ord (List.take (List.length a) (ints a)) (List.take k (ints (List.take k b))))) ∧ ord (List.take (List.length a) (ints a)) (List.take k (ints (List.take k b))) = ord (ints a) (ints b))))) ?_
  refine ⟨⟨(0 : Nat), ⟨⟨rfl, rfl, ⟨rfl, rfl, rfl⟩, ⟨rfl, rfl, rfl⟩, (by omega), trivial⟩, rfl, rfl⟩, (by omega)⟩, fun k => fun h2 => ⟨fun h3_ => have h3 := dT h3_; ⟨rfl, (by omega), fun c4 => fun h5 => ⟨?_, ?_, rfl, rfl, rfl, (by omega), (by omega), (by unfold InI64; omega), ⟨k + (1 : Nat), ⟨⟨rfl, rfl, ⟨rfl, rfl, rfl⟩, ⟨rfl, rfl, rfl⟩, (by omega), trivial⟩, ?_, rfl⟩, ⟨(by omega), (by omega)⟩⟩⟩⟩, fun h7_ => have h7 := dF h7_; ⟨⟨(0 : Nat), ⟨⟨rfl, ⟨(by omega), rfl, (by omega)⟩, ⟨rfl, rfl, rfl⟩, (by omega), trivial⟩, ?_, rfl⟩, (by omega)⟩, fun k => fun h9 => ⟨fun h10_ => have h10 := dT h10_; ⟨rfl, (by omega), fun c11 => fun h12 => ⟨?_, ?_, rfl, rfl, rfl, (by omega), (by omega), (by unfold InI64; omega), ⟨k + (1 : Nat), ⟨⟨rfl, ⟨rfl, rfl, rfl⟩, ⟨rfl, rfl, rfl⟩, (by omega), trivial⟩, rfl, ?_⟩, ⟨(by omega), (by omega)⟩⟩⟩⟩, fun h14_ => have h14 := dF h14_; ⟨(by simp), (by simp), ?_, (by simp), (order_run _ _ ?_ ?_), ?_⟩⟩⟩⟩⟩
  all_goals try first | exact inI64_u8 _ | (simp; omega) | exact ints_succ (by assumption)
  · rw [List.take_of_length_le (by omega)]
  · have := maxLen_le; simp; omega
  · have := maxLen_le; simp; omega
  · obtain rfl : k = b.length := by omega
    rw [List.take_of_length_le (l := b) (Nat.le_refl _), List.take_of_length_le (by simp), List.take_of_length_le (by simp)]
end
end Go.Proofs.Ytbdmioekohmcnaa
