/- The abstract machine: maps as association lists, and small facts for the walk. -/
import Derived.Test.YtgjdmlhgapmflaaDoorAmW3
namespace Go.Proofs.YtgjdmlhgapmflaaDoor
set_option linter.unusedVariables false
set_option linter.unusedSimpArgs false

def mapE {α : Type} (f : α → AV) (a : List (Bs × α)) : List (Value × AV) := a.map fun x => (.string (ofL x.1), f x.2)
def aput {α : Type} : List (Bs × α) → Bs → α → List (Bs × α)
  | [], s, v => [(s, v)]
  | (k, u) :: r, s, v => if s = k then (s, v) :: r else (k, u) :: aput r s v
def adel {α : Type} : List (Bs × α) → Bs → List (Bs × α)
  | [], _ => []
  | (k, u) :: r, s => if s = k then r else (k, u) :: adel r s
def setAtL {α : Type} (l : List α) (i : Nat) (cs : List α) : List α := l.take i ++ cs ++ l.drop (i + cs.length)
theorem setAt_map {α : Type} (f : α → AV) (l : List α) (i : Nat) (cs : List α) : setAt (l.map f) i (cs.map f) = (setAtL l i cs).map f := by
  simp [setAt, setAtL, List.map_take, List.map_drop]

theorem find_put {α : Type} (f : α → AV) (s : Bs) (v : α) : ∀ (a : List (Bs × α)) (i : Nat), match findE (.string (ofL s)) (mapE f a) i with
    | some (some (j, _)) => i ≤ j ∧ (mapE f a).set (j - i) (.string (ofL s), f v) = mapE f (aput a s v) ∧ (mapE f a).eraseIdx (j - i) = mapE f (adel a s)
    | some none => aput a s v = a ++ [(s, v)] ∧ adel a s = a
    | none => False
  | [], i => ⟨rfl, rfl⟩
  | (k, u) :: a, i => by
    have hv : vEq (.string (ofL s)) (.string (ofL k)) = some (decide (s = k)) := rfl
    by_cases h : s = k
    · have : findE (.string (ofL s)) (mapE f ((k, u) :: a)) i = some (some (i, f u)) := by simp only [mapE, List.map_cons, findE, hv, decide_eq_true h]
      rw [this]
      refine ⟨Nat.le_refl _, ?_, ?_⟩
      · subst h; simp [mapE, aput]
      · subst h; simp [mapE, adel]
    · have : findE (.string (ofL s)) (mapE f ((k, u) :: a)) i = findE (.string (ofL s)) (mapE f a) (i + 1) := by simp only [mapE, List.map_cons, findE, hv, decide_eq_false h]
      rw [this]
      have ih := find_put f s v a (i + 1)
      split at ih
      · rename_i j y e
        obtain ⟨h1, h2, h3⟩ := ih
        refine ⟨by omega, ?_, ?_⟩
        · rw [show j - i = (j - (i + 1)) + 1 from by omega]
          show (_ :: mapE f a).set (j - (i + 1) + 1) _ = _
          rw [List.set_cons_succ, h2]
          simp [mapE, aput, h]
        · rw [show j - i = (j - (i + 1)) + 1 from by omega]
          show (_ :: mapE f a).eraseIdx (j - (i + 1) + 1) = _
          rw [List.eraseIdx_cons_succ, h3]
          simp [mapE, adel, h]
      · exact ⟨by simp [aput, h, ih.1], by simp [adel, h, ih.2]⟩
      · exact ih.elim
theorem setKey_mapE {α : Type} (f : α → AV) (a : List (Bs × α)) (s : Bs) (v : α) : setKey (mapE f a) (.string (ofL s)) (f v) = some (mapE f (aput a s v)) := by
  have := find_put f s v a 0
  unfold setKey
  split at this
  · rename_i e; rw [e]; simp only [Nat.sub_zero] at this; show some _ = some _; rw [this.2.1]
  · rename_i e; rw [e, this.1]; simp [mapE]
  · exact this.elim
theorem delKey_mapE {α : Type} (f : α → AV) (a : List (Bs × α)) (s : Bs) : delKey (mapE f a) (.string (ofL s)) = some (mapE f (adel a s)) := by
  by_cases h : Nonempty α
  · obtain ⟨v⟩ := h
    have := find_put f s v a 0
    unfold delKey
    split at this
    · rename_i e; rw [e]; simp only [Nat.sub_zero] at this; show some _ = some _; rw [this.2.2]
    · rename_i e; rw [e, this.2]
    · exact this.elim
  · cases a with
    | nil => rfl
    | cons p a => exact absurd ⟨p.2⟩ h
theorem assoc_put {α : Type} (a : List (Bs × α)) (s t : Bs) (v : α) : assoc (aput a s v) t = if t = s then some v else assoc a t := by
  induction a with
  | nil => simp [aput, assoc]
  | cons p a ih =>
    obtain ⟨k, u⟩ := p
    by_cases h : s = k
    · subst h
      simp only [aput, if_true, assoc]
      split <;> rfl
    · simp only [aput, if_neg h, assoc, ih]
      by_cases hk : t = k
      · subst hk
        rw [if_pos rfl, if_neg (fun e => h e.symm), if_pos rfl]
      · rw [if_neg hk, if_neg hk]
theorem inI64 {n : Int} (h1 : -9223372036854775808 ≤ n) (h2 : n ≤ 9223372036854775807) : InI64 n := ⟨h1, h2⟩
theorem get_of {α : Type} {l : List α} {k : Nat} {x : α} (h : l[k]? = some x) : ∃ hk : k < l.length, l[k] = x := List.getElem?_eq_some_iff.1 h
theorem u8_lt (c : UInt8) : (c.toNat : Int) < 256 := by have := c.toNat_lt; omega
theorem maxLen_le : 1099511627776 ≤ maxLen := by decide +kernel
theorem maxLen_i64 : maxLen ≤ 9223372036854775807 := by decide +kernel
theorem bytes_eq (l : Bs) : bytesL (l.map u8A) = some l := bytesL_map l
theorem toU8_val {n : Int} (h1 : 0 ≤ n) (h2 : n < 256) : ((toU8 n).toNat : Int) = n := by
  unfold toU8
  rw [UInt8.toNat_ofNat']
  omega
theorem toU8_toNat (c : UInt8) : toU8 c.toNat = c := by
  have := c.toNat_lt
  apply UInt8.toNat_inj.1
  have := toU8_val (n := c.toNat) (by omega) (by omega)
  omega
theorem toU8_nat (n : Nat) : toU8 (n : Int) = UInt8.ofNat n := by
  apply UInt8.toNat_inj.1
  unfold toU8
  rw [UInt8.toNat_ofNat', UInt8.toNat_ofNat']
  omega
theorem toU8_mod (n : Int) : ((toU8 n).toNat : Int) = n % 256 := by
  unfold toU8
  rw [UInt8.toNat_ofNat']
  omega
theorem tdiv_lit (n : Int) (k : Int) (hk : 0 < k) : (0 ≤ n ∧ n.tdiv k = n / k ∧ n.tmod k = n % k) ∨ (n < 0 ∧ n.tdiv k = -(-n / k) ∧ n.tmod k = -(-n % k)) := by
  by_cases h : 0 ≤ n
  · exact .inl ⟨h, Int.tdiv_eq_ediv_of_nonneg h, Int.tmod_eq_emod_of_nonneg h⟩
  · refine .inr ⟨by omega, ?_, ?_⟩
    · rw [← Int.tdiv_eq_ediv_of_nonneg (a := -n) (by omega), Int.neg_tdiv, Int.neg_neg]
    · rw [← Int.tmod_eq_emod_of_nonneg (a := -n) (by omega), Int.neg_tmod, Int.neg_neg]
/-- a type with a number, for the ways that meet -/
abbrev Cut (_ : Nat) (α : Type) : Type := α
theorem dT {p : Prop} [Decidable p] (h : decide p = true) : p := of_decide_eq_true h
theorem dF {p : Prop} [Decidable p] (h : decide p = false) : ¬ p := of_decide_eq_false h
theorem nT {b : Bool} (h : (!b) = true) : b = false := by simpa using h
theorem nF {b : Bool} (h : (!b) = false) : b = true := by simpa using h
theorem nTi {b : Bool} (h : b = false) : (!b) = true := by rw [h]; rfl
theorem nFi {b : Bool} (h : b = true) : (!b) = false := by rw [h]; rfl
theorem dnT {p : Prop} [Decidable p] (h : (!decide p) = true) : ¬ p := dF (nT h)
theorem dnF {p : Prop} [Decidable p] (h : (!decide p) = false) : p := dT (nF h)
theorem tD {p : Prop} [Decidable p] (h : p) : decide p = true := decide_eq_true h
theorem fD {p : Prop} [Decidable p] (h : ¬ p) : decide p = false := decide_eq_false h
theorem tnD {p : Prop} [Decidable p] (h : ¬ p) : (!decide p) = true := by simp [h]
theorem fnD {p : Prop} [Decidable p] (h : p) : (!decide p) = false := by simp [h]
end Go.Proofs.YtgjdmlhgapmflaaDoor
