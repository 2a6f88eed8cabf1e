/- The abstract machine: from what came in to what it says of it, and from its answer to the statement's step. -/
import Derived.Test.YtgjdmlhgapmflaaDoorClose
import Derived.Test.YtgjdmlhgapmflaaDoorAmW4
namespace Go.Proofs.YtgjdmlhgapmflaaDoor
set_option linter.unusedVariables false
set_option linter.unusedSimpArgs false
open Go.RowKit Go.ChangeShapes Go.WideShapes Go.ChangeAt Go.Deep
open Go.ChangeMaps (open_string shut_string)

/-- the cells that are there -/
abbrev S0 (w : World) : Nat → Nat → Prop := Stab (fun _ _ => False) [] w
theorem s0_of {w : World} {b : Nat} (h : b < w.heap.size) (o : Nat) : S0 w b o := ⟨h, fun h => h.elim, by rintro ⟨i, k, hk, _⟩; simp at hk⟩
theorem rep_sl {w : World} {sz : Nat} {A : Option Addr} {n c : Nat} {css : Nat → List Value} (hS : SlAt w sz A n (fun i j => (css i)[j]?)) (hnc : n ≤ c) (hnil : A = none → n = 0 ∧ c = 0) (el : Nat → AV)
    (hel : ∀ i, i < n → (el i).ground = true ∧ (el i).cells.length = sz ∧ (css i).length = sz ∧ ∀ (j : Nat) (y : AV) (u : Value), (el i).cells[j]? = some y → (css i)[j]? = some u → Rep (S0 w) w [] u y) :
    Rep (S0 w) w [] (.slice A n c) (.slice sz ((List.range n).map el)) := by
  have hlen : ((List.range n).map el).length = n := by simp
  have key : ∀ (i : Nat) (x : AV), ((List.range n).map el)[i]? = some x → i < n ∧ x = el i := fun i x hx => by
    have hi : i < n := by have := (List.getElem?_eq_some_iff.1 hx).1; omega
    rw [List.getElem?_map, List.getElem?_range hi] at hx
    injection hx with hx
    exact ⟨hi, hx.symm⟩
  by_cases hn : 0 < n
  · obtain ⟨b, off, rfl, hb, hat⟩ := hS hn
    have := Rep.slice (S := S0 w) (w := w) (H := []) (A := some ⟨b, off, none⟩) (c := c) (l := (List.range n).map el) b off sz (fun i j => ((css i)[j]?).getD undef) (by omega) (fun h => by cases h) (fun _ => rfl)
      (fun i x hx => by obtain ⟨hi, rfl⟩ := key i x hx; exact ⟨(hel i hi).1, (hel i hi).2.1⟩)
      (fun i x j y hx hy => by
        obtain ⟨hi, rfl⟩ := key i x hx
        obtain ⟨-, h2, h3, -⟩ := hel i hi
        have hj : j < sz := by have := (List.getElem?_eq_some_iff.1 hy).1; omega
        refine ⟨?_, s0_of hb _⟩
        rw [hat i hi j hj]
        show (css i)[j]? = some (((css i)[j]?).getD undef)
        rw [List.getElem?_eq_getElem (by omega), Option.getD_some])
      (fun i x j y hx hy => by
        obtain ⟨hi, rfl⟩ := key i x hx
        obtain ⟨-, h2, h3, h4⟩ := hel i hi
        have hj : j < sz := by have := (List.getElem?_eq_some_iff.1 hy).1; omega
        refine h4 j y _ hy ?_
        rw [List.getElem?_eq_getElem (by omega), Option.getD_some])
    rw [hlen] at this
    exact this
  · have hn0 : n = 0 := by omega
    subst hn0
    exact Rep.slice (S := S0 w) (w := w) (H := []) (A := A) (c := c) (l := []) 0 0 sz (fun _ _ => undef) (by simp) (fun h => (hnil h).2) (fun h => by simp at h) (fun i x hx => by simp at hx) (fun i x j y hx => by simp at hx) (fun i x j y hx => by simp at hx)

/-- what is known of the values of a list of arguments -/
theorem repL_of1 {S : Nat → Nat → Prop} {w : World} {v : Value} {x : AV} (h : Rep S w [] v x) : RepL S w [] #[v] [x] := ⟨rfl, fun i y hy => by
  match i, hy with
  | 0, hy => cases hy; exact h⟩
theorem repL_of2 {S : Nat → Nat → Prop} {w : World} {v v' : Value} {x x' : AV} (h : Rep S w [] v x) (h' : Rep S w [] v' x') : RepL S w [] #[v, v'] [x, x'] := ⟨rfl, fun i y hy => by
  match i, hy with
  | 0, hy => cases hy; exact h
  | 1, hy => cases hy; exact h'⟩
theorem repL_of3 {S : Nat → Nat → Prop} {w : World} {v v' v'' : Value} {x x' x'' : AV} (h : Rep S w [] v x) (h' : Rep S w [] v' x') (h'' : Rep S w [] v'' x'') : RepL S w [] #[v, v', v''] [x, x', x''] := ⟨rfl, fun i y hy => by
  match i, hy with
  | 0, hy => cases hy; exact h
  | 1, hy => cases hy; exact h'
  | 2, hy => cases hy; exact h''⟩
theorem repL_of4 {S : Nat → Nat → Prop} {w : World} {v v' v'' v3 : Value} {x x' x'' x3 : AV} (h : Rep S w [] v x) (h' : Rep S w [] v' x') (h'' : Rep S w [] v'' x'') (h3 : Rep S w [] v3 x3) : RepL S w [] #[v, v', v'', v3] [x, x', x'', x3] := ⟨rfl, fun i y hy => by
  match i, hy with
  | 0, hy => cases hy; exact h
  | 1, hy => cases hy; exact h'
  | 2, hy => cases hy; exact h''
  | 3, hy => cases hy; exact h3⟩
/-- true is the answer -/
theorem calls_true {f : FuncId} {vs : Array Value} {avs : List AV} {w : World} (hc : CallOk Tryd.prog f avs (boolA true)) (hG : GR (S0 w) w []) (h : RepL (S0 w) w [] vs avs) : Calls Tryd.prog f vs w fun e w' => e = .returned (.bool true) ∧ Below w.heap.size w w' := by
  refine (hc (fun _ _ => False) w vs (fun _ _ h => h.elim) hG h).mono fun e w' ⟨v, h1, h2, h3⟩ => ⟨?_, h3.none_below⟩
  rw [h1]
  have := rep_val h2
  rw [this]
/-- a package variable that came in -/
theorem gr_of_var {w : World} {n : String} {g : Nat} {cs : Array Value} {l : List AV} (hn : Tryd.prog.globalNamed n = some g) (hv : w.var? Tryd.prog n = some cs) (hl : cs.size = l.length) (hr : ∀ (j : Nat) (y : AV), l[j]? = some y → y.grCell = true ∧ ∃ u, cs[j]? = some u ∧ Rep (S0 w) w [] u y) :
    Rep (S0 w) w [] (.pointer (some ⟨g, 0, none⟩)) (.rptr l) ∧ ∀ o, l.length ≤ o → S0 w g o ∧ w.cell? ⟨g, o, none⟩ = none := by
  unfold World.var? at hv
  rw [hn] at hv
  simp only [Option.bind_some] at hv
  split at hv
  · rename_i cs' t fz hh
    injection hv with hv
    subst hv
    have hc : ∀ j, w.cell? ⟨g, j, none⟩ = cs'[j]? := fun j => by simp [World.cell?, hh]
    have hlt : g < w.heap.size := (Array.getElem?_eq_some_iff.1 hh).1
    refine ⟨.rptr g 0 (fun j => cs'.getD j undef) (fun j y hy => (hr j y hy).1) (fun j y hy => ?_) (fun j y hy => ?_), fun o ho => ⟨s0_of hlt _, by rw [hc, Array.getElem?_eq_none (by omega)]⟩⟩
    · obtain ⟨-, u, hu, -⟩ := hr j y hy
      rw [Nat.zero_add, hc]
      exact ⟨by rw [hu, Array.getD_eq_getD_getElem?, hu]; rfl, s0_of hlt _⟩
    · obtain ⟨-, u, hu, hrep⟩ := hr j y hy
      rw [Array.getD_eq_getD_getElem?, hu]; exact hrep
  · cases hv
end Go.Proofs.YtgjdmlhgapmflaaDoor
