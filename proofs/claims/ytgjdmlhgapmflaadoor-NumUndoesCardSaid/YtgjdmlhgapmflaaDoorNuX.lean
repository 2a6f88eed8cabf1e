/- Itoa and Atoi of the library: their contracts, as the machine takes them. -/
import Derived.Test.YtgjdmlhgapmflaaDoorNuP
import Derived.Test.YtgjdmlhgapmflaaDoorSh
import Derived.Lib.AtoiErrMem
import Derived.Lib.ItoaMem
import Derived.Lib.AppendIntMem
namespace Go.Proofs.YtgjdmlhgapmflaaDoor
set_option linter.unusedVariables false
set_option linter.unusedSimpArgs false
set_option maxRecDepth 100000
/-- the cells of a package variable -/
theorem gr_cells {w : World} {S : Nat → Nat → Prop} {g : Nat} {l : List AV} (h : GR S w []) (hg : GT g = some l) (hl : 0 < l.length) : ∃ (cs : Array Value) (t : TypeId) (fz : Nat × Nat), w.heap[g]? = some (.cells cs t fz) ∧ cs.size = l.length ∧ ∀ (j : Nat) (y : AV), l[j]? = some y → ∃ u, cs[j]? = some u ∧ Rep S w [] u y := by
  obtain ⟨h1, h2⟩ := h g l hg
  cases h1 with
  | rptr b o u hgr hcell hrep =>
    have h0 := (hcell 0 _ (List.getElem?_eq_getElem hl)).1
    simp only [World.cell?] at h0
    split at h0
    · rename_i cs t fz hh
      have hc : ∀ j, w.cell? ⟨g, j, none⟩ = cs[j]? := fun j => by simp [World.cell?, hh]
      refine ⟨cs, t, fz, hh, ?_, fun j y hy => ⟨u j, ?_, hrep j y hy⟩⟩
      · have hn := (h2 l.length (Nat.le_refl _)).2
        rw [hc] at hn
        have h3 : cs.size ≤ l.length := by
          rcases Nat.lt_or_ge l.length cs.size with q | q
          · rw [Array.getElem?_eq_getElem q] at hn; cases hn
          · exact q
        have h4 := (hcell (l.length - 1) _ (List.getElem?_eq_getElem (by omega))).1
        rw [hc] at h4
        have := (Array.getElem?_eq_some_iff.1 h4).1
        omega
      · have := (hcell j y hy).1
        rw [Nat.zero_add, hc] at this
        exact this
    · cases h0
theorem gr_nif {w : World} {S : Nat → Nat → Prop} {g : Nat} (h : GR S w []) (hg : GT g = some [.nif]) : ∃ ev, w.cell? ⟨g, 0, none⟩ = some ev ∧ (ev = .nilIface ∨ ∃ te pe, ev = .iface te pe) := by
  obtain ⟨cs, t, fz, hh, hs, hc⟩ := gr_cells h hg (by decide)
  obtain ⟨u, hu, hr⟩ := hc 0 .nif rfl
  refine ⟨u, by simp [World.cell?, hh, hu], ?_⟩
  cases hr with
  | nif H t v => exact .inr ⟨t, v, rfl⟩
theorem gr_tab {w : World} {S : Nat → Nat → Prop} {g : Nat} {n : String} (h : GR S w []) (hn : Tryd.prog.globalNamed n = some g) (hg : GT g = some (ints64 pow10L)) : Lib.TabIs Tryd.prog w n .u64 Lib.pow10Tab := by
  obtain ⟨cs, t, fz, hh, hs, hc⟩ := gr_cells h hg (by decide)
  unfold Lib.TabIs World.var?
  rw [hn]
  simp only [Option.bind_some, hh, Option.some.injEq]
  have hl : (ints64 pow10L).length = 20 := rfl
  have hp : ∀ j, j < 20 → (ints64 pow10L)[j]? = some (.val (.int .u64 ((10 ^ j : Nat) : Int))) := fun j hj => by
    have h : ∀ i : Fin 20, pow10L[i.val]? = some (10 ^ i.val) := by decide +kernel
    unfold ints64
    rw [List.getElem?_map, h ⟨j, hj⟩]; rfl
  apply Array.ext
  · rw [hs, hl]; simp [Lib.pow10Tab]
  · intro i h1 h2
    have hi : i < 20 := by omega
    obtain ⟨u, hu, hr⟩ := hc i _ (hp i hi)
    have e := rep_val hr
    subst e
    rw [Array.getElem?_eq_getElem h1] at hu
    rw [Option.some.inj hu]
    simp [Lib.pow10Tab]
theorem val1 {w : World} {S : Nat → Nat → Prop} {cs : Array Value} {a : Value} (h : RepL S w [] cs [.val a]) : cs = #[a] := by
  obtain ⟨hn, hr⟩ := h
  have e0 := rep_val (hr 0 _ rfl)
  apply Array.ext
  · simpa using hn
  · intro i h1 h2
    have h3 : i = 0 := by simp at h2; omega
    subst h3
    rw [Array.getD_eq_getD_getElem?, Array.getElem?_eq_getElem h1] at e0
    exact e0
theorem val2 {w : World} {S : Nat → Nat → Prop} {cs : Array Value} {a b : Value} (h : RepL S w [] cs [.val a, .val b]) : cs = #[a, b] := by
  obtain ⟨hn, hr⟩ := h
  have e0 := rep_val (hr 0 _ rfl)
  have e1 := rep_val (hr 1 _ rfl)
  apply Array.ext
  · simpa using hn
  · intro i h1 h2
    rw [Array.getD_eq_getD_getElem?] at e0 e1
    have h3 : i < 2 := by simpa using h2
    rcases i with _ | _ | i
    · rw [Array.getElem?_eq_getElem h1] at e0; exact e0
    · rw [Array.getElem?_eq_getElem h1] at e1; exact e1
    · omega
/-- Itoa -/
def itoaX : List AV → Option AV
  | [.val (.int .i64 n)] => if InI64 n then some (strL (Lib.itoa n)) else none
  | _ => none
/-- Atoi -/
def atoiX : List AV → Option AV
  | [.val (.string s)] => if s.size ≤ 281474976710656 then (match Lib.atoiAll s.data.toList with
    | .ok v => some (.tuple [intA v, .val .nilIface])
    | .syntax => some (.tuple [intA 0, .nif])
    | .range => some (.tuple [intA (Lib.atoiSat s.data.toList), .nif])) else none
  | _ => none
theorem itoaX_ok {vs : List AV} {r : AV} (h : itoaX vs = some r) : CallOk Tryd.prog 28 vs r := by
  unfold itoaX at h
  split at h
  · rename_i n
    split at h
    · rename_i hn
      cases h
      intro X w cs hX hG hr
      obtain rfl := val1 hr
      refine (Tryd.strconv_Itoa n hn.1 hn.2 w (gr_tab (g := 3) hG (by kernel_rfl) rfl)).mono fun e w' ⟨he, k, os, hw⟩ => ?_
      subst he hw
      exact ⟨_, rfl, .val _ _, Fr.of_below (Lib.below_grow _ w (Nat.le_refl _) k os)⟩
    · cases h
  · cases h
theorem rep_tuple2 {S : Nat → Nat → Prop} {w : World} {H : List Hd} {u v : Value} {x y : AV} (h : Rep S w H u x) (h' : Rep S w H v y) : Rep S w H (.tuple #[u, v]) (.tuple [x, y]) := .tuple rfl fun i z hz => by
  match i, hz with
  | 0, hz => cases hz; exact h
  | 1, hz => cases hz; exact h'
theorem atoiX_ok {vs : List AV} {r : AV} (h : atoiX vs = some r) : CallOk Tryd.prog 26 vs r := by
  unfold atoiX at h
  split at h
  · rename_i s
    split at h
    · rename_i hs
      split at h
      · rename_i v hv
        cases h
        intro X w cs hX hG hr
        obtain rfl := val1 hr
        refine (Tryd.strconv_Atoi_ok s (by omega) v hv w).mono fun e w' ⟨he, hw⟩ => ?_
        subst he
        refine ⟨_, rfl, rep_tuple2 (.val _ _) (.val _ _), ?_⟩
        rcases hw with rfl | ⟨t, rfl⟩
        · exact Fr.refl _ _
        · exact Fr.of_below (Lib.bytesWorld_below _ _ _)
      · rename_i hv
        cases h
        intro X w cs hX hG hr
        obtain rfl := val1 hr
        obtain ⟨ev, h1, h2⟩ := gr_nif (g := 1) hG rfl
        refine (Tryd.strconv_Atoi_syntax s hs hv ev w h1 h2).mono fun e w' ⟨n, he, _, _, hb⟩ => ?_
        subst he
        exact ⟨_, rfl, rep_tuple2 (.val _ _) (.nif _ _ _), Fr.of_below hb⟩
      · rename_i hv
        cases h
        intro X w cs hX hG hr
        obtain rfl := val1 hr
        obtain ⟨ev, h1, h2⟩ := gr_nif (g := 2) hG rfl
        refine (Tryd.strconv_Atoi_range s hs hv ev w h1 h2).mono fun e w' ⟨n, he, _, _, hb⟩ => ?_
        subst he
        exact ⟨_, rfl, rep_tuple2 (.val _ _) (.nif _ _ _), Fr.of_below hb⟩
    · cases h
  · cases h
end Go.Proofs.YtgjdmlhgapmflaaDoor
