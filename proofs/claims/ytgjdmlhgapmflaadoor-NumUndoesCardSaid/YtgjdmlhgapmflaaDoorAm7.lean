/- The abstract machine: values that are built, and all reading operations together. -/
import Derived.Test.YtgjdmlhgapmflaaDoorAm6
import Derived.Laws.Tables
namespace Go.Proofs.YtgjdmlhgapmflaaDoor
set_option linter.unusedVariables false
set_option linter.unusedSimpArgs false

section
variable {P : Program} {w : World} {S : Nat → Nat → Prop} {H : List Hd}

theorem rep_one {v : Value} {y : AV} (h : Rep S w H v y) (hy : y.isCell = true) : v.oneCell' = true ∧ v.cells = #[v] ∧ y.cells = [y] := by
  cases h with
  | any => simp [AV.isCell] at hy
  | agg => simp [AV.isCell] at hy
  | tuple => simp [AV.isCell] at hy
  | val H v => cases v <;> simp [AV.isCell] at hy <;> simp [Value.oneCell', Value.cells, AV.cells]
  | row id ver used off len hs =>
    obtain ⟨A, n, c, rfl⟩ := hs
    simp [Value.oneCell', Value.cells, AV.cells]
  | elt id ver used i fo hs =>
    obtain ⟨q, rfl⟩ := hs
    simp [Value.oneCell', Value.cells, AV.cells]
  | _ => simp [Value.oneCell', Value.cells, AV.cells]

/-- the cells of a value, one by one -/
def RepL (S : Nat → Nat → Prop) (w : World) (H : List Hd) (cs : Array Value) (l : List AV) : Prop := cs.size = l.length ∧ ∀ (i : Nat) (y : AV), l[i]? = some y → Rep S w H (cs.getD i undef) y
theorem rep_cells {v : Value} {av : AV} (h : Rep S w H v av) (hc : av.cells.all AV.isCell = true) : RepL S w H v.cells av.cells ∧ ∀ u ∈ v.cells.toList, u.oneCell' = true := by
  by_cases ha : ∃ l, av = .agg l
  · obtain ⟨l, rfl⟩ := ha
    obtain ⟨cs, rfl, hn, hcs⟩ := rep_agg h
    refine ⟨⟨hn, hcs⟩, fun u hu => ?_⟩
    obtain ⟨i, hi, rfl⟩ := List.mem_iff_getElem.1 hu
    simp only [Array.length_toList, Value.cells] at hi
    have hlt : i < l.length := by omega
    have hr := hcs i _ (List.getElem?_eq_getElem hlt)
    have := List.all_eq_true.1 hc l[i] (by simp [AV.cells])
    have h1 := (rep_one hr this).1
    simp only [Array.getD_eq_getD_getElem?, Array.getElem?_eq_getElem hi, Option.getD_some] at h1
    simpa [Value.cells] using h1
  · have e : av.cells = [av] := by
      cases av <;> first | rfl | exact absurd ⟨_, rfl⟩ ha
    rw [e] at hc ⊢
    simp only [List.all_cons, List.all_nil, Bool.and_true] at hc
    obtain ⟨h1, h2, _⟩ := rep_one h hc
    rw [h2]
    refine ⟨⟨rfl, fun i y hy => ?_⟩, fun u hu => ?_⟩
    · cases i with
      | zero => simp at hy; subst hy; simpa using h
      | succ i => simp at hy
    · simp at hu; subst hu; exact h1

theorem setRun_get (vs : List Value) : ∀ (k off : Nat) (cells : Array Value), (((vs.zipIdx k).foldl (fun cs (x : Value × Nat) => cs.setIfInBounds (off + x.2) x.1) cells).size = cells.size) ∧
    ∀ i, off + k + vs.length ≤ cells.size → ((vs.zipIdx k).foldl (fun cs (x : Value × Nat) => cs.setIfInBounds (off + x.2) x.1) cells).getD i undef = if off + k ≤ i ∧ i < off + k + vs.length then vs.getD (i - (off + k)) undef else cells.getD i undef := by
  induction vs with
  | nil => intro k off cells; simp; intro i _ h1 h2; omega
  | cons v r ih =>
    intro k off cells
    simp only [List.zipIdx_cons, List.foldl_cons]
    obtain ⟨h1, h2⟩ := ih (k + 1) off (cells.setIfInBounds (off + k) v)
    refine ⟨by rw [h1]; simp, fun i hb => ?_⟩
    simp only [List.length_cons] at hb
    rw [h2 i (by simp; omega)]
    simp only [List.length_cons]
    by_cases hi : off + (k + 1) ≤ i ∧ i < off + (k + 1) + r.length
    · rw [if_pos hi, if_pos (by omega), show i - (off + k) = (i - (off + (k + 1))) + 1 from by omega]
      simp
    · rw [if_neg hi]
      by_cases he : i = off + k
      · subst he
        rw [if_pos (by omega)]
        simp [Array.getD_eq_getD_getElem?, show off + k < cells.size from by omega]
      · rw [if_neg (by omega)]
        simp only [Array.getD_eq_getD_getElem?]
        rw [Array.getElem?_setIfInBounds_ne (by omega)]

theorem fill_rep {a : Act} {fr : List (Nat × AV)} (hr : FrOk S w H a fr) (place : Nat → Option (Nat × Nat)) :
    ∀ (parts : List (Nat × Operand)) (pl : List (Nat × Nat × Operand)) (cells : Array Value) (l l' : List AV), partsOf P place parts = some pl → RepL S w H cells l → fillA fr l pl = some l' →
      ∃ cells', Instr.fill place cells (parts.map fun p => (p.1, a.eval p.2)) = some cells' ∧ RepL S w H cells' l' := by
  intro parts
  induction parts with
  | nil => intro pl cells l l' h1 h2 h3; simp [partsOf] at h1; subst h1; simp [fillA] at h3; subst h3; exact ⟨cells, rfl, h2⟩
  | cons p r ih =>
    intro pl cells l l' h1 h2 h3
    obtain ⟨i, x⟩ := p
    simp only [partsOf] at h1
    split at h1
    · rename_i o s pl' hp hpl
      injection h1 with h1; subst h1
      simp only [fillA] at h3
      split at h3
      · rename_i hc
        obtain ⟨c1, c2, c3⟩ := hc
        obtain ⟨⟨e1, e2⟩, _⟩ := rep_cells (rep_ev hr x) c3
        obtain ⟨g1, g2⟩ := setRun_get (a.eval x).cells.toList 0 o cells
        have hsz : (a.eval x).cells.toList.length = s := by simp [e1, c1]
        have hfold : (a.eval x).cells.zipIdx.foldl (fun cs (x : Value × Nat) => cs.setIfInBounds (o + x.2) x.1) cells = ((a.eval x).cells.toList.zipIdx 0).foldl (fun cs (x : Value × Nat) => cs.setIfInBounds (o + x.2) x.1) cells := by
          rw [← Array.foldl_toList, Array.toList_zipIdx]
        have hrep : RepL S w H ((a.eval x).cells.zipIdx.foldl (fun cs (x : Value × Nat) => cs.setIfInBounds (o + x.2) x.1) cells) (l.take o ++ (evA fr x).cells ++ l.drop (o + s)) := by
          rw [hfold]
          refine ⟨by rw [g1, h2.1]; simp; omega, fun j y hy => ?_⟩
          rw [g2 j (by rw [hsz, h2.1]; omega), hsz]
          rw [List.append_assoc, List.getElem?_append, List.length_take, Nat.min_eq_left (by omega)] at hy
          split at hy
          · rename_i hj
            rw [if_neg (by omega)]
            rw [List.getElem?_take, if_pos hj] at hy
            exact h2.2 _ _ hy
          · rename_i hj
            rw [List.getElem?_append, c1] at hy
            split at hy
            · rename_i hj2
              rw [if_pos (by omega)]
              have := e2 _ _ hy
              simpa using this
            · rename_i hj2
              rw [if_neg (by omega)]
              rw [List.getElem?_drop] at hy
              have := h2.2 _ _ hy
              rwa [show o + s + (j - o - s) = j from by omega] at this
        obtain ⟨cells', hf, hr'⟩ := ih pl' _ _ _ hpl hrep h3
        refine ⟨cells', ?_, hr'⟩
        simp only [List.map_cons, Instr.fill, hp]
        rw [if_neg (by have := e1; have := h2.1; simp at *; omega)]
        exact hf
      · cases h3
    · cases h1

theorem repL_vals (cs : Array Value) : RepL S w H cs (cs.toList.map .val) := by
  refine ⟨by simp, fun i y hy => ?_⟩
  simp only [List.getElem?_map, Array.getElem?_toList] at hy
  rcases hc : cs[i]? with _ | u
  · rw [hc] at hy; cases hy
  · rw [hc] at hy
    simp only [Option.map_some, Option.some.injEq] at hy
    subst hy
    rw [Array.getD_eq_getD_getElem?, hc]
    exact .val _ _
end
end Go.Proofs.YtgjdmlhgapmflaaDoor
