/- The abstract machine: what its reading operations say of the model's operations. -/
import Derived.Test.YtgjdmlhgapmflaaDoorAm2
namespace Go.Proofs.YtgjdmlhgapmflaaDoor
set_option linter.unusedVariables false
set_option linter.unusedSimpArgs false

section
variable {S : Nat → Nat → Prop} {w : World} {H : List Hd} {v : Value}

theorem rep_ofV (v : Value) : Rep S w H v (AV.ofV v) := by
  unfold AV.ofV
  split
  · rename_i cs
    refine .agg (by simp) fun i y hy => ?_
    simp only [List.getElem?_map] at hy
    rcases hc : cs.toList[i]? with _ | u
    · rw [hc] at hy; cases hy
    · rw [hc] at hy
      simp only [Option.map_some, Option.some.injEq] at hy
      subst hy
      have : cs.getD i undef = u := by
        rw [Array.getElem?_toList] at hc
        rw [Array.getD_eq_getD_getElem?, hc]; rfl
      rw [this]; exact .val _ _
  · exact .val _ _

/-- the package variables lie where they lie -/
def GR (S : Nat → Nat → Prop) (w : World) (H : List Hd) : Prop := ∀ g l, GT g = some l → Rep S w H (.pointer (some ⟨g, 0, none⟩)) (.rptr l) ∧ ∀ o, l.length ≤ o → S g o ∧ w.cell? ⟨g, o, none⟩ = none
/-- the slots of a frame, and the package variables -/
structure FrOk (S : Nat → Nat → Prop) (w : World) (H : List Hd) (a : Act) (fr : List (Nat × AV)) : Prop where
  t : ∀ s, Rep S w H (a.tmps.getD s undef) (look fr s)
  g : GR S w H
instance {S : Nat → Nat → Prop} {w : World} {H : List Hd} {a : Act} {fr : List (Nat × AV)} : CoeFun (FrOk S w H a fr) (fun _ => ∀ s, Rep S w H (a.tmps.getD s undef) (look fr s)) := ⟨FrOk.t⟩
theorem rep_ev {a : Act} {fr : List (Nat × AV)} (h : FrOk S w H a fr) (x : Operand) : Rep S w H (a.eval x) (evA fr x) := by
  cases x with
  | tmp t => exact h.t t
  | const v => exact rep_ofV v
  | func f => exact .val _ _
  | global g =>
    simp only [evA]
    split
    · rename_i l hl; exact (h.g g l hl).1
    · exact .any _ _

theorem rep_val {u : Value} (h : Rep S w H v (.val u)) : v = u := by cases h; rfl
theorem rep_agg {l : List AV} (h : Rep S w H v (.agg l)) : ∃ cs : Array Value, v = .agg cs ∧ cs.size = l.length ∧ ∀ (i : Nat) (y : AV), l[i]? = some y → Rep S w H (cs.getD i undef) y := by
  cases h with
  | agg hn h => exact ⟨_, rfl, hn, h⟩
theorem rep_tuple {l : List AV} (h : Rep S w H v (.tuple l)) : ∃ cs : Array Value, v = .tuple cs ∧ cs.size = l.length ∧ ∀ (i : Nat) (y : AV), l[i]? = some y → Rep S w H (cs.getD i undef) y := by
  cases h with
  | tuple hn h => exact ⟨_, rfl, hn, h⟩

theorem valsOf_get : ∀ {l : List AV} {vs : List Value}, valsOf l = some vs → vs.length = l.length ∧ ∀ i : Nat, ∀ u, vs[i]? = some u → l[i]? = some (.val u)
  | [], vs, h => by simp [valsOf] at h; subst h; simp
  | .val v :: r, vs, h => by
    simp only [valsOf, Option.map_eq_some_iff] at h
    obtain ⟨vs', h1, rfl⟩ := h
    obtain ⟨h2, h3⟩ := valsOf_get h1
    refine ⟨by simp [h2], fun i u hu => ?_⟩
    cases i with
    | zero => simp at hu ⊢; exact hu
    | succ i => simp at hu ⊢; exact h3 i u hu
  | .any :: r, vs, h => by simp [valsOf] at h
  | .agg _ :: r, vs, h => by simp [valsOf] at h
  | .tuple _ :: r, vs, h => by simp [valsOf] at h
  | .slice _ _ :: r, vs, h => by simp [valsOf] at h
  | .row .. :: r, vs, h => by simp [valsOf] at h
  | .ptr .. :: r, vs, h => by simp [valsOf] at h
  | .elt .. :: r, vs, h => by simp [valsOf] at h
  | .rptr _ :: r, vs, h => by simp [valsOf] at h
  | .fn .. :: r, vs, h => by simp [valsOf] at h
  | .nif :: r, vs, h => by simp [valsOf] at h
  | .mp _ :: r, vs, h => by simp [valsOf] at h

theorem rep_toVal {av : AV} {u : Value} (h : Rep S w H v av) (ht : av.toVal = some u) : v = u := by
  unfold AV.toVal at ht
  split at ht
  · rename_i x; injection ht with ht; subst ht; exact rep_val h
  · rename_i l
    simp only [Option.map_eq_some_iff] at ht
    obtain ⟨vs, h1, rfl⟩ := ht
    obtain ⟨cs, rfl, hn, hc⟩ := rep_agg h
    obtain ⟨h2, h3⟩ := valsOf_get h1
    congr 1
    apply Array.ext_getElem?
    intro i
    by_cases hi : i < cs.size
    · have hi2 : i < vs.length := by omega
      have := rep_val (hc i _ (h3 i vs[i] (List.getElem?_eq_getElem hi2)))
      simp only [Array.getD_eq_getD_getElem?, Array.getElem?_eq_getElem hi, Option.getD_some] at this
      simp [hi, hi2, this]
    · simp [hi]; omega
  · cases ht
theorem toI_some {av : AV} {n : Int} (h : av.toI = some n) : ∃ k, av = .val (.int k n) := by
  unfold AV.toI at h
  split at h
  · injection h with h; subst h; exact ⟨_, rfl⟩
  · cases h
theorem toN_some {av : AV} {n : Nat} (h : av.toN = some n) : ∃ k, av = .val (.int k (n : Int)) := by
  unfold AV.toN at h
  split at h
  · rename_i x hx
    obtain ⟨k, rfl⟩ := toI_some hx
    split at h
    · rename_i h0
      injection h with h
      refine ⟨k, ?_⟩
      rw [← h, Int.toNat_of_nonneg h0]
    · cases h
  · cases h

/-- what a slice's elements are in memory -/
structure ElemsAt (w : World) (S : Nat → Nat → Prop) (v : Value) (l : List AV) : Prop where
  ex : ∃ (A : Option Addr) (c b off sz : Nat) (u : Nat → Nat → Value), v = .slice A l.length c ∧ l.length ≤ c ∧ (A = none → c = 0) ∧ (0 < l.length → A = some ⟨b, off, none⟩) ∧
    (∀ (i : Nat) (x : AV), l[i]? = some x → x.ground = true ∧ x.cells.length = sz) ∧
    ∀ (i : Nat) (x : AV) (j : Nat) (y : AV), l[i]? = some x → x.cells[j]? = some y → w.cell? ⟨b, off + i * sz + j, none⟩ = some (u i j) ∧ b < w.heap.size ∧ Rep S w [] (u i j) y

theorem cell_getD {w : World} {b o : Nat} {cs : Array Value} {t : TypeId} {fz : Nat × Nat} (h : w.heap[b]? = some (.cells cs t fz)) (ho : o < cs.size) : w.cell? ⟨b, o, none⟩ = some (cs.getD o undef) := by
  rw [cell_of_row w b o cs t fz h]
  simp [Array.getD_eq_getD_getElem?, ho]

theorem mul_lt_of {i n sz j : Nat} (hi : i < n) (hj : j < sz) : i * sz + j < n * sz := by
  have : (i + 1) * sz ≤ n * sz := Nat.mul_le_mul_right sz hi
  rw [Nat.add_mul, Nat.one_mul] at this
  omega

theorem rep_elems {X : Nat → Nat → Prop} {m : List MObj} {av : AV} {l : List AV} (hm : MemAt X w m H) (h : Rep (Stab X H w) w H v av) (he : elems m av = some l) : ElemsAt w (Stab X H w) v l := by
  unfold elems at he
  split at he
  · rename_i sz' l'
    injection he with he; subst he
    cases h with
    | slice b off _ u hc hz hA hsz hcell hrep =>
      exact ⟨_, _, b, off, _, u, rfl, hc, hz, hA, hsz, fun i x j y h1 h2 => ⟨(hcell i x j y h1 h2).1, (hcell i x j y h1 h2).2.1, hrep i x j y h1 h2⟩⟩
  · injection he with he; subst he
    have := rep_val h
    subst this
    exact ⟨none, 0, 0, 0, 0, fun _ _ => undef, rfl, Nat.le_refl _, fun _ => rfl, fun h => by simp at h, fun i x h => by simp at h, fun i x j y h => by simp at h⟩
  · rename_i id ver used off len
    split at he
    · rename_i v' s' l' wr ap hobj
      split at he
      · rename_i hv
        obtain ⟨rfl, hu⟩ := hv
        injection he with he
        cases h with
        | row id ver used off len hs hH hle hvv =>
          have hO := hm.obj _ _ _ hobj hH
          simp only [ObjAt] at hO
          obtain ⟨e1, e2, es, e3, e4, e5, e6⟩ := hO
          obtain ⟨g1, g2, A, rfl, g3, g4⟩ := hvv e1.symm (by omega)
          have hll : l.length = len := by rw [← he]; simp; omega
          have hget : ∀ (i : Nat) (x : AV), l[i]? = some x → l'[off + i]? = some x ∧ i < len := by
            intro i x hx
            have hlt : i < len := by have := (List.getElem?_eq_some_iff.1 hx).1; omega
            rw [← he, List.getElem?_take, if_pos hlt, List.getElem?_drop] at hx
            exact ⟨hx, hlt⟩
          rename_i b cap sz cver cused wr'
          refine ⟨A, cap - off, b, off * sz, sz, fun i j => ((w.heap[b]?).map (fun o => match o with | .cells cs _ _ => cs.getD ((off + i) * sz + j) undef | _ => undef)).getD undef, by rw [hll], by omega, g4, fun h0 => g3 (by omega), fun i x hx => e6 _ _ (hget i x hx).1, fun i x j y hx hy => ?_⟩
          obtain ⟨hx', hlt⟩ := hget i x hx
          obtain ⟨cur, t, fz, hh, _, _, hsz, hrep⟩ := e5 (by omega)
          have hjl := (List.getElem?_eq_some_iff.1 hy).1
          have hj : j < sz := by have := (e6 _ _ hx').2; omega
          have hlt2 : (off + i) * sz + j < cur.size := by rw [hsz]; exact mul_lt_of (by omega) hj
          have hr := hrep _ _ _ _ hx' hy
          have hbl := hm.lt _ _ b hH (by simp [Hd.blk]; omega)
          refine ⟨?_, hbl, ?_⟩
          · rw [hh]
            simp only [Option.map_some, Option.getD_some]
            rw [← Nat.add_mul]
            exact cell_getD hh hlt2
          · rw [hh]; simpa using hr
      · cases he
    · cases he
  · cases he

theorem rep_cellsAt {X : Nat → Nat → Prop} {m : List MObj} {av : AV} {l : List AV} (hm : MemAt X w m H) (h : Rep (Stab X H w) w H v av) (he : cellsAt m av = some l) (hl : 0 < l.length) :
    ∃ (b o : Nat) (u : Nat → Value), v = .pointer (some ⟨b, o, none⟩) ∧ b < w.heap.size ∧ ∀ (j : Nat) (y : AV), l[j]? = some y → w.cell? ⟨b, o + j, none⟩ = some (u j) ∧ Rep (Stab X H w) w H (u j) y := by
  unfold cellsAt at he
  split at he
  · rename_i l'
    injection he with he; subst he
    cases h with
    | rptr b o u hg hcell hrep =>
      have h0 := (hcell 0 _ (List.getElem?_eq_getElem hl)).2.1
      exact ⟨b, o, u, rfl, h0, fun j y hy => ⟨(hcell j y hy).1, (hrep j y hy).gr (hg j y hy) H⟩⟩
  · rename_i id off
    split at he
    · rename_i cs hobj
      injection he with he
      cases h with
      | ptr id off hH =>
        have hO := hm.obj _ _ _ hobj hH
        simp only [ObjAt] at hO
        obtain ⟨e1, cur, t, hh, hsz, hrep⟩ := hO
        rename_i b n
        refine ⟨b, off, fun j => cur.getD (off + j) undef, rfl, hm.lt _ _ b hH rfl, fun j y hy => ?_⟩
        rw [← he, List.getElem?_drop] at hy
        have hlt := (List.getElem?_eq_some_iff.1 hy).1
        exact ⟨cell_getD hh (by omega), hrep _ _ hy⟩
    · cases he
  · rename_i id ver used i fo
    split at he
    · rename_i v' s' l' wr ap hobj
      split at he
      · rename_i hv
        obtain ⟨rfl, hu⟩ := hv
        simp only [Option.map_eq_some_iff] at he
        obtain ⟨x, hx, he⟩ := he
        cases h with
        | elt id ver used i fo hs hH hle hvv =>
          have hO := hm.obj _ _ _ hobj hH
          simp only [ObjAt] at hO
          obtain ⟨e1, e2, es, e3, e4, e5, e6⟩ := hO
          obtain ⟨g1, rfl⟩ := hvv e1.symm (by omega)
          rename_i b cap sz cver cused wr'
          have hilt := (List.getElem?_eq_some_iff.1 hx).1
          obtain ⟨cur, t, fz, hh, _, _, hsz, hrep⟩ := e5 (by omega)
          refine ⟨b, i * sz + fo, fun j => cur.getD (i * sz + (fo + j)) undef, rfl, hm.lt _ _ b hH (by simp [Hd.blk]; omega), fun j y hy => ?_⟩
          rw [← he, List.getElem?_drop] at hy
          have hlt := (List.getElem?_eq_some_iff.1 hy).1
          obtain ⟨hgr, hlen⟩ := e6 _ _ hx
          have hlt2 : i * sz + (fo + j) < cur.size := by rw [hsz]; exact mul_lt_of (by omega) (by omega)
          refine ⟨by rw [Nat.add_assoc]; exact cell_getD hh hlt2, (hrep _ _ _ _ hx hy).gr ?_ H⟩
          have := List.all_eq_true.1 hgr y (List.mem_of_getElem? hy)
          exact this
      · cases he
    · cases he
  · cases he
end
end Go.Proofs.YtgjdmlhgapmflaaDoor
