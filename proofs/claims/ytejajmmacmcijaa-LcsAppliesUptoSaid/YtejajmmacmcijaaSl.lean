/- Slices: what is read of one, a row that the call made and writes, an append onto a row of the call's own. No program is named here. -/
import Derived.Test.YtejajmmacmcijaaMem
namespace Go.Proofs.Ytejajmmacmcijaa
set_option linter.unusedVariables false
set_option linter.unusedSimpArgs false
open Go.RowKit Go.MapKept Go.ChangeMaps

/-- a slice value whose n elements, of one cell each, read as f -/
def Sl (w : World) (A : Option Addr) (n : Nat) (f : Nat → Value) : Prop :=
  0 < n → ∃ b off, A = some ⟨b, off, none⟩ ∧ b < w.heap.size ∧ ∀ i, i < n → w.cell? ⟨b, off + i, none⟩ = some (f i)

section
variable {w w' : World} {A : Option Addr} {n : Nat} {f : Nat → Value} {L : Nat → Prop}
theorem Sl.fr (h : Sl w A n f) (hf : Fr (fun _ => False) w w') : Sl w' A n f := by
  intro hn
  obtain ⟨b, off, e, hlt, hc⟩ := h hn
  exact ⟨b, off, e, Nat.lt_of_lt_of_le hlt hf.size, fun i hi => (World.cell?_of_block (hf.block b hlt fun q => q)).trans (hc i hi)⟩
theorem Sl.frB (h : Sl w A n f) {B : Nat} (hB : B = w.heap.size) (hf : Below B w w') : Sl w' A n f := by subst hB; exact h.fr (Fr.of_below hf)
theorem Sl.congr {g : Nat → Value} (h : Sl w A n f) (hg : ∀ i, i < n → f i = g i) : Sl w A n g := by
  intro hn
  obtain ⟨b, off, e, hlt, hc⟩ := h hn
  exact ⟨b, off, e, hlt, fun i hi => by rw [hc i hi, hg i hi]⟩
theorem Sl.heq (h : Sl w A n f) (hw : w'.heap = w.heap) : Sl w' A n f := by
  intro hn
  obtain ⟨b, off, e, hlt, hc⟩ := h hn
  exact ⟨b, off, e, by rw [hw]; exact hlt, fun i hi => (World.cell?_of_block (by rw [hw])).trans (hc i hi)⟩
end

/-- a row that the call made: n elements of one cell each, known as a function; it may be written -/
def RowAt (w : World) (g : Nat) (e : TypeId) (n : Nat) (f : Nat → Value) : Prop :=
  ∃ cur : Array Value, w.heap[g]? = some (.cells cur e (0, 0)) ∧ cur.size = n ∧ ∀ i, i < n → cur[i]? = some (f i)

section
variable {w w' : World} {g n : Nat} {e : TypeId} {f : Nat → Value} {L : Nat → Prop}
theorem RowAt.lt (h : RowAt w g e n f) : g < w.heap.size := by obtain ⟨cur, hh, _⟩ := h; exact lt_of_heap hh
theorem RowAt.cell (h : RowAt w g e n f) {i : Nat} (hi : i < n) : w.cell? ⟨g, i, none⟩ = some (f i) := by
  obtain ⟨cur, hh, hs, hc⟩ := h
  rw [cell_of_heap hh]; exact hc i hi
theorem RowAt.free (h : RowAt w g e n f) (i : Nat) : w.frozen? ⟨g, i, none⟩ = false := by obtain ⟨cur, hh, _⟩ := h; exact free_of_heap hh i
theorem RowAt.keep (h : RowAt w g e n f) (hf : w'.heap[g]? = w.heap[g]?) : RowAt w' g e n f := by obtain ⟨cur, hh, r⟩ := h; exact ⟨cur, hf.trans hh, r⟩
theorem RowAt.fr (h : RowAt w g e n f) (hf : Fr L w w') (hL : ¬ L g) : RowAt w' g e n f := h.keep (hf.block g h.lt hL)
theorem RowAt.set (h : RowAt w g e n f) (i : Nat) (v : Value) : RowAt (w.setCell ⟨g, i, none⟩ v) g e n (fun j => if j = i then v else f j) := by
  obtain ⟨cur, hh, hs, hc⟩ := h
  refine ⟨cur.setIfInBounds i v, heap_setCell_same _ _ _ _ hh, by simpa using hs, fun j hj => ?_⟩
  by_cases hji : j = i
  · subst hji; simp [hs, hj]
  · simp only [hji, if_false]; rw [Array.getElem?_setIfInBounds_ne (Ne.symm hji)]; exact hc j hj
theorem RowAt.congr {f' : Nat → Value} (h : RowAt w g e n f) (hg : ∀ i, i < n → f i = f' i) : RowAt w g e n f' := by
  obtain ⟨cur, hh, hs, hc⟩ := h
  exact ⟨cur, hh, hs, fun i hi => by rw [hc i hi, hg i hi]⟩
theorem RowAt.sl (h : RowAt w g e n f) : Sl w (some ⟨g, 0, none⟩) n f := fun _ => ⟨g, 0, rfl, h.lt, fun i hi => by rw [Nat.zero_add]; exact h.cell hi⟩
theorem RowAt.sl' (h : RowAt w g e n f) {m : Nat} (hm : m ≤ n) : Sl w (some ⟨g, 0, none⟩) m f := fun _ => ⟨g, 0, rfl, h.lt, fun i hi => by rw [Nat.zero_add]; exact h.cell (by omega)⟩
end

/-- make([]T, n), T of one cell -/
theorem run_make_row {P : Program} (w : World) {t e : TypeId} {z : Value} {bytes : Nat} (ht : P.underlying t = some (.slice e)) (hinfo : (P.info? e).map (fun i => (i.zero, i.size, i.bytes)) = some (some z, 1, bytes)) (hz : z.cells = #[z])
    (kl kc : IntKind) (n : Nat) (hb : bytes * n ≤ 281474976710656) (hm : n ≤ maxLen) :
    ∃ w', (Instr.makeSlice t (.int kl (n : Int)) (.int kc (n : Int))).run P w = .ok (.slice (some ⟨w.heap.size, 0, none⟩) n n) w' ∧ RowAt w' w.heap.size e n (fun _ => z) ∧ Fr (fun _ => False) w w' := by
  obtain ⟨i0, hi, hz0, hz1, hz2⟩ := info_parts hinfo
  obtain ⟨w', hrun, hown, hg⟩ := run_make_full (P := P) w w.heap.size t e i0 z 1 ht hi hz0 hz1 kl kc n (by rw [hz2]; exact hb) hm (Nat.le_refl _)
  refine ⟨w', hrun, ?_, (Fr.of_grown hg).mono fun _ _ q => by cases q⟩
  rcases hown.2 with ⟨h, _⟩ | ⟨g, cap, cur, hv, _, hh, hle, _, hsz, htake⟩
  · cases h
  · injection hv with hv1 hv2 hv3
    injection hv1 with hv1
    injection hv1 with hv1
    subst hv1
    have hcap : cap = n := by omega
    subst hcap
    refine ⟨cur, hh, by omega, fun i hi => ?_⟩
    have h1 := congrArg (fun l : List Value => l[i]?) htake
    simp only [Nat.mul_one, List.getElem?_take, hi, if_true] at h1
    have h2 : (madeCells z.cells cap).toList[i]? = some z := by
      rw [hz]
      simp [madeCells, hi, Nat.mod_one]
    simpa using h1.trans h2

/-- append(v, m elements of one or more cells), onto a row of the call's own -/
theorem run_append_row {P : Program} {w : World} {base : Nat} {t ty e : TypeId} {z : Value} {size bytes : Nat} (ht : P.underlying t = some (.slice e)) (hinfo : (P.info? e).map (fun i => (i.zero, i.size, i.bytes)) = some (some z, size, bytes)) (hzs : z.cells.size = size) (hsz : 0 < size)
    {v : Value} {n : Nat} {xs : List Value} (hown : w.ownsRow base e size v n xs) {A : Option Addr} {m c : Nat} {news : List Value} (hl : news.length = m * size)
    (hA : m = 0 ∨ ∃ b off, A = some ⟨b, off, none⟩ ∧ ∀ j u, news[j]? = some u → w.cell? ⟨b, off + j, none⟩ = some u) (hnil : A = none → m = 0 ∧ c = 0) (h1 : ∀ u ∈ news, u.oneCell' = true)
    (h63 : n + m ≤ maxLen) (hbytes : (n + m) * bytes ≤ 140737488355328) (hbase : base ≤ w.heap.size) :
    ∃ v' w', (Builtin.append_ #[t, t] ty #[v, .slice A m c]).run P w = .ok v' w' ∧ w'.ownsRow base e size v' (n + m) (xs ++ news) ∧ w.grownBy w' v.ownBlock := by
  obtain ⟨i0, hi, hz0, hz1, hz2⟩ := info_parts hinfo
  rcases A with _ | ad
  · obtain ⟨rfl, rfl⟩ := hnil rfl
    have hn : news = [] := List.eq_nil_of_length_eq_zero (by simpa using hl)
    subst hn
    refine ⟨v, w, ?_, by simpa using hown, World.grownBy.refl w _⟩
    rcases hown.2 with ⟨rfl, rfl⟩ | ⟨g, cap, cur, rfl, _, _, hnc, _⟩
    · simp [Builtin.append_, run_underlying ht, sizeOf, typeInfo, hi, Builtin.lenOf, Builtin.firstCells]
    · simp [Builtin.append_, run_underlying ht, sizeOf, typeInfo, hi, Builtin.lenOf, Builtin.firstCells, hnc, storeCells]
  · have hcells : ∀ j u, news[j]? = some u → w.cell? (ad.add j) = some u := by
      intro j u hu
      rcases hA with h0 | ⟨b, off, e', hc⟩
      · subst h0
        have : news = [] := List.eq_nil_of_length_eq_zero (by simpa using hl)
        subst this; simp at hu
      · injection e' with e'
        subst e'
        have := hc j u hu
        unfold Addr.add
        split
        · rename_i hj; subst hj; simpa using this
        · exact this
    obtain ⟨v', w', h1', h2', h3', _⟩ := run_append_own w base t ty e i0 z size bytes ht hi hz0 hz1 hz2 hzs hsz v n xs hown ad m c news hl hcells h1 h63 hbytes hbase
    exact ⟨v', w', h1', h2', h3'⟩
end Go.Proofs.Ytejajmmacmcijaa
