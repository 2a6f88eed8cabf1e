/- The abstract machine: values that are shut, and what is made anew. -/
import Derived.Test.YtgjdmlhgapmflaaDoorAm9
namespace Go.Proofs.YtgjdmlhgapmflaaDoor
set_option linter.unusedVariables false
set_option linter.unusedSimpArgs false

section
variable {P : Program} {X : Nat → Nat → Prop} {w0 : Base} {w w' : World} {N : Nat} {st : St} {a : Act} {m : List MObj} {H H' : List Hd} {v : Value} {y y' : AV}

theorem frzCell_rep {S' : Nat → Nat → Prop} (hm : MemAt X w m H) (h : Rep (Stab X H w) w H v y) (hf : frzCell m y = some y') (hS : ∀ b o, Stab X H w b o → S' b o)
    (hR : ∀ id ver used off len, y = .row id ver used off len → ∀ b cap sz cver cused wr, H[id]? = some (.row b cap sz cver cused wr) → 0 < cap → b < w.heap.size → ∀ o, o < cused * sz → S' b o) : Rep S' w [] v y' ∧ y'.grCell = true := by
  have mono : ∀ {v y}, Rep (Stab X H w) w [] v y → Rep S' w [] v y := fun h => h.mono (fun b o q => ⟨hS b o q, rfl⟩) (HLe.refl _)
  by_cases hrow : ∃ id ver used off len, y = .row id ver used off len
  · obtain ⟨id, ver, used, off, len, rfl⟩ := hrow
    simp only [frzCell] at hf
    split at hf
    · rename_i v' s l wr ap hobj
      split at hf
      · rename_i hv
        obtain ⟨rfl, hu⟩ := hv
        injection hf with hf; subst hf
        cases h with
        | row id ver used off len hs hH hle hvv =>
          rename_i b cap sz cver cused wr'
          have hO := hm.obj _ _ _ hobj hH
          simp only [ObjAt] at hO
          obtain ⟨e1, e2, rfl, e3, e4, e5, e6⟩ := hO
          obtain ⟨g1, g2, A, rfl, g3, g4⟩ := hvv e1.symm (by omega)
          have hll : ((l.drop off).take len).length = len := by simp; omega
          have hget : ∀ (i : Nat) (x : AV), ((l.drop off).take len)[i]? = some x → l[off + i]? = some x ∧ i < len := by
            intro i x hx
            have hlt : i < len := by have := (List.getElem?_eq_some_iff.1 hx).1; omega
            rw [List.getElem?_take, if_pos hlt, List.getElem?_drop] at hx
            exact ⟨hx, hlt⟩
          have key : ∀ (i : Nat) (x : AV) (j : Nat) (z : AV), ((l.drop off).take len)[i]? = some x → x.cells[j]? = some z → ∃ u, w.cell? ⟨b, off * s + i * s + j, none⟩ = some u ∧ S' b (off * s + i * s + j) ∧ Rep S' w [] u z := by
            intro i x j z hx hz
            obtain ⟨hx', hlt⟩ := hget i x hx
            obtain ⟨cur, t, fz, hh, _, _, hsz, hrep⟩ := e5 (by omega)
            have hjl := (List.getElem?_eq_some_iff.1 hz).1
            have hj : j < s := by have := (e6 _ _ hx').2; omega
            have hlt2 : (off + i) * s + j < cur.size := by rw [hsz]; exact mul_lt_of (by omega) hj
            have hlt3 : (off + i) * s + j < cused * s := mul_lt_of (by omega) hj
            have hbl := hm.lt _ _ b hH (by simp [Hd.blk]; omega)
            refine ⟨_, ?_, ?_, mono (hrep _ _ _ _ hx' hz)⟩
            · rw [← Nat.add_mul]; exact cell_getD hh hlt2
            · rw [← Nat.add_mul]; exact hR _ _ _ _ _ rfl _ _ _ _ _ _ hH (by omega) hbl _ hlt3
          refine ⟨?_, rfl⟩
          have := Rep.slice (S := S') (w := w) (H := []) (A := A) (c := cap - off) (l := (l.drop off).take len) b (off * s) s (fun i j => (w.cell? ⟨b, off * s + i * s + j, none⟩).getD undef) (by omega) g4 (fun h => g3 (by omega)) (fun i x hx => e6 _ _ (hget i x hx).1)
            (fun i x j z hx hz => by obtain ⟨u, h1, h2, _⟩ := key i x j z hx hz; rw [h1]; exact ⟨rfl, h2⟩) (fun i x j z hx hz => by obtain ⟨u, h1, _, h3⟩ := key i x j z hx hz; rw [h1]; exact h3)
          rw [hll] at this
          exact this
      · cases hf
    · cases hf
  · have : y.grCell = true ∧ y' = y := by
      cases y <;> simp [frzCell, AV.grCell] at hf <;> try (exact absurd ⟨_, _, _, _, _, rfl⟩ hrow)
      · rename_i u
        have : (AV.val u).grCell = true := by
          cases u <;> simp at hf <;> rfl
        refine ⟨this, ?_⟩
        cases u <;> simp at hf <;> exact hf.symm
      all_goals exact ⟨rfl, hf.symm⟩
    obtain ⟨hg, rfl⟩ := this
    exact ⟨mono (h.gr hg []), hg⟩

theorem frzCells_get : ∀ {l l' : List AV}, frzCells m l = some l' → l'.length = l.length ∧ ∀ (i : Nat) (y' : AV), l'[i]? = some y' → ∃ y, l[i]? = some y ∧ frzCell m y = some y'
  | [], l', h => by simp [frzCells] at h; subst h; simp
  | x :: r, l', h => by
    simp only [frzCells] at h
    split at h
    · rename_i a b ha hb
      injection h with h; subst h
      obtain ⟨h1, h2⟩ := frzCells_get hb
      refine ⟨by simp [h1], fun i y' hy => ?_⟩
      cases i with
      | zero => simp at hy; subst hy; exact ⟨x, rfl, ha⟩
      | succ i => simp at hy ⊢; exact h2 i y' hy
    · cases h

theorem frz_rep {S' : Nat → Nat → Prop} (hm : MemAt X w m H) (h : Rep (Stab X H w) w H v y) (hf : frz m y = some y') (hS : ∀ b o, Stab X H w b o → S' b o)
    (hR : ∀ z ∈ y.cells, ∀ id ver used off len, z = .row id ver used off len → ∀ b cap sz cver cused wr, H[id]? = some (.row b cap sz cver cused wr) → 0 < cap → b < w.heap.size → ∀ o, o < cused * sz → S' b o) : Rep S' w [] v y' ∧ y'.ground = true := by
  by_cases ha : ∃ l, y = .agg l
  · obtain ⟨l, rfl⟩ := ha
    simp only [frz, Option.map_eq_some_iff] at hf
    obtain ⟨l', hl, rfl⟩ := hf
    obtain ⟨h1, h2⟩ := frzCells_get hl
    obtain ⟨cs, rfl, hn, hc⟩ := rep_agg h
    have key : ∀ (i : Nat) (z : AV), l'[i]? = some z → Rep S' w [] (cs.getD i undef) z ∧ z.grCell = true := by
      intro i z hz
      obtain ⟨x, hx, hfx⟩ := h2 i z hz
      exact frzCell_rep hm (hc i x hx) hfx hS (hR x (List.mem_of_getElem? hx))
    refine ⟨.agg (by omega) fun i z hz => (key i z hz).1, ?_⟩
    unfold AV.ground
    rw [List.all_eq_true]
    intro z hz
    obtain ⟨i, hi⟩ := List.mem_iff_getElem?.1 hz
    exact (key i z hi).2
  · have e1 : frz m y = frzCell m y := by cases y <;> first | rfl | exact absurd ⟨_, rfl⟩ ha
    have e2 : y.cells = [y] := by cases y <;> first | rfl | exact absurd ⟨_, rfl⟩ ha
    rw [e1] at hf
    rw [e2] at hR
    obtain ⟨h1, h2⟩ := frzCell_rep hm h hf hS (hR y (by simp))
    refine ⟨h1, ?_⟩
    have e3 : y'.cells = [y'] := by cases y' <;> first | rfl | simp [AV.grCell] at h2
    unfold AV.ground
    rw [e3]; simp [h2]

/-- some rows may only grow from now on -/
def Shuts (H H1 : List Hd) : Prop := H1.length = H.length ∧ ∀ (i : Nat) (h1 : Hd), H1[i]? = some h1 → ∃ h, H[i]? = some h ∧ (h1 = h ∨ ∃ b cap sz ver used wr, h = .row b cap sz ver used wr ∧ h1 = .row b cap sz ver used false)
def IsShut (H : List Hd) (id : Nat) : Prop := ∀ b cap sz ver used wr, H[id]? = some (.row b cap sz ver used wr) → wr = false
theorem Shuts.refl (H : List Hd) : Shuts H H := ⟨rfl, fun _ h hh => ⟨h, hh, .inl rfl⟩⟩
theorem Shuts.trans {H1 H2 : List Hd} (h : Shuts H H1) (h' : Shuts H1 H2) : Shuts H H2 := by
  refine ⟨h'.1.trans h.1, fun i k hk => ?_⟩
  obtain ⟨k1, hk1, e⟩ := h'.2 i k hk
  obtain ⟨k0, hk0, e0⟩ := h.2 i k1 hk1
  refine ⟨k0, hk0, ?_⟩
  rcases e with rfl | ⟨b, cap, sz, ver, used, wr, rfl, rfl⟩
  · exact e0
  · rcases e0 with e0 | ⟨b', cap', sz', ver', used', wr', rfl, e0⟩
    · exact .inr ⟨b, cap, sz, ver, used, wr, e0.symm, rfl⟩
    · injection e0 with e1 e2 e3 e4 e5 e6
      subst e1 e2 e3 e4 e5
      exact .inr ⟨_, _, _, _, _, _, rfl, rfl⟩
theorem Shuts.back {H1 : List Hd} (h : Shuts H H1) {i : Nat} {k : Hd} (hk : H[i]? = some k) : ∃ k1, H1[i]? = some k1 ∧ (k1 = k ∨ ∃ b cap sz ver used wr, k = .row b cap sz ver used wr ∧ k1 = .row b cap sz ver used false) := by
  have hlt : i < H1.length := by rw [h.1]; exact (List.getElem?_eq_some_iff.1 hk).1
  obtain ⟨k', hk', e⟩ := h.2 i _ (List.getElem?_eq_getElem hlt)
  rw [hk] at hk'
  injection hk' with hk'
  subst hk'
  exact ⟨_, List.getElem?_eq_getElem hlt, e⟩
theorem Shuts.goes {H1 : List Hd} (h : Shuts H H1) : Goes X w H w H1 := by
  refine ⟨fun i k hk => ?_, fun b o ⟨h1, h2, h3⟩ => ⟨⟨h1, h2, fun ⟨i, k, hk, hmut⟩ => ?_⟩, rfl⟩⟩
  · obtain ⟨k1, hk1, e⟩ := h.back hk
    refine ⟨k1, hk1, ?_⟩
    rcases e with rfl | ⟨b, cap, sz, ver, used, wr, rfl, rfl⟩
    · exact Hd.le_refl _
    · exact .inl ⟨rfl, rfl, rfl, rfl, rfl⟩
  · obtain ⟨k0, hk0, e⟩ := h.2 i k hk
    refine h3 ⟨i, k0, hk0, ?_⟩
    rcases e with rfl | ⟨b', cap, sz, ver, used, wr, rfl, rfl⟩
    · exact hmut
    · simp only [Hd.mut] at hmut ⊢
      exact ⟨hmut.1, hmut.2.1, .inr (by rcases hmut.2.2 with q | q; cases q; exact q)⟩
theorem Shuts.blk {H1 : List Hd} (h : Shuts H H1) {i : Nat} {k : Hd} (hk : H1[i]? = some k) : ∃ k0, H[i]? = some k0 ∧ k0.blk = k.blk := by
  obtain ⟨k0, hk0, e⟩ := h.2 i k hk
  refine ⟨k0, hk0, ?_⟩
  rcases e with rfl | ⟨b', cap, sz, ver, used, wr, rfl, rfl⟩ <;> rfl
theorem Shuts.isShut {H1 : List Hd} (h : Shuts H H1) {id : Nat} (hi : IsShut H id) : IsShut H1 id := by
  intro b cap sz ver used wr hk
  obtain ⟨k0, hk0, e⟩ := h.2 id _ hk
  rcases e with rfl | ⟨b', cap', sz', ver', used', wr', rfl, e⟩
  · exact hi _ _ _ _ _ _ hk0
  · injection e with _ _ _ _ _ e6

theorem shutCell_at (hm : MemAt X w m H) (y : AV) : ∃ H1, MemAt X w (shutCell m y) H1 ∧ Shuts H H1 ∧ ∀ id ver used off len, y = .row id ver used off len → IsShut H1 id := by
  unfold shutCell
  split
  · rename_i id ver used off len
    split
    · rename_i v s l wr ap hobj
      have hlt : id < H.length := by rw [hm.len]; exact (List.getElem?_eq_some_iff.1 hobj).1
      have hH := List.getElem?_eq_getElem hlt
      have hO := hm.obj _ _ _ hobj hH
      generalize hk : H[id] = k at hO hH
      cases k <;> simp only [ObjAt] at hO
      rename_i b cap sz ver' used' wr'
      have hsh : Shuts H (H.set id (.row b cap sz ver' used' false)) := by
        refine ⟨by simp, fun i h1 hh => ?_⟩
        by_cases hi : i = id
        · subst hi
          rw [List.getElem?_set_self hlt] at hh
          injection hh with hh; subst hh
          exact ⟨_, hH, .inr ⟨b, cap, sz, ver', used', wr', rfl, rfl⟩⟩
        · rw [List.getElem?_set_ne (Ne.symm hi)] at hh
          exact ⟨h1, hh, .inl rfl⟩
      refine ⟨H.set id (.row b cap sz ver' used' false), ⟨by simp [hm.len], fun i o h ho hh => ?_, fun i h b' hh hb => ?_, fun i j h k b' hi hj hb1 hb2 => ?_⟩, hsh, ?_⟩
      · by_cases hi : i = id
        · subst hi
          rw [List.getElem?_set_self hlt] at hh
          rw [List.getElem?_set_self (by rw [← hm.len]; exact hlt)] at ho
          injection hh with hh; injection ho with ho
          subst hh ho
          have := ObjAt.goes (X := X) (w := w) (w' := w) (H := H) (hsh.goes) (o := .row v s l wr ap) (h := .row b cap sz ver' used' wr') (fun _ _ => rfl) (by simp only [ObjAt]; exact hO)
          simp only [ObjAt] at this ⊢
          exact ⟨this.1, trivial, this.2.2⟩
        · rw [List.getElem?_set_ne (Ne.symm hi)] at hh ho
          exact (hm.obj i o h ho hh).goes hsh.goes fun _ _ => rfl
      · obtain ⟨k0, h0, e⟩ := hsh.blk hh
        exact hm.lt i k0 b' h0 (e.trans hb)
      · obtain ⟨k0, h0, e⟩ := hsh.blk hi
        obtain ⟨k1, h1, e'⟩ := hsh.blk hj
        exact hm.apart i j k0 k1 b' h0 h1 (e.trans hb1) (e'.trans hb2)
      · intro id' ver'' used'' off' len' e b1 c1 s1 v1 u1 w1 hh
        injection e with e1
        subst e1
        rw [List.getElem?_set_self hlt] at hh
        injection hh with hh
        injection hh with _ _ _ _ _ h6
        exact h6.symm
    · rename_i hne
      refine ⟨H, hm, Shuts.refl H, ?_⟩
      intro id' ver'' used'' off' len' e b1 c1 s1 v1 u1 w1 hh
      injection e with e1
      subst e1
      have hlt : id < m.length := by rw [← hm.len]; exact (List.getElem?_eq_some_iff.1 hh).1
      have hO := hm.obj id _ _ (List.getElem?_eq_getElem hlt) hh
      generalize hmm : m[id] = o at hO
      cases o <;> simp only [ObjAt] at hO
      exact absurd (by rw [List.getElem?_eq_getElem hlt, hmm]) (hne _ _ _ _ _)
  · rename_i hne
    exact ⟨H, hm, Shuts.refl H, fun id ver used off len e => absurd e (hne id ver used off len)⟩

theorem shutCells_at : ∀ (l : List AV) (m : List MObj) (H : List Hd), MemAt X w m H → ∃ H1, MemAt X w (l.foldl shutCell m) H1 ∧ Shuts H H1 ∧ ∀ z ∈ l, ∀ id ver used off len, z = .row id ver used off len → IsShut H1 id
  | [], m, H, hm => ⟨H, hm, Shuts.refl H, fun z hz => by simp at hz⟩
  | y :: r, m, H, hm => by
    obtain ⟨H1, h1, h2, h3⟩ := shutCell_at hm y
    obtain ⟨H2, g1, g2, g3⟩ := shutCells_at r _ _ h1
    refine ⟨H2, g1, h2.trans g2, fun z hz id ver used off len e => ?_⟩
    rcases List.mem_cons.1 hz with rfl | hz
    · exact g2.isShut (h3 _ _ _ _ _ e)
    · exact g3 z hz _ _ _ _ _ e
theorem shutVs_at : ∀ (l : List AV) (m : List MObj) (H : List Hd), MemAt X w m H → ∃ H1, MemAt X w (l.foldl shutV m) H1 ∧ Shuts H H1 ∧ ∀ v ∈ l, ∀ z ∈ v.cells, ∀ id ver used off len, z = .row id ver used off len → IsShut H1 id
  | [], m, H, hm => ⟨H, hm, Shuts.refl H, fun z hz => by simp at hz⟩
  | y :: r, m, H, hm => by
    obtain ⟨H1, h1, h2, h3⟩ := shutCells_at y.cells m H hm
    obtain ⟨H2, g1, g2, g3⟩ := shutVs_at r _ _ h1
    refine ⟨H2, g1, h2.trans g2, fun v hv z hz id ver used off len e => ?_⟩
    rcases List.mem_cons.1 hv with rfl | hv
    · exact g2.isShut (h3 z hz _ _ _ _ _ e)
    · exact g3 v hv z hz _ _ _ _ _ e

/-- the cells of a shut row are at rest -/
theorem shut_stab {H1 : List Hd} (hm : MemAt X w m H) (hs : Shuts H H1) (hX : ∀ b, (∃ o, X b o) → ∀ (i : Nat) (h : Hd), H[i]? = some h → h.blk ≠ some b) {id : Nat} (hi : IsShut H1 id) {b cap sz cver cused : Nat} {wr : Bool}
    (hH : H[id]? = some (.row b cap sz cver cused wr)) (hc : 0 < cap) (hb : b < w.heap.size) {o : Nat} (ho : o < cused * sz) : Stab X H1 w b o := by
  refine ⟨hb, fun hx => hX b ⟨o, hx⟩ id _ hH (by simp [Hd.blk, hc]), fun ⟨i, k, hk, hmut⟩ => ?_⟩
  obtain ⟨k0, hk0, e⟩ := hs.blk hk
  have := hm.apart i id k0 _ b hk0 hH (e.trans (Hd.mut_blk hmut)) (by simp [Hd.blk, hc])
  subst this
  obtain ⟨k1, hk1, e1⟩ := hs.back hH
  rw [hk] at hk1
  injection hk1 with hk1
  subst hk1
  have hw : ∃ wr, k = .row b cap sz cver cused wr := by
    rcases e1 with rfl | ⟨b', cap', sz', ver', used', wr', eq, rfl⟩
    · exact ⟨_, rfl⟩
    · injection eq with e1 e2 e3 e4 e5 e6
      subst e1 e2 e3 e4 e5
      exact ⟨_, rfl⟩
  obtain ⟨wr2, rfl⟩ := hw
  have := hi _ _ _ _ _ _ hk
  subst this
  simp only [Hd.mut] at hmut
  rcases hmut.2.2 with q | q
  · cases q
  · omega
end
end Go.Proofs.YtgjdmlhgapmflaaDoor
