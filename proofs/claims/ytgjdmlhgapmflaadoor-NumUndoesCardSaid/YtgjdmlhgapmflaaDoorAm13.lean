/- The abstract machine: append. -/
import Derived.Test.YtgjdmlhgapmflaaDoorAm12
namespace Go.Proofs.YtgjdmlhgapmflaaDoor
set_option linter.unusedVariables false
set_option linter.unusedSimpArgs false

section
variable {P : Program} {X : Nat → Nat → Prop} {w0 : Base} {w w' : World} {N : Nat} {st : St} {a : Act} {m : List MObj} {H : List Hd} {d : Option Nat}

theorem elemsS_elems {sz : Nat} {av : AV} {l : List AV} (he : elemsS m sz av = some l) : elems m av = some l := by
  unfold elemsS at he
  unfold elems
  split at he
  · split at he
    · exact he
    · cases he
  · exact he
  · split at he
    · rename_i hobj
      split at he
      · rename_i hc
        injection he with he
        simp [hobj, hc.1, hc.2.1, he]
      · cases he
    · cases he
  · cases he
theorem elemsS_len {sz : Nat} {v : Value} {av : AV} {l : List AV} (hm : MemAt X w m H) (h : Rep (Stab X H w) w H v av) (he : elemsS m sz av = some l) : ∀ (i : Nat) (x : AV), l[i]? = some x → x.cells.length = sz := by
  intro i x hx
  unfold elemsS at he
  split at he
  · rename_i s l'
    split at he
    · rename_i hs
      injection he with he; subst he hs
      cases h with
      | slice b off _ u hc hz hA hsz hcell hrep => exact (hsz i x hx).2
    · cases he
  · injection he with he; subst he; simp at hx
  · split at he
    · rename_i hobj
      split at he
      · rename_i hc
        injection he with he
        cases h with
        | row id ver used off len hs hH hle hvv =>
          have hO := hm.obj _ _ _ hobj hH
          simp only [ObjAt] at hO
          obtain ⟨_, _, es, _, _, _, e6⟩ := hO
          have hmem := List.mem_of_getElem? hx
          rw [← he] at hmem
          obtain ⟨k, hk⟩ := List.mem_iff_getElem?.1 (List.mem_of_mem_drop (List.mem_of_mem_take hmem))
          rw [(e6 k x hk).2, ← es, hc.2.2]
      · cases he
    · cases he
  · cases he

/-- what is appended -/
theorem rep_news {sz : Nat} (hsz : 0 < sz) {v : Value} {av : AV} {l : List AV} (hm : MemAt X w m H) (h : Rep (Stab X H w) w H v av) (he : elemsS m sz av = some l) :
    ∃ (A : Option Addr) (c : Nat) (news : List Value), v = .slice A l.length c ∧ (A = none → l = [] ∧ c = 0) ∧ news.length = l.length * sz ∧ (∀ b, A = some b → ∀ (j : Nat) (u : Value), news[j]? = some u → w.cell? (b.add j) = some u) ∧ (∀ u ∈ news, u.oneCell' = true) ∧
      (∀ (i : Nat) (x : AV), l[i]? = some x → x.ground = true ∧ x.cells.length = sz) ∧ ∀ (i : Nat) (x : AV) (j : Nat) (y : AV), l[i]? = some x → x.cells[j]? = some y → Rep (Stab X H w) w [] (news.getD (i * sz + j) undef) y := by
  obtain ⟨A, c, b, off, sz', u, rfl, hc, hz, hA, hs, hcell⟩ := (rep_elems hm h (elemsS_elems he)).ex
  have hlen := elemsS_len hm h he
  have hss : ∀ i : Nat, i < l.length → sz' = sz := by
    intro i hi
    have h1 := (hs i _ (List.getElem?_eq_getElem hi)).2
    have h2 := hlen i _ (List.getElem?_eq_getElem hi)
    omega
  have hn : ∀ k, k < l.length * sz → k / sz < l.length ∧ k % sz < sz := fun k hk => ⟨Nat.div_lt_of_lt_mul (by rw [Nat.mul_comm]; exact hk), Nat.mod_lt _ hsz⟩
  have hat : ∀ k, k < l.length * sz → ∃ y, (l[k / sz]?).bind (fun x => x.cells[k % sz]?) = some y ∧ w.cell? ⟨b, off + k, none⟩ = some (u (k / sz) (k % sz)) ∧ Rep (Stab X H w) w [] (u (k / sz) (k % sz)) y ∧ y.grCell = true := by
    intro k hk
    obtain ⟨h1, h2⟩ := hn k hk
    have hx := List.getElem?_eq_getElem h1
    have hcl := hlen _ _ hx
    have hy := List.getElem?_eq_getElem (l := (l[k / sz]).cells) (i := k % sz) (by omega)
    obtain ⟨g1, _, g3⟩ := hcell _ _ _ _ hx hy
    refine ⟨_, by rw [hx]; exact hy, ?_, g3, List.all_eq_true.1 (hs _ _ hx).1 _ (List.mem_of_getElem? hy)⟩
    rw [hss _ h1] at g1
    rw [← g1]
    congr 2
    have := Nat.div_add_mod k sz
    rw [Nat.mul_comm] at this
    omega
  refine ⟨A, c, (List.range (l.length * sz)).map fun k => u (k / sz) (k % sz), rfl, fun hA0 => ?_, by simp, fun ad had j v hv => ?_, fun v hv => ?_, fun i x hx => ⟨(hs i x hx).1, hlen i x hx⟩, fun i x j y hx hy => ?_⟩
  · have := hz hA0
    subst this
    refine ⟨List.eq_nil_of_length_eq_zero (by omega), rfl⟩
  · simp only [List.getElem?_map, Option.map_eq_some_iff] at hv
    obtain ⟨k, hk, rfl⟩ := hv
    have hkl := (List.getElem?_eq_some_iff.1 hk).1
    simp only [List.length_range] at hkl
    rw [List.getElem?_range hkl] at hk
    injection hk with hk; subst hk
    have hpos : 0 < l.length := Nat.lt_of_le_of_lt (Nat.zero_le _) (hn j hkl).1
    have := hA hpos
    rw [had] at this
    injection this with this; subst this
    obtain ⟨y, _, h2, _⟩ := hat j hkl
    rw [addr_add]; exact h2
  · obtain ⟨k, hk, rfl⟩ := List.mem_map.1 hv
    obtain ⟨y, _, _, h3, h4⟩ := hat k (List.mem_range.1 hk)
    exact (rep_one h3 (gr_isCell h4)).1
  · have hil := (List.getElem?_eq_some_iff.1 hx).1
    have hjl := (List.getElem?_eq_some_iff.1 hy).1
    have hj : j < sz := by have := hlen i x hx; omega
    have hk := mul_lt_of hil hj
    have e1 : (i * sz + j) / sz = i := by rw [Nat.mul_comm, Nat.mul_add_div hsz, Nat.div_eq_of_lt hj, Nat.add_zero]
    have e2 : (i * sz + j) % sz = j := by rw [Nat.mul_comm, Nat.mul_add_mod]; exact Nat.mod_eq_of_lt hj
    simp only [List.getD_eq_getElem?_getD, List.getElem?_map]
    rw [List.getElem?_range hk]
    simp only [Option.map_some, Option.getD_some, e1, e2]
    exact (hcell _ _ _ _ hx hy).2.2

theorem app_zero {t ty e : TypeId} (ht : P.underlying t = some (.slice e)) {sz : Nat} (hs : szOf P e = some sz) (A B : Option Addr) (n c c' : Nat) (hn : n ≤ c) (hB : B = none → c' = 0) (w : World) :
    (Builtin.append_ #[t, t] ty #[.slice A n c, .slice B 0 c']).run P w = .ok (.slice A n c) w := by
  have h1 : ∀ w, (Builtin.firstCells sz 0 (.slice B 0 c')).run P w = .ok #[] w := by
    intro w
    cases B with
    | none => simp [Builtin.firstCells]
    | some b => simp [Builtin.firstCells, loadCells, loadCellsFrom]
  cases A with
  | none => simp [Builtin.append_, run_underlying ht, run_szOf hs, Builtin.lenOf, hn, h1]
  | some b => simp [Builtin.append_, run_underlying ht, run_szOf hs, Builtin.lenOf, hn, h1, storeCells]

theorem app_room {t ty e : TypeId} (ht : P.underlying t = some (.slice e)) {sz : Nat} (hs : szOf P e = some sz) (g sLen sCap : Nat) (cur : Array Value) (ty' : TypeId) (fz : Nat × Nat) (hg : w.heap[g]? = some (.cells cur ty' fz)) (hz : ∀ k, k < cur.size → (decide (fz.1 ≤ k) && decide (k < fz.2)) = false)
    (b : Addr) (n c : Nat) (news : List Value) (hl : news.length = n * sz) (hnews : ∀ (j : Nat) (u : Value), news[j]? = some u → w.cell? (b.add j) = some u) (h1 : ∀ u ∈ news, u.oneCell' = true) (hroom : sLen + n ≤ sCap) (hfit : sLen * sz + news.length ≤ cur.size) :
    (Builtin.append_ #[t, t] ty #[.slice (some ⟨g, 0, none⟩) sLen sCap, .slice (some b) n c]).run P w =
      .ok (.slice (some ⟨g, 0, none⟩) (sLen + n) sCap) (w.setRow g (cur.toList.take (sLen * sz) ++ news ++ cur.toList.drop (sLen * sz + news.length)).toArray) := by
  have hf := run_firstCells_some (P := P) w sz n b n c news hl hnews
  have hst := run_storeCells_fz P g (sLen * sz) ty' fz news 0 cur w hg hz (by simpa using hfit) h1
  simp only [Nat.add_zero] at hst
  simp [Builtin.append_, run_underlying ht, run_szOf hs, Builtin.lenOf, hroom, hf, addr_add, hst]

theorem zeroCells_size (z : Array Value) (n : Nat) : (Builtin.zeroCells z n).size = n * z.size := by simp [Builtin.zeroCells]

/-- the cells of two lists, one behind the other -/
theorem cat_rep {S : Nat → Nat → Prop} {sz : Nat} {olds news : List Value} {rest : Array Value} {l ly : List AV} (ho : olds.length = l.length * sz) (hn : news.length = ly.length * sz) (hsz : ∀ (i : Nat) (x : AV), (l ++ ly)[i]? = some x → x.cells.length = sz)
    (h1 : ∀ (i : Nat) (x : AV) (j : Nat) (y : AV), l[i]? = some x → x.cells[j]? = some y → Rep S w [] (olds.getD (i * sz + j) undef) y)
    (h2 : ∀ (i : Nat) (x : AV) (j : Nat) (y : AV), ly[i]? = some x → x.cells[j]? = some y → Rep S w [] (news.getD (i * sz + j) undef) y) :
    ∀ (i : Nat) (x : AV) (j : Nat) (y : AV), (l ++ ly)[i]? = some x → x.cells[j]? = some y → Rep S w [] ((olds.toArray ++ news.toArray ++ rest).getD (i * sz + j) undef) y := by
  intro i x j y hx hy
  have hjl := (List.getElem?_eq_some_iff.1 hy).1
  have hj : j < sz := by have := hsz i x hx; omega
  have hil := (List.getElem?_eq_some_iff.1 hx).1
  rw [List.length_append] at hil
  have hcat : (olds.toArray ++ news.toArray ++ rest).getD (i * sz + j) undef = (olds ++ news).getD (i * sz + j) undef := by
    have hlt : i * sz + j < (olds ++ news).length := by
      rw [List.length_append, ho, hn, ← Nat.add_mul]; exact mul_lt_of hil hj
    simp only [Array.getD_eq_getD_getElem?, List.getD_eq_getElem?_getD]
    rw [Array.getElem?_append_left (by simpa using hlt)]
    simp
  rw [hcat]
  rw [List.getElem?_append] at hx
  simp only [List.getD_eq_getElem?_getD]
  split at hx
  · rename_i hi
    rw [List.getElem?_append_left (by rw [ho]; exact mul_lt_of hi hj)]
    have := h1 i x j y hx hy
    simpa [List.getD_eq_getElem?_getD] using this
  · rename_i hi
    have hle : l.length * sz ≤ i * sz := Nat.mul_le_mul_right _ (by omega)
    rw [List.getElem?_append_right (by rw [ho]; omega), ho]
    have := h2 _ x j y hx hy
    rw [show i * sz + j - l.length * sz = (i - l.length) * sz + j from by rw [Nat.sub_mul]; omega]
    simpa [List.getD_eq_getElem?_getD] using this

theorem ext_drew_alloc (w : World) (o : Obj) : Ext w (w.drew.alloc o) := fun k hk => (MapKept.heap_alloc w.drew o).2 k hk
theorem heap_drew_alloc (w : World) (o : Obj) : (w.drew.alloc o).heap[w.heap.size]? = some o := heap_alloc_new w.drew o

/-- the row has moved to a new block -/
theorem app_moved {id ver s b cap sz cver cused cap' : Nat} {wr ap wr' : Bool} {l ly : List AV} {cs : Array Value} {e : TypeId} (h : SR X w0 N st a w H) (hd : ∀ k, d = some k → k < N) (hobj : st.m[id]? = some (.row ver s l wr ap)) (hH : H[id]? = some (.row b cap sz cver cused wr'))
    (hly : 0 < ly.length) (hcap : l.length + ly.length ≤ cap') (hsz : cs.size = cap' * s) (hg : ∀ (i : Nat) (x : AV), (l ++ ly)[i]? = some x → x.ground = true ∧ x.cells.length = s)
    (hrep : ∀ (i : Nat) (x : AV) (j : Nat) (y : AV), (l ++ ly)[i]? = some x → x.cells[j]? = some y → Rep (Stab X H w) w [] (cs.getD (i * s + j) undef) y) :
    ∃ H', SR X w0 N ⟨putf d (.row id ver (l.length + ly.length) 0 (l.length + ly.length)) st.fr, st.m.set id (.row ver s (l ++ ly) wr ap)⟩ (a.put d (.slice (some ⟨w.heap.size, 0, none⟩) (l.length + ly.length) cap')) (w.drew.alloc (.cells cs e)) H' := by
  have hO := h.mem.obj _ _ _ hobj hH
  simp only [ObjAt] at hO
  obtain ⟨e1, e2, es, e3, e4, e5, e6⟩ := hO
  subst e1 e2 es
  have hlt : id < H.length := (List.getElem?_eq_some_iff.1 hH).1
  have hext := ext_drew_alloc w (.cells cs e)
  have hsize : (w.drew.alloc (.cells cs e)).heap.size = w.heap.size + 1 := by simp
  have hcap0 : 0 < cap' := by omega
  have hgo : Goes X w H (w.drew.alloc (.cells cs e)) (H.set id (.row w.heap.size cap' s cver (l.length + ly.length) wr')) := by
    refine ⟨fun i k hk => ?_, fun b' o ⟨h1, h2, h3⟩ => ⟨⟨by omega, h2, fun ⟨i, k, hk, hmut⟩ => ?_⟩, hext.cell h1 o⟩⟩
    · by_cases hi : i = id
      · subst hi
        rw [hH] at hk; injection hk with hk; subst hk
        exact ⟨_, List.getElem?_set_self hlt, .inr (.inr ⟨rfl, by omega⟩)⟩
      · exact ⟨k, by rw [List.getElem?_set_ne (Ne.symm hi)]; exact hk, k.le_refl⟩
    · by_cases hi : i = id
      · subst hi
        rw [List.getElem?_set_self hlt] at hk
        injection hk with hk; subst hk
        have := Hd.mut_blk hmut
        simp only [Hd.blk, hcap0, if_true, Option.some.injEq] at this
        omega
      · rw [List.getElem?_set_ne (Ne.symm hi)] at hk
        exact h3 ⟨i, k, hk, hmut⟩
  have hblk : (Hd.row w.heap.size cap' s cver (l.length + ly.length) wr').blk = some w.heap.size := by simp [Hd.blk, hcap0]
  have hmem := h.mem.upd (id := id) (k' := .row w.heap.size cap' s cver (l.length + ly.length) wr') (o' := .row cver s (l ++ ly) wr' ap) hgo (by omega) (fun i k b' hi hk hb' => hext b' (h.mem.lt i k b' hk hb')) (fun b' hb' => by
    rw [hblk] at hb'
    injection hb' with hb'; subst hb'
    exact ⟨by omega, fun i k hi hk hkb => by have := h.mem.lt i k _ hk hkb; omega⟩) (by
    simp only [ObjAt]
    refine ⟨trivial, trivial, trivial, by simp, hcap, fun _ => ⟨cs, e, (0, 0), heap_drew_alloc w _, fun _ => rfl, fun _ _ => by simp, hsz, fun i x j y hx hy => hgo.rep0 (hrep i x j y hx hy)⟩, hg⟩)
  refine ⟨_, h.go hd hgo hmem ?_ (fun i k b' hk hb' => ?_) ?_⟩
  · exact ⟨h.grw.os, h.grw.tape, h.grw.output, by have := h.grw.size; omega, fun k hk q => (hext k (by have := h.grw.size; omega)).trans (h.grw.block k hk q)⟩
  · by_cases hi : i = id
    · subst hi
      rw [List.getElem?_set_self hlt] at hk
      injection hk with hk; subst hk
      rw [hblk] at hb'
      injection hb' with hb'; subst hb'
      exact h.size
    · rw [List.getElem?_set_ne (Ne.symm hi)] at hk
      exact h.new i k b' hk hb'
  · exact .row id cver _ 0 _ ⟨_, _, _, rfl⟩ (List.getElem?_set_self hlt) (.inr ⟨rfl, Nat.le_refl _⟩) fun _ _ => ⟨by omega, hcap, some ⟨w.heap.size, 0, none⟩, rfl, fun _ => by simp, fun q => by cases q⟩

/-- the row has grown in place -/
theorem app_placed {id ver s b cap sz cver cused : Nat} {wr ap wr' : Bool} {l ly : List AV} {cur : Array Value} {ty : TypeId} {fz : Nat × Nat} {news : List Value} (h : SR X w0 N st a w H) (hd : ∀ k, d = some k → k < N) (hobj : st.m[id]? = some (.row ver s l wr ap)) (hH : H[id]? = some (.row b cap sz cver cused wr'))
    (hcap0 : 0 < cap) (hly : 0 < ly.length) (hcap : l.length + ly.length ≤ cap) (hh : w.heap[b]? = some (.cells cur ty fz)) (hap : ap = true → fz = (0, 0)) (hfz : ∀ k, k < cur.size → (decide (fz.1 ≤ k) && decide (k < fz.2)) = false) (hsz : cur.size = cap * s) (hn : news.length = ly.length * s)
    (hg : ∀ (i : Nat) (x : AV), (l ++ ly)[i]? = some x → x.ground = true ∧ x.cells.length = s)
    (h1 : ∀ (i : Nat) (x : AV) (j : Nat) (y : AV), l[i]? = some x → x.cells[j]? = some y → Rep (Stab X H w) w [] (cur.getD (i * s + j) undef) y)
    (h2 : ∀ (i : Nat) (x : AV) (j : Nat) (y : AV), ly[i]? = some x → x.cells[j]? = some y → Rep (Stab X H w) w [] (news.getD (i * s + j) undef) y) :
    ∃ H', SR X w0 N ⟨putf d (.row id ver (l.length + ly.length) 0 (l.length + ly.length)) st.fr, st.m.set id (.row ver s (l ++ ly) wr ap)⟩ (a.put d (.slice (some ⟨b, 0, none⟩) (l.length + ly.length) cap))
      (w.setRow b (cur.toList.take (l.length * s) ++ news ++ cur.toList.drop (l.length * s + news.length)).toArray) H' := by
  have hO := h.mem.obj _ _ _ hobj hH
  simp only [ObjAt] at hO
  obtain ⟨e1, e2, es, e3, e4, e5, e6⟩ := hO
  subst e1 e2 es
  have hlt : id < H.length := (List.getElem?_eq_some_iff.1 hH).1
  have hfit : l.length * s + news.length ≤ cur.size := by rw [hn, hsz, ← Nat.add_mul]; exact Nat.mul_le_mul_right _ hcap
  have hbl := h.mem.lt _ _ b hH (by simp [Hd.blk, hcap0])
  generalize hw' : w.setRow b (cur.toList.take (l.length * s) ++ news ++ cur.toList.drop (l.length * s + news.length)).toArray = w'
  have hsize : w'.heap.size = w.heap.size := by rw [← hw']; simp [World.setRow]
  have hother : ∀ k, k ≠ b → w'.heap[k]? = w.heap[k]? := fun k hk => by rw [← hw']; exact setRow_other w b k _ hk
  have hself : w'.heap[b]? = some (.cells (cur.toList.take (l.length * s) ++ news ++ cur.toList.drop (l.length * s + news.length)).toArray ty fz) := by rw [← hw']; exact setRow_heap w b cur _ ty fz hh
  have hnsz : (cur.toList.take (l.length * s) ++ news ++ cur.toList.drop (l.length * s + news.length)).toArray.size = cur.size := row_size _ _ _ hfit
  have hgo : Goes X w H w' (H.set id (.row b cap s cver (l.length + ly.length) wr')) := by
    refine ⟨fun i k hk => ?_, fun b' o ⟨q1, q2, q3⟩ => ?_⟩
    · by_cases hi : i = id
      · subst hi
        rw [hH] at hk; injection hk with hk; subst hk
        exact ⟨_, List.getElem?_set_self hlt, .inr (.inr ⟨rfl, by omega⟩)⟩
      · exact ⟨k, by rw [List.getElem?_set_ne (Ne.symm hi)]; exact hk, k.le_refl⟩
    · have hold : b' = b → wr' = false ∧ o < cused * s := by
        intro e
        subst e
        cases wr' with
        | true => exact absurd ⟨id, _, hH, rfl, hcap0, .inl rfl⟩ q3
        | false =>
          refine ⟨rfl, ?_⟩
          rcases Nat.lt_or_ge o (cused * s) with q | q
          · exact q
          · exact absurd ⟨id, _, hH, rfl, hcap0, .inr q⟩ q3
      refine ⟨⟨by omega, q2, fun ⟨i, k, hk, hmut⟩ => ?_⟩, ?_⟩
      · by_cases hi : i = id
        · subst hi
          rw [List.getElem?_set_self hlt] at hk
          injection hk with hk; subst hk
          simp only [Hd.mut] at hmut
          obtain ⟨r1, r2⟩ := hold hmut.1
          subst r1
          rcases hmut.2.2 with q | q
          · cases q
          · have : cused * s ≤ (l.length + ly.length) * s := Nat.mul_le_mul_right _ (by omega)
            omega
        · rw [List.getElem?_set_ne (Ne.symm hi)] at hk
          exact q3 ⟨i, k, hk, hmut⟩
      · by_cases hbb : b' = b
        · subst hbb
          obtain ⟨_, r2⟩ := hold rfl
          have hos : o < cur.size := by
            rw [hsz]
            have : cused * s ≤ cap * s := Nat.mul_le_mul_right _ e4
            omega
          rw [cell_getD hself (by rw [hnsz]; exact hos), cell_getD hh hos, row_get _ _ _ _ hfit, if_neg (by rw [e3] at r2; omega)]
        · exact World.cell?_of_block (hother b' hbb)
  have hblk : ∀ u, (Hd.row b cap s cver u wr').blk = some b := fun u => by simp [Hd.blk, hcap0]
  have hmem := h.mem.upd (id := id) (k' := .row b cap s cver (l.length + ly.length) wr') (o' := .row cver s (l ++ ly) wr' ap) hgo (by omega) (fun i k b' hi hk hb' => hother b' fun e => hi (h.mem.apart i id k _ b' hk hH hb' (by rw [e]; exact hblk _))) (fun b' hb' => by
    rw [hblk] at hb'
    injection hb' with hb'; subst hb'
    exact ⟨by omega, fun i k hi hk hkb => hi (h.mem.apart i id k _ b hk hH hkb (hblk _))⟩) (by
    simp only [ObjAt]
    refine ⟨trivial, trivial, trivial, by simp, hcap, fun _ => ⟨_, ty, fz, hself, hap, fun k hk => hfz k (by rw [hnsz] at hk; exact hk), by rw [hnsz]; exact hsz, fun i x j y hx hy => ?_⟩, hg⟩
    have hjl := (List.getElem?_eq_some_iff.1 hy).1
    have hj : j < s := by have := (hg i x hx).2; omega
    rw [row_get _ _ _ _ hfit]
    rw [List.getElem?_append] at hx
    split at hx
    · rename_i hi
      rw [if_neg (by have := mul_lt_of (sz := s) hi hj; omega)]
      exact hgo.rep0 (h1 i x j y hx hy)
    · rename_i hi
      have hil := (List.getElem?_eq_some_iff.1 hx).1
      have q1 : l.length * s ≤ i * s := Nat.mul_le_mul_right _ (by omega)
      have q2 := mul_lt_of (sz := s) hil hj
      rw [Nat.sub_mul] at q2
      rw [if_pos (by omega), show i * s + j - l.length * s = (i - l.length) * s + j from by rw [Nat.sub_mul]; omega]
      exact hgo.rep0 (h2 _ x j y hx hy))
  refine ⟨_, h.go hd hgo hmem ?_ (fun i k b' hk hb' => ?_) ?_⟩
  · rw [← hw']; exact fr_write h.grw (h.new _ _ _ hH (hblk _))
  · by_cases hi : i = id
    · subst hi
      rw [List.getElem?_set_self hlt] at hk
      injection hk with hk; subst hk
      rw [hblk] at hb'
      injection hb' with hb'; subst hb'
      exact h.new _ _ _ hH (hblk _)
    · rw [List.getElem?_set_ne (Ne.symm hi)] at hk
      exact h.new i k b' hk hb'
  · exact .row id cver _ 0 _ ⟨_, _, _, rfl⟩ (List.getElem?_set_self hlt) (.inr ⟨rfl, Nat.le_refl _⟩) fun _ _ => ⟨by omega, hcap, some ⟨b, 0, none⟩, rfl, fun _ => by simp, fun q => by cases q⟩
end
end Go.Proofs.YtgjdmlhgapmflaaDoor
