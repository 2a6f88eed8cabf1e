/- The abstract machine: a string's bytes, appended. -/
import Derived.Test.YtgjdmlhgapmflaaDoorAm15
import Derived.Deep.AppendSrc
namespace Go.Proofs.YtgjdmlhgapmflaaDoor
set_option linter.unusedVariables false
set_option linter.unusedSimpArgs false

section
variable {P : Program} {X : Nat → Nat → Prop} {w0 : Base} {w w' : World} {N : Nat} {st : St} {a : Act} {H : List Hd} {d : Option Nat}
theorem bcA_get {s : ByteArray} {i : Nat} {x : AV} (h : (bcA s)[i]? = some x) : ∃ b, (byteCells s)[i]? = some b ∧ x = .val b ∧ b.oneCell' = true := by
  unfold bcA at h
  simp only [List.getElem?_map, Option.map_eq_some_iff] at h
  obtain ⟨c, hc, rfl⟩ := h
  exact ⟨.int .u8 c.toNat, by simp [byteCells, hc], rfl, rfl⟩
theorem bcA_length (s : ByteArray) : (bcA s).length = s.size := by
  unfold bcA
  rw [List.length_map, Array.length_toList]; rfl
theorem bcA_ok {s : ByteArray} {i : Nat} {x : AV} (h : (bcA s)[i]? = some x) : x.ground = true ∧ x.cells.length = 1 := by
  unfold bcA at h
  simp only [List.getElem?_map, Option.map_eq_some_iff] at h
  obtain ⟨c, hc, rfl⟩ := h
  exact ⟨rfl, rfl⟩
theorem bcA_rep {S : Nat → Nat → Prop} {s : ByteArray} {i j : Nat} {x y : AV} (h : (bcA s)[i]? = some x) (hy : x.cells[j]? = some y) : Rep S w [] ((byteCells s).getD (i * 1 + j) undef) y := by
  obtain ⟨b, hb, rfl, h1⟩ := bcA_get h
  have hc : (AV.val b).cells = [.val b] := rfl
  rw [hc] at hy
  have hj : j = 0 := by have := (List.getElem?_eq_some_iff.1 hy).1; simp at this; exact this
  subst hj
  simp at hy
  subst hy
  have : (byteCells s).getD (i * 1 + 0) undef = b := by rw [Nat.mul_one, Nat.add_zero, List.getD_eq_getElem?_getD, hb]; rfl
  rw [this]; exact .val _ _
theorem app_room_str {t u ty e : TypeId} (ht : P.underlying t = some (.slice e)) (hu : P.underlying u = some .string) (hs : szOf P e = some 1) (g sLen sCap : Nat) (cur : Array Value) (ty' : TypeId) (fz : Nat × Nat) (hg : w.heap[g]? = some (.cells cur ty' fz)) (hz : ∀ k, k < cur.size → (decide (fz.1 ≤ k) && decide (k < fz.2)) = false)
    (s : ByteArray) (hroom : sLen + s.size ≤ sCap) (hfit : sLen * 1 + (byteCells s).length ≤ cur.size) :
    (Builtin.append_ #[t, u] ty #[.slice (some ⟨g, 0, none⟩) sLen sCap, .string s]).run P w =
      .ok (.slice (some ⟨g, 0, none⟩) (sLen + s.size) sCap) (w.setRow g (cur.toList.take (sLen * 1) ++ byteCells s ++ cur.toList.drop (sLen * 1 + (byteCells s).length)).toArray) := by
  have hf := firstCells_string (P := P) s w
  have hst := run_storeCells_fz P g (sLen * 1) ty' fz (byteCells s) 0 cur w hg hz (by simpa using hfit) (Src.ofString (P := P) w hu s).one
  simp only [Nat.add_zero] at hst
  simp [Builtin.append_, run_underlying ht, run_underlying hu, run_szOf hs, Builtin.lenOf, hroom, hf, addr_add] at hst ⊢
  rw [hst]; rfl
theorem app_zero_str {t u ty e : TypeId} (ht : P.underlying t = some (.slice e)) (hu : P.underlying u = some .string) (hs : szOf P e = some 1) (A : Option Addr) (n c : Nat) (hn : n ≤ c) (s : ByteArray) (h0 : s.size = 0) (w : World) :
    (Builtin.append_ #[t, u] ty #[.slice A n c, .string s]).run P w = .ok (.slice A n c) w := by
  have hf := firstCells_string (P := P) s w
  have hb : byteCells s = [] := List.eq_nil_of_length_eq_zero (by rw [byteCells_length]; exact h0)
  rw [hb, h0] at hf
  cases A with
  | none => simp [Builtin.append_, run_underlying ht, run_underlying hu, run_szOf hs, Builtin.lenOf, h0, hn, hf]
  | some b => simp [Builtin.append_, run_underlying ht, run_underlying hu, run_szOf hs, Builtin.lenOf, h0, hn, hf, storeCells]

theorem e_appNilS {t u ty e : TypeId} {z : Value} {s : ByteArray} (ht : P.underlying t = some (.slice e)) (hus : P.underlying u = some .string) (hs : szOf P e = some 1) (hz : zeOf P e = some z) (hzs : z.cells.size = 1) (hby : byOf P e = some 1) (h : SR X w0 N st a w H) (hd : ∀ k, d = some k → k < N)
    (hb : s.size ≤ 140737488355328) (hm : s.size ≤ maxLen) :
    ∃ v w' H', (Builtin.append_ #[t, u] ty #[.slice none 0 0, .string s]).run P w = .ok v w' ∧ SR X w0 N ⟨putf d (.row st.m.length 0 s.size 0 s.size) st.fr, st.m ++ [.row 0 1 (bcA s) true true]⟩ (a.put d v) w' H' := by
  by_cases hl : s.size = 0
  · have hrun := app_zero_str (P := P) (ty := ty) ht hus hs none 0 0 (Nat.le_refl _) s hl w
    have hb0 : bcA s = [] := List.eq_nil_of_length_eq_zero (by rw [bcA_length]; exact hl)
    rw [hb0, hl]
    exact ⟨_, _, _, hrun, e_nilrow 1 h hd⟩
  · obtain ⟨i, hi, h1, h2, h3⟩ := info_of hs hz hby
    have hrun := run_append_grow_src (P := P) w t u ty e i z ht hi h2 none 0 0 [] (run_firstCells_none w.drew i.size 0 0 0) (.string s) s.size (byteCells s) (by rw [h1]; exact Src.ofString w hus s) (by omega) (by have := hm; unfold maxLen at this; omega) (by have := growslice_fits (need := 0 + s.size) (old := 0) (bytes := 1) (by omega) (by omega); rw [h3]; exact this)
    simp only [Nat.zero_add, List.nil_append] at hrun
    have hge := grownCap_ge w s.size 0 e
    generalize grownCap w s.size 0 e = cap' at *
    refine ⟨_, _, H ++ [.row w.heap.size cap' 1 0 s.size true], hrun, ?_⟩
    have hext := ext_drew_alloc w (.cells ((byteCells s).toArray ++ Builtin.zeroCells z.cells (cap' - s.size)) e)
    have hfr : Fr (fun _ => False) w (w.drew.alloc (.cells ((byteCells s).toArray ++ Builtin.zeroCells z.cells (cap' - s.size)) e)) := ⟨rfl, rfl, rfl, by simp, fun k hk _ => hext k hk⟩
    have hcap : 0 < cap' := by omega
    refine h.newObj hd hext (by simp) hfr (fun b hb => by
      simp only [Hd.blk, hcap, if_true, Option.some.injEq] at hb
      subst hb; simp) ?_ ?_
    · have hsz2 : ((byteCells s).toArray ++ Builtin.zeroCells z.cells (cap' - s.size)).size = cap' * 1 := by
        rw [Array.size_append, zeroCells_size, hzs]
        simp only [List.size_toArray, byteCells_length]
        omega
      refine ⟨rfl, rfl, rfl, (bcA_length s).symm, hge, fun _ => ⟨_, e, (0, 0), heap_drew_alloc w _, fun _ => rfl, fun _ _ => by simp, hsz2, fun k x j y hx hy => ?_⟩, fun i x hx => bcA_ok hx⟩
      have hj : j < 1 := by have := (bcA_ok hx).2; have := (List.getElem?_eq_some_iff.1 hy).1; omega
      have hlt : k * 1 + j < (byteCells s).length := by rw [byteCells_length]; have := (List.getElem?_eq_some_iff.1 hx).1; rw [bcA_length] at this; omega
      have e1 : ((byteCells s).toArray ++ Builtin.zeroCells z.cells (cap' - s.size)).getD (k * 1 + j) undef = (byteCells s).getD (k * 1 + j) undef := by
        simp only [Array.getD_eq_getD_getElem?]
        rw [Array.getElem?_append_left (by simpa using hlt)]
        simp [List.getD_eq_getElem?_getD]
      rw [e1]
      exact bcA_rep hx hy
    · rw [← h.mem.len]
      exact .row _ 0 _ 0 _ ⟨_, _, _, rfl⟩ (snoc_last _ _) (.inr ⟨rfl, Nat.le_refl _⟩) fun _ _ => ⟨by omega, hge, some ⟨w.heap.size, 0, none⟩, rfl, fun q => by simp, fun q => by cases q⟩
theorem e_appRowS {t u ty e : TypeId} {id ver used v s0 : Nat} {z vx : Value} {s : ByteArray} {l : List AV} {wr : Bool} (ht : P.underlying t = some (.slice e)) (hus : P.underlying u = some .string) (hs : szOf P e = some 1) (hz : zeOf P e = some z) (hzs : z.cells.size = 1) (hby : byOf P e = some 1) (h : SR X w0 N st a w H) (hd : ∀ k, d = some k → k < N)
    (rx : Rep (Stab X H w) w H vx (.row id ver used 0 used)) (hobj : st.m[id]? = some (.row v s0 l wr true)) (hv : v = ver) (hu : l.length = used) (hss : s0 = 1) (hb : used + s.size ≤ 140737488355328) (hm : used + s.size ≤ maxLen) :
    ∃ vr w' H', (Builtin.append_ #[t, u] ty #[vx, .string s]).run P w = .ok vr w' ∧ SR X w0 N ⟨putf d (.row id ver (used + s.size) 0 (used + s.size)) st.fr, st.m.set id (.row v s0 (l ++ bcA s) wr true)⟩ (a.put d vr) w' H' := by
  subst hv hu hss
  have rx' := rx
  cases rx with
  | row id ver used off len hsl hH hle hvv =>
    rename_i b cap sz' cver cused wr'
    have hO := h.mem.obj _ _ _ hobj hH
    simp only [ObjAt] at hO
    obtain ⟨e1, e2, es, e3, e4, e5, e6⟩ := hO
    have hvv' := hvv e1.symm (by omega)
    subst e1 e2 es
    obtain ⟨_, g2, A2, rfl, g3, g4⟩ := hvv'
    simp only [Nat.sub_zero] at g3 g4 hle hvv rx' ⊢
    by_cases hl : s.size = 0
    · have hb0 : bcA s = [] := List.eq_nil_of_length_eq_zero (by rw [bcA_length]; exact hl)
      have hrun := app_zero_str (P := P) (ty := ty) ht hus hs A2 l.length cap g2 s hl w
      refine ⟨_, _, H, hrun, ?_⟩
      rw [hb0, hl]
      simp only [Nat.add_zero, List.append_nil]
      have hset : st.m.set id (.row cver 1 l wr' true) = st.m := set_same hobj
      rw [hset]
      exact h.pure hd rx'
    · obtain ⟨i, hi, h1, h2, h3⟩ := info_of hs hz hby
      have hmax : l.length + s.size ≤ 9223372036854775807 := by have := hm; unfold maxLen at this; omega
      have hlp : 0 < (bcA s).length := by rw [bcA_length]; omega
      have hnb : (byteCells s).length = (bcA s).length * 1 := by rw [byteCells_length, bcA_length]; omega
      have hgg : ∀ (k : Nat) (x : AV), (l ++ bcA s)[k]? = some x → x.ground = true ∧ x.cells.length = 1 := by
        intro k x hx
        rw [List.getElem?_append] at hx
        split at hx
        · exact e6 k x hx
        · exact bcA_ok hx
      by_cases hroom : l.length + s.size ≤ cap
      · have hcap0 : 0 < cap := by omega
        obtain ⟨cur, ty', fz, hh, hap, hfz, hsz, hold⟩ := e5 hcap0
        obtain rfl := g3 (by omega)
        simp only [Nat.zero_mul] at rx' ⊢
        have hrun := app_room_str (P := P) (ty := ty) ht hus hs b l.length cap cur ty' fz hh hfz s hroom (by rw [hsz, byteCells_length]; omega)
        obtain ⟨H', hsr⟩ := app_placed (ly := bcA s) (news := byteCells s) h hd hobj hH hcap0 hlp (by rw [bcA_length]; exact hroom) hh (fun _ => hap trivial) hfz hsz hnb hgg hold (fun k x j y hx hy => bcA_rep hx hy)
        rw [bcA_length] at hsr
        exact ⟨_, _, H', hrun, hsr⟩
      · have hfit := growslice_fits (need := l.length + s.size) (old := cap) (bytes := 1) (by omega) (by omega)
        have hge := grownCap_ge w (l.length + s.size) cap e
        have grow : ∀ (olds : List Value), olds.length = l.length * 1 → (∀ (k : Nat) (x : AV) (j : Nat) (y : AV), l[k]? = some x → x.cells[j]? = some y → Rep (Stab X H w) w [] (olds.getD (k * 1 + j) undef) y) →
            ∃ H', SR X w0 N ⟨putf d (.row id cver (l.length + s.size) 0 (l.length + s.size)) st.fr, st.m.set id (.row cver 1 (l ++ bcA s) wr' true)⟩ (a.put d (.slice (some ⟨w.heap.size, 0, none⟩) (l.length + s.size) (grownCap w (l.length + s.size) cap e)))
              (w.drew.alloc (.cells (olds.toArray ++ (byteCells s).toArray ++ Builtin.zeroCells z.cells (grownCap w (l.length + s.size) cap e - (l.length + s.size))) e)) H' := by
          intro olds ho hor
          have := app_moved (ly := bcA s) (e := e) (cap' := grownCap w (l.length + s.size) cap e) (cs := olds.toArray ++ (byteCells s).toArray ++ Builtin.zeroCells z.cells (grownCap w (l.length + s.size) cap e - (l.length + s.size))) h hd hobj hH hlp (by rw [bcA_length]; exact hge) (by
            rw [Array.size_append, Array.size_append, zeroCells_size, hzs]
            simp only [List.size_toArray, ho, byteCells_length]
            omega) hgg (cat_rep ho hnb (fun k x hx => (hgg k x hx).2) hor (fun k x j y hx hy => bcA_rep hx hy))
          rw [bcA_length] at this
          exact this
        have holds : ∃ olds : List Value, olds.length = l.length * 1 ∧ (Builtin.firstCells i.size l.length (.slice A2 l.length cap)).run P w.drew = .ok olds.toArray w.drew ∧ ∀ (k : Nat) (x : AV) (j : Nat) (y : AV), l[k]? = some x → x.cells[j]? = some y → Rep (Stab X H w) w [] (olds.getD (k * 1 + j) undef) y := by
          by_cases hcap0 : 0 < cap
          · obtain ⟨cur, ty', fz, hh, hap, hfz, hsz, hold⟩ := e5 hcap0
            obtain rfl := g3 hcap0
            have hle2 : l.length * 1 ≤ cur.size := by rw [hsz]; omega
            have hol : (cur.toList.take (l.length * 1)).length = l.length * i.size := by rw [h1]; simp; omega
            refine ⟨cur.toList.take (l.length * 1), by simp; omega, run_firstCells_some w.drew i.size l.length _ l.length cap _ hol fun j u hu => ?_, fun k x j y hx hy => ?_⟩
            · have hj := (List.getElem?_eq_some_iff.1 hu).1
              simp only [List.length_take] at hj
              rw [List.getElem?_take, if_pos (by omega), Array.getElem?_toList] at hu
              have : w.cell? (Addr.add ⟨b, 0 * 1, none⟩ j) = some u := by
                rw [addr_add, Nat.zero_mul, Nat.zero_add, cell_getD hh (by omega), Array.getD_eq_getD_getElem?, hu]; rfl
              simpa using this
            · have hj : j < 1 := by have := (e6 k x hx).2; have := (List.getElem?_eq_some_iff.1 hy).1; omega
              have hlt := mul_lt_of (sz := 1) (List.getElem?_eq_some_iff.1 hx).1 hj
              have e1 : (cur.toList.take (l.length * 1)).getD (k * 1 + j) undef = cur.getD (k * 1 + j) undef := by
                simp only [List.getD_eq_getElem?_getD, Array.getD_eq_getD_getElem?]
                rw [List.getElem?_take, if_pos hlt, Array.getElem?_toList]
              rw [e1]; exact hold k x j y hx hy
          · have hl0 : l = [] := List.eq_nil_of_length_eq_zero (by omega)
            subst hl0
            refine ⟨[], by simp, ?_, fun k x j y hx => by simp at hx⟩
            cases A2 with
            | none => exact run_firstCells_none w.drew i.size 0 0 cap
            | some b2 => exact run_firstCells_some w.drew i.size 0 b2 0 cap [] (by simp) (fun j u hu => by simp at hu)
        obtain ⟨olds, ho1, ho2, ho3⟩ := holds
        have hrun := run_append_grow_src (P := P) w t u ty e i z ht hi h2 A2 l.length cap olds ho2 (.string s) s.size (byteCells s) (by rw [h1]; exact Src.ofString w hus s) (by omega) (by omega) (by rw [h3]; exact hfit)
        obtain ⟨H', hsr⟩ := grow olds ho1 ho3
        refine ⟨_, _, H', hrun, ?_⟩
        simpa using hsr
end
end Go.Proofs.YtgjdmlhgapmflaaDoor
