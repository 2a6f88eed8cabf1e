/- The abstract machine: operations that make or write memory. -/
import Derived.Test.YtgjdmlhgapmflaaDoorAm10
namespace Go.Proofs.YtgjdmlhgapmflaaDoor
set_option linter.unusedVariables false
set_option linter.unusedSimpArgs false

/-- an operation that is carried out: the machine goes on -/
def Eff (P : Program) (X : Nat → Nat → Prop) (w0 : Base) (N : Nat) (st' : St) (a : Act) (d : Option Nat) (w : World) (s : Sem Next) : Prop :=
  ∃ v w' H', (s.run P w = .ok (.value v) w' ∨ (s.run P w = .ok .skip w' ∧ v = undef)) ∧ SR X w0 N st' (a.put d v) w' H'

theorem run_storeCells_fz (P : Program) (g o : Nat) (t : TypeId) (fz : Nat × Nat) : ∀ (vs : List Value) (i : Nat) (cur : Array Value) (w : World), w.heap[g]? = some (.cells cur t fz) → (∀ k, k < cur.size → (decide (fz.1 ≤ k) && decide (k < fz.2)) = false) →
    o + i + vs.length ≤ cur.size → (∀ v ∈ vs, v.oneCell' = true) →
    (storeCells ⟨g, o, none⟩ vs i).run P w = .ok () (w.setRow g (cur.toList.take (o + i) ++ vs ++ cur.toList.drop (o + i + vs.length)).toArray)
  | [], i, cur, w, hg, _, _, _ => by
    simp only [storeCells, List.append_nil, List.length_nil, Nat.add_zero, List.take_append_drop, Array.toArray_toList]
    rw [setRow_self w g cur t fz hg]
    rfl
  | v :: rest, i, cur, w, hg, hz, hl, h1 => by
    have hi : o + i < cur.size := by simp at hl; omega
    have hcell : w.cell? ⟨g, o + i, none⟩ = some cur[o + i] := by simp [World.cell?, hg, hi]
    have hfro : w.frozen? ⟨g, o + i, none⟩ = false := by
      simp only [World.frozen?, hg]
      exact hz _ hi
    have hst : (store ((⟨g, o, none⟩ : Addr).add i) v).run P w = .ok () (w.setRow g (cur.setIfInBounds (o + i) v)) := by
      rw [addr_add, run_store P w _ v _ (h1 v (by simp)), hcell]
      simp [hfro, setCell_eq_setRow w g (o + i) cur t fz v hg]
    have ih := run_storeCells_fz P g o t fz rest (i + 1) (cur.setIfInBounds (o + i) v) (w.setRow g (cur.setIfInBounds (o + i) v)) (setRow_heap w g cur _ t _ hg) (fun k hk => hz k (by simpa using hk)) (by simp at hl ⊢; omega) (fun x hx => h1 x (by simp [hx]))
    simp only [storeCells, Sem.run_bind, hst, Result.andThen_ok, ih, setRow_setRow]
    congr 3
    have e := list_seg_step cur.toList (o + i) v rest (by simp at hl ⊢; omega)
    simpa [Array.toList_setIfInBounds, Nat.add_assoc] using e

section
variable {P : Program} {X : Nat → Nat → Prop} {w0 : Base} {w : World} {N : Nat} {st : St} {a : Act} {H : List Hd} {d : Option Nat}

theorem SR.xb (h : SR X w0 N st a w H) : ∀ b, (∃ o, X b o) → ∀ (i : Nat) (k : Hd), H[i]? = some k → k.blk ≠ some b := fun b ⟨o, ho⟩ i k hk hb => by
  have := h.old b o ho
  have := h.new i k b hk hb
  omega
theorem SR.shuts (h : SR X w0 N st a w H) {m1 : List MObj} {H1 : List Hd} (hm : MemAt X w m1 H1) (hs : Shuts H H1) : SR X w0 N ⟨st.fr, m1⟩ a w H1 where
  dfr := h.dfr
  siz := h.siz
  frm := hs.goes.fok h.frm
  mem := hm
  grw := h.grw
  new := fun i k b hk hb => by
    obtain ⟨k0, h0, e⟩ := hs.blk hk
    exact h.new i k0 b h0 (e.trans hb)
  old := h.old
  since := h.since.trans hs.goes

theorem e_nilrow (sz : Nat) (h : SR X w0 N st a w H) (hd : ∀ k, d = some k → k < N) : SR X w0 N ⟨putf d (.row st.m.length 0 0 0 0) st.fr, st.m ++ [.row 0 sz [] true true]⟩ (a.put d (.slice none 0 0)) w (H ++ [.row 0 0 sz 0 0 true]) := by
  refine h.newObj hd (Ext.refl w) (Nat.le_refl _) (Fr.refl _ _) (fun b hb => by simp [Hd.blk] at hb) ?_ ?_
  · simp [ObjAt]
  · rw [← h.mem.len]
    exact .row _ 0 0 0 0 ⟨_, _, _, rfl⟩ (snoc_last _ _) (.inr ⟨rfl, Nat.le_refl _⟩) fun _ _ => ⟨by omega, by omega, none, rfl, fun q => absurd q (by omega), fun _ => rfl⟩

theorem e_alloc {t : TypeId} {z : Value} (hz : zeOf P t = some z) (h : SR X w0 N st a w H) (hd : ∀ k, d = some k → k < N) :
    ∃ v w' H', (Instr.alloc t true (.tuple #[])).run P w = .ok v w' ∧ SR X w0 N ⟨putf d (.ptr st.m.length 0) st.fr, st.m ++ [.box (z.cells.toList.map .val)]⟩ (a.put d v) w' H' := by
  refine ⟨.pointer (some ⟨w.heap.size, 0, none⟩), w.alloc (.cells z.cells t), H ++ [.box w.heap.size z.cells.size], by simp [Instr.alloc, run_zeOf hz, newVar, newRow], ?_⟩
  refine h.newObj hd (ext_alloc w _) (by simp) ((Fr.refl _ _).alloc _) (fun b hb => by simp [Hd.blk] at hb; subst hb; simp) ?_ ?_
  · refine ⟨by simp, z.cells, t, heap_alloc_new w _, by simp, fun i y hy => (repL_vals (S := Stab X (H ++ [Hd.box w.heap.size z.cells.size]) (w.alloc (.cells z.cells t))) z.cells).2 i y hy⟩
  · rw [← h.mem.len]
    exact .ptr _ 0 (snoc_last _ _)

theorem zeroEl_ok {z : Value} {ag : Bool} {n : Nat} (h : zeroOk z ag n = true) : z.cells.size = n ∧ (zeroEl z.cells.toList ag).cells = z.cells.toList.map .val ∧ (zeroEl z.cells.toList ag).ground = true := by
  simp only [zeroOk, Bool.and_eq_true, decide_eq_true_eq, Bool.or_eq_true] at h
  obtain ⟨⟨h1, h2⟩, h3⟩ := h
  refine ⟨h1, ?_⟩
  cases ag with
  | true => exact ⟨rfl, h2⟩
  | false =>
    have h3 : n = 1 := by simpa using h3
    have : ∃ u, z.cells.toList = [u] := by
      have hl : z.cells.toList.length = 1 := by simp; omega
      match hq : z.cells.toList, hl with
      | [u], _ => exact ⟨u, rfl⟩
    obtain ⟨u, hu⟩ := this
    rw [hu] at h2 ⊢
    simp only [zeroEl, Bool.false_eq_true, if_false]
    exact ⟨rfl, h2⟩

theorem made_get {z : Array Value} {sz n i j : Nat} (hz : z.size = sz) (hi : i < n) (hj : j < sz) : (madeCells z (n * sz)).getD (i * sz + j) undef = z.getD j undef := by
  have hlt := mul_lt_of hi hj
  simp only [Array.getD_eq_getD_getElem?, madeCells, Array.getElem?_map, Array.getElem?_range]
  rw [if_pos hlt]
  simp only [Option.map_some, Option.getD_some]
  rw [show (i * sz + j) % z.size = j from by rw [hz, Nat.add_comm, Nat.add_mul_mod_self_right]; exact Nat.mod_eq_of_lt hj]
  simp [show j < z.size from by omega]

theorem e_mks {t e : TypeId} {z : Value} {ag : Bool} {sz bytes n : Nat} {kl kc : IntKind} (ht : P.underlying t = some (.slice e)) (hs : szOf P e = some sz) (hz : zeOf P e = some z) (hby : byOf P e = some bytes) (hok : zeroOk z ag sz = true) (hn : n ≤ maxLen) (hb : bytes * n ≤ 281474976710656)
    (h : SR X w0 N st a w H) (hd : ∀ k, d = some k → k < N) :
    ∃ v w' H', (Instr.makeSlice t (.int kl (n : Int)) (.int kc (n : Int))).run P w = .ok v w' ∧ SR X w0 N ⟨putf d (.row st.m.length 0 n 0 n) st.fr, st.m ++ [.row 0 sz (List.replicate n (zeroEl z.cells.toList ag)) true true]⟩ (a.put d v) w' H' := by
  unfold szOf at hs; unfold zeOf at hz; unfold byOf at hby
  simp only [Option.map_eq_some_iff, Option.bind_eq_some_iff] at hs hz hby
  obtain ⟨i, hi, rfl⟩ := hs
  obtain ⟨i', hi', hz⟩ := hz
  rw [hi] at hi'; injection hi' with hi'; subst hi'
  obtain ⟨i', hi', rfl⟩ := hby
  rw [hi] at hi'; injection hi' with hi'; subst hi'
  have hmax : n ≤ 9223372036854775807 := by have := hn; unfold maxLen at this; omega
  have hb' : (i.bytes : Int) * (n : Int) ≤ 281474976710656 := by
    have h : ((i.bytes * n : Nat) : Int) ≤ 281474976710656 := by omega
    rwa [Int.natCast_mul] at h
  have hrun := run_make (P := P) w t e i z ht hi hz kl kc n n (by omega) (Int.le_refl _) hb' (by omega)
  simp only [Int.toNat_natCast] at hrun
  obtain ⟨z1, z2, z3⟩ := zeroEl_ok hok
  refine ⟨_, _, H ++ [.row w.heap.size n i.size 0 n true], hrun, ?_⟩
  refine h.newObj hd (ext_alloc w _) (by simp) ((Fr.refl _ _).alloc _) (fun b hb => by
    simp only [Hd.blk] at hb
    split at hb
    · injection hb with hb; subst hb; simp
    · cases hb) ?_ ?_
  · have hrepl : ∀ (k : Nat) (x : AV), (List.replicate n (zeroEl z.cells.toList ag))[k]? = some x → k < n ∧ x = zeroEl z.cells.toList ag := by
      intro k x hx
      rw [List.getElem?_replicate] at hx
      split at hx
      · rename_i hk; injection hx with hx; exact ⟨hk, hx.symm⟩
      · cases hx
    refine ⟨rfl, rfl, rfl, by simp, Nat.le_refl _, fun _ => ⟨_, e, (0, 0), heap_alloc_new w _, fun _ => rfl, fun _ _ => by simp, size_madeCells _ _, fun k x j y hx hy => ?_⟩, fun k x hx => ?_⟩
    · obtain ⟨hk, rfl⟩ := hrepl k x hx
      rw [z2] at hy
      have hj := (List.getElem?_eq_some_iff.1 hy).1
      simp only [List.length_map, Array.length_toList] at hj
      rw [made_get z1 hk (by omega)]
      exact (repL_vals z.cells).2 j y hy
    · obtain ⟨hk, rfl⟩ := hrepl k x hx
      exact ⟨z3, by rw [z2]; simp [z1]⟩
  · rw [← h.mem.len]
    exact .row _ 0 n 0 n ⟨_, _, _, rfl⟩ (snoc_last _ _) (.inr ⟨rfl, Nat.le_refl _⟩) fun _ _ => ⟨by omega, by omega, some ⟨w.heap.size, 0, none⟩, rfl, fun q => by simp, fun q => by cases q⟩

/-- the elements of a slice that is built -/
def ElR (S : Nat → Nat → Prop) (w : World) (sz : Nat) (cells : Array Value) (l : List AV) : Prop := cells.size = l.length * sz ∧ (∀ (i : Nat) (x : AV), l[i]? = some x → x.ground = true ∧ x.cells.length = sz) ∧
  ∀ (i : Nat) (x : AV) (j : Nat) (y : AV), l[i]? = some x → x.cells[j]? = some y → Rep S w [] (cells.getD (i * sz + j) undef) y
theorem gr_isCell {y : AV} (h : y.grCell = true) : y.isCell = true := by
  cases y <;> simp [AV.grCell] at h <;> try rfl
  rename_i v
  cases v <;> simp at h <;> rfl
theorem ground_cells {y : AV} (h : y.ground = true) : y.cells.all AV.isCell = true := by
  unfold AV.ground at h
  rw [List.all_eq_true] at h ⊢
  exact fun x hx => gr_isCell (h x hx)

theorem fill_els {S' : Nat → Nat → Prop} {sz : Nat} (hsz : 0 < sz) (hr : FrOk (Stab X H w) w H a st.fr) (hm : MemAt X w st.m H) :
    ∀ (parts : List (Nat × Operand)) (cells : Array Value) (l l' : List AV), (∀ p ∈ parts, ∀ v', frz st.m (evA st.fr p.2) = some v' → Rep S' w [] (a.eval p.2) v' ∧ v'.ground = true) → ElR S' w sz cells l → bsEls st.fr st.m sz l parts = some l' →
      l'.length = l.length ∧ ∃ cells', Instr.fill (fun i => some (i * sz, sz)) cells (parts.map fun p => (p.1, a.eval p.2)) = some cells' ∧ ElR S' w sz cells' l' := by
  intro parts
  induction parts with
  | nil => intro cells l l' _ h h2; simp [bsEls] at h2; subst h2; exact ⟨rfl, cells, rfl, h⟩
  | cons p r ih =>
    intro cells l l' hp h h2
    obtain ⟨i, x⟩ := p
    simp only [bsEls] at h2
    split at h2
    · rename_i v hv
      split at h2
      · rename_i hc
        obtain ⟨c1, c2⟩ := hc
        obtain ⟨hrep, hgr⟩ := hp (i, x) (by simp) v hv
        obtain ⟨⟨e1, e2⟩, _⟩ := rep_cells hrep (ground_cells hgr)
        have hvs : (a.eval x).cells.size = sz := by rw [e1, c1]
        obtain ⟨g1, g2⟩ := setRun_get (a.eval x).cells.toList 0 (i * sz) cells
        have hfold : (a.eval x).cells.zipIdx.foldl (fun cs (x : Value × Nat) => cs.setIfInBounds (i * sz + x.2) x.1) cells = ((a.eval x).cells.toList.zipIdx 0).foldl (fun cs (x : Value × Nat) => cs.setIfInBounds (i * sz + x.2) x.1) cells := by
          rw [← Array.foldl_toList, Array.toList_zipIdx]
        have hbound : i * sz + sz ≤ cells.size := by
          rw [h.1, ← Nat.succ_mul]
          exact Nat.mul_le_mul_right _ c2
        have hnew : ElR S' w sz ((a.eval x).cells.zipIdx.foldl (fun cs (x : Value × Nat) => cs.setIfInBounds (i * sz + x.2) x.1) cells) (l.set i v) := by
          rw [hfold]
          refine ⟨by rw [g1, h.1]; simp, fun k y hk => ?_, fun k y j z hk hj => ?_⟩
          · by_cases hki : k = i
            · subst hki
              rw [List.getElem?_set_self c2] at hk
              injection hk with hk; subst hk
              exact ⟨hgr, c1⟩
            · rw [List.getElem?_set_ne (Ne.symm hki)] at hk
              exact h.2.1 k y hk
          · have hjl := (List.getElem?_eq_some_iff.1 hj).1
            rw [g2 _ (by simp; omega)]
            simp only [Nat.add_zero, Array.length_toList, hvs]
            by_cases hki : k = i
            · subst hki
              rw [List.getElem?_set_self c2] at hk
              injection hk with hk; subst hk
              rw [if_pos (by omega), Nat.add_sub_cancel_left]
              have := e2 j z hj
              simpa using this
            · rw [List.getElem?_set_ne (Ne.symm hki)] at hk
              have hjs : j < sz := by have := (h.2.1 k y hk).2; omega
              rw [if_neg ?_]
              · exact h.2.2 k y j z hk hj
              · intro ⟨q1, q2⟩
                rcases Nat.lt_or_ge k i with hlt | hge
                · have : (k + 1) * sz ≤ i * sz := Nat.mul_le_mul_right _ hlt
                  rw [Nat.succ_mul] at this; omega
                · have : (i + 1) * sz ≤ k * sz := Nat.mul_le_mul_right _ (by omega)
                  rw [Nat.succ_mul] at this; omega
        obtain ⟨q0, cells', q1, q2⟩ := ih _ _ _ (fun p hpp => hp p (by simp [hpp])) hnew h2
        refine ⟨by simpa using q0, cells', ?_, q2⟩
        simp only [List.map_cons, Instr.fill]
        rw [if_neg (by simp; omega)]
        exact q1
      · cases h2
    · cases h2

theorem e_bslice {t e : TypeId} {z : Value} {ag own : Bool} {sz cnt : Nat} {parts : Array (Nat × Operand)} {l : List AV} (ht : P.underlying t = some (.slice e)) (hs : szOf P e = some sz) (h0 : 0 < sz) (hz : zeOf P e = some z) (hok : zeroOk z ag sz = true) (hsm : cnt * sz ≤ 16777216)
    (h : SR X w0 N st a w H) (hd : ∀ k, d = some k → k < N) (hl : bsEls st.fr st.m sz (List.replicate cnt (zeroEl z.cells.toList ag)) parts.toList = some l) :
    ∃ v w' H', (Instr.buildSlice t cnt (parts.map fun (i, x) => (i, a.eval x))).run P w = .ok v w' ∧
      SR X w0 N (if own then ⟨putf d (.row st.m.length 0 cnt 0 cnt) st.fr, (parts.toList.foldl (fun m p => shutV m (evA st.fr p.2)) st.m) ++ [.row 0 sz l true true]⟩ else ⟨putf d (.slice sz l) st.fr, parts.toList.foldl (fun m p => shutV m (evA st.fr p.2)) st.m⟩) (a.put d v) w' H' := by
  obtain ⟨z1, z2, z3⟩ := zeroEl_ok hok
  have hfold : parts.toList.foldl (fun m p => shutV m (evA st.fr p.2)) st.m = (parts.toList.map fun p => evA st.fr p.2).foldl shutV st.m := by rw [List.foldl_map]
  obtain ⟨H1, m1, hsh, hshut⟩ := shutVs_at (parts.toList.map fun p => evA st.fr p.2) st.m H h.mem
  rw [← hfold] at m1
  have hrepl : ∀ (k : Nat) (x : AV), (List.replicate cnt (zeroEl z.cells.toList ag))[k]? = some x → k < cnt ∧ x = zeroEl z.cells.toList ag := by
    intro k x hx
    rw [List.getElem?_replicate] at hx
    split at hx
    · rename_i hk; injection hx with hx; exact ⟨hk, hx.symm⟩
    · cases hx
  have hbase : ElR (Stab X H1 w) w sz (madeCells z.cells (cnt * sz)) (List.replicate cnt (zeroEl z.cells.toList ag)) := by
    refine ⟨by rw [size_madeCells]; simp, fun k x hx => ?_, fun k x j y hx hy => ?_⟩
    · obtain ⟨hk, rfl⟩ := hrepl k x hx
      exact ⟨z3, by rw [z2]; simp [z1]⟩
    · obtain ⟨hk, rfl⟩ := hrepl k x hx
      rw [z2] at hy
      have hj := (List.getElem?_eq_some_iff.1 hy).1
      simp only [List.length_map, Array.length_toList] at hj
      rw [made_get z1 hk (by omega)]
      exact (repL_vals z.cells).2 j y hy
  have hparts : ∀ p ∈ parts.toList, ∀ v', frz st.m (evA st.fr p.2) = some v' → Rep (Stab X H1 w) w [] (a.eval p.2) v' ∧ v'.ground = true := by
    intro p hp v' hv'
    refine frz_rep h.mem (rep_ev h.frm p.2) hv' (fun b o q => (hsh.goes.stab b o q).1) fun zc hzc id ver used off len e b cap s cver cused wr hH hc hb o ho => ?_
    exact shut_stab h.mem hsh h.xb (hshut _ (List.mem_map.2 ⟨p, hp, rfl⟩) zc hzc _ _ _ _ _ e) hH hc hb ho
  obtain ⟨hlen, cells, hfill, hel⟩ := fill_els h0 h.frm h.mem parts.toList _ _ l hparts hbase hl
  simp only [List.length_replicate] at hlen
  have h1 : SR X w0 N ⟨st.fr, parts.toList.foldl (fun m p => shutV m (evA st.fr p.2)) st.m⟩ a w H1 := h.shuts m1 hsh
  have hrun : (Instr.buildSlice t cnt (parts.map fun (i, x) => (i, a.eval x))).run P w = .ok (.slice (some ⟨w.heap.size, 0, none⟩) cnt cnt) (w.alloc (.cells cells e)) := by
    unfold szOf at hs; unfold zeOf at hz
    simp only [Option.map_eq_some_iff, Option.bind_eq_some_iff] at hs hz
    obtain ⟨i, hi, rfl⟩ := hs
    obtain ⟨i', hi', hz⟩ := hz
    rw [hi] at hi'; injection hi' with hi'; subst hi'
    have hf' : Instr.fill (fun k => some (k * i.size, i.size)) ((Array.range (cnt * i.size)).map (z.cells[· % z.cells.size]!)) (parts.map fun (i, x) => (i, a.eval x)).toList = some cells := by
      rw [Array.toList_map]; exact hfill
    by_cases hc : cnt = 0
    · subst hc
      have hp : parts.toList = [] := by
        cases hq : parts.toList with
        | nil => rfl
        | cons p r =>
          obtain ⟨k, x⟩ := p
          rw [hq] at hl
          simp only [bsEls] at hl
          split at hl
          · simp at hl
          · cases hl
      have hp' : parts = #[] := by rw [← Array.toList_inj]; simpa using hp
      subst hp'
      simp [Instr.fill] at hf'
      subst hf'
      simp [Instr.buildSlice, run_underlying ht, sizeOf, typeInfo, hi, Instr.fill, newRow]
      have e0 : ∀ g : Nat → Value, Array.map g (Array.range 0) = #[] := fun g => Array.eq_empty_of_size_eq_zero (by simp)
      rw [e0, e0]
    · exact run_buildSlice w t e cnt _ cells i z ht hi hz (by omega) (by have := Nat.mul_pos (Nat.pos_of_ne_zero hc) h0; omega) hf'
  have hext := ext_alloc w (.cells cells e)
  have hnew : ∀ (H' : List Hd), (∀ b o, Stab X H1 w b o → Stab X H' (w.alloc (.cells cells e)) b o) → ∀ {v y}, Rep (Stab X H1 w) w [] v y → Rep (Stab X H' (w.alloc (.cells cells e))) (w.alloc (.cells cells e)) [] v y := by
    intro H' hS v y hr
    exact hr.mono (fun b o q => ⟨hS b o q, hext.cell q.1 o⟩) (HLe.refl _)
  cases own with
  | true =>
    refine ⟨_, _, H1 ++ [.row w.heap.size cnt sz 0 cnt true], hrun, ?_⟩
    have hblk : ∀ b, (Hd.row w.heap.size cnt sz 0 cnt true).blk = some b → w.heap.size ≤ b ∧ b < (w.alloc (.cells cells e)).heap.size := by
      intro b hb
      simp only [Hd.blk] at hb
      split at hb
      · injection hb with hb; subst hb; simp
      · cases hb
    refine h1.newObj hd hext (by simp) ((Fr.refl _ _).alloc _) hblk ?_ ?_
    · refine ⟨rfl, rfl, rfl, hlen.symm, Nat.le_refl _, fun _ => ⟨cells, e, (0, 0), heap_alloc_new w _, fun _ => rfl, fun _ _ => by simp, by rw [hel.1, hlen], fun k x j y hx hy => ?_⟩, hel.2.1⟩
      exact hnew _ (fun b o q => ((goes_new (h := .row w.heap.size cnt sz 0 cnt true) hext (by simp) fun b hb => (hblk b hb).1).stab b o q).1) (hel.2.2 k x j y hx hy)
    · have : (List.foldl (fun m p => shutV m (evA st.fr p.2)) st.m parts.toList).length = st.m.length := by rw [← m1.len, hsh.1, h.mem.len]
      rw [← this, ← h1.mem.len]
      exact .row _ 0 cnt 0 cnt ⟨_, _, _, rfl⟩ (snoc_last _ _) (.inr ⟨rfl, Nat.le_refl _⟩) fun _ _ => ⟨by omega, by omega, some ⟨w.heap.size, 0, none⟩, rfl, fun q => by simp, fun q => by cases q⟩
  | false =>
    refine ⟨_, _, H1, hrun, ?_⟩
    refine h1.go hd (goes_ext hext (by simp)) (h1.mem.ext hext (by simp)) (h1.grw.alloc _) h1.new ?_
    have hst : ∀ o, Stab X H1 (w.alloc (.cells cells e)) w.heap.size o := by
      intro o
      refine ⟨by simp, fun hx => ?_, fun ⟨i, k, hk, hmut⟩ => ?_⟩
      · have := h.old _ _ hx; have := h.size; omega
      · have := h1.mem.lt i k _ hk (Hd.mut_blk hmut); omega
    have := Rep.slice (S := Stab X H1 (w.alloc (.cells cells e))) (w := w.alloc (.cells cells e)) (H := H1) (A := some ⟨w.heap.size, 0, none⟩) (c := cnt) (l := l) w.heap.size 0 sz (fun i j => cells.getD (i * sz + j) undef) (by omega) (fun q => by cases q) (fun _ => rfl) hel.2.1
      (fun i x j y hx hy => ⟨by
        have hjl := (List.getElem?_eq_some_iff.1 hy).1
        have hil := (List.getElem?_eq_some_iff.1 hx).1
        have hjs : j < sz := by have := (hel.2.1 i x hx).2; omega
        rw [Nat.zero_add]
        exact cell_getD (heap_alloc_new w _) (by rw [hel.1]; exact mul_lt_of hil hjs), hst _⟩)
      (fun i x j y hx hy => hnew _ (fun b o q => ((goes_ext (X := X) (H := H1) hext (by simp)).stab b o q).1) (hel.2.2 i x j y hx hy))
    rw [hlen] at this
    exact this
end
end Go.Proofs.YtgjdmlhgapmflaaDoor
