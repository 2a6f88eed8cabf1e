/- The abstract machine: stores. -/
import Derived.Test.YtgjdmlhgapmflaaDoorAm11
namespace Go.Proofs.YtgjdmlhgapmflaaDoor
set_option linter.unusedVariables false
set_option linter.unusedSimpArgs false

section
variable {P : Program} {X : Nat → Nat → Prop} {w0 : Base} {w w' : World} {N : Nat} {st : St} {a : Act} {m : List MObj} {H : List Hd} {d : Option Nat}

/-- one object changes -/
theorem MemAt.upd {id : Nat} {o' : MObj} {k' : Hd} (hm : MemAt X w m H) (hg : Goes X w H w' (H.set id k')) (hsz : w.heap.size ≤ w'.heap.size)
    (hb : ∀ (i : Nat) (h : Hd) (b : Nat), i ≠ id → H[i]? = some h → h.blk = some b → w'.heap[b]? = w.heap[b]?)
    (hk : ∀ b, k'.blk = some b → b < w'.heap.size ∧ ∀ (i : Nat) (h : Hd), i ≠ id → H[i]? = some h → h.blk ≠ some b)
    (ho : ObjAt (Stab X (H.set id k') w') w' (H.set id k') o' k') : MemAt X w' (m.set id o') (H.set id k') where
  len := by simp [hm.len]
  obj := fun i o h hio hih => by
    by_cases hi : i = id
    · subst hi
      have hlt : i < (H.set i k').length := (List.getElem?_eq_some_iff.1 hih).1
      rw [List.length_set] at hlt
      rw [List.getElem?_set_self hlt] at hih
      rw [List.getElem?_set_self (by rw [← hm.len]; exact hlt)] at hio
      injection hih with hih; injection hio with hio
      subst hih hio
      exact ho
    · rw [List.getElem?_set_ne (Ne.symm hi)] at hih hio
      exact (hm.obj i o h hio hih).goes hg fun b hbb => hb i h b hi hih hbb
  lt := fun i h b hih hbb => by
    by_cases hi : i = id
    · subst hi
      have hlt : i < (H.set i k').length := (List.getElem?_eq_some_iff.1 hih).1
      rw [List.length_set] at hlt
      rw [List.getElem?_set_self hlt] at hih
      injection hih with hih; subst hih
      exact (hk b hbb).1
    · rw [List.getElem?_set_ne (Ne.symm hi)] at hih
      exact Nat.lt_of_lt_of_le (hm.lt i h b hih hbb) hsz
  apart := fun i j h k b hih hjk hb1 hb2 => by
    have own : ∀ {i : Nat} {h : Hd}, (H.set id k')[i]? = some h → i = id → h = k' := by
      intro i h hh hi
      subst hi
      have hlt : i < (H.set i k').length := (List.getElem?_eq_some_iff.1 hh).1
      rw [List.length_set] at hlt
      rw [List.getElem?_set_self hlt] at hh
      injection hh with hh; exact hh.symm
    by_cases hi : i = id <;> by_cases hj : j = id
    · rw [hi, hj]
    · have := own hih hi
      subst this
      rw [List.getElem?_set_ne (Ne.symm hj)] at hjk
      exact absurd hb2 ((hk b hb1).2 j k hj hjk)
    · have := own hjk hj
      subst this
      rw [List.getElem?_set_ne (Ne.symm hi)] at hih
      exact absurd hb1 ((hk b hb2).2 i h hi hih)
    · rw [List.getElem?_set_ne (Ne.symm hi)] at hih
      rw [List.getElem?_set_ne (Ne.symm hj)] at hjk
      exact hm.apart i j h k b hih hjk hb1 hb2

theorem set_same {α : Type} {l : List α} {i : Nat} {x : α} (h : l[i]? = some x) : l.set i x = l := by
  apply List.ext_getElem?
  intro j
  by_cases hj : i = j
  · subst hj
    rw [List.getElem?_set_self (List.getElem?_eq_some_iff.1 h).1, h]
  · rw [List.getElem?_set_ne hj]

/-- one block changes, whose cells may be written -/
theorem goes_write {id : Nat} {k : Hd} {b : Nat} {cs : Array Value} (hk : H[id]? = some k) (hb : ∀ o, k.mut b o) : Goes X w H (w.setRow b cs) H :=
  ⟨HLe.refl _, fun b' o ⟨h1, h2, h3⟩ => by
    have hne : b' ≠ b := fun e => h3 ⟨id, k, hk, by rw [e]; exact hb o⟩
    refine ⟨⟨by simpa [World.setRow] using h1, h2, h3⟩, World.cell?_of_block (setRow_other w b b' cs hne)⟩⟩
theorem fr_write {b : Nat} {cs : Array Value} (hf : Fr (fun _ => False) w0.o w) (hb : w0.o.heap.size ≤ b) : Fr (fun _ => False) w0.o (w.setRow b cs) :=
  ⟨hf.os, hf.tape, hf.output, by simpa [World.setRow] using hf.size, fun k hk q => (setRow_other w b k cs (by omega)).trans (hf.block k hk q)⟩

theorem setAt_get (l cs : List AV) (off i : Nat) (h : off + cs.length ≤ l.length) : (setAt l off cs)[i]? = if off ≤ i ∧ i < off + cs.length then cs[i - off]? else l[i]? := by
  unfold setAt
  rw [List.append_assoc, List.getElem?_append, List.length_take, Nat.min_eq_left (by omega)]
  split
  · rename_i hi
    rw [List.getElem?_take, if_pos hi, if_neg (by omega)]
  · rename_i hi
    rw [List.getElem?_append]
    split
    · rw [if_pos (by omega)]
    · rw [List.getElem?_drop, if_neg (by omega)]
      congr 1; omega
theorem setAt_length (l cs : List AV) (off : Nat) (h : off + cs.length ≤ l.length) : (setAt l off cs).length = l.length := by
  unfold setAt; simp; omega
theorem row_get (cur : Array Value) (vs : List Value) (o i : Nat) (h : o + vs.length ≤ cur.size) : (cur.toList.take o ++ vs ++ cur.toList.drop (o + vs.length)).toArray.getD i undef = if o ≤ i ∧ i < o + vs.length then vs.getD (i - o) undef else cur.getD i undef := by
  simp only [Array.getD_eq_getD_getElem?, List.getElem?_toArray, List.append_assoc]
  rw [List.getElem?_append, List.length_take, Nat.min_eq_left (by simp; omega)]
  split
  · rename_i hi
    rw [List.getElem?_take, if_pos hi, if_neg (by omega)]
    simp
  · rename_i hi
    rw [List.getElem?_append]
    split
    · rw [if_pos (by omega)]
      simp [List.getD_eq_getElem?_getD]
    · rw [List.getElem?_drop, if_neg (by omega)]
      simp only [Array.getElem?_toList]
      rw [show o + vs.length + (i - o - vs.length) = i from by omega]
theorem row_size (cur : Array Value) (vs : List Value) (o : Nat) (h : o + vs.length ≤ cur.size) : (cur.toList.take o ++ vs ++ cur.toList.drop (o + vs.length)).toArray.size = cur.size := by
  simp; omega

theorem run_storeAt {t : TypeId} {n b o : Nat} {v : Value} {ty : TypeId} {fz : Nat × Nat} {cur : Array Value} (hn : szOf P t = some n) (hv : v.cells.size = n) (hh : w.heap[b]? = some (.cells cur ty fz)) (hz : ∀ k, k < cur.size → (decide (fz.1 ≤ k) && decide (k < fz.2)) = false)
    (hl : o + n ≤ cur.size) (h1 : ∀ u ∈ v.cells.toList, u.oneCell' = true) : (Instr.storeAt t (.pointer (some ⟨b, o, none⟩)) v).run P w = .ok () (w.setRow b (cur.toList.take o ++ v.cells.toList ++ cur.toList.drop (o + v.cells.toList.length)).toArray) := by
  have := run_storeCells_fz P b o ty fz v.cells.toList 0 cur w hh hz (by simp; omega) h1
  simp only [Nat.add_zero] at this
  simp [Instr.storeAt, Instr.sureAddr, storeVar, run_szOf hn, hv, this]

theorem e_storeP {t : TypeId} {n id off : Nat} {va vv : Value} {av : AV} {l : List AV} (hn : szOf P t = some n) (h : SR X w0 N st a w H) (hd : ∀ k, d = some k → k < N) (ha : Rep (Stab X H w) w H va (.ptr id off)) (hv : Rep (Stab X H w) w H vv av)
    (hl : av.cells.length = n) (hc : av.cells.all AV.isCell = true) (hobj : st.m[id]? = some (.box l)) (hle : off + n ≤ l.length) :
    ∃ w' H', (Instr.storeAt t va vv).run P w = .ok () w' ∧ SR X w0 N ⟨putf d .any st.fr, st.m.set id (.box (setAt l off av.cells))⟩ (a.put d undef) w' H' := by
  cases ha with
  | ptr id off hH =>
    rename_i b nb
    have hO := h.mem.obj _ _ _ hobj hH
    simp only [ObjAt] at hO
    obtain ⟨e1, cur, ty, hh, hsz, hrep⟩ := hO
    obtain ⟨⟨g1, g2⟩, g3⟩ := rep_cells hv hc
    have hvn : vv.cells.size = n := by omega
    have hrun := run_storeAt (P := P) (o := off) hn hvn hh (fun k _ => by simp) (by omega) g3
    have hgo : Goes X w H (w.setRow b (cur.toList.take off ++ vv.cells.toList ++ cur.toList.drop (off + vv.cells.toList.length)).toArray) H := goes_write hH fun o => rfl
    refine ⟨_, H, hrun, ?_⟩
    have hset := set_same hH
    have hmem := h.mem.upd (id := id) (k' := .box b nb) (o' := .box (setAt l off av.cells)) (w' := w.setRow b (cur.toList.take off ++ vv.cells.toList ++ cur.toList.drop (off + vv.cells.toList.length)).toArray) (by rw [hset]; exact hgo) (by simp [World.setRow])
      (fun i k b' hi hk hb' => setRow_other w b b' _ (fun e => hi (h.mem.apart i id k _ b' hk hH hb' (by rw [e]; rfl)))) (fun b' hb' => by
        simp only [Hd.blk, Option.some.injEq] at hb'
        subst hb'
        exact ⟨by simpa [World.setRow] using h.mem.lt _ _ b hH rfl, fun i k hi hk hkb => hi (h.mem.apart i id k _ b hk hH hkb rfl)⟩) (by
        rw [hset]
        simp only [ObjAt]
        refine ⟨by rw [setAt_length _ _ _ (by omega)]; exact e1, _, ty, setRow_heap w b cur _ ty _ hh, by rw [row_size _ _ _ (by simp; omega), setAt_length _ _ _ (by omega)]; exact hsz, fun i y hy => ?_⟩
        rw [setAt_get _ _ _ _ (by omega)] at hy
        rw [row_get _ _ _ _ (by simp; omega)]
        simp only [Array.length_toList]
        split at hy
        · rename_i hi
          rw [if_pos (by omega)]
          have := hgo.rep (g2 _ _ hy)
          simpa using this
        · rename_i hi
          rw [if_neg (by omega)]
          exact hgo.rep (hrep _ _ hy))
    rw [hset] at hmem
    exact h.go hd hgo hmem (fr_write h.grw (h.new _ _ _ hH rfl)) h.new (.any _ _)

theorem setEl_cells {x x' : AV} {fo s : Nat} {gs : List AV} (h : setEl x fo gs = some x') (hx : x.cells.length = s) (hg : x.ground = true) (hgs : ∀ y ∈ gs, y.grCell = true) :
    x'.ground = true ∧ x'.cells.length = s ∧ fo + gs.length ≤ s ∧ ∀ j : Nat, x'.cells[j]? = if fo ≤ j ∧ j < fo + gs.length then gs[j - fo]? else x.cells[j]? := by
  unfold setEl at h
  split at h
  · rename_i l
    split at h
    · rename_i hle
      injection h with h; subst h
      simp only [AV.cells] at hx ⊢
      refine ⟨?_, by rw [setAt_length _ _ _ hle]; exact hx, by omega, fun j => setAt_get _ _ _ _ hle⟩
      unfold AV.ground
      rw [List.all_eq_true]
      intro y hy
      simp only [AV.cells] at hy
      unfold setAt at hy
      rw [List.mem_append, List.mem_append] at hy
      have hall := List.all_eq_true.1 hg
      rcases hy with (hy | hy) | hy
      · exact hall y (List.mem_of_mem_take hy)
      · exact hgs y hy
      · exact hall y (List.mem_of_mem_drop hy)
    · cases h
  · rename_i hne
    have e : x.cells = [x] := by cases x <;> first | rfl | exact absurd rfl (hne _)
    rw [e] at hx ⊢
    split at h
    · rename_i c
      split at h
      · rename_i h0
        injection h with h; subst h h0
        have hcg := hgs c (by simp)
        have ec : c.cells = [c] := by cases c <;> first | rfl | simp [AV.grCell] at hcg
        rw [ec]
        simp only [List.length_singleton] at hx ⊢
        refine ⟨by unfold AV.ground; rw [ec]; simp [hcg], hx, by omega, fun j => ?_⟩
        split
        · rename_i hj; rw [show j = 0 from by omega]
        · rename_i hj
          rw [List.getElem?_eq_none (by simp; omega), List.getElem?_eq_none (by simp; omega)]
      · cases h
    · cases h

theorem e_storeE {t : TypeId} {n id ver used i fo v s : Nat} {ap : Bool} {va vv : Value} {av x x' : AV} {l gs : List AV} (hn : szOf P t = some n) (h : SR X w0 N st a w H) (hd : ∀ k, d = some k → k < N) (ha : Rep (Stab X H w) w H va (.elt id ver used i fo)) (hv : Rep (Stab X H w) w H vv av)
    (hl : av.cells.length = n) (hc : av.cells.all AV.isCell = true) (hobj : (av.cells.foldl shutCell st.m)[id]? = some (.row v s l true ap)) (hver : v = ver) (hused : l.length = used) (hgs : frzCells st.m av.cells = some gs) (hx : l[i]? = some x) (hx' : setEl x fo gs = some x') :
    ∃ w' H', (Instr.storeAt t va vv).run P w = .ok () w' ∧ SR X w0 N ⟨putf d .any st.fr, (av.cells.foldl shutCell st.m).set id (.row v s (l.set i x') true ap)⟩ (a.put d undef) w' H' := by
  subst hver
  obtain ⟨H1, m1, hsh, hshut⟩ := shutCells_at av.cells st.m H h.mem
  have h1 : SR X w0 N ⟨st.fr, av.cells.foldl shutCell st.m⟩ a w H1 := h.shuts m1 hsh
  have ha1 := hsh.goes.rep ha
  cases ha1 with
  | elt id ver used i fo hs hH hle hvv =>
    rename_i b cap sz cver cused wr
    have hO := m1.obj _ _ _ hobj hH
    simp only [ObjAt] at hO
    obtain ⟨e1, e2, es, e3, e4, e5, e6⟩ := hO
    have hvv' := hvv e1.symm (by omega)
    subst e1 e2 es
    obtain ⟨g1, rfl⟩ := hvv'
    have hcap : 0 < cap := by omega
    obtain ⟨cur, ty, fz, hh, hap, hfz, hsz, hrep⟩ := e5 hcap
    obtain ⟨⟨c1, c2⟩, c3⟩ := rep_cells hv hc
    have hvn : vv.cells.size = n := by omega
    have hvl : vv.cells.toList.length = n := by simp [hvn]
    obtain ⟨q1, q2⟩ := frzCells_get hgs
    have hgrep : ∀ (j : Nat) (y : AV), gs[j]? = some y → Rep (Stab X H1 w) w [] (vv.cells.getD j undef) y ∧ y.grCell = true := by
      intro j y hy
      obtain ⟨y0, hy0, hf⟩ := q2 j y hy
      refine frzCell_rep h.mem (c2 j y0 hy0) hf (fun b o q => (hsh.goes.stab b o q).1) fun id' ver' used' off' len' e b' cap' s' cver' cused' wr' hH' hc' hb' o ho => ?_
      exact shut_stab h.mem hsh h.xb (hshut y0 (List.mem_of_getElem? hy0) _ _ _ _ _ e) hH' hc' hb' ho
    obtain ⟨hg0, hl0⟩ := e6 _ _ hx
    obtain ⟨p1, p2, p3, p4⟩ := setEl_cells hx' hl0 hg0 (fun y hy => by
      obtain ⟨j, hj⟩ := List.mem_iff_getElem?.1 hy
      exact (hgrep j y hj).2)
    have hilt := (List.getElem?_eq_some_iff.1 hx).1
    have hbound : i * s + fo + n ≤ cur.size := by
      rw [hsz]
      have : (i + 1) * s ≤ cap * s := Nat.mul_le_mul_right _ (by omega)
      rw [Nat.add_mul, Nat.one_mul] at this
      omega
    have hrun := run_storeAt (P := P) (o := i * s + fo) hn hvn hh hfz hbound c3
    have hgo : Goes X w H1 (w.setRow b (cur.toList.take (i * s + fo) ++ vv.cells.toList ++ cur.toList.drop (i * s + fo + vv.cells.toList.length)).toArray) H1 := goes_write hH fun o => ⟨rfl, hcap, .inl rfl⟩
    refine ⟨_, H1, hrun, ?_⟩
    have hset := set_same hH
    have hblk : (Hd.row b cap s cver cused true).blk = some b := by simp [Hd.blk, hcap]
    have hmem := m1.upd (id := id) (k' := .row b cap s cver cused true) (o' := .row cver s (l.set i x') true ap) (w' := w.setRow b (cur.toList.take (i * s + fo) ++ vv.cells.toList ++ cur.toList.drop (i * s + fo + vv.cells.toList.length)).toArray) (by rw [hset]; exact hgo) (by simp [World.setRow])
      (fun j k b' hi hk hb' => setRow_other w b b' _ (fun e => hi (m1.apart j id k _ b' hk hH hb' (by rw [e]; exact hblk)))) (fun b' hb' => by
        rw [hblk] at hb'
        injection hb' with hb'
        subst hb'
        exact ⟨by simpa [World.setRow] using m1.lt _ _ b hH hblk, fun j k hi hk hkb => hi (m1.apart j id k _ b hk hH hkb hblk)⟩) (by
        rw [hset]
        simp only [ObjAt]
        refine ⟨trivial, trivial, trivial, by simpa using e3, e4, fun _ => ⟨_, ty, fz, setRow_heap w b cur _ ty _ hh, hap, fun k hk => hfz k (by rw [row_size _ _ _ (by simp; omega)] at hk; exact hk), by rw [row_size _ _ _ (by simp; omega)]; exact hsz, fun k z j y hz hy => ?_⟩, fun k z hz => ?_⟩
        · rw [row_get _ _ _ _ (by simp; omega)]
          by_cases hki : k = i
          · subst hki
            rw [List.getElem?_set_self hilt] at hz
            injection hz with hz; subst hz
            rw [p4 j] at hy
            split at hy
            · rename_i hj
              rw [if_pos (by omega)]
              have := hgo.rep0 (hgrep _ _ hy).1
              rw [show k * s + j - (k * s + fo) = j - fo from by omega]
              simpa using this
            · rename_i hj
              rw [if_neg (by omega)]
              exact hgo.rep0 (hrep _ _ _ _ hx hy)
          · rw [List.getElem?_set_ne (Ne.symm hki)] at hz
            have hjl := (List.getElem?_eq_some_iff.1 hy).1
            have hjs : j < s := by have := (e6 _ _ hz).2; omega
            rw [if_neg ?_]
            · exact hgo.rep0 (hrep _ _ _ _ hz hy)
            · intro ⟨r1, r2⟩
              rcases Nat.lt_or_ge k i with hlt | hge
              · have : (k + 1) * s ≤ i * s := Nat.mul_le_mul_right _ hlt
                rw [Nat.add_mul, Nat.one_mul] at this; omega
              · have : (i + 1) * s ≤ k * s := Nat.mul_le_mul_right _ (by omega)
                rw [Nat.add_mul, Nat.one_mul] at this; omega
        · by_cases hki : k = i
          · subst hki
            rw [List.getElem?_set_self hilt] at hz
            injection hz with hz; subst hz
            exact ⟨p1, p2⟩
          · rw [List.getElem?_set_ne (Ne.symm hki)] at hz
            exact e6 _ _ hz)
    rw [hset] at hmem
    exact h1.go hd hgo hmem (fr_write h.grw (h1.new _ _ _ hH hblk)) h1.new (.any _ _)
end
end Go.Proofs.YtgjdmlhgapmflaaDoor
