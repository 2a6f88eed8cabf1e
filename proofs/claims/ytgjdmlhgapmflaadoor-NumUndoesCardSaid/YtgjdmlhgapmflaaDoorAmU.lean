/- The abstract machine: maps are written, rows are copied, calls run in their caller's memory. -/
import Derived.Test.YtgjdmlhgapmflaaDoorAmR
import Derived.Test.YtgjdmlhgapmflaaDoorAmS
import Derived.ChangeMaps5
namespace Go.Proofs.YtgjdmlhgapmflaaDoor
set_option linter.unusedVariables false
set_option linter.unusedSimpArgs false
open Go.MapKept Go.ChangeMaps

section
variable {P : Program} {X : Nat → Nat → Prop} {w0 : Base} {w w' : World} {N : Nat} {st : St} {a : Act} {fr : List (Nat × AV)} {m : List MObj} {H : List Hd} {d : Option Nat} {av : AV}

theorem e_mkmap (h : SR X w0 N st a w H) (hd : ∀ k, d = some k → k < N) :
    ∃ H', SR X w0 N ⟨putf d (.mp st.m.length) st.fr, st.m ++ [.mp []]⟩ (a.put d (.map (some w.heap.size))) (w.alloc (.map #[] 0)) H' := by
  refine ⟨H ++ [.mp w.heap.size], ?_⟩
  refine h.newObj hd (ext_alloc w _) (by simp) ((Fr.refl _ _).alloc _) (fun b hb => by simp [Hd.blk] at hb; subst hb; simp) ?_ ?_
  · refine ⟨#[], 0, heap_alloc_new w _, rfl, fun i k y hy => by simp at hy⟩
  · rw [← h.mem.len]
    exact .mp _ (snoc_last _ _)

/-- a map is written -/
theorem SR.mapSet {id b : Nat} {es es' : List (Value × AV)} {ens ens' : Array MapEntry} {cl cl' : Nat} {u : Value} (h : SR X w0 N st a w H) (hd : ∀ k, d = some k → k < N) (hobj : st.m[id]? = some (.mp es)) (hH : H[id]? = some (.mp b)) (hb : w.heap[b]? = some (.map ens cl)) (hn : ens'.size = es'.length)
    (hent : ∀ (i : Nat) (k : Value) (y : AV), es'[i]? = some (k, y) → ∃ e, ens'[i]? = some e ∧ e.key = k ∧ e.born < cl' ∧ y.ground = true ∧ Rep (Stab X H w) w [] e.val y) :
    SR X w0 N ⟨putf d .any st.fr, st.m.set id (.mp es')⟩ (a.put d u) (setBlock w b (.map ens' cl')) H := by
  have hgo : Goes X w H (setBlock w b (.map ens' cl')) H := ⟨HLe.refl _, fun b' o ⟨h1, h2, h3⟩ => by
    have hne : b' ≠ b := fun e => h3 ⟨id, _, hH, by rw [e]; exact rfl⟩
    exact ⟨⟨by simpa [setBlock] using h1, h2, h3⟩, World.cell?_of_block (heap_setBlock_other hb _ hne)⟩⟩
  have hset := set_same hH
  have hmem := h.mem.upd (id := id) (k' := .mp b) (o' := .mp es') (w' := setBlock w b (.map ens' cl')) (by rw [hset]; exact hgo) (by simp [setBlock])
      (fun i k b' hi hk hb' => heap_setBlock_other hb _ (fun e => hi (h.mem.apart i id k _ b' hk hH hb' (by rw [e]; rfl)))) (fun b' hb' => by
        simp only [Hd.blk, Option.some.injEq] at hb'
        subst hb'
        exact ⟨by simpa [setBlock] using h.mem.lt _ _ b hH rfl, fun i k hi hk hkb => hi (h.mem.apart i id k _ b hk hH hkb rfl)⟩) (by
        rw [hset]
        exact ⟨ens', cl', heap_setBlock_same hb _, hn, fun i k y hy => by
          obtain ⟨e, g1, g2, g3, g4, g5⟩ := hent i k y hy
          exact ⟨e, g1, g2, g3, g4, hgo.rep0 g5⟩⟩)
  rw [hset] at hmem
  exact h.go hd hgo hmem (h.grw.setBlock b _ (.inr (h.new _ _ _ hH rfl))) h.new (.any _ _)

theorem e_mset {t kt e : TypeId} {id : Nat} {s : ByteArray} {vx vv : Value} {av g : AV} {es es' : List (Value × AV)} (ht : P.underlying t = some (.map kt e)) (hk : P.underlying kt = some .string) (h : SR X w0 N st a w H) (hd : ∀ k, d = some k → k < N) (hx : Rep (Stab X H w) w H vx (.mp id)) (hv : Rep (Stab X H w) w H vv av)
    (hg : frz st.m av = some g) (hgr : g.ground = true) (hobj : (shutV st.m av)[id]? = some (.mp es)) (hset : setKey es (.string s) g = some es') :
    ∃ w' H', (Instr.mapUpdate t vx (.string s) vv).run P w = .ok () w' ∧ SR X w0 N ⟨putf d .any st.fr, (shutV st.m av).set id (.mp es')⟩ (a.put d undef) w' H' := by
  have hkey : IsKey .string (.string s) := trivial
  obtain ⟨H1, m1, hsh, hshut⟩ := shutCells_at av.cells st.m H h.mem
  have h1 : SR X w0 N ⟨st.fr, shutV st.m av⟩ a w H1 := h.shuts m1 hsh
  have hx1 := hsh.goes.rep hx
  have hgrep : Rep (Stab X H1 w) w [] vv g := (frz_rep h.mem hv hg (fun b o q => (hsh.goes.stab b o q).1) fun zc hzc id ver used off len e b cap s cver cused wr hH hc hb o ho => shut_stab h.mem hsh h.xb (hshut zc hzc _ _ _ _ _ e) hH hc hb ho).1
  cases hx1 with
  | mp id hH =>
    rename_i b
    have hO := m1.obj _ _ _ hobj hH
    simp only [ObjAt] at hO
    obtain ⟨ens, cl, hb, hn, hent⟩ := hO
    have hkeys : ∀ (j : Nat) (k : Value) (y : AV), es[j]? = some (k, y) → ∃ e, ens.toList[j]? = some e ∧ e.key = k := fun j k y hj => by obtain ⟨e, h1, h2, _⟩ := hent j k y hj; exact ⟨e, by simpa using h1, h2⟩
    unfold setKey at hset
    split at hset
    · rename_i j y hfe
      injection hset with hset; subst hset
      have := find_ok s es ens.toList 0 _ (by simpa using hn) hkeys hfe
      simp only at this
      obtain ⟨e1, k1, q1, q2, q3, q4, q5⟩ := this
      rw [Nat.sub_zero] at q2 q3
      have hj : ens[j]? = some e1 := by simpa using q3
      refine ⟨setBlock w b (.map (ens.modify j fun e => { e with key := .string s, val := vv }) cl), H1, ?_, h1.mapSet hd hobj hH hb (by simp [hn]) fun i k y hy => ?_⟩
      · simp [Instr.mapUpdate, run_underlying ht, MapKept.run_getObj_map hb, run_checkKey hk hkey, run_findKey hk q5, hj, q4, run_keyThatStays hkey, MapKept.run_setObj_map _ hb, Result.andThen, setBlock]
      · rw [List.getElem?_set] at hy
        by_cases hij : j = i
        · subst hij
          rw [if_pos rfl] at hy
          split at hy
          · injection hy with hy; injection hy with hy1 hy2; subst hy1 hy2
            obtain ⟨e2, g1, g2, g3, g4, g5⟩ := hent j _ _ q2
            rw [hj] at g1; injection g1 with g1; subst g1
            exact ⟨{ e1 with key := .string s, val := vv }, by simp [Array.getElem?_modify, hj], rfl, g3, hgr, hgrep⟩
          · cases hy
        · rw [if_neg hij] at hy
          obtain ⟨e2, g1, g2, g3, g4, g5⟩ := hent i _ _ hy
          exact ⟨e2, by simp [Array.getElem?_modify, hij, g1], g2, g3, g4, g5⟩
    · rename_i hfe
      injection hset with hset; subst hset
      have q := find_ok s es ens.toList 0 _ (by simpa using hn) hkeys hfe
      simp only at q
      refine ⟨setBlock w b (.map (ens.push ⟨.string s, vv, cl⟩) (cl + 1)), H1, ?_, h1.mapSet hd hobj hH hb (by simp [hn]) fun i k y hy => ?_⟩
      · simp [Instr.mapUpdate, run_underlying ht, MapKept.run_getObj_map hb, run_checkKey hk hkey, run_findKey hk q, MapKept.run_setObj_map _ hb, Result.andThen, setBlock]
      · rcases getElem?_snoc hy with ⟨y1, y2⟩ | ⟨y1, y2⟩
        · obtain ⟨e2, g1, g2, g3, g4, g5⟩ := hent i _ _ y1
          exact ⟨e2, by rw [Array.getElem?_push_lt (by omega)]; rw [← g1]; simp [Array.getElem?_eq_getElem, hn, y2], g2, by omega, g4, g5⟩
        · injection y2 with y3 y4
          subst y3 y4 y1
          refine ⟨⟨.string s, vv, cl⟩, by rw [← hn]; simp, rfl, Nat.lt_succ_self _, hgr, hgrep⟩
    · cases hset

theorem e_mdel {t kt : TypeId} {id : Nat} {s : ByteArray} {vx : Value} {ty e : TypeId} {ts : Array TypeId} {es es' : List (Value × AV)} (ht : P.underlying t = some (.map kt e)) (hts : ts[0]? = some t) (hk : P.underlying kt = some .string) (h : SR X w0 N st a w H) (hd : ∀ k, d = some k → k < N) (hx : Rep (Stab X H w) w H vx (.mp id))
    (hobj : st.m[id]? = some (.mp es)) (hset : delKey es (.string s) = some es') :
    ∃ v w' H', (Builtin.delete_ ts ty #[vx, .string s]).run P w = .ok v w' ∧ SR X w0 N ⟨putf d .any st.fr, st.m.set id (.mp es')⟩ (a.put d v) w' H' := by
  have hkey : IsKey .string (.string s) := trivial
  cases hx with
  | mp id hH =>
    rename_i b
    have hO := h.mem.obj _ _ _ hobj hH
    simp only [ObjAt] at hO
    obtain ⟨ens, cl, hb, hn, hent⟩ := hO
    have hkeys : ∀ (j : Nat) (k : Value) (y : AV), es[j]? = some (k, y) → ∃ e, ens.toList[j]? = some e ∧ e.key = k := fun j k y hj => by obtain ⟨e, h1, h2, _⟩ := hent j k y hj; exact ⟨e, by simpa using h1, h2⟩
    unfold delKey at hset
    split at hset
    · rename_i j y hfe
      injection hset with hset; subst hset
      have := find_ok s es ens.toList 0 _ (by simpa using hn) hkeys hfe
      simp only at this
      obtain ⟨e1, k1, q1, q2, q3, q4, q5⟩ := this
      rw [Nat.sub_zero] at q2 q3
      have hjl : j < ens.size := by have := (List.getElem?_eq_some_iff.1 q3).1; simpa using this
      refine ⟨.tuple #[], setBlock w b (.map (ens.eraseIdxIfInBounds j) cl), H, ?_, h.mapSet hd hobj hH hb (by
        have e1 : (ens.eraseIdxIfInBounds j).size = ens.size - 1 := by simp [Array.eraseIdxIfInBounds, hjl]
        have e2 : (es.eraseIdx j).length = es.length - 1 := by rw [List.length_eraseIdx, if_pos (by omega)]
        omega) fun i k y hy => ?_⟩
      · simp [Builtin.delete_, hts, run_underlying ht, MapKept.run_getObj_map hb, run_checkKey hk hkey, run_findKey hk q5, MapKept.run_setObj_map _ hb, Result.andThen, setBlock]
      · rw [List.getElem?_eraseIdx] at hy
        have key : ∀ i', es[i']? = some (k, y) → (ens.eraseIdxIfInBounds j)[i]? = ens[i']? → ∃ e, (ens.eraseIdxIfInBounds j)[i]? = some e ∧ e.key = k ∧ e.born < cl ∧ y.ground = true ∧ Rep (Stab X H w) w [] e.val y := fun i' hi' e' => by
          obtain ⟨e2, g1, g2, g3, g4, g5⟩ := hent i' _ _ hi'
          exact ⟨e2, e'.trans g1, g2, g3, g4, g5⟩
        have hget : (ens.eraseIdxIfInBounds j)[i]? = if i < j then ens[i]? else ens[i + 1]? := by
          rw [← Array.getElem?_toList]
          simp only [Array.eraseIdxIfInBounds, hjl, dite_true, Array.toList_eraseIdx, List.getElem?_eraseIdx, Array.getElem?_toList]
        split at hy
        · rename_i hij; exact key i hy (by rw [hget, if_pos hij])
        · rename_i hij; exact key (i + 1) hy (by rw [hget, if_neg hij])
    · rename_i hfe
      injection hset with hset; subst hset
      have q := find_ok s es ens.toList 0 _ (by simpa using hn) hkeys hfe
      simp only at q
      refine ⟨.tuple #[], setBlock w b (.map ens cl), H, ?_, h.mapSet hd hobj hH hb hn hent⟩
      simp [Builtin.delete_, hts, run_underlying ht, MapKept.run_getObj_map hb, run_checkKey hk hkey, run_findKey hk q, MapKept.run_setObj_map _ hb, Result.andThen, setBlock]
    · cases hset

theorem e_cpy {t e ty : TypeId} {ts : Array TypeId} {sz id ver used off len v s : Nat} {ap : Bool} {vx vy : Value} {ay : AV} {l ly : List AV} (hts : ts[0]? = some t) (ht : P.underlying t = some (.slice e)) (hs : szOf P e = some sz) (h0 : 0 < sz) (h : SR X w0 N st a w H) (hd : ∀ k, d = some k → k < N)
    (hx : Rep (Stab X H w) w H vx (.row id ver used off len)) (hy : Rep (Stab X H w) w H vy ay) (hly : elemsS st.m sz ay = some ly) (hobj : st.m[id]? = some (.row v s l true ap)) (hver : v = ver) (hused : l.length = used) (hss : s = sz) :
    ∃ v' w' H', (Builtin.copy_ ts ty #[vx, vy]).run P w = .ok v' w' ∧ SR X w0 N ⟨putf d (.val (.int .i64 (min ly.length len : Nat))) st.fr, st.m.set id (.row v s (setAt l off (ly.take (min ly.length len))) true ap)⟩ (a.put d v') w' H' := by
  subst hver hused hss
  obtain ⟨A, c, news, rfl, hA, hnl, hnews, hone, hgnd, hrep⟩ := rep_news h0 h.mem hy hly
  cases hx with
  | row id ver used off len hs' hH hle hvv =>
    rename_i b cap sz cver cused wr
    have hO := h.mem.obj _ _ _ hobj hH
    simp only [ObjAt] at hO
    obtain ⟨e1, e2, es, e3, e4, e5, e6⟩ := hO
    have hvv' := hvv e1.symm e3.symm
    obtain ⟨g1, g2, B, rfl, g3, g4⟩ := hvv'
    subst e1 e2 es
    generalize hn : min ly.length len = n
    have hn1 : n ≤ ly.length := by omega
    have hn2 : n ≤ len := by omega
    have hnm : Nat.min ly.length len = n := hn
    by_cases hz : n = 0
    · subst hz
      have e : setAt l off (ly.take 0) = l := by simp [setAt]
      refine ⟨.int .i64 0, w, H, ?_, ?_⟩
      · have hfc : (Builtin.firstCells s 0 (.slice A ly.length c)).run P w = .ok #[] w := by
          cases A with
          | none => simp [Builtin.firstCells]
          | some b => simp [Builtin.firstCells, loadCells, loadCellsFrom]
        cases B with
        | none => simp [Builtin.copy_, hts, run_underlying ht, Builtin.lenOf, run_szOf hs, hnm, hfc, goInt]
        | some q => simp [Builtin.copy_, hts, run_underlying ht, Builtin.lenOf, run_szOf hs, hnm, hfc, goInt, storeCells]
      · rw [e, set_same hobj]
        exact h.pure hd (.val _ _)
    · have hcap : 0 < cap := by omega
      have hB := g3 (by omega)
      subst hB
      obtain ⟨cur, ty', fz, hh, hap, hfz, hsz, hcell⟩ := e5 hcap
      have hlt : (news.take (n * s)).length = n * s := by
        rw [List.length_take, hnl]
        have : n * s ≤ ly.length * s := Nat.mul_le_mul_right _ hn1
        omega
      have hfc : (Builtin.firstCells s n (.slice A ly.length c)).run P w = .ok (news.take (n * s)).toArray w := by
        cases A with
        | none => have := (hA rfl).1; subst this; simp at hn1; omega
        | some q => exact run_firstCells_some (P := P) w s n q ly.length c _ hlt fun j u hj => hnews q rfl j u (by rw [List.getElem?_take] at hj; split at hj; exact hj; cases hj)
      have hfit : off * s + (news.take (n * s)).length ≤ cur.size := by
        rw [hlt, hsz, ← Nat.add_mul]; exact Nat.mul_le_mul_right _ (by omega)
      have hst := run_storeCells_fz P b (off * s) ty' fz (news.take (n * s)) 0 cur w hh hfz (by simpa using hfit) fun u hu => hone u (List.mem_of_mem_take hu)
      simp only [Nat.add_zero] at hst
      have hgo : Goes X w H (w.setRow b (cur.toList.take (off * s) ++ news.take (n * s) ++ cur.toList.drop (off * s + (news.take (n * s)).length)).toArray) H := goes_write hH fun o => ⟨rfl, hcap, .inl rfl⟩
      refine ⟨.int .i64 n, w.setRow b (cur.toList.take (off * s) ++ news.take (n * s) ++ cur.toList.drop (off * s + (news.take (n * s)).length)).toArray, H, ?_, ?_⟩
      · generalize news.take (n * s) = nw at hfc hst
        simp [Builtin.copy_, hts, run_underlying ht, Builtin.lenOf, run_szOf hs, hnm, hfc, goInt, hst]
      have hset := set_same hH
      have hblk : (Hd.row b cap s cver cused true).blk = some b := by simp [Hd.blk, hcap]
      have htl : (ly.take n).length = n := by rw [List.length_take]; omega
      have hmem := h.mem.upd (id := id) (k' := .row b cap s cver cused true) (o' := .row cver s (setAt l off (ly.take n)) true ap) (w' := w.setRow b (cur.toList.take (off * s) ++ news.take (n * s) ++ cur.toList.drop (off * s + (news.take (n * s)).length)).toArray) (by rw [hset]; exact hgo) (by simp [World.setRow])
        (fun j k b' hi hk hb' => setRow_other w b b' _ (fun e => hi (h.mem.apart j id k _ b' hk hH hb' (by rw [e]; exact hblk)))) (fun b' hb' => by
          rw [hblk] at hb'
          injection hb' with hb'
          subst hb'
          exact ⟨by simpa [World.setRow] using h.mem.lt _ _ b hH hblk, fun j k hi hk hkb => hi (h.mem.apart j id k _ b hk hH hkb hblk)⟩) (by
          rw [hset]
          simp only [ObjAt]
          refine ⟨trivial, trivial, trivial, by rw [setAt_length _ _ _ (by omega)]; exact e3, e4, fun _ => ⟨_, ty', fz, setRow_heap w b cur _ ty' _ hh, hap, fun k hk => hfz k (by rw [row_size _ _ _ hfit] at hk; exact hk), by rw [row_size _ _ _ hfit]; exact hsz, fun k z j y hz hy => ?_⟩, fun k z hz => ?_⟩
          · rw [row_get _ _ _ _ hfit]
            rw [setAt_get _ _ _ _ (by omega)] at hz
            split at hz
            · rename_i hk
              rw [htl] at hk
              rw [List.getElem?_take] at hz
              split at hz
              · rename_i hkn
                have hjs : j < s := by have := (hgnd _ _ hz).2; have := (List.getElem?_eq_some_iff.1 hy).1; omega
                have hpos : (k - off) * s + j < n * s := mul_lt_of hkn hjs
                have hks : k * s + j = off * s + ((k - off) * s + j) := by
                  rw [← Nat.add_assoc, ← Nat.add_mul]; congr 2; omega
                rw [if_pos ⟨by omega, by rw [hlt]; omega⟩]
                have := hgo.rep0 (hrep _ _ _ _ hz hy)
                rw [hks, Nat.add_sub_cancel_left]
                have e : (news.take (n * s)).getD ((k - off) * s + j) undef = news.getD ((k - off) * s + j) undef := by
                  simp only [List.getD_eq_getElem?_getD, List.getElem?_take, if_pos hpos]
                rw [e]; exact this
              · cases hz
            · rename_i hk
              rw [htl] at hk
              have hjs : j < s := by have := (e6 _ _ hz).2; have := (List.getElem?_eq_some_iff.1 hy).1; omega
              rw [if_neg ?_]
              · exact hgo.rep0 (hcell _ _ _ _ hz hy)
              · rw [hlt]
                intro ⟨r1, r2⟩
                rcases Nat.lt_or_ge k off with hlt' | hge
                · have : (k + 1) * s ≤ off * s := Nat.mul_le_mul_right _ hlt'
                  rw [Nat.add_mul, Nat.one_mul] at this; omega
                · have : (off + n) * s ≤ k * s := Nat.mul_le_mul_right _ (by omega)
                  rw [Nat.add_mul] at this; omega
          · rw [setAt_get _ _ _ _ (by omega)] at hz
            split at hz
            · rw [List.getElem?_take] at hz
              split at hz
              · exact hgnd _ _ hz
              · cases hz
            · exact e6 _ _ hz)
      rw [hset] at hmem
      exact h.go hd hgo hmem (fr_write h.grw (h.new _ _ _ hH hblk)) h.new (.val _ _)

theorem cmpTs_mem {tx : TypeId} (h : (cmpTs P).contains tx = true) : (∃ k, P.underlying tx = some (.int k)) ∧ ∃ i, P.info? tx = some i ∧ i.comparable = true := by
  simp only [List.contains_eq_mem, decide_eq_true_eq, cmpTs, List.mem_filter, Bool.and_eq_true] at h
  obtain ⟨_, h1, h2⟩ := h
  constructor
  · split at h1
    · rename_i k hk; exact ⟨k, hk⟩
    · cases h1
  · split at h2
    · rename_i i hi; exact ⟨i, hi, h2⟩
    · cases h2
theorem eq_gives {t : TypeId} {x y : Operand} {u c : Value} {r : Bool} (hg : ∀ op w, (eqGuard op t x y u c).run P w = .ok () w) (h1 : binOp .eql t u c = (do pure (.bool (← Op.equal t u c)))) (h2 : binOp .neq t u c = (do pure (.bool (!(← Op.equal t u c))))) (he : ∀ (D : Nat) (w : World), (Op.equalIn (D + 2) t u c).run P w = .ok r w) (ne : Bool) :
    Gives P w (do eqGuard (if ne then .neq else .eql) t x y u c; binOp (if ne then .neq else .eql) t u c) (.bool (if ne then !r else r)) := by
  intro w' _
  have he' : ∀ w, (Op.equal t u c).run P w = .ok r w := fun w => he 9998 w
  cases ne
  · simp only [Bool.false_eq_true, if_false, Sem.run_bind, hg, Result.andThen_ok, h1, he', Sem.run_pure]
  · simp only [if_true, Sem.run_bind, hg, Result.andThen_ok, h2, he', Sem.run_pure]
set_option maxHeartbeats 2000000 in
theorem gives_ifeq {ne : Bool} {t : TypeId} {x y : Operand} {vx vy : Value} {ax ay : AV} {r : Bool} (ht : ∃ ms, P.underlying t = some (.interface ms)) (h1 : Rep (Stab X H w) w H vx ax) (h2 : Rep (Stab X H w) w H vy ay) (hr : ifeqA (cmpTs P) ax ay = some r) :
    ∃ u, Gives P w (do eqGuard (if ne then .neq else .eql) t x y vx vy; binOp (if ne then .neq else .eql) t vx vy) u ∧ Rep (Stab X H w) w H u (.val (.bool (if ne then !r else r))) := by
  refine ⟨.bool (if ne then !r else r), ?_, .val _ _⟩
  obtain ⟨ms, ht⟩ := ht
  unfold ifeqA at hr
  split at hr
  · rename_i tx k a ty k' b
    obtain rfl := rep_val h1
    obtain rfl := rep_val h2
    refine eq_gives (fun op w => by cases op <;> rfl) rfl rfl (fun D w => ?_) ne
    split at hr
    · rename_i hty
      subst hty
      split at hr
      · rename_i hc
        obtain ⟨hc, rfl⟩ := hc
        injection hr with hr
        obtain ⟨⟨k0, hk0⟩, i, hi, hci⟩ := cmpTs_mem hc
        have e : (a == b) = r := by rw [← hr]; rfl
        unfold Op.equalIn; simp only [Sem.run_bind, run_underlying ht, Result.andThen_ok, ne_eq, not_true_eq_false, if_false]; simp [typeInfo, hi, hci]; unfold Op.equalIn; simp only [Sem.run_bind, run_underlying hk0, Result.andThen_ok, if_true, Sem.run_pure, e]
      · cases hr
    · rename_i hty
      injection hr with hr; subst hr
      unfold Op.equalIn; simp only [Sem.run_bind, run_underlying ht, Result.andThen_ok, Sem.run_pure, if_pos hty, ne_eq, hty, not_false_eq_true, if_true]
  · obtain rfl := rep_val h1
    obtain rfl := rep_val h2
    injection hr with hr; subst hr
    exact eq_gives (fun op w => by cases op <;> rfl) rfl rfl (fun D w => by unfold Op.equalIn; simp only [Sem.run_bind, run_underlying ht, Result.andThen_ok, Sem.run_pure]) ne
  · obtain rfl := rep_val h1
    obtain rfl := rep_val h2
    injection hr with hr; subst hr
    exact eq_gives (fun op w => by cases op <;> rfl) rfl rfl (fun D w => by unfold Op.equalIn; simp only [Sem.run_bind, run_underlying ht, Result.andThen_ok, Sem.run_pure]) ne
  · obtain rfl := rep_val h1
    cases h2
    injection hr with hr; subst hr
    exact eq_gives (fun op w => by cases op <;> rfl) rfl rfl (fun D w => by unfold Op.equalIn; simp only [Sem.run_bind, run_underlying ht, Result.andThen_ok, Sem.run_pure]) ne
  · obtain rfl := rep_val h2
    cases h1
    injection hr with hr; subst hr
    exact eq_gives (fun op w => by cases op <;> rfl) rfl rfl (fun D w => by unfold Op.equalIn; simp only [Sem.run_bind, run_underlying ht, Result.andThen_ok, Sem.run_pure]) ne
  · cases hr
theorem gives_mkif {t : TypeId} {d : TypeDesc} {vx : Value} {ax : AV} (ht : P.underlying t = some d) (hn : ∀ ms, d ≠ .interface ms) (h1 : Rep (Stab X H w) w H vx ax) : Gives P w (Instr.makeInterface t vx) (.iface t vx) ∧ Rep (Stab X H w) w H (.iface t vx) (ifOf t ax) := by
  constructor
  · intro w' _
    cases d <;> first | (exact absurd rfl (hn _)) | simp [Instr.makeInterface, run_underlying ht]
  · unfold ifOf
    split
    · rw [rep_val h1]; exact .val _ _
    · exact .nif _ _ _
end
end Go.Proofs.YtgjdmlhgapmflaaDoor
