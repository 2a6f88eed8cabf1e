/- The abstract machine: one operation, one region. -/
import Derived.Test.YtgjdmlhgapmflaaDoorAm14
import Derived.Deep.Quiet
import Derived.StillTail
namespace Go.Proofs.YtgjdmlhgapmflaaDoor
set_option linter.unusedVariables false
set_option linter.unusedSimpArgs false

section
variable {P : Program} {X : Nat → Nat → Prop} {w0 : Base} {w w' : World} {N : Nat} {st : St} {a : Act} {m : List MObj} {H : List Hd} {d : Option Nat}

theorem e_s2b {src dst e : TypeId} {s : ByteArray} (hs : P.underlying src = some .string) (hd : P.underlying dst = some (.slice e)) (he : u8Of P e = true) (h : SR X w0 N st a w H) (hdd : ∀ k, d = some k → k < N) :
    ∃ v w' H', (convert src dst (.string s)).run P w = .ok v w' ∧ SR X w0 N ⟨putf d (.row st.m.length 0 s.size 0 s.size) st.fr, st.m ++ [.row 0 1 (s.data.toList.map fun b => .val (.int .u8 b.toNat)) true false]⟩ (a.put d v) w' H' := by
  have he' : P.underlying e = some (.int .u8) := by
    unfold u8Of at he
    split at he
    · assumption
    · cases he
  have hcap : s.size ≤ Question.cut (.appendCap s.size 0 e) (w.tape w.drawn (.appendCap s.size 0 e)) := by simp [Question.cut]
  generalize hc : Question.cut (.appendCap s.size 0 e) (w.tape w.drawn (.appendCap s.size 0 e)) = cap at hcap
  generalize hcs : (s.data.map fun b => Value.int .u8 b.toNat) ++ Array.replicate (cap - s.size) (Value.int .u8 0) = cs
  have hsz : cs.size = cap := by rw [← hcs]; simp only [Array.size_append, Array.size_map, Array.size_replicate]; have : s.data.size = s.size := rfl; omega
  have hrun : (convert src dst (.string s)).run P w = .ok (.slice (some ⟨w.heap.size, 0, none⟩) s.size cap) ((w.drew.alloc (.cells cs e)).freeze ⟨w.heap.size, cs.size, none⟩ 1) := by
    have hsh : (w.drew.alloc (.cells cs e)).shape? w.heap.size = some (e, cs.size) := by
      have := heap_drew_alloc w (.cells cs e)
      unfold World.shape?; rw [this]
    simp only [convert, Sem.run_bind, run_underlying hs, run_underlying hd, run_underlying he', Result.andThen_ok, Conv.stringToBytes, choose, Sem.run, Question.forced]
    simp only [hc, hcs]
    simp [newRow, newObj, markStringish, shape, freeze, Sem.run]
    rw [hcs, hsh]
    simp [Sem.run]
  refine ⟨_, _, H ++ [.row w.heap.size cap 1 0 s.size true], hrun, ?_⟩
  generalize hw' : (w.drew.alloc (.cells cs e)).freeze ⟨w.heap.size, cs.size, none⟩ 1 = w'
  have hold : ∀ k, k ≠ w.heap.size → w'.heap[k]? = (w.drew.alloc (.cells cs e)).heap[k]? := by
    intro k hk
    rw [← hw']
    simp [World.freeze, Array.getElem?_modify, Ne.symm hk]
  have hself : w'.heap[w.heap.size]? = some (.cells cs e (cs.size, cs.size + 1)) := by
    rw [← hw']
    simp only [World.freeze, Nat.one_ne_zero, if_false, Array.getElem?_modify, if_true]
    rw [heap_drew_alloc w]
    simp
  have hsize : w'.heap.size = w.heap.size + 1 := by rw [← hw']; simp [World.freeze]
  have hext : Ext w w' := fun k hk => by rw [hold k (by omega)]; exact ext_drew_alloc w _ k hk
  have hfr : Fr (fun _ => False) w w' := ⟨by rw [← hw']; rfl, by rw [← hw']; rfl, by rw [← hw']; rfl, by omega, fun k hk _ => hext k hk⟩
  have hlen : (s.data.toList.map fun b => AV.val (.int .u8 b.toNat)).length = s.size := by simp
  refine h.newObj hdd hext (by omega) hfr (fun b hb => ?_) ?_ ?_
  · simp only [Hd.blk] at hb
    split at hb
    · injection hb with hb; subst hb; omega
    · cases hb
  · refine ⟨rfl, rfl, rfl, hlen.symm, hcap, fun _ => ⟨cs, e, _, hself, fun q => (by cases q), fun o ho => by simp; omega, by rw [hsz, Nat.mul_one], fun i x j y hx hy => ?_⟩, fun i x hx => ?_⟩
    · simp only [List.getElem?_map, Option.map_eq_some_iff, Array.getElem?_toList] at hx
      obtain ⟨b, hb, rfl⟩ := hx
      have hj : j = 0 := by have := (List.getElem?_eq_some_iff.1 hy).1; simp [AV.cells] at this; exact this
      subst hj
      simp [AV.cells] at hy
      subst hy
      have hlt := (Array.getElem?_eq_some_iff.1 hb).1
      have e1 : cs.getD (i * 1 + 0) undef = .int .u8 b.toNat := by
        rw [← hcs]
        simp only [Nat.mul_one, Nat.add_zero, Array.getD_eq_getD_getElem?]
        rw [Array.getElem?_append_left (by simpa using hlt)]
        simp [hb]
      rw [e1]; exact .val _ _
    · simp only [List.getElem?_map, Option.map_eq_some_iff] at hx
      obtain ⟨b, _, rfl⟩ := hx
      exact ⟨rfl, rfl⟩
  · rw [← h.mem.len]
    exact .row _ 0 _ 0 _ ⟨_, _, _, rfl⟩ (snoc_last _ _) (.inr ⟨rfl, Nat.le_refl _⟩) fun _ _ => ⟨by omega, hcap, some ⟨w.heap.size, 0, none⟩, rfl, fun q => by simp, fun q => by cases q⟩

theorem step_pure {call : CallF} {d : Option Nat} {ao : AOp} (h : ao.isEff = false) : stepOp call st d ao = (pureOp st.m st.fr ao).map fun v => ⟨putf d v st.fr, st.m⟩ := by
  cases ao <;> first | rfl | simp [AOp.isEff] at h

theorem wp_value {o : Oper} {K : Act → World → Prop} {Q : Exit → Act → World → Prop} {v : Value} (hrun : (execOp a.eval o).run P w = .ok (.value v) w') (hK : K (a.put o.dst v) w') : o.wp P a w K Q := by
  unfold Oper.wp
  rw [hrun]
  exact hK
theorem wp_skipv {o : Oper} {K : Act → World → Prop} {Q : Exit → Act → World → Prop} (hrun : (execOp a.eval o).run P w = .ok .skip w') (hK : K (a.put o.dst undef) w') : o.wp P a w K Q := by
  unfold Oper.wp
  rw [hrun]
  exact hK

set_option maxHeartbeats 1000000 in
theorem step_sound {call : CallF} (hcall : CallsOk P call) {hint : Bool} {o : Oper} {ao : AOp} {st' : St} (hc : compOp P hint o.type o.op = some ao) (hd : ∀ k, o.dst = some k → k < N) (h : SR X w0 N st a w H) (hs : stepOp call st o.dst ao = some st')
    {K : Act → World → Prop} {Q : Exit → Act → World → Prop} (hK : ∀ a' w' H', SR X w0 N st' a' w' H' → K a' w') : o.wp P a w K Q := by
  by_cases hp : ao.isEff = false
  · rw [step_pure hp] at hs
    simp only [Option.map_eq_some_iff] at hs
    obtain ⟨av, hav, rfl⟩ := hs
    obtain ⟨v, h1, h2⟩ := pure_sound h.mem h.frm hc hav
    exact wp_value (h1 w (Ext.refl w)) (hK _ _ _ (h.pure hd h2))
  · have E : ∀ x, Rep (Stab X H w) w H (a.eval x) (evA st.fr x) := rep_ev h.frm
    have fin : ∀ (s : Sem Value), (∃ v w' H', s.run P w = .ok v w' ∧ SR X w0 N st' (a.put o.dst v) w' H') → (execOp a.eval o).run P w = (do pure (Next.value (← s)) : Sem Next).run P w → o.wp P a w K Q := by
      intro s ⟨v, w', H', h1, h2⟩ he
      refine wp_value (w' := w') (v := v) ?_ (hK _ _ _ h2)
      rw [he]; simp [h1]
    obtain ⟨dst, op, type, pos, after, guard⟩ := o
    simp only at hc hd hs fin ⊢
    cases op <;> simp only [compOp, reduceCtorEq] at hc
    case move x => injection hc with hc; subst hc; simp [AOp.isEff] at hp
    case assign x =>
      split at hc
      · simp only [Option.map_eq_some_iff] at hc
        obtain ⟨sz, _, rfl⟩ := hc
        simp only [stepOp, Option.some.injEq] at hs
        subst hs
        exact wp_value rfl (hK _ _ _ (e_nilrow sz h hd))
      · injection hc with hc; subst hc; simp [AOp.isEff] at hp
    case pick => injection hc with hc; subst hc; simp [AOp.isEff] at hp
    case binOp op t x y yt =>
      cases op <;> simp only at hc <;> (try split at hc) <;> first | (injection hc with hc; subst hc; simp [AOp.isEff] at hp; done) | (cases hc; done)
    case unOp => injection hc with hc; subst hc; simp [AOp.isEff] at hp
    case convert s d x =>
      split at hc
      · injection hc with hc; subst hc; simp [AOp.isEff] at hp
      · injection hc with hc; subst hc; simp [AOp.isEff] at hp
      · rename_i e h1 h2
        split at hc
        · rename_i hu
          injection hc with hc; subst hc
          simp only [stepOp] at hs
          split at hs
          · rename_i sv hv
            injection hs with hs; subst hs
            have hx := E x
            rw [hv] at hx
            refine fin (convert s d (a.eval x)) ?_ rfl
            rw [rep_val hx]
            exact e_s2b h1 h2 hu h hd
          · cases hs
        · cases hc
      · split at hc
        · injection hc with hc; subst hc; simp [AOp.isEff] at hp
        · cases hc
      · cases hc
    case alloc t =>
      simp only [Option.map_eq_some_iff] at hc
      obtain ⟨z, hz, rfl⟩ := hc
      simp only [stepOp, Option.some.injEq] at hs
      subst hs
      exact fin _ (e_alloc hz h hd) rfl
    case load t x =>
      split at hc
      · injection hc with hc; subst hc; simp [AOp.isEff] at hp
      · cases hc
    case store t x y =>
      split at hc
      · rename_i n hn
        injection hc with hc; subst hc
        simp only [stepOp] at hs
        split at hs
        · rename_i hcs
          have hx := E x
          have key : (∃ w' H', (Instr.storeAt t (a.eval x) (a.eval y)).run P w = .ok () w' ∧ SR X w0 N st' (a.put dst undef) w' H') → (⟨dst, .store t x y, type, pos, after, guard⟩ : Oper).wp P a w K Q := by
            intro ⟨w', H', h1, h2⟩
            refine wp_skipv (w' := w') ?_ (hK _ _ _ h2)
            simp [execOp, h1]
          refine key ?_
          split at hs
          · rename_i id off hv
            rw [hv] at hx
            split at hs
            · rename_i l hobj
              split at hs
              · rename_i hle
                injection hs with hs; subst hs
                exact e_storeP hn h hd hx (E y) hcs.1 hcs.2 hobj hle
              · cases hs
            · cases hs
          · rename_i id ver used i fo hv
            rw [hv] at hx
            split at hs
            · rename_i v s l ap hobj
              split at hs
              · rename_i hvv
                split at hs
                · rename_i gs x0 hgs hx0
                  simp only [Option.map_eq_some_iff] at hs
                  obtain ⟨x', hx', rfl⟩ := hs
                  exact e_storeE hn h hd hx (E y) hcs.1 hcs.2 hobj hvv.1 hvv.2 hgs hx0 hx'
                · cases hs
              · cases hs
            · cases hs
          · cases hs
        · cases hs
      · cases hc
    case fieldAddr s x f =>
      split at hc
      · split at hc
        · split at hc
          · injection hc with hc; subst hc; simp [AOp.isEff] at hp
          · cases hc
        · cases hc
      · cases hc
    case field s x f =>
      split at hc
      · split at hc
        · split at hc
          · injection hc with hc; subst hc; simp [AOp.isEff] at hp
          · cases hc
        · cases hc
      · cases hc
    case indexAddr t x i =>
      split at hc
      · simp only [Option.map_eq_some_iff] at hc; obtain ⟨_, _, rfl⟩ := hc; simp [AOp.isEff] at hp
      · simp only [Option.map_eq_some_iff] at hc; obtain ⟨_, _, rfl⟩ := hc; simp [AOp.isEff] at hp
      · cases hc
    case index t x i =>
      split at hc
      · injection hc with hc; subst hc; simp [AOp.isEff] at hp
      · split at hc
        · injection hc with hc; subst hc; simp [AOp.isEff] at hp
        · cases hc
      · cases hc
    case slice t x lo hi mx =>
      cases mx with
      | some _ => simp [compOp] at hc
      | none =>
        simp only [compOp] at hc
        split at hc
        · injection hc with hc; subst hc; simp [AOp.isEff] at hp
        · simp only [Option.map_eq_some_iff] at hc; obtain ⟨_, _, rfl⟩ := hc; simp [AOp.isEff] at hp
        · cases hc
    case build t parts =>
      split at hc
      · simp only [Option.bind_eq_some_iff, Option.map_eq_some_iff] at hc
        obtain ⟨_, _, _, _, rfl⟩ := hc; simp [AOp.isEff] at hp
      · simp only [Option.bind_eq_some_iff, Option.map_eq_some_iff] at hc
        obtain ⟨_, _, _, _, rfl⟩ := hc; simp [AOp.isEff] at hp
      · cases hc
    case buildSlice t len parts =>
      split at hc
      · rename_i e ht
        split at hc
        · rename_i n z ag hs1 hz1 hag1
          split at hc
          · rename_i hok
            injection hc with hc; subst hc
            simp only [stepOp] at hs
            split at hs
            · rename_i l hl
              have := e_bslice (own := hint) ht hs1 (by omega) hz1 hok.2 hok.1 h hd hl
              refine fin _ ?_ rfl
              split at hs
              · rename_i ho
                injection hs with hs; subst hs
                simp only [ho, if_true] at this
                exact this
              · rename_i ho
                injection hs with hs; subst hs
                simp only [ho] at this
                exact this
            · cases hs
          · cases hc
        · cases hc
      · cases hc
    case makeSlice t l c =>
      split at hc
      · rename_i e ht
        split at hc
        · rename_i n z ag by_ hs1 hz1 hag1 hby1
          split at hc
          · rename_i hok
            injection hc with hc; subst hc
            simp only [stepOp] at hs
            split at hs
            · rename_i i k hi hk
              split at hs
              · rename_i hcc
                obtain ⟨rfl, hm, hb⟩ := hcc
                injection hs with hs; subst hs
                obtain ⟨k1, e1⟩ := toN_some hi
                obtain ⟨k2, e2⟩ := toN_some hk
                have hx := E l; have hy := E c
                rw [e1] at hx; rw [e2] at hy
                refine fin (Instr.makeSlice t (a.eval l) (a.eval c)) ?_ rfl
                rw [rep_val hx, rep_val hy]
                exact e_mks ht hs1 hz1 hby1 hok hm hb h hd
              · cases hs
            · cases hs
          · cases hc
        · cases hc
      · cases hc
    case extract => injection hc with hc; subst hc; simp [AOp.isEff] at hp
    case call c =>
      obtain ⟨callee, args, ts⟩ := c
      cases callee with
      | invoke r n => simp [compOp] at hc
      | value f =>
        cases f <;> simp only [compOp, reduceCtorEq] at hc
        rename_i f
        split at hc
        · rename_i fn hfn
          split at hc
          · rename_i hb
            injection hc with hc; subst hc
            simp only [stepOp] at hs
            split at hs
            · rename_i vs hvs
              split at hs
              · rename_i r hr
                injection hs with hs; subst hs
                have hcl := e_call (d := dst) h hd hvs (hcall.1 f vs r hr)
                unfold Oper.wp
                have hrun : (execOp a.eval ⟨dst, .call ⟨.value (.func f), args, ts⟩, type, pos, after, guard⟩).run P w = .ok (.enter f (args.map a.eval)) w := by
                  have hbn : fn.body.isNone = false := by
                    cases hq : fn.body with
                    | none => rw [hq] at hb; simp at hb
                    | some _ => rfl
                  have hnm := hb.2
                  simp [execOp, resolve, Act.eval, Deferred.ofValue, invoke, callFunc, hfn, hbn, program, Sem.run] at hnm ⊢
                  simp [hnm]
                  intro hbb
                  rw [hbb] at hb
                  simp at hb
                rw [hrun]
                simp only [Oper.upon]
                exact hcl.mono fun e w' ⟨v, H', he, hsr⟩ => by subst he; exact hK _ _ _ hsr
              · cases hs
            · cases hs
          · cases hc
        · cases hc
      | builtin b =>
        cases b <;> simp only [compOp, reduceCtorEq] at hc
        case len =>
          split at hc
          · injection hc with hc; subst hc; simp [AOp.isEff] at hp
          · injection hc with hc; subst hc; simp [AOp.isEff] at hp
          · cases hc
        case min =>
          split at hc
          · injection hc with hc; subst hc; simp [AOp.isEff] at hp
          · cases hc
        case max =>
          split at hc
          · injection hc with hc; subst hc; simp [AOp.isEff] at hp
          · cases hc
        case append =>
          split at hc
          · rename_i x y t t' hargs hts
            split at hc
            · rename_i htt
              subst htt
              split at hc
              · rename_i e ht
                split at hc
                · rename_i n z by_ hs1 hz1 hby1
                  split at hc
                  · rename_i hzs
                    injection hc with hc; subst hc
                    have ea : args = #[x, y] := by rw [← Array.toList_inj]; simpa using hargs
                    have et : ts = #[t, t] := by rw [← Array.toList_inj]; simpa using hts
                    subst ea et
                    refine fin (Builtin.append_ #[t, t] type #[a.eval x, a.eval y]) ?_ (by simp [execOp, resolve, invoke, builtin])
                    simp only [stepOp] at hs
                    split at hs
                    · rename_i ly hly
                      have hx := E x
                      split at hs
                      · rename_i hv
                        rw [hv] at hx
                        rw [rep_val hx]
                        split at hs
                        · rename_i hb
                          injection hs with hs; subst hs
                          exact e_appNil ht hs1 (by omega) hz1 hzs hby1 h hd (E y) hly hb.1 hb.2
                        · cases hs
                      · rename_i id ver used off len hv
                        rw [hv] at hx
                        split at hs
                        · rename_i v s l wr ap hobj
                          split at hs
                          · rename_i hcc
                            obtain ⟨c1, c2, c3, c4, c5, c6, c7, c8⟩ := hcc
                            subst c3 c4
                            injection hs with hs; subst hs
                            have hap : ap = true := by simpa using c6
                            subst hap
                            exact e_appRow ht hs1 (by omega) hz1 hzs hby1 h hd hx (E y) hly hobj c1 c2 c5 c7 c8
                          · cases hs
                        · cases hs
                      · cases hs
                    · cases hs
                  · cases hc
                · cases hc
              · cases hc
            · cases hc
          · cases hc
end
end Go.Proofs.YtgjdmlhgapmflaaDoor
