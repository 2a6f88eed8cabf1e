/- Own texts of this claim, merged: Am15, AmF, AmQ, AmR, AmS, AmU, AmT, AmV, Am16, Am17, AmG, AmH, Am18, Am19. -/
import Derived.Test.YtienfdjfochlcaaGreatDoorPra
import Derived.Deep.Quiet
import Derived.StillTail
import Derived.Laws.StructEq
import Derived.DeepKeys
import Derived.MapKept
import Derived.Deep.AppendSrc
import Derived.ChangeMaps5
import Derived.Scope
section
namespace Go.Proofs.YtienfdjfochlcaaGreatDoor
set_option linter.unusedVariables false
set_option linter.unusedSimpArgs false
section
variable {P : Program} {X : Nat → Nat → Prop} {w0 : Base} {w w' : World} {N : Nat} {st : St} {a : Act} {m : List MObj} {H : List Hd} {d : Option Nat}
theorem e_s2b {src dst e : TypeId} {s : ByteArray} (hs : P.underlying src = some .string) (hd : P.underlying dst = some (.slice e)) (he : u8Of P e = true) (h : SR X w0 N st a w H) (hdd : ∀ k, d = some k → k < N) :
    ∃ v w' H', (convert src dst (.string s)).run P w = .ok v w' ∧ SR X w0 N ⟨putf d (.row st.m.length 0 s.size 0 s.size) st.fr, st.m ++ [.row 0 1 (s.data.toList.map fun b => .val (.int .u8 b.toNat)) true 0]⟩ (a.put d v) w' H' := by
  have he' : P.underlying e = some (.int .u8) := by
    unfold u8Of at he
    split at he
    · assumption
    · cases he
  have hcap : s.size ≤ Question.cut (.appendCap s.size 0 e) (w.tape w.drawn (.appendCap s.size 0 e)) := by simp [Question.cut]
  generalize hc : Question.cut (.appendCap s.size 0 e) (w.tape w.drawn (.appendCap s.size 0 e)) = cap at hcap
  generalize hcs : (s.data.map fun b => Value.int .u8 b.toNat) ++ Array.replicate (cap - s.size) (Value.int .u8 0) = cs
  have hsz : cs.size = cap := by rw [← hcs]; simp only [Array.size_append, Array.size_map, Array.size_replicate]; have : s.data.size = s.size := rfl; omega
  have hrun : (convert src dst (.string s)).run P w = .ok (.slice (some ⟨w.heap.size, 0, none⟩) s.size cap) ((w.drew.alloc (.cells cs e)).freeze ⟨w.heap.size, cs.size, none⟩ 1) := by
    have hsh : (w.drew.alloc (.cells cs e)).shape? w.heap.size = some (e, cs.size) := by
      have := heap_drew_alloc w (.cells cs e)
      unfold World.shape?; rw [this]
    simp only [convert, Sem.run_bind, run_underlying hs, run_underlying hd, run_underlying he', Result.andThen_ok, Conv.stringToBytes, choose, Sem.run, Question.forced]
    simp only [hc, hcs]
    simp [newRow, newObj, markStringish, shape, freeze, Sem.run]
    rw [hcs, hsh]
    simp [Sem.run]
  refine ⟨_, _, if cap = 0 then H ++ [.row 1 0 1 0 0 true] else H ++ [.row w.heap.size cap 1 0 s.size true], hrun, ?_⟩
  generalize hw' : (w.drew.alloc (.cells cs e)).freeze ⟨w.heap.size, cs.size, none⟩ 1 = w'
  have hold : ∀ k, k ≠ w.heap.size → w'.heap[k]? = (w.drew.alloc (.cells cs e)).heap[k]? := by
    intro k hk
    rw [← hw']
    simp [World.freeze, Array.getElem?_modify, Ne.symm hk]
  have hself : w'.heap[w.heap.size]? = some (.cells cs e (cs.size, cs.size + 1)) := by
    rw [← hw']
    simp only [World.freeze, Nat.one_ne_zero, if_false, Array.getElem?_modify, if_true]
    rw [heap_drew_alloc w]
    simp
  have hsize : w'.heap.size = w.heap.size + 1 := by rw [← hw']; simp [World.freeze]
  have hext : Ext w w' := fun k hk => by rw [hold k (by omega)]; exact ext_drew_alloc w _ k hk
  have hfr : Fr (fun _ => False) w w' := ⟨by rw [← hw']; rfl, by rw [← hw']; rfl, by rw [← hw']; rfl, by omega, fun k hk _ => hext k hk⟩
  by_cases hc0 : cap = 0
  · rw [if_pos hc0]
    have hs0 : s.size = 0 := by omega
    have hl0 : (s.data.toList.map fun b => AV.val (.int .u8 b.toNat)) = [] := List.eq_nil_of_length_eq_zero (by simpa using hs0)
    rw [hl0, hs0]
    subst hc0
    exact e_row0 1 (by omega) h hdd hext (by omega) hfr (by simp)
  rw [if_neg hc0]
  have hlen : (s.data.toList.map fun b => AV.val (.int .u8 b.toNat)).length = s.size := by simp
  refine h.newObj hdd hext (by omega) hfr (fun b hb => ?_) ?_ ?_
  · simp only [Hd.blk] at hb
    split at hb
    · injection hb with hb; subst hb; omega
    · cases hb
  · refine ⟨rfl, rfl, rfl, hlen.symm, hcap, fun _ => ⟨cs, e, _, hself, ApOk.zero _ _, fun o ho => by simp; omega, by rw [hsz, Nat.mul_one]; exact Nat.le_refl _, fun i x j y hx hy => ?_⟩, fun i x hx => ?_, fun q => by omega⟩
    · simp only [List.getElem?_map, Option.map_eq_some_iff, Array.getElem?_toList] at hx
      obtain ⟨b, hb, rfl⟩ := hx
      have hj : j = 0 := by have := (List.getElem?_eq_some_iff.1 hy).1; simp [AV.cells] at this; exact this
      subst hj
      simp [AV.cells] at hy
      subst hy
      have hlt := (Array.getElem?_eq_some_iff.1 hb).1
      have e1 : cs.getD (i * 1 + 0) undef = .int .u8 b.toNat := by
        rw [← hcs]
        simp only [Nat.mul_one, Nat.add_zero, Array.getD_eq_getD_getElem?]
        rw [Array.getElem?_append_left (by simpa using hlt)]
        simp [hb]
      rw [e1]; exact .val _ _
    · simp only [List.getElem?_map, Option.map_eq_some_iff] at hx
      obtain ⟨b, _, rfl⟩ := hx
      exact ⟨rfl, rfl⟩
  · rw [← h.mem.len]
    exact .row _ 0 _ 0 _ ⟨_, _, _, rfl⟩ (snoc_last _ _) (.inr ⟨rfl, Nat.le_refl _⟩) fun _ _ => ⟨by omega, hcap, some ⟨w.heap.size, 0, none⟩, rfl, fun q => by simp, fun q => (by cases q), fun q => by omega⟩
theorem step_pure {call : CallF} {d : Option Nat} {ao : AOp} (h : ao.isEff = false) : stepOp call st d ao = (pureOp st.m st.fr ao).map fun v => ⟨putf d v st.fr, st.m⟩ := by
 cases ao <;> first | rfl | simp [AOp.isEff] at h
theorem wp_value {o : Oper} {K : Act → World → Prop} {Q : Exit → Act → World → Prop} {v : Value} (hrun : (execOp a.eval o).run P w = .ok (.value v) w') (hK : K (a.put o.dst v) w') : o.wp P a w K Q := by
 unfold Oper.wp
 rw [hrun]
 exact hK
theorem wp_skipv {o : Oper} {K : Act → World → Prop} {Q : Exit → Act → World → Prop} (hrun : (execOp a.eval o).run P w = .ok .skip w') (hK : K (a.put o.dst undef) w') : o.wp P a w K Q := by
 unfold Oper.wp
 rw [hrun]
 exact hK
set_option maxHeartbeats 1000000 in
theorem step_sound {call : CallF} (hcall : CallsOk P call) {hint : Bool} {o : Oper} {ao : AOp} {st' : St} (hc : compOp P hint o.type o.op = some ao) (hd : ∀ k, o.dst = some k → k < N) (h : SR X w0 N st a w H) (hs : stepOp call st o.dst ao = some st')
    {K : Act → World → Prop} {Q : Exit → Act → World → Prop} (hK : ∀ a' w' H', SR X w0 N st' a' w' H' → K a' w') : o.wp P a w K Q := by
  by_cases hp : ao.isEff = false
  · rw [step_pure hp] at hs
    simp only [Option.map_eq_some_iff] at hs
    obtain ⟨av, hav, rfl⟩ := hs
    obtain ⟨v, h1, h2⟩ := pure_sound h.mem h.frm hc hav
    exact wp_value (h1 w (Ext.refl w)) (hK _ _ _ (h.pure hd h2))
  · have E : ∀ x, Rep (Stab X H w) w H (a.eval x) (evA st.fr x) := rep_ev h.frm
    have fin : ∀ (s : Sem Value), (∃ v w' H', s.run P w = .ok v w' ∧ SR X w0 N st' (a.put o.dst v) w' H') → (execOp a.eval o).run P w = (do pure (Next.value (← s)) : Sem Next).run P w → o.wp P a w K Q := by
      intro s ⟨v, w', H', h1, h2⟩ he
      refine wp_value (w' := w') (v := v) ?_ (hK _ _ _ h2)
      rw [he]; simp [h1]
    obtain ⟨dst, op, type, pos, after, guard⟩ := o
    simp only at hc hd hs fin ⊢
    cases op <;> simp only [compOp, reduceCtorEq] at hc
    case move x => injection hc with hc; subst hc; simp [AOp.isEff] at hp
    case assign x =>
      split at hc
      · simp only [Option.map_eq_some_iff] at hc
        obtain ⟨sz, _, rfl⟩ := hc
        simp only [stepOp, Option.some.injEq] at hs
        subst hs
        exact wp_value rfl (hK _ _ _ (e_nilrow sz h hd))
      · simp only [Option.map_eq_some_iff] at hc
        obtain ⟨sz, _, rfl⟩ := hc
        simp only [stepOp, stepOp2, pure2, Option.map_some, Option.some.injEq] at hs
        subst hs
        exact wp_value rfl (hK _ _ _ (h.pure hd (rep_nilsl sz)))
      · injection hc with hc; subst hc; simp [AOp.isEff] at hp
    case pick => injection hc with hc; subst hc; simp [AOp.isEff] at hp
    case binOp op t x y yt =>
      cases op <;> simp only at hc <;> (try split at hc) <;> first | (injection hc with hc; subst hc; simp [AOp.isEff] at hp; done) | (cases hc; done)
    case unOp => injection hc with hc; subst hc; simp [AOp.isEff] at hp
    case convert s d x =>
      split at hc
      · injection hc with hc; subst hc; simp [AOp.isEff] at hp
      · injection hc with hc; subst hc; simp [AOp.isEff] at hp
      · rename_i e h1 h2
        split at hc
        · rename_i hu
          injection hc with hc; subst hc
          simp only [stepOp] at hs
          split at hs
          · rename_i sv hv
            injection hs with hs; subst hs
            have hx := E x
            rw [hv] at hx
            refine fin (convert s d (a.eval x)) ?_ rfl
            rw [rep_val hx]
            exact e_s2b h1 h2 hu h hd
          · cases hs
        · cases hc
      · split at hc
        · injection hc with hc; subst hc; simp [AOp.isEff] at hp
        · cases hc
      · cases hc
    case alloc t =>
      simp only [Option.map_eq_some_iff] at hc
      obtain ⟨z, hz, rfl⟩ := hc
      simp only [stepOp] at hs
      split at hs
      · cases hs
      · rename_i hbt
        injection hs with hs; subst hs
        exact fin _ (e_alloc hbt hz h hd) rfl
    case load t x =>
      split at hc
      · injection hc with hc; subst hc; simp [AOp.isEff] at hp
      · cases hc
    case store t x y =>
      split at hc
      · rename_i n hn
        injection hc with hc; subst hc
        simp only [stepOp] at hs
        split at hs
        · rename_i hcs
          have hx := E x
          have key : (∃ w' H', (Instr.storeAt t (a.eval x) (a.eval y)).run P w = .ok () w' ∧ SR X w0 N st' (a.put dst undef) w' H') → (⟨dst, .store t x y, type, pos, after, guard⟩ : Oper).wp P a w K Q := by
            intro ⟨w', H', h1, h2⟩
            refine wp_skipv (w' := w') ?_ (hK _ _ _ h2)
            simp [execOp, h1]
          refine key ?_
          split at hs
          · rename_i id off hv
            rw [hv] at hx
            split at hs
            · rename_i l hobj
              split at hs
              · rename_i hle
                injection hs with hs; subst hs
                exact e_storeP hn h hd hx (E y) hcs.1 hcs.2 hobj hle.1 hle.2
              · cases hs
            · cases hs
          · rename_i id off k hv
            rw [hv] at hx
            split at hs
            · rename_i l hobj
              split at hs
              · rename_i hle
                injection hs with hs; subst hs
                have hx' : Rep (Stab X H w) w H (a.eval x) (.ptr id (off + k)) := by
                  generalize a.eval x = vx at hx
                  cases hx with
                  | pel id off k hH ho => subst ho; exact .ptr id (off + k) hH
                exact e_storeP hn h hd hx' (E y) hcs.1 hcs.2 hobj hle.1 hle.2
              · cases hs
            · cases hs
          · rename_i id ver used i fo hv
            rw [hv] at hx
            split at hs
            · rename_i v s l ap hobj
              split at hs
              · rename_i hvv
                split at hs
                · rename_i gs x0 hgs hx0
                  simp only [Option.map_eq_some_iff] at hs
                  obtain ⟨x', hx', rfl⟩ := hs
                  exact e_storeE hn h hd hx (E y) hcs.1 hcs.2 hobj hvv.1 hvv.2 hgs hx0 hx'
                · cases hs
              · cases hs
            · cases hs
          · cases hs
        · cases hs
      · cases hc
    case fieldAddr s x f =>
      split at hc
      · split at hc
        · split at hc
          · injection hc with hc; subst hc; simp [AOp.isEff] at hp
          · cases hc
        · cases hc
      · cases hc
    case field s x f =>
      split at hc
      · split at hc
        · split at hc
          · injection hc with hc; subst hc; simp [AOp.isEff] at hp
          · cases hc
        · cases hc
      · cases hc
    case indexAddr t x i =>
      split at hc
      · simp only [Option.map_eq_some_iff] at hc; obtain ⟨_, _, rfl⟩ := hc; simp [AOp.isEff] at hp
      · simp only [Option.map_eq_some_iff] at hc; obtain ⟨_, _, rfl⟩ := hc; simp [AOp.isEff] at hp
      · cases hc
    case index t x i =>
      split at hc
      · injection hc with hc; subst hc; simp [AOp.isEff] at hp
      · split at hc
        · injection hc with hc; subst hc; simp [AOp.isEff] at hp
        · cases hc
      · cases hc
    case slice t x lo hi mx =>
      cases mx with
      | some _ => simp [compOp] at hc
      | none =>
        simp only [compOp] at hc
        split at hc
        · injection hc with hc; subst hc; simp [AOp.isEff] at hp
        · simp only [Option.map_eq_some_iff] at hc; obtain ⟨_, _, rfl⟩ := hc; simp [AOp.isEff] at hp
        · cases hc
    case build t parts =>
      split at hc
      · simp only [Option.bind_eq_some_iff, Option.map_eq_some_iff] at hc
        obtain ⟨_, _, _, _, rfl⟩ := hc; simp [AOp.isEff] at hp
      · simp only [Option.bind_eq_some_iff, Option.map_eq_some_iff] at hc
        obtain ⟨_, _, _, _, rfl⟩ := hc; simp [AOp.isEff] at hp
      · cases hc
    case buildSlice t len parts =>
      split at hc
      · rename_i e ht
        split at hc
        · rename_i n z ag hs1 hz1 hag1
          split at hc
          · rename_i hok
            injection hc with hc; subst hc
            simp only [stepOp] at hs
            split at hs
            · rename_i l hl
              have := e_bslice (own := hint) ht hs1 (by omega) hz1 hok.2 hok.1 h hd hl
              refine fin _ ?_ rfl
              split at hs
              · rename_i ho
                injection hs with hs; subst hs
                simp only [ho, if_true] at this
                exact this
              · rename_i ho
                injection hs with hs; subst hs
                simp only [ho] at this
                exact this
            · cases hs
          · cases hc
        · cases hc
      · cases hc
    case makeSlice t l c =>
      split at hc
      · rename_i e ht
        split at hc
        · rename_i n z ag by_ hs1 hz1 hag1 hby1
          split at hc
          · rename_i hok
            injection hc with hc; subst hc
            simp only [stepOp] at hs
            split at hs
            · rename_i i k hi hk
              split at hs
              · rename_i hcc
                obtain ⟨rfl, hm, hb⟩ := hcc
                injection hs with hs; subst hs
                obtain ⟨k1, e1⟩ := toN_some hi
                obtain ⟨k2, e2⟩ := toN_some hk
                have hx := E l; have hy := E c
                rw [e1] at hx; rw [e2] at hy
                refine fin (Instr.makeSlice t (a.eval l) (a.eval c)) ?_ rfl
                rw [rep_val hx, rep_val hy]
                exact e_mks ht hs1 hz1 hby1 hok hm hb h hd
              · cases hs
            · cases hs
          · cases hc
        · cases hc
      · cases hc
    case extract => injection hc with hc; subst hc; simp [AOp.isEff] at hp
    case call c =>
      obtain ⟨callee, args, ts⟩ := c
      cases callee with
      | invoke r n => simp [compOp] at hc
      | value f =>
        cases f <;> simp only [compOp, reduceCtorEq] at hc
        rename_i f
        split at hc
        · rename_i fn hfn
          split at hc
          · rename_i hb
            injection hc with hc; subst hc
            simp only [stepOp] at hs
            split at hs
            · rename_i vs hvs
              split at hs
              · rename_i r hr
                injection hs with hs; subst hs
                have hcl := e_call (d := dst) h hd hvs (hcall.1 f vs r hr)
                unfold Oper.wp
                have hrun : (execOp a.eval ⟨dst, .call ⟨.value (.func f), args, ts⟩, type, pos, after, guard⟩).run P w = .ok (.enter f (args.map a.eval)) w := by
                  have hbn : fn.body.isNone = false := by
                    cases hq : fn.body with
                    | none => rw [hq] at hb; simp at hb
                    | some _ => rfl
                  have hnm := hb.2
                  simp [execOp, resolve, Act.eval, Deferred.ofValue, invoke, callFunc, hfn, hbn, program, Sem.run] at hnm ⊢
                  simp [hnm]
                  intro hbb
                  rw [hbb] at hb
                  simp at hb
                rw [hrun]
                simp only [Oper.upon]
                exact hcl.mono fun e w' ⟨v, H', he, hsr⟩ => by subst he; exact hK _ _ _ hsr
              · cases hs
            · cases hs
          · cases hc
        · cases hc
      | builtin b =>
        cases b <;> simp only [compOp, reduceCtorEq] at hc
        case len =>
          split at hc
          · injection hc with hc; subst hc; simp [AOp.isEff] at hp
          · injection hc with hc; subst hc; simp [AOp.isEff] at hp
          · cases hc
        case min =>
          split at hc
          · injection hc with hc; subst hc; simp [AOp.isEff] at hp
          · cases hc
        case max =>
          split at hc
          · injection hc with hc; subst hc; simp [AOp.isEff] at hp
          · cases hc
        case append =>
          split at hc
          · rename_i x y t t' hargs hts
            split at hc
            · rename_i htt
              subst htt
              split at hc
              · rename_i e ht
                split at hc
                · rename_i n z by_ hs1 hz1 hby1
                  split at hc
                  · rename_i hzs
                    injection hc with hc; subst hc
                    have ea : args = #[x, y] := by rw [← Array.toList_inj]; simpa using hargs
                    have et : ts = #[t, t] := by rw [← Array.toList_inj]; simpa using hts
                    subst ea et
                    refine fin (Builtin.append_ #[t, t] type #[a.eval x, a.eval y]) ?_ (by simp [execOp, resolve, invoke, builtin])
                    simp only [stepOp] at hs
                    split at hs
                    · rename_i ly hly
                      have hx := E x
                      split at hs
                      · rename_i hv
                        rw [hv] at hx
                        rw [rep_val hx]
                        split at hs
                        · rename_i hb
                          injection hs with hs; subst hs
                          exact e_appNil (apOf_ok P _) ht hs1 (by omega) hz1 hzs hby1 h hd (E y) hly hb.1 hb.2
                        · cases hs
                      · rename_i id ver used off len hv
                        rw [hv] at hx
                        split at hs
                        · rename_i v s l wr ap hobj
                          split at hs
                          · rename_i hcc
                            obtain ⟨c1, c2, c3, c4, c5, c6, c7, c8⟩ := hcc
                            subst c3 c4
                            injection hs with hs; subst hs
                            exact e_appRow c6 (apOf_ok P _) ht hs1 (by omega) hz1 hzs hby1 h hd hx (E y) hly hobj c1 c2 c5 c7 c8
                          · cases hs
                        · cases hs
                      · cases hs
                    · cases hs
                  · cases hc
                · cases hc
              · cases hc
            · cases hc
          · cases hc
end
end Go.Proofs.YtienfdjfochlcaaGreatDoor
end
section
namespace Go.Proofs.YtienfdjfochlcaaGreatDoor
set_option linter.unusedVariables false
set_option linter.unusedSimpArgs false
def slotB (md : Region.Mode) (ops : Array Oper) (al : List AOper) (n : Nat) : Bool :=
 (List.range n).all fun i => (List.range n).all fun j => (i == j) || match al[i]?, al[j]? with
  | some oi, some oj => (match oj.dst with
   | some t => oi.dst != some t && (!(oi.uses.contains t) || (decide (j < i) && Region.waitsFor md ops i j) || (decide (i < j) && Region.waitsFor md ops j i))
   | none => true)
  | _, _ => false
def backB (md : Region.Mode) (ops : Array Oper) (n : Nat) : Bool :=
 (List.range n).all fun i => match ops[i]? with
  | some o => o.after.all fun e => !(Region.binds md e) || decide (e.on < i)
  | none => false
def fillB (size n : Nat) : Array Bool := ((List.range size).map fun i => decide (i < n)).toArray
def xB (md : Region.Mode) (ops : Array Oper) (al : List AOper) (n : Nat) : Bool :=
 decide (n ≤ ops.size) && decide (al.length = n) && slotB md ops al n && backB md ops n && (decide (n = ops.size) || (Region.sinkB md ops n && Region.chainB md ops n)) && Region.seqB md ops (ops.size - n) n (fillB ops.size n)
def waitC (md : Region.Mode) (ops : Array Oper) : List Nat → Bool
 | a :: b :: r => Region.waitsFor md ops b a && waitC md ops (b :: r)
 | _ => true
def freeB (al : List AOper) (cs : List Nat) (n : Nat) : Bool :=
 (List.range n).all fun i => (List.range n).all fun j => match al[i]?, al[j]? with
  | some oi, some oj => (match oj.dst with
   | some t => (cs.contains i || !cs.contains j || !oi.uses.contains t) && (!cs.contains i || cs.contains j || decide (j < i) || !oi.uses.contains t)
   | none => true)
  | _, _ => false
def mixB (md : Region.Mode) (ops : Array Oper) (al : List AOper) (cs : List Nat) : Bool :=
 decide (al.length = ops.size) && slotB md ops al ops.size && backB md ops ops.size && waitC md ops cs && cs.all (fun i => decide (i < ops.size)) && (cs.getLast? == some (ops.size - 1)) && decide (cs.Nodup) && Region.sinkB md ops (ops.size - 1) && Region.chainB md ops (ops.size - 1) && freeB al cs ops.size
end Go.Proofs.YtienfdjfochlcaaGreatDoor
end
section
namespace Go.Proofs.YtienfdjfochlcaaGreatDoor
set_option linter.unusedVariables false
set_option linter.unusedSimpArgs false
def keyTy (P : Program) (t : TypeId) : Bool := match P.underlying t with | some .string => true | _ => false
def leafOffs (P : Program) : Nat → TypeId → Option (List (Nat × Nat))
 | 0, _ => none
 | d + 1, t => match P.underlying t with
  | some .string => some [(0, 0)]
  | some (.int _) => some [(0, 1)]
  | some .bool => some [(0, 2)]
  | some (.struct fs) => if P.stoodInHeld t then none else (fs.toList.mapM fun (f : Field) => (match szOf P f.type, szOf P t, agOf P f.type, leafOffs P d f.type with
   | some s, some n, some ag, some l => if (ag = false → s = 1) ∧ f.name ≠ "_" ∧ f.offset + s ≤ n ∧ l.all (·.1 < s) then some (l.map fun (p : Nat × Nat) => (f.offset + p.1, p.2)) else none
   | _, _, _, _ => none)).map List.flatten
  | some (.array k e) => if k = 0 then none else ((List.range k).mapM fun i => (match szOf P e, szOf P t, agOf P e, leafOffs P d e with
   | some s, some n, some ag, some l => if (ag = false → s = 1) ∧ i * s + s ≤ n ∧ l.all (·.1 < s) then some (l.map fun (p : Nat × Nat) => (i * s + p.1, p.2)) else none
   | _, _, _, _ => none)).map List.flatten
  | _ => none
def nilC (P : Program) (t : TypeId) : Operand → Bool
 | .const (.pointer none) => (match P.underlying t with | some (.pointer _) => true | _ => false)
 | .const .nilFunc => (match P.underlying t with | some (.func ..) => true | _ => false)
 | .const (.map none) => (match P.underlying t with | some (.map ..) => true | _ => false)
 | .const .nilIface => (match P.underlying t with | some (.interface _) => true | _ => false)
 | .const (.slice none 0 0) => (match P.underlying t with | some (.slice _) => true | _ => false)
 | _ => false
def cstOf : Operand → Value
 | .const v => v
 | _ => undef
def cmpTs (P : Program) : List TypeId := (List.range P.types.size).filter fun t => (match P.underlying t with | some (.int _) => true | _ => false) && (match P.info? t with | some i => i.comparable | none => false)
def eqOp (P : Program) (ne : Bool) (t : TypeId) (x y : Operand) : Option AOp2 :=
 if nilC P t y then some (.isnil ne (cstOf y) x) else
 match agOf P t, szOf P t with
 | some true, some n => if P.eqGuardType P.depth t then none else (leafOffs P 12 t).map fun l => .aeq ne n l x y
 | _, _ => match P.underlying t with
  | some (.interface _) => some (.ifeq ne (cmpTs P) x y)
  | _ => none
def sliceOffs (P : Program) : Nat → TypeId → List (Nat × Nat)
 | 0, _ => []
 | d + 1, t => match P.underlying t with
  | some (.slice e) => (match szOf P e with | some s => [(0, s)] | none => [])
  | some (.struct fs) => fs.toList.flatMap fun (f : Field) => (sliceOffs P d f.type).map fun (p : Nat × Nat) => (f.offset + p.1, p.2)
  | _ => []
def sliceOffsA (P : Program) : Nat → TypeId → List (Nat × Nat)
 | 0, _ => []
 | d + 1, t => match P.underlying t with
  | some (.slice e) => (match szOf P e with | some s => [(0, s + 1048576 * apOf P e)] | none => [])
  | some (.struct fs) => fs.toList.flatMap fun (f : Field) => (sliceOffsA P d f.type).map fun (p : Nat × Nat) => (f.offset + p.1, p.2)
  | _ => []
def slc3C (P : Program) (t : TypeId) (x : Operand) : Option Operand → Option Operand → Option Operand → Option AOp2
 | none, some h, some mx => match P.underlying t with
  | some (.slice e) => (szOf P e).map fun _ => .slc3 x h mx
  | _ => none
 | _, _, _ => none
theorem slc3C_some {P : Program} {t : TypeId} {x : Operand} {lo hi mx : Option Operand} {o2 : AOp2} (h : slc3C P t x lo hi mx = some o2) : ∃ y z e sz, lo = none ∧ hi = some y ∧ mx = some z ∧ P.underlying t = some (.slice e) ∧ szOf P e = some sz ∧ o2 = .slc3 x y z := by
 unfold slc3C at h
 split at h
 ·rename_i y z
  split at h
  ·rename_i e ht
   simp only [Option.map_eq_some_iff] at h
   obtain ⟨sz, hz, rfl⟩ := h
   exact ⟨y, z, e, sz, rfl, rfl, rfl, ht, hz, rfl⟩
  ·cases h
 ·cases h
def arrC (P : Program) (t : TypeId) (x : Operand) : Option Operand → Option Operand → Option Operand → Option AOp2
 | none, none, none => match P.underlying t with
  | some (.array n e) => (match szOf P e with | some 1 => if 0 < n then some (.arrS n x) else none | _ => none)
  | _ => none
 | _, _, _ => none
theorem arrC_some {P : Program} {t : TypeId} {x : Operand} {lo hi mx : Option Operand} {o2 : AOp2} (h : arrC P t x lo hi mx = some o2) : ∃ n e, lo = none ∧ hi = none ∧ mx = none ∧ P.underlying t = some (.array n e) ∧ szOf P e = some 1 ∧ 0 < n ∧ o2 = .arrS n x := by
 unfold arrC at h
 split at h
 ·split at h
  ·rename_i n e ht
   split at h
   ·rename_i hs
    split at h
    ·rename_i hn
     injection h with h
     exact ⟨n, e, rfl, rfl, rfl, ht, hs, hn, h.symm⟩
    ·cases h
   ·cases h
  ·cases h
 ·cases h
def trC (P : Program) (ms : List Nat) (t : TypeId) (x : Operand) : Option Operand → Option Operand → Option Operand → Option AOp2
 | none, some h, none => if ms.contains 4000000 then (match P.underlying t with
  | some (.slice e) => (szOf P e).map fun _ => .trunc x h
  | _ => none) else none
 | _, _, _ => none
theorem trC_some {P : Program} {ms : List Nat} {t : TypeId} {x : Operand} {lo hi mx : Option Operand} {o2 : AOp2} (h : trC P ms t x lo hi mx = some o2) : ∃ y e sz, lo = none ∧ hi = some y ∧ mx = none ∧ P.underlying t = some (.slice e) ∧ szOf P e = some sz ∧ o2 = .trunc x y := by
 unfold trC at h
 split at h
 ·rename_i y
  split at h
  ·split at h
   ·rename_i e ht
    simp only [Option.map_eq_some_iff] at h
    obtain ⟨sz, hz, rfl⟩ := h
    exact ⟨y, e, sz, rfl, rfl, rfl, ht, hz, rfl⟩
   ·cases h
  ·cases h
 ·cases h
def strTy (P : Program) (t : Option TypeId) : Bool := match t.bind P.underlying with | some .string => true | _ => false
def rowAk : List Nat → Nat
 | [] => 1
 | k :: r => if 6000000 ≤ k then k - 6000000 else rowAk r
def comp2 (P : Program) (ms : List Nat) : Op → Option AOp2
 | .assign x => (match x with
  | .tmp t => if ms.contains 4000000 then some (.torow (rowAk ms) (.tmp t)) else none
  | _ => none)
 | .alloc t => if ms.contains 1000000 then (match sliceOffsA P 4 t, zeOf P t with
  | [], _ => none
  | offs, some z => some (.allocR t z.cells.toList offs)
  | _, none => none) else none
 | .store t a v => if ms.contains 1000000 then (match sliceOffsA P 4 t, szOf P t with
  | [], _ => none
  | offs, some (n + 1) => (match v with | .const _ => some (.storeR (n + 1) offs a v) | .tmp _ => some (.storeR (n + 1) offs a v) | _ => none)
  | _, _ => none) else none
 | .call ⟨.value (.func f), args, _⟩ => if ms.contains f then some (.callM f args.toList) else none
 | .call ⟨.value (.tmp t), args, _⟩ => some (.callV (.tmp t) args.toList)
 | .call ⟨.builtin .delete, args, ts⟩ => match args.toList, (ts[0]?).bind P.underlying with
  | [x, k], some (.map kt _) => if keyTy P kt then some (.mdel x k) else none
  | _, _ => none
 | .call ⟨.builtin .len, args, ts⟩ => match args.toList, (ts[0]?).bind P.underlying with
  | [x], some (.map _ _) => some (.mlen x)
  | _, _ => none
 | .call ⟨.builtin .copy, args, ts⟩ => match args.toList, (ts[0]?).bind P.underlying with
  | [x, y], some (.slice e) => if strTy P ts[1]? then (match szOf P e with | some 1 => some (.cpyA x y) | _ => none) else (match szOf P e with | some (n + 1) => some (.cpy (n + 1) x y) | _ => none)
  | _, _ => none
 | .nilCheck x => some (.nilchk x)
 | .slice t x lo hi mx => (match arrC P t x lo hi mx with | some o => some o | none => (match trC P ms t x lo hi mx with | some o => some o | none => slc3C P t x lo hi mx))
 | .call ⟨.builtin .cap, args, ts⟩ => match args.toList, (ts[0]?).bind P.underlying with
  | [x], some (.slice _) => some (.capN x)
  | _, _ => none
 | .range t x => match P.underlying t with | some .string => some (.rngS x) | _ => none
 | .next x true => some (.nxtS x)
 | .makeInterface t x => match P.underlying t with
  | some (.interface _) => none
  | some _ => some (.mkif t x)
  | none => none
 | .call ⟨.builtin .append, args, ts⟩ => match args.toList, ts.toList with
  | [x, y], [t, t'] => (match P.underlying t, P.underlying t' with
   | some (.slice e), some .string => (match szOf P e, zeOf P e, byOf P e with
    | some 1, some z, some 1 => if z.cells.size = 1 then some (.appS (apOf P e) x y) else none
    | _, _, _ => none)
   | some (.slice e), some (.int .i64) => (match szOf P e, zeOf P e, byOf P e with
    | some 1, some (.int .u8 0), some 1 => some (.appN (apOf P e) x y)
    | _, _, _ => none)
   | _, _ => none)
  | _, _ => none
 | .box t x => match szOf P t with | some (n + 1) => if ms.contains (9000000 + t) then some (.bxf (n + 1) x) else some (.bx t (n + 1) x) | _ => none
 | .makeFunc (.func f) first caps => some (.mkfn f first.toList caps.toList)
 | .makeMap t none => match P.underlying t with | some (.map _ _) => some .mkmap | _ => none
 | .makeMap t (some (.const (.int _ _))) => match P.underlying t with | some (.map _ _) => some .mkmap | _ => none
 | .lookup t x k ok => match P.underlying t with
  | some (.map kt e) => if keyTy P kt then (zeOf P e).map fun z => .mlook (AV.ofV z) ok x k else none
  | _ => none
 | .mapUpdate t x k v => match P.underlying t with
  | some (.map kt _) => if keyTy P kt then some (.mset x k v) else none
  | _ => none
 | .binOp .eql t x y _ => eqOp P false t x y
 | .binOp .neq t x y _ => eqOp P true t x y
 | _ => none
def compAny (P : Program) (ms : List Nat) (hint : Bool) (ty : TypeId) (op : Op) : AOp := match comp2 P ms op with
 | some o => .x o
 | none => match compOp P hint ty op with
  | some o => o
  | none => .x .bad
theorem any_cases {P : Program} {ms : List Nat} {hint : Bool} {ty : TypeId} {op : Op} {ao : AOp} (h : compAny P ms hint ty op = ao) : (∃ o2, comp2 P ms op = some o2 ∧ ao = .x o2) ∨ compOp P hint ty op = some ao ∨ ao = .x .bad := by
 unfold compAny at h
 split at h
 ·rename_i o2 h2; exact .inl ⟨o2, h2, h.symm⟩
 ·split at h
  ·rename_i o h3; exact .inr (.inl (by rw [h3, h]))
  ·exact .inr (.inr h.symm)
section
variable {P : Program} {w w' : World}
theorem bytes_beq (a b : ByteArray) : (a.toList == b.toList) = decide (a.data.toList = b.data.toList) := by
 by_cases h : a = b
 ·subst h; simp
 ·rw [str_ne h]
  symm
  rw [decide_eq_false_iff_not]
  intro e
  apply h
  cases a; cases b
  simp only at e
  congr 1
  exact Array.toList_inj.1 e
theorem bytes_beq' (a b : ByteArray) : (a == b) = decide (a.data.toList = b.data.toList) := by
 have : (a == b) = (a.toList == b.toList) := by
  rw [← beq_toListBytes]
 rw [this, bytes_beq]
def eqV (x y : Array Value) : List (Nat × Nat) → Option Bool
 | [] => some true
 | (o, k) :: r => match vEqT k (x.getD o undef) (y.getD o undef) with
  | some true => eqV x y r
  | some false => some false
  | none => none
theorem eqV_append (x y : Array Value) : ∀ (l k : List (Nat × Nat)), eqV x y (l ++ k) = match eqV x y l with | some true => eqV x y k | some false => some false | none => none
 | [], k => rfl
 | (o, q) :: r, k => by
  simp only [List.cons_append, eqV]
  rcases vEqT q (x.getD o undef) (y.getD o undef) with _ | (_ | _)
  ·rfl
  ·rfl
  ·exact eqV_append x y r k
theorem eqV_move {x y x' y' : Array Value} {off n : Nat} (hx : ∀ j, j < n → x'.getD j undef = x.getD (off + j) undef) (hy : ∀ j, j < n → y'.getD j undef = y.getD (off + j) undef) : ∀ (l : List (Nat × Nat)), l.all (·.1 < n) = true → eqV x y (l.map fun p => (off + p.1, p.2)) = eqV x' y' l
 | [], _ => rfl
 | (o, q) :: r, h => by
  simp only [List.all_cons, Bool.and_eq_true, decide_eq_true_eq] at h
  simp only [List.map_cons, eqV, hx o h.1, hy o h.1, eqV_move hx hy r h.2]
def isAggD : TypeDesc → Bool
 | .struct _ => true
 | .array _ _ => true
 | _ => false
def CellsOf (ag : Bool) (v : Value) (cs : Array Value) : Prop := if ag then v = .agg cs else cs.getD 0 undef = v
def EqOk (P : Program) (t : TypeId) (l : List (Nat × Nat)) (D : Nat) : Prop := ∀ (ag : Bool) (n : Nat) (x y : Value) (cx cy : Array Value) (r : Bool) (w : World), agOf P t = some ag → szOf P t = some n → CellsOf ag x cx → CellsOf ag y cy → n ≤ cx.size → n ≤ cy.size → eqV cx cy l = some r → (Op.equalIn D t x y).run P w = .ok r w
theorem ag_scalar {t : TypeId} {d : TypeDesc} (ht : P.underlying t = some d) (h : isAggD d = false) {ag : Bool} (ha : agOf P t = some ag) : ag = false := by
 unfold agOf at ha
 rw [ht] at ha
 simp only [Option.map_some, Option.some.injEq] at ha
 rw [← ha]; cases d <;> first | rfl | exact h
theorem eqV_one {cx cy : Array Value} {q : Nat} {r : Bool} (h : eqV cx cy [(0, q)] = some r) : vEqT q (cx.getD 0 undef) (cy.getD 0 undef) = some r := by
 simp only [eqV] at h
 split at h
 ·rename_i e; rw [e, ← h]
 ·rename_i e; rw [e, ← h]
 ·cases h
theorem part_cells {t : TypeId} {n : Nat} {ag : Bool} (hn : szOf P t = some n) (hag : agOf P t = some ag) (h1 : ag = false → n = 1) (cs : Array Value) (off : Nat) (hl : off + n ≤ cs.size) :
    ∃ v cv, (∀ w, (part t cs off).run P w = .ok v w) ∧ CellsOf ag v cv ∧ n ≤ cv.size ∧ ∀ j, j < n → cv.getD j undef = cs.getD (off + j) undef := by
  cases ag with
  | true =>
    refine ⟨.agg (cs.extract off (off + n)), cs.extract off (off + n), fun w => ?_, rfl, by simp; omega, fun j hj => ?_⟩
    · have := run_part (w := w) hn hag cs off hl (by simp)
      simpa using this
    · simp only [Array.getD_eq_getD_getElem?]
      rw [Array.getElem?_extract]
      rw [if_pos (by omega)]
  | false =>
    obtain rfl := h1 rfl
    refine ⟨cs.getD off undef, #[cs.getD off undef], fun w => ?_, rfl, by simp, fun j hj => ?_⟩
    · have := run_part (w := w) hn hag cs off hl (by simp)
      simpa using this
    · obtain rfl : j = 0 := by omega
      rfl
theorem eq_fields (D : Nat) (cx cy : Array Value) {n : Nat} (hx : n ≤ cx.size) (hy : n ≤ cy.size) : ∀ (fs : List Field) (ls : List (List (Nat × Nat))) (r : Bool) (w : World),
    (∀ (i : Nat) (f : Field), fs[i]? = some f → ∃ s ag l, szOf P f.type = some s ∧ agOf P f.type = some ag ∧ (ag = false → s = 1) ∧ f.name ≠ "_" ∧ f.offset + s ≤ n ∧ l.all (·.1 < s) = true ∧ EqOk P f.type l D ∧ ls[i]? = some (l.map fun p => (f.offset + p.1, p.2))) → fs.length = ls.length →
    eqV cx cy ls.flatten = some r → (Op.eqFields D cx cy fs).run P w = .ok r w
  | [], ls, r, w, _, hl, h => by
    obtain rfl : ls = [] := List.eq_nil_of_length_eq_zero hl.symm
    simp only [List.flatten_nil, eqV, Option.some.injEq] at h
    subst h
    simp [Op.eqFields]
  | f :: fs, [], r, w, _, hl, h => by simp at hl
  | f :: fs, l0 :: ls, r, w, hall, hl, h => by
    obtain ⟨s, ag, l, h1, h2, h3, h4, h5, h6, h7, h8⟩ := hall 0 f rfl
    simp only [List.getElem?_cons_zero, Option.some.injEq] at h8
    subst h8
    obtain ⟨v, cv, a1, a2, a3, a4⟩ := part_cells h1 h2 h3 cx f.offset (by omega)
    obtain ⟨u, cu, b1, b2, b3, b4⟩ := part_cells h1 h2 h3 cy f.offset (by omega)
    rw [List.flatten_cons, eqV_append, eqV_move a4 b4 l h6] at h
    have rest : ∀ r, eqV cx cy ls.flatten = some r → ∀ w, (Op.eqFields D cx cy fs).run P w = .ok r w := fun r hr w => eq_fields D cx cy hx hy fs ls r w (fun i f hf => by have := hall (i + 1) f (by simpa using hf); simpa using this) (by simpa using hl) hr
    simp only [Op.eqFields, Sem.run_bind, Sem.run_ite, if_pos h4, a1, b1, Result.andThen_ok]
    rcases hq : eqV cv cu l with _ | (_ | _)
    · rw [hq] at h; cases h
    · rw [hq] at h
      injection h with h; subst h
      rw [h7 ag s v u cv cu false w h2 h1 a2 b2 a3 b3 hq]
      simp
    · rw [hq] at h
      rw [h7 ag s v u cv cu true w h2 h1 a2 b2 a3 b3 hq]
      simp [rest r h w]
theorem eq_items (D : Nat) (cx cy : Array Value) {n s : Nat} {e : TypeId} {ag : Bool} {l : List (Nat × Nat)} (hx : n ≤ cx.size) (hy : n ≤ cy.size) (h1 : szOf P e = some s) (h2 : agOf P e = some ag) (h3 : ag = false → s = 1) (h6 : l.all (·.1 < s) = true) (h7 : EqOk P e l D) : ∀ (is : List Nat) (ls : List (List (Nat × Nat))) (r : Bool) (w : World),
    (∀ (i k : Nat), is[i]? = some k → k * s + s ≤ n ∧ ls[i]? = some (l.map fun p => (k * s + p.1, p.2))) → is.length = ls.length →
    eqV cx cy ls.flatten = some r → (Op.eqItems D e s cx cy is).run P w = .ok r w
  | [], ls, r, w, _, hl, h => by
    obtain rfl : ls = [] := List.eq_nil_of_length_eq_zero hl.symm
    simp only [List.flatten_nil, eqV, Option.some.injEq] at h
    subst h
    simp [Op.eqItems]
  | k :: fs, [], r, w, _, hl, h => by simp at hl
  | k :: is, l0 :: ls, r, w, hall, hl, h => by
    obtain ⟨h5, h8⟩ := hall 0 k rfl
    simp only [List.getElem?_cons_zero, Option.some.injEq] at h8
    subst h8
    obtain ⟨v, cv, a1, a2, a3, a4⟩ := part_cells h1 h2 h3 cx (k * s) (by omega)
    obtain ⟨u, cu, b1, b2, b3, b4⟩ := part_cells h1 h2 h3 cy (k * s) (by omega)
    rw [List.flatten_cons, eqV_append, eqV_move a4 b4 l h6] at h
    have rest : ∀ r, eqV cx cy ls.flatten = some r → ∀ w, (Op.eqItems D e s cx cy is).run P w = .ok r w := fun r hr w => eq_items D cx cy hx hy h1 h2 h3 h6 h7 is ls r w (fun i k hf => by have := hall (i + 1) k (by simpa using hf); simpa using this) (by simpa using hl) hr
    simp only [Op.eqItems, Sem.run_bind, Sem.run_ite, a1, b1, Result.andThen_ok]
    rcases hq : eqV cv cu l with _ | (_ | _)
    · rw [hq] at h; cases h
    · rw [hq] at h
      injection h with h; subst h
      rw [h7 ag s v u cv cu false w h2 h1 a2 b2 a3 b3 hq]
      simp
    · rw [hq] at h
      rw [h7 ag s v u cv cu true w h2 h1 a2 b2 a3 b3 hq]
      simp [rest r h w]
theorem mapM_get {α β : Type} {f : α → Option β} : ∀ {l : List α} {k : List β}, l.mapM f = some k → l.length = k.length ∧ ∀ (i : Nat) (x : α), l[i]? = some x → ∃ y, f x = some y ∧ k[i]? = some y
 | [], k, h => by simp at h; subst h; simp
 | x :: l, k, h => by
  rw [List.mapM_cons] at h
  simp only [bind, Option.bind_eq_some_iff, pure, Option.some.injEq] at h
  obtain ⟨y, h1, k', h2, rfl⟩ := h
  obtain ⟨g1, g2⟩ := mapM_get h2
  refine ⟨by simp [g1], fun i z hz => ?_⟩
  cases i with
  | zero => simp at hz; subst hz; exact ⟨y, h1, rfl⟩
  | succ i => simp at hz; obtain ⟨u, q1, q2⟩ := g2 i z hz; exact ⟨u, q1, by simpa using q2⟩
theorem cells_str (P : Program) {t e : TypeId} {n : Nat} (h : szOf P e = some n) : P.cellsOf e = n := by
 unfold szOf at h
 simp only [Option.map_eq_some_iff] at h
 obtain ⟨i, hi, rfl⟩ := h
 simp [Program.cellsOf, hi]
theorem leaf_ok : ∀ (d : Nat) (t : TypeId) (l : List (Nat × Nat)), leafOffs P d t = some l → ∀ D, d ≤ D → EqOk P t l D
 | 0, t, l, h, D, hD => by simp [leafOffs] at h
 | d + 1, t, l, h, D, hD => by
  obtain ⟨D, rfl⟩ : ∃ E, D = E + 1 := ⟨D - 1, by omega⟩
  intro ag n x y cx cy r w hag hn hx hy hnx hny hr
  unfold leafOffs at h
  have sc : ∀ {d : TypeDesc} (q : Nat), P.underlying t = some d → isAggD d = false → l = [(0, q)] → vEqT q x y = some r := by
   intro d q hd hm hl
   have := ag_scalar hd hm hag
   subst this hl
   unfold CellsOf at hx hy
   simp only [Bool.false_eq_true, if_false] at hx hy
   have := eqV_one hr
   rwa [hx, hy] at this
  split at h
  ·rename_i hd
   have hv := sc 0 hd rfl (by injection h with h; exact h.symm)
   unfold vEqT at hv
   split at hv
   ·injection hv with hv; subst hv; rw [run_equalIn_string w D t _ _ hd, bytes_beq]
   ·exfalso; omega
   ·exfalso; omega
   ·cases hv
  ·rename_i k0 hd
   have hv := sc 1 hd rfl (by injection h with h; exact h.symm)
   unfold vEqT at hv
   split at hv
   ·exfalso; omega
   ·split at hv
    ·rename_i hk
     subst hk
     injection hv with hv; subst hv
     rw [run_equalIn_int w D t _ _ _ _ hd]
     rfl
    ·cases hv
   ·exfalso; omega
   ·cases hv
  ·rename_i hd
   have hv := sc 2 hd rfl (by injection h with h; exact h.symm)
   unfold vEqT at hv
   split at hv
   ·exfalso; omega
   ·exfalso; omega
   ·injection hv with hv; subst hv; rw [run_equalIn_bool' w D t _ _ hd]; rfl
   ·cases hv
  ·rename_i fs hd
   split at h
   ·cases h
   ·rename_i hst
    have hst : P.stoodInHeld t = false := by simpa using hst
    simp only [Option.map_eq_some_iff] at h
    obtain ⟨ls, hls, rfl⟩ := h
    have hfs : P.fieldsOf t = fs := by simp [Program.fieldsOf, hd]
    have hA : ag = true := by unfold agOf at hag; rw [hd] at hag; simpa using hag.symm
    subst hA
    unfold CellsOf at hx hy
    simp only [if_true] at hx hy
    subst hx hy
    obtain ⟨g1, g2⟩ := mapM_get hls
    rw [run_equalIn_struct w D t cx cy (by rw [hfs]; exact hd) hst, hfs]
    refine eq_fields D cx cy hnx hny fs.toList ls r w (fun i f hf => ?_) g1 hr
    obtain ⟨lf, q1, q2⟩ := g2 i f hf
    split at q1
    ·rename_i s n' agf l1 e1 e2 e3 e4
     rw [hn] at e2; injection e2 with e2; subst e2
     split at q1
     ·rename_i hc
      injection q1 with q1; subst q1
      exact ⟨s, agf, l1, e1, e3, hc.1, hc.2.1, hc.2.2.1, hc.2.2.2, leaf_ok d f.type l1 e4 D (by omega), q2⟩
     ·cases q1
    ·cases q1
  ·rename_i k e hd
   split at h
   ·cases h
   rename_i hk
   simp only [Option.map_eq_some_iff] at h
   obtain ⟨ls, hls, rfl⟩ := h
   have hA : ag = true := by unfold agOf at hag; rw [hd] at hag; simpa using hag.symm
   subst hA
   unfold CellsOf at hx hy
   simp only [if_true] at hx hy
   subst hx hy
   obtain ⟨g1, g2⟩ := mapM_get hls
   obtain ⟨lf, q1, q2⟩ := g2 0 0 (by rw [List.getElem?_range (by omega)])
   split at q1
   ·rename_i s n' agf l1 e1 e2 e3 e4
    split at q1
    ·rename_i hc
     obtain ⟨i, hi, -⟩ : ∃ i, P.info? e = some i ∧ True := by
      unfold szOf at e1
      simp only [Option.map_eq_some_iff] at e1
      obtain ⟨i, hi, _⟩ := e1
      exact ⟨i, hi, trivial⟩
     rw [run_equalIn_array w D cx cy hd hi, cells_str P (t := t) e1]
     refine eq_items D cx cy hnx hny e1 e3 hc.1 hc.2.2 (leaf_ok d e l1 e4 D (by omega)) (List.range k) ls r w (fun i j hj => ?_) g1 hr
     obtain ⟨lf', q1', q2'⟩ := g2 i j hj
     rw [e1, hn, e3, e4] at q1'
     simp only at q1'
     split at q1'
     ·rename_i hc'
      injection q1' with q1'; subst q1'
      exact ⟨hc'.2.1, q2'⟩
     ·cases q1'
    ·cases q1
   ·cases q1
  ·cases h
end
end Go.Proofs.YtienfdjfochlcaaGreatDoor
end
section
namespace Go.Proofs.YtienfdjfochlcaaGreatDoor
set_option linter.unusedVariables false
set_option linter.unusedSimpArgs false
open Go.MapKept
section
variable {P : Program} {X : Nat → Nat → Prop} {w0 : Base} {w w' : World} {N : Nat} {st : St} {a : Act} {fr : List (Nat × AV)} {m : List MObj} {H : List Hd} {d : Option Nat} {av : AV}
theorem find_ok (s : ByteArray) : ∀ (es : List (Value × AV)) (ens : List MapEntry) (i : Nat) (r : Option (Nat × AV)), ens.length = es.length → (∀ (j : Nat) (k : Value) (y : AV), es[j]? = some (k, y) → ∃ e, ens[j]? = some e ∧ e.key = k) →
    findE (.string s) es i = some r → match r with
      | none => Instr.findNow .string (.string s) ens i = some none
      | some (j, y) => ∃ e k, i ≤ j ∧ es[j - i]? = some (k, y) ∧ ens[j - i]? = some e ∧ e.key = .string s ∧ Instr.findNow .string (.string s) ens i = some (some (j, e.val))
  | [], [], i, r, _, _, h => by
    simp only [findE, Option.some.injEq] at h
    subst h
    rfl
  | [], _ :: _, i, r, hl, _, h => by simp at hl
  | _ :: _, [], i, r, hl, _, h => by simp at hl
  | (k, y) :: es, e :: ens, i, r, hl, hk, h => by
    obtain ⟨e', he, hke⟩ := hk 0 k y rfl
    simp only [List.getElem?_cons_zero, Option.some.injEq] at he
    subst he
    simp only [findE] at h
    have hsame : ∀ b, vEq (.string s) k = some b → Instr.sameNow .string (.string s) e.key = some b := by
      intro b hb
      rw [hke]
      cases k <;> simp only [vEq, reduceCtorEq] at hb
      rename_i s2
      injection hb with hb; subst hb
      show some (s == s2) = _
      rw [bytes_beq']
    split at h
    · rename_i hv
      injection h with h; subst h
      refine ⟨e, k, Nat.le_refl _, by simp, by simp, ?_, ?_⟩
      · rw [hke]
        cases k <;> simp only [vEq, reduceCtorEq] at hv
        rename_i s2
        injection hv with hv
        simp only [decide_eq_true_eq] at hv
        congr 1
        cases s; cases s2
        simp only at hv
        congr 1
        exact (Array.toList_inj.1 hv).symm
      · simp only [Instr.findNow, hsame _ hv]
    · rename_i hv
      have ih := find_ok s es ens (i + 1) r (by simpa using hl) (fun j k y hj => by have := hk (j + 1) k y (by simpa using hj); simpa using this) h
      cases r with
      | none => simp only at ih ⊢; simp only [Instr.findNow, hsame _ hv]; exact ih
      | some p =>
        obtain ⟨j, y'⟩ := p
        simp only at ih ⊢
        obtain ⟨e1, k1, h1, h2, h3, h4, h5⟩ := ih
        refine ⟨e1, k1, by omega, ?_, ?_, h4, ?_⟩
        · rw [show j - i = (j - (i + 1)) + 1 from by omega]; simpa using h2
        · rw [show j - i = (j - (i + 1)) + 1 from by omega]; simpa using h3
        · simp only [Instr.findNow, hsame _ hv]; exact h5
    · cases h
theorem strOf {t : TypeId} (h : keyTy P t = true) : P.underlying t = some .string := by
 unfold keyTy at h
 split at h
 ·assumption
 ·cases h
theorem map_at {v : Value} {es : List (Value × AV)} (hm : MemAt X w m H) (h : Rep (Stab X H w) w H v av) (hes : mapOf m av = some es) :
    (v = .map none ∧ es = []) ∨ ∃ id b ens cl, av = .mp id ∧ v = .map (some b) ∧ m[id]? = some (.mp es) ∧ H[id]? = some (.mp b) ∧ w.heap[b]? = some (.map ens cl) ∧ ens.size = es.length ∧
      ∀ (i : Nat) (k : Value) (y : AV), es[i]? = some (k, y) → ∃ e, ens[i]? = some e ∧ e.key = k ∧ e.born < cl ∧ y.ground = true ∧ Rep (Stab X H w) w [] e.val y := by
  unfold mapOf at hes
  split at hes
  · rename_i id
    split at hes
    · rename_i es' hobj
      injection hes with hes; subst hes
      cases h with
      | mp id hH =>
        have hO := hm.obj _ _ _ hobj hH
        simp only [ObjAt] at hO
        obtain ⟨ens, cl, h1, h2, h3⟩ := hO
        exact .inr ⟨id, _, ens, cl, rfl, rfl, hobj, hH, h1, h2, h3⟩
    · cases hes
  · injection hes with hes; subst hes
    exact .inl ⟨rep_val h, rfl⟩
  · cases hes
theorem gives_lookup {t kt e : TypeId} {v : Value} {z : Value} {s : ByteArray} {ok : Bool} (ht : P.underlying t = some (.map kt e)) (hk : P.underlying kt = some .string) (hz : zeOf P e = some z) (hm : MemAt X w m H) {ax : AV} (h : Rep (Stab X H w) w H v ax)
    (hr : mlookA m (AV.ofV z) ok ax (.val (.string s)) = some av) : ∃ u, Gives P w (Instr.lookup t v (.string s) ok) u ∧ Rep (Stab X H w) w H u av := by
  have hkey : IsKey .string (.string s) := trivial
  have two : ∀ {u u' : Value} {y y' : AV}, Rep (Stab X H w) w H u y → Rep (Stab X H w) w H u' y' → Rep (Stab X H w) w H (.tuple #[u, u']) (.tuple [y, y']) := fun h h' => .tuple rfl fun i q hq => by
    match i, hq with
    | 0, hq => cases hq; exact h
    | 1, hq => cases hq; exact h'
  unfold mlookA at hr
  simp only at hr
  split at hr
  · rename_i es hes
    rcases map_at hm h hes with ⟨rfl, rfl⟩ | ⟨id, b, ens, cl, rfl, rfl, hobj, hH, hb, hn, hent⟩
    · simp only [findE, Option.some.injEq] at hr
      have hf : Instr.findNow .string (.string s) [] 0 = some none := rfl
      cases ok
      · simp only [Bool.false_eq_true, if_false] at hr; subst hr
        exact ⟨z, fun w' _ => by simp [Instr.lookup, run_underlying ht, run_checkKey hk hkey, run_findKey hk hf, run_zeOf hz], rep_ofV z⟩
      · simp only [if_true] at hr; subst hr
        exact ⟨.tuple #[z, .bool false], fun w' _ => by simp [Instr.lookup, run_underlying ht, run_checkKey hk hkey, run_findKey hk hf, run_zeOf hz], two (rep_ofV z) (.val _ _)⟩
    · split at hr
      · rename_i j y hfe
        have := find_ok s es ens.toList 0 _ (by simpa using hn) (fun j k y hj => by obtain ⟨e, h1, h2, _⟩ := hent j k y hj; exact ⟨e, by simpa using h1, h2⟩) hfe
        simp only at this
        obtain ⟨e1, k1, h1, h2, h3, h4, h5⟩ := this
        rw [Nat.sub_zero] at h2 h3
        obtain ⟨e2, g1, g2, g3, g4, g5⟩ := hent _ _ _ h2
        have : e2 = e1 := by rw [Array.getElem?_toList] at h3; rw [g1] at h3; injection h3
        subst this
        have hrep : Rep (Stab X H w) w H e2.val y := g5.mono (fun _ _ q => ⟨q, rfl⟩) (HLe.nil _)
        have hobj' : ∀ w' : World, Ext w w' → w'.heap[b]? = some (.map ens cl) := fun w' hw' => by rw [hw' b (lt_of_heap hb)]; exact hb
        cases ok
        · simp only [Bool.false_eq_true, if_false, Option.some.injEq] at hr; subst hr
          exact ⟨e2.val, fun w' hw' => by simp [Instr.lookup, run_underlying ht, MapKept.run_getObj_map (hobj' w' hw'), run_checkKey hk hkey, run_findKey hk h5], hrep⟩
        · simp only [if_true, Option.some.injEq] at hr; subst hr
          exact ⟨.tuple #[e2.val, .bool true], fun w' hw' => by simp [Instr.lookup, run_underlying ht, MapKept.run_getObj_map (hobj' w' hw'), run_checkKey hk hkey, run_findKey hk h5], two hrep (.val _ _)⟩
      · rename_i hfe
        have hf := find_ok s es ens.toList 0 _ (by simpa using hn) (fun j k y hj => by obtain ⟨e, h1, h2, _⟩ := hent j k y hj; exact ⟨e, by simpa using h1, h2⟩) hfe
        simp only at hf
        have hobj' : ∀ w' : World, Ext w w' → w'.heap[b]? = some (.map ens cl) := fun w' hw' => by rw [hw' b (lt_of_heap hb)]; exact hb
        cases ok
        · simp only [Bool.false_eq_true, if_false, Option.some.injEq] at hr; subst hr
          exact ⟨z, fun w' hw' => by simp [Instr.lookup, run_underlying ht, MapKept.run_getObj_map (hobj' w' hw'), run_checkKey hk hkey, run_findKey hk hf, run_zeOf hz], rep_ofV z⟩
        · simp only [if_true, Option.some.injEq] at hr; subst hr
          exact ⟨.tuple #[z, .bool false], fun w' hw' => by simp [Instr.lookup, run_underlying ht, MapKept.run_getObj_map (hobj' w' hw'), run_checkKey hk hkey, run_findKey hk hf, run_zeOf hz], two (rep_ofV z) (.val _ _)⟩
      · cases hr
  · cases hr
theorem eqV_of {cx cy : Array Value} {lx ly : List AV} (hx : ∀ (i : Nat) (y : AV), lx[i]? = some y → Rep (Stab X H w) w H (cx.getD i undef) y) (hy : ∀ (i : Nat) (y : AV), ly[i]? = some y → Rep (Stab X H w) w H (cy.getD i undef) y) : ∀ (offs : List (Nat × Nat)) (r : Bool), aeqL lx ly offs = some r → eqV cx cy offs = some r
 | [], r, h => h
 | (o, q) :: offs, r, h => by
  simp only [aeqL] at h
  split at h
  ·rename_i u v h1 h2
   have e1 := rep_val (hx _ _ h1)
   have e2 := rep_val (hy _ _ h2)
   simp only [eqV, e1, e2]
   split at h
   ·rename_i hv; rw [hv]; exact eqV_of hx hy offs r h
   ·rename_i hv; rw [hv]; exact h
   ·cases h
  ·cases h
theorem gives_aeq {ne : Bool} {t : TypeId} {x y : Operand} {vx vy : Value} {lx ly : List AV} {offs : List (Nat × Nat)} {r : Bool} (hag : agOf P t = some true) (hn : ∃ n, szOf P t = some n) (hg : P.eqGuardType P.depth t = false) (hl : leafOffs P 12 t = some offs)
    (h1 : Rep (Stab X H w) w H vx (.agg lx)) (h2 : Rep (Stab X H w) w H vy (.agg ly)) (hsz : ∀ n, szOf P t = some n → n ≤ lx.length ∧ n ≤ ly.length) (hr : aeqL lx ly offs = some r) :
    ∃ u, Gives P w (do eqGuard (if ne then .neq else .eql) t x y vx vy; binOp (if ne then .neq else .eql) t vx vy) u ∧ Rep (Stab X H w) w H u (.val (.bool (if ne then !r else r))) := by
  obtain ⟨n, hn⟩ := hn
  obtain ⟨cx, rfl, hx1, hx2⟩ := rep_agg h1
  obtain ⟨cy, rfl, hy1, hy2⟩ := rep_agg h2
  obtain ⟨s1, s2⟩ := hsz n hn
  have hq := eqV_of hx2 hy2 offs r hr
  have he : ∀ w, (Op.equalIn 10000 t (.agg cx) (.agg cy)).run P w = .ok r w := fun w => leaf_ok 12 t offs hl 10000 (by omega) true n _ _ cx cy r w hag hn rfl rfl (by omega) (by omega) hq
  refine ⟨_, fun w' _ => ?_, .val _ _⟩
  cases ne
  · simp only [Bool.false_eq_true, if_false, Sem.run_bind, run_eqGuard_agg w' .eql t x y cx cy hg, Result.andThen_ok, run_eql_struct, he]
  · simp only [if_true, Sem.run_bind, run_eqGuard_agg w' .neq t x y cx cy hg, Result.andThen_ok, run_neq_struct, he]
theorem nil_eq {t : TypeId} {x y : Operand} {u c : Value} {r : Bool} (hc : y = .const c) (hg : ∀ op w, (eqGuard op t x y u c).run P w = .ok () w) (h1 : binOp .eql t u c = (do pure (.bool (← Op.equal t u c)))) (h2 : binOp .neq t u c = (do pure (.bool (!(← Op.equal t u c))))) (he : ∀ (D : Nat) (w : World), (Op.equalIn (D + 1) t u c).run P w = .ok r w) (ne : Bool) :
    Gives P w (do eqGuard (if ne then .neq else .eql) t x y u (a.eval y); binOp (if ne then .neq else .eql) t u (a.eval y)) (.bool (if ne then !r else r)) := by
  intro w' _
  subst hc
  have he' : ∀ w, (Op.equal t u c).run P w = .ok r w := fun w => he 9999 w
  cases ne
  · simp only [Bool.false_eq_true, if_false, Act.eval, Sem.run_bind, hg, Result.andThen_ok, h1, he', Sem.run_pure]
  · simp only [if_true, Act.eval, Sem.run_bind, hg, Result.andThen_ok, h2, he', Sem.run_pure]
theorem gives_nil {ne : Bool} {t : TypeId} {x y : Operand} {vx : Value} {r : Bool} (hc : nilC P t y = true) (h1 : Rep (Stab X H w) w H vx av) (hr : isnilA (cstOf y) av = some r) :
    ∃ u, Gives P w (do eqGuard (if ne then .neq else .eql) t x y vx (a.eval y); binOp (if ne then .neq else .eql) t vx (a.eval y)) u ∧ Rep (Stab X H w) w H u (.val (.bool (if ne then !r else r))) := by
  refine ⟨.bool (if ne then !r else r), ?_, .val _ _⟩
  unfold nilC at hc
  split at hc
  · split at hc
    · rename_i e ht
      refine nil_eq rfl (fun op w => ?_) ?_ ?_ (fun D w => ?_) ne
      all_goals (simp only [cstOf, isnilA] at hr; split at hr)
      all_goals first | (rename_i hh; cases hh; done) | (cases hr; done) | (injection hr with hr; subst hr; cases h1; first | rfl | (cases op <;> rfl) | (simp [Op.equalIn, run_underlying ht]; done))
    · cases hc
  · split at hc
    · rename_i ht
      refine nil_eq rfl (fun op w => ?_) ?_ ?_ (fun D w => ?_) ne
      all_goals (simp only [cstOf, isnilA] at hr; split at hr)
      all_goals first | (rename_i hh; cases hh; done) | (cases hr; done) | (injection hr with hr; subst hr; cases h1; first | rfl | (cases op <;> rfl) | (simp [Op.equalIn, run_underlying ht]; done))
    · cases hc
  · split at hc
    · rename_i ht
      refine nil_eq rfl (fun op w => ?_) ?_ ?_ (fun D w => ?_) ne
      all_goals (simp only [cstOf, isnilA] at hr; split at hr)
      all_goals first | (rename_i hh; cases hh; done) | (cases hr; done) | (injection hr with hr; subst hr; cases h1; first | rfl | (cases op <;> rfl) | (simp [Op.equalIn, run_underlying ht]; done))
    · cases hc
  · split at hc
    · rename_i ht
      refine nil_eq rfl (fun op w => ?_) ?_ ?_ (fun D w => ?_) ne
      all_goals (simp only [cstOf, isnilA] at hr; split at hr)
      all_goals first | (rename_i hh; cases hh; done) | (cases hr; done) | (injection hr with hr; subst hr; cases h1; first | rfl | (cases op <;> rfl) | (cases op <;> simp [eqGuard]; done) | (simp [Op.equalIn, run_underlying ht]; done))
    · cases hc
  · split at hc
    · rename_i ht
      refine nil_eq rfl (fun op w => ?_) ?_ ?_ (fun D w => ?_) ne
      all_goals (simp only [cstOf, isnilA] at hr; split at hr)
      all_goals first | (rename_i hh; cases hh; done) | (cases hr; done) | (injection hr with hr; subst hr; cases h1; first | rfl | (cases op <;> rfl) | (simp [Op.equalIn, run_underlying ht]; done))
    · cases hc
  · cases hc
end
end Go.Proofs.YtienfdjfochlcaaGreatDoor
end
section
namespace Go.Proofs.YtienfdjfochlcaaGreatDoor
set_option linter.unusedVariables false
set_option linter.unusedSimpArgs false
section
variable {P : Program} {X : Nat → Nat → Prop} {w0 : Base} {w w' : World} {N : Nat} {st : St} {a : Act} {H : List Hd} {d : Option Nat}
theorem bcA_get {s : ByteArray} {i : Nat} {x : AV} (h : (bcA s)[i]? = some x) : ∃ b, (byteCells s)[i]? = some b ∧ x = .val b ∧ b.oneCell' = true := by
 unfold bcA at h
 simp only [List.getElem?_map, Option.map_eq_some_iff] at h
 obtain ⟨c, hc, rfl⟩ := h
 exact ⟨.int .u8 c.toNat, by simp [byteCells, hc], rfl, rfl⟩
theorem bcA_length (s : ByteArray) : (bcA s).length = s.size := by
 unfold bcA
 rw [List.length_map, Array.length_toList]; rfl
theorem bcA_ok {s : ByteArray} {i : Nat} {x : AV} (h : (bcA s)[i]? = some x) : x.ground = true ∧ x.cells.length = 1 := by
 unfold bcA at h
 simp only [List.getElem?_map, Option.map_eq_some_iff] at h
 obtain ⟨c, hc, rfl⟩ := h
 exact ⟨rfl, rfl⟩
theorem bcA_rep {S : Nat → Nat → Prop} {s : ByteArray} {i j : Nat} {x y : AV} (h : (bcA s)[i]? = some x) (hy : x.cells[j]? = some y) : Rep S w [] ((byteCells s).getD (i * 1 + j) undef) y := by
 obtain ⟨b, hb, rfl, h1⟩ := bcA_get h
 have hc : (AV.val b).cells = [.val b] := rfl
 rw [hc] at hy
 have hj : j = 0 := by have := (List.getElem?_eq_some_iff.1 hy).1; simp at this; exact this
 subst hj
 simp at hy
 subst hy
 have : (byteCells s).getD (i * 1 + 0) undef = b := by rw [Nat.mul_one, Nat.add_zero, List.getD_eq_getElem?_getD, hb]; rfl
 rw [this]; exact .val _ _
theorem app_room_str {t u ty e : TypeId} (ht : P.underlying t = some (.slice e)) (hu : P.underlying u = some .string) (hs : szOf P e = some 1) (g sLen sCap : Nat) (cur : Array Value) (ty' : TypeId) (fz : Nat × Nat) (hg : w.heap[g]? = some (.cells cur ty' fz)) (hz : ∀ k, k < cur.size → (decide (fz.1 ≤ k) && decide (k < fz.2)) = false)
    (s : ByteArray) (hroom : sLen + s.size ≤ sCap) (hfit : sLen * 1 + (byteCells s).length ≤ cur.size) :
    (Builtin.append_ #[t, u] ty #[.slice (some ⟨g, 0, none⟩) sLen sCap, .string s]).run P w =
      .ok (.slice (some ⟨g, 0, none⟩) (sLen + s.size) sCap) (w.setRow g (cur.toList.take (sLen * 1) ++ byteCells s ++ cur.toList.drop (sLen * 1 + (byteCells s).length)).toArray) := by
  have hf := firstCells_string (P := P) s w
  have hst := run_storeCells_fz P g (sLen * 1) ty' fz (byteCells s) 0 cur w hg hz (by simpa using hfit) (Src.ofString (P := P) w hu s).one
  simp only [Nat.add_zero] at hst
  simp [Builtin.append_, run_underlying ht, run_underlying hu, run_szOf hs, Builtin.lenOf, hroom, hf, addr_add] at hst ⊢
  rw [hst]; rfl
theorem app_zero_str {t u ty e : TypeId} (ht : P.underlying t = some (.slice e)) (hu : P.underlying u = some .string) (hs : szOf P e = some 1) (A : Option Addr) (n c : Nat) (hn : n ≤ c) (s : ByteArray) (h0 : s.size = 0) (w : World) :
    (Builtin.append_ #[t, u] ty #[.slice A n c, .string s]).run P w = .ok (.slice A n c) w := by
  have hf := firstCells_string (P := P) s w
  have hb : byteCells s = [] := List.eq_nil_of_length_eq_zero (by rw [byteCells_length]; exact h0)
  rw [hb, h0] at hf
  cases A with
  | none => simp [Builtin.append_, run_underlying ht, run_underlying hu, run_szOf hs, Builtin.lenOf, h0, hn, hf]
  | some b => simp [Builtin.append_, run_underlying ht, run_underlying hu, run_szOf hs, Builtin.lenOf, h0, hn, hf, storeCells]
theorem e_appNilS {t u ty e : TypeId} {ak : Nat} (hae : 2 ≤ ak → e = ak - 2) {z : Value} {s : ByteArray} (ht : P.underlying t = some (.slice e)) (hus : P.underlying u = some .string) (hs : szOf P e = some 1) (hz : zeOf P e = some z) (hzs : z.cells.size = 1) (hby : byOf P e = some 1) (h : SR X w0 N st a w H) (hd : ∀ k, d = some k → k < N)
    (hb : s.size ≤ 140737488355328) (hm : s.size ≤ maxLen) :
    ∃ v w' H', (Builtin.append_ #[t, u] ty #[.slice none 0 0, .string s]).run P w = .ok v w' ∧ SR X w0 N ⟨putf d (.row st.m.length 0 s.size 0 s.size) st.fr, st.m ++ [.row 0 1 (bcA s) true ak]⟩ (a.put d v) w' H' := by
  by_cases hl : s.size = 0
  · have hrun := app_zero_str (P := P) (ty := ty) ht hus hs none 0 0 (Nat.le_refl _) s hl w
    have hb0 : bcA s = [] := List.eq_nil_of_length_eq_zero (by rw [bcA_length]; exact hl)
    rw [hb0, hl]
    exact ⟨_, _, _, hrun, e_nilrow 1 h hd⟩
  · obtain ⟨i, hi, h1, h2, h3⟩ := info_of hs hz hby
    have hrun := run_append_grow_src (P := P) w t u ty e i z ht hi h2 none 0 0 [] (run_firstCells_none w.drew i.size 0 0 0) (.string s) s.size (byteCells s) (by rw [h1]; exact Src.ofString w hus s) (by omega) (by have := hm; unfold maxLen at this; omega) (by have := growslice_fits (need := 0 + s.size) (old := 0) (bytes := 1) (by omega) (by omega); rw [h3]; exact this)
    simp only [Nat.zero_add, List.nil_append] at hrun
    have hge := grownCap_ge w s.size 0 e
    generalize grownCap w s.size 0 e = cap' at *
    refine ⟨_, _, H ++ [.row w.heap.size cap' 1 0 s.size true], hrun, ?_⟩
    have hext := ext_drew_alloc w (.cells ((byteCells s).toArray ++ Builtin.zeroCells z.cells (cap' - s.size)) e)
    have hfr : Fr (fun _ => False) w (w.drew.alloc (.cells ((byteCells s).toArray ++ Builtin.zeroCells z.cells (cap' - s.size)) e)) := ⟨rfl, rfl, rfl, by simp, fun k hk _ => hext k hk⟩
    have hcap : 0 < cap' := by omega
    refine h.newObj hd hext (by simp) hfr (fun b hb => by
      simp only [Hd.blk, hcap, if_true, Option.some.injEq] at hb
      subst hb; simp) ?_ ?_
    · have hsz2 : ((byteCells s).toArray ++ Builtin.zeroCells z.cells (cap' - s.size)).size = cap' * 1 := by
        rw [Array.size_append, zeroCells_size, hzs]
        simp only [List.size_toArray, byteCells_length]
        omega
      refine ⟨rfl, rfl, rfl, (bcA_length s).symm, hge, fun _ => ⟨_, e, (0, 0), heap_drew_alloc w _, ⟨fun _ => rfl, hae⟩, fun _ _ => by simp, Nat.le_of_eq hsz2.symm, fun k x j y hx hy => ?_⟩, fun i x hx => bcA_ok hx, fun _ q => by omega⟩
      have hj : j < 1 := by have := (bcA_ok hx).2; have := (List.getElem?_eq_some_iff.1 hy).1; omega
      have hlt : k * 1 + j < (byteCells s).length := by rw [byteCells_length]; have := (List.getElem?_eq_some_iff.1 hx).1; rw [bcA_length] at this; omega
      have e1 : ((byteCells s).toArray ++ Builtin.zeroCells z.cells (cap' - s.size)).getD (k * 1 + j) undef = (byteCells s).getD (k * 1 + j) undef := by
        simp only [Array.getD_eq_getD_getElem?]
        rw [Array.getElem?_append_left (by simpa using hlt)]
        simp [List.getD_eq_getElem?_getD]
      rw [e1]
      exact bcA_rep hx hy
    · rw [← h.mem.len]
      exact .row _ 0 _ 0 _ ⟨_, _, _, rfl⟩ (snoc_last _ _) (.inr ⟨rfl, Nat.le_refl _⟩) fun _ _ => ⟨by omega, hge, some ⟨w.heap.size, 0, none⟩, rfl, fun q => by simp, fun q => (by cases q), fun q => by omega⟩
theorem e_appRowS {t u ty e : TypeId} {id ver used v s0 ap ak : Nat} (hfl : apFit ap ak = true) (hae : 2 ≤ ak → e = ak - 2) {z vx : Value} {s : ByteArray} {l : List AV} {wr : Bool} (ht : P.underlying t = some (.slice e)) (hus : P.underlying u = some .string) (hs : szOf P e = some 1) (hz : zeOf P e = some z) (hzs : z.cells.size = 1) (hby : byOf P e = some 1) (h : SR X w0 N st a w H) (hd : ∀ k, d = some k → k < N)
    (rx : Rep (Stab X H w) w H vx (.row id ver used 0 used)) (hobj : st.m[id]? = some (.row v s0 l wr ap)) (hv : v = ver) (hu : l.length = used) (hss : s0 = 1) (hb : used + s.size ≤ 140737488355328) (hm : used + s.size ≤ maxLen) :
    ∃ vr w' H', (Builtin.append_ #[t, u] ty #[vx, .string s]).run P w = .ok vr w' ∧ SR X w0 N ⟨putf d (.row id ver (used + s.size) 0 (used + s.size)) st.fr, st.m.set id (.row v s0 (l ++ bcA s) wr ap)⟩ (a.put d vr) w' H' := by
  subst hv hu hss
  have rx' := rx
  cases rx with
  | row id ver used off len hsl hH hle hvv =>
    rename_i b cap sz' cver cused wr'
    have hO := h.mem.obj _ _ _ hobj hH
    simp only [ObjAt] at hO
    obtain ⟨e1, e2, es, e3, e4, e5, e6, e7⟩ := hO
    have hvv' := hvv e1.symm (by omega)
    subst e1 e2 es
    obtain ⟨_, g2, A2, rfl, g3, g4, g4n⟩ := hvv'
    simp only [Nat.sub_zero] at g3 g4 g4n hle hvv rx' ⊢
    by_cases hl : s.size = 0
    · have hb0 : bcA s = [] := List.eq_nil_of_length_eq_zero (by rw [bcA_length]; exact hl)
      have hrun := app_zero_str (P := P) (ty := ty) ht hus hs A2 l.length cap g2 s hl w
      refine ⟨_, _, H, hrun, ?_⟩
      rw [hb0, hl]
      simp only [Nat.add_zero, List.append_nil]
      have hset : st.m.set id (.row cver 1 l wr' ap) = st.m := set_same hobj
      rw [hset]
      exact h.pure hd rx'
    · obtain ⟨i, hi, h1, h2, h3⟩ := info_of hs hz hby
      have hmax : l.length + s.size ≤ 9223372036854775807 := by have := hm; unfold maxLen at this; omega
      have hlp : 0 < (bcA s).length := by rw [bcA_length]; omega
      have hnb : (byteCells s).length = (bcA s).length * 1 := by rw [byteCells_length, bcA_length]; omega
      have hgg : ∀ (k : Nat) (x : AV), (l ++ bcA s)[k]? = some x → x.ground = true ∧ x.cells.length = 1 := by
        intro k x hx
        rw [List.getElem?_append] at hx
        split at hx
        · exact e6 k x hx
        · exact bcA_ok hx
      by_cases hroom : l.length + s.size ≤ cap
      · have hcap0 : 0 < cap := by omega
        obtain ⟨cur, ty', fz, hh, hap, hfz, hsz, hold⟩ := e5 hcap0
        obtain rfl := g3 (by omega)
        simp only [Nat.zero_mul] at rx' ⊢
        have hrun := app_room_str (P := P) (ty := ty) ht hus hs b l.length cap cur ty' fz hh hfz s hroom (by rw [byteCells_length]; omega)
        obtain ⟨H', hsr⟩ := app_placed (ly := bcA s) (news := byteCells s) h hd hobj hH hcap0 hlp (by rw [bcA_length]; exact hroom) hh hap hfz hsz hnb hgg hold (fun k x j y hx hy => bcA_rep hx hy)
        rw [bcA_length] at hsr
        exact ⟨_, _, H', hrun, hsr⟩
      · have hfit := growslice_fits (need := l.length + s.size) (old := cap) (bytes := 1) (by omega) (by omega)
        have hge := grownCap_ge w (l.length + s.size) cap e
        have grow : ∀ (olds : List Value), olds.length = l.length * 1 → (∀ (k : Nat) (x : AV) (j : Nat) (y : AV), l[k]? = some x → x.cells[j]? = some y → Rep (Stab X H w) w [] (olds.getD (k * 1 + j) undef) y) →
            ∃ H', SR X w0 N ⟨putf d (.row id cver (l.length + s.size) 0 (l.length + s.size)) st.fr, st.m.set id (.row cver 1 (l ++ bcA s) wr' ap)⟩ (a.put d (.slice (some ⟨w.heap.size, 0, none⟩) (l.length + s.size) (grownCap w (l.length + s.size) cap e)))
              (w.drew.alloc (.cells (olds.toArray ++ (byteCells s).toArray ++ Builtin.zeroCells z.cells (grownCap w (l.length + s.size) cap e - (l.length + s.size))) e)) H' := by
          intro olds ho hor
          have := app_moved (apFit_ok hfl hae) (ly := bcA s) (e := e) (cap' := grownCap w (l.length + s.size) cap e) (cs := olds.toArray ++ (byteCells s).toArray ++ Builtin.zeroCells z.cells (grownCap w (l.length + s.size) cap e - (l.length + s.size))) h hd hobj hH hlp (by rw [bcA_length]; exact hge) (by
            rw [Array.size_append, Array.size_append, zeroCells_size, hzs]
            simp only [List.size_toArray, ho, byteCells_length]
            omega) hgg (cat_rep ho hnb (fun k x hx => (hgg k x hx).2) hor (fun k x j y hx hy => bcA_rep hx hy))
          rw [bcA_length] at this
          exact this
        have holds : ∃ olds : List Value, olds.length = l.length * 1 ∧ (Builtin.firstCells i.size l.length (.slice A2 l.length cap)).run P w.drew = .ok olds.toArray w.drew ∧ ∀ (k : Nat) (x : AV) (j : Nat) (y : AV), l[k]? = some x → x.cells[j]? = some y → Rep (Stab X H w) w [] (olds.getD (k * 1 + j) undef) y := by
          by_cases hcap0 : 0 < cap
          · obtain ⟨cur, ty', fz, hh, hap, hfz, hsz, hold⟩ := e5 hcap0
            obtain rfl := g3 hcap0
            have hle2 : l.length * 1 ≤ cur.size := by omega
            have hol : (cur.toList.take (l.length * 1)).length = l.length * i.size := by rw [h1]; simp; omega
            refine ⟨cur.toList.take (l.length * 1), by simp; omega, run_firstCells_some w.drew i.size l.length _ l.length cap _ hol fun j u hu => ?_, fun k x j y hx hy => ?_⟩
            · have hj := (List.getElem?_eq_some_iff.1 hu).1
              simp only [List.length_take] at hj
              rw [List.getElem?_take, if_pos (by omega), Array.getElem?_toList] at hu
              have : w.cell? (Addr.add ⟨b, 0 * 1, none⟩ j) = some u := by
                rw [addr_add, Nat.zero_mul, Nat.zero_add, cell_getD hh (by omega), Array.getD_eq_getD_getElem?, hu]; rfl
              simpa using this
            · have hj : j < 1 := by have := (e6 k x hx).2; have := (List.getElem?_eq_some_iff.1 hy).1; omega
              have hlt := mul_lt_of (sz := 1) (List.getElem?_eq_some_iff.1 hx).1 hj
              have e1 : (cur.toList.take (l.length * 1)).getD (k * 1 + j) undef = cur.getD (k * 1 + j) undef := by
                simp only [List.getD_eq_getElem?_getD, Array.getD_eq_getD_getElem?]
                rw [List.getElem?_take, if_pos hlt, Array.getElem?_toList]
              rw [e1]; exact hold k x j y hx hy
          · have hl0 : l = [] := List.eq_nil_of_length_eq_zero (by omega)
            subst hl0
            refine ⟨[], by simp, ?_, fun k x j y hx => by simp at hx⟩
            cases A2 with
            | none => exact run_firstCells_none w.drew i.size 0 0 cap
            | some b2 => exact run_firstCells_some w.drew i.size 0 b2 0 cap [] (by simp) (fun j u hu => by simp at hu)
        obtain ⟨olds, ho1, ho2, ho3⟩ := holds
        have hrun := run_append_grow_src (P := P) w t u ty e i z ht hi h2 A2 l.length cap olds ho2 (.string s) s.size (byteCells s) (by rw [h1]; exact Src.ofString w hus s) (by omega) (by omega) (by rw [h3]; exact hfit)
        obtain ⟨H', hsr⟩ := grow olds ho1 ho3
        refine ⟨_, _, H', hrun, ?_⟩
        simpa using hsr
end
end Go.Proofs.YtienfdjfochlcaaGreatDoor
end
section
namespace Go.Proofs.YtienfdjfochlcaaGreatDoor
set_option linter.unusedVariables false
set_option linter.unusedSimpArgs false
open Go.MapKept Go.ChangeMaps
section
variable {P : Program} {X : Nat → Nat → Prop} {w0 : Base} {w w' : World} {N : Nat} {st : St} {a : Act} {fr : List (Nat × AV)} {m : List MObj} {H : List Hd} {d : Option Nat} {av : AV}
theorem e_mkmap (h : SR X w0 N st a w H) (hd : ∀ k, d = some k → k < N) :
    ∃ H', SR X w0 N ⟨putf d (.mp st.m.length) st.fr, st.m ++ [.mp []]⟩ (a.put d (.map (some w.heap.size))) (w.alloc (.map #[] 0)) H' := by
  refine ⟨H ++ [.mp w.heap.size], ?_⟩
  refine h.newObj hd (ext_alloc w _) (by simp) ((Fr.refl _ _).alloc _) (fun b hb => by simp [Hd.blk] at hb; subst hb; simp) ?_ ?_
  · refine ⟨#[], 0, heap_alloc_new w _, rfl, fun i k y hy => by simp at hy⟩
  · rw [← h.mem.len]
    exact .mp _ (snoc_last _ _)
theorem SR.mapSet {id b : Nat} {es es' : List (Value × AV)} {ens ens' : Array MapEntry} {cl cl' : Nat} {u : Value} (h : SR X w0 N st a w H) (hd : ∀ k, d = some k → k < N) (hobj : st.m[id]? = some (.mp es)) (hH : H[id]? = some (.mp b)) (hb : w.heap[b]? = some (.map ens cl)) (hn : ens'.size = es'.length)
    (hent : ∀ (i : Nat) (k : Value) (y : AV), es'[i]? = some (k, y) → ∃ e, ens'[i]? = some e ∧ e.key = k ∧ e.born < cl' ∧ y.ground = true ∧ Rep (Stab X H w) w [] e.val y) :
    SR X w0 N ⟨putf d .any st.fr, st.m.set id (.mp es')⟩ (a.put d u) (setBlock w b (.map ens' cl')) H := by
  have hgo : Goes X w H (setBlock w b (.map ens' cl')) H := ⟨HLe.refl _, fun b' o ⟨h1, h2, h3⟩ => by
    have hne : b' ≠ b := fun e => h3 ⟨id, _, hH, by rw [e]; exact rfl⟩
    exact ⟨⟨by simpa [setBlock] using h1, h2, h3⟩, World.cell?_of_block (heap_setBlock_other hb _ hne)⟩⟩
  have hset := set_same hH
  have hmem := h.mem.upd (id := id) (k' := .mp b) (o' := .mp es') (w' := setBlock w b (.map ens' cl')) (by rw [hset]; exact hgo) (by simp [setBlock])
      (fun i k b' hi hk hb' => heap_setBlock_other hb _ (fun e => hi (h.mem.apart i id k _ b' hk hH hb' (by rw [e]; rfl)))) (fun b' hb' => by
        simp only [Hd.blk, Option.some.injEq] at hb'
        subst hb'
        exact ⟨by simpa [setBlock] using h.mem.lt _ _ b hH rfl, fun i k hi hk hkb => hi (h.mem.apart i id k _ b hk hH hkb rfl)⟩) (by
        rw [hset]
        exact ⟨ens', cl', heap_setBlock_same hb _, hn, fun i k y hy => by
          obtain ⟨e, g1, g2, g3, g4, g5⟩ := hent i k y hy
          exact ⟨e, g1, g2, g3, g4, hgo.rep0 g5⟩⟩)
  rw [hset] at hmem
  exact h.go hd hgo hmem (h.grw.setBlock b _ (.inr (h.new _ _ _ hH rfl))) h.new (.any _ _)
theorem e_mset {t kt e : TypeId} {id : Nat} {s : ByteArray} {vx vv : Value} {av g : AV} {es es' : List (Value × AV)} (ht : P.underlying t = some (.map kt e)) (hk : P.underlying kt = some .string) (h : SR X w0 N st a w H) (hd : ∀ k, d = some k → k < N) (hx : Rep (Stab X H w) w H vx (.mp id)) (hv : Rep (Stab X H w) w H vv av)
    (hg : frz st.m av = some g) (hgr : g.ground = true) (hobj : (shutV st.m av)[id]? = some (.mp es)) (hset : setKey es (.string s) g = some es') :
    ∃ w' H', (Instr.mapUpdate t vx (.string s) vv).run P w = .ok () w' ∧ SR X w0 N ⟨putf d .any st.fr, (shutV st.m av).set id (.mp es')⟩ (a.put d undef) w' H' := by
  have hkey : IsKey .string (.string s) := trivial
  obtain ⟨H1, m1, hsh, hshut⟩ := shutCells_at av.cells st.m H h.mem
  have h1 : SR X w0 N ⟨st.fr, shutV st.m av⟩ a w H1 := h.shuts m1 hsh
  have hx1 := hsh.goes.rep hx
  have hgrep : Rep (Stab X H1 w) w [] vv g := (frz_rep h.mem hv hg (fun b o q => (hsh.goes.stab b o q).1) fun zc hzc id ver used off len e b cap s cver cused wr hH hc hb o ho => shut_stab h.mem hsh h.xb (hshut zc hzc _ _ _ _ _ e) hH hc hb ho).1
  cases hx1 with
  | mp id hH =>
    rename_i b
    have hO := m1.obj _ _ _ hobj hH
    simp only [ObjAt] at hO
    obtain ⟨ens, cl, hb, hn, hent⟩ := hO
    have hkeys : ∀ (j : Nat) (k : Value) (y : AV), es[j]? = some (k, y) → ∃ e, ens.toList[j]? = some e ∧ e.key = k := fun j k y hj => by obtain ⟨e, h1, h2, _⟩ := hent j k y hj; exact ⟨e, by simpa using h1, h2⟩
    unfold setKey at hset
    split at hset
    · rename_i j y hfe
      injection hset with hset; subst hset
      have := find_ok s es ens.toList 0 _ (by simpa using hn) hkeys hfe
      simp only at this
      obtain ⟨e1, k1, q1, q2, q3, q4, q5⟩ := this
      rw [Nat.sub_zero] at q2 q3
      have hj : ens[j]? = some e1 := by simpa using q3
      refine ⟨setBlock w b (.map (ens.modify j fun e => { e with key := .string s, val := vv }) cl), H1, ?_, h1.mapSet hd hobj hH hb (by simp [hn]) fun i k y hy => ?_⟩
      · simp [Instr.mapUpdate, run_underlying ht, MapKept.run_getObj_map hb, run_checkKey hk hkey, run_findKey hk q5, hj, q4, run_keyThatStays hkey, MapKept.run_setObj_map _ hb, Result.andThen, setBlock]
      · rw [List.getElem?_set] at hy
        by_cases hij : j = i
        · subst hij
          rw [if_pos rfl] at hy
          split at hy
          · injection hy with hy; injection hy with hy1 hy2; subst hy1 hy2
            obtain ⟨e2, g1, g2, g3, g4, g5⟩ := hent j _ _ q2
            rw [hj] at g1; injection g1 with g1; subst g1
            exact ⟨{ e1 with key := .string s, val := vv }, by simp [Array.getElem?_modify, hj], rfl, g3, hgr, hgrep⟩
          · cases hy
        · rw [if_neg hij] at hy
          obtain ⟨e2, g1, g2, g3, g4, g5⟩ := hent i _ _ hy
          exact ⟨e2, by simp [Array.getElem?_modify, hij, g1], g2, g3, g4, g5⟩
    · rename_i hfe
      injection hset with hset; subst hset
      have q := find_ok s es ens.toList 0 _ (by simpa using hn) hkeys hfe
      simp only at q
      refine ⟨setBlock w b (.map (ens.push ⟨.string s, vv, cl⟩) (cl + 1)), H1, ?_, h1.mapSet hd hobj hH hb (by simp [hn]) fun i k y hy => ?_⟩
      · simp [Instr.mapUpdate, run_underlying ht, MapKept.run_getObj_map hb, run_checkKey hk hkey, run_findKey hk q, MapKept.run_setObj_map _ hb, Result.andThen, setBlock]
      · rcases getElem?_snoc hy with ⟨y1, y2⟩ | ⟨y1, y2⟩
        · obtain ⟨e2, g1, g2, g3, g4, g5⟩ := hent i _ _ y1
          exact ⟨e2, by rw [Array.getElem?_push_lt (by omega)]; rw [← g1]; simp [Array.getElem?_eq_getElem, hn, y2], g2, by omega, g4, g5⟩
        · injection y2 with y3 y4
          subst y3 y4 y1
          refine ⟨⟨.string s, vv, cl⟩, by rw [← hn]; simp, rfl, Nat.lt_succ_self _, hgr, hgrep⟩
    · cases hset
theorem e_mdel {t kt : TypeId} {id : Nat} {s : ByteArray} {vx : Value} {ty e : TypeId} {ts : Array TypeId} {es es' : List (Value × AV)} (ht : P.underlying t = some (.map kt e)) (hts : ts[0]? = some t) (hk : P.underlying kt = some .string) (h : SR X w0 N st a w H) (hd : ∀ k, d = some k → k < N) (hx : Rep (Stab X H w) w H vx (.mp id))
    (hobj : st.m[id]? = some (.mp es)) (hset : delKey es (.string s) = some es') :
    ∃ v w' H', (Builtin.delete_ ts ty #[vx, .string s]).run P w = .ok v w' ∧ SR X w0 N ⟨putf d .any st.fr, st.m.set id (.mp es')⟩ (a.put d v) w' H' := by
  have hkey : IsKey .string (.string s) := trivial
  cases hx with
  | mp id hH =>
    rename_i b
    have hO := h.mem.obj _ _ _ hobj hH
    simp only [ObjAt] at hO
    obtain ⟨ens, cl, hb, hn, hent⟩ := hO
    have hkeys : ∀ (j : Nat) (k : Value) (y : AV), es[j]? = some (k, y) → ∃ e, ens.toList[j]? = some e ∧ e.key = k := fun j k y hj => by obtain ⟨e, h1, h2, _⟩ := hent j k y hj; exact ⟨e, by simpa using h1, h2⟩
    unfold delKey at hset
    split at hset
    · rename_i j y hfe
      injection hset with hset; subst hset
      have := find_ok s es ens.toList 0 _ (by simpa using hn) hkeys hfe
      simp only at this
      obtain ⟨e1, k1, q1, q2, q3, q4, q5⟩ := this
      rw [Nat.sub_zero] at q2 q3
      have hjl : j < ens.size := by have := (List.getElem?_eq_some_iff.1 q3).1; simpa using this
      refine ⟨.tuple #[], setBlock w b (.map (ens.eraseIdxIfInBounds j) cl), H, ?_, h.mapSet hd hobj hH hb (by
        have e1 : (ens.eraseIdxIfInBounds j).size = ens.size - 1 := by simp [Array.eraseIdxIfInBounds, hjl]
        have e2 : (es.eraseIdx j).length = es.length - 1 := by rw [List.length_eraseIdx, if_pos (by omega)]
        omega) fun i k y hy => ?_⟩
      · simp [Builtin.delete_, hts, run_underlying ht, MapKept.run_getObj_map hb, run_checkKey hk hkey, run_findKey hk q5, MapKept.run_setObj_map _ hb, Result.andThen, setBlock]
      · rw [List.getElem?_eraseIdx] at hy
        have key : ∀ i', es[i']? = some (k, y) → (ens.eraseIdxIfInBounds j)[i]? = ens[i']? → ∃ e, (ens.eraseIdxIfInBounds j)[i]? = some e ∧ e.key = k ∧ e.born < cl ∧ y.ground = true ∧ Rep (Stab X H w) w [] e.val y := fun i' hi' e' => by
          obtain ⟨e2, g1, g2, g3, g4, g5⟩ := hent i' _ _ hi'
          exact ⟨e2, e'.trans g1, g2, g3, g4, g5⟩
        have hget : (ens.eraseIdxIfInBounds j)[i]? = if i < j then ens[i]? else ens[i + 1]? := by
          rw [← Array.getElem?_toList]
          simp only [Array.eraseIdxIfInBounds, hjl, dite_true, Array.toList_eraseIdx, List.getElem?_eraseIdx, Array.getElem?_toList]
        split at hy
        · rename_i hij; exact key i hy (by rw [hget, if_pos hij])
        · rename_i hij; exact key (i + 1) hy (by rw [hget, if_neg hij])
    · rename_i hfe
      injection hset with hset; subst hset
      have q := find_ok s es ens.toList 0 _ (by simpa using hn) hkeys hfe
      simp only at q
      refine ⟨.tuple #[], setBlock w b (.map ens cl), H, ?_, h.mapSet hd hobj hH hb hn hent⟩
      simp [Builtin.delete_, hts, run_underlying ht, MapKept.run_getObj_map hb, run_checkKey hk hkey, run_findKey hk q, MapKept.run_setObj_map _ hb, Result.andThen, setBlock]
    · cases hset
theorem e_cpy {t e ty : TypeId} {ts : Array TypeId} {sz id ver used off len v s : Nat} {ap : Nat} {vx vy : Value} {ay : AV} {l ly : List AV} (hts : ts[0]? = some t) (ht : P.underlying t = some (.slice e)) (hs : szOf P e = some sz) (h0 : 0 < sz) (h : SR X w0 N st a w H) (hd : ∀ k, d = some k → k < N)
    (hx : Rep (Stab X H w) w H vx (.row id ver used off len)) (hy : Rep (Stab X H w) w H vy ay) (hly : elemsS st.m sz ay = some ly) (hobj : st.m[id]? = some (.row v s l true ap)) (hver : v = ver) (hused : l.length = used) (hss : s = sz) :
    ∃ v' w' H', (Builtin.copy_ ts ty #[vx, vy]).run P w = .ok v' w' ∧ SR X w0 N ⟨putf d (.val (.int .i64 (min ly.length len : Nat))) st.fr, st.m.set id (.row v s (setAt l off (ly.take (min ly.length len))) true ap)⟩ (a.put d v') w' H' := by
  subst hver hused hss
  obtain ⟨A, c, news, rfl, hA, hnl, hnews, hone, hgnd, hrep⟩ := rep_news h0 h.mem hy hly
  cases hx with
  | row id ver used off len hs' hH hle hvv =>
    rename_i b cap sz cver cused wr
    have hO := h.mem.obj _ _ _ hobj hH
    simp only [ObjAt] at hO
    obtain ⟨e1, e2, es, e3, e4, e5, e6, e7⟩ := hO
    have hvv' := hvv e1.symm e3.symm
    obtain ⟨g1, g2, B, rfl, g3, g4, g4n⟩ := hvv'
    subst e1 e2 es
    generalize hn : min ly.length len = n
    have hn1 : n ≤ ly.length := by omega
    have hn2 : n ≤ len := by omega
    have hnm : Nat.min ly.length len = n := hn
    by_cases hz : n = 0
    · subst hz
      have e : setAt l off (ly.take 0) = l := by simp [setAt]
      refine ⟨.int .i64 0, w, H, ?_, ?_⟩
      · have hfc : (Builtin.firstCells s 0 (.slice A ly.length c)).run P w = .ok #[] w := by
          cases A with
          | none => simp [Builtin.firstCells]
          | some b => simp [Builtin.firstCells, loadCells, loadCellsFrom]
        cases B with
        | none => simp [Builtin.copy_, hts, run_underlying ht, Builtin.lenOf, run_szOf hs, hnm, hfc, goInt]
        | some q => simp [Builtin.copy_, hts, run_underlying ht, Builtin.lenOf, run_szOf hs, hnm, hfc, goInt, storeCells]
      · rw [e, set_same hobj]
        exact h.pure hd (.val _ _)
    · have hcap : 0 < cap := by omega
      have hB := g3 (by omega)
      subst hB
      obtain ⟨cur, ty', fz, hh, hap, hfz, hsz, hcell⟩ := e5 hcap
      have hlt : (news.take (n * s)).length = n * s := by
        rw [List.length_take, hnl]
        have : n * s ≤ ly.length * s := Nat.mul_le_mul_right _ hn1
        omega
      have hfc : (Builtin.firstCells s n (.slice A ly.length c)).run P w = .ok (news.take (n * s)).toArray w := by
        cases A with
        | none => have := (hA rfl).1; subst this; simp at hn1; omega
        | some q => exact run_firstCells_some (P := P) w s n q ly.length c _ hlt fun j u hj => hnews q rfl j u (by rw [List.getElem?_take] at hj; split at hj; exact hj; cases hj)
      have hfit : off * s + (news.take (n * s)).length ≤ cur.size := by
        rw [hlt, ← Nat.add_mul]; exact Nat.le_trans (Nat.mul_le_mul_right _ (by omega)) hsz
      have hst := run_storeCells_fz P b (off * s) ty' fz (news.take (n * s)) 0 cur w hh hfz (by simpa using hfit) fun u hu => hone u (List.mem_of_mem_take hu)
      simp only [Nat.add_zero] at hst
      have hgo : Goes X w H (w.setRow b (cur.toList.take (off * s) ++ news.take (n * s) ++ cur.toList.drop (off * s + (news.take (n * s)).length)).toArray) H := goes_write hH fun o => ⟨rfl, hcap, .inl rfl⟩
      refine ⟨.int .i64 n, w.setRow b (cur.toList.take (off * s) ++ news.take (n * s) ++ cur.toList.drop (off * s + (news.take (n * s)).length)).toArray, H, ?_, ?_⟩
      · generalize news.take (n * s) = nw at hfc hst
        simp [Builtin.copy_, hts, run_underlying ht, Builtin.lenOf, run_szOf hs, hnm, hfc, goInt, hst]
      have hset := set_same hH
      have hblk : (Hd.row b cap s cver cused true).blk = some b := by simp [Hd.blk, hcap]
      have htl : (ly.take n).length = n := by rw [List.length_take]; omega
      have hmem := h.mem.upd (id := id) (k' := .row b cap s cver cused true) (o' := .row cver s (setAt l off (ly.take n)) true ap) (w' := w.setRow b (cur.toList.take (off * s) ++ news.take (n * s) ++ cur.toList.drop (off * s + (news.take (n * s)).length)).toArray) (by rw [hset]; exact hgo) (by simp [World.setRow])
        (fun j k b' hi hk hb' => setRow_other w b b' _ (fun e => hi (h.mem.apart j id k _ b' hk hH hb' (by rw [e]; exact hblk)))) (fun b' hb' => by
          rw [hblk] at hb'
          injection hb' with hb'
          subst hb'
          exact ⟨by simpa [World.setRow] using h.mem.lt _ _ b hH hblk, fun j k hi hk hkb => hi (h.mem.apart j id k _ b hk hH hkb hblk)⟩) (by
          rw [hset]
          simp only [ObjAt]
          refine ⟨trivial, trivial, trivial, by rw [setAt_length _ _ _ (by omega)]; exact e3, e4, fun _ => ⟨_, ty', fz, setRow_heap w b cur _ ty' _ hh, hap, fun k hk => hfz k (by rw [row_size _ _ _ hfit] at hk; exact hk), by rw [row_size _ _ _ hfit]; exact hsz, fun k z j y hz hy => ?_⟩, fun k z hz => ?_, e7⟩
          · rw [row_get _ _ _ _ hfit]
            rw [setAt_get _ _ _ _ (by omega)] at hz
            split at hz
            · rename_i hk
              rw [htl] at hk
              rw [List.getElem?_take] at hz
              split at hz
              · rename_i hkn
                have hjs : j < s := by have := (hgnd _ _ hz).2; have := (List.getElem?_eq_some_iff.1 hy).1; omega
                have hpos : (k - off) * s + j < n * s := mul_lt_of hkn hjs
                have hks : k * s + j = off * s + ((k - off) * s + j) := by
                  rw [← Nat.add_assoc, ← Nat.add_mul]; congr 2; omega
                rw [if_pos ⟨by omega, by rw [hlt]; omega⟩]
                have := hgo.rep0 (hrep _ _ _ _ hz hy)
                rw [hks, Nat.add_sub_cancel_left]
                have e : (news.take (n * s)).getD ((k - off) * s + j) undef = news.getD ((k - off) * s + j) undef := by
                  simp only [List.getD_eq_getElem?_getD, List.getElem?_take, if_pos hpos]
                rw [e]; exact this
              · cases hz
            · rename_i hk
              rw [htl] at hk
              have hjs : j < s := by have := (e6 _ _ hz).2; have := (List.getElem?_eq_some_iff.1 hy).1; omega
              rw [if_neg ?_]
              · exact hgo.rep0 (hcell _ _ _ _ hz hy)
              · rw [hlt]
                intro ⟨r1, r2⟩
                rcases Nat.lt_or_ge k off with hlt' | hge
                · have : (k + 1) * s ≤ off * s := Nat.mul_le_mul_right _ hlt'
                  rw [Nat.add_mul, Nat.one_mul] at this; omega
                · have : (off + n) * s ≤ k * s := Nat.mul_le_mul_right _ (by omega)
                  rw [Nat.add_mul] at this; omega
          · rw [setAt_get _ _ _ _ (by omega)] at hz
            split at hz
            · rw [List.getElem?_take] at hz
              split at hz
              · exact hgnd _ _ hz
              · cases hz
            · exact e6 _ _ hz)
      rw [hset] at hmem
      exact h.go hd hgo hmem (fr_write h.grw (h.new _ _ _ hH hblk)) h.new (.val _ _)
theorem cmpTs_mem {tx : TypeId} (h : (cmpTs P).contains tx = true) : (∃ k, P.underlying tx = some (.int k)) ∧ ∃ i, P.info? tx = some i ∧ i.comparable = true := by
 simp only [List.contains_eq_mem, decide_eq_true_eq, cmpTs, List.mem_filter, Bool.and_eq_true] at h
 obtain ⟨_, h1, h2⟩ := h
 constructor
 ·split at h1
  ·rename_i k hk; exact ⟨k, hk⟩
  ·cases h1
 ·split at h2
  ·rename_i i hi; exact ⟨i, hi, h2⟩
  ·cases h2
theorem eq_gives {t : TypeId} {x y : Operand} {u c : Value} {r : Bool} (hg : ∀ op w, (eqGuard op t x y u c).run P w = .ok () w) (h1 : binOp .eql t u c = (do pure (.bool (← Op.equal t u c)))) (h2 : binOp .neq t u c = (do pure (.bool (!(← Op.equal t u c))))) (he : ∀ (D : Nat) (w : World), (Op.equalIn (D + 2) t u c).run P w = .ok r w) (ne : Bool) :
    Gives P w (do eqGuard (if ne then .neq else .eql) t x y u c; binOp (if ne then .neq else .eql) t u c) (.bool (if ne then !r else r)) := by
  intro w' _
  have he' : ∀ w, (Op.equal t u c).run P w = .ok r w := fun w => he 9998 w
  cases ne
  · simp only [Bool.false_eq_true, if_false, Sem.run_bind, hg, Result.andThen_ok, h1, he', Sem.run_pure]
  · simp only [if_true, Sem.run_bind, hg, Result.andThen_ok, h2, he', Sem.run_pure]
set_option maxHeartbeats 2000000 in
theorem gives_ifeq {ne : Bool} {t : TypeId} {x y : Operand} {vx vy : Value} {ax ay : AV} {r : Bool} (ht : ∃ ms, P.underlying t = some (.interface ms)) (h1 : Rep (Stab X H w) w H vx ax) (h2 : Rep (Stab X H w) w H vy ay) (hr : ifeqA (cmpTs P) ax ay = some r) :
    ∃ u, Gives P w (do eqGuard (if ne then .neq else .eql) t x y vx vy; binOp (if ne then .neq else .eql) t vx vy) u ∧ Rep (Stab X H w) w H u (.val (.bool (if ne then !r else r))) := by
  refine ⟨.bool (if ne then !r else r), ?_, .val _ _⟩
  obtain ⟨ms, ht⟩ := ht
  unfold ifeqA at hr
  split at hr
  · rename_i tx k a ty k' b
    obtain rfl := rep_val h1
    obtain rfl := rep_val h2
    refine eq_gives (fun op w => by cases op <;> rfl) rfl rfl (fun D w => ?_) ne
    split at hr
    · rename_i hty
      subst hty
      split at hr
      · rename_i hc
        obtain ⟨hc, rfl⟩ := hc
        injection hr with hr
        obtain ⟨⟨k0, hk0⟩, i, hi, hci⟩ := cmpTs_mem hc
        have e : (a == b) = r := by rw [← hr]; rfl
        unfold Op.equalIn; simp only [Sem.run_bind, run_underlying ht, Result.andThen_ok, ne_eq, not_true_eq_false, if_false]; simp [typeInfo, hi, hci]; unfold Op.equalIn; simp only [Sem.run_bind, run_underlying hk0, Result.andThen_ok, if_true, Sem.run_pure, e]
      · cases hr
    · rename_i hty
      injection hr with hr; subst hr
      unfold Op.equalIn; simp only [Sem.run_bind, run_underlying ht, Result.andThen_ok, Sem.run_pure, if_pos hty, ne_eq, hty, not_false_eq_true, if_true]
  · obtain rfl := rep_val h1
    obtain rfl := rep_val h2
    injection hr with hr; subst hr
    exact eq_gives (fun op w => by cases op <;> rfl) rfl rfl (fun D w => by unfold Op.equalIn; simp only [Sem.run_bind, run_underlying ht, Result.andThen_ok, Sem.run_pure]) ne
  · obtain rfl := rep_val h1
    obtain rfl := rep_val h2
    injection hr with hr; subst hr
    exact eq_gives (fun op w => by cases op <;> rfl) rfl rfl (fun D w => by unfold Op.equalIn; simp only [Sem.run_bind, run_underlying ht, Result.andThen_ok, Sem.run_pure]) ne
  · obtain rfl := rep_val h1
    cases h2
    injection hr with hr; subst hr
    exact eq_gives (fun op w => by cases op <;> rfl) rfl rfl (fun D w => by unfold Op.equalIn; simp only [Sem.run_bind, run_underlying ht, Result.andThen_ok, Sem.run_pure]) ne
  · obtain rfl := rep_val h2
    cases h1
    injection hr with hr; subst hr
    exact eq_gives (fun op w => by cases op <;> rfl) rfl rfl (fun D w => by unfold Op.equalIn; simp only [Sem.run_bind, run_underlying ht, Result.andThen_ok, Sem.run_pure]) ne
  · cases hr
theorem gives_mkif {t : TypeId} {d : TypeDesc} {vx : Value} {ax : AV} (ht : P.underlying t = some d) (hn : ∀ ms, d ≠ .interface ms) (h1 : Rep (Stab X H w) w H vx ax) : Gives P w (Instr.makeInterface t vx) (.iface t vx) ∧ Rep (Stab X H w) w H (.iface t vx) (ifOf t ax) := by
 constructor
 ·intro w' _
  cases d <;> first | (exact absurd rfl (hn _)) | simp [Instr.makeInterface, run_underlying ht]
 ·unfold ifOf
  split
  ·rw [rep_val h1]; exact .val _ _
  ·exact .nif _ _ _
end
end Go.Proofs.YtienfdjfochlcaaGreatDoor
end
section
namespace Go.Proofs.YtienfdjfochlcaaGreatDoor
set_option linter.unusedVariables false
set_option linter.unusedSimpArgs false
open Go.MapKept Go.ChangeMaps
section
variable {P : Program} {X : Nat → Nat → Prop} {w0 : Base} {w w' : World} {N : Nat} {st : St} {a : Act} {fr : List (Nat × AV)} {m : List MObj} {H : List Hd} {d : Option Nat} {av : AV}
theorem s_arrS {x : Operand} {v0 : Value} {t e : TypeId} {n : Nat} (ht : P.underlying t = some (.array n e)) (hz : szOf P e = some 1) (hn : 0 < n) (h0 : Rep (Stab X H w) w H v0 (evA fr x)) (hp : pure2 m fr (.arrS n x) = some av) :
    ∃ v, Gives P w (Instr.sliceAt t v0 none none none) v ∧ Rep (Stab X H w) w H v av := by
  simp only [pure2] at hp
  split at hp
  · rename_i id off hx
    injection hp with hp; subst hp
    rw [hx] at h0
    cases h0 with
    | ptr id off hH =>
      rename_i b nb
      refine ⟨.slice (some ⟨b, off, none⟩) n n, fun w' _ => ?_, .bsl id off n hH⟩
      simp [Instr.sliceAt, Instr.sureAddr, run_underlying ht, Instr.sliceBounds, run_szOf hz, Addr.add, hn]
  · cases hp
theorem e_boxW {id off b nb : Nat} {bt : TypeId} {l cs : List AV} {vs : List Value} {dv : Value} (h : SR X w0 N st a w H) (hd : ∀ k, d = some k → k < N) (hH : H[id]? = some (.box b nb)) (hobj : st.m[id]? = some (.box bt l))
    (hlen : vs.length = cs.length) (hle : off + cs.length ≤ l.length) (hbo : ¬ bt = BT) (hone : ∀ v ∈ vs, v.oneCell' = true) (hrep' : ∀ (i : Nat) (y : AV), cs[i]? = some y → Rep (Stab X H w) w H (vs.getD i undef) y) :
    ∃ w', (storeCells ⟨b, off, none⟩ vs).run P w = .ok () w' ∧ SR X w0 N ⟨putf d (.val dv) st.fr, st.m.set id (.box bt (setAt l off cs))⟩ (a.put d dv) w' H := by
  have hO := h.mem.obj _ _ _ hobj hH
  simp only [ObjAt] at hO
  obtain ⟨e1, cur, hh, hsz, hrep, hbk⟩ := hO
  have hrun := run_storeCells_fz P b off bt (0, 0) vs 0 cur w hh (fun k _ => by simp) (by omega) hone
  simp only [Nat.add_zero] at hrun
  have hgo : Goes X w H (w.setRow b (cur.toList.take off ++ vs ++ cur.toList.drop (off + vs.length)).toArray) H := goes_write hH fun o => rfl
  refine ⟨_, hrun, ?_⟩
  have hset := set_same hH
  have hmem := h.mem.upd (id := id) (k' := .box b nb) (o' := .box bt (setAt l off cs)) (w' := w.setRow b (cur.toList.take off ++ vs ++ cur.toList.drop (off + vs.length)).toArray) (by rw [hset]; exact hgo) (by simp [World.setRow])
    (fun i k b' hi hk hb' => setRow_other w b b' _ (fun e => hi (h.mem.apart i id k _ b' hk hH hb' (by rw [e]; rfl)))) (fun b' hb' => by
      simp only [Hd.blk, Option.some.injEq] at hb'
      subst hb'
      exact ⟨by simpa [World.setRow] using h.mem.lt _ _ b hH rfl, fun i k hi hk hkb => hi (h.mem.apart i id k _ b hk hH hkb rfl)⟩) (by
      rw [hset]
      simp only [ObjAt]
      refine ⟨by rw [setAt_length _ _ _ (by omega)]; exact e1, _, setRow_heap w b cur _ bt _ hh, by rw [row_size _ _ _ (by omega), setAt_length _ _ _ (by omega)]; exact hsz, fun i y hy => ?_, fun e => absurd e hbo⟩
      rw [setAt_get _ _ _ _ (by omega)] at hy
      rw [row_get _ _ _ _ (by omega)]
      split at hy
      · rename_i hi
        rw [if_pos (by omega)]
        exact hgo.rep (hrep' _ _ hy)
      · rename_i hi
        rw [if_neg (by omega)]
        exact hgo.rep (hrep _ _ hy))
  rw [hset] at hmem
  exact h.go hd hgo hmem (fr_write h.grw (h.new _ _ _ hH rfl)) h.new (.val _ _)
theorem e_cpyA {t e ty : TypeId} {ts : Array TypeId} {id off len : Nat} {vx : Value} {s : ByteArray} {bt : TypeId} {l : List AV} (hts : ts[0]? = some t) (ht : P.underlying t = some (.slice e)) (hs : szOf P e = some 1) (h : SR X w0 N st a w H) (hd : ∀ k, d = some k → k < N)
    (hx : Rep (Stab X H w) w H vx (.bsl id off len)) (hobj : st.m[id]? = some (.box bt l)) (hle : off + len ≤ l.length) (hbo : ¬ bt = BT) :
    ∃ v' w' H', (Builtin.copy_ ts ty #[vx, .string s]).run P w = .ok v' w' ∧ SR X w0 N ⟨putf d (.val (.int .i64 (min s.size len : Nat))) st.fr, st.m.set id (.box bt (setAt l off ((bcA s).take (min s.size len))))⟩ (a.put d v') w' H' := by
  cases hx with
  | bsl id off len hH =>
    rename_i b nb
    generalize hn : min s.size len = n
    have hn1 : n ≤ s.size := by omega
    have hn2 : n ≤ len := by omega
    have hnm : Nat.min s.size len = n := hn
    have hsz : s.data.toList.length = s.size := by rw [Array.length_toList]; rfl
    have hbl : (bcA s).length = s.size := by unfold bcA; rw [List.length_map]; exact hsz
    have hcl : ((bcA s).take n).length = n := by rw [List.length_take, hbl]; omega
    have hex : (s.extract 0 n).data.toList = s.data.toList.take n := by simp [ByteArray.extract, ByteArray.copySlice]
    have hvl : (((s.extract 0 n).data.map fun (c : UInt8) => Value.int .u8 (c.toNat : Int))).toList = (s.data.toList.take n).map fun c => Value.int .u8 (c.toNat : Int) := by
      rw [Array.toList_map, hex]
    obtain ⟨w', h1, h2⟩ := e_boxW (P := P) (d := d) (off := off) (dv := .int .i64 (n : Nat)) (cs := (bcA s).take n) (vs := (s.data.toList.take n).map fun c => Value.int .u8 (c.toNat : Int)) h hd hH hobj
      (by rw [List.length_map, List.length_take, hcl, hsz]; omega) (by rw [hcl]; omega) hbo (fun v hv => by
        obtain ⟨c, _, rfl⟩ := List.mem_map.1 hv; rfl) (fun i y hy => by
        unfold bcA at hy
        rw [← List.map_take, List.getElem?_map] at hy
        rw [List.getD_eq_getElem?_getD, List.getElem?_map]
        cases hq : (s.data.toList.take n)[i]? with
        | none => rw [hq] at hy; cases hy
        | some c => rw [hq] at hy; cases hy; exact .val _ _)
    rw [List.map_take] at h1 hvl
    refine ⟨_, w', H, ?_, h2⟩
    have hfc : (Builtin.firstCells 1 n (.string s)).run P w = .ok ((s.extract 0 n).data.map fun (c : UInt8) => Value.int .u8 (c.toNat : Int)) w := rfl
    simp [Builtin.copy_, hts, run_underlying ht, Builtin.lenOf, run_szOf hs, hnm, hfc, goInt, hvl, h1]
theorem hsb_same {w : World} {b : Nat} {o' : Obj} (hb : w.heap[b]? = some o') (o : Obj) : (setBlock w b o).heap[b]? = some o := by
 have h := (Array.getElem?_eq_some_iff.1 hb).1
 simp [setBlock, h]
theorem hsb_other {w : World} {b : Nat} {o' : Obj} (hb : w.heap[b]? = some o') (o : Obj) {i : Nat} (h : i ≠ b) : (setBlock w b o).heap[i]? = w.heap[i]? := by
 simp only [setBlock]
 rw [Array.getElem?_setIfInBounds_ne (fun e => h e.symm)]
theorem e_rng (h : SR X w0 N st a w H) (hd : ∀ k, d = some k → k < N) (s : ByteArray) :
    ∃ H', SR X w0 N ⟨putf d (.it st.m.length) st.fr, st.m ++ [.it s 0]⟩ (a.put d (.pointer (some ⟨w.heap.size, 0, none⟩))) (w.alloc (.stringIter s 0)) H' := by
  refine ⟨H ++ [.it w.heap.size], ?_⟩
  refine h.newObj hd (ext_alloc w _) (by simp) ((Fr.refl _ _).alloc _) (fun b hb => by simp [Hd.blk] at hb; subst hb; simp) ?_ ?_
  · exact heap_alloc_new w _
  · rw [← h.mem.len]
    exact .it _ (snoc_last _ _)
theorem run_newObj_it (o : Obj) : (newObj o).run P w = .ok w.heap.size (w.alloc o) := rfl
theorem run_getObj_it {r : Nat} {s : ByteArray} {pos : Nat} (hb : w.heap[r]? = some (.stringIter s pos)) : (getObj r).run P w = .ok (.stringIter s pos) w := by
 simp [getObj, Sem.run, hb]
theorem run_setObj_it {r : Nat} {s : ByteArray} {pos : Nat} (o : Obj) (hb : w.heap[r]? = some (.stringIter s pos)) : (setObj r o).run P w = .ok () (setBlock w r o) := by
 simp [setObj, Sem.run, hb, setBlock]
theorem SR.itSet {id b : Nat} {s s' : ByteArray} {pos pos' : Nat} {u : Value} {av : AV} (h : SR X w0 N st a w H) (hd : ∀ k, d = some k → k < N) (hobj : st.m[id]? = some (.it s pos)) (hH : H[id]? = some (.it b)) (hb : w.heap[b]? = some (.stringIter s pos))
    (hv : ∀ {S : Nat → Nat → Prop} {w : World} {H : List Hd}, Rep S w H u av) :
    SR X w0 N ⟨putf d av st.fr, st.m.set id (.it s' pos')⟩ (a.put d u) (setBlock w b (.stringIter s' pos')) H := by
  have hgo : Goes X w H (setBlock w b (.stringIter s' pos')) H := ⟨HLe.refl _, fun b' o ⟨h1, h2, h3⟩ => by
    have hne : b' ≠ b := fun e => h3 ⟨id, _, hH, by rw [e]; exact rfl⟩
    exact ⟨⟨by simpa [setBlock] using h1, h2, h3⟩, World.cell?_of_block (hsb_other hb _ hne)⟩⟩
  have hset := set_same hH
  have hmem := h.mem.upd (id := id) (k' := .it b) (o' := .it s' pos') (w' := setBlock w b (.stringIter s' pos')) (by rw [hset]; exact hgo) (by simp [setBlock])
      (fun i k b' hi hk hb' => hsb_other hb _ (fun e => hi (h.mem.apart i id k _ b' hk hH hb' (by rw [e]; rfl)))) (fun b' hb' => by
        simp only [Hd.blk, Option.some.injEq] at hb'
        subst hb'
        exact ⟨by simpa [setBlock] using h.mem.lt _ _ b hH rfl, fun i k hi hk hkb => hi (h.mem.apart i id k _ b hk hH hkb rfl)⟩) (by
        rw [hset]
        exact hsb_same hb _)
  rw [hset] at hmem
  exact h.go hd hgo hmem (h.grw.setBlock b _ (.inr (h.new _ _ _ hH rfl))) h.new hv
theorem rep_vals {S : Nat → Nat → Prop} {w : World} {H : List Hd} (l : List Value) : Rep S w H (.tuple l.toArray) (.tuple (l.map .val)) := by
 refine .tuple (by simp) fun i y hy => ?_
 rw [List.getElem?_map] at hy
 cases hq : l[i]? with
 | none => rw [hq] at hy; cases hy
 | some v =>
  rw [hq] at hy; cases hy
  have : l.toArray.getD i undef = v := by simp [Array.getD_eq_getD_getElem?, hq]
  rw [this]; exact .val _ _
theorem e_nxt {ty : TypeId} {id : Nat} {vx : Value} {s : ByteArray} {pos : Nat} (h : SR X w0 N st a w H) (hd : ∀ k, d = some k → k < N) (hx : Rep (Stab X H w) w H vx (.it id)) (hobj : st.m[id]? = some (.it s pos)) (hp : pos < s.size) :
    ∃ v' w' H', (Instr.next vx true ty).run P w = .ok v' w' ∧ SR X w0 N ⟨putf d (.tuple [.val (.bool true), .val (.int .i64 pos), .val (.int .i32 (Utf8.decode s pos).1)]) st.fr, st.m.set id (.it s (pos + (Utf8.decode s pos).2))⟩ (a.put d v') w' H' := by
  cases hx with
  | it id hH =>
    rename_i b
    have hb : w.heap[b]? = some (.stringIter s pos) := h.mem.obj _ _ _ hobj hH
    refine ⟨.tuple #[.bool true, .int .i64 pos, .int .i32 (Utf8.decode s pos).1], setBlock w b (.stringIter s (pos + (Utf8.decode s pos).2)), H, ?_, h.itSet hd hobj hH hb (rep_vals [.bool true, .int .i64 pos, .int .i32 (Utf8.decode s pos).1])⟩
    simp [Instr.next, run_getObj_it hb, run_setObj_it _ hb, hp, goInt, Result.andThen]
theorem e_nxt0 {ty : TypeId} {id : Nat} {vx : Value} {s : ByteArray} {pos : Nat} (h : SR X w0 N st a w H) (hd : ∀ k, d = some k → k < N) (hx : Rep (Stab X H w) w H vx (.it id)) (hobj : st.m[id]? = some (.it s pos)) (hp : ¬ pos < s.size) :
    ∃ v', (Instr.next vx true ty).run P w = .ok v' w ∧ SR X w0 N ⟨putf d (.tuple [.val (.bool false)]) st.fr, st.m⟩ (a.put d v') w H := by
  cases hx with
  | it id hH =>
    rename_i b
    have hb : w.heap[b]? = some (.stringIter s pos) := h.mem.obj _ _ _ hobj hH
    refine ⟨.tuple #[.bool false], ?_, h.pure hd (rep_vals [.bool false])⟩
    simp [Instr.next, run_getObj_it hb, hp, Result.andThen]
theorem goes_cut {id b cap sz ver used k : Nat} (hH : H[id]? = some (.row b cap sz ver used true)) : Goes X w H w (H.set id (.row b cap sz (ver + 1) k true)) := by
 have hlt := (List.getElem?_eq_some_iff.1 hH).1
 refine ⟨fun i h hi => ?_, fun b' o ⟨q1, q2, q3⟩ => ⟨⟨q1, q2, fun ⟨i, h, hi, hm⟩ => ?_⟩, rfl⟩⟩
 ·by_cases e : id = i
  ·subst e
   rw [hH] at hi
   cases hi
   exact ⟨_, List.getElem?_set_self hlt, .inr (.inl (Nat.lt_succ_self _))⟩
  ·exact ⟨h, by rw [List.getElem?_set_ne e]; exact hi, h.le_refl⟩
 ·by_cases e : id = i
  ·subst e
   rw [List.getElem?_set_self hlt] at hi
   cases hi
   exact q3 ⟨id, _, hH, ⟨hm.1, hm.2.1, .inl rfl⟩⟩
  ·rw [List.getElem?_set_ne e] at hi
   exact q3 ⟨i, h, hi, hm⟩
theorem e_trunc {t e : TypeId} {sz id ver used off len v s k : Nat} {ap : Nat} {ki : IntKind} {vx : Value} {l : List AV} (ht : P.underlying t = some (.slice e)) (hz : szOf P e = some sz) (h : SR X w0 N st a w H) (hd : ∀ k, d = some k → k < N)
    (hx : Rep (Stab X H w) w H vx (.row id ver used off len)) (hobj : st.m[id]? = some (.row v s l true ap)) (hver : v = ver) (hused : l.length = used) (hoff : off = 0) (hk : k ≤ len) :
    ∃ v' H', (Instr.sliceAt t vx none (some (.int ki (k : Int))) none).run P w = .ok v' w ∧ SR X w0 N ⟨putf d (.row id (v + 1) k 0 k) st.fr, st.m.set id (.row (v + 1) s (l.take k) true ap)⟩ (a.put d v') w H' := by
  subst hver hused hoff
  cases hx with
  | row id ver used off len hs' hH hle hvv =>
    rename_i b cap sz' cver cused wr
    have hO := h.mem.obj _ _ _ hobj hH
    simp only [ObjAt] at hO
    obtain ⟨e1, e2, es, e3, e4, e5, e6, e7⟩ := hO
    obtain ⟨g1, g2, A, rfl, g3, g4, g4n⟩ := hvv e1.symm e3.symm
    subst e1 e2 es
    have e0 : (if cap - 0 = 0 then A else A.map (·.add (0 * sz))) = A := by
      split
      · rfl
      · cases A with
        | none => rfl
        | some A => simp [Addr.add]
    have hgo : Goes X w H w (H.set id (.row b cap s (cver + 1) k true)) := goes_cut hH
    have hlt := (List.getElem?_eq_some_iff.1 hH).1
    have hkl : (l.take k).length = k := by rw [List.length_take]; omega
    refine ⟨.slice A k (cap - 0), H.set id (.row b cap s (cver + 1) k true), ?_, ?_⟩
    · have c1 : k ≤ cap - 0 := by omega
      simp only [Nat.zero_mul] at e0
      simp [Instr.sliceAt, Instr.slice, run_underlying ht, Instr.sliceBounds, Instr.sliceBound, asIntOf, run_szOf hz, show k ≤ cap by omega]
      intro _
      cases A with
      | none => rfl
      | some A => simp [Addr.add]
    · have hmem := h.mem.upd (id := id) (k' := .row b cap s (cver + 1) k true) (o' := .row (cver + 1) s (l.take k) true ap) (w' := w) hgo (Nat.le_refl _) (fun _ _ _ _ _ _ => rfl) (fun b' hb' => ⟨h.mem.lt _ _ b' hH hb', fun i x hi hx hxb => hi (h.mem.apart i id x _ b' hx hH hxb hb')⟩) (by
        simp only [ObjAt]
        refine ⟨trivial, trivial, trivial, hkl.symm, by omega, fun hc => ?_, fun i x hx => e6 i x ?_, e7⟩
        · obtain ⟨cur, t', fz, q1, q2, q3, q4, q5⟩ := e5 hc
          exact ⟨cur, t', fz, q1, q2, q3, q4, fun i x j y hx hy => hgo.rep0 (q5 i x j y (by rw [List.getElem?_take] at hx; split at hx; exact hx; cases hx) hy)⟩
        · rw [List.getElem?_take] at hx; split at hx; exact hx; cases hx)
      refine h.go hd hgo hmem h.grw (fun i x b' hi hb' => ?_) ?_
      · by_cases e : id = i
        · subst e
          rw [List.getElem?_set_self hlt] at hi
          cases hi
          exact h.new _ _ _ hH hb'
        · rw [List.getElem?_set_ne e] at hi
          exact h.new _ _ _ hi hb'
      · exact .row id (cver + 1) k 0 k ⟨_, _, _, rfl⟩ (List.getElem?_set_self hlt) (.inr ⟨rfl, Nat.le_refl _⟩) fun _ _ => ⟨by omega, by omega, A, rfl, g3, g4, g4n⟩
theorem e_appN {t u ty e : TypeId} {ak : Nat} {k : Int} (hae : 2 ≤ ak → e = ak - 2) (ht : P.underlying t = some (.slice e)) (hu : P.underlying u = some (.int .i64)) (hs : szOf P e = some 1) (hz : zeOf P e = some (.int .u8 0)) (hby : byOf P e = some 1) (h : SR X w0 N st a w H) (hd : ∀ k, d = some k → k < N)
    (h0 : 0 < k) (hm : k ≤ 1000000000) :
    ∃ v w' H', (Builtin.append_ #[t, u] ty #[.slice none 0 0, .int .i64 k]).run P w = .ok v w' ∧ SR X w0 N ⟨putf d (.row st.m.length 0 k.toNat 0 k.toNat) st.fr, st.m ++ [.row 0 1 (List.replicate k.toNat (.val (.int .u8 0))) true ak]⟩ (a.put d v) w' H' := by
  obtain ⟨n, rfl⟩ : ∃ n : Nat, k = n := ⟨k.toNat, by omega⟩
  have hn : 0 < n := by omega
  have hm' : n ≤ 1000000000 := by omega
  obtain ⟨i, hi, h1, h2, h3⟩ := info_of hs hz hby
  have hfit : Builtin.nextslicecap (0 + n) 0 * 1 ≤ 281474976710656 := by
    have := growslice_fits (need := 0 + n) (old := 0) (bytes := 1) (by omega) (by omega)
    exact this
  have hwr : IntKind.i64.wrap (n : Int) = n := IntWalk.i64_in _ (by omega)
  have hrun : (Builtin.append_ #[t, u] ty #[.slice none 0 0, .int .i64 (n : Int)]).run P w = .ok (.slice (some ⟨w.heap.size, 0, none⟩) n (grownCap w n 0 e)) (w.drew.alloc (.cells (Builtin.zeroCells #[.int .u8 0] n ++ Builtin.zeroCells #[.int .u8 0] (grownCap w n 0 e - n)) e)) := by
    have hn' : ¬ (n ≤ 0) := by omega
    have h63 : ¬ (9223372036854775807 < (n : Int)) := by omega
    have h48 : ¬ (281474976710656 < Builtin.nextslicecap n 0) := by simp only [Nat.zero_add, Nat.mul_one] at hfit; omega
    have hb : ¬ (281474976710656 < (n : Int)) := by omega
    have hneg : ¬ ((n : Int) < 0) := by omega
    simp [Builtin.append_, run_underlying ht, run_underlying hu, sizeOf, typeInfo, zeroValue, hi, h1, h2, h3, asInt, asIntOf, hwr, hneg, hb, hn', h63, h48, Question.forced, newRow, grownCap, Builtin.firstCells, show n ≠ 0 by omega]
    rfl
  have hge := grownCap_ge w n 0 e
  generalize grownCap w n 0 e = cap' at *
  refine ⟨_, _, H ++ [.row w.heap.size cap' 1 0 n true], hrun, ?_⟩
  have hzc : (Builtin.zeroCells #[.int .u8 0] n).size = n := by rw [zeroCells_size]; simp
  have hext := ext_drew_alloc w (.cells (Builtin.zeroCells #[.int .u8 0] n ++ Builtin.zeroCells #[.int .u8 0] (cap' - n)) e)
  have hfr : Fr (fun _ => False) w (w.drew.alloc (.cells (Builtin.zeroCells #[.int .u8 0] n ++ Builtin.zeroCells #[.int .u8 0] (cap' - n)) e)) := ⟨rfl, rfl, rfl, by simp, fun k hk _ => hext k hk⟩
  have hcap : 0 < cap' := by omega
  have hrl : (List.replicate n (AV.val (.int .u8 0))).length = n := List.length_replicate
  show SR X w0 N ⟨putf d (.row st.m.length 0 n 0 n) st.fr, st.m ++ [.row 0 1 (List.replicate n (.val (.int .u8 0))) true ak]⟩ _ _ _
  refine h.newObj hd hext (by simp) hfr (fun b hb => by
    simp only [Hd.blk, hcap, if_true, Option.some.injEq] at hb
    subst hb; simp) ?_ ?_
  · have hsz2 : (Builtin.zeroCells #[.int .u8 0] n ++ Builtin.zeroCells #[.int .u8 0] (cap' - n)).size = cap' * 1 := by
      rw [Array.size_append, zeroCells_size, zeroCells_size]
      simp; omega
    have hx0 : ∀ {i : Nat} {x : AV}, (List.replicate n (AV.val (.int .u8 0)))[i]? = some x → x = .val (.int .u8 0) ∧ i < n := fun {i x} hx => by
      rw [List.getElem?_replicate] at hx
      split at hx
      · exact ⟨(Option.some.inj hx).symm, by assumption⟩
      · cases hx
    refine ⟨rfl, rfl, rfl, hrl.symm, hge, fun _ => ⟨_, e, (0, 0), heap_drew_alloc w _, ⟨fun _ => rfl, hae⟩, fun _ _ => by simp, Nat.le_of_eq hsz2.symm, fun i x j y hx hy => ?_⟩, fun i x hx => ?_, fun _ q => by omega⟩
    · obtain ⟨rfl, hlt⟩ := hx0 hx
      have hj : j = 0 := by
        cases j with
        | zero => rfl
        | succ j => simp [AV.cells] at hy
      subst hj
      simp only [AV.cells, List.getElem?_cons_zero, Option.some.injEq] at hy
      subst hy
      have e1 : (Builtin.zeroCells #[.int .u8 0] n ++ Builtin.zeroCells #[.int .u8 0] (cap' - n)).getD (i * 1 + 0) undef = .int .u8 0 := by
        simp only [Array.getD_eq_getD_getElem?, Nat.mul_one, Nat.add_zero]
        rw [Array.getElem?_append_left (by rw [hzc]; exact hlt)]
        simp [Builtin.zeroCells, hlt, Nat.mod_one]
      rw [e1]; exact .val _ _
    · obtain ⟨rfl, hlt⟩ := hx0 hx
      exact ⟨rfl, rfl⟩
  · rw [← h.mem.len]
    exact .row _ 0 _ 0 _ ⟨_, _, _, rfl⟩ (snoc_last _ _) (.inr ⟨rfl, Nat.le_refl _⟩) fun _ _ => ⟨by omega, hge, some ⟨w.heap.size, 0, none⟩, rfl, fun q => by simp, fun q => (by cases q), fun q => by omega⟩
end
end Go.Proofs.YtienfdjfochlcaaGreatDoor
end
section
namespace Go.Proofs.YtienfdjfochlcaaGreatDoor
set_option linter.unusedVariables false
set_option linter.unusedSimpArgs false
open Go.MapKept Go.ChangeMaps
section
variable {P : Program} {X : Nat → Nat → Prop} {w0 : Base} {w w' : World} {N : Nat} {st : St} {a : Act} {fr : List (Nat × AV)} {m : List MObj} {H : List Hd} {d : Option Nat} {av : AV}
theorem bCells_ok {S : Nat → Nat → Prop} {w : World} {H : List Hd} {t : TypeId} {z : Value} {zs : List AV} (h : bCells t (z.cells.toList.map .val) = some zs) :
    RepL S w H z.cells zs ∧ (t = BT → z.cells.getD 0 undef = .pointer none) := by
  unfold bCells at h
  split at h
  · rename_i ht
    split at h
    · rename_i r hr
      injection h with h; subst h
      obtain ⟨l, hl⟩ : ∃ l, z.cells.toList = l := ⟨_, rfl⟩
      rw [hl] at hr
      match l, hl, hr with
      | x :: l, hl, hr =>
        simp only [List.map_cons, List.cons.injEq, AV.val.injEq] at hr
        obtain ⟨rfl, rfl⟩ := hr
        have hz : z.cells = (Value.pointer none :: l).toArray := by rw [← hl]
        rw [hz]
        refine ⟨⟨by simp, fun i y hy => ?_⟩, fun _ => by simp⟩
        match i, hy with
        | 0, hy => simp at hy; subst hy; exact .any _ _
        | i + 1, hy =>
          have := (repL_vals (S := S) (w := w) (H := H) ((Value.pointer none :: l).toArray)).2 (i + 1) y (by simpa using hy)
          exact this
    · cases h
  · rename_i ht
    injection h with h; subst h
    exact ⟨repL_vals z.cells, fun e => absurd e ht⟩
theorem nilRows_sound {N : Nat} : ∀ (offs : List (Nat × Nat)) (cs : List AV) (m : List MObj) (H : List Hd) (vs : Array Value), SR X w0 N ⟨fr, m⟩ a w H → RepL (Stab X H w) w H vs cs →
    ∃ H', SR X w0 N ⟨fr, m ++ (nilRows m.length offs cs).2⟩ a w H' ∧ RepL (Stab X H' w) w H' vs (nilRows m.length offs cs).1 ∧ Goes X w H w H' ∧ (nilRows m.length offs cs).1.length = cs.length
  | [], cs, m, H, vs, hs, hr => ⟨H, by simpa [nilRows] using hs, hr, Goes.refl, rfl⟩
  | (o, sz) :: r, cs, m, H, vs, hs, hr => by
    simp only [nilRows]
    split
    · rename_i hx
      have h1 := e_nilrow (ver := 0) (ak := max 1 (sz / 1048576)) (d := none) (sz % 1048576) hs (fun k hk => by cases hk)
      have hg : Goes X w H w (H ++ [.row 0 0 (sz % 1048576) 0 0 true]) := goes_new (Ext.refl w) (Nat.le_refl _) (fun b hb => by simp [Hd.blk] at hb)
      have hv := rep_val (hr.2 _ _ hx)
      have h2 : RepL (Stab X (H ++ [.row 0 0 (sz % 1048576) 0 0 true]) w) w (H ++ [.row 0 0 (sz % 1048576) 0 0 true]) vs (cs.set o (.row m.length 0 0 0 0)) := by
        refine ⟨by simpa using hr.1, fun i y hy => ?_⟩
        rw [List.getElem?_set] at hy
        split at hy
        · rename_i e
          subst e
          split at hy
          · injection hy with hy; subst hy
            rw [hv]
            have hl : m.length = H.length := hs.mem.len.symm
            rw [hl]
            exact .row _ 0 0 0 0 ⟨_, _, _, rfl⟩ (snoc_last _ _) (.inr ⟨rfl, Nat.le_refl _⟩) fun _ _ => ⟨by omega, by omega, none, rfl, fun q => absurd q (by omega), fun _ => rfl, fun _ _ => rfl⟩
          · cases hy
        · exact hg.rep (hr.2 i y hy)
      have h1' : SR X w0 N ⟨fr, m ++ [.row 0 (sz % 1048576) [] true (max 1 (sz / 1048576))]⟩ a w (H ++ [.row 0 0 (sz % 1048576) 0 0 true]) := h1
      obtain ⟨H', g1, g2, g3, g4⟩ := nilRows_sound r (cs.set o (.row m.length 0 0 0 0)) (m ++ [.row 0 (sz % 1048576) [] true (max 1 (sz / 1048576))]) _ vs h1' h2
      simp only [List.length_append, List.length_singleton] at g1 g2 g4
      refine ⟨H', ?_, g2, hg.trans g3, by simpa using g4⟩
      simpa using g1
    · exact nilRows_sound r cs m H vs hs hr
theorem repL_args (hr : FrOk (Stab X H w) w H a fr) (xs : Array Operand) : RepL (Stab X H w) w H (xs.map a.eval) (xs.toList.map (evA fr)) := by
 refine ⟨by simp, fun i y hy => ?_⟩
 simp only [List.getElem?_map, Option.map_eq_some_iff, Array.getElem?_toList] at hy
 obtain ⟨x, hx, rfl⟩ := hy
 have e : (xs.map a.eval).getD i undef = a.eval x := by simp [Array.getD_eq_getD_getElem?, hx]
 rw [e]
 exact rep_ev hr x
theorem repL_app {S : Nat → Nat → Prop} {us vs : Array Value} {l k : List AV} (h1 : RepL S w H us l) (h2 : RepL S w H vs k) : RepL S w H (us ++ vs) (l ++ k) := by
 refine ⟨by simp [h1.1, h2.1], fun i y hy => ?_⟩
 rw [List.getElem?_append] at hy
 have e := h1.1
 split at hy
 ·rename_i hi
  have := h1.2 i y hy
  have e2 : (us ++ vs).getD i undef = us.getD i undef := by simp only [Array.getD_eq_getD_getElem?]; rw [Array.getElem?_append_left (by omega)]
  rw [e2]; exact this
 ·rename_i hi
  have := h2.2 _ y hy
  have e2 : (us ++ vs).getD i undef = vs.getD (i - l.length) undef := by simp only [Array.getD_eq_getD_getElem?]; rw [Array.getElem?_append_right (by omega), e]
  rw [e2]; exact this
theorem s_slc3 {a : Act} {fr : List (Nat × AV)} (hr : FrOk (Stab X H w) w H a fr) {x h mx : Operand} {v0 : Value} {t e : TypeId} {sz : Nat} (ht : P.underlying t = some (.slice e)) (hz : szOf P e = some sz) (h0 : Rep (Stab X H w) w H v0 (evA fr x)) (hp : pure2 m fr (.slc3 x h mx) = some av) :
    ∃ v, Gives P w (Instr.sliceAt t v0 none (some (a.eval h)) (some (a.eval mx))) v ∧ Rep (Stab X H w) w H v av := by
  simp only [pure2] at hp
  split at hp
  · rename_i s l hx
    split at hp
    · rename_i p q h1 h2
      split at hp
      · rename_i hc
        injection hp with hp; subst hp
        rw [hx] at h0
        cases h0 with
        | slice b off _ u hc' hz' hA hsz hcell hrep =>
          rename_i A c
          have hlen : (l.take p).length = p := by rw [List.length_take]; omega
          have e0 : (if q = 0 then A else A.map (·.add (0 * sz))) = A := by
            split
            · rfl
            · cases A with
              | none => rfl
              | some A => simp [Addr.add]
          refine ⟨.slice A p q, fun w' _ => ?_, ?_⟩
          · rcases run_low hr h1 with ⟨hh, -⟩ | ⟨x1, k, e1, hx1⟩
            · cases hh
            · cases e1
              rcases run_high hr h2 with ⟨hh, -⟩ | ⟨y1, k', e2, hy1⟩
              · cases hh
              · cases e2
                have g1 : (p : Int) ≤ (q : Int) := by omega
                have g2 : (q : Int) ≤ (c : Int) := by omega
                simp only [Nat.zero_mul] at e0
                simp [Instr.sliceAt, Instr.slice, run_underlying ht, Instr.sliceBounds, Instr.sliceBound, asIntOf, hx1, hy1, hc.1, show q ≤ c from by omega, run_szOf hz, e0]
          · have hq : ∀ (i : Nat) (x : AV), (l.take p)[i]? = some x → l[i]? = some x := fun i x hi => by
              rw [List.getElem?_take] at hi
              split at hi
              · exact hi
              · cases hi
            have := Rep.slice (S := Stab X H w) (w := w) (H := H) (A := A) (c := q) (l := l.take p) b off s u (by rw [hlen]; exact hc.1) (fun hn => by have := hz' hn; omega) (fun hl => hA (by omega)) (fun i x hi => hsz i x (hq i x hi)) (fun i x j y hi hj => hcell i x j y (hq i x hi) hj) (fun i x j y hi hj => hrep i x j y (hq i x hi) hj)
            rw [hlen] at this
            exact this
      · cases hp
    · cases hp
  · cases hp
set_option maxHeartbeats 1000000 in
theorem pure2_sound {ms : List Nat} {o : Oper} {o2 : AOp2} (hm : MemAt X w m H) (hr : FrOk (Stab X H w) w H a fr) (hc : comp2 P ms o.op = some o2) (hp : pure2 m fr o2 = some av) :
    ∃ v, (∀ w' : World, Ext w w' → (execOp a.eval o).run P w' = .ok (.value v) w') ∧ Rep (Stab X H w) w H v av := by
  obtain ⟨dst, op, type, pos, after, guard⟩ := o
  simp only at hc
  have E : ∀ x, Rep (Stab X H w) w H (a.eval x) (evA fr x) := rep_ev hr
  have fin : ∀ (s : Sem Value), (∃ v, Gives P w s v ∧ Rep (Stab X H w) w H v av) → (∀ w' : World, (execOp a.eval ⟨dst, op, type, pos, after, guard⟩).run P w' = (do pure (Next.value (← s)) : Sem Next).run P w') → ∃ v, (∀ w' : World, Ext w w' → (execOp a.eval ⟨dst, op, type, pos, after, guard⟩).run P w' = .ok (.value v) w') ∧ Rep (Stab X H w) w H v av := by
    intro s ⟨v, h1, h2⟩ he
    exact ⟨v, fun w' hw' => by rw [he]; exact next_of h1 w' hw', h2⟩
  have eqo : ∀ (ne : Bool) (t yt : TypeId) (x y : Operand), op = .binOp (if ne then .neq else .eql) t x y yt → eqOp P ne t x y = some o2 → ∃ v, (∀ w' : World, Ext w w' → (execOp a.eval ⟨dst, op, type, pos, after, guard⟩).run P w' = .ok (.value v) w') ∧ Rep (Stab X H w) w H v av := by
    intro ne t yt x y hop hq
    subst hop
    unfold eqOp at hq
    split at hq
    · rename_i hnil
      injection hq with hq; subst hq
      simp only [pure2, Option.map_eq_some_iff] at hp
      obtain ⟨r, hr1, rfl⟩ := hp
      exact fin _ (gives_nil (ne := ne) hnil (E x) hr1) fun _ => rfl
    · split at hq
      · rename_i n hag hn
        split at hq
        · cases hq
        · rename_i hg
          simp only [Option.map_eq_some_iff] at hq
          obtain ⟨offs, hl, rfl⟩ := hq
          simp only [pure2] at hp
          split at hp
          · rename_i l l' e1 e2
            split at hp
            · rename_i hsz
              simp only [Option.map_eq_some_iff] at hp
              obtain ⟨r, hr1, rfl⟩ := hp
              have h1 := E x; have h2 := E y
              rw [e1] at h1; rw [e2] at h2
              exact fin _ (gives_aeq (ne := ne) hag ⟨n, hn⟩ (by simpa using hg) hl h1 h2 (fun n' hn' => by rw [hn] at hn'; injection hn' with hn'; subst hn'; exact hsz) hr1) fun _ => rfl
            · cases hp
          · cases hp
      · split at hq
        · rename_i ms ht
          injection hq with hq; subst hq
          simp only [pure2, Option.map_eq_some_iff] at hp
          obtain ⟨r, hr1, rfl⟩ := hp
          exact fin _ (gives_ifeq (ne := ne) ⟨ms, ht⟩ (E x) (E y) hr1) fun _ => rfl
        · cases hq
  cases op <;> simp only [comp2, reduceCtorEq] at hc
  case makeInterface t x =>
    split at hc
    · cases hc
    · rename_i dd hne ht
      injection hc with hc; subst hc
      simp only [pure2, Option.some.injEq] at hp
      subst hp
      exact fin _ ⟨_, gives_mkif ht (fun ms e => hne ms e) (E x)⟩ fun _ => rfl
    · cases hc
  case binOp op t x y yt =>
    cases op <;> simp only [comp2, reduceCtorEq] at hc
    · exact eqo false t yt x y rfl hc
    · exact eqo true t yt x y rfl hc
  case slice t x lo hi mx =>
    split at hc
    · rename_i o ho
      injection hc with hc; subst hc
      obtain ⟨n, e, rfl, rfl, rfl, ht, hz, hn, rfl⟩ := arrC_some ho
      exact fin _ (s_arrS ht hz hn (E x) hp) fun _ => rfl
    · split at hc
      · rename_i o ho
        injection hc with hc; subst hc
        obtain ⟨y, e, sz, rfl, rfl, rfl, ht, hz, rfl⟩ := trC_some ho
        simp [pure2] at hp
      · obtain ⟨y, z, e, sz, rfl, rfl, rfl, ht, hz, rfl⟩ := slc3C_some hc
        exact fin _ (s_slc3 hr ht hz (E x) hp) fun _ => rfl
  case range t x =>
    split at hc
    · injection hc with hc; subst hc; simp [pure2] at hp
    · cases hc
  case next x b =>
    cases b <;> simp only [reduceCtorEq] at hc
    injection hc with hc; subst hc; simp [pure2] at hp
  case assign x =>
    split at hc
    · split at hc
      · injection hc with hc; subst hc; simp [pure2] at hp
      · cases hc
    · cases hc
  case nilCheck x =>
    injection hc with hc; subst hc
    simp only [pure2] at hp
    have hx := E x
    split at hp
    · rename_i id off e
      injection hp with hp; subst hp
      rw [e] at hx
      generalize hv : a.eval x = v at hx
      refine ⟨v, fun w' _ => ?_, hx⟩
      cases hx; simp [execOp, hv]
    · rename_i l e
      injection hp with hp; subst hp
      rw [e] at hx
      generalize hv : a.eval x = v at hx
      refine ⟨v, fun w' _ => ?_, hx⟩
      cases hx; simp [execOp, hv]
    · rename_i id ver used i fo e
      split at hp
      · rename_i hok
        injection hp with hp; subst hp
        rw [e] at hx
        generalize hv : a.eval x = v at hx
        obtain ⟨bb, oo, h1, -⟩ := rep_elt hm hx hok 0
        refine ⟨v, fun w' _ => ?_, hx⟩
        subst h1
        simp [execOp, hv]
      · cases hp
    · rename_i f first caps e
      injection hp with hp; subst hp
      rw [e] at hx
      generalize hv : a.eval x = v at hx
      refine ⟨v, fun w' _ => ?_, hx⟩
      cases hx; simp [execOp, hv]
    · cases hp
  case box t x =>
    split at hc
    · split at hc <;> (injection hc with hc; subst hc; simp [pure2] at hp)
    · cases hc
  case alloc t =>
    (repeat' split at hc) <;> first | (injection hc with hc; subst hc; simp [pure2] at hp; done) | cases hc
  case store t x y =>
    (repeat' split at hc) <;> first | (injection hc with hc; subst hc; simp [pure2] at hp; done) | cases hc
  case makeFunc fn first caps =>
    cases fn <;> simp only [comp2, reduceCtorEq] at hc
    injection hc with hc; subst hc
    simp only [pure2, Option.some.injEq] at hp
    subst hp
    refine ⟨_, fun w' _ => rfl, ?_⟩
    obtain ⟨a1, a2⟩ := repL_args hr first
    obtain ⟨b1, b2⟩ := repL_args hr caps
    exact .fn a1 b1 a2 b2
  case makeMap t r =>
    cases r with
    | none => simp only [comp2] at hc; split at hc <;> first | (injection hc with hc; subst hc; simp [pure2] at hp; done) | cases hc
    | some r =>
      cases r <;> try (simp [comp2] at hc; done)
      rename_i v
      cases v <;> try (simp [comp2] at hc; done)
      simp only [comp2] at hc
      split at hc <;> first | (injection hc with hc; subst hc; simp [pure2] at hp; done) | cases hc
  case lookup t x k ok =>
    split at hc
    · rename_i kt e ht
      split at hc
      · rename_i hk
        simp only [Option.map_eq_some_iff] at hc
        obtain ⟨z, hz, rfl⟩ := hc
        simp only [pure2] at hp
        have hk1 := E k
        have hs : ∃ s, evA fr k = .val (.string s) := by
          unfold mlookA at hp
          split at hp
          · rename_i s e1; exact ⟨s, e1⟩
          · cases hp
        obtain ⟨s, hs⟩ := hs
        rw [hs] at hp hk1
        have := gives_lookup (ok := ok) ht (strOf hk) hz hm (E x) hp
        refine fin (Instr.lookup t (a.eval x) (a.eval k) ok) ?_ fun _ => rfl
        rw [rep_val hk1]; exact this
      · cases hc
    · cases hc
  case mapUpdate t x k v =>
    split at hc
    · split at hc
      · injection hc with hc; subst hc; simp [pure2] at hp
      · cases hc
    · cases hc
  case call c =>
    obtain ⟨callee, args, ts⟩ := c
    cases callee with
    | invoke r n => simp [comp2] at hc
    | value f =>
      cases f <;> simp only [comp2, reduceCtorEq] at hc
      · injection hc with hc; subst hc; simp [pure2] at hp
      · split at hc
        · injection hc with hc; subst hc; simp [pure2] at hp
        · cases hc
    | builtin b =>
      cases b <;> simp only [comp2, reduceCtorEq] at hc
      case len =>
        split at hc
        · rename_i x kt e hargs hts
          injection hc with hc; subst hc
          simp only [pure2, Option.map_eq_some_iff] at hp
          obtain ⟨es, hes, rfl⟩ := hp
          simp only [Option.bind_eq_some_iff] at hts
          obtain ⟨t, ht0, ht⟩ := hts
          have ea : args = #[x] := by rw [← Array.toList_inj]; simpa using hargs
          subst ea
          refine fin (Builtin.len_ ts type #[a.eval x]) ?_ fun _ => by simp [execOp, resolve, invoke, builtin]
          refine ⟨_, fun w' hw' => ?_, .val _ _⟩
          rcases map_at hm (E x) hes with ⟨e1, rfl⟩ | ⟨id, b, ens, cl, _, e1, hobj, hH, hb, hn, hent⟩
          · simp [Builtin.len_, ht0, e1, run_underlying ht, goInt]
          · have hb' : w'.heap[b]? = some (.map ens cl) := by rw [hw' b (lt_of_heap hb)]; exact hb
            simp [Builtin.len_, ht0, e1, run_underlying ht, MapKept.run_getObj_map hb', goInt, hn]
        · cases hc
      case append =>
        (repeat' split at hc) <;> first | (injection hc with hc; subst hc; simp [pure2] at hp; done) | cases hc
      case cap =>
        split at hc
        · rename_i x e hargs hts
          simp only [Option.bind_eq_some_iff] at hts
          obtain ⟨t, ht0, ht⟩ := hts
          have ea : args = #[x] := by rw [← Array.toList_inj]; simpa using hargs
          subst ea
          injection hc with hc; subst hc
          simp only [pure2] at hp
          split at hp
          · rename_i e1
            injection hp with hp; subst hp
            have hx := E x
            rw [e1] at hx
            have hxv := rep_val hx
            refine ⟨.int .i64 0, fun w' _ => ?_, .val _ _⟩
            simp [execOp, resolve, invoke, builtin, Builtin.cap_, ht0, hxv, run_underlying ht, goInt]
          · cases hp
        · cases hc
      case copy =>
        (repeat' split at hc) <;> first | (injection hc with hc; subst hc; simp [pure2] at hp; done) | cases hc
      case delete =>
        split at hc
        · split at hc
          · injection hc with hc; subst hc; simp [pure2] at hp
          · cases hc
        · cases hc
theorem run_enterV {f : FuncId} {fs cs : Array Value} {x : Operand} {args : Array Operand} {ts : Array TypeId} {fn : Func} (hfn : P.funcs[f]? = some fn) (hb : fn.body.isSome = true ∧ (fn.name == "runtime.NumGoroutine") = false) (hx : a.eval x = .func (.func f) fs cs) (dst : Option Tmp) (type : TypeId) (pos : String) (after : Array Edge) (guard : Option (Nat × Bool)) (w : World) :
    (execOp a.eval ⟨dst, .call ⟨.value x, args, ts⟩, type, pos, after, guard⟩).run P w = .ok (.enter f (fs ++ args.map a.eval ++ cs)) w := by
  have hbn : fn.body.isNone = false := by
    cases hq : fn.body with
    | none => rw [hq] at hb; simp at hb
    | some _ => rfl
  have hnm := hb.2
  simp [execOp, resolve, hx, Deferred.ofValue, invoke, callFunc, hfn, hbn, program, Sem.run] at hnm ⊢
  simp [hnm]
  intro hbb
  rw [hbb] at hb
  simp at hb
set_option maxHeartbeats 1000000 in
theorem step2_sound {call : CallF} (hcall : CallsOk P call) {ms : List Nat} {o : Oper} {o2 : AOp2} {st' : St} (hc : comp2 P ms o.op = some o2) (hd : ∀ k, o.dst = some k → k < N) (h : SR X w0 N st a w H) (hs : stepOp2 call st o.dst o2 = some st')
    {K : Act → World → Prop} {Q : Exit → Act → World → Prop} (hK : ∀ a' w' H', SR X w0 N st' a' w' H' → K a' w') : o.wp P a w K Q := by
  have E : ∀ x, Rep (Stab X H w) w H (a.eval x) (evA st.fr x) := rep_ev h.frm
  have pure : (pure2 st.m st.fr o2).map (fun v => (⟨putf o.dst v st.fr, st.m⟩ : St)) = some st' → o.wp P a w K Q := by
    intro hp
    simp only [Option.map_eq_some_iff] at hp
    obtain ⟨av, hav, rfl⟩ := hp
    obtain ⟨v, h1, h2⟩ := pure2_sound h.mem h.frm hc hav
    exact wp_value (h1 w (Ext.refl w)) (hK _ _ _ (h.pure hd h2))
  have hc0 := hc
  obtain ⟨dst, op, type, pos, after, guard⟩ := o
  simp only at hc hd hs pure
  have enter : ∀ {f : FuncId} {vs : Array Value} {avs : List AV} {r : AV} {m' : List MObj}, RepL (Stab X H w) w H vs avs → call.m f avs st.m = some (r, m') → (∃ fn, P.funcs[f]? = some fn ∧ fn.body.isSome = true ∧ (fn.name == "runtime.NumGoroutine") = false → (execOp a.eval ⟨dst, op, type, pos, after, guard⟩).run P w = .ok (.enter f vs) w) → True := fun _ _ _ => trivial
  have callOn : ∀ {f : FuncId} {vs : Array Value} {avs : List AV} {r : AV} {m' : List MObj}, RepL (Stab X H w) w H vs avs → call.m f avs st.m = some (r, m') → st' = ⟨putf dst r st.fr, m'⟩ → (∀ fn, P.funcs[f]? = some fn → fn.body.isSome = true ∧ (fn.name == "runtime.NumGoroutine") = false → (execOp a.eval ⟨dst, op, type, pos, after, guard⟩).run P w = .ok (.enter f vs) w) →
      (⟨dst, op, type, pos, after, guard⟩ : Oper).wp P a w K Q := by
    intro f vs avs r m' hv hr hst hrun
    subst hst
    have hok := hcall.2 f avs st.m r m' hr
    obtain ⟨fn, g1, g2, g3⟩ := hok.1
    have hcl := e_callM (d := dst) h hd hv hok
    unfold Oper.wp
    rw [hrun fn g1 ⟨g2, g3⟩]
    simp only [Oper.upon]
    exact hcl.mono fun e w' ⟨v, H', he, hsr⟩ => by subst he; exact hK _ _ _ hsr
  cases op <;> simp only [comp2, reduceCtorEq] at hc
  case binOp op t x y yt =>
    have : ∀ {ne : Bool}, eqOp P ne t x y = some o2 → stepOp2 call st dst o2 = (pure2 st.m st.fr o2).map (fun v => (⟨putf dst v st.fr, st.m⟩ : St)) := by
      intro ne hq
      unfold eqOp at hq
      split at hq
      · injection hq with hq; subst hq; rfl
      · split at hq
        · split at hq
          · cases hq
          · simp only [Option.map_eq_some_iff] at hq; obtain ⟨_, _, rfl⟩ := hq; rfl
        · split at hq
          · injection hq with hq; subst hq; rfl
          · cases hq
    cases op <;> simp only [comp2, reduceCtorEq] at hc
    · exact pure (by rw [← this hc]; exact hs)
    · exact pure (by rw [← this hc]; exact hs)
  case nilCheck x => injection hc with hc; subst hc; exact pure hs
  case assign x =>
    split at hc
    · rename_i t
      split at hc
      · injection hc with hc; subst hc
        simp only [stepOp2] at hs
        split at hs
        · rename_i e1
          injection hs with hs; subst hs
          have hx := E (.tmp t)
          rw [e1] at hx
          have hxv := rep_val hx
          exact wp_value (w' := w) (v := .slice none 0 0) (by simp [execOp, hxv]) (hK _ _ _ (e_nilrow 1 h hd))
        · injection hs with hs; subst hs
          exact wp_value (w' := w) (v := a.eval (.tmp t)) (by simp [execOp]) (hK _ _ _ (h.pure hd (E _)))
      · cases hc
    · cases hc
  case slice t x lo hi mx =>
    split at hc
    · rename_i o ho
      injection hc with hc; subst hc
      obtain ⟨n, e, rfl, rfl, rfl, ht, hz, hn, rfl⟩ := arrC_some ho
      exact pure hs
    · split at hc
      · rename_i o ho
        injection hc with hc; subst hc
        obtain ⟨y, e, sz, rfl, rfl, rfl, ht, hz, rfl⟩ := trC_some ho
        simp only [stepOp2] at hs
        split at hs
        · rename_i k e1 e2
          split at hs
          · rename_i hk
            injection hs with hs; subst hs
            have hx := E x
            rw [e1] at hx
            have hxv := rep_val hx
            obtain ⟨ki, hki⟩ := toN_some e2
            have hy := E y
            rw [hki] at hy
            have hyv := rep_val hy
            subst hk
            exact wp_value (w' := w) (v := .slice none 0 0) (by simp [execOp, hxv, hyv, Instr.sliceAt, Instr.slice, run_underlying ht, Instr.sliceBounds, Instr.sliceBound, asIntOf, run_szOf hz]) (hK _ _ _ (h.pure hd (.val _ _)))
          · cases hs
        · rename_i id ver used off len k e1 e2
          split at hs
          · rename_i v s l ap hobj
            split at hs
            · rename_i hcc
              injection hs with hs; subst hs
              have hx := E x
              rw [e1] at hx
              obtain ⟨ki, hki⟩ := toN_some e2
              have hy := E y
              rw [hki] at hy
              have hyv := rep_val hy
              obtain ⟨v', H', h1, h2⟩ := e_trunc (ki := ki) ht hz h hd hx hobj hcc.1 hcc.2.1 hcc.2.2.1 hcc.2.2.2
              exact wp_value (w' := w) (v := v') (by simp [execOp, hyv, h1]) (hK _ _ _ h2)
            · cases hs
          · cases hs
        · cases hs
      · obtain ⟨y, z, e, sz, rfl, rfl, rfl, ht, hz, rfl⟩ := slc3C_some hc
        exact pure hs
  case range t x =>
    split at hc
    · rename_i ht
      injection hc with hc; subst hc
      simp only [stepOp2] at hs
      split at hs
      · rename_i s e1
        injection hs with hs; subst hs
        have hx := E x
        rw [e1] at hx
        have := rep_val hx
        obtain ⟨H', hsr⟩ := e_rng h hd s
        exact wp_value (v := .pointer (some ⟨w.heap.size, 0, none⟩)) (w' := w.alloc (.stringIter s 0)) (by simp [execOp, Instr.range, this, run_underlying ht, run_newObj_it]) (hK _ _ _ hsr)
      · cases hs
    · cases hc
  case next x b =>
    cases b <;> simp only [reduceCtorEq] at hc
    injection hc with hc; subst hc
    simp only [stepOp2] at hs
    split at hs
    · rename_i id e1
      have hx := E x
      rw [e1] at hx
      split at hs
      · rename_i s pos hobj
        split at hs
        · rename_i hp
          injection hs with hs; subst hs
          obtain ⟨v', w', H', h1, h2⟩ := e_nxt (P := P) (ty := type) h hd hx hobj hp
          exact wp_value (w' := w') (v := v') (by simp [execOp, h1]) (hK _ _ _ h2)
        · rename_i hp
          injection hs with hs; subst hs
          obtain ⟨v', h1, h2⟩ := e_nxt0 (P := P) (ty := type) h hd hx hobj hp
          exact wp_value (w' := w) (v := v') (by simp [execOp, h1]) (hK _ _ _ h2)
      · cases hs
    · cases hs
  case makeInterface t x =>
    split at hc
    · cases hc
    · injection hc with hc; subst hc; exact pure hs
    · cases hc
  case box t x =>
    split at hc
    · rename_i n hn
      split at hc
      · injection hc with hc; subst hc
        simp only [stepOp2, Option.map_eq_some_iff] at hs
        obtain ⟨v0, hv0, rfl⟩ := hs
        unfold bxfV at hv0
        split at hv0
        · rename_i hcs
          injection hv0 with hv0; subst hv0
          obtain ⟨⟨g1, g2⟩, g3⟩ := rep_cells (E x) (List.all_eq_true.2 fun y hy => gr_isCell (List.all_eq_true.1 hcs.2 y hy))
          refine wp_value (v := .pointer (some ⟨w.heap.size, 0, none⟩)) (w' := w.alloc (.cells (a.eval x).cells t)) (by simp [execOp, Instr.box, newVar, newRow]) (hK _ _ H ?_)
          have hfr : Fr (fun _ => False) w (w.alloc (.cells (a.eval x).cells t)) := (Fr.refl _ _).alloc _
          have hext : Ext w (w.alloc (.cells (a.eval x).cells t)) := ext_alloc w _
          have hsr : SR X w0 N st a (w.alloc (.cells (a.eval x).cells t)) H := ⟨h.dfr, h.siz, (goes_ext hext hfr.size).fok h.frm, h.mem.ext hext hfr.size, h.grw.trans hfr fun _ q => q.elim, h.new, h.old, h.since.trans (goes_ext hext hfr.size)⟩
          refine hsr.pure hd (.rptr w.heap.size 0 (fun j => (a.eval x).cells.getD j undef) (fun j y hy => List.all_eq_true.1 hcs.2 y (List.mem_of_getElem? hy)) (fun j y hy => ⟨?_, ?_, ?_, ?_⟩) fun j y hy => ((goes_ext hext hfr.size).rep (g2 j y hy)).gr (List.all_eq_true.1 hcs.2 y (List.mem_of_getElem? hy)) [])
          · have hj : j < (a.eval x).cells.size := by rw [g1]; exact (List.getElem?_eq_some_iff.1 hy).1
            simp only [World.cell?]
            rw [heap_alloc_new]
            simp [hj]
          · simp
          · intro hx
            have := h.old _ _ hx
            have := h.size
            omega
          · rintro ⟨i, k, hk, hm⟩
            have := h.mem.lt i k _ hk (Hd.mut_blk hm)
            omega
        · cases hv0
      · injection hc with hc; subst hc
        simp only [stepOp2] at hs
        split at hs
        · rename_i hcs
          injection hs with hs; subst hs
          obtain ⟨⟨g1, g2⟩, g3⟩ := rep_cells (E x) hcs.2.1
          refine wp_value (v := .pointer (some ⟨w.heap.size, 0, none⟩)) (w' := w.alloc (.cells (a.eval x).cells t)) (by simp [execOp, Instr.box, newVar, newRow]) (hK _ _ (H ++ [.box w.heap.size (a.eval x).cells.size]) ?_)
          refine h.newObj hd (ext_alloc w _) (by simp) ((Fr.refl _ _).alloc _) (fun b hb => by simp [Hd.blk] at hb; subst hb; simp) ?_ ?_
          · refine ⟨g1, (a.eval x).cells, heap_alloc_new w _, g1, fun i y hy => (goes_new (h := .box w.heap.size (a.eval x).cells.size) (ext_alloc w _) (by simp) (fun b hb => by simp [Hd.blk] at hb; omega)).rep (g2 i y hy), fun e => absurd e hcs.2.2⟩
          · rw [← h.mem.len]
            exact .ptr _ 0 (snoc_last _ _)
        · cases hs
    · cases hc
  case alloc t =>
    split at hc
    · split at hc
      · cases hc
      · rename_i z hz hne
        injection hc with hc; subst hc
        simp only [stepOp2] at hs
        split at hs
        case h_2 => cases hs
        rename_i zs hzs
        rcases hnr : nilRows st.m.length _ zs with ⟨cs, os⟩
        rw [hnr] at hs
        simp only at hs
        split at hs
        · rename_i hcell
          injection hs with hs; subst hs
          obtain ⟨hzr, hzb⟩ := bCells_ok (S := Stab X H w) (w := w) (H := H) hzs
          obtain ⟨H1, g1, g2, g3, g4⟩ := nilRows_sound _ zs st.m H z.cells h hzr
          rw [hnr] at g1 g2 g4
          refine wp_value (v := .pointer (some ⟨w.heap.size, 0, none⟩)) (w' := w.alloc (.cells z.cells t)) (by simp [execOp, Instr.alloc, run_zeOf hz, newVar, newRow]) (hK _ _ (H1 ++ [.box w.heap.size z.cells.size]) ?_)
          have := g1.newObj (o := .box t cs) (h := .box w.heap.size z.cells.size) (v := .pointer (some ⟨w.heap.size, 0, none⟩)) (av := .ptr (st.m.length + os.length) 0) (d := dst) (w' := w.alloc (.cells z.cells t)) hd (ext_alloc w _) (by simp) ((Fr.refl _ _).alloc _) (fun b hb => by simp [Hd.blk] at hb; subst hb; simp) ?_ ?_
          · exact this
          · exact ⟨g2.1, z.cells, heap_alloc_new w _, g2.1, fun i y hy => (goes_new (h := .box w.heap.size z.cells.size) (ext_alloc w _) (by simp) (fun b hb => by simp [Hd.blk] at hb; omega)).rep (g2.2 i y hy), fun e => .inl (hzb e)⟩
          · have e : st.m.length + os.length = H1.length := by have := g1.mem.len; simp at this; omega
            rw [e]
            exact .ptr _ 0 (snoc_last _ _)
        · cases hs
      · cases hc
    · cases hc
  case store t x y =>
    split at hc
    · split at hc
      · cases hc
      · rename_i n hn hne
        have hc : o2 = .storeR (n + 1) (sliceOffsA P 4 t) x y := by
          split at hc <;> first | (injection hc with hc; exact hc.symm) | cases hc
        subst hc
        simp only [stepOp2] at hs
        rcases hnr : nilRows st.m.length (sliceOffsA P 4 t) (evA st.fr y).cells with ⟨cs, os⟩
        rw [hnr] at hs
        simp only at hs
        split at hs
        · rename_i hcs
          split at hs
          · rename_i id off hv
            split at hs
            · rename_i l hobj
              split at hs
              · rename_i hle
                injection hs with hs; subst hs
                have hy0 := E y
                have hx := E x
                rw [hv] at hx
                have hcl : RepL (Stab X H w) w H (a.eval y).cells (evA st.fr y).cells ∧ ((∃ l cc, evA st.fr y = .agg l ∧ a.eval y = .agg cc) ∨ ((evA st.fr y).cells = [evA st.fr y] ∧ (a.eval y).cells = #[a.eval y])) := by
                  by_cases ha : ∃ l, evA st.fr y = .agg l
                  · obtain ⟨l, e⟩ := ha
                    rw [e] at hy0 ⊢
                    obtain ⟨cc, e2, h1, h2⟩ := rep_agg hy0
                    rw [e2]
                    exact ⟨⟨h1, h2⟩, .inl ⟨l, cc, rfl, rfl⟩⟩
                  · have hcell : (evA st.fr y).isCell = true := by
                      have := hcs.1
                      unfold AV.storable at this
                      split at this
                      · rename_i l e; exact absurd ⟨l, e⟩ ha
                      · exact this
                    obtain ⟨p1, p2, p3⟩ := rep_one hy0 hcell
                    refine ⟨?_, .inr ⟨p3, p2⟩⟩
                    rw [p2, p3]
                    exact ⟨rfl, fun i z hz => by
                      match i, hz with
                      | 0, hz => cases hz; exact hy0⟩
                obtain ⟨H1, g1, g2, g3, g4⟩ := nilRows_sound (sliceOffsA P 4 t) (evA st.fr y).cells st.m H (a.eval y).cells h hcl.1
                rw [hnr] at g1 g2 g4
                have hrep : ∃ av, Rep (Stab X H1 w) w H1 (a.eval y) av ∧ av.cells = cs := by
                  rcases hcl.2 with ⟨l0, cc, e, e2⟩ | ⟨e, e2⟩
                  · rw [e2] at g2 ⊢
                    exact ⟨.agg cs, .agg g2.1 g2.2, rfl⟩
                  · rw [e] at g4
                    simp at g4
                    rw [e2] at g2
                    match cs, g4, g2, hcs with
                    | [z], _, g2, hcs =>
                      have hz := g2.2 0 z rfl
                      have hzc : z.isCell = true := by simpa using hcs.2.2
                      exact ⟨z, by simpa using hz, by cases z <;> first | rfl | simp [AV.isCell] at hzc⟩
                obtain ⟨av, hav, hac⟩ := hrep
                have hlen : av.cells.length = n + 1 := by rw [hac]; exact hcs.2.1
                obtain ⟨w', H', h1, h2⟩ := e_storeP (d := dst) hn g1 hd (g3.rep hx) hav hlen (by rw [hac]; exact hcs.2.2) hobj hle.1 hle.2
                rw [hac] at h2
                exact wp_skipv (w' := w') (by simp [execOp, h1]) (hK _ _ _ h2)
              · cases hs
            · cases hs
          · cases hs
        · cases hs
      · cases hc
    · cases hc
  case makeFunc fn first caps =>
    cases fn <;> simp only [comp2, reduceCtorEq] at hc
    injection hc with hc; subst hc; exact pure hs
  case makeMap t r =>
    cases r with
    | none =>
      simp only [comp2] at hc
      split at hc
      · injection hc with hc; subst hc
        simp only [stepOp2, Option.some.injEq] at hs
        subst hs
        obtain ⟨H', hsr⟩ := e_mkmap h hd
        exact wp_value (w' := w.alloc (.map #[] 0)) (by simp [execOp, Instr.makeMap]) (hK _ _ _ hsr)
      · cases hc
    | some r =>
      cases r <;> try (simp [comp2] at hc; done)
      rename_i v
      cases v <;> try (simp [comp2] at hc; done)
      simp only [comp2] at hc
      split at hc
      · rename_i kt e ht
        injection hc with hc; subst hc
        simp only [stepOp2, Option.some.injEq] at hs
        subst hs
        obtain ⟨H', hsr⟩ := e_mkmap h hd
        exact wp_value (w' := w.alloc (.map #[] 0)) (by simp [execOp, Instr.makeMap, Act.eval, run_underlying ht, asInt, asIntOf]) (hK _ _ _ hsr)
      · cases hc
  case lookup t x k ok =>
    split at hc
    · split at hc
      · simp only [Option.map_eq_some_iff] at hc
        obtain ⟨z, hz, rfl⟩ := hc
        exact pure hs
      · cases hc
    · cases hc
  case mapUpdate t x k v =>
    split at hc
    · rename_i kt e ht
      split at hc
      · rename_i hk
        injection hc with hc; subst hc
        simp only [stepOp2] at hs
        split at hs
        · rename_i id s g e1 e2 e3
          split at hs
          · rename_i es hobj
            split at hs
            · rename_i hgr
              simp only [Option.map_eq_some_iff] at hs
              obtain ⟨es', hes, rfl⟩ := hs
              have hx := E x; have hk' := E k
              rw [e1] at hx; rw [e2] at hk'
              obtain ⟨w', H', h1, h2⟩ := e_mset ht (strOf hk) h hd hx (E v) e3 hgr hobj hes
              refine wp_skipv (w' := w') ?_ (hK _ _ _ h2)
              have := rep_val hk'
              simp [execOp, this, h1]
            · cases hs
          · cases hs
        · cases hs
      · cases hc
    · cases hc
  case call c =>
    obtain ⟨callee, args, ts⟩ := c
    cases callee with
    | invoke r n => simp [comp2] at hc
    | value f =>
      cases f <;> simp only [comp2, reduceCtorEq] at hc
      · rename_i t
        injection hc with hc; subst hc
        simp only [stepOp2] at hs
        split at hs
        · rename_i f first caps hf
          simp only [Option.map_eq_some_iff] at hs
          obtain ⟨⟨r, m'⟩, hr, rfl⟩ := hs
          have hx := E (.tmp t)
          unfold fnOf at hf
          split at hf
          · rename_i f' l k e
            injection hf with hf; injection hf with hf1 hf2; injection hf2 with hf2 hf3
            subst hf1 hf2 hf3
            rw [e] at hx
            generalize hv : a.eval (.tmp t) = v at hx
            cases hx with
            | fn hn hm h1 h2 => exact callOn (repL_app (repL_app ⟨hn, h1⟩ (repL_args h.frm args)) ⟨hm, h2⟩) hr rfl fun fn g1 g2 => run_enterV g1 g2 hv dst type pos after guard w
          · rename_i f' fa fb e
            split at hf
            · rename_i hz
              injection hf with hf; injection hf with hf1 hf2; injection hf2 with hf2 hf3
              subst hf1 hf2 hf3
              rw [e] at hx
              have hv := rep_val hx
              obtain rfl : fa = #[] := Array.eq_empty_of_size_eq_zero hz.1
              obtain rfl : fb = #[] := Array.eq_empty_of_size_eq_zero hz.2
              refine callOn (avs := [] ++ args.toList.map (evA st.fr) ++ []) (vs := #[] ++ args.map a.eval ++ #[]) ?_ hr rfl fun fn g1 g2 => run_enterV g1 g2 hv dst type pos after guard w
              simpa using repL_args h.frm args
            · cases hf
          · cases hf
        · cases hs
      · split at hc
        · injection hc with hc; subst hc
          simp only [stepOp2, Option.map_eq_some_iff] at hs
          obtain ⟨⟨r, m'⟩, hr, rfl⟩ := hs
          rename_i f _
          refine callOn (repL_args h.frm args) hr rfl fun fn g1 g2 => ?_
          have := run_enterV (a := a) (args := args) (ts := ts) (x := .func f) g1 g2 (fs := #[]) (cs := #[]) rfl dst type pos after guard w
          simpa using this
        · cases hc
    | builtin b =>
      cases b <;> simp only [comp2, reduceCtorEq] at hc
      case len =>
        split at hc
        · injection hc with hc; subst hc; exact pure hs
        · cases hc
      case append =>
        split at hc
        · rename_i x y t t' hargs hts
          have ea : args = #[x, y] := by rw [← Array.toList_inj]; simpa using hargs
          have et : ts = #[t, t'] := by rw [← Array.toList_inj]; simpa using hts
          subst ea et
          split at hc
          · rename_i e ht hu
            split at hc
            · rename_i z hsz hz hby
              split at hc
              · rename_i hzs
                injection hc with hc; subst hc
                simp only [stepOp2] at hs
                split at hs
                · rename_i s ey
                  have hy := rep_val (ey ▸ E y)
                  split at hs
                  · rename_i ex
                    have hx := rep_val (ex ▸ E x)
                    split at hs
                    · rename_i hcc
                      injection hs with hs; subst hs
                      obtain ⟨v', w', H', h1, h2⟩ := e_appNilS (apOf_ok P _) (ty := type) ht hu hsz hz hzs hby h hd hcc.1 hcc.2
                      exact wp_value (w' := w') (v := v') (by simp [execOp, resolve, invoke, builtin, hx, hy, h1]) (hK _ _ _ h2)
                    · cases hs
                  · rename_i id ver used off len ex
                    have hx := E x
                    rw [ex] at hx
                    split at hs
                    · rename_i v sz l wr ap hobj
                      split at hs
                      · rename_i hcc
                        obtain ⟨c1, c2, c3, c4, c5, c6, c7, c8⟩ := hcc
                        injection hs with hs; subst hs
                        subst c3 c4
                        obtain ⟨v', w', H', h1, h2⟩ := e_appRowS c6 (apOf_ok P _) (ty := type) (s := s) ht hu hsz hz hzs hby h hd hx hobj c1 c2 c5 c7 c8
                        exact wp_value (w' := w') (v := v') (by simp [execOp, resolve, invoke, builtin, hy, h1]) (hK _ _ _ h2)
                      · cases hs
                    · cases hs
                  · cases hs
                · cases hs
              · cases hc
            · cases hc
          · rename_i e ht hu
            split at hc
            · rename_i hsz hz hby
              injection hc with hc; subst hc
              simp only [stepOp2] at hs
              split at hs
              · rename_i k ex ey
                have hx := rep_val (ex ▸ E x)
                have hy := rep_val (ey ▸ E y)
                split at hs
                · rename_i hcc
                  injection hs with hs; subst hs
                  obtain ⟨v', w', H', h1, h2⟩ := e_appN (apOf_ok P _) (ty := type) ht hu hsz hz hby h hd hcc.1 hcc.2
                  exact wp_value (w' := w') (v := v') (by simp [execOp, resolve, invoke, builtin, hx, hy, h1]) (hK _ _ _ h2)
                · cases hs
              · cases hs
            · cases hc
          · cases hc
        · cases hc
      case cap =>
        split at hc
        · injection hc with hc; subst hc
          exact pure hs
        · cases hc
      case copy =>
        split at hc
        · rename_i x y e hargs hts
          simp only [Option.bind_eq_some_iff] at hts
          obtain ⟨t, ht0, ht⟩ := hts
          have ea : args = #[x, y] := by rw [← Array.toList_inj]; simpa using hargs
          subst ea
          split at hc
          · split at hc
            · rename_i hz
              injection hc with hc; subst hc
              simp only [stepOp2] at hs
              split at hs
              · rename_i id off len s e1 e2
                split at hs
                · rename_i bt l hobj
                  split at hs
                  · rename_i hcc
                    injection hs with hs; subst hs
                    have hx := E x
                    have hy := E y
                    rw [e1] at hx
                    rw [e2] at hy
                    have hyv := rep_val hy
                    obtain ⟨v', w', H', h1, h2⟩ := e_cpyA (ty := type) (s := s) ht0 ht hz h hd hx hobj hcc.1 hcc.2
                    exact wp_value (w' := w') (v := v') (by simp [execOp, resolve, invoke, builtin, hyv, h1]) (hK _ _ _ h2)
                  · cases hs
                · cases hs
              · cases hs
            · cases hc
          · split at hc
            · rename_i n hn
              injection hc with hc; subst hc
              simp only [stepOp2] at hs
              split at hs
              · rename_i id ver used off len ly e1 e2
                split at hs
                · rename_i v s l ap hobj
                  split at hs
                  · rename_i hcc
                    injection hs with hs; subst hs
                    have hx := E x
                    rw [e1] at hx
                    obtain ⟨v', w', H', h1, h2⟩ := e_cpy (ty := type) ht0 ht hn (by omega) h hd hx (E y) e2 hobj hcc.1 hcc.2.1 hcc.2.2
                    exact wp_value (w' := w') (v := v') (by simp [execOp, resolve, invoke, builtin, h1]) (hK _ _ _ h2)
                  · cases hs
                · cases hs
              · cases hs
            · cases hc
        · cases hc
      case delete =>
        split at hc
        · rename_i x k kt e hargs hts
          simp only [Option.bind_eq_some_iff] at hts
          obtain ⟨t, ht0, ht⟩ := hts
          have ea : args = #[x, k] := by rw [← Array.toList_inj]; simpa using hargs
          subst ea
          split at hc
          · rename_i hk
            injection hc with hc; subst hc
            simp only [stepOp2] at hs
            split at hs
            · rename_i id s e1 e2
              split at hs
              · rename_i es hobj
                simp only [Option.map_eq_some_iff] at hs
                obtain ⟨es', hes, rfl⟩ := hs
                have hx := E x; have hk' := E k
                rw [e1] at hx; rw [e2] at hk'
                obtain ⟨v', w', H', h1, h2⟩ := e_mdel (ty := type) ht ht0 (strOf hk) h hd hx hobj hes
                have := rep_val hk'
                exact wp_value (w' := w') (v := v') (by simp [execOp, resolve, invoke, builtin, this, h1]) (hK _ _ _ h2)
              · cases hs
            · cases hs
          · cases hc
        · cases hc
theorem step_any {call : CallF} (hcall : CallsOk P call) {ms : List Nat} {hint : Bool} {o : Oper} {ao : AOp} {st' : St} (hc : compAny P ms hint o.type o.op = ao) (hd : ∀ k, o.dst = some k → k < N) (h : SR X w0 N st a w H) (hs : stepOp call st o.dst ao = some st')
    {K : Act → World → Prop} {Q : Exit → Act → World → Prop} (hK : ∀ a' w' H', SR X w0 N st' a' w' H' → K a' w') : o.wp P a w K Q := by
  rcases any_cases hc with ⟨o2, h2, rfl⟩ | h1 | rfl
  · exact step2_sound hcall h2 hd h hs hK
  · exact step_sound hcall h1 hd h hs hK
  · simp [stepOp, stepOp2, pure2] at hs
end
end Go.Proofs.YtienfdjfochlcaaGreatDoor
end
section
namespace Go.Proofs.YtienfdjfochlcaaGreatDoor
set_option linter.unusedVariables false
set_option linter.unusedSimpArgs false
structure Hints where
 ms : List Nat
 rows : List Nat
 drops : List (Nat × List Nat)
 keeps : List (Nat × List Nat)
 joins : List (Nat × List Nat)
 bjoins : List (Nat × List Nat)
 sjoins : List (Nat × List Nat)
 rjoins : List (Nat × List Nat)
 tails : List (Nat × Nat)
 mixs : List (Nat × List Nat)
def assocL (l : List (Nat × List Nat)) (k : Nat) : List Nat := match l with
 | [] => []
 | (i, v) :: r => if i = k then v else assocL r k
def assocN (l : List (Nat × Nat)) (k : Nat) : Option Nat := match l with
 | [] => none
 | (i, v) :: r => if i = k then some v else assocN r k
def dstOk (N : Nat) : Option Nat → Bool
 | some d => decide (d < N)
 | none => true
def compOper (P : Program) (hn : Hints) (N : Nat) (ops : Array Oper) (o : Oper) : Option AOper :=
 if dstOk N o.dst then
  match o.guard with
   | none => some ⟨o.dst, compAny P hn.ms (match o.dst with | some d => hn.rows.contains d | none => false) o.type o.op, none⟩
   | some (j, b) => match (ops[j]?).bind (·.dst) with
    | some s => some ⟨o.dst, compAny P hn.ms (match o.dst with | some d => hn.rows.contains d | none => false) o.type o.op, some (s, b)⟩
    | none => none
 else none
def compOps (P : Program) (hint : Hints) (N : Nat) (ops : Array Oper) : List Oper → Option (List AOper)
 | [] => some []
 | o :: r => match compOper P hint N ops o, compOps P hint N ops r with
  | some a, some l => some (a :: l)
  | _, _ => none
def AOp.isCall : AOp → Bool
 | .call .. => true
 | _ => false
def assocO (l : List (Nat × List Nat)) (k : Nat) : Option (List Nat) := match l with
 | [] => none
 | (i, v) :: r => if i = k then some v else assocO r k
def withJoin (o : Option (List Nat)) (c : ACode) : ACode := match o with
 | some k => .join c k
 | none => c
def firstR : Code → Option Nat
 | .region id _ _ => some id
 | .seq a b => (firstR a).orElse fun _ => firstR b
 | .block _ c => firstR c
 | .loop c => firstR c
 | .scope c => firstR c
 | .cond _ a b => (firstR a).orElse fun _ => firstR b
 | _ => none
def firstId : Code → Nat
 | .region id _ _ => id
 | .seq a _ => firstId a
 | .block _ c => firstId c
 | .loop c => firstId c
 | .cond _ a _ => firstId a
 | _ => 0
def compCode (P : Program) (hn : Hints) (N : Nat) : Code → Option ACode
  | .skip => some .skip
  | .label _ => some .skip
  | .region id ops draw => match compOps P hn N ops ops.toList with
    | some l => if draw then
        (match assocO hn.mixs id with
        | some cs => if mixB .any ops l cs && P.follows .mixedOrders then some (withJoin (assocO hn.rjoins id) (.cregion (maskL cs 0 l) (cs.map fun i => l.getD i noopA) (assocL hn.drops id))) else none
        | none => let n := (assocN hn.tails id).getD ops.size
        if xB .any ops (l.take n) n && P.follows .mixedOrders then some (withJoin (assocO hn.rjoins id) (.dregion (l.take n) (l.drop n) (assocL hn.drops id))) else none)
      else some (withJoin (assocO hn.rjoins id) (.region l (assocL hn.drops id)))
    | none => none
  | .seq a b => match compCode P hn N a, compCode P hn N b with
    | some x, some y => some (withJoin (match b with | .cond .. => (firstR a).bind (assocO hn.sjoins) | _ => none) (.seq x y))
    | _, _ => none
  | .cond c a b => match compCode P hn N a, compCode P hn N b with
    | some x, some y => some (withJoin (((firstR a).orElse fun _ => firstR b).bind (assocO hn.joins)) (.cond c x y))
    | _, _ => none
  | .block id c => (compCode P hn N c).map fun x => withJoin (assocO hn.bjoins id) (.block id x)
  | .scope c => compCode P hn N c
  | .loop c => (compCode P hn N c).map fun x => .loop x (assocL hn.keeps (firstId c))
  | .exit id => some (.exit id)
  | .ret => some .ret
  | _ => none
def compRes (P : Program) (ty0 : Option TypeId) : ResultVar → Option ARes
 | .tmp t => some (.tmp t (match ty0 with | some ty => sliceOffs P 4 ty | none => []))
 | .cell t ty => match szOf P ty, agOf P ty with
  | some (n + 1), some ag => some (.cell t (n + 1) ag (sliceOffs P 4 ty))
  | _, _ => none
def compResL (P : Program) : List ResultVar → List TypeId → Option (List ARes)
 | [], _ => some []
 | x :: r, ts => match compRes P ts.head? x, compResL P r ts.tail with | some a, some l => some (a :: l) | _, _ => none
def compFunc (P : Program) (hn : Hints) (f : FuncId) : Option AFunc :=
 match P.funcs[f]? with
 | some fn => match fn.body with
  | some c => match compCode P hn fn.ntmps c, compResL P fn.results.toList fn.resultTypes.toList with
   | some ac, some rs => if fn.params.size + fn.nfree ≤ fn.ntmps ∧ (fn.name == "runtime.NumGoroutine") = false then some ⟨fn.params.size + fn.nfree, fn.ntmps, rs, ac, hn.ms.contains 2000000⟩ else none
   | _, _ => none
  | none => none
 | none => none
section
variable {P : Program} {X : Nat → Nat → Prop} {w0 : Base} {w w' : World} {N : Nat} {st : St} {a : Act} {m : List MObj} {H : List Hd} {d : Option Nat}
theorem compOper_some {hint : Hints} {ops : Array Oper} {o : Oper} {ao : AOper} (h : compOper P hint N ops o = some ao) :
    (∀ k, o.dst = some k → k < N) ∧ ao.dst = o.dst ∧ (∃ b, compAny P hint.ms b o.type o.op = ao.op) ∧ ((o.guard = none ∧ ao.guard = none) ∨ ∃ j b s, o.guard = some (j, b) ∧ (ops[j]?).bind (·.dst) = some s ∧ ao.guard = some (s, b)) := by
  unfold compOper at h
  split at h
  · rename_i hd
    have hd' : ∀ k, o.dst = some k → k < N := fun k hk => by rw [hk] at hd; simpa [dstOk] using hd
    split at h
    · rename_i hg
      injection h with h; subst h
      exact ⟨hd', rfl, ⟨_, rfl⟩, .inl ⟨hg, rfl⟩⟩
    · rename_i j b hg
      split at h
      · rename_i s hs
        injection h with h; subst h
        exact ⟨hd', rfl, ⟨_, rfl⟩, .inr ⟨j, b, s, hg, hs, rfl⟩⟩
      · cases h
  · cases h
theorem wanted_sound {ops : Array Oper} {o : Oper} {ao : AOper} {c : Bool} (hg : (o.guard = none ∧ ao.guard = none) ∨ ∃ j b s, o.guard = some (j, b) ∧ (ops[j]?).bind (·.dst) = some s ∧ ao.guard = some (s, b)) {S : Nat → Nat → Prop} {fr : List (Nat × AV)}
    (hr : ∀ s, Rep S w H (a.tmps.getD s undef) (look fr s)) (h : wantedA fr ao.guard = some c) : Region.wanted o (yielded ops a.tmps) = c := by
  rcases hg with ⟨h1, h2⟩ | ⟨j, b, s, h1, h2, h3⟩
  · rw [h2] at h
    simp only [wantedA, Option.some.injEq] at h
    subst h
    simp [Region.wanted, h1]
  · rw [h3] at h
    simp only [wantedA] at h
    split at h
    · rename_i t ht
      injection h with h; subst h
      have := hr s
      rw [ht] at this
      have e := rep_val this
      have hsome : a.tmps[s]? = some (.bool t) := by
        rw [Array.getD_eq_getD_getElem?] at e
        rcases hq : a.tmps[s]? with _ | u
        · rw [hq] at e; simp [undef] at e
        · rw [hq] at e; simp at e; rw [e]
      simp only [Region.wanted, h1, yielded, h2, Option.bind_some, hsome]
      cases t <;> cases b <;> rfl
    · rename_i l ht
      injection h with h; subst h
      have := hr s
      rw [ht] at this
      have e := rep_val this
      simp only [Region.wanted, h1, yielded, h2, Option.bind_some]
      rw [Array.getD_eq_getD_getElem?] at e
      rcases hq : a.tmps[s]? with _ | u
      · rfl
      · rw [hq] at e; simp at e; subst e; rfl
    · cases h
theorem runOps_sound {call : CallF} (hcall : CallsOk P call) {hint : Hints} {ops : Array Oper} {Q : Exit → Act → World → Prop} :
    ∀ (l : List Oper) (al : List AOper) (st st' : St) (a : Act) (w : World) (H : List Hd), compOps P hint N ops l = some al → runOps call al st = some st' → SR X w0 N st a w H → (∀ a' w' H', SR X w0 N st' a' w' H' → Q .normal a' w') → wpList P ops Q l a w
  | [], al, st, st', a, w, H, hc, hr, hs, hQ => by
    simp [compOps] at hc; subst hc
    simp [runOps] at hr; subst hr
    exact hQ _ _ _ hs
  | o :: r, al, st, st', a, w, H, hc, hr, hs, hQ => by
    simp only [compOps] at hc
    split at hc
    · rename_i ao al' ho hl
      injection hc with hc; subst hc
      obtain ⟨h1, h2, ⟨b, h3⟩, h4⟩ := compOper_some ho
      simp only [runOps] at hr
      unfold wpList
      split at hr
      · rename_i hw
        rw [wanted_sound h4 hs.frm hw, if_pos rfl]
        split at hr
        · rename_i st1 hst
          rw [h2] at hst
          exact .inl (step_any hcall h3 h1 hs hst fun a' w' H' hsr => runOps_sound hcall r al' st1 st' a' w' H' hl hr hsr hQ)
        · cases hr
      · rename_i hw
        rw [wanted_sound h4 hs.frm hw, if_neg (by simp)]
        rw [h2] at hr
        exact runOps_sound hcall r al' _ st' _ w H hl hr (hs.pure h1 (.val _ _)) hQ
      · cases hr
    · cases hc
theorem SR.ext (h : SR X w0 N st a w H) (hf : Fr (fun _ => False) w w') : SR X w0 N st a w' H := by
 have hext : Ext w w' := fun k hk => hf.block k hk fun q => q
 exact ⟨h.dfr, h.siz, (goes_ext hext hf.size).fok h.frm, h.mem.ext hext hf.size, h.grw.trans hf fun _ q => q.elim, h.new, h.old, h.since.trans (goes_ext hext hf.size)⟩
end
end Go.Proofs.YtienfdjfochlcaaGreatDoor
end
section
namespace Go.Proofs.YtienfdjfochlcaaGreatDoor
set_option linter.unusedVariables false
set_option linter.unusedSimpArgs false
section
variable {P : Program} {X : Nat → Nat → Prop} {w0 : Base} {w w' : World} {N : Nat} {st : St} {a : Act} {m : List MObj} {H : List Hd} {d : Option Nat}
theorem compOps_split {hint : Hints} {ops : Array Oper} : ∀ (l : List Oper) (al : List AOper) (n : Nat), compOps P hint N ops l = some al → compOps P hint N ops (l.take n) = some (al.take n) ∧ compOps P hint N ops (l.drop n) = some (al.drop n)
 | [], al, n, h => by simp [compOps] at h; subst h; simp [compOps]
 | o :: r, al, n, h => by
  simp only [compOps] at h
  split at h
  ·rename_i ao al' ho hl
   injection h with h; subst h
   cases n with
   | zero => simp [compOps, ho, hl]
   | succ n =>
    obtain ⟨h1, h2⟩ := compOps_split r al' n hl
    simp [compOps, ho, h1, h2]
  ·cases h
theorem look_drop (ds : List Nat) (s : Nat) : ∀ fr : List (Nat × AV), look (dropF ds fr) s = if ds.contains s then .any else look fr s
 | [] => by simp [dropF, look]
 | (k, v) :: r => by
  simp only [dropF]
  split
  ·rename_i hk
   rw [look_drop ds s r]
   simp only [look]
   split
   ·rfl
   ·rename_i hs
    split
    ·rename_i hks; subst hks; exact absurd hk hs
    ·rfl
  ·rename_i hk
   simp only [look]
   split
   ·rename_i hks; subst hks; rw [if_neg hk]
   ·exact look_drop ds s r
theorem SR.drop (h : SR X w0 N st a w H) (ds : List Nat) : SR X w0 N ⟨dropF ds st.fr, st.m⟩ a w H :=
 ⟨h.dfr, h.siz, ⟨fun s => by
  rw [look_drop]
  split
  ·exact .any _ _
  ·exact h.frm.t s, h.frm.g⟩, h.mem, h.grw, h.new, h.old, h.since⟩
theorem look_keep (fr : List (Nat × AV)) (s : Nat) : ∀ ks : List Nat, look (keepF fr ks) s = if ks.contains s then look fr s else .any
 | [] => by simp [keepF, look]
 | k :: r => by
  simp only [keepF, look, List.contains_cons]
  by_cases hk : k = s
  ·subst hk; simp
  ·rw [if_neg hk, look_keep fr s r]
   have : (s == k) = false := by simp; exact fun e => hk e.symm
   rw [this, Bool.false_or]
theorem maxRef_le {n k : Nat} : ∀ {l : List AV}, maxRef n l ≤ k → ∀ y ∈ l, y.refCell n ≤ k
 | [], _, y, hy => by simp at hy
 | v :: r, h, y, hy => by
  simp only [maxRef] at h
  rcases List.mem_cons.1 hy with rfl | hy
  ·omega
  ·exact maxRef_le (by omega) y hy
theorem maxRefB_le {n k : Nat} : ∀ {l : List AV}, maxRefB n l ≤ k → ∀ y ∈ l, y.refB n ≤ k
 | [], _, y, hy => by cases hy
 | v :: r, h, y, hy => by
  have h : max (v.refB n) (maxRefB n r) ≤ k := h
  rcases List.mem_cons.1 hy with rfl | hy
  ·omega
  ·exact maxRefB_le (by omega) y hy
theorem rep_takeB {S : Nat → Nat → Prop} {v : Value} {y : AV} {k : Nat} (h : Rep S w H v y) (hk : y.refB H.length ≤ k) : Rep S w (H.take k) v y := by
 have get : ∀ {i : Nat} {x : Hd}, H[i]? = some x → i + 1 ≤ k → (H.take k)[i]? = some x := fun hi hle => by rw [List.getElem?_take, if_pos (by omega)]; exact hi
 have all : H.length ≤ k → H.take k = H := fun hle => List.take_of_length_le hle
 cases h with
 | any => exact .any _ _
 | val => exact .val _ _
 | agg hn hc => rw [all (by simpa [AV.refB] using hk)]; exact .agg hn hc
 | tuple hn hc => rw [all (by simpa [AV.refB] using hk)]; exact .tuple hn hc
 | slice b off sz u hc hz hA hsz hcell hrep => exact .slice b off sz u hc hz hA hsz hcell hrep
 | rptr b o u hg hcell hrep => exact .rptr b o u hg hcell hrep
 | row id ver used off len hs hH hle hv => exact .row id ver used off len hs (get hH (by simpa [AV.refB] using hk)) hle hv
 | ptr id off hH => exact .ptr id off (get hH (by simpa [AV.refB] using hk))
 | elt id ver used i fo hs hH hle hv => exact .elt id ver used i fo hs (get hH (by simpa [AV.refB] using hk)) hle hv
 | fn hn hm h1 h2 => rw [all (by simpa [AV.refB] using hk)]; exact .fn hn hm h1 h2
 | mp id hH => exact .mp id (get hH (by simpa [AV.refB] using hk))
 | nif => exact .nif _ _ _
 | bsl id off len hH => exact .bsl id off len (get hH (by simpa [AV.refB] using hk))
 | pel id off j hH ho => exact .pel id off j (get hH (by simpa [AV.refB] using hk)) ho
 | it id hH => exact .it id (get hH (by simpa [AV.refB] using hk))
theorem rep_takeCell {S : Nat → Nat → Prop} {v : Value} {y : AV} {k : Nat} (h : Rep S w H v y) (hk : y.refCell H.length ≤ k) : Rep S w (H.take k) v y := by
 cases y with
 | fn f a b =>
  have hk : max (maxRefB H.length a) (maxRefB H.length b) ≤ k := hk
  cases h with
  | fn hn hm h1 h2 => exact .fn hn hm (fun i y hy => rep_takeB (h1 i y hy) (maxRefB_le (by omega) y (List.mem_of_getElem? hy))) fun i y hy => rep_takeB (h2 i y hy) (maxRefB_le (by omega) y (List.mem_of_getElem? hy))
 | _ => exact rep_takeB h hk
theorem rep_take1 {S : Nat → Nat → Prop} {v : Value} {y : AV} {k : Nat} (h : Rep S w H v y) (hk : maxRef H.length y.cells ≤ k) : Rep S w (H.take k) v y := by
 by_cases ha : ∃ l, y = .agg l
 ·obtain ⟨l, rfl⟩ := ha
  obtain ⟨cs, rfl, hn, hc⟩ := rep_agg h
  exact .agg hn fun i z hz => rep_takeCell (hc i z hz) (maxRef_le hk z (List.mem_of_getElem? hz))
 ·have e : y.cells = [y] := by cases y <;> first | rfl | exact absurd ⟨_, rfl⟩ ha
  rw [e] at hk
  exact rep_takeCell h (maxRef_le hk y (by simp))
theorem rep_take {S : Nat → Nat → Prop} {v : Value} {y : AV} {k : Nat} (h : Rep S w H v y) (hk : y.ref H.length ≤ k) : Rep S w (H.take k) v y := by
 by_cases ha : ∃ l, y = .tuple l
 ·obtain ⟨l, rfl⟩ := ha
  obtain ⟨cs, rfl, hn, hc⟩ := rep_tuple h
  have hle : ∀ z ∈ l, maxRef H.length z.cells ≤ k := by
   have gen : ∀ (l : List AV), maxRef H.length (l.flatMap AV.cells) ≤ k → ∀ z ∈ l, maxRef H.length z.cells ≤ k := by
    have app : ∀ (x y : List AV), maxRef H.length (x ++ y) = max (maxRef H.length x) (maxRef H.length y) := by
     intro x y
     induction x with
     | nil => simp [maxRef]
     | cons u r ih => simp only [List.cons_append, maxRef, ih]; omega
    intro l
    induction l with
    | nil => intro _ z hz; simp at hz
    | cons u r ih =>
     intro hl z hz
     rw [List.flatMap_cons, app] at hl
     rcases List.mem_cons.1 hz with rfl | hz
     ·omega
     ·exact ih (by omega) z hz
   exact gen l hk
  exact .tuple hn fun i z hz => rep_take1 (hc i z hz) (hle z (List.mem_of_getElem? hz))
 ·refine rep_take1 h ?_
  cases y <;> first | exact absurd ⟨_, rfl⟩ ha | (simp only [AV.cells, maxRef]; simp only [AV.ref] at hk; omega)
theorem look_ref {n k s : Nat} : ∀ {fr : List (Nat × AV)}, frRef n fr ≤ k → (look fr s).ref n ≤ k
 | [], _ => by simp [look, AV.ref, AV.refCell, AV.refB]
 | (i, v) :: r, h => by
  simp only [frRef] at h
  simp only [look]
  split
  ·omega
  ·exact look_ref (by omega)
theorem mRef_le {n k : Nat} : ∀ {m : List MObj}, mRef n m ≤ k → ∀ o ∈ m, o.ref n ≤ k
 | [], _, o, ho => by simp at ho
 | x :: r, h, o, ho => by
  simp only [mRef] at h
  rcases List.mem_cons.1 ho with rfl | ho
  ·omega
  ·exact mRef_le (by omega) o ho
theorem SR.normS (h : SR X w0 N st a w H) {bs : Nat} (hb0 : w0.H.length ≤ bs) (ks : List Nat) : ∃ H', SR X w0 N (normS bs ks st) a w H' := by
 have h1 : SR X w0 N ⟨keepF st.fr ks, st.m⟩ a w H := ⟨h.dfr, h.siz, ⟨fun s => by
  rw [look_keep]
  split
  ·exact h.frm.t s
  ·exact .any _ _, h.frm.g⟩, h.mem, h.grw, h.new, h.old, h.since⟩
 unfold Go.Proofs.YtienfdjfochlcaaGreatDoor.normS
 simp only [gc]
 generalize hk : max bs (max (frRef st.m.length (keepF st.fr ks)) (mRef st.m.length st.m)) = k
 have hlen := h.mem.len
 have hfr : frRef st.m.length (keepF st.fr ks) ≤ k := by omega
 have hsub : ∀ b o, Mut (H.take k) b o → Mut H b o := fun b o ⟨i, x, hi, hmut⟩ => by
  rw [List.getElem?_take] at hi
  split at hi
  ·exact ⟨i, x, hi, hmut⟩
  ·cases hi
 have hst : ∀ b o, Stab X H w b o → Stab X (H.take k) w b o := fun b o ⟨q1, q2, q3⟩ => ⟨q1, q2, fun hm => q3 (hsub b o hm)⟩
 have get : ∀ {i : Nat} {x : Hd}, (H.take k)[i]? = some x → H[i]? = some x := fun hi => by
  rw [List.getElem?_take] at hi
  split at hi
  ·exact hi
  ·cases hi
 have getm : ∀ {i : Nat} {x : MObj}, (st.m.take k)[i]? = some x → st.m[i]? = some x := fun hi => by
  rw [List.getElem?_take] at hi
  split at hi
  ·exact hi
  ·cases hi
 have mono : ∀ {v y} {H0 : List Hd}, Rep (Stab X H w) w H0 v y → Rep (Stab X (H.take k) w) w H0 v y := fun hr => hr.mono (fun b o q => ⟨hst b o q, rfl⟩) (HLe.refl _)
 refine ⟨H.take k, h.dfr, h.siz, ⟨fun s => rep_take (mono (h1.frm.t s)) (by rw [hlen]; exact look_ref hfr), h1.frm.g.to hst⟩, ⟨by simp [hlen], fun i o x ho hx => ?_, fun i x b hx hb => h.mem.lt i x b (get hx) hb, fun i j x y b hx hy hb1 hb2 => h.mem.apart i j x y b (get hx) (get hy) hb1 hb2⟩, h.grw, fun i x b hx hb => h.new i x b (get hx) hb, h.old, ⟨fun i x hx => by
  obtain ⟨x', g1, g2⟩ := h.since.le i x hx
  refine ⟨x', ?_, g2⟩
  rw [List.getElem?_take, if_pos]
  ·exact g1
  ·have := (List.getElem?_eq_some_iff.1 hx).1; omega, fun b o q => ⟨hst b o (h.since.stab b o q).1, (h.since.stab b o q).2⟩⟩⟩
 have hO := h.mem.obj i o x (getm ho) (get hx)
 have href : o.ref st.m.length ≤ k := mRef_le (by omega) o (List.mem_of_getElem? (getm ho))
 cases o <;> cases x <;> simp only [ObjAt] at hO ⊢
 ·obtain ⟨e, cs, q1, q2, q3, q4⟩ := hO
  refine ⟨e, cs, q1, q2, fun j y hy => ?_, q4⟩
  simp only [MObj.ref] at href
  split at href
  ·have hall : H.take k = H := List.take_of_length_le (by omega)
   have := mono (q3 j y hy)
   rw [hall] at this ⊢
   exact this
  ·refine rep_takeCell (mono (q3 j y hy)) ?_
   rw [hlen]
   exact maxRef_le (l := _) href y (List.mem_of_getElem? hy)
 ·obtain ⟨e1, e2, e3, e4, e5, q1, q2⟩ := hO
  refine ⟨e1, e2, e3, e4, e5, fun hc => ?_, q2⟩
  obtain ⟨cur, t, fz, g1, g2, g3, g4, g5⟩ := q1 hc
  exact ⟨cur, t, fz, g1, g2, g3, g4, fun i x j y hx hy => mono (g5 i x j y hx hy)⟩
 ·obtain ⟨ens, cl, q1, q2, q3⟩ := hO
  refine ⟨ens, cl, q1, q2, fun i kk y hy => ?_⟩
  obtain ⟨e, g1, g2, g3, g4, g5⟩ := q3 i kk y hy
  exact ⟨e, g1, g2, g3, g4, mono g5⟩
 ·exact hO
theorem get_erase {α : Type} (l : List α) (i j : Nat) : (l.eraseIdx i)[j]? = l[if j < i then j else j + 1]? := by
 rw [List.getElem?_eraseIdx]; split <;> rfl
theorem get_sh {α : Type} {l : List α} {i id : Nat} {x : α} (h : l[id]? = some x) (hne : id ≠ i) : (l.eraseIdx i)[shId i id]? = some x := by
 rw [get_erase]
 unfold shId
 by_cases q : i < id
 ·rw [if_pos q, if_neg (by omega), show id - 1 + 1 = id by omega]; exact h
 ·rw [if_neg q, if_pos (by omega)]; exact h
theorem rep_shB {S : Nat → Nat → Prop} {v : Value} {y : AV} {i : Nat} (h : Rep S w H v y) : Rep S w (H.eraseIdx i) v (y.shB i) := by
 cases h with
 | any => exact .any _ _
 | val => exact .val _ _
 | agg => exact .any _ _
 | tuple => exact .any _ _
 | slice b off sz u hc hz hA hsz hcell hrep => exact .slice b off sz u hc hz hA hsz hcell hrep
 | rptr b o u hg hcell hrep => exact .rptr b o u hg hcell hrep
 | row id ver used off len hs hH hle hv =>
  simp only [AV.shB]; split
  ·exact .any _ _
  ·rename_i q; exact .row _ ver used off len hs (get_sh hH q) hle hv
 | ptr id off hH =>
  simp only [AV.shB]; split
  ·exact .any _ _
  ·rename_i q; exact .ptr _ off (get_sh hH q)
 | elt id ver used k fo hs hH hle hv =>
  simp only [AV.shB]; split
  ·exact .any _ _
  ·rename_i q; exact .elt _ ver used k fo hs (get_sh hH q) hle hv
 | fn => exact .any _ _
 | mp id hH =>
  simp only [AV.shB]; split
  ·exact .any _ _
  ·rename_i q; exact .mp _ (get_sh hH q)
 | nif => exact .nif _ _ _
 | bsl id off len hH =>
  simp only [AV.shB]; split
  ·exact .any _ _
  ·rename_i q; exact .bsl _ off len (get_sh hH q)
 | pel id off j hH ho =>
  simp only [AV.shB]; split
  ·exact .any _ _
  ·rename_i q; exact .pel _ off j (get_sh hH q) ho
 | it id hH =>
  simp only [AV.shB]; split
  ·exact .any _ _
  ·rename_i q; exact .it _ (get_sh hH q)
theorem get_shLB {i : Nat} : ∀ {l : List AV} {j : Nat} {y : AV}, (shLB i l)[j]? = some y → ∃ x, l[j]? = some x ∧ y = x.shB i
 | [], j, y, h => by simp [shLB] at h
 | x :: r, 0, y, h => by simp [shLB] at h; exact ⟨x, rfl, h.symm⟩
 | x :: r, j + 1, y, h => by simp only [shLB, List.getElem?_cons_succ] at h ⊢; exact get_shLB h
theorem get_shLC {i : Nat} : ∀ {l : List AV} {j : Nat} {y : AV}, (shLC i l)[j]? = some y → ∃ x, l[j]? = some x ∧ y = x.shC i
 | [], j, y, h => by simp [shLC] at h
 | x :: r, 0, y, h => by simp [shLC] at h; exact ⟨x, rfl, h.symm⟩
 | x :: r, j + 1, y, h => by simp only [shLC, List.getElem?_cons_succ] at h ⊢; exact get_shLC h
theorem get_shL1 {i : Nat} : ∀ {l : List AV} {j : Nat} {y : AV}, (shL1 i l)[j]? = some y → ∃ x, l[j]? = some x ∧ y = x.sh1 i
 | [], j, y, h => by simp [shL1] at h
 | x :: r, 0, y, h => by simp [shL1] at h; exact ⟨x, rfl, h.symm⟩
 | x :: r, j + 1, y, h => by simp only [shL1, List.getElem?_cons_succ] at h ⊢; exact get_shL1 h
theorem len_shLB {i : Nat} : ∀ l : List AV, (shLB i l).length = l.length
 | [] => rfl
 | x :: r => by simp only [shLB, List.length_cons, len_shLB r]
theorem len_shLC {i : Nat} : ∀ l : List AV, (shLC i l).length = l.length
 | [] => rfl
 | x :: r => by simp only [shLC, List.length_cons, len_shLC r]
theorem len_shL1 {i : Nat} : ∀ l : List AV, (shL1 i l).length = l.length
 | [] => rfl
 | x :: r => by simp only [shL1, List.length_cons, len_shL1 r]
theorem rep_shC {S : Nat → Nat → Prop} {v : Value} {y : AV} {i : Nat} (h : Rep S w H v y) : Rep S w (H.eraseIdx i) v (y.shC i) := by
 cases y with
 | fn f a b =>
  cases h with
  | fn hn hm h1 h2 =>
   refine .fn (by rw [hn, len_shLB]) (by rw [hm, len_shLB]) (fun j y hy => ?_) fun j y hy => ?_
   ·obtain ⟨x, hx, rfl⟩ := get_shLB hy; exact rep_shB (h1 j x hx)
   ·obtain ⟨x, hx, rfl⟩ := get_shLB hy; exact rep_shB (h2 j x hx)
 | _ => exact rep_shB h
theorem rep_sh1 {S : Nat → Nat → Prop} {v : Value} {y : AV} {i : Nat} (h : Rep S w H v y) : Rep S w (H.eraseIdx i) v (y.sh1 i) := by
 cases y with
 | agg l =>
  obtain ⟨cs, rfl, hn, hc⟩ := rep_agg h
  refine .agg (by rw [hn, len_shLC]) fun j y hy => ?_
  obtain ⟨x, hx, rfl⟩ := get_shLC hy; exact rep_shC (hc j x hx)
 | _ => exact rep_shC h
theorem rep_sh {S : Nat → Nat → Prop} {v : Value} {y : AV} {i : Nat} (h : Rep S w H v y) : Rep S w (H.eraseIdx i) v (y.sh i) := by
 cases y with
 | tuple l =>
  obtain ⟨cs, rfl, hn, hc⟩ := rep_tuple h
  refine .tuple (by rw [hn, len_shL1]) fun j y hy => ?_
  obtain ⟨x, hx, rfl⟩ := get_shL1 hy; exact rep_sh1 (hc j x hx)
 | _ => exact rep_sh1 h
theorem look_shFr (i s : Nat) : ∀ fr : List (Nat × AV), look (shFr i fr) s = (look fr s).sh i
 | [] => by simp [shFr, look, AV.sh, AV.sh1, AV.shC, AV.shB]
 | (k, v) :: r => by
  simp only [shFr, look]
  split
  ·rfl
  ·exact look_shFr i s r
theorem get_shM {i : Nat} : ∀ {l : List MObj} {j : Nat} {y : MObj}, (shM i l)[j]? = some y → ∃ x, l[j]? = some x ∧ y = x.sh i
 | [], j, y, h => by simp [shM] at h
 | x :: r, 0, y, h => by simp [shM] at h; exact ⟨x, rfl, h.symm⟩
 | x :: r, j + 1, y, h => by simp only [shM, List.getElem?_cons_succ] at h ⊢; exact get_shM h
theorem len_shM {i : Nat} : ∀ l : List MObj, (shM i l).length = l.length
 | [] => rfl
 | x :: r => by simp only [shM, List.length_cons, len_shM r]
theorem SR.rem (h : SR X w0 N st a w H) {i : Nat} (hb0 : w0.H.length ≤ i) (hi : i < st.m.length) : SR X w0 N ⟨shFr i st.fr, shM i (st.m.eraseIdx i)⟩ a w (H.eraseIdx i) := by
 have hlen := h.mem.len
 have get : ∀ {j : Nat} {x : Hd}, (H.eraseIdx i)[j]? = some x → H[if j < i then j else j + 1]? = some x := fun hj => by rw [get_erase] at hj; exact hj
 have hsub : ∀ b o, Mut (H.eraseIdx i) b o → Mut H b o := fun b o ⟨j, x, hj, hmut⟩ => ⟨_, x, get hj, hmut⟩
 have hst : ∀ b o, Stab X H w b o → Stab X (H.eraseIdx i) w b o := fun b o ⟨q1, q2, q3⟩ => ⟨q1, q2, fun hm => q3 (hsub b o hm)⟩
 have mono : ∀ {v y} {H0 : List Hd}, Rep (Stab X H w) w H0 v y → Rep (Stab X (H.eraseIdx i) w) w H0 v y := fun hr => hr.mono (fun b o q => ⟨hst b o q, rfl⟩) (HLe.refl _)
 refine ⟨h.dfr, h.siz, ⟨fun s => ?_, h.frm.g.to hst⟩, ⟨?_, fun j o x ho hx => ?_, fun j x b hx hb => h.mem.lt _ x b (get hx) hb, fun j k x y b hx hy hb1 hb2 => ?_⟩, h.grw, fun j x b hx hb => h.new _ x b (get hx) hb, h.old, ⟨fun j x hx => ?_, fun b o q => ⟨hst b o (h.since.stab b o q).1, (h.since.stab b o q).2⟩⟩⟩
 ·show Rep _ w _ _ (look (shFr i st.fr) s)
  rw [look_shFr]
  exact rep_sh (mono (h.frm.t s))
 ·rw [len_shM, List.length_eraseIdx, List.length_eraseIdx, hlen]
 ·obtain ⟨o', ho', rfl⟩ := get_shM ho
  rw [get_erase] at ho'
  have hO := h.mem.obj _ o' x ho' (get hx)
  cases o' <;> cases x <;> simp only [ObjAt, MObj.sh] at hO ⊢
  ·obtain ⟨e, cs, q1, q2, q3, q4⟩ := hO
   refine ⟨by rw [e, len_shLC], cs, q1, by rw [q2, len_shLC], fun j y hy => ?_, q4⟩
   obtain ⟨x, hx, rfl⟩ := get_shLC hy
   exact rep_shC (mono (q3 j x hx))
  ·obtain ⟨e1, e2, e3, e4, e5, q1, q2⟩ := hO
   refine ⟨e1, e2, e3, e4, e5, fun hc => ?_, q2⟩
   obtain ⟨cur, t, fz, g1, g2, g3, g4, g5⟩ := q1 hc
   exact ⟨cur, t, fz, g1, g2, g3, g4, fun i x j y hx hy => mono (g5 i x j y hx hy)⟩
  ·obtain ⟨ens, cl, q1, q2, q3⟩ := hO
   refine ⟨ens, cl, q1, q2, fun i kk y hy => ?_⟩
   obtain ⟨e, g1, g2, g3, g4, g5⟩ := q3 i kk y hy
   exact ⟨e, g1, g2, g3, g4, mono g5⟩
  ·exact hO
 ·have := h.mem.apart _ _ x y b (get hx) (get hy) hb1 hb2
  split at this <;> split at this <;> omega
 ·obtain ⟨x', g1, g2⟩ := h.since.le j x hx
  refine ⟨x', ?_, g2⟩
  have := (List.getElem?_eq_some_iff.1 hx).1
  rw [get_erase, if_pos (by omega)]
  exact g1
theorem dead_lt {b : Nat} {fr : List (Nat × AV)} {m : List MObj} {i : Nat} : ∀ {k : Nat}, deadAt b fr m k = some i → b ≤ i ∧ i < k
 | 0, h => by simp [deadAt] at h
 | k + 1, h => by
  unfold deadAt at h
  split at h
  ·cases h
  ·split at h
   ·have := dead_lt h; omega
   ·injection h with h; omega
theorem SR.packN {b : Nat} (hb0 : w0.H.length ≤ b) : ∀ (n : Nat) {st : St} {H : List Hd}, SR X w0 N st a w H → ∃ H', SR X w0 N (packN b n st) a w H'
 | 0, st, H, h => ⟨H, h⟩
 | n + 1, st, H, h => by
  unfold Go.Proofs.YtienfdjfochlcaaGreatDoor.packN
  split
  ·rename_i i hi
   have := dead_lt hi
   exact SR.packN hb0 n (h.rem (i := i) (by omega) (by omega))
  ·exact ⟨H, h⟩
theorem SR.pack (h : SR X w0 N st a w H) {b : Nat} (hb0 : w0.H.length ≤ b) : ∃ H', SR X w0 N (packSt b st) a w H' := SR.packN hb0 _ h
theorem SR.keepX (h : SR X w0 N st a w H) (ks : List Nat) : SR X w0 N ⟨keepF st.fr ks, st.m⟩ a w H := ⟨h.dfr, h.siz, ⟨fun s => by
    rw [look_keep]
    split
    · exact h.frm.t s
    · exact .any _ _, h.frm.g⟩, h.mem, h.grw, h.new, h.old, h.since⟩
theorem SR.norm (h : SR X w0 N st a w H) {bs : Nat} (hb0 : w0.H.length ≤ bs) (ks : List Nat) : ∃ H', SR X w0 N (normSt bs ks st) a w H' := by
 unfold normSt
 split
 ·split
  ·exact (h.keepX _).pack hb0
  ·exact h.normS hb0 _
 ·exact h.normS hb0 _
theorem SR.packR (h : SR X w0 N st a w H) {b : Nat} (hb0 : w0.H.length ≤ b) {pk : Bool} {v : Value} {y : AV} (hr : Rep (Stab X H w) w H v y) : ∃ H', SR X w0 1 ⟨[], (packR pk b y st.m).2⟩ ⟨#[v], []⟩ w H' ∧ Rep (Stab X H' w) w H' v (packR pk b y st.m).1 := by
 have h1 : SR X w0 1 ⟨[(0, y)], st.m⟩ ⟨#[v], []⟩ w H := ⟨rfl, rfl, ⟨fun s => by
  simp only [look]
  split
  ·rename_i q; subst q; exact hr
  ·exact .any _ _, h.frm.g⟩, h.mem, h.grw, h.new, h.old, h.since⟩
 unfold Go.Proofs.YtienfdjfochlcaaGreatDoor.packR
 cases pk with
 | false => exact ⟨H, ⟨rfl, rfl, ⟨fun s => .any _ _, h.frm.g⟩, h.mem, h.grw, h.new, h.old, h.since⟩, hr⟩
 | true =>
  obtain ⟨H', h2⟩ := h1.pack hb0
  refine ⟨H', ⟨rfl, rfl, ⟨fun s => .any _ _, h2.frm.g⟩, h2.mem, h2.grw, h2.new, h2.old, h2.since⟩, ?_⟩
  exact h2.frm.t 0
end
end Go.Proofs.YtienfdjfochlcaaGreatDoor
end
section
namespace Go.Proofs.YtienfdjfochlcaaGreatDoor
set_option linter.unusedVariables false
set_option linter.unusedSimpArgs false
theorem shutV_noRow {v : AV} (h : v.noRow = true) (m : List MObj) : shutV m v = m := by
 unfold shutV
 unfold AV.noRow at h
 generalize v.cells = l at h
 induction l with
 | nil => rfl
 | cons x r ih =>
  simp only [List.all_cons, Bool.and_eq_true] at h
  rw [List.foldl_cons, show shutCell m x = m from by cases x <;> first | rfl | (exact absurd h.1 (by simp))]
  exact ih h.2
theorem extOp_step {call : CallF} {m : List MObj} {fr : List (Nat × AV)} {o : AOp} {v : AV} (h : extOp call m fr o = some v) (d : Option Nat) : stepOp call ⟨fr, m⟩ d o = some ⟨putf d v fr, m⟩ := by
 unfold extOp at h
 split at h
 ·rename_i f args
  split at h
  ·rename_i hn
   have hs : (args.map (evA fr)).foldl shutV m = m := by
    generalize args.map (evA fr) = l at hn
    clear h
    induction l with
    | nil => rfl
    | cons x r ih =>
     simp only [List.all_cons, Bool.and_eq_true] at hn
     rw [List.foldl_cons, shutV_noRow hn.1]; exact ih hn.2
   simp only [stepOp]
   cases hf : frzL m (args.map (evA fr)) with
   | none => rw [hf] at h; cases h
   | some vs =>
    rw [hf] at h
    have h : call.f f vs = some v := h
    simp only [h, hs]
    split <;> rfl
  ·cases h
 ·rename_i sz zero ag cnt parts
  split at h
  ·rename_i hn
   have hs : parts.foldl (fun m p => shutV m (evA fr p.2)) m = m := by
    clear h
    induction parts with
    | nil => rfl
    | cons x r ih =>
     simp only [List.all_cons, Bool.and_eq_true] at hn
     rw [List.foldl_cons, shutV_noRow hn.1]; exact ih hn.2
   simp only [stepOp]
   cases hf : bsEls fr m sz (List.replicate cnt (zeroEl zero ag)) parts with
   | none => rw [hf] at h; cases h
   | some l =>
    rw [hf] at h
    injection h with h; subst h
    simp only [hs]; rfl
  ·cases h
 ·rename_i n x
  show (bxfV fr n x).map _ = _
  rw [h]; rfl
 ·rename_i o hno
  show stepOp2 call ⟨fr, m⟩ d o = _
  cases o <;> first | exact absurd rfl (hno _ _) | (simp only [stepOp2]; rw [h]; rfl) | cases h
 ·split at h
  ·cases h
  ·rename_i he
   rw [step_pure (by simpa using he), h]; rfl
theorem look_putf (d : Option Nat) (v : AV) (fr : List (Nat × AV)) (s : Nat) : look (putf d v fr) s = if d = some s then v else look fr s := by
 cases d with
 | none => simp [putf]
 | some d => simp only [putf, look_setf, Option.some.injEq]
theorem keepF_congr {fr fr' : List (Nat × AV)} : ∀ {ks : List Nat}, (∀ s ∈ ks, look fr s = look fr' s) → keepF fr ks = keepF fr' ks
 | [], _ => rfl
 | s :: r, h => by simp only [keepF]; rw [h s (by simp), keepF_congr fun t ht => h t (by simp [ht])]
def Wr (al : List AOper) (p : Nat → Prop) (s : Nat) : Prop := ∃ j o, al[j]? = some o ∧ p j ∧ o.dst = some s
open Classical in
theorem runX_spec {call : CallF} {m : List MObj} : ∀ (al : List AOper) (fr fr' : List (Nat × AV)), runX call m al fr = some fr' →
    (∀ (i j : Nat) (o o' : AOper) (s : Nat), al[i]? = some o → al[j]? = some o' → o.dst = some s → o'.dst = some s → i = j) →
    (∀ s, ¬ Wr al (fun _ => True) s → look fr' s = look fr s) ∧
    ∀ i o, al[i]? = some o → ∃ F, (∀ s, look F s = if Wr al (fun j => j < i) s then look fr' s else look fr s) ∧ ∃ v, oneX call m (keepF F o.uses) o = some v ∧ ∀ s, o.dst = some s → look fr' s = v
  | [], fr, fr', h, _ => by
    simp only [runX] at h; injection h with h; subst h
    exact ⟨fun _ _ => rfl, fun i o ho => by simp at ho⟩
  | x :: r, fr, fr', h, hd => by
    simp only [runX] at h
    split at h
    · rename_i v hv
      obtain ⟨h1, h2⟩ := runX_spec r _ fr' h fun i j o o' s hi hj ho ho' => by
        have := hd (i + 1) (j + 1) o o' s (by simpa using hi) (by simpa using hj) ho ho'; omega
      have hx : ∀ s, x.dst = some s → look fr' s = v := fun s hs => by
        rw [h1 s, look_putf, if_pos hs]
        rintro ⟨j, o, hj, -, ho⟩
        have := hd 0 (j + 1) x o s rfl (by simpa using hj) hs ho
        omega
      refine ⟨fun s hs => ?_, fun i o ho => ?_⟩
      · rw [h1 s, look_putf, if_neg]
        · exact fun hx => hs ⟨0, x, rfl, trivial, hx⟩
        · rintro ⟨j, o, hj, -, ho⟩; exact hs ⟨j + 1, o, by simpa using hj, trivial, ho⟩
      · cases i with
        | zero =>
          simp at ho; subst ho
          refine ⟨fr, fun s => ?_, v, hv, hx⟩
          rw [if_neg]; rintro ⟨j, o, -, hj, -⟩; omega
        | succ i =>
          obtain ⟨F, hF, v', hv', hs'⟩ := h2 i o (by simpa using ho)
          refine ⟨F, fun s => ?_, v', hv', hs'⟩
          rw [hF s]
          by_cases hw : Wr r (fun j => j < i) s
          · rw [if_pos hw, if_pos]
            obtain ⟨j, o, hj, hlt, ho⟩ := hw
            exact ⟨j + 1, o, by simpa using hj, by omega, ho⟩
          · rw [if_neg hw, look_putf]
            by_cases hxs : x.dst = some s
            · rw [if_pos hxs, if_pos ⟨0, x, rfl, by omega, hxs⟩, hx s hxs]
            · rw [if_neg hxs, if_neg]
              rintro ⟨j, o, hj, hlt, ho⟩
              cases j with
              | zero => simp at hj; subst hj; exact hxs ho
              | succ j => exact hw ⟨j, o, by simpa using hj, by omega, ho⟩
    · cases h
section
variable {P : Program} {ops : Array Oper} {md : Region.Mode}
theorem wp_put_form {o : Oper} {a : Act} {w : World} {K : Act → World → Prop} {Q : Exit → Act → World → Prop} (h : o.wp P a w K Q) :
    o.wp P a w (fun a' w' => K a' w' ∧ ∃ u, a'.tmps = (a.put o.dst u).tmps) Q := by
  unfold Oper.wp at h ⊢
  generalize (execOp a.eval o).run P w = r at h ⊢
  cases r with
  | ok n w' =>
    cases n <;> simp only [Oper.upon] at h ⊢
    case value u => exact ⟨h, u, rfl⟩
    case skip => exact ⟨h, _, rfl⟩
    case defer d => exact ⟨h, undef, by cases o.dst <;> rfl⟩
    case enter f args =>
      refine h.mono fun e w'' he => ?_
      cases e with
      | returned u => exact ⟨he, u, rfl⟩
      | panicked c => exact he
      | outgrown => exact he
    case row r args => exact h.mono fun u w'' he => ⟨he, u, rfl⟩
  | halt x w' => cases x <;> simp only [Oper.upon] at h ⊢; exact h
theorem put_other {a : Act} {d : Option Tmp} {u : Value} {s : Nat} (h : d ≠ some s) : (a.put d u).tmps.getD s undef = a.tmps.getD s undef := by
 cases d with
 | none => rfl
 | some d =>
  have hd : d ≠ s := fun e => h (by rw [e])
  simp [Act.put, Array.getElem?_setIfInBounds_ne hd]
variable {X : Nat → Nat → Prop} {w0 : Base} {w : World} {N : Nat} {a : Act} {H : List Hd} {m : List MObj}
theorem SR.keep {F : List (Nat × AV)} (h : SR X w0 N ⟨F, m⟩ a w H) (ks : List Nat) : SR X w0 N ⟨keepF F ks, m⟩ a w H :=
 ⟨h.dfr, h.siz, ⟨fun s => by
  show Rep _ _ _ _ (look (keepF F ks) s)
  rw [look_keep]; split
  ·exact h.frm.t s
  ·exact .any _ _, h.frm.g⟩, h.mem, h.grw, h.new, h.old, h.since⟩
theorem SR.looks {F F' : List (Nat × AV)} (h : SR X w0 N ⟨F, m⟩ a w H) (he : ∀ s, look F' s = look F s) : SR X w0 N ⟨F', m⟩ a w H :=
 ⟨h.dfr, h.siz, ⟨fun s => by rw [show look (St.mk F' m).fr s = look F s from he s]; exact h.frm.t s, h.frm.g⟩, h.mem, h.grw, h.new, h.old, h.since⟩
theorem oneX_sound {call : CallF} (hcall : CallsOk P call) {hint : Hints} {Q : Exit → Act → World → Prop} {i : Nat} {o : Oper} {ao : AOper} (hi : ops[i]? = some o) (hco : compOper P hint N ops o = some ao)
    {F : List (Nat × AV)} {v : AV} (hv : oneX call m (keepF F ao.uses) ao = some v) (h : SR X w0 N ⟨F, m⟩ a w H) {K : Act → World → Prop}
    (hK : ∀ a' w' H', SR X w0 N ⟨putf ao.dst v F, m⟩ a' w' H' → K a' w') : wpOp P ops Q i K a w := by
  obtain ⟨h1, h2, ⟨b, h3⟩, h4⟩ := compOper_some hco
  have hs : SR X ⟨w0.o, w, H⟩ N ⟨keepF F ao.uses, m⟩ a w H := by
    have := h.keep ao.uses
    exact ⟨this.dfr, this.siz, this.frm, this.mem, this.grw, this.new, this.old, Goes.refl⟩
  unfold wpOp
  simp only [hi]
  unfold oneX at hv
  split at hv
  · rename_i hw
    rw [wanted_sound h4 hs.frm hw, if_pos rfl]
    refine .inl ?_
    have hst := extOp_step hv ao.dst
    rw [h2] at hst
    have := wp_put_form (step_any (Q := Q) hcall h3 h1 hs hst (K := fun a' w' => ∃ H', SR X ⟨w0.o, w, H⟩ N ⟨putf o.dst v (keepF F ao.uses), m⟩ a' w' H') fun a' w' H' h => ⟨H', h⟩)
    refine Oper.wp_mono (fun a' w' h' => ?_) this
    obtain ⟨⟨H', h'⟩, u, hu⟩ := h'
    refine hK a' w' H' ⟨h'.dfr, h'.siz, ⟨fun s => ?_, h'.frm.g⟩, h'.mem, h'.grw, h'.new, h'.old, h.since.trans h'.since⟩
    show Rep _ _ _ _ (look (putf ao.dst v F) s)
    rw [look_putf, h2]
    by_cases hd : o.dst = some s
    · rw [if_pos hd]
      have := h'.frm.t s
      rw [show look (St.mk (putf o.dst v (keepF F ao.uses)) m).fr s = v by show look (putf o.dst v _) s = v; rw [look_putf, if_pos hd]] at this
      exact this
    · rw [if_neg hd, hu, put_other hd]
      exact h'.since.rep (h.frm s)
  · rename_i hw
    injection hv with hv; subst hv
    rw [wanted_sound h4 hs.frm hw, if_neg (by simp)]
    exact hK _ _ H (by rw [h2]; exact h.pure h1 (.val _ _))
  · cases hv
def cnt (listed : Array Bool) : Nat → Nat
 | 0 => 0
 | n + 1 => cnt listed n + (if listed.getD n true then 0 else 1)
theorem cnt_same {l l' : Array Bool} : ∀ n, (∀ j, j < n → l.getD j true = l'.getD j true) → cnt l n = cnt l' n
 | 0, _ => rfl
 | n + 1, h => by simp only [cnt]; rw [cnt_same n fun j hj => h j (by omega), h n (by omega)]
theorem getD_set_self (l : Array Bool) (i : Nat) : (l.setIfInBounds i true).getD i true = true := by
 by_cases h : i < l.size <;> simp [h]
theorem cnt_set {l : Array Bool} {i : Nat} (hu : l.getD i true = false) : ∀ n, i < n → cnt (l.setIfInBounds i true) n + 1 = cnt l n
 | 0, h => by omega
 | n + 1, h => by
  simp only [cnt]
  by_cases hin : i = n
  ·subst hin
   rw [cnt_same i fun j hj => getD_set_ne true (by omega : i ≠ j), getD_set_self, hu]; simp
  ·rw [getD_set_ne true hin]
   have := cnt_set hu n (by omega)
   omega
theorem first_open (l : Array Bool) : ∀ n, (∃ i, i < n ∧ l.getD i true = false ∧ ∀ j, j < i → l.getD j true = true) ∨ ((∀ i, i < n → l.getD i true = true) ∧ cnt l n = 0)
  | 0 => .inr ⟨fun i h => by omega, rfl⟩
  | n + 1 => by
    rcases first_open l n with ⟨i, h1, h2⟩ | ⟨h1, h2⟩
    · exact .inl ⟨i, by omega, h2⟩
    · cases hn : l.getD n true with
      | true => exact .inr ⟨fun i hi => by
          rcases Nat.lt_or_ge i n with h | h
          · exact h1 i h
          · have : i = n := by omega
            subst this; exact hn, by simp [cnt, h2, hn]⟩
      | false => exact .inl ⟨n, by omega, hn, h1⟩
theorem cnt_zero {l : Array Bool} {n : Nat} (h : cnt l n = 0) : ∀ i, i < n → l.getD i true = true := by
 induction n with
 | zero => intro i hi; omega
 | succ n ih =>
  simp only [cnt] at h
  intro i hi
  rcases Nat.lt_or_ge i n with h' | h'
  ·exact ih (by omega) i h'
  ·have : i = n := by omega
   subst this
   cases hn : l.getD i true with
   | true => rfl
   | false => rw [hn] at h; simp at h
theorem slotB_spec {al : List AOper} {n i j : Nat} {oi oj : AOper} {t : Nat} (h : slotB md ops al n = true) (hi : i < n) (hj : j < n) (hij : i ≠ j) (h1 : al[i]? = some oi) (h2 : al[j]? = some oj) (ht : oj.dst = some t) :
    oi.dst ≠ some t ∧ (t ∈ oi.uses → (j < i ∧ Region.waitsFor md ops i j = true) ∨ (i < j ∧ Region.waitsFor md ops j i = true)) := by
  have := List.all_eq_true.1 (List.all_eq_true.1 h i (List.mem_range.2 hi)) j (List.mem_range.2 hj)
  simp only [h1, h2, ht, Bool.or_eq_true, beq_iff_eq, Bool.and_eq_true, bne_iff_ne, ne_eq, decide_eq_true_eq, Bool.not_eq_true', List.contains_eq_mem, decide_eq_false_iff_not] at this
  rcases this with h | ⟨h1, h2⟩
  · exact absurd h hij
  · refine ⟨h1, fun hm => ?_⟩
    rcases h2 with (h | h) | h
    · exact absurd hm h
    · exact .inl h
    · exact .inr h
open Classical in
theorem xhead {call : CallF} (hcall : CallsOk P call) {hint : Hints} {al : List AOper} {fr fr' : List (Nat × AV)} {n g : Nat} {Q : Exit → Act → World → Prop}
    (hc : ∀ i, i < n → ∃ o ao, ops[i]? = some o ∧ al[i]? = some ao ∧ compOper P hint N ops o = some ao) (hlen : al.length = n) (hr : runX call m al fr = some fr')
    (hn : n ≤ ops.size) (hB : slotB md ops al n = true) (hk : backB md ops n = true) (ht : n = ops.size ∨ (Region.sinkB md ops n = true ∧ Region.chainB md ops n = true))
    (hQ : ∀ (listed : Array Bool) (a : Act) (w : World) (H : List Hd), HeadInv md ops n listed → (∀ i, i < n → listed.getD i true = true) → SR X w0 N ⟨fr', m⟩ a w H → wpAny P md ops Q g listed a w) :
    ∀ (f : Nat) (listed : Array Bool) (a : Act) (w : World) (H : List Hd) (F : List (Nat × AV)), cnt listed n = f → HeadInv md ops n listed →
      (∀ s, look F s = if Wr al (fun j => listed.getD j true = true) s then look fr' s else look fr s) → SR X w0 N ⟨F, m⟩ a w H → wpAny P md ops Q (f + g) listed a w := by
  have hlt : ∀ {j : Nat} {o : AOper}, al[j]? = some o → j < n := fun h => by have := (List.getElem?_eq_some_iff.1 h).1; omega
  obtain ⟨hs1, hs2⟩ := runX_spec al fr fr' hr fun i j o o' s hi hj ho ho' => by
    by_cases hij : i = j
    · exact hij
    · exact absurd ho (slotB_spec hB (hlt hi) (hlt hj) hij hi hj ho').1
  intro f
  induction f with
  | zero =>
    intro listed a w H F hf inv hF hsr
    rw [Nat.zero_add]
    have hall := cnt_zero hf
    refine hQ listed a w H inv hall (hsr.looks fun s => ?_)
    rw [hF s]
    split
    · rfl
    · rename_i hw
      exact hs1 s fun ⟨j, o, hj, _, ho⟩ => hw ⟨j, o, hj, hall j (hlt hj), ho⟩
  | succ f ih =>
    intro listed a w H F hf inv hF hsr
    rw [show f + 1 + g = (f + g) + 1 by omega]
    have hex : ∃ i, i < n ∧ listed.getD i true = false ∧ ∀ j, j < i → listed.getD j true = true := by
      rcases first_open listed n with h | ⟨-, h0⟩
      · exact h
      · omega
    obtain ⟨i0, hi0, hu0, hb0⟩ := hex
    have hr0 : i0 ∈ Region.ready md ops listed := by
      obtain ⟨o, ao, ho, -, -⟩ := hc i0 hi0
      refine mem_ready.2 ⟨hu0, o, ho, fun e he hb => ?_⟩
      have := List.all_eq_true.1 hk i0 (List.mem_range.2 hi0)
      simp only [ho] at this
      have := Array.all_eq_true_iff_forall_mem.1 this e he
      simp only [hb, Bool.not_true, Bool.false_or, decide_eq_true_eq] at this
      have h2 := hb0 _ this
      have hsz : e.on < listed.size := by rw [inv.size]; omega
      simp [hsz] at h2 ⊢; exact h2
    refine ⟨fun h => (by rw [h] at hr0; cases hr0), fun i hi => ?_⟩
    obtain ⟨hun, oi, hoi, hall⟩ := mem_ready.1 hi
    have hin : i < n := by
      rcases ht with ht | ⟨hs, hch⟩
      · rw [ht]; exact (Array.getElem?_eq_some_iff.1 hoi).1
      · refine Nat.lt_of_not_le fun h => ?_
        rcases Nat.lt_or_ge n ops.size with hn' | hn'
        · exact tail_waits hs hch hn' inv _ i0 rfl hi0 hu0 i h hi
        · have := (Array.getElem?_eq_some_iff.1 hoi).1; omega
    obtain ⟨o, ao, ho, hao, hco⟩ := hc i hin
    rw [ho] at hoi; injection hoi with hoi; subst hoi
    obtain ⟨Fi, hFi, v, hv, hvs⟩ := hs2 i ao hao
    have hcong : keepF F ao.uses = keepF Fi ao.uses := keepF_congr fun s hsu => by
      rw [hF s, hFi s]
      have : Wr al (fun j => listed.getD j true = true) s ↔ Wr al (fun j => j < i) s := by
        constructor
        · rintro ⟨j, oj, hj, hl, hd⟩
          have hji : i ≠ j := fun e => by subst e; rw [hun] at hl; cases hl
          rcases (slotB_spec hB hin (hlt hj) hji hao hj hd).2 hsu with h | ⟨h1, h2⟩
          · exact ⟨j, oj, hj, h.1, hd⟩
          · obtain ⟨oj', hoj', e, he, hb, hon⟩ := Region.waitsFor_spec h2
            have hsz : j < listed.size := by rw [inv.size]; have := hlt hj; omega
            have hl' : listed.getD j false = true := by simp [hsz] at hl ⊢; exact hl
            have := inv.closed j oj' hoj' hl' e he hb
            rw [hon, getD_both hun] at this; cases this
        · rintro ⟨j, oj, hj, hl, hd⟩
          rcases (slotB_spec hB hin (hlt hj) (by omega) hao hj hd).2 hsu with ⟨h1, h2⟩ | h
          · obtain ⟨oi', hoi', e, he, hb, hon⟩ := Region.waitsFor_spec h2
            rw [ho] at hoi'; injection hoi' with hoi'; subst hoi'
            have h3 := hall e he hb
            rw [hon] at h3
            have hsz : j < listed.size := by rw [inv.size]; have := hlt hj; omega
            exact ⟨j, oj, hj, by simp [hsz] at h3 ⊢; exact h3, hd⟩
          · omega
      simp only [this]
    rw [← hcong] at hv
    refine oneX_sound hcall ho hco hv hsr fun a' w' H' hsr' => ?_
    refine ih (listed.setIfInBounds i true) a' w' H' _ ?_ (inv.set hi hin) (fun s => ?_) hsr'
    · have := cnt_set hun n hin; omega
    · rw [look_putf]
      by_cases hd : ao.dst = some s
      · rw [if_pos hd, if_pos ⟨i, ao, hao, getD_set_self _ _, hd⟩, hvs s hd]
      · rw [if_neg hd, hF s]
        have : Wr al (fun j => listed.getD j true = true) s ↔ Wr al (fun j => (listed.setIfInBounds i true).getD j true = true) s := by
          constructor
          · rintro ⟨j, oj, hj, hl, hdj⟩
            refine ⟨j, oj, hj, ?_, hdj⟩
            by_cases hij : i = j
            · subst hij; exact getD_set_self _ _
            · show (listed.setIfInBounds i true).getD j true = true
              rw [getD_set_ne true hij]; exact hl
          · rintro ⟨j, oj, hj, hl, hdj⟩
            by_cases hij : i = j
            · subst hij; rw [hao] at hj; injection hj with hj; subst hj; exact absurd hdj hd
            · have hl : (listed.setIfInBounds i true).getD j true = true := hl
              rw [getD_set_ne true hij] at hl; exact ⟨j, oj, hj, hl, hdj⟩
        simp only [this]
theorem compOps_get {hint : Hints} : ∀ {l : List Oper} {al : List AOper}, compOps P hint N ops l = some al → ∀ (i : Nat) (o : Oper), l[i]? = some o → ∃ ao, al[i]? = some ao ∧ compOper P hint N ops o = some ao
 | [], _, _, i, o, h => by simp at h
 | x :: l, al, hc, i, o, h => by
  simp only [compOps] at hc
  split at hc
  ·rename_i ao al' ho hl
   injection hc with hc; subst hc
   cases i with
   | zero => simp at h; subst h; exact ⟨ao, rfl, ho⟩
   | succ i => obtain ⟨b, h1, h2⟩ := compOps_get hl i o (by simpa using h); exact ⟨b, by simpa using h1, h2⟩
  ·cases hc
theorem fillB_eq {listed : Array Bool} {n : Nat} (inv : HeadInv md ops n listed) (h : ∀ i, i < n → listed.getD i true = true) : listed = fillB ops.size n := by
 refine Array.ext (by simp [fillB, inv.size]) fun i h1 h2 => ?_
 have hsz : i < ops.size := by rw [← inv.size]; exact h1
 rcases Nat.lt_or_ge i n with hi | hi
 ·have := h i hi; simp [h1] at this; simp [fillB, this, hi]
 ·have := inv.tail i hi hsz; simp [h1] at this; simp [fillB, this]; omega
theorem wp_xregion {call : CallF} (hcall : CallsOk P call) {hint : Hints} {id : Nat} {al : List AOper} {fr fr' : List (Nat × AV)} {n : Nat} {Q : Exit → Act → World → Prop} (hm : P.follows .mixedOrders = true)
    (hc : compOps P hint N ops ops.toList = some al) (hB : xB .any ops (al.take n) n = true) (hr : runX call m (al.take n) fr = some fr') (h : SR X w0 N ⟨fr, m⟩ a { w with drawn := w.drawn + 1 } H)
    (hQ : ∀ a' w' H', SR X w0 N ⟨fr', m⟩ a' w' H' → wpList P ops Q (ops.toList.drop n) a' w') : (Code.region id ops true).wp P Q a w := by
  simp only [xB, Bool.and_eq_true, Bool.or_eq_true, decide_eq_true_eq] at hB
  obtain ⟨⟨⟨⟨⟨hn, hlen⟩, hsl⟩, hbk⟩, htl⟩, hsq⟩ := hB
  refine wp_region_any hm ?_
  have inv0 : HeadInv .any ops n (Array.replicate ops.size false) :=
    ⟨by simp, fun j oj _ hl => (by rw [getD_replicate_false] at hl; cases hl), fun t _ ht => getD_in (by simpa using ht) (getD_replicate_false _ _)⟩
  have hun : ∀ j, j < n → (Array.replicate ops.size false).getD j true = false := fun j hj => getD_in (by simp; omega) (getD_replicate_false _ _)
  have hcnt : ∀ k, k ≤ n → cnt (Array.replicate ops.size false) k = k := by
    intro k
    induction k with
    | zero => intro _; rfl
    | succ k ih => intro hk; simp only [cnt]; rw [ih (by omega), hun k (by omega)]; simp
  have := xhead (md := .any) (g := ops.size - n) hcall (fun i hi => by
      have hi' : i < ops.toList.length := by simp; omega
      obtain ⟨ao, h1, h2⟩ := compOps_get hc i (ops.toList[i]) (List.getElem?_eq_getElem hi')
      exact ⟨_, ao, by simp [show i < ops.size by omega], by rw [List.getElem?_take, if_pos hi]; exact h1, h2⟩) hlen hr hn hsl hbk htl
    (fun listed a' w' H' inv hall hsr => by
      have := wpAny_of_seq (md := .any) (Q' := Q) (ops.toList.drop n) n listed a' w' (fun j => by simp [List.getElem?_drop]) (by rw [List.length_drop, fillB_eq inv hall]; simpa using hsq) (hQ a' w' H' hsr)
      rwa [List.length_drop, show ops.toList.length - n = ops.size - n by simp] at this)
    n (Array.replicate ops.size false) a { w with drawn := w.drawn + 1 } H fr (hcnt n (Nat.le_refl _)) inv0 (fun s => by
      rw [if_neg]
      rintro ⟨j, o, hj, hl, -⟩
      have hjn : j < n := by have := (List.getElem?_eq_some_iff.1 hj).1; omega
      rw [hun j hjn] at hl; cases hl) h
  rw [show n + (ops.size - n) = ops.size by omega] at this
  exact this
end
end Go.Proofs.YtienfdjfochlcaaGreatDoor
end
section
namespace Go.Proofs.YtienfdjfochlcaaGreatDoor
set_option linter.unusedVariables false
set_option linter.unusedSimpArgs false
theorem fastV_ok {a b : Value} (h : fastV a b = true) : a = b := by
 unfold fastV at h
 split at h
 ·simp at h; rw [h.1, h.2]
 ·simp at h; rw [h]
 ·rename_i s t
  have h := of_decide_eq_true h
  congr 1
  apply ByteArray.ext
  exact Array.toList_inj.1 h
 ·rfl
 ·rfl
 ·rfl
 ·cases h
theorem fastL_ok {f : AV → AV → Bool} (hf : ∀ x y, f x y = true → x = y) : ∀ {l l' : List AV}, fastL f l l' = true → l = l'
 | [], [], _ => rfl
 | [], _ :: _, h => by cases h
 | _ :: _, [], h => by cases h
 | x :: l, y :: l', h => by
  simp only [fastL, Bool.and_eq_true] at h
  rw [hf _ _ h.1, fastL_ok hf h.2]
theorem fastA_ok : ∀ (n : Nat) {a b : AV}, fastA n a b = true → a = b
 | 0, _, _, h => by cases h
 | n + 1, a, b, h => by
  have ih := fun x y => fastA_ok n (a := x) (b := y)
  unfold fastA at h
  split at h
  ·rfl
  ·rfl
  ·rw [fastV_ok h]
  ·rw [fastL_ok ih h]
  ·rw [fastL_ok ih h]
  ·rw [fastL_ok ih h]
  ·simp only [Bool.and_eq_true, decide_eq_true_eq] at h; rw [h.1, fastL_ok ih h.2]
  ·simp only [Bool.and_eq_true, decide_eq_true_eq] at h; obtain ⟨⟨⟨⟨rfl, rfl⟩, rfl⟩, rfl⟩, rfl⟩ := h; rfl
  ·simp only [Bool.and_eq_true, decide_eq_true_eq] at h; obtain ⟨rfl, rfl⟩ := h; rfl
  ·simp only [Bool.and_eq_true, decide_eq_true_eq] at h; obtain ⟨⟨⟨⟨rfl, rfl⟩, rfl⟩, rfl⟩, rfl⟩ := h; rfl
  ·simp only [decide_eq_true_eq] at h; rw [h]
  ·simp only [Bool.and_eq_true, decide_eq_true_eq] at h; obtain ⟨⟨rfl, rfl⟩, rfl⟩ := h; rfl
  ·simp only [Bool.and_eq_true, decide_eq_true_eq] at h; obtain ⟨⟨rfl, rfl⟩, rfl⟩ := h; rfl
  ·simp only [decide_eq_true_eq] at h; rw [h]
  ·cases h
theorem fastFr_ok : ∀ {a b : List (Nat × AV)}, fastFr a b = true → a = b
 | [], [], _ => rfl
 | [], _ :: _, h => by cases h
 | _ :: _, [], h => by cases h
 | (k, x) :: l, (k', y) :: l', h => by
  simp only [fastFr, Bool.and_eq_true, decide_eq_true_eq] at h
  rw [h.1.1, fastA_ok _ h.1.2, fastFr_ok h.2]
theorem eqFB_ok {a b : List (Nat × AV)} (h : eqFB a b = true) : a = b := by
 unfold eqFB at h
 rw [Bool.or_eq_true] at h
 rcases h with h | h
 ·exact fastFr_ok h
 ·exact @of_decide_eq_true _ (Classical.propDecidable _) h
theorem eqFB_of {a b : List (Nat × AV)} (h : a = b) : eqFB a b = true := by
 unfold eqFB
 rw [Bool.or_eq_true]
 exact .inr (@decide_eq_true _ (Classical.propDecidable _) h)
theorem mask_get (cs : List Nat) : ∀ (al : List AOper) (k i : Nat), (maskL cs k al)[i]? = (al[i]?).map fun o => if cs.contains (k + i) then noopA else o
 | [], k, i => by simp [maskL]
 | o :: r, k, 0 => by simp [maskL]
 | o :: r, k, i + 1 => by
  simp only [maskL, List.getElem?_cons_succ, mask_get cs r (k + 1) i]
  rw [show k + 1 + i = k + (i + 1) by omega]
theorem wr_mask {cs : List Nat} {al : List AOper} {p : Nat → Prop} {s : Nat} : Wr (maskL cs 0 al) p s ↔ ∃ j o, al[j]? = some o ∧ cs.contains j = false ∧ p j ∧ o.dst = some s := by
 constructor
 ·rintro ⟨j, o, hj, hp, hd⟩
  rw [mask_get, Nat.zero_add, Option.map_eq_some_iff] at hj
  obtain ⟨o', ho, e⟩ := hj
  cases hc : cs.contains j with
  | true => rw [hc, if_pos rfl] at e; subst e; cases hd
  | false => rw [hc, if_neg (by decide)] at e; subst e; exact ⟨j, o', ho, hc, hp, hd⟩
 ·rintro ⟨j, o, hj, hc, hp, hd⟩
  refine ⟨j, o, ?_, hp, hd⟩
  rw [mask_get, Nat.zero_add, hj, Option.map_some, hc, if_neg (by decide)]
section
variable {P : Program} {ops : Array Oper} {md : Region.Mode}
variable {X : Nat → Nat → Prop} {w0 : Base} {w : World} {N : Nat} {a : Act} {H : List Hd} {m m' : List MObj}
theorem oneC_sound {call : CallF} (hcall : CallsOk P call) {hint : Hints} {Q : Exit → Act → World → Prop} {i : Nat} {o : Oper} {ao : AOper} (hi : ops[i]? = some o) (hco : compOper P hint N ops o = some ao)
    {F : List (Nat × AV)} {st' : St} (hv : runOps call [ao] ⟨keepF F ao.uses, m⟩ = some st') (h : SR X w0 N ⟨F, m⟩ a w H) {K : Act → World → Prop}
    (hK : ∀ a' w' H', SR X w0 N ⟨putf ao.dst (lookD ao.dst st'.fr) F, st'.m⟩ a' w' H' → K a' w') : wpOp P ops Q i K a w := by
  obtain ⟨h1, h2, ⟨b, h3⟩, h4⟩ := compOper_some hco
  have hs : SR X ⟨w0.o, w, H⟩ N ⟨keepF F ao.uses, m⟩ a w H := by
    have := h.keep ao.uses
    exact ⟨this.dfr, this.siz, this.frm, this.mem, this.grw, this.new, this.old, Goes.refl⟩
  unfold wpOp
  simp only [hi]
  simp only [runOps] at hv
  split at hv
  · rename_i hw
    rw [wanted_sound h4 hs.frm hw, if_pos rfl]
    refine .inl ?_
    split at hv
    · rename_i st1 hst
      injection hv with hv; subst hv
      rw [h2] at hst
      have := wp_put_form (step_any (Q := Q) hcall h3 h1 hs hst (K := fun a' w' => ∃ H', SR X ⟨w0.o, w, H⟩ N st1 a' w' H') fun a' w' H' h => ⟨H', h⟩)
      refine Oper.wp_mono (fun a' w' h' => ?_) this
      obtain ⟨⟨H', h'⟩, u, hu⟩ := h'
      refine hK a' w' H' ⟨h'.dfr, h'.siz, ⟨fun s => ?_, h'.frm.g⟩, h'.mem, h'.grw, h'.new, h'.old, h.since.trans h'.since⟩
      show Rep _ _ _ _ (look (putf ao.dst (lookD ao.dst st1.fr) F) s)
      rw [look_putf, h2]
      by_cases hd : o.dst = some s
      · rw [if_pos hd, hd]
        exact h'.frm.t s
      · rw [if_neg hd, hu, put_other hd]
        exact h'.since.rep (h.frm s)
    · cases hv
  · rename_i hw
    injection hv with hv; subst hv
    rw [wanted_sound h4 hs.frm hw, if_neg (by simp)]
    refine hK _ _ H ?_
    have := h.pure (d := o.dst) (v := undef) (av := .val undef) h1 (.val _ _)
    refine SR.looks (F := putf o.dst (.val undef) F) this fun s => ?_
    show look (putf ao.dst (lookD ao.dst (putf ao.dst (.val undef) (keepF F ao.uses))) F) s = look (putf o.dst (.val undef) F) s
    rw [look_putf, look_putf, h2]
    by_cases hd : o.dst = some s
    · rw [if_pos hd, if_pos hd, hd]
      simp only [lookD, look_putf, if_true]
    · rw [if_neg hd, if_neg hd]
  · cases hv
theorem waitC_spec {md : Region.Mode} : ∀ {cs ds : List Nat} {a b : Nat} {r : List Nat}, waitC md ops cs = true → cs = ds ++ a :: b :: r → Region.waitsFor md ops b a = true
 | cs, [], a, b, r, h, e => by
  subst e
  simp only [List.nil_append, waitC, Bool.and_eq_true] at h
  exact h.1
 | cs, x :: ds, a, b, r, h, e => by
  subst e
  cases ds with
  | nil =>
   simp only [List.cons_append, List.nil_append, waitC, Bool.and_eq_true] at h
   exact h.2.1
  | cons y ds =>
   simp only [List.cons_append, waitC, Bool.and_eq_true] at h
   exact waitC_spec (ds := y :: ds) h.2 rfl
theorem freeB_spec {al : List AOper} {cs : List Nat} {n i j : Nat} {oi oj : AOper} {t : Nat} (h : freeB al cs n = true) (hi : i < n) (hj : j < n) (h1 : al[i]? = some oi) (h2 : al[j]? = some oj) (ht : oj.dst = some t) (hu : t ∈ oi.uses) :
    (cs.contains i = false → cs.contains j = false) ∧ (cs.contains i = true → cs.contains j = false → j < i) := by
  have := List.all_eq_true.1 (List.all_eq_true.1 h i (List.mem_range.2 hi)) j (List.mem_range.2 hj)
  simp only [h1, h2, ht, Bool.and_eq_true, Bool.or_eq_true, Bool.not_eq_true', decide_eq_true_eq] at this
  have hu' : oi.uses.contains t = true := by simpa using hu
  obtain ⟨g1, g2⟩ := this
  rw [hu'] at g1 g2
  refine ⟨fun hc => ?_, fun hc hc2 => ?_⟩
  · rcases g1 with (g | g) | g
    · rw [hc] at g; cases g
    · exact g
    · cases g
  · rcases g2 with ((g | g) | g) | g
    · rw [hc] at g; cases g
    · rw [hc2] at g; cases g
    · exact g
    · cases g
open Classical in
theorem xmix {call : CallF} (hcall : CallsOk P call) {hint : Hints} {al : List AOper} {cs : List Nat} {fr0 fr1 : List (Nat × AV)} {Q : Exit → Act → World → Prop} {stF : St}
    (hc : ∀ i, i < ops.size → ∃ o ao, ops[i]? = some o ∧ al[i]? = some ao ∧ compOper P hint N ops o = some ao) (hB : mixB md ops al cs = true)
    (hf0 : ∀ s, ¬ Wr (maskL cs 0 al) (fun _ => True) s → look fr1 s = look fr0 s)
    (hQ : ∀ a w H, SR X w0 N stF a w H → Q .normal a w) :
    ∀ (f : Nat) (listed : Array Bool) (a : Act) (w : World) (H : List Hd) (F : List (Nat × AV)) (ds rs : List Nat) (st : St), cnt listed ops.size = f → HeadInv md ops ops.size listed → cs = ds ++ rs →
      (∀ i ∈ ds, listed.getD i true = true) → (∀ i ∈ rs, listed.getD i true = false) →
      (∀ s, look F s = if Wr al (fun j => listed.getD j true = true) s then look st.fr s else look fr0 s) →
      (∀ s, ¬ Wr al (fun j => j ∈ ds) s → look st.fr s = look fr1 s) →
      (rs ≠ [] → runX call st.m (maskL cs 0 al) fr0 = some fr1) → (rs = [] → f = 0) →
      runC call (maskL cs 0 al) fr0 fr1 (rs.map fun i => al.getD i noopA) st = some stF →
      SR X w0 N ⟨F, st.m⟩ a w H → wpAny P md ops Q f listed a w := by
  simp only [mixB, Bool.and_eq_true, decide_eq_true_eq, beq_iff_eq] at hB
  obtain ⟨⟨⟨⟨⟨⟨⟨⟨⟨hlen, hsl⟩, hbk⟩, hwt⟩, hlt⟩, hlast⟩, hnd⟩, hsk⟩, hch⟩, hfr⟩ := hB
  have hltA : ∀ {j : Nat} {o : AOper}, al[j]? = some o → j < ops.size := fun h => by have := (List.getElem?_eq_some_iff.1 h).1; omega
  have hltC : ∀ i ∈ cs, i < ops.size := fun i hi => of_decide_eq_true (List.all_eq_true.1 hlt i hi)
  have uniq : ∀ {i j : Nat} {o o' : AOper} {s : Nat}, al[i]? = some o → al[j]? = some o' → o.dst = some s → o'.dst = some s → i = j := fun {i j o o' s} hi hj ho ho' => by
    by_cases hij : i = j
    · exact hij
    · exact absurd ho (slotB_spec hsl (hltA hi) (hltA hj) hij hi hj ho').1
  intro f
  induction f with
  | zero =>
    intro listed a w H F ds rs st hf inv hcs hds hrs hF hI hst hre hrun hsr
    have hall := cnt_zero hf
    have hrs0 : rs = [] := by
      cases rs with
      | nil => rfl
      | cons i r =>
        have h1 := hrs i (by simp)
        rw [hall i (hltC i (by rw [hcs]; simp))] at h1; cases h1
    subst hrs0
    simp only [List.map_nil, runC] at hrun
    injection hrun with hrun; subst hrun
    refine ⟨?_, hQ a w H (hsr.looks fun s => ?_)⟩
    · cases hr : Region.ready md ops listed with
      | nil => rfl
      | cons i r =>
        have : i ∈ Region.ready md ops listed := by rw [hr]; simp
        obtain ⟨hun, oi, hoi, -⟩ := mem_ready.1 this
        rw [hall i (Array.getElem?_eq_some_iff.1 hoi).1] at hun; cases hun
    · rw [hF s]
      split
      · rfl
      · rename_i hw
        have hnw : ∀ p : Nat → Prop, ¬ Wr al p s := fun p ⟨j, o, hj, _, ho⟩ => hw ⟨j, o, hj, hall j (hltA hj), ho⟩
        rw [hI s (hnw _)]
        exact hf0 s fun hx => by
          obtain ⟨j, o, hj, -, -, ho⟩ := wr_mask.1 hx
          exact hnw (fun _ => True) ⟨j, o, hj, trivial, ho⟩
  | succ f ih =>
    intro listed a w H F ds rs st hf inv hcs hds hrs hF hI hst hre hrun hsr
    have hrne : rs ≠ [] := fun e => by have := hre e; omega
    have hX := hst hrne
    obtain ⟨hs1, hs2⟩ := runX_spec (maskL cs 0 al) fr0 fr1 hX fun i j o o' s hi hj ho ho' => by
      have g1 : Wr (maskL cs 0 al) (fun k => k = i) s := ⟨i, o, hi, rfl, ho⟩
      have g2 : Wr (maskL cs 0 al) (fun k => k = j) s := ⟨j, o', hj, rfl, ho'⟩
      obtain ⟨i', oi, hi', -, rfl, hdi⟩ := wr_mask.1 g1
      obtain ⟨j', oj, hj', -, rfl, hdj⟩ := wr_mask.1 g2
      exact uniq hi' hj' hdi hdj
    have hex : ∃ i, i < ops.size ∧ listed.getD i true = false ∧ ∀ j, j < i → listed.getD j true = true := by
      rcases first_open listed ops.size with h | ⟨-, h0⟩
      · exact h
      · omega
    obtain ⟨i0, hi0, hu0, hb0⟩ := hex
    have hr0 : i0 ∈ Region.ready md ops listed := by
      obtain ⟨o, ao, ho, -, -⟩ := hc i0 hi0
      refine mem_ready.2 ⟨hu0, o, ho, fun e he hb => ?_⟩
      have := List.all_eq_true.1 hbk i0 (List.mem_range.2 hi0)
      simp only [ho] at this
      have := Array.all_eq_true_iff_forall_mem.1 this e he
      simp only [hb, Bool.not_true, Bool.false_or, decide_eq_true_eq] at this
      have h2 := hb0 _ this
      have hsz : e.on < listed.size := by rw [inv.size]; omega
      simp [hsz] at h2 ⊢; exact h2
    refine ⟨fun h => (by rw [h] at hr0; cases hr0), fun i hi => ?_⟩
    obtain ⟨hun, oi, hoi, hall⟩ := mem_ready.1 hi
    have hin : i < ops.size := (Array.getElem?_eq_some_iff.1 hoi).1
    obtain ⟨o, ao, ho, hao, hco⟩ := hc i hin
    rw [ho] at hoi; injection hoi with hoi; subst hoi
    have waits : ∀ {j : Nat}, j < ops.size → Region.waitsFor md ops i j = true → listed.getD j true = true := fun {j} hj h1 => by
      obtain ⟨oi', hoi', e, he, hb, hon⟩ := Region.waitsFor_spec h1
      rw [ho] at hoi'; injection hoi' with hoi'; subst hoi'
      have h3 := hall e he hb
      rw [hon] at h3
      have hsz : j < listed.size := by rw [inv.size]; exact hj
      simp [hsz] at h3 ⊢; exact h3
    have waited : ∀ {j : Nat}, j < ops.size → Region.waitsFor md ops j i = true → listed.getD j true = false := fun {j} hj h1 => by
      cases hl : listed.getD j true with
      | false => rfl
      | true =>
        obtain ⟨oj', hoj', e, he, hb, hon⟩ := Region.waitsFor_spec h1
        have hsz : j < listed.size := by rw [inv.size]; exact hj
        have hl' : listed.getD j false = true := by simp [hsz] at hl ⊢; exact hl
        have := inv.closed j oj' hoj' hl' e he hb
        rw [hon, getD_both hun] at this; cases this
    have setW : ∀ s, ao.dst ≠ some s → (Wr al (fun j => listed.getD j true = true) s ↔ Wr al (fun j => (listed.setIfInBounds i true).getD j true = true) s) := fun s hd => by
      constructor
      · rintro ⟨j, oj, hj, hl, hdj⟩
        refine ⟨j, oj, hj, ?_, hdj⟩
        by_cases hij : i = j
        · subst hij; exact getD_set_self _ _
        · show (listed.setIfInBounds i true).getD j true = true
          rw [getD_set_ne true hij]; exact hl
      · rintro ⟨j, oj, hj, hl, hdj⟩
        by_cases hij : i = j
        · subst hij; rw [hao] at hj; injection hj with hj; subst hj; exact absurd hdj hd
        · have hl : (listed.setIfInBounds i true).getD j true = true := hl
          rw [getD_set_ne true hij] at hl; exact ⟨j, oj, hj, hl, hdj⟩
    have hcn : cnt (listed.setIfInBounds i true) ops.size = f := by have := cnt_set hun ops.size hin; omega
    have nodup : ∀ {k : Nat}, k ∈ ds → k ∈ rs → False := fun {k} h1 h2 => by
      rw [hcs] at hnd
      exact (List.nodup_append.1 hnd).2.2 k h1 k h2 rfl
    cases hci : cs.contains i with
    | false =>
      have hni : i ∉ cs := fun h => by rw [List.contains_iff_mem.2 h] at hci; cases hci
      have hmi : (maskL cs 0 al)[i]? = some ao := by rw [mask_get, Nat.zero_add, hao, Option.map_some, hci, if_neg (by decide)]
      obtain ⟨Fi, hFi, v, hv, hvs⟩ := hs2 i ao hmi
      have hcong : keepF F ao.uses = keepF Fi ao.uses := keepF_congr fun s hsu => by
        rw [hF s, hFi s]
        by_cases hw : Wr al (fun j => listed.getD j true = true) s
        · obtain ⟨j, oj, hj, hl, hd⟩ := hw
          have hji : i ≠ j := fun e => by subst e; rw [hun] at hl; cases hl
          have hcj := (freeB_spec hfr hin (hltA hj) hao hj hd hsu).1 hci
          rw [if_pos ⟨j, oj, hj, hl, hd⟩]
          have hst' : look st.fr s = look fr1 s := hI s fun ⟨k, ok, hk, hkd, hdk⟩ => by
            have := uniq hk hj hdk hd
            subst this
            rw [List.contains_iff_mem.2 (by rw [hcs]; exact List.mem_append_left _ hkd)] at hcj; cases hcj
          rcases (slotB_spec hsl hin (hltA hj) hji hao hj hd).2 hsu with h | ⟨h1, h2⟩
          · rw [if_pos (wr_mask.2 ⟨j, oj, hj, hcj, h.1, hd⟩), hst']
          · rw [waited (hltA hj) h2] at hl; cases hl
        · rw [if_neg hw, if_neg]
          intro hx
          obtain ⟨j, oj, hj, hcj, hlt, hd⟩ := wr_mask.1 hx
          rcases (slotB_spec hsl hin (hltA hj) (by omega) hao hj hd).2 hsu with ⟨h1, h2⟩ | h
          · exact hw ⟨j, oj, hj, waits (hltA hj) h2, hd⟩
          · omega
      rw [← hcong] at hv
      refine oneX_sound hcall ho hco hv hsr fun a' w' H' hsr' => ?_
      refine ih (listed.setIfInBounds i true) a' w' H' _ ds rs st hcn (inv.set hi hin) hcs (fun k hk => ?_) (fun k hk => ?_) (fun s => ?_) hI hst (fun e => absurd e hrne) hrun hsr'
      · rw [getD_set_ne true (fun e => hni (by rw [e, hcs]; exact List.mem_append_left _ hk))]; exact hds k hk
      · rw [getD_set_ne true (fun e => hni (by rw [e, hcs]; exact List.mem_append_right _ hk))]; exact hrs k hk
      · rw [look_putf]
        by_cases hd : ao.dst = some s
        · rw [if_pos hd, if_pos ⟨i, ao, hao, getD_set_self _ _, hd⟩, ← hvs s hd]
          exact (hI s fun ⟨k, ok, hk, hkd, hdk⟩ => by
            have := uniq hk hao hdk hd
            subst this
            exact hni (by rw [hcs]; exact List.mem_append_left _ hkd)).symm
        · rw [if_neg hd, hF s]
          simp only [setW s hd]
    | true =>
      have hic : i ∈ cs := List.contains_iff_mem.1 hci
      have hir : i ∈ rs := by
        rw [hcs] at hic
        rcases List.mem_append.1 hic with h | h
        · rw [hds i h] at hun; cases hun
        · exact h
      cases rs with
      | nil => exact absurd rfl hrne
      | cons c rs' =>
      have hic0 : i = c := by
        by_cases he : i = c
        · exact he
        · exfalso
          have hir' : i ∈ rs' := by
            rcases List.mem_cons.1 hir with h | h
            · exact absurd h he
            · exact h
          obtain ⟨l1, l2, hl⟩ := List.append_of_mem hir'
          have hpre : ∃ b d1 r1, cs = d1 ++ b :: i :: r1 ∧ b ∈ c :: rs' := by
            rcases List.eq_nil_or_concat l1 with e | ⟨l1', b, e⟩
            · subst e
              exact ⟨c, ds, l2, by rw [hcs, hl]; rfl, by simp⟩
            · rw [List.concat_eq_append] at e
              subst e
              refine ⟨b, ds ++ c :: l1', l2, by rw [hcs, hl]; simp, ?_⟩
              rw [hl]; simp
          obtain ⟨b, d1, r1, e, hb⟩ := hpre
          have hw := waitC_spec hwt e
          have := waits (hltC b (by rw [e]; simp)) hw
          rw [hrs b hb] at this; cases this
      subst hic0
      have hgd : al.getD i noopA = ao := by rw [List.getD_eq_getElem?_getD, hao]; rfl
      simp only [List.map_cons, hgd, runC] at hrun
      cases hsc : stepC call ao st with
      | none => rw [hsc] at hrun; cases hrun
      | some st' =>
      rw [hsc] at hrun
      simp only at hrun
      unfold stepC at hsc
      cases hro : runOps call [ao] ⟨keepF st.fr ao.uses, st.m⟩ with
      | none => rw [hro] at hsc; cases hsc
      | some st1 =>
      rw [hro] at hsc
      simp only at hsc
      injection hsc with hsc; subst hsc
      have hcong : keepF F ao.uses = keepF st.fr ao.uses := keepF_congr fun s hsu => by
        rw [hF s]
        by_cases hw : Wr al (fun j => listed.getD j true = true) s
        · rw [if_pos hw]
        · rw [if_neg hw]
          have hno : ∀ j oj, al[j]? = some oj → oj.dst = some s → listed.getD j true = false := fun j oj hj hd => by
            cases hl : listed.getD j true with
            | false => rfl
            | true => exact absurd ⟨j, oj, hj, hl, hd⟩ hw
          rw [hI s fun ⟨k, ok, hk, hkd, hdk⟩ => by
            have := hno k ok hk hdk
            rw [hds k hkd] at this; cases this]
          refine (hf0 s fun hx => ?_).symm
          obtain ⟨j, oj, hj, hcj, -, hd⟩ := wr_mask.1 hx
          have hji := (freeB_spec hfr hin (hltA hj) hao hj hd hsu).2 hci hcj
          rcases (slotB_spec hsl hin (hltA hj) (by omega) hao hj hd).2 hsu with ⟨h1, h2⟩ | h
          · have := waits (hltA hj) h2
            rw [hno j oj hj hd] at this; cases this
          · omega
      rw [← hcong] at hro
      refine oneC_sound hcall ho hco hro hsr fun a' w' H' hsr' => ?_
      refine ih (listed.setIfInBounds i true) a' w' H' _ (ds ++ [i]) rs' ⟨putf ao.dst (lookD ao.dst st1.fr) st.fr, st1.m⟩ hcn (inv.set hi hin) (by rw [hcs]; simp) (fun k hk => ?_) (fun k hk => ?_) (fun s => ?_) (fun s hs => ?_) (fun hne => ?_) (fun e => ?_) ?_ hsr'
      · rcases List.mem_append.1 hk with h | h
        · by_cases e : i = k
          · subst e; exact getD_set_self _ _
          · rw [getD_set_ne true e]; exact hds k h
        · rw [List.mem_singleton.1 h]; exact getD_set_self _ _
      · have hne : i ≠ k := fun e => by
          subst e
          rw [hcs] at hnd
          exact (List.nodup_cons.1 (List.nodup_append.1 hnd).2.1).1 hk
        rw [getD_set_ne true hne]; exact hrs k (List.mem_cons_of_mem _ hk)
      · show look (putf ao.dst (lookD ao.dst st1.fr) F) s = if Wr al (fun j => (listed.setIfInBounds i true).getD j true = true) s then look (putf ao.dst (lookD ao.dst st1.fr) st.fr) s else look fr0 s
        rw [look_putf, look_putf]
        by_cases hd : ao.dst = some s
        · rw [if_pos hd, if_pos ⟨i, ao, hao, getD_set_self _ _, hd⟩, if_pos hd]
        · rw [if_neg hd, hF s, if_neg hd]
          simp only [setW s hd]
      · show look (putf ao.dst (lookD ao.dst st1.fr) st.fr) s = look fr1 s
        rw [look_putf, if_neg (fun hd => hs ⟨i, ao, hao, by simp, hd⟩)]
        exact hI s fun ⟨k, ok, hk, hkd, hdk⟩ => hs ⟨k, ok, hk, List.mem_append_left _ hkd, hdk⟩
      · cases rs' with
        | nil => exact absurd rfl hne
        | cons c2 r2 =>
          simp only [List.map_cons] at hrun
          split at hrun
          · rename_i fr2 h2
            split at hrun
            · rename_i he
              rw [← eqFB_ok he]; exact h2
            · cases hrun
          · cases hrun
      ·
        subst e
        have hil : i = ops.size - 1 := by
          rw [hcs, List.getLast?_append] at hlast
          simpa using hlast
        have invL : HeadInv md ops (ops.size - 1) listed := ⟨inv.size, inv.closed, fun t ht ht' => by
          have : t = i := by omega
          subst this; exact hun⟩
        have hdone : ∀ k, k < ops.size - 1 → listed.getD k true = true := fun k hk => by
          cases hl : listed.getD k true with
          | true => rfl
          | false => exact absurd hi (tail_waits hsk hch (by omega) invL _ k rfl hk hl i (by omega))
        rw [← hcn]
        have : ∀ n, n ≤ ops.size → cnt (listed.setIfInBounds i true) n = 0 := by
          intro n
          induction n with
          | zero => intro _; rfl
          | succ n ihn =>
            intro hn
            simp only [cnt]
            rw [ihn (by omega)]
            by_cases e : i = n
            · subst e; rw [getD_set_self]; simp
            · rw [getD_set_ne true e, hdone n (by omega)]; simp
        exact this _ (Nat.le_refl _)
      · cases rs' with
        | nil =>
          simp only [List.map_nil] at hrun ⊢
          simp only [runC]; exact hrun
        | cons c2 r2 =>
          simp only [List.map_cons] at hrun ⊢
          split at hrun
          · split at hrun
            · exact hrun
            · cases hrun
          · cases hrun
theorem wp_mregion {call : CallF} (hcall : CallsOk P call) {hint : Hints} {id : Nat} {al : List AOper} {cs : List Nat} {fr fr1 : List (Nat × AV)} {stF : St} {Q : Exit → Act → World → Prop} (hm : P.follows .mixedOrders = true)
    (hc : compOps P hint N ops ops.toList = some al) (hB : mixB .any ops al cs = true) (hr : runX call m (maskL cs 0 al) fr = some fr1) (hrc : runC call (maskL cs 0 al) fr fr1 (cs.map fun i => al.getD i noopA) ⟨fr1, m⟩ = some stF)
    (h : SR X w0 N ⟨fr, m⟩ a { w with drawn := w.drawn + 1 } H) (hQ : ∀ a' w' H', SR X w0 N stF a' w' H' → Q .normal a' w') : (Code.region id ops true).wp P Q a w := by
  refine wp_region_any hm ?_
  have inv0 : HeadInv .any ops ops.size (Array.replicate ops.size false) :=
    ⟨by simp, fun j oj _ hl => (by rw [getD_replicate_false] at hl; cases hl), fun t _ ht => getD_in (by simpa using ht) (getD_replicate_false _ _)⟩
  have hun : ∀ j, j < ops.size → (Array.replicate ops.size false).getD j true = false := fun j hj => getD_in (by simp; omega) (getD_replicate_false _ _)
  have hcnt : ∀ k, k ≤ ops.size → cnt (Array.replicate ops.size false) k = k := by
    intro k
    induction k with
    | zero => intro _; rfl
    | succ k ih => intro hk; simp only [cnt]; rw [ih (by omega), hun k (by omega)]; simp
  have hB' := hB
  simp only [mixB, Bool.and_eq_true, decide_eq_true_eq, beq_iff_eq] at hB'
  obtain ⟨⟨⟨⟨⟨⟨⟨⟨⟨hlen, hsl⟩, -⟩, -⟩, hlt⟩, hlast⟩, -⟩, -⟩, -⟩, -⟩ := hB'
  have hltA : ∀ {j : Nat} {o : AOper}, al[j]? = some o → j < ops.size := fun h => by have := (List.getElem?_eq_some_iff.1 h).1; omega
  have hs1 := (runX_spec (maskL cs 0 al) fr fr1 hr fun i j o o' s hi hj ho ho' => by
      obtain ⟨i', oi, hi', -, e1, hdi⟩ := wr_mask.1 (⟨i, o, hi, rfl, ho⟩ : Wr (maskL cs 0 al) (fun k => k = i) s)
      obtain ⟨j', oj, hj', -, e2, hdj⟩ := wr_mask.1 (⟨j, o', hj, rfl, ho'⟩ : Wr (maskL cs 0 al) (fun k => k = j) s)
      subst e1 e2
      by_cases hij : i' = j'
      · exact hij
      · exact absurd hdi (slotB_spec hsl (hltA hi') (hltA hj') hij hi' hj' hdj).1).1
  refine xmix (md := .any) (hint := hint) hcall (fun i hi => ?_) hB hs1 hQ ops.size _ a _ H fr [] cs ⟨fr1, m⟩ (hcnt _ (Nat.le_refl _)) inv0 rfl (fun i hi => by cases hi) (fun i hi => hun i (of_decide_eq_true (List.all_eq_true.1 hlt i hi))) (fun s => ?_) (fun s _ => rfl) (fun _ => hr) (fun e => ?_) hrc h
  · have hi' : i < ops.toList.length := by simpa using hi
    obtain ⟨ao, h1, h2⟩ := compOps_get hc i (ops.toList[i]) (List.getElem?_eq_getElem hi')
    exact ⟨_, ao, by simp [hi], h1, h2⟩
  · rw [if_neg]
    rintro ⟨j, o, hj, hl, -⟩
    have hl : (Array.replicate ops.size false).getD j true = true := hl
    rw [hun j (hltA hj)] at hl; cases hl
  · subst e; simp at hlast
end
end Go.Proofs.YtienfdjfochlcaaGreatDoor
end
section
namespace Go.Proofs.YtienfdjfochlcaaGreatDoor
set_option linter.unusedVariables false
set_option linter.unusedSimpArgs false
def PostE (X : Nat → Nat → Prop) (w0 : Base) (N : Nat) (r : AExit × St) (e : Exit) (a : Act) (w : World) : Prop :=
 (match r.1, e with
  | .normal, .normal => True
  | .exit i, .exit j => i = j
  | .ret, .ret => True
  | _, _ => False) ∧ ∃ H, SR X w0 N r.2 a w H
theorem exists_least {p : Nat → Prop} : ∀ n : Nat, p n → ∃ n, p n ∧ ∀ k, p k → n ≤ k := by
 intro n
 induction n using Nat.strongRecOn with
 | _ n ih =>
  intro hn
  by_cases h : ∃ k, k < n ∧ p k
  ·obtain ⟨k, hk, hp⟩ := h
   exact ih k hk hp
  ·exact ⟨n, hn, fun k hk => Nat.le_of_not_lt fun hlt => h ⟨k, hlt, hk⟩⟩
noncomputable def sInfN (p : Nat → Prop) : Nat := by
 classical
 exact if h : ∃ n, p n ∧ ∀ k, p k → n ≤ k then h.choose else 0
theorem sInfN_spec {p : Nat → Prop} {n : Nat} (h : p n) : p (sInfN p) ∧ ∀ k, p k → sInfN p ≤ k := by
 classical
 have hex := exists_least n h
 have e : sInfN p = hex.choose := by unfold sInfN; rw [dif_pos hex]
 rw [e]
 exact hex.choose_spec
section
variable {P : Program} {X : Nat → Nat → Prop} {w0 : Base} {w w' : World} {N : Nat} {st : St} {a : Act} {m : List MObj} {H : List Hd} {d : Option Nat}
theorem PostE.normal {st : St} (h : SR X w0 N st a w H) : PostE X w0 N (.normal, st) .normal a w := ⟨trivial, H, h⟩
theorem join_sound {call : CallF} {loop : LoopF} {bb : Nat} (hbb : w0.H.length ≤ bb) {code : Code} {ac : ACode} {o : Option (List Nat)} (ih : ∀ st r, aexec call bb loop ac st = some r → ∀ a w H, SR X w0 N st a w H → code.wp P (PostE X w0 N r) a w) :
    ∀ st r, aexec call bb loop (withJoin o ac) st = some r → ∀ a w H, SR X w0 N st a w H → code.wp P (PostE X w0 N r) a w := by
  intro st r hr a w H hs
  cases o with
  | none => exact ih st r hr a w H hs
  | some k =>
    simp only [withJoin, aexec] at hr
    rcases hq : aexec call bb loop ac st with _ | ⟨ex, st1⟩
    · rw [hq] at hr; cases hr
    · rw [hq] at hr
      refine wp_mono (ih st _ hq a w H hs) fun e a' w' ⟨he, H', hs'⟩ => ?_
      cases ex with
      | normal =>
        simp only [Option.some.injEq] at hr; subst hr
        obtain ⟨H2, hs2⟩ := hs'.norm hbb k
        exact ⟨he, H2, hs2⟩
      | exit i => simp only [Option.some.injEq] at hr; subst hr; exact ⟨he, H', hs'⟩
      | ret => simp only [Option.some.injEq] at hr; subst hr; exact ⟨he, H', hs'⟩
theorem code_sound {call : CallF} {loop : LoopF} {hn : Hints} {bb : Nat} (hbb : w0.H.length ≤ bb) (hcall : CallsOk P call)
    (hloop : ∀ code c keep st r, compCode P hn N code = some c → loop c keep st = some r → ∀ a w H, SR X w0 N st a w H → (Code.loop code).wp P (PostE X w0 N r) a w) :
    ∀ (code : Code) (ac : ACode), compCode P hn N code = some ac → ∀ st r, aexec call bb loop ac st = some r → ∀ a w H, SR X w0 N st a w H → code.wp P (PostE X w0 N r) a w := by
  intro code
  induction code with
  | skip =>
    intro ac hc st r hr a w H hs
    simp only [compCode, Option.some.injEq] at hc; subst hc
    simp only [aexec, Option.some.injEq] at hr; subst hr
    exact wp_skip (.normal hs)
  | label l =>
    intro ac hc st r hr a w H hs
    simp only [compCode, Option.some.injEq] at hc; subst hc
    simp only [aexec, Option.some.injEq] at hr; subst hr
    exact wp_label (.normal hs)
  | exit id =>
    intro ac hc st r hr a w H hs
    simp only [compCode, Option.some.injEq] at hc; subst hc
    simp only [aexec, Option.some.injEq] at hr; subst hr
    exact wp_exit ⟨rfl, H, hs⟩
  | ret =>
    intro ac hc st r hr a w H hs
    simp only [compCode, Option.some.injEq] at hc; subst hc
    simp only [aexec, Option.some.injEq] at hr; subst hr
    exact wp_ret ⟨trivial, H, hs⟩
  | seq x y ihx ihy =>
    intro ac hc st r hr a w H hs
    simp only [compCode] at hc
    split at hc
    · rename_i cx cy hx hy
      injection hc with hc; subst hc
      refine join_sound hbb (fun st r hr a w H hs => ?_) st r hr a w H hs
      simp only [aexec] at hr
      refine wp_seq ?_
      split at hr
      · rename_i st1 h1
        refine wp_mono (ihx cx hx st _ h1 a w H hs) fun e a' w' ⟨he, H', hs'⟩ => ?_
        cases e <;> simp only at he
        exact ihy cy hy st1 r hr a' w' H' hs'
      · rename_i hne
        rcases hq : aexec call bb loop cx st with _ | ⟨ex, st1⟩
        · rw [hq] at hr; cases hr
        · rw [hq] at hr
          injection hr with hr
          refine wp_mono (ihx cx hx st _ hq a w H hs) fun e a' w' ⟨he, H', hs'⟩ => ?_
          cases ex with
          | normal => exact absurd hq (hne st1)
          | exit i =>
            cases e <;> simp only at he
            exact hr ▸ ⟨he, H', hs'⟩
          | ret =>
            cases e <;> simp only at he
            exact hr ▸ ⟨trivial, H', hs'⟩
    · cases hc
  | cond c x y ihx ihy =>
    intro ac hc st r hr a w H hs
    simp only [compCode] at hc
    split at hc
    · rename_i cx cy hx hy
      injection hc with hc; subst hc
      refine join_sound hbb (fun st r hr a w H hs => ?_) st r hr a w H hs
      simp only [aexec] at hr
      have hev := rep_ev hs.frm c
      split at hr
      · rename_i ht
        rw [ht] at hev
        exact wp_cond_true (rep_val hev) (ihx cx hx st r hr a w H hs)
      · rename_i ht
        rw [ht] at hev
        exact wp_cond_false (rep_val hev) (ihy cy hy st r hr a w H hs)
      · cases hr
    · cases hc
  | block id c ih =>
    intro ac hc st r hr a w H hs
    simp only [compCode, Option.map_eq_some_iff] at hc
    obtain ⟨cc, hcc, rfl⟩ := hc
    refine join_sound hbb (fun st r hr a w H hs => ?_) st r hr a w H hs
    simp only [aexec] at hr
    refine wp_block ?_
    split at hr
    · rename_i i st1 h1
      refine wp_mono (ih cc hcc st _ h1 a w H hs) fun e a' w' ⟨he, H', hs'⟩ => ?_
      cases e <;> simp only at he
      subst he
      simp only [Exit.inBlock]
      split at hr
      · rename_i hid
        injection hr with hr; subst hr
        rw [if_pos hid]
        exact ⟨trivial, H', hs'⟩
      · rename_i hid
        injection hr with hr; subst hr
        rw [if_neg hid]
        exact ⟨rfl, H', hs'⟩
    · rename_i hne
      rcases hq : aexec call bb loop cc st with _ | ⟨ex, st1⟩
      · rw [hq] at hr; cases hr
      · rw [hq] at hr
        injection hr with hr
        refine wp_mono (ih cc hcc st _ hq a w H hs) fun e a' w' ⟨he, H', hs'⟩ => ?_
        cases ex with
        | normal =>
          cases e <;> simp only at he
          exact hr ▸ ⟨trivial, H', hs'⟩
        | exit i => exact absurd hq (hne i st1)
        | ret =>
          cases e <;> simp only at he
          exact hr ▸ ⟨trivial, H', hs'⟩
  | loop c ih =>
    intro ac hc st r hr a w H hs
    simp only [compCode, Option.map_eq_some_iff] at hc
    obtain ⟨cc, hcc, rfl⟩ := hc
    simp only [aexec] at hr
    exact hloop c cc _ _ r hcc hr a w H hs
  | region id ops draw =>
    intro ac hc st r hr a w H hs
    simp only [compCode] at hc
    split at hc
    · rename_i l hl
      split at hc
      · rename_i hd
        subst hd
        split at hc
        · split at hc
          · rename_i cs hcs hB
            injection hc with hc; subst hc
            refine join_sound hbb (fun st r hr a w H hs => ?_) st r hr a w H hs
            simp only [Bool.and_eq_true] at hB
            simp only [aexec] at hr
            split at hr
            · rename_i fr1 hq
              split at hr
              · rename_i stF ht
                injection hr with hr; subst hr
                have hf1 : Fr (fun _ => False) w { w with drawn := w.drawn + 1 } := ⟨rfl, rfl, rfl, Nat.le_refl _, fun _ _ _ => rfl⟩
                exact wp_mregion hcall hB.2 hl hB.1 hq ht (hs.ext hf1) fun a' w' H' hs' => ⟨trivial, H', hs'.drop _⟩
              · cases hr
            · cases hr
          · cases hc
        · split at hc
          · rename_i hB
            injection hc with hc; subst hc
            refine join_sound hbb (fun st r hr a w H hs => ?_) st r hr a w H hs
            simp only [Bool.and_eq_true] at hB
            simp only [aexec] at hr
            split at hr
            · rename_i fr hq
              split at hr
              · rename_i st1 ht
                injection hr with hr; subst hr
                have hf1 : Fr (fun _ => False) w { w with drawn := w.drawn + 1 } := ⟨rfl, rfl, rfl, Nat.le_refl _, fun _ _ _ => rfl⟩
                obtain ⟨s1, s2⟩ := compOps_split ops.toList l ((assocN hn.tails id).getD ops.size) hl
                refine wp_xregion hcall hB.2 hl hB.1 hq (hs.ext hf1) fun a' w' H' hs' => ?_
                exact runOps_sound hcall _ _ _ st1 a' _ H' s2 ht hs' fun a'' w'' H'' hs'' => ⟨trivial, H'', hs''.drop _⟩
              · cases hr
            · cases hr
          · cases hc
      · rename_i hd
        have hd : draw = false := by simpa using hd
        subst hd
        injection hc with hc; subst hc
        refine join_sound hbb (fun st r hr a w H hs => ?_) st r hr a w H hs
        simp only [aexec] at hr
        split at hr
        · rename_i st1 h1
          injection hr with hr; subst hr
          exact wp_region_list (runOps_sound hcall ops.toList l st st1 a w H hl h1 hs fun a' w' H' hs' => ⟨trivial, H', hs'.drop _⟩)
        · cases hr
    · cases hc
  | rangeFunc f ps x y _ _ => intro ac hc; simp [compCode] at hc
  | scope c ih =>
    intro ac hc st r hr a w H hs
    simp only [compCode] at hc
    refine wp_scope_straight (wp_mono (ih ac hc st r hr a w H hs) fun e a' w' h => ?_)
    cases e <;> first | exact h | (exact absurd h.1 (by cases r.1 <;> simp))
  | goto l => intro ac hc; simp [compCode] at hc
  | refuse s => intro ac hc; simp [compCode] at hc
theorem rep_nilCell {S : Nat → Nat → Prop} {w : World} {H : List Hd} {v : Value} {y : AV} (h : Rep S w H v y) (sz : Nat) : Rep S w H v (nilCell sz y) := by
 unfold nilCell
 split
 ·have := rep_val h
  subst this
  exact Rep.slice (l := []) 0 0 sz (fun _ _ => undef) (Nat.le_refl _) (fun _ => rfl) (fun h => by simp at h) (fun i x hx => by simp at hx) (fun i x j y hx => by simp at hx) (fun i x j y hx => by simp at hx)
 ·exact h
theorem rep_nilCells {S : Nat → Nat → Prop} {w : World} {H : List Hd} {cs : Array Value} : ∀ (offs : List (Nat × Nat)) (l : List AV), cs.size = l.length → (∀ (i : Nat) (y : AV), l[i]? = some y → Rep S w H (cs.getD i undef) y) → cs.size = (nilCells offs l).length ∧ ∀ (i : Nat) (y : AV), (nilCells offs l)[i]? = some y → Rep S w H (cs.getD i undef) y
 | [], l, hn, h => ⟨hn, h⟩
 | (o, sz) :: r, l, hn, h => by
  simp only [nilCells]
  split
  ·rename_i x hx
   refine rep_nilCells r _ (by simpa using hn) fun i y hy => ?_
   rw [List.getElem?_set] at hy
   split at hy
   ·rename_i e
    subst e
    split at hy
    ·injection hy with hy; subst hy
     exact rep_nilCell (h _ _ hx) sz
    ·cases hy
   ·exact h i y hy
  ·exact rep_nilCells r l hn h
theorem rep_nilN {S : Nat → Nat → Prop} {w : World} {H : List Hd} {v : Value} {y : AV} (h : Rep S w H v y) (offs : List (Nat × Nat)) : Rep S w H v (nilN offs y) := by
 unfold nilN
 split
 ·obtain ⟨cs, rfl, hn, hc⟩ := rep_agg h
  obtain ⟨g1, g2⟩ := rep_nilCells offs _ hn hc
  exact .agg g1 g2
 ·split
  ·exact rep_nilCell h _
  ·exact h
theorem results_sound {st : St} (hs : SR X w0 N st a w H) : ∀ (l : List ResultVar) (ts : List TypeId) (al : List ARes) (rs : List AV), compResL P l ts = some al → resL st al = some rs →
    ∃ vs : List Value, (l.mapM (fun (x : ResultVar) => (match x with | .tmp t => pure (a.tmps.getD t undef) | .cell t ty => do loadVar ty (← asAddr (a.tmps.getD t undef)) : Sem Value))).run P w = .ok vs w ∧ vs.length = rs.length ∧ ∀ (i : Nat) (y : AV), rs[i]? = some y → Rep (Stab X [] w) w [] (vs.getD i undef) y
  | [], ts, al, rs, hc, hr => by
    simp [compResL] at hc; subst hc
    simp [resL] at hr; subst hr
    exact ⟨[], by simp, rfl, fun i y hy => by simp at hy⟩
  | x :: l, ts, al, rs, hc, hr => by
    simp only [compResL] at hc
    split at hc
    · rename_i ax al' hx hl
      injection hc with hc; subst hc
      simp only [resL] at hr
      split at hr
      · rename_i r1 rs' h1 h2
        injection hr with hr; subst hr
        obtain ⟨vs, g1, g2, g3⟩ := results_sound hs l ts.tail al' rs' hl h2
        have frzok : ∀ {v y y'}, Rep (Stab X H w) w H v y → frz st.m y = some y' → Rep (Stab X [] w) w [] v y' := by
          intro v y y' hv hf
          refine (frz_rep hs.mem hv hf (fun b o q => ⟨q.1, q.2.1, by rintro ⟨i, k, hk, _⟩; simp at hk⟩) fun z _ id ver used off len _ b cap sz cver cused wr hH hc hb o _ => ⟨hb, fun hx => ?_, by rintro ⟨i, k, hk, _⟩; simp at hk⟩).1
          exact hs.xb b ⟨o, hx⟩ id _ hH (by simp [Hd.blk, hc])
        have key : ∃ v, (match x with | .tmp t => pure (a.tmps.getD t undef) | .cell t ty => do loadVar ty (← asAddr (a.tmps.getD t undef)) : Sem Value).run P w = .ok v w ∧ Rep (Stab X [] w) w [] v r1 := by
          cases x with
          | tmp t =>
            simp only [compRes, Option.some.injEq] at hx
            subst hx
            simp only [resOf, Option.map_eq_some_iff] at h1
            obtain ⟨y', h1, rfl⟩ := h1
            exact ⟨_, rfl, rep_nilN (frzok (hs.frm t) h1) _⟩
          | cell t ty =>
            simp only [compRes] at hx
            split at hx
            · rename_i n ag hn hag
              injection hx with hx; subst hx
              simp only [resOf, Option.map_eq_some_iff, Option.bind_eq_some_iff] at h1
              obtain ⟨y', ⟨y, ⟨cs, hcs, hmk⟩, hf⟩, rfl⟩ := h1
              have hp : (cellsAt st.m (look st.fr t)).bind (mkV (n + 1) ag) = some y := by simp [hcs, hmk]
              obtain ⟨v, q1, q2⟩ := s_load hn hag hs.mem (hs.frm t) hp
              refine ⟨v, ?_, rep_nilN (frzok q2 hf) _⟩
              have hq := q1 w (Ext.refl w)
              obtain ⟨hle, _⟩ := mkV_some hmk
              obtain ⟨b, o, u, e, _, _⟩ := rep_cellsAt hs.mem (hs.frm t) hcs (by omega)
              show (do loadVar ty (← asAddr (a.tmps.getD t undef)) : Sem Value).run P w = .ok v w
              rw [e] at hq ⊢
              simpa [Instr.loadAt, Instr.sureAddr, asAddr] using hq
            · cases hx
        obtain ⟨v, k1, k2⟩ := key
        refine ⟨v :: vs, ?_, by simp [g2], fun i y hy => ?_⟩
        · simp only [List.mapM_cons, Sem.run_bind, k1, Result.andThen_ok, g1, Sem.run_pure]
        · cases i with
          | zero => simp at hy; subst hy; simpa using k2
          | succ i => simp at hy; simpa using g3 i y hy
      · cases hr
    · cases hc
theorem resultsM_sound {st : St} (hs : SR X w0 N st a w H) : ∀ (l : List ResultVar) (ts : List TypeId) (al : List ARes) (rs : List AV), compResL P l ts = some al → resLM st al = some rs →
    ∃ vs : List Value, (l.mapM (fun (x : ResultVar) => (match x with | .tmp t => pure (a.tmps.getD t undef) | .cell t ty => do loadVar ty (← asAddr (a.tmps.getD t undef)) : Sem Value))).run P w = .ok vs w ∧ vs.length = rs.length ∧ ∀ (i : Nat) (y : AV), rs[i]? = some y → Rep (Stab X H w) w H (vs.getD i undef) y
  | [], ts, al, rs, hc, hr => by
    simp [compResL] at hc; subst hc
    simp [resLM] at hr; subst hr
    exact ⟨[], by simp, rfl, fun i y hy => by simp at hy⟩
  | x :: l, ts, al, rs, hc, hr => by
    simp only [compResL] at hc
    split at hc
    · rename_i ax al' hx hl
      injection hc with hc; subst hc
      simp only [resLM] at hr
      split at hr
      · rename_i r1 rs' h1 h2
        injection hr with hr; subst hr
        obtain ⟨vs, g1, g2, g3⟩ := resultsM_sound hs l ts.tail al' rs' hl h2
        have key : ∃ v, (match x with | .tmp t => pure (a.tmps.getD t undef) | .cell t ty => do loadVar ty (← asAddr (a.tmps.getD t undef)) : Sem Value).run P w = .ok v w ∧ Rep (Stab X H w) w H v r1 := by
          cases x with
          | tmp t =>
            simp only [compRes, Option.some.injEq] at hx
            subst hx
            simp only [resOfM, Option.some.injEq] at h1
            subst h1
            exact ⟨_, rfl, hs.frm t⟩
          | cell t ty =>
            simp only [compRes] at hx
            split at hx
            · rename_i n ag hn hag
              injection hx with hx; subst hx
              simp only [resOfM] at h1
              have hp := h1
              simp only [Option.bind_eq_some_iff] at h1
              obtain ⟨cs, hcs, hmk⟩ := h1
              obtain ⟨v, q1, q2⟩ := s_load hn hag hs.mem (hs.frm t) hp
              refine ⟨v, ?_, q2⟩
              have hq := q1 w (Ext.refl w)
              obtain ⟨hle, _⟩ := mkV_some hmk
              obtain ⟨b, o, u, e, _, _⟩ := rep_cellsAt hs.mem (hs.frm t) hcs (by omega)
              show (do loadVar ty (← asAddr (a.tmps.getD t undef)) : Sem Value).run P w = .ok v w
              rw [e] at hq ⊢
              simpa [Instr.loadAt, Instr.sureAddr, asAddr] using hq
            · cases hx
        obtain ⟨v, k1, k2⟩ := key
        refine ⟨v :: vs, ?_, by simp [g2], fun i y hy => ?_⟩
        · simp only [List.mapM_cons, Sem.run_bind, k1, Result.andThen_ok, g1, Sem.run_pure]
        · cases i with
          | zero => simp at hy; subst hy; simpa using k2
          | succ i => simp at hy; simpa using g3 i y hy
      · cases hr
    · cases hc
theorem look_enter (s : Nat) : ∀ (n i : Nat) (l : List AV), look (enterF n i l) s = if i ≤ s then (l[s - i]?).getD .any else .any
 | n, i, [] => by simp [enterF, look]
 | n, i, v :: r => by
  simp only [enterF, look]
  split
  ·rename_i h; subst h; simp
  ·rename_i h
   rw [look_enter s n (i + 1) r]
   by_cases hle : i ≤ s
   ·rw [if_pos hle, if_pos (by omega), show s - i = (s - (i + 1)) + 1 from by omega]
    simp
   ·rw [if_neg hle, if_neg (by omega)]
theorem body_sound {call : CallF} {loop : LoopF} {hn : Hints} {f : FuncId} {af : AFunc} (hf : compFunc P hn f = some af) (hcall : CallsOk P call)
    (hloop : ∀ (N : Nat) (X : Nat → Nat → Prop) (w0 : Base) code c keep st r, w0.H.length ≤ 0 → compCode P hn N code = some c → loop c keep st = some r → ∀ a w H, SR X w0 N st a w H → (Code.loop code).wp P (PostE X w0 N r) a w)
    {args : List AV} {r : AV} (hr : runBody call loop af args = some r) : CallOk P f args r := by
  intro X w vs hX hgl hargs
  unfold compFunc at hf
  split at hf
  · rename_i fn hfn
    split at hf
    · rename_i c hb
      split at hf
      · rename_i ac rs hac hrs
        split at hf
        · rename_i hle
          obtain ⟨hle, hname⟩ := hle
          injection hf with hf; subst hf
          unfold runBody at hr
          split at hr
          · rename_i hlen
            simp only at hlen
            have hvs : vs.size = (fn.params.size + fn.nfree) := by rw [hargs.1, hlen]
            have hs0 : SR X ⟨w, w, []⟩ fn.ntmps ⟨enterF (fn.params.size + fn.nfree) 0 args, []⟩ ⟨vs ++ Array.replicate (fn.ntmps - vs.size) undef, []⟩ w [] := by
              refine ⟨rfl, by simp; omega, ⟨fun s => ?_, hgl⟩, ⟨rfl, fun i o h ho => by simp at ho, fun i h b hh => by simp at hh, fun i j h k b hh => by simp at hh⟩, Fr.refl _ _, fun i h b hh => by simp at hh, hX, Goes.refl⟩
              rw [look_enter, if_pos (Nat.zero_le _), Nat.sub_zero]
              rcases hq : args[s]? with _ | y
              · exact .any _ _
              · have := hargs.2 s y hq
                have hlt : s < vs.size := by rw [hargs.1]; exact (List.getElem?_eq_some_iff.1 hq).1
                have e : (vs ++ Array.replicate (fn.ntmps - vs.size) undef).getD s undef = vs.getD s undef := by
                  simp only [Array.getD_eq_getD_getElem?]
                  rw [Array.getElem?_append_left hlt]
                rw [e]; exact this
            have fin : ∀ ex st, aexec call 0 loop ac ⟨enterF (fn.params.size + fn.nfree) 0 args, []⟩ = some (ex, st) → (ex = .normal ∨ ex = .ret) → (resL st rs).map mkRes = some r → Calls P f vs w fun e w' => ∃ v, e = .returned v ∧ Rep (Stab X [] w') w' [] v r ∧ Fr (fun _ => False) w w' := by
              intro ex st hex hor hres
              simp only [Option.map_eq_some_iff] at hres
              obtain ⟨ys, hys, rfl⟩ := hres
              refine calls_of_wp hfn hb (wp_mono (code_sound (bb := 0) (Nat.le_refl _) hcall (fun code c keep st r => hloop _ _ _ code c keep st r (Nat.zero_le _)) c ac hac _ _ hex _ _ _ hs0) fun e a' w' ⟨he, H', hs'⟩ => ?_)
              have hpost : a'.defers = [] ∧ ∃ v, (results fn a'.tmps).run P w' = .ok v w' ∧ ∃ v', (Ending.returned v = .returned v') ∧ Rep (Stab X [] w') w' [] v' (mkRes ys) ∧ Fr (fun _ => False) w w' := by
                refine ⟨hs'.dfr, ?_⟩
                obtain ⟨us, q1, q2, q3⟩ := results_sound (P := P) hs' fn.results.toList _ rs ys hrs hys
                refine ⟨if h : us.toArray.size = 1 then us.toArray[0] else .tuple us.toArray, ?_, _, rfl, ?_, hs'.grw⟩
                · have hm : results fn a'.tmps = (do
                      let vs ← Functor.map List.toArray (fn.results.toList.mapM (fun (x : ResultVar) => (match x with | .tmp t => pure (a'.tmps.getD t undef) | .cell t ty => do loadVar ty (← asAddr (a'.tmps.getD t undef)) : Sem Value)))
                      pure (if h : vs.size = 1 then vs[0] else .tuple vs)) := by
                    unfold results
                    rw [Array.mapM_eq_mapM_toList]
                    rfl
                  rw [hm]
                  simp only [Sem.run_bind, map_eq_pure_bind, q1, Result.andThen_ok, Sem.run_pure]
                · by_cases h1 : us.length = 1
                  · have hy1 : ∃ y, ys = [y] := by
                      match ys, (by omega : ys.length = 1) with
                      | [y], _ => exact ⟨y, rfl⟩
                    obtain ⟨y, rfl⟩ := hy1
                    rw [dif_pos (by simpa using h1)]
                    have := q3 0 y rfl
                    simp only [mkRes]
                    have e : us.toArray[0]'(by simpa using (by omega : 0 < us.length)) = us.getD 0 undef := by
                      simp [List.getD_eq_getElem?_getD, show 0 < us.length from by omega]
                    rw [e]; exact this
                  · rw [dif_neg (by simpa using h1)]
                    have e : mkRes ys = .tuple ys := by
                      match ys, (by omega : ys.length ≠ 1) with
                      | [], _ => rfl
                      | [y], h => exact absurd rfl h
                      | _ :: _ :: _, _ => rfl
                    rw [e]
                    exact .tuple (by simpa using q2) fun i y hy => by
                      have := q3 i y hy
                      simpa [Array.getD_eq_getD_getElem?, List.getD_eq_getElem?_getD] using this
              rcases hor with rfl | rfl
              · cases e <;> simp only at he
                exact hpost
              · cases e <;> simp only at he
                exact hpost
            split at hr
            · rename_i st hex; exact fin _ st hex (.inl rfl) hr
            · rename_i st hex; exact fin _ st hex (.inr rfl) hr
            · cases hr
          · cases hr
        · cases hf
      · cases hf
    · cases hf
  · cases hf
theorem bodyM_sound {bb : Nat} {call : CallF} {loop : LoopF} {hn : Hints} {f : FuncId} {af : AFunc} (hf : compFunc P hn f = some af) (hcall : CallsOk P call)
    (hloop : ∀ (N : Nat) (X : Nat → Nat → Prop) (w0 : Base) code c keep st r, w0.H.length ≤ bb → compCode P hn N code = some c → loop c keep st = some r → ∀ a w H, SR X w0 N st a w H → (Code.loop code).wp P (PostE X w0 N r) a w)
    {args : List AV} {m m' : List MObj} {r : AV} (hbb : bb = m.length) (hr : runBodyM call loop af args m = some (r, m')) : CallOkM P f args m r m' := by
  unfold compFunc at hf
  split at hf
  · rename_i fn hfn
    split at hf
    · rename_i c hb
      split at hf
      · rename_i ac rs hac hrs
        split at hf
        · rename_i hle
          obtain ⟨hle, hname⟩ := hle
          injection hf with hf; subst hf
          refine ⟨⟨fn, hfn, by rw [hb]; rfl, hname⟩, fun X o w H vs hm0 hg0 hn0 hX hgl hargs => ?_⟩
          unfold runBodyM at hr
          rw [← hbb] at hr
          split at hr
          · rename_i hlen
            simp only at hlen
            have hvs : vs.size = (fn.params.size + fn.nfree) := by rw [hargs.1, hlen]
            have hs0 : SR X ⟨o, w, H⟩ fn.ntmps ⟨enterF (fn.params.size + fn.nfree) 0 args, m⟩ ⟨vs ++ Array.replicate (fn.ntmps - vs.size) undef, []⟩ w H := by
              refine ⟨rfl, by simp; omega, ⟨fun s => ?_, hgl⟩, hm0, hg0, hn0, hX, Goes.refl⟩
              rw [look_enter, if_pos (Nat.zero_le _), Nat.sub_zero]
              rcases hq : args[s]? with _ | y
              · exact .any _ _
              · have := hargs.2 s y hq
                have hlt : s < vs.size := by rw [hargs.1]; exact (List.getElem?_eq_some_iff.1 hq).1
                have e : (vs ++ Array.replicate (fn.ntmps - vs.size) undef).getD s undef = vs.getD s undef := by
                  simp only [Array.getD_eq_getD_getElem?]
                  rw [Array.getElem?_append_left hlt]
                rw [e]; exact this
            have fin : ∀ ex st, aexec call bb loop ac ⟨enterF (fn.params.size + fn.nfree) 0 args, m⟩ = some (ex, st) → (ex = .normal ∨ ex = .ret) → (resLM st rs).map (fun l => packR (hn.ms.contains 2000000) bb (mkRes l) st.m) = some (r, m') → Calls P f vs w fun e w' => ∃ v H', e = .returned v ∧ Rep (Stab X H' w') w' H' v r ∧ MemAt X w' m' H' ∧ Fr (fun _ => False) o w' ∧ (∀ (i : Nat) (h : Hd) (b : Nat), H'[i]? = some h → h.blk = some b → o.heap.size ≤ b) ∧ Goes X w H w' H' := by
              intro ex st hex hor hres
              simp only [Option.map_eq_some_iff] at hres
              obtain ⟨ys, hys, he0⟩ := hres
              have he1 : (packR (hn.ms.contains 2000000) bb (mkRes ys) st.m).1 = r := congrArg Prod.fst he0
              have he2 : (packR (hn.ms.contains 2000000) bb (mkRes ys) st.m).2 = m' := congrArg Prod.snd he0
              subst he1 he2
              refine calls_of_wp hfn hb (wp_mono (code_sound (bb := bb) (by rw [hbb, ← hm0.len]; exact Nat.le_refl _) hcall (fun code c keep st r => hloop _ _ _ code c keep st r (by rw [hbb, ← hm0.len]; exact Nat.le_refl _)) c ac hac _ _ hex _ _ _ hs0) fun e a' w' ⟨he, H', hs'⟩ => ?_)
              have hpost : a'.defers = [] ∧ ∃ v, (results fn a'.tmps).run P w' = .ok v w' ∧ ∃ v' H', (Ending.returned v = .returned v') ∧ Rep (Stab X H' w') w' H' v' (packR (hn.ms.contains 2000000) bb (mkRes ys) st.m).1 ∧ MemAt X w' (packR (hn.ms.contains 2000000) bb (mkRes ys) st.m).2 H' ∧ Fr (fun _ => False) o w' ∧ (∀ (i : Nat) (h : Hd) (b : Nat), H'[i]? = some h → h.blk = some b → o.heap.size ≤ b) ∧ Goes X w H w' H' := by
                refine ⟨hs'.dfr, ?_⟩
                obtain ⟨us, q1, q2, q3⟩ := resultsM_sound (P := P) hs' fn.results.toList _ rs ys hrs hys
                have hrep : Rep (Stab X H' w') w' H' (if h : us.toArray.size = 1 then us.toArray[0] else .tuple us.toArray) (mkRes ys) := by
                  by_cases h1 : us.length = 1
                  · have hy1 : ∃ y, ys = [y] := by
                      match ys, (by omega : ys.length = 1) with
                      | [y], _ => exact ⟨y, rfl⟩
                    obtain ⟨y, rfl⟩ := hy1
                    rw [dif_pos (by simpa using h1)]
                    have := q3 0 y rfl
                    simp only [mkRes]
                    have e : us.toArray[0]'(by simpa using (by omega : 0 < us.length)) = us.getD 0 undef := by
                      simp [List.getD_eq_getElem?_getD, show 0 < us.length from by omega]
                    rw [e]; exact this
                  · rw [dif_neg (by simpa using h1)]
                    have e : mkRes ys = .tuple ys := by
                      match ys, (by omega : ys.length ≠ 1) with
                      | [], _ => rfl
                      | [y], h => exact absurd rfl h
                      | _ :: _ :: _, _ => rfl
                    rw [e]
                    exact .tuple (by simpa using q2) fun i y hy => by
                      have := q3 i y hy
                      simpa [Array.getD_eq_getD_getElem?, List.getD_eq_getElem?_getD] using this
                obtain ⟨H2, k1, k2⟩ := hs'.packR (b := bb) (pk := hn.ms.contains 2000000) (by rw [hbb, ← hm0.len]; exact Nat.le_refl _) hrep
                refine ⟨if h : us.toArray.size = 1 then us.toArray[0] else .tuple us.toArray, ?_, _, H2, rfl, k2, k1.mem, k1.grw, k1.new, k1.since⟩
                · have hm : results fn a'.tmps = (do
                      let vs ← Functor.map List.toArray (fn.results.toList.mapM (fun (x : ResultVar) => (match x with | .tmp t => pure (a'.tmps.getD t undef) | .cell t ty => do loadVar ty (← asAddr (a'.tmps.getD t undef)) : Sem Value)))
                      pure (if h : vs.size = 1 then vs[0] else .tuple vs)) := by
                    unfold results
                    rw [Array.mapM_eq_mapM_toList]
                    rfl
                  rw [hm]
                  simp only [Sem.run_bind, map_eq_pure_bind, q1, Result.andThen_ok, Sem.run_pure]
              rcases hor with rfl | rfl
              · cases e <;> simp only at he
                exact hpost
              · cases e <;> simp only at he
                exact hpost
            split at hr
            · rename_i st hex; exact fin _ st hex (.inl rfl) hr
            · rename_i st hex; exact fin _ st hex (.inr rfl) hr
            · cases hr
          · cases hr
        · cases hf
      · cases hf
    · cases hf
  · cases hf
theorem loop_sound {call : CallF} {hn : Hints} (hcall : CallsOk P call) {bb : Nat} :
    ∀ k, ∀ (N : Nat) (X : Nat → Nat → Prop) (w0 : Base) code c keep st r, w0.H.length ≤ bb → compCode P hn N code = some c → loopK call bb k c keep st = some r → ∀ a w H, SR X w0 N st a w H → (Code.loop code).wp P (PostE X w0 N r) a w := by
  intro k
  induction k using Nat.strongRecOn with
  | _ k ih =>
    intro N X w0 code c keep st r hbb hc hr a w H hs
    let T : Act → World → Nat → Prop := fun a w j => ∃ st H, SR X w0 N st a w H ∧ loopK call bb j c keep st = some r
    refine wp_loop (fun a w => ∃ j, j ≤ k ∧ T a w j) (fun a w => sInfN (T a w)) ⟨k, Nat.le_refl k, st, H, hs, hr⟩ ?_
    intro a w ⟨j0, hj0, hT0⟩
    obtain ⟨hT, hmin⟩ := sInfN_spec hT0
    generalize hj : sInfN (T a w) = j at hT hmin
    have hjk : j ≤ k := Nat.le_trans (hmin j0 hT0) hj0
    obtain ⟨st, H, hs, hr⟩ := hT
    cases j with
    | zero => simp [loopK] at hr
    | succ j =>
      simp only [loopK] at hr
      obtain ⟨H0, hs⟩ := hs.norm hbb keep
      have body : ∀ ex st', aexec call bb (loopK call bb j) c (normSt bb keep st) = some (ex, st') → code.wp P (PostE X w0 N (ex, st')) a w := fun ex st' hex =>
        code_sound (bb := bb) hbb hcall (fun code c keep st r => ih j (by omega) N X w0 code c keep st r hbb) code c hc _ _ hex a w H0 hs
      split at hr
      · rename_i st' hex
        refine wp_mono (body _ st' hex) fun e a' w' ⟨he, H', hs'⟩ => ?_
        cases e <;> simp only at he
        refine ⟨⟨j, by omega, _, H', hs', hr⟩, ?_⟩
        have : sInfN (T a' w') ≤ j := (sInfN_spec (p := T a' w') ⟨_, H', hs', hr⟩).2 j ⟨_, H', hs', hr⟩
        omega
      · rename_i hne
        rcases hq : aexec call bb (loopK call bb j) c (normSt bb keep st) with _ | ⟨ex, st1⟩
        · rw [hq] at hr; cases hr
        · rw [hq] at hr
          injection hr with hr
          refine wp_mono (body ex st1 hq) fun e a' w' ⟨he, H', hs'⟩ => ?_
          cases ex with
          | normal => exact absurd hq (hne st1)
          | exit i =>
            cases e <;> simp only at he
            exact hr ▸ ⟨he, H', hs'⟩
          | ret =>
            cases e <;> simp only at he
            exact hr ▸ ⟨trivial, H', hs'⟩
theorem run_sound {F : FuncId → Option AFunc} {Ext : CallF} (hF : ∀ f af, F f = some af → ∃ hn, compFunc P hn f = some af) (hE : CallsOk P Ext) :
    ∀ n, CallsOk P (runF F Ext n) := by
  intro n
  induction n with
  | zero => exact ⟨fun f vs r h => by simp [runF] at h, fun f vs m r m' h => by simp [runF] at h⟩
  | succ n ih =>
    refine ⟨fun f vs r hr => ?_, fun f vs m r m' hr => ?_⟩
    · simp only [runF] at hr
      split at hr
      · rename_i af haf
        obtain ⟨hn, hc⟩ := hF f af haf
        exact body_sound hc ih (fun N X w0 code c keep st r => loop_sound ih n N X w0 code c keep st r) hr
      · exact hE.1 f vs r hr
    · simp only [runF] at hr
      split at hr
      · rename_i af haf
        obtain ⟨hn, hc⟩ := hF f af haf
        exact bodyM_sound hc ih (fun N X w0 code c keep st r => loop_sound ih n N X w0 code c keep st r) rfl hr
      · exact hE.2 f vs m r m' hr
end
end Go.Proofs.YtienfdjfochlcaaGreatDoor
end
section
namespace Go.Proofs.YtienfdjfochlcaaGreatDoor
set_option linter.unusedVariables false
set_option linter.unusedSimpArgs false
def insL (x : Nat) : List Nat → List Nat
 | [] => [x]
 | y :: r => if x ≤ y then x :: y :: r else y :: insL x r
def sortL (l : List Nat) : List Nat := l.foldr insL []
def tmpsOf (xs : List Operand) : List Nat := xs.filterMap fun | .tmp t => some t | _ => none
def opReads (ops : Array Oper) (o : Oper) : List Nat := tmpsOf o.op.operands.toList ++ (match o.guard with | some (j, _) => ((ops[j]?).bind (·.dst)).toList | none => [])
def addL (l : List Nat) (x : Nat) : List Nat := if l.contains x then l else l ++ [x]
def unionL (l k : List Nat) : List Nat := k.foldl addL l
def regUE (ops : Array Oper) : List Nat := (ops.toList.foldl (fun (s : List Nat × List Nat) o => ((opReads ops o).foldl (fun u t => if s.2.contains t then u else addL u t) s.1, s.2 ++ o.dst.toList)) ([], [])).1
def regDsts (ops : Array Oper) : List Nat := ops.toList.filterMap (·.dst)
def regAll (ops : Array Oper) : List Nat := ops.toList.foldl (fun l o => unionL (unionL l (opReads ops o)) o.dst.toList) []
def lvE (ex : List (Nat × List Nat)) (id : Nat) : List Nat := assocL ex id
def lv (res : List Nat) : Code → List Nat → List (Nat × List Nat) → List Nat
 | .region _ ops _, out, _ => unionL (regUE ops) (out.filter fun s => !(regDsts ops).contains s)
 | .seq a b, out, ex => lv res a (lv res b out ex) ex
 | .cond c a b, out, ex => unionL (unionL (tmpsOf [c]) (lv res a out ex)) (lv res b out ex)
 | .block id c, out, ex => lv res c out ((id, out) :: ex)
 | .loop c, _, ex => lv res c [] ex
 | .scope c, out, ex => lv res c out ex
 | .exit id, _, ex => lvE ex id
 | .ret, _, _ => res
 | _, out, _ => out
structure Joins where
 c : List (Nat × List Nat) := []
 b : List (Nat × List Nat) := []
 s : List (Nat × List Nat) := []
 r : List (Nat × List Nat) := []
def Joins.app (x y : Joins) : Joins := ⟨x.c ++ y.c, x.b ++ y.b, x.s ++ y.s, x.r ++ y.r⟩
def isCond : Code → Bool
 | .cond .. => true
 | _ => false
def joinsC (res : List Nat) : Code → List Nat → List (Nat × List Nat) → Joins
 | .region id ops _, out, _ => if ops.toList.any (fun o => o.guard.isSome) then { r := [(id, sortL out)] } else {}
 | .seq a b, out, ex =>
  let la := lv res b out ex
  let x := joinsC res a la ex
  let y := joinsC res b out ex
  if isCond b then
   let x := match a with | .region .. => { x with r := [] } | _ => x
   match firstR a with
   | some k => ({ s := [(k, sortL (unionL out (assocL x.s k)))] } : Joins).app (x.app y)
   | none => x.app y
  else x.app y
 | .cond _ a b, out, ex =>
  let x := joinsC res a out ex
  let y := joinsC res b out ex
  match (firstR a).orElse fun _ => firstR b with
  | some k => ({ c := [(k, sortL (unionL (unionL out (assocL x.c k)) (assocL y.c k)))] } : Joins).app (x.app y)
  | none => x.app y
 | .block id c, out, ex => ({ b := [(id, sortL out)] } : Joins).app (joinsC res c out ((id, out) :: ex))
 | .loop c, _, ex => joinsC res c (lv res c [] ex) ex
 | .scope c, out, ex => joinsC res c out ex
 | _, _, _ => {}
def hintsC (res : List Nat) : Code → List Nat → List (Nat × List Nat) → List (Nat × List Nat) × List (Nat × List Nat)
 | .region id ops _, out, _ => ([(id, (regAll ops).filter fun s => !out.contains s)], [])
 | .seq a b, out, ex =>
  let x := hintsC res a (lv res b out ex) ex
  let y := hintsC res b out ex
  (x.1 ++ y.1, x.2 ++ y.2)
 | .cond _ a b, out, ex =>
  let x := hintsC res a out ex
  let y := hintsC res b out ex
  (x.1 ++ y.1, x.2 ++ y.2)
 | .block id c, out, ex => hintsC res c out ((id, out) :: ex)
 | .loop c, _, ex =>
  let l := lv res c [] ex
  let x := hintsC res c l ex
  (x.1, (firstId c, sortL l) :: x.2)
 | .scope c, out, ex => hintsC res c out ex
 | _, _, _ => ([], [])
def regionsOf : Code → List (Nat × Array Oper × Bool)
 | .region id ops d => [(id, ops, d)]
 | .seq a b => regionsOf a ++ regionsOf b
 | .cond _ a b => regionsOf a ++ regionsOf b
 | .block _ c => regionsOf c
 | .loop c => regionsOf c
 | .scope c => regionsOf c
 | _ => []
def isAppend (o : Oper) : Option (Operand × Operand) := match o.op with
 | .call ⟨.builtin .append, args, _⟩ => match args.toList with | [x, y] => some (x, y) | _ => none
 | _ => none
def backVars (ops : Array Oper) (t : Nat) : List Nat := t :: (ops.toList.flatMap fun p => match p.dst, p.op with | some d, .move (.tmp s) => if d = t then [s] else [] | _, _ => [])
def appVars (ms : List Nat) (ops : Array Oper) : List Nat := ops.toList.flatMap fun o => match isAppend o with
 | some (.tmp t, _) => backVars ops t
 | _ => match o.op with
  | .call ⟨.value (.func f), args, _⟩ => if ms.contains f then (tmpsOf args.toList).flatMap (backVars ops) else []
  | _ => []
def rowHints (ms : List Nat) (c : Code) : List Nat :=
 let rs := regionsOf c
 let av := rs.flatMap fun r => appVars ms r.2.1
 rs.flatMap fun r => r.2.1.toList.filterMap fun o => match o.dst, o.op with
  | some d, .assign (.const (.slice none 0 0)) => if av.contains d then some d else none
  | some d, .buildSlice .. => if r.2.1.toList.any (fun p => match isAppend p with | some (_, .tmp t) => t == d | _ => false) then none else some d
  | _, _ => none
def effOp (ms rows : List Nat) (o : Oper) : Bool := match o.op with
 | .slice _ _ none (some _) none => ms.contains 4000000
 | .box t _ => !ms.contains (9000000 + t)
 | .store .. | .alloc _ | .makeSlice .. | .mapUpdate .. | .makeMap .. | .range .. | .next .. => true
 | .buildSlice .. => (match o.dst with | some d => rows.contains d | none => false)
 | .call ⟨.builtin .append, _, _⟩ | .call ⟨.builtin .copy, _, _⟩ | .call ⟨.builtin .delete, _, _⟩ => true
 | .call ⟨.value (.func f), _, _⟩ => ms.contains f
 | .call ⟨.value _, _, _⟩ => true
 | _ => false
def isBs (o : Oper) : Bool := match o.op with | .buildSlice .. => true | _ => false
def tailAt (bs : Bool) (ms rows : List Nat) (ops : Array Oper) : Option Nat := (List.range (ops.size + 1)).reverse.find? fun n =>
 (ops.toList.take n).all (fun o => !effOp ms rows o && (bs || !isBs o)) && backB .any ops n && (decide (n = ops.size) || (Region.sinkB .any ops n && Region.chainB .any ops n)) && Region.seqB .any ops (ops.size - n) n (fillB ops.size n)
def tailOf (ms rows : List Nat) (ops : Array Oper) : Option Nat := tailAt false ms rows ops <|> tailAt true ms rows ops
def chainOf (ms rows : List Nat) (ops : Array Oper) : List Nat := ((List.range ops.size).foldl (fun (s : List Nat × List Nat) i => match ops[i]? with
 | some o => if effOp ms rows o || (opReads ops o).any (fun t => s.2.contains t) then (s.1 ++ [i], s.2 ++ o.dst.toList) else s
 | none => s) ([], [])).1
def boxApp (c : Code) : Bool :=
 let ops := (regionsOf c).flatMap fun r => r.2.1.toList
 ops.any fun (o : Oper) => match o.op with
  | .makeFunc .. => true
  | .call ⟨.builtin .append, args, _⟩ => (match (args.toList.head? : Option Operand) with
   | some (Operand.tmp t) => ops.any fun (p : Oper) => p.dst == some t && (match p.op with | .load .. => true | _ => false)
   | _ => false)
  | _ => false
def hintsOf (ms : List Nat) (fn : Func) : Hints := match fn.body with
 | some c =>
  let ms := if boxApp c then 1000000 :: ms else ms
  let res := fn.results.toList.map fun | .tmp t => t | .cell t _ => t
  let h := hintsC res c res []
  let js := joinsC res c res []
  let pk (l : List (Nat × List Nat)) : List (Nat × List Nat) := if ms.contains 2000000 then l.map fun p => (p.1, 1000000 :: p.2) else l
  ⟨ms, rowHints ms c, h.1, pk h.2, pk js.c, pk js.b, pk js.s, pk js.r, (regionsOf c).filterMap fun r => if r.2.2 then (tailOf ms (rowHints ms c) r.2.1).map fun n => (r.1, n) else none,
   (regionsOf c).filterMap fun r => if r.2.2 && (tailOf ms (rowHints ms c) r.2.1).isNone then some (r.1, chainOf ms (rowHints ms c) r.2.1) else none⟩
 | none => ⟨[], [], [], [], [], [], [], [], [], []⟩
def comp (P : Program) (ms : List Nat) (f : FuncId) : Option AFunc := match P.funcs[f]? with
 | some fn => compFunc P (hintsOf (if ms.contains (8000000 + f) then ms.filter (fun k => decide (9000000 ≤ k)) else (fun ms => if ms.contains (4000000 + f) then 4000000 :: (if ms.contains (2000000 + f) then 2000000 :: ms else ms) else if ms.contains (2000000 + f) then 2000000 :: ms else ms) (ms.filter fun k => decide (k < 9000000))) fn) f
 | none => none
theorem comp_ok {P : Program} {ms : List Nat} {f : FuncId} {af : AFunc} (h : comp P ms f = some af) : ∃ hn, compFunc P hn f = some af := by
 unfold comp at h
 split at h
 ·exact ⟨_, h⟩
 ·cases h
end Go.Proofs.YtienfdjfochlcaaGreatDoor
end
