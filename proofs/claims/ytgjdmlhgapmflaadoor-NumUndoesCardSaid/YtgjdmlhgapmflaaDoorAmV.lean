/- The abstract machine: what an operation of either kind does, the model does. -/
import Derived.Test.YtgjdmlhgapmflaaDoorAmU
namespace Go.Proofs.YtgjdmlhgapmflaaDoor
set_option linter.unusedVariables false
set_option linter.unusedSimpArgs false
open Go.MapKept Go.ChangeMaps

section
variable {P : Program} {X : Nat → Nat → Prop} {w0 : Base} {w w' : World} {N : Nat} {st : St} {a : Act} {fr : List (Nat × AV)} {m : List MObj} {H : List Hd} {d : Option Nat} {av : AV}

/-- nil slices as new rows: the machine goes on, and the cells say what they said -/
theorem nilRows_sound {N : Nat} : ∀ (offs : List (Nat × Nat)) (cs : List AV) (m : List MObj) (H : List Hd) (vs : Array Value), SR X w0 N ⟨fr, m⟩ a w H → RepL (Stab X H w) w H vs cs →
    ∃ H', SR X w0 N ⟨fr, m ++ (nilRows m.length offs cs).2⟩ a w H' ∧ RepL (Stab X H' w) w H' vs (nilRows m.length offs cs).1 ∧ Goes X w H w H' ∧ (nilRows m.length offs cs).1.length = cs.length
  | [], cs, m, H, vs, hs, hr => ⟨H, by simpa [nilRows] using hs, hr, Goes.refl, rfl⟩
  | (o, sz) :: r, cs, m, H, vs, hs, hr => by
    simp only [nilRows]
    split
    · rename_i hx
      have h1 := e_nilrow (d := none) sz hs (fun k hk => by cases hk)
      have hg : Goes X w H w (H ++ [.row 0 0 sz 0 0 true]) := goes_new (Ext.refl w) (Nat.le_refl _) (fun b hb => by simp [Hd.blk] at hb)
      have hv := rep_val (hr.2 _ _ hx)
      have h2 : RepL (Stab X (H ++ [.row 0 0 sz 0 0 true]) w) w (H ++ [.row 0 0 sz 0 0 true]) vs (cs.set o (.row m.length 0 0 0 0)) := by
        refine ⟨by simpa using hr.1, fun i y hy => ?_⟩
        rw [List.getElem?_set] at hy
        split at hy
        · rename_i e
          subst e
          split at hy
          · injection hy with hy; subst hy
            rw [hv]
            have hl : m.length = H.length := hs.mem.len.symm
            rw [hl]
            exact .row _ 0 0 0 0 ⟨_, _, _, rfl⟩ (snoc_last _ _) (.inr ⟨rfl, Nat.le_refl _⟩) fun _ _ => ⟨by omega, by omega, none, rfl, fun q => absurd q (by omega), fun _ => rfl⟩
          · cases hy
        · exact hg.rep (hr.2 i y hy)
      have h1' : SR X w0 N ⟨fr, m ++ [.row 0 sz [] true true]⟩ a w (H ++ [.row 0 0 sz 0 0 true]) := h1
      obtain ⟨H', g1, g2, g3, g4⟩ := nilRows_sound r (cs.set o (.row m.length 0 0 0 0)) (m ++ [.row 0 sz [] true true]) _ vs h1' h2
      simp only [List.length_append, List.length_singleton] at g1 g2 g4
      refine ⟨H', ?_, g2, hg.trans g3, by simpa using g4⟩
      simpa using g1
    · exact nilRows_sound r cs m H vs hs hr
theorem repL_args (hr : FrOk (Stab X H w) w H a fr) (xs : Array Operand) : RepL (Stab X H w) w H (xs.map a.eval) (xs.toList.map (evA fr)) := by
  refine ⟨by simp, fun i y hy => ?_⟩
  simp only [List.getElem?_map, Option.map_eq_some_iff, Array.getElem?_toList] at hy
  obtain ⟨x, hx, rfl⟩ := hy
  have e : (xs.map a.eval).getD i undef = a.eval x := by simp [Array.getD_eq_getD_getElem?, hx]
  rw [e]
  exact rep_ev hr x
theorem repL_app {S : Nat → Nat → Prop} {us vs : Array Value} {l k : List AV} (h1 : RepL S w H us l) (h2 : RepL S w H vs k) : RepL S w H (us ++ vs) (l ++ k) := by
  refine ⟨by simp [h1.1, h2.1], fun i y hy => ?_⟩
  rw [List.getElem?_append] at hy
  have e := h1.1
  split at hy
  · rename_i hi
    have := h1.2 i y hy
    have e2 : (us ++ vs).getD i undef = us.getD i undef := by simp only [Array.getD_eq_getD_getElem?]; rw [Array.getElem?_append_left (by omega)]
    rw [e2]; exact this
  · rename_i hi
    have := h2.2 _ y hy
    have e2 : (us ++ vs).getD i undef = vs.getD (i - l.length) undef := by simp only [Array.getD_eq_getD_getElem?]; rw [Array.getElem?_append_right (by omega), e]
    rw [e2]; exact this

set_option maxHeartbeats 1000000 in
theorem pure2_sound {ms : List Nat} {o : Oper} {o2 : AOp2} (hm : MemAt X w m H) (hr : FrOk (Stab X H w) w H a fr) (hc : comp2 P ms o.op = some o2) (hp : pure2 m fr o2 = some av) :
    ∃ v, (∀ w' : World, Ext w w' → (execOp a.eval o).run P w' = .ok (.value v) w') ∧ Rep (Stab X H w) w H v av := by
  obtain ⟨dst, op, type, pos, after, guard⟩ := o
  simp only at hc
  have E : ∀ x, Rep (Stab X H w) w H (a.eval x) (evA fr x) := rep_ev hr
  have fin : ∀ (s : Sem Value), (∃ v, Gives P w s v ∧ Rep (Stab X H w) w H v av) → (∀ w' : World, (execOp a.eval ⟨dst, op, type, pos, after, guard⟩).run P w' = (do pure (Next.value (← s)) : Sem Next).run P w') → ∃ v, (∀ w' : World, Ext w w' → (execOp a.eval ⟨dst, op, type, pos, after, guard⟩).run P w' = .ok (.value v) w') ∧ Rep (Stab X H w) w H v av := by
    intro s ⟨v, h1, h2⟩ he
    exact ⟨v, fun w' hw' => by rw [he]; exact next_of h1 w' hw', h2⟩
  have eqo : ∀ (ne : Bool) (t yt : TypeId) (x y : Operand), op = .binOp (if ne then .neq else .eql) t x y yt → eqOp P ne t x y = some o2 → ∃ v, (∀ w' : World, Ext w w' → (execOp a.eval ⟨dst, op, type, pos, after, guard⟩).run P w' = .ok (.value v) w') ∧ Rep (Stab X H w) w H v av := by
    intro ne t yt x y hop hq
    subst hop
    unfold eqOp at hq
    split at hq
    · rename_i hnil
      injection hq with hq; subst hq
      simp only [pure2, Option.map_eq_some_iff] at hp
      obtain ⟨r, hr1, rfl⟩ := hp
      exact fin _ (gives_nil (ne := ne) hnil (E x) hr1) fun _ => rfl
    · split at hq
      · rename_i n hag hn
        split at hq
        · cases hq
        · rename_i hg
          simp only [Option.map_eq_some_iff] at hq
          obtain ⟨offs, hl, rfl⟩ := hq
          simp only [pure2] at hp
          split at hp
          · rename_i l l' e1 e2
            split at hp
            · rename_i hsz
              simp only [Option.map_eq_some_iff] at hp
              obtain ⟨r, hr1, rfl⟩ := hp
              have h1 := E x; have h2 := E y
              rw [e1] at h1; rw [e2] at h2
              exact fin _ (gives_aeq (ne := ne) hag ⟨n, hn⟩ (by simpa using hg) hl h1 h2 (fun n' hn' => by rw [hn] at hn'; injection hn' with hn'; subst hn'; exact hsz) hr1) fun _ => rfl
            · cases hp
          · cases hp
      · split at hq
        · rename_i ms ht
          injection hq with hq; subst hq
          simp only [pure2, Option.map_eq_some_iff] at hp
          obtain ⟨r, hr1, rfl⟩ := hp
          exact fin _ (gives_ifeq (ne := ne) ⟨ms, ht⟩ (E x) (E y) hr1) fun _ => rfl
        · cases hq
  cases op <;> simp only [comp2, reduceCtorEq] at hc
  case makeInterface t x =>
    split at hc
    · cases hc
    · rename_i dd hne ht
      injection hc with hc; subst hc
      simp only [pure2, Option.some.injEq] at hp
      subst hp
      exact fin _ ⟨_, gives_mkif ht (fun ms e => hne ms e) (E x)⟩ fun _ => rfl
    · cases hc
  case binOp op t x y yt =>
    cases op <;> simp only [comp2, reduceCtorEq] at hc
    · exact eqo false t yt x y rfl hc
    · exact eqo true t yt x y rfl hc
  case nilCheck x =>
    injection hc with hc; subst hc
    simp only [pure2] at hp
    have hx := E x
    split at hp
    · rename_i id off e
      injection hp with hp; subst hp
      rw [e] at hx
      generalize hv : a.eval x = v at hx
      refine ⟨v, fun w' _ => ?_, hx⟩
      cases hx; simp [execOp, hv]
    · rename_i l e
      injection hp with hp; subst hp
      rw [e] at hx
      generalize hv : a.eval x = v at hx
      refine ⟨v, fun w' _ => ?_, hx⟩
      cases hx; simp [execOp, hv]
    · rename_i f first caps e
      injection hp with hp; subst hp
      rw [e] at hx
      generalize hv : a.eval x = v at hx
      refine ⟨v, fun w' _ => ?_, hx⟩
      cases hx; simp [execOp, hv]
    · cases hp
  case box t x =>
    split at hc
    · injection hc with hc; subst hc; simp [pure2] at hp
    · cases hc
  case alloc t =>
    (repeat' split at hc) <;> first | (injection hc with hc; subst hc; simp [pure2] at hp; done) | cases hc
  case store t x y =>
    (repeat' split at hc) <;> first | (injection hc with hc; subst hc; simp [pure2] at hp; done) | cases hc
  case makeFunc fn first caps =>
    cases fn <;> simp only [comp2, reduceCtorEq] at hc
    injection hc with hc; subst hc
    simp only [pure2, Option.some.injEq] at hp
    subst hp
    refine ⟨_, fun w' _ => rfl, ?_⟩
    obtain ⟨a1, a2⟩ := repL_args hr first
    obtain ⟨b1, b2⟩ := repL_args hr caps
    exact .fn a1 b1 a2 b2
  case makeMap t r =>
    cases r with
    | none => simp only [comp2] at hc; split at hc <;> first | (injection hc with hc; subst hc; simp [pure2] at hp; done) | cases hc
    | some r =>
      cases r <;> try (simp [comp2] at hc; done)
      rename_i v
      cases v <;> try (simp [comp2] at hc; done)
      simp only [comp2] at hc
      split at hc <;> first | (injection hc with hc; subst hc; simp [pure2] at hp; done) | cases hc
  case lookup t x k ok =>
    split at hc
    · rename_i kt e ht
      split at hc
      · rename_i hk
        simp only [Option.map_eq_some_iff] at hc
        obtain ⟨z, hz, rfl⟩ := hc
        simp only [pure2] at hp
        have hk1 := E k
        have hs : ∃ s, evA fr k = .val (.string s) := by
          unfold mlookA at hp
          split at hp
          · rename_i s e1; exact ⟨s, e1⟩
          · cases hp
        obtain ⟨s, hs⟩ := hs
        rw [hs] at hp hk1
        have := gives_lookup (ok := ok) ht (strOf hk) hz hm (E x) hp
        refine fin (Instr.lookup t (a.eval x) (a.eval k) ok) ?_ fun _ => rfl
        rw [rep_val hk1]; exact this
      · cases hc
    · cases hc
  case mapUpdate t x k v =>
    split at hc
    · split at hc
      · injection hc with hc; subst hc; simp [pure2] at hp
      · cases hc
    · cases hc
  case call c =>
    obtain ⟨callee, args, ts⟩ := c
    cases callee with
    | invoke r n => simp [comp2] at hc
    | value f =>
      cases f <;> simp only [comp2, reduceCtorEq] at hc
      · injection hc with hc; subst hc; simp [pure2] at hp
      · split at hc
        · injection hc with hc; subst hc; simp [pure2] at hp
        · cases hc
    | builtin b =>
      cases b <;> simp only [comp2, reduceCtorEq] at hc
      case len =>
        split at hc
        · rename_i x kt e hargs hts
          injection hc with hc; subst hc
          simp only [pure2, Option.map_eq_some_iff] at hp
          obtain ⟨es, hes, rfl⟩ := hp
          simp only [Option.bind_eq_some_iff] at hts
          obtain ⟨t, ht0, ht⟩ := hts
          have ea : args = #[x] := by rw [← Array.toList_inj]; simpa using hargs
          subst ea
          refine fin (Builtin.len_ ts type #[a.eval x]) ?_ fun _ => by simp [execOp, resolve, invoke, builtin]
          refine ⟨_, fun w' hw' => ?_, .val _ _⟩
          rcases map_at hm (E x) hes with ⟨e1, rfl⟩ | ⟨id, b, ens, cl, _, e1, hobj, hH, hb, hn, hent⟩
          · simp [Builtin.len_, ht0, e1, run_underlying ht, goInt]
          · have hb' : w'.heap[b]? = some (.map ens cl) := by rw [hw' b (lt_of_heap hb)]; exact hb
            simp [Builtin.len_, ht0, e1, run_underlying ht, MapKept.run_getObj_map hb', goInt, hn]
        · cases hc
      case append =>
        (repeat' split at hc) <;> first | (injection hc with hc; subst hc; simp [pure2] at hp; done) | cases hc
      case copy =>
        split at hc
        · split at hc
          · injection hc with hc; subst hc; simp [pure2] at hp
          · cases hc
        · cases hc
      case delete =>
        split at hc
        · split at hc
          · injection hc with hc; subst hc; simp [pure2] at hp
          · cases hc
        · cases hc

theorem pure_any {ms : List Nat} {hint : Bool} {o : Oper} {ao : AOp} (hm : MemAt X w m H) (hr : FrOk (Stab X H w) w H a fr) (hc : compAny P ms hint o.type o.op = ao) (hp : pureOp m fr ao = some av) :
    ∃ v, (∀ w' : World, Ext w w' → (execOp a.eval o).run P w' = .ok (.value v) w') ∧ Rep (Stab X H w) w H v av := by
  rcases any_cases hc with ⟨o2, h2, rfl⟩ | h1 | rfl
  · exact pure2_sound hm hr h2 (by simpa [pureOp] using hp)
  · exact pure_sound hm hr h1 hp
  · simp [pureOp, pure2] at hp

theorem run_enterV {f : FuncId} {fs cs : Array Value} {x : Operand} {args : Array Operand} {ts : Array TypeId} {fn : Func} (hfn : P.funcs[f]? = some fn) (hb : fn.body.isSome = true ∧ (fn.name == "runtime.NumGoroutine") = false) (hx : a.eval x = .func (.func f) fs cs) (dst : Option Tmp) (type : TypeId) (pos : String) (after : Array Edge) (guard : Option (Nat × Bool)) (w : World) :
    (execOp a.eval ⟨dst, .call ⟨.value x, args, ts⟩, type, pos, after, guard⟩).run P w = .ok (.enter f (fs ++ args.map a.eval ++ cs)) w := by
  have hbn : fn.body.isNone = false := by
    cases hq : fn.body with
    | none => rw [hq] at hb; simp at hb
    | some _ => rfl
  have hnm := hb.2
  simp [execOp, resolve, hx, Deferred.ofValue, invoke, callFunc, hfn, hbn, program, Sem.run] at hnm ⊢
  simp [hnm]
  intro hbb
  rw [hbb] at hb
  simp at hb

set_option maxHeartbeats 1000000 in
theorem step2_sound {call : CallF} (hcall : CallsOk P call) {ms : List Nat} {o : Oper} {o2 : AOp2} {st' : St} (hc : comp2 P ms o.op = some o2) (hd : ∀ k, o.dst = some k → k < N) (h : SR X w0 N st a w H) (hs : stepOp2 call st o.dst o2 = some st')
    {K : Act → World → Prop} {Q : Exit → Act → World → Prop} (hK : ∀ a' w' H', SR X w0 N st' a' w' H' → K a' w') : o.wp P a w K Q := by
  have E : ∀ x, Rep (Stab X H w) w H (a.eval x) (evA st.fr x) := rep_ev h.frm
  have pure : (pure2 st.m st.fr o2).map (fun v => (⟨putf o.dst v st.fr, st.m⟩ : St)) = some st' → o.wp P a w K Q := by
    intro hp
    simp only [Option.map_eq_some_iff] at hp
    obtain ⟨av, hav, rfl⟩ := hp
    obtain ⟨v, h1, h2⟩ := pure2_sound h.mem h.frm hc hav
    exact wp_value (h1 w (Ext.refl w)) (hK _ _ _ (h.pure hd h2))
  have hc0 := hc
  obtain ⟨dst, op, type, pos, after, guard⟩ := o
  simp only at hc hd hs pure
  have enter : ∀ {f : FuncId} {vs : Array Value} {avs : List AV} {r : AV} {m' : List MObj}, RepL (Stab X H w) w H vs avs → call.m f avs st.m = some (r, m') → (∃ fn, P.funcs[f]? = some fn ∧ fn.body.isSome = true ∧ (fn.name == "runtime.NumGoroutine") = false → (execOp a.eval ⟨dst, op, type, pos, after, guard⟩).run P w = .ok (.enter f vs) w) → True := fun _ _ _ => trivial
  have callOn : ∀ {f : FuncId} {vs : Array Value} {avs : List AV} {r : AV} {m' : List MObj}, RepL (Stab X H w) w H vs avs → call.m f avs st.m = some (r, m') → st' = ⟨putf dst r st.fr, m'⟩ → (∀ fn, P.funcs[f]? = some fn → fn.body.isSome = true ∧ (fn.name == "runtime.NumGoroutine") = false → (execOp a.eval ⟨dst, op, type, pos, after, guard⟩).run P w = .ok (.enter f vs) w) →
      (⟨dst, op, type, pos, after, guard⟩ : Oper).wp P a w K Q := by
    intro f vs avs r m' hv hr hst hrun
    subst hst
    have hok := hcall.2 f avs st.m r m' hr
    obtain ⟨fn, g1, g2, g3⟩ := hok.1
    have hcl := e_callM (d := dst) h hd hv hok
    unfold Oper.wp
    rw [hrun fn g1 ⟨g2, g3⟩]
    simp only [Oper.upon]
    exact hcl.mono fun e w' ⟨v, H', he, hsr⟩ => by subst he; exact hK _ _ _ hsr
  cases op <;> simp only [comp2, reduceCtorEq] at hc
  case binOp op t x y yt =>
    have : ∀ {ne : Bool}, eqOp P ne t x y = some o2 → stepOp2 call st dst o2 = (pure2 st.m st.fr o2).map (fun v => (⟨putf dst v st.fr, st.m⟩ : St)) := by
      intro ne hq
      unfold eqOp at hq
      split at hq
      · injection hq with hq; subst hq; rfl
      · split at hq
        · split at hq
          · cases hq
          · simp only [Option.map_eq_some_iff] at hq; obtain ⟨_, _, rfl⟩ := hq; rfl
        · split at hq
          · injection hq with hq; subst hq; rfl
          · cases hq
    cases op <;> simp only [comp2, reduceCtorEq] at hc
    · exact pure (by rw [← this hc]; exact hs)
    · exact pure (by rw [← this hc]; exact hs)
  case nilCheck x => injection hc with hc; subst hc; exact pure hs
  case makeInterface t x =>
    split at hc
    · cases hc
    · injection hc with hc; subst hc; exact pure hs
    · cases hc
  case box t x =>
    split at hc
    · rename_i n hn
      injection hc with hc; subst hc
      simp only [stepOp2] at hs
      split at hs
      · rename_i hcs
        injection hs with hs; subst hs
        obtain ⟨⟨g1, g2⟩, g3⟩ := rep_cells (E x) hcs.2
        refine wp_value (v := .pointer (some ⟨w.heap.size, 0, none⟩)) (w' := w.alloc (.cells (a.eval x).cells t)) (by simp [execOp, Instr.box, newVar, newRow]) (hK _ _ (H ++ [.box w.heap.size (a.eval x).cells.size]) ?_)
        refine h.newObj hd (ext_alloc w _) (by simp) ((Fr.refl _ _).alloc _) (fun b hb => by simp [Hd.blk] at hb; subst hb; simp) ?_ ?_
        · refine ⟨g1, (a.eval x).cells, t, heap_alloc_new w _, g1, fun i y hy => (goes_new (h := .box w.heap.size (a.eval x).cells.size) (ext_alloc w _) (by simp) (fun b hb => by simp [Hd.blk] at hb; omega)).rep (g2 i y hy)⟩
        · rw [← h.mem.len]
          exact .ptr _ 0 (snoc_last _ _)
      · cases hs
    · cases hc
  case alloc t =>
    split at hc
    · split at hc
      · cases hc
      · rename_i z hz hne
        injection hc with hc; subst hc
        simp only [stepOp2] at hs
        rcases hnr : nilRows st.m.length _ (z.cells.toList.map AV.val) with ⟨cs, os⟩
        rw [hnr] at hs
        simp only at hs
        split at hs
        · rename_i hcell
          injection hs with hs; subst hs
          obtain ⟨H1, g1, g2, g3, g4⟩ := nilRows_sound _ (z.cells.toList.map AV.val) st.m H z.cells h (repL_vals z.cells)
          rw [hnr] at g1 g2 g4
          refine wp_value (v := .pointer (some ⟨w.heap.size, 0, none⟩)) (w' := w.alloc (.cells z.cells t)) (by simp [execOp, Instr.alloc, run_zeOf hz, newVar, newRow]) (hK _ _ (H1 ++ [.box w.heap.size z.cells.size]) ?_)
          have := g1.newObj (o := .box cs) (h := .box w.heap.size z.cells.size) (v := .pointer (some ⟨w.heap.size, 0, none⟩)) (av := .ptr (st.m.length + os.length) 0) (d := dst) (w' := w.alloc (.cells z.cells t)) hd (ext_alloc w _) (by simp) ((Fr.refl _ _).alloc _) (fun b hb => by simp [Hd.blk] at hb; subst hb; simp) ?_ ?_
          · exact this
          · exact ⟨g2.1, z.cells, t, heap_alloc_new w _, g2.1, fun i y hy => (goes_new (h := .box w.heap.size z.cells.size) (ext_alloc w _) (by simp) (fun b hb => by simp [Hd.blk] at hb; omega)).rep (g2.2 i y hy)⟩
          · have e : st.m.length + os.length = H1.length := by have := g1.mem.len; simp at this; omega
            rw [e]
            exact .ptr _ 0 (snoc_last _ _)
        · cases hs
      · cases hc
    · cases hc
  case store t x y =>
    split at hc
    · split at hc
      · cases hc
      · rename_i n hn hne
        have hc : o2 = .storeR (n + 1) (sliceOffs P 4 t) x y := by
          split at hc <;> first | (injection hc with hc; exact hc.symm) | cases hc
        subst hc
        simp only [stepOp2] at hs
        rcases hnr : nilRows st.m.length (sliceOffs P 4 t) (evA st.fr y).cells with ⟨cs, os⟩
        rw [hnr] at hs
        simp only at hs
        split at hs
        · rename_i hcs
          split at hs
          · rename_i id off hv
            split at hs
            · rename_i l hobj
              split at hs
              · rename_i hle
                injection hs with hs; subst hs
                have hy0 := E y
                have hx := E x
                rw [hv] at hx
                -- the cells of the value
                have hcl : RepL (Stab X H w) w H (a.eval y).cells (evA st.fr y).cells ∧ ((∃ l cc, evA st.fr y = .agg l ∧ a.eval y = .agg cc) ∨ ((evA st.fr y).cells = [evA st.fr y] ∧ (a.eval y).cells = #[a.eval y])) := by
                  by_cases ha : ∃ l, evA st.fr y = .agg l
                  · obtain ⟨l, e⟩ := ha
                    rw [e] at hy0 ⊢
                    obtain ⟨cc, e2, h1, h2⟩ := rep_agg hy0
                    rw [e2]
                    exact ⟨⟨h1, h2⟩, .inl ⟨l, cc, rfl, rfl⟩⟩
                  · have hcell : (evA st.fr y).isCell = true := by
                      have := hcs.1
                      unfold AV.storable at this
                      split at this
                      · rename_i l e; exact absurd ⟨l, e⟩ ha
                      · exact this
                    obtain ⟨p1, p2, p3⟩ := rep_one hy0 hcell
                    refine ⟨?_, .inr ⟨p3, p2⟩⟩
                    rw [p2, p3]
                    exact ⟨rfl, fun i z hz => by
                      match i, hz with
                      | 0, hz => cases hz; exact hy0⟩
                obtain ⟨H1, g1, g2, g3, g4⟩ := nilRows_sound (sliceOffs P 4 t) (evA st.fr y).cells st.m H (a.eval y).cells h hcl.1
                rw [hnr] at g1 g2 g4
                have hrep : ∃ av, Rep (Stab X H1 w) w H1 (a.eval y) av ∧ av.cells = cs := by
                  rcases hcl.2 with ⟨l0, cc, e, e2⟩ | ⟨e, e2⟩
                  · rw [e2] at g2 ⊢
                    exact ⟨.agg cs, .agg g2.1 g2.2, rfl⟩
                  · rw [e] at g4
                    simp at g4
                    rw [e2] at g2
                    match cs, g4, g2, hcs with
                    | [z], _, g2, hcs =>
                      have hz := g2.2 0 z rfl
                      have hzc : z.isCell = true := by simpa using hcs.2.2
                      exact ⟨z, by simpa using hz, by cases z <;> first | rfl | simp [AV.isCell] at hzc⟩
                obtain ⟨av, hav, hac⟩ := hrep
                have hlen : av.cells.length = n + 1 := by rw [hac]; exact hcs.2.1
                obtain ⟨w', H', h1, h2⟩ := e_storeP (d := dst) hn g1 hd (g3.rep hx) hav hlen (by rw [hac]; exact hcs.2.2) hobj hle
                rw [hac] at h2
                exact wp_skipv (w' := w') (by simp [execOp, h1]) (hK _ _ _ h2)
              · cases hs
            · cases hs
          · cases hs
        · cases hs
      · cases hc
    · cases hc
  case makeFunc fn first caps =>
    cases fn <;> simp only [comp2, reduceCtorEq] at hc
    injection hc with hc; subst hc; exact pure hs
  case makeMap t r =>
    cases r with
    | none =>
      simp only [comp2] at hc
      split at hc
      · injection hc with hc; subst hc
        simp only [stepOp2, Option.some.injEq] at hs
        subst hs
        obtain ⟨H', hsr⟩ := e_mkmap h hd
        exact wp_value (w' := w.alloc (.map #[] 0)) (by simp [execOp, Instr.makeMap]) (hK _ _ _ hsr)
      · cases hc
    | some r =>
      cases r <;> try (simp [comp2] at hc; done)
      rename_i v
      cases v <;> try (simp [comp2] at hc; done)
      simp only [comp2] at hc
      split at hc
      · rename_i kt e ht
        injection hc with hc; subst hc
        simp only [stepOp2, Option.some.injEq] at hs
        subst hs
        obtain ⟨H', hsr⟩ := e_mkmap h hd
        exact wp_value (w' := w.alloc (.map #[] 0)) (by simp [execOp, Instr.makeMap, Act.eval, run_underlying ht, asInt, asIntOf]) (hK _ _ _ hsr)
      · cases hc
  case lookup t x k ok =>
    split at hc
    · split at hc
      · simp only [Option.map_eq_some_iff] at hc
        obtain ⟨z, hz, rfl⟩ := hc
        exact pure hs
      · cases hc
    · cases hc
  case mapUpdate t x k v =>
    split at hc
    · rename_i kt e ht
      split at hc
      · rename_i hk
        injection hc with hc; subst hc
        simp only [stepOp2] at hs
        split at hs
        · rename_i id s g e1 e2 e3
          split at hs
          · rename_i es hobj
            split at hs
            · rename_i hgr
              simp only [Option.map_eq_some_iff] at hs
              obtain ⟨es', hes, rfl⟩ := hs
              have hx := E x; have hk' := E k
              rw [e1] at hx; rw [e2] at hk'
              obtain ⟨w', H', h1, h2⟩ := e_mset ht (strOf hk) h hd hx (E v) e3 hgr hobj hes
              refine wp_skipv (w' := w') ?_ (hK _ _ _ h2)
              have := rep_val hk'
              simp [execOp, this, h1]
            · cases hs
          · cases hs
        · cases hs
      · cases hc
    · cases hc
  case call c =>
    obtain ⟨callee, args, ts⟩ := c
    cases callee with
    | invoke r n => simp [comp2] at hc
    | value f =>
      cases f <;> simp only [comp2, reduceCtorEq] at hc
      · rename_i t
        injection hc with hc; subst hc
        simp only [stepOp2] at hs
        split at hs
        · rename_i f first caps hf
          simp only [Option.map_eq_some_iff] at hs
          obtain ⟨⟨r, m'⟩, hr, rfl⟩ := hs
          have hx := E (.tmp t)
          unfold fnOf at hf
          split at hf
          · rename_i f' l k e
            injection hf with hf; injection hf with hf1 hf2; injection hf2 with hf2 hf3
            subst hf1 hf2 hf3
            rw [e] at hx
            generalize hv : a.eval (.tmp t) = v at hx
            cases hx with
            | fn hn hm h1 h2 => exact callOn (repL_app (repL_app ⟨hn, h1⟩ (repL_args h.frm args)) ⟨hm, h2⟩) hr rfl fun fn g1 g2 => run_enterV g1 g2 hv dst type pos after guard w
          · rename_i f' fa fb e
            split at hf
            · rename_i hz
              injection hf with hf; injection hf with hf1 hf2; injection hf2 with hf2 hf3
              subst hf1 hf2 hf3
              rw [e] at hx
              have hv := rep_val hx
              obtain rfl : fa = #[] := Array.eq_empty_of_size_eq_zero hz.1
              obtain rfl : fb = #[] := Array.eq_empty_of_size_eq_zero hz.2
              refine callOn (avs := [] ++ args.toList.map (evA st.fr) ++ []) (vs := #[] ++ args.map a.eval ++ #[]) ?_ hr rfl fun fn g1 g2 => run_enterV g1 g2 hv dst type pos after guard w
              simpa using repL_args h.frm args
            · cases hf
          · cases hf
        · cases hs
      · split at hc
        · injection hc with hc; subst hc
          simp only [stepOp2, Option.map_eq_some_iff] at hs
          obtain ⟨⟨r, m'⟩, hr, rfl⟩ := hs
          rename_i f _
          refine callOn (repL_args h.frm args) hr rfl fun fn g1 g2 => ?_
          have := run_enterV (a := a) (args := args) (ts := ts) (x := .func f) g1 g2 (fs := #[]) (cs := #[]) rfl dst type pos after guard w
          simpa using this
        · cases hc
    | builtin b =>
      cases b <;> simp only [comp2, reduceCtorEq] at hc
      case len =>
        split at hc
        · injection hc with hc; subst hc; exact pure hs
        · cases hc
      case append =>
        split at hc
        · rename_i x y t t' hargs hts
          have ea : args = #[x, y] := by rw [← Array.toList_inj]; simpa using hargs
          have et : ts = #[t, t'] := by rw [← Array.toList_inj]; simpa using hts
          subst ea et
          split at hc
          · rename_i e ht hu
            split at hc
            · rename_i z hsz hz hby
              split at hc
              · rename_i hzs
                injection hc with hc; subst hc
                simp only [stepOp2] at hs
                split at hs
                · rename_i s ey
                  have hy := rep_val (ey ▸ E y)
                  split at hs
                  · rename_i ex
                    have hx := rep_val (ex ▸ E x)
                    split at hs
                    · rename_i hcc
                      injection hs with hs; subst hs
                      obtain ⟨v', w', H', h1, h2⟩ := e_appNilS (ty := type) ht hu hsz hz hzs hby h hd hcc.1 hcc.2
                      exact wp_value (w' := w') (v := v') (by simp [execOp, resolve, invoke, builtin, hx, hy, h1]) (hK _ _ _ h2)
                    · cases hs
                  · rename_i id ver used off len ex
                    have hx := E x
                    rw [ex] at hx
                    split at hs
                    · rename_i v sz l wr ap hobj
                      split at hs
                      · rename_i hcc
                        obtain ⟨c1, c2, c3, c4, c5, c6, c7, c8⟩ := hcc
                        injection hs with hs; subst hs
                        subst c3 c4 c6
                        obtain ⟨v', w', H', h1, h2⟩ := e_appRowS (ty := type) (s := s) ht hu hsz hz hzs hby h hd hx hobj c1 c2 c5 c7 c8
                        exact wp_value (w' := w') (v := v') (by simp [execOp, resolve, invoke, builtin, hy, h1]) (hK _ _ _ h2)
                      · cases hs
                    · cases hs
                  · cases hs
                · cases hs
              · cases hc
            · cases hc
          · cases hc
        · cases hc
      case copy =>
        split at hc
        · rename_i x y e hargs hts
          simp only [Option.bind_eq_some_iff] at hts
          obtain ⟨t, ht0, ht⟩ := hts
          have ea : args = #[x, y] := by rw [← Array.toList_inj]; simpa using hargs
          subst ea
          split at hc
          · rename_i n hn
            injection hc with hc; subst hc
            simp only [stepOp2] at hs
            split at hs
            · rename_i id ver used off len ly e1 e2
              split at hs
              · rename_i v s l ap hobj
                split at hs
                · rename_i hcc
                  injection hs with hs; subst hs
                  have hx := E x
                  rw [e1] at hx
                  obtain ⟨v', w', H', h1, h2⟩ := e_cpy (ty := type) ht0 ht hn (by omega) h hd hx (E y) e2 hobj hcc.1 hcc.2.1 hcc.2.2
                  exact wp_value (w' := w') (v := v') (by simp [execOp, resolve, invoke, builtin, h1]) (hK _ _ _ h2)
                · cases hs
              · cases hs
            · cases hs
          · cases hc
        · cases hc
      case delete =>
        split at hc
        · rename_i x k kt e hargs hts
          simp only [Option.bind_eq_some_iff] at hts
          obtain ⟨t, ht0, ht⟩ := hts
          have ea : args = #[x, k] := by rw [← Array.toList_inj]; simpa using hargs
          subst ea
          split at hc
          · rename_i hk
            injection hc with hc; subst hc
            simp only [stepOp2] at hs
            split at hs
            · rename_i id s e1 e2
              split at hs
              · rename_i es hobj
                simp only [Option.map_eq_some_iff] at hs
                obtain ⟨es', hes, rfl⟩ := hs
                have hx := E x; have hk' := E k
                rw [e1] at hx; rw [e2] at hk'
                obtain ⟨v', w', H', h1, h2⟩ := e_mdel (ty := type) ht ht0 (strOf hk) h hd hx hobj hes
                have := rep_val hk'
                exact wp_value (w' := w') (v := v') (by simp [execOp, resolve, invoke, builtin, this, h1]) (hK _ _ _ h2)
              · cases hs
            · cases hs
          · cases hc
        · cases hc

theorem step_any {call : CallF} (hcall : CallsOk P call) {ms : List Nat} {hint : Bool} {o : Oper} {ao : AOp} {st' : St} (hc : compAny P ms hint o.type o.op = ao) (hd : ∀ k, o.dst = some k → k < N) (h : SR X w0 N st a w H) (hs : stepOp call st o.dst ao = some st')
    {K : Act → World → Prop} {Q : Exit → Act → World → Prop} (hK : ∀ a' w' H', SR X w0 N st' a' w' H' → K a' w') : o.wp P a w K Q := by
  rcases any_cases hc with ⟨o2, h2, rfl⟩ | h1 | rfl
  · exact step2_sound hcall h2 hd h hs hK
  · exact step_sound hcall h1 hd h hs hK
  · simp [stepOp, stepOp2, pure2] at hs
end
end Go.Proofs.YtgjdmlhgapmflaaDoor
