/- The abstract machine: regions, code, loops, functions. -/
import Derived.Test.YtgjdmlhgapmflaaDoorAmF
import Derived.Test.YtgjdmlhgapmflaaDoorAmV
namespace Go.Proofs.YtgjdmlhgapmflaaDoor
set_option linter.unusedVariables false
set_option linter.unusedSimpArgs false

structure Hints where
  ms : List Nat
  rows : List Nat
  drops : List (Nat × List Nat)
  keeps : List (Nat × List Nat)
  joins : List (Nat × List Nat)
  bjoins : List (Nat × List Nat)
  sjoins : List (Nat × List Nat)
  rjoins : List (Nat × List Nat)
  tails : List (Nat × Nat)

def assocL (l : List (Nat × List Nat)) (k : Nat) : List Nat := match l with
  | [] => []
  | (i, v) :: r => if i = k then v else assocL r k
def assocN (l : List (Nat × Nat)) (k : Nat) : Option Nat := match l with
  | [] => none
  | (i, v) :: r => if i = k then some v else assocN r k

def dstOk (N : Nat) : Option Nat → Bool
  | some d => decide (d < N)
  | none => true
def compOper (P : Program) (hn : Hints) (N : Nat) (ops : Array Oper) (o : Oper) : Option AOper :=
  if dstOk N o.dst then
    match o.guard with
      | none => some ⟨o.dst, compAny P hn.ms (match o.dst with | some d => hn.rows.contains d | none => false) o.type o.op, none⟩
      | some (j, b) => match (ops[j]?).bind (·.dst) with
        | some s => some ⟨o.dst, compAny P hn.ms (match o.dst with | some d => hn.rows.contains d | none => false) o.type o.op, some (s, b)⟩
        | none => none
  else none
def compOps (P : Program) (hint : Hints) (N : Nat) (ops : Array Oper) : List Oper → Option (List AOper)
  | [] => some []
  | o :: r => match compOper P hint N ops o, compOps P hint N ops r with
    | some a, some l => some (a :: l)
    | _, _ => none
def AOp.isCall : AOp → Bool
  | .call .. => true
  | _ => false
def assocO (l : List (Nat × List Nat)) (k : Nat) : Option (List Nat) := match l with
  | [] => none
  | (i, v) :: r => if i = k then some v else assocO r k
def withJoin (o : Option (List Nat)) (c : ACode) : ACode := match o with
  | some k => .join c k
  | none => c
/-- the first region in a piece of code -/
def firstR : Code → Option Nat
  | .region id _ _ => some id
  | .seq a b => (firstR a).orElse fun _ => firstR b
  | .block _ c => firstR c
  | .loop c => firstR c
  | .scope c => firstR c
  | .cond _ a b => (firstR a).orElse fun _ => firstR b
  | _ => none
def firstId : Code → Nat
  | .region id _ _ => id
  | .seq a _ => firstId a
  | .block _ c => firstId c
  | .loop c => firstId c
  | .cond _ a _ => firstId a
  | _ => 0
def compCode (P : Program) (hn : Hints) (N : Nat) : Code → Option ACode
  | .skip => some .skip
  | .label _ => some .skip
  | .region id ops draw => match compOps P hn N ops ops.toList with
    | some l => if draw then
        (let n := (assocN hn.tails id).getD ops.size
        if xB .any ops (l.take n) n && P.follows .mixedOrders then some (withJoin (assocO hn.rjoins id) (.dregion (l.take n) (l.drop n) (assocL hn.drops id))) else none)
      else some (withJoin (assocO hn.rjoins id) (.region l (assocL hn.drops id)))
    | none => none
  | .seq a b => match compCode P hn N a, compCode P hn N b with
    | some x, some y => some (withJoin (match b with | .cond .. => (firstR a).bind (assocO hn.sjoins) | _ => none) (.seq x y))
    | _, _ => none
  | .cond c a b => match compCode P hn N a, compCode P hn N b with
    | some x, some y => some (withJoin (((firstR a).orElse fun _ => firstR b).bind (assocO hn.joins)) (.cond c x y))
    | _, _ => none
  | .block id c => (compCode P hn N c).map fun x => withJoin (assocO hn.bjoins id) (.block id x)
  | .scope c => compCode P hn N c
  | .loop c => (compCode P hn N c).map fun x => .loop x (assocL hn.keeps (firstId c))
  | .exit id => some (.exit id)
  | .ret => some .ret
  | _ => none
def compRes (P : Program) (ty0 : Option TypeId) : ResultVar → Option ARes
  | .tmp t => some (.tmp t (match ty0 with | some ty => sliceOffs P 4 ty | none => []))
  | .cell t ty => match szOf P ty, agOf P ty with
    | some (n + 1), some ag => some (.cell t (n + 1) ag (sliceOffs P 4 ty))
    | _, _ => none
def compResL (P : Program) : List ResultVar → List TypeId → Option (List ARes)
  | [], _ => some []
  | x :: r, ts => match compRes P ts.head? x, compResL P r ts.tail with | some a, some l => some (a :: l) | _, _ => none
def compFunc (P : Program) (hn : Hints) (f : FuncId) : Option AFunc :=
  match P.funcs[f]? with
  | some fn => match fn.body with
    | some c => match compCode P hn fn.ntmps c, compResL P fn.results.toList fn.resultTypes.toList with
      | some ac, some rs => if fn.params.size + fn.nfree ≤ fn.ntmps ∧ (fn.name == "runtime.NumGoroutine") = false then some ⟨fn.params.size + fn.nfree, fn.ntmps, rs, ac⟩ else none
      | _, _ => none
    | none => none
  | none => none

section
variable {P : Program} {X : Nat → Nat → Prop} {w0 : Base} {w w' : World} {N : Nat} {st : St} {a : Act} {m : List MObj} {H : List Hd} {d : Option Nat}

theorem compOper_some {hint : Hints} {ops : Array Oper} {o : Oper} {ao : AOper} (h : compOper P hint N ops o = some ao) :
    (∀ k, o.dst = some k → k < N) ∧ ao.dst = o.dst ∧ (∃ b, compAny P hint.ms b o.type o.op = ao.op) ∧ ((o.guard = none ∧ ao.guard = none) ∨ ∃ j b s, o.guard = some (j, b) ∧ (ops[j]?).bind (·.dst) = some s ∧ ao.guard = some (s, b)) := by
  unfold compOper at h
  split at h
  · rename_i hd
    have hd' : ∀ k, o.dst = some k → k < N := fun k hk => by rw [hk] at hd; simpa [dstOk] using hd
    split at h
    · rename_i hg
      injection h with h; subst h
      exact ⟨hd', rfl, ⟨_, rfl⟩, .inl ⟨hg, rfl⟩⟩
    · rename_i j b hg
      split at h
      · rename_i s hs
        injection h with h; subst h
        exact ⟨hd', rfl, ⟨_, rfl⟩, .inr ⟨j, b, s, hg, hs, rfl⟩⟩
      · cases h
  · cases h

theorem wanted_sound {ops : Array Oper} {o : Oper} {ao : AOper} {c : Bool} (hg : (o.guard = none ∧ ao.guard = none) ∨ ∃ j b s, o.guard = some (j, b) ∧ (ops[j]?).bind (·.dst) = some s ∧ ao.guard = some (s, b)) {S : Nat → Nat → Prop} {fr : List (Nat × AV)}
    (hr : ∀ s, Rep S w H (a.tmps.getD s undef) (look fr s)) (h : wantedA fr ao.guard = some c) : Region.wanted o (yielded ops a.tmps) = c := by
  rcases hg with ⟨h1, h2⟩ | ⟨j, b, s, h1, h2, h3⟩
  · rw [h2] at h
    simp only [wantedA, Option.some.injEq] at h
    subst h
    simp [Region.wanted, h1]
  · rw [h3] at h
    simp only [wantedA] at h
    split at h
    · rename_i t ht
      injection h with h; subst h
      have := hr s
      rw [ht] at this
      have e := rep_val this
      have hsome : a.tmps[s]? = some (.bool t) := by
        rw [Array.getD_eq_getD_getElem?] at e
        rcases hq : a.tmps[s]? with _ | u
        · rw [hq] at e; simp [undef] at e
        · rw [hq] at e; simp at e; rw [e]
      simp only [Region.wanted, h1, yielded, h2, Option.bind_some, hsome]
      cases t <;> cases b <;> rfl
    · rename_i l ht
      injection h with h; subst h
      have := hr s
      rw [ht] at this
      have e := rep_val this
      simp only [Region.wanted, h1, yielded, h2, Option.bind_some]
      rw [Array.getD_eq_getD_getElem?] at e
      rcases hq : a.tmps[s]? with _ | u
      · rfl
      · rw [hq] at e; simp at e; subst e; rfl
    · cases h

theorem runOps_sound {call : CallF} (hcall : CallsOk P call) {hint : Hints} {ops : Array Oper} {Q : Exit → Act → World → Prop} :
    ∀ (l : List Oper) (al : List AOper) (st st' : St) (a : Act) (w : World) (H : List Hd), compOps P hint N ops l = some al → runOps call al st = some st' → SR X w0 N st a w H → (∀ a' w' H', SR X w0 N st' a' w' H' → Q .normal a' w') → wpList P ops Q l a w
  | [], al, st, st', a, w, H, hc, hr, hs, hQ => by
    simp [compOps] at hc; subst hc
    simp [runOps] at hr; subst hr
    exact hQ _ _ _ hs
  | o :: r, al, st, st', a, w, H, hc, hr, hs, hQ => by
    simp only [compOps] at hc
    split at hc
    · rename_i ao al' ho hl
      injection hc with hc; subst hc
      obtain ⟨h1, h2, ⟨b, h3⟩, h4⟩ := compOper_some ho
      simp only [runOps] at hr
      unfold wpList
      split at hr
      · rename_i hw
        rw [wanted_sound h4 hs.frm hw, if_pos rfl]
        split at hr
        · rename_i st1 hst
          rw [h2] at hst
          exact .inl (step_any hcall h3 h1 hs hst fun a' w' H' hsr => runOps_sound hcall r al' st1 st' a' w' H' hl hr hsr hQ)
        · cases hr
      · rename_i hw
        rw [wanted_sound h4 hs.frm hw, if_neg (by simp)]
        rw [h2] at hr
        exact runOps_sound hcall r al' _ st' _ w H hl hr (hs.pure h1 (.val _ _)) hQ
      · cases hr
    · cases hc

/-- a call whose answer is known -/
theorem e_callV {f : FuncId} {args : Array Operand} {vs : List AV} {r : AV} {v0 : Value} (h : SR X w0 N st a w H) (hvs : frzL st.m (args.toList.map (evA st.fr)) = some vs) (hc : CallOk P f vs r) (hr : r.toVal = some v0) :
    Calls P f (args.map a.eval) w fun e w' => e = .returned v0 ∧ Fr (fun _ => False) w w' := by
  obtain ⟨H1, m1, hsh, hshut⟩ := shutVs_at (args.toList.map (evA st.fr)) st.m H h.mem
  have hX' : ∀ b o, (X b o ∨ Mut H1 b o) → b < w.heap.size := by
    rintro b o (hx | ⟨i, k, hk, hmut⟩)
    · have := h.old b o hx; have := h.size; omega
    · exact m1.lt i k b hk (Hd.mut_blk hmut)
  have hstab : ∀ b o, Stab X H1 w b o ↔ Stab (fun b o => X b o ∨ Mut H1 b o) [] w b o := by
    intro b o
    unfold Stab
    have : ¬ Mut [] b o := by rintro ⟨i, k, hk, _⟩; simp at hk
    simp only [this, not_false_eq_true, and_true, not_or]
  obtain ⟨hl, hget⟩ := frzL_get hvs
  have hargs : RepL (Stab (fun b o => X b o ∨ Mut H1 b o) [] w) w [] (args.map a.eval) vs := by
    refine ⟨by simp [hl], fun i y hy => ?_⟩
    obtain ⟨y0, hy0, hf⟩ := hget i y hy
    simp only [List.getElem?_map, Option.map_eq_some_iff, Array.getElem?_toList] at hy0
    obtain ⟨x, hx, rfl⟩ := hy0
    have e : (args.map a.eval).getD i undef = a.eval x := by simp [Array.getD_eq_getD_getElem?, hx]
    rw [e]
    refine (frz_rep h.mem (rep_ev h.frm x) hf (fun b o q => (hstab b o).1 (hsh.goes.stab b o q).1) fun zc hzc id ver used off len e b cap s cver cused wr hH hc hb o ho => ?_).1
    exact (hstab b o).1 (shut_stab h.mem hsh h.xb (hshut _ (List.mem_map.2 ⟨x, List.mem_of_getElem? (by rw [Array.getElem?_toList]; exact hx), rfl⟩) zc hzc _ _ _ _ _ e) hH hc hb ho)
  exact (hc _ w _ hX' ((h.shuts m1 hsh).frm.g.to fun b o q => (hstab b o).1 q) hargs).mono fun e w' ⟨v, he, hrv, hfr⟩ => ⟨by rw [he, rep_toVal hrv hr], hfr⟩

theorem SR.ext (h : SR X w0 N st a w H) (hf : Fr (fun _ => False) w w') : SR X w0 N st a w' H := by
  have hext : Ext w w' := fun k hk => hf.block k hk fun q => q
  exact ⟨h.dfr, h.siz, (goes_ext hext hf.size).fok h.frm, h.mem.ext hext hf.size, h.grw.trans hf fun _ q => q.elim, h.new, h.old, h.since.trans (goes_ext hext hf.size)⟩

theorem run_enter {f : FuncId} {args : Array Operand} {ts : Array TypeId} {fn : Func} (hfn : P.funcs[f]? = some fn) (hb : fn.body.isSome = true ∧ (fn.name == "runtime.NumGoroutine") = false) (dst : Option Tmp) (type : TypeId) (pos : String) (after : Array Edge) (guard : Option (Nat × Bool)) (w : World) :
    (execOp a.eval ⟨dst, .call ⟨.value (.func f), args, ts⟩, type, pos, after, guard⟩).run P w = .ok (.enter f (args.map a.eval)) w := by
  have hbn : fn.body.isNone = false := by
    cases hq : fn.body with
    | none => rw [hq] at hb; simp at hb
    | some _ => rfl
  have hnm := hb.2
  simp [execOp, resolve, Act.eval, Deferred.ofValue, invoke, callFunc, hfn, hbn, program, Sem.run] at hnm ⊢
  simp [hnm]
  intro hbb
  rw [hbb] at hb
  simp at hb

theorem comp_call {ms : List Nat} {b : Bool} {o : Oper} {f : FuncId} {as_ : List Operand} (h0 : compAny P ms b o.type o.op = .call f as_) : ∃ args ts fn, o.op = .call ⟨.value (.func f), args, ts⟩ ∧ args.toList = as_ ∧ P.funcs[f]? = some fn ∧ fn.body.isSome = true ∧ (fn.name == "runtime.NumGoroutine") = false := by
  have h : compOp P b o.type o.op = some (.call f as_) := by
    rcases any_cases h0 with ⟨o2, _, e⟩ | e | e
    · cases e
    · exact e
    · cases e
  clear h0
  obtain ⟨dst, op, type, pos, after, guard⟩ := o
  simp only at h ⊢
  cases op <;> simp only [compOp, reduceCtorEq, Option.some.injEq] at h
  case assign =>
    split at h
    · simp at h
    · cases h
  case binOp op t x y yt => cases op <;> simp only [Option.some.injEq, reduceCtorEq] at h <;> (try split at h) <;> cases h
  case convert => (repeat' split at h) <;> cases h
  case alloc => simp at h
  case load => (repeat' split at h) <;> cases h
  case store => (repeat' split at h) <;> cases h
  case fieldAddr => (repeat' split at h) <;> cases h
  case field => (repeat' split at h) <;> cases h
  case indexAddr => (repeat' split at h) <;> first | (cases h; done) | (simp at h; done)
  case index => (repeat' split at h) <;> cases h
  case slice t x lo hi mx =>
    cases mx with
    | some _ => simp [compOp] at h
    | none =>
      try simp only [compOp] at h
      (repeat' split at h) <;> first | (cases h; done) | (simp at h; done)
  case build => (repeat' split at h) <;> first | (cases h; done) | (simp [Option.bind_eq_some_iff] at h; done)
  case buildSlice => (repeat' split at h) <;> cases h
  case makeSlice => (repeat' split at h) <;> cases h
  case call c =>
    obtain ⟨callee, args, ts⟩ := c
    cases callee with
    | invoke r n => simp [compOp] at h
    | builtin bb => cases bb <;> simp only [compOp, reduceCtorEq] at h <;> (repeat' split at h) <;> cases h
    | value g =>
      cases g <;> simp only [compOp, reduceCtorEq] at h
      split at h
      · rename_i fn hfn
        split at h
        · rename_i hb
          injection h with h
          injection h with h1 h2
          subst h1 h2
          exact ⟨args, ts, fn, rfl, rfl, hfn, hb⟩
        · cases h
      · cases h
end
end Go.Proofs.YtgjdmlhgapmflaaDoor
