/- The abstract machine: rules for reckoning, one step behind the other. -/
import Derived.Test.YtejajmmacmcijaaAm20
namespace Go.Proofs.Ytejajmmacmcijaa

/-! ### code is looked at only where it is carried out -/
section
variable {call : CallF} {loop : LoopF}
@[congr] theorem aexec_cg {c : ACode} {st st' : St} (h : st = st') : aexec call loop c st = aexec call loop c st' := by rw [h]
@[congr] theorem runOps_cg {l : List AOper} {st st' : St} (h : st = st') : runOps call l st = runOps call l st' := by rw [h]
@[congr] theorem runQ_cg {l : List AOper} {m m' : List MObj} {fr fr' : List (Nat × AV)} (h : m = m') (h' : fr = fr') : runQ call m l fr = runQ call m' l fr' := by rw [h, h']
@[congr] theorem stepOp_cg {d : Option Nat} {o : AOp} {st st' : St} (h : st = st') : stepOp call st d o = stepOp call st' d o := by rw [h]
@[congr] theorem quietOp_cg {o : AOp} {m m' : List MObj} {fr fr' : List (Nat × AV)} (h : m = m') (h' : fr = fr') : quietOp call m fr o = quietOp call m' fr' o := by rw [h, h']
@[congr] theorem pureOp_cg {o : AOp} {m m' : List MObj} {fr fr' : List (Nat × AV)} (h : m = m') (h' : fr = fr') : pureOp m fr o = pureOp m' fr' o := by rw [h, h']
@[congr] theorem runBody_cg {fn : AFunc} {vs vs' : List AV} (h : vs = vs') : runBody call loop fn vs = runBody call loop fn vs' := by rw [h]
end
/-! ### what comes behind waits until what is before it is known -/
def bindO {α β : Type} (x : Option α) (f : α → Option β) : Option β := match x with | some a => f a | none => none
theorem bindO_some {α β : Type} (a : α) (f : α → Option β) : bindO (some a) f = f a := rfl
theorem bindO_none {α β : Type} (f : α → Option β) : bindO none f = none := rfl
@[congr] theorem bindO_congr {α β : Type} {x x' : Option α} {f : α → Option β} (h : x = x') : bindO x f = bindO x' f := by rw [h]
def seqE (x : Option (AExit × St)) (f : St → Option (AExit × St)) : Option (AExit × St) := match x with
  | some (.normal, st) => f st
  | r => r
theorem seqE_normal (st : St) (f : St → Option (AExit × St)) : seqE (some (.normal, st)) f = f st := rfl
theorem seqE_exit (i : Nat) (st : St) (f : St → Option (AExit × St)) : seqE (some (.exit i, st)) f = some (.exit i, st) := rfl
theorem seqE_ret (st : St) (f : St → Option (AExit × St)) : seqE (some (.ret, st)) f = some (.ret, st) := rfl
theorem seqE_none (f : St → Option (AExit × St)) : seqE none f = none := rfl
@[congr] theorem seqE_congr {x x' : Option (AExit × St)} {f : St → Option (AExit × St)} (h : x = x') : seqE x f = seqE x' f := by rw [h]
def condE {α : Type} (v : AV) (a b : Option α) : Option α := match v with
  | .val (.bool true) => a
  | .val (.bool false) => b
  | _ => none
theorem condE_true {α : Type} (a b : Option α) : condE (.val (.bool true)) a b = a := rfl
theorem condE_false {α : Type} (a b : Option α) : condE (.val (.bool false)) a b = b := rfl
theorem condE_decide {α : Type} (p : Prop) [Decidable p] (a b : Option α) : condE (.val (.bool (decide p))) a b = if p then a else b := by by_cases h : p <;> simp [h, condE]
@[congr] theorem condE_congr {α : Type} {v v' : AV} {a b : Option α} (h : v = v') : condE v a b = condE v' a b := by rw [h]
def blockE (id : Nat) (x : Option (AExit × St)) : Option (AExit × St) := match x with
  | some (.exit i, st) => if i = id then some (.normal, st) else some (.exit i, st)
  | r => r
theorem blockE_normal (id : Nat) (st : St) : blockE id (some (.normal, st)) = some (.normal, st) := rfl
theorem blockE_ret (id : Nat) (st : St) : blockE id (some (.ret, st)) = some (.ret, st) := rfl
theorem blockE_exit (id i : Nat) (st : St) : blockE id (some (.exit i, st)) = if i = id then some (.normal, st) else some (.exit i, st) := rfl
def retE (x : Option (AExit × St)) (f : St → Option AV) : Option AV := match x with
  | some (.normal, st) | some (.ret, st) => f st
  | _ => none
theorem retE_normal (st : St) (f : St → Option AV) : retE (some (.normal, st)) f = f st := rfl
theorem retE_ret (st : St) (f : St → Option AV) : retE (some (.ret, st)) f = f st := rfl
@[congr] theorem retE_congr {x x' : Option (AExit × St)} {f : St → Option AV} (h : x = x') : retE x f = retE x' f := by rw [h]
attribute [simp] bindO_some bindO_none seqE_normal seqE_exit seqE_ret seqE_none condE_true condE_false condE_decide blockE_normal blockE_ret blockE_exit retE_normal retE_ret

section
variable {call : CallF} {loop : LoopF} {st : St} {m : List MObj} {fr : List (Nat × AV)}
theorem runOps_nil : runOps call [] st = some st := rfl
theorem runOps_cons (d : Option Nat) (op : AOp) (r : List AOper) : runOps call (⟨d, op, none⟩ :: r) st = bindO (stepOp call st d op) (fun st' => runOps call r st') := by
  simp only [runOps, wantedA, bindO]
  rcases stepOp call st d op with _ | st1 <;> rfl
theorem runOps_consG (d : Option Nat) (op : AOp) (s : Nat) (b : Bool) (r : List AOper) : runOps call (⟨d, op, some (s, b)⟩ :: r) st =
    condE (look st.fr s) (if b then bindO (stepOp call st d op) (fun st' => runOps call r st') else runOps call r ⟨putf d (.val undef) st.fr, st.m⟩)
      (if b then runOps call r ⟨putf d (.val undef) st.fr, st.m⟩ else bindO (stepOp call st d op) (fun st' => runOps call r st')) := by
  simp only [runOps, wantedA, condE, bindO]
  generalize stepOp call st d op = x
  rcases look st.fr s with _ | v | _ | _ | _ | _ | _ | _ | _ | _ | _ <;> try rfl
  cases v <;> try rfl
  rename_i c
  cases c <;> cases b <;> cases x <;> rfl
theorem runQ_nil : runQ call m [] fr = some fr := rfl
theorem runQ_cons (d : Option Nat) (op : AOp) (r : List AOper) : runQ call m (⟨d, op, none⟩ :: r) fr = bindO (quietOp call m fr op) (fun v => runQ call m r (putf d v fr)) := by
  simp only [runQ, wantedA, bindO]
  rcases quietOp call m fr op with _ | v <;> rfl
theorem runQ_consG (d : Option Nat) (op : AOp) (s : Nat) (b : Bool) (r : List AOper) : runQ call m (⟨d, op, some (s, b)⟩ :: r) fr =
    condE (look fr s) (if b then bindO (quietOp call m fr op) (fun v => runQ call m r (putf d v fr)) else runQ call m r (putf d (.val undef) fr))
      (if b then runQ call m r (putf d (.val undef) fr) else bindO (quietOp call m fr op) (fun v => runQ call m r (putf d v fr))) := by
  simp only [runQ, wantedA, condE, bindO]
  generalize quietOp call m fr op = x
  rcases look fr s with _ | v | _ | _ | _ | _ | _ | _ | _ | _ | _ <;> try rfl
  cases v <;> try rfl
  rename_i c
  cases c <;> cases b <;> cases x <;> rfl
theorem ax_skip : aexec call loop .skip st = some (.normal, st) := rfl
theorem ax_exit (i : Nat) : aexec call loop (.exit i) st = some (.exit i, st) := rfl
theorem ax_ret : aexec call loop .ret st = some (.ret, st) := rfl
theorem ax_region (ops : List AOper) (ds : List Nat) : aexec call loop (.region ops ds) st = bindO (runOps call ops st) (fun st' => some (.normal, ⟨dropF ds st'.fr, st'.m⟩)) := by
  simp only [aexec, bindO]
  rcases runOps call ops st with _ | st' <;> rfl
theorem ax_dregion (ops : List AOper) (ds : List Nat) : aexec call loop (.dregion ops [] ds) st = bindO (runQ call st.m ops st.fr) (fun fr => some (.normal, ⟨dropF ds fr, st.m⟩)) := by
  simp only [aexec, bindO, runOps]
  rcases runQ call st.m ops st.fr with _ | fr <;> rfl
theorem ax_dregionT (ops : List AOper) (t : AOper) (ts : List AOper) (ds : List Nat) : aexec call loop (.dregion ops (t :: ts) ds) st = bindO (runQ call st.m ops st.fr) (fun fr => bindO (runOps call (t :: ts) ⟨fr, st.m⟩) (fun st' => some (.normal, ⟨dropF ds st'.fr, st'.m⟩))) := by
  simp only [aexec, bindO]
  rcases runQ call st.m ops st.fr with _ | fr
  · rfl
  · simp only
    rcases runOps call (t :: ts) ⟨fr, st.m⟩ with _ | st' <;> rfl
theorem ax_seq (a b : ACode) : aexec call loop (.seq a b) st = seqE (aexec call loop a st) (fun st' => aexec call loop b st') := by
  simp only [aexec]
  rcases aexec call loop a st with _ | ⟨ex, st1⟩
  · rfl
  · cases ex <;> rfl
theorem ax_cond (c : Operand) (a b : ACode) : aexec call loop (.cond c a b) st = condE (evA st.fr c) (aexec call loop a st) (aexec call loop b st) := by
  simp only [aexec, condE]
  generalize evA st.fr c = u
  cases u <;> rfl
theorem ax_block (id : Nat) (c : ACode) : aexec call loop (.block id c) st = blockE id (aexec call loop c st) := by
  simp only [aexec, blockE]
  rcases aexec call loop c st with _ | ⟨ex, st1⟩
  · rfl
  · cases ex <;> rfl
theorem ax_loop (c : ACode) (k : List Nat) : aexec call loop (.loop c k) st = loop c k (normSt k st) := rfl
theorem rb_mk (p n : Nat) (rs : List ARes) (b : ACode) (args : List AV) : runBody call loop ⟨p, n, rs, b⟩ args = if args.length = p then retE (aexec call loop b ⟨enterF p 0 args, []⟩) (fun st => (resL st rs).map mkRes) else none := by
  unfold runBody retE
  simp only
  split
  · rcases aexec call loop b ⟨enterF p 0 args, []⟩ with _ | ⟨ex, st⟩
    · rfl
    · cases ex <;> rfl
  · rfl
theorem so_call (d : Option Nat) (f : FuncId) (args : List Operand) : stepOp call st d (.call f args) = bindO (frzL st.m (args.map (evA st.fr))) (fun vs => bindO (call f vs) (fun r => some ⟨putf d r st.fr, if r.flatT then st.m else (args.map (evA st.fr)).foldl shutV st.m⟩)) := by
  simp only [stepOp, bindO]
  rcases frzL st.m (args.map (evA st.fr)) with _ | vs
  · rfl
  · simp only
    rcases call f vs with _ | r <;> rfl
theorem so_pure (d : Option Nat) {o : AOp} (h : o.isEff = false) : stepOp call st d o = bindO (pureOp st.m st.fr o) (fun v => some ⟨putf d v st.fr, st.m⟩) := by
  rw [step_pure h]
  unfold bindO
  rcases pureOp st.m st.fr o with _ | v <;> rfl
theorem qo_call (f : FuncId) (args : List Operand) : quietOp call m fr (.call f args) = bindO (frzL m (args.map (evA fr))) (fun vs => bindO (call f vs) (fun r => if r.toVal.isSome then some r else none)) := by
  simp only [quietOp, bindO]
  rcases frzL m (args.map (evA fr)) with _ | vs
  · rfl
  · simp only
    rcases call f vs with _ | r <;> rfl
theorem qo_pure {o : AOp} (h : o.isCall = false) : quietOp call m fr o = pureOp m fr o := quietOp_pure h
end
attribute [simp] runOps_nil runOps_cons runOps_consG runQ_nil runQ_cons runQ_consG ax_skip ax_exit ax_ret ax_region ax_dregion ax_dregionT ax_seq ax_cond ax_block ax_loop rb_mk so_call qo_call

section
variable {call : CallF} {st : St} {m : List MObj} {fr : List (Nat × AV)} (d : Option Nat)
theorem so_mov (x : Operand) : stepOp call st d (.mov x) = some ⟨putf d (evA st.fr x) st.fr, st.m⟩ := rfl
theorem so_pick (c a b : Operand) : stepOp call st d (.pick c a b) = condE (evA st.fr c) (some ⟨putf d (evA st.fr a) st.fr, st.m⟩) (some ⟨putf d (evA st.fr b) st.fr, st.m⟩) := by
  rw [so_pure d rfl]
  simp only [pureOp, condE, bindO]
  rcases evA st.fr c with _ | v | _ | _ | _ | _ | _ | _ | _ | _ | _ <;> try rfl
  cases v <;> try rfl
  rename_i t
  cases t <;> rfl
theorem qo_pick (c a b : Operand) : quietOp call m fr (.pick c a b) = condE (evA fr c) (some (evA fr a)) (some (evA fr b)) := by
  rw [qo_pure rfl]
  simp only [pureOp, condE]
  rcases evA fr c with _ | v | _ | _ | _ | _ | _ | _ | _ | _ | _ <;> try rfl
  cases v <;> try rfl
  rename_i t
  cases t <;> rfl
end
theorem qo_mov {m : List MObj} {fr : List (Nat × AV)} {call : CallF} (x : Operand) : quietOp call m fr (.mov x) = some (evA fr x) := rfl
section
variable {call : CallF} {st : St} {m : List MObj} {fr : List (Nat × AV)} (d : Option Nat)
theorem so_bin (o : BinOp) (x y : Operand) : stepOp call st d (.bin o x y) = bindO (pureOp st.m st.fr (.bin o x y)) (fun v => some ⟨putf d v st.fr, st.m⟩) := so_pure d rfl
theorem qo_bin (o : BinOp) (x y : Operand) : quietOp call m fr (.bin o x y) = pureOp m fr (.bin o x y) := rfl
theorem so_beq (n : Bool) (x y : Operand) : stepOp call st d (.beq n x y) = bindO (pureOp st.m st.fr (.beq n x y)) (fun v => some ⟨putf d v st.fr, st.m⟩) := so_pure d rfl
theorem qo_beq (n : Bool) (x y : Operand) : quietOp call m fr (.beq n x y) = pureOp m fr (.beq n x y) := rfl
theorem so_un (o : UnOp) (x : Operand) : stepOp call st d (.un o x) = bindO (pureOp st.m st.fr (.un o x)) (fun v => some ⟨putf d v st.fr, st.m⟩) := so_pure d rfl
theorem qo_un (o : UnOp) (x : Operand) : quietOp call m fr (.un o x) = pureOp m fr (.un o x) := rfl
theorem so_cint (k : IntKind) (x : Operand) : stepOp call st d (.cint k x) = bindO (pureOp st.m st.fr (.cint k x)) (fun v => some ⟨putf d v st.fr, st.m⟩) := so_pure d rfl
theorem qo_cint (k : IntKind) (x : Operand) : quietOp call m fr (.cint k x) = pureOp m fr (.cint k x) := rfl
theorem so_cstr (x : Operand) : stepOp call st d (.cstr x) = bindO (pureOp st.m st.fr (.cstr x)) (fun v => some ⟨putf d v st.fr, st.m⟩) := so_pure d rfl
theorem qo_cstr (x : Operand) : quietOp call m fr (.cstr x) = pureOp m fr (.cstr x) := rfl
theorem so_b2s (x : Operand) : stepOp call st d (.b2s x) = bindO (pureOp st.m st.fr (.b2s x)) (fun v => some ⟨putf d v st.fr, st.m⟩) := so_pure d rfl
theorem qo_b2s (x : Operand) : quietOp call m fr (.b2s x) = pureOp m fr (.b2s x) := rfl
theorem so_load (n : Nat) (g : Bool) (x : Operand) : stepOp call st d (.load n g x) = bindO (pureOp st.m st.fr (.load n g x)) (fun v => some ⟨putf d v st.fr, st.m⟩) := so_pure d rfl
theorem qo_load (n : Nat) (g : Bool) (x : Operand) : quietOp call m fr (.load n g x) = pureOp m fr (.load n g x) := rfl
theorem so_faddr (o : Nat) (x : Operand) : stepOp call st d (.faddr o x) = bindO (pureOp st.m st.fr (.faddr o x)) (fun v => some ⟨putf d v st.fr, st.m⟩) := so_pure d rfl
theorem qo_faddr (o : Nat) (x : Operand) : quietOp call m fr (.faddr o x) = pureOp m fr (.faddr o x) := rfl
theorem so_fld (o n : Nat) (g : Bool) (x : Operand) : stepOp call st d (.fld o n g x) = bindO (pureOp st.m st.fr (.fld o n g x)) (fun v => some ⟨putf d v st.fr, st.m⟩) := so_pure d rfl
theorem qo_fld (o n : Nat) (g : Bool) (x : Operand) : quietOp call m fr (.fld o n g x) = pureOp m fr (.fld o n g x) := rfl
theorem so_iaddr (z : Nat) (x i : Operand) : stepOp call st d (.iaddr z x i) = bindO (pureOp st.m st.fr (.iaddr z x i)) (fun v => some ⟨putf d v st.fr, st.m⟩) := so_pure d rfl
theorem qo_iaddr (z : Nat) (x i : Operand) : quietOp call m fr (.iaddr z x i) = pureOp m fr (.iaddr z x i) := rfl
theorem so_aaddr (c z : Nat) (x i : Operand) : stepOp call st d (.aaddr c z x i) = bindO (pureOp st.m st.fr (.aaddr c z x i)) (fun v => some ⟨putf d v st.fr, st.m⟩) := so_pure d rfl
theorem qo_aaddr (c z : Nat) (x i : Operand) : quietOp call m fr (.aaddr c z x i) = pureOp m fr (.aaddr c z x i) := rfl
theorem so_sidx (x i : Operand) : stepOp call st d (.sidx x i) = bindO (pureOp st.m st.fr (.sidx x i)) (fun v => some ⟨putf d v st.fr, st.m⟩) := so_pure d rfl
theorem qo_sidx (x i : Operand) : quietOp call m fr (.sidx x i) = pureOp m fr (.sidx x i) := rfl
theorem so_aidx (c z : Nat) (g : Bool) (x i : Operand) : stepOp call st d (.aidx c z g x i) = bindO (pureOp st.m st.fr (.aidx c z g x i)) (fun v => some ⟨putf d v st.fr, st.m⟩) := so_pure d rfl
theorem qo_aidx (c z : Nat) (g : Bool) (x i : Operand) : quietOp call m fr (.aidx c z g x i) = pureOp m fr (.aidx c z g x i) := rfl
theorem so_len (x : Operand) : stepOp call st d (.len x) = bindO (pureOp st.m st.fr (.len x)) (fun v => some ⟨putf d v st.fr, st.m⟩) := so_pure d rfl
theorem qo_len (x : Operand) : quietOp call m fr (.len x) = pureOp m fr (.len x) := rfl
theorem so_slen (x : Operand) : stepOp call st d (.slen x) = bindO (pureOp st.m st.fr (.slen x)) (fun v => some ⟨putf d v st.fr, st.m⟩) := so_pure d rfl
theorem qo_slen (x : Operand) : quietOp call m fr (.slen x) = pureOp m fr (.slen x) := rfl
theorem so_slc (z : Nat) (x : Operand) (l h : Option Operand) : stepOp call st d (.slc z x l h) = bindO (pureOp st.m st.fr (.slc z x l h)) (fun v => some ⟨putf d v st.fr, st.m⟩) := so_pure d rfl
theorem qo_slc (z : Nat) (x : Operand) (l h : Option Operand) : quietOp call m fr (.slc z x l h) = pureOp m fr (.slc z x l h) := rfl
theorem so_sslc (x : Operand) (l h : Option Operand) : stepOp call st d (.sslc x l h) = bindO (pureOp st.m st.fr (.sslc x l h)) (fun v => some ⟨putf d v st.fr, st.m⟩) := so_pure d rfl
theorem qo_sslc (x : Operand) (l h : Option Operand) : quietOp call m fr (.sslc x l h) = pureOp m fr (.sslc x l h) := rfl
theorem so_build (z : List Value) (ps : List (Nat × Nat × Operand)) : stepOp call st d (.build z ps) = bindO (pureOp st.m st.fr (.build z ps)) (fun v => some ⟨putf d v st.fr, st.m⟩) := so_pure d rfl
theorem qo_build (z : List Value) (ps : List (Nat × Nat × Operand)) : quietOp call m fr (.build z ps) = pureOp m fr (.build z ps) := rfl
theorem so_ext (x : Operand) (i : Nat) : stepOp call st d (.ext x i) = bindO (pureOp st.m st.fr (.ext x i)) (fun v => some ⟨putf d v st.fr, st.m⟩) := so_pure d rfl
theorem qo_ext (x : Operand) (i : Nat) : quietOp call m fr (.ext x i) = pureOp m fr (.ext x i) := rfl
theorem so_mn (x : Operand) (ys : List Operand) : stepOp call st d (.mn x ys) = bindO (pureOp st.m st.fr (.mn x ys)) (fun v => some ⟨putf d v st.fr, st.m⟩) := so_pure d rfl
theorem qo_mn (x : Operand) (ys : List Operand) : quietOp call m fr (.mn x ys) = pureOp m fr (.mn x ys) := rfl
theorem so_mx (x : Operand) (ys : List Operand) : stepOp call st d (.mx x ys) = bindO (pureOp st.m st.fr (.mx x ys)) (fun v => some ⟨putf d v st.fr, st.m⟩) := so_pure d rfl
theorem qo_mx (x : Operand) (ys : List Operand) : quietOp call m fr (.mx x ys) = pureOp m fr (.mx x ys) := rfl
end
attribute [simp] so_mov so_pick qo_pick qo_mov pureOp so_bin qo_bin so_beq qo_beq so_un qo_un so_cint qo_cint so_cstr qo_cstr so_b2s qo_b2s so_load qo_load so_faddr qo_faddr so_fld qo_fld so_iaddr qo_iaddr so_aaddr qo_aaddr so_sidx qo_sidx so_aidx qo_aidx so_len qo_len so_slen qo_slen so_slc qo_slc so_sslc qo_sslc so_build qo_build so_ext qo_ext so_mn qo_mn so_mx qo_mx
attribute [simp low] stepOp

attribute [simp] normSt keepF gc frRef mRef MObj.ref look putf setf evA AV.ofV lenA slenA elems elemsS iaddrA faddrA cellsAt mkV AV.cells AV.toVal valsOf binV dropF AV.ref AV.refCell maxRef slcA sslcA sidxA lowOf highOf rowOk fillA minI maxI
  frz frzCell frzCells frzL AV.grCell AV.isCell AV.ground AV.flat AV.flatT AV.flatCell shutV shutCell zeroEl setAt setEl bsEls resOf resL mkRes enterF AV.toI AV.toN bytesL Sem.now

section
variable {F : FuncId → Option AFunc} {X : CallF}
/-- a round, and the rest of the loop -/
theorem Lp_go {c : ACode} {k : List Nat} {st st' st'' : St} {r : AExit × St} (h : aexec (R F X) (Lp F X) c st = some (.normal, st')) (hn : normSt k st' = st'') (h' : Lp F X c k st'' = some r) : Lp F X c k st = some r :=
  Lp_step h (by rw [hn]; exact h')
end
theorem dropF_nil : ∀ fr : List (Nat × AV), dropF [] fr = fr
  | [] => rfl
  | (k, v) :: r => by rw [dropF, if_neg (by simp), dropF_nil r]
attribute [simp] dropF_nil
theorem toN_nat (k : IntKind) (n : Nat) : (AV.val (.int k (n : Int))).toN = some n := by simp
theorem toN_pos {k : IntKind} {n : Int} (h : 0 ≤ n) : (AV.val (.int k n)).toN = some n.toNat := by simp [h]
theorem wrap64_id {n : Int} (h1 : -9223372036854775808 ≤ n) (h2 : n ≤ 9223372036854775807) : IntKind.i64.wrap n = n := IntWalk.i64_in _ (by omega)

def strV (s : ByteArray) : AV := .val (.string s)
def strs (l : List ByteArray) : AV := .slice 1 (l.map strV)
def intA (n : Int) : AV := .val (.int .i64 n)
def boolA (b : Bool) : AV := .val (.bool b)
end Go.Proofs.Ytejajmmacmcijaa
