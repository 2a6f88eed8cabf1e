/- The abstract machine: what is to be shown of a run: loops with their invariants, and functions. -/
import Derived.Test.YtgjdmlhgapmflaaDoorAmW2
namespace Go.Proofs.YtgjdmlhgapmflaaDoor
set_option linter.unusedVariables false
set_option linter.unusedSimpArgs false

/-! ### two states, part by part -/
def eqVal : Value → Value → Prop
  | .int k n, .int k' n' => if k = k' then n = n' else False
  | .bool a, .bool b => a = b
  | .string a, .string b => toL a = toL b
  | a, b => a = b
def eqCell : AV → AV → Prop
  | .val a, .val b => eqVal a b
  | .slice s l, .slice s' l' => if s = s' then l = l' else False
  | .row id ver used off len, .row id' ver' used' off' len' => if id = id' ∧ ver = ver' then used = used' ∧ off = off' ∧ len = len' else False
  | .ptr id off, .ptr id' off' => if id = id' ∧ off = off' then True else False
  | .any, .any => True
  | a, b => a = b
def eqCells : List AV → List AV → Prop
  | [], [] => True
  | [x], [y] => eqCell x y
  | x :: l, y :: l' => eqCell x y ∧ eqCells l l'
  | _, _ => False
def eqAV : AV → AV → Prop
  | .agg l, .agg l' => eqCells l l'
  | a, b => eqCell a b
def eqAVs : List AV → List AV → Prop
  | [], [] => True
  | [x], [y] => eqAV x y
  | x :: l, y :: l' => eqAV x y ∧ eqAVs l l'
  | _, _ => False
def eqR : AV → AV → Prop
  | .tuple l, .tuple l' => eqAVs l l'
  | a, b => eqAV a b
def eqFr : List (Nat × AV) → List (Nat × AV) → Prop
  | [], [] => True
  | (k, x) :: l, (k', y) :: l' => if k = k' then eqAV x y ∧ eqFr l l' else False
  | _, _ => False
def eqObj : MObj → MObj → Prop
  | .box l, .box l' => eqCells l l'
  | .row v s l wr ap, .row v' s' l' wr' ap' => if v = v' ∧ s = s' ∧ wr = wr' ∧ ap = ap' then l = l' else False
  | .mp es, .mp es' => es = es'
  | a, b => a = b
def eqMem : List MObj → List MObj → Prop
  | [], [] => True
  | [x], [y] => eqObj x y
  | x :: l, y :: l' => eqObj x y ∧ eqMem l l'
  | _, _ => False
def eqSt (a b : St) : Prop := eqFr a.fr b.fr ∧ eqMem a.m b.m
theorem eqVal_eq {a b : Value} (h : eqVal a b) : a = b := by
  unfold eqVal at h
  split at h
  · split at h
    · rename_i hk; rw [hk, h]
    · exact h.elim
  · rw [h]
  · rename_i s t
    rw [← ofL_toL s, ← ofL_toL t, h]
  · exact h
theorem eqCell_eq {a b : AV} (h : eqCell a b) : a = b := by
  unfold eqCell at h
  split at h
  · rw [eqVal_eq h]
  · split at h
    · rename_i hk; rw [hk, h]
    · exact h.elim
  · split at h
    · rename_i hk; rw [hk.1, hk.2, h.1, h.2.1, h.2.2]
    · exact h.elim
  · split at h
    · rename_i hk; rw [hk.1, hk.2]
    · exact h.elim
  · rfl
  · exact h
theorem eqCells_eq : ∀ {a b : List AV}, eqCells a b → a = b
  | [], [], _ => rfl
  | [x], [y], h => by rw [eqCell_eq h]
  | [x], y :: z :: l, h => by simp only [eqCells] at h; exact h.2.elim
  | x :: z :: l, [y], h => by simp only [eqCells] at h; exact h.2.elim
  | x :: u :: l, y :: v :: l', h => by
    simp only [eqCells] at h
    rw [eqCell_eq h.1, eqCells_eq (a := u :: l) (b := v :: l') h.2]
  | [], _ :: _, h => by simp only [eqCells] at h
  | _ :: _, [], h => by simp only [eqCells] at h
theorem eqAV_eq {a b : AV} (h : eqAV a b) : a = b := by
  unfold eqAV at h
  split at h
  · rw [eqCells_eq h]
  · exact eqCell_eq h
theorem eqAVs_eq : ∀ {a b : List AV}, eqAVs a b → a = b
  | [], [], _ => rfl
  | [x], [y], h => by rw [eqAV_eq h]
  | [x], y :: z :: l, h => by simp only [eqAVs] at h; exact h.2.elim
  | x :: z :: l, [y], h => by simp only [eqAVs] at h; exact h.2.elim
  | x :: u :: l, y :: v :: l', h => by
    simp only [eqAVs] at h
    rw [eqAV_eq h.1, eqAVs_eq (a := u :: l) (b := v :: l') h.2]
  | [], _ :: _, h => by simp only [eqAVs] at h
  | _ :: _, [], h => by simp only [eqAVs] at h
theorem eqR_eq {a b : AV} (h : eqR a b) : a = b := by
  unfold eqR at h
  split at h
  · rw [eqAVs_eq h]
  · exact eqAV_eq h
theorem eqFr_eq : ∀ {a b : List (Nat × AV)}, eqFr a b → a = b
  | [], [], _ => rfl
  | (k, x) :: l, (k', y) :: l', h => by
    simp only [eqFr] at h
    split at h
    · rename_i hk; rw [hk, eqAV_eq h.1, eqFr_eq h.2]
    · exact h.elim
  | [], _ :: _, h => by simp only [eqFr] at h
  | _ :: _, [], h => by simp only [eqFr] at h
theorem eqObj_eq {a b : MObj} (h : eqObj a b) : a = b := by
  unfold eqObj at h
  split at h
  · rw [eqCells_eq h]
  · split at h
    · rename_i hk; rw [hk.1, hk.2.1, hk.2.2.1, hk.2.2.2, h]
    · exact h.elim
  · rw [h]
  · exact h
theorem eqMem_eq : ∀ {a b : List MObj}, eqMem a b → a = b
  | [], [], _ => rfl
  | [x], [y], h => by rw [eqObj_eq h]
  | [x], y :: z :: l, h => by simp only [eqMem] at h; exact h.2.elim
  | x :: z :: l, [y], h => by simp only [eqMem] at h; exact h.2.elim
  | x :: u :: l, y :: v :: l', h => by
    simp only [eqMem] at h
    rw [eqObj_eq h.1, eqMem_eq (a := u :: l) (b := v :: l') h.2]
  | [], _ :: _, h => by simp only [eqMem] at h
  | _ :: _, [], h => by simp only [eqMem] at h
theorem eqSt_eq {a b : St} (h : eqSt a b) : a = b := by
  cases a; cases b
  simp only [eqSt] at h
  rw [eqFr_eq h.1, eqMem_eq h.2]

section
variable (call : CallF) (inl : InlW) (loop : LoopF) (b : Nat)
/-- what a round of a loop comes to -/
def roundW {ι : Type} (S : ι → St) (I : ι → Prop) (μ : ι → Nat) (keep : List Nat) (i : ι) (Q : AExit × St → Tr → Prop) : AExit × St → Tr → Prop
  | (.normal, st'), _ => ∃ j, eqSt (normSt b keep st') (S j) ∧ I j ∧ μ j < μ i
  | (.exit k, st'), T => Q (.exit k, st') T
  | (.ret, st'), T => Q (.ret, st') T
/-- behind a choice -/
def joinW (keep : List Nat) (Q : AExit × St → Tr → Prop) : AExit × St → Tr → Prop
  | (.normal, st'), T => Q (.normal, normSt b keep st') T
  | (.exit k, st'), T => Q (.exit k, st') T
  | (.ret, st'), T => Q (.ret, st') T
/-- where ways meet -/
def cutW {ι : Type} (S : ι → St) (I : ι → Prop) (keep : List Nat) (Q : AExit × St → Tr → Prop) : AExit × St → Tr → Prop
  | (.normal, st'), _ => ∃ j, eqSt (normSt b keep st') (S j) ∧ I j
  | (.exit k, st'), T => Q (.exit k, st') T
  | (.ret, st'), T => Q (.ret, st') T
/-- a loop that is written out, at most n rounds -/
def unW (body : St → W (AExit × St)) (keep : List Nat) (Q : AExit × St → Tr → Prop) : Nat → St → Tr → Prop
  | 0, _, _ => False
  | n + 1, st, T => body (normSt b keep st) T fun r T' => match r with
    | (.normal, st') => unW body keep Q n st' T'
    | (.exit k, st') => Q (.exit k, st') T'
    | (.ret, st') => Q (.ret, st') T'
def codeW : ACode → St → W (AExit × St)
  | .skip, st => retW (.normal, st)
  | .region ops ds, st => bindW (opsW call inl ops [] st) fun st' => retW (.normal, ⟨dropF ds st'.fr, st'.m⟩)
  | .dregion ops tail ds, st => bindW (extsW call st.m ops [] st.fr) fun fr => bindW (opsW call inl tail [] ⟨fr, st.m⟩) fun st' => retW (.normal, ⟨dropF ds st'.fr, st'.m⟩)
  | .seq x y, st => bindW (codeW x st) fun r => match r with
    | (.normal, st') => codeW y st'
    | r => retW r
  | .cond c x y, st => match evA st.fr c with
    | .val (.bool t) => bindW (boolW t) fun t => if t then codeW x st else codeW y st
    | _ => stopW (.mov c)
  | .block id c, st => bindW (codeW c st) fun r => match r with
    | (.exit i, st') => retW (if i = id then (.normal, st') else (.exit i, st'))
    | r => retW r
  | .loop c k, st => askW (.loop c k (normSt b k st)) fun T Q => match T with
    | .lp ex st' r => loop c k st = some (ex, st') ∧ Q (ex, st') r
    | .un n r => unW b (codeW c) k Q n st r
    | .inv S I μ r => (∃ i, eqSt (normSt b k st) (S i) ∧ I i) ∧ ∀ i, I i → codeW c (S i) (r i) (roundW b S I μ k i Q)
    | _ => False
  | .join c k, st => askW (.join k st) fun T Q => match T with
    | .w r => codeW c st r (joinW b k Q)
    | .cut S I r r' => codeW c st r (cutW b S I k Q) ∧ ∀ i, I i → Q (.normal, S i) (r' i)
    | _ => False
  | .exit id, st => retW (.exit id, st)
  | .ret, st => retW (.ret, st)
end

section
variable {F : FuncId → Option AFunc} {X : CallF}
theorem loop_inv {b : Nat} {inl : InlW} {c : ACode} {keep : List Nat} {ι : Type} {S : ι → St} {I : ι → Prop} {μ : ι → Nat} {r : ι → Tr} {Q : AExit × St → Tr → Prop} (hc : ∀ st, SoundW (codeW (R F X) inl (Lp F X b) b c st) (aexec (R F X) b (Lp F X b) c st))
    (h : ∀ i, I i → codeW (R F X) inl (Lp F X b) b c (S i) (r i) (roundW b S I μ keep i Q)) : ∀ (n : Nat) (i : ι) (st : St), μ i < n → I i → normSt b keep st = S i → ∃ x T', Lp F X b c keep st = some x ∧ Q x T' := by
  intro n
  induction n with
  | zero => intro i st hn; omega
  | succ n ih =>
    intro i st hn hi hst
    obtain ⟨⟨ex, st'⟩, T', h1, h2⟩ := hc _ _ _ (h i hi)
    rw [← hst] at h1
    cases ex with
    | normal =>
      obtain ⟨j, e, hj, hlt⟩ := h2
      obtain ⟨x, T'', g1, g2⟩ := ih j st' (by omega) hj (eqSt_eq e)
      exact ⟨x, T'', Lp_step h1 g1, g2⟩
    | exit k => exact ⟨_, T', Lp_exit h1, h2⟩
    | ret => exact ⟨_, T', Lp_ret h1, h2⟩
theorem unW_ok {b : Nat} {c : ACode} {keep : List Nat} {body : St → W (AExit × St)} {Q : AExit × St → Tr → Prop} (hc : ∀ st, SoundW (body st) (aexec (R F X) b (Lp F X b) c st)) : ∀ (n : Nat) (st : St) (T : Tr), unW b body keep Q n st T → ∃ x T', Lp F X b c keep st = some x ∧ Q x T'
  | 0, _, _, h => h.elim
  | n + 1, st, T, h => by
    obtain ⟨⟨ex, st'⟩, T', h1, h2⟩ := hc _ _ _ h
    cases ex with
    | normal =>
      obtain ⟨x, T'', g1, g2⟩ := unW_ok hc n st' T' h2
      exact ⟨x, T'', Lp_step h1 g1, g2⟩
    | exit k => exact ⟨_, T', Lp_exit h1, h2⟩
    | ret => exact ⟨_, T', Lp_ret h1, h2⟩
theorem codeW_ok {inl : InlW} (hi : InlOk (R F X) inl) (b : Nat) : ∀ (c : ACode) (st : St), SoundW (codeW (R F X) inl (Lp F X b) b c st) (aexec (R F X) b (Lp F X b) c st)
  | .skip, st => .ret _
  | .region ops ds, st => by
    unfold codeW aexec
    refine .bind' (opsW_ok _ _ hi _ _ _ (KOk.nil _)) fun st' h => ?_
    rw [h]
    exact .ret _
  | .dregion ops tail ds, st => by
    unfold codeW aexec
    refine .bind' (extsW_ok _ _ _ _ _ (KOk.nil _)) fun fr h => ?_
    rw [h]
    refine .bind' (opsW_ok _ _ hi _ _ _ (KOk.nil _)) fun st' h' => ?_
    simp only [h']
    exact .ret _
  | .seq x y, st => by
    unfold codeW aexec
    refine .bind' (codeW_ok hi b x st) fun r h => ?_
    rw [h]
    obtain ⟨ex, st'⟩ := r
    cases ex with
    | normal => exact codeW_ok hi b y st'
    | exit i => exact .ret _
    | ret => exact .ret _
  | .cond c x y, st => by
    unfold codeW aexec
    split
    · rename_i t hc
      refine .bind' (boolW_ok _) fun t' ht => ?_
      cases ht
      rw [hc]
      cases t with
      | true => exact codeW_ok hi b x st
      | false => exact codeW_ok hi b y st
    · exact .stop _ _
  | .block id c, st => by
    unfold codeW aexec
    refine .bind' (codeW_ok hi b c st) fun r h => ?_
    rw [h]
    obtain ⟨ex, st'⟩ := r
    cases ex with
    | normal => exact .ret _
    | exit i =>
      simp only
      split <;> exact .ret _
    | ret => exact .ret _
  | .loop c k, st => by
    unfold codeW aexec
    refine .ask fun T Q h => ?_
    split at h
    · exact ⟨_, _, h.1, h.2⟩
    · exact unW_ok (codeW_ok hi b c) _ _ _ h
    · rename_i S I μ r
      obtain ⟨⟨i, e, hI⟩, h2⟩ := h
      exact loop_inv (codeW_ok hi b c) h2 (μ i + 1) i st (Nat.lt_succ_self _) hI (eqSt_eq e)
    · exact h.elim
  | .join c k, st => by
    unfold codeW aexec
    refine .ask fun T Q h => ?_
    split at h
    · obtain ⟨⟨ex, st'⟩, T', h1, h2⟩ := codeW_ok hi b c st _ _ h
      rw [h1]
      cases ex <;> exact ⟨_, T', rfl, h2⟩
    · rename_i S I r r'
      obtain ⟨⟨ex, st'⟩, T', h1, h2⟩ := codeW_ok hi b c st _ _ h.1
      rw [h1]
      cases ex with
      | normal =>
        obtain ⟨j, e, hj⟩ := h2
        refine ⟨_, _, ?_, h.2 j hj⟩
        simp only [eqSt_eq e]
      | exit i => exact ⟨_, T', rfl, h2⟩
      | ret => exact ⟨_, T', rfl, h2⟩
    · exact h.elim
  | .exit id, st => .ret _
  | .ret, st => .ret _
end

def resW0 (st : St) : ARes → W AV
  | .tmp t _ => frzW st.m (.mov (.tmp t)) (look st.fr t)
  | .cell t n ag _ => bindW (liftW (.mov (.tmp t)) ((cellsAt st.m (look st.fr t)).bind (mkV n ag))) fun v => frzW st.m (.mov (.tmp t)) v
def ARes.offs : ARes → List (Nat × Nat)
  | .tmp _ o => o
  | .cell _ _ _ o => o
def resW (st : St) (x : ARes) : W AV := bindW (resW0 st x) fun v => retW (nilN x.offs v)
theorem resW_ok (st : St) (x : ARes) : SoundW (resW st x) (resOf st x) := by
  have fin : ∀ {o : Option AV}, SoundW (resW0 st x) o → SoundW (resW st x) (o.map (nilN x.offs)) := fun {o} h => by
    have : o.map (nilN x.offs) = o.bind fun v => some (nilN x.offs v) := by cases o <;> rfl
    rw [this]
    exact h.bind fun a _ => .ret _
  cases x with
  | tmp t offs => exact fin (frzW_ok _ _ _)
  | cell t n ag offs =>
    refine fin ?_
    show SoundW (bindW (liftW (.mov (.tmp t)) ((cellsAt st.m (look st.fr t)).bind (mkV n ag))) fun v => frzW st.m (.mov (.tmp t)) v) (((cellsAt st.m (look st.fr t)).bind (mkV n ag)).bind (frz st.m))
    exact SoundW.bind (x := liftW (.mov (.tmp t)) ((cellsAt st.m (look st.fr t)).bind (mkV n ag))) (f := fun v => frzW st.m (.mov (.tmp t)) v) (SoundW.lift _ _) fun v _ => frzW_ok _ _ _
def resLW (st : St) : List ARes → W (List AV)
  | [] => retW []
  | x :: r => bindW (resW st x) fun a => bindW (resLW st r) fun b => retW (a :: b)
theorem resLW_ok (st : St) : ∀ l : List ARes, SoundW (resLW st l) (resL st l)
  | [] => .ret _
  | x :: r => by
    have : resL st (x :: r) = (resOf st x).bind fun a => (resL st r).bind fun b => some (a :: b) := by
      simp only [resL]
      cases resOf st x <;> cases resL st r <;> rfl
    rw [this]
    exact (resW_ok st x).bind fun a _ => (resLW_ok st r).bind fun b _ => .ret _
section
variable (F : FuncId → Option AFunc) (X : CallF)
def bodyMW (inl : InlW) (fn : AFunc) (args : List AV) (m : List MObj) : W (AV × List MObj) := ifW (.call 0 []) (args.length = fn.params) (bindW (codeW (R F X) inl (Lp F X m.length) m.length fn.body ⟨enterF fn.params 0 args, m⟩) fun r => match r with
  | (.exit _, _) => stopW (.call 0 [])
  | (_, st) => bindW (liftW (.call 0 []) (resLM st fn.results)) fun l => retW (mkRes l, st.m))
def inlW : Nat → InlW
  | 0 => fun _ _ _ => stopW (.call 0 [])
  | d + 1 => fun f vs m => match F f with
    | some fn => bodyMW F X (inlW d) fn vs m
    | none => stopW (.call f [])
def bodyW (inl : InlW) (fn : AFunc) (args : List AV) : W AV := ifW (.call 0 []) (args.length = fn.params) (bindW (codeW (R F X) inl (Lp F X 0) 0 fn.body ⟨enterF fn.params 0 args, []⟩) fun r => match r with
  | (.exit _, _) => stopW (.call 0 [])
  | (_, st) => bindW (resLW st fn.results) fun l => retW (mkRes l))
end
section
variable {F : FuncId → Option AFunc} {X : CallF}
theorem bodyMW_ok {inl : InlW} (hi : InlOk (R F X) inl) (fn : AFunc) (args : List AV) (m : List MObj) : SoundW (bodyMW F X inl fn args m) (runBodyM (R F X) (Lp F X m.length) fn args m) := by
  unfold bodyMW runBodyM
  refine .ite fun h => ?_
  rw [if_pos h]
  refine .bind' (codeW_ok hi _ _ _) fun r hr => ?_
  obtain ⟨ex, st⟩ := r
  rw [hr]
  cases ex with
  | normal =>
    refine .bind' (.lift _ _) fun l hl => .ret' ?_
    simp only [hl, Option.map_some]
  | exit i => exact .stop _ _
  | ret =>
    refine .bind' (.lift _ _) fun l hl => .ret' ?_
    simp only [hl, Option.map_some]
theorem inlW_ok : ∀ d, InlOk (R F X) (inlW F X d)
  | 0 => fun _ _ _ => .stop _ _
  | d + 1 => fun f vs m => by
    unfold inlW
    split
    · rename_i fn hf
      intro T Q h
      obtain ⟨a, T', h1, h2⟩ := bodyMW_ok (inlW_ok d) fn vs m T Q h
      exact ⟨a, T', RM_body hf h1, h2⟩
    · exact .stop _ _
theorem bodyW_ok {inl : InlW} (hi : InlOk (R F X) inl) (fn : AFunc) (args : List AV) : SoundW (bodyW F X inl fn args) (runBody (R F X) (Lp F X 0) fn args) := by
  unfold bodyW runBody
  refine .ite fun h => ?_
  rw [if_pos h]
  refine .bind' (codeW_ok hi _ _ _) fun r hr => ?_
  obtain ⟨ex, st⟩ := r
  rw [hr]
  cases ex with
  | normal =>
    refine .bind' (resLW_ok _ _) fun l hl => .ret' ?_
    simp only [hl, Option.map_some]
  | exit i => exact .stop _ _
  | ret =>
    refine .bind' (resLW_ok _ _) fun l hl => .ret' ?_
    simp only [hl, Option.map_some]
/-- what a function's answer hangs on -/
@[irreducible] def wpR (F : FuncId → Option AFunc) (X : CallF) (fn : AFunc) (vs : List AV) (T : Tr) (r : AV) : Prop := bodyW F X (inlW F X 9) fn vs T fun v _ => eqR v r
@[irreducible] def wpRM (F : FuncId → Option AFunc) (X : CallF) (fn : AFunc) (vs : List AV) (m : List MObj) (T : Tr) (r : AV) (m' : List MObj) : Prop := bodyMW F X (inlW F X 9) fn vs m T fun v _ => eqR v.1 r ∧ eqMem v.2 m'
/-- a function's answer -/
theorem R_wp {f : FuncId} {fn : AFunc} {vs : List AV} {r : AV} (T : Tr) (hf : F f = some fn) (h : wpR F X fn vs T r) : (R F X).f f vs = some r := by
  unfold wpR at h
  obtain ⟨a, T', h1, h2⟩ := bodyW_ok (inlW_ok 9) fn vs T _ h
  rw [← eqR_eq h2]
  exact R_body hf h1
/-- a function's answer, in its caller's memory -/
theorem RM_wp {f : FuncId} {fn : AFunc} {vs : List AV} {m m' : List MObj} {r : AV} (T : Tr) (hf : F f = some fn) (h : wpRM F X fn vs m T r m') : (R F X).m f vs m = some (r, m') := by
  unfold wpRM at h
  obtain ⟨a, T', h1, h2, h3⟩ := bodyMW_ok (inlW_ok 9) fn vs m T _ h
  rw [← eqR_eq h2, ← eqMem_eq h3]
  exact RM_body hf h1
end
end Go.Proofs.YtgjdmlhgapmflaaDoor
