/- Own texts of this claim, merged: AmW3, AmW4, AmC, Rep, Laid, Ft, Pl, NuP, CuP, Pn, Cu1, CuQ, Cu2. -/
import Derived.Test.YtfedemnaeggokaaGreatDoorPb
import Derived.LaidMore
import Derived.Lib.LaidTab
import Derived.Stop.Joined
import Derived.Test.YtfedemnaeggokaaGreatDoorChecked
import Derived.KernelRfl
import Derived.Lib.AtoiAll
import Derived.Lib.ItoaNum
section
namespace Go.Proofs.YtfedemnaeggokaaGreatDoor
set_option linter.unusedVariables false
set_option linter.unusedSimpArgs false
def eqVal : Value → Value → Prop
 | .int k n, .int k' n' => if k = k' then n = n' else False
 | .bool a, .bool b => a = b
 | .string a, .string b => toL a = toL b
 | a, b => a = b
def eqCell : AV → AV → Prop
 | .val a, .val b => eqVal a b
 | .slice s l, .slice s' l' => if s = s' then l = l' else False
 | .row id ver used off len, .row id' ver' used' off' len' => if id = id' ∧ ver = ver' then used = used' ∧ off = off' ∧ len = len' else False
 | .ptr id off, .ptr id' off' => if id = id' ∧ off = off' then True else False
 | .any, .any => True
 | a, b => a = b
def eqCells : List AV → List AV → Prop
 | [], [] => True
 | [x], [y] => eqCell x y
 | x :: l, y :: l' => eqCell x y ∧ eqCells l l'
 | _, _ => False
def eqAV : AV → AV → Prop
 | .agg l, .agg l' => eqCells l l'
 | a, b => eqCell a b
def eqAVs : List AV → List AV → Prop
 | [], [] => True
 | [x], [y] => eqAV x y
 | x :: l, y :: l' => eqAV x y ∧ eqAVs l l'
 | _, _ => False
def eqR : AV → AV → Prop
 | .tuple l, .tuple l' => eqAVs l l'
 | a, b => eqAV a b
def eqFr : List (Nat × AV) → List (Nat × AV) → Prop
 | [], [] => True
 | (k, x) :: l, (k', y) :: l' => if k = k' then eqAV x y ∧ eqFr l l' else False
 | _, _ => False
def eqObj : MObj → MObj → Prop
 | .box t l, .box t' l' => if t = t' then eqCells l l' else False
 | .row v s l wr ap, .row v' s' l' wr' ap' => if v = v' ∧ s = s' ∧ wr = wr' ∧ ap = ap' then l = l' else False
 | .mp es, .mp es' => es = es'
 | a, b => a = b
def eqMem : List MObj → List MObj → Prop
 | [], [] => True
 | [x], [y] => eqObj x y
 | x :: l, y :: l' => eqObj x y ∧ eqMem l l'
 | _, _ => False
def eqSt (a b : St) : Prop := eqFr a.fr b.fr ∧ eqMem a.m b.m
theorem eqVal_eq {a b : Value} (h : eqVal a b) : a = b := by
 unfold eqVal at h
 split at h
 ·split at h
  ·rename_i hk; rw [hk, h]
  ·exact h.elim
 ·rw [h]
 ·rename_i s t
  rw [← ofL_toL s, ← ofL_toL t, h]
 ·exact h
theorem eqCell_eq {a b : AV} (h : eqCell a b) : a = b := by
 unfold eqCell at h
 split at h
 ·rw [eqVal_eq h]
 ·split at h
  ·rename_i hk; rw [hk, h]
  ·exact h.elim
 ·split at h
  ·rename_i hk; rw [hk.1, hk.2, h.1, h.2.1, h.2.2]
  ·exact h.elim
 ·split at h
  ·rename_i hk; rw [hk.1, hk.2]
  ·exact h.elim
 ·rfl
 ·exact h
theorem eqCells_eq : ∀ {a b : List AV}, eqCells a b → a = b
 | [], [], _ => rfl
 | [x], [y], h => by rw [eqCell_eq h]
 | [x], y :: z :: l, h => by simp only [eqCells] at h; exact h.2.elim
 | x :: z :: l, [y], h => by simp only [eqCells] at h; exact h.2.elim
 | x :: u :: l, y :: v :: l', h => by
  simp only [eqCells] at h
  rw [eqCell_eq h.1, eqCells_eq (a := u :: l) (b := v :: l') h.2]
 | [], _ :: _, h => by simp only [eqCells] at h
 | _ :: _, [], h => by simp only [eqCells] at h
theorem eqAV_eq {a b : AV} (h : eqAV a b) : a = b := by
 unfold eqAV at h
 split at h
 ·rw [eqCells_eq h]
 ·exact eqCell_eq h
theorem eqAVs_eq : ∀ {a b : List AV}, eqAVs a b → a = b
 | [], [], _ => rfl
 | [x], [y], h => by rw [eqAV_eq h]
 | [x], y :: z :: l, h => by simp only [eqAVs] at h; exact h.2.elim
 | x :: z :: l, [y], h => by simp only [eqAVs] at h; exact h.2.elim
 | x :: u :: l, y :: v :: l', h => by
  simp only [eqAVs] at h
  rw [eqAV_eq h.1, eqAVs_eq (a := u :: l) (b := v :: l') h.2]
 | [], _ :: _, h => by simp only [eqAVs] at h
 | _ :: _, [], h => by simp only [eqAVs] at h
theorem eqR_eq {a b : AV} (h : eqR a b) : a = b := by
 unfold eqR at h
 split at h
 ·rw [eqAVs_eq h]
 ·exact eqAV_eq h
theorem eqFr_eq : ∀ {a b : List (Nat × AV)}, eqFr a b → a = b
 | [], [], _ => rfl
 | (k, x) :: l, (k', y) :: l', h => by
  simp only [eqFr] at h
  split at h
  ·rename_i hk; rw [hk, eqAV_eq h.1, eqFr_eq h.2]
  ·exact h.elim
 | [], _ :: _, h => by simp only [eqFr] at h
 | _ :: _, [], h => by simp only [eqFr] at h
theorem eqObj_eq {a b : MObj} (h : eqObj a b) : a = b := by
 unfold eqObj at h
 split at h
 ·split at h
  ·rename_i hk; rw [hk, eqCells_eq h]
  ·exact h.elim
 ·split at h
  ·rename_i hk; rw [hk.1, hk.2.1, hk.2.2.1, hk.2.2.2, h]
  ·exact h.elim
 ·rw [h]
 ·exact h
theorem eqMem_eq : ∀ {a b : List MObj}, eqMem a b → a = b
 | [], [], _ => rfl
 | [x], [y], h => by rw [eqObj_eq h]
 | [x], y :: z :: l, h => by simp only [eqMem] at h; exact h.2.elim
 | x :: z :: l, [y], h => by simp only [eqMem] at h; exact h.2.elim
 | x :: u :: l, y :: v :: l', h => by
  simp only [eqMem] at h
  rw [eqObj_eq h.1, eqMem_eq (a := u :: l) (b := v :: l') h.2]
 | [], _ :: _, h => by simp only [eqMem] at h
 | _ :: _, [], h => by simp only [eqMem] at h
theorem eqSt_eq {a b : St} (h : eqSt a b) : a = b := by
 cases a; cases b
 simp only [eqSt] at h
 rw [eqFr_eq h.1, eqMem_eq h.2]
section
variable (call : CallF) (inl : InlW) (loop : LoopF) (b : Nat)
def roundW {ι : Type} (S : ι → St) (I : ι → Prop) (μ : ι → Nat) (keep : List Nat) (i : ι) (Q : AExit × St → Tr → Prop) : AExit × St → Tr → Prop
 | (.normal, st'), _ => ∃ j, eqSt (normSt b keep st') (S j) ∧ I j ∧ μ j < μ i
 | (.exit k, st'), T => Q (.exit k, st') T
 | (.ret, st'), T => Q (.ret, st') T
def joinW (keep : List Nat) (Q : AExit × St → Tr → Prop) : AExit × St → Tr → Prop
 | (.normal, st'), T => Q (.normal, normSt b keep st') T
 | (.exit k, st'), T => Q (.exit k, st') T
 | (.ret, st'), T => Q (.ret, st') T
def cutW {ι : Type} (S : ι → St) (I : ι → Prop) (keep : List Nat) (Q : AExit × St → Tr → Prop) : AExit × St → Tr → Prop
 | (.normal, st'), _ => ∃ j, eqSt (normSt b keep st') (S j) ∧ I j
 | (.exit k, st'), T => Q (.exit k, st') T
 | (.ret, st'), T => Q (.ret, st') T
def unW (body : St → W (AExit × St)) (keep : List Nat) (Q : AExit × St → Tr → Prop) : Nat → St → Tr → Prop
 | 0, _, _ => False
 | n + 1, st, T => body (normSt b keep st) T fun r T' => match r with
  | (.normal, st') => unW body keep Q n st' T'
  | (.exit k, st') => Q (.exit k, st') T'
  | (.ret, st') => Q (.ret, st') T'
def codeW : ACode → St → W (AExit × St)
 | .skip, st => retW (.normal, st)
 | .region ops ds, st => bindW (opsW call inl ops [] st) fun st' => retW (.normal, ⟨dropF ds st'.fr, st'.m⟩)
 | .dregion ops tail ds, st => bindW (extsW call st.m ops [] st.fr) fun fr => bindW (opsW call inl tail [] ⟨fr, st.m⟩) fun st' => retW (.normal, ⟨dropF ds st'.fr, st'.m⟩)
 | .seq x y, st => bindW (codeW x st) fun r => match r with
  | (.normal, st') => codeW y st'
  | r => retW r
 | .cond c x y, st => match evA st.fr c with
  | .val (.bool t) => bindW (boolW t) fun t => if t then codeW x st else codeW y st
  | _ => stopW (.mov c)
 | .block id c, st => bindW (codeW c st) fun r => match r with
  | (.exit i, st') => retW (if i = id then (.normal, st') else (.exit i, st'))
  | r => retW r
 | .loop c k, st => askW (.loop c k (normSt b k st)) fun T Q => match T with
  | .lp ex st' r => loop c k st = some (ex, st') ∧ Q (ex, st') r
  | .un n r => unW b (codeW c) k Q n st r
  | .inv S I μ r => (∃ i, eqSt (normSt b k st) (S i) ∧ I i) ∧ ∀ i, I i → codeW c (S i) (r i) (roundW b S I μ k i Q)
  | _ => False
 | .join c k, st => askW (.join k st) fun T Q => match T with
  | .w r => codeW c st r (joinW b k Q)
  | .cut S I r r' => codeW c st r (cutW b S I k Q) ∧ ∀ i, I i → Q (.normal, S i) (r' i)
  | _ => False
 | .exit id, st => retW (.exit id, st)
 | .ret, st => retW (.ret, st)
end
section
variable {F : FuncId → Option AFunc} {X : CallF}
theorem loop_inv {b : Nat} {inl : InlW} {c : ACode} {keep : List Nat} {ι : Type} {S : ι → St} {I : ι → Prop} {μ : ι → Nat} {r : ι → Tr} {Q : AExit × St → Tr → Prop} (hc : ∀ st, SoundW (codeW (R F X) inl (Lp F X b) b c st) (aexec (R F X) b (Lp F X b) c st))
    (h : ∀ i, I i → codeW (R F X) inl (Lp F X b) b c (S i) (r i) (roundW b S I μ keep i Q)) : ∀ (n : Nat) (i : ι) (st : St), μ i < n → I i → normSt b keep st = S i → ∃ x T', Lp F X b c keep st = some x ∧ Q x T' := by
  intro n
  induction n with
  | zero => intro i st hn; omega
  | succ n ih =>
    intro i st hn hi hst
    obtain ⟨⟨ex, st'⟩, T', h1, h2⟩ := hc _ _ _ (h i hi)
    rw [← hst] at h1
    cases ex with
    | normal =>
      obtain ⟨j, e, hj, hlt⟩ := h2
      obtain ⟨x, T'', g1, g2⟩ := ih j st' (by omega) hj (eqSt_eq e)
      exact ⟨x, T'', Lp_step h1 g1, g2⟩
    | exit k => exact ⟨_, T', Lp_exit h1, h2⟩
    | ret => exact ⟨_, T', Lp_ret h1, h2⟩
theorem unW_ok {b : Nat} {c : ACode} {keep : List Nat} {body : St → W (AExit × St)} {Q : AExit × St → Tr → Prop} (hc : ∀ st, SoundW (body st) (aexec (R F X) b (Lp F X b) c st)) : ∀ (n : Nat) (st : St) (T : Tr), unW b body keep Q n st T → ∃ x T', Lp F X b c keep st = some x ∧ Q x T'
 | 0, _, _, h => h.elim
 | n + 1, st, T, h => by
  obtain ⟨⟨ex, st'⟩, T', h1, h2⟩ := hc _ _ _ h
  cases ex with
  | normal =>
   obtain ⟨x, T'', g1, g2⟩ := unW_ok hc n st' T' h2
   exact ⟨x, T'', Lp_step h1 g1, g2⟩
  | exit k => exact ⟨_, T', Lp_exit h1, h2⟩
  | ret => exact ⟨_, T', Lp_ret h1, h2⟩
theorem codeW_ok {inl : InlW} (hi : InlOk (R F X) inl) (b : Nat) : ∀ (c : ACode) (st : St), SoundW (codeW (R F X) inl (Lp F X b) b c st) (aexec (R F X) b (Lp F X b) c st)
 | .skip, st => .ret _
 | .region ops ds, st => by
  unfold codeW aexec
  refine .bind' (opsW_ok _ _ hi _ _ _ (KOk.nil _)) fun st' h => ?_
  rw [h]
  exact .ret _
 | .dregion ops tail ds, st => by
  unfold codeW aexec
  refine .bind' (extsW_ok _ _ _ _ _ (KOk.nil _)) fun fr h => ?_
  rw [h]
  refine .bind' (opsW_ok _ _ hi _ _ _ (KOk.nil _)) fun st' h' => ?_
  simp only [h']
  exact .ret _
 | .seq x y, st => by
  unfold codeW aexec
  refine .bind' (codeW_ok hi b x st) fun r h => ?_
  rw [h]
  obtain ⟨ex, st'⟩ := r
  cases ex with
  | normal => exact codeW_ok hi b y st'
  | exit i => exact .ret _
  | ret => exact .ret _
 | .cond c x y, st => by
  unfold codeW aexec
  split
  ·rename_i t hc
   refine .bind' (boolW_ok _) fun t' ht => ?_
   cases ht
   rw [hc]
   cases t with
   | true => exact codeW_ok hi b x st
   | false => exact codeW_ok hi b y st
  ·exact .stop _ _
 | .block id c, st => by
  unfold codeW aexec
  refine .bind' (codeW_ok hi b c st) fun r h => ?_
  rw [h]
  obtain ⟨ex, st'⟩ := r
  cases ex with
  | normal => exact .ret _
  | exit i =>
   simp only
   split <;> exact .ret _
  | ret => exact .ret _
 | .loop c k, st => by
  unfold codeW aexec
  refine .ask fun T Q h => ?_
  split at h
  ·exact ⟨_, _, h.1, h.2⟩
  ·exact unW_ok (codeW_ok hi b c) _ _ _ h
  ·rename_i S I μ r
   obtain ⟨⟨i, e, hI⟩, h2⟩ := h
   exact loop_inv (codeW_ok hi b c) h2 (μ i + 1) i st (Nat.lt_succ_self _) hI (eqSt_eq e)
  ·exact h.elim
 | .join c k, st => by
  unfold codeW aexec
  refine .ask fun T Q h => ?_
  split at h
  ·obtain ⟨⟨ex, st'⟩, T', h1, h2⟩ := codeW_ok hi b c st _ _ h
   rw [h1]
   cases ex <;> exact ⟨_, T', rfl, h2⟩
  ·rename_i S I r r'
   obtain ⟨⟨ex, st'⟩, T', h1, h2⟩ := codeW_ok hi b c st _ _ h.1
   rw [h1]
   cases ex with
   | normal =>
    obtain ⟨j, e, hj⟩ := h2
    refine ⟨_, _, ?_, h.2 j hj⟩
    simp only [eqSt_eq e]
   | exit i => exact ⟨_, T', rfl, h2⟩
   | ret => exact ⟨_, T', rfl, h2⟩
  ·exact h.elim
 | .exit id, st => .ret _
 | .ret, st => .ret _
end
def resW0 (st : St) : ARes → W AV
 | .tmp t _ => frzW st.m (.mov (.tmp t)) (look st.fr t)
 | .cell t n ag _ => bindW (liftW (.mov (.tmp t)) ((cellsAt st.m (look st.fr t)).bind (mkV n ag))) fun v => frzW st.m (.mov (.tmp t)) v
def ARes.offs : ARes → List (Nat × Nat)
 | .tmp _ o => o
 | .cell _ _ _ o => o
def resW (st : St) (x : ARes) : W AV := bindW (resW0 st x) fun v => retW (nilN x.offs v)
theorem resW_ok (st : St) (x : ARes) : SoundW (resW st x) (resOf st x) := by
 have fin : ∀ {o : Option AV}, SoundW (resW0 st x) o → SoundW (resW st x) (o.map (nilN x.offs)) := fun {o} h => by
  have : o.map (nilN x.offs) = o.bind fun v => some (nilN x.offs v) := by cases o <;> rfl
  rw [this]
  exact h.bind fun a _ => .ret _
 cases x with
 | tmp t offs => exact fin (frzW_ok _ _ _)
 | cell t n ag offs =>
  refine fin ?_
  show SoundW (bindW (liftW (.mov (.tmp t)) ((cellsAt st.m (look st.fr t)).bind (mkV n ag))) fun v => frzW st.m (.mov (.tmp t)) v) (((cellsAt st.m (look st.fr t)).bind (mkV n ag)).bind (frz st.m))
  exact SoundW.bind (x := liftW (.mov (.tmp t)) ((cellsAt st.m (look st.fr t)).bind (mkV n ag))) (f := fun v => frzW st.m (.mov (.tmp t)) v) (SoundW.lift _ _) fun v _ => frzW_ok _ _ _
def resLW (st : St) : List ARes → W (List AV)
 | [] => retW []
 | x :: r => bindW (resW st x) fun a => bindW (resLW st r) fun b => retW (a :: b)
theorem resLW_ok (st : St) : ∀ l : List ARes, SoundW (resLW st l) (resL st l)
 | [] => .ret _
 | x :: r => by
  have : resL st (x :: r) = (resOf st x).bind fun a => (resL st r).bind fun b => some (a :: b) := by
   simp only [resL]
   cases resOf st x <;> cases resL st r <;> rfl
  rw [this]
  exact (resW_ok st x).bind fun a _ => (resLW_ok st r).bind fun b _ => .ret _
section
variable (F : FuncId → Option AFunc) (X : CallF)
def bodyMW (inl : InlW) (fn : AFunc) (args : List AV) (m : List MObj) : W (AV × List MObj) := ifW (.call 0 []) (args.length = fn.params) (bindW (codeW (R F X) inl (Lp F X m.length) m.length fn.body ⟨enterF fn.params 0 args, m⟩) fun r => match r with
 | (.exit _, _) => stopW (.call 0 [])
 | (_, st) => bindW (liftW (.call 0 []) (resLM st fn.results)) fun l => retW (mkRes l, st.m))
def inlW : Nat → InlW
 | 0 => fun _ _ _ => stopW (.call 0 [])
 | d + 1 => fun f vs m => match F f with
  | some fn => bodyMW F X (inlW d) fn vs m
  | none => stopW (.call f [])
def bodyW (inl : InlW) (fn : AFunc) (args : List AV) : W AV := ifW (.call 0 []) (args.length = fn.params) (bindW (codeW (R F X) inl (Lp F X 0) 0 fn.body ⟨enterF fn.params 0 args, []⟩) fun r => match r with
 | (.exit _, _) => stopW (.call 0 [])
 | (_, st) => bindW (resLW st fn.results) fun l => retW (mkRes l))
end
section
variable {F : FuncId → Option AFunc} {X : CallF}
theorem bodyMW_ok {inl : InlW} (hi : InlOk (R F X) inl) (fn : AFunc) (args : List AV) (m : List MObj) : SoundW (bodyMW F X inl fn args m) (runBodyM (R F X) (Lp F X m.length) fn args m) := by
 unfold bodyMW runBodyM
 refine .ite fun h => ?_
 rw [if_pos h]
 refine .bind' (codeW_ok hi _ _ _) fun r hr => ?_
 obtain ⟨ex, st⟩ := r
 rw [hr]
 cases ex with
 | normal =>
  refine .bind' (.lift _ _) fun l hl => .ret' ?_
  simp only [hl, Option.map_some]
 | exit i => exact .stop _ _
 | ret =>
  refine .bind' (.lift _ _) fun l hl => .ret' ?_
  simp only [hl, Option.map_some]
theorem inlW_ok : ∀ d, InlOk (R F X) (inlW F X d)
 | 0 => fun _ _ _ => .stop _ _
 | d + 1 => fun f vs m => by
  unfold inlW
  split
  ·rename_i fn hf
   intro T Q h
   obtain ⟨a, T', h1, h2⟩ := bodyMW_ok (inlW_ok d) fn vs m T Q h
   exact ⟨a, T', RM_body hf h1, h2⟩
  ·exact .stop _ _
theorem bodyW_ok {inl : InlW} (hi : InlOk (R F X) inl) (fn : AFunc) (args : List AV) : SoundW (bodyW F X inl fn args) (runBody (R F X) (Lp F X 0) fn args) := by
 unfold bodyW runBody
 refine .ite fun h => ?_
 rw [if_pos h]
 refine .bind' (codeW_ok hi _ _ _) fun r hr => ?_
 obtain ⟨ex, st⟩ := r
 rw [hr]
 cases ex with
 | normal =>
  refine .bind' (resLW_ok _ _) fun l hl => .ret' ?_
  simp only [hl, Option.map_some]
 | exit i => exact .stop _ _
 | ret =>
  refine .bind' (resLW_ok _ _) fun l hl => .ret' ?_
  simp only [hl, Option.map_some]
@[irreducible] def wpR (F : FuncId → Option AFunc) (X : CallF) (fn : AFunc) (vs : List AV) (T : Tr) (r : AV) : Prop := bodyW F X (inlW F X 9) fn vs T fun v _ => eqR v r
@[irreducible] def wpRM (F : FuncId → Option AFunc) (X : CallF) (fn : AFunc) (vs : List AV) (m : List MObj) (T : Tr) (r : AV) (m' : List MObj) : Prop := bodyMW F X (inlW F X 9) fn vs m T fun v _ => eqR v.1 r ∧ eqMem v.2 m'
theorem R_wp {f : FuncId} {fn : AFunc} {vs : List AV} {r : AV} (T : Tr) (hf : F f = some fn) (h : wpR F X fn vs T r) : (R F X).f f vs = some r := by
 unfold wpR at h
 obtain ⟨a, T', h1, h2⟩ := bodyW_ok (inlW_ok 9) fn vs T _ h
 rw [← eqR_eq h2]
 exact R_body hf h1
theorem RM_wp {f : FuncId} {fn : AFunc} {vs : List AV} {m m' : List MObj} {r : AV} (T : Tr) (hf : F f = some fn) (h : wpRM F X fn vs m T r m') : (R F X).m f vs m = some (r, m') := by
 unfold wpRM at h
 obtain ⟨a, T', h1, h2, h3⟩ := bodyMW_ok (inlW_ok 9) fn vs m T _ h
 rw [← eqR_eq h2, ← eqMem_eq h3]
 exact RM_body hf h1
end
end Go.Proofs.YtfedemnaeggokaaGreatDoor
end
section
namespace Go.Proofs.YtfedemnaeggokaaGreatDoor
set_option linter.unusedVariables false
set_option linter.unusedSimpArgs false
def mapE {α : Type} (f : α → AV) (a : List (Bs × α)) : List (Value × AV) := a.map fun x => (.string (ofL x.1), f x.2)
def aput {α : Type} : List (Bs × α) → Bs → α → List (Bs × α)
 | [], s, v => [(s, v)]
 | (k, u) :: r, s, v => if s = k then (s, v) :: r else (k, u) :: aput r s v
def adel {α : Type} : List (Bs × α) → Bs → List (Bs × α)
 | [], _ => []
 | (k, u) :: r, s => if s = k then r else (k, u) :: adel r s
def setAtL {α : Type} (l : List α) (i : Nat) (cs : List α) : List α := l.take i ++ cs ++ l.drop (i + cs.length)
theorem setAt_map {α : Type} (f : α → AV) (l : List α) (i : Nat) (cs : List α) : setAt (l.map f) i (cs.map f) = (setAtL l i cs).map f := by
 simp [setAt, setAtL, List.map_take, List.map_drop]
theorem find_put {α : Type} (f : α → AV) (s : Bs) (v : α) : ∀ (a : List (Bs × α)) (i : Nat), match findE (.string (ofL s)) (mapE f a) i with
    | some (some (j, _)) => i ≤ j ∧ (mapE f a).set (j - i) (.string (ofL s), f v) = mapE f (aput a s v) ∧ (mapE f a).eraseIdx (j - i) = mapE f (adel a s)
    | some none => aput a s v = a ++ [(s, v)] ∧ adel a s = a
    | none => False
  | [], i => ⟨rfl, rfl⟩
  | (k, u) :: a, i => by
    have hv : vEq (.string (ofL s)) (.string (ofL k)) = some (decide (s = k)) := rfl
    by_cases h : s = k
    · have : findE (.string (ofL s)) (mapE f ((k, u) :: a)) i = some (some (i, f u)) := by simp only [mapE, List.map_cons, findE, hv, decide_eq_true h]
      rw [this]
      refine ⟨Nat.le_refl _, ?_, ?_⟩
      · subst h; simp [mapE, aput]
      · subst h; simp [mapE, adel]
    · have : findE (.string (ofL s)) (mapE f ((k, u) :: a)) i = findE (.string (ofL s)) (mapE f a) (i + 1) := by simp only [mapE, List.map_cons, findE, hv, decide_eq_false h]
      rw [this]
      have ih := find_put f s v a (i + 1)
      split at ih
      · rename_i j y e
        obtain ⟨h1, h2, h3⟩ := ih
        refine ⟨by omega, ?_, ?_⟩
        · rw [show j - i = (j - (i + 1)) + 1 from by omega]
          show (_ :: mapE f a).set (j - (i + 1) + 1) _ = _
          rw [List.set_cons_succ, h2]
          simp [mapE, aput, h]
        · rw [show j - i = (j - (i + 1)) + 1 from by omega]
          show (_ :: mapE f a).eraseIdx (j - (i + 1) + 1) = _
          rw [List.eraseIdx_cons_succ, h3]
          simp [mapE, adel, h]
      · exact ⟨by simp [aput, h, ih.1], by simp [adel, h, ih.2]⟩
      · exact ih.elim
theorem setKey_mapE {α : Type} (f : α → AV) (a : List (Bs × α)) (s : Bs) (v : α) : setKey (mapE f a) (.string (ofL s)) (f v) = some (mapE f (aput a s v)) := by
 have := find_put f s v a 0
 unfold setKey
 split at this
 ·rename_i e; rw [e]; simp only [Nat.sub_zero] at this; show some _ = some _; rw [this.2.1]
 ·rename_i e; rw [e, this.1]; simp [mapE]
 ·exact this.elim
theorem delKey_mapE {α : Type} (f : α → AV) (a : List (Bs × α)) (s : Bs) : delKey (mapE f a) (.string (ofL s)) = some (mapE f (adel a s)) := by
 by_cases h : Nonempty α
 ·obtain ⟨v⟩ := h
  have := find_put f s v a 0
  unfold delKey
  split at this
  ·rename_i e; rw [e]; simp only [Nat.sub_zero] at this; show some _ = some _; rw [this.2.2]
  ·rename_i e; rw [e, this.2]
  ·exact this.elim
 ·cases a with
  | nil => rfl
  | cons p a => exact absurd ⟨p.2⟩ h
theorem assoc_put {α : Type} (a : List (Bs × α)) (s t : Bs) (v : α) : assoc (aput a s v) t = if t = s then some v else assoc a t := by
 induction a with
 | nil => simp [aput, assoc]
 | cons p a ih =>
  obtain ⟨k, u⟩ := p
  by_cases h : s = k
  ·subst h
   simp only [aput, if_true, assoc]
   split <;> rfl
  ·simp only [aput, if_neg h, assoc, ih]
   by_cases hk : t = k
   ·subst hk
    rw [if_pos rfl, if_neg (fun e => h e.symm), if_pos rfl]
   ·rw [if_neg hk, if_neg hk]
theorem inI64 {n : Int} (h1 : -9223372036854775808 ≤ n) (h2 : n ≤ 9223372036854775807) : InI64 n := ⟨h1, h2⟩
theorem get_of {α : Type} {l : List α} {k : Nat} {x : α} (h : l[k]? = some x) : ∃ hk : k < l.length, l[k] = x := List.getElem?_eq_some_iff.1 h
theorem u8_lt (c : UInt8) : (c.toNat : Int) < 256 := by have := c.toNat_lt; omega
theorem maxLen_le : 1099511627776 ≤ maxLen := by decide +kernel
theorem maxLen_i64 : maxLen ≤ 9223372036854775807 := by decide +kernel
theorem bytes_eq (l : Bs) : bytesL (l.map u8A) = some l := bytesL_map l
theorem toU8_val {n : Int} (h1 : 0 ≤ n) (h2 : n < 256) : ((toU8 n).toNat : Int) = n := by
 unfold toU8
 rw [UInt8.toNat_ofNat']
 omega
theorem toU8_toNat (c : UInt8) : toU8 c.toNat = c := by
 have := c.toNat_lt
 apply UInt8.toNat_inj.1
 have := toU8_val (n := c.toNat) (by omega) (by omega)
 omega
theorem toU8_nat (n : Nat) : toU8 (n : Int) = UInt8.ofNat n := by
 apply UInt8.toNat_inj.1
 unfold toU8
 rw [UInt8.toNat_ofNat', UInt8.toNat_ofNat']
 omega
theorem toU8_mod (n : Int) : ((toU8 n).toNat : Int) = n % 256 := by
 unfold toU8
 rw [UInt8.toNat_ofNat']
 omega
theorem tdiv_lit (n : Int) (k : Int) (hk : 0 < k) : (0 ≤ n ∧ n.tdiv k = n / k ∧ n.tmod k = n % k) ∨ (n < 0 ∧ n.tdiv k = -(-n / k) ∧ n.tmod k = -(-n % k)) := by
 by_cases h : 0 ≤ n
 ·exact .inl ⟨h, Int.tdiv_eq_ediv_of_nonneg h, Int.tmod_eq_emod_of_nonneg h⟩
 ·refine .inr ⟨by omega, ?_, ?_⟩
  ·rw [← Int.tdiv_eq_ediv_of_nonneg (a := -n) (by omega), Int.neg_tdiv, Int.neg_neg]
  ·rw [← Int.tmod_eq_emod_of_nonneg (a := -n) (by omega), Int.neg_tmod, Int.neg_neg]
abbrev Cut (_ : Nat) (α : Type) : Type := α
theorem dT {p : Prop} [Decidable p] (h : decide p = true) : p := of_decide_eq_true h
theorem dF {p : Prop} [Decidable p] (h : decide p = false) : ¬ p := of_decide_eq_false h
theorem nT {b : Bool} (h : (!b) = true) : b = false := by simpa using h
theorem nF {b : Bool} (h : (!b) = false) : b = true := by simpa using h
theorem nTi {b : Bool} (h : b = false) : (!b) = true := by rw [h]; rfl
theorem nFi {b : Bool} (h : b = true) : (!b) = false := by rw [h]; rfl
theorem dnT {p : Prop} [Decidable p] (h : (!decide p) = true) : ¬ p := dF (nT h)
theorem dnF {p : Prop} [Decidable p] (h : (!decide p) = false) : p := dT (nF h)
theorem tD {p : Prop} [Decidable p] (h : p) : decide p = true := decide_eq_true h
theorem fD {p : Prop} [Decidable p] (h : ¬ p) : decide p = false := decide_eq_false h
theorem tnD {p : Prop} [Decidable p] (h : ¬ p) : (!decide p) = true := by simp [h]
theorem fnD {p : Prop} [Decidable p] (h : p) : (!decide p) = false := by simp [h]
end Go.Proofs.YtfedemnaeggokaaGreatDoor
end
section
namespace Go.Proofs.YtfedemnaeggokaaGreatDoor
set_option linter.unusedVariables false
set_option linter.unusedSimpArgs false
open Go.RowKit Go.ChangeShapes Go.WideShapes Go.ChangeAt Go.Deep
open Go.ChangeMaps (open_string shut_string)
abbrev S0 (w : World) : Nat → Nat → Prop := Stab (fun _ _ => False) [] w
theorem s0_of {w : World} {b : Nat} (h : b < w.heap.size) (o : Nat) : S0 w b o := ⟨h, fun h => h.elim, by rintro ⟨i, k, hk, _⟩; simp at hk⟩
theorem rep_sl {w : World} {sz : Nat} {A : Option Addr} {n c : Nat} {css : Nat → List Value} (hS : SlAt w sz A n (fun i j => (css i)[j]?)) (hnc : n ≤ c) (hnil : A = none → n = 0 ∧ c = 0) (el : Nat → AV)
    (hel : ∀ i, i < n → (el i).ground = true ∧ (el i).cells.length = sz ∧ (css i).length = sz ∧ ∀ (j : Nat) (y : AV) (u : Value), (el i).cells[j]? = some y → (css i)[j]? = some u → Rep (S0 w) w [] u y) :
    Rep (S0 w) w [] (.slice A n c) (.slice sz ((List.range n).map el)) := by
  have hlen : ((List.range n).map el).length = n := by simp
  have key : ∀ (i : Nat) (x : AV), ((List.range n).map el)[i]? = some x → i < n ∧ x = el i := fun i x hx => by
    have hi : i < n := by have := (List.getElem?_eq_some_iff.1 hx).1; omega
    rw [List.getElem?_map, List.getElem?_range hi] at hx
    injection hx with hx
    exact ⟨hi, hx.symm⟩
  by_cases hn : 0 < n
  · obtain ⟨b, off, rfl, hb, hat⟩ := hS hn
    have := Rep.slice (S := S0 w) (w := w) (H := []) (A := some ⟨b, off, none⟩) (c := c) (l := (List.range n).map el) b off sz (fun i j => ((css i)[j]?).getD undef) (by omega) (fun h => by cases h) (fun _ => rfl)
      (fun i x hx => by obtain ⟨hi, rfl⟩ := key i x hx; exact ⟨(hel i hi).1, (hel i hi).2.1⟩)
      (fun i x j y hx hy => by
        obtain ⟨hi, rfl⟩ := key i x hx
        obtain ⟨-, h2, h3, -⟩ := hel i hi
        have hj : j < sz := by have := (List.getElem?_eq_some_iff.1 hy).1; omega
        refine ⟨?_, s0_of hb _⟩
        rw [hat i hi j hj]
        show (css i)[j]? = some (((css i)[j]?).getD undef)
        rw [List.getElem?_eq_getElem (by omega), Option.getD_some])
      (fun i x j y hx hy => by
        obtain ⟨hi, rfl⟩ := key i x hx
        obtain ⟨-, h2, h3, h4⟩ := hel i hi
        have hj : j < sz := by have := (List.getElem?_eq_some_iff.1 hy).1; omega
        refine h4 j y _ hy ?_
        rw [List.getElem?_eq_getElem (by omega), Option.getD_some])
    rw [hlen] at this
    exact this
  · have hn0 : n = 0 := by omega
    subst hn0
    exact Rep.slice (S := S0 w) (w := w) (H := []) (A := A) (c := c) (l := []) 0 0 sz (fun _ _ => undef) (by simp) (fun h => (hnil h).2) (fun h => by simp at h) (fun i x hx => by simp at hx) (fun i x j y hx => by simp at hx) (fun i x j y hx => by simp at hx)
theorem repL_of1 {S : Nat → Nat → Prop} {w : World} {v : Value} {x : AV} (h : Rep S w [] v x) : RepL S w [] #[v] [x] := ⟨rfl, fun i y hy => by
 match i, hy with
 | 0, hy => cases hy; exact h⟩
theorem repL_of2 {S : Nat → Nat → Prop} {w : World} {v v' : Value} {x x' : AV} (h : Rep S w [] v x) (h' : Rep S w [] v' x') : RepL S w [] #[v, v'] [x, x'] := ⟨rfl, fun i y hy => by
 match i, hy with
 | 0, hy => cases hy; exact h
 | 1, hy => cases hy; exact h'⟩
theorem repL_of3 {S : Nat → Nat → Prop} {w : World} {v v' v'' : Value} {x x' x'' : AV} (h : Rep S w [] v x) (h' : Rep S w [] v' x') (h'' : Rep S w [] v'' x'') : RepL S w [] #[v, v', v''] [x, x', x''] := ⟨rfl, fun i y hy => by
 match i, hy with
 | 0, hy => cases hy; exact h
 | 1, hy => cases hy; exact h'
 | 2, hy => cases hy; exact h''⟩
theorem repL_of4 {S : Nat → Nat → Prop} {w : World} {v v' v'' v3 : Value} {x x' x'' x3 : AV} (h : Rep S w [] v x) (h' : Rep S w [] v' x') (h'' : Rep S w [] v'' x'') (h3 : Rep S w [] v3 x3) : RepL S w [] #[v, v', v'', v3] [x, x', x'', x3] := ⟨rfl, fun i y hy => by
 match i, hy with
 | 0, hy => cases hy; exact h
 | 1, hy => cases hy; exact h'
 | 2, hy => cases hy; exact h''
 | 3, hy => cases hy; exact h3⟩
theorem calls_true {f : FuncId} {vs : Array Value} {avs : List AV} {w : World} (hc : CallOk Tryz.prog f avs (boolA true)) (hG : GR (S0 w) w []) (h : RepL (S0 w) w [] vs avs) : Calls Tryz.prog f vs w fun e w' => e = .returned (.bool true) ∧ Below w.heap.size w w' := by
 refine (hc (fun _ _ => False) w vs (fun _ _ h => h.elim) hG h).mono fun e w' ⟨v, h1, h2, h3⟩ => ⟨?_, h3.none_below⟩
 rw [h1]
 have := rep_val h2
 rw [this]
theorem gr_of_var {w : World} {n : String} {g : Nat} {cs : Array Value} {l : List AV} (hn : Tryz.prog.globalNamed n = some g) (hv : w.var? Tryz.prog n = some cs) (hl : cs.size = l.length) (hr : ∀ (j : Nat) (y : AV), l[j]? = some y → y.grCell = true ∧ ∃ u, cs[j]? = some u ∧ Rep (S0 w) w [] u y) :
    Rep (S0 w) w [] (.pointer (some ⟨g, 0, none⟩)) (.rptr l) ∧ ∀ o, l.length ≤ o → S0 w g o ∧ w.cell? ⟨g, o, none⟩ = none := by
  unfold World.var? at hv
  rw [hn] at hv
  simp only [Option.bind_some] at hv
  split at hv
  · rename_i cs' t fz hh
    injection hv with hv
    subst hv
    have hc : ∀ j, w.cell? ⟨g, j, none⟩ = cs'[j]? := fun j => by simp [World.cell?, hh]
    have hlt : g < w.heap.size := (Array.getElem?_eq_some_iff.1 hh).1
    refine ⟨.rptr g 0 (fun j => cs'.getD j undef) (fun j y hy => (hr j y hy).1) (fun j y hy => ?_) (fun j y hy => ?_), fun o ho => ⟨s0_of hlt _, by rw [hc, Array.getElem?_eq_none (by omega)]⟩⟩
    · obtain ⟨-, u, hu, -⟩ := hr j y hy
      rw [Nat.zero_add, hc]
      exact ⟨by rw [hu, Array.getD_eq_getD_getElem?, hu]; rfl, s0_of hlt _⟩
    · obtain ⟨-, u, hu, hrep⟩ := hr j y hy
      rw [Array.getD_eq_getD_getElem?, hu]; exact hrep
  · cases hv
end Go.Proofs.YtfedemnaeggokaaGreatDoor
end
section
namespace Go.Proofs.YtfedemnaeggokaaGreatDoor
set_option linter.unusedVariables false
set_option linter.unusedSimpArgs false
open Go.RowKit Go.ChangeShapes Go.WideShapes Go.ChangeAt Go.Deep
set_option maxRecDepth 100000
inductive Sh
 | bool
 | int (k : IntKind)
 | str
 | sl (e : Sh)
 | st (fs : List Sh)
mutual
def Sh.n : Sh → Nat
 | .st fs => Sh.ns fs
 | _ => 1
def Sh.ns : List Sh → Nat
 | [] => 0
 | s :: r => s.n + Sh.ns r
end
mutual
def Sh.ok (P : Program) : Sh → TypeId → Bool
 | .bool, t => (match P.underlying t with | some .bool => true | _ => false)
 | .int k, t => (match P.underlying t with | some (.int k') => decide (k' = k) | _ => false)
 | .str, t => (match P.underlying t with | some .string => true | _ => false)
 | .sl e, t => (match P.underlying t with | some (.slice u) => decide (P.cellsOf u = e.n) && decide (0 < e.n) && e.ok P u | _ => false)
 | .st fs, t => (match P.underlying t with
  | some (.struct l) => decide (P.cellsOf t = Sh.ns fs) && Sh.okF P fs l.toList 0
  | some (.array n e) => decide (P.cellsOf t = Sh.ns fs) && decide (fs.length = n) && Sh.okA P fs e
  | _ => false)
def Sh.okF (P : Program) : List Sh → List Field → Nat → Bool
 | [], [], _ => true
 | s :: r, f :: l, o => decide (f.offset = o) && decide (P.cellsOf f.type = s.n) && s.ok P f.type && Sh.okF P r l (o + s.n)
 | _, _, _ => false
def Sh.okA (P : Program) : List Sh → TypeId → Bool
 | [], _ => true
 | s :: r, e => decide (P.cellsOf e = s.n) && s.ok P e && Sh.okA P r e
end
def Sh.mk : Sh → List AV → AV
 | .st _, l => .agg l
 | _, l => l.headD .any
section
variable {H : Type}
mutual
def dAV : Sh → DataW H → List AV
 | .st fs, .agg parts => dAVs fs parts
 | .sl e, .slice elems _ => [.slice e.n (elems.map fun x => e.mk (dAV e x))]
 | .sl e, .nil => [.slice e.n []]
 | .str, .lit (.string l) => [strL l]
 | .int _, .lit (.int k n) => [.val (.int k n)]
 | .bool, .lit (.bool b) => [.val (.bool b)]
 | _, _ => []
def dAVs : List Sh → List (DataW H) → List AV
 | s :: r, d :: l => dAV s d ++ dAVs r l
 | _, _ => []
end
mutual
def Ty : Sh → DataW H → Prop
 | .st fs, .agg parts => Tys fs parts
 | .sl e, .slice elems _ => elems.length ≤ maxLen ∧ ∀ x ∈ elems, Ty e x
 | .sl _, .nil => True
 | .str, .lit (.string l) => l.length ≤ maxLen
 | .int k, .lit (.int k' n) => k' = k ∧ (Lit.int k n).wf = true
 | .bool, .lit (.bool _) => True
 | _, _ => False
def Tys : List Sh → List (DataW H) → Prop
 | [], [] => True
 | s :: r, d :: l => Ty s d ∧ Tys r l
 | _, _ => False
end
theorem Ty_st {fs : List Sh} {d : DataW H} (h : Ty (.st fs) d) : ∃ parts, d = .agg parts ∧ Tys fs parts := by
 cases d <;> first | exact ⟨_, rfl, by simpa [Ty] using h⟩ | (simp [Ty] at h)
theorem Ty_sl {e : Sh} {d : DataW H} (h : Ty (.sl e) d) : (d = .nil) ∨ ∃ elems spare, d = .slice elems spare ∧ elems.length ≤ maxLen ∧ ∀ x ∈ elems, Ty e x := by
 cases d <;> first | exact .inl rfl | exact .inr ⟨_, _, rfl, by simpa [Ty] using h⟩ | (simp [Ty] at h)
theorem Ty_str {d : DataW H} (h : Ty .str d) : ∃ l, d = .lit (.string l) ∧ l.length ≤ maxLen := by
 cases d with
 | lit l => cases l <;> first | exact ⟨_, rfl, by simpa [Ty] using h⟩ | (simp [Ty] at h)
 | _ => simp [Ty] at h
theorem Ty_int {k : IntKind} {d : DataW H} (h : Ty (.int k) d) : ∃ n, d = .lit (.int k n) ∧ (Lit.int k n).wf = true := by
 cases d with
 | lit l => cases l <;> first | (simp only [Ty] at h; obtain ⟨rfl, h⟩ := h; exact ⟨_, rfl, h⟩) | (simp [Ty] at h)
 | _ => simp [Ty] at h
theorem Ty_bool {d : DataW H} (h : Ty .bool d) : ∃ b, d = .lit (.bool b) := by
 cases d with
 | lit l => cases l <;> first | exact ⟨_, rfl⟩ | (simp [Ty] at h)
 | _ => simp [Ty] at h
theorem mk_cells {s : Sh} {d : DataW H} (h : Ty s d) : (s.mk (dAV s d)).cells = dAV s d := by
 cases s with
 | bool => obtain ⟨b, rfl⟩ := Ty_bool h; rfl
 | int k => obtain ⟨n, rfl, -⟩ := Ty_int h; rfl
 | str => obtain ⟨l, rfl, -⟩ := Ty_str h; rfl
 | sl e =>
  rcases Ty_sl h with rfl | ⟨elems, spare, rfl, -, -⟩
  ·rfl
  ·simp [dAV, Sh.mk, AV.cells]
 | st fs => rfl
variable {enc : TypeId × Value → H} {w : World}
theorem addr_add2 (b o k j : Nat) : ((⟨b, o, none⟩ : Addr).add k).add j = ⟨b, o + k + j, none⟩ := by
 simp only [Addr.add]
 split <;> split <;> simp_all
theorem drop_take_get {cs : List Value} {o n i : Nat} {u : Value} (h : cs[o + i]? = some u) (hi : i < n) : ((cs.drop o).take n)[i]? = some u := by
 rw [List.getElem?_take, if_pos hi, List.getElem?_drop]; exact h
mutual
theorem rep_of : ∀ (s : Sh) (t : TypeId) (fuel : Nat) (cs : List Value) (d : DataW H) (ps : List MemPlace), s.ok Tryz.prog t = true → DataW.trod enc Tryz.prog w 0 (fun _ => true) true fuel t cs = some (d, ps) →
    Ty s d ∧ cs.length = s.n ∧ (dAV s d).length = s.n ∧ ∀ (i : Nat) (y : AV) (u : Value), (dAV s d)[i]? = some y → cs[i]? = some u → y.grCell = true ∧ Rep (S0 w) w [] u y
  | .bool, t, fuel, cs, d, ps, hs, h => by
    simp only [Sh.ok] at hs
    split at hs
    · rename_i ht
      obtain ⟨b, rfl, hx⟩ := DataW.trod_bool ht h
      cases hx
      refine ⟨by simp [Ty], rfl, rfl, fun i y u hy hu => ?_⟩
      match i, hy, hu with
      | 0, hy, hu => cases hy; cases hu; exact ⟨rfl, .val _ _⟩
    · cases hs
  | .int k, t, fuel, cs, d, ps, hs, h => by
    simp only [Sh.ok] at hs
    split at hs
    · rename_i k' ht
      have hk := of_decide_eq_true hs
      subst hk
      obtain ⟨b, rfl, hx, hw⟩ := DataW.trod_int ht h
      cases hx
      refine ⟨by simp [Ty, hw], rfl, rfl, fun i y u hy hu => ?_⟩
      match i, hy, hu with
      | 0, hy, hu => cases hy; cases hu; exact ⟨rfl, .val _ _⟩
    · cases hs
  | .str, t, fuel, cs, d, ps, hs, h => by
    simp only [Sh.ok] at hs
    split at hs
    · rename_i ht
      obtain ⟨b, rfl, hx, hw⟩ := DataW.trod_string ht h
      cases hx
      refine ⟨by simpa [Ty] using hw, rfl, rfl, fun i y u hy hu => ?_⟩
      match i, hy, hu with
      | 0, hy, hu => cases hy; cases hu; exact ⟨rfl, .val _ _⟩
    · cases hs
  | .sl e, t, fuel, cs, d, ps, hs, h => by
    simp only [Sh.ok] at hs
    split at hs
    · rename_i u ht
      simp only [Bool.and_eq_true, decide_eq_true_eq] at hs
      obtain ⟨⟨hC, hpos⟩, hok⟩ := hs
      rcases open_slice ht h with ⟨hcs, hx⟩ | ⟨a, len, cap, m, n', D, Pl, hcs, hb, hl, hm, hmm, hx, hi⟩
      · cases hx
        subst hcs
        refine ⟨by simp [Ty], rfl, rfl, fun i y u hy hu => ?_⟩
        match i, hy, hu with
        | 0, hy, hu =>
          cases hy; cases hu
          exact ⟨rfl, Rep.slice (S := S0 w) (w := w) (H := []) (A := none) (c := 0) (l := []) 0 0 _ (fun _ _ => undef) (by simp) (fun _ => rfl) (fun h => by simp at h) (fun i x hx => by simp at hx) (fun i x j y hx => by simp at hx) (fun i x j y hx => by simp at hx)⟩
      · cases hx
        subst hcs
        have hmc : m = cap := by simpa using hmm
        have el : ∀ i, i < len → ∃ cs', World.cells? w 0 (a.add (i * e.n)) e.n = some cs' ∧ Ty e (D i) ∧ cs'.length = e.n ∧ (dAV e (D i)).length = e.n ∧ ∀ (j : Nat) (y : AV) (v : Value), (dAV e (D i))[j]? = some y → cs'[j]? = some v → y.grCell = true ∧ Rep (S0 w) w [] v y := by
          intro i hil
          obtain ⟨cs', h1, h2⟩ := hi i (by omega)
          rw [hC] at h1
          exact ⟨cs', h1, rep_of e u n' cs' (D i) (Pl i) hok h2⟩
        have hty : ∀ x ∈ (List.range len).map D, Ty e x := fun x hx => by
          obtain ⟨i, hil, rfl⟩ := List.mem_map.1 hx
          exact (el i (List.mem_range.1 hil)).choose_spec.2.1
        refine ⟨by simp only [Ty]; exact ⟨by simp; omega, hty⟩, rfl, rfl, fun i y u hy hu => ?_⟩
        match i, hy, hu with
        | 0, hy, hu =>
          cases hy; cases hu
          refine ⟨rfl, ?_⟩
          have hlen : (((List.range len).map D).map fun x => e.mk (dAV e x)).length = len := by simp
          have key : ∀ (i : Nat) (x : AV), (((List.range len).map D).map fun x => e.mk (dAV e x))[i]? = some x → i < len ∧ x = e.mk (dAV e (D i)) := fun i x hx => by
            have hil : i < len := by have := (List.getElem?_eq_some_iff.1 hx).1; omega
            rw [List.getElem?_map, List.getElem?_map, List.getElem?_range hil] at hx
            simp only [Option.map_some, Option.some.injEq] at hx
            exact ⟨hil, hx.symm⟩
          by_cases hn : 0 < len
          · have hsp : ∃ b off, a = ⟨b, off, none⟩ ∧ b < w.heap.size := by
              obtain ⟨cs0, h0, -, hl0, -⟩ := el 0 hn
              obtain ⟨_, hl0', hat0⟩ := World.cells?_some h0
              have h00 := hat0 0 hpos
              have hlt : 0 < cs0.length := by omega
              rw [List.getElem?_eq_getElem hlt] at h00
              have hz : (a.add (0 * e.n)).add 0 = a := by simp [Addr.add]
              rw [hz] at h00
              obtain ⟨b, off, spot⟩ := a
              have : spot = none := World.cell?_spot h00
              subst this
              refine ⟨b, off, rfl, ?_⟩
              simp only [World.cell?] at h00
              split at h00
              · rename_i hh; exact (Array.getElem?_eq_some_iff.1 hh).1
              · cases h00
            obtain ⟨b, off, rfl, hlt⟩ := hsp
            have := Rep.slice (S := S0 w) (w := w) (H := []) (A := some ⟨b, off, none⟩) (c := cap) (l := (((List.range len).map D).map fun x => e.mk (dAV e x))) b off e.n (fun i j => if hil : i < len then ((el i hil).choose.getD j undef) else undef) (by omega) (fun h => by cases h) (fun _ => rfl)
              (fun i x hx => by
                obtain ⟨hil, rfl⟩ := key i x hx
                obtain ⟨h1, h2, h3, h4, h5⟩ := (el i hil).choose_spec
                rw [AV.ground, mk_cells h2]
                refine ⟨List.all_eq_true.2 fun y hy => ?_, h4⟩
                obtain ⟨j, hj, rfl⟩ := List.mem_iff_getElem.1 hy
                exact (h5 j _ _ (List.getElem?_eq_getElem hj) (List.getElem?_eq_getElem (by omega))).1)
              (fun i x j y hx hy => by
                obtain ⟨hil, rfl⟩ := key i x hx
                obtain ⟨h1, h2, h3, h4, h5⟩ := (el i hil).choose_spec
                rw [mk_cells h2] at hy
                have hj : j < e.n := by have := (List.getElem?_eq_some_iff.1 hy).1; omega
                refine ⟨?_, s0_of hlt _⟩
                obtain ⟨_, hl1, hat1⟩ := World.cells?_some h1
                have := hat1 j hj
                rw [dif_pos hil, List.getD_eq_getElem?_getD, List.getElem?_eq_getElem (by omega), Option.getD_some]
                rw [List.getElem?_eq_getElem (by omega)] at this
                exact (congrArg w.cell? (addr_add2 b off (i * e.n) j)).symm.trans this)
              (fun i x j y hx hy => by
                obtain ⟨hil, rfl⟩ := key i x hx
                obtain ⟨h1, h2, h3, h4, h5⟩ := (el i hil).choose_spec
                rw [mk_cells h2] at hy
                have hj : j < e.n := by have := (List.getElem?_eq_some_iff.1 hy).1; omega
                rw [dif_pos hil, List.getD_eq_getElem?_getD, List.getElem?_eq_getElem (by omega), Option.getD_some]
                exact (h5 j y _ hy (List.getElem?_eq_getElem (by omega))).2)
            rw [hlen] at this
            exact this
          · have hn0 : len = 0 := by omega
            subst hn0
            exact Rep.slice (S := S0 w) (w := w) (H := []) (A := some a) (c := cap) (l := []) 0 0 _ (fun _ _ => undef) (by simp) (fun h => by cases h) (fun h => by simp at h) (fun i x hx => by simp at hx) (fun i x j y hx => by simp at hx) (fun i x j y hx => by simp at hx)
    · cases hs
  | .st fs, t, fuel, cs, d, ps, hs, h => by
    simp only [Sh.ok] at hs
    split at hs
    · rename_i l ht
      simp only [Bool.and_eq_true, decide_eq_true_eq] at hs
      obtain ⟨xs, n, -, hx, hl, hxl, hf⟩ := DataW.trod_struct ht h
      cases hx
      obtain ⟨h1, h2, h3⟩ := rep_fields fs l.toList 0 n cs xs hs.2 (by simpa using hxl) (fun i f hi => hf i f (by simpa using hi))
      rw [hs.1] at hl
      refine ⟨by simpa [Ty] using h1, by simpa [Sh.n] using hl, by simpa [dAV, Sh.n] using h2, fun i y u hy hu => ?_⟩
      simp only [dAV] at hy
      exact h3 i y u hy (by simpa using hu)
    · rename_i n e ht
      simp only [Bool.and_eq_true, decide_eq_true_eq] at hs
      obtain ⟨xs, m, -, hx, hl, hxl, hf⟩ := DataW.trod_array ht h
      cases hx
      obtain ⟨h1, h2, h3⟩ := rep_items fs e 0 m cs xs hs.2 (by rw [hxl, hs.1.2]) (fun i hi => by
        have := hf i (by rw [← hs.1.2]; exact hi)
        simpa using this)
      rw [hs.1.1] at hl
      refine ⟨by simpa [Ty] using h1, by simpa [Sh.n] using hl, by simpa [dAV, Sh.n] using h2, fun i y u hy hu => ?_⟩
      simp only [dAV] at hy
      exact h3 i y u hy (by simpa using hu)
    · cases hs
theorem rep_fields : ∀ (fs : List Sh) (l : List Field) (o n : Nat) (cs : List Value) (xs : List (DataW H × List MemPlace)), Sh.okF Tryz.prog fs l o = true → xs.length = l.length →
    (∀ (i : Nat) (f : Field), l[i]? = some f → DataW.trod enc Tryz.prog w 0 (fun _ => true) true n f.type ((cs.drop f.offset).take (Tryz.prog.cellsOf f.type)) = xs[i]?) →
    Tys fs (xs.map (·.1)) ∧ (dAVs fs (xs.map (·.1))).length = Sh.ns fs ∧ ∀ (i : Nat) (y : AV) (u : Value), (dAVs fs (xs.map (·.1)))[i]? = some y → cs[o + i]? = some u → y.grCell = true ∧ Rep (S0 w) w [] u y
  | [], [], o, n, cs, xs, _, hx, _ => by
    obtain rfl : xs = [] := List.eq_nil_of_length_eq_zero hx
    exact ⟨by simp [Tys], rfl, fun i y u hy => by simp [dAVs] at hy⟩
  | [], _ :: _, o, n, cs, xs, hs, _, _ => by simp [Sh.okF] at hs
  | _ :: _, [], o, n, cs, xs, hs, _, _ => by simp [Sh.okF] at hs
  | s :: r, f :: l, o, n, cs, xs, hs, hx, hf => by
    simp only [Sh.okF, Bool.and_eq_true, decide_eq_true_eq] at hs
    obtain ⟨⟨⟨ho, hC⟩, hok⟩, hr⟩ := hs
    match xs, hx, hf with
    | x :: xs, hx, hf =>
      have h0 := hf 0 f rfl
      rw [ho, hC] at h0
      obtain ⟨a1, a2, a3, a4⟩ := rep_of s f.type n ((cs.drop o).take s.n) x.1 x.2 hok h0
      obtain ⟨b1, b2, b3⟩ := rep_fields r l (o + s.n) n cs xs hr (by simpa using hx) (fun i g hi => hf (i + 1) g hi)
      refine ⟨by simp only [List.map_cons, Tys]; exact ⟨a1, b1⟩, by simp only [List.map_cons, dAVs, Sh.ns, List.length_append, a3, b2], fun i y u hy hu => ?_⟩
      simp only [List.map_cons, dAVs] at hy
      by_cases hi : i < s.n
      · rw [List.getElem?_append_left (by omega)] at hy
        exact a4 i y u hy (drop_take_get hu hi)
      · rw [List.getElem?_append_right (by omega), a3] at hy
        exact b3 (i - s.n) y u hy (by rw [show o + s.n + (i - s.n) = o + i by omega]; exact hu)
theorem rep_items : ∀ (fs : List Sh) (e : TypeId) (k m : Nat) (cs : List Value) (xs : List (DataW H × List MemPlace)), Sh.okA Tryz.prog fs e = true → xs.length = fs.length →
    (∀ i, i < fs.length → DataW.trod enc Tryz.prog w 0 (fun _ => true) true m e ((cs.drop ((k + i) * Tryz.prog.cellsOf e)).take (Tryz.prog.cellsOf e)) = xs[i]?) →
    Tys fs (xs.map (·.1)) ∧ (dAVs fs (xs.map (·.1))).length = Sh.ns fs ∧ ∀ (i : Nat) (y : AV) (u : Value), (dAVs fs (xs.map (·.1)))[i]? = some y → cs[k * Tryz.prog.cellsOf e + i]? = some u → y.grCell = true ∧ Rep (S0 w) w [] u y
  | [], e, k, m, cs, xs, _, hx, _ => by
    obtain rfl : xs = [] := List.eq_nil_of_length_eq_zero hx
    exact ⟨by simp [Tys], rfl, fun i y u hy => by simp [dAVs] at hy⟩
  | s :: r, e, k, m, cs, xs, hs, hx, hf => by
    simp only [Sh.okA, Bool.and_eq_true, decide_eq_true_eq] at hs
    obtain ⟨⟨hC, hok⟩, hr⟩ := hs
    match xs, hx, hf with
    | x :: xs, hx, hf =>
      have h0 := hf 0 (by simp)
      rw [hC] at h0
      obtain ⟨a1, a2, a3, a4⟩ := rep_of s e m ((cs.drop ((k + 0) * s.n)).take s.n) x.1 x.2 hok h0
      obtain ⟨b1, b2, b3⟩ := rep_items r e (k + 1) m cs xs hr (by simpa using hx) (fun i hi => by
        have := hf (i + 1) (by simpa using hi)
        rw [show k + 1 + i = k + (i + 1) by omega]; simpa using this)
      refine ⟨by simp only [List.map_cons, Tys]; exact ⟨a1, b1⟩, by simp only [List.map_cons, dAVs, Sh.ns, List.length_append, a3, b2], fun i y u hy hu => ?_⟩
      simp only [List.map_cons, dAVs] at hy
      rw [hC] at hu b3
      by_cases hi : i < s.n
      · rw [List.getElem?_append_left (by omega)] at hy
        refine a4 i y u hy (drop_take_get ?_ hi)
        simpa using hu
      · rw [List.getElem?_append_right (by omega), a3] at hy
        refine b3 (i - s.n) y u hy ?_
        rw [show (k + 1) * s.n + (i - s.n) = k * s.n + i by rw [Nat.add_mul]; omega]; exact hu
end
theorem rep_arg {s : Sh} {t : TypeId} {v : Value} {d : DataW H} {p : List MemPlace} {b0 : Nat} (hs : s.ok Tryz.prog t = true) (hv : Value.okWide Tryz.prog w .any b0 t v)
    (h : DataW.Trod enc Tryz.prog w 0 (fun _ => true) true t v d p) : Ty s d ∧ Rep (S0 w) w [] v (s.mk (dAV s d)) := by
  obtain ⟨fuel, hf⟩ := h
  obtain ⟨h1, h2, h3, h4⟩ := rep_of s t fuel v.cells.toList d p hs hf
  refine ⟨h1, ?_⟩
  have one : ∀ x, dAV s d = [x] → v.cells = #[v] → s.mk (dAV s d) = x → Rep (S0 w) w [] v (s.mk (dAV s d)) := fun x hx hc hm => by
    rw [hm]
    exact (h4 0 x v (by rw [hx]; rfl) (by rw [hc]; rfl)).2
  cases s with
  | bool =>
    obtain ⟨b, rfl⟩ := Ty_bool h1
    simp only [Sh.ok] at hs
    split at hs
    · rename_i ht
      obtain ⟨b, rfl⟩ := okWide_bool ht hv
      exact one _ rfl rfl rfl
    · cases hs
  | int k =>
    obtain ⟨b, rfl, -⟩ := Ty_int h1
    simp only [Sh.ok] at hs
    split at hs
    · rename_i k' ht
      obtain ⟨b, rfl⟩ := okWide_int ht hv
      exact one _ rfl rfl rfl
    · cases hs
  | str =>
    obtain ⟨b, rfl, -⟩ := Ty_str h1
    simp only [Sh.ok] at hs
    split at hs
    · rename_i ht
      obtain ⟨b, rfl⟩ := okWide_string ht hv
      exact one _ rfl rfl rfl
    · cases hs
  | sl e =>
    simp only [Sh.ok] at hs
    split at hs
    · rename_i u ht
      obtain ⟨A, n, c, rfl⟩ := okWide_slice ht hv
      rcases Ty_sl h1 with rfl | ⟨elems, spare, rfl, -, -⟩
      · exact one (.slice e.n []) rfl rfl rfl
      · exact one _ (by simp only [dAV]; rfl) rfl (by simp only [dAV, Sh.mk]; rfl)
    · cases hs
  | st fs =>
    have hagg : ∃ cs : Array Value, v = .agg cs := by
      simp only [Sh.ok] at hs
      split at hs
      · rename_i l ht
        obtain ⟨cs, rfl, -⟩ := okWide_struct ht hv
        exact ⟨cs, rfl⟩
      · rename_i n e ht
        unfold Value.okWide at hv
        rw [ht] at hv
        obtain ⟨cs, rfl, -⟩ := hv
        exact ⟨cs, rfl⟩
      · cases hs
    obtain ⟨cs, rfl⟩ := hagg
    refine Rep.agg ?_ fun i y hy => ?_
    · simp only [Value.cells, Array.length_toList] at h2; rw [h2, h3]
    · have hi : i < cs.size := by
        have := (List.getElem?_eq_some_iff.1 hy).1
        simp only [Value.cells, Array.length_toList] at h2
        omega
      refine (h4 i y _ hy ?_).2
      simp only [Value.cells]
      rw [List.getElem?_eq_getElem (by simpa using hi)]
      simp [Array.getD, hi]
end
end Go.Proofs.YtfedemnaeggokaaGreatDoor
end
section
namespace Go.Proofs.YtfedemnaeggokaaGreatDoor
set_option linter.unusedVariables false
set_option linter.unusedSimpArgs false
open Go.RowKit Go.ChangeShapes Go.WideShapes Go.ChangeAt Go.Deep
section
variable {H : Type} {enc : TypeId × Value → H}
set_option maxRecDepth 100000 in
theorem law_liftedL {F : FuncId} {fn : Func} {s : ChangeSpec} {conds : List PathCond} {laid : List (String × DataW Unit)} {os : Os} (started : os.Started) (noInit : Tryz.prog.inits.idxOf? F = none) (hfn : Tryz.prog.funcs[F]? = some fn)
    (hv : s.vars = []) (hs : ∀ ds : List (DataW H), ds.length = fn.params.size → s.fn H ds = { results := [.lit (.bool true)], args := ds }) (hres : fn.resultTypes = #[4])
    (hpar : ∀ t ∈ fn.params.toList, Tryz.prog.readableRec t = true ∧ t < Tryz.prog.types.size)
    (witness : ∃ (w : World) (tape : Tape) (i : Input), w.os = os ∧ (w.forCall tape i).Shaped Tryz.checked.prog ∧ i.vars = [] ∧ Input.okWide Tryz.checked.prog (w.forCall tape i) .any w.heap.size F i ∧
      ((s.pre enc Tryz.checked.prog fn conds false (w.forCall tape i).memory i.args ∧ laidMetH Tryz.checked.prog laid (w.forCall tape i).memory) ∧ sizedMet enc Tryz.checked.prog fn (OpenSpec.ofChange s) false (w.forCall tape i).memory i.args) ∧ Assume.holds {} Tryz.checked.prog (lone (Frame.enter Tryz.checked.prog F i.args .normal) [] (w.forCall tape i)))
    (walk : ∀ (W : World) (base : Nat) (args : Array Value) (ds : List (DataW H)) (p : List MemPlace),
      (∀ (j : Nat) t v, fn.params[j]? = some t → args[j]? = some v → Value.okWide Tryz.prog W .any base t v) →
      DataW.TrodAll enc Tryz.prog W 0 (fun _ => true) true fn.params.toList args.toList ds p →
      (DataW.weightsEach Tryz.prog fn.params.toList ds).all (· ≤ reachBytes) = true → laidMetH Tryz.prog laid W →
      Calls Tryz.prog F args W fun e w' => e = .returned (.bool true) ∧ Below W.heap.size W w') :
    ReturnsInHanded {} Tryz.checked os F .any (fun w args => (s.pre enc Tryz.prog fn conds false w args ∧ laidMetH Tryz.prog laid w) ∧ sizedMet enc Tryz.prog fn (OpenSpec.ofChange s) false w args) (s.post enc Tryz.prog fn false true false false) := by
  refine returnsInHanded_of_change_and (C := Tryz.checked) (X := fun w _ => laidMetH Tryz.prog laid w) (fun _ _ _ hh h => h.of_heap hh) own started noInit hfn witness ?_
  intro W base args ds gs before hval hW hcnd hsz hL _
  have hW' := hW
  obtain ⟨p, q, hA, hV, rfl, hfz, hnd⟩ := hW
  rw [hv] at hV
  obtain ⟨rfl, rfl⟩ := trodVars_none hV
  have hlen : ds.length = fn.params.size := by
    have : ∀ {ts : List TypeId} {vs : List Value} {ds : List (DataW H)} {ps : List MemPlace}, DataW.TrodAll enc Tryz.checked.prog W 0 (fun _ => true) true ts vs ds ps → ds.length = ts.length := by
      intro ts
      induction ts with
      | nil => intro vs ds ps h; cases vs <;> cases ds <;> first | rfl | exact h.elim
      | cons t ts ih => intro vs ds ps h; cases vs <;> cases ds <;> first | exact h.elim | (obtain ⟨_, _, _, h2, _⟩ := h; simp [ih h2])
    rw [this hA]; simp
  have hvt : s.plain.varTypes Tryz.checked.prog = [] := by
    simp [DataSpec.varTypes, ChangeSpec.plain, hv]
  rw [hvt, List.append_nil, List.append_nil] at hsz
  refine (walk W base args ds p hval hA hsz hL).mono fun e W' ⟨he, bel⟩ => ?_
  subst he
  have h1 := hs (ds ++ []) (by simpa using hlen)
  refine ⟨_, rfl, ds, [], p ++ [], [], p, [], hW', ?_, ?_, ?_, bel.frame _, fun h => by cases h⟩
  · rw [h1, hres]; exact trodAll_mk1 (shut_bool Tryz.underlying4 _)
  · rw [h1]; simp only [List.append_nil]; exact trodAll_below bel hpar hA
  · rw [h1, hv]; exact rfl
end
theorem laid_at {W : World} : ∀ {l : List (String × DataW Unit)} {ps : List MemPlace}, DataW.LaidVars Tryz.prog W l ps → ∀ {n : String} {d : DataW Unit}, (n, d) ∈ l →
    ∃ g t cs fuel p, Tryz.prog.globalNamed n = some g ∧ (Tryz.prog.globals[g]?).map (·.type) = some t ∧ W.var? Tryz.prog n = some cs ∧ DataW.trod (fun _ => ()) Tryz.prog W 0 (fun _ => true) false fuel t cs.toList = some (d, p)
  | [], ps, h, n, d, hm => by cases hm
  | (m, e) :: r, ps, h, n, d, hm => by
    obtain ⟨g, t, cs, fuel, p, q, h1, h2, h3, h4, h5, -⟩ := h
    rcases List.mem_cons.1 hm with q | q
    · cases q
      exact ⟨g, t, cs, fuel, p, h1, h2, h3, h4⟩
    · exact laid_at h5 q
theorem gr_ints {W : World} {laid : List (String × DataW Unit)} (hL : laidMet Tryz.prog laid W) {n : String} {g : Nat} {t e : TypeId} {k : IntKind} {zs : List Int} (hm : (n, Lib.tabData k zs) ∈ laid) (hn : Tryz.prog.globalNamed n = some g) (hty : (Tryz.prog.globals[g]?).map (·.type) = some t)
    {c : Nat} (ht : Tryz.prog.underlying t = some (.array c e)) (he : Tryz.prog.underlying e = some (.int k)) (hce : Tryz.prog.cellsOf e = 1) (hct : Tryz.prog.cellsOf t = c) :
    Rep (S0 W) W [] (.pointer (some ⟨g, 0, none⟩)) (.rptr (zs.map fun z => .val (.int k z))) ∧ ∀ o, (zs.map fun z => AV.val (.int k z)).length ≤ o → S0 W g o ∧ W.cell? ⟨g, o, none⟩ = none := by
  obtain ⟨ps, hV, -⟩ := hL
  obtain ⟨g', t', cs, fuel, p, h1, h2, h3, h4⟩ := laid_at hV hm
  obtain rfl := Option.some.inj (hn.symm.trans h1)
  obtain rfl := Option.some.inj (hty.symm.trans h2)
  have hcs := Lib.cells_of_tab ht he hce hct h4
  have hcs' : cs = (zs.map fun z => Value.int k z).toArray := by rw [← hcs]
  subst hcs'
  refine gr_of_var hn h3 (by simp) fun j y hy => ?_
  rw [List.getElem?_map, Option.map_eq_some_iff] at hy
  obtain ⟨z, hz, rfl⟩ := hy
  exact ⟨rfl, .int k z, by simp [hz], .val _ _⟩
theorem gr_err {W : World} {laid : List (String × DataW Unit)} (hL : laidMet Tryz.prog laid W) {n s : String} {d : DataW Unit} {g : Nat} {t : TypeId} (hm : (n, .iface s d) ∈ laid) (hn : Tryz.prog.globalNamed n = some g) (hty : (Tryz.prog.globals[g]?).map (·.type) = some t)
    {ms : Array (String × TypeId)} (ht : Tryz.prog.underlying t = some (.interface ms)) :
    Rep (S0 W) W [] (.pointer (some ⟨g, 0, none⟩)) (.rptr [.nif]) ∧ ∀ o, [AV.nif].length ≤ o → S0 W g o ∧ W.cell? ⟨g, o, none⟩ = none := by
  obtain ⟨ps, hV, -⟩ := hL
  obtain ⟨g', t', cs, fuel, p, h1, h2, h3, h4⟩ := laid_at hV hm
  obtain rfl := Option.some.inj (hn.symm.trans h1)
  obtain rfl := Option.some.inj (hty.symm.trans h2)
  have hcs : ∃ u v, cs = #[.iface u v] := by
    cases fuel with
    | zero => simp [DataW.trod] at h4
    | succ fuel =>
      obtain ⟨l⟩ := cs
      simp only [DataW.trod, ht] at h4
      split at h4 <;> first | (simp_all; done) | (rename_i u v _ _; exact ⟨u, v, by simp_all⟩) | skip
      all_goals (try (rename_i u v _ ; exact ⟨u, v, by simp_all⟩))
      all_goals (try (rename_i u v; exact ⟨u, v, by simp_all⟩))
  obtain ⟨u, v, rfl⟩ := hcs
  refine gr_of_var hn h3 rfl fun j y hy => ?_
  match j, hy with
  | 0, hy => cases hy; exact ⟨rfl, _, rfl, .nif _ _ _⟩
end Go.Proofs.YtfedemnaeggokaaGreatDoor
end
section
namespace Go.Proofs.YtfedemnaeggokaaGreatDoor
set_option linter.unusedVariables false
set_option linter.unusedSimpArgs false
theorem get_some00 {α : Type} {o : Option α} {d : α} (h : o.isSome = true) : o = some (o.getD d) := by cases o with | none => cases h | some a => rfl
def ac00 : AFunc := AFunc.mk 0 0 [] (ACode.region [] [])
def MS : List Nat := [29, 30, 31, 45, 46, 47, 48, 52, 53, 54, 60, 64, 67, 71, 79, 80, 81, 82, 83, 84, 85, 86, 98, 100, 101, 102, 116, 29, 30, 31, 32, 40, 52, 53, 54, 45, 46, 48, 64, 1000000]
noncomputable def ac3 : AFunc := (comp Tryz.prog MS 3).getD ac00
theorem comp3 : comp Tryz.prog MS 3 = some ac3 := get_some00 (by kernel_rfl)
noncomputable def ac4 : AFunc := (comp Tryz.prog MS 4).getD ac00
theorem comp4 : comp Tryz.prog MS 4 = some ac4 := get_some00 (by kernel_rfl)
noncomputable def ac5 : AFunc := (comp Tryz.prog MS 5).getD ac00
theorem comp5 : comp Tryz.prog MS 5 = some ac5 := get_some00 (by kernel_rfl)
noncomputable def ac6 : AFunc := (comp Tryz.prog MS 6).getD ac00
theorem comp6 : comp Tryz.prog MS 6 = some ac6 := get_some00 (by kernel_rfl)
noncomputable def ac7 : AFunc := (comp Tryz.prog MS 7).getD ac00
theorem comp7 : comp Tryz.prog MS 7 = some ac7 := get_some00 (by kernel_rfl)
noncomputable def ac8 : AFunc := (comp Tryz.prog MS 8).getD ac00
theorem comp8 : comp Tryz.prog MS 8 = some ac8 := get_some00 (by kernel_rfl)
noncomputable def ac9 : AFunc := (comp Tryz.prog MS 9).getD ac00
theorem comp9 : comp Tryz.prog MS 9 = some ac9 := get_some00 (by kernel_rfl)
noncomputable def ac10 : AFunc := (comp Tryz.prog MS 10).getD ac00
theorem comp10 : comp Tryz.prog MS 10 = some ac10 := get_some00 (by kernel_rfl)
noncomputable def ac11 : AFunc := (comp Tryz.prog MS 11).getD ac00
theorem comp11 : comp Tryz.prog MS 11 = some ac11 := get_some00 (by kernel_rfl)
noncomputable def ac12 : AFunc := (comp Tryz.prog MS 12).getD ac00
theorem comp12 : comp Tryz.prog MS 12 = some ac12 := get_some00 (by kernel_rfl)
noncomputable def ac13 : AFunc := (comp Tryz.prog MS 13).getD ac00
theorem comp13 : comp Tryz.prog MS 13 = some ac13 := get_some00 (by kernel_rfl)
noncomputable def ac14 : AFunc := (comp Tryz.prog MS 14).getD ac00
theorem comp14 : comp Tryz.prog MS 14 = some ac14 := get_some00 (by kernel_rfl)
noncomputable def ac15 : AFunc := (comp Tryz.prog MS 15).getD ac00
theorem comp15 : comp Tryz.prog MS 15 = some ac15 := get_some00 (by kernel_rfl)
noncomputable def ac16 : AFunc := (comp Tryz.prog MS 16).getD ac00
theorem comp16 : comp Tryz.prog MS 16 = some ac16 := get_some00 (by kernel_rfl)
noncomputable def ac17 : AFunc := (comp Tryz.prog MS 17).getD ac00
theorem comp17 : comp Tryz.prog MS 17 = some ac17 := get_some00 (by kernel_rfl)
noncomputable def ac18 : AFunc := (comp Tryz.prog MS 18).getD ac00
theorem comp18 : comp Tryz.prog MS 18 = some ac18 := get_some00 (by kernel_rfl)
noncomputable def ac19 : AFunc := (comp Tryz.prog MS 19).getD ac00
theorem comp19 : comp Tryz.prog MS 19 = some ac19 := get_some00 (by kernel_rfl)
noncomputable def ac20 : AFunc := (comp Tryz.prog MS 20).getD ac00
theorem comp20 : comp Tryz.prog MS 20 = some ac20 := get_some00 (by kernel_rfl)
noncomputable def ac21 : AFunc := (comp Tryz.prog MS 21).getD ac00
theorem comp21 : comp Tryz.prog MS 21 = some ac21 := get_some00 (by kernel_rfl)
noncomputable def ac22 : AFunc := (comp Tryz.prog MS 22).getD ac00
theorem comp22 : comp Tryz.prog MS 22 = some ac22 := get_some00 (by kernel_rfl)
noncomputable def ac23 : AFunc := (comp Tryz.prog MS 23).getD ac00
theorem comp23 : comp Tryz.prog MS 23 = some ac23 := get_some00 (by kernel_rfl)
noncomputable def ac24 : AFunc := (comp Tryz.prog MS 24).getD ac00
theorem comp24 : comp Tryz.prog MS 24 = some ac24 := get_some00 (by kernel_rfl)
noncomputable def ac25 : AFunc := (comp Tryz.prog MS 25).getD ac00
theorem comp25 : comp Tryz.prog MS 25 = some ac25 := get_some00 (by kernel_rfl)
noncomputable def ac26 : AFunc := (comp Tryz.prog MS 26).getD ac00
theorem comp26 : comp Tryz.prog MS 26 = some ac26 := get_some00 (by kernel_rfl)
noncomputable def ac27 : AFunc := (comp Tryz.prog MS 27).getD ac00
theorem comp27 : comp Tryz.prog MS 27 = some ac27 := get_some00 (by kernel_rfl)
noncomputable def ac28 : AFunc := (comp Tryz.prog MS 28).getD ac00
theorem comp28 : comp Tryz.prog MS 28 = some ac28 := get_some00 (by kernel_rfl)
noncomputable def ac29 : AFunc := (comp Tryz.prog MS 29).getD ac00
theorem comp29 : comp Tryz.prog MS 29 = some ac29 := get_some00 (by kernel_rfl)
noncomputable def ac30 : AFunc := (comp Tryz.prog MS 30).getD ac00
theorem comp30 : comp Tryz.prog MS 30 = some ac30 := get_some00 (by kernel_rfl)
noncomputable def ac31 : AFunc := (comp Tryz.prog MS 31).getD ac00
theorem comp31 : comp Tryz.prog MS 31 = some ac31 := get_some00 (by kernel_rfl)
noncomputable def ac32 : AFunc := (comp Tryz.prog MS 32).getD ac00
theorem comp32 : comp Tryz.prog MS 32 = some ac32 := get_some00 (by kernel_rfl)
noncomputable def ac34 : AFunc := (comp Tryz.prog MS 34).getD ac00
theorem comp34 : comp Tryz.prog MS 34 = some ac34 := get_some00 (by kernel_rfl)
noncomputable def ac35 : AFunc := (comp Tryz.prog MS 35).getD ac00
theorem comp35 : comp Tryz.prog MS 35 = some ac35 := get_some00 (by kernel_rfl)
noncomputable def ac37 : AFunc := (comp Tryz.prog MS 37).getD ac00
theorem comp37 : comp Tryz.prog MS 37 = some ac37 := get_some00 (by kernel_rfl)
noncomputable def ac38 : AFunc := (comp Tryz.prog MS 38).getD ac00
theorem comp38 : comp Tryz.prog MS 38 = some ac38 := get_some00 (by kernel_rfl)
noncomputable def ac40 : AFunc := (comp Tryz.prog MS 40).getD ac00
theorem comp40 : comp Tryz.prog MS 40 = some ac40 := get_some00 (by kernel_rfl)
noncomputable def ac41 : AFunc := (comp Tryz.prog MS 41).getD ac00
theorem comp41 : comp Tryz.prog MS 41 = some ac41 := get_some00 (by kernel_rfl)
noncomputable def ac42 : AFunc := (comp Tryz.prog MS 42).getD ac00
theorem comp42 : comp Tryz.prog MS 42 = some ac42 := get_some00 (by kernel_rfl)
noncomputable def ac43 : AFunc := (comp Tryz.prog MS 43).getD ac00
theorem comp43 : comp Tryz.prog MS 43 = some ac43 := get_some00 (by kernel_rfl)
noncomputable def ac44 : AFunc := (comp Tryz.prog MS 44).getD ac00
theorem comp44 : comp Tryz.prog MS 44 = some ac44 := get_some00 (by kernel_rfl)
noncomputable def ac45 : AFunc := (comp Tryz.prog MS 45).getD ac00
theorem comp45 : comp Tryz.prog MS 45 = some ac45 := get_some00 (by kernel_rfl)
noncomputable def ac47 : AFunc := (comp Tryz.prog MS 47).getD ac00
theorem comp47 : comp Tryz.prog MS 47 = some ac47 := get_some00 (by kernel_rfl)
noncomputable def ac48 : AFunc := (comp Tryz.prog MS 48).getD ac00
theorem comp48 : comp Tryz.prog MS 48 = some ac48 := get_some00 (by kernel_rfl)
noncomputable def ac49 : AFunc := (comp Tryz.prog MS 49).getD ac00
theorem comp49 : comp Tryz.prog MS 49 = some ac49 := get_some00 (by kernel_rfl)
noncomputable def ac50 : AFunc := (comp Tryz.prog MS 50).getD ac00
theorem comp50 : comp Tryz.prog MS 50 = some ac50 := get_some00 (by kernel_rfl)
noncomputable def ac51 : AFunc := (comp Tryz.prog MS 51).getD ac00
theorem comp51 : comp Tryz.prog MS 51 = some ac51 := get_some00 (by kernel_rfl)
noncomputable def ac52 : AFunc := (comp Tryz.prog MS 52).getD ac00
theorem comp52 : comp Tryz.prog MS 52 = some ac52 := get_some00 (by kernel_rfl)
noncomputable def ac53 : AFunc := (comp Tryz.prog MS 53).getD ac00
theorem comp53 : comp Tryz.prog MS 53 = some ac53 := get_some00 (by kernel_rfl)
noncomputable def ac55 : AFunc := (comp Tryz.prog MS 55).getD ac00
theorem comp55 : comp Tryz.prog MS 55 = some ac55 := get_some00 (by kernel_rfl)
noncomputable def ac56 : AFunc := (comp Tryz.prog MS 56).getD ac00
theorem comp56 : comp Tryz.prog MS 56 = some ac56 := get_some00 (by kernel_rfl)
noncomputable def ac57 : AFunc := (comp Tryz.prog MS 57).getD ac00
theorem comp57 : comp Tryz.prog MS 57 = some ac57 := get_some00 (by kernel_rfl)
noncomputable def ac58 : AFunc := (comp Tryz.prog MS 58).getD ac00
theorem comp58 : comp Tryz.prog MS 58 = some ac58 := get_some00 (by kernel_rfl)
noncomputable def ac62 : AFunc := (comp Tryz.prog MS 62).getD ac00
theorem comp62 : comp Tryz.prog MS 62 = some ac62 := get_some00 (by kernel_rfl)
noncomputable def ac63 : AFunc := (comp Tryz.prog MS 63).getD ac00
theorem comp63 : comp Tryz.prog MS 63 = some ac63 := get_some00 (by kernel_rfl)
noncomputable def ac65 : AFunc := (comp Tryz.prog MS 65).getD ac00
theorem comp65 : comp Tryz.prog MS 65 = some ac65 := get_some00 (by kernel_rfl)
noncomputable def ac66 : AFunc := (comp Tryz.prog MS 66).getD ac00
theorem comp66 : comp Tryz.prog MS 66 = some ac66 := get_some00 (by kernel_rfl)
noncomputable def ac69 : AFunc := (comp Tryz.prog MS 69).getD ac00
theorem comp69 : comp Tryz.prog MS 69 = some ac69 := get_some00 (by kernel_rfl)
noncomputable def ac77 : AFunc := (comp Tryz.prog MS 77).getD ac00
theorem comp77 : comp Tryz.prog MS 77 = some ac77 := get_some00 (by kernel_rfl)
noncomputable def ac89 : AFunc := (comp Tryz.prog MS 89).getD ac00
theorem comp89 : comp Tryz.prog MS 89 = some ac89 := get_some00 (by kernel_rfl)
noncomputable def FT : FuncId → Option AFunc
 | 3 => some ac3
 | 4 => some ac4
 | 5 => some ac5
 | 6 => some ac6
 | 7 => some ac7
 | 8 => some ac8
 | 9 => some ac9
 | 10 => some ac10
 | 11 => some ac11
 | 12 => some ac12
 | 13 => some ac13
 | 14 => some ac14
 | 15 => some ac15
 | 16 => some ac16
 | 17 => some ac17
 | 18 => some ac18
 | 19 => some ac19
 | 20 => some ac20
 | 21 => some ac21
 | 22 => some ac22
 | 23 => some ac23
 | 24 => some ac24
 | 25 => some ac25
 | 26 => some ac26
 | 27 => some ac27
 | 28 => some ac28
 | 29 => some ac29
 | 30 => some ac30
 | 31 => some ac31
 | 32 => some ac32
 | 34 => some ac34
 | 35 => some ac35
 | 37 => some ac37
 | 38 => some ac38
 | 40 => some ac40
 | 41 => some ac41
 | 42 => some ac42
 | 43 => some ac43
 | 44 => some ac44
 | 45 => some ac45
 | 47 => some ac47
 | 48 => some ac48
 | 49 => some ac49
 | 50 => some ac50
 | 51 => some ac51
 | 52 => some ac52
 | 53 => some ac53
 | 55 => some ac55
 | 56 => some ac56
 | 57 => some ac57
 | 58 => some ac58
 | 62 => some ac62
 | 63 => some ac63
 | 65 => some ac65
 | 66 => some ac66
 | 69 => some ac69
 | 77 => some ac77
 | 89 => some ac89
 | _ => none
theorem FT_ok : ∀ f af, FT f = some af → ∃ hn, compFunc Tryz.prog hn f = some af := by
 intro f af h
 unfold FT at h
 split at h
 ·injection h with h; subst h; exact comp_ok comp3
 ·injection h with h; subst h; exact comp_ok comp4
 ·injection h with h; subst h; exact comp_ok comp5
 ·injection h with h; subst h; exact comp_ok comp6
 ·injection h with h; subst h; exact comp_ok comp7
 ·injection h with h; subst h; exact comp_ok comp8
 ·injection h with h; subst h; exact comp_ok comp9
 ·injection h with h; subst h; exact comp_ok comp10
 ·injection h with h; subst h; exact comp_ok comp11
 ·injection h with h; subst h; exact comp_ok comp12
 ·injection h with h; subst h; exact comp_ok comp13
 ·injection h with h; subst h; exact comp_ok comp14
 ·injection h with h; subst h; exact comp_ok comp15
 ·injection h with h; subst h; exact comp_ok comp16
 ·injection h with h; subst h; exact comp_ok comp17
 ·injection h with h; subst h; exact comp_ok comp18
 ·injection h with h; subst h; exact comp_ok comp19
 ·injection h with h; subst h; exact comp_ok comp20
 ·injection h with h; subst h; exact comp_ok comp21
 ·injection h with h; subst h; exact comp_ok comp22
 ·injection h with h; subst h; exact comp_ok comp23
 ·injection h with h; subst h; exact comp_ok comp24
 ·injection h with h; subst h; exact comp_ok comp25
 ·injection h with h; subst h; exact comp_ok comp26
 ·injection h with h; subst h; exact comp_ok comp27
 ·injection h with h; subst h; exact comp_ok comp28
 ·injection h with h; subst h; exact comp_ok comp29
 ·injection h with h; subst h; exact comp_ok comp30
 ·injection h with h; subst h; exact comp_ok comp31
 ·injection h with h; subst h; exact comp_ok comp32
 ·injection h with h; subst h; exact comp_ok comp34
 ·injection h with h; subst h; exact comp_ok comp35
 ·injection h with h; subst h; exact comp_ok comp37
 ·injection h with h; subst h; exact comp_ok comp38
 ·injection h with h; subst h; exact comp_ok comp40
 ·injection h with h; subst h; exact comp_ok comp41
 ·injection h with h; subst h; exact comp_ok comp42
 ·injection h with h; subst h; exact comp_ok comp43
 ·injection h with h; subst h; exact comp_ok comp44
 ·injection h with h; subst h; exact comp_ok comp45
 ·injection h with h; subst h; exact comp_ok comp47
 ·injection h with h; subst h; exact comp_ok comp48
 ·injection h with h; subst h; exact comp_ok comp49
 ·injection h with h; subst h; exact comp_ok comp50
 ·injection h with h; subst h; exact comp_ok comp51
 ·injection h with h; subst h; exact comp_ok comp52
 ·injection h with h; subst h; exact comp_ok comp53
 ·injection h with h; subst h; exact comp_ok comp55
 ·injection h with h; subst h; exact comp_ok comp56
 ·injection h with h; subst h; exact comp_ok comp57
 ·injection h with h; subst h; exact comp_ok comp58
 ·injection h with h; subst h; exact comp_ok comp62
 ·injection h with h; subst h; exact comp_ok comp63
 ·injection h with h; subst h; exact comp_ok comp65
 ·injection h with h; subst h; exact comp_ok comp66
 ·injection h with h; subst h; exact comp_ok comp69
 ·injection h with h; subst h; exact comp_ok comp77
 ·injection h with h; subst h; exact comp_ok comp89
 ·cases h
end Go.Proofs.YtfedemnaeggokaaGreatDoor
end
section
namespace Go.Proofs.YtfedemnaeggokaaGreatDoor
set_option linter.unusedVariables false
set_option linter.unusedSimpArgs false
theorem same_at {α : Type} {l : List α} {k : Nat} {x y : α} (h : l[k]? = some x) (h' : l[k]? = some y) : y = x := by rw [h] at h'; exact (Option.some.inj h').symm
theorem all_of {α : Type} {P : α → Prop} {l : List α} {k : Nat} {x : α} (h : l[k]? = some x) (hI : ∀ y ∈ l.take k, P y) (hx : P x) : ∀ y ∈ l.take (k + 1), P y := fun y hy => by
 obtain ⟨hk, rfl⟩ := get_of h
 rw [List.take_succ_eq_append_getElem hk] at hy
 rcases List.mem_append.1 hy with h1 | h1
 ·exact hI y h1
 ·rw [List.mem_singleton.1 h1]; exact hx
theorem take_succ_get {α : Type} {l : List α} {k : Nat} {x : α} (h : l[k]? = some x) : l.take (k + 1) = l.take k ++ [x] := by
 obtain ⟨hk, rfl⟩ := get_of h
 rw [List.take_succ_eq_append_getElem hk]
theorem drop_get {α : Type} {l : List α} {k : Nat} {x : α} (h : l[k]? = some x) : l.drop k = x :: l.drop (k + 1) := by
 obtain ⟨hk, rfl⟩ := get_of h
 exact List.drop_eq_getElem_cons hk
theorem getD_of {α : Type} {l : List α} {k : Nat} {c z : α} (h : l[k]? = some c) : l.getD k z = c := by rw [List.getD_eq_getElem?_getD, h]; rfl
theorem mem_take_get {α : Type} {P : α → Prop} {l : List α} {k i : Nat} {x : α} (hI : ∀ y ∈ l.take k, P y) (hi : l[i]? = some x) (hk : i < k) : P x := by
 refine hI x (List.mem_of_getElem? (i := i) ?_)
 rw [List.getElem?_take, if_pos hk]; exact hi
theorem pw_at {α : Type} {m : List α} {P : α → α → Prop} (h : m.Pairwise P) {i j : Nat} {x y : α} (hij : i < j) (hi : m[i]? = some x) (hj : m[j]? = some y) : P x y := by
 obtain ⟨hi', rfl⟩ := get_of hi
 obtain ⟨hj', rfl⟩ := get_of hj
 exact List.pairwise_iff_getElem.1 h _ _ hi' hj' hij
theorem u8_of {c : UInt8} {n : Nat} (h : (c.toNat : Int) = n) (hn : n < 256) : c = UInt8.ofNat n := by
 apply UInt8.toNat_inj.1
 rw [UInt8.toNat_ofNat']; omega
noncomputable def sameB {α : Type} (a b : α) : Bool := @decide (a = b) (Classical.propDecidable _)
theorem sameB_n {α : Type} {a b : α} (h : a ≠ b) : false = sameB a b := by unfold sameB; simp [h]
theorem sameB_y {α : Type} {a b : α} (h : a = b) : true = sameB a b := by unfold sameB; simp [h]
theorem take_eq {α : Type} {a b : List α} {k : Nat} {x : α} (h : a.take k = b.take k) (ha : a[k]? = some x) (hb : b[k]? = some x) : a.take (k + 1) = b.take (k + 1) := by
 obtain ⟨h1, e1⟩ := get_of ha
 obtain ⟨h2, e2⟩ := get_of hb
 rw [List.take_succ_eq_append_getElem h1, List.take_succ_eq_append_getElem h2, h, e1, e2]
theorem take_all {α : Type} {a b : List α} {k : Nat} (h : a.take k = b.take k) (ha : a.length ≤ k) (hb : b.length ≤ k) : a = b := by
 rw [List.take_of_length_le ha, List.take_of_length_le hb] at h; exact h
theorem at_ne {α : Type} {a b : List α} {k : Nat} {x y : α} (ha : a[k]? = some x) (hb : b[k]? = some y) (h : x ≠ y) : a ≠ b := fun e => by
 subst e; rw [ha] at hb; cases hb; exact h rfl
end Go.Proofs.YtfedemnaeggokaaGreatDoor
end
section
namespace Go.Proofs.YtfedemnaeggokaaGreatDoor
set_option linter.unusedVariables false
set_option linter.unusedSimpArgs false
structure dig (c : UInt8) : Prop where
 lo : 48 ≤ c.toNat
 hi : c.toNat ≤ 57
theorem dig_iff {c : UInt8} : dig c ↔ 48 ≤ c.toNat ∧ c.toNat ≤ 57 := ⟨fun h => ⟨h.lo, h.hi⟩, fun h => ⟨h.1, h.2⟩⟩
instance (c : UInt8) : Decidable (dig c) := decidable_of_iff _ dig_iff.symm
def digsB (l : Bs) : Bool := decide (0 < l.length) && (decide (l.length ≤ 1) || decide (l[0]? ≠ some 48)) && decide (∀ c ∈ l, dig c)
def negB (l : Bs) : Bool := decide (l[0]? = some 45)
def numBody (l : Bs) : Bs := if negB l then l.drop 1 else l
def decB (l : Bs) : Bool := digsB (numBody l) && decide (l ≠ [45, 48])
def valF (a : Nat) (l : Bs) : Nat := l.foldl (fun a c => a * 10 + (c.toNat - 48)) a
def valD (l : Bs) : Nat := valF 0 l
theorem valF_cons (a : Nat) (c : UInt8) (l : Bs) : valF a (c :: l) = valF (a * 10 + (c.toNat - 48)) l := by unfold valF; rw [List.foldl_cons]
theorem valF_app (a : Nat) (l r : Bs) : valF a (l ++ r) = valF (valF a l) r := by simp [valF]
theorem valD_snoc (l : Bs) (c : UInt8) : valD (l ++ [c]) = valD l * 10 + (c.toNat - 48) := by simp [valD, valF]
theorem valF_ge : ∀ (l : Bs) (a : Nat), a ≤ valF a l
 | [], a => Nat.le_refl _
 | c :: l, a => by rw [valF_cons]; have := valF_ge l (a * 10 + (c.toNat - 48)); omega
theorem valD_take (l : Bs) (k : Nat) : valD (l.take k) ≤ valD l := by
 have h := valF_app 0 (l.take k) (l.drop k)
 rw [List.take_append_drop] at h
 unfold valD; rw [h]; exact valF_ge _ _
def valI (l : Bs) : Int := if negB l then -(valD (numBody l) : Int) else valD (numBody l)
def numV (l : Bs) : Int := if decB l = true ∧ InI64 (valI l) then valI l else 0
def numE (l : Bs) : Int := if decB l = true then (if InI64 (valI l) then 0 else 9) else 1
theorem num_ok {l : Bs} (h : decB l = true) (h2 : InI64 (valI l)) : numV l = valI l ∧ numE l = 0 := ⟨if_pos ⟨h, h2⟩, by rw [numE, if_pos h, if_pos h2]⟩
theorem num_over {l : Bs} (h : decB l = true) (h2 : ¬ InI64 (valI l)) : numV l = 0 ∧ numE l = 9 := ⟨if_neg fun q => h2 q.2, by rw [numE, if_pos h, if_neg h2]⟩
theorem num_bad {l : Bs} (h : decB l = false) : numV l = 0 ∧ numE l = 1 := ⟨if_neg fun q => by rw [h] at q; exact absurd q.1 (by decide), by rw [numE, if_neg (by rw [h]; decide)]⟩
theorem digsB_iff {l : Bs} : digsB l = true ↔ 0 < l.length ∧ (l.length ≤ 1 ∨ l[0]? ≠ some 48) ∧ ∀ c ∈ l, dig c := by
 simp only [digsB, Bool.and_eq_true, Bool.or_eq_true, decide_eq_true_eq, and_assoc]
theorem digsB_false {l : Bs} : digsB l = false ↔ ¬ (0 < l.length ∧ (l.length ≤ 1 ∨ l[0]? ≠ some 48) ∧ ∀ c ∈ l, dig c) := by
 rw [← digsB_iff]; simp
theorem decB_iff {l : Bs} : decB l = true ↔ digsB (numBody l) = true ∧ l ≠ [45, 48] := by simp [decB]
theorem decB_false {l : Bs} : decB l = false ↔ ¬ (digsB (numBody l) = true ∧ l ≠ [45, 48]) := by
 rw [← decB_iff]; simp
theorem parseU : ∀ (l : Bs) (a : Nat), (∀ c ∈ l, dig c) → Lib.parseUint10 a l = if valF a l < 18446744073709551616 ∨ l = [] then .ok (valF a l) else .range
 | [], a, _ => by simp [Lib.parseUint10, valF]
 | c :: l, a, h => by
  have hd : dig c := h c (by simp)
  have ih := parseU l (a * 10 + (c.toNat - 48)) fun x hx => h x (by simp [hx])
  have hg := valF_ge l (a * 10 + (c.toNat - 48))
  rw [dig_iff] at hd
  rw [Lib.parseUint10, if_pos hd, valF_cons]
  by_cases h1 : 1844674407370955162 ≤ a
  ·rw [if_pos h1, if_neg]
   simp only [reduceCtorEq, or_false]; omega
  ·rw [if_neg h1]
   by_cases h2 : 18446744073709551616 ≤ a * 10 + (c.toNat - 48)
   ·rw [if_pos h2, if_neg]
    simp only [reduceCtorEq, or_false]; omega
   ·rw [if_neg h2, ih]
    cases l with
    | nil => simp [valF]; omega
    | cons x l => simp
theorem atoi_dec {l : Bs} (h : decB l = true) : Lib.atoiAll l = if InI64 (valI l) then .ok (valI l) else .range := by
 rw [decB_iff] at h
 obtain ⟨hd, -⟩ := h
 rw [digsB_iff] at hd
 obtain ⟨h1, h2, h3⟩ := hd
 cases l with
 | nil => simp [numBody, negB] at h1
 | cons c r =>
  have key : Lib.parseMag (numBody (c :: r)) = if valD (numBody (c :: r)) < 18446744073709551616 then .ok (valD (numBody (c :: r))) else .range := by
   have hne : numBody (c :: r) ≠ [] := fun e => by rw [e] at h1; simp at h1
   rw [Lib.parseMag, if_neg hne, parseU _ _ h3]
   simp only [hne, or_false]; rfl
  by_cases hc : c = 45
  ·have hn : negB (c :: r) = true := by simp [negB, hc]
   have hb : numBody (c :: r) = r := by simp [numBody, hn]
   have hc2 : c.toNat = 45 := by rw [hc]; rfl
   rw [hb] at key
   rw [Lib.atoiAll, if_pos (.inr hc2), key, valI, if_pos hn, hb]
   by_cases hv : valD r < 18446744073709551616
   ·simp only [if_pos hv, hc2, not_true_eq_false, false_and, if_false, true_and, if_true]
    by_cases h9 : 9223372036854775808 < valD r
    ·rw [if_pos h9, if_neg (by unfold InI64; omega)]
    ·rw [if_neg h9, if_pos (by unfold InI64; omega)]
   ·simp only [if_neg hv]
    rw [if_neg (by unfold InI64; omega)]
  ·have hn : negB (c :: r) = false := by simp [negB, hc]
   have hb : numBody (c :: r) = c :: r := by simp [numBody, hn]
   have hd : dig c := h3 c (by rw [hb]; simp)
   have hc2 : ¬ (c.toNat = 43 ∨ c.toNat = 45) := by rw [dig_iff] at hd; omega
   have hc3 : ¬ c.toNat = 45 := by omega
   rw [hb] at key
   rw [Lib.atoiAll, if_neg hc2, key, valI, hn, hb]
   by_cases hv : valD (c :: r) < 18446744073709551616
   ·simp only [if_pos hv, hc3, not_false_eq_true, true_and, false_and, if_false, Bool.false_eq_true]
    by_cases h9 : 9223372036854775808 ≤ valD (c :: r)
    ·rw [if_pos h9, if_neg (by unfold InI64; omega)]
    ·rw [if_neg h9, if_pos (by unfold InI64; omega)]
   ·simp only [if_neg hv, Bool.false_eq_true, if_false]
    rw [if_neg (by unfold InI64; omega)]
theorem digit_nat {n : Nat} (h : n < 10) : (UInt8.ofNat (48 + n)).toNat = 48 + n := by rw [UInt8.toNat_ofNat']; omega
theorem dd_small {u : Nat} (h : u < 10) : Lib.decDigits u = [UInt8.ofNat (48 + u)] := by rw [Lib.decDigits, dif_pos h]
theorem dd_big {u : Nat} (h : ¬ u < 10) : Lib.decDigits u = Lib.decDigits (u / 10) ++ [UInt8.ofNat (48 + u % 10)] := by rw [Lib.decDigits, dif_neg h]
theorem dd_dig (u : Nat) : ∀ c ∈ Lib.decDigits u, dig c := by
 induction u using Nat.strongRecOn with
 | ind u ih =>
  intro c hc
  by_cases h : u < 10
  ·rw [dd_small h, List.mem_singleton] at hc
   subst hc; rw [dig_iff]; rw [digit_nat h]; omega
  ·rw [dd_big h] at hc
   rcases List.mem_append.1 hc with h1 | h1
   ·exact ih (u / 10) (by omega) c h1
   ·rw [List.mem_singleton] at h1
    subst h1; rw [dig_iff]; rw [digit_nat (Nat.mod_lt _ (by decide))]; omega
theorem dd_val (u : Nat) : valD (Lib.decDigits u) = u := by
 induction u using Nat.strongRecOn with
 | ind u ih =>
  by_cases h : u < 10
  ·rw [dd_small h]
   show 0 * 10 + ((UInt8.ofNat (48 + u)).toNat - 48) = u
   rw [digit_nat h]; omega
  ·rw [dd_big h, valD_snoc, ih (u / 10) (by omega), digit_nat (Nat.mod_lt _ (by decide))]; omega
theorem dd_pos (u : Nat) : 0 < (Lib.decDigits u).length := by rw [Lib.decDigits_length]; exact Lib.nDigits_pos u
theorem dd_head {u : Nat} (h : u ≠ 0) : (Lib.decDigits u)[0]? ≠ some 48 := by
 induction u using Nat.strongRecOn with
 | ind u ih =>
  by_cases h1 : u < 10
  ·rw [dd_small h1]
   simp only [List.getElem?_cons_zero, ne_eq, Option.some.injEq]
   intro e
   have := congrArg UInt8.toNat e
   rw [digit_nat h1] at this
   have e2 : (48 : UInt8).toNat = 48 := rfl
   omega
  ·rw [dd_big h1, List.getElem?_append_left (dd_pos _)]
   exact ih (u / 10) (by omega) (by omega)
theorem dd_digs (u : Nat) : digsB (Lib.decDigits u) = true := by
 rw [digsB_iff]
 refine ⟨dd_pos u, ?_, dd_dig u⟩
 by_cases h : u = 0
 ·left; subst h; rw [dd_small (by decide)]; simp
 ·exact .inr (dd_head h)
theorem dd_sign (u : Nat) : negB (Lib.decDigits u) = false := by
 unfold negB
 simp only [decide_eq_false_iff_not]
 intro e
 have hd := dd_dig u _ (List.mem_of_getElem? e)
 rw [dig_iff] at hd
 have e2 : (45 : UInt8).toNat = 45 := rfl
 omega
theorem itoa_neg' {n : Int} (h : n < 0) : Lib.itoa n = 45 :: Lib.decDigits n.natAbs := if_pos h
theorem itoa_pos' {n : Int} (h : ¬ n < 0) : Lib.itoa n = Lib.decDigits n.natAbs := by rw [Lib.itoa, if_neg h]; congr 1; omega
theorem itoa_body (n : Int) : numBody (Lib.itoa n) = Lib.decDigits n.natAbs := by
 by_cases h : n < 0
 ·rw [itoa_neg' h]; simp [numBody, negB]
 ·rw [itoa_pos' h]; simp [numBody, dd_sign]
theorem itoa_neg_iff (n : Int) : negB (Lib.itoa n) = decide (n < 0) := by
 by_cases h : n < 0
 ·rw [itoa_neg' h]; simp [negB, h]
 ·rw [itoa_pos' h, dd_sign]; simp [h]
theorem itoa_val (n : Int) : valI (Lib.itoa n) = n := by
 rw [valI, itoa_neg_iff, itoa_body, dd_val]
 by_cases h : n < 0
 ·simp only [h, decide_true, if_true]; omega
 ·simp only [h, decide_false, Bool.false_eq_true, if_false]; omega
theorem itoa_dec (n : Int) : decB (Lib.itoa n) = true := by
 rw [decB_iff, itoa_body]
 refine ⟨dd_digs _, fun e => ?_⟩
 have h := itoa_val n
 rw [e] at h
 have h0 : n = 0 := by rw [← h]; decide
 subst h0
 have : Lib.itoa 0 = [48] := by rw [itoa_pos' (by decide)]; exact dd_small (by decide)
 rw [this] at e
 cases e
theorem nd_le : ∀ (k u : Nat), 1 ≤ k → u < 10 ^ k → Lib.nDigits u ≤ k
 | 0, u, h, _ => by omega
 | k + 1, u, _, hu => by
  by_cases h1 : u < 10
  ·rw [Lib.nDigits_small h1]; omega
  ·rw [Lib.nDigits_big h1]
   have hk : 1 ≤ k := by
    rcases k with _ | k
    ·simp at hu; omega
    ·omega
   have := nd_le k (u / 10) hk (by rw [Nat.pow_succ] at hu; omega)
   omega
theorem dd_len {n : Int} (h : InI64 n) : (Lib.decDigits n.natAbs).length ≤ 19 := by
 rw [Lib.decDigits_length]
 have h19 : (10 : Nat) ^ 19 = 10000000000000000000 := by decide
 exact nd_le 19 _ (by decide) (by unfold InI64 at h; rw [h19]; omega)
theorem itoa_len {n : Int} (h : InI64 n) : (Lib.itoa n).length ≤ 20 := by
 have := dd_len h
 by_cases h1 : n < 0
 ·rw [itoa_neg' h1]; simp only [List.length_cons]; omega
 ·rw [itoa_pos' h1]; omega
theorem dd_uniq : ∀ (k : Nat) (l : Bs), l.length = k → digsB l = true → Lib.decDigits (valD l) = l
 | 0, l, hk, h => by rw [digsB_iff] at h; omega
 | k + 1, l, hk, h => by
  rw [digsB_iff] at h
  obtain ⟨h1, h2, h3⟩ := h
  obtain ⟨r, c, rfl⟩ : ∃ r c, l = r ++ [c] := ⟨l.dropLast, l.getLast (by intro e; subst e; simp at h1), (List.dropLast_concat_getLast _).symm⟩
  have hc : dig c := h3 c (by simp)
  have hc' := hc
  rw [dig_iff] at hc
  rw [valD_snoc]
  simp only [List.length_append, List.length_singleton] at hk
  by_cases hr : r = []
  ·subst hr
   rw [show valD [] = 0 from rfl, Nat.zero_mul, Nat.zero_add, dd_small (by omega)]
   simp only [List.nil_append, List.cons.injEq, and_true]
   apply UInt8.toNat_inj.1
   rw [digit_nat (by omega)]; omega
  ·have hl : 0 < r.length := List.length_pos_iff.2 hr
   have hh : r[0]? ≠ some 48 := by
    rw [List.getElem?_append_left hl] at h2
    simp only [List.length_append, List.length_singleton] at h2
    rcases h2 with h2 | h2
    ·omega
    ·exact h2
   have hdr : digsB r = true := by rw [digsB_iff]; exact ⟨hl, .inr hh, fun x hx => h3 x (by simp [hx])⟩
   have ih := dd_uniq k r (by omega) hdr
   have hv : valD r ≠ 0 := fun e => by
    rw [e, dd_small (by decide)] at ih
    rw [← ih] at hh
    exact hh rfl
   rw [dd_big (by omega), show (valD r * 10 + (c.toNat - 48)) / 10 = valD r from by omega, ih, show (valD r * 10 + (c.toNat - 48)) % 10 = c.toNat - 48 from by omega]
   congr 2
   apply UInt8.toNat_inj.1
   rw [digit_nat (by omega)]; omega
theorem itoa_uniq {l : Bs} (h : decB l = true) : Lib.itoa (valI l) = l := by
 rw [decB_iff] at h
 obtain ⟨hd, hz⟩ := h
 have hu := dd_uniq _ _ rfl hd
 by_cases hn : negB l = true
 ·have hb : numBody l = l.drop 1 := if_pos hn
  have hl : l = 45 :: l.drop 1 := by
   cases l with
   | nil => simp [negB] at hn
   | cons c r => simp [negB] at hn; simp [hn]
  rw [valI, if_pos hn]
  have h0 : valD (numBody l) ≠ 0 := fun e => by
   rw [e, dd_small (by decide)] at hu
   apply hz
   rw [hl, ← hb, ← hu]
   rfl
  rw [itoa_neg' (by omega), show (-(valD (numBody l) : Int)).natAbs = valD (numBody l) from by omega, hu, hb]
  exact hl.symm
 ·rw [valI, if_neg hn, itoa_pos' (by omega), show ((valD (numBody l) : Int)).natAbs = valD (numBody l) from by omega, hu, numBody, if_neg hn]
end Go.Proofs.YtfedemnaeggokaaGreatDoor
end
section
namespace Go.Proofs.YtfedemnaeggokaaGreatDoor
set_option linter.unusedVariables false
set_option linter.unusedSimpArgs false
structure Sp where
 f : Int
 t : Int
deriving DecidableEq
def encSp (x : Sp) : AV := .agg [intA x.f, intA x.t]
def digC (c : UInt8) : Bool := decide (48 ≤ c.toNat) && decide (c.toNat ≤ 57)
theorem digC_iff {c : UInt8} : digC c = true ↔ dig c := by simp [digC, dig_iff]
def dgs (s : Bs) (a : Nat) : Bs := (s.drop a).takeWhile digC
theorem tw_len {α : Type} (p : α → Bool) (l : List α) : (l.takeWhile p).length ≤ l.length := (List.takeWhile_sublist p).length_le
theorem tw_take {α : Type} (p : α → Bool) (l : List α) : l.take (l.takeWhile p).length = l.takeWhile p := by
 have h := List.takeWhile_append_dropWhile (p := p) (l := l)
 generalize l.takeWhile p = a at h ⊢
 rw [← h]; simp
theorem tw_more {α : Type} {p : α → Bool} : ∀ {l : List α} {k : Nat} {x : α}, k ≤ (l.takeWhile p).length → l[k]? = some x → p x = true → k + 1 ≤ (l.takeWhile p).length
 | [], k, x, _, h, _ => by simp at h
 | y :: l, 0, x, _, h, hp => by
  simp at h; subst h
  rw [List.takeWhile_cons, if_pos hp]; simp
 | y :: l, k + 1, x, hk, h, hp => by
  rw [List.takeWhile_cons] at hk ⊢
  split at hk
  ·rename_i hy
   simp at hk
   rw [if_pos hy]
   have := tw_more (k := k) (x := x) (l := l) hk (by simpa using h) hp
   simp only [List.length_cons]; omega
  ·simp at hk
theorem tw_stop {α : Type} {p : α → Bool} : ∀ {l : List α} {k : Nat}, k ≤ (l.takeWhile p).length → (∀ x, l[k]? = some x → p x = false) → k = (l.takeWhile p).length
 | [], k, h, _ => by simpa using h
 | y :: l, 0, _, hs => by
  rw [List.takeWhile_cons, if_neg (by rw [hs y rfl]; decide)]; rfl
 | y :: l, k + 1, hk, hs => by
  rw [List.takeWhile_cons] at hk ⊢
  split at hk
  ·rename_i hy
   simp only [List.length_cons] at hk ⊢
   rw [if_pos hy, List.length_cons, ← tw_stop (k := k) (l := l) (by omega) (fun x hx => hs x (by simpa using hx))]
  ·simp at hk
theorem dgs_le (s : Bs) (a : Nat) (h : a ≤ s.length) : a + (dgs s a).length ≤ s.length := by
 have := tw_len digC (s.drop a)
 rw [List.length_drop] at this
 unfold dgs; omega
theorem dgs_more {s : Bs} {a k : Nat} {c : UInt8} (h : s[a + k]? = some c) (hk : k ≤ (dgs s a).length) (h1 : ¬ (c.toNat : Int) < 48) (h2 : ¬ 57 < (c.toNat : Int)) : k + 1 ≤ (dgs s a).length :=
 tw_more hk (by rw [List.getElem?_drop]; exact h) (by rw [digC_iff, dig_iff]; omega)
theorem dgs_end {s : Bs} {a k : Nat} (h : s.length ≤ a + k) (hk : k ≤ (dgs s a).length) : k = (dgs s a).length :=
 tw_stop hk fun x hx => by rw [List.getElem?_drop, List.getElem?_eq_none (by omega)] at hx; cases hx
theorem dgs_stop {s : Bs} {a k : Nat} {c : UInt8} (h : s[a + k]? = some c) (hk : k ≤ (dgs s a).length) (h1 : (c.toNat : Int) < 48 ∨ 57 < (c.toNat : Int)) : k = (dgs s a).length :=
 tw_stop hk fun x hx => by
  rw [List.getElem?_drop, h] at hx
  obtain rfl := Option.some.inj hx
  cases hb : digC c
  ·rfl
  ·rw [digC_iff, dig_iff] at hb; omega
theorem dgs_cut (s : Bs) (a : Nat) : (s.take (a + (dgs s a).length)).drop a = dgs s a := by
 rw [List.drop_take, Nat.add_sub_cancel_left]; exact tw_take _ _
theorem dgs_dig (s : Bs) (a : Nat) : ∀ c ∈ dgs s a, dig c := fun c hc => by
 have : ∀ (l : Bs), ∀ c ∈ l.takeWhile digC, digC c = true := by
  intro l
  induction l with
  | nil => intro c hc; simp at hc
  | cons x l ih =>
   intro c hc
   rw [List.takeWhile_cons] at hc
   split at hc
   ·rename_i hx
    rcases List.mem_cons.1 hc with q | q
    ·subst q; exact hx
    ·exact ih c q
   ·simp at hc
 exact digC_iff.1 (this _ c hc)
theorem numV_i64 (s : Bs) : InI64 (numV s) := by
 unfold numV
 split
 ·rename_i h; exact h.2
 ·unfold InI64; omega
def nmE (low : Int) (d : Bs) : Int := if numE d ≠ 0 then numE d else if numV d < low then 2 else 0
def nmB (low : Int) (d : Bs) (a : Nat) : Int := if nmE low d = 0 then 0 else a
theorem nmE_e {low : Int} {d : Bs} (h : ¬ numE d = 0) : nmE low d = numE d := if_pos h
theorem nmE_r {low : Int} {d : Bs} (h : numE d = 0) (h2 : numV d < low) : nmE low d = 2 := by rw [nmE, if_neg (by simp [h]), if_pos h2]
theorem nmE_o {low : Int} {d : Bs} (h : numE d = 0) (h2 : ¬ numV d < low) : nmE low d = 0 := by rw [nmE, if_neg (by simp [h]), if_neg h2]
theorem nmB_n {low : Int} {d : Bs} {a : Nat} (h : ¬ nmE low d = 0) : nmB low d a = a := if_neg h
theorem nmB_y {low : Int} {d : Bs} {a : Nat} (h : nmE low d = 0) : nmB low d a = 0 := if_pos h
theorem num_nil : numE [] = 1 ∧ numV [] = 0 := by decide
theorem nmE_nil (low : Int) : nmE low [] = 1 := by
 have h : ¬ numE [] = 0 := by decide
 rw [nmE_e h]; decide
theorem nmB_nil (low : Int) (a : Nat) : nmB low [] a = a := by
 have h : ¬ nmE low [] = 0 := by rw [nmE_nil]; decide
 rw [nmB_n h]
structure El where
 sp : Sp
 a : Nat
 e : Int
 b : Int
def el (s : Bs) (a : Nat) : El :=
 if s[a]? = some 45 then ⟨⟨1, numV (dgs s (a + 1))⟩, a + 1 + (dgs s (a + 1)).length, nmE 1 (dgs s (a + 1)), nmB 1 (dgs s (a + 1)) (a + 1)⟩
 else if nmE 1 (dgs s a) ≠ 0 then ⟨⟨numV (dgs s a), numV (dgs s a)⟩, a + (dgs s a).length, nmE 1 (dgs s a), a⟩
 else if s[a + (dgs s a).length]? ≠ some 45 then ⟨⟨numV (dgs s a), numV (dgs s a)⟩, a + (dgs s a).length, 0, 0⟩
 else if dgs s (a + (dgs s a).length + 1) = [] then ⟨⟨numV (dgs s a), 0⟩, a + (dgs s a).length + 1, 0, 0⟩
 else ⟨⟨numV (dgs s a), numV (dgs s (a + (dgs s a).length + 1))⟩, a + (dgs s a).length + 1 + (dgs s (a + (dgs s a).length + 1)).length, nmE (if numV (dgs s a) > 1 then numV (dgs s a) else 1) (dgs s (a + (dgs s a).length + 1)), nmB (if numV (dgs s a) > 1 then numV (dgs s a) else 1) (dgs s (a + (dgs s a).length + 1)) (a + (dgs s a).length + 1)⟩
theorem el_minus {s : Bs} {a : Nat} (h : s[a]? = some 45) : el s a = ⟨⟨1, numV (dgs s (a + 1))⟩, a + 1 + (dgs s (a + 1)).length, nmE 1 (dgs s (a + 1)), nmB 1 (dgs s (a + 1)) (a + 1)⟩ := if_pos h
section
variable {s : Bs} {a : Nat} (h0 : ¬ s[a]? = some 45)
include h0
theorem el_bad (h1 : ¬ nmE 1 (dgs s a) = 0) : el s a = ⟨⟨numV (dgs s a), numV (dgs s a)⟩, a + (dgs s a).length, nmE 1 (dgs s a), a⟩ := by rw [el, if_neg h0, if_pos h1]
theorem el_one (h1 : nmE 1 (dgs s a) = 0) (h2 : ¬ s[a + (dgs s a).length]? = some 45) : el s a = ⟨⟨numV (dgs s a), numV (dgs s a)⟩, a + (dgs s a).length, 0, 0⟩ := by rw [el, if_neg h0, if_neg (by simp [h1]), if_pos h2]
theorem el_open (h1 : nmE 1 (dgs s a) = 0) (h2 : s[a + (dgs s a).length]? = some 45) (h3 : dgs s (a + (dgs s a).length + 1) = []) : el s a = ⟨⟨numV (dgs s a), 0⟩, a + (dgs s a).length + 1, 0, 0⟩ := by rw [el, if_neg h0, if_neg (by simp [h1]), if_neg (by simp [h2]), if_pos h3]
theorem el_two (h1 : nmE 1 (dgs s a) = 0) (h2 : s[a + (dgs s a).length]? = some 45) (h3 : ¬ dgs s (a + (dgs s a).length + 1) = []) : el s a = ⟨⟨numV (dgs s a), numV (dgs s (a + (dgs s a).length + 1))⟩, a + (dgs s a).length + 1 + (dgs s (a + (dgs s a).length + 1)).length, nmE (if numV (dgs s a) > 1 then numV (dgs s a) else 1) (dgs s (a + (dgs s a).length + 1)), nmB (if numV (dgs s a) > 1 then numV (dgs s a) else 1) (dgs s (a + (dgs s a).length + 1)) (a + (dgs s a).length + 1)⟩ := by rw [el, if_neg h0, if_neg (by simp [h1]), if_neg (by simp [h2]), if_neg h3]
end
theorem el_ge (s : Bs) (a : Nat) : a ≤ (el s a).a := by
 unfold el
 (repeat' split) <;> (dsimp only; omega)
theorem el_le (s : Bs) (a : Nat) (h : a ≤ s.length) : (el s a).a ≤ s.length := by
 have h45 : ∀ k, s[k]? = some 45 → k + 1 ≤ s.length := fun k hk => (List.getElem?_eq_some_iff.1 hk).1
 unfold el
 split
 ·rename_i q; exact dgs_le s (a + 1) (h45 _ q)
 ·split
  ·exact dgs_le s a h
  ·split
   ·exact dgs_le s a h
   ·rename_i q
    have q' := h45 _ (Classical.byContradiction fun z => q z)
    split
    ·exact q'
    ·exact dgs_le s _ q'
theorem numE_num (s : Bs) : numE s = 0 ∨ numE s = 1 ∨ numE s = 9 := by unfold numE; (repeat' split) <;> simp
def DigJ (s : Bs) (p : Nat) (v : Bool) : Prop := (∃ c4 c7 : UInt8, (p : Int) < (s.length : Int) ∧ s[p]? = some c4 ∧ 48 ≤ (c4.toNat : Int) ∧ s[p]? = some c7 ∧ v = decide ((c7.toNat : Int) ≤ 57)) ∨ (∃ c4 : UInt8, (p : Int) < (s.length : Int) ∧ s[p]? = some c4 ∧ ¬ 48 ≤ (c4.toNat : Int) ∧ v = false) ∨ ¬ (p : Int) < (s.length : Int) ∧ v = false
theorem digJ_y {s : Bs} {a k : Nat} {v : Bool} (h : DigJ s (a + k) v) (hv : v = true) (hk : k ≤ (dgs s a).length) : k + 1 ≤ (dgs s a).length ∧ a + k < s.length := by
 subst hv
 rcases h with ⟨c, d, h1, h2, h3, h4, h5⟩ | ⟨c, -, -, -, h⟩ | ⟨-, h⟩
 ·have e := same_at h2 h4
  subst e
  have := of_decide_eq_true h5.symm
  exact ⟨dgs_more h2 hk (by omega) (by omega), by omega⟩
 ·cases h
 ·cases h
theorem digJ_n {s : Bs} {a k : Nat} {v : Bool} (h : DigJ s (a + k) v) (hv : v = false) (hk : k ≤ (dgs s a).length) : k = (dgs s a).length := by
 subst hv
 rcases h with ⟨c, d, h1, h2, h3, h4, h5⟩ | ⟨c, h1, h2, h3, h⟩ | ⟨h, -⟩
 ·have := of_decide_eq_false h5.symm
  exact dgs_stop h4 hk (by omega)
 ·exact dgs_stop h2 hk (by omega)
 ·exact dgs_end (by omega) hk
theorem digJ_0 {s : Bs} {a : Nat} {v : Bool} (h : DigJ s a v) : v = true ↔ dgs s a ≠ [] := by
 cases v
 ·have := digJ_n (k := 0) h rfl (Nat.zero_le _)
  constructor
  ·intro q; cases q
  ·intro q; exact absurd (List.length_eq_zero_iff.1 this.symm) q
 ·have := digJ_y (k := 0) h rfl (Nat.zero_le _)
  constructor
  ·intro _ q; rw [q] at this; simp at this
  ·intro _; rfl
theorem nmJ {low n e v1 b1 v2 b2 : Int} {d : Bs} {a : Nat} (hn : n = numV d) (he : e = numE d) (h : ¬ e = 0 ∧ v1 = e ∧ b1 = a ∨ e = 0 ∧ v1 = 0 ∧ b1 = 0)
    (h' : (∃ w : Int × Int, n < low ∧ (v1 = 0 ∧ w.1 = 2 ∧ w.2 = a ∨ ¬ v1 = 0 ∧ w.1 = v1 ∧ w.2 = b1) ∧ v2 = w.1 ∧ b2 = w.2) ∨ ¬ n < low ∧ v2 = v1 ∧ b2 = b1) : v2 = nmE low d ∧ b2 = nmB low d a := by
  subst hn he
  rcases h with ⟨h1, rfl, rfl⟩ | ⟨h1, rfl, rfl⟩
  · have : v2 = numE d ∧ b2 = a := by
      rcases h' with ⟨w, -, q | q, q1, q2⟩ | ⟨-, q1, q2⟩
      · exact absurd q.1 h1
      · exact ⟨q1.trans q.2.1, q2.trans q.2.2⟩
      · exact ⟨q1, q2⟩
    rw [this.1, this.2, nmB_n (by rw [nmE_e h1]; exact h1), nmE_e h1]
    exact ⟨rfl, rfl⟩
  · rcases h' with ⟨w, h2, q | q, q1, q2⟩ | ⟨h2, q1, q2⟩
    · rw [q1, q2, q.2.1, q.2.2, nmB_n (by rw [nmE_r h1 h2]; decide), nmE_r h1 h2]; exact ⟨rfl, rfl⟩
    · exact absurd rfl q.1
    · rw [q1, q2, nmB_y (nmE_o h1 h2), nmE_o h1 h2]; exact ⟨rfl, rfl⟩
theorem numV_dgs (s : Bs) (a : Nat) : 0 ≤ numV (dgs s a) := by
 have hd := dgs_dig s a
 generalize dgs s a = d at hd
 unfold numV
 split
 ·have : negB d = false := by
   unfold negB
   refine decide_eq_false fun q => ?_
   have := hd 45 (List.mem_of_getElem? q)
   rw [dig_iff] at this
   revert this; decide
  rw [valI, if_neg (by rw [this]; decide)]
  omega
 ·omega
theorem num_zero {s : Bs} (h : ¬ numE s = 0) : numV s = 0 := by
 unfold numE at h; unfold numV
 split at h
 ·split at h
  ·exact absurd rfl h
  ·rename_i h1 h2; exact if_neg fun q => h2 q.2
 ·rename_i h1; exact if_neg fun q => h1 q.1
theorem is45 {s : Bs} {a : Nat} {c : UInt8} (h : s[a]? = some c) (hc : (c.toNat : Int) = 45) : s[a]? = some 45 := by
 rw [h, u8_of (n := 45) hc (by decide)]; rfl
theorem not45 {s : Bs} {a : Nat} (h : (∃ c : UInt8, (a : Int) < (s.length : Int) ∧ s[a]? = some c ∧ ¬ (c.toNat : Int) = 45) ∨ ¬ (a : Int) < (s.length : Int)) : ¬ s[a]? = some 45 := by
 rcases h with ⟨c, -, h1, h2⟩ | h
 ·intro q
  rw [h1] at q
  obtain rfl := Option.some.inj q
  exact h2 rfl
 ·intro q
  have := (List.getElem?_eq_some_iff.1 q).1
  omega
def nm2A (d : Bs) (a : Nat) : Nat := if nmE 1 d = 0 then a + d.length else a
theorem nm2J {s : Bs} {a : Nat} {v : Int} (h : (∃ (k : Nat) (c4 c7 : UInt8), k ≤ (dgs s a).length ∧ ((a + k : Nat) : Int) < (s.length : Int) ∧ s[a + k]? = some c4 ∧ 48 ≤ (c4.toNat : Int) ∧ s[a + k]? = some c7 ∧ ¬ (c7.toNat : Int) ≤ 57 ∧ v = (a + k : Nat)) ∨
    (∃ (k : Nat) (c4 : UInt8), k ≤ (dgs s a).length ∧ ((a + k : Nat) : Int) < (s.length : Int) ∧ s[a + k]? = some c4 ∧ ¬ 48 ≤ (c4.toNat : Int) ∧ v = (a + k : Nat)) ∨ ∃ k : Nat, k ≤ (dgs s a).length ∧ ¬ ((a + k : Nat) : Int) < (s.length : Int) ∧ v = (a + k : Nat)) : v = (a + (dgs s a).length : Nat) := by
  rcases h with ⟨k, c, d, hk, h1, h2, h3, h4, h5, rfl⟩ | ⟨k, c, hk, h1, h2, h3, rfl⟩ | ⟨k, hk, h1, rfl⟩
  · rw [← dgs_stop h4 hk (by omega)]
  · rw [← dgs_stop h2 hk (by omega)]
  · rw [← dgs_end (by omega) hk]
end Go.Proofs.YtfedemnaeggokaaGreatDoor
end
section
namespace Go.Proofs.YtfedemnaeggokaaGreatDoor
set_option linter.unusedVariables false
set_option linter.unusedSimpArgs false
set_option maxRecDepth 100000
theorem body_le (s : Bs) : (numBody s).length ≤ s.length := by
 unfold numBody; split
 ·simp
 ·exact Nat.le_refl _
theorem body_lt (s : Bs) : (numBody s).length < s.length ↔ negB s = true := by
 unfold numBody
 by_cases h : negB s = true
 ·rw [if_pos h]
  cases s with
  | nil => simp [negB] at h
  | cons c r => simp [h]
 ·rw [if_neg h]; simp [h]
theorem body_y {s : Bs} {c : UInt8} (h : s[0]? = some c) (hc : (c.toNat : Int) = 45) : s.drop 1 = numBody s := by
 have : c = 45 := u8_of (n := 45) hc (by decide)
 subst this
 rw [numBody, if_pos (by simp [negB, h])]
theorem body_n {s : Bs} {c : UInt8} (h : s[0]? = some c) (hc : ¬ (c.toNat : Int) = 45) : s = numBody s := by
 have : c ≠ 45 := fun e => by subst e; exact hc rfl
 rw [numBody, if_neg (by simp [negB, h, this])]
theorem body_nil : numBody [] = [] := rfl
theorem dig_of {c : UInt8} (h : ¬ (c.toNat : Int) < 48) (h2 : ¬ 57 < (c.toNat : Int)) : dig c := ⟨by omega, by omega⟩
theorem digs_bad {s : Bs} {k : Nat} {c : UInt8} (h : s[k]? = some c) (hc : (c.toNat : Int) < 48 ∨ 57 < (c.toNat : Int)) : false = digsB s := by
 symm; rw [digsB_false]
 rintro ⟨-, -, q⟩
 have := q c (List.mem_of_getElem? h)
 rw [dig_iff] at this; omega
theorem digs_zero {s : Bs} {c : UInt8} (h : s[0]? = some c) (hc : (c.toNat : Int) = 48) (hl : 1 < s.length) : false = digsB s := by
 symm; rw [digsB_false]
 rintro ⟨-, q, -⟩
 have : c = 48 := u8_of (n := 48) hc (by decide)
 subst this
 rcases q with q | q
 ·omega
 ·exact q h
theorem digs_ok {s : Bs} {k : Nat} (h0 : 0 < s.length) (hz : s.length ≤ 1 ∨ ∀ c, s[0]? = some c → ¬ (c.toNat : Int) = 48) (hk : s.length ≤ k) (h : ∀ c ∈ s.take k, dig c) : true = digsB s := by
 symm; rw [digsB_iff]
 rw [List.take_of_length_le hk] at h
 refine ⟨h0, ?_, h⟩
 rcases hz with hz | hz
 ·exact .inl hz
 ·exact .inr fun e => hz _ e rfl
theorem pos_of {s : Bs} (h : ¬ s = []) : 0 < s.length := List.length_pos_iff.2 h
theorem join_body {s v : Bs} (h : (∃ (c : UInt8) (v4 : Bs), ¬ s = [] ∧ s[0]? = some c ∧ ((c.toNat : Int) = 45 ∧ v4 = (s.take s.length).drop 1 ∨ ¬ (c.toNat : Int) = 45 ∧ v4 = s) ∧ v = v4) ∨ s = [] ∧ v = s) : v = numBody s := by
 rcases h with ⟨c, v4, h1, h2, h3, rfl⟩ | ⟨rfl, rfl⟩
 ·rcases h3 with ⟨h3, rfl⟩ | ⟨h3, rfl⟩
  ·rw [List.take_length]; exact body_y h2 h3
  ·exact body_n h2 h3
 ·rfl
theorem num_step {s : Bs} {k : Nat} {c : UInt8} (hd : digsB (numBody s) = true) (hc : (numBody s)[k]? = some c) : valD ((numBody s).take (k + 1)) = valD ((numBody s).take k) * 10 + (c.toNat - 48) ∧ dig c ∧ valD ((numBody s).take (k + 1)) ≤ valD (numBody s) := by
 refine ⟨by rw [take_succ_get hc, valD_snoc], ?_, valD_take _ _⟩
 rw [digsB_iff] at hd
 exact hd.2.2 c (List.mem_of_getElem? hc)
theorem num_over' {s : Bs} (hd : digsB (numBody s) = true) (hz : ¬ s = [45, 48]) (h : 9223372036854775808 < valD (numBody s)) : 0 = numV s ∧ 9 = numE s := by
 have := num_over (decB_iff.2 ⟨hd, hz⟩) (by unfold InI64 valI; split <;> omega)
 exact ⟨this.1.symm, this.2.symm⟩
theorem num_bad' {s : Bs} (h : ¬ (digsB (numBody s) = true ∧ s ≠ [45, 48])) : 0 = numV s ∧ 1 = numE s := by
 have := num_bad (decB_false.2 h)
 exact ⟨this.1.symm, this.2.symm⟩
theorem num_ok' {s : Bs} (hd : digsB (numBody s) = true) (hz : ¬ s = [45, 48]) {v : Int} (h : v = valI s) (hi : InI64 v) : v = numV s ∧ 0 = numE s := by
 have := num_ok (decB_iff.2 ⟨hd, hz⟩) (h ▸ hi)
 exact ⟨h.trans this.1.symm, this.2.symm⟩
theorem valI_y {s : Bs} (h : (numBody s).length < s.length) : valI s = -(valD (numBody s) : Int) := by rw [valI, if_pos ((body_lt s).1 h)]
theorem valI_n {s : Bs} (h : ¬ (numBody s).length < s.length) : valI s = valD (numBody s) := by rw [valI, if_neg (fun q => h ((body_lt s).2 q))]
theorem lt_of_at {s : Bs} {k : Nat} {c : UInt8} (h : s[k]? = some c) : k < s.length := (get_of h).1
theorem fmt_step {n m : Int} {s : Bs} (hm : ¬ m = 0) (hd : m = 0 ∧ s = Lib.decDigits n.natAbs ∨ m ≠ 0 ∧ (m < 0 ↔ n < 0) ∧ Lib.decDigits n.natAbs = Lib.decDigits m.natAbs ++ s) {c : UInt8} (hc : c.toNat = 48 + m.natAbs % 10) :
    m.tdiv 10 = 0 ∧ c :: s = Lib.decDigits n.natAbs ∨ m.tdiv 10 ≠ 0 ∧ (m.tdiv 10 < 0 ↔ n < 0) ∧ Lib.decDigits n.natAbs = Lib.decDigits (m.tdiv 10).natAbs ++ c :: s := by
  rcases hd with ⟨h, -⟩ | ⟨-, h1, h2⟩
  · exact absurd h hm
  have hq := tdiv_lit m 10 (by decide)
  have hcc : c = UInt8.ofNat (48 + m.natAbs % 10) := by
    apply UInt8.toNat_inj.1; rw [digit_nat (Nat.mod_lt _ (by decide))]; exact hc
  by_cases h10 : m.natAbs < 10
  · left
    refine ⟨by omega, ?_⟩
    rw [h2, dd_small h10, hcc, Nat.mod_eq_of_lt h10]; rfl
  · right
    refine ⟨by omega, by omega, ?_⟩
    rw [h2, dd_big h10, hcc, show (m.tdiv 10).natAbs = m.natAbs / 10 from by omega, List.append_assoc]; rfl
theorem fmt_len {n m : Int} {l : Bs} (hn : InI64 n) (h : m = 0 ∧ l = Lib.decDigits n.natAbs ∨ m ≠ 0 ∧ (m < 0 ↔ n < 0) ∧ Lib.decDigits n.natAbs = Lib.decDigits m.natAbs ++ l) : l.length ≤ 20 := by
 have hl := dd_len hn
 rcases h with ⟨-, rfl⟩ | ⟨-, -, h⟩
 ·omega
 ·rw [h, List.length_append] at hl; omega
theorem fmt_neg {m : Int} (h : m.tmod 10 < 0) : (toU8 (48 + (0 - m.tmod 10))).toNat = 48 + m.natAbs % 10 := by
 have h1 := toU8_mod (48 + (0 - m.tmod 10))
 have h2 := tdiv_lit m 10 (by decide)
 omega
theorem fmt_pos {m : Int} (h : ¬ m.tmod 10 < 0) : (toU8 (48 + m.tmod 10)).toNat = 48 + m.natAbs % 10 := by
 have h1 := toU8_mod (48 + m.tmod 10)
 have h2 := tdiv_lit m 10 (by decide)
 omega
section
variable {X : CallF}
theorem digits_run (s : Bs) (hs : s.length ≤ maxLen) : (R FT X).f 89 [strL s] = some (boolA (digsB s)) := by
 have hm := maxLen_i64
 refine R_wp (((Tr.b true Tr.nil).w.br ((Tr.y 0 fun (c4 : UInt8) ↦ (Tr.nil.br (Tr.inv (fun (k : Nat) ↦ St.mk [(0, strL s), (3, intA (↑k : Int))] []) (fun (k : Nat) ↦ k ≤ List.length s ∧ ∀ (c : UInt8), c ∈ List.take k s → dig c) (fun (k : Nat) ↦ List.length s - k) fun (k : Nat) ↦ ((Tr.y k fun (c13 : UInt8) ↦ (Tr.b true Tr.nil).w.br (Tr.y k fun (c17 : UInt8) ↦ (Tr.nil.br Tr.nil.w).w)).w.w.br Tr.nil).w).w).w).br (Tr.b false (Tr.inv (fun (k : Nat) ↦ St.mk [(0, strL s), (3, intA (↑k : Int))] []) (fun (k : Nat) ↦ k ≤ List.length s ∧ ∀ (c : UInt8), c ∈ List.take k s → dig c) (fun (k : Nat) ↦ List.length s - k) fun (k : Nat) ↦ ((Tr.y k fun (c31 : UInt8) ↦ (Tr.b true Tr.nil).w.br (Tr.y k fun (c35 : UInt8) ↦ (Tr.nil.br Tr.nil.w).w)).w.w.br Tr.nil).w).w).w)).w) rfl ?_
 refine Eq.mpr (by kernel_rfl : _ = ((decide (s = []) = true → true = true ∧ false = digsB s) ∧ (decide (s = []) = false → (decide ((1 : Int) < (↑(List.length s) : Int)) = true → (0 : Int) = 0 ∧ (0 : Nat) < List.length s ∧ ∀ (c4 : UInt8), s[(0 : Nat)]? = some c4 → (decide ((↑c4.toNat : Int) = 48) = true → false = digsB s) ∧ (decide ((↑c4.toNat : Int) = 48) = false → (∃ (j8 : Nat), ((s = s ∧ (0 : Int) = (↑j8 : Int) ∧ True) ∧ True) ∧ j8 ≤ List.length s ∧ ∀ (c9 : UInt8), c9 ∈ List.take j8 s → dig c9) ∧ ∀ (k : Nat), (k ≤ List.length s ∧ ∀ (c : UInt8), c ∈ List.take k s → dig c) → (decide ((↑k : Int) < (↑(List.length s) : Int)) = true → (↑k : Int) = (↑k : Int) ∧ k < List.length s ∧ ∀ (c13 : UInt8), s[k]? = some c13 → (decide ((↑c13.toNat : Int) < 48) = true → true = true ∧ false = digsB s) ∧ (decide ((↑c13.toNat : Int) < 48) = false → (↑k : Int) = (↑k : Int) ∧ k < List.length s ∧ ∀ (c17 : UInt8), s[k]? = some c17 → (decide ((57 : Int) < (↑c17.toNat : Int)) = true → false = digsB s) ∧ (decide ((57 : Int) < (↑c17.toNat : Int)) = false → InI64 ((↑k : Int) + 1) ∧ ∃ (j21 : Nat), ((s = s ∧ (↑k : Int) + 1 = (↑j21 : Int) ∧ True) ∧ True) ∧ (j21 ≤ List.length s ∧ ∀ (c22 : UInt8),
 c22 ∈ List.take j21 s → dig c22) ∧ List.length s - j21 < List.length s - k))) ∧ (decide ((↑k : Int) < (↑(List.length s) : Int)) = false → true = digsB s))) ∧ (decide ((1 : Int) < (↑(List.length s) : Int)) = false → false = false ∧ (∃ (j26 : Nat), ((s = s ∧ (0 : Int) = (↑j26 : Int) ∧ True) ∧ True) ∧ j26 ≤ List.length s ∧ ∀ (c27 : UInt8), c27 ∈ List.take j26 s → dig c27) ∧ ∀ (k : Nat), (k ≤ List.length s ∧ ∀ (c : UInt8), c ∈ List.take k s → dig c) → (decide ((↑k : Int) < (↑(List.length s) : Int)) = true → (↑k : Int) = (↑k : Int) ∧ k < List.length s ∧ ∀ (c31 : UInt8), s[k]? = some c31 → (decide ((↑c31.toNat : Int) < 48) = true → true = true ∧ false = digsB s) ∧ (decide ((↑c31.toNat : Int) < 48) = false → (↑k : Int) = (↑k : Int) ∧ k < List.length s ∧ ∀ (c35 : UInt8), s[k]? = some c35 → (decide ((57 : Int) < (↑c35.toNat : Int)) = true → false = digsB s) ∧ (decide ((57 : Int) < (↑c35.toNat : Int)) = false → InI64 ((↑k : Int) + 1) ∧ ∃ (j39 : Nat), ((s = s ∧ (↑k : Int) + 1 = (↑j39 : Int) ∧ True) ∧ True) ∧ (j39 ≤ List.length s ∧ ∀ (c40 : UInt8), c40 ∈ List.take j39 s → dig c40) ∧ List.length s - j39 < List.length s - k))) ∧ (decide ((↑k : Int) < (↑(List.length
 s) : Int)) = false → true = digsB s))))) ?_
 refine ⟨fun h1_ => have h1 := dT h1_; ⟨rfl, ?_⟩, fun h2_ => have h2 := dF h2_; ⟨fun h3_ => have h3 := dT h3_; ⟨rfl, (by omega), fun c4 => fun h5 => ⟨fun h6_ => have h6 := dT h6_; ?_, fun h7_ => have h7 := dF h7_; ⟨⟨(0 : Nat), ⟨⟨rfl, (by omega), trivial⟩, trivial⟩, ⟨(by omega), fun c9 => fun h10 => ?_⟩⟩, fun k => fun h11 => have h11a := h11.1; have h11b := h11.2; ⟨fun h12_ => have h12 := dT h12_; ⟨rfl, (by omega), fun c13 => fun h14 => ⟨fun h15_ => have h15 := dT h15_; ⟨rfl, ?_⟩, fun h16_ => have h16 := dF h16_; ⟨rfl, (by omega), fun c17 => fun h18 => ⟨fun h19_ => have h19 := dT h19_; ?_, fun h20_ => have h20 := dF h20_; ⟨(by unfold InI64; omega), ⟨k + (1 : Nat), ⟨⟨rfl, (by omega), trivial⟩, trivial⟩, ⟨⟨(by omega), fun c22 => fun h23 => ?_⟩, (by omega)⟩⟩⟩⟩⟩⟩⟩, fun h24_ => have h24 := dF h24_; ?_⟩⟩⟩⟩, fun h25_ => have h25 := dF h25_; ⟨rfl, ⟨(0 : Nat), ⟨⟨rfl, (by omega), trivial⟩, trivial⟩, ⟨(by omega), fun c27 => fun h28 => ?_⟩⟩, fun k => fun h29 => have h29a := h29.1; have h29b := h29.2; ⟨fun h30_ => have h30 := dT h30_; ⟨rfl, (by omega), fun c31 => fun h32 => ⟨fun h33_ => have h33 := dT h33_; ⟨rfl, ?_⟩, fun h34_ => have h34 := dF h34_; ⟨rfl, (by omega), fun c35 => fun h36 => ⟨fun h37_ => have h37 := dT h37_; ?_, fun h38_ => have h38 := dF h38_; ⟨(by unfold InI64; omega), ⟨k + (1 : Nat), ⟨⟨rfl, (by omega), trivial⟩, trivial⟩, ⟨⟨(by omega), fun c40 => fun h41 => ?_⟩, (by omega)⟩⟩⟩⟩⟩⟩⟩, fun h42_ => have h42 := dF h42_; ?_⟩⟩⟩⟩
 ·subst h1; rfl
 ·exact digs_zero h5 h6 (by omega)
 ·simp at h10
 ·exact digs_bad h14 (.inl h15)
 ·exact digs_bad h18 (.inr h19)
 ·exact all_of h18 h11b (dig_of (by rw [same_at h14 h18]; exact h16) h20) _ h23
 ·exact digs_ok (by omega) (.inr fun c hc => same_at h5 hc ▸ h7) (by omega) h11b
 ·simp at h28
 ·exact digs_bad h32 (.inl h33)
 ·exact digs_bad h36 (.inr h37)
 ·exact all_of h36 h29b (dig_of (by rw [same_at h32 h36]; exact h34) h38) _ h41
 ·exact digs_ok (pos_of h2) (.inl (by omega)) (by omega) h29b
theorem dec_digs {s : Bs} (h : false = digsB (numBody s)) : false = decB s := by rw [decB, ← h]; rfl
theorem decimal_run (s : Bs) (hs : s.length ≤ maxLen) : (R FT X).f 77 [strL s] = some (boolA (decB s)) := by
 have hm := maxLen_i64
 have hb := body_le s
 refine R_wp (Tr.cut (fun (v1 : Cut (1 : Nat) Bs) ↦ St.mk [(0, strL s), (3, strL v1)] []) (fun (v1 : Cut (1 : Nat) Bs) ↦ (∃ (c2 : UInt8), ∃ (v4 : Cut (2 : Nat) Bs), ¬s = [] ∧ s[(0 : Nat)]? = some c2 ∧ ((↑c2.toNat : Int) = 45 ∧ v4 = List.drop (1 : Nat) (List.take (List.length s) s) ∨ ¬(↑c2.toNat : Int) = 45 ∧ v4 = s) ∧ v1 = v4) ∨ s = [] ∧ v1 = s) ((Tr.y 0 fun (c2 : UInt8) ↦ Tr.cut (fun (v4 : Cut (2 : Nat) Bs) ↦ St.mk [(0, strL s), (3, strL v4)] []) (fun (v4 : Cut (2 : Nat) Bs) ↦ (↑c2.toNat : Int) = 45 ∧ v4 = List.drop (1 : Nat) (List.take (List.length s) s) ∨ ¬(↑c2.toNat : Int) = 45 ∧ v4 = s) ((Tr.sl (1 : Nat) (List.length s) Tr.nil).br Tr.nil) fun (v : Cut (2 : Nat) Bs) ↦ Tr.nil).br (Tr.b false Tr.nil).w) fun (v1 : Cut (1 : Nat) Bs) ↦ Tr.cut (fun (v15 : Cut (4 : Nat) Unit) ↦ St.mk [(3, AV.val (Value.string (ofL v1)))] []) (fun (v15 : Cut (4 : Nat) Unit) ↦ (∃ (c17 : UInt8), ¬v1 = [] ∧ v1[(0 : Nat)]? = some c17 ∧ (↑c17.toNat : Int) = 48 ∧ s = [(48 : UInt8)]) ∨ ∃ (c17 : UInt8), ¬v1 = [] ∧ v1[(0 : Nat)]? = some c17 ∧ ¬(↑c17.toNat : Int) = 48) ((Tr.b true Tr.nil).w.br (Tr.y 0 fun (c17 : UInt8) ↦ (Tr.nil.br
 Tr.nil).w.br (Tr.b false Tr.nil).w)) fun (v15 : Cut (4 : Nat) Unit) ↦ (Tr.inv (fun (k : Nat) ↦ St.mk [(3, strL (numBody s)), (27, intA (↑(List.length (numBody s)) : Int)), (28, intA (↑k : Int))] []) (fun (k : Nat) ↦ k ≤ List.length (numBody s) ∧ ∀ (c : UInt8), c ∈ List.take k (numBody s) → dig c) (fun (k : Nat) ↦ List.length (numBody s) - k) fun (k : Nat) ↦ (Tr.y k fun (c32 : UInt8) ↦ (Tr.b true Tr.nil).w.br (Tr.y k fun (c36 : UInt8) ↦ (Tr.nil.br Tr.nil.w).w)).w.w.br Tr.nil).w) rfl ?_
 refine Eq.mpr (by kernel_rfl : _ = ((((!decide (s = [])) = true → (0 : Int) = 0 ∧ (0 : Nat) < List.length s ∧ ∀ (c2 : UInt8), s[(0 : Nat)]? = some c2 → ((decide ((↑c2.toNat : Int) = 45) = true → (1 : Int) = 1 ∧ (↑(List.length s) : Int) = (↑(List.length s) : Int) ∧ (1 : Nat) ≤ List.length s ∧ List.length s ≤ List.length s ∧ ∃ (m2_5 : Cut (2 : Nat) Bs), ((s = s ∧ List.drop (1 : Nat) (List.take (List.length s) s) = m2_5 ∧ True) ∧ True) ∧ ((↑c2.toNat : Int) = 45 ∧ m2_5 = List.drop (1 : Nat) (List.take (List.length s) s) ∨ ¬(↑c2.toNat : Int) = 45 ∧ m2_5 = s)) ∧ (decide ((↑c2.toNat : Int) = 45) = false → ∃ (m2_7 : Cut (2 : Nat) Bs), ((s = s ∧ s = m2_7 ∧ True) ∧ True) ∧ ((↑c2.toNat : Int) = 45 ∧ m2_7 = List.drop (1 : Nat) (List.take (List.length s) s) ∨ ¬(↑c2.toNat : Int) = 45 ∧ m2_7 = s))) ∧ ∀ (v4 : Cut (2 : Nat) Bs), (↑c2.toNat : Int) = 45 ∧ v4 = List.drop (1 : Nat) (List.take (List.length s) s) ∨ ¬(↑c2.toNat : Int) = 45 ∧ v4 = s → ∃ (m1_10 : Cut (1 : Nat) Bs), ((s = s ∧ v4 = m1_10 ∧ True) ∧ True) ∧ ((∃ (c2 : UInt8), ∃ (v4 : Cut (2 : Nat) Bs), ¬s = [] ∧ s[(0 : Nat)]? = some c2 ∧ ((↑c2.toNat : Int) = 45 ∧ v4 = List.drop (1 : Nat) (List.take
 (List.length s) s) ∨ ¬(↑c2.toNat : Int) = 45 ∧ v4 = s) ∧ m1_10 = v4) ∨ s = [] ∧ m1_10 = s)) ∧ ((!decide (s = [])) = false → false = false ∧ ∃ (m1_12 : Cut (1 : Nat) Bs), ((s = s ∧ s = m1_12 ∧ True) ∧ True) ∧ ((∃ (c2 : UInt8), ∃ (v4 : Cut (2 : Nat) Bs), ¬s = [] ∧ s[(0 : Nat)]? = some c2 ∧ ((↑c2.toNat : Int) = 45 ∧ v4 = List.drop (1 : Nat) (List.take (List.length s) s) ∨ ¬(↑c2.toNat : Int) = 45 ∧ v4 = s) ∧ m1_12 = v4) ∨ s = [] ∧ m1_12 = s))) ∧ ∀ (v1 : Cut (1 : Nat) Bs), (∃ (c2 : UInt8), ∃ (v4 : Cut (2 : Nat) Bs), ¬s = [] ∧ s[(0 : Nat)]? = some c2 ∧ ((↑c2.toNat : Int) = 45 ∧ v4 = List.drop (1 : Nat) (List.take (List.length s) s) ∨ ¬(↑c2.toNat : Int) = 45 ∧ v4 = s) ∧ v1 = v4) ∨ s = [] ∧ v1 = s → ((decide (v1 = []) = true → true = true ∧ false = decB s) ∧ (decide (v1 = []) = false → (0 : Int) = 0 ∧ (0 : Nat) < List.length v1 ∧ ∀ (c17 : UInt8), v1[(0 : Nat)]? = some c17 → (decide ((↑c17.toNat : Int) = 48) = true → ((!decide (s = [(48 : UInt8)])) = true → false = decB s) ∧ ((!decide (s = [(48 : UInt8)])) = false → ∃ (m4_22 : Cut (4 : Nat) Unit), ((v1 = v1 ∧ True) ∧ True) ∧ ((∃ (c17 : UInt8), ¬v1 = [] ∧ v1[(0 : Nat)]? = some c17 ∧ (↑c17.toNat
 : Int) = 48 ∧ s = [(48 : UInt8)]) ∨ ∃ (c17 : UInt8), ¬v1 = [] ∧ v1[(0 : Nat)]? = some c17 ∧ ¬(↑c17.toNat : Int) = 48))) ∧ (decide ((↑c17.toNat : Int) = 48) = false → false = false ∧ ∃ (m4_24 : Cut (4 : Nat) Unit), ((v1 = v1 ∧ True) ∧ True) ∧ ((∃ (c17 : UInt8), ¬v1 = [] ∧ v1[(0 : Nat)]? = some c17 ∧ (↑c17.toNat : Int) = 48 ∧ s = [(48 : UInt8)]) ∨ ∃ (c17 : UInt8), ¬v1 = [] ∧ v1[(0 : Nat)]? = some c17 ∧ ¬(↑c17.toNat : Int) = 48)))) ∧ ∀ (v15 : Cut (4 : Nat) Unit), ((∃ (c17 : UInt8), ¬v1 = [] ∧ v1[(0 : Nat)]? = some c17 ∧ (↑c17.toNat : Int) = 48 ∧ s = [(48 : UInt8)]) ∨ ∃ (c17 : UInt8), ¬v1 = [] ∧ v1[(0 : Nat)]? = some c17 ∧ ¬(↑c17.toNat : Int) = 48) → (∃ (j27 : Nat), ((v1 = numBody s ∧ (↑(List.length v1) : Int) = (↑(List.length (numBody s)) : Int) ∧ (0 : Int) = (↑j27 : Int) ∧ True) ∧ True) ∧ j27 ≤ List.length (numBody s) ∧ ∀ (c28 : UInt8), c28 ∈ List.take j27 (numBody s) → dig c28) ∧ ∀ (k : Nat), (k ≤ List.length (numBody s) ∧ ∀ (c : UInt8), c ∈ List.take k (numBody s) → dig c) → (decide ((↑k : Int) < (↑(List.length (numBody s)) : Int)) = true → (↑k : Int) = (↑k : Int) ∧ k < List.length (numBody s) ∧ ∀ (c32 : UInt8), (numBody s)[k]?
 = some c32 → (decide ((↑c32.toNat : Int) < 48) = true → true = true ∧ false = decB s) ∧ (decide ((↑c32.toNat : Int) < 48) = false → (↑k : Int) = (↑k : Int) ∧ k < List.length (numBody s) ∧ ∀ (c36 : UInt8), (numBody s)[k]? = some c36 → (decide ((57 : Int) < (↑c36.toNat : Int)) = true → false = decB s) ∧ (decide ((57 : Int) < (↑c36.toNat : Int)) = false → InI64 ((↑k : Int) + 1) ∧ ∃ (j40 : Nat), ((numBody s = numBody s ∧ (↑(List.length (numBody s)) : Int) = (↑(List.length (numBody s)) : Int) ∧ (↑k : Int) + 1 = (↑j40 : Int) ∧ True) ∧ True) ∧ (j40 ≤ List.length (numBody s) ∧ ∀ (c41 : UInt8), c41 ∈ List.take j40 (numBody s) → dig c41) ∧ List.length (numBody s) - j40 < List.length (numBody s) - k))) ∧ (decide ((↑k : Int) < (↑(List.length (numBody s)) : Int)) = false → true = decB s))) ?_
 refine ⟨⟨fun h1_ => have h1 := dnT h1_; ⟨rfl, ?_, fun c2 => fun h3 => ⟨⟨fun h4_ => have h4 := dT h4_; ⟨rfl, rfl, ?_, (by omega), ⟨List.drop (1 : Nat) (List.take (List.length s) s), ⟨⟨(by first | rfl | simp), ⟨(by first | rfl | simp), trivial⟩⟩, trivial⟩, Or.inl (⟨h4, rfl⟩)⟩⟩, fun h6_ => have h6 := dF h6_; ⟨s, ⟨⟨(by first | rfl | simp), ⟨(by first | rfl | simp), trivial⟩⟩, trivial⟩, Or.inr (⟨h6, rfl⟩)⟩⟩, fun v4 => fun h9 => ⟨v4, ⟨⟨(by first | rfl | simp), ⟨(by first | rfl | simp), trivial⟩⟩, trivial⟩, Or.inl (⟨c2, v4, h1, h3, h9, rfl⟩)⟩⟩⟩, fun h11_ => have h11 := dnF h11_; ⟨rfl, ⟨s, ⟨⟨(by first | rfl | simp), ⟨(by first | rfl | simp), trivial⟩⟩, trivial⟩, Or.inr (⟨h11, rfl⟩)⟩⟩⟩, fun v1 => fun h14 => ⟨⟨fun h15_ => have h15 := dT h15_; ⟨rfl, ?_⟩, fun h16_ => have h16 := dF h16_; ⟨rfl, ?_, fun c17 => fun h18 => ⟨fun h19_ => have h19 := dT h19_; ⟨fun h20_ => have h20 := dnT h20_; ?_, fun h21_ => have h21 := dnF h21_; ⟨(), ⟨⟨(by first | rfl | simp), trivial⟩, trivial⟩, Or.inl (⟨c17, h16, h18, h19, h21⟩)⟩⟩, fun h23_ => have h23 := dF h23_; ⟨rfl, ⟨(), ⟨⟨(by first | rfl | simp), trivial⟩, trivial⟩, Or.inr (⟨c17, h16, h18, h23⟩)⟩⟩⟩⟩⟩, fun v15 => fun h26 => ⟨⟨(0 : Nat), ⟨⟨?_, ?_, (by omega), trivial⟩, trivial⟩, ⟨(by omega), fun c28 => fun h29 => ?_⟩⟩, fun k => fun h30 => have h30a := h30.1; have h30b := h30.2; ⟨fun h31_ => have h31 := dT h31_; ⟨rfl, (by omega), fun c32 => fun h33 => ⟨fun h34_ => have h34 := dT h34_; ⟨rfl, ?_⟩, fun h35_ => have h35 := dF h35_; ⟨rfl, (by omega), fun c36 => fun h37 => ⟨fun h38_ => have h38 := dT h38_; ?_, fun h39_ => have h39 := dF h39_; ⟨(by unfold InI64; omega), ⟨k + (1 : Nat), ⟨⟨rfl, rfl, (by omega), trivial⟩, trivial⟩, ⟨⟨(by omega), fun c41 => fun h42 => ?_⟩, (by omega)⟩⟩⟩⟩⟩⟩⟩, fun h43_ => have h43 := dF h43_; ?_⟩⟩⟩⟩
 ·exact pos_of h1
 ·exact lt_of_at h3
 ·obtain rfl := join_body h14
  exact dec_digs (by rw [h15]; rfl)
 ·exact pos_of h16
 all_goals (try obtain rfl := join_body h14)
 ·symm; rw [decB_false]
  rintro ⟨q1, q2⟩
  rw [digsB_iff] at q1
  have h48 : c17 = 48 := u8_of (n := 48) h19 (by decide)
  subst h48
  have h1 : (numBody s).length = 1 := by
   have := lt_of_at h18
   rcases q1.2.1 with q | q
   ·omega
   ·exact absurd h18 q
  have h2 : numBody s = [48] := by
   match hb : numBody s, h1 with
   | [x], _ => rw [hb] at h18; simp at h18; rw [h18]
  by_cases hn : negB s = true
  ·apply q2
   cases s with
   | nil => simp [negB] at hn
   | cons c r =>
    simp [negB] at hn
    subst hn
    rw [numBody, if_pos (by simp [negB])] at h2
    simp at h2; rw [h2]
  ·rw [numBody, if_neg hn] at h2; exact h20 h2
 ·rfl
 ·rfl
 ·simp at h29
 ·exact dec_digs (digs_bad h33 (.inl h34))
 ·exact dec_digs (digs_bad h37 (.inr h38))
 ·exact all_of h37 h30b (dig_of (by rw [same_at h33 h37]; exact h35) h39) _ h42
 ·rcases h26 with ⟨c, q1, q2, q3, rfl⟩ | ⟨c, q1, q2, q3⟩
  ·rfl
  ·symm; rw [decB_iff]
   refine ⟨(digs_ok (pos_of q1) (.inr fun x hx => by rw [same_at q2 hx]; exact q3) (by omega) h30b).symm, fun e => ?_⟩
   subst e
   cases q2
   exact q3 rfl
theorem refParse_run (s : Bs) (hs : s.length ≤ maxLen) : (R FT X).f 69 [strL s] = some (.tuple [intA (numV s), intA (numE s)]) := by
 have hm := maxLen_i64
 have hb := body_le s
 refine R_wp (Tr.cut (fun (v1 : Cut (1 : Nat) Bs) ↦ St.mk [(0, strL s), (4, strL v1)] []) (fun (v1 : Cut (1 : Nat) Bs) ↦ (∃ (c2 : UInt8), ∃ (v4 : Cut (2 : Nat) Bs), ¬s = [] ∧ s[(0 : Nat)]? = some c2 ∧ ((↑c2.toNat : Int) = 45 ∧ v4 = List.drop (1 : Nat) (List.take (List.length s) s) ∨ ¬(↑c2.toNat : Int) = 45 ∧ v4 = s) ∧ v1 = v4) ∨ s = [] ∧ v1 = s) ((Tr.y 0 fun (c2 : UInt8) ↦ Tr.cut (fun (v4 : Cut (2 : Nat) Bs) ↦ St.mk [(0, strL s), (4, strL v4)] []) (fun (v4 : Cut (2 : Nat) Bs) ↦ (↑c2.toNat : Int) = 45 ∧ v4 = List.drop (1 : Nat) (List.take (List.length s) s) ∨ ¬(↑c2.toNat : Int) = 45 ∧ v4 = s) ((Tr.sl (1 : Nat) (List.length s) Tr.nil).br Tr.nil) fun (v : Cut (2 : Nat) Bs) ↦ Tr.nil).br (Tr.b false Tr.nil).w) fun (v1 : Cut (1 : Nat) Bs) ↦ (Tr.c (boolA (digsB v1)) ((Tr.b true Tr.nil).w.br (Tr.nil.br (Tr.inv (fun (k : Nat) ↦ St.mk [(0, strL s), (4, strL (numBody s)), (5, intA (-(↑(valD (List.take k (numBody s))) : Int))), (6, intA (↑k : Int))] []) (fun (k : Nat) ↦ k ≤ List.length (numBody s) ∧ valD (List.take k (numBody s)) ≤ 9223372036854775808) (fun (k : Nat) ↦ List.length (numBody s) - k)
 fun (k : Nat) ↦ ((Tr.y k fun (c22 : UInt8) ↦ (Tr.nil.br Tr.nil.w.w.w).w.w.w.w.w).w.br (Tr.nil.br (Tr.nil.br Tr.nil.w).w.w).w.w).w).w).w)).w) rfl ?_
 refine Eq.mpr (by kernel_rfl : _ = ((((!decide (s = [])) = true → (0 : Int) = 0 ∧ (0 : Nat) < List.length s ∧ ∀ (c2 : UInt8), s[(0 : Nat)]? = some c2 → ((decide ((↑c2.toNat : Int) = 45) = true → (1 : Int) = 1 ∧ (↑(List.length s) : Int) = (↑(List.length s) : Int) ∧ (1 : Nat) ≤ List.length s ∧ List.length s ≤ List.length s ∧ ∃ (m2_5 : Cut (2 : Nat) Bs), ((s = s ∧ List.drop (1 : Nat) (List.take (List.length s) s) = m2_5 ∧ True) ∧ True) ∧ ((↑c2.toNat : Int) = 45 ∧ m2_5 = List.drop (1 : Nat) (List.take (List.length s) s) ∨ ¬(↑c2.toNat : Int) = 45 ∧ m2_5 = s)) ∧ (decide ((↑c2.toNat : Int) = 45) = false → ∃ (m2_7 : Cut (2 : Nat) Bs), ((s = s ∧ s = m2_7 ∧ True) ∧ True) ∧ ((↑c2.toNat : Int) = 45 ∧ m2_7 = List.drop (1 : Nat) (List.take (List.length s) s) ∨ ¬(↑c2.toNat : Int) = 45 ∧ m2_7 = s))) ∧ ∀ (v4 : Cut (2 : Nat) Bs), (↑c2.toNat : Int) = 45 ∧ v4 = List.drop (1 : Nat) (List.take (List.length s) s) ∨ ¬(↑c2.toNat : Int) = 45 ∧ v4 = s → ∃ (m1_10 : Cut (1 : Nat) Bs), ((s = s ∧ v4 = m1_10 ∧ True) ∧ True) ∧ ((∃ (c2 : UInt8), ∃ (v4 : Cut (2 : Nat) Bs), ¬s = [] ∧ s[(0 : Nat)]? = some c2 ∧ ((↑c2.toNat : Int) = 45 ∧ v4 = List.drop (1 : Nat) (List.take
 (List.length s) s) ∨ ¬(↑c2.toNat : Int) = 45 ∧ v4 = s) ∧ m1_10 = v4) ∨ s = [] ∧ m1_10 = s)) ∧ ((!decide (s = [])) = false → false = false ∧ ∃ (m1_12 : Cut (1 : Nat) Bs), ((s = s ∧ s = m1_12 ∧ True) ∧ True) ∧ ((∃ (c2 : UInt8), ∃ (v4 : Cut (2 : Nat) Bs), ¬s = [] ∧ s[(0 : Nat)]? = some c2 ∧ ((↑c2.toNat : Int) = 45 ∧ v4 = List.drop (1 : Nat) (List.take (List.length s) s) ∨ ¬(↑c2.toNat : Int) = 45 ∧ v4 = s) ∧ m1_12 = v4) ∨ s = [] ∧ m1_12 = s))) ∧ ∀ (v1 : Cut (1 : Nat) Bs), (∃ (c2 : UInt8), ∃ (v4 : Cut (2 : Nat) Bs), ¬s = [] ∧ s[(0 : Nat)]? = some c2 ∧ ((↑c2.toNat : Int) = 45 ∧ v4 = List.drop (1 : Nat) (List.take (List.length s) s) ∨ ¬(↑c2.toNat : Int) = 45 ∧ v4 = s) ∧ v1 = v4) ∨ s = [] ∧ v1 = s → (R FT X).f 89 [strL v1] = some (boolA (digsB v1)) ∧ ((!digsB v1) = true → true = true ∧ (0 : Int) = numV s ∧ (1 : Int) = numE s) ∧ ((!digsB v1) = false → (decide (s = [(45 : UInt8), (48 : UInt8)]) = true → (0 : Int) = numV s ∧ (1 : Int) = numE s) ∧ (decide (s = [(45 : UInt8), (48 : UInt8)]) = false → (∃ (j19 : Nat), ((s = s ∧ v1 = numBody s ∧ (0 : Int) = -(↑(valD (List.take j19 (numBody s))) : Int) ∧ (0 : Int) = (↑j19 : Int) ∧ True) ∧ True) ∧ j19
 ≤ List.length (numBody s) ∧ valD (List.take j19 (numBody s)) ≤ 9223372036854775808) ∧ ∀ (k : Nat), k ≤ List.length (numBody s) ∧ valD (List.take k (numBody s)) ≤ 9223372036854775808 → (decide ((↑k : Int) < (↑(List.length (numBody s)) : Int)) = true → (↑k : Int) = (↑k : Int) ∧ k < List.length (numBody s) ∧ ∀ (c22 : UInt8), (numBody s)[k]? = some c22 → InI64 (↑(toU8 ((↑c22.toNat : Int) - 48)).toNat : Int) ∧ InI64 ((-9223372036854775808 : Int) + (↑(toU8 ((↑c22.toNat : Int) - 48)).toNat : Int)) ∧ (10 : Int) ≠ 0 ∧ InI64 (((-9223372036854775808 : Int) + (↑(toU8 ((↑c22.toNat : Int) - 48)).toNat : Int)).tdiv 10) ∧ IntKind.i64 = IntKind.i64 ∧ (decide (-(↑(valD (List.take k (numBody s))) : Int) < ((-9223372036854775808 : Int) + (↑(toU8 ((↑c22.toNat : Int) - 48)).toNat : Int)).tdiv 10) = true → (0 : Int) = numV s ∧ (9 : Int) = numE s) ∧ (decide (-(↑(valD (List.take k (numBody s))) : Int) < ((-9223372036854775808 : Int) + (↑(toU8 ((↑c22.toNat : Int) - 48)).toNat : Int)).tdiv 10) = false → InI64 ((10 : Int) * -(↑(valD (List.take k (numBody s))) : Int)) ∧ InI64 ((10 : Int) * -(↑(valD (List.take k (numBody s)))
 : Int) - (↑(toU8 ((↑c22.toNat : Int) - 48)).toNat : Int)) ∧ InI64 ((↑k : Int) + 1) ∧ ∃ (j26 : Nat), ((s = s ∧ numBody s = numBody s ∧ (10 : Int) * -(↑(valD (List.take k (numBody s))) : Int) - (↑(toU8 ((↑c22.toNat : Int) - 48)).toNat : Int) = -(↑(valD (List.take j26 (numBody s))) : Int) ∧ (↑k : Int) + 1 = (↑j26 : Int) ∧ True) ∧ True) ∧ (j26 ≤ List.length (numBody s) ∧ valD (List.take j26 (numBody s)) ≤ 9223372036854775808) ∧ List.length (numBody s) - j26 < List.length (numBody s) - k)) ∧ (decide ((↑k : Int) < (↑(List.length (numBody s)) : Int)) = false → (decide ((↑(List.length (numBody s)) : Int) < (↑(List.length s) : Int)) = true → -(↑(valD (List.take k (numBody s))) : Int) = numV s ∧ (0 : Int) = numE s) ∧ (decide ((↑(List.length (numBody s)) : Int) < (↑(List.length s) : Int)) = false → (decide (-(↑(valD (List.take k (numBody s))) : Int) = (-9223372036854775808 : Int)) = true → (0 : Int) = numV s ∧ (9 : Int) = numE s) ∧ (decide (-(↑(valD (List.take k (numBody s))) : Int) = (-9223372036854775808 : Int)) = false → InI64 ((0 : Int) - -(↑(valD (List.take k (numBody s))) : Int)) ∧ (0 : Int) - -(↑(valD (List.take k (numBody s))) : Int) = numV s ∧ (0
 : Int) = numE s))))))) ?_
 refine ⟨⟨fun h1_ => have h1 := dnT h1_; ⟨rfl, ?_, fun c2 => fun h3 => ⟨⟨fun h4_ => have h4 := dT h4_; ⟨rfl, rfl, ?_, (by omega), ⟨List.drop (1 : Nat) (List.take (List.length s) s), ⟨⟨(by first | rfl | simp), ⟨(by first | rfl | simp), trivial⟩⟩, trivial⟩, Or.inl (⟨h4, rfl⟩)⟩⟩, fun h6_ => have h6 := dF h6_; ⟨s, ⟨⟨(by first | rfl | simp), ⟨(by first | rfl | simp), trivial⟩⟩, trivial⟩, Or.inr (⟨h6, rfl⟩)⟩⟩, fun v4 => fun h9 => ⟨v4, ⟨⟨(by first | rfl | simp), ⟨(by first | rfl | simp), trivial⟩⟩, trivial⟩, Or.inl (⟨c2, v4, h1, h3, h9, rfl⟩)⟩⟩⟩, fun h11_ => have h11 := dnF h11_; ⟨rfl, ⟨s, ⟨⟨(by first | rfl | simp), ⟨(by first | rfl | simp), trivial⟩⟩, trivial⟩, Or.inr (⟨h11, rfl⟩)⟩⟩⟩, fun v1 => fun h14 => ⟨(digits_run _ ?_), fun h15_ => have h15 := nT h15_; ⟨rfl, ?_, ?_⟩, fun h16_ => have h16 := nF h16_; ⟨fun h17_ => have h17 := dT h17_; ⟨?_, ?_⟩, fun h18_ => have h18 := dF h18_; ⟨⟨(0 : Nat), ⟨⟨rfl, ?_, rfl, (by omega), trivial⟩, trivial⟩, ⟨(by omega), ?_⟩⟩, fun k => fun h20 => have h20a := h20.1; have h20b := h20.2; ⟨fun h21_ => have h21 := dT h21_; ⟨rfl, (by omega), fun c22 => fun h23 => ⟨(by have := u8_lt c22; have := toU8_mod ((↑c22.toNat : Int) - (48 : Int)); unfold InI64; omega), (by have := u8_lt c22; have := toU8_mod ((↑c22.toNat : Int) - (48 : Int)); unfold InI64; omega), (by omega), (by have := u8_lt c22; have := toU8_mod ((↑c22.toNat : Int) - (48 : Int)); have := tdiv_lit ((-9223372036854775808 : Int) + (↑(toU8 ((↑c22.toNat : Int) - (48 : Int))).toNat : Int)) 10 (by decide); unfold InI64; omega), rfl, fun h24_ => have h24 := dT h24_; ⟨?_, ?_⟩, fun h25_ => have h25 := dF h25_; ⟨(by have := u8_lt c22; have := toU8_mod ((↑c22.toNat : Int) - (48 : Int)); have := tdiv_lit ((-9223372036854775808 : Int) + (↑(toU8 ((↑c22.toNat : Int) - (48 : Int))).toNat : Int)) 10 (by decide); unfold InI64; omega), (by have := u8_lt c22; have := tdiv_lit ((-9223372036854775808 : Int) + (↑(toU8 ((↑c22.toNat : Int) - (48 : Int))).toNat : Int)) 10 (by decide); have := toU8_mod ((↑c22.toNat : Int) - (48 : Int)); unfold InI64; omega), (by unfold InI64; omega), ⟨k + (1 : Nat), ⟨⟨rfl, rfl, ?_, (by omega), trivial⟩, trivial⟩, ⟨⟨(by omega), ?_⟩, (by omega)⟩⟩⟩⟩⟩, fun h27_ => have h27 := dF h27_; ⟨fun h28_ => have h28 := dT h28_; ⟨?_, ?_⟩, fun h29_ => have h29 := dF h29_; ⟨fun h30_ => have h30 := dT h30_; ⟨?_, ?_⟩, fun h31_ => have h31 := dF h31_; ⟨(by unfold InI64; omega), ?_, ?_⟩⟩⟩⟩⟩⟩⟩⟩
 ·exact pos_of h1
 ·exact lt_of_at h3
 all_goals (try obtain rfl := join_body h14)
 ·omega
 iterate 2 · first | exact (num_bad' (fun q => by rw [q.1] at h15; cases h15)).1 | exact (num_bad' (fun q => by rw [q.1] at h15; cases h15)).2
 iterate 2 · first | exact (num_bad' (fun q => q.2 h17)).1 | exact (num_bad' (fun q => q.2 h17)).2
 ·rfl
 ·simp [valD, valF]
 iterate 2
  ·obtain ⟨q1, q2, q3⟩ := num_step h16 h23
   have q4 := toU8_mod (↑c22.toNat - 48)
   have q5 := tdiv_lit (-9223372036854775808 + ↑(toU8 (↑c22.toNat - 48)).toNat) 10 (by decide)
   have := num_over' h16 h18 (by rw [dig_iff] at q2; omega)
   first | exact this.1 | exact this.2
 ·obtain ⟨q1, q2, q3⟩ := num_step h16 h23
  have q4 := toU8_mod (↑c22.toNat - 48)
  rw [q1]
  rw [dig_iff] at q2; omega
 ·obtain ⟨q1, q2, q3⟩ := num_step h16 h23
  have q4 := toU8_mod (↑c22.toNat - 48)
  have q5 := tdiv_lit (-9223372036854775808 + ↑(toU8 (↑c22.toNat - 48)).toNat) 10 (by decide)
  rw [q1]
  rw [dig_iff] at q2; omega
 all_goals
  rw [List.take_of_length_le (by omega)] at h20b
  try rw [List.take_of_length_le (by omega)] at h30
  try rw [List.take_of_length_le (by omega)] at h31
  try rw [List.take_of_length_le (by omega)]
 iterate 2
  ·have := num_ok' h16 h18 (valI_y (by omega)).symm (by unfold InI64; omega)
   first | exact this.1 | exact this.2
 iterate 2
  ·have := num_over (decB_iff.2 ⟨h16, h18⟩) (by rw [valI_n (by omega)]; unfold InI64; omega)
   first | exact this.1.symm | exact this.2.symm
 iterate 2
  ·have := num_ok' h16 h18 (v := 0 - -(valD (numBody s) : Int)) (by rw [valI_n (by omega)]; omega) (by unfold InI64; omega)
   first | exact this.1 | exact this.2
theorem refFormat_run (n : Int) (hn : InI64 n) : (R FT X).f 37 [intA n] = some (strL (Lib.itoa n)) := by
 unfold InI64 at hn
 refine R_wp ((Tr.nil.br (Tr.inv (fun (k : Bs × Int) ↦ St.mk [(0, intA n), (3, strL k.fst), (4, intA k.snd)] []) (fun (k : Bs × Int) ↦ List.length k.fst ≤ 20 ∧ ((-9223372036854775808 : Int) ≤ k.snd ∧ k.snd ≤ 9223372036854775807) ∧ k.snd.natAbs ≤ n.natAbs ∧ (k.snd = 0 ∧ k.fst = Lib.decDigits n.natAbs ∨ k.snd ≠ 0 ∧ (k.snd < 0 ↔ n < 0) ∧ Lib.decDigits n.natAbs = Lib.decDigits k.snd.natAbs ++ k.fst)) (fun (k : Bs × Int) ↦ k.snd.natAbs) fun (k : Bs × Int) ↦ (((Tr.bs [toU8 ((48 : Int) + ((0 : Int) - k.snd.tmod 10))] Tr.nil.w.w).w.w.br (Tr.bs [toU8 ((48 : Int) + k.snd.tmod 10)] Tr.nil.w.w).w).w.w.w.w.br (Tr.nil.w.br Tr.nil).w.w).w).w).w.w) rfl ?_
 refine Eq.mpr (by kernel_rfl : _ = ((decide (n = 0) = true → [(48 : UInt8)] = Lib.itoa n) ∧ (decide (n = 0) = false → (∃ (j3 : Bs × Int), ((n = n ∧ [] = j3.fst ∧ n = j3.snd ∧ True) ∧ True) ∧ List.length j3.fst ≤ 20 ∧ ((-9223372036854775808 : Int) ≤ j3.snd ∧ j3.snd ≤ 9223372036854775807) ∧ j3.snd.natAbs ≤ n.natAbs ∧ (j3.snd = 0 ∧ j3.fst = Lib.decDigits n.natAbs ∨ j3.snd ≠ 0 ∧ (j3.snd < 0 ↔ n < 0) ∧ Lib.decDigits n.natAbs = Lib.decDigits j3.snd.natAbs ++ j3.fst)) ∧ ∀ (k : Bs × Int), List.length k.fst ≤ 20 ∧ ((-9223372036854775808 : Int) ≤ k.snd ∧ k.snd ≤ 9223372036854775807) ∧ k.snd.natAbs ≤ n.natAbs ∧ (k.snd = 0 ∧ k.fst = Lib.decDigits n.natAbs ∨ k.snd ≠ 0 ∧ (k.snd < 0 ↔ n < 0) ∧ Lib.decDigits n.natAbs = Lib.decDigits k.snd.natAbs ++ k.fst) → ((!decide (k.snd = 0)) = true → (10 : Int) ≠ 0 ∧ (decide (k.snd.tmod 10 < (0 : Int)) = true → InI64 ((0 : Int) - k.snd.tmod 10) ∧ InI64 ((48 : Int) + ((0 : Int) - k.snd.tmod 10)) ∧ (1 : Nat) = 1 ∧ some [UInt8.ofNat (↑(toU8 ((48 : Int) + ((0 : Int) - k.snd.tmod 10))).toNat : Int).toNat] = some [toU8 ((48 : Int) + ((0
 : Int) - k.snd.tmod 10))] ∧ [toU8 ((48 : Int) + ((0 : Int) - k.snd.tmod 10))].length + List.length k.fst ≤ 9223372036854775807 ∧ (10 : Int) ≠ 0 ∧ InI64 (k.snd.tdiv 10) ∧ IntKind.i64 = IntKind.i64 ∧ ∃ (j7 : Bs × Int), ((n = n ∧ toU8 ((48 : Int) + ((0 : Int) - k.snd.tmod 10)) :: List.append._f [] PUnit.unit k.fst = j7.fst ∧ k.snd.tdiv 10 = j7.snd ∧ True) ∧ True) ∧ (List.length j7.fst ≤ 20 ∧ ((-9223372036854775808 : Int) ≤ j7.snd ∧ j7.snd ≤ 9223372036854775807) ∧ j7.snd.natAbs ≤ n.natAbs ∧ (j7.snd = 0 ∧ j7.fst = Lib.decDigits n.natAbs ∨ j7.snd ≠ 0 ∧ (j7.snd < 0 ↔ n < 0) ∧ Lib.decDigits n.natAbs = Lib.decDigits j7.snd.natAbs ++ j7.fst)) ∧ j7.snd.natAbs < k.snd.natAbs) ∧ (decide (k.snd.tmod 10 < (0 : Int)) = false → InI64 ((48 : Int) + k.snd.tmod 10) ∧ (1 : Nat) = 1 ∧ some [UInt8.ofNat (↑(toU8 ((48 : Int) + k.snd.tmod 10)).toNat : Int).toNat] = some [toU8 ((48 : Int) + k.snd.tmod 10)] ∧ [toU8 ((48 : Int) + k.snd.tmod 10)].length + List.length k.fst ≤ 9223372036854775807 ∧ (10 : Int) ≠ 0 ∧ InI64 (k.snd.tdiv 10) ∧ IntKind.i64
 = IntKind.i64 ∧ ∃ (j9 : Bs × Int), ((n = n ∧ toU8 ((48 : Int) + k.snd.tmod 10) :: List.append._f [] PUnit.unit k.fst = j9.fst ∧ k.snd.tdiv 10 = j9.snd ∧ True) ∧ True) ∧ (List.length j9.fst ≤ 20 ∧ ((-9223372036854775808 : Int) ≤ j9.snd ∧ j9.snd ≤ 9223372036854775807) ∧ j9.snd.natAbs ≤ n.natAbs ∧ (j9.snd = 0 ∧ j9.fst = Lib.decDigits n.natAbs ∨ j9.snd ≠ 0 ∧ (j9.snd < 0 ↔ n < 0) ∧ Lib.decDigits n.natAbs = Lib.decDigits j9.snd.natAbs ++ j9.fst)) ∧ j9.snd.natAbs < k.snd.natAbs)) ∧ ((!decide (k.snd = 0)) = false → (decide (n < 0) = true → [(45 : UInt8)].length + List.length k.fst ≤ 9223372036854775807 ∧ (45 : UInt8) :: List.append._f [] PUnit.unit k.fst = Lib.itoa n) ∧ (decide (n < 0) = false → k.fst = Lib.itoa n))))) ?_
 refine ⟨fun h1_ => have h1 := dT h1_; ?_, fun h2_ => have h2 := dF h2_; ⟨⟨([], n), ⟨⟨rfl, rfl, rfl, trivial⟩, trivial⟩, ⟨(by simp), ⟨(by omega), (by omega)⟩, (by omega), ?_⟩⟩, fun k => fun h4 => have h4a := h4.1; have h4b := h4.2.1; have h4c := h4.2.2.1; have h4d := h4.2.2.2; ⟨fun h5_ => have h5 := dnT h5_; ⟨(by omega), fun h6_ => have h6 := dT h6_; ⟨(by have := tdiv_lit (k.snd) 10 (by decide); unfold InI64; omega), (by have := tdiv_lit (k.snd) 10 (by decide); unfold InI64; omega), rfl, (by simp), (by simp; omega), (by omega), (by have := tdiv_lit (k.snd) 10 (by decide); unfold InI64; omega), rfl, ⟨(toU8 ((48 : Int) + ((0 : Int) - k.snd.tmod (10 : Int))) :: List.append._f [] PUnit.unit k.fst, k.snd.tdiv (10 : Int)), ⟨⟨rfl, rfl, rfl, trivial⟩, trivial⟩, ⟨⟨?_, ⟨(by have := tdiv_lit (k.snd) 10 (by decide); omega), (by have := tdiv_lit (k.snd) 10 (by decide); omega)⟩, (by have := tdiv_lit (k.snd) 10 (by decide); omega), ?_⟩, (by have := tdiv_lit (k.snd) 10 (by decide); omega)⟩⟩⟩, fun h8_ => have h8 := dF h8_; ⟨(by have := tdiv_lit (k.snd) 10 (by decide); unfold InI64; omega), rfl, (by simp), (by simp; omega), (by omega), (by have := tdiv_lit (k.snd) 10 (by decide); unfold InI64; omega), rfl, ⟨(toU8 ((48 : Int) + k.snd.tmod (10 : Int)) :: List.append._f [] PUnit.unit k.fst, k.snd.tdiv (10 : Int)), ⟨⟨rfl, rfl, rfl, trivial⟩, trivial⟩, ⟨⟨?_, ⟨(by have := tdiv_lit (k.snd) 10 (by decide); omega), (by have := tdiv_lit (k.snd) 10 (by decide); omega)⟩, (by have := tdiv_lit (k.snd) 10 (by decide); omega), ?_⟩, (by have := tdiv_lit (k.snd) 10 (by decide); omega)⟩⟩⟩⟩, fun h10_ => have h10 := dnF h10_; ⟨fun h11_ => have h11 := dT h11_; ⟨(by simp; omega), ?_⟩, fun h12_ => have h12 := dF h12_; ?_⟩⟩⟩⟩
 all_goals try dsimp only
 ·subst h1; rw [itoa_pos' (by decide)]; exact (dd_small (u := 0) (by decide)).symm
 ·exact .inr ⟨h2, Iff.rfl, (List.append_nil _).symm⟩
 ·exact fmt_len hn (fmt_step h5 h4d (fmt_neg h6))
 ·exact fmt_step h5 h4d (fmt_neg h6)
 ·exact fmt_len hn (fmt_step h5 h4d (fmt_pos h8))
 ·exact fmt_step h5 h4d (fmt_pos h8)
 ·rw [itoa_neg' h11]
  rcases h4d with ⟨-, h⟩ | ⟨h, -⟩
  ·rw [← h]
  ·exact absurd h10 h
 ·rw [itoa_pos' h12]
  rcases h4d with ⟨-, h⟩ | ⟨h, -⟩
  ·exact h
  ·exact absurd h10 h
end
theorem lmx {n : Nat} (h : n ≤ 281474976710656) : n ≤ maxLen := Nat.le_trans h (by decide +kernel)
structure NumC (X : CallF) : Prop where
 itoa : ∀ n : Int, InI64 n → (R FT X).f 59 [intA n] = some (strL (Lib.itoa n))
 ok : ∀ s : Bs, s.length ≤ 281474976710656 → decB s = true → InI64 (valI s) → (R FT X).f 78 [strL s] = some (.tuple [intA (valI s), .val .nilIface])
 over : ∀ s : Bs, s.length ≤ 281474976710656 → decB s = true → ¬ InI64 (valI s) → (R FT X).f 78 [strL s] = some (.tuple [intA (Lib.atoiSat s), .nif])
section
variable {X : CallF}
theorem format_run (hc : NumC X) (n : Int) (hn : InI64 n) : (R FT X).f 35 [intA n] = some (strL (Lib.itoa n)) := by
 have r := hc.itoa n hn
 refine R_wp (Tr.c (strL (Lib.itoa n)) Tr.nil) rfl ?_
 refine Eq.mpr (by kernel_rfl : _ = ((R FT X).f 59 [intA n] = some (strL (Lib.itoa n)) ∧ Lib.itoa n = Lib.itoa n)) ?_
 refine ⟨(r), rfl⟩
theorem parse_n (s : Bs) (hs : s.length ≤ maxLen) (hd : decB s = false) : (R FT X).f 66 [strL s] = some (.tuple [intA 0, intA 1]) := by
 have hm := maxLen_i64
 refine R_wp ((Tr.c (boolA (decB s)) (Tr.b true Tr.nil).w).w) rfl ?_
 refine Eq.mpr (by kernel_rfl : _ = ((R FT X).f 77 [strL s] = some (boolA (decB s)) ∧ (!decB s) = true ∧ (0 : Int) = 0 ∧ (1 : Int) = 1)) ?_
 refine ⟨(decimal_run _ hs), (nTi hd), rfl, rfl⟩
theorem parse_y (s : Bs) (hs : s.length ≤ maxLen) (hd : decB s = true) (v : Int) (ra : (R FT X).f 78 [strL s] = some (.tuple [intA v, .val .nilIface])) : (R FT X).f 66 [strL s] = some (.tuple [intA v, intA 0]) := by
 have hm := maxLen_i64
 refine R_wp ((Tr.c (boolA (decB s)) (Tr.b false (Tr.c (AV.tuple [intA v, AV.val Value.nilIface]) (Tr.b false Tr.nil).w.w)).w).w) rfl ?_
 refine Eq.mpr (by kernel_rfl : _ = ((R FT X).f 77 [strL s] = some (boolA (decB s)) ∧ (!decB s) = false ∧ (R FT X).f 78 [strL s] = some (AV.tuple [intA v, AV.val Value.nilIface]) ∧ false = false ∧ v = v ∧ (0 : Int) = 0)) ?_
 refine ⟨(decimal_run _ hs), (nFi hd), ra, rfl, rfl, rfl⟩
theorem parse_o (s : Bs) (hs : s.length ≤ maxLen) (hd : decB s = true) (v : Int) (ra : (R FT X).f 78 [strL s] = some (.tuple [intA v, .nif])) : (R FT X).f 66 [strL s] = some (.tuple [intA 0, intA 9]) := by
 have hm := maxLen_i64
 refine R_wp ((Tr.c (boolA (decB s)) (Tr.b false (Tr.c (AV.tuple [intA v, AV.nif]) (Tr.b true Tr.nil).w.w)).w).w) rfl ?_
 refine Eq.mpr (by kernel_rfl : _ = ((R FT X).f 77 [strL s] = some (boolA (decB s)) ∧ (!decB s) = false ∧ (R FT X).f 78 [strL s] = some (AV.tuple [intA v, AV.nif]) ∧ true = true ∧ (0 : Int) = 0 ∧ (9 : Int) = 9)) ?_
 refine ⟨(decimal_run _ hs), (nFi hd), ra, rfl, rfl, rfl⟩
theorem parse_run (hc : NumC X) (s : Bs) (hs : s.length ≤ 281474976710656) : (R FT X).f 66 [strL s] = some (.tuple [intA (numV s), intA (numE s)]) := by
 cases hd : decB s
 ·rw [parse_n s (lmx hs) hd, (num_bad hd).1, (num_bad hd).2]
 ·by_cases hi : InI64 (valI s)
  ·rw [parse_y s (lmx hs) hd _ (hc.ok s hs hd hi), (num_ok hd hi).1, (num_ok hd hi).2]
  ·rw [parse_o s (lmx hs) hd _ (hc.over s hs hd hi), (num_over hd hi).1, (num_over hd hi).2]
theorem numV_in (s : Bs) : InI64 (numV s) := by
 unfold numV
 split
 ·rename_i h; exact h.2
 ·unfold InI64; omega
theorem numV_form {s : Bs} (h : numE s = 0) : Lib.itoa (numV s) = s := by
 unfold numE at h
 split at h
 ·rename_i hd
  split at h
  ·rename_i hi
   rw [(num_ok hd hi).1, itoa_uniq hd]
  ·cases h
 ·cases h
end
end Go.Proofs.YtfedemnaeggokaaGreatDoor
end
section
namespace Go.Proofs.YtfedemnaeggokaaGreatDoor
set_option linter.unusedVariables false
set_option linter.unusedSimpArgs false
set_option maxRecDepth 100000
section
variable {X : CallF}
theorem number_run0 (hc : NumC X) (s : Bs) (hs : s.length ≤ 281474976710656) (a : Nat) (ha : a ≤ s.length) (low : Int) (L : List AV) (x y : Int) : (R FT X).m 53 [.ptr 0 0, intA low] [.box 54 [strL s, intA a, intA 0, intA 0], .row 0 2 L true 1, .box 50 [intA x, intA y]] = some (intA (numV (dgs s a)), [.box 54 [strL s, intA (a + (dgs s a).length : Nat), intA (nmE low (dgs s a)), intA (nmB low (dgs s a) a)], .row 0 2 L true 1, .box 50 [intA x, intA y]]) := by
 have pr := parse_run hc
 have hm := maxLen_i64
 refine RM_wp ((Tr.inv (fun (k : Nat) ↦ St.mk [(0, AV.ptr 0 0), (1, intA low), (5, intA (↑a : Int))] [MObj.box 54 [strL s, intA (↑(a + k) : Int), intA 0, intA 0], MObj.row 0 2 L true (1 : Nat), MObj.box 50 [intA x, intA y]]) (fun (k : Nat) ↦ k ≤ List.length (dgs s a)) (fun (k : Nat) ↦ List.length (dgs s a) - k) fun (k : Nat) ↦ (Tr.cut (fun (v3 : Cut (3 : Nat) Bool) ↦ St.mk [(2, AV.val (Value.bool v3))] [MObj.box 54 [strL s, intA (↑(a + k) : Int), intA 0, intA 0], MObj.row 0 2 L true (1 : Nat), MObj.box 50 [intA x, intA y]]) (fun (v3 : Cut (3 : Nat) Bool) ↦ (∃ (c4 : UInt8), ∃ (c7 : UInt8), (↑(a + k) : Int) < (↑(List.length s) : Int) ∧ s[a + k]? = some c4 ∧ (48 : Int) ≤ (↑c4.toNat : Int) ∧ s[a + k]? = some c7 ∧ v3 = decide ((↑c7.toNat : Int) ≤ 57)) ∨ (∃ (c4 : UInt8), (↑(a + k) : Int) < (↑(List.length s) : Int) ∧ s[a + k]? = some c4 ∧ ¬(48 : Int) ≤ (↑c4.toNat : Int) ∧ v3 = false) ∨ ¬(↑(a + k) : Int) < (↑(List.length s) : Int) ∧ v3 = false) ((Tr.y (a + k) fun (c4 : UInt8) ↦ (Tr.y (a + k) fun (c : UInt8) ↦ Tr.nil).br Tr.nil).br (Tr.b false Tr.nil))
 fun (v3 : Cut (3 : Nat) Bool) ↦ Tr.nil.w.w.br ((Tr.b true (Tr.b true Tr.nil).w).w.inl.br (Tr.sl a (a + k) (Tr.c (AV.tuple [intA (numV (List.drop a (List.take (a + k) s))), intA (numE (List.drop a (List.take (a + k) s)))]) (Tr.b true (Tr.cut (fun (v21 : Cut (10 : Nat) (Int × Int)) ↦ St.mk [] [MObj.box 54 [strL s, intA (↑(a + k) : Int), AV.val (Value.int IntKind.i64 v21.fst), AV.val (Value.int IntKind.i64 v21.snd)], MObj.row 0 2 L true (1 : Nat), MObj.box 50 [intA x, intA y]]) (fun (v21 : Cut (10 : Nat) (Int × Int)) ↦ ¬numE (List.drop a (List.take (a + k) s)) = 0 ∧ v21.fst = numE (List.drop a (List.take (a + k) s)) ∧ v21.snd = (↑a : Int) ∨ numE (List.drop a (List.take (a + k) s)) = 0 ∧ v21.fst = 0 ∧ v21.snd = 0) (Tr.nil.br Tr.nil) fun (v21 : Cut (10 : Nat) (Int × Int)) ↦ (Tr.cut (fun (v27 : Cut (12 : Nat) (Int × Int)) ↦ St.mk [(6, AV.val (Value.int IntKind.i64 (numV (List.drop a (List.take (a + k) s)))))] [MObj.box 54 [strL s, intA (↑(a + k) : Int), AV.val (Value.int IntKind.i64 v27.fst), AV.val (Value.int IntKind.i64 v27.snd)], MObj.row 0 2 L true (1 : Nat), MObj.box 50 [intA x, intA
 y]]) (fun (v27 : Cut (12 : Nat) (Int × Int)) ↦ (∃ (v28 : Cut (13 : Nat) (Int × Int)), numV (List.drop a (List.take (a + k) s)) < low ∧ (v21.fst = 0 ∧ v28.fst = 2 ∧ v28.snd = (↑a : Int) ∨ ¬v21.fst = 0 ∧ v28.fst = v21.fst ∧ v28.snd = v21.snd) ∧ v27.fst = v28.fst ∧ v27.snd = v28.snd) ∨ ¬numV (List.drop a (List.take (a + k) s)) < low ∧ v27.fst = v21.fst ∧ v27.snd = v21.snd) ((Tr.cut (fun (v28 : Cut (13 : Nat) (Int × Int)) ↦ St.mk [] [MObj.box 54 [strL s, intA (↑(a + k) : Int), AV.val (Value.int IntKind.i64 v28.fst), AV.val (Value.int IntKind.i64 v28.snd)], MObj.row 0 2 L true (1 : Nat), MObj.box 50 [intA x, intA y]]) (fun (v28 : Cut (13 : Nat) (Int × Int)) ↦ v21.fst = 0 ∧ v28.fst = 2 ∧ v28.snd = (↑a : Int) ∨ ¬v21.fst = 0 ∧ v28.fst = v21.fst ∧ v28.snd = v21.snd) ((Tr.b true Tr.nil).w.br (Tr.b false Tr.nil).w) fun (v : Cut (13 : Nat) (Int × Int)) ↦ Tr.nil).inl.br Tr.nil) fun (v : Cut (12 : Nat) (Int × Int)) ↦ Tr.nil).w)).w.inl))).w.w).inl.w).w) rfl ?_
 refine Eq.mpr (by kernel_rfl : _ = ((∃ (j1 : Nat), ((True ∧ low = low ∧ (↑a : Int) = (↑a : Int) ∧ True) ∧ (s = s ∧ (↑a : Int) = (↑(a + j1) : Int) ∧ (0 : Int) = 0 ∧ (0 : Int) = 0) ∧ L = L ∧ x = x ∧ y = y) ∧ j1 ≤ List.length (dgs s a)) ∧ ∀ (k : Nat), k ≤ List.length (dgs s a) → ((decide ((↑(a + k) : Int) < (↑(List.length s) : Int)) = true → (↑(a + k) : Int) = (↑(a + k) : Int) ∧ a + k < List.length s ∧ ∀ (c4 : UInt8), s[a + k]? = some c4 → (decide ((48 : Int) ≤ (↑c4.toNat : Int)) = true → (↑(a + k) : Int) = (↑(a + k) : Int) ∧ a + k < List.length s ∧ ∀ (c7 : UInt8), s[a + k]? = some c7 → ∃ (m3_9 : Cut (3 : Nat) Bool), ((decide ((↑c7.toNat : Int) ≤ 57) = m3_9 ∧ True) ∧ (s = s ∧ (↑(a + k) : Int) = (↑(a + k) : Int) ∧ (0 : Int) = 0 ∧ (0 : Int) = 0) ∧ L = L ∧ x = x ∧ y = y) ∧ ((∃ (c4 : UInt8), ∃ (c7 : UInt8), (↑(a + k) : Int) < (↑(List.length s) : Int) ∧ s[a + k]? = some c4 ∧ (48 : Int) ≤ (↑c4.toNat : Int) ∧ s[a + k]? = some c7 ∧ m3_9 = decide ((↑c7.toNat : Int) ≤ 57)) ∨ (∃ (c4 : UInt8), (↑(a + k) : Int) < (↑(List.length s) : Int) ∧ s[a + k]? = some c4 ∧ ¬(48 : Int) ≤ (↑c4.toNat : Int) ∧ m3_9 = false) ∨ ¬(↑(a + k) : Int) < (↑(List.length s) : Int) ∧ m3_9 = false)) ∧ (decide ((48
 : Int) ≤ (↑c4.toNat : Int)) = false → ∃ (m3_11 : Cut (3 : Nat) Bool), ((false = m3_11 ∧ True) ∧ (s = s ∧ (↑(a + k) : Int) = (↑(a + k) : Int) ∧ (0 : Int) = 0 ∧ (0 : Int) = 0) ∧ L = L ∧ x = x ∧ y = y) ∧ ((∃ (c4 : UInt8), ∃ (c7 : UInt8), (↑(a + k) : Int) < (↑(List.length s) : Int) ∧ s[a + k]? = some c4 ∧ (48 : Int) ≤ (↑c4.toNat : Int) ∧ s[a + k]? = some c7 ∧ m3_11 = decide ((↑c7.toNat : Int) ≤ 57)) ∨ (∃ (c4 : UInt8), (↑(a + k) : Int) < (↑(List.length s) : Int) ∧ s[a + k]? = some c4 ∧ ¬(48 : Int) ≤ (↑c4.toNat : Int) ∧ m3_11 = false) ∨ ¬(↑(a + k) : Int) < (↑(List.length s) : Int) ∧ m3_11 = false))) ∧ (decide ((↑(a + k) : Int) < (↑(List.length s) : Int)) = false → false = false ∧ ∃ (m3_13 : Cut (3 : Nat) Bool), ((false = m3_13 ∧ True) ∧ (s = s ∧ (↑(a + k) : Int) = (↑(a + k) : Int) ∧ (0 : Int) = 0 ∧ (0 : Int) = 0) ∧ L = L ∧ x = x ∧ y = y) ∧ ((∃ (c4 : UInt8), ∃ (c7 : UInt8), (↑(a + k) : Int) < (↑(List.length s) : Int) ∧ s[a + k]? = some c4 ∧ (48 : Int) ≤ (↑c4.toNat : Int) ∧ s[a + k]? = some c7 ∧ m3_13 = decide ((↑c7.toNat : Int) ≤ 57)) ∨ (∃ (c4 : UInt8), (↑(a + k) : Int) < (↑(List.length s) : Int) ∧ s[a + k]? = some c4 ∧ ¬(48 : Int) ≤ (↑c4.toNat
 : Int) ∧ m3_13 = false) ∨ ¬(↑(a + k) : Int) < (↑(List.length s) : Int) ∧ m3_13 = false))) ∧ ∀ (v3 : Cut (3 : Nat) Bool), (∃ (c4 : UInt8), ∃ (c7 : UInt8), (↑(a + k) : Int) < (↑(List.length s) : Int) ∧ s[a + k]? = some c4 ∧ (48 : Int) ≤ (↑c4.toNat : Int) ∧ s[a + k]? = some c7 ∧ v3 = decide ((↑c7.toNat : Int) ≤ 57)) ∨ (∃ (c4 : UInt8), (↑(a + k) : Int) < (↑(List.length s) : Int) ∧ s[a + k]? = some c4 ∧ ¬(48 : Int) ≤ (↑c4.toNat : Int) ∧ v3 = false) ∨ ¬(↑(a + k) : Int) < (↑(List.length s) : Int) ∧ v3 = false → (v3 = true → InI64 ((↑(a + k) : Int) + 1) ∧ ∃ (j17 : Nat), ((True ∧ low = low ∧ (↑a : Int) = (↑a : Int) ∧ True) ∧ (s = s ∧ (↑(a + k) : Int) + 1 = (↑(a + j17) : Int) ∧ (0 : Int) = 0 ∧ (0 : Int) = 0) ∧ L = L ∧ x = x ∧ y = y) ∧ j17 ≤ List.length (dgs s a) ∧ List.length (dgs s a) - j17 < List.length (dgs s a) - k) ∧ (v3 = false → (decide ((↑(a + k) : Int) = (↑a : Int)) = true → true = true ∧ true = true ∧ (0 : Int) = numV (dgs s a) ∧ (s = s ∧ (↑(a + k) : Int) = (↑(a + List.length (dgs s a)) : Int) ∧ (1 : Int) = nmE low (dgs s a) ∧ (↑a : Int) = nmB low (dgs s a) a) ∧ L = L ∧ x = x ∧ y = y) ∧ (decide ((↑(a + k) : Int) = (↑a : Int)) = false → (↑a : Int)
 = (↑a : Int) ∧ (↑(a + k) : Int) = (↑(a + k) : Int) ∧ a ≤ a + k ∧ a + k ≤ List.length s ∧ (R FT X).f 66 [strL (List.drop a (List.take (a + k) s))] = some (AV.tuple [intA (numV (List.drop a (List.take (a + k) s))), intA (numE (List.drop a (List.take (a + k) s)))]) ∧ true = true ∧ (((!decide (numE (List.drop a (List.take (a + k) s)) = 0)) = true → ∃ (m10_22 : Cut (10 : Nat) (Int × Int)), (True ∧ (s = s ∧ (↑(a + k) : Int) = (↑(a + k) : Int) ∧ numE (List.drop a (List.take (a + k) s)) = m10_22.fst ∧ (↑a : Int) = m10_22.snd) ∧ L = L ∧ x = x ∧ y = y) ∧ (¬numE (List.drop a (List.take (a + k) s)) = 0 ∧ m10_22.fst = numE (List.drop a (List.take (a + k) s)) ∧ m10_22.snd = (↑a : Int) ∨ numE (List.drop a (List.take (a + k) s)) = 0 ∧ m10_22.fst = 0 ∧ m10_22.snd = 0)) ∧ ((!decide (numE (List.drop a (List.take (a + k) s)) = 0)) = false → ∃ (m10_24 : Cut (10 : Nat) (Int × Int)), (True ∧ (s = s ∧ (↑(a + k) : Int) = (↑(a + k) : Int) ∧ (0 : Int) = m10_24.fst ∧ (0 : Int) = m10_24.snd) ∧ L = L ∧ x = x ∧ y = y) ∧ (¬numE (List.drop a (List.take (a + k) s)) = 0 ∧ m10_24.fst = numE (List.drop a (List.take (a + k) s)) ∧ m10_24.snd = (↑a : Int)
 ∨ numE (List.drop a (List.take (a + k) s)) = 0 ∧ m10_24.fst = 0 ∧ m10_24.snd = 0))) ∧ ∀ (v21 : Cut (10 : Nat) (Int × Int)), ¬numE (List.drop a (List.take (a + k) s)) = 0 ∧ v21.fst = numE (List.drop a (List.take (a + k) s)) ∧ v21.snd = (↑a : Int) ∨ numE (List.drop a (List.take (a + k) s)) = 0 ∧ v21.fst = 0 ∧ v21.snd = 0 → ((decide (numV (List.drop a (List.take (a + k) s)) < low) = true → ((decide (v21.fst = 0) = true → true = true ∧ ∃ (m13_29 : Cut (13 : Nat) (Int × Int)), (True ∧ (s = s ∧ (↑(a + k) : Int) = (↑(a + k) : Int) ∧ (2 : Int) = m13_29.fst ∧ (↑a : Int) = m13_29.snd) ∧ L = L ∧ x = x ∧ y = y) ∧ (v21.fst = 0 ∧ m13_29.fst = 2 ∧ m13_29.snd = (↑a : Int) ∨ ¬v21.fst = 0 ∧ m13_29.fst = v21.fst ∧ m13_29.snd = v21.snd)) ∧ (decide (v21.fst = 0) = false → false = false ∧ ∃ (m13_31 : Cut (13 : Nat) (Int × Int)), (True ∧ (s = s ∧ (↑(a + k) : Int) = (↑(a + k) : Int) ∧ v21.fst = m13_31.fst ∧ v21.snd = m13_31.snd) ∧ L = L ∧ x = x ∧ y = y) ∧ (v21.fst = 0 ∧ m13_31.fst = 2 ∧ m13_31.snd = (↑a : Int) ∨ ¬v21.fst = 0 ∧ m13_31.fst = v21.fst ∧ m13_31.snd = v21.snd))) ∧ ∀ (v28 : Cut
 (13 : Nat) (Int × Int)), v21.fst = 0 ∧ v28.fst = 2 ∧ v28.snd = (↑a : Int) ∨ ¬v21.fst = 0 ∧ v28.fst = v21.fst ∧ v28.snd = v21.snd → ∃ (m12_34 : Cut (12 : Nat) (Int × Int)), ((numV (List.drop a (List.take (a + k) s)) = numV (List.drop a (List.take (a + k) s)) ∧ True) ∧ (s = s ∧ (↑(a + k) : Int) = (↑(a + k) : Int) ∧ v28.fst = m12_34.fst ∧ v28.snd = m12_34.snd) ∧ L = L ∧ x = x ∧ y = y) ∧ ((∃ (v28 : Cut (13 : Nat) (Int × Int)), numV (List.drop a (List.take (a + k) s)) < low ∧ (v21.fst = 0 ∧ v28.fst = 2 ∧ v28.snd = (↑a : Int) ∨ ¬v21.fst = 0 ∧ v28.fst = v21.fst ∧ v28.snd = v21.snd) ∧ m12_34.fst = v28.fst ∧ m12_34.snd = v28.snd) ∨ ¬numV (List.drop a (List.take (a + k) s)) < low ∧ m12_34.fst = v21.fst ∧ m12_34.snd = v21.snd)) ∧ (decide (numV (List.drop a (List.take (a + k) s)) < low) = false → ∃ (m12_36 : Cut (12 : Nat) (Int × Int)), ((numV (List.drop a (List.take (a + k) s)) = numV (List.drop a (List.take (a + k) s)) ∧ True) ∧ (s = s ∧ (↑(a + k) : Int) = (↑(a + k) : Int) ∧ v21.fst = m12_36.fst ∧ v21.snd = m12_36.snd) ∧ L = L ∧ x = x ∧ y = y) ∧ ((∃ (v28 : Cut (13 : Nat) (Int × Int)), numV (List.drop a (List.take (a + k) s)) < low ∧ (v21.fst = (0
 : Int) ∧ v28.fst = 2 ∧ v28.snd = (↑a : Int) ∨ ¬v21.fst = 0 ∧ v28.fst = v21.fst ∧ v28.snd = v21.snd) ∧ m12_36.fst = v28.fst ∧ m12_36.snd = v28.snd) ∨ ¬numV (List.drop a (List.take (a + k) s)) < low ∧ m12_36.fst = v21.fst ∧ m12_36.snd = v21.snd))) ∧ ∀ (v27 : Cut (12 : Nat) (Int × Int)), (∃ (v28 : Cut (13 : Nat) (Int × Int)), numV (List.drop a (List.take (a + k) s)) < low ∧ (v21.fst = 0 ∧ v28.fst = 2 ∧ v28.snd = (↑a : Int) ∨ ¬v21.fst = 0 ∧ v28.fst = v21.fst ∧ v28.snd = v21.snd) ∧ v27.fst = v28.fst ∧ v27.snd = v28.snd) ∨ ¬numV (List.drop a (List.take (a + k) s)) < low ∧ v27.fst = v21.fst ∧ v27.snd = v21.snd → numV (List.drop a (List.take (a + k) s)) = numV (dgs s a) ∧ (s = s ∧ (↑(a + k) : Int) = (↑(a + List.length (dgs s a)) : Int) ∧ v27.fst = nmE low (dgs s a) ∧ v27.snd = nmB low (dgs s a) a) ∧ L = L ∧ x = x ∧ y = y)))) ?_
 refine ⟨?_, fun k => fun h2 => ⟨⟨fun h3_ => have h3 := dT h3_; ⟨rfl, (by omega), fun c4 => fun h5 => ⟨fun h6_ => have h6 := dT h6_; ⟨rfl, (by omega), fun c7 => fun h8 => ⟨decide ((↑c7.toNat : Int) ≤ (57 : Int)), ⟨⟨(by first | rfl | simp), trivial⟩, ⟨⟨(by first | rfl | simp), ⟨(by first | rfl | simp), ⟨(by first | rfl | simp), (by first | rfl | simp)⟩⟩⟩, ⟨(by first | rfl | simp), ⟨(by first | rfl | simp), (by first | rfl | simp)⟩⟩⟩⟩, Or.inl (⟨c4, c7, h3, h5, h6, h8, rfl⟩)⟩⟩, fun h10_ => have h10 := dF h10_; ⟨false, ⟨⟨(by first | rfl | simp), trivial⟩, ⟨⟨(by first | rfl | simp), ⟨(by first | rfl | simp), ⟨(by first | rfl | simp), (by first | rfl | simp)⟩⟩⟩, ⟨(by first | rfl | simp), ⟨(by first | rfl | simp), (by first | rfl | simp)⟩⟩⟩⟩, Or.inr (Or.inl (⟨c4, h3, h5, h10, rfl⟩))⟩⟩⟩, fun h12_ => have h12 := dF h12_; ⟨rfl, ⟨false, ⟨⟨(by first | rfl | simp), trivial⟩, ⟨⟨(by first | rfl | simp), ⟨(by first | rfl | simp), ⟨(by first | rfl | simp), (by first | rfl | simp)⟩⟩⟩, ⟨(by first | rfl | simp), ⟨(by first | rfl | simp), (by first | rfl | simp)⟩⟩⟩⟩, Or.inr (Or.inr (⟨h12, rfl⟩))⟩⟩⟩, fun v3 => fun h15 => ⟨fun h16 => ⟨?_, ?_⟩, fun h18 => ⟨fun h19_ => have h19 := dT h19_; ⟨rfl, rfl, ?_, ⟨rfl, ?_, ?_, ?_⟩, rfl, rfl, rfl⟩, fun h20_ => have h20 := dF h20_; ⟨rfl, rfl, (by omega), ?_, (pr _ (by exact (by simp; omega))), rfl, ⟨fun h21_ => have h21 := dnT h21_; ⟨(numE (List.drop a (List.take (a + k) s)), (↑a : Int)), ⟨trivial, ⟨⟨(by first | rfl | simp), ⟨(by first | rfl | simp), ⟨(by first | rfl | simp), (by first | rfl | simp)⟩⟩⟩, ⟨(by first | rfl | simp), ⟨(by first | rfl | simp), (by first | rfl | simp)⟩⟩⟩⟩, Or.inl (⟨h21, rfl, rfl⟩)⟩, fun h23_ => have h23 := dnF h23_; ⟨((0 : Int), (0 : Int)), ⟨trivial, ⟨⟨(by first | rfl | simp), ⟨(by first | rfl | simp), ⟨(by first | rfl | simp), (by first | rfl | simp)⟩⟩⟩, ⟨(by first | rfl | simp), ⟨(by first | rfl | simp), (by first | rfl | simp)⟩⟩⟩⟩, Or.inr (⟨h23, rfl, rfl⟩)⟩⟩, fun v21 => fun h26 => ⟨⟨fun h27_ => have h27 := dT h27_; ⟨⟨fun h28_ => have h28 := dT h28_; ⟨rfl, ⟨((2 : Int), (↑a : Int)), ⟨trivial, ⟨⟨(by first | rfl | simp), ⟨(by first | rfl | simp), ⟨(by first | rfl | simp), (by first | rfl | simp)⟩⟩⟩, ⟨(by first | rfl | simp), ⟨(by first | rfl | simp), (by first | rfl | simp)⟩⟩⟩⟩, Or.inl (⟨h28, rfl, rfl⟩)⟩⟩, fun h30_ => have h30 := dF h30_; ⟨rfl, ⟨(v21.fst, v21.snd), ⟨trivial, ⟨⟨(by first | rfl | simp), ⟨(by first | rfl | simp), ⟨(by first | rfl | simp), (by first | rfl | simp)⟩⟩⟩, ⟨(by first | rfl | simp), ⟨(by first | rfl | simp), (by first | rfl | simp)⟩⟩⟩⟩, Or.inr (⟨h30, rfl, rfl⟩)⟩⟩⟩, fun v28 => fun h33 => ⟨(v28.fst, v28.snd), ⟨⟨(by first | rfl | simp), trivial⟩, ⟨⟨(by first | rfl | simp), ⟨(by first | rfl | simp), ⟨(by first | rfl | simp), (by first | rfl | simp)⟩⟩⟩, ⟨(by first | rfl | simp), ⟨(by first | rfl | simp), (by first | rfl | simp)⟩⟩⟩⟩, Or.inl (⟨v28, h27, h33, rfl, rfl⟩)⟩⟩, fun h35_ => have h35 := dF h35_; ⟨(v21.fst, v21.snd), ⟨⟨(by first | rfl | simp), trivial⟩, ⟨⟨(by first | rfl | simp), ⟨(by first | rfl | simp), ⟨(by first | rfl | simp), (by first | rfl | simp)⟩⟩⟩, ⟨(by first | rfl | simp), ⟨(by first | rfl | simp), (by first | rfl | simp)⟩⟩⟩⟩, Or.inr (⟨h35, rfl, rfl⟩)⟩⟩, fun v27 => fun h38 => ⟨?_, ⟨rfl, ?_, ?_, ?_⟩, rfl, rfl, rfl⟩⟩⟩⟩⟩⟩⟩
 ·exact ⟨0, ⟨⟨trivial, rfl, rfl, trivial⟩, ⟨rfl, rfl, rfl, rfl⟩, rfl, rfl, rfl⟩, Nat.zero_le _⟩
 ·have := digJ_y h15 h16 h2; unfold InI64; omega
 ·have := digJ_y h15 h16 h2
  exact ⟨k + 1, ⟨⟨trivial, rfl, rfl, trivial⟩, ⟨rfl, by omega, rfl, rfl⟩, rfl, rfl, rfl⟩, this.1, by omega⟩
 all_goals obtain rfl := digJ_n h15 h18 h2
 iterate 4
  ·have e : dgs s a = [] := List.length_eq_zero_iff.1 (by omega)
   first | (rw [e]; done) | (rw [e]; exact num_nil.2.symm) | (rw [e]; exact (nmE_nil low).symm) | (rw [e]; exact (nmB_nil low a).symm)
 ·exact dgs_le s a ha
 ·rw [dgs_cut]
 ·rfl
 ·exact (nmJ (congrArg numV (dgs_cut s a)) (congrArg numE (dgs_cut s a)) h26 h38).1
 ·exact (nmJ (congrArg numV (dgs_cut s a)) (congrArg numE (dgs_cut s a)) h26 h38).2
theorem number_run (hc : NumC X) (s : Bs) (hs : s.length ≤ 281474976710656) (a : Nat) (ha : a ≤ s.length) (low E B : Int) (hE : E = 0) (hB : B = 0) (L : List AV) (x y : Int) : (R FT X).m 53 [.ptr 0 0, intA low] [.box 54 [strL s, intA a, intA E, intA B], .row 0 2 L true 1, .box 50 [intA x, intA y]] = some (intA (numV (dgs s a)), [.box 54 [strL s, intA (a + (dgs s a).length : Nat), intA (nmE low (dgs s a)), intA (nmB low (dgs s a) a)], .row 0 2 L true 1, .box 50 [intA x, intA y]]) := by
 subst hE hB; exact number_run0 hc s hs a ha low L x y
theorem element_run (hc : NumC X) (s : Bs) (hs : s.length ≤ 281474976710656) (a : Nat) (ha : a ≤ s.length) (L : List AV) : (R FT X).m 31 [.ptr 0 0] [.box 54 [strL s, intA a, intA 0, intA 0], .row 0 2 L true 1] = some (encSp (el s a).sp, [.box 54 [strL s, intA (el s a).a, intA (el s a).e, intA (el s a).b], .row 0 2 L true 1, .box 50 [intA (el s a).sp.f, intA (el s a).sp.t]]) := by
 have pr := number_run hc s hs
 have hm := maxLen_i64
 have e1 : ((a : Int) + 1) = ((a + 1 : Nat) : Int) := by omega
 refine RM_wp ((Tr.cut (fun (v1 : Cut (2 : Nat) Unit) ↦ St.mk [] [MObj.box 54 [strL s, intA (↑a : Int), intA 0, intA 0], MObj.row 0 2 L true (1 : Nat), MObj.box 50 (List.map AV.val [Value.int IntKind.i64 (0 : Int), Value.int IntKind.i64 (0 : Int)])]) (fun (v1 : Cut (2 : Nat) Unit) ↦ (∃ (c2 : UInt8), (↑a : Int) < (↑(List.length s) : Int) ∧ s[a]? = some c2 ∧ ¬(↑c2.toNat : Int) = 45) ∨ ¬(↑a : Int) < (↑(List.length s) : Int)) ((Tr.y a fun (c2 : UInt8) ↦ ((Tr.b true (Tr.cm (intA (numV (dgs s (a + nat_lit 1)))) [MObj.box 54 [strL s, intA (↑(a + nat_lit 1 + List.length (dgs s (a + nat_lit 1))) : Int), intA (nmE (1 : Int) (dgs s (a + nat_lit 1))), intA (nmB (1 : Int) (dgs s (a + nat_lit 1)) (a + nat_lit 1))], MObj.row 0 2 L true (1 : Nat), MObj.box 50 [intA 0, intA 0]] Tr.nil)).w.w.br Tr.nil).w).br (Tr.b false Tr.nil).w) fun (v1 : Cut (2 : Nat) Unit) ↦ (Tr.b false (Tr.cm (intA (numV (dgs s a))) [MObj.box 54 [strL s, intA (↑(a + List.length (dgs s a)) : Int), intA (nmE (1 : Int) (dgs s a)), intA (nmB (1 : Int) (dgs s a) a)], MObj.row 0 2 L true (1 : Nat), MObj.box 50 [intA
 (0 : Int), intA 0]] ((Tr.b true Tr.nil).w.br (Tr.cut (fun (v13 : Cut (9 : Nat) Unit) ↦ St.mk [] [MObj.box 54 [strL s, intA (↑(a + List.length (dgs s a)) : Int), intA (nmE (1 : Int) (dgs s a)), intA (nmB (1 : Int) (dgs s a) a)], MObj.row 0 2 L true (1 : Nat), MObj.box 50 [intA 0, intA 0]]) (fun (v13 : Cut (9 : Nat) Unit) ↦ (∃ (c14 : UInt8), (↑(a + List.length (dgs s a)) : Int) < (↑(List.length s) : Int) ∧ s[a + List.length (dgs s a)]? = some c14 ∧ ¬(↑c14.toNat : Int) = 45) ∨ ¬(↑(a + List.length (dgs s a)) : Int) < (↑(List.length s) : Int)) ((Tr.y (a + List.length (dgs s a)) fun (c14 : UInt8) ↦ ((Tr.b false (Tr.cut (fun (v17 : Cut (13 : Nat) Bool) ↦ St.mk [(2, AV.val (Value.bool v17))] [MObj.box 54 [strL s, intA ((↑(a + List.length (dgs s a)) : Int) + 1), intA (nmE (1 : Int) (dgs s a)), intA (nmB (1 : Int) (dgs s a) a)], MObj.row 0 2 L true (1 : Nat), MObj.box 50 [intA 0, intA 0]]) (fun (v17 : Cut (13 : Nat) Bool) ↦ (∃ (c18 : UInt8), ∃ (c21 : UInt8), (↑(a + List.length (dgs s a)) : Int) + 1 < (↑(List.length s) : Int) ∧ s[a + List.length (dgs s a) + (1
 : Nat)]? = some c18 ∧ (48 : Int) ≤ (↑c18.toNat : Int) ∧ s[a + List.length (dgs s a) + 1]? = some c21 ∧ v17 = decide ((↑c21.toNat : Int) ≤ 57)) ∨ (∃ (c18 : UInt8), (↑(a + List.length (dgs s a)) : Int) + 1 < (↑(List.length s) : Int) ∧ s[a + List.length (dgs s a) + 1]? = some c18 ∧ ¬(48 : Int) ≤ (↑c18.toNat : Int) ∧ v17 = false) ∨ ¬(↑(a + List.length (dgs s a)) : Int) + 1 < (↑(List.length s) : Int) ∧ v17 = false) ((Tr.y (a + List.length (dgs s a) + 1) fun (c18 : UInt8) ↦ (Tr.y (a + List.length (dgs s a) + 1) fun (c : UInt8) ↦ Tr.nil).br Tr.nil).br (Tr.b false Tr.nil)) fun (v17 : Cut (13 : Nat) Bool) ↦ (Tr.nil.br (Tr.cm (intA (numV (dgs s (a + List.length (dgs s a) + nat_lit 1)))) [MObj.box 54 [strL s, intA (↑(a + List.length (dgs s a) + nat_lit 1 + List.length (dgs s (a + List.length (dgs s a) + nat_lit 1))) : Int), intA (nmE (if numV (dgs s a) > (1 : Int) then numV (dgs s a) else (1 : Int)) (dgs s (a + List.length (dgs s a) + nat_lit 1))), intA (nmB (if numV (dgs s a) > (1 : Int) then numV (dgs s a) else (1 : Int)) (dgs s (a + List.length (dgs s a) + nat_lit 1)) (a + List.length (dgs s a) + nat_lit 1))], MObj.row 0
 (2 : Nat) L true (1 : Nat), MObj.box 50 [intA 0, intA 0]] Tr.nil)).w).inl.w).w.w.br Tr.nil).w).br (Tr.b false Tr.nil).w) fun (v13 : Cut (9 : Nat) Unit) ↦ (Tr.b true Tr.nil).w).inl).w)).w).inl.w) rfl ?_
 refine Eq.mpr (by kernel_rfl : _ = (((decide ((↑a : Int) < (↑(List.length s) : Int)) = true → (↑a : Int) = (↑a : Int) ∧ a < List.length s ∧ ∀ (c2 : UInt8), s[a]? = some c2 → (decide ((↑c2.toNat : Int) = 45) = true → InI64 ((↑a : Int) + 1) ∧ true = true ∧ (R FT X).m 53 [AV.ptr 0 0, intA 1] [MObj.box 54 [strL s, intA (↑(a + nat_lit 1) : Int), intA 0, intA 0], MObj.row 0 2 L true (1 : Nat), MObj.box 50 [intA 0, intA 0]] = some (intA (numV (dgs s (a + nat_lit 1))), [MObj.box 54 [strL s, intA (↑(a + nat_lit 1 + List.length (dgs s (a + nat_lit 1))) : Int), intA (nmE (1 : Int) (dgs s (a + nat_lit 1))), intA (nmB (1 : Int) (dgs s (a + nat_lit 1)) (a + nat_lit 1))], MObj.row 0 2 L true (1 : Nat), MObj.box 50 [intA 0, intA 0]]) ∧ ((1 : Int) = (el s a).sp.f ∧ numV (dgs s (a + nat_lit 1)) = (el s a).sp.t) ∧ (s = s ∧ (↑(a + nat_lit 1 + List.length (dgs s (a + nat_lit 1))) : Int) = (↑(el s a).a : Int) ∧ nmE (1 : Int) (dgs s (a + nat_lit 1)) = (el s a).e ∧ nmB (1 : Int) (dgs s (a + nat_lit 1)) (a + nat_lit 1) = (el s a).b) ∧ L = L ∧ (1 : Int) = (el s a).sp.f ∧
 numV (dgs s (a + nat_lit 1)) = (el s a).sp.t) ∧ (decide ((↑c2.toNat : Int) = 45) = false → ∃ (m2_6 : Cut (2 : Nat) Unit), (True ∧ (s = s ∧ (↑a : Int) = (↑a : Int) ∧ (0 : Int) = 0 ∧ (0 : Int) = 0) ∧ L = L ∧ (0 : Int) = 0 ∧ (0 : Int) = 0) ∧ ((∃ (c2 : UInt8), (↑a : Int) < (↑(List.length s) : Int) ∧ s[a]? = some c2 ∧ ¬(↑c2.toNat : Int) = 45) ∨ ¬(↑a : Int) < (↑(List.length s) : Int)))) ∧ (decide ((↑a : Int) < (↑(List.length s) : Int)) = false → false = false ∧ ∃ (m2_8 : Cut (2 : Nat) Unit), (True ∧ (s = s ∧ (↑a : Int) = (↑a : Int) ∧ (0 : Int) = 0 ∧ (0 : Int) = 0) ∧ L = L ∧ (0 : Int) = 0 ∧ (0 : Int) = 0) ∧ ((∃ (c2 : UInt8), (↑a : Int) < (↑(List.length s) : Int) ∧ s[a]? = some c2 ∧ ¬(↑c2.toNat : Int) = 45) ∨ ¬(↑a : Int) < (↑(List.length s) : Int)))) ∧ ∀ (v1 : Cut (2 : Nat) Unit), (∃ (c2 : UInt8), (↑a : Int) < (↑(List.length s) : Int) ∧ s[a]? = some c2 ∧ ¬(↑c2.toNat : Int) = 45) ∨ ¬(↑a : Int) < (↑(List.length s) : Int) → false = false ∧ (R FT X).m 53 [AV.ptr 0 0, intA 1] [MObj.box 54 [strL s, intA (↑a : Int), intA 0, intA 0], MObj.row
 (0 : Nat) (2 : Nat) L true (1 : Nat), MObj.box 50 [intA 0, intA 0]] = some (intA (numV (dgs s a)), [MObj.box 54 [strL s, intA (↑(a + List.length (dgs s a)) : Int), intA (nmE (1 : Int) (dgs s a)), intA (nmB (1 : Int) (dgs s a) a)], MObj.row 0 2 L true (1 : Nat), MObj.box 50 [intA 0, intA 0]]) ∧ ((!decide (nmE (1 : Int) (dgs s a) = 0)) = true → true = true ∧ (numV (dgs s a) = (el s a).sp.f ∧ numV (dgs s a) = (el s a).sp.t) ∧ (s = s ∧ (↑(a + List.length (dgs s a)) : Int) = (↑(el s a).a : Int) ∧ nmE (1 : Int) (dgs s a) = (el s a).e ∧ nmB (1 : Int) (dgs s a) a = (el s a).b) ∧ L = L ∧ numV (dgs s a) = (el s a).sp.f ∧ numV (dgs s a) = (el s a).sp.t) ∧ ((!decide (nmE (1 : Int) (dgs s a) = 0)) = false → ((decide ((↑(a + List.length (dgs s a)) : Int) < (↑(List.length s) : Int)) = true → (↑(a + List.length (dgs s a)) : Int) = (↑(a + List.length (dgs s a)) : Int) ∧ a + List.length (dgs s a) < List.length s ∧ ∀ (c14 : UInt8), s[a + List.length (dgs s a)]? = some c14 → (decide ((↑c14.toNat : Int) = 45) = true → InI64 ((↑(a + List.length (dgs s a)) : Int) + 1) ∧ false = false ∧ ((decide
 ((↑(a + List.length (dgs s a)) : Int) + 1 < (↑(List.length s) : Int)) = true → (↑(a + List.length (dgs s a)) : Int) + 1 = (↑(a + List.length (dgs s a) + 1) : Int) ∧ a + List.length (dgs s a) + 1 < List.length s ∧ ∀ (c18 : UInt8), s[a + List.length (dgs s a) + 1]? = some c18 → (decide ((48 : Int) ≤ (↑c18.toNat : Int)) = true → (↑(a + List.length (dgs s a)) : Int) + 1 = (↑(a + List.length (dgs s a) + 1) : Int) ∧ a + List.length (dgs s a) + 1 < List.length s ∧ ∀ (c21 : UInt8), s[a + List.length (dgs s a) + 1]? = some c21 → ∃ (m13_23 : Cut (13 : Nat) Bool), ((decide ((↑c21.toNat : Int) ≤ 57) = m13_23 ∧ True) ∧ (s = s ∧ (↑(a + List.length (dgs s a)) : Int) + 1 = (↑(a + List.length (dgs s a)) : Int) + 1 ∧ nmE (1 : Int) (dgs s a) = nmE (1 : Int) (dgs s a) ∧ nmB (1 : Int) (dgs s a) a = nmB (1 : Int) (dgs s a) a) ∧ L = L ∧ (0 : Int) = 0 ∧ (0 : Int) = 0) ∧ ((∃ (c18 : UInt8), ∃ (c21 : UInt8), (↑(a + List.length (dgs s a)) : Int) + 1 < (↑(List.length s) : Int) ∧ s[a + List.length (dgs s a) + 1]? = some c18 ∧ (48 : Int) ≤ (↑c18.toNat : Int) ∧ s[a + List.length (dgs s a)
 + (1 : Nat)]? = some c21 ∧ m13_23 = decide ((↑c21.toNat : Int) ≤ 57)) ∨ (∃ (c18 : UInt8), (↑(a + List.length (dgs s a)) : Int) + 1 < (↑(List.length s) : Int) ∧ s[a + List.length (dgs s a) + 1]? = some c18 ∧ ¬(48 : Int) ≤ (↑c18.toNat : Int) ∧ m13_23 = false) ∨ ¬(↑(a + List.length (dgs s a)) : Int) + 1 < (↑(List.length s) : Int) ∧ m13_23 = false)) ∧ (decide ((48 : Int) ≤ (↑c18.toNat : Int)) = false → ∃ (m13_25 : Cut (13 : Nat) Bool), ((false = m13_25 ∧ True) ∧ (s = s ∧ (↑(a + List.length (dgs s a)) : Int) + 1 = (↑(a + List.length (dgs s a)) : Int) + 1 ∧ nmE (1 : Int) (dgs s a) = nmE (1 : Int) (dgs s a) ∧ nmB (1 : Int) (dgs s a) a = nmB (1 : Int) (dgs s a) a) ∧ L = L ∧ (0 : Int) = 0 ∧ (0 : Int) = 0) ∧ ((∃ (c18 : UInt8), ∃ (c21 : UInt8), (↑(a + List.length (dgs s a)) : Int) + 1 < (↑(List.length s) : Int) ∧ s[a + List.length (dgs s a) + 1]? = some c18 ∧ (48 : Int) ≤ (↑c18.toNat : Int) ∧ s[a + List.length (dgs s a) + 1]? = some c21 ∧ m13_25 = decide ((↑c21.toNat : Int) ≤ 57)) ∨ (∃ (c18 : UInt8), (↑(a + List.length (dgs s a)) : Int) + 1 < (↑(List.length s) : Int) ∧ s[a + List.length (dgs
 s a) + 1]? = some c18 ∧ ¬(48 : Int) ≤ (↑c18.toNat : Int) ∧ m13_25 = false) ∨ ¬(↑(a + List.length (dgs s a)) : Int) + 1 < (↑(List.length s) : Int) ∧ m13_25 = false))) ∧ (decide ((↑(a + List.length (dgs s a)) : Int) + 1 < (↑(List.length s) : Int)) = false → false = false ∧ ∃ (m13_27 : Cut (13 : Nat) Bool), ((false = m13_27 ∧ True) ∧ (s = s ∧ (↑(a + List.length (dgs s a)) : Int) + 1 = (↑(a + List.length (dgs s a)) : Int) + 1 ∧ nmE (1 : Int) (dgs s a) = nmE (1 : Int) (dgs s a) ∧ nmB (1 : Int) (dgs s a) a = nmB (1 : Int) (dgs s a) a) ∧ L = L ∧ (0 : Int) = 0 ∧ (0 : Int) = 0) ∧ ((∃ (c18 : UInt8), ∃ (c21 : UInt8), (↑(a + List.length (dgs s a)) : Int) + 1 < (↑(List.length s) : Int) ∧ s[a + List.length (dgs s a) + 1]? = some c18 ∧ (48 : Int) ≤ (↑c18.toNat : Int) ∧ s[a + List.length (dgs s a) + 1]? = some c21 ∧ m13_27 = decide ((↑c21.toNat : Int) ≤ 57)) ∨ (∃ (c18 : UInt8), (↑(a + List.length (dgs s a)) : Int) + 1 < (↑(List.length s) : Int) ∧ s[a + List.length (dgs s a) + 1]? = some c18 ∧ ¬(48 : Int) ≤ (↑c18.toNat : Int) ∧ m13_27 = false) ∨ ¬(↑(a + List.length (dgs s a)) : Int) + 1 <
 (↑(List.length s) : Int) ∧ m13_27 = false))) ∧ ∀ (v17 : Cut (13 : Nat) Bool), (∃ (c18 : UInt8), ∃ (c21 : UInt8), (↑(a + List.length (dgs s a)) : Int) + 1 < (↑(List.length s) : Int) ∧ s[a + List.length (dgs s a) + 1]? = some c18 ∧ (48 : Int) ≤ (↑c18.toNat : Int) ∧ s[a + List.length (dgs s a) + 1]? = some c21 ∧ v17 = decide ((↑c21.toNat : Int) ≤ 57)) ∨ (∃ (c18 : UInt8), (↑(a + List.length (dgs s a)) : Int) + 1 < (↑(List.length s) : Int) ∧ s[a + List.length (dgs s a) + 1]? = some c18 ∧ ¬(48 : Int) ≤ (↑c18.toNat : Int) ∧ v17 = false) ∨ ¬(↑(a + List.length (dgs s a)) : Int) + 1 < (↑(List.length s) : Int) ∧ v17 = false → ((!v17) = true → (numV (dgs s a) = (el s a).sp.f ∧ (0 : Int) = (el s a).sp.t) ∧ (s = s ∧ (↑(a + List.length (dgs s a)) : Int) + 1 = (↑(el s a).a : Int) ∧ nmE (1 : Int) (dgs s a) = (el s a).e ∧ nmB (1 : Int) (dgs s a) a = (el s a).b) ∧ L = L ∧ numV (dgs s a) = (el s a).sp.f ∧ (0 : Int) = (el s a).sp.t) ∧ ((!v17) = false → (R FT X).m 53 [AV.ptr 0 0, intA (if numV (dgs s a) > (1 : Int) then numV (dgs s a) else (1 : Int))] [MObj.box 54 [strL s, intA (↑(a + List.length (dgs s
 a) + nat_lit 1) : Int), intA (nmE (1 : Int) (dgs s a)), intA (nmB (1 : Int) (dgs s a) a)], MObj.row 0 2 L true (1 : Nat), MObj.box 50 [intA 0, intA 0]] = some (intA (numV (dgs s (a + List.length (dgs s a) + nat_lit 1))), [MObj.box 54 [strL s, intA (↑(a + List.length (dgs s a) + nat_lit 1 + List.length (dgs s (a + List.length (dgs s a) + nat_lit 1))) : Int), intA (nmE (if numV (dgs s a) > (1 : Int) then numV (dgs s a) else (1 : Int)) (dgs s (a + List.length (dgs s a) + nat_lit 1))), intA (nmB (if numV (dgs s a) > (1 : Int) then numV (dgs s a) else (1 : Int)) (dgs s (a + List.length (dgs s a) + nat_lit 1)) (a + List.length (dgs s a) + nat_lit 1))], MObj.row 0 2 L true (1 : Nat), MObj.box 50 [intA 0, intA 0]]) ∧ (numV (dgs s a) = (el s a).sp.f ∧ numV (dgs s (a + List.length (dgs s a) + nat_lit 1)) = (el s a).sp.t) ∧ (s = s ∧ (↑(a + List.length (dgs s a) + nat_lit 1 + List.length (dgs s (a + List.length (dgs s a) + nat_lit 1))) : Int) = (↑(el s a).a : Int) ∧ nmE (if numV (dgs s a) > (1 : Int) then numV (dgs s a) else (1 : Int)) (dgs s (a + List.length (dgs s a) + nat_lit 1)) = (el s a).e ∧ nmB
 (if numV (dgs s a) > (1 : Int) then numV (dgs s a) else (1 : Int)) (dgs s (a + List.length (dgs s a) + nat_lit 1)) (a + List.length (dgs s a) + nat_lit 1) = (el s a).b) ∧ L = L ∧ numV (dgs s a) = (el s a).sp.f ∧ numV (dgs s (a + List.length (dgs s a) + nat_lit 1)) = (el s a).sp.t)) ∧ (decide ((↑c14.toNat : Int) = 45) = false → ∃ (m9_33 : Cut (9 : Nat) Unit), (True ∧ (s = s ∧ (↑(a + List.length (dgs s a)) : Int) = (↑(a + List.length (dgs s a)) : Int) ∧ nmE (1 : Int) (dgs s a) = nmE (1 : Int) (dgs s a) ∧ nmB (1 : Int) (dgs s a) a = nmB (1 : Int) (dgs s a) a) ∧ L = L ∧ (0 : Int) = 0 ∧ (0 : Int) = 0) ∧ ((∃ (c14 : UInt8), (↑(a + List.length (dgs s a)) : Int) < (↑(List.length s) : Int) ∧ s[a + List.length (dgs s a)]? = some c14 ∧ ¬(↑c14.toNat : Int) = 45) ∨ ¬(↑(a + List.length (dgs s a)) : Int) < (↑(List.length s) : Int)))) ∧ (decide ((↑(a + List.length (dgs s a)) : Int) < (↑(List.length s) : Int)) = false → false = false ∧ ∃ (m9_35 : Cut (9 : Nat) Unit), (True ∧ (s = s ∧ (↑(a + List.length (dgs s a)) : Int) = (↑(a + List.length (dgs s a)) : Int) ∧ nmE (1 : Int) (dgs s a) = nmE (1 : Int) (dgs s a) ∧ nmB (1 : Int) (dgs s a) a = nmB (1 : Int) (dgs s a) a) ∧ L
 = L ∧ (0 : Int) = 0 ∧ (0 : Int) = 0) ∧ ((∃ (c14 : UInt8), (↑(a + List.length (dgs s a)) : Int) < (↑(List.length s) : Int) ∧ s[a + List.length (dgs s a)]? = some c14 ∧ ¬(↑c14.toNat : Int) = 45) ∨ ¬(↑(a + List.length (dgs s a)) : Int) < (↑(List.length s) : Int)))) ∧ ∀ (v13 : Cut (9 : Nat) Unit), (∃ (c14 : UInt8), (↑(a + List.length (dgs s a)) : Int) < (↑(List.length s) : Int) ∧ s[a + List.length (dgs s a)]? = some c14 ∧ ¬(↑c14.toNat : Int) = 45) ∨ ¬(↑(a + List.length (dgs s a)) : Int) < (↑(List.length s) : Int) → true = true ∧ (numV (dgs s a) = (el s a).sp.f ∧ numV (dgs s a) = (el s a).sp.t) ∧ (s = s ∧ (↑(a + List.length (dgs s a)) : Int) = (↑(el s a).a : Int) ∧ nmE (1 : Int) (dgs s a) = (el s a).e ∧ nmB (1 : Int) (dgs s a) a = (el s a).b) ∧ L = L ∧ numV (dgs s a) = (el s a).sp.f ∧ numV (dgs s a) = (el s a).sp.t))) ?_
 refine ⟨⟨fun h1_ => have h1 := dT h1_; ⟨rfl, (by omega), fun c2 => fun h3 => ⟨fun h4_ => have h4 := dT h4_; ⟨(by unfold InI64; omega), rfl, (pr _ (by exact (by simp; omega)) _ _ _ (by exact rfl) (by exact rfl) _ _ _), ⟨?_, ?_⟩, ⟨rfl, ?_, ?_, ?_⟩, rfl, ?_, ?_⟩, fun h5_ => have h5 := dF h5_; ⟨(), ⟨trivial, ⟨⟨(by first | rfl | simp), ⟨(by first | rfl | simp), ⟨(by first | rfl | simp), (by first | rfl | simp)⟩⟩⟩, ⟨(by first | rfl | simp), ⟨(by first | rfl | simp), (by first | rfl | simp)⟩⟩⟩⟩, Or.inl (⟨c2, h1, h3, h5⟩)⟩⟩⟩, fun h7_ => have h7 := dF h7_; ⟨rfl, ⟨(), ⟨trivial, ⟨⟨(by first | rfl | simp), ⟨(by first | rfl | simp), ⟨(by first | rfl | simp), (by first | rfl | simp)⟩⟩⟩, ⟨(by first | rfl | simp), ⟨(by first | rfl | simp), (by first | rfl | simp)⟩⟩⟩⟩, Or.inr (h7)⟩⟩⟩, fun v1 => fun h10 => ⟨rfl, (pr _ ha _ _ _ (by exact rfl) (by exact rfl) _ _ _), fun h11_ => have h11 := dnT h11_; ⟨rfl, ⟨?_, ?_⟩, ⟨rfl, ?_, ?_, ?_⟩, rfl, ?_, ?_⟩, fun h12_ => have h12 := dnF h12_; ⟨⟨fun h13_ => have h13 := dT h13_; ⟨rfl, (by omega), fun c14 => fun h15 => ⟨fun h16_ => have h16 := dT h16_; ⟨(by unfold InI64; omega), rfl, ⟨fun h17_ => have h17 := dT h17_; ⟨(by omega), (by omega), fun c18 => fun h19 => ⟨fun h20_ => have h20 := dT h20_; ⟨(by omega), (by omega), fun c21 => fun h22 => ⟨decide ((↑c21.toNat : Int) ≤ (57 : Int)), ⟨⟨(by first | rfl | simp), trivial⟩, ⟨⟨(by first | rfl | simp), ⟨(by first | rfl | simp), ⟨(by first | rfl | simp), (by first | rfl | simp)⟩⟩⟩, ⟨(by first | rfl | simp), ⟨(by first | rfl | simp), (by first | rfl | simp)⟩⟩⟩⟩, Or.inl (⟨c18, c21, h17, h19, h20, h22, rfl⟩)⟩⟩, fun h24_ => have h24 := dF h24_; ⟨false, ⟨⟨(by first | rfl | simp), trivial⟩, ⟨⟨(by first | rfl | simp), ⟨(by first | rfl | simp), ⟨(by first | rfl | simp), (by first | rfl | simp)⟩⟩⟩, ⟨(by first | rfl | simp), ⟨(by first | rfl | simp), (by first | rfl | simp)⟩⟩⟩⟩, Or.inr (Or.inl (⟨c18, h17, h19, h24, rfl⟩))⟩⟩⟩, fun h26_ => have h26 := dF h26_; ⟨rfl, ⟨false, ⟨⟨(by first | rfl | simp), trivial⟩, ⟨⟨(by first | rfl | simp), ⟨(by first | rfl | simp), ⟨(by first | rfl | simp), (by first | rfl | simp)⟩⟩⟩, ⟨(by first | rfl | simp), ⟨(by first | rfl | simp), (by first | rfl | simp)⟩⟩⟩⟩, Or.inr (Or.inr (⟨h26, rfl⟩))⟩⟩⟩, fun v17 => fun h29 => ⟨fun h30_ => have h30 := nT h30_; ⟨⟨?_, ?_⟩, ⟨rfl, ?_, ?_, ?_⟩, rfl, ?_, ?_⟩, fun h31_ => have h31 := nF h31_; ⟨(pr _ (by exact (by simp; omega)) _ _ _ h12 ?_ _ _ _), ⟨?_, ?_⟩, ⟨rfl, ?_, ?_, ?_⟩, rfl, ?_, ?_⟩⟩⟩, fun h32_ => have h32 := dF h32_; ⟨(), ⟨trivial, ⟨⟨(by first | rfl | simp), ⟨(by first | rfl | simp), ⟨(by first | rfl | simp), (by first | rfl | simp)⟩⟩⟩, ⟨(by first | rfl | simp), ⟨(by first | rfl | simp), (by first | rfl | simp)⟩⟩⟩⟩, Or.inl (⟨c14, h13, h15, h32⟩)⟩⟩⟩, fun h34_ => have h34 := dF h34_; ⟨rfl, ⟨(), ⟨trivial, ⟨⟨(by first | rfl | simp), ⟨(by first | rfl | simp), ⟨(by first | rfl | simp), (by first | rfl | simp)⟩⟩⟩, ⟨(by first | rfl | simp), ⟨(by first | rfl | simp), (by first | rfl | simp)⟩⟩⟩⟩, Or.inr (h34)⟩⟩⟩, fun v13 => fun h37 => ⟨rfl, ⟨?_, ?_⟩, ⟨rfl, ?_, ?_, ?_⟩, rfl, ?_, ?_⟩⟩⟩⟩
 iterate 7 · rw [el_minus (is45 h3 h4)]
 all_goals have n0 := not45 h10
 iterate 4 · rw [el_bad n0 h11]
 ·rw [el_bad n0 h11]; exact nmB_n h11
 iterate 2 · rw [el_bad n0 h11]
 iterate 2
  ·rw [el_open n0 h12 (is45 h15 h16) (Classical.byContradiction fun q => by rw [(digJ_0 (a := a + (dgs s a).length + 1) h29).2 q] at h30; cases h30)]
 ·rw [el_open n0 h12 (is45 h15 h16) (Classical.byContradiction fun q => by rw [(digJ_0 (a := a + (dgs s a).length + 1) h29).2 q] at h30; cases h30)]
  dsimp only; omega
 ·rw [el_open n0 h12 (is45 h15 h16) (Classical.byContradiction fun q => by rw [(digJ_0 (a := a + (dgs s a).length + 1) h29).2 q] at h30; cases h30)]
  exact h12
 ·rw [el_open n0 h12 (is45 h15 h16) (Classical.byContradiction fun q => by rw [(digJ_0 (a := a + (dgs s a).length + 1) h29).2 q] at h30; cases h30)]
  exact nmB_y h12
 iterate 2
  ·rw [el_open n0 h12 (is45 h15 h16) (Classical.byContradiction fun q => by rw [(digJ_0 (a := a + (dgs s a).length + 1) h29).2 q] at h30; cases h30)]
 ·exact nmB_y h12
 iterate 7 · rw [el_two n0 h12 (is45 h15 h16) ((digJ_0 (a := a + (dgs s a).length + 1) h29).1 h31)]
 all_goals rw [el_one n0 h12 (not45 h37)]
 ·exact h12
 ·exact nmB_y h12
theorem number2_run (s : Bs) (hs : s.length ≤ maxLen) (a : Nat) (ha : a ≤ s.length) : (R FT X).f 56 [strL s, intA a] = some (.tuple [intA (numV (dgs s a)), intA (nm2A (dgs s a) a), .agg [intA (nmE 1 (dgs s a)), intA (nmB 1 (dgs s a) a)]]) := by
 have hm := maxLen_i64
 refine R_wp (Tr.cut (fun (v1 : Cut (1 : Nat) Int) ↦ St.mk [(0, strL s), (1, intA (↑a : Int)), (6, AV.ptr 0 0), (7, AV.val (Value.int IntKind.i64 v1))] [MObj.box 59 [intA 0, intA 0]]) (fun (v1 : Cut (1 : Nat) Int) ↦ (∃ (k : Nat), ∃ (c4 : UInt8), ∃ (c7 : UInt8), k ≤ List.length (dgs s a) ∧ (↑(a + k) : Int) < (↑(List.length s) : Int) ∧ s[a + k]? = some c4 ∧ (48 : Int) ≤ (↑c4.toNat : Int) ∧ s[a + k]? = some c7 ∧ ¬(↑c7.toNat : Int) ≤ 57 ∧ v1 = (↑(a + k) : Int)) ∨ (∃ (k : Nat), ∃ (c4 : UInt8), k ≤ List.length (dgs s a) ∧ (↑(a + k) : Int) < (↑(List.length s) : Int) ∧ s[a + k]? = some c4 ∧ ¬(48 : Int) ≤ (↑c4.toNat : Int) ∧ v1 = (↑(a + k) : Int)) ∨ ∃ (k : Nat), k ≤ List.length (dgs s a) ∧ ¬(↑(a + k) : Int) < (↑(List.length s) : Int) ∧ v1 = (↑(a + k) : Int)) (Tr.inv (fun (k : Nat) ↦ St.mk [(0, strL s), (1, intA (↑a : Int)), (6, AV.ptr 0 0), (7, intA (↑(a + k) : Int))] [MObj.box 59 [intA 0, intA 0]]) (fun (k : Nat) ↦ k ≤ List.length (dgs s a)) (fun (k : Nat) ↦ List.length (dgs s a) - k) fun (k : Nat) ↦ ((Tr.y (a + k) fun (c4 : UInt8) ↦ (Tr.y (a + k) fun
 (c7 : UInt8) ↦ Tr.nil.w.w.br Tr.nil).br (Tr.b false Tr.nil)).br (Tr.b false (Tr.b false Tr.nil))).w) fun (v1 : Cut (1 : Nat) Int) ↦ Tr.sl a (Int.toNat v1) (Tr.c (AV.tuple [intA (numV (List.drop a (List.take (Int.toNat v1) s))), intA (numE (List.drop a (List.take (Int.toNat v1) s)))]) (Tr.nil.br (Tr.nil.br Tr.nil).w.w).w.w)) rfl ?_
 refine Eq.mpr (by kernel_rfl : _ = (((∃ (j1 : Nat), ((s = s ∧ (↑a : Int) = (↑a : Int) ∧ True ∧ (↑a : Int) = (↑(a + j1) : Int) ∧ True) ∧ (0 : Int) = 0 ∧ (0 : Int) = 0) ∧ j1 ≤ List.length (dgs s a)) ∧ ∀ (k : Nat), k ≤ List.length (dgs s a) → (decide ((↑(a + k) : Int) < (↑(List.length s) : Int)) = true → (↑(a + k) : Int) = (↑(a + k) : Int) ∧ a + k < List.length s ∧ ∀ (c4 : UInt8), s[a + k]? = some c4 → (decide ((48 : Int) ≤ (↑c4.toNat : Int)) = true → (↑(a + k) : Int) = (↑(a + k) : Int) ∧ a + k < List.length s ∧ ∀ (c7 : UInt8), s[a + k]? = some c7 → (decide ((↑c7.toNat : Int) ≤ 57) = true → InI64 ((↑(a + k) : Int) + 1) ∧ ∃ (j10 : Nat), ((s = s ∧ (↑a : Int) = (↑a : Int) ∧ True ∧ (↑(a + k) : Int) + 1 = (↑(a + j10) : Int) ∧ True) ∧ (0 : Int) = 0 ∧ (0 : Int) = 0) ∧ j10 ≤ List.length (dgs s a) ∧ List.length (dgs s a) - j10 < List.length (dgs s a) - k) ∧ (decide ((↑c7.toNat : Int) ≤ 57) = false → ∃ (m1_12 : Cut (1 : Nat) Int), ((s = s ∧ (↑a : Int) = (↑a : Int) ∧ True ∧ (↑(a + k) : Int) = m1_12 ∧ True) ∧ (0 : Int) = 0 ∧ (0 : Int) = 0) ∧ ((∃ (k : Nat), ∃ (c4 : UInt8), ∃ (c7 : UInt8), k ≤ List.length (dgs s a) ∧ (↑(a + k) : Int) < (↑(List.length s) :
 Int) ∧ s[a + k]? = some c4 ∧ (48 : Int) ≤ (↑c4.toNat : Int) ∧ s[a + k]? = some c7 ∧ ¬(↑c7.toNat : Int) ≤ 57 ∧ m1_12 = (↑(a + k) : Int)) ∨ (∃ (k : Nat), ∃ (c4 : UInt8), k ≤ List.length (dgs s a) ∧ (↑(a + k) : Int) < (↑(List.length s) : Int) ∧ s[a + k]? = some c4 ∧ ¬(48 : Int) ≤ (↑c4.toNat : Int) ∧ m1_12 = (↑(a + k) : Int)) ∨ ∃ (k : Nat), k ≤ List.length (dgs s a) ∧ ¬(↑(a + k) : Int) < (↑(List.length s) : Int) ∧ m1_12 = (↑(a + k) : Int)))) ∧ (decide ((48 : Int) ≤ (↑c4.toNat : Int)) = false → false = false ∧ ∃ (m1_14 : Cut (1 : Nat) Int), ((s = s ∧ (↑a : Int) = (↑a : Int) ∧ True ∧ (↑(a + k) : Int) = m1_14 ∧ True) ∧ (0 : Int) = 0 ∧ (0 : Int) = 0) ∧ ((∃ (k : Nat), ∃ (c4 : UInt8), ∃ (c7 : UInt8), k ≤ List.length (dgs s a) ∧ (↑(a + k) : Int) < (↑(List.length s) : Int) ∧ s[a + k]? = some c4 ∧ (48 : Int) ≤ (↑c4.toNat : Int) ∧ s[a + k]? = some c7 ∧ ¬(↑c7.toNat : Int) ≤ 57 ∧ m1_14 = (↑(a + k) : Int)) ∨ (∃ (k : Nat), ∃ (c4 : UInt8), k ≤ List.length (dgs s a) ∧ (↑(a + k) : Int) < (↑(List.length s) : Int) ∧ s[a + k]? = some c4 ∧ ¬(48 : Int) ≤ (↑c4.toNat : Int) ∧ m1_14 = (↑(a + k) : Int)) ∨ ∃ (k : Nat), k ≤ List.length (dgs s a) ∧ ¬(↑(a + k) : Int) < (↑(List.length
 s) : Int) ∧ m1_14 = (↑(a + k) : Int)))) ∧ (decide ((↑(a + k) : Int) < (↑(List.length s) : Int)) = false → false = false ∧ false = false ∧ ∃ (m1_16 : Cut (1 : Nat) Int), ((s = s ∧ (↑a : Int) = (↑a : Int) ∧ True ∧ (↑(a + k) : Int) = m1_16 ∧ True) ∧ (0 : Int) = 0 ∧ (0 : Int) = 0) ∧ ((∃ (k : Nat), ∃ (c4 : UInt8), ∃ (c7 : UInt8), k ≤ List.length (dgs s a) ∧ (↑(a + k) : Int) < (↑(List.length s) : Int) ∧ s[a + k]? = some c4 ∧ (48 : Int) ≤ (↑c4.toNat : Int) ∧ s[a + k]? = some c7 ∧ ¬(↑c7.toNat : Int) ≤ 57 ∧ m1_16 = (↑(a + k) : Int)) ∨ (∃ (k : Nat), ∃ (c4 : UInt8), k ≤ List.length (dgs s a) ∧ (↑(a + k) : Int) < (↑(List.length s) : Int) ∧ s[a + k]? = some c4 ∧ ¬(48 : Int) ≤ (↑c4.toNat : Int) ∧ m1_16 = (↑(a + k) : Int)) ∨ ∃ (k : Nat), k ≤ List.length (dgs s a) ∧ ¬(↑(a + k) : Int) < (↑(List.length s) : Int) ∧ m1_16 = (↑(a + k) : Int)))) ∧ ∀ (v1 : Cut (1 : Nat) Int), ((∃ (k : Nat), ∃ (c4 : UInt8), ∃ (c7 : UInt8), k ≤ List.length (dgs s a) ∧ (↑(a + k) : Int) < (↑(List.length s) : Int) ∧ s[a + k]? = some c4 ∧ (48 : Int) ≤ (↑c4.toNat : Int) ∧ s[a + k]? = some c7 ∧ ¬(↑c7.toNat : Int) ≤ 57 ∧ v1 = (↑(a + k) : Int)) ∨ (∃ (k : Nat), ∃ (c4 : UInt8), k ≤ List.length (dgs s a)
 ∧ (↑(a + k) : Int) < (↑(List.length s) : Int) ∧ s[a + k]? = some c4 ∧ ¬(48 : Int) ≤ (↑c4.toNat : Int) ∧ v1 = (↑(a + k) : Int)) ∨ ∃ (k : Nat), k ≤ List.length (dgs s a) ∧ ¬(↑(a + k) : Int) < (↑(List.length s) : Int) ∧ v1 = (↑(a + k) : Int)) → (↑a : Int) = (↑a : Int) ∧ v1 = (↑(Int.toNat v1) : Int) ∧ a ≤ Int.toNat v1 ∧ Int.toNat v1 ≤ List.length s ∧ (R FT X).f 69 [strL (List.drop a (List.take (Int.toNat v1) s))] = some (AV.tuple [intA (numV (List.drop a (List.take (Int.toNat v1) s))), intA (numE (List.drop a (List.take (Int.toNat v1) s)))]) ∧ ((!decide (numE (List.drop a (List.take (Int.toNat v1) s)) = 0)) = true → (0 : Int) = numV (dgs s a) ∧ (↑a : Int) = (↑(nm2A (dgs s a) a) : Int) ∧ numE (List.drop a (List.take (Int.toNat v1) s)) = nmE (1 : Int) (dgs s a) ∧ (↑a : Int) = nmB (1 : Int) (dgs s a) a) ∧ ((!decide (numE (List.drop a (List.take (Int.toNat v1) s)) = 0)) = false → (decide (numV (List.drop a (List.take (Int.toNat v1) s)) = 0) = true → (0 : Int) = numV (dgs s a) ∧ (↑a : Int) = (↑(nm2A (dgs s a) a) : Int) ∧ (2 : Int) = nmE (1 : Int) (dgs s a) ∧ (↑a : Int) = nmB (1 : Int) (dgs s a) a) ∧ (decide (numV (List.drop a (List.take (Int.toNat v1) s)) =
 (0 : Int)) = false → numV (List.drop a (List.take (Int.toNat v1) s)) = numV (dgs s a) ∧ v1 = (↑(nm2A (dgs s a) a) : Int) ∧ (0 : Int) = nmE (1 : Int) (dgs s a) ∧ (0 : Int) = nmB (1 : Int) (dgs s a) a)))) ?_
 refine ⟨⟨?_, fun k => fun h2 => ⟨fun h3_ => have h3 := dT h3_; ⟨rfl, (by omega), fun c4 => fun h5 => ⟨fun h6_ => have h6 := dT h6_; ⟨rfl, (by omega), fun c7 => fun h8 => ⟨fun h9_ => have h9 := dT h9_; ⟨(by unfold InI64; omega), ?_⟩, fun h11_ => have h11 := dF h11_; ⟨(↑(a + k) : Int), ⟨⟨(by first | rfl | simp), ⟨(by first | rfl | simp), ⟨trivial, ⟨(by first | rfl | simp), trivial⟩⟩⟩⟩, ⟨(by first | rfl | simp), (by first | rfl | simp)⟩⟩, Or.inl (⟨k, c4, c7, h2, h3, h5, h6, h8, h11, rfl⟩)⟩⟩⟩, fun h13_ => have h13 := dF h13_; ⟨rfl, ⟨(↑(a + k) : Int), ⟨⟨(by first | rfl | simp), ⟨(by first | rfl | simp), ⟨trivial, ⟨(by first | rfl | simp), trivial⟩⟩⟩⟩, ⟨(by first | rfl | simp), (by first | rfl | simp)⟩⟩, Or.inr (Or.inl (⟨k, c4, h2, h3, h5, h13, rfl⟩))⟩⟩⟩⟩, fun h15_ => have h15 := dF h15_; ⟨rfl, rfl, ⟨(↑(a + k) : Int), ⟨⟨(by first | rfl | simp), ⟨(by first | rfl | simp), ⟨trivial, ⟨(by first | rfl | simp), trivial⟩⟩⟩⟩, ⟨(by first | rfl | simp), (by first | rfl | simp)⟩⟩, Or.inr (Or.inr (⟨k, h2, h15, rfl⟩))⟩⟩⟩⟩, fun v1 => fun h18 => ⟨rfl, ?_, ?_, ?_, (refParse_run _ (by exact (by simp; omega))), fun h19_ => have h19 := dnT h19_; ⟨?_, ?_, ?_, ?_⟩, fun h20_ => have h20 := dnF h20_; ⟨fun h21_ => have h21 := dT h21_; ⟨?_, ?_, ?_, ?_⟩, fun h22_ => have h22 := dF h22_; ⟨?_, ?_, ?_, ?_⟩⟩⟩⟩
 ·exact ⟨0, ⟨⟨rfl, rfl, trivial, rfl, trivial⟩, rfl, rfl⟩, Nat.zero_le _⟩
 ·obtain rfl := same_at h8 h5
  have := dgs_more h5 h2 (by omega) (by omega)
  exact ⟨k + 1, ⟨⟨rfl, rfl, trivial, by omega, trivial⟩, rfl, rfl⟩, this, by omega⟩
 all_goals obtain rfl := nm2J h18
 all_goals clear h18
 ·rfl
 ·exact Nat.le_add_right _ _
 ·exact dgs_le s a ha
 all_goals simp only [Int.toNat_natCast, dgs_cut] at *
 ·exact (num_zero h19).symm
 ·rw [nm2A, if_neg (by rw [nmE_e h19]; exact h19)]
 ·rw [nmE_e h19]
 ·rw [nmB_n (by rw [nmE_e h19]; exact h19)]
 ·exact h21.symm
 ·have := nmE_r (low := 1) h20 (by omega)
  rw [nm2A, if_neg (by rw [this]; decide)]
 ·rw [nmE_r (low := 1) h20 (by omega)]
 ·rw [nmB_n (by rw [nmE_r (low := 1) h20 (by omega)]; decide)]
 ·have h := numV_dgs s a
  rw [nm2A, if_pos (nmE_o h20 (by omega))]
 ·have h := numV_dgs s a
  rw [nmE_o h20 (by omega)]
 ·have h := numV_dgs s a
  rw [nmB_y (nmE_o h20 (by omega))]
end
end Go.Proofs.YtfedemnaeggokaaGreatDoor
end
section
namespace Go.Proofs.YtfedemnaeggokaaGreatDoor
set_option linter.unusedVariables false
set_option linter.unusedSimpArgs false
structure SpOk (x : Sp) : Prop where
 lo : 1 ≤ x.f
 hi : x.f ≤ 9223372036854775807
 or : x.t = 0 ∨ x.f ≤ x.t
 ti : x.t ≤ 9223372036854775807
def Apart (x y : Sp) : Prop := x.t ≠ 0 ∧ x.t < y.f - 1
instance (x y : Sp) : Decidable (Apart x y) := by unfold Apart; infer_instance
def inB (n : Int) (x : Sp) : Bool := decide (x.f ≤ n) && (decide (x.t = 0) || decide (n ≤ x.t))
def hasB (l : List Sp) (n : Int) : Bool := l.any (inB n)
theorem inB_iff {n : Int} {x : Sp} : inB n x = true ↔ x.f ≤ n ∧ (x.t = 0 ∨ n ≤ x.t) := by simp [inB]
theorem hasB_iff {n : Int} {l : List Sp} : hasB l n = true ↔ ∃ x ∈ l, x.f ≤ n ∧ (x.t = 0 ∨ n ≤ x.t) := by simp [hasB, inB_iff]
theorem hasB_cons (x : Sp) (l : List Sp) (n : Int) : hasB (x :: l) n = (inB n x || hasB l n) := rfl
theorem hasB_app (l r : List Sp) (n : Int) : hasB (l ++ r) n = (hasB l n || hasB r n) := by simp [hasB]
def okB (x : Sp) : Bool := decide (1 ≤ x.f) && (decide (x.t = 0) || decide (x.f ≤ x.t))
def norB : List Sp → Bool
 | [] => true
 | [x] => okB x
 | x :: y :: l => okB x && decide (Apart x y) && norB (y :: l)
theorem norB_cons {x : Sp} {l : List Sp} : norB (x :: l) = (okB x && (match l with | [] => true | y :: _ => decide (Apart x y)) && norB l) := by
 cases l <;> simp [norB]
theorem norB_get : ∀ {l : List Sp}, norB l = true ↔ ∀ (i : Nat) (x : Sp), l[i]? = some x → okB x = true ∧ ∀ y, l[i + 1]? = some y → Apart x y
 | [] => by simp [norB]
 | x :: l => by
  rw [norB_cons, Bool.and_eq_true, Bool.and_eq_true, norB_get (l := l)]
  constructor
  ·rintro ⟨⟨h1, h2⟩, h3⟩ i z hz
   cases i with
   | zero =>
    simp at hz; subst hz
    refine ⟨h1, fun y hy => ?_⟩
    cases l with
    | nil => simp at hy
    | cons w l => simp at hy; subst hy; exact of_decide_eq_true h2
   | succ i => exact h3 i z (by simpa using hz)
  ·intro h
   refine ⟨⟨(h 0 x rfl).1, ?_⟩, fun i z hz => h (i + 1) z (by simpa using hz)⟩
   cases l with
   | nil => rfl
   | cons w l => exact decide_eq_true ((h 0 x rfl).2 w rfl)
structure NorI (l : List Sp) (k : Nat) : Prop where
 h : ∀ (i : Nat) (x : Sp), i < k → l[i]? = some x → okB x = true ∧ ∀ y, i + 1 < k → l[i + 1]? = some y → Apart x y
theorem NorI.zero (l : List Sp) : NorI l 0 := ⟨fun i x hi => by omega⟩
theorem NorI.step {l : List Sp} {k : Nat} {x : Sp} (h : NorI l k) (hx : l[k]? = some x) (ho : okB x = true) (hp : k = 0 ∨ ∃ y, l[k - 1]? = some y ∧ Apart y x) : NorI l (k + 1) := ⟨fun i z hi hz => by
 by_cases e : i = k
 ·subst e
  rw [hx] at hz
  obtain rfl := Option.some.inj hz
  exact ⟨ho, fun y hy => by omega⟩
 ·refine ⟨(h.h i z (by omega) hz).1, fun y hy hz' => ?_⟩
  by_cases e2 : i + 1 = k
  ·subst e2
   rw [hx] at hz'
   obtain rfl := Option.some.inj hz'
   rcases hp with q | ⟨w, q1, q2⟩
   ·omega
   ·rw [show i + 1 - 1 = i from rfl, hz] at q1
    obtain rfl := Option.some.inj q1
    exact q2
  ·exact (h.h i z (by omega) hz).2 y (by omega) hz'⟩
theorem NorI.all {l : List Sp} {k : Nat} (h : NorI l k) (hk : l.length ≤ k) : true = norB l := by
 symm; rw [norB_get]
 intro i x hx
 have hi := (List.getElem?_eq_some_iff.1 hx).1
 exact ⟨(h.h i x (by omega) hx).1, fun y hy => (h.h i x (by omega) hx).2 y (by have := (List.getElem?_eq_some_iff.1 hy).1; omega) hy⟩
theorem norB_bad {l : List Sp} {i : Nat} {x : Sp} (h : l[i]? = some x) (hx : okB x = false) : false = norB l := by
 cases hb : norB l
 ·rfl
 ·rw [(norB_get.1 hb i x h).1] at hx; cases hx
theorem norB_gap {l : List Sp} {i : Nat} {x y : Sp} (h : l[i]? = some x) (h' : l[i + 1]? = some y) (hx : ¬ Apart x y) : false = norB l := by
 cases hb : norB l
 ·rfl
 ·exact absurd ((norB_get.1 hb i x h).2 y h') hx
theorem okB_iff {x : Sp} : okB x = true ↔ 1 ≤ x.f ∧ (x.t = 0 ∨ x.f ≤ x.t) := by simp [okB]
theorem okB_no {x : Sp} (h : x.f < 1 ∨ x.t ≠ 0 ∧ x.t < x.f) : okB x = false := by
 cases hb : okB x
 ·rfl
 ·rw [okB_iff] at hb; omega
theorem okB_yes {x : Sp} (h : ¬ x.f < 1) (h2 : x.t = 0 ∨ ¬ x.t < x.f) : okB x = true := okB_iff.2 (by omega)
theorem hasB_hit {l : List Sp} {n : Int} {k : Nat} {x : Sp} (h : l[k]? = some x) (hf : x.f ≤ n) (ht : x.t = 0 ∨ n ≤ x.t) : true = hasB l n := (hasB_iff.2 ⟨x, List.mem_of_getElem? h, hf, ht⟩).symm
theorem hasB_miss {l : List Sp} {n : Int} {k : Nat} (hk : l.length ≤ k) (h : ∀ x ∈ l.take k, inB n x = false) : false = hasB l n := by
 rw [List.take_of_length_le hk] at h
 unfold hasB
 cases hb : l.any (inB n)
 ·rfl
 ·obtain ⟨x, hx, hy⟩ := List.any_eq_true.1 hb
  rw [h x hx] at hy; cases hy
theorem inB_no {x : Sp} {n : Int} (h : ¬ x.f ≤ n ∨ ¬ x.t = 0 ∧ ¬ n ≤ x.t) : inB n x = false := by
 cases hb : inB n x
 ·rfl
 ·rw [inB_iff] at hb; omega
theorem sp_ext {x y : Sp} (h : (decide (x.f = y.f) && decide (x.t = y.t)) = true) : x = y := by
 cases x; cases y
 simp at h
 rw [h.1, h.2]
theorem sp_ne {x y : Sp} (h : (decide (x.f = y.f) && decide (x.t = y.t)) = false) : x ≠ y := fun e => by subst e; simp at h
theorem pre_at {α : Type} {l : List α} {k : Nat} {x y : α} (hy : l[((k : Int) - 1).toNat]? = some y) (hk : 0 < (k : Int)) (hx : l[k]? = some x) : l[k - 1]? = some y ∧ l[k - 1 + 1]? = some x := by
 rw [show ((k : Int) - 1).toNat = k - 1 by omega] at hy
 rw [show k - 1 + 1 = k by omega]; exact ⟨hy, hx⟩
structure PutS where
 out : List Sp
 done : Bool
 x : Sp
def jn (a b : Sp) : Sp := ⟨if b.f < a.f then b.f else a.f, if a.t = 0 ∨ b.t = 0 then 0 else if a.t < b.t then b.t else a.t⟩
def putS (s : PutS) (y : Sp) : PutS := if s.done = true ∨ Apart y s.x then ⟨s.out ++ [y], s.done, s.x⟩ else if Apart s.x y then ⟨s.out ++ [s.x, y], true, s.x⟩ else ⟨s.out, s.done, jn s.x y⟩
def putE (s : PutS) : List Sp := if s.done then s.out else s.out ++ [s.x]
def put (l : List Sp) (x : Sp) : List Sp := putE (l.foldl putS ⟨[], false, x⟩)
def putK (l : List Sp) (x : Sp) (k : Nat) : PutS := (l.take k).foldl putS ⟨[], false, x⟩
section
variable {l : List Sp} {x y : Sp} {k : Nat} (h : l[k]? = some y)
include h
theorem putK_succ : putK l x (k + 1) = putS (putK l x k) y := by unfold putK; rw [take_succ_get h, List.foldl_append]; rfl
theorem putK_1 (hd : (putK l x k).done = true) : putK l x (k + 1) = ⟨(putK l x k).out ++ [y], true, (putK l x k).x⟩ := by rw [putK_succ h, putS, if_pos (.inl hd), hd]
theorem putK_2 (hd : (putK l x k).done = false) (ha : Apart y (putK l x k).x) : putK l x (k + 1) = ⟨(putK l x k).out ++ [y], false, (putK l x k).x⟩ := by rw [putK_succ h, putS, if_pos (.inr ha), hd]
theorem putK_3 (hd : (putK l x k).done = false) (ha : ¬ Apart y (putK l x k).x) (hb : Apart (putK l x k).x y) : putK l x (k + 1) = ⟨(putK l x k).out ++ [(putK l x k).x, y], true, (putK l x k).x⟩ := by rw [putK_succ h, putS, if_neg (by simp [hd, ha]), if_pos hb]
theorem putK_4 (hd : (putK l x k).done = false) (ha : ¬ Apart y (putK l x k).x) (hb : ¬ Apart (putK l x k).x y) : putK l x (k + 1) = ⟨(putK l x k).out, false, jn (putK l x k).x y⟩ := by rw [putK_succ h, putS, if_neg (by simp [hd, ha]), if_neg hb, hd]
end
theorem putK_len' (l : List Sp) (x : Sp) : ∀ k, k ≤ l.length → (putK l x k).out.length ≤ k + (if (putK l x k).done then 1 else 0)
 | 0, _ => Nat.zero_le _
 | k + 1, hk => by
  have ih := putK_len' l x k (by omega)
  have h : l[k]? = some l[k] := List.getElem?_eq_getElem (by omega)
  generalize l[k] = y at h
  cases hd : (putK l x k).done
  ·rw [hd, if_neg (by decide)] at ih
   by_cases ha : Apart y (putK l x k).x
   ·rw [putK_2 h hd ha]; simp; omega
   ·by_cases hb : Apart (putK l x k).x y
    ·rw [putK_3 h hd ha hb]; simp; omega
    ·rw [putK_4 h hd ha hb]; simp; omega
  ·rw [hd, if_pos rfl] at ih
   rw [putK_1 h hd]; simp; omega
theorem putK_len (l : List Sp) (x : Sp) (k : Nat) (hk : k ≤ l.length) : (putK l x k).out.length ≤ k + 1 := by
 have := putK_len' l x k hk
 split at this <;> omega
theorem put_end (l : List Sp) (x : Sp) {k : Nat} (hk : l.length ≤ k) : put l x = putE (putK l x k) := by unfold put putK; rw [List.take_of_length_le hk]
theorem jn_ok {a b : Sp} (ha : SpOk a) (hb : SpOk b) : SpOk (jn a b) := by
 obtain ⟨h1, h2, h3, h4⟩ := ha
 obtain ⟨g1, g2, g3, g4⟩ := hb
 unfold jn
 constructor <;> dsimp only <;> (repeat' split) <;> omega
def mgS (out : List Sp) (x : Sp) : List Sp := match out[out.length - 1]? with
 | none => out ++ [x]
 | some y => if y.t ≠ 0 ∧ y.t < x.f - 1 then out ++ [x] else if y.t ≠ 0 then out.set (out.length - 1) ⟨y.f, if x.t = 0 then 0 else if y.t < x.t then x.t else y.t⟩ else out
def mg (l : List Sp) : List Sp := l.foldl mgS []
def el2 (s : Bs) (a : Nat) : Sp × Nat :=
 if s[a]? = some 45 then (⟨1, numV (dgs s (a + 1))⟩, nm2A (dgs s (a + 1)) (a + 1))
 else if nmE 1 (dgs s a) ≠ 0 then (⟨0, 0⟩, a)
 else if s[a + (dgs s a).length]? ≠ some 45 then (⟨numV (dgs s a), numV (dgs s a)⟩, a + (dgs s a).length)
 else if dgs s (a + (dgs s a).length + 1) = [] then (⟨numV (dgs s a), 0⟩, a + (dgs s a).length + 1)
 else (⟨numV (dgs s a), numV (dgs s (a + (dgs s a).length + 1))⟩, nm2A (dgs s (a + (dgs s a).length + 1)) (a + (dgs s a).length + 1))
theorem nmE_low {n : Int} {d : Bs} (hn : 1 ≤ n) : nmE (if n > 1 then n else 1) d = if nmE 1 d = 0 ∧ numV d < n then 2 else nmE 1 d := by
 have hm : (if n > 1 then n else 1) = n := by split <;> omega
 rw [hm]
 by_cases h : numE d = 0
 ·by_cases h1 : numV d < 1
  ·rw [nmE_r h h1, nmE_r h (by omega), if_neg (by rintro ⟨q, -⟩; cases q)]
  ·rw [nmE_o h h1]
   by_cases h2 : numV d < n
   ·rw [nmE_r h h2, if_pos ⟨rfl, h2⟩]
   ·rw [nmE_o h h2, if_neg (fun q => h2 q.2)]
 ·rw [nmE_e h, nmE_e h, if_neg (fun q => h q.1)]
theorem nmE_1 {d : Bs} (h : nmE 1 d = 0) : 1 ≤ numV d := by
 unfold nmE at h
 split at h
 ·rename_i q; exact absurd h q
 ·split at h
  ·cases h
  ·omega
theorem el2_eq {s : Bs} {a : Nat} (h : (el s a).e = 0) : el2 s a = ((el s a).sp, (el s a).a) := by
 unfold el2
 by_cases h45 : s[a]? = some 45
 ·rw [if_pos h45, el_minus h45] at *
  dsimp only at h ⊢
  rw [nm2A, if_pos h]
 ·rw [if_neg h45]
  by_cases hb : nmE 1 (dgs s a) = 0
  ·rw [if_neg (by simp [hb])]
   by_cases h3 : s[a + (dgs s a).length]? = some 45
   ·rw [if_neg (by simp [h3])]
    by_cases h4 : dgs s (a + (dgs s a).length + 1) = []
    ·rw [if_pos h4, el_open h45 hb h3 h4]
    ·rw [if_neg h4]
     rw [el_two h45 hb h3 h4] at h ⊢
     dsimp only at h ⊢
     rw [nmE_low (nmE_1 hb)] at h
     rw [nm2A, if_pos]
     split at h
     ·cases h
     ·exact h
   ·rw [if_pos (by simp [h3]), el_one h45 hb h3]
  ·rw [el_bad h45 hb] at h
   exact absurd h hb
def mgK (l : List Sp) (k : Nat) : List Sp := (l.take k).foldl mgS []
theorem mgK_succ {l : List Sp} {k : Nat} {x : Sp} (h : l[k]? = some x) : mgK l (k + 1) = mgS (mgK l k) x := by unfold mgK; rw [take_succ_get h, List.foldl_append]; rfl
theorem mgK_end (l : List Sp) {k : Nat} (hk : l.length ≤ k) : mg l = mgK l k := by unfold mg mgK; rw [List.take_of_length_le hk]
theorem toNat_pred (n : Nat) : ((n : Int) - 1).toNat = n - 1 := by omega
section
variable {l : List Sp} {k : Nat} {x y : Sp} (h : l[k]? = some x)
include h
theorem mgK_e (h0 : (mgK l k).length = 0) : mgK l (k + 1) = mgK l k ++ [x] := by
 rw [mgK_succ h, mgS, List.length_eq_zero_iff.1 h0]; rfl
theorem mgK_a (hy : (mgK l k)[(mgK l k).length - 1]? = some y) (h1 : ¬ y.t = 0) (h2 : y.t < x.f - 1) : mgK l (k + 1) = mgK l k ++ [x] := by
 rw [mgK_succ h, mgS, hy]; exact if_pos ⟨h1, h2⟩
theorem mgK_j (hy : (mgK l k)[(mgK l k).length - 1]? = some y) (h1 : ¬ y.t = 0) (h2 : ¬ y.t < x.f - 1) : mgK l (k + 1) = (mgK l k).set ((mgK l k).length - 1) ⟨y.f, if x.t = 0 then 0 else if y.t < x.t then x.t else y.t⟩ := by
 rw [mgK_succ h, mgS, hy]; exact (if_neg fun q => h2 q.2).trans (if_pos h1)
theorem mgK_k (hy : (mgK l k)[(mgK l k).length - 1]? = some y) (h1 : y.t = 0) : mgK l (k + 1) = mgK l k := by
 rw [mgK_succ h, mgS, hy]; exact (if_neg fun q => q.1 h1).trans (if_neg fun q => q h1)
end
theorem mgK_len (l : List Sp) : ∀ k, k ≤ l.length → (mgK l k).length ≤ k
 | 0, _ => Nat.le_refl _
 | k + 1, hk => by
  have ih := mgK_len l k (by omega)
  have h : l[k]? = some l[k] := List.getElem?_eq_getElem (by omega)
  rw [mgK_succ h]
  unfold mgS
  (repeat' split) <;> simp <;> omega
theorem encSp_set (l : List Sp) (i : Nat) (a b : Int) : (l.map encSp).set i (.agg [intA a, intA b]) = (l.set i ⟨a, b⟩).map encSp := by rw [List.map_set]; rfl
def DmP (s : Bs) (a : Nat) : Prop := s[a]? = some 45 ∨ dgs s a ≠ []
instance (s : Bs) (a : Nat) : Decidable (DmP s a) := by unfold DmP; infer_instance
def plA (s : Bs) : Nat → Nat
 | 0 => 0
 | k + 1 => (el s (plA s k)).a + 1
def plL (s : Bs) (k : Nat) : List Sp := (List.range k).map fun i => (el s (plA s i)).sp
theorem plL_succ (s : Bs) (k : Nat) : plL s (k + 1) = plL s k ++ [(el s (plA s k)).sp] := by simp [plL, List.range_succ]
theorem plL_len (s : Bs) (k : Nat) : (plL s k).length = k := by simp [plL]
theorem plA_ge (s : Bs) : ∀ k, k ≤ plA s k
 | 0 => Nat.le_refl _
 | k + 1 => by
  have := plA_ge s k
  have h := el_ge s (plA s k)
  show k + 1 ≤ (el s (plA s k)).a + 1
  omega
inductive PlR where
 | bad (e b : Int)
 | ok (l : List Sp)
def plR (s : Bs) : Nat → Nat → PlR
 | 0, _ => .bad 0 0
 | n + 1, k => if k = 1024 ∧ DmP s (plA s k) then .bad 3 (plA s k) else if (el s (plA s k)).e ≠ 0 then .bad (el s (plA s k)).e (el s (plA s k)).b else if (el s (plA s k)).a = s.length then .ok (plL s (k + 1)) else
  if s[(el s (plA s k)).a]? ≠ some 44 then .bad 1 (el s (plA s k)).a else plR s n (k + 1)
def pl (s : Bs) : PlR := plR s (s.length + 2) 0
structure PlI (s : Bs) (k : Nat) : Prop where
 le : plA s k ≤ s.length
 kl : k ≤ 1024
 ok : ∀ x ∈ plL s k, SpOk x
 eq : pl s = plR s (s.length + 2 - k) k
theorem PlI.zero (s : Bs) : PlI s 0 := ⟨Nat.zero_le _, by omega, fun x hx => by simp [plL] at hx, rfl⟩
theorem PlI.ka {s : Bs} {k : Nat} (h : PlI s k) : k ≤ s.length := Nat.le_trans (plA_ge s k) h.le
theorem PlI.un {s : Bs} {k : Nat} (h : PlI s k) : ∃ n, pl s = plR s (n + 1) k ∧ s.length + 2 - (k + 1) = n := by
 have h1 := h.le
 have h2 := plA_ge s k
 refine ⟨s.length + 2 - (k + 1), ?_, rfl⟩
 rw [h.eq, show s.length + 2 - k = s.length + 2 - (k + 1) + 1 by omega]
theorem dm_no {s : Bs} {a : Nat} (h : ¬ DmP s a) : (el s a).e ≠ 0 := by
 have h1 : ¬ s[a]? = some 45 := fun q => h (.inl q)
 have h2 : dgs s a = [] := Classical.byContradiction fun q => h (.inr q)
 have : nmE 1 (dgs s a) = 1 := by rw [h2]; exact nmE_nil 1
 rw [el_bad h1 (by rw [this]; decide), this]
 exact fun q => by cases q
theorem el_ok {s : Bs} {a : Nat} (h : (el s a).e = 0) : SpOk (el s a).sp := by
 have hv : ∀ d : Bs, InI64 (numV d) := numV_i64
 have hr : ∀ (low : Int) (d : Bs), nmE low d = 0 → low ≤ numV d := fun low d q => by
  unfold nmE at q
  split at q
  ·rename_i h1; exact absurd q h1
  ·split at q
   ·cases q
   ·omega
 by_cases h45 : s[a]? = some 45
 ·rw [el_minus h45] at h ⊢
  have h1 := hr _ _ h
  have h2 := hv (dgs s (a + 1))
  unfold InI64 at h2
  exact ⟨Int.le_refl _, by dsimp only; omega, .inr h1, h2.2⟩
 ·by_cases hb : nmE 1 (dgs s a) = 0
  ·have h1 := hr _ _ hb
   have h2 := hv (dgs s a)
   unfold InI64 at h2
   by_cases h3 : s[a + (dgs s a).length]? = some 45
   ·by_cases h4 : dgs s (a + (dgs s a).length + 1) = []
    ·rw [el_open h45 hb h3 h4] at h ⊢
     exact ⟨h1, h2.2, .inl rfl, by dsimp only; omega⟩
    ·rw [el_two h45 hb h3 h4] at h ⊢
     have h5 := hr _ _ h
     have h6 := hv (dgs s (a + (dgs s a).length + 1))
     unfold InI64 at h6
     refine ⟨h1, h2.2, .inr ?_, h6.2⟩
     dsimp only
     split at h5 <;> omega
   ·rw [el_one h45 hb h3] at h ⊢
    exact ⟨h1, h2.2, .inr (Int.le_refl _), h2.2⟩
  ·rw [el_bad h45 hb] at h
   exact absurd h hb
section
variable {s : Bs} {k : Nat} (hI : PlI s k)
include hI
theorem pl_lim (hk : k = 1024) (hd : DmP s (plA s k)) : pl s = .bad 3 (plA s k) := by
 obtain ⟨n, e, -⟩ := hI.un
 rw [e, plR, if_pos ⟨hk, hd⟩]
theorem pl_err (hn : ¬ (k = 1024 ∧ DmP s (plA s k))) (he : ¬ (el s (plA s k)).e = 0) : pl s = .bad (el s (plA s k)).e (el s (plA s k)).b := by
 obtain ⟨n, e, -⟩ := hI.un
 rw [e, plR, if_neg hn, if_pos he]
theorem pl_ok (hn : ¬ (k = 1024 ∧ DmP s (plA s k))) (he : (el s (plA s k)).e = 0) (ha : (el s (plA s k)).a = s.length) : pl s = .ok (plL s (k + 1)) := by
 obtain ⟨n, e, -⟩ := hI.un
 rw [e, plR, if_neg hn, if_neg (by simp [he]), if_pos ha]
theorem pl_sep (hn : ¬ (k = 1024 ∧ DmP s (plA s k))) (he : (el s (plA s k)).e = 0) (ha : ¬ (el s (plA s k)).a = s.length) (hc : ¬ s[(el s (plA s k)).a]? = some 44) : pl s = .bad 1 (el s (plA s k)).a := by
 obtain ⟨n, e, -⟩ := hI.un
 rw [e, plR, if_neg hn, if_neg (by simp [he]), if_neg ha, if_pos hc]
theorem PlI.okS (he : (el s (plA s k)).e = 0) : ∀ x ∈ plL s (k + 1), SpOk x := fun x hx => by
 rw [plL_succ] at hx
 rcases List.mem_append.1 hx with q | q
 ·exact hI.ok x q
 ·rw [List.mem_singleton.1 q]; exact el_ok he
theorem PlI.kS (hn : ¬ (k = 1024 ∧ DmP s (plA s k))) (he : (el s (plA s k)).e = 0) : k + 1 ≤ 1024 := by
 have := hI.kl
 by_cases q : k = 1024
 ·by_cases hd : DmP s (plA s k)
  ·exact absurd ⟨q, hd⟩ hn
  ·exact absurd he (dm_no hd)
 ·omega
theorem PlI.step (hn : ¬ (k = 1024 ∧ DmP s (plA s k))) (he : (el s (plA s k)).e = 0) (hc : s[(el s (plA s k)).a]? = some 44) : PlI s (k + 1) := by
 have hlt := (List.getElem?_eq_some_iff.1 hc).1
 obtain ⟨n, e, hn2⟩ := hI.un
 refine ⟨hlt, hI.kS hn he, hI.okS he, ?_⟩
 rw [e, plR, if_neg hn, if_neg (by simp [he]), if_neg (by omega), if_neg (by simp [hc]), hn2]
end
def plE : PlR → Int
 | .bad e _ => e
 | .ok _ => 0
def plB : PlR → Int
 | .bad _ b => b
 | .ok _ => 0
def putL (l : List Sp) : List Sp := l.foldl put []
def plO (g : List Sp → List Sp) : PlR → List Sp
 | .bad _ _ => []
 | .ok l => g l
theorem putE_ok {s : PutS} (h : ∀ x ∈ s.out, SpOk x) (hx : SpOk s.x) : ∀ x ∈ putE s, SpOk x := fun x q => by
 unfold putE at q
 split at q
 ·exact h x q
 ·rcases List.mem_append.1 q with q | q
  ·exact h x q
  ·rw [List.mem_singleton.1 q]; exact hx
theorem putK_ok {l : List Sp} {x : Sp} (hl : ∀ y ∈ l, SpOk y) (hx : SpOk x) : ∀ k, k ≤ l.length → (∀ y ∈ (putK l x k).out, SpOk y) ∧ SpOk (putK l x k).x
 | 0, _ => ⟨fun y hy => by simp [putK] at hy, hx⟩
 | k + 1, hk => by
  obtain ⟨h1, h2⟩ := putK_ok hl hx k (by omega)
  have h : l[k]? = some l[k] := List.getElem?_eq_getElem (by omega)
  have hy := hl _ (List.mem_of_getElem? h)
  generalize l[k] = y at h hy
  have app : ∀ z ∈ (putK l x k).out ++ [y], SpOk z := fun z hz => by
   rcases List.mem_append.1 hz with q | q
   ·exact h1 z q
   ·rw [List.mem_singleton.1 q]; exact hy
  cases hd : (putK l x k).done
  ·by_cases ha : Apart y (putK l x k).x
   ·rw [putK_2 h hd ha]; exact ⟨app, h2⟩
   ·by_cases hb : Apart (putK l x k).x y
    ·rw [putK_3 h hd ha hb]
     refine ⟨fun z hz => ?_, h2⟩
     rcases List.mem_append.1 hz with q | q
     ·exact h1 z q
     ·rcases List.mem_cons.1 q with q | q
      ·rw [q]; exact h2
      ·rw [List.mem_singleton.1 q]; exact hy
    ·rw [putK_4 h hd ha hb]; exact ⟨h1, jn_ok h2 hy⟩
  ·rw [putK_1 h hd]; exact ⟨app, h2⟩
theorem put_ok {l : List Sp} {x : Sp} (hl : ∀ y ∈ l, SpOk y) (hx : SpOk x) : ∀ y ∈ put l x, SpOk y := by
 rw [put_end l x (Nat.le_refl _)]
 have := putK_ok hl hx l.length (Nat.le_refl _)
 exact putE_ok this.1 this.2
theorem put_len (l : List Sp) (x : Sp) : (put l x).length ≤ l.length + 1 := by
 rw [put_end l x (Nat.le_refl _)]
 have := putK_len' l x l.length (Nat.le_refl _)
 unfold putE
 split
 ·rename_i h; rw [if_pos h] at this; exact this
 ·rename_i h; rw [if_neg h] at this; simp; omega
theorem putL_snoc (l : List Sp) (x : Sp) : putL (l ++ [x]) = put (putL l) x := by simp [putL]
theorem putL_ok : ∀ (l : List Sp), (∀ y ∈ l, SpOk y) → (∀ y ∈ putL l, SpOk y) ∧ (putL l).length ≤ l.length := by
 have : ∀ (l acc : List Sp), (∀ y ∈ l, SpOk y) → (∀ y ∈ acc, SpOk y) → (∀ y ∈ l.foldl put acc, SpOk y) ∧ (l.foldl put acc).length ≤ acc.length + l.length := by
  intro l
  induction l with
  | nil => intro acc _ h; exact ⟨h, Nat.le_refl _⟩
  | cons x l ih =>
   intro acc hl ha
   obtain ⟨h1, h2⟩ := ih (put acc x) (fun y hy => hl y (List.mem_cons_of_mem _ hy)) (put_ok ha (hl x List.mem_cons_self))
   have := put_len acc x
   refine ⟨h1, ?_⟩
   simp only [List.foldl_cons, List.length_cons]
   omega
 intro l hl
 have h := this l [] hl (fun y hy => by simp at hy)
 exact ⟨h.1, by have := h.2; simp only [List.length_nil, Nat.zero_add] at this; exact this⟩
theorem dm_c {s : Bs} {a : Nat} {c : UInt8} (h : s[a]? = some c) : DmP s a ↔ (c.toNat : Int) = 45 ∨ 48 ≤ (c.toNat : Int) ∧ (c.toNat : Int) ≤ 57 := by
 constructor
 ·rintro (q | q)
  ·rw [h] at q; obtain rfl := Option.some.inj q; exact .inl rfl
  ·right
   apply Classical.byContradiction
   intro z
   have := dgs_stop (s := s) (a := a) (k := 0) h (Nat.zero_le _) (by omega)
   exact q (List.length_eq_zero_iff.1 this.symm)
 ·rintro (q | q)
  ·exact .inl (is45 h q)
  ·right
   intro z
   have := dgs_more (s := s) (a := a) (k := 0) h (Nat.zero_le _) (by omega) (by omega)
   rw [z] at this; simp at this
theorem dm_n {s : Bs} {a : Nat} (h : s.length ≤ a) : ¬ DmP s a := by
 rintro (q | q)
 ·have := (List.getElem?_eq_some_iff.1 q).1; omega
 ·have := dgs_end (s := s) (a := a) (k := 0) (by omega) (Nat.zero_le _)
  exact q (List.length_eq_zero_iff.1 this.symm)
theorem nolim2 {s : Bs} {k a : Nat} (h : (∃ c5 c9 c12 : UInt8, (k : Int) = 1024 ∧ (a : Int) < (s.length : Int) ∧ s[a]? = some c5 ∧ ¬ (c5.toNat : Int) = 45 ∧ s[a]? = some c9 ∧ 48 ≤ (c9.toNat : Int) ∧ s[a]? = some c12 ∧ ¬ (c12.toNat : Int) ≤ 57) ∨
    (∃ c5 c9 : UInt8, (k : Int) = 1024 ∧ (a : Int) < (s.length : Int) ∧ s[a]? = some c5 ∧ ¬ (c5.toNat : Int) = 45 ∧ s[a]? = some c9 ∧ ¬ 48 ≤ (c9.toNat : Int)) ∨ (k : Int) = 1024 ∧ ¬ (a : Int) < (s.length : Int) ∨ ¬ (k : Int) = 1024) : ¬ (k = 1024 ∧ DmP s a) := by
  rintro ⟨hk, hd⟩
  rcases h with ⟨c, d, e, -, -, h1, h2, h3, h4, h5, h6⟩ | ⟨c, d, -, -, h1, h2, h3, h4⟩ | ⟨-, h⟩ | h
  · obtain rfl := same_at h1 h5
    rw [dm_c h1] at hd; omega
  · obtain rfl := same_at h1 h3
    rw [dm_c h1] at hd; omega
  · exact dm_n (by omega) hd
  · omega
theorem nolim1 {s : Bs} {n a k : Nat} (hn : n = k) (h : (∃ (v : Bool) (c : UInt8), (n : Int) = 1024 ∧ DigJ s a v ∧ v = false ∧ (a : Int) < (s.length : Int) ∧ s[a]? = some c ∧ ¬ (c.toNat : Int) = 45) ∨
    (∃ v : Bool, (n : Int) = 1024 ∧ DigJ s a v ∧ v = false ∧ ¬ (a : Int) < (s.length : Int)) ∨ ¬ (n : Int) = 1024) : ¬ (k = 1024 ∧ DmP s a) := by
  subst hn
  rintro ⟨hk, hd⟩
  rcases h with ⟨v, c, -, h1, h2, -, h3, h4⟩ | ⟨v, -, h1, h2, h3⟩ | h
  · rcases hd with q | q
    · rw [h3] at q; obtain rfl := Option.some.inj q; exact h4 rfl
    · rw [(digJ_0 h1).2 q] at h2; cases h2
  · exact dm_n (by omega) hd
  · omega
theorem el_b {s : Bs} {a : Nat} (h : (el s a).e = 0) : (el s a).b = 0 := by
 by_cases h45 : s[a]? = some 45
 ·rw [el_minus h45] at h ⊢; exact nmB_y h
 ·by_cases hb : nmE 1 (dgs s a) = 0
  ·by_cases h3 : s[a + (dgs s a).length]? = some 45
   ·by_cases h4 : dgs s (a + (dgs s a).length + 1) = []
    ·rw [el_open h45 hb h3 h4]
    ·rw [el_two h45 hb h3 h4] at h ⊢; exact nmB_y h
   ·rw [el_one h45 hb h3]
  ·rw [el_bad h45 hb] at h; exact absurd h hb
theorem is44 {s : Bs} {a : Nat} {c : UInt8} (h : s[a]? = some c) : s[a]? = some 44 ↔ (c.toNat : Int) = 44 := by
 constructor
 ·intro q; rw [h] at q; obtain rfl := Option.some.inj q; rfl
 ·intro q; rw [h, u8_of (n := 44) q (by decide)]; rfl
end Go.Proofs.YtfedemnaeggokaaGreatDoor
end
section
namespace Go.Proofs.YtfedemnaeggokaaGreatDoor
set_option linter.unusedVariables false
set_option linter.unusedSimpArgs false
set_option maxRecDepth 100000
section
variable {X : CallF}
theorem before_run (a b : Sp) (hb : -9223372036854775808 < b.f) (hb' : b.f ≤ 9223372036854775807) : (R FT X).f 57 [encSp a, encSp b] = some (boolA (decide (Apart a b))) := by
 refine R_wp ((Tr.nil.w.br Tr.nil).w) rfl ?_
 refine Eq.mpr (by kernel_rfl : _ = (((!decide (a.t = 0)) = true → InI64 (b.f - 1) ∧ decide (a.t < b.f - 1) = decide (Apart a b)) ∧ ((!decide (a.t = 0)) = false → false = decide (Apart a b)))) ?_
 refine ⟨fun h1_ => have h1 := dnT h1_; ⟨(by unfold InI64; omega), ?_⟩, fun h2_ => have h2 := dnF h2_; ?_⟩
 ·exact decide_eq_decide.2 ⟨fun q => ⟨h1, q⟩, fun q => q.2⟩
 ·exact (decide_eq_false fun q => q.1 h2).symm
theorem joined_run (a b : Sp) : (R FT X).f 58 [encSp a, encSp b] = some (encSp (jn a b)) := by
 refine R_wp ((Tr.cut (fun (v1 : Cut (2 : Nat) Int) ↦ St.mk [(2, AV.ptr 0 0), (3, AV.ptr 1 0), (4, AV.ptr 2 0)] [MObj.box 50 [AV.val (Value.int IntKind.i64 v1), intA a.t], MObj.box 50 [intA b.f, intA b.t], MObj.box 50 (List.map AV.val [Value.int IntKind.i64 (0 : Int), Value.int IntKind.i64 (0 : Int)])]) (fun (v1 : Cut (2 : Nat) Int) ↦ b.f < a.f ∧ v1 = b.f ∨ ¬b.f < a.f ∧ v1 = a.f) (Tr.nil.br Tr.nil) fun (v1 : Cut (2 : Nat) Int) ↦ Tr.cut (fun (v7 : Cut (3 : Nat) Int) ↦ St.mk [(2, AV.ptr 0 0), (4, AV.ptr 2 0)] [MObj.box 50 [AV.val (Value.int IntKind.i64 v1), AV.val (Value.int IntKind.i64 v7)], MObj.box 50 [intA b.f, intA b.t], MObj.box 50 (List.map AV.val [Value.int IntKind.i64 (0 : Int), Value.int IntKind.i64 (0 : Int)])]) (fun (v7 : Cut (3 : Nat) Int) ↦ a.t = 0 ∧ v7 = 0 ∨ ∃ (v10 : Cut (5 : Nat) Int), ¬a.t = 0 ∧ (b.t = 0 ∧ v10 = 0 ∨ ∃ (v13 : Cut (7 : Nat) Int), ¬b.t = 0 ∧ (a.t < b.t ∧ v13 = b.t ∨ ¬a.t < b.t ∧ v13 = a.t) ∧ v10 = v13) ∧ v7 = v10) ((Tr.b true Tr.nil).w.br (Tr.cut (fun (v10
 : Cut (5 : Nat) Int) ↦ St.mk [(2, AV.ptr 0 0), (4, AV.ptr 2 0)] [MObj.box 50 [AV.val (Value.int IntKind.i64 v1), AV.val (Value.int IntKind.i64 v10)], MObj.box 50 [intA b.f, intA b.t], MObj.box 50 (List.map AV.val [Value.int IntKind.i64 (0 : Int), Value.int IntKind.i64 (0 : Int)])]) (fun (v10 : Cut (5 : Nat) Int) ↦ b.t = 0 ∧ v10 = 0 ∨ ∃ (v13 : Cut (7 : Nat) Int), ¬b.t = 0 ∧ (a.t < b.t ∧ v13 = b.t ∨ ¬a.t < b.t ∧ v13 = a.t) ∧ v10 = v13) (Tr.nil.br (Tr.cut (fun (v13 : Cut (7 : Nat) Int) ↦ St.mk [(2, AV.ptr 0 0), (4, AV.ptr 2 0)] [MObj.box 50 [AV.val (Value.int IntKind.i64 v1), AV.val (Value.int IntKind.i64 v13)], MObj.box 50 [intA b.f, intA b.t], MObj.box 50 (List.map AV.val [Value.int IntKind.i64 (0 : Int), Value.int IntKind.i64 (0 : Int)])]) (fun (v13 : Cut (7 : Nat) Int) ↦ a.t < b.t ∧ v13 = b.t ∨ ¬a.t < b.t ∧ v13 = a.t) (Tr.nil.br Tr.nil) fun (v : Cut (7 : Nat) Int) ↦ Tr.nil).w) fun (v : Cut (5 : Nat) Int) ↦ Tr.nil)) fun (v : Cut (3 : Nat) Int) ↦ Tr.nil).w) rfl ?_
 refine Eq.mpr (by kernel_rfl : _ = (((decide (b.f < a.f) = true → ∃ (m2_2 : Cut (2 : Nat) Int), ((True ∧ True ∧ True ∧ True) ∧ (b.f = m2_2 ∧ a.t = a.t) ∧ (b.f = b.f ∧ b.t = b.t) ∧ (0 : Int) = 0 ∧ (0 : Int) = 0) ∧ (b.f < a.f ∧ m2_2 = b.f ∨ ¬b.f < a.f ∧ m2_2 = a.f)) ∧ (decide (b.f < a.f) = false → ∃ (m2_4 : Cut (2 : Nat) Int), ((True ∧ True ∧ True ∧ True) ∧ (a.f = m2_4 ∧ a.t = a.t) ∧ (b.f = b.f ∧ b.t = b.t) ∧ (0 : Int) = 0 ∧ (0 : Int) = 0) ∧ (b.f < a.f ∧ m2_4 = b.f ∨ ¬b.f < a.f ∧ m2_4 = a.f))) ∧ ∀ (v1 : Cut (2 : Nat) Int), b.f < a.f ∧ v1 = b.f ∨ ¬b.f < a.f ∧ v1 = a.f → ((decide (a.t = 0) = true → true = true ∧ ∃ (m3_8 : Cut (3 : Nat) Int), ((True ∧ True ∧ True) ∧ (v1 = v1 ∧ (0 : Int) = m3_8) ∧ (b.f = b.f ∧ b.t = b.t) ∧ (0 : Int) = 0 ∧ (0 : Int) = 0) ∧ (a.t = 0 ∧ m3_8 = 0 ∨ ∃ (v10 : Cut (5 : Nat) Int), ¬a.t = 0 ∧ (b.t = 0 ∧ v10 = 0 ∨ ∃ (v13 : Cut (7 : Nat) Int), ¬b.t = 0 ∧ (a.t < b.t ∧ v13 = b.t ∨ ¬a.t < b.t ∧ v13 = a.t) ∧ v10 = v13) ∧ m3_8 = v10)) ∧ (decide (a.t = 0) = false → ((decide (b.t = 0) = true → ∃ (m5_11 : Cut (5 : Nat) Int), ((True ∧ True ∧ True) ∧ (v1 = v1 ∧ (0 : Int) = m5_11) ∧ (b.f = b.f ∧
 b.t = b.t) ∧ (0 : Int) = 0 ∧ (0 : Int) = 0) ∧ (b.t = 0 ∧ m5_11 = 0 ∨ ∃ (v13 : Cut (7 : Nat) Int), ¬b.t = 0 ∧ (a.t < b.t ∧ v13 = b.t ∨ ¬a.t < b.t ∧ v13 = a.t) ∧ m5_11 = v13)) ∧ (decide (b.t = 0) = false → ((decide (a.t < b.t) = true → ∃ (m7_14 : Cut (7 : Nat) Int), ((True ∧ True ∧ True) ∧ (v1 = v1 ∧ b.t = m7_14) ∧ (b.f = b.f ∧ b.t = b.t) ∧ (0 : Int) = 0 ∧ (0 : Int) = 0) ∧ (a.t < b.t ∧ m7_14 = b.t ∨ ¬a.t < b.t ∧ m7_14 = a.t)) ∧ (decide (a.t < b.t) = false → ∃ (m7_16 : Cut (7 : Nat) Int), ((True ∧ True ∧ True) ∧ (v1 = v1 ∧ a.t = m7_16) ∧ (b.f = b.f ∧ b.t = b.t) ∧ (0 : Int) = 0 ∧ (0 : Int) = 0) ∧ (a.t < b.t ∧ m7_16 = b.t ∨ ¬a.t < b.t ∧ m7_16 = a.t))) ∧ ∀ (v13 : Cut (7 : Nat) Int), a.t < b.t ∧ v13 = b.t ∨ ¬a.t < b.t ∧ v13 = a.t → ∃ (m5_19 : Cut (5 : Nat) Int), ((True ∧ True ∧ True) ∧ (v1 = v1 ∧ v13 = m5_19) ∧ (b.f = b.f ∧ b.t = b.t) ∧ (0 : Int) = 0 ∧ (0 : Int) = 0) ∧ (b.t = 0 ∧ m5_19 = 0 ∨ ∃ (v13 : Cut (7 : Nat) Int), ¬b.t = 0 ∧ (a.t < b.t ∧ v13 = b.t ∨ ¬a.t < b.t ∧ v13 = a.t) ∧ m5_19 = v13))) ∧ ∀ (v10 : Cut (5 : Nat) Int), (b.t = 0 ∧ v10 = 0 ∨ ∃ (v13 :
 Cut (7 : Nat) Int), ¬b.t = 0 ∧ (a.t < b.t ∧ v13 = b.t ∨ ¬a.t < b.t ∧ v13 = a.t) ∧ v10 = v13) → ∃ (m3_22 : Cut (3 : Nat) Int), ((True ∧ True ∧ True) ∧ (v1 = v1 ∧ v10 = m3_22) ∧ (b.f = b.f ∧ b.t = b.t) ∧ (0 : Int) = 0 ∧ (0 : Int) = 0) ∧ (a.t = 0 ∧ m3_22 = 0 ∨ ∃ (v10 : Cut (5 : Nat) Int), ¬a.t = 0 ∧ (b.t = 0 ∧ v10 = 0 ∨ ∃ (v13 : Cut (7 : Nat) Int), ¬b.t = 0 ∧ (a.t < b.t ∧ v13 = b.t ∨ ¬a.t < b.t ∧ v13 = a.t) ∧ v10 = v13) ∧ m3_22 = v10))) ∧ ∀ (v7 : Cut (3 : Nat) Int), (a.t = 0 ∧ v7 = 0 ∨ ∃ (v10 : Cut (5 : Nat) Int), ¬a.t = 0 ∧ (b.t = 0 ∧ v10 = 0 ∨ ∃ (v13 : Cut (7 : Nat) Int), ¬b.t = 0 ∧ (a.t < b.t ∧ v13 = b.t ∨ ¬a.t < b.t ∧ v13 = a.t) ∧ v10 = v13) ∧ v7 = v10) → v1 = (jn a b).f ∧ v7 = (jn a b).t)) ?_
 refine ⟨⟨fun h1_ => have h1 := dT h1_; ⟨b.f, ⟨⟨trivial, ⟨trivial, ⟨trivial, trivial⟩⟩⟩, ⟨⟨(by first | rfl | simp), (by first | rfl | simp)⟩, ⟨⟨(by first | rfl | simp), (by first | rfl | simp)⟩, ⟨(by first | rfl | simp), (by first | rfl | simp)⟩⟩⟩⟩, Or.inl (⟨h1, rfl⟩)⟩, fun h3_ => have h3 := dF h3_; ⟨a.f, ⟨⟨trivial, ⟨trivial, ⟨trivial, trivial⟩⟩⟩, ⟨⟨(by first | rfl | simp), (by first | rfl | simp)⟩, ⟨⟨(by first | rfl | simp), (by first | rfl | simp)⟩, ⟨(by first | rfl | simp), (by first | rfl | simp)⟩⟩⟩⟩, Or.inr (⟨h3, rfl⟩)⟩⟩, fun v1 => fun h6 => ⟨⟨fun h7_ => have h7 := dT h7_; ⟨rfl, ⟨(0 : Int), ⟨⟨trivial, ⟨trivial, trivial⟩⟩, ⟨⟨(by first | rfl | simp), (by first | rfl | simp)⟩, ⟨⟨(by first | rfl | simp), (by first | rfl | simp)⟩, ⟨(by first | rfl | simp), (by first | rfl | simp)⟩⟩⟩⟩, Or.inl (⟨h7, rfl⟩)⟩⟩, fun h9_ => have h9 := dF h9_; ⟨⟨fun h10_ => have h10 := dT h10_; ⟨(0 : Int), ⟨⟨trivial, ⟨trivial, trivial⟩⟩, ⟨⟨(by first | rfl | simp), (by first | rfl | simp)⟩, ⟨⟨(by first | rfl | simp), (by first | rfl | simp)⟩, ⟨(by first | rfl | simp), (by first | rfl | simp)⟩⟩⟩⟩, Or.inl (⟨h10, rfl⟩)⟩, fun h12_ => have h12 := dF h12_; ⟨⟨fun h13_ => have h13 := dT h13_; ⟨b.t, ⟨⟨trivial, ⟨trivial, trivial⟩⟩, ⟨⟨(by first | rfl | simp), (by first | rfl | simp)⟩, ⟨⟨(by first | rfl | simp), (by first | rfl | simp)⟩, ⟨(by first | rfl | simp), (by first | rfl | simp)⟩⟩⟩⟩, Or.inl (⟨h13, rfl⟩)⟩, fun h15_ => have h15 := dF h15_; ⟨a.t, ⟨⟨trivial, ⟨trivial, trivial⟩⟩, ⟨⟨(by first | rfl | simp), (by first | rfl | simp)⟩, ⟨⟨(by first | rfl | simp), (by first | rfl | simp)⟩, ⟨(by first | rfl | simp), (by first | rfl | simp)⟩⟩⟩⟩, Or.inr (⟨h15, rfl⟩)⟩⟩, fun v13 => fun h18 => ⟨v13, ⟨⟨trivial, ⟨trivial, trivial⟩⟩, ⟨⟨(by first | rfl | simp), (by first | rfl | simp)⟩, ⟨⟨(by first | rfl | simp), (by first | rfl | simp)⟩, ⟨(by first | rfl | simp), (by first | rfl | simp)⟩⟩⟩⟩, Or.inr (⟨v13, h12, h18, rfl⟩)⟩⟩⟩, fun v10 => fun h21 => ⟨v10, ⟨⟨trivial, ⟨trivial, trivial⟩⟩, ⟨⟨(by first | rfl | simp), (by first | rfl | simp)⟩, ⟨⟨(by first | rfl | simp), (by first | rfl | simp)⟩, ⟨(by first | rfl | simp), (by first | rfl | simp)⟩⟩⟩⟩, Or.inr (⟨v10, h9, h21, rfl⟩)⟩⟩⟩, fun v7 => fun h24 => ⟨?_, ?_⟩⟩⟩
 ·unfold jn; rcases h6 with ⟨h, rfl⟩ | ⟨h, rfl⟩ <;> simp [h]
 ·unfold jn
  rcases h24 with ⟨h, rfl⟩ | ⟨v, h, ⟨h', rfl⟩ | ⟨v', h', ⟨h'', rfl⟩ | ⟨h'', rfl⟩, rfl⟩, rfl⟩ <;> simp [*]
theorem put_run (l : List Sp) (x : Sp) (hm : l.length ≤ 100000) (hl : ∀ y ∈ l, SpOk y) (hx : SpOk x) : (R FT X).f 34 [.slice 2 (l.map encSp), encSp x] = some (.slice 2 ((put l x).map encSp)) := by
 have hm' := maxLen_le
 have bf := before_run (X := X)
 have jr := joined_run (X := X)
 refine R_wp ((Tr.inv (fun (k : Nat) ↦ St.mk [(0, AV.slice 2 (List.map encSp l)), (3, AV.ptr 0 0), (5, AV.row 1 0 (putK l x k).out.length (0 : Nat) (putK l x k).out.length), (6, boolA (putK l x k).done), (7, intA (↑k : Int))] [MObj.box 50 [intA (putK l x k).x.f, intA (putK l x k).x.t], MObj.row 0 2 (List.map encSp (putK l x k).out) true (1 : Nat)]) (fun (k : Nat) ↦ k ≤ l.length ∧ (putK l x k).out.length ≤ k + 1 ∧ SpOk (putK l x k).x) (fun (k : Nat) ↦ l.length - k) fun (k : Nat) ↦ (Tr.k l.length (((Tr.b true (Tr.ix encSp l k fun (x5 : Sp) ↦ Tr.k ((putK l x k).out.length + 1) Tr.nil.w)).w.br (Tr.ix encSp l k fun (x9 : Sp) ↦ Tr.c (boolA (decide (Apart x9 (putK l x k).x))) ((Tr.ix encSp l k fun (x12 : Sp) ↦ Tr.k ((putK l x k).out.length + 1) Tr.nil.w).br (Tr.ix encSp l k fun (x16 : Sp) ↦ Tr.c (boolA (decide (Apart (putK l x k).x x16))) ((Tr.ix encSp l k fun (x19 : Sp) ↦ Tr.k ((putK l x k).out.length + 2) Tr.nil.w).br (Tr.ix encSp l k fun (x23 : Sp) ↦ Tr.c (encSp (jn (putK l x k).x x23)) Tr.nil.w)).w).w).w)).w.w.w.br ((Tr.k ((putK l x k).out.length + 1) (Tr.g
 (List.map encSp ((putK l x k).out ++ [Sp.mk (putK l x k).x.f (putK l x k).x.t])) Tr.nil)).br (Tr.g (List.map encSp (putK l x k).out) Tr.nil)).w.w)).w).w) rfl ?_
 refine Eq.mpr (by kernel_rfl : _ = ((∃ (j1 : Nat), ((List.map encSp l = List.map encSp l ∧ True ∧ ((0 : Nat) = (putK l x j1).out.length ∧ (0 : Nat) = 0 ∧ (0 : Nat) = (putK l x j1).out.length) ∧ false = (putK l x j1).done ∧ (0 : Int) = (↑j1 : Int) ∧ True) ∧ (x.f = (putK l x j1).x.f ∧ x.t = (putK l x j1).x.t) ∧ [] = List.map encSp (putK l x j1).out) ∧ j1 ≤ l.length ∧ (putK l x j1).out.length ≤ j1 + 1 ∧ SpOk (putK l x j1).x) ∧ ∀ (k : Nat), k ≤ l.length ∧ (putK l x k).out.length ≤ k + 1 ∧ SpOk (putK l x k).x → (List.map encSp l).length = l.length ∧ (decide ((↑k : Int) < (↑l.length : Int)) = true → ((putK l x k).done = true → true = true ∧ List.map encSp l = List.map encSp l ∧ (↑k : Int) = (↑k : Int) ∧ k < l.length ∧ ∀ (x5 : Sp), l[k]? = some x5 → (List.map encSp (putK l x k).out).length = (putK l x k).out.length ∧ (0 : Nat) = 0 ∧ (putK l x k).out.length = (putK l x k).out.length ∧ (putK l x k).out.length + [AV.agg [intA x5.f, intA x5.t]].length = (putK l x k).out.length + 1 ∧ ((putK l x k).out.length + 1) * 16 ≤ (140737488355328 : Nat) ∧ (putK l x k).out.length + 1 ≤ (9223372036854775807 : Nat) ∧ InI64 ((↑k : Int) + 1) ∧ ∃ (j7 : Nat), ((List.map encSp
 l = List.map encSp l ∧ True ∧ ((putK l x k).out.length + 1 = (putK l x j7).out.length ∧ (0 : Nat) = 0 ∧ (putK l x k).out.length + 1 = (putK l x j7).out.length) ∧ (putK l x k).done = (putK l x j7).done ∧ (↑k : Int) + 1 = (↑j7 : Int) ∧ True) ∧ ((putK l x k).x.f = (putK l x j7).x.f ∧ (putK l x k).x.t = (putK l x j7).x.t) ∧ List.map encSp (putK l x k).out ++ [AV.agg [intA x5.f, intA x5.t]] = List.map encSp (putK l x j7).out) ∧ (j7 ≤ l.length ∧ (putK l x j7).out.length ≤ j7 + 1 ∧ SpOk (putK l x j7).x) ∧ l.length - j7 < l.length - k) ∧ ((putK l x k).done = false → List.map encSp l = List.map encSp l ∧ (↑k : Int) = (↑k : Int) ∧ k < l.length ∧ ∀ (x9 : Sp), l[k]? = some x9 → (R FT X).f 57 [encSp x9, encSp (putK l x k).x] = some (boolA (decide (Apart x9 (putK l x k).x))) ∧ (decide (Apart x9 (putK l x k).x) = true → List.map encSp l = List.map encSp l ∧ (↑k : Int) = (↑k : Int) ∧ k < l.length ∧ ∀ (x12 : Sp), l[k]? = some x12 → (List.map encSp (putK l x k).out).length = (putK l x k).out.length ∧ (0 : Nat) = 0 ∧ (putK l x k).out.length = (putK l x k).out.length ∧ (putK l x k).out.length + [AV.agg [intA x12.f, intA x12.t]].length = (putK l
 x k).out.length + 1 ∧ ((putK l x k).out.length + 1) * 16 ≤ (140737488355328 : Nat) ∧ (putK l x k).out.length + 1 ≤ (9223372036854775807 : Nat) ∧ InI64 ((↑k : Int) + 1) ∧ ∃ (j14 : Nat), ((List.map encSp l = List.map encSp l ∧ True ∧ ((putK l x k).out.length + 1 = (putK l x j14).out.length ∧ (0 : Nat) = 0 ∧ (putK l x k).out.length + 1 = (putK l x j14).out.length) ∧ (putK l x k).done = (putK l x j14).done ∧ (↑k : Int) + 1 = (↑j14 : Int) ∧ True) ∧ ((putK l x k).x.f = (putK l x j14).x.f ∧ (putK l x k).x.t = (putK l x j14).x.t) ∧ List.map encSp (putK l x k).out ++ [AV.agg [intA x12.f, intA x12.t]] = List.map encSp (putK l x j14).out) ∧ (j14 ≤ l.length ∧ (putK l x j14).out.length ≤ j14 + 1 ∧ SpOk (putK l x j14).x) ∧ l.length - j14 < l.length - k) ∧ (decide (Apart x9 (putK l x k).x) = false → List.map encSp l = List.map encSp l ∧ (↑k : Int) = (↑k : Int) ∧ k < l.length ∧ ∀ (x16 : Sp), l[k]? = some x16 → (R FT X).f 57 [encSp (putK l x k).x, encSp x16] = some (boolA (decide (Apart (putK l x k).x x16))) ∧ (decide (Apart (putK l x k).x x16) = true → List.map encSp l = List.map encSp l ∧ (↑k : Int) = (↑k :
 Int) ∧ k < l.length ∧ ∀ (x19 : Sp), l[k]? = some x19 → (List.map encSp (putK l x k).out).length = (putK l x k).out.length ∧ (0 : Nat) = 0 ∧ (putK l x k).out.length = (putK l x k).out.length ∧ (putK l x k).out.length + [AV.agg [intA (putK l x k).x.f, intA (putK l x k).x.t], AV.agg [intA x19.f, intA x19.t]].length = (putK l x k).out.length + 2 ∧ ((putK l x k).out.length + 2) * 16 ≤ (140737488355328 : Nat) ∧ (putK l x k).out.length + 2 ≤ (9223372036854775807 : Nat) ∧ InI64 ((↑k : Int) + 1) ∧ ∃ (j21 : Nat), ((List.map encSp l = List.map encSp l ∧ True ∧ ((putK l x k).out.length + 2 = (putK l x j21).out.length ∧ (0 : Nat) = 0 ∧ (putK l x k).out.length + 2 = (putK l x j21).out.length) ∧ true = (putK l x j21).done ∧ (↑k : Int) + 1 = (↑j21 : Int) ∧ True) ∧ ((putK l x k).x.f = (putK l x j21).x.f ∧ (putK l x k).x.t = (putK l x j21).x.t) ∧ List.map encSp (putK l x k).out ++ [AV.agg [intA (putK l x k).x.f, intA (putK l x k).x.t], AV.agg [intA x19.f, intA x19.t]] = List.map encSp (putK l x j21).out) ∧ (j21 ≤ l.length ∧ (putK l x j21).out.length ≤ j21 + 1 ∧ SpOk (putK l x j21).x) ∧ l.length - j21 < l.length -
 k) ∧ (decide (Apart (putK l x k).x x16) = false → List.map encSp l = List.map encSp l ∧ (↑k : Int) = (↑k : Int) ∧ k < l.length ∧ ∀ (x23 : Sp), l[k]? = some x23 → (R FT X).f 58 [encSp (putK l x k).x, encSp x23] = some (encSp (jn (putK l x k).x x23)) ∧ InI64 ((↑k : Int) + 1) ∧ ∃ (j25 : Nat), ((List.map encSp l = List.map encSp l ∧ True ∧ ((putK l x k).out.length = (putK l x j25).out.length ∧ (0 : Nat) = 0 ∧ (putK l x k).out.length = (putK l x j25).out.length) ∧ (putK l x k).done = (putK l x j25).done ∧ (↑k : Int) + 1 = (↑j25 : Int) ∧ True) ∧ ((jn (putK l x k).x x23).f = (putK l x j25).x.f ∧ (jn (putK l x k).x x23).t = (putK l x j25).x.t) ∧ List.map encSp (putK l x k).out = List.map encSp (putK l x j25).out) ∧ (j25 ≤ l.length ∧ (putK l x j25).out.length ≤ j25 + 1 ∧ SpOk (putK l x j25).x) ∧ l.length - j25 < l.length - k)))) ∧ (decide ((↑k : Int) < (↑l.length : Int)) = false → ((!(putK l x k).done) = true → (List.map encSp (putK l x k).out).length = (putK l x k).out.length ∧ (0 : Nat) = 0 ∧ (putK l x k).out.length = (putK l x k).out.length ∧ (putK l x k).out.length + [AV.agg [intA (putK l x k).x.f, intA (putK l x k).x.t]].length = (putK
 l x k).out.length + 1 ∧ ((putK l x k).out.length + 1) * 16 ≤ (140737488355328 : Nat) ∧ (putK l x k).out.length + 1 ≤ (9223372036854775807 : Nat) ∧ (List.map encSp (putK l x k).out ++ [AV.agg [intA (putK l x k).x.f, intA (putK l x k).x.t]]).length = (putK l x k).out.length + 1 ∧ List.take ((putK l x k).out.length + 1) (List.drop (0 : Nat) (List.map encSp (putK l x k).out ++ [AV.agg [intA (putK l x k).x.f, intA (putK l x k).x.t]])) = List.map encSp ((putK l x k).out ++ [Sp.mk (putK l x k).x.f (putK l x k).x.t]) ∧ List.map encSp ((putK l x k).out ++ [Sp.mk (putK l x k).x.f (putK l x k).x.t]) = List.map encSp (put l x)) ∧ ((!(putK l x k).done) = false → (List.map encSp (putK l x k).out).length = (putK l x k).out.length ∧ List.take (putK l x k).out.length (List.drop (0 : Nat) (List.map encSp (putK l x k).out)) = List.map encSp (putK l x k).out ∧ List.map encSp (putK l x k).out = List.map encSp (put l x))))) ?_
 refine ⟨⟨(0 : Nat), ⟨⟨rfl, trivial, ⟨rfl, rfl, rfl⟩, rfl, (by omega), trivial⟩, ⟨rfl, rfl⟩, rfl⟩, ⟨(by omega), ?_, ?_⟩⟩, fun k => fun h2 => have h2a := h2.1; have h2b := h2.2.1; have h2c := h2.2.2; ⟨(by simp), fun h3_ => have h3 := dT h3_; ⟨fun h4 => ⟨rfl, rfl, rfl, (by omega), fun x5 => fun h6 => ⟨(by simp), rfl, rfl, rfl, (by omega), (by omega), (by unfold InI64; omega), ⟨k + (1 : Nat), ⟨⟨rfl, trivial, ⟨?_, rfl, ?_⟩, ?_, (by omega), trivial⟩, ⟨?_, ?_⟩, ?_⟩, ⟨⟨(by omega), ?_, ?_⟩, (by omega)⟩⟩⟩⟩, fun h8 => ⟨rfl, rfl, (by omega), fun x9 => fun h10 => ⟨(bf _ _ ?_ ?_), fun h11_ => have h11 := dT h11_; ⟨rfl, rfl, (by omega), fun x12 => fun h13 => ⟨(by simp), rfl, rfl, rfl, (by omega), (by omega), (by unfold InI64; omega), ⟨k + (1 : Nat), ⟨⟨rfl, trivial, ⟨?_, rfl, ?_⟩, ?_, (by omega), trivial⟩, ⟨?_, ?_⟩, ?_⟩, ⟨⟨(by omega), ?_, ?_⟩, (by omega)⟩⟩⟩⟩, fun h15_ => have h15 := dF h15_; ⟨rfl, rfl, (by omega), fun x16 => fun h17 => ⟨(bf _ _ ?_ ?_), fun h18_ => have h18 := dT h18_; ⟨rfl, rfl, (by omega), fun x19 => fun h20 => ⟨(by simp), rfl, rfl, rfl, (by omega), (by omega), (by unfold InI64; omega), ⟨k + (1 : Nat), ⟨⟨rfl, trivial, ⟨?_, rfl, ?_⟩, ?_, (by omega), trivial⟩, ⟨?_, ?_⟩, ?_⟩, ⟨⟨(by omega), ?_, ?_⟩, (by omega)⟩⟩⟩⟩, fun h22_ => have h22 := dF h22_; ⟨rfl, rfl, (by omega), fun x23 => fun h24 => ⟨(jr _ _), (by unfold InI64; omega), ⟨k + (1 : Nat), ⟨⟨rfl, trivial, ⟨?_, rfl, ?_⟩, ?_, (by omega), trivial⟩, ⟨?_, ?_⟩, ?_⟩, ⟨⟨(by omega), ?_, ?_⟩, (by omega)⟩⟩⟩⟩⟩⟩⟩⟩⟩, fun h26_ => have h26 := dF h26_; ⟨fun h27_ => have h27 := nT h27_; ⟨(by simp), rfl, rfl, rfl, (by omega), (by omega), (by simp), ?_, ?_⟩, fun h28_ => have h28 := nF h28_; ⟨(by simp), ?_, ?_⟩⟩⟩⟩
 ·exact Nat.zero_le _
 ·exact hx
 iterate 8
  ·first | exact putK_len l x (k + 1) (by omega) | ((rw [putK_1 h6 h4]) <;> first | (simp; done) | (simp [List.map_append, encSp]; done) | (dsimp only; assumption) | assumption)
 ·have := h2c.lo; omega
 ·exact h2c.hi
 all_goals try obtain rfl := same_at h10 h13
 iterate 8
  ·first | exact putK_len l x (k + 1) (by omega) | ((rw [putK_2 h10 h8 h11]) <;> first | (simp; done) | (simp [List.map_append, encSp]; done) | (dsimp only; assumption) | assumption)
 all_goals try obtain rfl := same_at h10 h17
 ·have := (hl _ (List.mem_of_getElem? h17)).lo; omega
 ·exact (hl _ (List.mem_of_getElem? h17)).hi
 all_goals try obtain rfl := same_at h17 h20
 iterate 8
  ·first | exact putK_len l x (k + 1) (by omega) | ((rw [putK_3 h10 h8 h15 h18]) <;> first | (simp; done) | (simp [List.map_append, encSp]; done) | (dsimp only; assumption) | assumption)
 all_goals try obtain rfl := same_at h17 h24
 iterate 7
  ·first | exact putK_len l x (k + 1) (by omega) | ((rw [putK_4 h10 h8 h15 h22]) <;> first | (simp; done) | (simp [List.map_append, encSp]; done) | (dsimp only; assumption) | assumption)
 ·rw [putK_4 h10 h8 h15 h22]; exact jn_ok h2c (hl _ (List.mem_of_getElem? h24))
 ·rw [List.drop_zero, List.take_of_length_le (by simp), List.map_append]; rfl
 ·rw [put_end l x (k := k) (by omega), putE, if_neg (by rw [h27]; decide)]
 ·rw [List.drop_zero, List.take_of_length_le (by simp)]
 ·rw [put_end l x (k := k) (by omega), putE, if_pos h28]
theorem norB_run (l : List Sp) (hm : l.length ≤ maxLen) (hl : ∀ x ∈ l, x.f ≤ 9223372036854775807) : (R FT X).f 24 [.slice 2 (l.map encSp)] = some (boolA (norB l)) := by
 have hm' := maxLen_i64
 refine R_wp ((Tr.inv (fun (k : Nat) ↦ St.mk [(0, AV.slice 2 (List.map encSp l)), (3, intA (↑k : Int))] []) (fun (k : Nat) ↦ k ≤ l.length ∧ NorI l k) (fun (k : Nat) ↦ l.length - k) fun (k : Nat) ↦ (Tr.k l.length ((Tr.ix encSp l k fun (x4 : Sp) ↦ ((Tr.b true (Tr.b true Tr.nil).w).br (((Tr.b true Tr.nil).w.br ((Tr.ix encSp l ((↑k : Int) - 1).toNat fun (x12 : Sp) ↦ (Tr.b true Tr.nil).w.br (Tr.ix encSp l ((↑k : Int) - 1).toNat fun (x16 : Sp) ↦ (Tr.nil.br Tr.nil.w).w).w.w).w.br (Tr.b false Tr.nil.w).w)).br (Tr.b false ((Tr.ix encSp l ((↑k : Int) - 1).toNat fun (x25 : Sp) ↦ (Tr.b true Tr.nil).w.br (Tr.ix encSp l ((↑k : Int) - 1).toNat fun (x29 : Sp) ↦ (Tr.nil.br Tr.nil.w).w).w.w).w.br (Tr.b false Tr.nil.w).w)))).w).w.br Tr.nil)).w).w) rfl ?_
 refine Eq.mpr (by kernel_rfl : _ = ((∃ (j1 : Nat), ((List.map encSp l = List.map encSp l ∧ (0 : Int) = (↑j1 : Int) ∧ True) ∧ True) ∧ j1 ≤ l.length ∧ NorI l j1) ∧ ∀ (k : Nat), k ≤ l.length ∧ NorI l k → (List.map encSp l).length = l.length ∧ (decide ((↑k : Int) < (↑l.length : Int)) = true → List.map encSp l = List.map encSp l ∧ (↑k : Int) = (↑k : Int) ∧ k < l.length ∧ ∀ (x4 : Sp), l[k]? = some x4 → (decide (x4.f < 1) = true → true = true ∧ true = true ∧ false = norB l) ∧ (decide (x4.f < 1) = false → ((!decide (x4.t = 0)) = true → (decide (x4.t < x4.f) = true → true = true ∧ false = norB l) ∧ (decide (x4.t < x4.f) = false → (decide ((0 : Int) < (↑k : Int)) = true → InI64 ((↑k : Int) - 1) ∧ List.map encSp l = List.map encSp l ∧ (↑k : Int) - 1 = (↑((↑k : Int) - 1).toNat : Int) ∧ ((↑k : Int) - 1).toNat < l.length ∧ ∀ (x12 : Sp), l[((↑k : Int) - 1).toNat]? = some x12 → (decide (x12.t = 0) = true → true = true ∧ false = norB l) ∧ (decide (x12.t = 0) = false → InI64 (x4.f - 2) ∧ InI64 ((↑k : Int) - 1) ∧ List.map encSp l = List.map encSp l ∧ (↑k : Int) - 1 = (↑((↑k : Int) - 1).toNat : Int) ∧ ((↑k : Int) - 1).toNat
 < l.length ∧ ∀ (x16 : Sp), l[((↑k : Int) - 1).toNat]? = some x16 → (decide (x4.f - 2 < x16.t) = true → false = norB l) ∧ (decide (x4.f - 2 < x16.t) = false → InI64 ((↑k : Int) + 1) ∧ ∃ (j20 : Nat), ((List.map encSp l = List.map encSp l ∧ (↑k : Int) + 1 = (↑j20 : Int) ∧ True) ∧ True) ∧ (j20 ≤ l.length ∧ NorI l j20) ∧ l.length - j20 < l.length - k))) ∧ (decide ((0 : Int) < (↑k : Int)) = false → false = false ∧ InI64 ((↑k : Int) + 1) ∧ ∃ (j22 : Nat), ((List.map encSp l = List.map encSp l ∧ (↑k : Int) + 1 = (↑j22 : Int) ∧ True) ∧ True) ∧ (j22 ≤ l.length ∧ NorI l j22) ∧ l.length - j22 < l.length - k))) ∧ ((!decide (x4.t = 0)) = false → false = false ∧ (decide ((0 : Int) < (↑k : Int)) = true → InI64 ((↑k : Int) - 1) ∧ List.map encSp l = List.map encSp l ∧ (↑k : Int) - 1 = (↑((↑k : Int) - 1).toNat : Int) ∧ ((↑k : Int) - 1).toNat < l.length ∧ ∀ (x25 : Sp), l[((↑k : Int) - 1).toNat]? = some x25 → (decide (x25.t = 0) = true → true = true ∧ false = norB l) ∧ (decide (x25.t = 0) = false → InI64 (x4.f - 2) ∧ InI64 ((↑k : Int) - 1) ∧ List.map encSp l = List.map encSp
 l ∧ (↑k : Int) - 1 = (↑((↑k : Int) - 1).toNat : Int) ∧ ((↑k : Int) - 1).toNat < l.length ∧ ∀ (x29 : Sp), l[((↑k : Int) - 1).toNat]? = some x29 → (decide (x4.f - 2 < x29.t) = true → false = norB l) ∧ (decide (x4.f - 2 < x29.t) = false → InI64 ((↑k : Int) + 1) ∧ ∃ (j33 : Nat), ((List.map encSp l = List.map encSp l ∧ (↑k : Int) + 1 = (↑j33 : Int) ∧ True) ∧ True) ∧ (j33 ≤ l.length ∧ NorI l j33) ∧ l.length - j33 < l.length - k))) ∧ (decide ((0 : Int) < (↑k : Int)) = false → false = false ∧ InI64 ((↑k : Int) + 1) ∧ ∃ (j35 : Nat), ((List.map encSp l = List.map encSp l ∧ (↑k : Int) + 1 = (↑j35 : Int) ∧ True) ∧ True) ∧ (j35 ≤ l.length ∧ NorI l j35) ∧ l.length - j35 < l.length - k)))) ∧ (decide ((↑k : Int) < (↑l.length : Int)) = false → true = norB l))) ?_
 refine ⟨⟨(0 : Nat), ⟨⟨rfl, (by omega), trivial⟩, trivial⟩, ⟨(by omega), ?_⟩⟩, fun k => fun h2 => have h2a := h2.1; have h2b := h2.2; ⟨(by simp), fun h3_ => have h3 := dT h3_; ⟨rfl, rfl, (by omega), fun x4 => fun h5 => ⟨fun h6_ => have h6 := dT h6_; ⟨rfl, rfl, ?_⟩, fun h7_ => have h7 := dF h7_; ⟨fun h8_ => have h8 := dnT h8_; ⟨fun h9_ => have h9 := dT h9_; ⟨rfl, ?_⟩, fun h10_ => have h10 := dF h10_; ⟨fun h11_ => have h11 := dT h11_; ⟨(by unfold InI64; omega), rfl, (by omega), (by omega), fun x12 => fun h13 => ⟨fun h14_ => have h14 := dT h14_; ⟨rfl, ?_⟩, fun h15_ => have h15 := dF h15_; ⟨?_, (by unfold InI64; omega), rfl, (by omega), (by omega), fun x16 => fun h17 => ⟨fun h18_ => have h18 := dT h18_; ?_, fun h19_ => have h19 := dF h19_; ⟨(by unfold InI64; omega), ⟨k + (1 : Nat), ⟨⟨rfl, (by omega), trivial⟩, trivial⟩, ⟨⟨(by omega), ?_⟩, (by omega)⟩⟩⟩⟩⟩⟩⟩, fun h21_ => have h21 := dF h21_; ⟨rfl, (by unfold InI64; omega), ⟨k + (1 : Nat), ⟨⟨rfl, (by omega), trivial⟩, trivial⟩, ⟨⟨(by omega), ?_⟩, (by omega)⟩⟩⟩⟩⟩, fun h23_ => have h23 := dnF h23_; ⟨rfl, fun h24_ => have h24 := dT h24_; ⟨(by unfold InI64; omega), rfl, (by omega), (by omega), fun x25 => fun h26 => ⟨fun h27_ => have h27 := dT h27_; ⟨rfl, ?_⟩, fun h28_ => have h28 := dF h28_; ⟨?_, (by unfold InI64; omega), rfl, (by omega), (by omega), fun x29 => fun h30 => ⟨fun h31_ => have h31 := dT h31_; ?_, fun h32_ => have h32 := dF h32_; ⟨(by unfold InI64; omega), ⟨k + (1 : Nat), ⟨⟨rfl, (by omega), trivial⟩, trivial⟩, ⟨⟨(by omega), ?_⟩, (by omega)⟩⟩⟩⟩⟩⟩⟩, fun h34_ => have h34 := dF h34_; ⟨rfl, (by unfold InI64; omega), ⟨k + (1 : Nat), ⟨⟨rfl, (by omega), trivial⟩, trivial⟩, ⟨⟨(by omega), ?_⟩, (by omega)⟩⟩⟩⟩⟩⟩⟩, fun h36_ => have h36 := dF h36_; ?_⟩⟩
 ·exact .zero l
 rotate_right 1
 ·exact h2b.all (by omega)
 all_goals have hx4 := hl x4 (List.mem_of_getElem? h5)
 ·exact norB_bad h5 (okB_no (.inl h6))
 ·exact norB_bad h5 (okB_no (.inr ⟨h8, h9⟩))
 ·exact norB_gap (pre_at h13 h11 h5).1 (pre_at h13 h11 h5).2 fun q => q.1 h14
 ·unfold InI64; omega
 ·exact norB_gap (pre_at h17 h11 h5).1 (pre_at h17 h11 h5).2 fun q => by have := q.2; omega
 ·obtain rfl := same_at h13 h17
  exact h2b.step h5 (okB_yes h7 (.inr h10)) (.inr ⟨_, (pre_at h17 h11 h5).1, h15, by omega⟩)
 ·exact h2b.step h5 (okB_yes h7 (.inr h10)) (.inl (by omega))
 ·exact norB_gap (pre_at h26 h24 h5).1 (pre_at h26 h24 h5).2 fun q => q.1 h27
 ·unfold InI64; omega
 ·exact norB_gap (pre_at h30 h24 h5).1 (pre_at h30 h24 h5).2 fun q => by have := q.2; omega
 ·obtain rfl := same_at h26 h30
  exact h2b.step h5 (okB_yes h7 (.inl h23)) (.inr ⟨_, (pre_at h30 h24 h5).1, h28, by omega⟩)
 ·exact h2b.step h5 (okB_yes h7 (.inl h23)) (.inl (by omega))
theorem hasB_run (l : List Sp) (n : Int) (hm : l.length ≤ maxLen) : (R FT X).f 43 [.slice 2 (l.map encSp), intA n] = some (boolA (hasB l n)) := by
 have hm' := maxLen_i64
 refine R_wp ((Tr.inv (fun (k : Nat) ↦ St.mk [(0, AV.slice 2 (List.map encSp l)), (1, intA n), (5, intA (↑k : Int))] []) (fun (k : Nat) ↦ k ≤ l.length ∧ ∀ (x : Sp), x ∈ List.take k l → inB n x = false) (fun (k : Nat) ↦ l.length - k) fun (k : Nat) ↦ (Tr.k l.length ((Tr.ix encSp l k fun (x6 : Sp) ↦ (Tr.ix encSp l k fun (x9 : Sp) ↦ (Tr.b true Tr.nil).w.br (Tr.ix encSp l k fun (x13 : Sp) ↦ (Tr.nil.br Tr.nil.w).w)).br (Tr.b false Tr.nil.w).w).w.w.br Tr.nil)).w).w) rfl ?_
 refine Eq.mpr (by kernel_rfl : _ = ((∃ (j1 : Nat), ((List.map encSp l = List.map encSp l ∧ n = n ∧ (0 : Int) = (↑j1 : Int) ∧ True) ∧ True) ∧ j1 ≤ l.length ∧ ∀ (x2 : Sp), x2 ∈ List.take j1 l → inB n x2 = false) ∧ ∀ (k : Nat), (k ≤ l.length ∧ ∀ (x : Sp), x ∈ List.take k l → inB n x = false) → (List.map encSp l).length = l.length ∧ (decide ((↑k : Int) < (↑l.length : Int)) = true → List.map encSp l = List.map encSp l ∧ (↑k : Int) = (↑k : Int) ∧ k < l.length ∧ ∀ (x6 : Sp), l[k]? = some x6 → (decide (x6.f ≤ n) = true → List.map encSp l = List.map encSp l ∧ (↑k : Int) = (↑k : Int) ∧ k < l.length ∧ ∀ (x9 : Sp), l[k]? = some x9 → (decide (x9.t = 0) = true → true = true ∧ true = hasB l n) ∧ (decide (x9.t = 0) = false → List.map encSp l = List.map encSp l ∧ (↑k : Int) = (↑k : Int) ∧ k < l.length ∧ ∀ (x13 : Sp), l[k]? = some x13 → (decide (n ≤ x13.t) = true → true = hasB l n) ∧ (decide (n ≤ x13.t) = false → InI64 ((↑k : Int) + 1) ∧ ∃ (j17 : Nat), ((List.map encSp l = List.map encSp l ∧ n = n ∧ (↑k : Int) + 1 = (↑j17 : Int) ∧ True) ∧ True) ∧ (j17 ≤ l.length ∧ ∀ (x18 : Sp), x18 ∈ List.take j17 l → inB n x18 = false) ∧ l.length - j17 < l.length - k))) ∧ (decide (x6.f ≤ n) = false → false = false ∧ InI64
 ((↑k : Int) + 1) ∧ ∃ (j21 : Nat), ((List.map encSp l = List.map encSp l ∧ n = n ∧ (↑k : Int) + 1 = (↑j21 : Int) ∧ True) ∧ True) ∧ (j21 ≤ l.length ∧ ∀ (x22 : Sp), x22 ∈ List.take j21 l → inB n x22 = false) ∧ l.length - j21 < l.length - k)) ∧ (decide ((↑k : Int) < (↑l.length : Int)) = false → false = hasB l n))) ?_
 refine ⟨⟨(0 : Nat), ⟨⟨rfl, rfl, (by omega), trivial⟩, trivial⟩, ⟨(by omega), fun x2 => fun h3 => ?_⟩⟩, fun k => fun h4 => have h4a := h4.1; have h4b := h4.2; ⟨(by simp), fun h5_ => have h5 := dT h5_; ⟨rfl, rfl, (by omega), fun x6 => fun h7 => ⟨fun h8_ => have h8 := dT h8_; ⟨rfl, rfl, (by omega), fun x9 => fun h10 => ⟨fun h11_ => have h11 := dT h11_; ⟨rfl, ?_⟩, fun h12_ => have h12 := dF h12_; ⟨rfl, rfl, (by omega), fun x13 => fun h14 => ⟨fun h15_ => have h15 := dT h15_; ?_, fun h16_ => have h16 := dF h16_; ⟨(by unfold InI64; omega), ⟨k + (1 : Nat), ⟨⟨rfl, rfl, (by omega), trivial⟩, trivial⟩, ⟨⟨(by omega), fun x18 => fun h19 => ?_⟩, (by omega)⟩⟩⟩⟩⟩⟩⟩, fun h20_ => have h20 := dF h20_; ⟨rfl, (by unfold InI64; omega), ⟨k + (1 : Nat), ⟨⟨rfl, rfl, (by omega), trivial⟩, trivial⟩, ⟨⟨(by omega), fun x22 => fun h23 => ?_⟩, (by omega)⟩⟩⟩⟩⟩, fun h24_ => have h24 := dF h24_; ?_⟩⟩
 ·simp at h3
 ·exact hasB_hit h7 h8 (.inl (same_at h7 h10 ▸ h11))
 ·exact hasB_hit h7 h8 (.inr (same_at h7 h14 ▸ h15))
 ·exact all_of h7 h4b (inB_no (.inr ⟨same_at h7 h10 ▸ h12, same_at h7 h14 ▸ h16⟩)) _ h19
 ·exact all_of h7 h4b (inB_no (.inl h20)) _ h23
 ·exact hasB_miss (by omega) h4b
theorem has2_run (l : List Sp) (n : Int) (hm : l.length ≤ maxLen) : (R FT X).f 25 [.slice 2 (l.map encSp), intA n] = some (boolA (hasB l n)) := by
 have hm' := maxLen_i64
 refine R_wp ((Tr.inv (fun (k : Nat) ↦ St.mk [(0, AV.slice 2 (List.map encSp l)), (1, intA n), (5, intA (↑k : Int))] []) (fun (k : Nat) ↦ k ≤ l.length ∧ ∀ (x : Sp), x ∈ List.take k l → inB n x = false) (fun (k : Nat) ↦ l.length - k) fun (k : Nat) ↦ (Tr.k l.length ((Tr.ix encSp l k fun (x6 : Sp) ↦ (Tr.ix encSp l k fun (x9 : Sp) ↦ (Tr.b true Tr.nil).w.br (Tr.ix encSp l k fun (x13 : Sp) ↦ (Tr.nil.br Tr.nil.w).w)).br (Tr.b false Tr.nil.w).w).w.w.br Tr.nil)).w).w) rfl ?_
 refine Eq.mpr (by kernel_rfl : _ = ((∃ (j1 : Nat), ((List.map encSp l = List.map encSp l ∧ n = n ∧ (0 : Int) = (↑j1 : Int) ∧ True) ∧ True) ∧ j1 ≤ l.length ∧ ∀ (x2 : Sp), x2 ∈ List.take j1 l → inB n x2 = false) ∧ ∀ (k : Nat), (k ≤ l.length ∧ ∀ (x : Sp), x ∈ List.take k l → inB n x = false) → (List.map encSp l).length = l.length ∧ (decide ((↑k : Int) < (↑l.length : Int)) = true → List.map encSp l = List.map encSp l ∧ (↑k : Int) = (↑k : Int) ∧ k < l.length ∧ ∀ (x6 : Sp), l[k]? = some x6 → (decide (x6.f ≤ n) = true → List.map encSp l = List.map encSp l ∧ (↑k : Int) = (↑k : Int) ∧ k < l.length ∧ ∀ (x9 : Sp), l[k]? = some x9 → (decide (x9.t = 0) = true → true = true ∧ true = hasB l n) ∧ (decide (x9.t = 0) = false → List.map encSp l = List.map encSp l ∧ (↑k : Int) = (↑k : Int) ∧ k < l.length ∧ ∀ (x13 : Sp), l[k]? = some x13 → (decide (n ≤ x13.t) = true → true = hasB l n) ∧ (decide (n ≤ x13.t) = false → InI64 ((↑k : Int) + 1) ∧ ∃ (j17 : Nat), ((List.map encSp l = List.map encSp l ∧ n = n ∧ (↑k : Int) + 1 = (↑j17 : Int) ∧ True) ∧ True) ∧ (j17 ≤ l.length ∧ ∀ (x18 : Sp), x18 ∈ List.take j17 l → inB n x18 = false) ∧ l.length - j17 < l.length - k))) ∧ (decide (x6.f ≤ n) = false → false = false ∧ InI64
 ((↑k : Int) + 1) ∧ ∃ (j21 : Nat), ((List.map encSp l = List.map encSp l ∧ n = n ∧ (↑k : Int) + 1 = (↑j21 : Int) ∧ True) ∧ True) ∧ (j21 ≤ l.length ∧ ∀ (x22 : Sp), x22 ∈ List.take j21 l → inB n x22 = false) ∧ l.length - j21 < l.length - k)) ∧ (decide ((↑k : Int) < (↑l.length : Int)) = false → false = hasB l n))) ?_
 refine ⟨⟨(0 : Nat), ⟨⟨rfl, rfl, (by omega), trivial⟩, trivial⟩, ⟨(by omega), fun x2 => fun h3 => ?_⟩⟩, fun k => fun h4 => have h4a := h4.1; have h4b := h4.2; ⟨(by simp), fun h5_ => have h5 := dT h5_; ⟨rfl, rfl, (by omega), fun x6 => fun h7 => ⟨fun h8_ => have h8 := dT h8_; ⟨rfl, rfl, (by omega), fun x9 => fun h10 => ⟨fun h11_ => have h11 := dT h11_; ⟨rfl, ?_⟩, fun h12_ => have h12 := dF h12_; ⟨rfl, rfl, (by omega), fun x13 => fun h14 => ⟨fun h15_ => have h15 := dT h15_; ?_, fun h16_ => have h16 := dF h16_; ⟨(by unfold InI64; omega), ⟨k + (1 : Nat), ⟨⟨rfl, rfl, (by omega), trivial⟩, trivial⟩, ⟨⟨(by omega), fun x18 => fun h19 => ?_⟩, (by omega)⟩⟩⟩⟩⟩⟩⟩, fun h20_ => have h20 := dF h20_; ⟨rfl, (by unfold InI64; omega), ⟨k + (1 : Nat), ⟨⟨rfl, rfl, (by omega), trivial⟩, trivial⟩, ⟨⟨(by omega), fun x22 => fun h23 => ?_⟩, (by omega)⟩⟩⟩⟩⟩, fun h24_ => have h24 := dF h24_; ?_⟩⟩
 ·simp at h3
 ·exact hasB_hit h7 h8 (.inl (same_at h7 h10 ▸ h11))
 ·exact hasB_hit h7 h8 (.inr (same_at h7 h14 ▸ h15))
 ·exact all_of h7 h4b (inB_no (.inr ⟨same_at h7 h10 ▸ h12, same_at h7 h14 ▸ h16⟩)) _ h19
 ·exact all_of h7 h4b (inB_no (.inl h20)) _ h23
 ·exact hasB_miss (by omega) h4b
theorem same_run (l m : List Sp) (hm : l.length ≤ maxLen) : (R FT X).f 12 [.slice 2 (l.map encSp), .slice 2 (m.map encSp)] = some (boolA (sameB l m)) := by
 have hm' := maxLen_i64
 refine R_wp ((Tr.k l.length (Tr.k m.length (Tr.nil.br (Tr.inv (fun (k : Nat) ↦ St.mk [(0, AV.slice 2 (List.map encSp l)), (1, AV.slice 2 (List.map encSp m)), (5, intA (↑k : Int))] []) (fun (k : Nat) ↦ k ≤ l.length ∧ l.length = m.length ∧ List.take k l = List.take k m) (fun (k : Nat) ↦ l.length - k) fun (k : Nat) ↦ (Tr.k l.length ((Tr.ix encSp l k fun (x6 : Sp) ↦ Tr.ix encSp m k fun (x8 : Sp) ↦ (Tr.nil.br Tr.nil.w).w).w.w.br Tr.nil)).w).w).w)).w) rfl ?_
 refine Eq.mpr (by kernel_rfl : _ = ((List.map encSp l).length = l.length ∧ (List.map encSp m).length = m.length ∧ ((!decide ((↑l.length : Int) = (↑m.length : Int))) = true → false = sameB l m) ∧ ((!decide ((↑l.length : Int) = (↑m.length : Int))) = false → (∃ (j3 : Nat), ((List.map encSp l = List.map encSp l ∧ List.map encSp m = List.map encSp m ∧ (0 : Int) = (↑j3 : Int) ∧ True) ∧ True) ∧ j3 ≤ l.length ∧ l.length = m.length ∧ List.take j3 l = List.take j3 m) ∧ ∀ (k : Nat), k ≤ l.length ∧ l.length = m.length ∧ List.take k l = List.take k m → (List.map encSp l).length = l.length ∧ (decide ((↑k : Int) < (↑l.length : Int)) = true → List.map encSp l = List.map encSp l ∧ (↑k : Int) = (↑k : Int) ∧ k < l.length ∧ ∀ (x6 : Sp), l[k]? = some x6 → List.map encSp m = List.map encSp m ∧ (↑k : Int) = (↑k : Int) ∧ k < m.length ∧ ∀ (x8 : Sp), m[k]? = some x8 → ((!(decide (x6.f = x8.f) && decide (x6.t = x8.t))) = true → false = sameB l m) ∧ ((!(decide (x6.f = x8.f) && decide (x6.t = x8.t))) = false → InI64 ((↑k : Int) + 1) ∧ ∃ (j12 : Nat), ((List.map encSp l = List.map encSp l ∧ List.map encSp m = List.map encSp m ∧ (↑k : Int) + 1 = (↑j12 : Int) ∧ True) ∧ True) ∧ (j12 ≤ l.length ∧ l.length = m.length ∧ List.take j12 l =
 List.take j12 m) ∧ l.length - j12 < l.length - k)) ∧ (decide ((↑k : Int) < (↑l.length : Int)) = false → true = sameB l m)))) ?_
 refine ⟨(by simp), (by simp), fun h1_ => have h1 := dnT h1_; ?_, fun h2_ => have h2 := dnF h2_; ⟨⟨(0 : Nat), ⟨⟨rfl, rfl, (by omega), trivial⟩, trivial⟩, ⟨(by omega), (by omega), rfl⟩⟩, fun k => fun h4 => have h4a := h4.1; have h4b := h4.2.1; have h4c := h4.2.2; ⟨(by simp), fun h5_ => have h5 := dT h5_; ⟨rfl, rfl, (by omega), fun x6 => fun h7 => ⟨rfl, rfl, (by omega), fun x8 => fun h9 => ⟨fun h10_ => have h10 := nT h10_; ?_, fun h11_ => have h11 := nF h11_; ⟨(by unfold InI64; omega), ⟨k + (1 : Nat), ⟨⟨rfl, rfl, (by omega), trivial⟩, trivial⟩, ⟨⟨(by omega), h4b, ?_⟩, (by omega)⟩⟩⟩⟩⟩⟩, fun h13_ => have h13 := dF h13_; ?_⟩⟩⟩
 ·exact sameB_n fun e => h1 (by rw [e])
 ·exact sameB_n (at_ne h7 h9 (sp_ne h10))
 ·exact take_eq h4c h7 (sp_ext h11 ▸ h9)
 ·exact sameB_y (take_all h4c (by omega) (by omega))
end
end Go.Proofs.YtfedemnaeggokaaGreatDoor
end
