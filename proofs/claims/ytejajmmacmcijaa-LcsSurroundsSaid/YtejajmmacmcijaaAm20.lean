/- The abstract machine: what it answers with enough fuel. -/
import Derived.Test.YtejajmmacmcijaaAm19
namespace Go.Proofs.Ytejajmmacmcijaa

def CLe (c c' : CallF) : Prop := ∀ f vs r, c f vs = some r → c' f vs = some r
def LLe (l l' : LoopF) : Prop := ∀ c k st r, l c k st = some r → l' c k st = some r

section
variable {call call' : CallF} {loop loop' : LoopF}

theorem stepOp_mono (h : CLe call call') {st st' : St} {d : Option Nat} {o : AOp} (hs : stepOp call st d o = some st') : stepOp call' st d o = some st' := by
  cases o <;> try exact hs
  case call f args =>
    simp only [stepOp] at hs ⊢
    split at hs
    · rename_i vs hvs
      split at hs
      · rename_i r hr
        rw [h f vs r hr]
        exact hs
      · cases hs
    · cases hs
theorem runOps_mono (h : CLe call call') : ∀ {l : List AOper} {st st' : St}, runOps call l st = some st' → runOps call' l st = some st'
  | [], st, st', hs => hs
  | o :: r, st, st', hs => by
    simp only [runOps] at hs ⊢
    split at hs
    · split at hs
      · rename_i st1 h1
        rw [stepOp_mono h h1]
        exact runOps_mono h hs
      · cases hs
    · exact runOps_mono h hs
    · cases hs
theorem quietOp_mono (h : CLe call call') {m : List MObj} {fr : List (Nat × AV)} {o : AOp} {v : AV} (hs : quietOp call m fr o = some v) : quietOp call' m fr o = some v := by
  cases o <;> try exact hs
  case call f args =>
    simp only [quietOp] at hs ⊢
    split at hs
    · rename_i vs hvs
      split at hs
      · rename_i r hr
        rw [h f vs r hr]
        exact hs
      · cases hs
    · cases hs
theorem runQ_mono (h : CLe call call') {m : List MObj} : ∀ {l : List AOper} {fr fr' : List (Nat × AV)}, runQ call m l fr = some fr' → runQ call' m l fr = some fr'
  | [], fr, fr', hs => hs
  | o :: r, fr, fr', hs => by
    simp only [runQ] at hs ⊢
    split at hs
    · split at hs
      · rename_i v h1
        rw [quietOp_mono h h1]
        exact runQ_mono h hs
      · cases hs
    · exact runQ_mono h hs
    · cases hs
theorem aexec_mono (h : CLe call call') (hl : LLe loop loop') : ∀ {c : ACode} {st : St} {r : AExit × St}, aexec call loop c st = some r → aexec call' loop' c st = some r
  | .skip, _, _, hs => hs
  | .exit _, _, _, hs => hs
  | .ret, _, _, hs => hs
  | .region ops drops, st, r, hs => by
    simp only [aexec] at hs ⊢
    split at hs
    · rename_i st' h1
      rw [runOps_mono h h1]
      exact hs
    · cases hs
  | .dregion ops tail drops, st, r, hs => by
    simp only [aexec] at hs ⊢
    split at hs
    · rename_i fr h1
      rw [runQ_mono h h1]
      simp only
      split at hs
      · rename_i st' h2
        rw [runOps_mono h h2]
        exact hs
      · cases hs
    · cases hs
  | .seq a b, st, r, hs => by
    simp only [aexec] at hs ⊢
    split at hs
    · rename_i st' h1
      rw [aexec_mono h hl h1]
      exact aexec_mono h hl hs
    · rename_i hne
      rcases hq : aexec call loop a st with _ | ⟨ex, st1⟩
      · rw [hq] at hs; cases hs
      · rw [hq] at hs
        rw [aexec_mono h hl hq]
        cases ex with
        | normal => exact absurd hq (hne st1)
        | exit i => exact hs
        | ret => exact hs
  | .cond c a b, st, r, hs => by
    simp only [aexec] at hs ⊢
    split at hs
    · exact aexec_mono h hl hs
    · exact aexec_mono h hl hs
    · cases hs
  | .block id c, st, r, hs => by
    simp only [aexec] at hs ⊢
    rcases hq : aexec call loop c st with _ | ⟨ex, st1⟩
    · rw [hq] at hs; cases hs
    · rw [hq] at hs
      rw [aexec_mono h hl hq]
      exact hs
  | .loop c keep, st, r, hs => hl c keep _ r hs
theorem runBody_mono (h : CLe call call') (hl : LLe loop loop') {fn : AFunc} {args : List AV} {r : AV} (hs : runBody call loop fn args = some r) : runBody call' loop' fn args = some r := by
  unfold runBody at hs ⊢
  split at hs
  · rename_i hlen
    rw [if_pos hlen]
    rcases hq : aexec call loop fn.body ⟨enterF fn.params 0 args, []⟩ with _ | ⟨ex, st1⟩
    · rw [hq] at hs; cases hs
    · rw [hq] at hs
      rw [aexec_mono h hl hq]
      exact hs
  · cases hs
end

section
variable {F : FuncId → Option AFunc} {X : CallF}
theorem run_mono1 : ∀ n, CLe (runF F X n) (runF F X (n + 1)) ∧ LLe (loopN F X n) (loopN F X (n + 1)) := by
  intro n
  induction n with
  | zero => exact ⟨fun f vs r h => by simp [runF] at h, fun c k st r h => by simp [loopN] at h⟩
  | succ n ih =>
    refine ⟨fun f vs r h => ?_, fun c k st r h => ?_⟩
    · simp only [runF] at h
      simp only [runF.eq_def F X (n + 1 + 1)]
      split at h
      · rename_i fn hfn
        exact runBody_mono ih.1 ih.2 h
      · exact h
    · simp only [loopN] at h
      simp only [loopN.eq_def F X (n + 1 + 1)]
      rcases hq : aexec (runF F X n) (loopN F X n) c st with _ | ⟨ex, st1⟩
      · rw [hq] at h; cases h
      · rw [hq] at h
        rw [aexec_mono ih.1 ih.2 hq]
        cases ex with
        | normal => exact ih.2 _ _ _ _ h
        | exit i => exact h
        | ret => exact h
theorem run_mono {n m : Nat} (h : n ≤ m) : CLe (runF F X n) (runF F X m) ∧ LLe (loopN F X n) (loopN F X m) := by
  induction m with
  | zero => obtain rfl : n = 0 := by omega
            exact ⟨fun _ _ _ h => h, fun _ _ _ _ h => h⟩
  | succ m ih =>
    by_cases e : n = m + 1
    · subst e; exact ⟨fun _ _ _ h => h, fun _ _ _ _ h => h⟩
    · obtain ⟨h1, h2⟩ := ih (by omega)
      obtain ⟨g1, g2⟩ := run_mono1 (F := F) (X := X) m
      exact ⟨fun f vs r q => g1 _ _ _ (h1 _ _ _ q), fun c k st r q => g2 _ _ _ _ (h2 _ _ _ _ q)⟩

open Classical in
/-- the answer, with enough fuel -/
noncomputable def R (F : FuncId → Option AFunc) (X : CallF) : CallF := fun f vs => if h : ∃ n r, runF F X n f vs = some r then some h.choose_spec.choose else none
open Classical in
noncomputable def Lp (F : FuncId → Option AFunc) (X : CallF) : LoopF := fun c k st => if h : ∃ n r, loopN F X n c k st = some r then some h.choose_spec.choose else none

theorem R_of {n : Nat} {f : FuncId} {vs : List AV} {r : AV} (h : runF F X n f vs = some r) : R F X f vs = some r := by
  have hex : ∃ n r, runF F X n f vs = some r := ⟨n, r, h⟩
  unfold R
  rw [dif_pos hex]
  have h2 := hex.choose_spec.choose_spec
  have a1 := (run_mono (F := F) (X := X) (Nat.le_max_left n hex.choose)).1 _ _ _ h
  have a2 := (run_mono (F := F) (X := X) (Nat.le_max_right n hex.choose)).1 _ _ _ h2
  rw [a1] at a2
  exact a2.symm
theorem R_some {f : FuncId} {vs : List AV} {r : AV} (h : R F X f vs = some r) : ∃ n, runF F X n f vs = some r := by
  unfold R at h
  split at h
  · rename_i hex
    injection h with h
    exact ⟨hex.choose, h ▸ hex.choose_spec.choose_spec⟩
  · cases h
theorem Lp_of {n : Nat} {c : ACode} {k : List Nat} {st : St} {r : AExit × St} (h : loopN F X n c k st = some r) : Lp F X c k st = some r := by
  have hex : ∃ n r, loopN F X n c k st = some r := ⟨n, r, h⟩
  unfold Lp
  rw [dif_pos hex]
  have h2 := hex.choose_spec.choose_spec
  have a1 := (run_mono (F := F) (X := X) (Nat.le_max_left n hex.choose)).2 _ _ _ _ h
  have a2 := (run_mono (F := F) (X := X) (Nat.le_max_right n hex.choose)).2 _ _ _ _ h2
  rw [a1] at a2
  exact a2.symm
theorem Lp_some {c : ACode} {k : List Nat} {st : St} {r : AExit × St} (h : Lp F X c k st = some r) : ∃ n, loopN F X n c k st = some r := by
  unfold Lp at h
  split at h
  · rename_i hex
    injection h with h
    exact ⟨hex.choose, h ▸ hex.choose_spec.choose_spec⟩
  · cases h

theorem stepOp_cont {st st' : St} {d : Option Nat} {o : AOp} (hs : stepOp (R F X) st d o = some st') : ∃ n, stepOp (runF F X n) st d o = some st' := by
  cases o <;> try exact ⟨0, hs⟩
  case call f args =>
    simp only [stepOp] at hs
    split at hs
    · rename_i vs hvs
      split at hs
      · rename_i r hr
        obtain ⟨n, hn⟩ := R_some hr
        refine ⟨n, ?_⟩
        simp only [stepOp, hvs, hn]
        exact hs
      · cases hs
    · cases hs
theorem runOps_cont : ∀ {l : List AOper} {st st' : St}, runOps (R F X) l st = some st' → ∃ n, runOps (runF F X n) l st = some st'
  | [], st, st', hs => ⟨0, hs⟩
  | o :: r, st, st', hs => by
    simp only [runOps] at hs
    split at hs
    · rename_i hw
      split at hs
      · rename_i st1 h1
        obtain ⟨n1, g1⟩ := stepOp_cont h1
        obtain ⟨n2, g2⟩ := runOps_cont hs
        refine ⟨max n1 n2, ?_⟩
        simp only [runOps, hw, stepOp_mono (run_mono (Nat.le_max_left n1 n2)).1 g1]
        exact runOps_mono (run_mono (Nat.le_max_right n1 n2)).1 g2
      · cases hs
    · rename_i hw
      obtain ⟨n, g⟩ := runOps_cont hs
      exact ⟨n, by simp only [runOps, hw]; exact g⟩
    · cases hs
theorem quietOp_cont {m : List MObj} {fr : List (Nat × AV)} {o : AOp} {v : AV} (hs : quietOp (R F X) m fr o = some v) : ∃ n, quietOp (runF F X n) m fr o = some v := by
  cases o <;> try exact ⟨0, hs⟩
  case call f args =>
    simp only [quietOp] at hs
    split at hs
    · rename_i vs hvs
      split at hs
      · rename_i r hr
        obtain ⟨n, hn⟩ := R_some hr
        refine ⟨n, ?_⟩
        simp only [quietOp, hvs, hn]
        exact hs
      · cases hs
    · cases hs
theorem runQ_cont {m : List MObj} : ∀ {l : List AOper} {fr fr' : List (Nat × AV)}, runQ (R F X) m l fr = some fr' → ∃ n, runQ (runF F X n) m l fr = some fr'
  | [], fr, fr', hs => ⟨0, hs⟩
  | o :: r, fr, fr', hs => by
    simp only [runQ] at hs
    split at hs
    · rename_i hw
      split at hs
      · rename_i v h1
        obtain ⟨n1, g1⟩ := quietOp_cont h1
        obtain ⟨n2, g2⟩ := runQ_cont hs
        refine ⟨max n1 n2, ?_⟩
        simp only [runQ, hw, quietOp_mono (run_mono (Nat.le_max_left n1 n2)).1 g1]
        exact runQ_mono (run_mono (Nat.le_max_right n1 n2)).1 g2
      · cases hs
    · rename_i hw
      obtain ⟨n, g⟩ := runQ_cont hs
      exact ⟨n, by simp only [runQ, hw]; exact g⟩
    · cases hs
theorem aexec_cont : ∀ {c : ACode} {st : St} {r : AExit × St}, aexec (R F X) (Lp F X) c st = some r → ∃ n, aexec (runF F X n) (loopN F X n) c st = some r
  | .skip, _, _, hs => ⟨0, hs⟩
  | .exit _, _, _, hs => ⟨0, hs⟩
  | .ret, _, _, hs => ⟨0, hs⟩
  | .region ops drops, st, r, hs => by
    simp only [aexec] at hs
    split at hs
    · rename_i st' h1
      obtain ⟨n, g⟩ := runOps_cont h1
      exact ⟨n, by simp only [aexec, g]; exact hs⟩
    · cases hs
  | .dregion ops tail drops, st, r, hs => by
    simp only [aexec] at hs
    split at hs
    · rename_i fr h1
      split at hs
      · rename_i st' h2
        obtain ⟨n1, g1⟩ := runQ_cont h1
        obtain ⟨n2, g2⟩ := runOps_cont h2
        refine ⟨max n1 n2, ?_⟩
        simp only [aexec, runQ_mono (run_mono (Nat.le_max_left n1 n2)).1 g1, runOps_mono (run_mono (Nat.le_max_right n1 n2)).1 g2]
        exact hs
      · cases hs
    · cases hs
  | .seq a b, st, r, hs => by
    simp only [aexec] at hs
    split at hs
    · rename_i st' h1
      obtain ⟨n1, g1⟩ := aexec_cont h1
      obtain ⟨n2, g2⟩ := aexec_cont hs
      refine ⟨max n1 n2, ?_⟩
      have q1 := run_mono (F := F) (X := X) (Nat.le_max_left n1 n2)
      have q2 := run_mono (F := F) (X := X) (Nat.le_max_right n1 n2)
      simp only [aexec, aexec_mono q1.1 q1.2 g1]
      exact aexec_mono q2.1 q2.2 g2
    · rename_i hne
      rcases hq : aexec (R F X) (Lp F X) a st with _ | ⟨ex, st1⟩
      · rw [hq] at hs; cases hs
      · rw [hq] at hs
        obtain ⟨n, g⟩ := aexec_cont hq
        refine ⟨n, ?_⟩
        simp only [aexec, g]
        cases ex with
        | normal => exact absurd hq (hne st1)
        | exit i => exact hs
        | ret => exact hs
  | .cond c a b, st, r, hs => by
    simp only [aexec] at hs
    split at hs
    · rename_i hc
      obtain ⟨n, g⟩ := aexec_cont hs
      exact ⟨n, by simp only [aexec, hc]; exact g⟩
    · rename_i hc
      obtain ⟨n, g⟩ := aexec_cont hs
      exact ⟨n, by simp only [aexec, hc]; exact g⟩
    · cases hs
  | .block id c, st, r, hs => by
    simp only [aexec] at hs
    rcases hq : aexec (R F X) (Lp F X) c st with _ | ⟨ex, st1⟩
    · rw [hq] at hs; cases hs
    · rw [hq] at hs
      obtain ⟨n, g⟩ := aexec_cont hq
      exact ⟨n, by simp only [aexec, g]; exact hs⟩
  | .loop c keep, st, r, hs => Lp_some hs

theorem R_body {f : FuncId} {fn : AFunc} {vs : List AV} {r : AV} (hf : F f = some fn) (h : runBody (R F X) (Lp F X) fn vs = some r) : R F X f vs = some r := by
  unfold runBody at h
  split at h
  · rename_i hlen
    rcases hq : aexec (R F X) (Lp F X) fn.body ⟨enterF fn.params 0 vs, []⟩ with _ | ⟨ex, st1⟩
    · rw [hq] at h; cases h
    · obtain ⟨n, g⟩ := aexec_cont hq
      rw [hq] at h
      refine R_of (n := n + 1) ?_
      simp only [runF, hf, runBody, g]
      rw [if_pos hlen]
      exact h
  · cases h
theorem R_ext {f : FuncId} {vs : List AV} {r : AV} (hf : F f = none) (h : X f vs = some r) : R F X f vs = some r := R_of (n := 1) (by simp only [runF, hf]; exact h)
theorem Lp_step {c : ACode} {k : List Nat} {st st' : St} {r : AExit × St} (h : aexec (R F X) (Lp F X) c st = some (.normal, st')) (h' : Lp F X c k (normSt k st') = some r) : Lp F X c k st = some r := by
  obtain ⟨n1, g1⟩ := aexec_cont h
  obtain ⟨n2, g2⟩ := Lp_some h'
  have q1 := run_mono (F := F) (X := X) (Nat.le_max_left n1 n2)
  have q2 := run_mono (F := F) (X := X) (Nat.le_max_right n1 n2)
  refine Lp_of (n := max n1 n2 + 1) ?_
  simp only [loopN, aexec_mono q1.1 q1.2 g1]
  exact q2.2 _ _ _ _ g2
theorem Lp_exit {c : ACode} {k : List Nat} {st st' : St} {i : Nat} (h : aexec (R F X) (Lp F X) c st = some (.exit i, st')) : Lp F X c k st = some (.exit i, st') := by
  obtain ⟨n, g⟩ := aexec_cont h
  exact Lp_of (n := n + 1) (by simp only [loopN, g])
theorem Lp_ret {c : ACode} {k : List Nat} {st st' : St} (h : aexec (R F X) (Lp F X) c st = some (.ret, st')) : Lp F X c k st = some (.ret, st') := by
  obtain ⟨n, g⟩ := aexec_cont h
  exact Lp_of (n := n + 1) (by simp only [loopN, g])
theorem R_sound {P : Program} (hF : ∀ f af, F f = some af → ∃ hn, compFunc P hn f = some af) (hE : ∀ f vs r, X f vs = some r → CallOk P f vs r) {f : FuncId} {vs : List AV} {r : AV} (h : R F X f vs = some r) : CallOk P f vs r := by
  obtain ⟨n, hn⟩ := R_some h
  exact run_sound hF hE n f vs r hn
end
end Go.Proofs.Ytejajmmacmcijaa
