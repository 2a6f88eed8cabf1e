/- The abstract machine: what it answers with enough fuel. -/
import Derived.Test.YtgjdmlhgapmflaaDoorAm19
namespace Go.Proofs.YtgjdmlhgapmflaaDoor
set_option linter.unusedVariables false
set_option linter.unusedSimpArgs false

def CLe (c c' : CallF) : Prop := (∀ f vs r, c.f f vs = some r → c'.f f vs = some r) ∧ ∀ f vs m r, c.m f vs m = some r → c'.m f vs m = some r
def LLe (l l' : LoopF) : Prop := ∀ c k st r, l c k st = some r → l' c k st = some r

section
variable {call call' : CallF} {base : Nat} {loop loop' : LoopF}

theorem stepOp2_mono (h : CLe call call') {st st' : St} {d : Option Nat} {o : AOp2} (hs : stepOp2 call st d o = some st') : stepOp2 call' st d o = some st' := by
  cases o <;> try exact hs
  case callM f args =>
    simp only [stepOp2, Option.map_eq_some_iff] at hs ⊢
    obtain ⟨r, hr, e⟩ := hs
    exact ⟨r, h.2 _ _ _ _ hr, e⟩
  case callV x args =>
    simp only [stepOp2] at hs ⊢
    split at hs
    · simp only [Option.map_eq_some_iff] at hs ⊢
      obtain ⟨r, hr, e⟩ := hs
      exact ⟨r, h.2 _ _ _ _ hr, e⟩
    · cases hs
theorem stepOp_mono (h : CLe call call') {st st' : St} {d : Option Nat} {o : AOp} (hs : stepOp call st d o = some st') : stepOp call' st d o = some st' := by
  cases o <;> try exact hs
  case x o => exact stepOp2_mono h hs
  case call f args =>
    simp only [stepOp] at hs ⊢
    split at hs
    · rename_i vs hvs
      split at hs
      · rename_i r hr
        rw [h.1 f vs r hr]
        exact hs
      · cases hs
    · cases hs
theorem runOps_mono (h : CLe call call') : ∀ {l : List AOper} {st st' : St}, runOps call l st = some st' → runOps call' l st = some st'
  | [], st, st', hs => hs
  | o :: r, st, st', hs => by
    simp only [runOps] at hs ⊢
    split at hs
    · split at hs
      · rename_i st1 h1
        rw [stepOp_mono h h1]
        exact runOps_mono h hs
      · cases hs
    · exact runOps_mono h hs
    · cases hs
theorem extOp_same {m : List MObj} {fr : List (Nat × AV)} {o : AOp} (hc : ¬ ∃ f args, o = .call f args) : extOp call m fr o = extOp call' m fr o := by
  cases o with
  | call f args => exact absurd ⟨_, _, rfl⟩ hc
  | bslice sz own z ag c p => cases own <;> rfl
  | _ => rfl
theorem extOp_mono (h : CLe call call') {m : List MObj} {fr : List (Nat × AV)} {o : AOp} {v : AV} (hs : extOp call m fr o = some v) : extOp call' m fr o = some v := by
  by_cases hc : ∃ f args, o = .call f args
  · obtain ⟨f, args, rfl⟩ := hc
    simp only [extOp] at hs ⊢
    split at hs
    · rename_i hn
      rw [if_pos hn]
      cases hf : frzL m (List.map (evA fr) args) with
      | none => rw [hf] at hs; cases hs
      | some vs =>
        rw [hf] at hs
        exact h.1 _ vs v hs
    · cases hs
  · rw [← extOp_same hc]; exact hs
theorem oneX_mono (h : CLe call call') {m : List MObj} {fr : List (Nat × AV)} {o : AOper} {v : AV} (hs : oneX call m fr o = some v) : oneX call' m fr o = some v := by
  unfold oneX at hs ⊢
  cases hw : wantedA fr o.guard with
  | none => rw [hw] at hs; cases hs
  | some b =>
    simp only [hw] at hs
    cases b
    · exact hs
    · exact extOp_mono h hs
theorem runX_mono (h : CLe call call') {m : List MObj} : ∀ {l : List AOper} {fr fr' : List (Nat × AV)}, runX call m l fr = some fr' → runX call' m l fr = some fr'
  | [], fr, fr', hs => hs
  | o :: r, fr, fr', hs => by
    simp only [runX] at hs ⊢
    split at hs
    · rename_i v h1
      rw [oneX_mono h h1]
      exact runX_mono h hs
    · cases hs
theorem aexec_mono (h : CLe call call') (hl : LLe loop loop') : ∀ {c : ACode} {st : St} {r : AExit × St}, aexec call base loop c st = some r → aexec call' base loop' c st = some r
  | .skip, _, _, hs => hs
  | .exit _, _, _, hs => hs
  | .ret, _, _, hs => hs
  | .region ops drops, st, r, hs => by
    simp only [aexec] at hs ⊢
    split at hs
    · rename_i st' h1
      rw [runOps_mono h h1]
      exact hs
    · cases hs
  | .dregion ops tail drops, st, r, hs => by
    simp only [aexec] at hs ⊢
    split at hs
    · rename_i fr h1
      rw [runX_mono h h1]
      simp only
      split at hs
      · rename_i st' h2
        rw [runOps_mono h h2]
        exact hs
      · cases hs
    · cases hs
  | .seq a b, st, r, hs => by
    simp only [aexec] at hs ⊢
    split at hs
    · rename_i st' h1
      rw [aexec_mono h hl h1]
      exact aexec_mono h hl hs
    · rename_i hne
      rcases hq : aexec call base loop a st with _ | ⟨ex, st1⟩
      · rw [hq] at hs; cases hs
      · rw [hq] at hs
        rw [aexec_mono h hl hq]
        cases ex with
        | normal => exact absurd hq (hne st1)
        | exit i => exact hs
        | ret => exact hs
  | .cond c a b, st, r, hs => by
    simp only [aexec] at hs ⊢
    split at hs
    · exact aexec_mono h hl hs
    · exact aexec_mono h hl hs
    · cases hs
  | .block id c, st, r, hs => by
    simp only [aexec] at hs ⊢
    rcases hq : aexec call base loop c st with _ | ⟨ex, st1⟩
    · rw [hq] at hs; cases hs
    · rw [hq] at hs
      rw [aexec_mono h hl hq]
      exact hs
  | .loop c keep, st, r, hs => hl c keep _ r hs
  | .join c keep, st, r, hs => by
    simp only [aexec] at hs ⊢
    rcases hq : aexec call base loop c st with _ | ⟨ex, st1⟩
    · rw [hq] at hs; cases hs
    · rw [hq] at hs
      rw [aexec_mono h hl hq]
      exact hs
theorem runBody_mono (h : CLe call call') (hl : LLe loop loop') {fn : AFunc} {args : List AV} {r : AV} (hs : runBody call loop fn args = some r) : runBody call' loop' fn args = some r := by
  unfold runBody at hs ⊢
  split at hs
  · rename_i hlen
    rw [if_pos hlen]
    rcases hq : aexec call 0 loop fn.body ⟨enterF fn.params 0 args, []⟩ with _ | ⟨ex, st1⟩
    · rw [hq] at hs; cases hs
    · rw [hq] at hs
      rw [aexec_mono h hl hq]
      exact hs
  · cases hs
theorem runBodyM_mono (h : CLe call call') (hl : LLe loop loop') {fn : AFunc} {args : List AV} {m : List MObj} {r : AV × List MObj} (hs : runBodyM call loop fn args m = some r) : runBodyM call' loop' fn args m = some r := by
  unfold runBodyM at hs ⊢
  split at hs
  · rename_i hlen
    rw [if_pos hlen]
    rcases hq : aexec call m.length loop fn.body ⟨enterF fn.params 0 args, m⟩ with _ | ⟨ex, st1⟩
    · rw [hq] at hs; cases hs
    · rw [hq] at hs
      rw [aexec_mono h hl hq]
      exact hs
  · cases hs
theorem loopK_mono (h : CLe call call') (b : Nat) : ∀ n k, LLe (loopK call b n) (loopK call' b (n + k)) := by
  intro n
  induction n with
  | zero => intro k c ks st r hs; simp [loopK] at hs
  | succ n ih =>
    intro k c ks st r hs
    rw [show n + 1 + k = (n + k) + 1 from by omega]
    simp only [loopK] at hs ⊢
    rcases hq : aexec call b (loopK call b n) c (normSt b ks st) with _ | ⟨ex, st1⟩
    · rw [hq] at hs; cases hs
    · rw [hq] at hs
      rw [aexec_mono h (ih k) hq]
      cases ex with
      | normal => exact ih k _ _ _ _ hs
      | exit i => exact hs
      | ret => exact hs
end

section
variable {F : FuncId → Option AFunc} {X : CallF}
theorem run_mono1 : ∀ n, CLe (runF F X n) (runF F X (n + 1)) := by
  intro n
  induction n with
  | zero => exact ⟨fun f vs r h => by simp [runF] at h, fun f vs m r h => by simp [runF] at h⟩
  | succ n ih =>
    refine ⟨fun f vs r h => ?_, fun f vs m r h => ?_⟩
    · simp only [runF] at h
      rw [runF.eq_def F X (n + 1 + 1)]
      simp only
      split at h
      · rename_i fn hfn
        exact runBody_mono ih (loopK_mono ih 0 n 1) h
      · exact h
    · simp only [runF] at h
      rw [runF.eq_def F X (n + 1 + 1)]
      simp only
      split at h
      · rename_i fn hfn
        exact runBodyM_mono ih (loopK_mono ih _ n 1) h
      · exact h
theorem CLe.refl (c : CallF) : CLe c c := ⟨fun _ _ _ h => h, fun _ _ _ _ h => h⟩
theorem CLe.trans {a b c : CallF} (h : CLe a b) (h' : CLe b c) : CLe a c := ⟨fun _ _ _ q => h'.1 _ _ _ (h.1 _ _ _ q), fun _ _ _ _ q => h'.2 _ _ _ _ (h.2 _ _ _ _ q)⟩
theorem run_mono {n m : Nat} (h : n ≤ m) : CLe (runF F X n) (runF F X m) := by
  induction m with
  | zero => obtain rfl : n = 0 := by omega
            exact CLe.refl _
  | succ m ih =>
    by_cases e : n = m + 1
    · subst e; exact CLe.refl _
    · exact (ih (by omega)).trans (run_mono1 m)
theorem lp_mono (b : Nat) {n m : Nat} (h : n ≤ m) : LLe (loopK (runF F X n) b n) (loopK (runF F X m) b m) := by
  obtain ⟨k, rfl⟩ := Nat.exists_eq_add_of_le h
  exact loopK_mono (run_mono (Nat.le_add_right n k)) b n k

open Classical in
/-- the answer, with enough fuel -/
noncomputable def R (F : FuncId → Option AFunc) (X : CallF) : CallF :=
  ⟨fun f vs => if h : ∃ n r, (runF F X n).f f vs = some r then some h.choose_spec.choose else none, fun f vs m => if h : ∃ n r, (runF F X n).m f vs m = some r then some h.choose_spec.choose else none⟩
open Classical in
noncomputable def Lp (F : FuncId → Option AFunc) (X : CallF) (b : Nat) : LoopF := fun c k st => if h : ∃ n r, loopK (runF F X n) b n c k st = some r then some h.choose_spec.choose else none

theorem R_of {n : Nat} {f : FuncId} {vs : List AV} {r : AV} (h : (runF F X n).f f vs = some r) : (R F X).f f vs = some r := by
  have hex : ∃ n r, (runF F X n).f f vs = some r := ⟨n, r, h⟩
  unfold R
  simp only
  rw [dif_pos hex]
  have h2 := hex.choose_spec.choose_spec
  have a1 := (run_mono (F := F) (X := X) (Nat.le_max_left n hex.choose)).1 _ _ _ h
  have a2 := (run_mono (F := F) (X := X) (Nat.le_max_right n hex.choose)).1 _ _ _ h2
  rw [a1] at a2
  exact a2.symm
theorem R_some {f : FuncId} {vs : List AV} {r : AV} (h : (R F X).f f vs = some r) : ∃ n, (runF F X n).f f vs = some r := by
  unfold R at h
  simp only at h
  split at h
  · rename_i hex
    injection h with h
    exact ⟨hex.choose, h ▸ hex.choose_spec.choose_spec⟩
  · cases h
theorem RM_of {n : Nat} {f : FuncId} {vs : List AV} {m : List MObj} {r : AV × List MObj} (h : (runF F X n).m f vs m = some r) : (R F X).m f vs m = some r := by
  have hex : ∃ n r, (runF F X n).m f vs m = some r := ⟨n, r, h⟩
  unfold R
  simp only
  rw [dif_pos hex]
  have h2 := hex.choose_spec.choose_spec
  have a1 := (run_mono (F := F) (X := X) (Nat.le_max_left n hex.choose)).2 _ _ _ _ h
  have a2 := (run_mono (F := F) (X := X) (Nat.le_max_right n hex.choose)).2 _ _ _ _ h2
  rw [a1] at a2
  exact a2.symm
theorem RM_some {f : FuncId} {vs : List AV} {m : List MObj} {r : AV × List MObj} (h : (R F X).m f vs m = some r) : ∃ n, (runF F X n).m f vs m = some r := by
  unfold R at h
  simp only at h
  split at h
  · rename_i hex
    injection h with h
    exact ⟨hex.choose, h ▸ hex.choose_spec.choose_spec⟩
  · cases h
theorem Lp_of {b n : Nat} {c : ACode} {k : List Nat} {st : St} {r : AExit × St} (h : loopK (runF F X n) b n c k st = some r) : Lp F X b c k st = some r := by
  have hex : ∃ n r, loopK (runF F X n) b n c k st = some r := ⟨n, r, h⟩
  unfold Lp
  rw [dif_pos hex]
  have h2 := hex.choose_spec.choose_spec
  have a1 := lp_mono (F := F) (X := X) b (Nat.le_max_left n hex.choose) _ _ _ _ h
  have a2 := lp_mono (F := F) (X := X) b (Nat.le_max_right n hex.choose) _ _ _ _ h2
  rw [a1] at a2
  exact a2.symm
theorem Lp_some {b : Nat} {c : ACode} {k : List Nat} {st : St} {r : AExit × St} (h : Lp F X b c k st = some r) : ∃ n, loopK (runF F X n) b n c k st = some r := by
  unfold Lp at h
  split at h
  · rename_i hex
    injection h with h
    exact ⟨hex.choose, h ▸ hex.choose_spec.choose_spec⟩
  · cases h

theorem stepOp2_cont {st st' : St} {d : Option Nat} {o : AOp2} (hs : stepOp2 (R F X) st d o = some st') : ∃ n, stepOp2 (runF F X n) st d o = some st' := by
  cases o <;> try exact ⟨0, hs⟩
  case callM f args =>
    simp only [stepOp2, Option.map_eq_some_iff] at hs
    obtain ⟨r, hr, e⟩ := hs
    obtain ⟨n, hn⟩ := RM_some hr
    exact ⟨n, by simp only [stepOp2, hn, Option.map_some, e]⟩
  case callV x args =>
    simp only [stepOp2] at hs
    split at hs
    · rename_i f first caps hf
      simp only [Option.map_eq_some_iff] at hs
      obtain ⟨r, hr, e⟩ := hs
      obtain ⟨n, hn⟩ := RM_some hr
      exact ⟨n, by simp only [stepOp2, hf, hn, Option.map_some, e]⟩
    · cases hs
theorem stepOp_cont {st st' : St} {d : Option Nat} {o : AOp} (hs : stepOp (R F X) st d o = some st') : ∃ n, stepOp (runF F X n) st d o = some st' := by
  cases o <;> try exact ⟨0, hs⟩
  case x o => exact stepOp2_cont hs
  case call f args =>
    simp only [stepOp] at hs
    split at hs
    · rename_i vs hvs
      split at hs
      · rename_i r hr
        obtain ⟨n, hn⟩ := R_some hr
        refine ⟨n, ?_⟩
        simp only [stepOp, hvs, hn]
        exact hs
      · cases hs
    · cases hs
theorem runOps_cont : ∀ {l : List AOper} {st st' : St}, runOps (R F X) l st = some st' → ∃ n, runOps (runF F X n) l st = some st'
  | [], st, st', hs => ⟨0, hs⟩
  | o :: r, st, st', hs => by
    simp only [runOps] at hs
    split at hs
    · rename_i hw
      split at hs
      · rename_i st1 h1
        obtain ⟨n1, g1⟩ := stepOp_cont h1
        obtain ⟨n2, g2⟩ := runOps_cont hs
        refine ⟨max n1 n2, ?_⟩
        simp only [runOps, hw, stepOp_mono (run_mono (Nat.le_max_left n1 n2)) g1]
        exact runOps_mono (run_mono (Nat.le_max_right n1 n2)) g2
      · cases hs
    · rename_i hw
      obtain ⟨n, g⟩ := runOps_cont hs
      exact ⟨n, by simp only [runOps, hw]; exact g⟩
    · cases hs
theorem extOp_cont {m : List MObj} {fr : List (Nat × AV)} {o : AOp} {v : AV} (hs : extOp (R F X) m fr o = some v) : ∃ n, extOp (runF F X n) m fr o = some v := by
  by_cases hc : ∃ f args, o = .call f args
  · obtain ⟨f, args, rfl⟩ := hc
    simp only [extOp] at hs
    split at hs
    · rename_i hn
      cases hf : frzL m (List.map (evA fr) args) with
      | none => rw [hf] at hs; cases hs
      | some vs =>
        rw [hf] at hs
        obtain ⟨n, g⟩ := R_some hs
        exact ⟨n, by simp only [extOp]; rw [if_pos hn, hf]; exact g⟩
    · cases hs
  · exact ⟨0, by rw [extOp_same hc]; exact hs⟩
theorem oneX_cont {m : List MObj} {fr : List (Nat × AV)} {o : AOper} {v : AV} (hs : oneX (R F X) m fr o = some v) : ∃ n, oneX (runF F X n) m fr o = some v := by
  unfold oneX at hs
  split at hs
  · rename_i hw
    obtain ⟨n, g⟩ := extOp_cont hs
    exact ⟨n, by unfold oneX; simp only [hw]; exact g⟩
  · rename_i hw; exact ⟨0, by unfold oneX; simp only [hw]; exact hs⟩
  · cases hs
theorem runX_cont {m : List MObj} : ∀ {l : List AOper} {fr fr' : List (Nat × AV)}, runX (R F X) m l fr = some fr' → ∃ n, runX (runF F X n) m l fr = some fr'
  | [], fr, fr', hs => ⟨0, hs⟩
  | o :: r, fr, fr', hs => by
    simp only [runX] at hs
    split at hs
    · rename_i v h1
      obtain ⟨n1, g1⟩ := oneX_cont h1
      obtain ⟨n2, g2⟩ := runX_cont hs
      refine ⟨max n1 n2, ?_⟩
      simp only [runX, oneX_mono (run_mono (Nat.le_max_left n1 n2)) g1]
      exact runX_mono (run_mono (Nat.le_max_right n1 n2)) g2
    · cases hs
theorem aexec_cont {b : Nat} : ∀ {c : ACode} {st : St} {r : AExit × St}, aexec (R F X) b (Lp F X b) c st = some r → ∃ n, aexec (runF F X n) b (loopK (runF F X n) b n) c st = some r
  | .skip, _, _, hs => ⟨0, hs⟩
  | .exit _, _, _, hs => ⟨0, hs⟩
  | .ret, _, _, hs => ⟨0, hs⟩
  | .region ops drops, st, r, hs => by
    simp only [aexec] at hs
    split at hs
    · rename_i st' h1
      obtain ⟨n, g⟩ := runOps_cont h1
      exact ⟨n, by simp only [aexec, g]; exact hs⟩
    · cases hs
  | .dregion ops tail drops, st, r, hs => by
    simp only [aexec] at hs
    split at hs
    · rename_i fr h1
      split at hs
      · rename_i st' h2
        obtain ⟨n1, g1⟩ := runX_cont h1
        obtain ⟨n2, g2⟩ := runOps_cont h2
        refine ⟨max n1 n2, ?_⟩
        simp only [aexec, runX_mono (run_mono (Nat.le_max_left n1 n2)) g1, runOps_mono (run_mono (Nat.le_max_right n1 n2)) g2]
        exact hs
      · cases hs
    · cases hs
  | .seq a c, st, r, hs => by
    simp only [aexec] at hs
    split at hs
    · rename_i st' h1
      obtain ⟨n1, g1⟩ := aexec_cont h1
      obtain ⟨n2, g2⟩ := aexec_cont hs
      refine ⟨max n1 n2, ?_⟩
      have q1 := run_mono (F := F) (X := X) (Nat.le_max_left n1 n2)
      have q2 := run_mono (F := F) (X := X) (Nat.le_max_right n1 n2)
      simp only [aexec, aexec_mono q1 (lp_mono b (Nat.le_max_left n1 n2)) g1]
      exact aexec_mono q2 (lp_mono b (Nat.le_max_right n1 n2)) g2
    · rename_i hne
      rcases hq : aexec (R F X) b (Lp F X b) a st with _ | ⟨ex, st1⟩
      · rw [hq] at hs; cases hs
      · rw [hq] at hs
        obtain ⟨n, g⟩ := aexec_cont hq
        refine ⟨n, ?_⟩
        simp only [aexec, g]
        cases ex with
        | normal => exact absurd hq (hne st1)
        | exit i => exact hs
        | ret => exact hs
  | .cond c a d, st, r, hs => by
    simp only [aexec] at hs
    split at hs
    · rename_i hc
      obtain ⟨n, g⟩ := aexec_cont hs
      exact ⟨n, by simp only [aexec, hc]; exact g⟩
    · rename_i hc
      obtain ⟨n, g⟩ := aexec_cont hs
      exact ⟨n, by simp only [aexec, hc]; exact g⟩
    · cases hs
  | .block id c, st, r, hs => by
    simp only [aexec] at hs
    rcases hq : aexec (R F X) b (Lp F X b) c st with _ | ⟨ex, st1⟩
    · rw [hq] at hs; cases hs
    · rw [hq] at hs
      obtain ⟨n, g⟩ := aexec_cont hq
      exact ⟨n, by simp only [aexec, g]; exact hs⟩
  | .loop c keep, st, r, hs => Lp_some hs
  | .join c keep, st, r, hs => by
    simp only [aexec] at hs
    rcases hq : aexec (R F X) b (Lp F X b) c st with _ | ⟨ex, st1⟩
    · rw [hq] at hs; cases hs
    · rw [hq] at hs
      obtain ⟨n, g⟩ := aexec_cont hq
      exact ⟨n, by simp only [aexec, g]; exact hs⟩

theorem R_body {f : FuncId} {fn : AFunc} {vs : List AV} {r : AV} (hf : F f = some fn) (h : runBody (R F X) (Lp F X 0) fn vs = some r) : (R F X).f f vs = some r := by
  unfold runBody at h
  split at h
  · rename_i hlen
    rcases hq : aexec (R F X) 0 (Lp F X 0) fn.body ⟨enterF fn.params 0 vs, []⟩ with _ | ⟨ex, st1⟩
    · rw [hq] at h; cases h
    · obtain ⟨n, g⟩ := aexec_cont hq
      rw [hq] at h
      refine R_of (n := n + 1) ?_
      simp only [runF, hf, runBody, g]
      rw [if_pos hlen]
      exact h
  · cases h
theorem RM_body {f : FuncId} {fn : AFunc} {vs : List AV} {m : List MObj} {r : AV × List MObj} (hf : F f = some fn) (h : runBodyM (R F X) (Lp F X m.length) fn vs m = some r) : (R F X).m f vs m = some r := by
  unfold runBodyM at h
  split at h
  · rename_i hlen
    rcases hq : aexec (R F X) m.length (Lp F X m.length) fn.body ⟨enterF fn.params 0 vs, m⟩ with _ | ⟨ex, st1⟩
    · rw [hq] at h; cases h
    · obtain ⟨n, g⟩ := aexec_cont hq
      rw [hq] at h
      refine RM_of (n := n + 1) ?_
      simp only [runF, hf, runBodyM, g]
      rw [if_pos hlen]
      exact h
  · cases h
theorem R_ext {f : FuncId} {vs : List AV} {r : AV} (hf : F f = none) (h : X.f f vs = some r) : (R F X).f f vs = some r := R_of (n := 1) (by simp only [runF, hf]; exact h)
theorem RM_ext {f : FuncId} {vs : List AV} {m : List MObj} {r : AV × List MObj} (hf : F f = none) (h : X.m f vs m = some r) : (R F X).m f vs m = some r := RM_of (n := 1) (by simp only [runF, hf]; exact h)
theorem Lp_step {b : Nat} {c : ACode} {k : List Nat} {st st' : St} {r : AExit × St} (h : aexec (R F X) b (Lp F X b) c (normSt b k st) = some (.normal, st')) (h' : Lp F X b c k st' = some r) : Lp F X b c k st = some r := by
  obtain ⟨n1, g1⟩ := aexec_cont h
  obtain ⟨n2, g2⟩ := Lp_some h'
  have e1 := aexec_mono (run_mono (F := F) (X := X) (Nat.le_max_left n1 n2)) (lp_mono b (Nat.le_max_left n1 n2)) g1
  have e2 := lp_mono (F := F) (X := X) b (Nat.le_max_right n1 n2) _ _ _ _ g2
  generalize max n1 n2 = n at e1 e2
  have e3 := aexec_mono (run_mono (F := F) (X := X) (Nat.le_succ n)) (loopK_mono (run_mono (F := F) (X := X) (Nat.le_succ n)) b n 0) e1
  have e4 := loopK_mono (run_mono (F := F) (X := X) (Nat.le_succ n)) b n 0 _ _ _ _ e2
  refine Lp_of (n := n + 1) ?_
  simp only [loopK]
  simp only [Nat.add_zero] at e3 e4
  rw [e3]
  exact e4
theorem Lp_exit {b : Nat} {c : ACode} {k : List Nat} {st st' : St} {i : Nat} (h : aexec (R F X) b (Lp F X b) c (normSt b k st) = some (.exit i, st')) : Lp F X b c k st = some (.exit i, st') := by
  obtain ⟨n, g⟩ := aexec_cont h
  have e3 := aexec_mono (run_mono (F := F) (X := X) (Nat.le_succ n)) (loopK_mono (run_mono (F := F) (X := X) (Nat.le_succ n)) b n 0) g
  exact Lp_of (n := n + 1) (by simp only [loopK]; simp only [Nat.add_zero] at e3; rw [e3])
theorem Lp_ret {b : Nat} {c : ACode} {k : List Nat} {st st' : St} (h : aexec (R F X) b (Lp F X b) c (normSt b k st) = some (.ret, st')) : Lp F X b c k st = some (.ret, st') := by
  obtain ⟨n, g⟩ := aexec_cont h
  have e3 := aexec_mono (run_mono (F := F) (X := X) (Nat.le_succ n)) (loopK_mono (run_mono (F := F) (X := X) (Nat.le_succ n)) b n 0) g
  exact Lp_of (n := n + 1) (by simp only [loopK]; simp only [Nat.add_zero] at e3; rw [e3])
theorem RS_sound {P : Program} (hF : ∀ f af, F f = some af → ∃ hn, compFunc P hn f = some af) (hE : CallsOk P X) : CallsOk P (R F X) :=
  ⟨fun f vs r h => by obtain ⟨n, hn⟩ := R_some h; exact (run_sound hF hE n).1 f vs r hn, fun f vs m r m' h => by obtain ⟨n, hn⟩ := RM_some h; exact (run_sound hF hE n).2 f vs m r m' hn⟩
theorem R_sound {P : Program} (hF : ∀ f af, F f = some af → ∃ hn, compFunc P hn f = some af) (hE : CallsOk P X) {f : FuncId} {vs : List AV} {r : AV} (h : (R F X).f f vs = some r) : CallOk P f vs r := (RS_sound hF hE).1 f vs r h
end
end Go.Proofs.YtgjdmlhgapmflaaDoor
