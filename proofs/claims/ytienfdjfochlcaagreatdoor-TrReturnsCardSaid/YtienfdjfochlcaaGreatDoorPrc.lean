/- Own texts of this claim, merged: Am20, AmW1, AmW2, AmW3, AmW4, AmC, Rep, Laid, Pl, NuP, Sh, NuX, Ft, TrX, CtP, Ct, TrP. -/
import Derived.Test.YtienfdjfochlcaaGreatDoorPrb
import Derived.LaidMore
import Derived.Lib.LaidTab
import Derived.Stop.Joined
import Derived.Lib.AtoiAll
import Derived.Lib.ItoaNum
import Derived.Shelf.Small.Strs
import Derived.Shelf.LaysM
import Derived.Shelf.Strconv.Itoa3
import Derived.Shelf.LaysC
import Derived.Shelf.Strconv.AtoiAll
import Derived.Shelf.Strings.Cut
import Derived.Shelf.Strings.Prefix
import Derived.Shelf.Strings.Repeat
import Derived.Test.YtienfdjfochlcaaGreatDoorProg
import Derived.Lib.AtoiErrMem
import Derived.Lib.ItoaMem
import Derived.Lib.AppendIntMem
import Derived.Test.YtienfdjfochlcaaGreatDoorChecked
import Derived.KernelRfl
section
namespace Go.Proofs.YtienfdjfochlcaaGreatDoor
set_option linter.unusedVariables false
set_option linter.unusedSimpArgs false
def CLe (c c' : CallF) : Prop := (∀ f vs r, c.f f vs = some r → c'.f f vs = some r) ∧ ∀ f vs m r, c.m f vs m = some r → c'.m f vs m = some r
def LLe (l l' : LoopF) : Prop := ∀ c k st r, l c k st = some r → l' c k st = some r
section
variable {call call' : CallF} {base : Nat} {loop loop' : LoopF}
theorem stepOp2_mono (h : CLe call call') {st st' : St} {d : Option Nat} {o : AOp2} (hs : stepOp2 call st d o = some st') : stepOp2 call' st d o = some st' := by
 cases o <;> try exact hs
 case callM f args =>
  simp only [stepOp2, Option.map_eq_some_iff] at hs ⊢
  obtain ⟨r, hr, e⟩ := hs
  exact ⟨r, h.2 _ _ _ _ hr, e⟩
 case callV x args =>
  simp only [stepOp2] at hs ⊢
  split at hs
  ·simp only [Option.map_eq_some_iff] at hs ⊢
   obtain ⟨r, hr, e⟩ := hs
   exact ⟨r, h.2 _ _ _ _ hr, e⟩
  ·cases hs
theorem stepOp_mono (h : CLe call call') {st st' : St} {d : Option Nat} {o : AOp} (hs : stepOp call st d o = some st') : stepOp call' st d o = some st' := by
 cases o <;> try exact hs
 case x o => exact stepOp2_mono h hs
 case call f args =>
  simp only [stepOp] at hs ⊢
  split at hs
  ·rename_i vs hvs
   split at hs
   ·rename_i r hr
    rw [h.1 f vs r hr]
    exact hs
   ·cases hs
  ·cases hs
theorem runOps_mono (h : CLe call call') : ∀ {l : List AOper} {st st' : St}, runOps call l st = some st' → runOps call' l st = some st'
 | [], st, st', hs => hs
 | o :: r, st, st', hs => by
  simp only [runOps] at hs ⊢
  split at hs
  ·split at hs
   ·rename_i st1 h1
    rw [stepOp_mono h h1]
    exact runOps_mono h hs
   ·cases hs
  ·exact runOps_mono h hs
  ·cases hs
theorem extOp_same {m : List MObj} {fr : List (Nat × AV)} {o : AOp} (hc : ¬ ∃ f args, o = .call f args) : extOp call m fr o = extOp call' m fr o := by
 cases o with
 | call f args => exact absurd ⟨_, _, rfl⟩ hc
 | bslice sz own z ag c p => cases own <;> rfl
 | x o => cases o <;> rfl
 | _ => rfl
theorem extOp_mono (h : CLe call call') {m : List MObj} {fr : List (Nat × AV)} {o : AOp} {v : AV} (hs : extOp call m fr o = some v) : extOp call' m fr o = some v := by
 by_cases hc : ∃ f args, o = .call f args
 ·obtain ⟨f, args, rfl⟩ := hc
  simp only [extOp] at hs ⊢
  split at hs
  ·rename_i hn
   rw [if_pos hn]
   cases hf : frzL m (List.map (evA fr) args) with
   | none => rw [hf] at hs; cases hs
   | some vs =>
    rw [hf] at hs
    exact h.1 _ vs v hs
  ·cases hs
 ·rw [← extOp_same hc]; exact hs
theorem oneX_mono (h : CLe call call') {m : List MObj} {fr : List (Nat × AV)} {o : AOper} {v : AV} (hs : oneX call m fr o = some v) : oneX call' m fr o = some v := by
 unfold oneX at hs ⊢
 cases hw : wantedA fr o.guard with
 | none => rw [hw] at hs; cases hs
 | some b =>
  simp only [hw] at hs
  cases b
  ·exact hs
  ·exact extOp_mono h hs
theorem runX_mono (h : CLe call call') {m : List MObj} : ∀ {l : List AOper} {fr fr' : List (Nat × AV)}, runX call m l fr = some fr' → runX call' m l fr = some fr'
 | [], fr, fr', hs => hs
 | o :: r, fr, fr', hs => by
  simp only [runX] at hs ⊢
  split at hs
  ·rename_i v h1
   rw [oneX_mono h h1]
   exact runX_mono h hs
  ·cases hs
theorem stepC_mono (h : CLe call call') {o : AOper} {st st' : St} (hs : stepC call o st = some st') : stepC call' o st = some st' := by
 unfold stepC at hs ⊢
 split at hs
 ·rename_i st1 h1
  rw [runOps_mono h h1]; exact hs
 ·cases hs
theorem runC_mono (h : CLe call call') {free : List AOper} {fr0 fr1 : List (Nat × AV)} : ∀ {l : List AOper} {st st' : St}, runC call free fr0 fr1 l st = some st' → runC call' free fr0 fr1 l st = some st'
 | [], st, st', hs => hs
 | [o], st, st', hs => by
  simp only [runC] at hs ⊢
  split at hs
  ·rename_i st1 h1
   rw [stepC_mono h h1]; exact hs
  ·cases hs
 | o :: o2 :: r, st, st', hs => by
  rw [runC] at hs ⊢
  split at hs
  ·rename_i st1 h1
   rw [stepC_mono h h1]
   dsimp only at hs
   try dsimp only
   split at hs
   ·rename_i fr2 h2
    rw [runX_mono h h2]
    try dsimp only
    split at hs
    ·rename_i he
     exact runC_mono h hs
    ·cases hs
   ·cases hs
  ·cases hs
theorem aexec_mono (h : CLe call call') (hl : LLe loop loop') : ∀ {c : ACode} {st : St} {r : AExit × St}, aexec call base loop c st = some r → aexec call' base loop' c st = some r
 | .skip, _, _, hs => hs
 | .exit _, _, _, hs => hs
 | .ret, _, _, hs => hs
 | .region ops drops, st, r, hs => by
  simp only [aexec] at hs ⊢
  split at hs
  ·rename_i st' h1
   rw [runOps_mono h h1]
   exact hs
  ·cases hs
 | .dregion ops tail drops, st, r, hs => by
  simp only [aexec] at hs ⊢
  split at hs
  ·rename_i fr h1
   rw [runX_mono h h1]
   simp only
   split at hs
   ·rename_i st' h2
    rw [runOps_mono h h2]
    exact hs
   ·cases hs
  ·cases hs
 | .cregion free chain drops, st, r, hs => by
  simp only [aexec] at hs ⊢
  split at hs
  ·rename_i fr h1
   rw [runX_mono h h1]
   simp only
   split at hs
   ·rename_i st' h2
    rw [runC_mono h h2]
    exact hs
   ·cases hs
  ·cases hs
 | .seq a b, st, r, hs => by
  simp only [aexec] at hs ⊢
  split at hs
  ·rename_i st' h1
   rw [aexec_mono h hl h1]
   exact aexec_mono h hl hs
  ·rename_i hne
   rcases hq : aexec call base loop a st with _ | ⟨ex, st1⟩
   ·rw [hq] at hs; cases hs
   ·rw [hq] at hs
    rw [aexec_mono h hl hq]
    cases ex with
    | normal => exact absurd hq (hne st1)
    | exit i => exact hs
    | ret => exact hs
 | .cond c a b, st, r, hs => by
  simp only [aexec] at hs ⊢
  split at hs
  ·exact aexec_mono h hl hs
  ·exact aexec_mono h hl hs
  ·cases hs
 | .block id c, st, r, hs => by
  simp only [aexec] at hs ⊢
  rcases hq : aexec call base loop c st with _ | ⟨ex, st1⟩
  ·rw [hq] at hs; cases hs
  ·rw [hq] at hs
   rw [aexec_mono h hl hq]
   exact hs
 | .loop c keep, st, r, hs => hl c keep _ r hs
 | .join c keep, st, r, hs => by
  simp only [aexec] at hs ⊢
  rcases hq : aexec call base loop c st with _ | ⟨ex, st1⟩
  ·rw [hq] at hs; cases hs
  ·rw [hq] at hs
   rw [aexec_mono h hl hq]
   exact hs
theorem runBody_mono (h : CLe call call') (hl : LLe loop loop') {fn : AFunc} {args : List AV} {r : AV} (hs : runBody call loop fn args = some r) : runBody call' loop' fn args = some r := by
 unfold runBody at hs ⊢
 split at hs
 ·rename_i hlen
  rw [if_pos hlen]
  rcases hq : aexec call 0 loop fn.body ⟨enterF fn.params 0 args, []⟩ with _ | ⟨ex, st1⟩
  ·rw [hq] at hs; cases hs
  ·rw [hq] at hs
   rw [aexec_mono h hl hq]
   exact hs
 ·cases hs
theorem runBodyM_mono (h : CLe call call') (hl : LLe loop loop') {fn : AFunc} {args : List AV} {m : List MObj} {r : AV × List MObj} (hs : runBodyM call loop fn args m = some r) : runBodyM call' loop' fn args m = some r := by
 unfold runBodyM at hs ⊢
 split at hs
 ·rename_i hlen
  rw [if_pos hlen]
  rcases hq : aexec call m.length loop fn.body ⟨enterF fn.params 0 args, m⟩ with _ | ⟨ex, st1⟩
  ·rw [hq] at hs; cases hs
  ·rw [hq] at hs
   rw [aexec_mono h hl hq]
   exact hs
 ·cases hs
theorem loopK_mono (h : CLe call call') (b : Nat) : ∀ n k, LLe (loopK call b n) (loopK call' b (n + k)) := by
 intro n
 induction n with
 | zero => intro k c ks st r hs; simp [loopK] at hs
 | succ n ih =>
  intro k c ks st r hs
  rw [show n + 1 + k = (n + k) + 1 from by omega]
  simp only [loopK] at hs ⊢
  rcases hq : aexec call b (loopK call b n) c (normSt b ks st) with _ | ⟨ex, st1⟩
  ·rw [hq] at hs; cases hs
  ·rw [hq] at hs
   rw [aexec_mono h (ih k) hq]
   cases ex with
   | normal => exact ih k _ _ _ _ hs
   | exit i => exact hs
   | ret => exact hs
end
section
variable {F : FuncId → Option AFunc} {X : CallF}
theorem run_mono1 : ∀ n, CLe (runF F X n) (runF F X (n + 1)) := by
 intro n
 induction n with
 | zero => exact ⟨fun f vs r h => by simp [runF] at h, fun f vs m r h => by simp [runF] at h⟩
 | succ n ih =>
  refine ⟨fun f vs r h => ?_, fun f vs m r h => ?_⟩
  ·simp only [runF] at h
   rw [runF.eq_def F X (n + 1 + 1)]
   simp only
   split at h
   ·rename_i fn hfn
    exact runBody_mono ih (loopK_mono ih 0 n 1) h
   ·exact h
  ·simp only [runF] at h
   rw [runF.eq_def F X (n + 1 + 1)]
   simp only
   split at h
   ·rename_i fn hfn
    exact runBodyM_mono ih (loopK_mono ih _ n 1) h
   ·exact h
theorem CLe.refl (c : CallF) : CLe c c := ⟨fun _ _ _ h => h, fun _ _ _ _ h => h⟩
theorem CLe.trans {a b c : CallF} (h : CLe a b) (h' : CLe b c) : CLe a c := ⟨fun _ _ _ q => h'.1 _ _ _ (h.1 _ _ _ q), fun _ _ _ _ q => h'.2 _ _ _ _ (h.2 _ _ _ _ q)⟩
theorem run_mono {n m : Nat} (h : n ≤ m) : CLe (runF F X n) (runF F X m) := by
  induction m with
  | zero => obtain rfl : n = 0 := by omega
            exact CLe.refl _
  | succ m ih =>
    by_cases e : n = m + 1
    · subst e; exact CLe.refl _
    · exact (ih (by omega)).trans (run_mono1 m)
theorem lp_mono (b : Nat) {n m : Nat} (h : n ≤ m) : LLe (loopK (runF F X n) b n) (loopK (runF F X m) b m) := by
 obtain ⟨k, rfl⟩ := Nat.exists_eq_add_of_le h
 exact loopK_mono (run_mono (Nat.le_add_right n k)) b n k
open Classical in
noncomputable def R (F : FuncId → Option AFunc) (X : CallF) : CallF :=
 ⟨fun f vs => if h : ∃ n r, (runF F X n).f f vs = some r then some h.choose_spec.choose else none, fun f vs m => if h : ∃ n r, (runF F X n).m f vs m = some r then some h.choose_spec.choose else none⟩
open Classical in
noncomputable def Lp (F : FuncId → Option AFunc) (X : CallF) (b : Nat) : LoopF := fun c k st => if h : ∃ n r, loopK (runF F X n) b n c k st = some r then some h.choose_spec.choose else none
theorem R_of {n : Nat} {f : FuncId} {vs : List AV} {r : AV} (h : (runF F X n).f f vs = some r) : (R F X).f f vs = some r := by
 have hex : ∃ n r, (runF F X n).f f vs = some r := ⟨n, r, h⟩
 unfold R
 simp only
 rw [dif_pos hex]
 have h2 := hex.choose_spec.choose_spec
 have a1 := (run_mono (F := F) (X := X) (Nat.le_max_left n hex.choose)).1 _ _ _ h
 have a2 := (run_mono (F := F) (X := X) (Nat.le_max_right n hex.choose)).1 _ _ _ h2
 rw [a1] at a2
 exact a2.symm
theorem R_some {f : FuncId} {vs : List AV} {r : AV} (h : (R F X).f f vs = some r) : ∃ n, (runF F X n).f f vs = some r := by
 unfold R at h
 simp only at h
 split at h
 ·rename_i hex
  injection h with h
  exact ⟨hex.choose, h ▸ hex.choose_spec.choose_spec⟩
 ·cases h
theorem RM_of {n : Nat} {f : FuncId} {vs : List AV} {m : List MObj} {r : AV × List MObj} (h : (runF F X n).m f vs m = some r) : (R F X).m f vs m = some r := by
 have hex : ∃ n r, (runF F X n).m f vs m = some r := ⟨n, r, h⟩
 unfold R
 simp only
 rw [dif_pos hex]
 have h2 := hex.choose_spec.choose_spec
 have a1 := (run_mono (F := F) (X := X) (Nat.le_max_left n hex.choose)).2 _ _ _ _ h
 have a2 := (run_mono (F := F) (X := X) (Nat.le_max_right n hex.choose)).2 _ _ _ _ h2
 rw [a1] at a2
 exact a2.symm
theorem RM_some {f : FuncId} {vs : List AV} {m : List MObj} {r : AV × List MObj} (h : (R F X).m f vs m = some r) : ∃ n, (runF F X n).m f vs m = some r := by
 unfold R at h
 simp only at h
 split at h
 ·rename_i hex
  injection h with h
  exact ⟨hex.choose, h ▸ hex.choose_spec.choose_spec⟩
 ·cases h
theorem Lp_of {b n : Nat} {c : ACode} {k : List Nat} {st : St} {r : AExit × St} (h : loopK (runF F X n) b n c k st = some r) : Lp F X b c k st = some r := by
 have hex : ∃ n r, loopK (runF F X n) b n c k st = some r := ⟨n, r, h⟩
 unfold Lp
 rw [dif_pos hex]
 have h2 := hex.choose_spec.choose_spec
 have a1 := lp_mono (F := F) (X := X) b (Nat.le_max_left n hex.choose) _ _ _ _ h
 have a2 := lp_mono (F := F) (X := X) b (Nat.le_max_right n hex.choose) _ _ _ _ h2
 rw [a1] at a2
 exact a2.symm
theorem Lp_some {b : Nat} {c : ACode} {k : List Nat} {st : St} {r : AExit × St} (h : Lp F X b c k st = some r) : ∃ n, loopK (runF F X n) b n c k st = some r := by
 unfold Lp at h
 split at h
 ·rename_i hex
  injection h with h
  exact ⟨hex.choose, h ▸ hex.choose_spec.choose_spec⟩
 ·cases h
theorem stepOp2_cont {st st' : St} {d : Option Nat} {o : AOp2} (hs : stepOp2 (R F X) st d o = some st') : ∃ n, stepOp2 (runF F X n) st d o = some st' := by
 cases o <;> try exact ⟨0, hs⟩
 case callM f args =>
  simp only [stepOp2, Option.map_eq_some_iff] at hs
  obtain ⟨r, hr, e⟩ := hs
  obtain ⟨n, hn⟩ := RM_some hr
  exact ⟨n, by simp only [stepOp2, hn, Option.map_some, e]⟩
 case callV x args =>
  simp only [stepOp2] at hs
  split at hs
  ·rename_i f first caps hf
   simp only [Option.map_eq_some_iff] at hs
   obtain ⟨r, hr, e⟩ := hs
   obtain ⟨n, hn⟩ := RM_some hr
   exact ⟨n, by simp only [stepOp2, hf, hn, Option.map_some, e]⟩
  ·cases hs
theorem stepOp_cont {st st' : St} {d : Option Nat} {o : AOp} (hs : stepOp (R F X) st d o = some st') : ∃ n, stepOp (runF F X n) st d o = some st' := by
 cases o <;> try exact ⟨0, hs⟩
 case x o => exact stepOp2_cont hs
 case call f args =>
  simp only [stepOp] at hs
  split at hs
  ·rename_i vs hvs
   split at hs
   ·rename_i r hr
    obtain ⟨n, hn⟩ := R_some hr
    refine ⟨n, ?_⟩
    simp only [stepOp, hvs, hn]
    exact hs
   ·cases hs
  ·cases hs
theorem runOps_cont : ∀ {l : List AOper} {st st' : St}, runOps (R F X) l st = some st' → ∃ n, runOps (runF F X n) l st = some st'
 | [], st, st', hs => ⟨0, hs⟩
 | o :: r, st, st', hs => by
  simp only [runOps] at hs
  split at hs
  ·rename_i hw
   split at hs
   ·rename_i st1 h1
    obtain ⟨n1, g1⟩ := stepOp_cont h1
    obtain ⟨n2, g2⟩ := runOps_cont hs
    refine ⟨max n1 n2, ?_⟩
    simp only [runOps, hw, stepOp_mono (run_mono (Nat.le_max_left n1 n2)) g1]
    exact runOps_mono (run_mono (Nat.le_max_right n1 n2)) g2
   ·cases hs
  ·rename_i hw
   obtain ⟨n, g⟩ := runOps_cont hs
   exact ⟨n, by simp only [runOps, hw]; exact g⟩
  ·cases hs
theorem extOp_cont {m : List MObj} {fr : List (Nat × AV)} {o : AOp} {v : AV} (hs : extOp (R F X) m fr o = some v) : ∃ n, extOp (runF F X n) m fr o = some v := by
 by_cases hc : ∃ f args, o = .call f args
 ·obtain ⟨f, args, rfl⟩ := hc
  simp only [extOp] at hs
  split at hs
  ·rename_i hn
   cases hf : frzL m (List.map (evA fr) args) with
   | none => rw [hf] at hs; cases hs
   | some vs =>
    rw [hf] at hs
    obtain ⟨n, g⟩ := R_some hs
    exact ⟨n, by simp only [extOp]; rw [if_pos hn, hf]; exact g⟩
  ·cases hs
 ·exact ⟨0, by rw [extOp_same hc]; exact hs⟩
theorem oneX_cont {m : List MObj} {fr : List (Nat × AV)} {o : AOper} {v : AV} (hs : oneX (R F X) m fr o = some v) : ∃ n, oneX (runF F X n) m fr o = some v := by
 unfold oneX at hs
 split at hs
 ·rename_i hw
  obtain ⟨n, g⟩ := extOp_cont hs
  exact ⟨n, by unfold oneX; simp only [hw]; exact g⟩
 ·rename_i hw; exact ⟨0, by unfold oneX; simp only [hw]; exact hs⟩
 ·cases hs
theorem runX_cont {m : List MObj} : ∀ {l : List AOper} {fr fr' : List (Nat × AV)}, runX (R F X) m l fr = some fr' → ∃ n, runX (runF F X n) m l fr = some fr'
 | [], fr, fr', hs => ⟨0, hs⟩
 | o :: r, fr, fr', hs => by
  simp only [runX] at hs
  split at hs
  ·rename_i v h1
   obtain ⟨n1, g1⟩ := oneX_cont h1
   obtain ⟨n2, g2⟩ := runX_cont hs
   refine ⟨max n1 n2, ?_⟩
   simp only [runX, oneX_mono (run_mono (Nat.le_max_left n1 n2)) g1]
   exact runX_mono (run_mono (Nat.le_max_right n1 n2)) g2
  ·cases hs
theorem stepC_cont {o : AOper} {st st' : St} (hs : stepC (R F X) o st = some st') : ∃ n, stepC (runF F X n) o st = some st' := by
 unfold stepC at hs
 split at hs
 ·rename_i st1 h1
  obtain ⟨n, g⟩ := runOps_cont h1
  exact ⟨n, by unfold stepC; rw [g]; exact hs⟩
 ·cases hs
theorem runC_cont {free : List AOper} {fr0 fr1 : List (Nat × AV)} : ∀ {l : List AOper} {st st' : St}, runC (R F X) free fr0 fr1 l st = some st' → ∃ n, runC (runF F X n) free fr0 fr1 l st = some st'
 | [], st, st', hs => ⟨0, hs⟩
 | [o], st, st', hs => by
  simp only [runC] at hs
  split at hs
  ·rename_i st1 h1
   obtain ⟨n, g⟩ := stepC_cont h1
   exact ⟨n, by simp only [runC, g]; exact hs⟩
  ·cases hs
 | o :: o2 :: r, st, st', hs => by
  rw [runC] at hs
  split at hs
  ·rename_i st1 h1
   dsimp only at hs
   split at hs
   ·rename_i fr2 h2
    split at hs
    ·rename_i he
     obtain ⟨n1, g1⟩ := stepC_cont h1
     obtain ⟨n2, g2⟩ := runX_cont h2
     obtain ⟨n3, g3⟩ := runC_cont hs
     have m1 : n1 ≤ max n1 (max n2 n3) := by omega
     have m2 : n2 ≤ max n1 (max n2 n3) := by omega
     have m3 : n3 ≤ max n1 (max n2 n3) := by omega
     refine ⟨max n1 (max n2 n3), ?_⟩
     rw [runC, stepC_mono (run_mono m1) g1]
     simp only [runX_mono (run_mono m2) g2, he]
     exact runC_mono (run_mono m3) g3
    ·cases hs
   ·cases hs
  ·cases hs
theorem aexec_cont {b : Nat} : ∀ {c : ACode} {st : St} {r : AExit × St}, aexec (R F X) b (Lp F X b) c st = some r → ∃ n, aexec (runF F X n) b (loopK (runF F X n) b n) c st = some r
 | .skip, _, _, hs => ⟨0, hs⟩
 | .exit _, _, _, hs => ⟨0, hs⟩
 | .ret, _, _, hs => ⟨0, hs⟩
 | .region ops drops, st, r, hs => by
  simp only [aexec] at hs
  split at hs
  ·rename_i st' h1
   obtain ⟨n, g⟩ := runOps_cont h1
   exact ⟨n, by simp only [aexec, g]; exact hs⟩
  ·cases hs
 | .dregion ops tail drops, st, r, hs => by
  simp only [aexec] at hs
  split at hs
  ·rename_i fr h1
   split at hs
   ·rename_i st' h2
    obtain ⟨n1, g1⟩ := runX_cont h1
    obtain ⟨n2, g2⟩ := runOps_cont h2
    refine ⟨max n1 n2, ?_⟩
    simp only [aexec, runX_mono (run_mono (Nat.le_max_left n1 n2)) g1, runOps_mono (run_mono (Nat.le_max_right n1 n2)) g2]
    exact hs
   ·cases hs
  ·cases hs
 | .cregion free chain drops, st, r, hs => by
  simp only [aexec] at hs
  split at hs
  ·rename_i fr h1
   split at hs
   ·rename_i st' h2
    obtain ⟨n1, g1⟩ := runX_cont h1
    obtain ⟨n2, g2⟩ := runC_cont h2
    refine ⟨max n1 n2, ?_⟩
    simp only [aexec, runX_mono (run_mono (Nat.le_max_left n1 n2)) g1, runC_mono (run_mono (Nat.le_max_right n1 n2)) g2]
    exact hs
   ·cases hs
  ·cases hs
 | .seq a c, st, r, hs => by
  simp only [aexec] at hs
  split at hs
  ·rename_i st' h1
   obtain ⟨n1, g1⟩ := aexec_cont h1
   obtain ⟨n2, g2⟩ := aexec_cont hs
   refine ⟨max n1 n2, ?_⟩
   have q1 := run_mono (F := F) (X := X) (Nat.le_max_left n1 n2)
   have q2 := run_mono (F := F) (X := X) (Nat.le_max_right n1 n2)
   simp only [aexec, aexec_mono q1 (lp_mono b (Nat.le_max_left n1 n2)) g1]
   exact aexec_mono q2 (lp_mono b (Nat.le_max_right n1 n2)) g2
  ·rename_i hne
   rcases hq : aexec (R F X) b (Lp F X b) a st with _ | ⟨ex, st1⟩
   ·rw [hq] at hs; cases hs
   ·rw [hq] at hs
    obtain ⟨n, g⟩ := aexec_cont hq
    refine ⟨n, ?_⟩
    simp only [aexec, g]
    cases ex with
    | normal => exact absurd hq (hne st1)
    | exit i => exact hs
    | ret => exact hs
 | .cond c a d, st, r, hs => by
  simp only [aexec] at hs
  split at hs
  ·rename_i hc
   obtain ⟨n, g⟩ := aexec_cont hs
   exact ⟨n, by simp only [aexec, hc]; exact g⟩
  ·rename_i hc
   obtain ⟨n, g⟩ := aexec_cont hs
   exact ⟨n, by simp only [aexec, hc]; exact g⟩
  ·cases hs
 | .block id c, st, r, hs => by
  simp only [aexec] at hs
  rcases hq : aexec (R F X) b (Lp F X b) c st with _ | ⟨ex, st1⟩
  ·rw [hq] at hs; cases hs
  ·rw [hq] at hs
   obtain ⟨n, g⟩ := aexec_cont hq
   exact ⟨n, by simp only [aexec, g]; exact hs⟩
 | .loop c keep, st, r, hs => Lp_some hs
 | .join c keep, st, r, hs => by
  simp only [aexec] at hs
  rcases hq : aexec (R F X) b (Lp F X b) c st with _ | ⟨ex, st1⟩
  ·rw [hq] at hs; cases hs
  ·rw [hq] at hs
   obtain ⟨n, g⟩ := aexec_cont hq
   exact ⟨n, by simp only [aexec, g]; exact hs⟩
theorem R_body {f : FuncId} {fn : AFunc} {vs : List AV} {r : AV} (hf : F f = some fn) (h : runBody (R F X) (Lp F X 0) fn vs = some r) : (R F X).f f vs = some r := by
 unfold runBody at h
 split at h
 ·rename_i hlen
  rcases hq : aexec (R F X) 0 (Lp F X 0) fn.body ⟨enterF fn.params 0 vs, []⟩ with _ | ⟨ex, st1⟩
  ·rw [hq] at h; cases h
  ·obtain ⟨n, g⟩ := aexec_cont hq
   rw [hq] at h
   refine R_of (n := n + 1) ?_
   simp only [runF, hf, runBody, g]
   rw [if_pos hlen]
   exact h
 ·cases h
theorem RM_body {f : FuncId} {fn : AFunc} {vs : List AV} {m : List MObj} {r : AV × List MObj} (hf : F f = some fn) (h : runBodyM (R F X) (Lp F X m.length) fn vs m = some r) : (R F X).m f vs m = some r := by
 unfold runBodyM at h
 split at h
 ·rename_i hlen
  rcases hq : aexec (R F X) m.length (Lp F X m.length) fn.body ⟨enterF fn.params 0 vs, m⟩ with _ | ⟨ex, st1⟩
  ·rw [hq] at h; cases h
  ·obtain ⟨n, g⟩ := aexec_cont hq
   rw [hq] at h
   refine RM_of (n := n + 1) ?_
   simp only [runF, hf, runBodyM, g]
   rw [if_pos hlen]
   exact h
 ·cases h
theorem R_ext {f : FuncId} {vs : List AV} {r : AV} (hf : F f = none) (h : X.f f vs = some r) : (R F X).f f vs = some r := R_of (n := 1) (by simp only [runF, hf]; exact h)
theorem RM_ext {f : FuncId} {vs : List AV} {m : List MObj} {r : AV × List MObj} (hf : F f = none) (h : X.m f vs m = some r) : (R F X).m f vs m = some r := RM_of (n := 1) (by simp only [runF, hf]; exact h)
theorem Lp_step {b : Nat} {c : ACode} {k : List Nat} {st st' : St} {r : AExit × St} (h : aexec (R F X) b (Lp F X b) c (normSt b k st) = some (.normal, st')) (h' : Lp F X b c k st' = some r) : Lp F X b c k st = some r := by
 obtain ⟨n1, g1⟩ := aexec_cont h
 obtain ⟨n2, g2⟩ := Lp_some h'
 have e1 := aexec_mono (run_mono (F := F) (X := X) (Nat.le_max_left n1 n2)) (lp_mono b (Nat.le_max_left n1 n2)) g1
 have e2 := lp_mono (F := F) (X := X) b (Nat.le_max_right n1 n2) _ _ _ _ g2
 generalize max n1 n2 = n at e1 e2
 have e3 := aexec_mono (run_mono (F := F) (X := X) (Nat.le_succ n)) (loopK_mono (run_mono (F := F) (X := X) (Nat.le_succ n)) b n 0) e1
 have e4 := loopK_mono (run_mono (F := F) (X := X) (Nat.le_succ n)) b n 0 _ _ _ _ e2
 refine Lp_of (n := n + 1) ?_
 simp only [loopK]
 simp only [Nat.add_zero] at e3 e4
 rw [e3]
 exact e4
theorem Lp_exit {b : Nat} {c : ACode} {k : List Nat} {st st' : St} {i : Nat} (h : aexec (R F X) b (Lp F X b) c (normSt b k st) = some (.exit i, st')) : Lp F X b c k st = some (.exit i, st') := by
 obtain ⟨n, g⟩ := aexec_cont h
 have e3 := aexec_mono (run_mono (F := F) (X := X) (Nat.le_succ n)) (loopK_mono (run_mono (F := F) (X := X) (Nat.le_succ n)) b n 0) g
 exact Lp_of (n := n + 1) (by simp only [loopK]; simp only [Nat.add_zero] at e3; rw [e3])
theorem Lp_ret {b : Nat} {c : ACode} {k : List Nat} {st st' : St} (h : aexec (R F X) b (Lp F X b) c (normSt b k st) = some (.ret, st')) : Lp F X b c k st = some (.ret, st') := by
 obtain ⟨n, g⟩ := aexec_cont h
 have e3 := aexec_mono (run_mono (F := F) (X := X) (Nat.le_succ n)) (loopK_mono (run_mono (F := F) (X := X) (Nat.le_succ n)) b n 0) g
 exact Lp_of (n := n + 1) (by simp only [loopK]; simp only [Nat.add_zero] at e3; rw [e3])
theorem RS_sound {P : Program} (hF : ∀ f af, F f = some af → ∃ hn, compFunc P hn f = some af) (hE : CallsOk P X) : CallsOk P (R F X) :=
 ⟨fun f vs r h => by obtain ⟨n, hn⟩ := R_some h; exact (run_sound hF hE n).1 f vs r hn, fun f vs m r m' h => by obtain ⟨n, hn⟩ := RM_some h; exact (run_sound hF hE n).2 f vs m r m' hn⟩
theorem R_sound {P : Program} (hF : ∀ f af, F f = some af → ∃ hn, compFunc P hn f = some af) (hE : CallsOk P X) {f : FuncId} {vs : List AV} {r : AV} (h : (R F X).f f vs = some r) : CallOk P f vs r := (RS_sound hF hE).1 f vs r h
end
end Go.Proofs.YtienfdjfochlcaaGreatDoor
end
section
namespace Go.Proofs.YtienfdjfochlcaaGreatDoor
set_option linter.unusedVariables false
set_option linter.unusedSimpArgs false
abbrev Bs := List UInt8
def ofL (l : Bs) : ByteArray := ⟨l.toArray⟩
def toL (s : ByteArray) : Bs := s.data.toList
def strL (l : Bs) : AV := .val (.string (ofL l))
def intA (n : Int) : AV := .val (.int .i64 n)
def u8A (c : UInt8) : AV := .val (.int .u8 c.toNat)
def boolA (b : Bool) : AV := .val (.bool b)
theorem ofL_toL (s : ByteArray) : ofL (toL s) = s := rfl
theorem wrap64_id {n : Int} (h1 : -9223372036854775808 ≤ n) (h2 : n ≤ 9223372036854775807) : IntKind.i64.wrap n = n := IntWalk.i64_in _ (by omega)
def InI64 (n : Int) : Prop := -9223372036854775808 ≤ n ∧ n ≤ 9223372036854775807
instance (n : Int) : Decidable (InI64 n) := by unfold InI64; infer_instance
inductive Tr : Type 1
 | nil
 | b (x : Bool) (r : Tr)
 | br (p q : Tr)
 | w (r : Tr)
 | raw (r : Tr)
 | k (n : Nat) (r : Tr)
 | sl (a b : Nat) (r : Tr)
 | ix {α : Type} (f : α → AV) (a : List α) (k : Nat) (r : α → Tr)
 | y (k : Nat) (r : UInt8 → Tr)
 | yk (k : Nat) (c : UInt8) (r : Tr)
 | un (n : Nat) (r : Tr)
 | bs (l : Bs) (r : Tr)
 | g (l : List AV) (r : Tr)
 | c (v : AV) (r : Tr)
 | cm (v : AV) (m : List MObj) (r : Tr)
 | inl (r : Tr)
 | mp {α : Type} (f : α → AV) (a : List (Bs × α)) (p : α → Tr) (q : Tr)
 | ms (es : List (Value × AV)) (r : Tr)
 | inv {ι : Type} (S : ι → St) (I : ι → Prop) (μ : ι → Nat) (r : ι → Tr)
 | lp (ex : AExit) (st : St) (r : Tr)
 | cut {ι : Type} (S : ι → St) (I : ι → Prop) (a : Tr) (r : ι → Tr)
inductive Ask where
 | stop (w : AOp)
 | t (b : Bool)
 | w (n : Int)
 | q (k : IntKind) (a b : Int)
 | r (a b : Int)
 | sh (b : Int)
 | ix (l : List AV) (n : Int)
 | ra (n : Int) (len : Nat)
 | ld (l : List AV) (i : Nat)
 | fin (n : Int) (i : Nat)
 | aa (n : Int) (i : Nat)
 | y (l : Bs) (n : Int)
 | len (l : List AV)
 | sl (len : Nat) (lo hi : Option Operand) (fr : List (Nat × AV))
 | cat (a b : Bs)
 | bs (l : List AV)
 | g (l : List AV) (off len : Nat)
 | call (f : FuncId) (vs : List AV)
 | callM (f : FuncId) (vs : List AV) (m : List MObj)
 | mp (es : List (Value × AV)) (k : Bs)
 | ms (es : List (Value × AV)) (k : Value) (v : AV)
 | app (l ly : List AV) (used : Nat)
 | n (a b : Int)
 | loop (c : ACode) (keep : List Nat) (st : St)
 | join (keep : List Nat) (st : St)
 | gd (l : List AV) (off len : Nat)
 | st (l cs : List AV) (off : Nat)
 | rp (l : List AV)
 | bd (fr : List (Nat × AV)) (zero : List Value) (parts : List (Nat × Nat × Operand))
inductive StuckAt (_ : Ask) (_ : Tr → Prop) : Prop
theorem StuckAt.elim {a : Ask} {K : Tr → Prop} {p : Prop} (h : StuckAt a K) : p := nomatch h
def W (α : Type) := Tr → (α → Tr → Prop) → Prop
def SoundW {α : Type} (x : W α) (o : Option α) : Prop := ∀ T Q, x T Q → ∃ a T', o = some a ∧ Q a T'
def retW {α : Type} (a : α) : W α := fun T Q => Q a T
def bindW {α β : Type} (x : W α) (f : α → W β) : W β := fun T Q => x T fun a T' => f a T' Q
def askW {α : Type} (a : Ask) (q : Tr → (α → Tr → Prop) → Prop) : W α := fun T Q => match T with
 | .nil => StuckAt a fun T' => q T' Q
 | T => q T Q
def stopW {α : Type} (w : AOp) : W α := fun _ _ => StuckAt (.stop w) fun _ => False
def liftW {α : Type} (w : AOp) (o : Option α) : W α := fun T Q => match o with
 | some a => Q a T
 | none => StuckAt (.stop w) fun _ => False
def ifW {α : Type} (w : AOp) (c : Prop) [Decidable c] (x : W α) : W α := if c then x else stopW w
section
variable {α β : Type}
theorem SoundW.ret (a : α) : SoundW (retW a) (some a) := fun T _ h => ⟨a, T, rfl, h⟩
theorem SoundW.ret' {a : α} {o : Option α} (h : o = some a) : SoundW (retW a) o := h ▸ .ret a
theorem SoundW.bind {x : W α} {f : α → W β} {o : Option α} {g : α → Option β} (h : SoundW x o) (hf : ∀ a, o = some a → SoundW (f a) (g a)) : SoundW (bindW x f) (o.bind g) := fun T Q hq => by
 obtain ⟨a, T', h1, h2⟩ := h _ _ hq
 rw [h1]
 exact hf a h1 _ _ h2
theorem SoundW.bind' {x : W α} {f : α → W β} {o : Option α} {r : Option β} (h : SoundW x o) (hf : ∀ a, o = some a → SoundW (f a) r) : SoundW (bindW x f) r := fun T Q hq => by
 obtain ⟨a, T', h1, h2⟩ := h _ _ hq
 exact hf a h1 _ _ h2
theorem SoundW.ask {a : Ask} {q : Tr → (α → Tr → Prop) → Prop} {o : Option α} (h : ∀ T Q, q T Q → ∃ a T', o = some a ∧ Q a T') : SoundW (askW a q) o := fun T Q hq => by
 unfold askW at hq
 split at hq
 ·exact hq.elim
 ·exact h _ _ hq
theorem SoundW.stop (w : AOp) (o : Option α) : SoundW (stopW w : W α) o := fun _ _ h => h.elim
theorem SoundW.lift (w : AOp) (o : Option α) : SoundW (liftW w o) o := fun T Q h => by
 unfold liftW at h
 split at h
 ·exact ⟨_, T, rfl, h⟩
 ·exact h.elim
theorem SoundW.ite {w : AOp} {c : Prop} [Decidable c] {x : W α} {o : Option α} (h : c → SoundW x o) : SoundW (ifW w c x) o := by
 unfold ifW
 split
 ·rename_i hc; exact h hc
 ·exact .stop _ _
end
def boolW (t : Bool) : W Bool := askW (.t t) fun T Q => match T with
 | .b x r => t = x ∧ Q x r
 | .br p q => (t = true → Q true p) ∧ (t = false → Q false q)
 | _ => False
theorem boolW_ok (t : Bool) : SoundW (boolW t) (some t) := .ask fun T Q h => by
 split at h
 ·exact ⟨t, _, rfl, h.1 ▸ h.2⟩
 ·cases t
  ·exact ⟨_, _, rfl, h.2 rfl⟩
  ·exact ⟨_, _, rfl, h.1 rfl⟩
 ·exact h.elim
theorem wrap_ex : ∃ f : IntKind → Int → Int, f = IntKind.wrap := ⟨_, rfl⟩
noncomputable def wrapX : IntKind → Int → Int := Classical.choose wrap_ex
theorem wrapX_eq : wrapX = IntKind.wrap := Classical.choose_spec wrap_ex
def wrapW (n : Int) : W AV := askW (.w n) fun T Q => match T with
 | .w r => InI64 n ∧ Q (intA n) r
 | .raw r => Q (intA (wrapX .i64 n)) r
 | _ => False
theorem wrapW_ok (n : Int) : SoundW (wrapW n) (some (intA (IntKind.i64.wrap n))) := .ask fun T Q h => by
 split at h
 ·rename_i r
  refine ⟨_, r, rfl, ?_⟩
  rw [wrap64_id h.1.1 h.1.2]; exact h.2
 ·rw [wrapX_eq] at h; exact ⟨_, _, rfl, h⟩
 ·exact h.elim
def bitW (op : BinOp) (k : IntKind) (x y : Int) : Int := k.wrap (match op with
 | .and => (BitVec.ofInt k.bits x &&& BitVec.ofInt k.bits y).toNat
 | .or => (BitVec.ofInt k.bits x ||| BitVec.ofInt k.bits y).toNat
 | .xor => (BitVec.ofInt k.bits x ^^^ BitVec.ofInt k.bits y).toNat
 | _ => (BitVec.ofInt k.bits x &&& ~~~BitVec.ofInt k.bits y).toNat)
theorem bit_ex : ∃ f : BinOp → IntKind → Int → Int → Int, f = bitW := ⟨_, rfl⟩
noncomputable def bitX : BinOp → IntKind → Int → Int → Int := Classical.choose bit_ex
theorem bitX_eq : bitX = bitW := Classical.choose_spec bit_ex
def shlW (k : IntKind) (x y : Int) : Int := k.wrap (x * 2 ^ min y.toNat k.bits)
def shrW (k : IntKind) (x y : Int) : Int := x.fdiv (2 ^ min y.toNat k.bits)
def toU8 (n : Int) : UInt8 := UInt8.ofNat (n % 256).toNat
theorem u8_wrap (n : Int) : IntKind.u8.wrap n = ((toU8 n).toNat : Int) := by
 have h1 : 0 ≤ n % 256 := Int.emod_nonneg _ (by decide)
 have h2 : n % 256 < 256 := Int.emod_lt_of_pos _ (by decide)
 have h3 : (toU8 n).toNat = (n % 256).toNat := by
  unfold toU8
  rw [UInt8.toNat_ofNat']
  omega
 rw [h3]
 simp only [IntKind.wrap, IntKind.bits, IntKind.signed]
 simp
 omega
def arW (k : IntKind) (n : Int) : W AV := match k with
 | .i64 => wrapW n
 | .u8 => retW (u8A (toU8 n))
 | k => retW (.val (.int k (k.wrap n)))
theorem arW_ok (k : IntKind) (n : Int) : SoundW (arW k n) (some (.val (.int k (k.wrap n)))) := by
 cases k <;> first | exact wrapW_ok n | exact .ret' (by rw [u8_wrap]; rfl) | exact .ret _
def topI : IntKind → Int
 | .i64 => 9223372036854775807
 | .u8 => 255
 | .u64 => 18446744073709551615
 | _ => 0
theorem wrap_top {k : IntKind} {n : Int} (h1 : 0 ≤ n) (h2 : n ≤ topI k) : k.wrap n = n := by
 cases k <;> simp only [topI] at h2 <;> simp [IntKind.wrap, IntKind.bits, IntKind.signed] <;> omega
theorem quo_pos {a b : Int} (h1 : 0 ≤ a) (h2 : 0 < b) : a.tdiv b = a / b := Int.tdiv_eq_ediv_of_nonneg h1
theorem quo_wrap {k : IntKind} {a b : Int} (h1 : 0 ≤ a) (h2 : 0 < b) (h3 : a ≤ topI k) : k.wrap (a.tdiv b) = a / b := by
 rw [quo_pos h1 h2]
 refine wrap_top (Int.ediv_nonneg h1 (Int.le_of_lt h2)) (Int.le_trans (Int.ediv_le_self b h1) h3)
theorem rem_pos {a b : Int} (h1 : 0 ≤ a) : a.tmod b = a % b := Int.tmod_eq_emod_of_nonneg h1
def intW (w : AOp) (op : BinOp) (k : IntKind) (a b : Int) : W AV := match op with
 | .add => arW k (a + b)
 | .sub => arW k (a - b)
 | .mul => arW k (a * b)
 | .quo => askW (.q k a b) fun T Q => match T with
  | .w r => b ≠ 0 ∧ InI64 (a.tdiv b) ∧ k = .i64 ∧ Q (intA (a.tdiv b)) r
  | .raw r => b ≠ 0 ∧ Q (.val (.int k (wrapX k (a.tdiv b)))) r
  | .k _ r => 0 ≤ a ∧ 0 < b ∧ a ≤ topI k ∧ Q (.val (.int k (a / b))) r
  | _ => False
 | .rem => askW (.r a b) fun T Q => match T with
  | .w r => b ≠ 0 ∧ Q (.val (.int k (a.tmod b))) r
  | .k _ r => 0 ≤ a ∧ 0 < b ∧ Q (.val (.int k (a % b))) r
  | _ => False
 | .eql => retW (boolA (decide (a = b)))
 | .neq => retW (boolA (!decide (a = b)))
 | .lss => retW (boolA (decide (a < b)))
 | .leq => retW (boolA (decide (a ≤ b)))
 | .gtr => retW (boolA (decide (b < a)))
 | .geq => retW (boolA (decide (b ≤ a)))
 | .and => retW (.val (.int k (bitX .and k a b)))
 | .or => retW (.val (.int k (bitX .or k a b)))
 | .xor => retW (.val (.int k (bitX .xor k a b)))
 | .andNot => retW (.val (.int k (bitX .andNot k a b)))
 | _ => stopW w
theorem intW_ok (w : AOp) (op : BinOp) (k : IntKind) (a b : Int) : SoundW (intW w op k a b) ((binV op (.int k a) (.int k b)).map .val) := by
 cases op <;> unfold intW <;> simp only
 case add => exact arW_ok _ _ |> fun h => by simpa [binV] using h
 case sub => exact arW_ok _ _ |> fun h => by simpa [binV] using h
 case mul => exact arW_ok _ _ |> fun h => by simpa [binV] using h
 case quo =>
  refine .ask fun T Q h => ?_
  split at h
  ·obtain ⟨h1, h2, rfl, h3⟩ := h
   refine ⟨_, _, ?_, h3⟩
   simp [binV, h1, intA, wrap64_id h2.1 h2.2]
  ·rw [wrapX_eq] at h; exact ⟨_, _, by simp [binV, h.1], h.2⟩
  ·obtain ⟨h1, h2, h3, h4⟩ := h
   have hb : b ≠ 0 := by omega
   exact ⟨_, _, by simp [binV, hb, quo_wrap h1 h2 h3], h4⟩
  ·exact h.elim
 case rem =>
  refine .ask fun T Q h => ?_
  split at h
  ·exact ⟨_, _, by simp [binV, h.1], h.2⟩
  ·obtain ⟨h1, h2, h4⟩ := h
   have hb : b ≠ 0 := by omega
   exact ⟨_, _, by simp [binV, hb, rem_pos h1], h4⟩
  ·exact h.elim
 case eql => exact .ret' (by simp only [binV, if_true, Option.map_some]; rfl)
 case neq => exact .ret' (by simp only [binV, if_true, Option.map_some]; rfl)
 case lss => exact .ret' (by simp [binV, boolA])
 case leq => exact .ret' (by simp [binV, boolA])
 case gtr => exact .ret' (by simp [binV, boolA])
 case geq => exact .ret' (by simp [binV, boolA])
 case and => exact .ret' (by rw [bitX_eq]; simp only [binV, if_true]; rfl)
 case or => exact .ret' (by rw [bitX_eq]; simp only [binV, if_true]; rfl)
 case xor => exact .ret' (by rw [bitX_eq]; simp only [binV, if_true]; rfl)
 case andNot => exact .ret' (by rw [bitX_eq]; simp only [binV, if_true]; rfl)
 all_goals exact .stop _ _
def strW (w : AOp) (op : BinOp) (a b : Bs) : W AV := match op with
 | .add => askW (.cat a b) fun T Q => match T with
  | .w r => a.length + b.length ≤ 9223372036854775807 ∧ Q (strL (a ++ b)) r
  | _ => False
 | .eql => retW (boolA (decide (a = b)))
 | .neq => retW (boolA (!decide (a = b)))
 | .lss => retW (boolA (Op.bytesLess a b))
 | .leq => retW (boolA (Op.bytesLess a b || decide (a = b)))
 | .gtr => retW (boolA (!(Op.bytesLess a b || decide (a = b))))
 | .geq => retW (boolA (!Op.bytesLess a b))
 | _ => stopW w
theorem toList_data (a : ByteArray) : a.toList = toL a := ByteArray.toList_eq a
theorem app_toL (a b : ByteArray) : a ++ b = ofL (toL a ++ toL b) := by
 apply ByteArray.ext
 simp [ofL, toL]
theorem strW_ok (w : AOp) (op : BinOp) (a b : ByteArray) : SoundW (strW w op (toL a) (toL b)) ((binV op (.string a) (.string b)).map .val) := by
 have e : (a.toList == b.toList) = decide (toL a = toL b) := bytes_beq a b
 cases op <;> unfold strW <;> simp only
 case add =>
  refine .ask fun T Q h => ?_
  split at h
  ·refine ⟨_, _, ?_, h.2⟩
   have h1 : a.size + b.size ≤ 9223372036854775807 := h.1
   simp only [binV, if_pos h1, Option.map_some, strL, app_toL]
  ·exact h.elim
 case eql => exact .ret' (by simp only [binV, Option.map_some, boolA, e])
 case neq => exact .ret' (by simp only [binV, Option.map_some, boolA, e])
 case lss => exact .ret' (by simp only [binV, Option.map_some, boolA, toList_data])
 case leq => exact .ret' (by simp only [binV, Option.map_some, boolA, e]; simp only [toList_data])
 case gtr => exact .ret' (by simp only [binV, Option.map_some, boolA, e]; simp only [toList_data])
 case geq => exact .ret' (by simp only [binV, Option.map_some, boolA, toList_data])
 all_goals exact .stop _ _
def binW (w : AOp) (op : BinOp) (x y : AV) : W AV := match op, x, y with
 | .shl, .val (.int k a), .val (.int _ b) => askW (.sh b) fun T Q => match T with
  | .w r => 0 ≤ b ∧ Q (.val (.int k (shlW k a b))) r
  | _ => False
 | .shr, .val (.int k a), .val (.int _ b) => askW (.sh b) fun T Q => match T with
  | .w r => 0 ≤ b ∧ Q (.val (.int k (shrW k a b))) r
  | _ => False
 | op, .val (.int k a), .val (.int k' b) => ifW w (k = k') (intW w op k a b)
 | op, .val (.string a), .val (.string b) => strW w op (toL a) (toL b)
 | _, _, _ => stopW w
theorem binW_ok (w : AOp) (op : BinOp) (x y : AV) : SoundW (binW w op x y) (match x.toVal, y.toVal with | some a, some b => (binV op a b).map .val | _, _ => none) := by
 unfold binW
 split
 ·refine .ask fun T Q h => ?_
  split at h
  ·refine ⟨_, _, ?_, h.2⟩
   have : ¬ (_ : Int) < 0 := Int.not_lt.2 h.1
   simp only [AV.toVal, binV, Op.shift, if_neg this, Sem.now, Option.map_some]
   rfl
  ·exact h.elim
 ·refine .ask fun T Q h => ?_
  split at h
  ·refine ⟨_, _, ?_, h.2⟩
   have : ¬ (_ : Int) < 0 := Int.not_lt.2 h.1
   simp only [AV.toVal, binV, Op.shift, if_neg this, Sem.now, Option.map_some]
   rfl
  ·exact h.elim
 ·refine .ite fun hk => ?_
  subst hk
  exact intW_ok _ _ _ _ _
 ·exact strW_ok _ _ _ _
 ·exact .stop _ _
def rowW {α : Type} (m : List MObj) (w : AOp) (id : Nat) (f : Nat → Nat → List AV → Bool → Nat → W α) : W α := match m[id]? with
 | some (.row v s l wr ap) => f v s l wr ap
 | _ => stopW w
theorem rowW_ok {α : Type} {m : List MObj} {w : AOp} {id : Nat} {f : Nat → Nat → List AV → Bool → Nat → W α} {o : Option α} (h : ∀ v s l wr ap, m[id]? = some (.row v s l wr ap) → SoundW (f v s l wr ap) o) : SoundW (rowW m w id f) o := by
 unfold rowW
 split
 ·rename_i v s l wr ap hm; exact h _ _ _ _ _ hm
 ·exact .stop _ _
def asI : AV → Option Int
 | .val (.int _ n) => some n
 | _ => none
theorem asI_toN {v : AV} {n : Int} {k : Nat} (h : asI v = some n) (hk : n = (k : Int)) : v.toN = some k := by
 unfold asI at h
 split at h
 ·injection h with h; subst h hk; simp [AV.toN, AV.toI]
 ·cases h
def finW (n : Int) (sz : Nat) (ag : Bool) (w : AOp) : Nat → List AV → Nat → W AV
 | 0, _, _ => stopW w
 | cnt + 1, l, i => askW (.fin n i) fun T Q => match T with
  | .b true r => n = (i : Int) ∧ liftW w (mkV sz ag l) r Q
  | .b false r => n ≠ (i : Int) ∧ finW n sz ag w cnt (l.drop sz) (i + 1) r Q
  | .br p q => (n = (i : Int) → liftW w (mkV sz ag l) p Q) ∧ (n ≠ (i : Int) → finW n sz ag w cnt (l.drop sz) (i + 1) q Q)
  | _ => False
theorem finW_ok (n : Int) (sz : Nat) (ag : Bool) (w : AOp) (L : List AV) (o : Option AV) (cnt0 : Nat) (ho : ∀ k : Nat, n = (k : Int) → k < cnt0 → o = mkV sz ag (L.drop (k * sz))) : ∀ (cnt : Nat) (l : List AV) (i : Nat), i + cnt = cnt0 → l = L.drop (i * sz) → SoundW (finW n sz ag w cnt l i) o
 | 0, l, i, _, _ => .stop _ _
 | cnt + 1, l, i, hc, hl => .ask fun T Q h => by
  have hit : n = (i : Int) → ∀ r, liftW w (mkV sz ag l) r Q → ∃ a T', o = some a ∧ Q a T' := fun e r hr => by
   obtain ⟨a, T', h1, h2⟩ := SoundW.lift w _ _ _ hr
   exact ⟨a, T', by rw [ho i e (by omega), ← hl, h1], h2⟩
  have miss : ∀ r, finW n sz ag w cnt (l.drop sz) (i + 1) r Q → ∃ a T', o = some a ∧ Q a T' := fun r hr => finW_ok n sz ag w L o cnt0 ho cnt _ (i + 1) (by omega) (by rw [hl, List.drop_drop, Nat.add_mul, Nat.one_mul]) _ _ hr
  split at h
  ·exact hit h.1 _ h.2
  ·exact miss _ h.2
  ·by_cases e : n = (i : Int)
   ·exact hit e _ (h.1 e)
   ·exact miss _ (h.2 e)
  ·exact h.elim
def aaW (n : Int) (w : AOp) (all : Nat) : Nat → Nat → W Nat
 | 0, _ => stopW w
 | cnt + 1, i => askW (.aa n i) fun T Q => match T with
  | .k k r => n = (k : Int) ∧ k < all ∧ Q k r
  | .b true r => n = (i : Int) ∧ Q i r
  | .b false r => n ≠ (i : Int) ∧ aaW n w all cnt (i + 1) r Q
  | .br p q => (n = (i : Int) → Q i p) ∧ (n ≠ (i : Int) → aaW n w all cnt (i + 1) q Q)
  | _ => False
theorem aaW_ok (n : Int) (w : AOp) (all : Nat) : ∀ (cnt i : Nat), i + cnt = all → SoundW (aaW n w all cnt i) (if 0 ≤ n ∧ n.toNat < all then some n.toNat else none)
 | 0, i, _ => .stop _ _
 | cnt + 1, i, hc => .ask fun T Q h => by
  have hit : ∀ (k : Nat), n = (k : Int) → k < all → ∀ r, Q k r → ∃ a T', (if 0 ≤ n ∧ n.toNat < all then some n.toNat else none) = some a ∧ Q a T' := fun k e hk r hr => ⟨k, r, by subst e; simp [hk], hr⟩
  split at h
  ·exact hit _ h.1 h.2.1 _ h.2.2
  ·exact hit _ h.1 (by omega) _ h.2
  ·exact aaW_ok n w all cnt (i + 1) (by omega) _ _ h.2
  ·by_cases e : n = (i : Int)
   ·exact hit _ e (by omega) _ (h.1 e)
   ·exact aaW_ok n w all cnt (i + 1) (by omega) _ _ (h.2 e)
  ·exact h.elim
def lowI (fr : List (Nat × AV)) : Option Operand → Option Int
 | none => some 0
 | some x => asI (evA fr x)
def highI (fr : List (Nat × AV)) (n : Nat) : Option Operand → Option Int
 | none => some (n : Int)
 | some x => asI (evA fr x)
theorem low_of {fr : List (Nat × AV)} {lo : Option Operand} {i : Int} {a : Nat} (h : lowI fr lo = some i) (ha : i = (a : Int)) : lowOf fr lo = some a := by
 cases lo with
 | none => simp only [lowI, Option.some.injEq] at h; simp only [lowOf]; congr 1; omega
 | some x => exact asI_toN h ha
theorem high_of {fr : List (Nat × AV)} {hi : Option Operand} {i : Int} {a n : Nat} (h : highI fr n hi = some i) (ha : i = (a : Int)) : highOf fr n hi = some a := by
 cases hi with
 | none => simp only [highI, Option.some.injEq] at h; simp only [highOf]; congr 1; omega
 | some x => exact asI_toN h ha
def bndW (w : AOp) (fr : List (Nat × AV)) (lo hi : Option Operand) (len : Nat) : W (Nat × Nat) := match lowI fr lo, highI fr len hi with
 | some i, some j => askW (.sl len lo hi fr) fun T Q => match T with
  | .sl a b r => i = (a : Int) ∧ j = (b : Int) ∧ a ≤ b ∧ b ≤ len ∧ Q (a, b) r
  | _ => False
 | _, _ => stopW w
theorem bndW_ok {α : Type} {w : AOp} {fr : List (Nat × AV)} {lo hi : Option Operand} {len : Nat} {f : Nat × Nat → W α} {o : Option α} (h : ∀ a b, lowOf fr lo = some a → highOf fr len hi = some b → a ≤ b → b ≤ len → SoundW (f (a, b)) o) : SoundW (bindW (bndW w fr lo hi len) f) o := fun T Q hq => by
 unfold bindW bndW at hq
 rcases h1 : lowI fr lo with _ | i
 ·rw [h1] at hq; exact hq.elim
 rcases h2 : highI fr len hi with _ | j
 ·rw [h1, h2] at hq; exact hq.elim
 rw [h1, h2] at hq
 cases T <;> simp only [askW] at hq
 case nil => exact hq.elim
 case sl a b r =>
  obtain ⟨e1, e2, e3, e4, e5⟩ := hq
  exact h a b (low_of h1 e1) (high_of h2 e2) e3 e4 _ _ e5
theorem bytesL_map (l : Bs) : bytesL (l.map u8A) = some l := by
 induction l with
 | nil => rfl
 | cons c l ih => simp only [List.map_cons, u8A, bytesL, ih]; simp
def aeqB (x y : List AV) : List (Nat × Nat) → Option Bool
 | [] => some true
 | [(o, k)] => match x[o]?, y[o]? with
  | some (.val a), some (.val b) => vEqT k a b
  | _, _ => none
 | (o, k) :: r => match x[o]?, y[o]? with
  | some (.val a), some (.val b) => (match vEqT k a b, aeqB x y r with
   | some t, some u => some (t && u)
   | _, _ => none)
  | _, _ => none
theorem aeqB_ok (x y : List AV) : ∀ (l : List (Nat × Nat)) (b : Bool), aeqB x y l = some b → aeqL x y l = some b
 | [], b, h => h
 | [(o, k)], b, h => by
  simp only [aeqB] at h
  simp only [aeqL]
  split at h
  ·rename_i u v h1 h2
   simp only [h1, h2, h]
   cases b <;> rfl
  ·cases h
 | (o, k) :: p :: r, b, h => by
  simp only [aeqB] at h
  simp only [aeqL]
  split at h
  ·rename_i u v h1 h2
   simp only [h1, h2]
   split at h
   ·rename_i t t' h3 h4
    injection h with h
    have := aeqB_ok x y (p :: r) t' h4
    simp only [aeqL] at this
    simp only [h3]
    subst h
    cases t
    ·rfl
    ·simpa using this
   ·cases h
  ·cases h
def assoc {α : Type} : List (Bs × α) → Bs → Option α
 | [], _ => none
 | (k, v) :: r, s => if s = k then some v else assoc r s
theorem find_assoc {α : Type} (f : α → AV) (s : Bs) : ∀ (a : List (Bs × α)) (i : Nat), ∃ r, findE (.string (ofL s)) (a.map fun p => (.string (ofL p.1), f p.2)) i = some r ∧ r.map (·.2) = (assoc a s).map f
 | [], i => ⟨none, rfl, rfl⟩
 | (k, v) :: a, i => by
  have hv : vEq (.string (ofL s)) (.string (ofL k)) = some (decide (s = k)) := rfl
  by_cases h : s = k
  ·exact ⟨some (i, f v), by simp only [List.map_cons, findE, hv, decide_eq_true h], by simp [assoc, h]⟩
  ·obtain ⟨r, h1, h2⟩ := find_assoc f s a (i + 1)
   exact ⟨r, by simp only [List.map_cons, findE, hv, decide_eq_false h]; exact h1, by simp only [assoc, if_neg h]; exact h2⟩
def pure2W (m : List MObj) (fr : List (Nat × AV)) (o : AOp2) : W AV := match o with
 | .mlook z ok x k => (match evA fr k, mapOf m (evA fr x) with
  | .val (.string s), some es => askW (.mp es (toL s)) fun T Q => match T with
   | .mp f a p q => es = a.map (fun x => (.string (ofL x.1), f x.2)) ∧ (∀ x, assoc a (toL s) = some x → Q (if ok then .tuple [f x, .val (.bool true)] else f x) (p x)) ∧ (assoc a (toL s) = none → Q (if ok then .tuple [z, .val (.bool false)] else z) q)
   | _ => False
  | _, _ => stopW (.x o))
 | .aeq ne n offs x y => (match evA fr x, evA fr y with
  | .agg l, .agg l' => ifW (.x o) (n ≤ l.length ∧ n ≤ l'.length) (bindW (liftW (.x o) (aeqB l l' offs)) fun t => retW (.val (.bool (if ne then !t else t))))
  | _, _ => stopW (.x o))
 | .nilchk x => (match evA fr x with
  | .elt id ver used i fo => rowW m (.x o) id fun v' _ l _ _ => ifW (.x o) (v' = ver) (askW (.len l) fun T Q => match T with
   | .w r => l.length = used ∧ Q (.elt id ver used i fo) r
   | _ => False)
  | _ => liftW (.x o) (pure2 m fr o))
 | .slc3 x h mx => (match evA fr x with
  | .slice s l => bindW (bndW (.x o) fr (some h) (some mx) l.length) fun p => retW (.slice s (l.take p.1))
  | _ => stopW (.x o))
 | o => liftW (.x o) (pure2 m fr o)
theorem pure2W_ok (m : List MObj) (fr : List (Nat × AV)) (o : AOp2) : SoundW (pure2W m fr o) (pure2 m fr o) := by
 unfold pure2W
 split
 ·rename_i z ok x k
  split
  ·rename_i s es hk hm
   refine .ask fun T Q h => ?_
   split at h
   ·rename_i f a p q
    obtain ⟨e, h1, h2⟩ := h
    obtain ⟨r, g1, g2⟩ := find_assoc f (toL s) a 0
    simp only [pure2, mlookA, hk, hm, e]
    rw [show (Value.string s) = .string (ofL (toL s)) from rfl, g1]
    cases ha : assoc a (toL s) with
    | none =>
     rw [ha] at g2
     cases r with
     | some r => simp at g2
     | none => exact ⟨_, _, rfl, h2 ha⟩
    | some v =>
     rw [ha] at g2
     cases r with
     | none => simp at g2
     | some r =>
      obtain ⟨j, y⟩ := r
      simp only [Option.map_some, Option.some.injEq] at g2
      subst g2
      exact ⟨_, _, rfl, h1 v ha⟩
   ·exact h.elim
  ·exact .stop _ _
 ·rename_i ne n offs x y
  split
  ·rename_i l l' h1 h2
   refine .ite fun hc => ?_
   simp only [pure2, h1, h2, if_pos hc]
   refine .bind' (.lift _ _) fun t ht => .ret' ?_
   rw [aeqB_ok _ _ _ _ ht]; rfl
  ·exact .stop _ _
 ·rename_i x
  split
  ·rename_i id ver used i fo hx
   refine rowW_ok fun v' s l wr ap hm => .ite fun hv => .ask fun T Q h => ?_
   split at h
   ·refine ⟨_, _, ?_, h.2⟩
    have : rowOk m id ver used = true := by simp [rowOk, hm, hv, h.1]
    simp only [pure2, hx, if_pos this]
   ·exact h.elim
  ·exact .lift _ _
 ·rename_i x h mx
  split
  ·rename_i s l hx
   refine bndW_ok fun a b h1 h2 h3 h4 => .ret' ?_
   simp only [pure2, hx, h1, h2]
   rw [if_pos ⟨h3, h4⟩]
  ·exact .stop _ _
 ·exact .lift _ _
def faddrW (m : List MObj) (w : AOp) (off : Nat) (v : AV) : W AV := match v with
  | .elt id ver used i fo => rowW m w id fun v' _ l _ _ => ifW w (v' = ver) (askW (.len l) fun T Q => match T with
      | .w r => l.length = used ∧ Q (.elt id ver used i (fo + off)) r
      | _ => False)
  | v => liftW w (faddrA m off v)
theorem faddrW_ok (m : List MObj) (w : AOp) (off : Nat) (v : AV) : SoundW (faddrW m w off v) (faddrA m off v) := by
 unfold faddrW
 split
 ·rename_i id ver used i fo
  refine rowW_ok fun v' s l wr ap hm => .ite fun hv => .ask fun T Q h => ?_
  split at h
  ·refine ⟨_, _, ?_, h.2⟩
   have : rowOk m id ver used = true := by simp [rowOk, hm, hv, h.1]
   simp only [faddrA, if_pos this]
  ·exact h.elim
 ·exact .lift _ _
theorem mkV_take {n : Nat} {ag : Bool} {l : List AV} (h : n ≤ l.length) : mkV n ag l = mkV n ag (l.take n) := by
 have h2 : (l.take n).length = n := by rw [List.length_take]; omega
 unfold mkV
 rw [h2, if_neg (Nat.not_lt.2 h), if_neg (Nat.lt_irrefl n)]
 cases ag with
 | true => simp only [if_true, List.take_take, Nat.min_self]
 | false =>
  simp only [Bool.false_eq_true, if_false]
  cases l with
  | nil => simp
  | cons x l =>
   cases n with
   | zero => simp
   | succ n => simp
structure FillEq (fr : List (Nat × AV)) (zero : List AV) (parts : List (Nat × Nat × Operand)) (l : List AV) : Prop where
 h : fillA fr zero parts = some l
def bigN : Nat → List Value → Bool
 | 0, _ => true
 | _ + 1, [] => false
 | n + 1, _ :: r => bigN n r
def pelW (m : List MObj) (w : AOp) (cnt off : Nat) (v : AV) : W AV := match v with
 | .ptr id o => if 64 ≤ cnt then retW (.pel id o off) else faddrW m w off (.ptr id o)
 | v => faddrW m w off v
theorem pelW_ok (m : List MObj) (w : AOp) (cnt off : Nat) (v : AV) : SoundW (pelW m w cnt off v) (pelA m cnt off v) := by
 unfold pelW
 split
 ·rename_i id o
  show SoundW _ (if 64 ≤ cnt then some (.pel id o off) else faddrA m off (.ptr id o))
  split
  ·exact .ret _
  ·exact faddrW_ok _ _ _ _
 ·rename_i h
  have e : pelA m cnt off v = faddrA m off v := by
   cases v <;> first | rfl | exact absurd rfl (h _ _)
  rw [e]
  exact faddrW_ok _ _ _ _
def pureW (m : List MObj) (fr : List (Nat × AV)) (o : AOp) : W AV := match o with
  | .x o => pure2W m fr o
  | .bin op x y => binW o op (evA fr x) (evA fr y)
  | .cint k x => (match evA fr x with
    | .val (.int _ n) => arW k n
    | _ => stopW o)
  | .un .neg x => (match evA fr x with
    | .val (.int .i64 n) => wrapW (0 - n)
    | _ => liftW o (pureOp m fr o))
  | .pick c a b => (match evA fr c with
    | .val (.bool t) => bindW (boolW t) fun t => retW (if t then evA fr a else evA fr b)
    | _ => stopW o)
  | .load n ag a => (match evA fr a with
    | .elt id ver used i fo => rowW m o id fun v _ l _ _ => ifW o (v = ver) (askW (.ld l i) fun T Q => match T with
        | .ix f a k r => l = a.map f ∧ l.length = used ∧ i = k ∧ k < a.length ∧ ∀ x, a[k]? = some x → liftW o (mkV n ag ((f x).cells.drop fo)) (r x) Q
        | .c v r => l.length = used ∧ l[i]? = some v ∧ liftW o (mkV n ag (v.cells.drop fo)) r Q
        | _ => False)
    | .pel id off k => (match m[id]? with
      | some (.box _ cs) => ifW o (n = 1 ∧ ag = false) (askW (.ld cs k) fun T Q => match T with
        | .ix f a k' r => (cs.drop off).take a.length = a.map f ∧ k = k' ∧ k' < a.length ∧ ∀ x, a[k']? = some x → Q (f x) (r x)
        | _ => False)
      | _ => stopW o)
    | .ptr id off => if 64 ≤ n ∧ ag = true then (match m[id]? with
      | some (.box _ cs) => askW (.len cs) fun T Q => match T with
        | .w r => off + n ≤ cs.length ∧ Q (.agg ((cs.drop off).take n)) r
        | _ => False
      | _ => stopW o) else if 64 ≤ off then (match m[id]? with
      | some (.box _ cs) => bindW (askW (.gd cs off n) fun T Q => match T with
        | .g l' r => off + n ≤ cs.length ∧ (cs.drop off).take n = l' ∧ Q l' r
        | _ => False) fun l' => liftW o (mkV n ag l')
      | _ => stopW o) else liftW o (pureOp m fr o)
    | .rptr l => askW (.rp l) fun T Q => match T with
      | .w r => liftW o (mkV n ag l) r Q
      | .ix f a k r => (n = 1 ∧ ag = false) ∧ l = (a.map f).drop k ∧ k < a.length ∧ ∀ x, a[k]? = some x → Q (f x) (r x)
      | _ => False
    | _ => liftW o (pureOp m fr o))
  | .iaddr sz x i => (match asI (evA fr i), evA fr x with
    | some n, .slice s l => ifW o (s = sz) (askW (.ix l n) fun T Q => match T with
        | .ix f a k r => l = a.map f ∧ n = (k : Int) ∧ k < a.length ∧ ∀ x, a[k]? = some x → Q (.rptr (f x).cells) (r x)
        | .c v r => 0 ≤ n ∧ l[n.toNat]? = some v ∧ Q (.rptr v.cells) r
        | _ => False)
    | some n, .row id ver used off len => rowW m o id fun v s l _ _ => ifW o (s = sz ∧ v = ver) (askW (.ra n len) fun T Q => match T with
        | .k k r => l.length = used ∧ n = (k : Int) ∧ k < len ∧ Q (.elt id ver used (off + k) 0) r
        | _ => False)
    | _, _ => stopW o)
  | .aaddr cnt sz x i => (match asI (evA fr i) with
    | some n => bindW (aaW n o cnt cnt 0) fun k => pelW m o cnt (k * sz) (evA fr x)
    | _ => stopW o)
  | .faddr off x => faddrW m o off (evA fr x)
  | .build zero parts => if bigN 64 zero = true then askW (.bd fr zero parts) fun T Q => match T with
      | .g l' r => FillEq fr (zero.map .val) parts l' ∧ Q (.agg l') r
      | _ => False
    else liftW o (pureOp m fr o)
  | .sidx x i => (match asI (evA fr i), evA fr x with
    | some n, .val (.string s) => askW (.y (toL s) n) fun T Q => match T with
        | .y k r => n = (k : Int) ∧ k < (toL s).length ∧ ∀ c, (toL s)[k]? = some c → Q (u8A c) (r c)
        | .yk k c r => n = (k : Int) ∧ (toL s)[k]? = some c ∧ Q (u8A c) r
        | _ => False
    | _, _ => stopW o)
  | .aidx cnt sz ag x i => (match asI (evA fr i), evA fr x with
    | some n, .agg l => finW n sz ag o cnt l 0
    | _, _ => stopW o)
  | .len x => (match evA fr x with
    | .slice _ l => askW (.len l) fun T Q => match T with
        | .k k r => l.length = k ∧ Q (intA k) r
        | _ => False
    | .row id ver used off len => rowW m o id fun v _ l _ _ => ifW o (v = ver) (askW (.len l) fun T Q => match T with
        | .k k r => l.length = used ∧ ((l.drop off).take len).length = k ∧ Q (intA k) r
        | _ => False)
    | _ => liftW o (pureOp m fr o))
  | .slen x => (match evA fr x with
    | .val (.string s) => retW (intA (toL s).length)
    | _ => stopW o)
  | .slc sz x lo hi => (match evA fr x with
    | .slice s l => ifW o (s = sz) (bindW (bndW o fr lo hi l.length) fun p => retW (.slice s ((l.take p.2).drop p.1)))
    | .row id ver used off len => rowW m o id fun v s l _ _ => ifW o (s = sz ∧ v = ver) (bindW (askW (.len l) fun T Q => match T with
        | .w r => l.length = used ∧ Q () r
        | _ => False) fun _ => bindW (bndW o fr lo hi len) fun p => retW (.row id ver used (off + p.1) (p.2 - p.1)))
    | .val (.slice none 0 0) => bindW (bndW o fr lo hi 0) fun p => retW (.val (.slice none 0 0))
    | _ => stopW o)
  | .sslc x lo hi => (match evA fr x with
    | .val (.string s) => bindW (bndW o fr lo hi (toL s).length) fun p => retW (strL (((toL s).take p.2).drop p.1))
    | _ => stopW o)
  | .b2s x => (match evA fr x with
    | .row id ver used off len => rowW m o id fun v _ l _ _ => ifW o (v = ver) (askW (.bs ((l.drop off).take len)) fun T Q => match T with
      | .bs s r => l.length = used ∧ bytesL ((l.drop off).take len) = some s ∧ Q (strL s) r
      | _ => False)
    | .bsl id off len => (match m[id]? with
      | some (.box bt l) => askW (.bs ((l.drop off).take len)) fun T Q => match T with
        | .bs s r => (off + len ≤ l.length ∧ ((l.drop off).take len).all AV.grCell = true) ∧ bytesL ((l.drop off).take len) = some s ∧ Q (strL s) r
        | _ => False
      | _ => stopW o)
    | v => bindW (liftW o (elems m v)) fun l => askW (.bs l) fun T Q => match T with
      | .bs s r => bytesL l = some s ∧ Q (strL s) r
      | _ => False)
  | o => liftW o (pureOp m fr o)
theorem elems_row {m : List MObj} {id ver used off len v s : Nat} {l : List AV} {wr : Bool} {ap : Nat} (hm : m[id]? = some (.row v s l wr ap)) (hv : v = ver) (hu : l.length = used) : elems m (.row id ver used off len) = some ((l.drop off).take len) := by
 simp only [elems, hm, if_pos (And.intro hv hu)]
theorem pureW_ok (m : List MObj) (fr : List (Nat × AV)) (o : AOp) : SoundW (pureW m fr o) (pureOp m fr o) := by
 unfold pureW
 split
 ·exact pure2W_ok _ _ _
 ·exact binW_ok _ _ _ _
 ·rename_i k x
  split
  ·rename_i k' n hx
   simp only [pureOp, hx]
   exact arW_ok _ _
  ·exact .stop _ _
 ·rename_i x
  split
  ·rename_i n hx
   have : pureOp m fr (.un .neg x) = some (intA (IntKind.i64.wrap (0 - n))) := by simp only [pureOp, hx]; rfl
   rw [this]
   exact wrapW_ok _
  ·exact .lift _ _
 ·rename_i c a b
  split
  ·rename_i t hc
   simp only [pureOp, hc]
   refine .bind' (boolW_ok t) fun t' ht => ?_
   cases ht
   exact .ret _
  ·exact .stop _ _
 ·rename_i n ag a
  split
  ·rename_i id ver used i fo ha
   refine rowW_ok fun v s l wr ap hm => .ite fun hv => .ask fun T Q h => ?_
   split at h
   ·rename_i f b k r
    obtain ⟨e, hu, rfl, hk, h1⟩ := h
    obtain ⟨av, T', g1, g2⟩ := SoundW.lift _ _ _ _ (h1 _ (List.getElem?_eq_getElem hk))
    refine ⟨av, T', ?_, g2⟩
    have hl : l[i]? = some (f (b[i]'hk)) := by rw [e, List.getElem?_map, List.getElem?_eq_getElem hk]; rfl
    simp only [pureOp, ha, cellsAt, hm, if_pos (And.intro hv hu), hl, Option.map_some, Option.bind_some, g1]
   ·rename_i v r
    obtain ⟨hu, hl, h1⟩ := h
    obtain ⟨av, T', g1, g2⟩ := SoundW.lift _ _ _ _ h1
    refine ⟨av, T', ?_, g2⟩
    simp only [pureOp, ha, cellsAt, hm, if_pos (And.intro hv hu), hl, Option.map_some, Option.bind_some, g1]
   ·exact h.elim
  ·rename_i id off k ha
   split
   ·rename_i bt cs hm
    refine .ite fun hn => .ask fun T Q h => ?_
    split at h
    ·rename_i f b k' r
     obtain ⟨e, rfl, hk, h1⟩ := h
     refine ⟨_, _, ?_, h1 _ (List.getElem?_eq_getElem hk)⟩
     have hl : cs[off + k]? = some (f (b[k]'hk)) := by
      have h2 : ((cs.drop off).take b.length)[k]? = some (f (b[k]'hk)) := by rw [e, List.getElem?_map, List.getElem?_eq_getElem hk]; rfl
      rw [List.getElem?_take, if_pos hk, List.getElem?_drop] at h2
      exact h2
     have hlt := (List.getElem?_eq_some_iff.1 hl).1
     have hd : cs.drop (off + k) = f (b[k]'hk) :: cs.drop (off + k + 1) := by
      rw [List.drop_eq_getElem_cons hlt, (List.getElem?_eq_some_iff.1 hl).2]
     obtain ⟨rfl, rfl⟩ := hn
     simp only [pureOp, ha, cellsAt, hm, hd, Option.bind_some, mkV, List.length_cons]
     rw [if_neg (by omega), if_neg (by decide)]
     simp
    ·exact h.elim
   ·exact .stop _ _
  ·rename_i id off ha
   split
   ·rename_i hn
    split
    ·rename_i bt cs hm
     refine .ask fun T Q h => ?_
     split at h
     ·obtain ⟨h1, h2⟩ := h
      refine ⟨_, _, ?_, h2⟩
      simp only [pureOp, ha, cellsAt, hm, Option.bind_some, mkV]
      rw [if_neg (by rw [List.length_drop]; omega), if_pos hn.2]
     ·exact h.elim
    ·exact .stop _ _
   ·split
    ·split
     ·rename_i bt cs hm
      refine .bind' (o := if off + n ≤ cs.length then some ((cs.drop off).take n) else none) (.ask fun T Q h => ?_) fun l' hl => ?_
      ·split at h
       ·obtain ⟨h1, rfl, h2⟩ := h
        exact ⟨_, _, if_pos h1, h2⟩
       ·exact h.elim
      ·split at hl
       ·rename_i h1
        cases hl
        have e : pureOp m fr (.load n ag a) = mkV n ag ((cs.drop off).take n) := by
         simp only [pureOp, ha, cellsAt, hm, Option.bind_some]
         exact mkV_take (by rw [List.length_drop]; omega)
        rw [e]
        exact .lift _ _
       ·cases hl
     ·exact .stop _ _
    ·exact .lift _ _
  ·rename_i l ha
   refine .ask fun T Q h => ?_
   split at h
   ·obtain ⟨av, T', g1, g2⟩ := SoundW.lift _ _ _ _ h
    exact ⟨av, T', by simp only [pureOp, ha, cellsAt, Option.bind_some, g1], g2⟩
   ·rename_i f b k r
    obtain ⟨⟨rfl, rfl⟩, rfl, hk, h1⟩ := h
    refine ⟨_, _, ?_, h1 _ (List.getElem?_eq_getElem hk)⟩
    have hd : (b.map f).drop k = f (b[k]'hk) :: (b.map f).drop (k + 1) := by
     rw [List.drop_eq_getElem_cons (by rw [List.length_map]; exact hk)]
     simp
    simp only [pureOp, ha, cellsAt, hd, Option.bind_some, mkV, List.length_cons]
    rw [if_neg (by omega), if_neg (by decide)]
    simp
   ·exact h.elim
  ·exact .lift _ _
 ·rename_i sz x i
  split
  ·rename_i n s l hi hx
   refine .ite fun hs => .ask fun T Q h => ?_
   split at h
   ·rename_i f a k r
    obtain ⟨e, hk, hlt, h1⟩ := h
    refine ⟨_, _, ?_, h1 _ (List.getElem?_eq_getElem hlt)⟩
    have hl : l[k]? = some (f (a[k]'hlt)) := by rw [e, List.getElem?_map, List.getElem?_eq_getElem hlt]; rfl
    simp only [pureOp, asI_toN hi hk, hx, iaddrA, hl, if_pos hs]
   ·rename_i v r
    obtain ⟨h0, hl, h1⟩ := h
    refine ⟨_, _, ?_, h1⟩
    simp only [pureOp, asI_toN hi (show n = (n.toNat : Int) from by omega), hx, iaddrA, hl, if_pos hs]
   ·exact h.elim
  ·rename_i n id ver used off len hi hx
   refine rowW_ok fun v s l wr ap hm => .ite fun hs => .ask fun T Q h => ?_
   split at h
   ·rename_i k r
    obtain ⟨hu, hk, hlt, h1⟩ := h
    refine ⟨_, _, ?_, h1⟩
    simp only [pureOp, asI_toN hi hk, hx, iaddrA, hm]
    rw [if_pos ⟨hs.2, hu, hlt, hs.1⟩]
   ·exact h.elim
  ·exact .stop _ _
 ·rename_i cnt sz x i
  split
  ·rename_i n hi
   refine .bind' (aaW_ok n _ cnt cnt 0 (Nat.zero_add _)) fun k hk => ?_
   split at hk
   ·rename_i hc
    injection hk with hk; subst hk
    have : pureOp m fr (.aaddr cnt sz x i) = pelA m cnt (n.toNat * sz) (evA fr x) := by
     simp only [pureOp, asI_toN hi (show n = (n.toNat : Int) from by omega), if_pos hc.2]
    rw [this]
    exact pelW_ok _ _ _ _ _
   ·cases hk
  ·exact .stop _ _
 ·rename_i off x
  exact faddrW_ok _ _ _ _
 ·rename_i zero parts
  split
  ·refine .ask fun T Q h => ?_
   split at h
   ·obtain ⟨⟨h1⟩, h2⟩ := h
    exact ⟨_, _, by simp only [pureOp, h1, Option.map_some], h2⟩
   ·exact h.elim
  ·exact .lift _ _
 ·rename_i x i
  split
  ·rename_i n s hi hx
   refine .ask fun T Q h => ?_
   split at h
   ·rename_i k r
    obtain ⟨hk, hlt, h1⟩ := h
    refine ⟨_, _, ?_, h1 _ (List.getElem?_eq_getElem hlt)⟩
    have hs : s[k]? = some ((toL s)[k]'hlt) := by
     have h2 : k < s.size := hlt
     rw [getElem?_pos s k h2]
     rfl
    simp only [pureOp, asI_toN hi hk, hx, sidxA, hs, Option.map_some, u8A]
   ·rename_i k c r
    obtain ⟨hk, hc, h1⟩ := h
    refine ⟨_, _, ?_, h1⟩
    obtain ⟨hlt, hc⟩ := List.getElem?_eq_some_iff.1 hc
    have hs : s[k]? = some c := by
     have h2 : k < s.size := hlt
     rw [getElem?_pos s k h2, ← hc]
     rfl
    simp only [pureOp, asI_toN hi hk, hx, sidxA, hs, Option.map_some, u8A]
   ·exact h.elim
  ·exact .stop _ _
 ·rename_i cnt sz ag x i
  split
  ·rename_i n l hi hx
   refine finW_ok n sz ag _ l _ cnt (fun k hk hlt => ?_) cnt l 0 (by omega) (by simp)
   simp only [pureOp, asI_toN hi hk, hx, if_pos hlt]
  ·exact .stop _ _
 ·rename_i x
  split
  ·rename_i s l hx
   refine .ask fun T Q h => ?_
   split at h
   ·exact ⟨_, _, by simp only [pureOp, hx, lenA, elems, Option.map_some, h.1, intA], h.2⟩
   ·exact h.elim
  ·rename_i id ver used off len hx
   refine rowW_ok fun v s l wr ap hm => .ite fun hv => .ask fun T Q h => ?_
   split at h
   ·exact ⟨_, _, by simp only [pureOp, hx, lenA, elems_row hm hv h.1, Option.map_some, h.2.1, intA], h.2.2⟩
   ·exact h.elim
  ·exact .lift _ _
 ·rename_i x
  split
  ·rename_i s hx
   exact .ret' (by simp only [pureOp, hx, slenA]; rfl)
  ·exact .stop _ _
 ·rename_i sz x lo hi
  split
  ·rename_i s l hx
   refine .ite fun hs => bndW_ok fun a b h1 h2 h3 h4 => .ret' ?_
   simp only [pureOp, hx, slcA, h1, h2]
   rw [if_pos ⟨h3, h4, hs⟩]
  ·rename_i id ver used off len hx
   refine rowW_ok fun v s l wr ap hm => .ite fun hs => .bind' (o := if l.length = used then some () else none) (.ask fun T Q h => ?_) fun _ hu => ?_
   ·split at h
    ·exact ⟨_, _, by rw [if_pos h.1], h.2⟩
    ·exact h.elim
   ·split at hu
    ·rename_i hu'
     refine bndW_ok fun a b h1 h2 h3 h4 => .ret' ?_
     simp only [pureOp, hx, slcA, hm, h1, h2]
     rw [if_pos ⟨hs.2, hu', hs.1⟩, if_pos ⟨h3, h4⟩]
    ·cases hu
  ·rename_i hx
   refine bndW_ok fun a b h1 h2 h3 h4 => .ret' ?_
   simp only [pureOp, hx, slcA, h1, h2]
   rw [if_pos ⟨h3, h4⟩]
  ·exact .stop _ _
 ·rename_i x lo hi
  split
  ·rename_i s hx
   refine bndW_ok fun a b h1 h2 h3 h4 => .ret' ?_
   have h2' : highOf fr s.size hi = some b := h2
   have h4' : b ≤ s.size := h4
   simp only [pureOp, hx, sslcA, h1, h2']
   rw [if_pos ⟨h3, h4'⟩]
   congr 3
   apply ByteArray.ext
   simp only [ofL, toL]
   rw [ByteArray.data_extract]
   apply Array.ext'
   simp [List.drop_take]
  ·exact .stop _ _
 ·rename_i x
  split
  ·rename_i id ver used off len hx
   refine rowW_ok fun v s l wr ap hm => .ite fun hv => .ask fun T Q h => ?_
   split at h
   ·obtain ⟨h1, h2, h3⟩ := h
    exact ⟨_, _, by simp only [pureOp, hx, elems_row hm hv h1, Option.bind_some, h2, Option.map_some]; rfl, h3⟩
   ·exact h.elim
  ·rename_i id off len hx
   split
   ·rename_i bt l hm
    refine .ask fun T Q h => ?_
    split at h
    ·obtain ⟨h1, h2, h3⟩ := h
     refine ⟨_, _, ?_, h3⟩
     have e : elems m (.bsl id off len) = some ((l.drop off).take len) := by
      simp only [elems, hm]
      exact if_pos h1
     simp only [pureOp, hx, e, Option.bind_some, h2, Option.map_some]; rfl
    ·exact h.elim
   ·exact .stop _ _
  ·rename_i hne
   have : pureOp m fr (.b2s x) = (elems m (evA fr x)).bind fun l => (bytesL l).map fun s => .val (.string ⟨s.toArray⟩) := rfl
   rw [this]
   refine .bind (.lift _ _) fun l _ => .ask fun T Q h => ?_
   split at h
   ·exact ⟨_, _, by rw [h.1]; rfl, h.2⟩
   ·exact h.elim
 ·exact .lift _ _
end Go.Proofs.YtienfdjfochlcaaGreatDoor
end
section
namespace Go.Proofs.YtienfdjfochlcaaGreatDoor
set_option linter.unusedVariables false
set_option linter.unusedSimpArgs false
section
variable (m : List MObj) (w : AOp)
def frzCellW : AV → W AV
  | .row id ver used off len => rowW m w id fun v s l _ _ => ifW w (v = ver) (askW (.g l off len) fun T Q => match T with
      | .g l' r => l.length = used ∧ (l.drop off).take len = l' ∧ Q (.slice s l') r
      | _ => False)
  | v => liftW w (frzCell m v)
def frzCellsW : List AV → W (List AV)
 | [] => retW []
 | v :: r => bindW (frzCellW m w v) fun a => bindW (frzCellsW r) fun b => retW (a :: b)
def frzW : AV → W AV
 | .agg l => bindW (frzCellsW m w l) fun l' => retW (.agg l')
 | v => frzCellW m w v
def frzLW : List AV → W (List AV)
 | [] => retW []
 | v :: r => bindW (frzW m w v) fun a => bindW (frzLW r) fun b => retW (a :: b)
theorem frzCellW_ok (v : AV) : SoundW (frzCellW m w v) (frzCell m v) := by
 unfold frzCellW
 split
 ·refine rowW_ok fun v s l wr ap hm => .ite fun hv => .ask fun T Q h => ?_
  split at h
  ·obtain ⟨h1, h2, h3⟩ := h
   exact ⟨_, _, by simp only [frzCell, hm]; rw [if_pos ⟨hv, h1⟩, h2], h3⟩
  ·exact h.elim
 ·exact .lift _ _
theorem frzCellsW_ok : ∀ l : List AV, SoundW (frzCellsW m w l) (frzCells m l)
 | [] => .ret _
 | v :: r => by
  have : frzCells m (v :: r) = (frzCell m v).bind fun a => (frzCells m r).bind fun b => some (a :: b) := by
   simp only [frzCells]
   cases frzCell m v <;> cases frzCells m r <;> rfl
  rw [this]
  exact (frzCellW_ok m w v).bind fun a _ => (frzCellsW_ok r).bind fun b _ => .ret _
theorem frzW_ok (v : AV) : SoundW (frzW m w v) (frz m v) := by
 unfold frzW
 split
 ·rename_i l
  have : frz m (.agg l) = (frzCells m l).bind fun l' => some (.agg l') := by simp only [frz]; cases frzCells m l <;> rfl
  rw [this]
  exact (frzCellsW_ok m w l).bind fun a _ => .ret _
 ·rename_i hne
  have : frz m v = frzCell m v := by
   unfold frz
   split
   ·exact absurd rfl (hne _)
   ·rfl
  rw [this]
  exact frzCellW_ok m w v
theorem frzLW_ok : ∀ l : List AV, SoundW (frzLW m w l) (frzL m l)
 | [] => .ret _
 | v :: r => by
  have : frzL m (v :: r) = (frz m v).bind fun a => (frzL m r).bind fun b => some (a :: b) := by
   simp only [frzL]
   cases frz m v <;> cases frzL m r <;> rfl
  rw [this]
  exact (frzW_ok m w v).bind fun a _ => (frzLW_ok r).bind fun b _ => .ret _
def elemsSW (sz : Nat) : AV → W (List AV)
  | .row id ver used off len => rowW m w id fun v s l _ _ => ifW w (s = sz ∧ v = ver) (askW (.g l off len) fun T Q => match T with
      | .g l' r => l.length = used ∧ (l.drop off).take len = l' ∧ Q l' r
      | _ => False)
  | v => liftW w (elemsS m sz v)
theorem elemsSW_ok (sz : Nat) (v : AV) : SoundW (elemsSW m w sz v) (elemsS m sz v) := by
 unfold elemsSW
 split
 ·refine rowW_ok fun v s l wr ap hm => .ite fun hs => .ask fun T Q h => ?_
  split at h
  ·obtain ⟨h1, h2, h3⟩ := h
   exact ⟨_, _, by simp only [elemsS, hm]; rw [if_pos ⟨hs.2, h1, hs.1⟩, h2], h3⟩
  ·exact h.elim
 ·exact .lift _ _
def bsElsW (fr : List (Nat × AV)) (sz : Nat) : List AV → List (Nat × Operand) → W (List AV)
 | l, [] => retW l
 | l, (i, x) :: r => bindW (frzW m w (evA fr x)) fun v => ifW w (v.cells.length = sz ∧ i < l.length) (bsElsW fr sz (l.set i v) r)
theorem bsElsW_ok (fr : List (Nat × AV)) (sz : Nat) : ∀ (ps : List (Nat × Operand)) (l : List AV), SoundW (bsElsW m w fr sz l ps) (bsEls fr m sz l ps)
 | [], l => .ret _
 | (i, x) :: r, l => by
  have : bsEls fr m sz l ((i, x) :: r) = (frz m (evA fr x)).bind fun v => if v.cells.length = sz ∧ i < l.length then bsEls fr m sz (l.set i v) r else none := by
   simp only [bsEls]
   cases frz m (evA fr x) <;> rfl
  rw [this]
  refine (frzW_ok m w _).bind fun a _ => .ite fun hc => ?_
  rw [if_pos hc]
  exact bsElsW_ok fr sz r _
end
abbrev InlW := FuncId → List AV → List MObj → W (AV × List MObj)
def InlOk (call : CallF) (inl : InlW) : Prop := ∀ f vs m, SoundW (inl f vs m) (call.m f vs m)
section
variable (call : CallF) (inl : InlW)
def callMW (f : FuncId) (vs : List AV) (m : List MObj) : W (AV × List MObj) := askW (.callM f vs m) fun T Q => match T with
 | .cm v m' r => call.m f vs m = some (v, m') ∧ Q (v, m') r
 | .inl r => inl f vs m r Q
 | _ => False
theorem callMW_ok (hi : InlOk call inl) (f : FuncId) (vs : List AV) (m : List MObj) : SoundW (callMW call inl f vs m) (call.m f vs m) := .ask fun T Q h => by
 split at h
 ·exact ⟨_, _, h.1, h.2⟩
 ·exact hi f vs m _ _ h
 ·exact h.elim
def step2W (st : St) (d : Option Nat) (o : AOp2) : W St := match o with
  | .callM f args => bindW (callMW call inl f (args.map (evA st.fr)) st.m) fun r => retW ⟨putf d r.1 st.fr, r.2⟩
  | .callV x args => (match fnOf (evA st.fr x) with
    | some (f, first, caps) => bindW (callMW call inl f (first ++ args.map (evA st.fr) ++ caps) st.m) fun r => retW ⟨putf d r.1 st.fr, r.2⟩
    | none => stopW (.x o))
  | .mset x k v => (match evA st.fr x, evA st.fr k with
    | .mp id, .val (.string k) => bindW (frzW st.m (.x o) (evA st.fr v)) fun g => (match (shutV st.m (evA st.fr v))[id]? with
      | some (.mp es) => ifW (.x o) (g.ground = true) (askW (.ms es (.string k) g) fun T Q => match T with
        | .ms es' r => setKey es (.string k) g = some es' ∧ Q ⟨putf d .any st.fr, (shutV st.m (evA st.fr v)).set id (.mp es')⟩ r
        | _ => False)
      | _ => stopW (.x o))
    | _, _ => stopW (.x o))
  | .mdel x k => (match evA st.fr x, evA st.fr k with
    | .mp id, .val (.string k) => (match st.m[id]? with
      | some (.mp es) => askW (.ms es (.string k) .any) fun T Q => match T with
        | .ms es' r => delKey es (.string k) = some es' ∧ Q ⟨putf d .any st.fr, st.m.set id (.mp es')⟩ r
        | _ => False
      | _ => stopW (.x o))
    | _, _ => stopW (.x o))
  | .cpy sz x y => (match evA st.fr x with
    | .row id ver used off len => bindW (elemsSW st.m (.x o) sz (evA st.fr y)) fun ly => (match st.m[id]? with
      | some (.row v s l true ap) => ifW (.x o) (v = ver ∧ s = sz) (askW (.n ly.length len) fun T Q => match T with
        | .k k r => l.length = used ∧ min ly.length len = k ∧ Q ⟨putf d (intA k) st.fr, st.m.set id (.row v s (setAt l off (ly.take k)) true ap)⟩ r
        | _ => False)
      | _ => stopW (.x o))
    | _ => stopW (.x o))
  | .appS ak x y => (match evA st.fr y with
    | .val (.string s) => (match evA st.fr x with
      | .val (.slice none 0 0) => askW (.app [] ((toL s).map u8A) 0) fun T Q => match T with
        | .k u r => (toL s).length = u ∧ u ≤ 140737488355328 ∧ u ≤ maxLen ∧ Q ⟨putf d (.row st.m.length 0 u 0 u) st.fr, st.m ++ [.row 0 1 ((toL s).map u8A) true ak]⟩ r
        | _ => False
      | .row id ver used off len => rowW st.m (.x o) id fun v sz l wr ap => ifW (.x o) (sz = 1 ∧ apFit ap ak = true ∧ v = ver) (askW (.app l ((toL s).map u8A) used) fun T Q => match T with
        | .k u r => l.length = used ∧ off = 0 ∧ len = used ∧ used + (toL s).length = u ∧ u ≤ 140737488355328 ∧ u ≤ maxLen ∧ Q ⟨putf d (.row id ver u 0 u) st.fr, st.m.set id (.row v sz (l ++ (toL s).map u8A) wr ap)⟩ r
        | _ => False)
      | _ => stopW (.x o))
    | _ => stopW (.x o))
  | .cpyA x y => (match evA st.fr x, evA st.fr y with
    | .bsl id off len, .val (.string s) => (match st.m[id]? with
      | some (.box bt l) => ifW (.x o) (¬ bt = BT) (askW (.st l ((toL s).map u8A) off) fun T Q => match T with
          | .g l' r => off + len ≤ l.length ∧ (toL s).length = len ∧ setAt l off ((toL s).map u8A) = l' ∧ Q ⟨putf d (intA len) st.fr, st.m.set id (.box bt l')⟩ r
          | _ => False)
      | _ => stopW (.x o))
    | _, _ => stopW (.x o))
  | .bx t n x => if 64 ≤ n then ifW (.x o) (¬ t = BT) (askW (.len (evA st.fr x).cells) fun T Q => match T with
      | .w r => ((evA st.fr x).cells.length = n ∧ (evA st.fr x).cells.all AV.isCell = true) ∧ Q ⟨putf d (.ptr st.m.length 0) st.fr, st.m ++ [.box t (evA st.fr x).cells]⟩ r
      | _ => False) else liftW (.x o) (stepOp2 call st d o)
  | .appN ak x n => (match evA st.fr x, evA st.fr n with
    | .val (.slice none 0 0), .val (.int .i64 k) => askW (.n k k) fun T Q => match T with
      | .k j r => k = (j : Int) ∧ 0 < j ∧ j ≤ 1000000000 ∧ Q ⟨putf d (.row st.m.length 0 j 0 j) st.fr, st.m ++ [.row 0 1 (List.replicate j (u8A 0)) true ak]⟩ r
      | _ => False
    | _, _ => stopW (.x o))
  | .trunc x h => (match evA st.fr x, (evA st.fr h).toN with
    | .row id ver used off len, some k => rowW st.m (.x o) id fun v s l wr ap => ifW (.x o) (wr = true ∧ v = ver) (askW (.len l) fun T Q => match T with
        | .w r => (l.length = used ∧ off = 0 ∧ k ≤ len) ∧ Q ⟨putf d (.row id (v + 1) k 0 k) st.fr, st.m.set id (.row (v + 1) s (l.take k) true ap)⟩ r
        | _ => False)
    | _, _ => liftW (.x o) (stepOp2 call st d (.trunc x h)))
  | .mkmap | .allocR _ _ _ | .storeR _ _ _ _ | .rngS _ | .nxtS _ | .torow _ _ | .bxf _ _ => liftW (.x o) (stepOp2 call st d o)
  | o => bindW (pure2W st.m st.fr o) fun v => retW ⟨putf d v st.fr, st.m⟩
theorem step2W_ok (hi : InlOk call inl) (st : St) (d : Option Nat) (o : AOp2) : SoundW (step2W call inl st d o) (stepOp2 call st d o) := by
 have pure : stepOp2 call st d o = (pure2 st.m st.fr o).map (fun v => ⟨putf d v st.fr, st.m⟩) → SoundW (bindW (pure2W st.m st.fr o) fun v => retW ⟨putf d v st.fr, st.m⟩) (stepOp2 call st d o) := by
  intro e
  have : stepOp2 call st d o = (pure2 st.m st.fr o).bind fun v => some ⟨putf d v st.fr, st.m⟩ := by rw [e]; cases pure2 st.m st.fr o <;> rfl
  rw [this]
  exact (pure2W_ok _ _ _).bind fun a _ => .ret _
 unfold step2W
 split
 ·rename_i f args
  refine .bind' (callMW_ok call inl hi _ _ _) fun r hr => .ret' ?_
  simp only [stepOp2, hr, Option.map_some]
 ·rename_i x args
  split
  ·rename_i f first caps hf
   refine .bind' (callMW_ok call inl hi _ _ _) fun r hr => .ret' ?_
   simp only [stepOp2, hf, hr, Option.map_some]
  ·exact .stop _ _
 ·rename_i x k v
  split
  ·rename_i id k hx hk
   refine .bind' (frzW_ok _ _ _) fun g hg => ?_
   split
   ·rename_i es hm
    refine .ite fun hgr => .ask fun T Q h => ?_
    split at h
    ·exact ⟨_, _, by simp only [stepOp2, hx, hk, hg, hm, if_pos hgr, h.1, Option.map_some], h.2⟩
    ·exact h.elim
   ·exact .stop _ _
  ·exact .stop _ _
 ·rename_i x k
  split
  ·rename_i id k hx hk
   split
   ·rename_i es hm
    refine .ask fun T Q h => ?_
    split at h
    ·exact ⟨_, _, by simp only [stepOp2, hx, hk, hm, h.1, Option.map_some], h.2⟩
    ·exact h.elim
   ·exact .stop _ _
  ·exact .stop _ _
 ·rename_i sz x y
  split
  ·rename_i id ver used off len hx
   refine .bind' (elemsSW_ok _ _ _ _) fun ly hly => ?_
   split
   ·rename_i v s l ap hm
    refine .ite fun hs => .ask fun T Q h => ?_
    split at h
    ·obtain ⟨h1, h2, h3⟩ := h
     exact ⟨_, _, by simp only [stepOp2, hx, hly, hm]; rw [if_pos ⟨hs.1, h1, hs.2⟩, h2]; rfl, h3⟩
    ·exact h.elim
   ·exact .stop _ _
  ·exact .stop _ _
 ·rename_i x y
  split
  ·rename_i s hy
   split
   ·rename_i hx
    refine .ask fun T Q h => ?_
    split at h
    ·obtain ⟨rfl, h2, h3, h4⟩ := h
     have h2' : s.size ≤ 140737488355328 := h2
     have h3' : s.size ≤ maxLen := h3
     exact ⟨_, _, by simp only [stepOp2, hy, hx]; rw [if_pos ⟨h2', h3'⟩]; rfl, h4⟩
    ·exact h.elim
   ·rename_i id ver used off len hx
    refine rowW_ok fun v sz l wr ap hm => .ite fun hs => .ask fun T Q h => ?_
    split at h
    ·obtain ⟨h2, h3, h4, rfl, h6, h7, h8⟩ := h
     have h6' : used + s.size ≤ 140737488355328 := h6
     have h7' : used + s.size ≤ maxLen := h7
     exact ⟨_, _, by simp only [stepOp2, hy, hx, hm]; rw [if_pos ⟨hs.2.2, h2, h3, h4, hs.1, hs.2.1, h6', h7'⟩]; rfl, h8⟩
    ·exact h.elim
   ·exact .stop _ _
  ·exact .stop _ _
 ·rename_i x y
  split
  ·rename_i id off len s hx hy
   split
   ·rename_i bt l hm
    refine .ite fun hb => .ask fun T Q h => ?_
    split at h
    ·obtain ⟨h1, h2, rfl, h3⟩ := h
     have h2' : s.size = len := h2
     refine ⟨_, _, ?_, h3⟩
     have e1 : (bcA s).take (min s.size len) = (toL s).map u8A := by
      rw [h2', Nat.min_self]
      exact List.take_of_length_le (by rw [bcA, List.length_map]; exact Nat.le_of_eq h2)
     simp only [stepOp2, hx, hy, hm]
     rw [if_pos ⟨h1, hb⟩, e1, h2', Nat.min_self]
     rfl
    ·exact h.elim
   ·exact .stop _ _
  ·exact .stop _ _
 ·rename_i t n x
  split
  ·refine .ite fun hb => .ask fun T Q h => ?_
   split at h
   ·obtain ⟨⟨h1, h2⟩, h3⟩ := h
    refine ⟨_, _, ?_, h3⟩
    simp only [stepOp2]
    rw [if_pos ⟨h1, h2, hb⟩]
   ·exact h.elim
  ·exact .lift _ _
 ·rename_i ak x n
  split
  ·rename_i k hx hn
   refine .ask fun T Q h => ?_
   split at h
   ·rename_i j r
    obtain ⟨rfl, h1, h2, h3⟩ := h
    refine ⟨_, _, ?_, h3⟩
    simp only [stepOp2, hx, hn]
    rw [if_pos ⟨by omega, by omega⟩]
    rfl
   ·exact h.elim
  ·exact .stop _ _
 ·rename_i x h
  split
  ·rename_i id ver used off len k hx hk
   refine rowW_ok fun v s l wr ap hm => .ite fun hv => .ask fun T Q h => ?_
   split at h
   ·obtain ⟨⟨h1, h2, h3⟩, h4⟩ := h
    refine ⟨_, _, ?_, h4⟩
    obtain ⟨rfl, rfl⟩ := hv
    simp only [stepOp2, hx, hk, hm]
    exact if_pos (by simp [h1, h2, h3])
   ·exact h.elim
  ·exact .lift _ _
 ·exact .lift _ _
 ·exact .lift _ _
 ·exact .lift _ _
 ·exact .lift _ _
 ·exact .lift _ _
 ·exact .lift _ _
 ·exact .lift _ _
 ·cases o <;> first | exact pure rfl | (exfalso; rename_i h1 h2 h3 h4 h5 hS h10 h6 h13 h12 h7 h8 h9 h11 h14 h15 h16; first | exact h16 _ _ rfl | exact h15 _ _ rfl | exact h13 _ _ _ rfl | exact h12 _ _ rfl | exact h14 _ rfl | exact h10 _ _ rfl | exact h11 _ rfl | exact h9 _ _ _ _ rfl | exact h8 _ _ _ rfl | exact h6 _ _ _ rfl | exact h7 rfl | exact hS _ _ _ rfl | exact h1 _ _ rfl | exact h2 _ _ rfl | exact h3 _ _ _ rfl | exact h4 _ _ rfl | exact h5 _ _ _ rfl)
def stepW (st : St) (d : Option Nat) (o : AOp) : W St := match o with
  | .x o => step2W call inl st d o
  | .store n a v => (match evA st.fr a with
    | .elt id ver used i fo => ifW o (((evA st.fr v).cells.length = n) ∧ ((evA st.fr v).cells.all AV.isCell) = true) (
      match ((evA st.fr v).cells.foldl shutCell st.m)[id]? with
      | some (.row vv s l true ap) => ifW o (vv = ver) (bindW (askW (.ld l i) fun T Q => match T with
          | .ix f a k r => l = a.map f ∧ l.length = used ∧ i = k ∧ k < a.length ∧ ∀ x, a[k]? = some x → Q (f x) (r x)
          | _ => False) fun x => bindW (frzCellsW st.m o (evA st.fr v).cells) fun gs => liftW o ((setEl x fo gs).map fun x' => ⟨putf d .any st.fr, ((evA st.fr v).cells.foldl shutCell st.m).set id (.row vv s (l.set i x') true ap)⟩))
      | _ => stopW o)
    | .pel id off k => ifW o (((evA st.fr v).cells.length = n) ∧ ((evA st.fr v).cells.all AV.isCell) = true) (match st.m[id]? with
      | some (.box bt l) => ifW o (¬ bt = BT) (askW (.len l) fun T Q => match T with
          | .w r => off + k + n ≤ l.length ∧ Q ⟨putf d .any st.fr, st.m.set id (.box bt (setAt l (off + k) (evA st.fr v).cells))⟩ r
          | _ => False)
      | _ => stopW o)
    | .ptr id off => if 64 ≤ n then (match st.m[id]? with
      | some (.box bt l) => ifW o (¬ bt = BT) (askW (.st l (evA st.fr v).cells off) fun T Q => match T with
          | .w r => (((evA st.fr v).cells.length = n ∧ (evA st.fr v).cells.all AV.isCell = true) ∧ off + n ≤ l.length) ∧ Q ⟨putf d .any st.fr, st.m.set id (.box bt (setAt l off (evA st.fr v).cells))⟩ r
          | .g l' r => (((evA st.fr v).cells.length = n ∧ (evA st.fr v).cells.all AV.isCell = true) ∧ off + n ≤ l.length) ∧ setAt l off (evA st.fr v).cells = l' ∧ Q ⟨putf d .any st.fr, st.m.set id (.box bt l')⟩ r
          | _ => False)
      | _ => stopW o) else if 64 ≤ off then ifW o (((evA st.fr v).cells.length = n) ∧ ((evA st.fr v).cells.all AV.isCell) = true) (match st.m[id]? with
      | some (.box bt l) => ifW o (¬ bt = BT) (askW (.st l (evA st.fr v).cells off) fun T Q => match T with
          | .g l' r => off + n ≤ l.length ∧ setAt l off (evA st.fr v).cells = l' ∧ Q ⟨putf d .any st.fr, st.m.set id (.box bt l')⟩ r
          | _ => False)
      | _ => stopW o) else liftW o (stepOp call st d o)
    | _ => liftW o (stepOp call st d o))
  | .app sz bytes ak x y => bindW (elemsSW st.m o sz (evA st.fr y)) fun ly => (match evA st.fr x with
    | .val (.slice none 0 0) => askW (.app [] ly 0) fun T Q => match T with
        | .k u r => ly.length = u ∧ u * bytes ≤ 140737488355328 ∧ u ≤ maxLen ∧ Q ⟨putf d (.row st.m.length 0 u 0 u) st.fr, st.m ++ [.row 0 sz ly true ak]⟩ r
        | _ => False
    | .row id ver used off len => rowW st.m o id fun v s l wr ap => ifW o (s = sz ∧ apFit ap ak = true ∧ v = ver) (askW (.app l ly used) fun T Q => match T with
        | .k u r => l.length = used ∧ off = 0 ∧ len = used ∧ used + ly.length = u ∧ u * bytes ≤ 140737488355328 ∧ u ≤ maxLen ∧ Q ⟨putf d (.row id ver u 0 u) st.fr, st.m.set id (.row v s (l ++ ly) wr ap)⟩ r
        | _ => False)
    | _ => stopW o)
  | .mks sz zero ag bytes l c => (match asI (evA st.fr l), asI (evA st.fr c) with
    | some a, some b => askW (.n a b) fun T Q => match T with
        | .k k r => a = (k : Int) ∧ b = (k : Int) ∧ k ≤ maxLen ∧ bytes * k ≤ 281474976710656 ∧ Q ⟨putf d (.row st.m.length 0 k 0 k) st.fr, st.m ++ [.row 0 sz (List.replicate k (zeroEl zero ag)) true 1]⟩ r
        | _ => False
    | _, _ => stopW o)
  | .bslice sz own zero ag cnt parts => bindW (bsElsW st.m o st.fr sz (List.replicate cnt (zeroEl zero ag)) parts) fun l => retW (if own then ⟨putf d (.row st.m.length 0 cnt 0 cnt) st.fr, (parts.foldl (fun m p => shutV m (evA st.fr p.2)) st.m) ++ [.row 0 sz l true 1]⟩ else ⟨putf d (.slice sz l) st.fr, parts.foldl (fun m p => shutV m (evA st.fr p.2)) st.m⟩)
  | .call f args => bindW (frzLW st.m o (args.map (evA st.fr))) fun vs => bindW (askW (.call f vs) fun T Q => match T with
        | .c v r => call.f f vs = some v ∧ Q v r
        | _ => False) fun r => retW ⟨putf d r st.fr, if r.flatT then st.m else (args.map (evA st.fr)).foldl shutV st.m⟩
  | .s2b x => (match evA st.fr x with
    | .val (.string s) => retW ⟨putf d (.row st.m.length 0 (toL s).length 0 (toL s).length) st.fr, st.m ++ [.row 0 1 ((toL s).map u8A) true 0]⟩
    | _ => stopW o)
  | .nilrow _ | .alloc _ _ => liftW o (stepOp call st d o)
  | o => bindW (pureW st.m st.fr o) fun v => retW ⟨putf d v st.fr, st.m⟩
theorem stepW_pure (st : St) (d : Option Nat) {o : AOp} (h : o.isEff = false) : SoundW (bindW (pureW st.m st.fr o) fun v => retW ⟨putf d v st.fr, st.m⟩) (stepOp call st d o) := by
 have : stepOp call st d o = (pureOp st.m st.fr o).bind fun v => some ⟨putf d v st.fr, st.m⟩ := by
  rw [step_pure h]; cases pureOp st.m st.fr o <;> rfl
 rw [this]
 exact (pureW_ok _ _ _).bind fun a _ => .ret _
theorem stepW_ok (hi : InlOk call inl) (st : St) (d : Option Nat) (o : AOp) : SoundW (stepW call inl st d o) (stepOp call st d o) := by
 unfold stepW
 split
 ·exact step2W_ok call inl hi st d _
 ·rename_i n a v
  split
  ·rename_i id ver used i fo ha
   refine .ite fun hc => ?_
   split
   ·rename_i vv s l ap hm
    refine .ite fun hv => .bind' (o := if vv = ver ∧ l.length = used then l[i]? else none) (.ask fun T Q h => ?_) fun x hx => ?_
    ·split at h
     ·rename_i f b k r
      obtain ⟨e, hu, rfl, hk, h1⟩ := h
      refine ⟨_, _, ?_, h1 _ (List.getElem?_eq_getElem hk)⟩
      rw [if_pos ⟨hv, hu⟩, e, List.getElem?_map, List.getElem?_eq_getElem hk]; rfl
     ·exact h.elim
    ·split at hx
     ·rename_i hv
      refine .bind' (frzCellsW_ok st.m _ _) fun gs hg => ?_
      have : stepOp call st d (.store n a v) = (setEl x fo gs).map fun x' => ⟨putf d .any st.fr, ((evA st.fr v).cells.foldl shutCell st.m).set id (.row vv s (l.set i x') true ap)⟩ := by
       simp only [stepOp, ha, if_pos hc, hm, if_pos hv, hg, hx]
      rw [this]
      exact .lift _ _
     ·cases hx
   ·exact .stop _ _
  ·rename_i id off k ha
   refine .ite fun hc => ?_
   split
   ·rename_i bt l hm
    refine .ite fun hb => .ask fun T Q h => ?_
    split at h
    ·obtain ⟨h1, h2⟩ := h
     refine ⟨_, _, ?_, h2⟩
     simp only [stepOp, ha, if_pos hc, hm]
     rw [if_pos ⟨h1, fun e => absurd e hb⟩]
    ·exact h.elim
   ·exact .stop _ _
  ·rename_i id off ha
   split
   ·split
    ·rename_i bt l hm
     refine .ite fun hb => .ask fun T Q h => ?_
     split at h
     ·obtain ⟨⟨hc, h1⟩, h2⟩ := h
      refine ⟨_, _, ?_, h2⟩
      simp only [stepOp, ha, if_pos hc, hm]
      rw [if_pos ⟨h1, fun e => absurd e hb⟩]
     ·obtain ⟨⟨hc, h1⟩, rfl, h2⟩ := h
      refine ⟨_, _, ?_, h2⟩
      simp only [stepOp, ha, if_pos hc, hm]
      rw [if_pos ⟨h1, fun e => absurd e hb⟩]
     ·exact h.elim
    ·exact .stop _ _
   ·split
    ·refine .ite fun hc => ?_
     split
     ·rename_i bt l hm
      refine .ite fun hb => .ask fun T Q h => ?_
      split at h
      ·obtain ⟨h1, rfl, h2⟩ := h
       refine ⟨_, _, ?_, h2⟩
       simp only [stepOp, ha, if_pos hc, hm]
       rw [if_pos ⟨h1, fun e => absurd e hb⟩]
      ·exact h.elim
     ·exact .stop _ _
    ·exact .lift _ _
  ·exact .lift _ _
 ·rename_i sz bytes x y
  refine .bind' (elemsSW_ok _ _ _ _) fun ly hy => ?_
  split
  ·rename_i hx
   refine .ask fun T Q h => ?_
   split at h
   ·obtain ⟨rfl, h2, h3, h4⟩ := h
    exact ⟨_, _, by simp only [stepOp, hy, hx]; rw [if_pos ⟨h2, h3⟩], h4⟩
   ·exact h.elim
  ·rename_i id ver used off len hx
   refine rowW_ok fun v s l wr ap hm => .ite fun hs => .ask fun T Q h => ?_
   split at h
   ·obtain ⟨h2, h3, h4, rfl, h6, h7, h8⟩ := h
    exact ⟨_, _, by simp only [stepOp, hy, hx, hm]; rw [if_pos ⟨hs.2.2, h2, h3, h4, hs.1, hs.2.1, h6, h7⟩], h8⟩
   ·exact h.elim
  ·exact .stop _ _
 ·rename_i sz zero ag bytes l c
  split
  ·rename_i a b hl hc
   refine .ask fun T Q h => ?_
   split at h
   ·obtain ⟨h1, h2, h3, h4, h5⟩ := h
    exact ⟨_, _, by simp only [stepOp, asI_toN hl h1, asI_toN hc h2]; rw [if_pos ⟨trivial, h3, h4⟩], h5⟩
   ·exact h.elim
  ·exact .stop _ _
 ·rename_i sz own zero ag cnt parts
  refine .bind' (bsElsW_ok _ _ _ _ _ _) fun l hl => ?_
  simp only [stepOp, hl]
  cases own <;> exact .ret _
 ·rename_i f args
  refine .bind' (frzLW_ok _ _ _) fun vs hv => .bind' (o := call.f f vs) (.ask fun T Q h => ?_) fun r hr => ?_
  ·split at h
   ·exact ⟨_, _, h.1, h.2⟩
   ·exact h.elim
  ·exact .ret' (by simp only [stepOp, hv, hr])
 ·rename_i x
  split
  ·rename_i s hx
   exact .ret' (by simp only [stepOp, hx]; rfl)
  ·exact .stop _ _
 ·exact .lift _ _
 ·exact .lift _ _
 ·cases o <;> first | exact stepW_pure call st d rfl | (rename_i h0 h1 h2 h3 h4 h5 h6 h7 h8; first | exact absurd rfl (h0 _) | exact absurd rfl (h1 _ _ _) | exact absurd rfl (h2 _ _ _ _ _) | exact absurd rfl (h3 _ _ _ _ _ _) | exact absurd rfl (h4 _ _ _ _ _ _) | exact absurd rfl (h5 _ _) | exact absurd rfl (h6 _) | exact absurd rfl (h7 _) | exact absurd rfl (h8 _ _))
def quietW (m : List MObj) (fr : List (Nat × AV)) (o : AOp) : W AV := match o with
  | .call f args => bindW (frzLW m o (args.map (evA fr))) fun vs => bindW (askW (.call f vs) fun T Q => match T with
        | .c v r => call.f f vs = some v ∧ Q v r
        | _ => False) fun r => liftW o (if r.toVal.isSome then some r else none)
  | o => pureW m fr o
def findK : List (Nat × Bool) → Nat → Option Bool
 | [], _ => none
 | (k, x) :: r, s => if k = s then some x else findK r s
def lessK (d : Option Nat) : List (Nat × Bool) → List (Nat × Bool)
 | [] => []
 | (k, x) :: r => if some k = d then lessK d r else (k, x) :: lessK d r
def KOk (fr : List (Nat × AV)) (K : List (Nat × Bool)) : Prop := ∀ s x, findK K s = some x → look fr s = .val (.bool x)
theorem lessK_find {d : Option Nat} : ∀ {K : List (Nat × Bool)} {s : Nat} {x : Bool}, findK (lessK d K) s = some x → findK K s = some x ∧ some s ≠ d
 | [], s, x, h => by simp [lessK, findK] at h
 | (k, y) :: r, s, x, h => by
  unfold lessK at h
  split at h
  ·rename_i hk
   have := lessK_find h
   refine ⟨?_, this.2⟩
   unfold findK
   rw [if_neg (fun e => this.2 (by rw [← e, hk]))]
   exact this.1
  ·rename_i hk
   unfold findK at h
   split at h
   ·rename_i hs
    subst hs
    exact ⟨by simp [findK, h], hk⟩
   ·rename_i hs
    have := lessK_find h
    exact ⟨by simp [findK, hs, this.1], this.2⟩
theorem KOk.put {fr : List (Nat × AV)} {K : List (Nat × Bool)} (h : KOk fr K) (d : Option Nat) (v : AV) : KOk (putf d v fr) (lessK d K) := by
 intro s x hs
 have := lessK_find hs
 cases d with
 | none => exact h s x this.1
 | some d =>
  have hne : ¬ d = s := fun e => this.2 (by rw [e])
  show look (setf d v fr) s = _
  rw [look_setf, if_neg hne]
  exact h s x this.1
theorem KOk.nil (fr : List (Nat × AV)) : KOk fr [] := fun s x h => by simp [findK] at h
theorem stepOp2_fr {st st' : St} {d : Option Nat} {o : AOp2} (h : stepOp2 call st d o = some st') : ∃ v, st'.fr = putf d v st.fr := by
 have pure : (pure2 st.m st.fr o).map (fun v => (⟨putf d v st.fr, st.m⟩ : St)) = some st' → ∃ v, st'.fr = putf d v st.fr := by
  intro h
  simp only [Option.map_eq_some_iff] at h
  obtain ⟨v, _, rfl⟩ := h
  exact ⟨v, rfl⟩
 cases o <;> first | exact pure h | (simp only [stepOp2, Option.map_eq_some_iff] at h; first | (obtain ⟨r, _, rfl⟩ := h; exact ⟨_, rfl⟩) | ((repeat' split at h) <;> first | (injection h with h; subst h; exact ⟨_, rfl⟩) | (simp only [Option.map_eq_some_iff] at h; obtain ⟨r, _, rfl⟩ := h; exact ⟨_, rfl⟩) | cases h))
theorem stepOp_fr {st st' : St} {d : Option Nat} {o : AOp} (h : stepOp call st d o = some st') : ∃ v, st'.fr = putf d v st.fr := by
 by_cases he : o.isEff = false
 ·rw [step_pure he] at h
  simp only [Option.map_eq_some_iff] at h
  obtain ⟨v, _, rfl⟩ := h
  exact ⟨v, rfl⟩
 ·cases o <;> first | exact absurd rfl he | exact stepOp2_fr call h | (simp only [stepOp] at h; repeat' split at h) <;> first | cases h; exact ⟨_, rfl⟩ | (simp only [Option.map_eq_some_iff] at h; obtain ⟨v, _, rfl⟩ := h; exact ⟨_, rfl⟩) | cases h
def newK (fr : List (Nat × AV)) (K : List (Nat × Bool)) : Option (Nat × Bool) → List (Nat × Bool)
 | none => K
 | some (s, _) => match findK K s with
  | some _ => K
  | none => match look fr s with
   | .val (.bool c) => (s, c) :: K
   | _ => K
def guardW (fr : List (Nat × AV)) (w : AOp) (K : List (Nat × Bool)) : Option (Nat × Bool) → W (Bool × List (Nat × Bool))
 | none => retW (true, K)
 | some (s, b) => match findK K s with
  | some x => retW (x == b, K)
  | none => match look fr s with
   | .val (.bool c) => bindW (boolW c) fun x => retW (x == b, (s, x) :: K)
   | .val (.tuple _) => retW (false, K)
   | _ => stopW w
theorem guardW_ok {fr : List (Nat × AV)} {K : List (Nat × Bool)} (hK : KOk fr K) (w : AOp) (g : Option (Nat × Bool)) : SoundW (guardW fr w K g) ((wantedA fr g).map fun b => (b, newK fr K g)) := by
 unfold guardW wantedA
 split
 ·exact .ret _
 ·rename_i s b
  split
  ·rename_i x hx
   simp only [hK s x hx, hx, newK, Option.map_some]
   exact .ret _
  ·rename_i hn
   split
   ·rename_i c hc
    refine .bind' (boolW_ok _) fun x hx => ?_
    cases hx
    simp only [hc, hn, newK, Option.map_some]
    exact .ret _
   ·rename_i l hc
    simp only [hc, hn, newK, Option.map_some]
    exact .ret _
   ·exact .stop _ _
theorem guardK_ok {fr : List (Nat × AV)} {K : List (Nat × Bool)} (hK : KOk fr K) (g : Option (Nat × Bool)) : KOk fr (newK fr K g) := by
 cases g with
 | none => exact hK
 | some p =>
  obtain ⟨s, b⟩ := p
  simp only [newK]
  split
  ·exact hK
  ·split
   ·rename_i c hc
    intro s' x hs
    unfold findK at hs
    split at hs
    ·rename_i e
     subst e
     cases hs
     exact hc
    ·exact hK _ _ hs
   ·exact hK
def knownOp (K : List (Nat × Bool)) : AOp → AOp
 | .pick (.tmp s) a b => (match findK K s with
  | some x => .mov (if x then a else b)
  | none => .pick (.tmp s) a b)
 | o => o
theorem knownOp_pure {fr : List (Nat × AV)} {K : List (Nat × Bool)} (hK : KOk fr K) (m : List MObj) (s : Nat) (a b : Operand) {x : Bool} (hx : findK K s = some x) : pureOp m fr (.pick (.tmp s) a b) = pureOp m fr (.mov (if x then a else b)) := by
 simp only [pureOp, evA, hK s x hx]
 cases x <;> rfl
theorem knownOp_step {st : St} {K : List (Nat × Bool)} (hK : KOk st.fr K) (d : Option Nat) (o : AOp) : stepOp call st d (knownOp K o) = stepOp call st d o := by
 unfold knownOp
 split
 ·rename_i s a b
  split
  ·rename_i x hx
   rw [step_pure rfl, step_pure rfl, knownOp_pure hK st.m s a b hx]
  ·rfl
 ·rfl
def opsW : List AOper → List (Nat × Bool) → St → W St
 | [], _, st => retW st
 | o :: r, K, st => bindW (guardW st.fr o.op K o.guard) fun w => if w.1 then bindW (stepW call inl st o.dst (knownOp w.2 o.op)) fun st' => opsW r (lessK o.dst w.2) st' else opsW r (lessK o.dst w.2) ⟨putf o.dst (.val undef) st.fr, st.m⟩
theorem opsW_ok (hi : InlOk call inl) : ∀ (l : List AOper) (K : List (Nat × Bool)) (st : St), KOk st.fr K → SoundW (opsW call inl l K st) (runOps call l st)
 | [], K, st, _ => .ret _
 | o :: r, K, st, hK => by
  unfold opsW runOps
  refine .bind' (guardW_ok hK _ _) fun w hw => ?_
  simp only [Option.map_eq_some_iff] at hw
  obtain ⟨b, hw, rfl⟩ := hw
  have hK' := guardK_ok hK o.guard
  rw [hw]
  cases b with
  | true =>
   simp only [if_true]
   refine .bind' (stepW_ok call inl hi _ _ _) fun st' hs => ?_
   rw [knownOp_step call hK'] at hs
   obtain ⟨v, hv⟩ := stepOp_fr call hs
   rw [hs]
   exact opsW_ok hi r _ st' (hv ▸ hK'.put _ v)
  | false => exact opsW_ok hi r _ _ (hK'.put _ _)
def extW (m : List MObj) (fr : List (Nat × AV)) (o : AOp) : W AV := match o with
  | .call f args => ifW o ((args.map (evA fr)).all AV.noRow = true) (bindW (frzLW m o (args.map (evA fr))) fun vs => askW (.call f vs) fun T Q => match T with
        | .c v r => call.f f vs = some v ∧ Q v r
        | _ => False)
  | .bslice sz false zero ag cnt parts => ifW o (parts.all (fun p => (evA fr p.2).noRow) = true) (bindW (bsElsW m o fr sz (List.replicate cnt (zeroEl zero ag)) parts) fun l => retW (.slice sz l))
  | .x (.bxf n x) => askW (.len (evA fr x).cells) fun T Q => match T with
      | .w r => ((evA fr x).cells.length = n ∧ (evA fr x).cells.all AV.grCell = true) ∧ Q (.rptr (evA fr x).cells) r
      | _ => False
  | .x o2 => pureW m fr (.x o2)
  | o => if o.isEff then stopW o else pureW m fr o
theorem extW_ok (m : List MObj) (fr : List (Nat × AV)) (o : AOp) : SoundW (extW call m fr o) (extOp call m fr o) := by
 unfold extW
 split
 ·rename_i f args
  refine .ite fun hc => ?_
  simp only [extOp]
  rw [if_pos hc]
  refine .bind (frzLW_ok _ _ _) fun vs hv => .ask fun T Q h => ?_
  split at h
  ·exact ⟨_, _, h.1, h.2⟩
  ·exact h.elim
 ·rename_i sz zero ag cnt parts
  refine .ite fun hc => ?_
  simp only [extOp]
  rw [if_pos hc]
  refine .bind' (bsElsW_ok _ _ _ _ _ _) fun l hl => ?_
  rw [hl]; exact .ret _
 ·rename_i n x
  refine .ask fun T Q h => ?_
  split at h
  ·exact ⟨_, _, by show bxfV fr n x = _; unfold bxfV; rw [if_pos h.1], h.2⟩
  ·exact h.elim
 ·rename_i o2 hno
  have e : extOp call m fr (.x o2) = pureOp m fr (.x o2) := by
   cases o2 <;> first | rfl | exact absurd rfl (hno _ _)
  rw [e]; exact pureW_ok _ _ _
 ·rename_i h1 h2 h0 h3
  split
  ·exact .stop _ _
  ·rename_i he
   have : extOp call m fr o = pureOp m fr o := by
    cases o with
    | call f args => exact absurd rfl (h1 _ _)
    | bslice sz own z ag c p => cases own <;> first | exact absurd rfl (h2 _ _ _ _ _) | exact absurd rfl he
    | x o2 => exact absurd rfl (h3 _)
    | _ => first | rfl | exact absurd rfl he
   rw [this]
   exact pureW_ok _ _ _
theorem look_keepF (fr : List (Nat × AV)) (s : Nat) : ∀ {ks : List Nat}, s ∈ ks → look (keepF fr ks) s = look fr s
 | [], h => by cases h
 | k :: r, h => by
  simp only [keepF, look]
  split
  ·rename_i e; rw [e]
  ·rename_i e
   rcases List.mem_cons.1 h with h | h
   ·exact absurd h.symm e
   ·exact look_keepF fr s h
theorem knownOp_ext {fr : List (Nat × AV)} {K : List (Nat × Bool)} (hK : KOk fr K) (m : List MObj) (o : AOp) {ks : List Nat} (hu : ∀ s ∈ o.uses, s ∈ ks) : extOp call m (keepF fr ks) (knownOp K o) = extOp call m (keepF fr ks) o := by
 unfold knownOp
 split
 ·rename_i s a b
  split
  ·rename_i x hx
   have h1 : look (keepF fr ks) s = .val (.bool x) := by rw [look_keepF fr s (hu s (by simp [AOp.uses, opsT, opT]))]; exact hK s x hx
   simp only [extOp, AOp.isEff, pureOp, evA, h1]
   cases x <;> rfl
  ·rfl
 ·rfl
def extsW (m : List MObj) : List AOper → List (Nat × Bool) → List (Nat × AV) → W (List (Nat × AV))
 | [], _, fr => retW fr
 | o :: r, K, fr => bindW (guardW fr o.op K o.guard) fun w => if w.1 then bindW (extW call m (keepF fr o.uses) (knownOp w.2 o.op)) fun v => extsW m r (lessK o.dst w.2) (putf o.dst v fr) else extsW m r (lessK o.dst w.2) (putf o.dst (.val undef) fr)
theorem wanted_keep (fr : List (Nat × AV)) (o : AOper) : wantedA (keepF fr o.uses) o.guard = wantedA fr o.guard := by
 cases hg : o.guard with
 | none => rfl
 | some p =>
  obtain ⟨s, b⟩ := p
  simp only [wantedA]
  rw [look_keepF fr s (by simp [AOper.uses, hg])]
theorem extsW_ok (m : List MObj) : ∀ (l : List AOper) (K : List (Nat × Bool)) (fr : List (Nat × AV)), KOk fr K → SoundW (extsW call m l K fr) (runX call m l fr)
 | [], K, fr, _ => .ret _
 | o :: r, K, fr, hK => by
  unfold extsW runX
  refine .bind' (guardW_ok hK _ _) fun w hw => ?_
  simp only [Option.map_eq_some_iff] at hw
  obtain ⟨b, hw, rfl⟩ := hw
  have hK' := guardK_ok hK o.guard
  rw [oneX, wanted_keep, hw]
  cases b with
  | true =>
   simp only [if_true]
   refine .bind' (extW_ok call m _ _) fun v hs => ?_
   rw [knownOp_ext call hK' m o.op (ks := o.uses) (fun s hs => by unfold AOper.uses; exact List.mem_append_right _ hs)] at hs
   rw [hs]
   exact extsW_ok m r _ _ (hK'.put _ _)
  | false => exact extsW_ok m r _ _ (hK'.put _ _)
end
end Go.Proofs.YtienfdjfochlcaaGreatDoor
end
section
namespace Go.Proofs.YtienfdjfochlcaaGreatDoor
set_option linter.unusedVariables false
set_option linter.unusedSimpArgs false
def eqVal : Value → Value → Prop
 | .int k n, .int k' n' => if k = k' then n = n' else False
 | .bool a, .bool b => a = b
 | .string a, .string b => toL a = toL b
 | a, b => a = b
def eqCell : AV → AV → Prop
 | .val a, .val b => eqVal a b
 | .slice s l, .slice s' l' => if s = s' then l = l' else False
 | .row id ver used off len, .row id' ver' used' off' len' => if id = id' ∧ ver = ver' then used = used' ∧ off = off' ∧ len = len' else False
 | .ptr id off, .ptr id' off' => if id = id' ∧ off = off' then True else False
 | .any, .any => True
 | a, b => a = b
def eqCells : List AV → List AV → Prop
 | [], [] => True
 | [x], [y] => eqCell x y
 | x :: l, y :: l' => eqCell x y ∧ eqCells l l'
 | _, _ => False
def eqAV : AV → AV → Prop
 | .agg l, .agg l' => eqCells l l'
 | a, b => eqCell a b
def eqAVs : List AV → List AV → Prop
 | [], [] => True
 | [x], [y] => eqAV x y
 | x :: l, y :: l' => eqAV x y ∧ eqAVs l l'
 | _, _ => False
def eqR : AV → AV → Prop
 | .tuple l, .tuple l' => eqAVs l l'
 | a, b => eqAV a b
def eqFr : List (Nat × AV) → List (Nat × AV) → Prop
 | [], [] => True
 | (k, x) :: l, (k', y) :: l' => if k = k' then eqAV x y ∧ eqFr l l' else False
 | _, _ => False
def eqObj : MObj → MObj → Prop
 | .box t l, .box t' l' => if t = t' then (if bigTy t = true then l = l' else eqCells l l') else False
 | .row v s l wr ap, .row v' s' l' wr' ap' => if v = v' ∧ s = s' ∧ wr = wr' ∧ ap = ap' then l = l' else False
 | .mp es, .mp es' => es = es'
 | a, b => a = b
def eqMem : List MObj → List MObj → Prop
 | [], [] => True
 | [x], [y] => eqObj x y
 | x :: l, y :: l' => eqObj x y ∧ eqMem l l'
 | _, _ => False
def eqSt (a b : St) : Prop := eqFr a.fr b.fr ∧ eqMem a.m b.m
theorem eqVal_eq {a b : Value} (h : eqVal a b) : a = b := by
 unfold eqVal at h
 split at h
 ·split at h
  ·rename_i hk; rw [hk, h]
  ·exact h.elim
 ·rw [h]
 ·rename_i s t
  rw [← ofL_toL s, ← ofL_toL t, h]
 ·exact h
theorem eqCell_eq {a b : AV} (h : eqCell a b) : a = b := by
 unfold eqCell at h
 split at h
 ·rw [eqVal_eq h]
 ·split at h
  ·rename_i hk; rw [hk, h]
  ·exact h.elim
 ·split at h
  ·rename_i hk; rw [hk.1, hk.2, h.1, h.2.1, h.2.2]
  ·exact h.elim
 ·split at h
  ·rename_i hk; rw [hk.1, hk.2]
  ·exact h.elim
 ·rfl
 ·exact h
theorem eqCells_eq : ∀ {a b : List AV}, eqCells a b → a = b
 | [], [], _ => rfl
 | [x], [y], h => by rw [eqCell_eq h]
 | [x], y :: z :: l, h => by simp only [eqCells] at h; exact h.2.elim
 | x :: z :: l, [y], h => by simp only [eqCells] at h; exact h.2.elim
 | x :: u :: l, y :: v :: l', h => by
  simp only [eqCells] at h
  rw [eqCell_eq h.1, eqCells_eq (a := u :: l) (b := v :: l') h.2]
 | [], _ :: _, h => by simp only [eqCells] at h
 | _ :: _, [], h => by simp only [eqCells] at h
theorem eqAV_eq {a b : AV} (h : eqAV a b) : a = b := by
 unfold eqAV at h
 split at h
 ·rw [eqCells_eq h]
 ·exact eqCell_eq h
theorem eqAVs_eq : ∀ {a b : List AV}, eqAVs a b → a = b
 | [], [], _ => rfl
 | [x], [y], h => by rw [eqAV_eq h]
 | [x], y :: z :: l, h => by simp only [eqAVs] at h; exact h.2.elim
 | x :: z :: l, [y], h => by simp only [eqAVs] at h; exact h.2.elim
 | x :: u :: l, y :: v :: l', h => by
  simp only [eqAVs] at h
  rw [eqAV_eq h.1, eqAVs_eq (a := u :: l) (b := v :: l') h.2]
 | [], _ :: _, h => by simp only [eqAVs] at h
 | _ :: _, [], h => by simp only [eqAVs] at h
theorem eqR_eq {a b : AV} (h : eqR a b) : a = b := by
 unfold eqR at h
 split at h
 ·rw [eqAVs_eq h]
 ·exact eqAV_eq h
theorem eqFr_eq : ∀ {a b : List (Nat × AV)}, eqFr a b → a = b
 | [], [], _ => rfl
 | (k, x) :: l, (k', y) :: l', h => by
  simp only [eqFr] at h
  split at h
  ·rename_i hk; rw [hk, eqAV_eq h.1, eqFr_eq h.2]
  ·exact h.elim
 | [], _ :: _, h => by simp only [eqFr] at h
 | _ :: _, [], h => by simp only [eqFr] at h
theorem eqObj_eq {a b : MObj} (h : eqObj a b) : a = b := by
 unfold eqObj at h
 split at h
 ·split at h
  ·rename_i hk
   split at h
   ·rw [hk, h]
   ·rw [hk, eqCells_eq h]
  ·exact h.elim
 ·split at h
  ·rename_i hk; rw [hk.1, hk.2.1, hk.2.2.1, hk.2.2.2, h]
  ·exact h.elim
 ·rw [h]
 ·exact h
theorem eqMem_eq : ∀ {a b : List MObj}, eqMem a b → a = b
 | [], [], _ => rfl
 | [x], [y], h => by rw [eqObj_eq h]
 | [x], y :: z :: l, h => by simp only [eqMem] at h; exact h.2.elim
 | x :: z :: l, [y], h => by simp only [eqMem] at h; exact h.2.elim
 | x :: u :: l, y :: v :: l', h => by
  simp only [eqMem] at h
  rw [eqObj_eq h.1, eqMem_eq (a := u :: l) (b := v :: l') h.2]
 | [], _ :: _, h => by simp only [eqMem] at h
 | _ :: _, [], h => by simp only [eqMem] at h
theorem eqSt_eq {a b : St} (h : eqSt a b) : a = b := by
 cases a; cases b
 simp only [eqSt] at h
 rw [eqFr_eq h.1, eqMem_eq h.2]
def andW {α : Type} (p : Prop) (x : W α) : W α := fun T Q => p ∧ x T Q
def stepCW (call : CallF) (inl : InlW) (o : AOper) (st : St) : W St := bindW (opsW call inl [o] [] ⟨keepF st.fr o.uses, st.m⟩) fun st' => retW ⟨putf o.dst (lookD o.dst st'.fr) st.fr, st'.m⟩
def chainW (call : CallF) (inl : InlW) (free : List AOper) (fr0 fr1 : List (Nat × AV)) : List AOper → St → W St
 | [], st => retW st
 | o :: r, st => bindW (stepCW call inl o st) fun st' => match r with
  | [] => retW st'
  | _ :: _ => bindW (extsW call st'.m free [] fr0) fun fr2 => andW (eqFr fr2 fr1) (chainW call inl free fr0 fr1 r st')
theorem stepCW_ok {call : CallF} {inl : InlW} (hi : InlOk call inl) (o : AOper) (st : St) : SoundW (stepCW call inl o st) (stepC call o st) := by
 unfold stepCW stepC
 refine .bind' (opsW_ok _ _ hi _ _ _ (KOk.nil _)) fun st' h => ?_
 rw [h]
 exact .ret _
theorem chainW_ok {call : CallF} {inl : InlW} (hi : InlOk call inl) {free : List AOper} {fr0 fr1 : List (Nat × AV)} : ∀ (l : List AOper) (st : St), SoundW (chainW call inl free fr0 fr1 l st) (runC call free fr0 fr1 l st)
 | [], st => .ret _
 | [o], st => by
  unfold chainW runC
  refine .bind' (stepCW_ok hi o st) fun st' h => ?_
  rw [h]
  exact .ret _
 | o :: o2 :: r, st => by
  unfold chainW runC
  refine .bind' (stepCW_ok hi o st) fun st' h => ?_
  rw [h]
  refine .bind' (extsW_ok _ _ _ _ _ (KOk.nil _)) fun fr2 h2 => ?_
  simp only [h2]
  intro T Q hq
  obtain ⟨q1, q2⟩ := hq
  simp only [eqFB_of (eqFr_eq q1)]
  exact chainW_ok hi (o2 :: r) st' T Q q2
section
variable (call : CallF) (inl : InlW) (loop : LoopF) (b : Nat)
def roundW {ι : Type} (S : ι → St) (I : ι → Prop) (μ : ι → Nat) (keep : List Nat) (i : ι) (Q : AExit × St → Tr → Prop) : AExit × St → Tr → Prop
 | (.normal, st'), _ => ∃ j, eqSt (normSt b keep st') (S j) ∧ I j ∧ μ j < μ i
 | (.exit k, st'), T => Q (.exit k, st') T
 | (.ret, st'), T => Q (.ret, st') T
def joinW (keep : List Nat) (Q : AExit × St → Tr → Prop) : AExit × St → Tr → Prop
 | (.normal, st'), T => Q (.normal, normSt b keep st') T
 | (.exit k, st'), T => Q (.exit k, st') T
 | (.ret, st'), T => Q (.ret, st') T
def cutW {ι : Type} (S : ι → St) (I : ι → Prop) (keep : List Nat) (Q : AExit × St → Tr → Prop) : AExit × St → Tr → Prop
 | (.normal, st'), _ => ∃ j, eqSt (normSt b keep st') (S j) ∧ I j
 | (.exit k, st'), T => Q (.exit k, st') T
 | (.ret, st'), T => Q (.ret, st') T
def unW (body : St → W (AExit × St)) (keep : List Nat) (Q : AExit × St → Tr → Prop) : Nat → St → Tr → Prop
 | 0, _, _ => False
 | n + 1, st, T => body (normSt b keep st) T fun r T' => match r with
  | (.normal, st') => unW body keep Q n st' T'
  | (.exit k, st') => Q (.exit k, st') T'
  | (.ret, st') => Q (.ret, st') T'
def codeW : ACode → St → W (AExit × St)
 | .skip, st => retW (.normal, st)
 | .region ops ds, st => bindW (opsW call inl ops [] st) fun st' => retW (.normal, ⟨dropF ds st'.fr, st'.m⟩)
 | .dregion ops tail ds, st => bindW (extsW call st.m ops [] st.fr) fun fr => bindW (opsW call inl tail [] ⟨fr, st.m⟩) fun st' => retW (.normal, ⟨dropF ds st'.fr, st'.m⟩)
 | .cregion free chain ds, st => bindW (extsW call st.m free [] st.fr) fun fr1 => bindW (chainW call inl free st.fr fr1 chain ⟨fr1, st.m⟩) fun st' => retW (.normal, ⟨dropF ds st'.fr, st'.m⟩)
 | .seq x y, st => bindW (codeW x st) fun r => match r with
  | (.normal, st') => codeW y st'
  | r => retW r
 | .cond c x y, st => match evA st.fr c with
  | .val (.bool t) => bindW (boolW t) fun t => if t then codeW x st else codeW y st
  | _ => stopW (.mov c)
 | .block id c, st => bindW (codeW c st) fun r => match r with
  | (.exit i, st') => retW (if i = id then (.normal, st') else (.exit i, st'))
  | r => retW r
 | .loop c k, st => askW (.loop c k (normSt b k st)) fun T Q => match T with
  | .lp ex st' r => loop c k st = some (ex, st') ∧ Q (ex, st') r
  | .un n r => unW b (codeW c) k Q n st r
  | .inv S I μ r => (∃ i, eqSt (normSt b k st) (S i) ∧ I i) ∧ ∀ i, I i → codeW c (S i) (r i) (roundW b S I μ k i Q)
  | _ => False
 | .join c k, st => askW (.join k st) fun T Q => match T with
  | .w r => codeW c st r (joinW b k Q)
  | .cut S I r r' => codeW c st r (cutW b S I k Q) ∧ ∀ i, I i → Q (.normal, S i) (r' i)
  | _ => False
 | .exit id, st => retW (.exit id, st)
 | .ret, st => retW (.ret, st)
end
section
variable {F : FuncId → Option AFunc} {X : CallF}
theorem loop_inv {b : Nat} {inl : InlW} {c : ACode} {keep : List Nat} {ι : Type} {S : ι → St} {I : ι → Prop} {μ : ι → Nat} {r : ι → Tr} {Q : AExit × St → Tr → Prop} (hc : ∀ st, SoundW (codeW (R F X) inl (Lp F X b) b c st) (aexec (R F X) b (Lp F X b) c st))
    (h : ∀ i, I i → codeW (R F X) inl (Lp F X b) b c (S i) (r i) (roundW b S I μ keep i Q)) : ∀ (n : Nat) (i : ι) (st : St), μ i < n → I i → normSt b keep st = S i → ∃ x T', Lp F X b c keep st = some x ∧ Q x T' := by
  intro n
  induction n with
  | zero => intro i st hn; omega
  | succ n ih =>
    intro i st hn hi hst
    obtain ⟨⟨ex, st'⟩, T', h1, h2⟩ := hc _ _ _ (h i hi)
    rw [← hst] at h1
    cases ex with
    | normal =>
      obtain ⟨j, e, hj, hlt⟩ := h2
      obtain ⟨x, T'', g1, g2⟩ := ih j st' (by omega) hj (eqSt_eq e)
      exact ⟨x, T'', Lp_step h1 g1, g2⟩
    | exit k => exact ⟨_, T', Lp_exit h1, h2⟩
    | ret => exact ⟨_, T', Lp_ret h1, h2⟩
theorem unW_ok {b : Nat} {c : ACode} {keep : List Nat} {body : St → W (AExit × St)} {Q : AExit × St → Tr → Prop} (hc : ∀ st, SoundW (body st) (aexec (R F X) b (Lp F X b) c st)) : ∀ (n : Nat) (st : St) (T : Tr), unW b body keep Q n st T → ∃ x T', Lp F X b c keep st = some x ∧ Q x T'
 | 0, _, _, h => h.elim
 | n + 1, st, T, h => by
  obtain ⟨⟨ex, st'⟩, T', h1, h2⟩ := hc _ _ _ h
  cases ex with
  | normal =>
   obtain ⟨x, T'', g1, g2⟩ := unW_ok hc n st' T' h2
   exact ⟨x, T'', Lp_step h1 g1, g2⟩
  | exit k => exact ⟨_, T', Lp_exit h1, h2⟩
  | ret => exact ⟨_, T', Lp_ret h1, h2⟩
theorem codeW_ok {inl : InlW} (hi : InlOk (R F X) inl) (b : Nat) : ∀ (c : ACode) (st : St), SoundW (codeW (R F X) inl (Lp F X b) b c st) (aexec (R F X) b (Lp F X b) c st)
 | .skip, st => .ret _
 | .region ops ds, st => by
  unfold codeW aexec
  refine .bind' (opsW_ok _ _ hi _ _ _ (KOk.nil _)) fun st' h => ?_
  rw [h]
  exact .ret _
 | .dregion ops tail ds, st => by
  unfold codeW aexec
  refine .bind' (extsW_ok _ _ _ _ _ (KOk.nil _)) fun fr h => ?_
  rw [h]
  refine .bind' (opsW_ok _ _ hi _ _ _ (KOk.nil _)) fun st' h' => ?_
  simp only [h']
  exact .ret _
 | .cregion free chain ds, st => by
  unfold codeW aexec
  refine .bind' (extsW_ok _ _ _ _ _ (KOk.nil _)) fun fr1 h => ?_
  rw [h]
  refine .bind' (chainW_ok hi _ _) fun st' h' => ?_
  simp only [h']
  exact .ret _
 | .seq x y, st => by
  unfold codeW aexec
  refine .bind' (codeW_ok hi b x st) fun r h => ?_
  rw [h]
  obtain ⟨ex, st'⟩ := r
  cases ex with
  | normal => exact codeW_ok hi b y st'
  | exit i => exact .ret _
  | ret => exact .ret _
 | .cond c x y, st => by
  unfold codeW aexec
  split
  ·rename_i t hc
   refine .bind' (boolW_ok _) fun t' ht => ?_
   cases ht
   rw [hc]
   cases t with
   | true => exact codeW_ok hi b x st
   | false => exact codeW_ok hi b y st
  ·exact .stop _ _
 | .block id c, st => by
  unfold codeW aexec
  refine .bind' (codeW_ok hi b c st) fun r h => ?_
  rw [h]
  obtain ⟨ex, st'⟩ := r
  cases ex with
  | normal => exact .ret _
  | exit i =>
   simp only
   split <;> exact .ret _
  | ret => exact .ret _
 | .loop c k, st => by
  unfold codeW aexec
  refine .ask fun T Q h => ?_
  split at h
  ·exact ⟨_, _, h.1, h.2⟩
  ·exact unW_ok (codeW_ok hi b c) _ _ _ h
  ·rename_i S I μ r
   obtain ⟨⟨i, e, hI⟩, h2⟩ := h
   exact loop_inv (codeW_ok hi b c) h2 (μ i + 1) i st (Nat.lt_succ_self _) hI (eqSt_eq e)
  ·exact h.elim
 | .join c k, st => by
  unfold codeW aexec
  refine .ask fun T Q h => ?_
  split at h
  ·obtain ⟨⟨ex, st'⟩, T', h1, h2⟩ := codeW_ok hi b c st _ _ h
   rw [h1]
   cases ex <;> exact ⟨_, T', rfl, h2⟩
  ·rename_i S I r r'
   obtain ⟨⟨ex, st'⟩, T', h1, h2⟩ := codeW_ok hi b c st _ _ h.1
   rw [h1]
   cases ex with
   | normal =>
    obtain ⟨j, e, hj⟩ := h2
    refine ⟨_, _, ?_, h.2 j hj⟩
    simp only [eqSt_eq e]
   | exit i => exact ⟨_, T', rfl, h2⟩
   | ret => exact ⟨_, T', rfl, h2⟩
  ·exact h.elim
 | .exit id, st => .ret _
 | .ret, st => .ret _
end
def resW0 (st : St) : ARes → W AV
 | .tmp t _ => frzW st.m (.mov (.tmp t)) (look st.fr t)
 | .cell t n ag _ => if 64 ≤ n ∧ ag = true then (match look st.fr t with
  | .ptr id off => (match st.m[id]? with
   | some (.box _ cs) => askW (.len cs) fun T Q => match T with
    | .w r => (off + n ≤ cs.length ∧ ((cs.drop off).take n).all AV.grCell = true) ∧ Q (.agg ((cs.drop off).take n)) r
    | _ => False
   | _ => stopW (.mov (.tmp t)))
  | _ => stopW (.mov (.tmp t))) else bindW (liftW (.mov (.tmp t)) ((cellsAt st.m (look st.fr t)).bind (mkV n ag))) fun v => frzW st.m (.mov (.tmp t)) v
theorem frzCells_gr (m : List MObj) : ∀ l : List AV, l.all AV.grCell = true → frzCells m l = some l
 | [], _ => rfl
 | v :: r, h => by
  rw [List.all_cons, Bool.and_eq_true] at h
  have hv : frzCell m v = some v := by
   unfold frzCell
   split
   ·exact absurd h.1 (by simp [AV.grCell])
   ·rw [if_pos h.1]
  simp only [frzCells, hv, frzCells_gr m r h.2]
def ARes.offs : ARes → List (Nat × Nat)
 | .tmp _ o => o
 | .cell _ _ _ o => o
def resW (st : St) (x : ARes) : W AV := bindW (resW0 st x) fun v => retW (nilN x.offs v)
theorem resW_ok (st : St) (x : ARes) : SoundW (resW st x) (resOf st x) := by
 have fin : ∀ {o : Option AV}, SoundW (resW0 st x) o → SoundW (resW st x) (o.map (nilN x.offs)) := fun {o} h => by
  have : o.map (nilN x.offs) = o.bind fun v => some (nilN x.offs v) := by cases o <;> rfl
  rw [this]
  exact h.bind fun a _ => .ret _
 cases x with
 | tmp t offs => exact fin (frzW_ok _ _ _)
 | cell t n ag offs =>
  refine fin ?_
  show SoundW (if 64 ≤ n ∧ ag = true then _ else _) (((cellsAt st.m (look st.fr t)).bind (mkV n ag)).bind (frz st.m))
  split
  ·rename_i hn
   split
   ·rename_i id off ha
    split
    ·rename_i bt cs hm
     refine .ask fun T Q h => ?_
     split at h
     ·obtain ⟨⟨h1, h3⟩, h2⟩ := h
      refine ⟨_, _, ?_, h2⟩
      have e : mkV n ag (cs.drop off) = some (.agg ((cs.drop off).take n)) := by
       unfold mkV
       rw [if_neg (by rw [List.length_drop]; omega), if_pos hn.2]
      simp only [ha, cellsAt, hm, Option.bind_some, e, frz, frzCells_gr _ _ h3, Option.map_some]
     ·exact h.elim
    ·exact .stop _ _
   ·exact .stop _ _
  exact SoundW.bind (x := liftW (.mov (.tmp t)) ((cellsAt st.m (look st.fr t)).bind (mkV n ag))) (f := fun v => frzW st.m (.mov (.tmp t)) v) (SoundW.lift _ _) fun v _ => frzW_ok _ _ _
def resLW (st : St) : List ARes → W (List AV)
 | [] => retW []
 | x :: r => bindW (resW st x) fun a => bindW (resLW st r) fun b => retW (a :: b)
theorem resLW_ok (st : St) : ∀ l : List ARes, SoundW (resLW st l) (resL st l)
 | [] => .ret _
 | x :: r => by
  have : resL st (x :: r) = (resOf st x).bind fun a => (resL st r).bind fun b => some (a :: b) := by
   simp only [resL]
   cases resOf st x <;> cases resL st r <;> rfl
  rw [this]
  exact (resW_ok st x).bind fun a _ => (resLW_ok st r).bind fun b _ => .ret _
section
variable (F : FuncId → Option AFunc) (X : CallF)
def bodyMW (inl : InlW) (fn : AFunc) (args : List AV) (m : List MObj) : W (AV × List MObj) := ifW (.call 0 []) (args.length = fn.params) (bindW (codeW (R F X) inl (Lp F X m.length) m.length fn.body ⟨enterF fn.params 0 args, m⟩) fun r => match r with
 | (.exit _, _) => stopW (.call 0 [])
 | (_, st) => bindW (liftW (.call 0 []) (resLM st fn.results)) fun l => retW (packR fn.pk m.length (mkRes l) st.m))
def inlW : Nat → InlW
 | 0 => fun _ _ _ => stopW (.call 0 [])
 | d + 1 => fun f vs m => match F f with
  | some fn => bodyMW F X (inlW d) fn vs m
  | none => stopW (.call f [])
def bodyW (inl : InlW) (fn : AFunc) (args : List AV) : W AV := ifW (.call 0 []) (args.length = fn.params) (bindW (codeW (R F X) inl (Lp F X 0) 0 fn.body ⟨enterF fn.params 0 args, []⟩) fun r => match r with
 | (.exit _, _) => stopW (.call 0 [])
 | (_, st) => bindW (resLW st fn.results) fun l => retW (mkRes l))
end
section
variable {F : FuncId → Option AFunc} {X : CallF}
theorem bodyMW_ok {inl : InlW} (hi : InlOk (R F X) inl) (fn : AFunc) (args : List AV) (m : List MObj) : SoundW (bodyMW F X inl fn args m) (runBodyM (R F X) (Lp F X m.length) fn args m) := by
 unfold bodyMW runBodyM
 refine .ite fun h => ?_
 rw [if_pos h]
 refine .bind' (codeW_ok hi _ _ _) fun r hr => ?_
 obtain ⟨ex, st⟩ := r
 rw [hr]
 cases ex with
 | normal =>
  refine .bind' (.lift _ _) fun l hl => .ret' ?_
  simp only [hl, Option.map_some]
 | exit i => exact .stop _ _
 | ret =>
  refine .bind' (.lift _ _) fun l hl => .ret' ?_
  simp only [hl, Option.map_some]
theorem inlW_ok : ∀ d, InlOk (R F X) (inlW F X d)
 | 0 => fun _ _ _ => .stop _ _
 | d + 1 => fun f vs m => by
  unfold inlW
  split
  ·rename_i fn hf
   intro T Q h
   obtain ⟨a, T', h1, h2⟩ := bodyMW_ok (inlW_ok d) fn vs m T Q h
   exact ⟨a, T', RM_body hf h1, h2⟩
  ·exact .stop _ _
theorem bodyW_ok {inl : InlW} (hi : InlOk (R F X) inl) (fn : AFunc) (args : List AV) : SoundW (bodyW F X inl fn args) (runBody (R F X) (Lp F X 0) fn args) := by
 unfold bodyW runBody
 refine .ite fun h => ?_
 rw [if_pos h]
 refine .bind' (codeW_ok hi _ _ _) fun r hr => ?_
 obtain ⟨ex, st⟩ := r
 rw [hr]
 cases ex with
 | normal =>
  refine .bind' (resLW_ok _ _) fun l hl => .ret' ?_
  simp only [hl, Option.map_some]
 | exit i => exact .stop _ _
 | ret =>
  refine .bind' (resLW_ok _ _) fun l hl => .ret' ?_
  simp only [hl, Option.map_some]
@[irreducible] def wpR (F : FuncId → Option AFunc) (X : CallF) (fn : AFunc) (vs : List AV) (T : Tr) (r : AV) : Prop := bodyW F X (inlW F X 9) fn vs T fun v _ => eqR v r
@[irreducible] def wpRM (F : FuncId → Option AFunc) (X : CallF) (fn : AFunc) (vs : List AV) (m : List MObj) (T : Tr) (r : AV) (m' : List MObj) : Prop := bodyMW F X (inlW F X 9) fn vs m T fun v _ => eqR v.1 r ∧ eqMem v.2 m'
theorem R_wp {f : FuncId} {fn : AFunc} {vs : List AV} {r : AV} (T : Tr) (hf : F f = some fn) (h : wpR F X fn vs T r) : (R F X).f f vs = some r := by
 unfold wpR at h
 obtain ⟨a, T', h1, h2⟩ := bodyW_ok (inlW_ok 9) fn vs T _ h
 rw [← eqR_eq h2]
 exact R_body hf h1
theorem RM_wp {f : FuncId} {fn : AFunc} {vs : List AV} {m m' : List MObj} {r : AV} (T : Tr) (hf : F f = some fn) (h : wpRM F X fn vs m T r m') : (R F X).m f vs m = some (r, m') := by
 unfold wpRM at h
 obtain ⟨a, T', h1, h2, h3⟩ := bodyMW_ok (inlW_ok 9) fn vs m T _ h
 rw [← eqR_eq h2, ← eqMem_eq h3]
 exact RM_body hf h1
end
end Go.Proofs.YtienfdjfochlcaaGreatDoor
end
section
namespace Go.Proofs.YtienfdjfochlcaaGreatDoor
set_option linter.unusedVariables false
set_option linter.unusedSimpArgs false
def mapE {α : Type} (f : α → AV) (a : List (Bs × α)) : List (Value × AV) := a.map fun x => (.string (ofL x.1), f x.2)
def aput {α : Type} : List (Bs × α) → Bs → α → List (Bs × α)
 | [], s, v => [(s, v)]
 | (k, u) :: r, s, v => if s = k then (s, v) :: r else (k, u) :: aput r s v
def adel {α : Type} : List (Bs × α) → Bs → List (Bs × α)
 | [], _ => []
 | (k, u) :: r, s => if s = k then r else (k, u) :: adel r s
def setAtL {α : Type} (l : List α) (i : Nat) (cs : List α) : List α := l.take i ++ cs ++ l.drop (i + cs.length)
theorem get_of {α : Type} {l : List α} {k : Nat} {x : α} (h : l[k]? = some x) : ∃ hk : k < l.length, l[k] = x := List.getElem?_eq_some_iff.1 h
theorem u8_lt (c : UInt8) : (c.toNat : Int) < 256 := by have := c.toNat_lt; omega
theorem maxLen_le : 1099511627776 ≤ maxLen := by decide +kernel
theorem maxLen_i64 : maxLen ≤ 9223372036854775807 := by decide +kernel
theorem toU8_nat (n : Nat) : toU8 (n : Int) = UInt8.ofNat n := by
 apply UInt8.toNat_inj.1
 unfold toU8
 rw [UInt8.toNat_ofNat', UInt8.toNat_ofNat']
 omega
theorem toU8_mod (n : Int) : ((toU8 n).toNat : Int) = n % 256 := by
 unfold toU8
 rw [UInt8.toNat_ofNat']
 omega
abbrev Cut (_ : Nat) (α : Type) : Type := α
theorem dT {p : Prop} [Decidable p] (h : decide p = true) : p := of_decide_eq_true h
theorem dF {p : Prop} [Decidable p] (h : decide p = false) : ¬ p := of_decide_eq_false h
theorem nT {b : Bool} (h : (!b) = true) : b = false := by simpa using h
theorem nF {b : Bool} (h : (!b) = false) : b = true := by simpa using h
theorem dnT {p : Prop} [Decidable p] (h : (!decide p) = true) : ¬ p := dF (nT h)
theorem dnF {p : Prop} [Decidable p] (h : (!decide p) = false) : p := dT (nF h)
theorem tD {p : Prop} [Decidable p] (h : p) : decide p = true := decide_eq_true h
theorem fD {p : Prop} [Decidable p] (h : ¬ p) : decide p = false := decide_eq_false h
theorem tnD {p : Prop} [Decidable p] (h : ¬ p) : (!decide p) = true := by simp [h]
theorem fnD {p : Prop} [Decidable p] (h : p) : (!decide p) = false := by simp [h]
end Go.Proofs.YtienfdjfochlcaaGreatDoor
end
section
namespace Go.Proofs.YtienfdjfochlcaaGreatDoor
set_option linter.unusedVariables false
set_option linter.unusedSimpArgs false
open Go.RowKit Go.ChangeShapes Go.WideShapes Go.ChangeAt Go.Deep
open Go.ChangeMaps (open_string shut_string)
abbrev S0 (w : World) : Nat → Nat → Prop := Stab (fun _ _ => False) [] w
theorem s0_of {w : World} {b : Nat} (h : b < w.heap.size) (o : Nat) : S0 w b o := ⟨h, fun h => h.elim, by rintro ⟨i, k, hk, _⟩; simp at hk⟩
theorem repL_of3 {S : Nat → Nat → Prop} {w : World} {v v' v'' : Value} {x x' x'' : AV} (h : Rep S w [] v x) (h' : Rep S w [] v' x') (h'' : Rep S w [] v'' x'') : RepL S w [] #[v, v', v''] [x, x', x''] := ⟨rfl, fun i y hy => by
 match i, hy with
 | 0, hy => cases hy; exact h
 | 1, hy => cases hy; exact h'
 | 2, hy => cases hy; exact h''⟩
theorem calls_true {f : FuncId} {vs : Array Value} {avs : List AV} {w : World} (hc : CallOk Tryz.prog f avs (boolA true)) (hG : GR (S0 w) w []) (h : RepL (S0 w) w [] vs avs) : Calls Tryz.prog f vs w fun e w' => e = .returned (.bool true) ∧ Below w.heap.size w w' := by
 refine (hc (fun _ _ => False) w vs (fun _ _ h => h.elim) hG h).mono fun e w' ⟨v, h1, h2, h3⟩ => ⟨?_, h3.none_below⟩
 rw [h1]
 have := rep_val h2
 rw [this]
theorem gr_of_var {w : World} {n : String} {g : Nat} {cs : Array Value} {l : List AV} (hn : Tryz.prog.globalNamed n = some g) (hv : w.var? Tryz.prog n = some cs) (hl : cs.size = l.length) (hr : ∀ (j : Nat) (y : AV), l[j]? = some y → y.grCell = true ∧ ∃ u, cs[j]? = some u ∧ Rep (S0 w) w [] u y) :
    Rep (S0 w) w [] (.pointer (some ⟨g, 0, none⟩)) (.rptr l) ∧ ∀ o, l.length ≤ o → S0 w g o ∧ w.cell? ⟨g, o, none⟩ = none := by
  unfold World.var? at hv
  rw [hn] at hv
  simp only [Option.bind_some] at hv
  split at hv
  · rename_i cs' t fz hh
    injection hv with hv
    subst hv
    have hc : ∀ j, w.cell? ⟨g, j, none⟩ = cs'[j]? := fun j => by simp [World.cell?, hh]
    have hlt : g < w.heap.size := (Array.getElem?_eq_some_iff.1 hh).1
    refine ⟨.rptr g 0 (fun j => cs'.getD j undef) (fun j y hy => (hr j y hy).1) (fun j y hy => ?_) (fun j y hy => ?_), fun o ho => ⟨s0_of hlt _, by rw [hc, Array.getElem?_eq_none (by omega)]⟩⟩
    · obtain ⟨-, u, hu, -⟩ := hr j y hy
      rw [Nat.zero_add, hc]
      exact ⟨by rw [hu, Array.getD_eq_getD_getElem?, hu]; rfl, s0_of hlt _⟩
    · obtain ⟨-, u, hu, hrep⟩ := hr j y hy
      rw [Array.getD_eq_getD_getElem?, hu]; exact hrep
  · cases hv
end Go.Proofs.YtienfdjfochlcaaGreatDoor
end
section
namespace Go.Proofs.YtienfdjfochlcaaGreatDoor
set_option linter.unusedVariables false
set_option linter.unusedSimpArgs false
open Go.RowKit Go.ChangeShapes Go.WideShapes Go.ChangeAt Go.Deep
set_option maxRecDepth 100000
inductive Sh
 | bool
 | int (k : IntKind)
 | str
 | sl (e : Sh)
 | st (fs : List Sh)
mutual
def Sh.n : Sh → Nat
 | .st fs => Sh.ns fs
 | _ => 1
def Sh.ns : List Sh → Nat
 | [] => 0
 | s :: r => s.n + Sh.ns r
end
mutual
def Sh.ok (P : Program) : Sh → TypeId → Bool
 | .bool, t => (match P.underlying t with | some .bool => true | _ => false)
 | .int k, t => (match P.underlying t with | some (.int k') => decide (k' = k) | _ => false)
 | .str, t => (match P.underlying t with | some .string => true | _ => false)
 | .sl e, t => (match P.underlying t with | some (.slice u) => decide (P.cellsOf u = e.n) && decide (0 < e.n) && e.ok P u | _ => false)
 | .st fs, t => (match P.underlying t with
  | some (.struct l) => decide (P.cellsOf t = Sh.ns fs) && Sh.okF P fs l.toList 0
  | some (.array n e) => decide (P.cellsOf t = Sh.ns fs) && decide (fs.length = n) && Sh.okA P fs e
  | _ => false)
def Sh.okF (P : Program) : List Sh → List Field → Nat → Bool
 | [], [], _ => true
 | s :: r, f :: l, o => decide (f.offset = o) && decide (P.cellsOf f.type = s.n) && s.ok P f.type && Sh.okF P r l (o + s.n)
 | _, _, _ => false
def Sh.okA (P : Program) : List Sh → TypeId → Bool
 | [], _ => true
 | s :: r, e => decide (P.cellsOf e = s.n) && s.ok P e && Sh.okA P r e
end
def Sh.mk : Sh → List AV → AV
 | .st _, l => .agg l
 | _, l => l.headD .any
section
variable {H : Type}
mutual
def dAV : Sh → DataW H → List AV
 | .st fs, .agg parts => dAVs fs parts
 | .sl e, .slice elems _ => [.slice e.n (elems.map fun x => e.mk (dAV e x))]
 | .sl e, .nil => [.slice e.n []]
 | .str, .lit (.string l) => [strL l]
 | .int _, .lit (.int k n) => [.val (.int k n)]
 | .bool, .lit (.bool b) => [.val (.bool b)]
 | _, _ => []
def dAVs : List Sh → List (DataW H) → List AV
 | s :: r, d :: l => dAV s d ++ dAVs r l
 | _, _ => []
end
mutual
def Ty : Sh → DataW H → Prop
 | .st fs, .agg parts => Tys fs parts
 | .sl e, .slice elems _ => elems.length ≤ maxLen ∧ ∀ x ∈ elems, Ty e x
 | .sl _, .nil => True
 | .str, .lit (.string l) => l.length ≤ maxLen
 | .int k, .lit (.int k' n) => k' = k ∧ (Lit.int k n).wf = true
 | .bool, .lit (.bool _) => True
 | _, _ => False
def Tys : List Sh → List (DataW H) → Prop
 | [], [] => True
 | s :: r, d :: l => Ty s d ∧ Tys r l
 | _, _ => False
end
theorem Ty_sl {e : Sh} {d : DataW H} (h : Ty (.sl e) d) : (d = .nil) ∨ ∃ elems spare, d = .slice elems spare ∧ elems.length ≤ maxLen ∧ ∀ x ∈ elems, Ty e x := by
 cases d <;> first | exact .inl rfl | exact .inr ⟨_, _, rfl, by simpa [Ty] using h⟩ | (simp [Ty] at h)
theorem Ty_str {d : DataW H} (h : Ty .str d) : ∃ l, d = .lit (.string l) ∧ l.length ≤ maxLen := by
 cases d with
 | lit l => cases l <;> first | exact ⟨_, rfl, by simpa [Ty] using h⟩ | (simp [Ty] at h)
 | _ => simp [Ty] at h
theorem Ty_int {k : IntKind} {d : DataW H} (h : Ty (.int k) d) : ∃ n, d = .lit (.int k n) ∧ (Lit.int k n).wf = true := by
 cases d with
 | lit l => cases l <;> first | (simp only [Ty] at h; obtain ⟨rfl, h⟩ := h; exact ⟨_, rfl, h⟩) | (simp [Ty] at h)
 | _ => simp [Ty] at h
theorem Ty_bool {d : DataW H} (h : Ty .bool d) : ∃ b, d = .lit (.bool b) := by
 cases d with
 | lit l => cases l <;> first | exact ⟨_, rfl⟩ | (simp [Ty] at h)
 | _ => simp [Ty] at h
theorem mk_cells {s : Sh} {d : DataW H} (h : Ty s d) : (s.mk (dAV s d)).cells = dAV s d := by
 cases s with
 | bool => obtain ⟨b, rfl⟩ := Ty_bool h; rfl
 | int k => obtain ⟨n, rfl, -⟩ := Ty_int h; rfl
 | str => obtain ⟨l, rfl, -⟩ := Ty_str h; rfl
 | sl e =>
  rcases Ty_sl h with rfl | ⟨elems, spare, rfl, -, -⟩
  ·rfl
  ·simp [dAV, Sh.mk, AV.cells]
 | st fs => rfl
variable {enc : TypeId × Value → H} {w : World}
theorem addr_add2 (b o k j : Nat) : ((⟨b, o, none⟩ : Addr).add k).add j = ⟨b, o + k + j, none⟩ := by
 simp only [Addr.add]
 split <;> split <;> simp_all
theorem drop_take_get {cs : List Value} {o n i : Nat} {u : Value} (h : cs[o + i]? = some u) (hi : i < n) : ((cs.drop o).take n)[i]? = some u := by
 rw [List.getElem?_take, if_pos hi, List.getElem?_drop]; exact h
mutual
theorem rep_of : ∀ (s : Sh) (t : TypeId) (fuel : Nat) (cs : List Value) (d : DataW H) (ps : List MemPlace), s.ok Tryz.prog t = true → DataW.trod enc Tryz.prog w 0 (fun _ => true) true fuel t cs = some (d, ps) →
    Ty s d ∧ cs.length = s.n ∧ (dAV s d).length = s.n ∧ ∀ (i : Nat) (y : AV) (u : Value), (dAV s d)[i]? = some y → cs[i]? = some u → y.grCell = true ∧ Rep (S0 w) w [] u y
  | .bool, t, fuel, cs, d, ps, hs, h => by
    simp only [Sh.ok] at hs
    split at hs
    · rename_i ht
      obtain ⟨b, rfl, hx⟩ := DataW.trod_bool ht h
      cases hx
      refine ⟨by simp [Ty], rfl, rfl, fun i y u hy hu => ?_⟩
      match i, hy, hu with
      | 0, hy, hu => cases hy; cases hu; exact ⟨rfl, .val _ _⟩
    · cases hs
  | .int k, t, fuel, cs, d, ps, hs, h => by
    simp only [Sh.ok] at hs
    split at hs
    · rename_i k' ht
      have hk := of_decide_eq_true hs
      subst hk
      obtain ⟨b, rfl, hx, hw⟩ := DataW.trod_int ht h
      cases hx
      refine ⟨by simp [Ty, hw], rfl, rfl, fun i y u hy hu => ?_⟩
      match i, hy, hu with
      | 0, hy, hu => cases hy; cases hu; exact ⟨rfl, .val _ _⟩
    · cases hs
  | .str, t, fuel, cs, d, ps, hs, h => by
    simp only [Sh.ok] at hs
    split at hs
    · rename_i ht
      obtain ⟨b, rfl, hx, hw⟩ := DataW.trod_string ht h
      cases hx
      refine ⟨by simpa [Ty] using hw, rfl, rfl, fun i y u hy hu => ?_⟩
      match i, hy, hu with
      | 0, hy, hu => cases hy; cases hu; exact ⟨rfl, .val _ _⟩
    · cases hs
  | .sl e, t, fuel, cs, d, ps, hs, h => by
    simp only [Sh.ok] at hs
    split at hs
    · rename_i u ht
      simp only [Bool.and_eq_true, decide_eq_true_eq] at hs
      obtain ⟨⟨hC, hpos⟩, hok⟩ := hs
      rcases open_slice ht h with ⟨hcs, hx⟩ | ⟨a, len, cap, m, n', D, Pl, hcs, hb, hl, hm, hmm, hx, hi⟩
      · cases hx
        subst hcs
        refine ⟨by simp [Ty], rfl, rfl, fun i y u hy hu => ?_⟩
        match i, hy, hu with
        | 0, hy, hu =>
          cases hy; cases hu
          exact ⟨rfl, Rep.slice (S := S0 w) (w := w) (H := []) (A := none) (c := 0) (l := []) 0 0 _ (fun _ _ => undef) (by simp) (fun _ => rfl) (fun h => by simp at h) (fun i x hx => by simp at hx) (fun i x j y hx => by simp at hx) (fun i x j y hx => by simp at hx)⟩
      · cases hx
        subst hcs
        have hmc : m = cap := by simpa using hmm
        have el : ∀ i, i < len → ∃ cs', World.cells? w 0 (a.add (i * e.n)) e.n = some cs' ∧ Ty e (D i) ∧ cs'.length = e.n ∧ (dAV e (D i)).length = e.n ∧ ∀ (j : Nat) (y : AV) (v : Value), (dAV e (D i))[j]? = some y → cs'[j]? = some v → y.grCell = true ∧ Rep (S0 w) w [] v y := by
          intro i hil
          obtain ⟨cs', h1, h2⟩ := hi i (by omega)
          rw [hC] at h1
          exact ⟨cs', h1, rep_of e u n' cs' (D i) (Pl i) hok h2⟩
        have hty : ∀ x ∈ (List.range len).map D, Ty e x := fun x hx => by
          obtain ⟨i, hil, rfl⟩ := List.mem_map.1 hx
          exact (el i (List.mem_range.1 hil)).choose_spec.2.1
        refine ⟨by simp only [Ty]; exact ⟨by simp; omega, hty⟩, rfl, rfl, fun i y u hy hu => ?_⟩
        match i, hy, hu with
        | 0, hy, hu =>
          cases hy; cases hu
          refine ⟨rfl, ?_⟩
          have hlen : (((List.range len).map D).map fun x => e.mk (dAV e x)).length = len := by simp
          have key : ∀ (i : Nat) (x : AV), (((List.range len).map D).map fun x => e.mk (dAV e x))[i]? = some x → i < len ∧ x = e.mk (dAV e (D i)) := fun i x hx => by
            have hil : i < len := by have := (List.getElem?_eq_some_iff.1 hx).1; omega
            rw [List.getElem?_map, List.getElem?_map, List.getElem?_range hil] at hx
            simp only [Option.map_some, Option.some.injEq] at hx
            exact ⟨hil, hx.symm⟩
          by_cases hn : 0 < len
          · have hsp : ∃ b off, a = ⟨b, off, none⟩ ∧ b < w.heap.size := by
              obtain ⟨cs0, h0, -, hl0, -⟩ := el 0 hn
              obtain ⟨_, hl0', hat0⟩ := World.cells?_some h0
              have h00 := hat0 0 hpos
              have hlt : 0 < cs0.length := by omega
              rw [List.getElem?_eq_getElem hlt] at h00
              have hz : (a.add (0 * e.n)).add 0 = a := by simp [Addr.add]
              rw [hz] at h00
              obtain ⟨b, off, spot⟩ := a
              have : spot = none := World.cell?_spot h00
              subst this
              refine ⟨b, off, rfl, ?_⟩
              simp only [World.cell?] at h00
              split at h00
              · rename_i hh; exact (Array.getElem?_eq_some_iff.1 hh).1
              · cases h00
            obtain ⟨b, off, rfl, hlt⟩ := hsp
            have := Rep.slice (S := S0 w) (w := w) (H := []) (A := some ⟨b, off, none⟩) (c := cap) (l := (((List.range len).map D).map fun x => e.mk (dAV e x))) b off e.n (fun i j => if hil : i < len then ((el i hil).choose.getD j undef) else undef) (by omega) (fun h => by cases h) (fun _ => rfl)
              (fun i x hx => by
                obtain ⟨hil, rfl⟩ := key i x hx
                obtain ⟨h1, h2, h3, h4, h5⟩ := (el i hil).choose_spec
                rw [AV.ground, mk_cells h2]
                refine ⟨List.all_eq_true.2 fun y hy => ?_, h4⟩
                obtain ⟨j, hj, rfl⟩ := List.mem_iff_getElem.1 hy
                exact (h5 j _ _ (List.getElem?_eq_getElem hj) (List.getElem?_eq_getElem (by omega))).1)
              (fun i x j y hx hy => by
                obtain ⟨hil, rfl⟩ := key i x hx
                obtain ⟨h1, h2, h3, h4, h5⟩ := (el i hil).choose_spec
                rw [mk_cells h2] at hy
                have hj : j < e.n := by have := (List.getElem?_eq_some_iff.1 hy).1; omega
                refine ⟨?_, s0_of hlt _⟩
                obtain ⟨_, hl1, hat1⟩ := World.cells?_some h1
                have := hat1 j hj
                rw [dif_pos hil, List.getD_eq_getElem?_getD, List.getElem?_eq_getElem (by omega), Option.getD_some]
                rw [List.getElem?_eq_getElem (by omega)] at this
                exact (congrArg w.cell? (addr_add2 b off (i * e.n) j)).symm.trans this)
              (fun i x j y hx hy => by
                obtain ⟨hil, rfl⟩ := key i x hx
                obtain ⟨h1, h2, h3, h4, h5⟩ := (el i hil).choose_spec
                rw [mk_cells h2] at hy
                have hj : j < e.n := by have := (List.getElem?_eq_some_iff.1 hy).1; omega
                rw [dif_pos hil, List.getD_eq_getElem?_getD, List.getElem?_eq_getElem (by omega), Option.getD_some]
                exact (h5 j y _ hy (List.getElem?_eq_getElem (by omega))).2)
            rw [hlen] at this
            exact this
          · have hn0 : len = 0 := by omega
            subst hn0
            exact Rep.slice (S := S0 w) (w := w) (H := []) (A := some a) (c := cap) (l := []) 0 0 _ (fun _ _ => undef) (by simp) (fun h => by cases h) (fun h => by simp at h) (fun i x hx => by simp at hx) (fun i x j y hx => by simp at hx) (fun i x j y hx => by simp at hx)
    · cases hs
  | .st fs, t, fuel, cs, d, ps, hs, h => by
    simp only [Sh.ok] at hs
    split at hs
    · rename_i l ht
      simp only [Bool.and_eq_true, decide_eq_true_eq] at hs
      obtain ⟨xs, n, -, hx, hl, hxl, hf⟩ := DataW.trod_struct ht h
      cases hx
      obtain ⟨h1, h2, h3⟩ := rep_fields fs l.toList 0 n cs xs hs.2 (by simpa using hxl) (fun i f hi => hf i f (by simpa using hi))
      rw [hs.1] at hl
      refine ⟨by simpa [Ty] using h1, by simpa [Sh.n] using hl, by simpa [dAV, Sh.n] using h2, fun i y u hy hu => ?_⟩
      simp only [dAV] at hy
      exact h3 i y u hy (by simpa using hu)
    · rename_i n e ht
      simp only [Bool.and_eq_true, decide_eq_true_eq] at hs
      obtain ⟨xs, m, -, hx, hl, hxl, hf⟩ := DataW.trod_array ht h
      cases hx
      obtain ⟨h1, h2, h3⟩ := rep_items fs e 0 m cs xs hs.2 (by rw [hxl, hs.1.2]) (fun i hi => by
        have := hf i (by rw [← hs.1.2]; exact hi)
        simpa using this)
      rw [hs.1.1] at hl
      refine ⟨by simpa [Ty] using h1, by simpa [Sh.n] using hl, by simpa [dAV, Sh.n] using h2, fun i y u hy hu => ?_⟩
      simp only [dAV] at hy
      exact h3 i y u hy (by simpa using hu)
    · cases hs
theorem rep_fields : ∀ (fs : List Sh) (l : List Field) (o n : Nat) (cs : List Value) (xs : List (DataW H × List MemPlace)), Sh.okF Tryz.prog fs l o = true → xs.length = l.length →
    (∀ (i : Nat) (f : Field), l[i]? = some f → DataW.trod enc Tryz.prog w 0 (fun _ => true) true n f.type ((cs.drop f.offset).take (Tryz.prog.cellsOf f.type)) = xs[i]?) →
    Tys fs (xs.map (·.1)) ∧ (dAVs fs (xs.map (·.1))).length = Sh.ns fs ∧ ∀ (i : Nat) (y : AV) (u : Value), (dAVs fs (xs.map (·.1)))[i]? = some y → cs[o + i]? = some u → y.grCell = true ∧ Rep (S0 w) w [] u y
  | [], [], o, n, cs, xs, _, hx, _ => by
    obtain rfl : xs = [] := List.eq_nil_of_length_eq_zero hx
    exact ⟨by simp [Tys], rfl, fun i y u hy => by simp [dAVs] at hy⟩
  | [], _ :: _, o, n, cs, xs, hs, _, _ => by simp [Sh.okF] at hs
  | _ :: _, [], o, n, cs, xs, hs, _, _ => by simp [Sh.okF] at hs
  | s :: r, f :: l, o, n, cs, xs, hs, hx, hf => by
    simp only [Sh.okF, Bool.and_eq_true, decide_eq_true_eq] at hs
    obtain ⟨⟨⟨ho, hC⟩, hok⟩, hr⟩ := hs
    match xs, hx, hf with
    | x :: xs, hx, hf =>
      have h0 := hf 0 f rfl
      rw [ho, hC] at h0
      obtain ⟨a1, a2, a3, a4⟩ := rep_of s f.type n ((cs.drop o).take s.n) x.1 x.2 hok h0
      obtain ⟨b1, b2, b3⟩ := rep_fields r l (o + s.n) n cs xs hr (by simpa using hx) (fun i g hi => hf (i + 1) g hi)
      refine ⟨by simp only [List.map_cons, Tys]; exact ⟨a1, b1⟩, by simp only [List.map_cons, dAVs, Sh.ns, List.length_append, a3, b2], fun i y u hy hu => ?_⟩
      simp only [List.map_cons, dAVs] at hy
      by_cases hi : i < s.n
      · rw [List.getElem?_append_left (by omega)] at hy
        exact a4 i y u hy (drop_take_get hu hi)
      · rw [List.getElem?_append_right (by omega), a3] at hy
        exact b3 (i - s.n) y u hy (by rw [show o + s.n + (i - s.n) = o + i by omega]; exact hu)
theorem rep_items : ∀ (fs : List Sh) (e : TypeId) (k m : Nat) (cs : List Value) (xs : List (DataW H × List MemPlace)), Sh.okA Tryz.prog fs e = true → xs.length = fs.length →
    (∀ i, i < fs.length → DataW.trod enc Tryz.prog w 0 (fun _ => true) true m e ((cs.drop ((k + i) * Tryz.prog.cellsOf e)).take (Tryz.prog.cellsOf e)) = xs[i]?) →
    Tys fs (xs.map (·.1)) ∧ (dAVs fs (xs.map (·.1))).length = Sh.ns fs ∧ ∀ (i : Nat) (y : AV) (u : Value), (dAVs fs (xs.map (·.1)))[i]? = some y → cs[k * Tryz.prog.cellsOf e + i]? = some u → y.grCell = true ∧ Rep (S0 w) w [] u y
  | [], e, k, m, cs, xs, _, hx, _ => by
    obtain rfl : xs = [] := List.eq_nil_of_length_eq_zero hx
    exact ⟨by simp [Tys], rfl, fun i y u hy => by simp [dAVs] at hy⟩
  | s :: r, e, k, m, cs, xs, hs, hx, hf => by
    simp only [Sh.okA, Bool.and_eq_true, decide_eq_true_eq] at hs
    obtain ⟨⟨hC, hok⟩, hr⟩ := hs
    match xs, hx, hf with
    | x :: xs, hx, hf =>
      have h0 := hf 0 (by simp)
      rw [hC] at h0
      obtain ⟨a1, a2, a3, a4⟩ := rep_of s e m ((cs.drop ((k + 0) * s.n)).take s.n) x.1 x.2 hok h0
      obtain ⟨b1, b2, b3⟩ := rep_items r e (k + 1) m cs xs hr (by simpa using hx) (fun i hi => by
        have := hf (i + 1) (by simpa using hi)
        rw [show k + 1 + i = k + (i + 1) by omega]; simpa using this)
      refine ⟨by simp only [List.map_cons, Tys]; exact ⟨a1, b1⟩, by simp only [List.map_cons, dAVs, Sh.ns, List.length_append, a3, b2], fun i y u hy hu => ?_⟩
      simp only [List.map_cons, dAVs] at hy
      rw [hC] at hu b3
      by_cases hi : i < s.n
      · rw [List.getElem?_append_left (by omega)] at hy
        refine a4 i y u hy (drop_take_get ?_ hi)
        simpa using hu
      · rw [List.getElem?_append_right (by omega), a3] at hy
        refine b3 (i - s.n) y u hy ?_
        rw [show (k + 1) * s.n + (i - s.n) = k * s.n + i by rw [Nat.add_mul]; omega]; exact hu
end
theorem rep_arg {s : Sh} {t : TypeId} {v : Value} {d : DataW H} {p : List MemPlace} {b0 : Nat} (hs : s.ok Tryz.prog t = true) (hv : Value.okWide Tryz.prog w .any b0 t v)
    (h : DataW.Trod enc Tryz.prog w 0 (fun _ => true) true t v d p) : Ty s d ∧ Rep (S0 w) w [] v (s.mk (dAV s d)) := by
  obtain ⟨fuel, hf⟩ := h
  obtain ⟨h1, h2, h3, h4⟩ := rep_of s t fuel v.cells.toList d p hs hf
  refine ⟨h1, ?_⟩
  have one : ∀ x, dAV s d = [x] → v.cells = #[v] → s.mk (dAV s d) = x → Rep (S0 w) w [] v (s.mk (dAV s d)) := fun x hx hc hm => by
    rw [hm]
    exact (h4 0 x v (by rw [hx]; rfl) (by rw [hc]; rfl)).2
  cases s with
  | bool =>
    obtain ⟨b, rfl⟩ := Ty_bool h1
    simp only [Sh.ok] at hs
    split at hs
    · rename_i ht
      obtain ⟨b, rfl⟩ := okWide_bool ht hv
      exact one _ rfl rfl rfl
    · cases hs
  | int k =>
    obtain ⟨b, rfl, -⟩ := Ty_int h1
    simp only [Sh.ok] at hs
    split at hs
    · rename_i k' ht
      obtain ⟨b, rfl⟩ := okWide_int ht hv
      exact one _ rfl rfl rfl
    · cases hs
  | str =>
    obtain ⟨b, rfl, -⟩ := Ty_str h1
    simp only [Sh.ok] at hs
    split at hs
    · rename_i ht
      obtain ⟨b, rfl⟩ := okWide_string ht hv
      exact one _ rfl rfl rfl
    · cases hs
  | sl e =>
    simp only [Sh.ok] at hs
    split at hs
    · rename_i u ht
      obtain ⟨A, n, c, rfl⟩ := okWide_slice ht hv
      rcases Ty_sl h1 with rfl | ⟨elems, spare, rfl, -, -⟩
      · exact one (.slice e.n []) rfl rfl rfl
      · exact one _ (by simp only [dAV]; rfl) rfl (by simp only [dAV, Sh.mk]; rfl)
    · cases hs
  | st fs =>
    have hagg : ∃ cs : Array Value, v = .agg cs := by
      simp only [Sh.ok] at hs
      split at hs
      · rename_i l ht
        obtain ⟨cs, rfl, -⟩ := okWide_struct ht hv
        exact ⟨cs, rfl⟩
      · rename_i n e ht
        unfold Value.okWide at hv
        rw [ht] at hv
        obtain ⟨cs, rfl, -⟩ := hv
        exact ⟨cs, rfl⟩
      · cases hs
    obtain ⟨cs, rfl⟩ := hagg
    refine Rep.agg ?_ fun i y hy => ?_
    · simp only [Value.cells, Array.length_toList] at h2; rw [h2, h3]
    · have hi : i < cs.size := by
        have := (List.getElem?_eq_some_iff.1 hy).1
        simp only [Value.cells, Array.length_toList] at h2
        omega
      refine (h4 i y _ hy ?_).2
      simp only [Value.cells]
      rw [List.getElem?_eq_getElem (by simpa using hi)]
      simp [Array.getD, hi]
end
end Go.Proofs.YtienfdjfochlcaaGreatDoor
end
section
namespace Go.Proofs.YtienfdjfochlcaaGreatDoor
set_option linter.unusedVariables false
set_option linter.unusedSimpArgs false
open Go.RowKit Go.ChangeShapes Go.WideShapes Go.ChangeAt Go.Deep
section
variable {H : Type} {enc : TypeId × Value → H}
set_option maxRecDepth 100000 in
end
theorem laid_at {W : World} : ∀ {l : List (String × DataW Unit)} {ps : List MemPlace}, DataW.LaidVars Tryz.prog W l ps → ∀ {n : String} {d : DataW Unit}, (n, d) ∈ l →
    ∃ g t cs fuel p, Tryz.prog.globalNamed n = some g ∧ (Tryz.prog.globals[g]?).map (·.type) = some t ∧ W.var? Tryz.prog n = some cs ∧ DataW.trod (fun _ => ()) Tryz.prog W 0 (fun _ => true) false fuel t cs.toList = some (d, p)
  | [], ps, h, n, d, hm => by cases hm
  | (m, e) :: r, ps, h, n, d, hm => by
    obtain ⟨g, t, cs, fuel, p, q, h1, h2, h3, h4, h5, -⟩ := h
    rcases List.mem_cons.1 hm with q | q
    · cases q
      exact ⟨g, t, cs, fuel, p, h1, h2, h3, h4⟩
    · exact laid_at h5 q
theorem gr_ints {W : World} {laid : List (String × DataW Unit)} (hL : laidMet Tryz.prog laid W) {n : String} {g : Nat} {t e : TypeId} {k : IntKind} {zs : List Int} (hm : (n, Lib.tabData k zs) ∈ laid) (hn : Tryz.prog.globalNamed n = some g) (hty : (Tryz.prog.globals[g]?).map (·.type) = some t)
    {c : Nat} (ht : Tryz.prog.underlying t = some (.array c e)) (he : Tryz.prog.underlying e = some (.int k)) (hce : Tryz.prog.cellsOf e = 1) (hct : Tryz.prog.cellsOf t = c) :
    Rep (S0 W) W [] (.pointer (some ⟨g, 0, none⟩)) (.rptr (zs.map fun z => .val (.int k z))) ∧ ∀ o, (zs.map fun z => AV.val (.int k z)).length ≤ o → S0 W g o ∧ W.cell? ⟨g, o, none⟩ = none := by
  obtain ⟨ps, hV, -⟩ := hL
  obtain ⟨g', t', cs, fuel, p, h1, h2, h3, h4⟩ := laid_at hV hm
  obtain rfl := Option.some.inj (hn.symm.trans h1)
  obtain rfl := Option.some.inj (hty.symm.trans h2)
  have hcs := Lib.cells_of_tab ht he hce hct h4
  have hcs' : cs = (zs.map fun z => Value.int k z).toArray := by rw [← hcs]
  subst hcs'
  refine gr_of_var hn h3 (by simp) fun j y hy => ?_
  rw [List.getElem?_map, Option.map_eq_some_iff] at hy
  obtain ⟨z, hz, rfl⟩ := hy
  exact ⟨rfl, .int k z, by simp [hz], .val _ _⟩
theorem gr_err {W : World} {laid : List (String × DataW Unit)} (hL : laidMet Tryz.prog laid W) {n s : String} {d : DataW Unit} {g : Nat} {t : TypeId} (hm : (n, .iface s d) ∈ laid) (hn : Tryz.prog.globalNamed n = some g) (hty : (Tryz.prog.globals[g]?).map (·.type) = some t)
    {ms : Array (String × TypeId)} (ht : Tryz.prog.underlying t = some (.interface ms)) :
    Rep (S0 W) W [] (.pointer (some ⟨g, 0, none⟩)) (.rptr [.nif]) ∧ ∀ o, [AV.nif].length ≤ o → S0 W g o ∧ W.cell? ⟨g, o, none⟩ = none := by
  obtain ⟨ps, hV, -⟩ := hL
  obtain ⟨g', t', cs, fuel, p, h1, h2, h3, h4⟩ := laid_at hV hm
  obtain rfl := Option.some.inj (hn.symm.trans h1)
  obtain rfl := Option.some.inj (hty.symm.trans h2)
  have hcs : ∃ u v, cs = #[.iface u v] := by
    cases fuel with
    | zero => simp [DataW.trod] at h4
    | succ fuel =>
      obtain ⟨l⟩ := cs
      simp only [DataW.trod, ht] at h4
      split at h4 <;> first | (simp_all; done) | (rename_i u v _ _; exact ⟨u, v, by simp_all⟩) | skip
      all_goals (try (rename_i u v _ ; exact ⟨u, v, by simp_all⟩))
      all_goals (try (rename_i u v; exact ⟨u, v, by simp_all⟩))
  obtain ⟨u, v, rfl⟩ := hcs
  refine gr_of_var hn h3 rfl fun j y hy => ?_
  match j, hy with
  | 0, hy => cases hy; exact ⟨rfl, _, rfl, .nif _ _ _⟩
end Go.Proofs.YtienfdjfochlcaaGreatDoor
end
section
namespace Go.Proofs.YtienfdjfochlcaaGreatDoor
set_option linter.unusedVariables false
set_option linter.unusedSimpArgs false
theorem same_at {α : Type} {l : List α} {k : Nat} {x y : α} (h : l[k]? = some x) (h' : l[k]? = some y) : y = x := by rw [h] at h'; exact (Option.some.inj h').symm
theorem take_succ_get {α : Type} {l : List α} {k : Nat} {x : α} (h : l[k]? = some x) : l.take (k + 1) = l.take k ++ [x] := by
 obtain ⟨hk, rfl⟩ := get_of h
 rw [List.take_succ_eq_append_getElem hk]
theorem drop_get {α : Type} {l : List α} {k : Nat} {x : α} (h : l[k]? = some x) : l.drop k = x :: l.drop (k + 1) := by
 obtain ⟨hk, rfl⟩ := get_of h
 exact List.drop_eq_getElem_cons hk
theorem getD_of {α : Type} {l : List α} {k : Nat} {c z : α} (h : l[k]? = some c) : l.getD k z = c := by rw [List.getD_eq_getElem?_getD, h]; rfl
theorem pw_at {α : Type} {m : List α} {P : α → α → Prop} (h : m.Pairwise P) {i j : Nat} {x y : α} (hij : i < j) (hi : m[i]? = some x) (hj : m[j]? = some y) : P x y := by
 obtain ⟨hi', rfl⟩ := get_of hi
 obtain ⟨hj', rfl⟩ := get_of hj
 exact List.pairwise_iff_getElem.1 h _ _ hi' hj' hij
theorem u8_of {c : UInt8} {n : Nat} (h : (c.toNat : Int) = n) (hn : n < 256) : c = UInt8.ofNat n := by
 apply UInt8.toNat_inj.1
 rw [UInt8.toNat_ofNat']; omega
noncomputable def sameB {α : Type} (a b : α) : Bool := @decide (a = b) (Classical.propDecidable _)
end Go.Proofs.YtienfdjfochlcaaGreatDoor
end
section
namespace Go.Proofs.YtienfdjfochlcaaGreatDoor
set_option linter.unusedVariables false
set_option linter.unusedSimpArgs false
structure dig (c : UInt8) : Prop where
 lo : 48 ≤ c.toNat
 hi : c.toNat ≤ 57
theorem dig_iff {c : UInt8} : dig c ↔ 48 ≤ c.toNat ∧ c.toNat ≤ 57 := ⟨fun h => ⟨h.lo, h.hi⟩, fun h => ⟨h.1, h.2⟩⟩
instance (c : UInt8) : Decidable (dig c) := decidable_of_iff _ dig_iff.symm
def digsB (l : Bs) : Bool := decide (0 < l.length) && (decide (l.length ≤ 1) || decide (l[0]? ≠ some 48)) && decide (∀ c ∈ l, dig c)
def negB (l : Bs) : Bool := decide (l[0]? = some 45)
def numBody (l : Bs) : Bs := if negB l then l.drop 1 else l
def decB (l : Bs) : Bool := digsB (numBody l) && decide (l ≠ [45, 48])
def valF (a : Nat) (l : Bs) : Nat := l.foldl (fun a c => a * 10 + (c.toNat - 48)) a
def valD (l : Bs) : Nat := valF 0 l
def valI (l : Bs) : Int := if negB l then -(valD (numBody l) : Int) else valD (numBody l)
def numV (l : Bs) : Int := if decB l = true ∧ InI64 (valI l) then valI l else 0
def numE (l : Bs) : Int := if decB l = true then (if InI64 (valI l) then 0 else 9) else 1
end Go.Proofs.YtienfdjfochlcaaGreatDoor
end
section
namespace Go.Proofs
open Go.Shelf
def Tryz.lays137_ren : Go.Shelf.Ren := ⟨fun | 137 => 135 | 217 => 156 | 266 => 177 | n => n, fun | 9 => 9 | 5 => 5 | 3 => 3 | n => n, fun | n => n⟩
theorem Tryz.lays137 : Go.Proofs.Lays.n137 Tryz.prog Tryz.lays137_ren := {
 mixed := by kernel_rfl
 f137 := Tryz.func135.trans (congrArg some (by kernel_rfl))
 f217 := Tryz.func156.trans (congrArg some (by kernel_rfl))
 f266 := Tryz.func177.trans (congrArg some (by kernel_rfl))
 t3 := Tryz.underlying3
 a3 := Tryz.isAgg3
 z3 := Tryz.sizeOf3
 v3 := Tryz.zeroValue3
 t5 := Tryz.underlying5
 a5 := Tryz.isAgg5
 z5 := Tryz.sizeOf5
 v5 := Tryz.zeroValue5
 t9 := Tryz.underlying9
 a9 := Tryz.isAgg9
 z9 := Tryz.sizeOf9
 v9 := Tryz.zeroValue9 }
open Go.RowKit in
theorem Tryz.strings_IndexByte (s : ByteArray) (c : Int) (w : World) :
    Calls Tryz.prog 135 #[.string s, .int .u8 c] w fun e w' => e = .returned (.int .i64 (Lib.indexByte s.data.toList c.toNat.toUInt8)) ∧ w' = w := Any.strings_IndexByte Tryz.lays137 s c w
def Tryz.laysM171_ren : Go.Shelf.Ren := ⟨fun | 171 => 92 | 243 => 130 | 246 => 151 | 283 => 171 | 284 => 172 | 285 => 173 | 286 => 174 | 129 => 188 | 317 => 187 | 318 => 189 | 319 => 190 | 320 => 191 | 337 => 198 | 338 => 109 | n => n, fun | 3 => 3 | 9 => 9 | 2 => 2 | 4 => 4 | 171 => 203 | 0 => 0 | 53 => 49 | 37 => 70 | 5 => 5 | 173 => 205 | 212 => 215 | 51 => 208 | 20 => 20 | 213 => 216 | 46 => 179 | 232 => 234 | 233 => 178 | n => n, fun | 17 => 2 | 18 => 7 | 19 => 0 | n => n⟩
open Go.RowKit Go.Sort Go.Lib in
def Tryz.laysC172_ren : Go.Shelf.Ren := ⟨fun | 172 => 158 | 244 => 178 | 245 => 179 | 247 => 192 | 279 => 193 | 280 => 194 | 281 => 195 | 282 => 196 | 287 => 199 | 316 => 200 | 171 => 92 | 205 => 201 | 321 => 202 | 322 => 203 | 243 => 130 | 246 => 151 | 283 => 171 | 284 => 172 | 285 => 173 | 286 => 174 | 129 => 188 | 317 => 187 | 318 => 189 | 319 => 190 | 320 => 191 | 337 => 198 | 338 => 109 | n => n, fun | 9 => 9 | 3 => 3 | 75 => 134 | 76 => 135 | 4 => 4 | 5 => 5 | 167 => 218 | 37 => 70 | 0 => 0 | 85 => 219 | 2 => 2 | 168 => 221 | 53 => 49 | 175 => 229 | 46 => 179 | 210 => 232 | 127 => 140 | 145 => 238 | 143 => 236 | 21 => 21 | 171 => 203 | 173 => 205 | 212 => 215 | 51 => 208 | 20 => 20 | 213 => 216 | 232 => 234 | 233 => 178 | 80 => 92 | n => n, fun | 15 => 5 | 16 => 6 | 17 => 2 | 18 => 7 | 19 => 0 | n => n⟩
theorem Tryz.laysC172 : Go.Proofs.LaysC.n172 Tryz.prog Tryz.laysC172_ren := {
 mixed := by kernel_rfl
 f129 := Tryz.func188.trans (congrArg some (by kernel_rfl))
 f171 := Tryz.func92.trans (congrArg some (by kernel_rfl))
 f172 := Tryz.func158.trans (congrArg some (by kernel_rfl))
 f205 := Tryz.func201.trans (congrArg some (by kernel_rfl))
 f243 := Tryz.func130.trans (congrArg some (by kernel_rfl))
 f244 := Tryz.func178.trans (congrArg some (by kernel_rfl))
 f245 := Tryz.func179.trans (congrArg some (by kernel_rfl))
 f246 := Tryz.func151.trans (congrArg some (by kernel_rfl))
 f247 := Tryz.func192.trans (congrArg some (by kernel_rfl))
 f279 := Tryz.func193.trans (congrArg some (by kernel_rfl))
 f280 := Tryz.func194.trans (congrArg some (by kernel_rfl))
 f281 := Tryz.func195.trans (congrArg some (by kernel_rfl))
 f282 := Tryz.func196.trans (congrArg some (by kernel_rfl))
 f283 := Tryz.func171.trans (congrArg some (by kernel_rfl))
 f284 := Tryz.func172.trans (congrArg some (by kernel_rfl))
 f285 := Tryz.func173.trans (congrArg some (by kernel_rfl))
 f286 := Tryz.func174.trans (congrArg some (by kernel_rfl))
 f287 := Tryz.func199.trans (congrArg some (by kernel_rfl))
 f316 := Tryz.func200.trans (congrArg some (by kernel_rfl))
 f317 := Tryz.func187.trans (congrArg some (by kernel_rfl))
 f318 := Tryz.func189.trans (congrArg some (by kernel_rfl))
 f319 := Tryz.func190.trans (congrArg some (by kernel_rfl))
 f320 := Tryz.func191.trans (congrArg some (by kernel_rfl))
 f321 := Tryz.func202.trans (congrArg some (by kernel_rfl))
 f322 := Tryz.func203.trans (congrArg some (by kernel_rfl))
 f337 := Tryz.func198.trans (congrArg some (by kernel_rfl))
 f338 := Tryz.func109.trans (congrArg some (by kernel_rfl))
 t0 := Tryz.underlying0
 a0 := Tryz.isAgg0
 z0 := Tryz.sizeOf0
 v0 := Tryz.zeroValue0
 t2 := Tryz.underlying2
 a2 := Tryz.isAgg2
 z2 := Tryz.sizeOf2
 v2 := Tryz.zeroValue2
 t3 := Tryz.underlying3
 a3 := Tryz.isAgg3
 z3 := Tryz.sizeOf3
 v3 := Tryz.zeroValue3
 t4 := Tryz.underlying4
 a4 := Tryz.isAgg4
 z4 := Tryz.sizeOf4
 v4 := Tryz.zeroValue4
 t5 := Tryz.underlying5
 a5 := Tryz.isAgg5
 z5 := Tryz.sizeOf5
 v5 := Tryz.zeroValue5
 t9 := Tryz.underlying9
 a9 := Tryz.isAgg9
 z9 := Tryz.sizeOf9
 v9 := Tryz.zeroValue9
 t20 := Tryz.underlying20
 a20 := Tryz.isAgg20
 z20 := Tryz.sizeOf20
 v20 := Tryz.zeroValue20
 t21 := Tryz.underlying21
 a21 := Tryz.isAgg21
 z21 := Tryz.sizeOf21
 v21 := Tryz.zeroValue21
 t37 := Tryz.underlying70
 a37 := Tryz.isAgg70
 z37 := Tryz.sizeOf70
 v37 := Tryz.zeroValue70
 t46 := Tryz.underlying179
 a46 := Tryz.isAgg179
 z46 := Tryz.sizeOf179
 v46 := Tryz.zeroValue179
 t51 := Tryz.underlying208
 a51 := Tryz.isAgg208
 z51 := Tryz.sizeOf208
 v51 := Tryz.zeroValue208
 t53 := Tryz.underlying49
 a53 := Tryz.isAgg49
 z53 := Tryz.sizeOf49
 v53 := Tryz.zeroValue49
 t75 := Tryz.underlying134
 a75 := Tryz.isAgg134
 z75 := Tryz.sizeOf134
 v75 := Tryz.zeroValue134
 t76 := Tryz.underlying135
 a76 := Tryz.isAgg135
 z76 := Tryz.sizeOf135
 v76 := Tryz.zeroValue135
 t85 := Tryz.underlying219
 a85 := Tryz.isAgg219
 z85 := Tryz.sizeOf219
 v85 := Tryz.zeroValue219
 t127 := Tryz.underlying140
 a127 := Tryz.isAgg140
 z127 := Tryz.sizeOf140
 v127 := Tryz.zeroValue140
 t143 := Tryz.underlying236
 a143 := Tryz.isAgg236
 z143 := Tryz.sizeOf236
 v143 := Tryz.zeroValue236
 t145 := Tryz.underlying238
 a145 := Tryz.isAgg238
 z145 := Tryz.sizeOf238
 v145 := Tryz.zeroValue238
 t167 := Tryz.underlying218
 a167 := Tryz.isAgg218
 z167 := Tryz.sizeOf218
 v167 := Tryz.zeroValue218
 t168 := Tryz.underlying221
 a168 := Tryz.isAgg221
 z168 := Tryz.sizeOf221
 v168 := Tryz.zeroValue221
 t171 := Tryz.underlying203
 a171 := Tryz.isAgg203
 z171 := Tryz.sizeOf203
 v171 := Tryz.zeroValue203
 t173 := Tryz.underlying205
 a173 := Tryz.isAgg205
 z173 := Tryz.sizeOf205
 v173 := Tryz.zeroValue205
 t175 := Tryz.underlying229
 a175 := Tryz.isAgg229
 z175 := Tryz.sizeOf229
 v175 := Tryz.zeroValue229
 t210 := Tryz.underlying232
 a210 := Tryz.isAgg232
 z210 := Tryz.sizeOf232
 v210 := Tryz.zeroValue232
 t212 := Tryz.underlying215
 a212 := Tryz.isAgg215
 z212 := Tryz.sizeOf215
 v212 := Tryz.zeroValue215
 t213 := Tryz.underlying216
 a213 := Tryz.isAgg216
 z213 := Tryz.sizeOf216
 t232 := Tryz.underlying234
 a232 := Tryz.isAgg234
 z232 := Tryz.sizeOf234
 v232 := Tryz.zeroValue234
 t233 := Tryz.underlying178
 a233 := Tryz.isAgg178
 z233 := Tryz.sizeOf178
 v233 := Tryz.zeroValue178
 g15 := by kernel_rfl
 g16 := by kernel_rfl
 g17 := by kernel_rfl
 g18 := by kernel_rfl
 g19 := by kernel_rfl
 t80 := Tryz.underlying92
 a80 := Tryz.isAgg92
 z80 := Tryz.sizeOf92
 v80 := Tryz.zeroValue92
 i0 := by kernel_rfl
 i2 := by kernel_rfl
 i3 := by kernel_rfl
 i4 := by kernel_rfl
 i5 := by kernel_rfl
 i9 := by kernel_rfl
 i20 := by kernel_rfl
 i21 := by kernel_rfl
 i37 := by kernel_rfl
 i46 := by kernel_rfl
 i51 := by kernel_rfl
 i53 := by kernel_rfl
 i75 := by kernel_rfl
 i76 := by kernel_rfl
 i80 := by kernel_rfl
 i85 := by kernel_rfl
 i127 := by kernel_rfl
 i143 := by kernel_rfl
 i145 := by kernel_rfl
 i167 := by kernel_rfl
 i168 := by kernel_rfl
 i171 := by kernel_rfl
 i173 := by kernel_rfl
 i175 := by kernel_rfl
 i210 := by kernel_rfl
 i212 := by kernel_rfl
 i232 := by kernel_rfl
 i233 := by kernel_rfl
 m15 := by kernel_rfl
 m16 := by kernel_rfl
 m17 := by kernel_rfl
 m18 := by kernel_rfl
 m19 := by kernel_rfl
 c0 := by kernel_rfl
 c2 := by kernel_rfl
 c3 := by kernel_rfl
 c4 := by kernel_rfl
 c5 := by kernel_rfl
 c9 := by kernel_rfl
 c20 := by kernel_rfl
 c21 := by kernel_rfl
 c37 := by kernel_rfl
 c46 := by kernel_rfl
 c51 := by kernel_rfl
 c53 := by kernel_rfl
 c75 := by kernel_rfl
 c76 := by kernel_rfl
 c80 := by kernel_rfl
 c85 := by kernel_rfl
 c127 := by kernel_rfl
 c143 := by kernel_rfl
 c145 := by kernel_rfl
 c167 := by kernel_rfl
 c168 := by kernel_rfl
 c171 := by kernel_rfl
 c173 := by kernel_rfl
 c175 := by kernel_rfl
 c210 := by kernel_rfl
 c212 := by kernel_rfl
 c213 := by kernel_rfl
 c232 := by kernel_rfl
 c233 := by kernel_rfl }
open Go.RowKit in
theorem Tryz.strconv_Atoi_ok (s : ByteArray) (hmax : s.size ≤ 9223372036854775806) (v : Int) (h : Lib.atoiAll s.data.toList = .ok v) (w : World) :
    Calls Tryz.prog 158 #[.string s] w fun e w' => e = .returned (.tuple #[.int .i64 v, .nilIface]) ∧ (w' = w ∨ ∃ t, w' = Lib.bytesWorld w 5 t) := Any.strconv_Atoi_ok Tryz.laysC172 s hmax v h w
open Go.RowKit in
theorem Tryz.strconv_Atoi_syntax (s : ByteArray) (hlim : s.size ≤ 281474976710656) (h : Lib.atoiAll s.data.toList = Go.Lib.NumEnd.syntax) (ev : Value) (w : World) (hv : w.cell? ⟨5, 0, none⟩ = some ev) (hev : ev = .nilIface ∨ ∃ te pe, ev = .iface te pe) :
    Calls Tryz.prog 158 #[.string s] w fun e w' => ∃ N, e = .returned (.tuple #[.int .i64 (0), .iface 221 (.pointer (some ⟨N, 0, none⟩))]) ∧ w.heap.size ≤ N ∧ w'.heap[N]? = some (.cells #[.string ⟨#[65, 116, 111, 105]⟩, .string s, ev] 232 (0, 0)) ∧ Below w.heap.size w w' := Any.strconv_Atoi_syntax Tryz.laysC172 s hlim h ev w hv hev
open Go.RowKit in
theorem Tryz.strconv_Atoi_range (s : ByteArray) (hlim : s.size ≤ 281474976710656) (h : Lib.atoiAll s.data.toList = .range) (ev : Value) (w : World) (hv : w.cell? ⟨6, 0, none⟩ = some ev) (hev : ev = .nilIface ∨ ∃ te pe, ev = .iface te pe) :
    Calls Tryz.prog 158 #[.string s] w fun e w' => ∃ N, e = .returned (.tuple #[.int .i64 (Lib.atoiSat s.data.toList), .iface 221 (.pointer (some ⟨N, 0, none⟩))]) ∧ w.heap.size ≤ N ∧ w'.heap[N]? = some (.cells #[.string ⟨#[65, 116, 111, 105]⟩, .string s, ev] 232 (0, 0)) ∧ Below w.heap.size w w' := Any.strconv_Atoi_range Tryz.laysC172 s hlim h ev w hv hev
def Tryz.lays145_ren : Go.Shelf.Ren := ⟨fun | 145 => 132 | 220 => 152 | 219 => 167 | 217 => 156 | 225 => 184 | 224 => 185 | 267 => 186 | 266 => 177 | 314 => 197 | n => n, fun | 9 => 9 | 4 => 4 | 59 => 170 | 3 => 3 | 5 => 5 | 46 => 179 | 146 => 209 | 51 => 208 | n => n, fun | 1 => 1 | n => n⟩
theorem Tryz.lays145 : Go.Proofs.Lays.n145 Tryz.prog Tryz.lays145_ren := {
 mixed := by kernel_rfl
 f145 := Tryz.func132.trans (congrArg some (by kernel_rfl))
 f217 := Tryz.func156.trans (congrArg some (by kernel_rfl))
 f219 := Tryz.func167.trans (congrArg some (by kernel_rfl))
 f220 := Tryz.func152.trans (congrArg some (by kernel_rfl))
 f224 := Tryz.func185.trans (congrArg some (by kernel_rfl))
 f225 := Tryz.func184.trans (congrArg some (by kernel_rfl))
 f266 := Tryz.func177.trans (congrArg some (by kernel_rfl))
 f267 := Tryz.func186.trans (congrArg some (by kernel_rfl))
 f314 := Tryz.func197.trans (congrArg some (by kernel_rfl))
 t3 := Tryz.underlying3
 a3 := Tryz.isAgg3
 z3 := Tryz.sizeOf3
 v3 := Tryz.zeroValue3
 t4 := Tryz.underlying4
 a4 := Tryz.isAgg4
 z4 := Tryz.sizeOf4
 v4 := Tryz.zeroValue4
 t5 := Tryz.underlying5
 a5 := Tryz.isAgg5
 z5 := Tryz.sizeOf5
 v5 := Tryz.zeroValue5
 t9 := Tryz.underlying9
 a9 := Tryz.isAgg9
 z9 := Tryz.sizeOf9
 v9 := Tryz.zeroValue9
 t46 := Tryz.underlying179
 a46 := Tryz.isAgg179
 z46 := Tryz.sizeOf179
 v46 := Tryz.zeroValue179
 t51 := Tryz.underlying208
 a51 := Tryz.isAgg208
 z51 := Tryz.sizeOf208
 v51 := Tryz.zeroValue208
 t59 := Tryz.underlying170
 a59 := Tryz.isAgg170
 z59 := Tryz.sizeOf170
 v59 := Tryz.zeroValue170
 t146 := Tryz.underlying209
 a146 := Tryz.isAgg209
 z146 := Tryz.sizeOf209
 v146 := Tryz.zeroValue209
 g1 := by kernel_rfl }
open Go.RowKit Go.Lib in
theorem Tryz.strings_Cut (s sep : ByteArray) (m : Int) (w : World) (hs : s.size < 4294967281) (hm : w.cell? ⟨1, 0, none⟩ = some (.int .i64 m)) :
    Calls Tryz.prog 132 #[.string s, .string sep] w fun e w' => e = .returned (.tuple #[.string ⟨(Lib.cut s.data.toList sep.data.toList).1.toArray⟩, .string ⟨(Lib.cut s.data.toList sep.data.toList).2.1.toArray⟩, .bool (Lib.cut s.data.toList sep.data.toList).2.2]) ∧ ∃ n, w' = w.drewN n := Any.strings_Cut Tryz.lays145 s sep m w hs hm
def Tryz.lays99_ren : Go.Shelf.Ren := ⟨fun | 99 => 96 | 206 => 131 | n => n, fun | 9 => 9 | 4 => 4 | 3 => 3 | n => n, fun | n => n⟩
theorem Tryz.lays99 : Go.Proofs.Lays.n99 Tryz.prog Tryz.lays99_ren := {
 mixed := by kernel_rfl
 f99 := Tryz.func96.trans (congrArg some (by kernel_rfl))
 f206 := Tryz.func131.trans (congrArg some (by kernel_rfl))
 t3 := Tryz.underlying3
 a3 := Tryz.isAgg3
 z3 := Tryz.sizeOf3
 v3 := Tryz.zeroValue3
 t4 := Tryz.underlying4
 a4 := Tryz.isAgg4
 z4 := Tryz.sizeOf4
 v4 := Tryz.zeroValue4
 t9 := Tryz.underlying9
 a9 := Tryz.isAgg9
 z9 := Tryz.sizeOf9
 v9 := Tryz.zeroValue9 }
open Go.RowKit Go.Lib in
theorem Tryz.strings_HasPrefix (s p : ByteArray) (w : World) :
    Calls Tryz.prog 96 #[.string s, .string p] w fun e w' => e = .returned (.bool (Lib.hasPrefix s.data.toList p.data.toList)) ∧ w' = w := Any.strings_HasPrefix Tryz.lays99 s p w
def Tryz.lays105_ren : Go.Shelf.Ren := ⟨fun | 105 => 137 | 212 => 159 | 99 => 96 | 165 => 129 | 166 => 88 | 170 => 160 | 169 => 50 | 263 => 180 | 264 => 181 | 206 => 131 | 240 => 128 | 241 => 150 | 276 => 149 | 277 => 170 | n => n, fun | 9 => 9 | 3 => 3 | 4 => 4 | 20 => 20 | 0 => 0 | 46 => 179 | 109 => 193 | 5 => 5 | 72 => 85 | 76 => 135 | 51 => 208 | 146 => 209 | 53 => 49 | 148 => 211 | 70 => 83 | 37 => 70 | 75 => 134 | 127 => 140 | 164 => 187 | 80 => 92 | n => n, fun | n => n⟩
theorem Tryz.lays105 : Go.Proofs.Lays.n105 Tryz.prog Tryz.lays105_ren := {
 mixed := by kernel_rfl
 f99 := Tryz.func96.trans (congrArg some (by kernel_rfl))
 f105 := Tryz.func137.trans (congrArg some (by kernel_rfl))
 f165 := Tryz.func129.trans (congrArg some (by kernel_rfl))
 f166 := Tryz.func88.trans (congrArg some (by kernel_rfl))
 f169 := Tryz.func50.trans (congrArg some (by kernel_rfl))
 f170 := Tryz.func160.trans (congrArg some (by kernel_rfl))
 f206 := Tryz.func131.trans (congrArg some (by kernel_rfl))
 f212 := Tryz.func159.trans (congrArg some (by kernel_rfl))
 f240 := Tryz.func128.trans (congrArg some (by kernel_rfl))
 f241 := Tryz.func150.trans (congrArg some (by kernel_rfl))
 f263 := Tryz.func180.trans (congrArg some (by kernel_rfl))
 f264 := Tryz.func181.trans (congrArg some (by kernel_rfl))
 f276 := Tryz.func149.trans (congrArg some (by kernel_rfl))
 f277 := Tryz.func170.trans (congrArg some (by kernel_rfl))
 t0 := Tryz.underlying0
 a0 := Tryz.isAgg0
 z0 := Tryz.sizeOf0
 v0 := Tryz.zeroValue0
 t3 := Tryz.underlying3
 a3 := Tryz.isAgg3
 z3 := Tryz.sizeOf3
 v3 := Tryz.zeroValue3
 t4 := Tryz.underlying4
 a4 := Tryz.isAgg4
 z4 := Tryz.sizeOf4
 v4 := Tryz.zeroValue4
 t5 := Tryz.underlying5
 a5 := Tryz.isAgg5
 z5 := Tryz.sizeOf5
 v5 := Tryz.zeroValue5
 t9 := Tryz.underlying9
 a9 := Tryz.isAgg9
 z9 := Tryz.sizeOf9
 v9 := Tryz.zeroValue9
 t20 := Tryz.underlying20
 a20 := Tryz.isAgg20
 z20 := Tryz.sizeOf20
 v20 := Tryz.zeroValue20
 t37 := Tryz.underlying70
 a37 := Tryz.isAgg70
 z37 := Tryz.sizeOf70
 v37 := Tryz.zeroValue70
 t46 := Tryz.underlying179
 a46 := Tryz.isAgg179
 z46 := Tryz.sizeOf179
 v46 := Tryz.zeroValue179
 t51 := Tryz.underlying208
 a51 := Tryz.isAgg208
 z51 := Tryz.sizeOf208
 v51 := Tryz.zeroValue208
 t53 := Tryz.underlying49
 a53 := Tryz.isAgg49
 z53 := Tryz.sizeOf49
 v53 := Tryz.zeroValue49
 t70 := Tryz.underlying83
 a70 := Tryz.isAgg83
 z70 := Tryz.sizeOf83
 v70 := Tryz.zeroValue83
 t72 := Tryz.underlying85
 a72 := Tryz.isAgg85
 z72 := Tryz.sizeOf85
 v72 := Tryz.zeroValue85
 t75 := Tryz.underlying134
 a75 := Tryz.isAgg134
 z75 := Tryz.sizeOf134
 v75 := Tryz.zeroValue134
 t76 := Tryz.underlying135
 a76 := Tryz.isAgg135
 z76 := Tryz.sizeOf135
 v76 := Tryz.zeroValue135
 t109 := Tryz.underlying193
 a109 := Tryz.isAgg193
 z109 := Tryz.sizeOf193
 v109 := Tryz.zeroValue193
 t127 := Tryz.underlying140
 a127 := Tryz.isAgg140
 z127 := Tryz.sizeOf140
 v127 := Tryz.zeroValue140
 t146 := Tryz.underlying209
 a146 := Tryz.isAgg209
 z146 := Tryz.sizeOf209
 v146 := Tryz.zeroValue209
 t148 := Tryz.underlying211
 a148 := Tryz.isAgg211
 z148 := Tryz.sizeOf211
 v148 := Tryz.zeroValue211
 t164 := Tryz.underlying187
 a164 := Tryz.isAgg187
 z164 := Tryz.sizeOf187
 v164 := Tryz.zeroValue187 }
theorem Tryz.Builder_Extra_105 : Builder.Extra Tryz.prog Tryz.lays105_ren := {
 sizeBuilder := by kernel_rfl
 liesBuilder := by kernel_rfl
 t5 := Tryz.underlying5
 a5 := Tryz.isAgg5
 z5 := Tryz.sizeOf5
 v5 := Tryz.zeroValue5
 infoByte := by kernel_rfl
 cellsByte := by kernel_rfl
 sizeByte := by kernel_rfl
 neB5 := by decide }
open Go.RowKit Go.Lib in
theorem Tryz.strings_Repeat_main (s : ByteArray) (c : Nat) (w : World) (hc2 : 2 ≤ c) (hc : c ≤ 9223372036854775807) (hlen : s.size * c ≤ 140737488355328) (h0 : 0 < s.size) :
    Calls Tryz.prog 137 #[.string s, .int .i64 c] w fun e w' => e = .returned (.string ⟨(Lib.repeatL s.data.toList c).toArray⟩) ∧ Below w.heap.size w w' := Any.strings_Repeat_main Tryz.lays105 Tryz.Builder_Extra_105 s c w hc2 hc hlen h0
open Go.RowKit Go.Lib in
theorem Tryz.strings_Repeat_zero (s : ByteArray) (w : World) :
    Calls Tryz.prog 137 #[.string s, .int .i64 0] w fun e w' => e = .returned (.string ⟨#[]⟩) ∧ w' = w := Any.strings_Repeat_zero Tryz.lays105 s w
open Go.RowKit Go.Lib in
theorem Tryz.strings_Repeat_one (s : ByteArray) (w : World) :
    Calls Tryz.prog 137 #[.string s, .int .i64 1] w fun e w' => e = .returned (.string s) ∧ w' = w := Any.strings_Repeat_one Tryz.lays105 s w
end Go.Proofs
end
section
namespace Go.Proofs.YtienfdjfochlcaaGreatDoor
set_option linter.unusedVariables false
set_option linter.unusedSimpArgs false
set_option maxRecDepth 100000
theorem gr_cells {w : World} {S : Nat → Nat → Prop} {g : Nat} {l : List AV} (h : GR S w []) (hg : GT g = some l) (hl : 0 < l.length) : ∃ (cs : Array Value) (t : TypeId) (fz : Nat × Nat), w.heap[g]? = some (.cells cs t fz) ∧ cs.size = l.length ∧ ∀ (j : Nat) (y : AV), l[j]? = some y → ∃ u, cs[j]? = some u ∧ Rep S w [] u y := by
 obtain ⟨h1, h2⟩ := h g l hg
 cases h1 with
 | rptr b o u hgr hcell hrep =>
  have h0 := (hcell 0 _ (List.getElem?_eq_getElem hl)).1
  simp only [World.cell?] at h0
  split at h0
  ·rename_i cs t fz hh
   have hc : ∀ j, w.cell? ⟨g, j, none⟩ = cs[j]? := fun j => by simp [World.cell?, hh]
   refine ⟨cs, t, fz, hh, ?_, fun j y hy => ⟨u j, ?_, hrep j y hy⟩⟩
   ·have hn := (h2 l.length (Nat.le_refl _)).2
    rw [hc] at hn
    have h3 : cs.size ≤ l.length := by
     rcases Nat.lt_or_ge l.length cs.size with q | q
     ·rw [Array.getElem?_eq_getElem q] at hn; cases hn
     ·exact q
    have h4 := (hcell (l.length - 1) _ (List.getElem?_eq_getElem (by omega))).1
    rw [hc] at h4
    have := (Array.getElem?_eq_some_iff.1 h4).1
    omega
   ·have := (hcell j y hy).1
    rw [Nat.zero_add, hc] at this
    exact this
  ·cases h0
theorem gr_nif {w : World} {S : Nat → Nat → Prop} {g : Nat} (h : GR S w []) (hg : GT g = some [.nif]) : ∃ ev, w.cell? ⟨g, 0, none⟩ = some ev ∧ (ev = .nilIface ∨ ∃ te pe, ev = .iface te pe) := by
 obtain ⟨cs, t, fz, hh, hs, hc⟩ := gr_cells h hg (by decide)
 obtain ⟨u, hu, hr⟩ := hc 0 .nif rfl
 refine ⟨u, by simp [World.cell?, hh, hu], ?_⟩
 cases hr with
 | nif H t v => exact .inr ⟨t, v, rfl⟩
theorem val1 {w : World} {S : Nat → Nat → Prop} {cs : Array Value} {a : Value} (h : RepL S w [] cs [.val a]) : cs = #[a] := by
 obtain ⟨hn, hr⟩ := h
 have e0 := rep_val (hr 0 _ rfl)
 apply Array.ext
 ·simpa using hn
 ·intro i h1 h2
  have h3 : i = 0 := by simp at h2; omega
  subst h3
  rw [Array.getD_eq_getD_getElem?, Array.getElem?_eq_getElem h1] at e0
  exact e0
def itoaX : List AV → Option AV
 | [.val (.int .i64 n)] => if InI64 n then some (strL (Lib.itoa n)) else none
 | _ => none
def atoiX : List AV → Option AV
 | [.val (.string s)] => if s.size ≤ 281474976710656 then (match Lib.atoiAll s.data.toList with
  | .ok v => some (.tuple [intA v, .val .nilIface])
  | Go.Lib.NumEnd.syntax => some (.tuple [intA 0, .nif])
  | .range => some (.tuple [intA (Lib.atoiSat s.data.toList), .nif])) else none
 | _ => none
theorem rep_tuple2 {S : Nat → Nat → Prop} {w : World} {H : List Hd} {u v : Value} {x y : AV} (h : Rep S w H u x) (h' : Rep S w H v y) : Rep S w H (.tuple #[u, v]) (.tuple [x, y]) := .tuple rfl fun i z hz => by
 match i, hz with
 | 0, hz => cases hz; exact h
 | 1, hz => cases hz; exact h'
theorem atoiX_ok {vs : List AV} {r : AV} (h : atoiX vs = some r) : CallOk Tryz.prog 158 vs r := by
 unfold atoiX at h
 split at h
 ·rename_i s
  split at h
  ·rename_i hs
   split at h
   ·rename_i v hv
    cases h
    intro X w cs hX hG hr
    obtain rfl := val1 hr
    refine (Tryz.strconv_Atoi_ok s (by omega) v hv w).mono fun e w' ⟨he, hw⟩ => ?_
    subst he
    refine ⟨_, rfl, rep_tuple2 (.val _ _) (.val _ _), ?_⟩
    rcases hw with rfl | ⟨t, rfl⟩
    ·exact Fr.refl _ _
    ·exact Fr.of_below (Lib.bytesWorld_below _ _ _)
   ·rename_i hv
    cases h
    intro X w cs hX hG hr
    obtain rfl := val1 hr
    obtain ⟨ev, h1, h2⟩ := gr_nif (g := 5) hG rfl
    refine (Tryz.strconv_Atoi_syntax s hs hv ev w h1 h2).mono fun e w' ⟨n, he, _, _, hb⟩ => ?_
    subst he
    exact ⟨_, rfl, rep_tuple2 (.val _ _) (.nif _ _ _), Fr.of_below hb⟩
   ·rename_i hv
    cases h
    intro X w cs hX hG hr
    obtain rfl := val1 hr
    obtain ⟨ev, h1, h2⟩ := gr_nif (g := 6) hG rfl
    refine (Tryz.strconv_Atoi_range s hs hv ev w h1 h2).mono fun e w' ⟨n, he, _, _, hb⟩ => ?_
    subst he
    exact ⟨_, rfl, rep_tuple2 (.val _ _) (.nif _ _ _), Fr.of_below hb⟩
  ·cases h
 ·cases h
end Go.Proofs.YtienfdjfochlcaaGreatDoor
end
section
namespace Go.Proofs.YtienfdjfochlcaaGreatDoor
set_option linter.unusedVariables false
set_option linter.unusedSimpArgs false
theorem get_some00 {α : Type} {o : Option α} {d : α} (h : o.isSome = true) : o = some (o.getD d) := by cases o with | none => cases h | some a => rfl
def ac00 : AFunc := AFunc.mk 0 0 [] (ACode.region [] []) false
def MS : List Nat := [40, 41, 45, 46, 47, 48, 50, 59, 60, 61, 73, 78, 79, 80, 81, 82, 88, 90, 102, 103, 104, 106, 107, 117, 118, 121, 122, 128, 129, 145, 146, 150, 160, 72, 73, 112, 60, 61, 4000112, 6000007, 59, 102, 103, 104, 106, 107]
noncomputable def ac9 : AFunc := (comp Tryz.prog MS 9).getD ac00
theorem comp9 : comp Tryz.prog MS 9 = some ac9 := get_some00 (by kernel_rfl)
noncomputable def ac10 : AFunc := (comp Tryz.prog MS 10).getD ac00
theorem comp10 : comp Tryz.prog MS 10 = some ac10 := get_some00 (by kernel_rfl)
noncomputable def ac11 : AFunc := (comp Tryz.prog MS 11).getD ac00
theorem comp11 : comp Tryz.prog MS 11 = some ac11 := get_some00 (by kernel_rfl)
noncomputable def ac18 : AFunc := (comp Tryz.prog MS 18).getD ac00
theorem comp18 : comp Tryz.prog MS 18 = some ac18 := get_some00 (by kernel_rfl)
noncomputable def ac23 : AFunc := (comp Tryz.prog MS 23).getD ac00
theorem comp23 : comp Tryz.prog MS 23 = some ac23 := get_some00 (by kernel_rfl)
noncomputable def ac24 : AFunc := (comp Tryz.prog MS 24).getD ac00
theorem comp24 : comp Tryz.prog MS 24 = some ac24 := get_some00 (by kernel_rfl)
noncomputable def ac25 : AFunc := (comp Tryz.prog MS 25).getD ac00
theorem comp25 : comp Tryz.prog MS 25 = some ac25 := get_some00 (by kernel_rfl)
noncomputable def ac26 : AFunc := (comp Tryz.prog MS 26).getD ac00
theorem comp26 : comp Tryz.prog MS 26 = some ac26 := get_some00 (by kernel_rfl)
noncomputable def ac27 : AFunc := (comp Tryz.prog MS 27).getD ac00
theorem comp27 : comp Tryz.prog MS 27 = some ac27 := get_some00 (by kernel_rfl)
noncomputable def ac28 : AFunc := (comp Tryz.prog MS 28).getD ac00
theorem comp28 : comp Tryz.prog MS 28 = some ac28 := get_some00 (by kernel_rfl)
noncomputable def ac29 : AFunc := (comp Tryz.prog MS 29).getD ac00
theorem comp29 : comp Tryz.prog MS 29 = some ac29 := get_some00 (by kernel_rfl)
noncomputable def ac30 : AFunc := (comp Tryz.prog MS 30).getD ac00
theorem comp30 : comp Tryz.prog MS 30 = some ac30 := get_some00 (by kernel_rfl)
noncomputable def ac31 : AFunc := (comp Tryz.prog MS 31).getD ac00
theorem comp31 : comp Tryz.prog MS 31 = some ac31 := get_some00 (by kernel_rfl)
noncomputable def ac32 : AFunc := (comp Tryz.prog MS 32).getD ac00
theorem comp32 : comp Tryz.prog MS 32 = some ac32 := get_some00 (by kernel_rfl)
noncomputable def ac33 : AFunc := (comp Tryz.prog MS 33).getD ac00
theorem comp33 : comp Tryz.prog MS 33 = some ac33 := get_some00 (by kernel_rfl)
noncomputable def ac34 : AFunc := (comp Tryz.prog MS 34).getD ac00
theorem comp34 : comp Tryz.prog MS 34 = some ac34 := get_some00 (by kernel_rfl)
noncomputable def ac35 : AFunc := (comp Tryz.prog MS 35).getD ac00
theorem comp35 : comp Tryz.prog MS 35 = some ac35 := get_some00 (by kernel_rfl)
noncomputable def ac36 : AFunc := (comp Tryz.prog MS 36).getD ac00
theorem comp36 : comp Tryz.prog MS 36 = some ac36 := get_some00 (by kernel_rfl)
noncomputable def ac44 : AFunc := (comp Tryz.prog MS 44).getD ac00
theorem comp44 : comp Tryz.prog MS 44 = some ac44 := get_some00 (by kernel_rfl)
noncomputable def ac51 : AFunc := (comp Tryz.prog MS 51).getD ac00
theorem comp51 : comp Tryz.prog MS 51 = some ac51 := get_some00 (by kernel_rfl)
noncomputable def ac55 : AFunc := (comp Tryz.prog MS 55).getD ac00
theorem comp55 : comp Tryz.prog MS 55 = some ac55 := get_some00 (by kernel_rfl)
noncomputable def ac56 : AFunc := (comp Tryz.prog MS 56).getD ac00
theorem comp56 : comp Tryz.prog MS 56 = some ac56 := get_some00 (by kernel_rfl)
noncomputable def ac57 : AFunc := (comp Tryz.prog MS 57).getD ac00
theorem comp57 : comp Tryz.prog MS 57 = some ac57 := get_some00 (by kernel_rfl)
noncomputable def ac58 : AFunc := (comp Tryz.prog MS 58).getD ac00
theorem comp58 : comp Tryz.prog MS 58 = some ac58 := get_some00 (by kernel_rfl)
noncomputable def ac59 : AFunc := (comp Tryz.prog MS 59).getD ac00
theorem comp59 : comp Tryz.prog MS 59 = some ac59 := get_some00 (by kernel_rfl)
noncomputable def ac60 : AFunc := (comp Tryz.prog MS 60).getD ac00
theorem comp60 : comp Tryz.prog MS 60 = some ac60 := get_some00 (by kernel_rfl)
noncomputable def ac61 : AFunc := (comp Tryz.prog MS 61).getD ac00
theorem comp61 : comp Tryz.prog MS 61 = some ac61 := get_some00 (by kernel_rfl)
noncomputable def ac62 : AFunc := (comp Tryz.prog MS 62).getD ac00
theorem comp62 : comp Tryz.prog MS 62 = some ac62 := get_some00 (by kernel_rfl)
noncomputable def ac63 : AFunc := (comp Tryz.prog MS 63).getD ac00
theorem comp63 : comp Tryz.prog MS 63 = some ac63 := get_some00 (by kernel_rfl)
noncomputable def ac64 : AFunc := (comp Tryz.prog MS 64).getD ac00
theorem comp64 : comp Tryz.prog MS 64 = some ac64 := get_some00 (by kernel_rfl)
noncomputable def ac65 : AFunc := (comp Tryz.prog MS 65).getD ac00
theorem comp65 : comp Tryz.prog MS 65 = some ac65 := get_some00 (by kernel_rfl)
noncomputable def ac66 : AFunc := (comp Tryz.prog MS 66).getD ac00
theorem comp66 : comp Tryz.prog MS 66 = some ac66 := get_some00 (by kernel_rfl)
noncomputable def ac67 : AFunc := (comp Tryz.prog MS 67).getD ac00
theorem comp67 : comp Tryz.prog MS 67 = some ac67 := get_some00 (by kernel_rfl)
noncomputable def ac68 : AFunc := (comp Tryz.prog MS 68).getD ac00
theorem comp68 : comp Tryz.prog MS 68 = some ac68 := get_some00 (by kernel_rfl)
noncomputable def ac69 : AFunc := (comp Tryz.prog MS 69).getD ac00
theorem comp69 : comp Tryz.prog MS 69 = some ac69 := get_some00 (by kernel_rfl)
noncomputable def ac70 : AFunc := (comp Tryz.prog MS 70).getD ac00
theorem comp70 : comp Tryz.prog MS 70 = some ac70 := get_some00 (by kernel_rfl)
noncomputable def ac71 : AFunc := (comp Tryz.prog MS 71).getD ac00
theorem comp71 : comp Tryz.prog MS 71 = some ac71 := get_some00 (by kernel_rfl)
noncomputable def ac72 : AFunc := (comp Tryz.prog MS 72).getD ac00
theorem comp72 : comp Tryz.prog MS 72 = some ac72 := get_some00 (by kernel_rfl)
noncomputable def ac73 : AFunc := (comp Tryz.prog MS 73).getD ac00
theorem comp73 : comp Tryz.prog MS 73 = some ac73 := get_some00 (by kernel_rfl)
noncomputable def ac86 : AFunc := (comp Tryz.prog MS 86).getD ac00
theorem comp86 : comp Tryz.prog MS 86 = some ac86 := get_some00 (by kernel_rfl)
noncomputable def ac87 : AFunc := (comp Tryz.prog MS 87).getD ac00
theorem comp87 : comp Tryz.prog MS 87 = some ac87 := get_some00 (by kernel_rfl)
noncomputable def ac91 : AFunc := (comp Tryz.prog MS 91).getD ac00
theorem comp91 : comp Tryz.prog MS 91 = some ac91 := get_some00 (by kernel_rfl)
noncomputable def ac93 : AFunc := (comp Tryz.prog MS 93).getD ac00
theorem comp93 : comp Tryz.prog MS 93 = some ac93 := get_some00 (by kernel_rfl)
noncomputable def ac94 : AFunc := (comp Tryz.prog MS 94).getD ac00
theorem comp94 : comp Tryz.prog MS 94 = some ac94 := get_some00 (by kernel_rfl)
noncomputable def ac95 : AFunc := (comp Tryz.prog MS 95).getD ac00
theorem comp95 : comp Tryz.prog MS 95 = some ac95 := get_some00 (by kernel_rfl)
noncomputable def ac97 : AFunc := (comp Tryz.prog MS 97).getD ac00
theorem comp97 : comp Tryz.prog MS 97 = some ac97 := get_some00 (by kernel_rfl)
noncomputable def ac98 : AFunc := (comp Tryz.prog MS 98).getD ac00
theorem comp98 : comp Tryz.prog MS 98 = some ac98 := get_some00 (by kernel_rfl)
noncomputable def ac99 : AFunc := (comp Tryz.prog MS 99).getD ac00
theorem comp99 : comp Tryz.prog MS 99 = some ac99 := get_some00 (by kernel_rfl)
noncomputable def ac100 : AFunc := (comp Tryz.prog MS 100).getD ac00
theorem comp100 : comp Tryz.prog MS 100 = some ac100 := get_some00 (by kernel_rfl)
noncomputable def ac101 : AFunc := (comp Tryz.prog MS 101).getD ac00
theorem comp101 : comp Tryz.prog MS 101 = some ac101 := get_some00 (by kernel_rfl)
noncomputable def ac102 : AFunc := (comp Tryz.prog MS 102).getD ac00
theorem comp102 : comp Tryz.prog MS 102 = some ac102 := get_some00 (by kernel_rfl)
noncomputable def ac104 : AFunc := (comp Tryz.prog MS 104).getD ac00
theorem comp104 : comp Tryz.prog MS 104 = some ac104 := get_some00 (by kernel_rfl)
noncomputable def ac105 : AFunc := (comp Tryz.prog MS 105).getD ac00
theorem comp105 : comp Tryz.prog MS 105 = some ac105 := get_some00 (by kernel_rfl)
noncomputable def ac106 : AFunc := (comp Tryz.prog MS 106).getD ac00
theorem comp106 : comp Tryz.prog MS 106 = some ac106 := get_some00 (by kernel_rfl)
noncomputable def ac107 : AFunc := (comp Tryz.prog MS 107).getD ac00
theorem comp107 : comp Tryz.prog MS 107 = some ac107 := get_some00 (by kernel_rfl)
noncomputable def ac108 : AFunc := (comp Tryz.prog MS 108).getD ac00
theorem comp108 : comp Tryz.prog MS 108 = some ac108 := get_some00 (by kernel_rfl)
noncomputable def ac109 : AFunc := (comp Tryz.prog MS 109).getD ac00
theorem comp109 : comp Tryz.prog MS 109 = some ac109 := get_some00 (by kernel_rfl)
noncomputable def ac110 : AFunc := (comp Tryz.prog MS 110).getD ac00
theorem comp110 : comp Tryz.prog MS 110 = some ac110 := get_some00 (by kernel_rfl)
noncomputable def ac111 : AFunc := (comp Tryz.prog MS 111).getD ac00
theorem comp111 : comp Tryz.prog MS 111 = some ac111 := get_some00 (by kernel_rfl)
noncomputable def ac112 : AFunc := (comp Tryz.prog MS 112).getD ac00
theorem comp112 : comp Tryz.prog MS 112 = some ac112 := get_some00 (by kernel_rfl)
noncomputable def ac120 : AFunc := (comp Tryz.prog MS 120).getD ac00
theorem comp120 : comp Tryz.prog MS 120 = some ac120 := get_some00 (by kernel_rfl)
noncomputable def ac133 : AFunc := (comp Tryz.prog MS 133).getD ac00
theorem comp133 : comp Tryz.prog MS 133 = some ac133 := get_some00 (by kernel_rfl)
noncomputable def ac134 : AFunc := (comp Tryz.prog MS 134).getD ac00
theorem comp134 : comp Tryz.prog MS 134 = some ac134 := get_some00 (by kernel_rfl)
noncomputable def ac136 : AFunc := (comp Tryz.prog MS 136).getD ac00
theorem comp136 : comp Tryz.prog MS 136 = some ac136 := get_some00 (by kernel_rfl)
noncomputable def ac138 : AFunc := (comp Tryz.prog MS 138).getD ac00
theorem comp138 : comp Tryz.prog MS 138 = some ac138 := get_some00 (by kernel_rfl)
noncomputable def ac139 : AFunc := (comp Tryz.prog MS 139).getD ac00
theorem comp139 : comp Tryz.prog MS 139 = some ac139 := get_some00 (by kernel_rfl)
noncomputable def ac140 : AFunc := (comp Tryz.prog MS 140).getD ac00
theorem comp140 : comp Tryz.prog MS 140 = some ac140 := get_some00 (by kernel_rfl)
noncomputable def ac141 : AFunc := (comp Tryz.prog MS 141).getD ac00
theorem comp141 : comp Tryz.prog MS 141 = some ac141 := get_some00 (by kernel_rfl)
noncomputable def ac153 : AFunc := (comp Tryz.prog MS 153).getD ac00
theorem comp153 : comp Tryz.prog MS 153 = some ac153 := get_some00 (by kernel_rfl)
noncomputable def ac154 : AFunc := (comp Tryz.prog MS 154).getD ac00
theorem comp154 : comp Tryz.prog MS 154 = some ac154 := get_some00 (by kernel_rfl)
noncomputable def ac155 : AFunc := (comp Tryz.prog MS 155).getD ac00
theorem comp155 : comp Tryz.prog MS 155 = some ac155 := get_some00 (by kernel_rfl)
noncomputable def ac157 : AFunc := (comp Tryz.prog MS 157).getD ac00
theorem comp157 : comp Tryz.prog MS 157 = some ac157 := get_some00 (by kernel_rfl)
noncomputable def ac161 : AFunc := (comp Tryz.prog MS 161).getD ac00
theorem comp161 : comp Tryz.prog MS 161 = some ac161 := get_some00 (by kernel_rfl)
noncomputable def ac162 : AFunc := (comp Tryz.prog MS 162).getD ac00
theorem comp162 : comp Tryz.prog MS 162 = some ac162 := get_some00 (by kernel_rfl)
noncomputable def ac163 : AFunc := (comp Tryz.prog MS 163).getD ac00
theorem comp163 : comp Tryz.prog MS 163 = some ac163 := get_some00 (by kernel_rfl)
noncomputable def ac169 : AFunc := (comp Tryz.prog MS 169).getD ac00
theorem comp169 : comp Tryz.prog MS 169 = some ac169 := get_some00 (by kernel_rfl)
noncomputable def ac175 : AFunc := (comp Tryz.prog MS 175).getD ac00
theorem comp175 : comp Tryz.prog MS 175 = some ac175 := get_some00 (by kernel_rfl)
noncomputable def ac176 : AFunc := (comp Tryz.prog MS 176).getD ac00
theorem comp176 : comp Tryz.prog MS 176 = some ac176 := get_some00 (by kernel_rfl)
noncomputable def ac182 : AFunc := (comp Tryz.prog MS 182).getD ac00
theorem comp182 : comp Tryz.prog MS 182 = some ac182 := get_some00 (by kernel_rfl)
noncomputable def FT : FuncId → Option AFunc
 | 9 => some ac9
 | 10 => some ac10
 | 11 => some ac11
 | 18 => some ac18
 | 23 => some ac23
 | 24 => some ac24
 | 25 => some ac25
 | 26 => some ac26
 | 27 => some ac27
 | 28 => some ac28
 | 29 => some ac29
 | 30 => some ac30
 | 31 => some ac31
 | 32 => some ac32
 | 33 => some ac33
 | 34 => some ac34
 | 35 => some ac35
 | 36 => some ac36
 | 44 => some ac44
 | 51 => some ac51
 | 55 => some ac55
 | 56 => some ac56
 | 57 => some ac57
 | 58 => some ac58
 | 59 => some ac59
 | 60 => some ac60
 | 61 => some ac61
 | 62 => some ac62
 | 63 => some ac63
 | 64 => some ac64
 | 65 => some ac65
 | 66 => some ac66
 | 67 => some ac67
 | 68 => some ac68
 | 69 => some ac69
 | 70 => some ac70
 | 71 => some ac71
 | 72 => some ac72
 | 73 => some ac73
 | 86 => some ac86
 | 87 => some ac87
 | 91 => some ac91
 | 93 => some ac93
 | 94 => some ac94
 | 95 => some ac95
 | 97 => some ac97
 | 98 => some ac98
 | 99 => some ac99
 | 100 => some ac100
 | 101 => some ac101
 | 102 => some ac102
 | 104 => some ac104
 | 105 => some ac105
 | 106 => some ac106
 | 107 => some ac107
 | 108 => some ac108
 | 109 => some ac109
 | 110 => some ac110
 | 111 => some ac111
 | 112 => some ac112
 | 120 => some ac120
 | 133 => some ac133
 | 134 => some ac134
 | 136 => some ac136
 | 138 => some ac138
 | 139 => some ac139
 | 140 => some ac140
 | 141 => some ac141
 | 153 => some ac153
 | 154 => some ac154
 | 155 => some ac155
 | 157 => some ac157
 | 161 => some ac161
 | 162 => some ac162
 | 163 => some ac163
 | 169 => some ac169
 | 175 => some ac175
 | 176 => some ac176
 | 182 => some ac182
 | _ => none
theorem FT_ok : ∀ f af, FT f = some af → ∃ hn, compFunc Tryz.prog hn f = some af := by
 intro f af h
 unfold FT at h
 split at h
 ·injection h with h; subst h; exact comp_ok comp9
 ·injection h with h; subst h; exact comp_ok comp10
 ·injection h with h; subst h; exact comp_ok comp11
 ·injection h with h; subst h; exact comp_ok comp18
 ·injection h with h; subst h; exact comp_ok comp23
 ·injection h with h; subst h; exact comp_ok comp24
 ·injection h with h; subst h; exact comp_ok comp25
 ·injection h with h; subst h; exact comp_ok comp26
 ·injection h with h; subst h; exact comp_ok comp27
 ·injection h with h; subst h; exact comp_ok comp28
 ·injection h with h; subst h; exact comp_ok comp29
 ·injection h with h; subst h; exact comp_ok comp30
 ·injection h with h; subst h; exact comp_ok comp31
 ·injection h with h; subst h; exact comp_ok comp32
 ·injection h with h; subst h; exact comp_ok comp33
 ·injection h with h; subst h; exact comp_ok comp34
 ·injection h with h; subst h; exact comp_ok comp35
 ·injection h with h; subst h; exact comp_ok comp36
 ·injection h with h; subst h; exact comp_ok comp44
 ·injection h with h; subst h; exact comp_ok comp51
 ·injection h with h; subst h; exact comp_ok comp55
 ·injection h with h; subst h; exact comp_ok comp56
 ·injection h with h; subst h; exact comp_ok comp57
 ·injection h with h; subst h; exact comp_ok comp58
 ·injection h with h; subst h; exact comp_ok comp59
 ·injection h with h; subst h; exact comp_ok comp60
 ·injection h with h; subst h; exact comp_ok comp61
 ·injection h with h; subst h; exact comp_ok comp62
 ·injection h with h; subst h; exact comp_ok comp63
 ·injection h with h; subst h; exact comp_ok comp64
 ·injection h with h; subst h; exact comp_ok comp65
 ·injection h with h; subst h; exact comp_ok comp66
 ·injection h with h; subst h; exact comp_ok comp67
 ·injection h with h; subst h; exact comp_ok comp68
 ·injection h with h; subst h; exact comp_ok comp69
 ·injection h with h; subst h; exact comp_ok comp70
 ·injection h with h; subst h; exact comp_ok comp71
 ·injection h with h; subst h; exact comp_ok comp72
 ·injection h with h; subst h; exact comp_ok comp73
 ·injection h with h; subst h; exact comp_ok comp86
 ·injection h with h; subst h; exact comp_ok comp87
 ·injection h with h; subst h; exact comp_ok comp91
 ·injection h with h; subst h; exact comp_ok comp93
 ·injection h with h; subst h; exact comp_ok comp94
 ·injection h with h; subst h; exact comp_ok comp95
 ·injection h with h; subst h; exact comp_ok comp97
 ·injection h with h; subst h; exact comp_ok comp98
 ·injection h with h; subst h; exact comp_ok comp99
 ·injection h with h; subst h; exact comp_ok comp100
 ·injection h with h; subst h; exact comp_ok comp101
 ·injection h with h; subst h; exact comp_ok comp102
 ·injection h with h; subst h; exact comp_ok comp104
 ·injection h with h; subst h; exact comp_ok comp105
 ·injection h with h; subst h; exact comp_ok comp106
 ·injection h with h; subst h; exact comp_ok comp107
 ·injection h with h; subst h; exact comp_ok comp108
 ·injection h with h; subst h; exact comp_ok comp109
 ·injection h with h; subst h; exact comp_ok comp110
 ·injection h with h; subst h; exact comp_ok comp111
 ·injection h with h; subst h; exact comp_ok comp112
 ·injection h with h; subst h; exact comp_ok comp120
 ·injection h with h; subst h; exact comp_ok comp133
 ·injection h with h; subst h; exact comp_ok comp134
 ·injection h with h; subst h; exact comp_ok comp136
 ·injection h with h; subst h; exact comp_ok comp138
 ·injection h with h; subst h; exact comp_ok comp139
 ·injection h with h; subst h; exact comp_ok comp140
 ·injection h with h; subst h; exact comp_ok comp141
 ·injection h with h; subst h; exact comp_ok comp153
 ·injection h with h; subst h; exact comp_ok comp154
 ·injection h with h; subst h; exact comp_ok comp155
 ·injection h with h; subst h; exact comp_ok comp157
 ·injection h with h; subst h; exact comp_ok comp161
 ·injection h with h; subst h; exact comp_ok comp162
 ·injection h with h; subst h; exact comp_ok comp163
 ·injection h with h; subst h; exact comp_ok comp169
 ·injection h with h; subst h; exact comp_ok comp175
 ·injection h with h; subst h; exact comp_ok comp176
 ·injection h with h; subst h; exact comp_ok comp182
 ·cases h
end Go.Proofs.YtienfdjfochlcaaGreatDoor
end
section
namespace Go.Proofs.YtienfdjfochlcaaGreatDoor
set_option linter.unusedVariables false
set_option linter.unusedSimpArgs false
set_option maxRecDepth 100000
open Go.RowKit
theorem args2 {S : Nat → Nat → Prop} {w : World} {H : List Hd} {vs : Array Value} {x y : AV} (hr : RepL S w H vs [x, y]) : ∃ u v, vs = #[u, v] ∧ Rep S w H u x ∧ Rep S w H v y := by
 obtain ⟨h1, h2⟩ := hr
 match vs, h1 with
 | ⟨[u, v]⟩, _ => exact ⟨u, v, rfl, h2 0 x rfl, h2 1 y rfl⟩
def idxX : List AV → Option AV
 | [.val (.string s), .val (.int .u8 c)] => some (intA (Lib.indexByte s.data.toList c.toNat.toUInt8))
 | _ => none
def hpX : List AV → Option AV
 | [.val (.string s), .val (.string p)] => some (boolA (Lib.hasPrefix (toL s) (toL p)))
 | _ => none
def ctX : List AV → Option AV
 | [.val (.string s), .val (.string p)] => if s.size < 4294967281 then some (.tuple [strL (Lib.cut (toL s) (toL p)).1, strL (Lib.cut (toL s) (toL p)).2.1, boolA (Lib.cut (toL s) (toL p)).2.2]) else none
 | _ => none
def repX : List AV → Option AV
 | [.val (.string s), .val (.int .i64 n)] => if n = 0 then some (strL []) else if n = 1 then some (strL (toL s)) else if 2 ≤ n ∧ n ≤ 200000 ∧ s.size = 1 then some (strL (Lib.repeatL (toL s) n.toNat)) else none
 | _ => none
theorem fr_drew (w : World) (n : Nat) : Fr (fun _ => False) w (w.drewN n) := ⟨rfl, rfl, rfl, Nat.le_refl _, fun _ _ _ => rfl⟩
theorem gr_max {S : Nat → Nat → Prop} {w : World} {H : List Hd} (h : GR S w H) : ∃ k : Int, w.cell? ⟨1, 0, none⟩ = some (.int .i64 k) := by
 obtain ⟨m, h1, -⟩ := h.i 1 (by decide)
 exact ⟨m, h1⟩
theorem rep_t3 {S : Nat → Nat → Prop} {w : World} {H : List Hd} (a b c : Value) : Rep S w H (.tuple #[a, b, c]) (.tuple [.val a, .val b, .val c]) := .tuple rfl fun i y hy => by
 match i, hy with
 | 0, hy => simp at hy; subst hy; exact .val _ _
 | 1, hy => simp at hy; subst hy; exact .val _ _
 | 2, hy => simp at hy; subst hy; exact .val _ _
theorem idxX_ok {vs : List AV} {r : AV} (h : idxX vs = some r) : CallOk Tryz.prog 135 vs r := by
 unfold idxX at h
 split at h
 ·rename_i s c
  injection h with h; subst h
  intro X w cs hX hG hr
  obtain ⟨u, v, rfl, h1, h2⟩ := args2 hr
  obtain rfl := rep_val h1
  obtain rfl := rep_val h2
  exact (Tryz.strings_IndexByte s c w).mono fun e w' ⟨q1, q2⟩ => by subst q1 q2; exact ⟨_, rfl, .val _ _, Fr.refl _ _⟩
 ·cases h
theorem hpX_ok {vs : List AV} {r : AV} (h : hpX vs = some r) : CallOk Tryz.prog 96 vs r := by
 unfold hpX at h
 split at h
 ·rename_i s p
  injection h with h; subst h
  intro X w cs hX hG hr
  obtain ⟨u, v, rfl, h1, h2⟩ := args2 hr
  obtain rfl := rep_val h1
  obtain rfl := rep_val h2
  exact (Tryz.strings_HasPrefix s p w).mono fun e w' ⟨q1, q2⟩ => by subst q1 q2; exact ⟨_, rfl, .val _ _, Fr.refl _ _⟩
 ·cases h
theorem ctX_ok {vs : List AV} {r : AV} (h : ctX vs = some r) : CallOk Tryz.prog 132 vs r := by
 unfold ctX at h
 split at h
 ·rename_i s p
  split at h
  ·rename_i hle
   injection h with h; subst h
   intro X w cs hX hG hr
   obtain ⟨u, v, rfl, h1, h2⟩ := args2 hr
   obtain rfl := rep_val h1
   obtain rfl := rep_val h2
   obtain ⟨m, hm⟩ := gr_max hG
   exact (Tryz.strings_Cut s p m w hle hm).mono fun e w' ⟨q1, n, q2⟩ => by subst q1 q2; exact ⟨_, rfl, rep_t3 _ _ _, fr_drew _ _⟩
  ·cases h
 ·cases h
theorem repX_ok {vs : List AV} {r : AV} (h : repX vs = some r) : CallOk Tryz.prog 137 vs r := by
 unfold repX at h
 split at h
 ·rename_i s n
  split at h
  ·rename_i hn
   injection h with h; subst h hn
   intro X w cs hX hG hr
   obtain ⟨u, v, rfl, h1, h2⟩ := args2 hr
   obtain rfl := rep_val h1
   obtain rfl := rep_val h2
   exact (Tryz.strings_Repeat_zero s w).mono fun e w' ⟨q1, q2⟩ => by subst q1 q2; exact ⟨_, rfl, .val _ _, Fr.refl _ _⟩
  ·split at h
   ·rename_i hn
    injection h with h; subst h hn
    intro X w cs hX hG hr
    obtain ⟨u, v, rfl, h1, h2⟩ := args2 hr
    obtain rfl := rep_val h1
    obtain rfl := rep_val h2
    exact (Tryz.strings_Repeat_one s w).mono fun e w' ⟨q1, q2⟩ => by subst q1 q2; exact ⟨_, rfl, .val _ _, Fr.refl _ _⟩
   ·split at h
    ·rename_i hc
     obtain ⟨c1, c2, c3⟩ := hc
     injection h with h; subst h
     obtain ⟨k, rfl⟩ : ∃ k : Nat, n = k := ⟨n.toNat, by omega⟩
     intro X w cs hX hG hr
     obtain ⟨u, v, rfl, h1, h2⟩ := args2 hr
     obtain rfl := rep_val h1
     obtain rfl := rep_val h2
     exact (Tryz.strings_Repeat_main s k w (by omega) (by omega) (by rw [c3]; omega) (by omega)).mono fun e w' ⟨q1, q2⟩ => by subst q1; exact ⟨_, rfl, .val _ _, Fr.of_below q2⟩
    ·cases h
 ·cases h
def XS : CallF := ⟨fun f vs => if f = 158 then atoiX vs else if f = 135 then idxX vs else if f = 96 then hpX vs else if f = 132 then ctX vs else if f = 137 then repX vs else none, fun _ _ _ => none⟩
theorem XS_ok : CallsOk Tryz.prog XS := by
 refine ⟨fun f vs r h => ?_, fun f vs m r m' h => by cases h⟩
 simp only [XS] at h
 split at h
 ·rename_i hf; subst hf; exact atoiX_ok h
 split at h
 ·rename_i hf; subst hf; exact idxX_ok h
 split at h
 ·rename_i hf; subst hf; exact hpX_ok h
 split at h
 ·rename_i hf; subst hf; exact ctX_ok h
 split at h
 ·rename_i hf; subst hf; exact repX_ok h
 cases h
end Go.Proofs.YtienfdjfochlcaaGreatDoor
end
section
namespace Go.Proofs.YtienfdjfochlcaaGreatDoor
set_option linter.unusedVariables false
set_option linter.unusedSimpArgs false
set_option maxRecDepth 100000
abbrev CS := BitVec 256
def wd (s : CS) (i : Nat) : BitVec 64 := s.extractLsb' (64 * i) 64
def w64 (b : BitVec 64) : AV := .val (.int .u64 (b.toNat : Int))
def encCS (s : CS) : AV := .agg [w64 (wd s 0), w64 (wd s 1), w64 (wd s 2), w64 (wd s 3)]
def bit (c : Nat) : CS := BitVec.twoPow 256 c
theorem wd_get (s : CS) (i j : Nat) : (wd s i).getLsbD j = (decide (j < 64) && s.getLsbD (64 * i + j)) := by
 simp [wd, BitVec.getLsbD_extractLsb']
theorem wd_or (s t : CS) (i : Nat) : wd (s ||| t) i = wd s i ||| wd t i := by
 apply BitVec.eq_of_getLsbD_eq; intro j hj; simp only [wd_get, hj, BitVec.getLsbD_or, decide_true, Bool.true_and]
theorem wd_bit (c i : Nat) (hc : c < 256) : wd (bit c) i = if c / 64 = i then BitVec.twoPow 64 (c % 64) else 0 := by
 apply BitVec.eq_of_getLsbD_eq; intro j hj
 by_cases h : c / 64 = i
 ·rw [if_pos h]
  simp only [wd_get, bit, BitVec.getLsbD_twoPow, hj, decide_true, Bool.true_and]
  have : (64 * i + j = c) ↔ (j = c % 64) := by omega
  have h2 : c % 64 < 64 := Nat.mod_lt _ (by omega)
  simp only [hc, h2, decide_true, Bool.true_and]
  exact decide_eq_decide.2 (by omega)
 ·rw [if_neg h]
  simp only [wd_get, bit, BitVec.getLsbD_twoPow, hj, decide_true, Bool.true_and]
  have : ¬ (c = 64 * i + j) := by omega
  simp [this]
theorem wrap_u64 (n : Nat) (h : n < 2 ^ 64) : IntKind.u64.wrap (n : Int) = (n : Int) := by
 simp only [IntKind.wrap, IntKind.bits, IntKind.signed]
 simp
 omega
theorem bits_and (a b : BitVec 64) : bitX .and .u64 (a.toNat : Int) (b.toNat : Int) = ((a &&& b).toNat : Int) := by
 have h1 : BitVec.ofInt 64 (a.toNat : Int) = a := by rw [BitVec.ofInt_natCast]; simp
 have h2 : BitVec.ofInt 64 (b.toNat : Int) = b := by rw [BitVec.ofInt_natCast]; simp
 rw [bitX_eq]; show IntKind.u64.wrap ((BitVec.ofInt 64 _ &&& BitVec.ofInt 64 _).toNat : Int) = _
 rw [h1, h2, wrap_u64 _ (BitVec.isLt _)]
theorem shl_one (j : Nat) (h : j < 64) : shlW .u64 1 (j : Int) = ((BitVec.twoPow 64 j).toNat : Int) := by
 have h1 : min j 64 = j := by omega
 have h2 : 2 ^ j < 2 ^ 64 := Nat.pow_lt_pow_right (by omega) h
 simp only [shlW, IntKind.bits, Int.toNat_natCast, h1, BitVec.toNat_twoPow, Int.one_mul]
 rw [show ((2 : Int) ^ j) = ((2 ^ j : Nat) : Int) by norm_cast, wrap_u64 _ h2, Nat.mod_eq_of_lt h2]
theorem has_bit (w : BitVec 64) (j : Nat) (h : j < 64) : decide (bitX .and .u64 (shrW .u64 (w.toNat : Int) (j : Int)) 1 = 1) = w.getLsbD j := by
 have h1 : min j 64 = j := by omega
 have e : shrW .u64 (w.toNat : Int) (j : Int) = ((w >>> j).toNat : Int) := by
  simp only [shrW, IntKind.bits, Int.toNat_natCast, h1, BitVec.toNat_ushiftRight, Nat.shiftRight_eq_div_pow]
  rw [Int.fdiv_eq_ediv_of_nonneg _ (Int.pow_nonneg (by omega))]
  norm_cast
 have e1 : (1 : Int) = ((1#64).toNat : Int) := rfl
 rw [e, e1, bits_and]
 have : w.getLsbD j = (w >>> j).getLsbD 0 := by simp
 rw [this]
 have h3 : ((w >>> j) &&& 1#64) = if (w >>> j).getLsbD 0 then 1#64 else 0#64 := by
  apply BitVec.eq_of_getLsbD_eq; intro k hk
  by_cases hk0 : k = 0
  ·subst hk0; rw [BitVec.getLsbD_and]; generalize (w >>> j).getLsbD 0 = b; cases b <;> rfl
  ·rw [BitVec.getLsbD_and]; generalize (w >>> j).getLsbD 0 = b; cases b <;> simp [hk0]
 rw [h3]
 generalize (w >>> j).getLsbD 0 = b; cases b <;> rfl
theorem modI (c : Nat) : (c : Int) % 64 = ((c % 64 : Nat) : Int) := by omega
theorem has_at {s : CS} {c i : Nat} (h : (c : Int) / 64 = (i : Int)) : decide (bitX .and .u64 (shrW .u64 ((wd s i).toNat : Int) ((c : Int) % 64)) 1 = 1) = s.getLsbD c := by
 have hj : c % 64 < 64 := Nat.mod_lt _ (by omega)
 rw [modI, has_bit _ _ hj, wd_get, decide_eq_true hj, Bool.true_and, show 64 * i + c % 64 = c by omega]
theorem wd_add {s : CS} {c : Nat} (hc : c < 256) (i : Nat) : wd (s ||| bit c) i = if c / 64 = i then wd s i ||| BitVec.twoPow 64 (c % 64) else wd s i := by
 rw [wd_or, wd_bit c i hc]
 split
 ·rfl
 ·simp
theorem wd_off {s : CS} {c i : Nat} (hc : c < 256) (h : (c : Int) / 64 ≠ (i : Int)) : ((wd s i).toNat : Int) = ((wd (s ||| bit c) i).toNat : Int) := by
 rw [wd_add hc, if_neg (by omega)]
theorem wd_addI {s : CS} {c i : Nat} (hc : c < 256) (h : (c : Int) / 64 = (i : Int)) (hn : s.getLsbD c = false) : IntKind.u64.wrap (((wd s i).toNat : Int) + shlW .u64 1 ((c : Int) % 64)) = ((wd (s ||| bit c) i).toNat : Int) := by
 have hj : c % 64 < 64 := Nat.mod_lt _ (by omega)
 rw [wd_add hc, if_pos (by omega), modI, shl_one _ hj]
 have h0 : wd s i &&& BitVec.twoPow 64 (c % 64) = 0#64 := by
  apply BitVec.eq_of_getLsbD_eq; intro j hj2
  rw [BitVec.getLsbD_and, BitVec.getLsbD_twoPow, wd_get, BitVec.getLsbD_zero]
  by_cases e : c % 64 = j
  ·rw [show 64 * i + j = c by omega, hn]; simp
  ·simp [e]
 rw [← BitVec.add_eq_or_of_and_eq_zero _ _ h0, BitVec.toNat_add]
 generalize (wd s i).toNat = a
 generalize (BitVec.twoPow 64 (c % 64)).toNat = b
 simp only [IntKind.wrap, IntKind.bits, IntKind.signed]
 simp
theorem bit_mem {s : CS} {c : Nat} (h : s.getLsbD c = true) : s ||| bit c = s := by
 apply BitVec.eq_of_getLsbD_eq; intro j hj
 rw [BitVec.getLsbD_or, bit, BitVec.getLsbD_twoPow]
 by_cases e : c = j
 ·subst e; rw [h]; rfl
 ·simp [e]
def setOf (l : Bs) : CS := l.foldl (fun s c => s ||| bit c.toNat) 0
theorem setOf_succ {l : Bs} {k : Nat} {c : UInt8} (h : l[k]? = some c) : setOf (l.take (k + 1)) = setOf (l.take k) ||| bit c.toNat := by
 obtain ⟨hk, rfl⟩ := get_of h
 rw [List.take_succ_eq_append_getElem hk, setOf, List.foldl_append]; rfl
theorem setOf_snoc (l : Bs) (c : UInt8) : setOf (l ++ [c]) = setOf l ||| bit c.toNat := by rw [setOf, List.foldl_append]; rfl
theorem bit_get (c j : Nat) (hc : c < 256) : (bit c).getLsbD j = decide (c = j) := by
 rw [bit, BitVec.getLsbD_twoPow, decide_eq_true hc, Bool.true_and]
theorem setOf_fold (l : Bs) (s : CS) (j : Nat) : (l.foldl (fun s c => s ||| bit c.toNat) s).getLsbD j = (s.getLsbD j || l.any (fun c => decide (c.toNat = j))) := by
 induction l generalizing s with
 | nil => simp
 | cons c l ih => rw [List.foldl_cons, ih, BitVec.getLsbD_or, bit_get _ _ c.toNat_lt, List.any_cons, Bool.or_assoc]
theorem setOf_get (l : Bs) (j : Nat) : (setOf l).getLsbD j = l.any (fun c => decide (c.toNat = j)) := by
 rw [setOf, setOf_fold]; simp
def setK (p : Nat → Bool) : Nat → CS
 | 0 => 0
 | k + 1 => if p k then setK p k ||| bit k else setK p k
def rngS (lo hi : Nat) : CS := setK (fun j => decide (lo ≤ j)) (hi + 1)
def cmb (kind : Int) (s t : CS) (j : Nat) : Bool := decide (kind = 0) && (s.getLsbD j && t.getLsbD j) || decide (kind = 1) && (s.getLsbD j || t.getLsbD j) || decide (kind = 2) && (s.getLsbD j && !t.getLsbD j)
end Go.Proofs.YtienfdjfochlcaaGreatDoor
end
section
namespace Go.Proofs.YtienfdjfochlcaaGreatDoor
set_option linter.unusedVariables false
set_option linter.unusedSimpArgs false
set_option maxRecDepth 100000
set_option maxHeartbeats 4000000
section
variable {X : CallF}
theorem has2_run (s : CS) (c : UInt8) : (R FT X).f 33 [encCS s, u8A c] = some (boolA (s.getLsbD c.toNat)) := by
 refine R_wp (Tr.k 0 ((Tr.k 0 Tr.nil.w).br ((Tr.k 0 Tr.nil.w).br ((Tr.k 0 Tr.nil.w).br (Tr.b true (Tr.k 0 Tr.nil.w)))))) rfl ?_
 refine Eq.mpr (by kernel_rfl : _ = ((0 : Int) ≤ (↑c.toNat : Int) ∧ (0 : Int) < 64 ∧ (↑c.toNat : Int) ≤ 255 ∧ ((↑c.toNat : Int) / (64 : Int) = 0 → (0 : Int) ≤ (↑c.toNat : Int) ∧ (0 : Int) < 64 ∧ (0 : Int) ≤ (↑c.toNat : Int) % (64 : Int) ∧ decide (bitX BinOp.and IntKind.u64 (shrW IntKind.u64 (↑(wd s (0 : Nat)).toNat : Int) ((↑c.toNat : Int) % (64 : Int))) (1 : Int) = 1) = BitVec.getLsbD s c.toNat) ∧ ((↑c.toNat : Int) / (64 : Int) ≠ 0 → ((↑c.toNat : Int) / (64 : Int) = 1 → (0 : Int) ≤ (↑c.toNat : Int) ∧ (0 : Int) < 64 ∧ (0 : Int) ≤ (↑c.toNat : Int) % (64 : Int) ∧ decide (bitX BinOp.and IntKind.u64 (shrW IntKind.u64 (↑(wd s (1 : Nat)).toNat : Int) ((↑c.toNat : Int) % (64 : Int))) (1 : Int) = 1) = BitVec.getLsbD s c.toNat) ∧ ((↑c.toNat : Int) / (64 : Int) ≠ 1 → ((↑c.toNat : Int) / (64 : Int) = 2 → (0 : Int) ≤ (↑c.toNat : Int) ∧ (0 : Int) < 64 ∧ (0 : Int) ≤ (↑c.toNat : Int) % (64 : Int) ∧ decide (bitX BinOp.and IntKind.u64 (shrW IntKind.u64 (↑(wd s (2 : Nat)).toNat : Int) ((↑c.toNat : Int) % (64 : Int))) (1 : Int) = 1) = BitVec.getLsbD s c.toNat) ∧ ((↑c.toNat : Int) / (64 : Int) ≠ 2 → (↑c.toNat : Int) / (64 : Int)
 = (3 : Int) ∧ (0 : Int) ≤ (↑c.toNat : Int) ∧ (0 : Int) < 64 ∧ (0 : Int) ≤ (↑c.toNat : Int) % (64 : Int) ∧ decide (bitX BinOp.and IntKind.u64 (shrW IntKind.u64 (↑(wd s (3 : Nat)).toNat : Int) ((↑c.toNat : Int) % (64 : Int))) (1 : Int) = 1) = BitVec.getLsbD s c.toNat))))) ?_
 refine ⟨(by omega), (by omega), (by have := u8_lt c; omega), fun h1 => ⟨(by omega), (by omega), (by omega), ?_⟩, fun h2 => ⟨fun h3 => ⟨(by omega), (by omega), (by omega), ?_⟩, fun h4 => ⟨fun h5 => ⟨(by omega), (by omega), (by omega), ?_⟩, fun h6 => ⟨(by have := u8_lt c; omega), (by omega), (by omega), (by omega), ?_⟩⟩⟩⟩
 ·exact has_at h1
 ·exact has_at h3
 ·exact has_at h5
 ·have := u8_lt c
  exact has_at (i := 3) (by omega)
theorem with2_run (s : CS) (c : UInt8) : (R FT X).f 71 [encCS s, u8A c] = some (encCS (s ||| bit c.toNat)) := by
 refine R_wp ((Tr.c (boolA (BitVec.getLsbD s c.toNat)) ((Tr.k 0 (Tr.k 0 ((Tr.k 0 (Tr.b true Tr.nil).w).br ((Tr.k 0 (Tr.b false (Tr.b true Tr.nil)).w).br ((Tr.k 0 (Tr.b false (Tr.b false (Tr.b true Tr.nil))).w).br (Tr.b true (Tr.k 0 (Tr.b false (Tr.b false (Tr.b false (Tr.b true Tr.nil)))).w))))))).br Tr.nil).w).w) rfl ?_
 refine Eq.mpr (by kernel_rfl : _ = ((R FT X).f 33 [encCS s, u8A c] = some (boolA (BitVec.getLsbD s c.toNat)) ∧ ((!BitVec.getLsbD s c.toNat) = true → (0 : Int) ≤ (↑c.toNat : Int) ∧ (0 : Int) < 64 ∧ (↑c.toNat : Int) ≤ 255 ∧ (0 : Int) ≤ (↑c.toNat : Int) ∧ (0 : Int) < 64 ∧ (↑c.toNat : Int) ≤ 255 ∧ ((↑c.toNat : Int) / (64 : Int) = 0 → (0 : Int) ≤ (↑c.toNat : Int) ∧ (0 : Int) < 64 ∧ (0 : Int) ≤ (↑c.toNat : Int) % (64 : Int) ∧ (↑c.toNat : Int) / (64 : Int) = 0 ∧ IntKind.u64.wrap ((↑(wd s (0 : Nat)).toNat : Int) + shlW IntKind.u64 (1 : Int) ((↑c.toNat : Int) % (64 : Int))) = (↑(wd (s ||| bit c.toNat) (0 : Nat)).toNat : Int) ∧ (↑(wd s (1 : Nat)).toNat : Int) = (↑(wd (s ||| bit c.toNat) (1 : Nat)).toNat : Int) ∧ (↑(wd s (2 : Nat)).toNat : Int) = (↑(wd (s ||| bit c.toNat) (2 : Nat)).toNat : Int) ∧ (↑(wd s (3 : Nat)).toNat : Int) = (↑(wd (s ||| bit c.toNat) (3 : Nat)).toNat : Int)) ∧ ((↑c.toNat : Int) / (64 : Int) ≠ 0 → ((↑c.toNat : Int) / (64 : Int) = 1 → (0 : Int) ≤ (↑c.toNat : Int) ∧ (0 : Int) < 64 ∧ (0 : Int) ≤ (↑c.toNat : Int) % (64 : Int) ∧ (↑c.toNat : Int) / (64 : Int) ≠ 0 ∧ (↑c.toNat : Int) / (64 : Int) = 1 ∧ (↑(wd s
 (0 : Nat)).toNat : Int) = (↑(wd (s ||| bit c.toNat) (0 : Nat)).toNat : Int) ∧ IntKind.u64.wrap ((↑(wd s (1 : Nat)).toNat : Int) + shlW IntKind.u64 (1 : Int) ((↑c.toNat : Int) % (64 : Int))) = (↑(wd (s ||| bit c.toNat) (1 : Nat)).toNat : Int) ∧ (↑(wd s (2 : Nat)).toNat : Int) = (↑(wd (s ||| bit c.toNat) (2 : Nat)).toNat : Int) ∧ (↑(wd s (3 : Nat)).toNat : Int) = (↑(wd (s ||| bit c.toNat) (3 : Nat)).toNat : Int)) ∧ ((↑c.toNat : Int) / (64 : Int) ≠ 1 → ((↑c.toNat : Int) / (64 : Int) = 2 → (0 : Int) ≤ (↑c.toNat : Int) ∧ (0 : Int) < 64 ∧ (0 : Int) ≤ (↑c.toNat : Int) % (64 : Int) ∧ (↑c.toNat : Int) / (64 : Int) ≠ 0 ∧ (↑c.toNat : Int) / (64 : Int) ≠ 1 ∧ (↑c.toNat : Int) / (64 : Int) = 2 ∧ (↑(wd s (0 : Nat)).toNat : Int) = (↑(wd (s ||| bit c.toNat) (0 : Nat)).toNat : Int) ∧ (↑(wd s (1 : Nat)).toNat : Int) = (↑(wd (s ||| bit c.toNat) (1 : Nat)).toNat : Int) ∧ IntKind.u64.wrap ((↑(wd s (2 : Nat)).toNat : Int) + shlW IntKind.u64 (1 : Int) ((↑c.toNat : Int) % (64 : Int))) = (↑(wd (s ||| bit c.toNat) (2 : Nat)).toNat : Int) ∧ (↑(wd s (3 : Nat)).toNat : Int) = (↑(wd (s ||| bit c.toNat) (3 : Nat)).toNat : Int)) ∧ ((↑c.toNat : Int) / (64 : Int) ≠ (2 :
 Int) → (↑c.toNat : Int) / (64 : Int) = 3 ∧ (0 : Int) ≤ (↑c.toNat : Int) ∧ (0 : Int) < 64 ∧ (0 : Int) ≤ (↑c.toNat : Int) % (64 : Int) ∧ (↑c.toNat : Int) / (64 : Int) ≠ 0 ∧ (↑c.toNat : Int) / (64 : Int) ≠ 1 ∧ (↑c.toNat : Int) / (64 : Int) ≠ 2 ∧ (↑c.toNat : Int) / (64 : Int) = 3 ∧ (↑(wd s (0 : Nat)).toNat : Int) = (↑(wd (s ||| bit c.toNat) (0 : Nat)).toNat : Int) ∧ (↑(wd s (1 : Nat)).toNat : Int) = (↑(wd (s ||| bit c.toNat) (1 : Nat)).toNat : Int) ∧ (↑(wd s (2 : Nat)).toNat : Int) = (↑(wd (s ||| bit c.toNat) (2 : Nat)).toNat : Int) ∧ IntKind.u64.wrap ((↑(wd s (3 : Nat)).toNat : Int) + shlW IntKind.u64 (1 : Int) ((↑c.toNat : Int) % (64 : Int))) = (↑(wd (s ||| bit c.toNat) (3 : Nat)).toNat : Int))))) ∧ ((!BitVec.getLsbD s c.toNat) = false → (↑(wd s (0 : Nat)).toNat : Int) = (↑(wd (s ||| bit c.toNat) (0 : Nat)).toNat : Int) ∧ (↑(wd s (1 : Nat)).toNat : Int) = (↑(wd (s ||| bit c.toNat) (1 : Nat)).toNat : Int) ∧ (↑(wd s (2 : Nat)).toNat : Int) = (↑(wd (s ||| bit c.toNat) (2 : Nat)).toNat : Int) ∧ (↑(wd s (3 : Nat)).toNat : Int) = (↑(wd (s ||| bit c.toNat) (3 : Nat)).toNat : Int)))) ?_
 refine ⟨(has2_run _ _), fun h1_ => have h1 := nT h1_; ⟨(by omega), (by omega), (by have := u8_lt c; omega), (by omega), (by omega), (by have := u8_lt c; omega), fun h2 => ⟨(by omega), (by omega), (by omega), h2, ?_, ?_, ?_, ?_⟩, fun h3 => ⟨fun h4 => ⟨(by omega), (by omega), (by omega), h3, h4, ?_, ?_, ?_, ?_⟩, fun h5 => ⟨fun h6 => ⟨(by omega), (by omega), (by omega), h3, h5, h6, ?_, ?_, ?_, ?_⟩, fun h7 => ⟨(by have := u8_lt c; omega), (by omega), (by omega), (by omega), h3, h5, h7, (by have := u8_lt c; omega), ?_, ?_, ?_, ?_⟩⟩⟩⟩, fun h8_ => have h8 := nF h8_; ⟨?_, ?_, ?_, ?_⟩⟩
 all_goals first
  | (rw [bit_mem (by assumption)]; done)
  | exact wd_off c.toNat_lt (by omega)
  | (have hb := u8_lt c; exact wd_addI c.toNat_lt (by omega) h1)
theorem of2_run (l : Bs) (hl : l.length ≤ maxLen) : (R FT X).f 32 [strL l] = some (encCS (setOf l)) := by
 have hm := maxLen_i64
 refine R_wp ((Tr.inv (fun (k : Nat) ↦ St.mk [(0, strL l), (2, AV.ptr 0 0), (3, AV.ptr 1 0), (4, intA (↑k : Int))] [MObj.box 52 [w64 (0 : BitVec (64 : Nat)), w64 (0 : BitVec (64 : Nat)), w64 (0 : BitVec (64 : Nat)), w64 (0 : BitVec (64 : Nat))], MObj.box 52 [w64 (wd (setOf (List.take k l)) (0 : Nat)), w64 (wd (setOf (List.take k l)) (1 : Nat)), w64 (wd (setOf (List.take k l)) (2 : Nat)), w64 (wd (setOf (List.take k l)) (3 : Nat))]]) (fun (k : Nat) ↦ k ≤ List.length l) (fun (k : Nat) ↦ List.length l - k) fun (k : Nat) ↦ ((Tr.y k fun (c4 : UInt8) ↦ Tr.c (encCS (setOf (List.take k l) ||| bit c4.toNat)) Tr.nil.w).w.br Tr.nil).w).w) rfl ?_
 refine Eq.mpr (by kernel_rfl : _ = ((∃ (j1 : Nat), ((l = l ∧ True ∧ True ∧ (0 : Int) = (↑j1 : Int) ∧ True) ∧ ((0 : Int) = 0 ∧ (0 : Int) = 0 ∧ (0 : Int) = 0 ∧ (0 : Int) = 0) ∧ (0 : Int) = (↑(wd (setOf (List.take j1 l)) (0 : Nat)).toNat : Int) ∧ (0 : Int) = (↑(wd (setOf (List.take j1 l)) (1 : Nat)).toNat : Int) ∧ (0 : Int) = (↑(wd (setOf (List.take j1 l)) (2 : Nat)).toNat : Int) ∧ (0 : Int) = (↑(wd (setOf (List.take j1 l)) (3 : Nat)).toNat : Int)) ∧ j1 ≤ List.length l) ∧ ∀ (k : Nat), k ≤ List.length l → (decide ((↑k : Int) < (↑(List.length l) : Int)) = true → (↑k : Int) = (↑k : Int) ∧ k < List.length l ∧ ∀ (c4 : UInt8), l[k]? = some c4 → (R FT X).f 71 [encCS (setOf (List.take k l)), u8A c4] = some (encCS (setOf (List.take k l) ||| bit c4.toNat)) ∧ InI64 ((↑k : Int) + 1) ∧ ∃ (j6 : Nat), ((l = l ∧ True ∧ True ∧ (↑k : Int) + 1 = (↑j6 : Int) ∧ True) ∧ ((0 : Int) = 0 ∧ (0 : Int) = 0 ∧ (0 : Int) = 0 ∧ (0 : Int) = 0) ∧ (↑(wd (setOf (List.take k l) ||| bit c4.toNat) (0 : Nat)).toNat : Int) = (↑(wd (setOf (List.take j6 l)) (0 : Nat)).toNat : Int) ∧ (↑(wd (setOf (List.take k l) ||| bit c4.toNat) (1 : Nat)).toNat : Int) = (↑(wd (setOf (List.take
 j6 l)) (1 : Nat)).toNat : Int) ∧ (↑(wd (setOf (List.take k l) ||| bit c4.toNat) (2 : Nat)).toNat : Int) = (↑(wd (setOf (List.take j6 l)) (2 : Nat)).toNat : Int) ∧ (↑(wd (setOf (List.take k l) ||| bit c4.toNat) (3 : Nat)).toNat : Int) = (↑(wd (setOf (List.take j6 l)) (3 : Nat)).toNat : Int)) ∧ j6 ≤ List.length l ∧ List.length l - j6 < List.length l - k) ∧ (decide ((↑k : Int) < (↑(List.length l) : Int)) = false → (↑(wd (setOf (List.take k l)) (0 : Nat)).toNat : Int) = (↑(wd (setOf l) (0 : Nat)).toNat : Int) ∧ (↑(wd (setOf (List.take k l)) (1 : Nat)).toNat : Int) = (↑(wd (setOf l) (1 : Nat)).toNat : Int) ∧ (↑(wd (setOf (List.take k l)) (2 : Nat)).toNat : Int) = (↑(wd (setOf l) (2 : Nat)).toNat : Int) ∧ (↑(wd (setOf (List.take k l)) (3 : Nat)).toNat : Int) = (↑(wd (setOf l) (3 : Nat)).toNat : Int)))) ?_
 refine ⟨⟨(0 : Nat), ⟨⟨rfl, trivial, trivial, (by omega), trivial⟩, ⟨rfl, rfl, rfl, rfl⟩, rfl, ?_, ?_, ?_⟩, (by omega)⟩, fun k => fun h2 => ⟨fun h3_ => have h3 := dT h3_; ⟨rfl, (by omega), fun c4 => fun h5 => ⟨(with2_run _ _), (by unfold InI64; omega), ⟨k + (1 : Nat), ⟨⟨rfl, trivial, trivial, (by omega), trivial⟩, ⟨rfl, rfl, rfl, rfl⟩, ?_, ?_, ?_, ?_⟩, ⟨(by omega), (by omega)⟩⟩⟩⟩, fun h7_ => have h7 := dF h7_; ⟨?_, ?_, ?_, ?_⟩⟩⟩
 iterate 3 · rw [List.take_zero]; decide
 any_goals (rw [setOf_succ h5])
 all_goals rw [List.take_of_length_le (by omega)]
theorem toU8_k {k : Nat} (h : k < 256) : (toU8 (k : Int)).toNat = k := by
 unfold toU8
 rw [UInt8.toNat_ofNat']
 omega
def rngP (lo : UInt8) (j : Nat) : Bool := decide (lo.toNat ≤ j)
end
end Go.Proofs.YtienfdjfochlcaaGreatDoor
end
section
namespace Go.Proofs.YtienfdjfochlcaaGreatDoor
set_option linter.unusedVariables false
set_option linter.unusedSimpArgs false
theorem u8A_cell (c : UInt8) : (u8A c).isCell = true := rfl
theorem u8A_gr (c : UInt8) : (u8A c).grCell = true := rfl
theorem bytes_cell (l : List UInt8) : (l.map u8A).all AV.isCell = true := by simp [u8A_cell]
theorem bytes_gr (l : List UInt8) : (l.map u8A).all AV.grCell = true := by simp [u8A_gr]
theorem agg_cells (l : List AV) : (AV.agg l).cells = l := rfl
theorem eqCell_u8 (c : UInt8) : eqCell (u8A c) (u8A c) := by
 show eqVal (.int .u8 c.toNat) (.int .u8 c.toNat)
 simp [eqVal]
theorem eqCells_u8 : ∀ l : List UInt8, eqCells (l.map u8A) (l.map u8A)
 | [] => trivial
 | [x] => eqCell_u8 x
 | x :: y :: l => ⟨eqCell_u8 x, eqCells_u8 (y :: l)⟩
theorem eqCells_u8' {a b : List AV} {l : List UInt8} (ha : a = l.map u8A) (hb : b = l.map u8A) : eqCells a b := by
 rw [ha, hb]; exact eqCells_u8 l
theorem setAt_one (l : List UInt8) (i : Nat) (c : UInt8) (h : i < l.length) : setAt (l.map u8A) i [u8A c] = (l.set i c).map u8A := by
 rw [List.map_set, List.set_eq_take_append_cons_drop, if_pos (by rw [List.length_map]; exact h)]
 simp [setAt]
theorem setAt_all (l l' : List AV) (h : l.length = l'.length) : setAt l 0 l' = l' := by
 simp [setAt, ← h]
theorem setAt_head (A B C : List AV) (n : Nat) (hn : n = 0) (h : A.length = C.length) : setAt (A ++ B) n C = C ++ B := by
 subst hn
 simp only [setAt, List.take_zero, List.nil_append, Nat.zero_add, ← h, List.drop_left]
theorem setAt_tail (A B C E : List AV) (n k : Nat) (hk : A.length = k) (hn : k ≤ n) (h : setAt B (n - k) C = E) : setAt (A ++ B) n C = A ++ E := by
 subst h hk
 simp only [setAt, List.take_append, List.drop_append, List.take_of_length_le hn, List.append_assoc]
 rw [List.drop_eq_nil_of_le (by omega : A.length ≤ n + C.length), List.nil_append, show n + C.length - A.length = n - A.length + C.length by omega]
theorem drop_tail (A B : List AV) (n k : Nat) (hk : A.length = k) (hn : k ≤ n) : (A ++ B).drop n = B.drop (n - k) := by
 subst hk
 rw [List.drop_append, List.drop_eq_nil_of_le hn, List.nil_append]
theorem bt_get {M : List UInt8} (h : M.length = 256) (B : List AV) (n k : Nat) (hn : 256 ≤ n) : List.take k (List.drop n (M.map u8A ++ B)) = List.take k (List.drop (n - 256) B) := by
 rw [drop_tail _ _ n 256 (by rw [List.length_map, h]) hn]
theorem bt_set {M : List UInt8} (h : M.length = 256) (B C E : List AV) (n : Nat) (hn : 256 ≤ n) (he : setAt B (n - 256) C = E) : setAt (M.map u8A ++ B) n C = M.map u8A ++ E := setAt_tail _ _ _ _ _ _ (by rw [List.length_map, h]) hn he
theorem nilCells_nil (l : List AV) : nilCells [] l = l := by unfold nilCells; rfl
theorem rep_u8 (n : Nat) : List.replicate n (AV.val (.int .u8 0)) = (List.replicate n (0 : UInt8)).map u8A := by
 rw [List.map_replicate]; rfl
def tbU (k : Nat) : List UInt8 := (List.range 256).map fun i => if i < k then UInt8.ofNat i else 0
theorem tbU_len (k : Nat) : (tbU k).length = 256 := by simp [tbU]
theorem tbU_zero : List.replicate 256 (0 : UInt8) = tbU 0 := by
 refine List.ext_getElem (by rw [List.length_replicate, tbU_len]) fun i h1 h2 => ?_
 simp only [List.getElem_replicate, tbU, List.getElem_map, List.getElem_range]
 rw [if_neg (by omega)]
theorem tbU_succ (k : Nat) : (tbU k).set k (UInt8.ofNat k) = tbU (k + 1) := by
 refine List.ext_getElem (by simp [tbU_len]) fun i h1 h2 => ?_
 rw [List.getElem_set]
 simp only [tbU, List.getElem_map, List.getElem_range]
 by_cases h : k = i
 ·subst h; rw [if_pos rfl, if_pos (by omega)]
 ·rw [if_neg h]
  by_cases h' : i < k
  ·rw [if_pos h', if_pos (by omega)]
  ·rw [if_neg h', if_neg (by omega)]
theorem tbU_all : tbU 256 = (List.range 256).map UInt8.ofNat := by
 refine List.map_congr_left fun i hi => ?_
 rw [if_pos (by simpa using hi)]
end Go.Proofs.YtienfdjfochlcaaGreatDoor
end
