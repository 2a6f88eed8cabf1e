/- The abstract machine: what it answers, the model's call returns. -/
import Derived.Test.YtejajmmacmcijaaAm17
namespace Go.Proofs.Ytejajmmacmcijaa

/-- how a piece of code ends -/
def PostE (X : Nat → Nat → Prop) (w0 : World) (N : Nat) (r : AExit × St) (e : Exit) (a : Act) (w : World) : Prop :=
  (match r.1, e with
    | .normal, .normal => True
    | .exit i, .exit j => i = j
    | .ret, .ret => True
    | _, _ => False) ∧ ∃ H, SR X w0 N r.2 a w H

theorem exists_least {p : Nat → Prop} : ∀ n : Nat, p n → ∃ n, p n ∧ ∀ k, p k → n ≤ k := by
  intro n
  induction n using Nat.strongRecOn with
  | _ n ih =>
    intro hn
    by_cases h : ∃ k, k < n ∧ p k
    · obtain ⟨k, hk, hp⟩ := h
      exact ih k hk hp
    · exact ⟨n, hn, fun k hk => Nat.le_of_not_lt fun hlt => h ⟨k, hlt, hk⟩⟩
/-- the least number with a property -/
noncomputable def sInfN (p : Nat → Prop) : Nat := by
  classical
  exact if h : ∃ n, p n ∧ ∀ k, p k → n ≤ k then h.choose else 0
theorem sInfN_spec {p : Nat → Prop} {n : Nat} (h : p n) : p (sInfN p) ∧ ∀ k, p k → sInfN p ≤ k := by
  classical
  have hex := exists_least n h
  have e : sInfN p = hex.choose := by unfold sInfN; rw [dif_pos hex]
  rw [e]
  exact hex.choose_spec

section
variable {P : Program} {X : Nat → Nat → Prop} {w0 w w' : World} {N : Nat} {st : St} {a : Act} {m : List MObj} {H : List Hd} {d : Option Nat}

theorem PostE.normal {st : St} (h : SR X w0 N st a w H) : PostE X w0 N (.normal, st) .normal a w := ⟨trivial, H, h⟩

theorem code_sound {call : CallF} {loop : LoopF} {hn : Hints} (hcall : ∀ f vs r, call f vs = some r → CallOk P f vs r)
    (hloop : ∀ code c keep st r, compCode P hn N code = some c → loop c keep st = some r → ∀ a w H, SR X w0 N st a w H → (Code.loop code).wp P (PostE X w0 N r) a w) :
    ∀ (code : Code) (ac : ACode), compCode P hn N code = some ac → ∀ st r, aexec call loop ac st = some r → ∀ a w H, SR X w0 N st a w H → code.wp P (PostE X w0 N r) a w := by
  intro code
  induction code with
  | skip =>
    intro ac hc st r hr a w H hs
    simp only [compCode, Option.some.injEq] at hc; subst hc
    simp only [aexec, Option.some.injEq] at hr; subst hr
    exact wp_skip (.normal hs)
  | label l =>
    intro ac hc st r hr a w H hs
    simp only [compCode, Option.some.injEq] at hc; subst hc
    simp only [aexec, Option.some.injEq] at hr; subst hr
    exact wp_label (.normal hs)
  | exit id =>
    intro ac hc st r hr a w H hs
    simp only [compCode, Option.some.injEq] at hc; subst hc
    simp only [aexec, Option.some.injEq] at hr; subst hr
    exact wp_exit ⟨rfl, H, hs⟩
  | ret =>
    intro ac hc st r hr a w H hs
    simp only [compCode, Option.some.injEq] at hc; subst hc
    simp only [aexec, Option.some.injEq] at hr; subst hr
    exact wp_ret ⟨trivial, H, hs⟩
  | seq x y ihx ihy =>
    intro ac hc st r hr a w H hs
    simp only [compCode] at hc
    split at hc
    · rename_i cx cy hx hy
      injection hc with hc; subst hc
      simp only [aexec] at hr
      refine wp_seq ?_
      split at hr
      · rename_i st1 h1
        refine wp_mono (ihx cx hx st _ h1 a w H hs) fun e a' w' ⟨he, H', hs'⟩ => ?_
        cases e <;> simp only at he
        exact ihy cy hy st1 r hr a' w' H' hs'
      · rename_i hne
        rcases hq : aexec call loop cx st with _ | ⟨ex, st1⟩
        · rw [hq] at hr; cases hr
        · rw [hq] at hr
          injection hr with hr
          refine wp_mono (ihx cx hx st _ hq a w H hs) fun e a' w' ⟨he, H', hs'⟩ => ?_
          cases ex with
          | normal => exact absurd hq (hne st1)
          | exit i =>
            cases e <;> simp only at he
            exact hr ▸ ⟨he, H', hs'⟩
          | ret =>
            cases e <;> simp only at he
            exact hr ▸ ⟨trivial, H', hs'⟩
    · cases hc
  | cond c x y ihx ihy =>
    intro ac hc st r hr a w H hs
    simp only [compCode] at hc
    split at hc
    · rename_i cx cy hx hy
      injection hc with hc; subst hc
      simp only [aexec] at hr
      have hev := rep_ev hs.frm c
      split at hr
      · rename_i ht
        rw [ht] at hev
        exact wp_cond_true (rep_val hev) (ihx cx hx st r hr a w H hs)
      · rename_i ht
        rw [ht] at hev
        exact wp_cond_false (rep_val hev) (ihy cy hy st r hr a w H hs)
      · cases hr
    · cases hc
  | block id c ih =>
    intro ac hc st r hr a w H hs
    simp only [compCode, Option.map_eq_some_iff] at hc
    obtain ⟨cc, hcc, rfl⟩ := hc
    simp only [aexec] at hr
    refine wp_block ?_
    split at hr
    · rename_i i st1 h1
      refine wp_mono (ih cc hcc st _ h1 a w H hs) fun e a' w' ⟨he, H', hs'⟩ => ?_
      cases e <;> simp only at he
      subst he
      simp only [Exit.inBlock]
      split at hr
      · rename_i hid
        injection hr with hr; subst hr
        rw [if_pos hid]
        exact ⟨trivial, H', hs'⟩
      · rename_i hid
        injection hr with hr; subst hr
        rw [if_neg hid]
        exact ⟨rfl, H', hs'⟩
    · rename_i hne
      rcases hq : aexec call loop cc st with _ | ⟨ex, st1⟩
      · rw [hq] at hr; cases hr
      · rw [hq] at hr
        injection hr with hr
        refine wp_mono (ih cc hcc st _ hq a w H hs) fun e a' w' ⟨he, H', hs'⟩ => ?_
        cases ex with
        | normal =>
          cases e <;> simp only at he
          exact hr ▸ ⟨trivial, H', hs'⟩
        | exit i => exact absurd hq (hne i st1)
        | ret =>
          cases e <;> simp only at he
          exact hr ▸ ⟨trivial, H', hs'⟩
  | loop c ih =>
    intro ac hc st r hr a w H hs
    simp only [compCode, Option.map_eq_some_iff] at hc
    obtain ⟨cc, hcc, rfl⟩ := hc
    simp only [aexec] at hr
    obtain ⟨H', hs'⟩ := hs.norm (assocL hn.keeps (firstId c))
    exact hloop c cc _ _ r hcc hr a w H' hs'
  | region id ops draw =>
    intro ac hc st r hr a w H hs
    simp only [compCode] at hc
    split at hc
    · rename_i l hl
      split at hc
      · rename_i hd
        subst hd
        split at hc
        · split at hc
          · rename_i hB
            injection hc with hc; subst hc
            simp only [Bool.and_eq_true] at hB
            simp only [aexec] at hr
            split at hr
            · rename_i fr hq
              simp only [runOps] at hr
              injection hr with hr; subst hr
              have hf1 : Fr (fun _ => False) w { w with drawn := w.drawn + 1 } := ⟨rfl, rfl, rfl, Nat.le_refl _, fun _ _ _ => rfl⟩
              refine wp_region_quiet (C := fun w' => Fr (fun _ => False) { w with drawn := w.drawn + 1 } w') hB.2 hB.1 (Fr.refl _ _) ?_
              exact quiet_sound hcall ops.toList l st.fr fr a hl hq (hs.ext hf1) fun a' hs' w' hw' => ⟨trivial, H, (hs'.ext hw').drop _⟩
            · cases hr
          · cases hc
        · rename_i n hn'
          split at hc
          · rename_i hB
            injection hc with hc; subst hc
            simp only [Bool.and_eq_true] at hB
            simp only [aexec] at hr
            split at hr
            · rename_i fr hq
              split at hr
              · rename_i st1 ht
                injection hr with hr; subst hr
                have hf1 : Fr (fun _ => False) w { w with drawn := w.drawn + 1 } := ⟨rfl, rfl, rfl, Nat.le_refl _, fun _ _ _ => rfl⟩
                obtain ⟨s1, s2⟩ := compOps_split ops.toList l n hl
                have hop : ops.toList.toArray = ops := Array.toArray_toList
                have := wp_region_still_tail (P := P) (id := id) (Q := PostE X w0 N (.normal, ⟨dropF (assocL hn.drops id) st1.fr, st1.m⟩)) (a := a) (w := w) (l := ops.toList) n hB.1.2 (by rw [hop]; exact hB.1.1) (by
                  rw [hop]
                  refine still_sound (call := call) (ops.toList.take n) (l.take n) st.fr fr a (by simpa using hB.2) s1 hq (hs.ext hf1) fun a' hs' => ?_
                  exact runOps_sound hcall (ops.toList.drop n) (l.drop n) _ st1 a' _ H s2 ht hs' fun a'' w'' H'' hs'' => ⟨trivial, H'', hs''.drop _⟩)
                rw [hop] at this
                exact this
              · cases hr
            · cases hr
          · cases hc
      · rename_i hd
        have hd : draw = false := by simpa using hd
        subst hd
        injection hc with hc; subst hc
        simp only [aexec] at hr
        split at hr
        · rename_i st1 h1
          injection hr with hr; subst hr
          exact wp_region_list (runOps_sound hcall ops.toList l st st1 a w H hl h1 hs fun a' w' H' hs' => ⟨trivial, H', hs'.drop _⟩)
        · cases hr
    · cases hc
  | rangeFunc f ps x y _ _ => intro ac hc; simp [compCode] at hc
  | scope c _ => intro ac hc; simp [compCode] at hc
  | goto l => intro ac hc; simp [compCode] at hc
  | refuse s => intro ac hc; simp [compCode] at hc

theorem results_sound {st : St} (hs : SR X w0 N st a w H) : ∀ (l : List ResultVar) (al : List ARes) (rs : List AV), compResL P l = some al → resL st al = some rs →
    ∃ vs : List Value, (l.mapM (fun (x : ResultVar) => (match x with | .tmp t => pure (a.tmps.getD t undef) | .cell t ty => do loadVar ty (← asAddr (a.tmps.getD t undef)) : Sem Value))).run P w = .ok vs w ∧ vs.length = rs.length ∧ ∀ (i : Nat) (y : AV), rs[i]? = some y → Rep (Stab X [] w) w [] (vs.getD i undef) y
  | [], al, rs, hc, hr => by
    simp [compResL] at hc; subst hc
    simp [resL] at hr; subst hr
    exact ⟨[], by simp, rfl, fun i y hy => by simp at hy⟩
  | x :: l, al, rs, hc, hr => by
    simp only [compResL] at hc
    split at hc
    · rename_i ax al' hx hl
      injection hc with hc; subst hc
      simp only [resL] at hr
      split at hr
      · rename_i r1 rs' h1 h2
        injection hr with hr; subst hr
        obtain ⟨vs, g1, g2, g3⟩ := results_sound hs l al' rs' hl h2
        have frzok : ∀ {v y y'}, Rep (Stab X H w) w H v y → frz st.m y = some y' → Rep (Stab X [] w) w [] v y' := by
          intro v y y' hv hf
          refine (frz_rep hs.mem hv hf (fun b o q => ⟨q.1, q.2.1, by rintro ⟨i, k, hk, _⟩; simp at hk⟩) fun z _ id ver used off len _ b cap sz cver cused wr hH hc hb o _ => ⟨hb, fun hx => ?_, by rintro ⟨i, k, hk, _⟩; simp at hk⟩).1
          exact hs.xb b ⟨o, hx⟩ id _ hH (by simp [Hd.blk, hc])
        have key : ∃ v, (match x with | .tmp t => pure (a.tmps.getD t undef) | .cell t ty => do loadVar ty (← asAddr (a.tmps.getD t undef)) : Sem Value).run P w = .ok v w ∧ Rep (Stab X [] w) w [] v r1 := by
          cases x with
          | tmp t =>
            simp only [compRes, Option.some.injEq] at hx
            subst hx
            exact ⟨_, rfl, frzok (hs.frm t) h1⟩
          | cell t ty =>
            simp only [compRes] at hx
            split at hx
            · rename_i n ag hn hag
              injection hx with hx; subst hx
              simp only [resOf, Option.bind_eq_some_iff] at h1
              obtain ⟨y, ⟨cs, hcs, hmk⟩, hf⟩ := h1
              have hp : (cellsAt st.m (look st.fr t)).bind (mkV (n + 1) ag) = some y := by simp [hcs, hmk]
              obtain ⟨v, q1, q2⟩ := s_load hn hag hs.mem (hs.frm t) hp
              refine ⟨v, ?_, frzok q2 hf⟩
              have hq := q1 w (Ext.refl w)
              obtain ⟨hle, _⟩ := mkV_some hmk
              obtain ⟨b, o, u, e, _, _⟩ := rep_cellsAt hs.mem (hs.frm t) hcs (by omega)
              show (do loadVar ty (← asAddr (a.tmps.getD t undef)) : Sem Value).run P w = .ok v w
              rw [e] at hq ⊢
              simpa [Instr.loadAt, Instr.sureAddr, asAddr] using hq
            · cases hx
        obtain ⟨v, k1, k2⟩ := key
        refine ⟨v :: vs, ?_, by simp [g2], fun i y hy => ?_⟩
        · simp only [List.mapM_cons, Sem.run_bind, k1, Result.andThen_ok, g1, Sem.run_pure]
        · cases i with
          | zero => simp at hy; subst hy; simpa using k2
          | succ i => simp at hy; simpa using g3 i y hy
      · cases hr
    · cases hc

theorem look_enter (s : Nat) : ∀ (n i : Nat) (l : List AV), look (enterF n i l) s = if i ≤ s then (l[s - i]?).getD .any else .any
  | n, i, [] => by simp [enterF, look]
  | n, i, v :: r => by
    simp only [enterF, look]
    split
    · rename_i h; subst h; simp
    · rename_i h
      rw [look_enter s n (i + 1) r]
      by_cases hle : i ≤ s
      · rw [if_pos hle, if_pos (by omega), show s - i = (s - (i + 1)) + 1 from by omega]
        simp
      · rw [if_neg hle, if_neg (by omega)]

theorem body_sound {call : CallF} {loop : LoopF} {hn : Hints} {f : FuncId} {af : AFunc} (hf : compFunc P hn f = some af) (hcall : ∀ f vs r, call f vs = some r → CallOk P f vs r)
    (hloop : ∀ N X w0 code c keep st r, compCode P hn N code = some c → loop c keep st = some r → ∀ a w H, SR X w0 N st a w H → (Code.loop code).wp P (PostE X w0 N r) a w)
    {args : List AV} {r : AV} (hr : runBody call loop af args = some r) : CallOk P f args r := by
  intro X w vs hX hargs
  unfold compFunc at hf
  split at hf
  · rename_i fn hfn
    split at hf
    · rename_i c hb
      split at hf
      · rename_i ac rs hac hrs
        split at hf
        · rename_i hle
          injection hf with hf; subst hf
          unfold runBody at hr
          split at hr
          · rename_i hlen
            simp only at hlen
            have hvs : vs.size = fn.params.size := by rw [hargs.1, hlen]
            have hs0 : SR X w fn.ntmps ⟨enterF fn.params.size 0 args, []⟩ ⟨vs ++ Array.replicate (fn.ntmps - vs.size) undef, []⟩ w [] := by
              refine ⟨rfl, by simp; omega, fun s => ?_, ⟨rfl, fun i o h ho => by simp at ho, fun i h b hh => by simp at hh, fun i j h k b hh => by simp at hh⟩, Fr.refl _ _, fun i h b hh => by simp at hh, hX⟩
              rw [look_enter, if_pos (Nat.zero_le _), Nat.sub_zero]
              rcases hq : args[s]? with _ | y
              · exact .any _ _
              · have := hargs.2 s y hq
                have hlt : s < vs.size := by rw [hargs.1]; exact (List.getElem?_eq_some_iff.1 hq).1
                have e : (vs ++ Array.replicate (fn.ntmps - vs.size) undef).getD s undef = vs.getD s undef := by
                  simp only [Array.getD_eq_getD_getElem?]
                  rw [Array.getElem?_append_left hlt]
                rw [e]; exact this
            have fin : ∀ ex st, aexec call loop ac ⟨enterF fn.params.size 0 args, []⟩ = some (ex, st) → (ex = .normal ∨ ex = .ret) → (resL st rs).map mkRes = some r → Calls P f vs w fun e w' => ∃ v, e = .returned v ∧ Rep (Stab X [] w') w' [] v r ∧ Fr (fun _ => False) w w' := by
              intro ex st hex hor hres
              simp only [Option.map_eq_some_iff] at hres
              obtain ⟨ys, hys, rfl⟩ := hres
              refine calls_of_wp hfn hb (wp_mono (code_sound hcall (fun code c keep st r => hloop _ _ _ code c keep st r) c ac hac _ _ hex _ _ _ hs0) fun e a' w' ⟨he, H', hs'⟩ => ?_)
              have hpost : a'.defers = [] ∧ ∃ v, (results fn a'.tmps).run P w' = .ok v w' ∧ ∃ v', (Ending.returned v = .returned v') ∧ Rep (Stab X [] w') w' [] v' (mkRes ys) ∧ Fr (fun _ => False) w w' := by
                refine ⟨hs'.dfr, ?_⟩
                obtain ⟨us, q1, q2, q3⟩ := results_sound (P := P) hs' fn.results.toList rs ys hrs hys
                refine ⟨if h : us.toArray.size = 1 then us.toArray[0] else .tuple us.toArray, ?_, _, rfl, ?_, hs'.grw⟩
                · have hm : results fn a'.tmps = (do
                      let vs ← Functor.map List.toArray (fn.results.toList.mapM (fun (x : ResultVar) => (match x with | .tmp t => pure (a'.tmps.getD t undef) | .cell t ty => do loadVar ty (← asAddr (a'.tmps.getD t undef)) : Sem Value)))
                      pure (if h : vs.size = 1 then vs[0] else .tuple vs)) := by
                    unfold results
                    rw [Array.mapM_eq_mapM_toList]
                    rfl
                  rw [hm]
                  simp only [Sem.run_bind, map_eq_pure_bind, q1, Result.andThen_ok, Sem.run_pure]
                · by_cases h1 : us.length = 1
                  · have hy1 : ∃ y, ys = [y] := by
                      match ys, (by omega : ys.length = 1) with
                      | [y], _ => exact ⟨y, rfl⟩
                    obtain ⟨y, rfl⟩ := hy1
                    rw [dif_pos (by simpa using h1)]
                    have := q3 0 y rfl
                    simp only [mkRes]
                    have e : us.toArray[0]'(by simpa using (by omega : 0 < us.length)) = us.getD 0 undef := by
                      simp [List.getD_eq_getElem?_getD, show 0 < us.length from by omega]
                    rw [e]; exact this
                  · rw [dif_neg (by simpa using h1)]
                    have e : mkRes ys = .tuple ys := by
                      match ys, (by omega : ys.length ≠ 1) with
                      | [], _ => rfl
                      | [y], h => exact absurd rfl h
                      | _ :: _ :: _, _ => rfl
                    rw [e]
                    exact .tuple (by simpa using q2) fun i y hy => by
                      have := q3 i y hy
                      simpa [Array.getD_eq_getD_getElem?, List.getD_eq_getElem?_getD] using this
              rcases hor with rfl | rfl
              · cases e <;> simp only at he
                exact hpost
              · cases e <;> simp only at he
                exact hpost
            split at hr
            · rename_i st hex; exact fin _ st hex (.inl rfl) hr
            · rename_i st hex; exact fin _ st hex (.inr rfl) hr
            · cases hr
          · cases hr
        · cases hf
      · cases hf
    · cases hf
  · cases hf

theorem loop_sound {F : FuncId → Option AFunc} {Ext : CallF} {hn : Hints} {n : Nat} (hcall : ∀ k, k < n → ∀ f vs r, runF F Ext k f vs = some r → CallOk P f vs r) :
    ∀ k, k ≤ n → ∀ N X w0 code c keep st r, compCode P hn N code = some c → loopN F Ext k c keep st = some r → ∀ a w H, SR X w0 N st a w H → (Code.loop code).wp P (PostE X w0 N r) a w := by
  intro k
  induction k using Nat.strongRecOn with
  | _ k ih =>
    intro hk N X w0 code c keep st r hc hr a w H hs
    let T : Act → World → Nat → Prop := fun a w j => ∃ st H, SR X w0 N st a w H ∧ loopN F Ext j c keep st = some r
    refine wp_loop (fun a w => ∃ j, j ≤ k ∧ T a w j) (fun a w => sInfN (T a w)) ⟨k, Nat.le_refl k, st, H, hs, hr⟩ ?_
    intro a w ⟨j0, hj0, hT0⟩
    obtain ⟨hT, hmin⟩ := sInfN_spec hT0
    generalize hj : sInfN (T a w) = j at hT hmin
    have hjk : j ≤ k := Nat.le_trans (hmin j0 hT0) hj0
    obtain ⟨st, H, hs, hr⟩ := hT
    cases j with
    | zero => simp [loopN] at hr
    | succ j =>
      simp only [loopN] at hr
      have body : ∀ ex st', aexec (runF F Ext j) (loopN F Ext j) c st = some (ex, st') → code.wp P (PostE X w0 N (ex, st')) a w := fun ex st' hex =>
        code_sound (hcall j (by omega)) (fun code c keep st r => ih j (by omega) (by omega) N X w0 code c keep st r) code c hc _ _ hex a w H hs
      split at hr
      · rename_i st' hex
        refine wp_mono (body _ st' hex) fun e a' w' ⟨he, H', hs'⟩ => ?_
        cases e <;> simp only at he
        obtain ⟨H2, hs2⟩ := hs'.norm keep
        refine ⟨⟨j, by omega, _, H2, hs2, hr⟩, ?_⟩
        have : sInfN (T a' w') ≤ j := (sInfN_spec (p := T a' w') ⟨_, H2, hs2, hr⟩).2 j ⟨_, H2, hs2, hr⟩
        omega
      · rename_i hne
        rcases hq : aexec (runF F Ext j) (loopN F Ext j) c st with _ | ⟨ex, st1⟩
        · rw [hq] at hr; cases hr
        · rw [hq] at hr
          injection hr with hr
          refine wp_mono (body ex st1 hq) fun e a' w' ⟨he, H', hs'⟩ => ?_
          cases ex with
          | normal => exact absurd hq (hne st1)
          | exit i =>
            cases e <;> simp only at he
            exact hr ▸ ⟨he, H', hs'⟩
          | ret =>
            cases e <;> simp only at he
            exact hr ▸ ⟨trivial, H', hs'⟩

/-- what the machine answers, the model's call returns -/
theorem run_sound {F : FuncId → Option AFunc} {Ext : CallF} (hF : ∀ f af, F f = some af → ∃ hn, compFunc P hn f = some af) (hE : ∀ f vs r, Ext f vs = some r → CallOk P f vs r) :
    ∀ n f args r, runF F Ext n f args = some r → CallOk P f args r := by
  intro n
  induction n using Nat.strongRecOn with
  | _ n ih =>
    intro f args r hr
    cases n with
    | zero => simp [runF] at hr
    | succ n =>
      simp only [runF] at hr
      split at hr
      · rename_i af haf
        obtain ⟨hn, hc⟩ := hF f af haf
        exact body_sound hc (ih n (by omega)) (loop_sound (n := n) (fun k hk => ih k (by omega)) n (Nat.le_refl _)) hr
      · exact hE f args r hr
end
end Go.Proofs.Ytejajmmacmcijaa
