/- The abstract machine: what it answers, the model's call returns. -/
import Derived.Test.YtgjdmlhgapmflaaDoorAmG
import Derived.Scope
namespace Go.Proofs.YtgjdmlhgapmflaaDoor
set_option linter.unusedVariables false
set_option linter.unusedSimpArgs false

/-- how a piece of code ends -/
def PostE (X : Nat → Nat → Prop) (w0 : Base) (N : Nat) (r : AExit × St) (e : Exit) (a : Act) (w : World) : Prop :=
  (match r.1, e with
    | .normal, .normal => True
    | .exit i, .exit j => i = j
    | .ret, .ret => True
    | _, _ => False) ∧ ∃ H, SR X w0 N r.2 a w H

theorem exists_least {p : Nat → Prop} : ∀ n : Nat, p n → ∃ n, p n ∧ ∀ k, p k → n ≤ k := by
  intro n
  induction n using Nat.strongRecOn with
  | _ n ih =>
    intro hn
    by_cases h : ∃ k, k < n ∧ p k
    · obtain ⟨k, hk, hp⟩ := h
      exact ih k hk hp
    · exact ⟨n, hn, fun k hk => Nat.le_of_not_lt fun hlt => h ⟨k, hlt, hk⟩⟩
/-- the least number with a property -/
noncomputable def sInfN (p : Nat → Prop) : Nat := by
  classical
  exact if h : ∃ n, p n ∧ ∀ k, p k → n ≤ k then h.choose else 0
theorem sInfN_spec {p : Nat → Prop} {n : Nat} (h : p n) : p (sInfN p) ∧ ∀ k, p k → sInfN p ≤ k := by
  classical
  have hex := exists_least n h
  have e : sInfN p = hex.choose := by unfold sInfN; rw [dif_pos hex]
  rw [e]
  exact hex.choose_spec

section
variable {P : Program} {X : Nat → Nat → Prop} {w0 : Base} {w w' : World} {N : Nat} {st : St} {a : Act} {m : List MObj} {H : List Hd} {d : Option Nat}

theorem PostE.normal {st : St} (h : SR X w0 N st a w H) : PostE X w0 N (.normal, st) .normal a w := ⟨trivial, H, h⟩

theorem join_sound {call : CallF} {loop : LoopF} {bb : Nat} (hbb : w0.H.length ≤ bb) {code : Code} {ac : ACode} {o : Option (List Nat)} (ih : ∀ st r, aexec call bb loop ac st = some r → ∀ a w H, SR X w0 N st a w H → code.wp P (PostE X w0 N r) a w) :
    ∀ st r, aexec call bb loop (withJoin o ac) st = some r → ∀ a w H, SR X w0 N st a w H → code.wp P (PostE X w0 N r) a w := by
  intro st r hr a w H hs
  cases o with
  | none => exact ih st r hr a w H hs
  | some k =>
    simp only [withJoin, aexec] at hr
    rcases hq : aexec call bb loop ac st with _ | ⟨ex, st1⟩
    · rw [hq] at hr; cases hr
    · rw [hq] at hr
      refine wp_mono (ih st _ hq a w H hs) fun e a' w' ⟨he, H', hs'⟩ => ?_
      cases ex with
      | normal =>
        simp only [Option.some.injEq] at hr; subst hr
        obtain ⟨H2, hs2⟩ := hs'.norm hbb k
        exact ⟨he, H2, hs2⟩
      | exit i => simp only [Option.some.injEq] at hr; subst hr; exact ⟨he, H', hs'⟩
      | ret => simp only [Option.some.injEq] at hr; subst hr; exact ⟨he, H', hs'⟩
theorem code_sound {call : CallF} {loop : LoopF} {hn : Hints} {bb : Nat} (hbb : w0.H.length ≤ bb) (hcall : CallsOk P call)
    (hloop : ∀ code c keep st r, compCode P hn N code = some c → loop c keep st = some r → ∀ a w H, SR X w0 N st a w H → (Code.loop code).wp P (PostE X w0 N r) a w) :
    ∀ (code : Code) (ac : ACode), compCode P hn N code = some ac → ∀ st r, aexec call bb loop ac st = some r → ∀ a w H, SR X w0 N st a w H → code.wp P (PostE X w0 N r) a w := by
  intro code
  induction code with
  | skip =>
    intro ac hc st r hr a w H hs
    simp only [compCode, Option.some.injEq] at hc; subst hc
    simp only [aexec, Option.some.injEq] at hr; subst hr
    exact wp_skip (.normal hs)
  | label l =>
    intro ac hc st r hr a w H hs
    simp only [compCode, Option.some.injEq] at hc; subst hc
    simp only [aexec, Option.some.injEq] at hr; subst hr
    exact wp_label (.normal hs)
  | exit id =>
    intro ac hc st r hr a w H hs
    simp only [compCode, Option.some.injEq] at hc; subst hc
    simp only [aexec, Option.some.injEq] at hr; subst hr
    exact wp_exit ⟨rfl, H, hs⟩
  | ret =>
    intro ac hc st r hr a w H hs
    simp only [compCode, Option.some.injEq] at hc; subst hc
    simp only [aexec, Option.some.injEq] at hr; subst hr
    exact wp_ret ⟨trivial, H, hs⟩
  | seq x y ihx ihy =>
    intro ac hc st r hr a w H hs
    simp only [compCode] at hc
    split at hc
    · rename_i cx cy hx hy
      injection hc with hc; subst hc
      refine join_sound hbb (fun st r hr a w H hs => ?_) st r hr a w H hs
      simp only [aexec] at hr
      refine wp_seq ?_
      split at hr
      · rename_i st1 h1
        refine wp_mono (ihx cx hx st _ h1 a w H hs) fun e a' w' ⟨he, H', hs'⟩ => ?_
        cases e <;> simp only at he
        exact ihy cy hy st1 r hr a' w' H' hs'
      · rename_i hne
        rcases hq : aexec call bb loop cx st with _ | ⟨ex, st1⟩
        · rw [hq] at hr; cases hr
        · rw [hq] at hr
          injection hr with hr
          refine wp_mono (ihx cx hx st _ hq a w H hs) fun e a' w' ⟨he, H', hs'⟩ => ?_
          cases ex with
          | normal => exact absurd hq (hne st1)
          | exit i =>
            cases e <;> simp only at he
            exact hr ▸ ⟨he, H', hs'⟩
          | ret =>
            cases e <;> simp only at he
            exact hr ▸ ⟨trivial, H', hs'⟩
    · cases hc
  | cond c x y ihx ihy =>
    intro ac hc st r hr a w H hs
    simp only [compCode] at hc
    split at hc
    · rename_i cx cy hx hy
      injection hc with hc; subst hc
      refine join_sound hbb (fun st r hr a w H hs => ?_) st r hr a w H hs
      simp only [aexec] at hr
      have hev := rep_ev hs.frm c
      split at hr
      · rename_i ht
        rw [ht] at hev
        exact wp_cond_true (rep_val hev) (ihx cx hx st r hr a w H hs)
      · rename_i ht
        rw [ht] at hev
        exact wp_cond_false (rep_val hev) (ihy cy hy st r hr a w H hs)
      · cases hr
    · cases hc
  | block id c ih =>
    intro ac hc st r hr a w H hs
    simp only [compCode, Option.map_eq_some_iff] at hc
    obtain ⟨cc, hcc, rfl⟩ := hc
    refine join_sound hbb (fun st r hr a w H hs => ?_) st r hr a w H hs
    simp only [aexec] at hr
    refine wp_block ?_
    split at hr
    · rename_i i st1 h1
      refine wp_mono (ih cc hcc st _ h1 a w H hs) fun e a' w' ⟨he, H', hs'⟩ => ?_
      cases e <;> simp only at he
      subst he
      simp only [Exit.inBlock]
      split at hr
      · rename_i hid
        injection hr with hr; subst hr
        rw [if_pos hid]
        exact ⟨trivial, H', hs'⟩
      · rename_i hid
        injection hr with hr; subst hr
        rw [if_neg hid]
        exact ⟨rfl, H', hs'⟩
    · rename_i hne
      rcases hq : aexec call bb loop cc st with _ | ⟨ex, st1⟩
      · rw [hq] at hr; cases hr
      · rw [hq] at hr
        injection hr with hr
        refine wp_mono (ih cc hcc st _ hq a w H hs) fun e a' w' ⟨he, H', hs'⟩ => ?_
        cases ex with
        | normal =>
          cases e <;> simp only at he
          exact hr ▸ ⟨trivial, H', hs'⟩
        | exit i => exact absurd hq (hne i st1)
        | ret =>
          cases e <;> simp only at he
          exact hr ▸ ⟨trivial, H', hs'⟩
  | loop c ih =>
    intro ac hc st r hr a w H hs
    simp only [compCode, Option.map_eq_some_iff] at hc
    obtain ⟨cc, hcc, rfl⟩ := hc
    simp only [aexec] at hr
    exact hloop c cc _ _ r hcc hr a w H hs
  | region id ops draw =>
    intro ac hc st r hr a w H hs
    simp only [compCode] at hc
    split at hc
    · rename_i l hl
      split at hc
      · rename_i hd
        subst hd
        split at hc
        · rename_i hB
          injection hc with hc; subst hc
          refine join_sound hbb (fun st r hr a w H hs => ?_) st r hr a w H hs
          simp only [Bool.and_eq_true] at hB
          simp only [aexec] at hr
          split at hr
          · rename_i fr hq
            split at hr
            · rename_i st1 ht
              injection hr with hr; subst hr
              have hf1 : Fr (fun _ => False) w { w with drawn := w.drawn + 1 } := ⟨rfl, rfl, rfl, Nat.le_refl _, fun _ _ _ => rfl⟩
              obtain ⟨s1, s2⟩ := compOps_split ops.toList l ((assocN hn.tails id).getD ops.size) hl
              refine wp_xregion hcall hB.2 hl hB.1 hq (hs.ext hf1) fun a' w' H' hs' => ?_
              exact runOps_sound hcall _ _ _ st1 a' _ H' s2 ht hs' fun a'' w'' H'' hs'' => ⟨trivial, H'', hs''.drop _⟩
            · cases hr
          · cases hr
        · cases hc
      · rename_i hd
        have hd : draw = false := by simpa using hd
        subst hd
        injection hc with hc; subst hc
        refine join_sound hbb (fun st r hr a w H hs => ?_) st r hr a w H hs
        simp only [aexec] at hr
        split at hr
        · rename_i st1 h1
          injection hr with hr; subst hr
          exact wp_region_list (runOps_sound hcall ops.toList l st st1 a w H hl h1 hs fun a' w' H' hs' => ⟨trivial, H', hs'.drop _⟩)
        · cases hr
    · cases hc
  | rangeFunc f ps x y _ _ => intro ac hc; simp [compCode] at hc
  | scope c ih =>
    intro ac hc st r hr a w H hs
    simp only [compCode] at hc
    refine wp_scope_straight (wp_mono (ih ac hc st r hr a w H hs) fun e a' w' h => ?_)
    cases e <;> first | exact h | (exact absurd h.1 (by cases r.1 <;> simp))
  | goto l => intro ac hc; simp [compCode] at hc
  | refuse s => intro ac hc; simp [compCode] at hc

theorem rep_nilCell {S : Nat → Nat → Prop} {w : World} {H : List Hd} {v : Value} {y : AV} (h : Rep S w H v y) (sz : Nat) : Rep S w H v (nilCell sz y) := by
  unfold nilCell
  split
  · have := rep_val h
    subst this
    exact Rep.slice (l := []) 0 0 sz (fun _ _ => undef) (Nat.le_refl _) (fun _ => rfl) (fun h => by simp at h) (fun i x hx => by simp at hx) (fun i x j y hx => by simp at hx) (fun i x j y hx => by simp at hx)
  · exact h
theorem rep_nilCells {S : Nat → Nat → Prop} {w : World} {H : List Hd} {cs : Array Value} : ∀ (offs : List (Nat × Nat)) (l : List AV), cs.size = l.length → (∀ (i : Nat) (y : AV), l[i]? = some y → Rep S w H (cs.getD i undef) y) → cs.size = (nilCells offs l).length ∧ ∀ (i : Nat) (y : AV), (nilCells offs l)[i]? = some y → Rep S w H (cs.getD i undef) y
  | [], l, hn, h => ⟨hn, h⟩
  | (o, sz) :: r, l, hn, h => by
    simp only [nilCells]
    split
    · rename_i x hx
      refine rep_nilCells r _ (by simpa using hn) fun i y hy => ?_
      rw [List.getElem?_set] at hy
      split at hy
      · rename_i e
        subst e
        split at hy
        · injection hy with hy; subst hy
          exact rep_nilCell (h _ _ hx) sz
        · cases hy
      · exact h i y hy
    · exact rep_nilCells r l hn h
theorem rep_nilN {S : Nat → Nat → Prop} {w : World} {H : List Hd} {v : Value} {y : AV} (h : Rep S w H v y) (offs : List (Nat × Nat)) : Rep S w H v (nilN offs y) := by
  unfold nilN
  split
  · obtain ⟨cs, rfl, hn, hc⟩ := rep_agg h
    obtain ⟨g1, g2⟩ := rep_nilCells offs _ hn hc
    exact .agg g1 g2
  · split
    · exact rep_nilCell h _
    · exact h
theorem results_sound {st : St} (hs : SR X w0 N st a w H) : ∀ (l : List ResultVar) (ts : List TypeId) (al : List ARes) (rs : List AV), compResL P l ts = some al → resL st al = some rs →
    ∃ vs : List Value, (l.mapM (fun (x : ResultVar) => (match x with | .tmp t => pure (a.tmps.getD t undef) | .cell t ty => do loadVar ty (← asAddr (a.tmps.getD t undef)) : Sem Value))).run P w = .ok vs w ∧ vs.length = rs.length ∧ ∀ (i : Nat) (y : AV), rs[i]? = some y → Rep (Stab X [] w) w [] (vs.getD i undef) y
  | [], ts, al, rs, hc, hr => by
    simp [compResL] at hc; subst hc
    simp [resL] at hr; subst hr
    exact ⟨[], by simp, rfl, fun i y hy => by simp at hy⟩
  | x :: l, ts, al, rs, hc, hr => by
    simp only [compResL] at hc
    split at hc
    · rename_i ax al' hx hl
      injection hc with hc; subst hc
      simp only [resL] at hr
      split at hr
      · rename_i r1 rs' h1 h2
        injection hr with hr; subst hr
        obtain ⟨vs, g1, g2, g3⟩ := results_sound hs l ts.tail al' rs' hl h2
        have frzok : ∀ {v y y'}, Rep (Stab X H w) w H v y → frz st.m y = some y' → Rep (Stab X [] w) w [] v y' := by
          intro v y y' hv hf
          refine (frz_rep hs.mem hv hf (fun b o q => ⟨q.1, q.2.1, by rintro ⟨i, k, hk, _⟩; simp at hk⟩) fun z _ id ver used off len _ b cap sz cver cused wr hH hc hb o _ => ⟨hb, fun hx => ?_, by rintro ⟨i, k, hk, _⟩; simp at hk⟩).1
          exact hs.xb b ⟨o, hx⟩ id _ hH (by simp [Hd.blk, hc])
        have key : ∃ v, (match x with | .tmp t => pure (a.tmps.getD t undef) | .cell t ty => do loadVar ty (← asAddr (a.tmps.getD t undef)) : Sem Value).run P w = .ok v w ∧ Rep (Stab X [] w) w [] v r1 := by
          cases x with
          | tmp t =>
            simp only [compRes, Option.some.injEq] at hx
            subst hx
            simp only [resOf, Option.map_eq_some_iff] at h1
            obtain ⟨y', h1, rfl⟩ := h1
            exact ⟨_, rfl, rep_nilN (frzok (hs.frm t) h1) _⟩
          | cell t ty =>
            simp only [compRes] at hx
            split at hx
            · rename_i n ag hn hag
              injection hx with hx; subst hx
              simp only [resOf, Option.map_eq_some_iff, Option.bind_eq_some_iff] at h1
              obtain ⟨y', ⟨y, ⟨cs, hcs, hmk⟩, hf⟩, rfl⟩ := h1
              have hp : (cellsAt st.m (look st.fr t)).bind (mkV (n + 1) ag) = some y := by simp [hcs, hmk]
              obtain ⟨v, q1, q2⟩ := s_load hn hag hs.mem (hs.frm t) hp
              refine ⟨v, ?_, rep_nilN (frzok q2 hf) _⟩
              have hq := q1 w (Ext.refl w)
              obtain ⟨hle, _⟩ := mkV_some hmk
              obtain ⟨b, o, u, e, _, _⟩ := rep_cellsAt hs.mem (hs.frm t) hcs (by omega)
              show (do loadVar ty (← asAddr (a.tmps.getD t undef)) : Sem Value).run P w = .ok v w
              rw [e] at hq ⊢
              simpa [Instr.loadAt, Instr.sureAddr, asAddr] using hq
            · cases hx
        obtain ⟨v, k1, k2⟩ := key
        refine ⟨v :: vs, ?_, by simp [g2], fun i y hy => ?_⟩
        · simp only [List.mapM_cons, Sem.run_bind, k1, Result.andThen_ok, g1, Sem.run_pure]
        · cases i with
          | zero => simp at hy; subst hy; simpa using k2
          | succ i => simp at hy; simpa using g3 i y hy
      · cases hr
    · cases hc

theorem resultsM_sound {st : St} (hs : SR X w0 N st a w H) : ∀ (l : List ResultVar) (ts : List TypeId) (al : List ARes) (rs : List AV), compResL P l ts = some al → resLM st al = some rs →
    ∃ vs : List Value, (l.mapM (fun (x : ResultVar) => (match x with | .tmp t => pure (a.tmps.getD t undef) | .cell t ty => do loadVar ty (← asAddr (a.tmps.getD t undef)) : Sem Value))).run P w = .ok vs w ∧ vs.length = rs.length ∧ ∀ (i : Nat) (y : AV), rs[i]? = some y → Rep (Stab X H w) w H (vs.getD i undef) y
  | [], ts, al, rs, hc, hr => by
    simp [compResL] at hc; subst hc
    simp [resLM] at hr; subst hr
    exact ⟨[], by simp, rfl, fun i y hy => by simp at hy⟩
  | x :: l, ts, al, rs, hc, hr => by
    simp only [compResL] at hc
    split at hc
    · rename_i ax al' hx hl
      injection hc with hc; subst hc
      simp only [resLM] at hr
      split at hr
      · rename_i r1 rs' h1 h2
        injection hr with hr; subst hr
        obtain ⟨vs, g1, g2, g3⟩ := resultsM_sound hs l ts.tail al' rs' hl h2
        have key : ∃ v, (match x with | .tmp t => pure (a.tmps.getD t undef) | .cell t ty => do loadVar ty (← asAddr (a.tmps.getD t undef)) : Sem Value).run P w = .ok v w ∧ Rep (Stab X H w) w H v r1 := by
          cases x with
          | tmp t =>
            simp only [compRes, Option.some.injEq] at hx
            subst hx
            simp only [resOfM, Option.some.injEq] at h1
            subst h1
            exact ⟨_, rfl, hs.frm t⟩
          | cell t ty =>
            simp only [compRes] at hx
            split at hx
            · rename_i n ag hn hag
              injection hx with hx; subst hx
              simp only [resOfM] at h1
              have hp := h1
              simp only [Option.bind_eq_some_iff] at h1
              obtain ⟨cs, hcs, hmk⟩ := h1
              obtain ⟨v, q1, q2⟩ := s_load hn hag hs.mem (hs.frm t) hp
              refine ⟨v, ?_, q2⟩
              have hq := q1 w (Ext.refl w)
              obtain ⟨hle, _⟩ := mkV_some hmk
              obtain ⟨b, o, u, e, _, _⟩ := rep_cellsAt hs.mem (hs.frm t) hcs (by omega)
              show (do loadVar ty (← asAddr (a.tmps.getD t undef)) : Sem Value).run P w = .ok v w
              rw [e] at hq ⊢
              simpa [Instr.loadAt, Instr.sureAddr, asAddr] using hq
            · cases hx
        obtain ⟨v, k1, k2⟩ := key
        refine ⟨v :: vs, ?_, by simp [g2], fun i y hy => ?_⟩
        · simp only [List.mapM_cons, Sem.run_bind, k1, Result.andThen_ok, g1, Sem.run_pure]
        · cases i with
          | zero => simp at hy; subst hy; simpa using k2
          | succ i => simp at hy; simpa using g3 i y hy
      · cases hr
    · cases hc

theorem look_enter (s : Nat) : ∀ (n i : Nat) (l : List AV), look (enterF n i l) s = if i ≤ s then (l[s - i]?).getD .any else .any
  | n, i, [] => by simp [enterF, look]
  | n, i, v :: r => by
    simp only [enterF, look]
    split
    · rename_i h; subst h; simp
    · rename_i h
      rw [look_enter s n (i + 1) r]
      by_cases hle : i ≤ s
      · rw [if_pos hle, if_pos (by omega), show s - i = (s - (i + 1)) + 1 from by omega]
        simp
      · rw [if_neg hle, if_neg (by omega)]

theorem body_sound {call : CallF} {loop : LoopF} {hn : Hints} {f : FuncId} {af : AFunc} (hf : compFunc P hn f = some af) (hcall : CallsOk P call)
    (hloop : ∀ (N : Nat) (X : Nat → Nat → Prop) (w0 : Base) code c keep st r, w0.H.length ≤ 0 → compCode P hn N code = some c → loop c keep st = some r → ∀ a w H, SR X w0 N st a w H → (Code.loop code).wp P (PostE X w0 N r) a w)
    {args : List AV} {r : AV} (hr : runBody call loop af args = some r) : CallOk P f args r := by
  intro X w vs hX hgl hargs
  unfold compFunc at hf
  split at hf
  · rename_i fn hfn
    split at hf
    · rename_i c hb
      split at hf
      · rename_i ac rs hac hrs
        split at hf
        · rename_i hle
          obtain ⟨hle, hname⟩ := hle
          injection hf with hf; subst hf
          unfold runBody at hr
          split at hr
          · rename_i hlen
            simp only at hlen
            have hvs : vs.size = (fn.params.size + fn.nfree) := by rw [hargs.1, hlen]
            have hs0 : SR X ⟨w, w, []⟩ fn.ntmps ⟨enterF (fn.params.size + fn.nfree) 0 args, []⟩ ⟨vs ++ Array.replicate (fn.ntmps - vs.size) undef, []⟩ w [] := by
              refine ⟨rfl, by simp; omega, ⟨fun s => ?_, hgl⟩, ⟨rfl, fun i o h ho => by simp at ho, fun i h b hh => by simp at hh, fun i j h k b hh => by simp at hh⟩, Fr.refl _ _, fun i h b hh => by simp at hh, hX, Goes.refl⟩
              rw [look_enter, if_pos (Nat.zero_le _), Nat.sub_zero]
              rcases hq : args[s]? with _ | y
              · exact .any _ _
              · have := hargs.2 s y hq
                have hlt : s < vs.size := by rw [hargs.1]; exact (List.getElem?_eq_some_iff.1 hq).1
                have e : (vs ++ Array.replicate (fn.ntmps - vs.size) undef).getD s undef = vs.getD s undef := by
                  simp only [Array.getD_eq_getD_getElem?]
                  rw [Array.getElem?_append_left hlt]
                rw [e]; exact this
            have fin : ∀ ex st, aexec call 0 loop ac ⟨enterF (fn.params.size + fn.nfree) 0 args, []⟩ = some (ex, st) → (ex = .normal ∨ ex = .ret) → (resL st rs).map mkRes = some r → Calls P f vs w fun e w' => ∃ v, e = .returned v ∧ Rep (Stab X [] w') w' [] v r ∧ Fr (fun _ => False) w w' := by
              intro ex st hex hor hres
              simp only [Option.map_eq_some_iff] at hres
              obtain ⟨ys, hys, rfl⟩ := hres
              refine calls_of_wp hfn hb (wp_mono (code_sound (bb := 0) (Nat.le_refl _) hcall (fun code c keep st r => hloop _ _ _ code c keep st r (Nat.zero_le _)) c ac hac _ _ hex _ _ _ hs0) fun e a' w' ⟨he, H', hs'⟩ => ?_)
              have hpost : a'.defers = [] ∧ ∃ v, (results fn a'.tmps).run P w' = .ok v w' ∧ ∃ v', (Ending.returned v = .returned v') ∧ Rep (Stab X [] w') w' [] v' (mkRes ys) ∧ Fr (fun _ => False) w w' := by
                refine ⟨hs'.dfr, ?_⟩
                obtain ⟨us, q1, q2, q3⟩ := results_sound (P := P) hs' fn.results.toList _ rs ys hrs hys
                refine ⟨if h : us.toArray.size = 1 then us.toArray[0] else .tuple us.toArray, ?_, _, rfl, ?_, hs'.grw⟩
                · have hm : results fn a'.tmps = (do
                      let vs ← Functor.map List.toArray (fn.results.toList.mapM (fun (x : ResultVar) => (match x with | .tmp t => pure (a'.tmps.getD t undef) | .cell t ty => do loadVar ty (← asAddr (a'.tmps.getD t undef)) : Sem Value)))
                      pure (if h : vs.size = 1 then vs[0] else .tuple vs)) := by
                    unfold results
                    rw [Array.mapM_eq_mapM_toList]
                    rfl
                  rw [hm]
                  simp only [Sem.run_bind, map_eq_pure_bind, q1, Result.andThen_ok, Sem.run_pure]
                · by_cases h1 : us.length = 1
                  · have hy1 : ∃ y, ys = [y] := by
                      match ys, (by omega : ys.length = 1) with
                      | [y], _ => exact ⟨y, rfl⟩
                    obtain ⟨y, rfl⟩ := hy1
                    rw [dif_pos (by simpa using h1)]
                    have := q3 0 y rfl
                    simp only [mkRes]
                    have e : us.toArray[0]'(by simpa using (by omega : 0 < us.length)) = us.getD 0 undef := by
                      simp [List.getD_eq_getElem?_getD, show 0 < us.length from by omega]
                    rw [e]; exact this
                  · rw [dif_neg (by simpa using h1)]
                    have e : mkRes ys = .tuple ys := by
                      match ys, (by omega : ys.length ≠ 1) with
                      | [], _ => rfl
                      | [y], h => exact absurd rfl h
                      | _ :: _ :: _, _ => rfl
                    rw [e]
                    exact .tuple (by simpa using q2) fun i y hy => by
                      have := q3 i y hy
                      simpa [Array.getD_eq_getD_getElem?, List.getD_eq_getElem?_getD] using this
              rcases hor with rfl | rfl
              · cases e <;> simp only at he
                exact hpost
              · cases e <;> simp only at he
                exact hpost
            split at hr
            · rename_i st hex; exact fin _ st hex (.inl rfl) hr
            · rename_i st hex; exact fin _ st hex (.inr rfl) hr
            · cases hr
          · cases hr
        · cases hf
      · cases hf
    · cases hf
  · cases hf

theorem bodyM_sound {bb : Nat} {call : CallF} {loop : LoopF} {hn : Hints} {f : FuncId} {af : AFunc} (hf : compFunc P hn f = some af) (hcall : CallsOk P call)
    (hloop : ∀ (N : Nat) (X : Nat → Nat → Prop) (w0 : Base) code c keep st r, w0.H.length ≤ bb → compCode P hn N code = some c → loop c keep st = some r → ∀ a w H, SR X w0 N st a w H → (Code.loop code).wp P (PostE X w0 N r) a w)
    {args : List AV} {m m' : List MObj} {r : AV} (hbb : bb = m.length) (hr : runBodyM call loop af args m = some (r, m')) : CallOkM P f args m r m' := by
  unfold compFunc at hf
  split at hf
  · rename_i fn hfn
    split at hf
    · rename_i c hb
      split at hf
      · rename_i ac rs hac hrs
        split at hf
        · rename_i hle
          obtain ⟨hle, hname⟩ := hle
          injection hf with hf; subst hf
          refine ⟨⟨fn, hfn, by rw [hb]; rfl, hname⟩, fun X o w H vs hm0 hg0 hn0 hX hgl hargs => ?_⟩
          unfold runBodyM at hr
          rw [← hbb] at hr
          split at hr
          · rename_i hlen
            simp only at hlen
            have hvs : vs.size = (fn.params.size + fn.nfree) := by rw [hargs.1, hlen]
            have hs0 : SR X ⟨o, w, H⟩ fn.ntmps ⟨enterF (fn.params.size + fn.nfree) 0 args, m⟩ ⟨vs ++ Array.replicate (fn.ntmps - vs.size) undef, []⟩ w H := by
              refine ⟨rfl, by simp; omega, ⟨fun s => ?_, hgl⟩, hm0, hg0, hn0, hX, Goes.refl⟩
              rw [look_enter, if_pos (Nat.zero_le _), Nat.sub_zero]
              rcases hq : args[s]? with _ | y
              · exact .any _ _
              · have := hargs.2 s y hq
                have hlt : s < vs.size := by rw [hargs.1]; exact (List.getElem?_eq_some_iff.1 hq).1
                have e : (vs ++ Array.replicate (fn.ntmps - vs.size) undef).getD s undef = vs.getD s undef := by
                  simp only [Array.getD_eq_getD_getElem?]
                  rw [Array.getElem?_append_left hlt]
                rw [e]; exact this
            have fin : ∀ ex st, aexec call bb loop ac ⟨enterF (fn.params.size + fn.nfree) 0 args, m⟩ = some (ex, st) → (ex = .normal ∨ ex = .ret) → (resLM st rs).map (fun l => (mkRes l, st.m)) = some (r, m') → Calls P f vs w fun e w' => ∃ v H', e = .returned v ∧ Rep (Stab X H' w') w' H' v r ∧ MemAt X w' m' H' ∧ Fr (fun _ => False) o w' ∧ (∀ (i : Nat) (h : Hd) (b : Nat), H'[i]? = some h → h.blk = some b → o.heap.size ≤ b) ∧ Goes X w H w' H' := by
              intro ex st hex hor hres
              simp only [Option.map_eq_some_iff] at hres
              obtain ⟨ys, hys, he0⟩ := hres
              injection he0 with he1 he2
              subst he1 he2
              refine calls_of_wp hfn hb (wp_mono (code_sound (bb := bb) (by rw [hbb, ← hm0.len]; exact Nat.le_refl _) hcall (fun code c keep st r => hloop _ _ _ code c keep st r (by rw [hbb, ← hm0.len]; exact Nat.le_refl _)) c ac hac _ _ hex _ _ _ hs0) fun e a' w' ⟨he, H', hs'⟩ => ?_)
              have hpost : a'.defers = [] ∧ ∃ v, (results fn a'.tmps).run P w' = .ok v w' ∧ ∃ v' H', (Ending.returned v = .returned v') ∧ Rep (Stab X H' w') w' H' v' (mkRes ys) ∧ MemAt X w' st.m H' ∧ Fr (fun _ => False) o w' ∧ (∀ (i : Nat) (h : Hd) (b : Nat), H'[i]? = some h → h.blk = some b → o.heap.size ≤ b) ∧ Goes X w H w' H' := by
                refine ⟨hs'.dfr, ?_⟩
                obtain ⟨us, q1, q2, q3⟩ := resultsM_sound (P := P) hs' fn.results.toList _ rs ys hrs hys
                refine ⟨if h : us.toArray.size = 1 then us.toArray[0] else .tuple us.toArray, ?_, _, H', rfl, ?_, hs'.mem, hs'.grw, hs'.new, hs'.since⟩
                · have hm : results fn a'.tmps = (do
                      let vs ← Functor.map List.toArray (fn.results.toList.mapM (fun (x : ResultVar) => (match x with | .tmp t => pure (a'.tmps.getD t undef) | .cell t ty => do loadVar ty (← asAddr (a'.tmps.getD t undef)) : Sem Value)))
                      pure (if h : vs.size = 1 then vs[0] else .tuple vs)) := by
                    unfold results
                    rw [Array.mapM_eq_mapM_toList]
                    rfl
                  rw [hm]
                  simp only [Sem.run_bind, map_eq_pure_bind, q1, Result.andThen_ok, Sem.run_pure]
                · by_cases h1 : us.length = 1
                  · have hy1 : ∃ y, ys = [y] := by
                      match ys, (by omega : ys.length = 1) with
                      | [y], _ => exact ⟨y, rfl⟩
                    obtain ⟨y, rfl⟩ := hy1
                    rw [dif_pos (by simpa using h1)]
                    have := q3 0 y rfl
                    simp only [mkRes]
                    have e : us.toArray[0]'(by simpa using (by omega : 0 < us.length)) = us.getD 0 undef := by
                      simp [List.getD_eq_getElem?_getD, show 0 < us.length from by omega]
                    rw [e]; exact this
                  · rw [dif_neg (by simpa using h1)]
                    have e : mkRes ys = .tuple ys := by
                      match ys, (by omega : ys.length ≠ 1) with
                      | [], _ => rfl
                      | [y], h => exact absurd rfl h
                      | _ :: _ :: _, _ => rfl
                    rw [e]
                    exact .tuple (by simpa using q2) fun i y hy => by
                      have := q3 i y hy
                      simpa [Array.getD_eq_getD_getElem?, List.getD_eq_getElem?_getD] using this
              rcases hor with rfl | rfl
              · cases e <;> simp only at he
                exact hpost
              · cases e <;> simp only at he
                exact hpost
            split at hr
            · rename_i st hex; exact fin _ st hex (.inl rfl) hr
            · rename_i st hex; exact fin _ st hex (.inr rfl) hr
            · cases hr
          · cases hr
        · cases hf
      · cases hf
    · cases hf
  · cases hf

theorem loop_sound {call : CallF} {hn : Hints} (hcall : CallsOk P call) {bb : Nat} :
    ∀ k, ∀ (N : Nat) (X : Nat → Nat → Prop) (w0 : Base) code c keep st r, w0.H.length ≤ bb → compCode P hn N code = some c → loopK call bb k c keep st = some r → ∀ a w H, SR X w0 N st a w H → (Code.loop code).wp P (PostE X w0 N r) a w := by
  intro k
  induction k using Nat.strongRecOn with
  | _ k ih =>
    intro N X w0 code c keep st r hbb hc hr a w H hs
    let T : Act → World → Nat → Prop := fun a w j => ∃ st H, SR X w0 N st a w H ∧ loopK call bb j c keep st = some r
    refine wp_loop (fun a w => ∃ j, j ≤ k ∧ T a w j) (fun a w => sInfN (T a w)) ⟨k, Nat.le_refl k, st, H, hs, hr⟩ ?_
    intro a w ⟨j0, hj0, hT0⟩
    obtain ⟨hT, hmin⟩ := sInfN_spec hT0
    generalize hj : sInfN (T a w) = j at hT hmin
    have hjk : j ≤ k := Nat.le_trans (hmin j0 hT0) hj0
    obtain ⟨st, H, hs, hr⟩ := hT
    cases j with
    | zero => simp [loopK] at hr
    | succ j =>
      simp only [loopK] at hr
      obtain ⟨H0, hs⟩ := hs.norm hbb keep
      have body : ∀ ex st', aexec call bb (loopK call bb j) c (normSt bb keep st) = some (ex, st') → code.wp P (PostE X w0 N (ex, st')) a w := fun ex st' hex =>
        code_sound (bb := bb) hbb hcall (fun code c keep st r => ih j (by omega) N X w0 code c keep st r hbb) code c hc _ _ hex a w H0 hs
      split at hr
      · rename_i st' hex
        refine wp_mono (body _ st' hex) fun e a' w' ⟨he, H', hs'⟩ => ?_
        cases e <;> simp only at he
        refine ⟨⟨j, by omega, _, H', hs', hr⟩, ?_⟩
        have : sInfN (T a' w') ≤ j := (sInfN_spec (p := T a' w') ⟨_, H', hs', hr⟩).2 j ⟨_, H', hs', hr⟩
        omega
      · rename_i hne
        rcases hq : aexec call bb (loopK call bb j) c (normSt bb keep st) with _ | ⟨ex, st1⟩
        · rw [hq] at hr; cases hr
        · rw [hq] at hr
          injection hr with hr
          refine wp_mono (body ex st1 hq) fun e a' w' ⟨he, H', hs'⟩ => ?_
          cases ex with
          | normal => exact absurd hq (hne st1)
          | exit i =>
            cases e <;> simp only at he
            exact hr ▸ ⟨he, H', hs'⟩
          | ret =>
            cases e <;> simp only at he
            exact hr ▸ ⟨trivial, H', hs'⟩

/-- what the machine answers, the model's call returns -/
theorem run_sound {F : FuncId → Option AFunc} {Ext : CallF} (hF : ∀ f af, F f = some af → ∃ hn, compFunc P hn f = some af) (hE : CallsOk P Ext) :
    ∀ n, CallsOk P (runF F Ext n) := by
  intro n
  induction n with
  | zero => exact ⟨fun f vs r h => by simp [runF] at h, fun f vs m r m' h => by simp [runF] at h⟩
  | succ n ih =>
    refine ⟨fun f vs r hr => ?_, fun f vs m r m' hr => ?_⟩
    · simp only [runF] at hr
      split at hr
      · rename_i af haf
        obtain ⟨hn, hc⟩ := hF f af haf
        exact body_sound hc ih (fun N X w0 code c keep st r => loop_sound ih n N X w0 code c keep st r) hr
      · exact hE.1 f vs r hr
    · simp only [runF] at hr
      split at hr
      · rename_i af haf
        obtain ⟨hn, hc⟩ := hF f af haf
        exact bodyM_sound hc ih (fun N X w0 code c keep st r => loop_sound ih n N X w0 code c keep st r) rfl hr
      · exact hE.2 f vs m r m' hr
end
end Go.Proofs.YtgjdmlhgapmflaaDoor
