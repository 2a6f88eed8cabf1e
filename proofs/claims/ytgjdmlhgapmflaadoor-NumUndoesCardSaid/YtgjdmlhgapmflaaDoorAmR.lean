/- The abstract machine: its further operations do what the model does. -/
import Derived.Test.YtgjdmlhgapmflaaDoorAmQ
import Derived.MapKept
namespace Go.Proofs.YtgjdmlhgapmflaaDoor
set_option linter.unusedVariables false
set_option linter.unusedSimpArgs false
open Go.MapKept

section
variable {P : Program} {X : Nat → Nat → Prop} {w0 : Base} {w w' : World} {N : Nat} {st : St} {a : Act} {fr : List (Nat × AV)} {m : List MObj} {H : List Hd} {d : Option Nat} {av : AV}

theorem find_ok (s : ByteArray) : ∀ (es : List (Value × AV)) (ens : List MapEntry) (i : Nat) (r : Option (Nat × AV)), ens.length = es.length → (∀ (j : Nat) (k : Value) (y : AV), es[j]? = some (k, y) → ∃ e, ens[j]? = some e ∧ e.key = k) →
    findE (.string s) es i = some r → match r with
      | none => Instr.findNow .string (.string s) ens i = some none
      | some (j, y) => ∃ e k, i ≤ j ∧ es[j - i]? = some (k, y) ∧ ens[j - i]? = some e ∧ e.key = .string s ∧ Instr.findNow .string (.string s) ens i = some (some (j, e.val))
  | [], [], i, r, _, _, h => by
    simp only [findE, Option.some.injEq] at h
    subst h
    rfl
  | [], _ :: _, i, r, hl, _, h => by simp at hl
  | _ :: _, [], i, r, hl, _, h => by simp at hl
  | (k, y) :: es, e :: ens, i, r, hl, hk, h => by
    obtain ⟨e', he, hke⟩ := hk 0 k y rfl
    simp only [List.getElem?_cons_zero, Option.some.injEq] at he
    subst he
    simp only [findE] at h
    have hsame : ∀ b, vEq (.string s) k = some b → Instr.sameNow .string (.string s) e.key = some b := by
      intro b hb
      rw [hke]
      cases k <;> simp only [vEq, reduceCtorEq] at hb
      rename_i s2
      injection hb with hb; subst hb
      show some (s == s2) = _
      rw [bytes_beq']
    split at h
    · rename_i hv
      injection h with h; subst h
      refine ⟨e, k, Nat.le_refl _, by simp, by simp, ?_, ?_⟩
      · rw [hke]
        cases k <;> simp only [vEq, reduceCtorEq] at hv
        rename_i s2
        injection hv with hv
        simp only [decide_eq_true_eq] at hv
        congr 1
        cases s; cases s2
        simp only at hv
        congr 1
        exact (Array.toList_inj.1 hv).symm
      · simp only [Instr.findNow, hsame _ hv]
    · rename_i hv
      have ih := find_ok s es ens (i + 1) r (by simpa using hl) (fun j k y hj => by have := hk (j + 1) k y (by simpa using hj); simpa using this) h
      cases r with
      | none => simp only at ih ⊢; simp only [Instr.findNow, hsame _ hv]; exact ih
      | some p =>
        obtain ⟨j, y'⟩ := p
        simp only at ih ⊢
        obtain ⟨e1, k1, h1, h2, h3, h4, h5⟩ := ih
        refine ⟨e1, k1, by omega, ?_, ?_, h4, ?_⟩
        · rw [show j - i = (j - (i + 1)) + 1 from by omega]; simpa using h2
        · rw [show j - i = (j - (i + 1)) + 1 from by omega]; simpa using h3
        · simp only [Instr.findNow, hsame _ hv]; exact h5
    · cases h

theorem strOf {t : TypeId} (h : keyTy P t = true) : P.underlying t = some .string := by
  unfold keyTy at h
  split at h
  · assumption
  · cases h

/-- the map that a value names -/
theorem map_at {v : Value} {es : List (Value × AV)} (hm : MemAt X w m H) (h : Rep (Stab X H w) w H v av) (hes : mapOf m av = some es) :
    (v = .map none ∧ es = []) ∨ ∃ id b ens cl, av = .mp id ∧ v = .map (some b) ∧ m[id]? = some (.mp es) ∧ H[id]? = some (.mp b) ∧ w.heap[b]? = some (.map ens cl) ∧ ens.size = es.length ∧
      ∀ (i : Nat) (k : Value) (y : AV), es[i]? = some (k, y) → ∃ e, ens[i]? = some e ∧ e.key = k ∧ e.born < cl ∧ y.ground = true ∧ Rep (Stab X H w) w [] e.val y := by
  unfold mapOf at hes
  split at hes
  · rename_i id
    split at hes
    · rename_i es' hobj
      injection hes with hes; subst hes
      cases h with
      | mp id hH =>
        have hO := hm.obj _ _ _ hobj hH
        simp only [ObjAt] at hO
        obtain ⟨ens, cl, h1, h2, h3⟩ := hO
        exact .inr ⟨id, _, ens, cl, rfl, rfl, hobj, hH, h1, h2, h3⟩
    · cases hes
  · injection hes with hes; subst hes
    exact .inl ⟨rep_val h, rfl⟩
  · cases hes

theorem gives_lookup {t kt e : TypeId} {v : Value} {z : Value} {s : ByteArray} {ok : Bool} (ht : P.underlying t = some (.map kt e)) (hk : P.underlying kt = some .string) (hz : zeOf P e = some z) (hm : MemAt X w m H) {ax : AV} (h : Rep (Stab X H w) w H v ax)
    (hr : mlookA m (AV.ofV z) ok ax (.val (.string s)) = some av) : ∃ u, Gives P w (Instr.lookup t v (.string s) ok) u ∧ Rep (Stab X H w) w H u av := by
  have hkey : IsKey .string (.string s) := trivial
  have two : ∀ {u u' : Value} {y y' : AV}, Rep (Stab X H w) w H u y → Rep (Stab X H w) w H u' y' → Rep (Stab X H w) w H (.tuple #[u, u']) (.tuple [y, y']) := fun h h' => .tuple rfl fun i q hq => by
    match i, hq with
    | 0, hq => cases hq; exact h
    | 1, hq => cases hq; exact h'
  unfold mlookA at hr
  simp only at hr
  split at hr
  · rename_i es hes
    rcases map_at hm h hes with ⟨rfl, rfl⟩ | ⟨id, b, ens, cl, rfl, rfl, hobj, hH, hb, hn, hent⟩
    · simp only [findE, Option.some.injEq] at hr
      have hf : Instr.findNow .string (.string s) [] 0 = some none := rfl
      cases ok
      · simp only [Bool.false_eq_true, if_false] at hr; subst hr
        exact ⟨z, fun w' _ => by simp [Instr.lookup, run_underlying ht, run_checkKey hk hkey, run_findKey hk hf, run_zeOf hz], rep_ofV z⟩
      · simp only [if_true] at hr; subst hr
        exact ⟨.tuple #[z, .bool false], fun w' _ => by simp [Instr.lookup, run_underlying ht, run_checkKey hk hkey, run_findKey hk hf, run_zeOf hz], two (rep_ofV z) (.val _ _)⟩
    · split at hr
      · rename_i j y hfe
        have := find_ok s es ens.toList 0 _ (by simpa using hn) (fun j k y hj => by obtain ⟨e, h1, h2, _⟩ := hent j k y hj; exact ⟨e, by simpa using h1, h2⟩) hfe
        simp only at this
        obtain ⟨e1, k1, h1, h2, h3, h4, h5⟩ := this
        rw [Nat.sub_zero] at h2 h3
        obtain ⟨e2, g1, g2, g3, g4, g5⟩ := hent _ _ _ h2
        have : e2 = e1 := by rw [Array.getElem?_toList] at h3; rw [g1] at h3; injection h3
        subst this
        have hrep : Rep (Stab X H w) w H e2.val y := g5.mono (fun _ _ q => ⟨q, rfl⟩) (HLe.nil _)
        have hobj' : ∀ w' : World, Ext w w' → w'.heap[b]? = some (.map ens cl) := fun w' hw' => by rw [hw' b (lt_of_heap hb)]; exact hb
        cases ok
        · simp only [Bool.false_eq_true, if_false, Option.some.injEq] at hr; subst hr
          exact ⟨e2.val, fun w' hw' => by simp [Instr.lookup, run_underlying ht, MapKept.run_getObj_map (hobj' w' hw'), run_checkKey hk hkey, run_findKey hk h5], hrep⟩
        · simp only [if_true, Option.some.injEq] at hr; subst hr
          exact ⟨.tuple #[e2.val, .bool true], fun w' hw' => by simp [Instr.lookup, run_underlying ht, MapKept.run_getObj_map (hobj' w' hw'), run_checkKey hk hkey, run_findKey hk h5], two hrep (.val _ _)⟩
      · rename_i hfe
        have hf := find_ok s es ens.toList 0 _ (by simpa using hn) (fun j k y hj => by obtain ⟨e, h1, h2, _⟩ := hent j k y hj; exact ⟨e, by simpa using h1, h2⟩) hfe
        simp only at hf
        have hobj' : ∀ w' : World, Ext w w' → w'.heap[b]? = some (.map ens cl) := fun w' hw' => by rw [hw' b (lt_of_heap hb)]; exact hb
        cases ok
        · simp only [Bool.false_eq_true, if_false, Option.some.injEq] at hr; subst hr
          exact ⟨z, fun w' hw' => by simp [Instr.lookup, run_underlying ht, MapKept.run_getObj_map (hobj' w' hw'), run_checkKey hk hkey, run_findKey hk hf, run_zeOf hz], rep_ofV z⟩
        · simp only [if_true, Option.some.injEq] at hr; subst hr
          exact ⟨.tuple #[z, .bool false], fun w' hw' => by simp [Instr.lookup, run_underlying ht, MapKept.run_getObj_map (hobj' w' hw'), run_checkKey hk hkey, run_findKey hk hf, run_zeOf hz], two (rep_ofV z) (.val _ _)⟩
      · cases hr
  · cases hr

/-- == on structs and arrays -/
theorem eqV_of {cx cy : Array Value} {lx ly : List AV} (hx : ∀ (i : Nat) (y : AV), lx[i]? = some y → Rep (Stab X H w) w H (cx.getD i undef) y) (hy : ∀ (i : Nat) (y : AV), ly[i]? = some y → Rep (Stab X H w) w H (cy.getD i undef) y) : ∀ (offs : List (Nat × Nat)) (r : Bool), aeqL lx ly offs = some r → eqV cx cy offs = some r
  | [], r, h => h
  | (o, q) :: offs, r, h => by
    simp only [aeqL] at h
    split at h
    · rename_i u v h1 h2
      have e1 := rep_val (hx _ _ h1)
      have e2 := rep_val (hy _ _ h2)
      simp only [eqV, e1, e2]
      split at h
      · rename_i hv; rw [hv]; exact eqV_of hx hy offs r h
      · rename_i hv; rw [hv]; exact h
      · cases h
    · cases h
theorem gives_aeq {ne : Bool} {t : TypeId} {x y : Operand} {vx vy : Value} {lx ly : List AV} {offs : List (Nat × Nat)} {r : Bool} (hag : agOf P t = some true) (hn : ∃ n, szOf P t = some n) (hg : P.eqGuardType P.depth t = false) (hl : leafOffs P 12 t = some offs)
    (h1 : Rep (Stab X H w) w H vx (.agg lx)) (h2 : Rep (Stab X H w) w H vy (.agg ly)) (hsz : ∀ n, szOf P t = some n → n ≤ lx.length ∧ n ≤ ly.length) (hr : aeqL lx ly offs = some r) :
    ∃ u, Gives P w (do eqGuard (if ne then .neq else .eql) t x y vx vy; binOp (if ne then .neq else .eql) t vx vy) u ∧ Rep (Stab X H w) w H u (.val (.bool (if ne then !r else r))) := by
  obtain ⟨n, hn⟩ := hn
  obtain ⟨cx, rfl, hx1, hx2⟩ := rep_agg h1
  obtain ⟨cy, rfl, hy1, hy2⟩ := rep_agg h2
  obtain ⟨s1, s2⟩ := hsz n hn
  have hq := eqV_of hx2 hy2 offs r hr
  have he : ∀ w, (Op.equalIn 10000 t (.agg cx) (.agg cy)).run P w = .ok r w := fun w => leaf_ok 12 t offs hl 10000 (by omega) true n _ _ cx cy r w hag hn rfl rfl (by omega) (by omega) hq
  refine ⟨_, fun w' _ => ?_, .val _ _⟩
  cases ne
  · simp only [Bool.false_eq_true, if_false, Sem.run_bind, run_eqGuard_agg w' .eql t x y cx cy hg, Result.andThen_ok, run_eql_struct, he]
  · simp only [if_true, Sem.run_bind, run_eqGuard_agg w' .neq t x y cx cy hg, Result.andThen_ok, run_neq_struct, he]
theorem nil_eq {t : TypeId} {x y : Operand} {u c : Value} {r : Bool} (hc : y = .const c) (hg : ∀ op w, (eqGuard op t x y u c).run P w = .ok () w) (h1 : binOp .eql t u c = (do pure (.bool (← Op.equal t u c)))) (h2 : binOp .neq t u c = (do pure (.bool (!(← Op.equal t u c))))) (he : ∀ (D : Nat) (w : World), (Op.equalIn (D + 1) t u c).run P w = .ok r w) (ne : Bool) :
    Gives P w (do eqGuard (if ne then .neq else .eql) t x y u (a.eval y); binOp (if ne then .neq else .eql) t u (a.eval y)) (.bool (if ne then !r else r)) := by
  intro w' _
  subst hc
  have he' : ∀ w, (Op.equal t u c).run P w = .ok r w := fun w => he 9999 w
  cases ne
  · simp only [Bool.false_eq_true, if_false, Act.eval, Sem.run_bind, hg, Result.andThen_ok, h1, he', Sem.run_pure]
  · simp only [if_true, Act.eval, Sem.run_bind, hg, Result.andThen_ok, h2, he', Sem.run_pure]
theorem gives_nil {ne : Bool} {t : TypeId} {x y : Operand} {vx : Value} {r : Bool} (hc : nilC P t y = true) (h1 : Rep (Stab X H w) w H vx av) (hr : isnilA (cstOf y) av = some r) :
    ∃ u, Gives P w (do eqGuard (if ne then .neq else .eql) t x y vx (a.eval y); binOp (if ne then .neq else .eql) t vx (a.eval y)) u ∧ Rep (Stab X H w) w H u (.val (.bool (if ne then !r else r))) := by
  refine ⟨.bool (if ne then !r else r), ?_, .val _ _⟩
  unfold nilC at hc
  split at hc
  · split at hc
    · rename_i e ht
      refine nil_eq rfl (fun op w => ?_) ?_ ?_ (fun D w => ?_) ne
      all_goals (simp only [cstOf, isnilA] at hr; split at hr)
      all_goals first | (rename_i hh; cases hh; done) | (cases hr; done) | (injection hr with hr; subst hr; cases h1; first | rfl | (cases op <;> rfl) | (simp [Op.equalIn, run_underlying ht]; done))
    · cases hc
  · split at hc
    · rename_i ht
      refine nil_eq rfl (fun op w => ?_) ?_ ?_ (fun D w => ?_) ne
      all_goals (simp only [cstOf, isnilA] at hr; split at hr)
      all_goals first | (rename_i hh; cases hh; done) | (cases hr; done) | (injection hr with hr; subst hr; cases h1; first | rfl | (cases op <;> rfl) | (simp [Op.equalIn, run_underlying ht]; done))
    · cases hc
  · split at hc
    · rename_i ht
      refine nil_eq rfl (fun op w => ?_) ?_ ?_ (fun D w => ?_) ne
      all_goals (simp only [cstOf, isnilA] at hr; split at hr)
      all_goals first | (rename_i hh; cases hh; done) | (cases hr; done) | (injection hr with hr; subst hr; cases h1; first | rfl | (cases op <;> rfl) | (simp [Op.equalIn, run_underlying ht]; done))
    · cases hc
  · split at hc
    · rename_i ht
      refine nil_eq rfl (fun op w => ?_) ?_ ?_ (fun D w => ?_) ne
      all_goals (simp only [cstOf, isnilA] at hr; split at hr)
      all_goals first | (rename_i hh; cases hh; done) | (cases hr; done) | (injection hr with hr; subst hr; cases h1; first | rfl | (cases op <;> rfl) | (cases op <;> simp [eqGuard]; done) | (simp [Op.equalIn, run_underlying ht]; done))
    · cases hc
  · split at hc
    · rename_i ht
      refine nil_eq rfl (fun op w => ?_) ?_ ?_ (fun D w => ?_) ne
      all_goals (simp only [cstOf, isnilA] at hr; split at hr)
      all_goals first | (rename_i hh; cases hh; done) | (cases hr; done) | (injection hr with hr; subst hr; cases h1; first | rfl | (cases op <;> rfl) | (simp [Op.equalIn, run_underlying ht]; done))
    · cases hc
  · cases hc
end
end Go.Proofs.YtgjdmlhgapmflaaDoor
