/- The abstract machine: its reading operations do what the model does. -/
import Derived.Test.YtgjdmlhgapmflaaDoorAm4
namespace Go.Proofs.YtgjdmlhgapmflaaDoor
set_option linter.unusedVariables false
set_option linter.unusedSimpArgs false

theorem addr_add (b o k : Nat) : (⟨b, o, none⟩ : Addr).add k = ⟨b, o + k, none⟩ := by
  unfold Addr.add
  split
  · rename_i h; subst h; rfl
  · rfl

section
variable {P : Program}
set_option maxHeartbeats 1000000 in
theorem run_binV {op : BinOp} {a b r : Value} (h : binV op a b = some r) (t : TypeId) (x y : Operand) (w : World) : (do eqGuard op t x y a b; binOp op t a b).run P w = .ok r w := by
  unfold binV at h
  split at h
  all_goals try (split at h <;> try (cases h; done))
  all_goals try (split at h <;> try (cases h; done))
  all_goals first
    | (cases h; done)
    | (have := run_now (P := P) h w; simp [eqGuard, binOp, this]; done)
    | (injection h with h; subst h; simp [eqGuard, binOp, Op.intArith, Op.intDiv, Op.intCmp, Op.stringOp, *]; done)
    | (have := run_now (P := P) h w; subst_vars; simp [eqGuard, binOp, this]; done)
    | (injection h with h; subst h; subst_vars; simp [eqGuard, binOp, Op.intArith, Op.intDiv, Op.intCmp, Op.stringOp, *]; done)
    | (rename_i a' b' hle
       have e : ¬ (((a'.size + b'.size : Nat) : Int) > IntKind.i64.max) := by
         have : IntKind.i64.max = 9223372036854775807 := by decide
         rw [this]; omega
       injection h with h; subst h
       simp [eqGuard, binOp, Op.stringOp, e] <;> omega)

/-- an operation's answer, the same in every grown world -/
def Gives (P : Program) (w : World) (s : Sem Value) (v : Value) : Prop := ∀ w' : World, Ext w w' → s.run P w' = .ok v w'

variable {w : World} {X : Nat → Nat → Prop} {m : List MObj} {H : List Hd} {v0 v1 : Value} {av0 av1 av : AV}

theorem mkV_some {n : Nat} {ag : Bool} {l : List AV} (h : mkV n ag l = some av) : n ≤ l.length ∧ ((ag = true ∧ av = .agg (l.take n)) ∨ (ag = false ∧ n = 1 ∧ l[0]? = some av)) := by
  unfold mkV at h
  split at h
  · cases h
  · rename_i hn
    refine ⟨by omega, ?_⟩
    split at h
    · rename_i hag; injection h with h; exact .inl ⟨hag, h.symm⟩
    · rename_i hag
      split at h
      · split at h
        · rename_i h1; injection h with h; subst h; exact .inr ⟨by simpa using hag, h1, rfl⟩
        · cases h
      · cases h

theorem s_load {t : TypeId} {n : Nat} {ag : Bool} (hn : szOf P t = some (n + 1)) (hag : agOf P t = some ag) (hm : MemAt X w m H) (h0 : Rep (Stab X H w) w H v0 av0) (hp : (cellsAt m av0).bind (mkV (n + 1) ag) = some av) :
    ∃ v, Gives P w (Instr.loadAt t v0) v ∧ Rep (Stab X H w) w H v av := by
  simp only [Option.bind_eq_some_iff] at hp
  obtain ⟨l, hl, hk⟩ := hp
  obtain ⟨hle, hk⟩ := mkV_some hk
  obtain ⟨b, o, u, rfl, hb, hc⟩ := rep_cellsAt hm h0 hl (by omega)
  have hcs : ∀ w' : World, Ext w w' → ∀ (j : Nat) (v : Value), ((List.range (n + 1)).map u)[j]? = some v → w'.cell? ⟨b, o + j, none⟩ = some v := by
    intro w' hw' j v hv
    simp only [List.getElem?_map] at hv
    by_cases hj : j < n + 1
    · rw [List.getElem?_range hj] at hv
      simp only [Option.map_some, Option.some.injEq] at hv
      subst hv
      rw [hw'.cell hb]
      exact (hc j _ (List.getElem?_eq_getElem (by omega))).1
    · rw [List.getElem?_eq_none (by simp; omega)] at hv; cases hv
  refine ⟨if ag then .agg ((List.range (n + 1)).map u).toArray else ((List.range (n + 1)).map u).headD undef, fun w' hw' => ?_, ?_⟩
  · simp only [Instr.loadAt, Instr.sureAddr]
    simp only [Sem.run_bind, Sem.run_pure, Result.andThen_ok]
    exact run_loadVar hn hag b o _ (by simp) (fun h => by
      rcases hk with ⟨h', _⟩ | ⟨_, h', _⟩
      · rw [h] at h'; cases h'
      · exact h') (hcs w' hw')
  · rcases hk with ⟨h', rfl⟩ | ⟨h', h1, h2⟩
    · subst h'
      refine .agg (by simp; omega) fun i y hy => ?_
      have hlt := (List.getElem?_eq_some_iff.1 hy).1
      simp only [List.length_take] at hlt
      rw [List.getElem?_take, if_pos (by omega)] at hy
      have := (hc i y hy).2
      simp only [Array.getD_eq_getD_getElem?, List.getElem?_toArray, List.getElem?_map]
      rw [List.getElem?_range (by omega)]
      exact this
    · subst h'
      have hn0 : n = 0 := by omega
      subst hn0
      have := (hc 0 _ h2).2
      simpa using this

theorem rowOk_some {id ver used : Nat} (h : rowOk m id ver used = true) : ∃ s l wr ap, m[id]? = some (.row ver s l wr ap) ∧ l.length = used := by
  unfold rowOk at h
  split at h
  · rename_i v s l wr ap hobj
    simp only [decide_eq_true_eq] at h
    obtain ⟨rfl, rfl⟩ := h
    exact ⟨s, l, wr, ap, hobj, rfl⟩
  · cases h
theorem rep_elt {id ver used i fo : Nat} (hm : MemAt X w m H) (h0 : Rep (Stab X H w) w H v0 (.elt id ver used i fo)) (h : rowOk m id ver used = true) (k : Nat) :
    ∃ b o, v0 = .pointer (some ⟨b, o, none⟩) ∧ Rep (Stab X H w) w H (.pointer (some ⟨b, o + k, none⟩)) (.elt id ver used i (fo + k)) := by
  obtain ⟨s, l, wr, ap, hobj, hu⟩ := rowOk_some h
  cases h0 with
  | elt id ver used i fo hs hH hle hvv =>
    have hO := hm.obj _ _ _ hobj hH
    simp only [ObjAt] at hO
    obtain ⟨e1, e2, es, e3, _⟩ := hO
    obtain ⟨g1, rfl⟩ := hvv e1.symm (by omega)
    exact ⟨_, _, rfl, Rep.elt id ver used i (fo + k) ⟨_, rfl⟩ hH hle fun _ _ => ⟨g1, by rw [Nat.add_assoc]⟩⟩
theorem rep_rptr {l : List AV} (h0 : Rep (Stab X H w) w H v0 (.rptr l)) (k : Nat) : ∃ b o, v0 = .pointer (some ⟨b, o, none⟩) ∧ Rep (Stab X H w) w H (.pointer (some ⟨b, o + k, none⟩)) (.rptr (l.drop k)) := by
  cases h0 with
  | rptr b o u hg hcell hrep =>
    refine ⟨b, o, rfl, .rptr b (o + k) (fun j => u (k + j)) (fun j y hy => hg (k + j) y (by rwa [List.getElem?_drop] at hy)) (fun j y hy => ?_) (fun j y hy => hrep (k + j) y (by rwa [List.getElem?_drop] at hy))⟩
    rw [List.getElem?_drop] at hy
    have := hcell _ _ hy
    rwa [← Nat.add_assoc] at this

theorem s_faddr {s : TypeId} {fs : Array Field} {f k : Nat} {fd : Field} (hs : P.underlying s = some (.struct fs)) (hf : fs[f]? = some fd) (hz : szOf P fd.type = some (k + 1)) (hm : MemAt X w m H) (h0 : Rep (Stab X H w) w H v0 av0)
    (hp : faddrA m fd.offset av0 = some av) :
    ∃ v, Gives P w (Instr.fieldAt s v0 f) v ∧ Rep (Stab X H w) w H v av := by
  have run : ∀ b o, Gives P w (Instr.fieldAt s (.pointer (some ⟨b, o, none⟩)) f) (.pointer (some ⟨b, o + fd.offset, none⟩)) := by
    intro b o w' hw'
    simp [Instr.fieldAt, run_underlying hs, hf, Instr.sureAddr, fieldPlace, run_szOf hz, addr_add]
  cases av0 <;> simp only [faddrA, reduceCtorEq] at hp
  case ptr id o =>
    injection hp with hp; subst hp
    cases h0 with
    | ptr id off hH => exact ⟨_, run _ _, .ptr _ _ hH⟩
  case rptr l =>
    injection hp with hp; subst hp
    obtain ⟨b, o, rfl, hr⟩ := rep_rptr h0 fd.offset
    exact ⟨_, run _ _, hr⟩
  case elt id ver used i fo =>
    split at hp
    · rename_i hok
      injection hp with hp; subst hp
      obtain ⟨b, o, rfl, hr⟩ := rep_elt hm h0 hok fd.offset
      exact ⟨_, run _ _, hr⟩
    · cases hp

theorem rep_mkV {l : List AV} {off n : Nat} {ag : Bool} (h0 : Rep (Stab X H w) w H v0 (.agg l)) (hp : mkV n ag (l.drop off) = some av) :
    ∃ cs : Array Value, v0 = .agg cs ∧ off + n ≤ cs.size ∧ (ag = false → n = 1) ∧ Rep (Stab X H w) w H (if ag then .agg (cs.extract off (off + n)) else cs.getD off undef) av ∨ n = 0 := by
  obtain ⟨cs, rfl, hn, hc⟩ := rep_agg h0
  obtain ⟨hle, hk⟩ := mkV_some hp
  simp only [List.length_drop] at hle
  by_cases hz : n = 0
  · exact ⟨cs, .inr hz⟩
  refine ⟨cs, .inl ⟨rfl, by omega, fun h => ?_, ?_⟩⟩
  · rcases hk with ⟨h', _⟩ | ⟨_, h', _⟩
    · rw [h] at h'; cases h'
    · exact h'
  · rcases hk with ⟨h', rfl⟩ | ⟨h', h1, h2⟩
    · subst h'
      refine .agg (by simp; omega) fun i y hy => ?_
      have hlt := (List.getElem?_eq_some_iff.1 hy).1
      simp only [List.length_take, List.length_drop] at hlt
      rw [List.getElem?_take, if_pos (by omega), List.getElem?_drop] at hy
      have := hc _ _ hy
      have e : (cs.extract off (off + n)).getD i undef = cs.getD (off + i) undef := by
        simp only [Array.getD_eq_getD_getElem?, Array.getElem?_extract]
        rw [if_pos (by omega)]
      rw [e]; exact this
    · subst h'
      rw [List.getElem?_drop] at h2
      simpa using hc _ _ h2
theorem s_fld {s : TypeId} {fs : Array Field} {f n : Nat} {ag : Bool} {fd : Field} {l : List AV} (hs : P.underlying s = some (.struct fs)) (hf : fs[f]? = some fd) (hz : szOf P fd.type = some (n + 1)) (hag : agOf P fd.type = some ag) (h0 : Rep (Stab X H w) w H v0 (.agg l))
    (hp : mkV (n + 1) ag (l.drop fd.offset) = some av) : ∃ v, Gives P w (Instr.field s v0 f) v ∧ Rep (Stab X H w) w H v av := by
  obtain ⟨cs, ⟨rfl, h1, h2, h3⟩ | h⟩ := rep_mkV h0 hp
  · refine ⟨_, fun w' _ => ?_, h3⟩
    simp [Instr.field, run_underlying hs, hf, asAgg, run_part hz hag cs fd.offset h1 h2]
  · omega

theorem rep_int {k : IntKind} {n : Int} (h : Rep (Stab X H w) w H v1 (.val (.int k n))) : v1 = .int k n := rep_val h

theorem s_iaddr {t e : TypeId} {sz n : Nat} (ht : P.underlying t = some (.slice e)) (hz : szOf P e = some sz) (hm : MemAt X w m H) (h0 : Rep (Stab X H w) w H v0 av0) (h1 : Rep (Stab X H w) w H v1 av1) (hi : av1.toN = some n)
    (hp : iaddrA m sz n av0 = some av) : ∃ v, Gives P w (Instr.indexAt t v0 v1) v ∧ Rep (Stab X H w) w H v av := by
  obtain ⟨k, rfl⟩ := toN_some hi
  obtain rfl := rep_val h1
  have run : ∀ (b o len c : Nat), n < len → Gives P w (Instr.indexAt t (.slice (some ⟨b, o, none⟩) len c) (.int k (n : Int))) (.pointer (some ⟨b, o + n * sz, none⟩)) := by
    intro b o len c hlt w' _
    simp [Instr.indexAt, asIntOf, run_underlying ht, hlt, run_szOf hz, addr_add]
  cases av0 <;> simp only [iaddrA, reduceCtorEq] at hp
  case row id ver used off len =>
    split at hp
    · rename_i v s l wr ap hobj
      split at hp
      · rename_i hc
        obtain ⟨rfl, rfl, hlt, rfl⟩ := hc
        injection hp with hp; subst hp
        cases h0 with
        | row id ver used off len hs hH hle hvv =>
          have hO := hm.obj _ _ _ hobj hH
          simp only [ObjAt] at hO
          obtain ⟨e1, e2, rfl, e3, e4, e5, e6⟩ := hO
          obtain ⟨g1, g2, A, rfl, g3, g4⟩ := hvv e1.symm (by omega)
          rename_i b cap cver cused wr'
          obtain rfl := g3 (by omega)
          refine ⟨_, run b (off * s) len _ hlt, Rep.elt id _ _ (off + n) 0 ⟨_, rfl⟩ hH hle fun _ _ => ⟨by omega, ?_⟩⟩
          rw [Nat.add_zero, Nat.add_mul]
      · cases hp
    · cases hp
  case slice s l =>
    split at hp
    · rename_i x hx
      split at hp
      · rename_i hxz
        subst hxz
        injection hp with hp; subst hp
        cases h0 with
        | slice b off _ u hc hz' hA hsz hcell hrep =>
          have hlt := (List.getElem?_eq_some_iff.1 hx).1
          obtain rfl := hA (by omega)
          refine ⟨_, run b off l.length _ hlt, .rptr b (off + n * s) (u n) (fun j y hy => ?_) (fun j y hy => hcell n x j y hx hy) fun j y hy => hrep n x j y hx hy⟩
          exact List.all_eq_true.1 (hsz _ _ hx).1 y (List.mem_of_getElem? hy)
      · cases hp
    · cases hp
end
end Go.Proofs.YtgjdmlhgapmflaaDoor
