/- The abstract machine: a reading operation gives what the model gives. -/
import Derived.Test.YtgjdmlhgapmflaaDoorAm7
namespace Go.Proofs.YtgjdmlhgapmflaaDoor
set_option linter.unusedVariables false
set_option linter.unusedSimpArgs false

section
variable {P : Program} {w : World} {X : Nat → Nat → Prop} {m : List MObj} {H : List Hd} {av : AV} {a : Act} {fr : List (Nat × AV)}

theorem s_build {t : TypeId} {parts : Array (Nat × Operand)} {z : Value} {pl : List (Nat × Nat × Operand)} {l : List AV} (hr : FrOk (Stab X H w) w H a fr) (hz : zeOf P t = some z)
    (place : Nat → Option (Nat × Nat)) (hb : ∀ c, Instr.fill place z.cells (parts.map fun (i, x) => (i, a.eval x)).toList = some c → P.built t (parts.map fun (i, x) => (i, a.eval x)).toList = some c)
    (hpl : partsOf P place parts.toList = some pl) (hf : fillA fr (z.cells.toList.map .val) pl = some l) : ∃ v, Gives P w (Instr.build t (parts.map fun (i, x) => (i, a.eval x))) v ∧ Rep (Stab X H w) w H v (.agg l) := by
  obtain ⟨cells, h1, h2⟩ := fill_rep (P := P) hr place parts.toList pl z.cells _ l hpl (repL_vals _) hf
  have h1' : Instr.fill place z.cells (parts.map fun (i, x) => (i, a.eval x)).toList = some cells := by
    rw [Array.toList_map]; exact h1
  exact ⟨_, fun w' _ => run_build w' t _ cells (hb _ h1'), .agg h2.1 h2.2⟩

theorem min_run {k : IntKind} : ∀ (ys : List Operand) (n r : Int), minI n (ys.map (evA fr)) = some r → (FrOk (Stab X H w) w H a fr) → ∀ w' : World, ((ys.map a.eval).foldlM Builtin.min2 (Value.int k n)).run P w' = .ok (.int k r) w'
  | [], n, r, h, _, w' => by simp [minI] at h; subst h; simp
  | y :: ys, n, r, h, hr, w' => by
    simp only [List.map_cons, minI] at h
    split at h
    · rename_i k' b hy
      have := rep_ev hr y
      rw [hy] at this
      have e := rep_val this
      simp only [List.map_cons, List.foldlM_cons, e, Builtin.min2]
      simpa using min_run ys _ r h hr w'
    · cases h
theorem max_run {k : IntKind} : ∀ (ys : List Operand) (n r : Int), maxI n (ys.map (evA fr)) = some r → (FrOk (Stab X H w) w H a fr) → ∀ w' : World, ((ys.map a.eval).foldlM Builtin.max2 (Value.int k n)).run P w' = .ok (.int k r) w'
  | [], n, r, h, _, w' => by simp [maxI] at h; subst h; simp
  | y :: ys, n, r, h, hr, w' => by
    simp only [List.map_cons, maxI] at h
    split at h
    · rename_i k' b hy
      have := rep_ev hr y
      rw [hy] at this
      have e := rep_val this
      simp only [List.map_cons, List.foldlM_cons, e, Builtin.max2]
      simpa using max_run ys _ r h hr w'
    · cases h

theorem bytesL_ints : ∀ {l : List AV} {s : List UInt8}, bytesL l = some s → ∃ ns : List Int, l = ns.map (fun n => .val (.int .u8 n)) ∧ s = ns.map fun n => UInt8.ofNat n.toNat
  | [], s, h => by simp [bytesL] at h; subst h; exact ⟨[], rfl, rfl⟩
  | x :: r, s, h => by
    unfold bytesL at h
    split at h
    · rename_i e; cases e
    · rename_i n r' e
      injection e with e1 e2
      subst e1 e2
      simp only [Option.map_eq_some_iff] at h
      obtain ⟨s', h1, rfl⟩ := h
      obtain ⟨ns, rfl, rfl⟩ := bytesL_ints h1
      exact ⟨n :: ns, rfl, rfl⟩
    · cases h
theorem push_all : ∀ (ns : List Int) (b : ByteArray), ns.foldl (fun r n => r.push (UInt8.ofNat n.toNat)) b = ⟨(b.data.toList ++ ns.map fun n => UInt8.ofNat n.toNat).toArray⟩
  | [], b => by simp
  | n :: ns, b => by
    rw [List.foldl_cons, push_all ns]
    simp [ByteArray.push]
theorem s_b2s {s d e : TypeId} {v0 : Value} {av0 : AV} (hs : P.underlying s = some (.slice e)) (hd : P.underlying d = some .string) (he : u8Of P e = true) (hm : MemAt X w m H) (h0 : Rep (Stab X H w) w H v0 av0)
    (hp : ((elems m av0).bind fun l => (bytesL l).map fun s => AV.val (.string ⟨s.toArray⟩)) = some av) : ∃ v, Gives P w (convert s d v0) v ∧ Rep (Stab X H w) w H v av := by
  have he' : P.underlying e = some (.int .u8) := by
    unfold u8Of at he
    split at he
    · assumption
    · cases he
  simp only [Option.bind_eq_some_iff, Option.map_eq_some_iff] at hp
  obtain ⟨l, hl, bs, hb, rfl⟩ := hp
  obtain ⟨ns, rfl, rfl⟩ := bytesL_ints hb
  obtain ⟨A, c, b, off, sz, u, rfl, hc, hA0, hA, hsz, hcell⟩ := (rep_elems hm h0 hl).ex
  refine ⟨_, fun w' hw' => ?_, .val _ _⟩
  rw [run_convert_bytes_string w' s d e A _ c hs he' hd]
  rcases A with _ | ad
  · have : ns = [] := by
      cases ns with
      | nil => rfl
      | cons n r => have := hA (by simp); cases this
    subst this
    simp [Conv.bytesToString]; rfl
  · have hload : (loadCells ad (ns.map fun n => AV.val (.int .u8 n)).length).run P w' = .ok (ns.map (Value.int .u8)).toArray w' := by
      have hlen : (ns.map fun n => AV.val (.int .u8 n)).length = (ns.map (Value.int .u8)).length := by simp
      rw [hlen]
      refine run_loadCells_list w' ad _ fun j v hv => ?_
      simp only [List.getElem?_map, Option.map_eq_some_iff] at hv
      obtain ⟨n, hn, rfl⟩ := hv
      have hjlt := (List.getElem?_eq_some_iff.1 hn).1
      have hA' := hA (by simp; omega)
      injection hA' with hA'
      subst hA'
      have hx : (ns.map fun n => AV.val (.int .u8 n))[j]? = some (AV.val (.int .u8 n)) := by simp [hn]
      have h1 := (hsz j _ hx).2
      simp only [AV.cells, List.length_singleton] at h1
      subst h1
      obtain ⟨h2, h3, h4⟩ := hcell j _ 0 (.val (.int .u8 n)) hx rfl
      rw [addr_add, hw'.cell h3]
      have := rep_val h4
      rw [this] at h2
      simpa using h2
    rw [run_bytesToString w' ad _ c ns hload, push_all]
    simp

theorem run_equal_bool {t : TypeId} (ht : P.underlying t = some .bool) (b c : Bool) (w' : World) : (Op.equal t (.bool b) (.bool c)).run P w' = .ok (b == c) w' := by
  have : ∀ d : Nat, (Op.equalIn (d + 1) t (.bool b) (.bool c)).run P w' = .ok (b == c) w' := fun d => by simp [Op.equalIn, run_underlying ht]
  exact this 9999
theorem next_of {s : Sem Value} {v : Value} (h : Gives P w s v) : ∀ w' : World, Ext w w' → (do pure (Next.value (← s)) : Sem Next).run P w' = .ok (.value v) w' := fun w' hw' => by simp [h w' hw']

set_option maxHeartbeats 1000000 in
theorem pure_sound {hint : Bool} {o : Oper} {ao : AOp} (hm : MemAt X w m H) (hr : FrOk (Stab X H w) w H a fr) (hc : compOp P hint o.type o.op = some ao) (hp : pureOp m fr ao = some av) :
    ∃ v, (∀ w' : World, Ext w w' → (execOp a.eval o).run P w' = .ok (.value v) w') ∧ Rep (Stab X H w) w H v av := by
  obtain ⟨dst, op, type, pos, after, guard⟩ := o
  simp only at hc
  have E : ∀ x, Rep (Stab X H w) w H (a.eval x) (evA fr x) := rep_ev hr
  have fin : ∀ (s : Sem Value), (∃ v, Gives P w s v ∧ Rep (Stab X H w) w H v av) → (execOp a.eval ⟨dst, op, type, pos, after, guard⟩ = (do pure (Next.value (← s)))) → ∃ v, (∀ w' : World, Ext w w' → (execOp a.eval ⟨dst, op, type, pos, after, guard⟩).run P w' = .ok (.value v) w') ∧ Rep (Stab X H w) w H v av := by
    intro s ⟨v, h1, h2⟩ he
    rw [he]
    exact ⟨v, next_of h1, h2⟩
  have call1 : ∀ (s : Sem Value) (op' : Op), (∃ v, Gives P w s v ∧ Rep (Stab X H w) w H v av) → (∀ w' : World, (execOp a.eval ⟨dst, op', type, pos, after, guard⟩).run P w' = (do pure (Next.value (← s)) : Sem Next).run P w') → ∃ v, (∀ w' : World, Ext w w' → (execOp a.eval ⟨dst, op', type, pos, after, guard⟩).run P w' = .ok (.value v) w') ∧ Rep (Stab X H w) w H v av := by
    intro s op' ⟨v, h1, h2⟩ he
    exact ⟨v, fun w' hw' => by rw [he]; exact next_of h1 w' hw', h2⟩
  have pv : ∀ (s : Sem Value) (v : Value), av = .val v → (∀ w', s.run P w' = .ok v w') → ∃ v, Gives P w s v ∧ Rep (Stab X H w) w H v av := fun s v e h => ⟨v, fun w' _ => h w', by rw [e]; exact .val _ _⟩
  cases op <;> simp only [compOp, reduceCtorEq] at hc
  case move x =>
    injection hc with hc; subst hc
    simp only [pureOp, Option.some.injEq] at hp; subst hp
    exact ⟨_, fun w' _ => rfl, E x⟩
  case assign x =>
    split at hc
    · simp only [Option.map_eq_some_iff] at hc
      obtain ⟨_, _, rfl⟩ := hc
      simp [pureOp] at hp
    · injection hc with hc; subst hc
      simp only [pureOp, Option.some.injEq] at hp; subst hp
      exact ⟨_, fun w' _ => rfl, E _⟩
  case pick c x y =>
    injection hc with hc; subst hc
    simp only [pureOp] at hp
    split at hp
    · rename_i t hct
      injection hp with hp; subst hp
      have hcv := E c
      rw [hct] at hcv
      have := rep_val hcv
      refine ⟨if t then a.eval x else a.eval y, fun w' _ => ?_, ?_⟩
      · simp [execOp, this, asBool]
      · cases t
        · exact E y
        · exact E x
    · cases hp
  case binOp op t x y yt =>
    have bin : ∀ op, ao = .bin op x y → (∃ v, Gives P w (do eqGuard op t x y (a.eval x) (a.eval y); binOp op t (a.eval x) (a.eval y)) v ∧ Rep (Stab X H w) w H v av) := by
      intro op e
      subst e
      simp only [pureOp] at hp
      split at hp
      · rename_i u v hu hv
        simp only [Option.map_eq_some_iff] at hp
        obtain ⟨r, hb, rfl⟩ := hp
        rw [rep_toVal (E x) hu, rep_toVal (E y) hv]
        exact ⟨r, fun w' _ => run_binV hb t x y w', .val _ _⟩
      · cases hp
    have beqq : ∀ ne op, (op = if ne then BinOp.neq else BinOp.eql) → ao = .beq ne x y → P.underlying t = some .bool → (∃ v, Gives P w (do eqGuard op t x y (a.eval x) (a.eval y); binOp op t (a.eval x) (a.eval y)) v ∧ Rep (Stab X H w) w H v av) := by
      intro ne op e1 e ht
      subst e
      simp only [pureOp] at hp
      split at hp
      · rename_i b c hb hcc
        injection hp with hp; subst hp
        have h1 := E x; have h2 := E y
        rw [hb] at h1; rw [hcc] at h2
        rw [rep_val h1, rep_val h2]
        refine ⟨_, fun w' _ => ?_, .val _ _⟩
        subst e1
        cases ne <;> simp [eqGuard, binOp, run_equal_bool ht]
      · cases hp
    cases op <;> simp only at hc
    case eql =>
      split at hc
      · injection hc with hc
        exact fin _ (beqq false .eql rfl hc.symm (by assumption)) rfl
      · injection hc with hc; exact fin _ (bin .eql hc.symm) rfl
      · injection hc with hc; exact fin _ (bin .eql hc.symm) rfl
      · cases hc
    case neq =>
      split at hc
      · injection hc with hc
        exact fin _ (beqq true .neq rfl hc.symm (by assumption)) rfl
      · injection hc with hc; exact fin _ (bin .neq hc.symm) rfl
      · injection hc with hc; exact fin _ (bin .neq hc.symm) rfl
      · cases hc
    all_goals (injection hc with hc; exact fin _ (bin _ hc.symm) rfl)
  case unOp op t x =>
    injection hc with hc; subst hc
    refine fin (Op.unary op (a.eval x)) ?_ rfl
    simp only [pureOp] at hp
    have hx := E x
    split at hp
    · rename_i k n hv
      rw [hv] at hx
      rw [rep_val hx]
      split at hp
      · cases hp
      · simp only [Option.map_eq_some_iff] at hp
        obtain ⟨r, hb, rfl⟩ := hp
        exact pv _ r rfl fun w' => run_now hb w'
    · rename_i b hv
      rw [hv] at hx
      rw [rep_val hx]
      split at hp
      · injection hp with hp; exact pv _ _ hp.symm fun w' => rfl
      · cases hp
    · cases hp
  case convert s d x =>
    refine fin (convert s d (a.eval x)) ?_ rfl
    have hx := E x
    split at hc
    · rename_i k1 k2 h1 h2
      injection hc with hc; subst hc
      simp only [pureOp] at hp
      split at hp
      · rename_i k n hv
        rw [hv] at hx
        rw [rep_val hx]
        injection hp with hp
        exact pv _ _ hp.symm fun w' => by simp [convert, run_underlying h1, run_underlying h2, Conv.intToInt]
      · cases hp
    · rename_i h1 h2
      injection hc with hc; subst hc
      simp only [pureOp] at hp
      split at hp
      · rename_i s' hv
        rw [hv] at hx
        rw [rep_val hx]
        injection hp with hp
        exact pv _ _ hp.symm fun w' => by simp [convert, run_underlying h1, run_underlying h2]
      · cases hp
    · split at hc
      · injection hc with hc; subst hc; simp [pureOp] at hp
      · cases hc
    · rename_i e h1 h2
      split at hc
      · rename_i hu
        injection hc with hc; subst hc
        simp only [pureOp] at hp
        exact s_b2s h1 h2 hu hm hx hp
      · cases hc
    · cases hc
  case alloc t =>
    simp only [Option.map_eq_some_iff] at hc
    obtain ⟨z, _, rfl⟩ := hc
    simp [pureOp] at hp
  case load t x =>
    split at hc
    · rename_i n ag h1 h2
      injection hc with hc; subst hc
      exact fin _ (s_load h1 h2 hm (E x) hp) rfl
    · cases hc
  case store t x y =>
    split at hc
    · injection hc with hc; subst hc; simp [pureOp] at hp
    · cases hc
  case fieldAddr s x f =>
    split at hc
    · rename_i fs hs
      split at hc
      · rename_i fd hf
        split at hc
        · rename_i k hk
          injection hc with hc; subst hc
          exact fin _ (s_faddr hs hf hk hm (E x) hp) rfl
        · cases hc
      · cases hc
    · cases hc
  case field s x f =>
    split at hc
    · rename_i fs hs
      split at hc
      · rename_i fd hf
        split at hc
        · rename_i k ag hk hag
          injection hc with hc; subst hc
          simp only [pureOp] at hp
          split at hp
          · rename_i l hl
            have hx := E x
            rw [hl] at hx
            exact fin _ (s_fld hs hf hk hag hx hp) rfl
          · cases hp
        · cases hc
      · cases hc
    · cases hc
  case indexAddr t x i =>
    split at hc
    · rename_i e ht
      simp only [Option.map_eq_some_iff] at hc
      obtain ⟨sz, hz, rfl⟩ := hc
      simp only [pureOp] at hp
      split at hp
      · rename_i n hn
        exact fin _ (s_iaddr ht hz hm (E x) (E i) hn hp) rfl
      · cases hp
    · rename_i cnt e ht
      simp only [Option.map_eq_some_iff] at hc
      obtain ⟨sz, hz, rfl⟩ := hc
      simp only [pureOp] at hp
      split at hp
      · rename_i n hn
        split at hp
        · rename_i hlt
          exact fin _ (s_aaddr ht hz hm (E x) (E i) hn hlt hp) rfl
        · cases hp
      · cases hp
    · cases hc
  case index t x i =>
    split at hc
    · rename_i ht
      injection hc with hc; subst hc
      simp only [pureOp] at hp
      split at hp
      · rename_i n hn
        exact fin _ (s_sidx ht (E x) (E i) hn hp) rfl
      · cases hp
    · rename_i cnt e ht
      split at hc
      · rename_i sz ag hz hag
        injection hc with hc; subst hc
        simp only [pureOp] at hp
        split at hp
        · rename_i n l hn hl
          split at hp
          · rename_i hlt
            have hx := E x
            rw [hl] at hx
            exact fin _ (s_aidx ht hz hag hx (E i) hn hlt hp) rfl
          · cases hp
        · cases hp
      · cases hc
    · cases hc
  case slice t x lo hi mx =>
    cases mx with
    | some _ => simp [compOp] at hc
    | none =>
      simp only [compOp] at hc
      split at hc
      · rename_i ht
        injection hc with hc; subst hc
        exact fin _ (s_sslc hr ht (E x) hp) rfl
      · rename_i e ht
        simp only [Option.map_eq_some_iff] at hc
        obtain ⟨sz, hz, rfl⟩ := hc
        exact fin _ (s_slc hr ht hz hm (E x) hp) rfl
      · cases hc
  case build t parts =>
    refine fin _ ?_ rfl
    split at hc
    · rename_i fs z hu hz
      simp only [Option.bind_eq_some_iff, Option.map_eq_some_iff] at hc
      obtain ⟨places, hpl, pl, hpo, rfl⟩ := hc
      simp only [pureOp, Option.map_eq_some_iff] at hp
      obtain ⟨l, hl, rfl⟩ := hp
      unfold zeOf at hz
      simp only [Option.bind_eq_some_iff] at hz
      obtain ⟨it, hit, hzz⟩ := hz
      refine s_build hr (z := z) (by unfold zeOf; simp [hit, hzz]) (places.toArray[·]?) (fun c hcc => ?_) hpo hl
      unfold placesOf at hpl
      simp only [Program.built, hit, hu, hzz, hpl]
      exact hcc
    · rename_i n e z hu hz
      simp only [Option.bind_eq_some_iff, Option.map_eq_some_iff] at hc
      obtain ⟨sz, hsz, pl, hpo, rfl⟩ := hc
      simp only [pureOp, Option.map_eq_some_iff] at hp
      obtain ⟨l, hl, rfl⟩ := hp
      unfold zeOf at hz
      simp only [Option.bind_eq_some_iff] at hz
      obtain ⟨it, hit, hzz⟩ := hz
      unfold szOf at hsz
      simp only [Option.map_eq_some_iff] at hsz
      obtain ⟨ie, hie, rfl⟩ := hsz
      refine s_build hr (z := z) (by unfold zeOf; simp [hit, hzz]) (fun i => some (i * ie.size, ie.size)) (fun c hcc => ?_) hpo hl
      simp only [Program.built, hit, hu, hzz, hie]
      exact hcc
    · cases hc
  case buildSlice t len parts =>
    split at hc
    · split at hc
      · split at hc
        · injection hc with hc; subst hc; simp [pureOp] at hp
        · cases hc
      · cases hc
    · cases hc
  case makeSlice t l c =>
    split at hc
    · split at hc
      · split at hc
        · injection hc with hc; subst hc; simp [pureOp] at hp
        · cases hc
      · cases hc
    · cases hc
  case extract x i =>
    injection hc with hc; subst hc
    simp only [pureOp] at hp
    split at hp
    · rename_i l hl
      have hx := E x
      rw [hl] at hx
      exact fin _ (s_ext hx hp) rfl
    · cases hp
  case call c =>
    obtain ⟨callee, args, ts⟩ := c
    cases callee with
    | invoke r n => simp [compOp] at hc
    | value f => 
      cases f <;> simp only [compOp, reduceCtorEq] at hc
      split at hc
      · split at hc
        · injection hc with hc; subst hc; simp [pureOp] at hp
        · cases hc
      · cases hc
    | builtin b =>
      cases b <;> simp only [compOp, reduceCtorEq] at hc
      case len =>
        split at hc
        · rename_i x hargs hts
          injection hc with hc; subst hc
          simp only [Option.bind_eq_some_iff] at hts
          obtain ⟨t, ht, hu⟩ := hts
          have : args = #[x] := by rw [← Array.toList_inj]; simpa using hargs
          subst this
          refine call1 _ _ (s_slen (ty := type) hu (E x) hp) ?_
          intro w'
          simp [execOp, resolve, invoke, builtin, Builtin.len_, ht]
        · rename_i x e hargs hts
          injection hc with hc; subst hc
          simp only [Option.bind_eq_some_iff] at hts
          obtain ⟨t, ht, hu⟩ := hts
          have : args = #[x] := by rw [← Array.toList_inj]; simpa using hargs
          subst this
          refine call1 _ _ (s_len (ty := type) hu hm (E x) hp) ?_
          intro w'
          simp [execOp, resolve, invoke, builtin, Builtin.len_, ht]
        · cases hc
      case min =>
        split at hc
        · rename_i x ys hargs
          injection hc with hc; subst hc
          simp only [pureOp] at hp
          split at hp
          · rename_i k n hv
            simp only [Option.map_eq_some_iff] at hp
            obtain ⟨r, hr1, rfl⟩ := hp
            have hx := E x
            rw [hv] at hx
            refine ⟨.int k r, fun w' _ => ?_, .val _ _⟩
            have := min_run (P := P) (k := k) ys n r hr1 hr w'
            simp [execOp, resolve, invoke, builtin, Builtin.min_, hargs, rep_val hx, this]
          · cases hp
        · cases hc
      case max =>
        split at hc
        · rename_i x ys hargs
          injection hc with hc; subst hc
          simp only [pureOp] at hp
          split at hp
          · rename_i k n hv
            simp only [Option.map_eq_some_iff] at hp
            obtain ⟨r, hr1, rfl⟩ := hp
            have hx := E x
            rw [hv] at hx
            refine ⟨.int k r, fun w' _ => ?_, .val _ _⟩
            have := max_run (P := P) (k := k) ys n r hr1 hr w'
            simp [execOp, resolve, invoke, builtin, Builtin.max_, hargs, rep_val hx, this]
          · cases hp
        · cases hc
      case append =>
        split at hc
        · split at hc
          · split at hc
            · split at hc
              · split at hc
                · injection hc with hc; subst hc; simp [pureOp] at hp
                · cases hc
              · cases hc
            · cases hc
          · cases hc
        · cases hc
end
end Go.Proofs.YtgjdmlhgapmflaaDoor
