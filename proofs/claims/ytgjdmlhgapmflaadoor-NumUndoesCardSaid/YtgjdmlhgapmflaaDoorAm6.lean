/- The abstract machine: its reading operations do what the model does (the rest of them). -/
import Derived.Test.YtgjdmlhgapmflaaDoorAm5
import Derived.Laws.BytesString
namespace Go.Proofs.YtgjdmlhgapmflaaDoor
set_option linter.unusedVariables false
set_option linter.unusedSimpArgs false

section
variable {P : Program} {w : World} {X : Nat → Nat → Prop} {m : List MObj} {H : List Hd} {v0 v1 : Value} {av0 av1 av : AV}

theorem s_aaddr {t e : TypeId} {cnt sz n : Nat} (ht : P.underlying t = some (.array cnt e)) (hz : szOf P e = some sz) (hm : MemAt X w m H) (h0 : Rep (Stab X H w) w H v0 av0) (h1 : Rep (Stab X H w) w H v1 av1) (hi : av1.toN = some n) (hlt : n < cnt)
    (hp : faddrA m (n * sz) av0 = some av) : ∃ v, Gives P w (Instr.indexAt t v0 v1) v ∧ Rep (Stab X H w) w H v av := by
  obtain ⟨k, rfl⟩ := toN_some hi
  obtain rfl := rep_val h1
  have run : ∀ (b o : Nat), Gives P w (Instr.indexAt t (.pointer (some ⟨b, o, none⟩)) (.int k (n : Int))) (.pointer (some ⟨b, o + n * sz, none⟩)) := by
    intro b o w' _
    simp [Instr.indexAt, asIntOf, run_underlying ht, hlt, run_szOf hz, addr_add, Instr.sureAddr]
  cases av0 <;> simp only [faddrA, reduceCtorEq] at hp
  case ptr id o =>
    injection hp with hp; subst hp
    cases h0 with
    | ptr id off hH => exact ⟨_, run _ _, .ptr _ _ hH⟩
  case rptr l =>
    injection hp with hp; subst hp
    obtain ⟨b, o, rfl, hr⟩ := rep_rptr h0 (n * sz)
    exact ⟨_, run _ _, hr⟩
  case elt id ver used i fo =>
    split at hp
    · rename_i hok
      injection hp with hp; subst hp
      obtain ⟨b, o, rfl, hr⟩ := rep_elt hm h0 hok (n * sz)
      exact ⟨_, run _ _, hr⟩
    · cases hp

theorem s_sidx {t : TypeId} {n : Nat} (ht : P.underlying t = some .string) (h0 : Rep (Stab X H w) w H v0 av0) (h1 : Rep (Stab X H w) w H v1 av1) (hi : av1.toN = some n) (hp : sidxA n av0 = some av) :
    ∃ v, Gives P w (Instr.index t v0 v1) v ∧ Rep (Stab X H w) w H v av := by
  obtain ⟨k, rfl⟩ := toN_some hi
  obtain rfl := rep_val h1
  unfold sidxA at hp
  split at hp
  · rename_i s
    obtain rfl := rep_val h0
    simp only [Option.map_eq_some_iff] at hp
    obtain ⟨b, hb, rfl⟩ := hp
    refine ⟨_, fun w' _ => ?_, .val _ _⟩
    simp [Instr.index, asIntOf, run_underlying ht, hb]
  · cases hp

theorem s_aidx {t e : TypeId} {cnt n sz : Nat} {ag : Bool} {l : List AV} (ht : P.underlying t = some (.array cnt e)) (hz : szOf P e = some (sz + 1)) (hag : agOf P e = some ag) (h0 : Rep (Stab X H w) w H v0 (.agg l)) (h1 : Rep (Stab X H w) w H v1 av1) (hi : av1.toN = some n) (hlt : n < cnt)
    (hp : mkV (sz + 1) ag (l.drop (n * (sz + 1))) = some av) : ∃ v, Gives P w (Instr.index t v0 v1) v ∧ Rep (Stab X H w) w H v av := by
  obtain ⟨k, rfl⟩ := toN_some hi
  obtain rfl := rep_val h1
  obtain ⟨cs, ⟨rfl, h1, h2, h3⟩ | h⟩ := rep_mkV h0 hp
  · refine ⟨_, fun w' _ => ?_, h3⟩
    simp [Instr.index, asIntOf, run_underlying ht, hlt, run_szOf hz, run_part hz hag cs _ h1 h2]
  · omega

theorem s_len {t ty e : TypeId} (ht : P.underlying t = some (.slice e)) (hm : MemAt X w m H) (h0 : Rep (Stab X H w) w H v0 av0) (hp : lenA m av0 = some av) :
    ∃ v, Gives P w (Builtin.len_ #[t] ty #[v0]) v ∧ Rep (Stab X H w) w H v av := by
  simp only [lenA, Option.map_eq_some_iff] at hp
  obtain ⟨l, hl, rfl⟩ := hp
  obtain ⟨A, c, b, off, sz, u, rfl, _⟩ := (rep_elems hm h0 hl).ex
  exact ⟨_, fun w' _ => by simp [Builtin.len_, run_underlying ht, goInt], .val _ _⟩
theorem s_slen {t ty : TypeId} (ht : P.underlying t = some .string) (h0 : Rep (Stab X H w) w H v0 av0) (hp : slenA av0 = some av) :
    ∃ v, Gives P w (Builtin.len_ #[t] ty #[v0]) v ∧ Rep (Stab X H w) w H v av := by
  unfold slenA at hp
  split at hp
  · rename_i s
    injection hp with hp; subst hp
    obtain rfl := rep_val h0
    exact ⟨_, fun w' _ => by simp [Builtin.len_, run_underlying ht, goInt], .val _ _⟩
  · cases hp

/-- the bounds of a part -/
theorem run_low {a : Act} {fr : List (Nat × AV)} (hr : FrOk (Stab X H w) w H a fr) {lo : Option Operand} {n : Nat} (h : lowOf fr lo = some n) : (lo = none ∧ n = 0) ∨ ∃ x k, lo = some x ∧ a.eval x = .int k (n : Int) := by
  cases lo with
  | none => simp [lowOf] at h; exact .inl ⟨rfl, h.symm⟩
  | some x =>
    obtain ⟨k, hk⟩ := toN_some h
    have := rep_ev hr x
    rw [hk] at this
    exact .inr ⟨x, k, rfl, rep_val this⟩
theorem run_high {a : Act} {fr : List (Nat × AV)} (hr : FrOk (Stab X H w) w H a fr) {hi : Option Operand} {n len : Nat} (h : highOf fr len hi = some n) : (hi = none ∧ n = len) ∨ ∃ x k, hi = some x ∧ a.eval x = .int k (n : Int) := by
  cases hi with
  | none => simp [highOf] at h; exact .inl ⟨rfl, h.symm⟩
  | some x =>
    obtain ⟨k, hk⟩ := toN_some h
    have := rep_ev hr x
    rw [hk] at this
    exact .inr ⟨x, k, rfl, rep_val this⟩
theorem run_bounds {a : Act} {fr : List (Nat × AV)} (hr : FrOk (Stab X H w) w H a fr) {lo hi : Option Operand} {l h len cap : Nat} (hl : lowOf fr lo = some l) (hh : highOf fr len hi = some h) (h1 : l ≤ h) (h2 : h ≤ cap) (isS : Bool) (w' : World) :
    (Instr.sliceBounds isS len cap (lo.map a.eval) (hi.map a.eval) none).run P w' = .ok (l, h, cap) w' := by
  have e1 : (l : Int) ≤ (h : Int) := by omega
  have e2 : (h : Int) ≤ (cap : Int) := by omega
  rcases run_low hr hl with ⟨rfl, rfl⟩ | ⟨x, k, rfl, hx⟩ <;> rcases run_high hr hh with ⟨rfl, rfl⟩ | ⟨y, k', rfl, hy⟩ <;> simp [Instr.sliceBounds, Instr.sliceBound, asIntOf, *]

theorem s_sslc {a : Act} {fr : List (Nat × AV)} (hr : FrOk (Stab X H w) w H a fr) {lo hi : Option Operand} {t : TypeId} (ht : P.underlying t = some .string) (h0 : Rep (Stab X H w) w H v0 av0) (hp : sslcA fr lo hi av0 = some av) :
    ∃ v, Gives P w (Instr.sliceAt t v0 (lo.map a.eval) (hi.map a.eval) none) v ∧ Rep (Stab X H w) w H v av := by
  unfold sslcA at hp
  split at hp
  · rename_i s
    obtain rfl := rep_val h0
    split at hp
    · rename_i x y hx hy
      split at hp
      · rename_i hc
        injection hp with hp; subst hp
        refine ⟨_, fun w' _ => ?_, .val _ _⟩
        simp [Instr.sliceAt, Instr.slice, run_underlying ht, run_bounds hr hx hy hc.1 hc.2]
      · cases hp
    · cases hp
  · cases hp

theorem s_slc {a : Act} {fr : List (Nat × AV)} (hr : FrOk (Stab X H w) w H a fr) {lo hi : Option Operand} {t e : TypeId} {sz : Nat} (ht : P.underlying t = some (.slice e)) (hz : szOf P e = some sz) (hm : MemAt X w m H) (h0 : Rep (Stab X H w) w H v0 av0) (hp : slcA m fr sz lo hi av0 = some av) :
    ∃ v, Gives P w (Instr.sliceAt t v0 (lo.map a.eval) (hi.map a.eval) none) v ∧ Rep (Stab X H w) w H v av := by
  have run : ∀ (A : Option Addr) (len cap x y : Nat), lowOf fr lo = some x → highOf fr len hi = some y → x ≤ y → y ≤ cap → Gives P w (Instr.sliceAt t (.slice A len cap) (lo.map a.eval) (hi.map a.eval) none) (.slice (if cap = x then A else A.map (·.add (x * sz))) (y - x) (cap - x)) := by
    intro A len cap x y hx hy h1 h2 w' _
    simp [Instr.sliceAt, Instr.slice, run_underlying ht, run_bounds hr hx hy h1 h2, run_szOf hz]
  refine (Classical.em (av0 = .val (.slice none 0 0))).elim (fun hn => ?_) (fun hn => ?_)
  · subst hn
    simp only [slcA] at hp
    split at hp
    · rename_i x y hx hy
      split at hp
      · rename_i hc
        injection hp with hp; subst hp
        obtain rfl := rep_val h0
        obtain rfl : y = 0 := by omega
        obtain rfl : x = 0 := by omega
        exact ⟨_, run none 0 0 0 0 hx hy (Nat.le_refl _) (Nat.le_refl _), .val _ _⟩
      · cases hp
    · cases hp
  cases av0 <;> (try simp only [slcA, reduceCtorEq] at hp)
  case slice s l =>
    split at hp
    · rename_i x y hx hy
      split at hp
      · rename_i hc
        obtain ⟨hc1, hc2, rfl⟩ := hc
        injection hp with hp; subst hp
        cases h0 with
        | slice b off _ u hc' hz' hA hsz hcell hrep =>
          rename_i A c
          have hlen : ((l.take y).drop x).length = y - x := by simp; omega
          have hget : ∀ (i : Nat) (e : AV), ((l.take y).drop x)[i]? = some e → l[x + i]? = some e := by
            intro i e he
            rw [List.getElem?_drop, List.getElem?_take] at he
            split at he
            · exact he
            · cases he
          refine ⟨_, run A l.length c x y hx hy hc1 (by omega), ?_⟩
          rw [← hlen]
          refine .slice b (off + x * s) s (fun i j => u (x + i) j) (by omega) (fun h => ?_) (fun h => ?_) (fun i e he => hsz _ _ (hget i e he)) (fun i e j z he hj => ?_) (fun i e j z he hj => hrep _ _ _ _ (hget i e he) hj)
          · split at h
            · omega
            · have : A = none := by simpa using h
              have := hz' this; omega
          · rw [if_neg (by omega), hA (by omega)]
            simp [addr_add]
          · have := hcell _ _ _ _ (hget i e he) hj
            rw [show off + x * s + i * s + j = off + (x + i) * s + j from by rw [Nat.add_mul]; omega]
            exact this
      · cases hp
    · cases hp
  case row id ver used off len =>
    split at hp
    · rename_i v s l wr ap hobj
      split at hp
      · rename_i hv
        obtain ⟨rfl, hu, rfl⟩ := hv
        split at hp
        · rename_i x y hx hy
          split at hp
          · rename_i hc
            injection hp with hp; subst hp
            cases h0 with
            | row id ver used off len hs hH hle hvv =>
              have hO := hm.obj _ _ _ hobj hH
              simp only [ObjAt] at hO
              obtain ⟨e1, e2, rfl, e3, e4, e5, e6⟩ := hO
              obtain ⟨g1, g2, A, rfl, g3, g4⟩ := hvv e1.symm (by omega)
              rename_i b cap cver cused wr'
              refine ⟨_, run A len (cap - off) x y hx hy hc.1 (by omega), .row id _ used (off + x) (y - x) ⟨_, _, _, rfl⟩ hH hle fun _ _ => ⟨by omega, by omega, _, by congr 1; omega, fun h => ?_, fun h => ?_⟩⟩
              · rw [if_neg (by omega), g3 (by omega)]
                simp [addr_add, Nat.add_mul]
              · split at h
                · omega
                · have : A = none := by simpa using h
                  have := g4 this; omega
          · cases hp
        · cases hp
      · cases hp
    · cases hp

theorem s_ext {i : Nat} {l : List AV} (h0 : Rep (Stab X H w) w H v0 (.tuple l)) (hp : l[i]? = some av) : ∃ v, Gives P w (Instr.extract v0 i) v ∧ Rep (Stab X H w) w H v av := by
  obtain ⟨cs, rfl, hn, hc⟩ := rep_tuple h0
  have hlt := (List.getElem?_eq_some_iff.1 hp).1
  refine ⟨_, fun w' _ => ?_, hc _ _ hp⟩
  simp [Instr.extract, show i < cs.size from by omega]
end
end Go.Proofs.YtgjdmlhgapmflaaDoor
