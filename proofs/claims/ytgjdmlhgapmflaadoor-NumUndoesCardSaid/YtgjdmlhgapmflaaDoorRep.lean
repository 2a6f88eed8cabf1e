/- The abstract machine: what came in, by the shape of its type. -/
import Derived.Test.YtgjdmlhgapmflaaDoorAmC
namespace Go.Proofs.YtgjdmlhgapmflaaDoor
set_option linter.unusedVariables false
set_option linter.unusedSimpArgs false
open Go.RowKit Go.ChangeShapes Go.WideShapes Go.ChangeAt Go.Deep

set_option maxRecDepth 100000
/-- the shape of a type -/
inductive Sh
  | bool
  | int (k : IntKind)
  | str
  | sl (e : Sh)
  | st (fs : List Sh)
mutual
/-- how many cells -/
def Sh.n : Sh → Nat
  | .st fs => Sh.ns fs
  | _ => 1
def Sh.ns : List Sh → Nat
  | [] => 0
  | s :: r => s.n + Sh.ns r
end
mutual
/-- does a type have this shape? -/
def Sh.ok (P : Program) : Sh → TypeId → Bool
  | .bool, t => (match P.underlying t with | some .bool => true | _ => false)
  | .int k, t => (match P.underlying t with | some (.int k') => decide (k' = k) | _ => false)
  | .str, t => (match P.underlying t with | some .string => true | _ => false)
  | .sl e, t => (match P.underlying t with | some (.slice u) => decide (P.cellsOf u = e.n) && decide (0 < e.n) && e.ok P u | _ => false)
  | .st fs, t => (match P.underlying t with
    | some (.struct l) => decide (P.cellsOf t = Sh.ns fs) && Sh.okF P fs l.toList 0
    | some (.array n e) => decide (P.cellsOf t = Sh.ns fs) && decide (fs.length = n) && Sh.okA P fs e
    | _ => false)
def Sh.okF (P : Program) : List Sh → List Field → Nat → Bool
  | [], [], _ => true
  | s :: r, f :: l, o => decide (f.offset = o) && decide (P.cellsOf f.type = s.n) && s.ok P f.type && Sh.okF P r l (o + s.n)
  | _, _, _ => false
def Sh.okA (P : Program) : List Sh → TypeId → Bool
  | [], _ => true
  | s :: r, e => decide (P.cellsOf e = s.n) && s.ok P e && Sh.okA P r e
end
/-- cells as a value -/
def Sh.mk : Sh → List AV → AV
  | .st _, l => .agg l
  | _, l => l.headD .any
section
variable {H : Type}
mutual
/-- the cells of what was read -/
def dAV : Sh → DataW H → List AV
  | .st fs, .agg parts => dAVs fs parts
  | .sl e, .slice elems _ => [.slice e.n (elems.map fun x => e.mk (dAV e x))]
  | .sl e, .nil => [.slice e.n []]
  | .str, .lit (.string l) => [strL l]
  | .int _, .lit (.int k n) => [.val (.int k n)]
  | .bool, .lit (.bool b) => [.val (.bool b)]
  | _, _ => []
def dAVs : List Sh → List (DataW H) → List AV
  | s :: r, d :: l => dAV s d ++ dAVs r l
  | _, _ => []
end
mutual
/-- what was read has the shape -/
def Ty : Sh → DataW H → Prop
  | .st fs, .agg parts => Tys fs parts
  | .sl e, .slice elems _ => elems.length ≤ maxLen ∧ ∀ x ∈ elems, Ty e x
  | .sl _, .nil => True
  | .str, .lit (.string l) => l.length ≤ maxLen
  | .int k, .lit (.int k' n) => k' = k ∧ (Lit.int k n).wf = true
  | .bool, .lit (.bool _) => True
  | _, _ => False
def Tys : List Sh → List (DataW H) → Prop
  | [], [] => True
  | s :: r, d :: l => Ty s d ∧ Tys r l
  | _, _ => False
end
theorem Ty_st {fs : List Sh} {d : DataW H} (h : Ty (.st fs) d) : ∃ parts, d = .agg parts ∧ Tys fs parts := by
  cases d <;> first | exact ⟨_, rfl, by simpa [Ty] using h⟩ | (simp [Ty] at h)
theorem Ty_sl {e : Sh} {d : DataW H} (h : Ty (.sl e) d) : (d = .nil) ∨ ∃ elems spare, d = .slice elems spare ∧ elems.length ≤ maxLen ∧ ∀ x ∈ elems, Ty e x := by
  cases d <;> first | exact .inl rfl | exact .inr ⟨_, _, rfl, by simpa [Ty] using h⟩ | (simp [Ty] at h)
theorem Ty_str {d : DataW H} (h : Ty .str d) : ∃ l, d = .lit (.string l) ∧ l.length ≤ maxLen := by
  cases d with
  | lit l => cases l <;> first | exact ⟨_, rfl, by simpa [Ty] using h⟩ | (simp [Ty] at h)
  | _ => simp [Ty] at h
theorem Ty_int {k : IntKind} {d : DataW H} (h : Ty (.int k) d) : ∃ n, d = .lit (.int k n) ∧ (Lit.int k n).wf = true := by
  cases d with
  | lit l => cases l <;> first | (simp only [Ty] at h; obtain ⟨rfl, h⟩ := h; exact ⟨_, rfl, h⟩) | (simp [Ty] at h)
  | _ => simp [Ty] at h
theorem Ty_bool {d : DataW H} (h : Ty .bool d) : ∃ b, d = .lit (.bool b) := by
  cases d with
  | lit l => cases l <;> first | exact ⟨_, rfl⟩ | (simp [Ty] at h)
  | _ => simp [Ty] at h
theorem mk_cells {s : Sh} {d : DataW H} (h : Ty s d) : (s.mk (dAV s d)).cells = dAV s d := by
  cases s with
  | bool => obtain ⟨b, rfl⟩ := Ty_bool h; rfl
  | int k => obtain ⟨n, rfl, -⟩ := Ty_int h; rfl
  | str => obtain ⟨l, rfl, -⟩ := Ty_str h; rfl
  | sl e =>
    rcases Ty_sl h with rfl | ⟨elems, spare, rfl, -, -⟩
    · rfl
    · simp [dAV, Sh.mk, AV.cells]
  | st fs => rfl
variable {enc : TypeId × Value → H} {w : World}
theorem addr_add2 (b o k j : Nat) : ((⟨b, o, none⟩ : Addr).add k).add j = ⟨b, o + k + j, none⟩ := by
  simp only [Addr.add]
  split <;> split <;> simp_all
theorem drop_take_get {cs : List Value} {o n i : Nat} {u : Value} (h : cs[o + i]? = some u) (hi : i < n) : ((cs.drop o).take n)[i]? = some u := by
  rw [List.getElem?_take, if_pos hi, List.getElem?_drop]; exact h
mutual
theorem rep_of : ∀ (s : Sh) (t : TypeId) (fuel : Nat) (cs : List Value) (d : DataW H) (ps : List MemPlace), s.ok Tryd.prog t = true → DataW.trod enc Tryd.prog w 0 (fun _ => true) true fuel t cs = some (d, ps) →
    Ty s d ∧ cs.length = s.n ∧ (dAV s d).length = s.n ∧ ∀ (i : Nat) (y : AV) (u : Value), (dAV s d)[i]? = some y → cs[i]? = some u → y.grCell = true ∧ Rep (S0 w) w [] u y
  | .bool, t, fuel, cs, d, ps, hs, h => by
    simp only [Sh.ok] at hs
    split at hs
    · rename_i ht
      obtain ⟨b, rfl, hx⟩ := DataW.trod_bool ht h
      cases hx
      refine ⟨by simp [Ty], rfl, rfl, fun i y u hy hu => ?_⟩
      match i, hy, hu with
      | 0, hy, hu => cases hy; cases hu; exact ⟨rfl, .val _ _⟩
    · cases hs
  | .int k, t, fuel, cs, d, ps, hs, h => by
    simp only [Sh.ok] at hs
    split at hs
    · rename_i k' ht
      have hk := of_decide_eq_true hs
      subst hk
      obtain ⟨b, rfl, hx, hw⟩ := DataW.trod_int ht h
      cases hx
      refine ⟨by simp [Ty, hw], rfl, rfl, fun i y u hy hu => ?_⟩
      match i, hy, hu with
      | 0, hy, hu => cases hy; cases hu; exact ⟨rfl, .val _ _⟩
    · cases hs
  | .str, t, fuel, cs, d, ps, hs, h => by
    simp only [Sh.ok] at hs
    split at hs
    · rename_i ht
      obtain ⟨b, rfl, hx, hw⟩ := DataW.trod_string ht h
      cases hx
      refine ⟨by simpa [Ty] using hw, rfl, rfl, fun i y u hy hu => ?_⟩
      match i, hy, hu with
      | 0, hy, hu => cases hy; cases hu; exact ⟨rfl, .val _ _⟩
    · cases hs
  | .sl e, t, fuel, cs, d, ps, hs, h => by
    simp only [Sh.ok] at hs
    split at hs
    · rename_i u ht
      simp only [Bool.and_eq_true, decide_eq_true_eq] at hs
      obtain ⟨⟨hC, hpos⟩, hok⟩ := hs
      rcases open_slice ht h with ⟨hcs, hx⟩ | ⟨a, len, cap, m, n', D, Pl, hcs, hb, hl, hm, hmm, hx, hi⟩
      · cases hx
        subst hcs
        refine ⟨by simp [Ty], rfl, rfl, fun i y u hy hu => ?_⟩
        match i, hy, hu with
        | 0, hy, hu =>
          cases hy; cases hu
          exact ⟨rfl, Rep.slice (S := S0 w) (w := w) (H := []) (A := none) (c := 0) (l := []) 0 0 _ (fun _ _ => undef) (by simp) (fun _ => rfl) (fun h => by simp at h) (fun i x hx => by simp at hx) (fun i x j y hx => by simp at hx) (fun i x j y hx => by simp at hx)⟩
      · cases hx
        subst hcs
        have hmc : m = cap := by simpa using hmm
        have el : ∀ i, i < len → ∃ cs', World.cells? w 0 (a.add (i * e.n)) e.n = some cs' ∧ Ty e (D i) ∧ cs'.length = e.n ∧ (dAV e (D i)).length = e.n ∧ ∀ (j : Nat) (y : AV) (v : Value), (dAV e (D i))[j]? = some y → cs'[j]? = some v → y.grCell = true ∧ Rep (S0 w) w [] v y := by
          intro i hil
          obtain ⟨cs', h1, h2⟩ := hi i (by omega)
          rw [hC] at h1
          exact ⟨cs', h1, rep_of e u n' cs' (D i) (Pl i) hok h2⟩
        have hty : ∀ x ∈ (List.range len).map D, Ty e x := fun x hx => by
          obtain ⟨i, hil, rfl⟩ := List.mem_map.1 hx
          exact (el i (List.mem_range.1 hil)).choose_spec.2.1
        refine ⟨by simp only [Ty]; exact ⟨by simp; omega, hty⟩, rfl, rfl, fun i y u hy hu => ?_⟩
        match i, hy, hu with
        | 0, hy, hu =>
          cases hy; cases hu
          refine ⟨rfl, ?_⟩
          have hlen : (((List.range len).map D).map fun x => e.mk (dAV e x)).length = len := by simp
          have key : ∀ (i : Nat) (x : AV), (((List.range len).map D).map fun x => e.mk (dAV e x))[i]? = some x → i < len ∧ x = e.mk (dAV e (D i)) := fun i x hx => by
            have hil : i < len := by have := (List.getElem?_eq_some_iff.1 hx).1; omega
            rw [List.getElem?_map, List.getElem?_map, List.getElem?_range hil] at hx
            simp only [Option.map_some, Option.some.injEq] at hx
            exact ⟨hil, hx.symm⟩
          by_cases hn : 0 < len
          · have hsp : ∃ b off, a = ⟨b, off, none⟩ ∧ b < w.heap.size := by
              obtain ⟨cs0, h0, -, hl0, -⟩ := el 0 hn
              obtain ⟨_, hl0', hat0⟩ := World.cells?_some h0
              have h00 := hat0 0 hpos
              have hlt : 0 < cs0.length := by omega
              rw [List.getElem?_eq_getElem hlt] at h00
              have hz : (a.add (0 * e.n)).add 0 = a := by simp [Addr.add]
              rw [hz] at h00
              obtain ⟨b, off, spot⟩ := a
              have : spot = none := World.cell?_spot h00
              subst this
              refine ⟨b, off, rfl, ?_⟩
              simp only [World.cell?] at h00
              split at h00
              · rename_i hh; exact (Array.getElem?_eq_some_iff.1 hh).1
              · cases h00
            obtain ⟨b, off, rfl, hlt⟩ := hsp
            have := Rep.slice (S := S0 w) (w := w) (H := []) (A := some ⟨b, off, none⟩) (c := cap) (l := (((List.range len).map D).map fun x => e.mk (dAV e x))) b off e.n (fun i j => if hil : i < len then ((el i hil).choose.getD j undef) else undef) (by omega) (fun h => by cases h) (fun _ => rfl)
              (fun i x hx => by
                obtain ⟨hil, rfl⟩ := key i x hx
                obtain ⟨h1, h2, h3, h4, h5⟩ := (el i hil).choose_spec
                rw [AV.ground, mk_cells h2]
                refine ⟨List.all_eq_true.2 fun y hy => ?_, h4⟩
                obtain ⟨j, hj, rfl⟩ := List.mem_iff_getElem.1 hy
                exact (h5 j _ _ (List.getElem?_eq_getElem hj) (List.getElem?_eq_getElem (by omega))).1)
              (fun i x j y hx hy => by
                obtain ⟨hil, rfl⟩ := key i x hx
                obtain ⟨h1, h2, h3, h4, h5⟩ := (el i hil).choose_spec
                rw [mk_cells h2] at hy
                have hj : j < e.n := by have := (List.getElem?_eq_some_iff.1 hy).1; omega
                refine ⟨?_, s0_of hlt _⟩
                obtain ⟨_, hl1, hat1⟩ := World.cells?_some h1
                have := hat1 j hj
                rw [dif_pos hil, List.getD_eq_getElem?_getD, List.getElem?_eq_getElem (by omega), Option.getD_some]
                rw [List.getElem?_eq_getElem (by omega)] at this
                exact (congrArg w.cell? (addr_add2 b off (i * e.n) j)).symm.trans this)
              (fun i x j y hx hy => by
                obtain ⟨hil, rfl⟩ := key i x hx
                obtain ⟨h1, h2, h3, h4, h5⟩ := (el i hil).choose_spec
                rw [mk_cells h2] at hy
                have hj : j < e.n := by have := (List.getElem?_eq_some_iff.1 hy).1; omega
                rw [dif_pos hil, List.getD_eq_getElem?_getD, List.getElem?_eq_getElem (by omega), Option.getD_some]
                exact (h5 j y _ hy (List.getElem?_eq_getElem (by omega))).2)
            rw [hlen] at this
            exact this
          · have hn0 : len = 0 := by omega
            subst hn0
            exact Rep.slice (S := S0 w) (w := w) (H := []) (A := some a) (c := cap) (l := []) 0 0 _ (fun _ _ => undef) (by simp) (fun h => by cases h) (fun h => by simp at h) (fun i x hx => by simp at hx) (fun i x j y hx => by simp at hx) (fun i x j y hx => by simp at hx)
    · cases hs
  | .st fs, t, fuel, cs, d, ps, hs, h => by
    simp only [Sh.ok] at hs
    split at hs
    · rename_i l ht
      simp only [Bool.and_eq_true, decide_eq_true_eq] at hs
      obtain ⟨xs, n, -, hx, hl, hxl, hf⟩ := DataW.trod_struct ht h
      cases hx
      obtain ⟨h1, h2, h3⟩ := rep_fields fs l.toList 0 n cs xs hs.2 (by simpa using hxl) (fun i f hi => hf i f (by simpa using hi))
      rw [hs.1] at hl
      refine ⟨by simpa [Ty] using h1, by simpa [Sh.n] using hl, by simpa [dAV, Sh.n] using h2, fun i y u hy hu => ?_⟩
      simp only [dAV] at hy
      exact h3 i y u hy (by simpa using hu)
    · rename_i n e ht
      simp only [Bool.and_eq_true, decide_eq_true_eq] at hs
      obtain ⟨xs, m, -, hx, hl, hxl, hf⟩ := DataW.trod_array ht h
      cases hx
      obtain ⟨h1, h2, h3⟩ := rep_items fs e 0 m cs xs hs.2 (by rw [hxl, hs.1.2]) (fun i hi => by
        have := hf i (by rw [← hs.1.2]; exact hi)
        simpa using this)
      rw [hs.1.1] at hl
      refine ⟨by simpa [Ty] using h1, by simpa [Sh.n] using hl, by simpa [dAV, Sh.n] using h2, fun i y u hy hu => ?_⟩
      simp only [dAV] at hy
      exact h3 i y u hy (by simpa using hu)
    · cases hs
theorem rep_fields : ∀ (fs : List Sh) (l : List Field) (o n : Nat) (cs : List Value) (xs : List (DataW H × List MemPlace)), Sh.okF Tryd.prog fs l o = true → xs.length = l.length →
    (∀ (i : Nat) (f : Field), l[i]? = some f → DataW.trod enc Tryd.prog w 0 (fun _ => true) true n f.type ((cs.drop f.offset).take (Tryd.prog.cellsOf f.type)) = xs[i]?) →
    Tys fs (xs.map (·.1)) ∧ (dAVs fs (xs.map (·.1))).length = Sh.ns fs ∧ ∀ (i : Nat) (y : AV) (u : Value), (dAVs fs (xs.map (·.1)))[i]? = some y → cs[o + i]? = some u → y.grCell = true ∧ Rep (S0 w) w [] u y
  | [], [], o, n, cs, xs, _, hx, _ => by
    obtain rfl : xs = [] := List.eq_nil_of_length_eq_zero hx
    exact ⟨by simp [Tys], rfl, fun i y u hy => by simp [dAVs] at hy⟩
  | [], _ :: _, o, n, cs, xs, hs, _, _ => by simp [Sh.okF] at hs
  | _ :: _, [], o, n, cs, xs, hs, _, _ => by simp [Sh.okF] at hs
  | s :: r, f :: l, o, n, cs, xs, hs, hx, hf => by
    simp only [Sh.okF, Bool.and_eq_true, decide_eq_true_eq] at hs
    obtain ⟨⟨⟨ho, hC⟩, hok⟩, hr⟩ := hs
    match xs, hx, hf with
    | x :: xs, hx, hf =>
      have h0 := hf 0 f rfl
      rw [ho, hC] at h0
      obtain ⟨a1, a2, a3, a4⟩ := rep_of s f.type n ((cs.drop o).take s.n) x.1 x.2 hok h0
      obtain ⟨b1, b2, b3⟩ := rep_fields r l (o + s.n) n cs xs hr (by simpa using hx) (fun i g hi => hf (i + 1) g hi)
      refine ⟨by simp only [List.map_cons, Tys]; exact ⟨a1, b1⟩, by simp only [List.map_cons, dAVs, Sh.ns, List.length_append, a3, b2], fun i y u hy hu => ?_⟩
      simp only [List.map_cons, dAVs] at hy
      by_cases hi : i < s.n
      · rw [List.getElem?_append_left (by omega)] at hy
        exact a4 i y u hy (drop_take_get hu hi)
      · rw [List.getElem?_append_right (by omega), a3] at hy
        exact b3 (i - s.n) y u hy (by rw [show o + s.n + (i - s.n) = o + i by omega]; exact hu)
theorem rep_items : ∀ (fs : List Sh) (e : TypeId) (k m : Nat) (cs : List Value) (xs : List (DataW H × List MemPlace)), Sh.okA Tryd.prog fs e = true → xs.length = fs.length →
    (∀ i, i < fs.length → DataW.trod enc Tryd.prog w 0 (fun _ => true) true m e ((cs.drop ((k + i) * Tryd.prog.cellsOf e)).take (Tryd.prog.cellsOf e)) = xs[i]?) →
    Tys fs (xs.map (·.1)) ∧ (dAVs fs (xs.map (·.1))).length = Sh.ns fs ∧ ∀ (i : Nat) (y : AV) (u : Value), (dAVs fs (xs.map (·.1)))[i]? = some y → cs[k * Tryd.prog.cellsOf e + i]? = some u → y.grCell = true ∧ Rep (S0 w) w [] u y
  | [], e, k, m, cs, xs, _, hx, _ => by
    obtain rfl : xs = [] := List.eq_nil_of_length_eq_zero hx
    exact ⟨by simp [Tys], rfl, fun i y u hy => by simp [dAVs] at hy⟩
  | s :: r, e, k, m, cs, xs, hs, hx, hf => by
    simp only [Sh.okA, Bool.and_eq_true, decide_eq_true_eq] at hs
    obtain ⟨⟨hC, hok⟩, hr⟩ := hs
    match xs, hx, hf with
    | x :: xs, hx, hf =>
      have h0 := hf 0 (by simp)
      rw [hC] at h0
      obtain ⟨a1, a2, a3, a4⟩ := rep_of s e m ((cs.drop ((k + 0) * s.n)).take s.n) x.1 x.2 hok h0
      obtain ⟨b1, b2, b3⟩ := rep_items r e (k + 1) m cs xs hr (by simpa using hx) (fun i hi => by
        have := hf (i + 1) (by simpa using hi)
        rw [show k + 1 + i = k + (i + 1) by omega]; simpa using this)
      refine ⟨by simp only [List.map_cons, Tys]; exact ⟨a1, b1⟩, by simp only [List.map_cons, dAVs, Sh.ns, List.length_append, a3, b2], fun i y u hy hu => ?_⟩
      simp only [List.map_cons, dAVs] at hy
      rw [hC] at hu b3
      by_cases hi : i < s.n
      · rw [List.getElem?_append_left (by omega)] at hy
        refine a4 i y u hy (drop_take_get ?_ hi)
        simpa using hu
      · rw [List.getElem?_append_right (by omega), a3] at hy
        refine b3 (i - s.n) y u hy ?_
        rw [show (k + 1) * s.n + (i - s.n) = k * s.n + i by rw [Nat.add_mul]; omega]; exact hu
end
/-- an argument -/
theorem rep_arg {s : Sh} {t : TypeId} {v : Value} {d : DataW H} {p : List MemPlace} {b0 : Nat} (hs : s.ok Tryd.prog t = true) (hv : Value.okWide Tryd.prog w .any b0 t v)
    (h : DataW.Trod enc Tryd.prog w 0 (fun _ => true) true t v d p) : Ty s d ∧ Rep (S0 w) w [] v (s.mk (dAV s d)) := by
  obtain ⟨fuel, hf⟩ := h
  obtain ⟨h1, h2, h3, h4⟩ := rep_of s t fuel v.cells.toList d p hs hf
  refine ⟨h1, ?_⟩
  have one : ∀ x, dAV s d = [x] → v.cells = #[v] → s.mk (dAV s d) = x → Rep (S0 w) w [] v (s.mk (dAV s d)) := fun x hx hc hm => by
    rw [hm]
    exact (h4 0 x v (by rw [hx]; rfl) (by rw [hc]; rfl)).2
  cases s with
  | bool =>
    obtain ⟨b, rfl⟩ := Ty_bool h1
    simp only [Sh.ok] at hs
    split at hs
    · rename_i ht
      obtain ⟨b, rfl⟩ := okWide_bool ht hv
      exact one _ rfl rfl rfl
    · cases hs
  | int k =>
    obtain ⟨b, rfl, -⟩ := Ty_int h1
    simp only [Sh.ok] at hs
    split at hs
    · rename_i k' ht
      obtain ⟨b, rfl⟩ := okWide_int ht hv
      exact one _ rfl rfl rfl
    · cases hs
  | str =>
    obtain ⟨b, rfl, -⟩ := Ty_str h1
    simp only [Sh.ok] at hs
    split at hs
    · rename_i ht
      obtain ⟨b, rfl⟩ := okWide_string ht hv
      exact one _ rfl rfl rfl
    · cases hs
  | sl e =>
    simp only [Sh.ok] at hs
    split at hs
    · rename_i u ht
      obtain ⟨A, n, c, rfl⟩ := okWide_slice ht hv
      rcases Ty_sl h1 with rfl | ⟨elems, spare, rfl, -, -⟩
      · exact one (.slice e.n []) rfl rfl rfl
      · exact one _ (by simp only [dAV]; rfl) rfl (by simp only [dAV, Sh.mk]; rfl)
    · cases hs
  | st fs =>
    have hagg : ∃ cs : Array Value, v = .agg cs := by
      simp only [Sh.ok] at hs
      split at hs
      · rename_i l ht
        obtain ⟨cs, rfl, -⟩ := okWide_struct ht hv
        exact ⟨cs, rfl⟩
      · rename_i n e ht
        unfold Value.okWide at hv
        rw [ht] at hv
        obtain ⟨cs, rfl, -⟩ := hv
        exact ⟨cs, rfl⟩
      · cases hs
    obtain ⟨cs, rfl⟩ := hagg
    refine Rep.agg ?_ fun i y hy => ?_
    · simp only [Value.cells, Array.length_toList] at h2; rw [h2, h3]
    · have hi : i < cs.size := by
        have := (List.getElem?_eq_some_iff.1 hy).1
        simp only [Value.cells, Array.length_toList] at h2
        omega
      refine (h4 i y _ hy ?_).2
      simp only [Value.cells]
      rw [List.getElem?_eq_getElem (by simpa using hi)]
      simp [Array.getD, hi]
end
end Go.Proofs.YtgjdmlhgapmflaaDoor
