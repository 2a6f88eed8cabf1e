/- The abstract machine: more operations: maps, function values, comparisons, copies, calls in the caller's memory. -/
import Derived.Test.YtgjdmlhgapmflaaDoorAm15
import Derived.Laws.StructEq
import Derived.DeepKeys
namespace Go.Proofs.YtgjdmlhgapmflaaDoor
set_option linter.unusedVariables false
set_option linter.unusedSimpArgs false

def keyTy (P : Program) (t : TypeId) : Bool := match P.underlying t with | some .string => true | _ => false
/-- the cells that == compares, in order -/
def leafOffs (P : Program) : Nat → TypeId → Option (List (Nat × Nat))
  | 0, _ => none
  | d + 1, t => match P.underlying t with
    | some .string => some [(0, 0)]
    | some (.int _) => some [(0, 1)]
    | some .bool => some [(0, 2)]
    | some (.struct fs) => if P.stoodInHeld t then none else (fs.toList.mapM fun (f : Field) => (match szOf P f.type, szOf P t, agOf P f.type, leafOffs P d f.type with
      | some s, some n, some ag, some l => if (ag = false → s = 1) ∧ f.name ≠ "_" ∧ f.offset + s ≤ n ∧ l.all (·.1 < s) then some (l.map fun (p : Nat × Nat) => (f.offset + p.1, p.2)) else none
      | _, _, _, _ => none)).map List.flatten
    | some (.array k e) => if k = 0 then none else ((List.range k).mapM fun i => (match szOf P e, szOf P t, agOf P e, leafOffs P d e with
      | some s, some n, some ag, some l => if (ag = false → s = 1) ∧ i * s + s ≤ n ∧ l.all (·.1 < s) then some (l.map fun (p : Nat × Nat) => (i * s + p.1, p.2)) else none
      | _, _, _, _ => none)).map List.flatten
    | _ => none
def nilC (P : Program) (t : TypeId) : Operand → Bool
  | .const (.pointer none) => (match P.underlying t with | some (.pointer _) => true | _ => false)
  | .const .nilFunc => (match P.underlying t with | some (.func ..) => true | _ => false)
  | .const (.map none) => (match P.underlying t with | some (.map ..) => true | _ => false)
  | .const .nilIface => (match P.underlying t with | some (.interface _) => true | _ => false)
  | .const (.slice none 0 0) => (match P.underlying t with | some (.slice _) => true | _ => false)
  | _ => false
def cstOf : Operand → Value
  | .const v => v
  | _ => undef
/-- the types of ints that may be compared -/
def cmpTs (P : Program) : List TypeId := (List.range P.types.size).filter fun t => (match P.underlying t with | some (.int _) => true | _ => false) && (match P.info? t with | some i => i.comparable | none => false)
def eqOp (P : Program) (ne : Bool) (t : TypeId) (x y : Operand) : Option AOp2 :=
  if nilC P t y then some (.isnil ne (cstOf y) x) else
  match agOf P t, szOf P t with
  | some true, some n => if P.eqGuardType P.depth t then none else (leafOffs P 12 t).map fun l => .aeq ne n l x y
  | _, _ => match P.underlying t with
    | some (.interface _) => some (.ifeq ne (cmpTs P) x y)
    | _ => none
/-- the cells of a type that are slices, with the sizes of their elements -/
def sliceOffs (P : Program) : Nat → TypeId → List (Nat × Nat)
  | 0, _ => []
  | d + 1, t => match P.underlying t with
    | some (.slice e) => (match szOf P e with | some s => [(0, s)] | none => [])
    | some (.struct fs) => fs.toList.flatMap fun (f : Field) => (sliceOffs P d f.type).map fun (p : Nat × Nat) => (f.offset + p.1, p.2)
    | _ => []
def comp2 (P : Program) (ms : List Nat) : Op → Option AOp2
  | .alloc t => if ms.contains 1000000 then (match sliceOffs P 4 t, zeOf P t with
    | [], _ => none
    | offs, some z => some (.allocR z.cells.toList offs)
    | _, none => none) else none
  | .store t a v => if ms.contains 1000000 then (match sliceOffs P 4 t, szOf P t with
    | [], _ => none
    | offs, some (n + 1) => (match v with | .const _ => some (.storeR (n + 1) offs a v) | .tmp _ => some (.storeR (n + 1) offs a v) | _ => none)
    | _, _ => none) else none
  | .call ⟨.value (.func f), args, _⟩ => if ms.contains f then some (.callM f args.toList) else none
  | .call ⟨.value (.tmp t), args, _⟩ => some (.callV (.tmp t) args.toList)
  | .call ⟨.builtin .delete, args, ts⟩ => match args.toList, (ts[0]?).bind P.underlying with
    | [x, k], some (.map kt _) => if keyTy P kt then some (.mdel x k) else none
    | _, _ => none
  | .call ⟨.builtin .len, args, ts⟩ => match args.toList, (ts[0]?).bind P.underlying with
    | [x], some (.map _ _) => some (.mlen x)
    | _, _ => none
  | .call ⟨.builtin .copy, args, ts⟩ => match args.toList, (ts[0]?).bind P.underlying with
    | [x, y], some (.slice e) => (match szOf P e with | some (n + 1) => some (.cpy (n + 1) x y) | _ => none)
    | _, _ => none
  | .nilCheck x => some (.nilchk x)
  | .makeInterface t x => match P.underlying t with
    | some (.interface _) => none
    | some _ => some (.mkif t x)
    | none => none
  | .call ⟨.builtin .append, args, ts⟩ => match args.toList, ts.toList with
    | [x, y], [t, t'] => (match P.underlying t, P.underlying t' with
      | some (.slice e), some .string => (match szOf P e, zeOf P e, byOf P e with
        | some 1, some z, some 1 => if z.cells.size = 1 then some (.appS x y) else none
        | _, _, _ => none)
      | _, _ => none)
    | _, _ => none
  | .box t x => match szOf P t with | some (n + 1) => some (.bx (n + 1) x) | _ => none
  | .makeFunc (.func f) first caps => some (.mkfn f first.toList caps.toList)
  | .makeMap t none => match P.underlying t with | some (.map _ _) => some .mkmap | _ => none
  | .makeMap t (some (.const (.int _ _))) => match P.underlying t with | some (.map _ _) => some .mkmap | _ => none
  | .lookup t x k ok => match P.underlying t with
    | some (.map kt e) => if keyTy P kt then (zeOf P e).map fun z => .mlook (AV.ofV z) ok x k else none
    | _ => none
  | .mapUpdate t x k v => match P.underlying t with
    | some (.map kt _) => if keyTy P kt then some (.mset x k v) else none
    | _ => none
  | .binOp .eql t x y _ => eqOp P false t x y
  | .binOp .neq t x y _ => eqOp P true t x y
  | _ => none
/-- an operation; what the machine has not is bad -/
def compAny (P : Program) (ms : List Nat) (hint : Bool) (ty : TypeId) (op : Op) : AOp := match comp2 P ms op with
  | some o => .x o
  | none => match compOp P hint ty op with
    | some o => o
    | none => .x .bad
theorem any_cases {P : Program} {ms : List Nat} {hint : Bool} {ty : TypeId} {op : Op} {ao : AOp} (h : compAny P ms hint ty op = ao) : (∃ o2, comp2 P ms op = some o2 ∧ ao = .x o2) ∨ compOp P hint ty op = some ao ∨ ao = .x .bad := by
  unfold compAny at h
  split at h
  · rename_i o2 h2; exact .inl ⟨o2, h2, h.symm⟩
  · split at h
    · rename_i o h3; exact .inr (.inl (by rw [h3, h]))
    · exact .inr (.inr h.symm)

section
variable {P : Program} {w w' : World}
theorem bytes_beq (a b : ByteArray) : (a.toList == b.toList) = decide (a.data.toList = b.data.toList) := by
  by_cases h : a = b
  · subst h; simp
  · rw [str_ne h]
    symm
    rw [decide_eq_false_iff_not]
    intro e
    apply h
    cases a; cases b
    simp only at e
    congr 1
    exact Array.toList_inj.1 e
theorem bytes_beq' (a b : ByteArray) : (a == b) = decide (a.data.toList = b.data.toList) := by
  have : (a == b) = (a.toList == b.toList) := by
    rw [← beq_toListBytes]
  rw [this, bytes_beq]

/-- the cells at some places, compared -/
def eqV (x y : Array Value) : List (Nat × Nat) → Option Bool
  | [] => some true
  | (o, k) :: r => match vEqT k (x.getD o undef) (y.getD o undef) with
    | some true => eqV x y r
    | some false => some false
    | none => none
theorem eqV_append (x y : Array Value) : ∀ (l k : List (Nat × Nat)), eqV x y (l ++ k) = match eqV x y l with | some true => eqV x y k | some false => some false | none => none
  | [], k => rfl
  | (o, q) :: r, k => by
    simp only [List.cons_append, eqV]
    rcases vEqT q (x.getD o undef) (y.getD o undef) with _ | (_ | _)
    · rfl
    · rfl
    · exact eqV_append x y r k
theorem eqV_move {x y x' y' : Array Value} {off n : Nat} (hx : ∀ j, j < n → x'.getD j undef = x.getD (off + j) undef) (hy : ∀ j, j < n → y'.getD j undef = y.getD (off + j) undef) : ∀ (l : List (Nat × Nat)), l.all (·.1 < n) = true → eqV x y (l.map fun p => (off + p.1, p.2)) = eqV x' y' l
  | [], _ => rfl
  | (o, q) :: r, h => by
    simp only [List.all_cons, Bool.and_eq_true, decide_eq_true_eq] at h
    simp only [List.map_cons, eqV, hx o h.1, hy o h.1, eqV_move hx hy r h.2]
def isAggD : TypeDesc → Bool
  | .struct _ => true
  | .array _ _ => true
  | _ => false
/-- a value and its cells -/
def CellsOf (ag : Bool) (v : Value) (cs : Array Value) : Prop := if ag then v = .agg cs else cs.getD 0 undef = v
def EqOk (P : Program) (t : TypeId) (l : List (Nat × Nat)) (D : Nat) : Prop := ∀ (ag : Bool) (n : Nat) (x y : Value) (cx cy : Array Value) (r : Bool) (w : World), agOf P t = some ag → szOf P t = some n → CellsOf ag x cx → CellsOf ag y cy → n ≤ cx.size → n ≤ cy.size → eqV cx cy l = some r → (Op.equalIn D t x y).run P w = .ok r w

theorem ag_scalar {t : TypeId} {d : TypeDesc} (ht : P.underlying t = some d) (h : isAggD d = false) {ag : Bool} (ha : agOf P t = some ag) : ag = false := by
  unfold agOf at ha
  rw [ht] at ha
  simp only [Option.map_some, Option.some.injEq] at ha
  rw [← ha]; cases d <;> first | rfl | exact h
theorem eqV_one {cx cy : Array Value} {q : Nat} {r : Bool} (h : eqV cx cy [(0, q)] = some r) : vEqT q (cx.getD 0 undef) (cy.getD 0 undef) = some r := by
  simp only [eqV] at h
  split at h
  · rename_i e; rw [e, ← h]
  · rename_i e; rw [e, ← h]
  · cases h
theorem part_cells {t : TypeId} {n : Nat} {ag : Bool} (hn : szOf P t = some n) (hag : agOf P t = some ag) (h1 : ag = false → n = 1) (cs : Array Value) (off : Nat) (hl : off + n ≤ cs.size) :
    ∃ v cv, (∀ w, (part t cs off).run P w = .ok v w) ∧ CellsOf ag v cv ∧ n ≤ cv.size ∧ ∀ j, j < n → cv.getD j undef = cs.getD (off + j) undef := by
  cases ag with
  | true =>
    refine ⟨.agg (cs.extract off (off + n)), cs.extract off (off + n), fun w => ?_, rfl, by simp; omega, fun j hj => ?_⟩
    · have := run_part (w := w) hn hag cs off hl (by simp)
      simpa using this
    · simp only [Array.getD_eq_getD_getElem?]
      rw [Array.getElem?_extract]
      rw [if_pos (by omega)]
  | false =>
    obtain rfl := h1 rfl
    refine ⟨cs.getD off undef, #[cs.getD off undef], fun w => ?_, rfl, by simp, fun j hj => ?_⟩
    · have := run_part (w := w) hn hag cs off hl (by simp)
      simpa using this
    · obtain rfl : j = 0 := by omega
      rfl
theorem eq_fields (D : Nat) (cx cy : Array Value) {n : Nat} (hx : n ≤ cx.size) (hy : n ≤ cy.size) : ∀ (fs : List Field) (ls : List (List (Nat × Nat))) (r : Bool) (w : World),
    (∀ (i : Nat) (f : Field), fs[i]? = some f → ∃ s ag l, szOf P f.type = some s ∧ agOf P f.type = some ag ∧ (ag = false → s = 1) ∧ f.name ≠ "_" ∧ f.offset + s ≤ n ∧ l.all (·.1 < s) = true ∧ EqOk P f.type l D ∧ ls[i]? = some (l.map fun p => (f.offset + p.1, p.2))) → fs.length = ls.length →
    eqV cx cy ls.flatten = some r → (Op.eqFields D cx cy fs).run P w = .ok r w
  | [], ls, r, w, _, hl, h => by
    obtain rfl : ls = [] := List.eq_nil_of_length_eq_zero hl.symm
    simp only [List.flatten_nil, eqV, Option.some.injEq] at h
    subst h
    simp [Op.eqFields]
  | f :: fs, [], r, w, _, hl, h => by simp at hl
  | f :: fs, l0 :: ls, r, w, hall, hl, h => by
    obtain ⟨s, ag, l, h1, h2, h3, h4, h5, h6, h7, h8⟩ := hall 0 f rfl
    simp only [List.getElem?_cons_zero, Option.some.injEq] at h8
    subst h8
    obtain ⟨v, cv, a1, a2, a3, a4⟩ := part_cells h1 h2 h3 cx f.offset (by omega)
    obtain ⟨u, cu, b1, b2, b3, b4⟩ := part_cells h1 h2 h3 cy f.offset (by omega)
    rw [List.flatten_cons, eqV_append, eqV_move a4 b4 l h6] at h
    have rest : ∀ r, eqV cx cy ls.flatten = some r → ∀ w, (Op.eqFields D cx cy fs).run P w = .ok r w := fun r hr w => eq_fields D cx cy hx hy fs ls r w (fun i f hf => by have := hall (i + 1) f (by simpa using hf); simpa using this) (by simpa using hl) hr
    simp only [Op.eqFields, Sem.run_bind, Sem.run_ite, if_pos h4, a1, b1, Result.andThen_ok]
    rcases hq : eqV cv cu l with _ | (_ | _)
    · rw [hq] at h; cases h
    · rw [hq] at h
      injection h with h; subst h
      rw [h7 ag s v u cv cu false w h2 h1 a2 b2 a3 b3 hq]
      simp
    · rw [hq] at h
      rw [h7 ag s v u cv cu true w h2 h1 a2 b2 a3 b3 hq]
      simp [rest r h w]
theorem eq_items (D : Nat) (cx cy : Array Value) {n s : Nat} {e : TypeId} {ag : Bool} {l : List (Nat × Nat)} (hx : n ≤ cx.size) (hy : n ≤ cy.size) (h1 : szOf P e = some s) (h2 : agOf P e = some ag) (h3 : ag = false → s = 1) (h6 : l.all (·.1 < s) = true) (h7 : EqOk P e l D) : ∀ (is : List Nat) (ls : List (List (Nat × Nat))) (r : Bool) (w : World),
    (∀ (i k : Nat), is[i]? = some k → k * s + s ≤ n ∧ ls[i]? = some (l.map fun p => (k * s + p.1, p.2))) → is.length = ls.length →
    eqV cx cy ls.flatten = some r → (Op.eqItems D e s cx cy is).run P w = .ok r w
  | [], ls, r, w, _, hl, h => by
    obtain rfl : ls = [] := List.eq_nil_of_length_eq_zero hl.symm
    simp only [List.flatten_nil, eqV, Option.some.injEq] at h
    subst h
    simp [Op.eqItems]
  | k :: fs, [], r, w, _, hl, h => by simp at hl
  | k :: is, l0 :: ls, r, w, hall, hl, h => by
    obtain ⟨h5, h8⟩ := hall 0 k rfl
    simp only [List.getElem?_cons_zero, Option.some.injEq] at h8
    subst h8
    obtain ⟨v, cv, a1, a2, a3, a4⟩ := part_cells h1 h2 h3 cx (k * s) (by omega)
    obtain ⟨u, cu, b1, b2, b3, b4⟩ := part_cells h1 h2 h3 cy (k * s) (by omega)
    rw [List.flatten_cons, eqV_append, eqV_move a4 b4 l h6] at h
    have rest : ∀ r, eqV cx cy ls.flatten = some r → ∀ w, (Op.eqItems D e s cx cy is).run P w = .ok r w := fun r hr w => eq_items D cx cy hx hy h1 h2 h3 h6 h7 is ls r w (fun i k hf => by have := hall (i + 1) k (by simpa using hf); simpa using this) (by simpa using hl) hr
    simp only [Op.eqItems, Sem.run_bind, Sem.run_ite, a1, b1, Result.andThen_ok]
    rcases hq : eqV cv cu l with _ | (_ | _)
    · rw [hq] at h; cases h
    · rw [hq] at h
      injection h with h; subst h
      rw [h7 ag s v u cv cu false w h2 h1 a2 b2 a3 b3 hq]
      simp
    · rw [hq] at h
      rw [h7 ag s v u cv cu true w h2 h1 a2 b2 a3 b3 hq]
      simp [rest r h w]

theorem mapM_get {α β : Type} {f : α → Option β} : ∀ {l : List α} {k : List β}, l.mapM f = some k → l.length = k.length ∧ ∀ (i : Nat) (x : α), l[i]? = some x → ∃ y, f x = some y ∧ k[i]? = some y
  | [], k, h => by simp at h; subst h; simp
  | x :: l, k, h => by
    rw [List.mapM_cons] at h
    simp only [bind, Option.bind_eq_some_iff, pure, Option.some.injEq] at h
    obtain ⟨y, h1, k', h2, rfl⟩ := h
    obtain ⟨g1, g2⟩ := mapM_get h2
    refine ⟨by simp [g1], fun i z hz => ?_⟩
    cases i with
    | zero => simp at hz; subst hz; exact ⟨y, h1, rfl⟩
    | succ i => simp at hz; obtain ⟨u, q1, q2⟩ := g2 i z hz; exact ⟨u, q1, by simpa using q2⟩
theorem cells_str (P : Program) {t e : TypeId} {n : Nat} (h : szOf P e = some n) : P.cellsOf e = n := by
  unfold szOf at h
  simp only [Option.map_eq_some_iff] at h
  obtain ⟨i, hi, rfl⟩ := h
  simp [Program.cellsOf, hi]
theorem leaf_ok : ∀ (d : Nat) (t : TypeId) (l : List (Nat × Nat)), leafOffs P d t = some l → ∀ D, d ≤ D → EqOk P t l D
  | 0, t, l, h, D, hD => by simp [leafOffs] at h
  | d + 1, t, l, h, D, hD => by
    obtain ⟨D, rfl⟩ : ∃ E, D = E + 1 := ⟨D - 1, by omega⟩
    intro ag n x y cx cy r w hag hn hx hy hnx hny hr
    unfold leafOffs at h
    have sc : ∀ {d : TypeDesc} (q : Nat), P.underlying t = some d → isAggD d = false → l = [(0, q)] → vEqT q x y = some r := by
      intro d q hd hm hl
      have := ag_scalar hd hm hag
      subst this hl
      unfold CellsOf at hx hy
      simp only [Bool.false_eq_true, if_false] at hx hy
      have := eqV_one hr
      rwa [hx, hy] at this
    split at h
    · rename_i hd
      have hv := sc 0 hd rfl (by injection h with h; exact h.symm)
      unfold vEqT at hv
      split at hv
      · injection hv with hv; subst hv; rw [run_equalIn_string w D t _ _ hd, bytes_beq]
      · exfalso; omega
      · exfalso; omega
      · cases hv
    · rename_i k0 hd
      have hv := sc 1 hd rfl (by injection h with h; exact h.symm)
      unfold vEqT at hv
      split at hv
      · exfalso; omega
      · split at hv
        · rename_i hk
          subst hk
          injection hv with hv; subst hv
          rw [run_equalIn_int w D t _ _ _ _ hd]
          rfl
        · cases hv
      · exfalso; omega
      · cases hv
    · rename_i hd
      have hv := sc 2 hd rfl (by injection h with h; exact h.symm)
      unfold vEqT at hv
      split at hv
      · exfalso; omega
      · exfalso; omega
      · injection hv with hv; subst hv; rw [run_equalIn_bool' w D t _ _ hd]; rfl
      · cases hv
    · rename_i fs hd
      split at h
      · cases h
      · rename_i hst
        have hst : P.stoodInHeld t = false := by simpa using hst
        simp only [Option.map_eq_some_iff] at h
        obtain ⟨ls, hls, rfl⟩ := h
        have hfs : P.fieldsOf t = fs := by simp [Program.fieldsOf, hd]
        have hA : ag = true := by unfold agOf at hag; rw [hd] at hag; simpa using hag.symm
        subst hA
        unfold CellsOf at hx hy
        simp only [if_true] at hx hy
        subst hx hy
        obtain ⟨g1, g2⟩ := mapM_get hls
        rw [run_equalIn_struct w D t cx cy (by rw [hfs]; exact hd) hst, hfs]
        refine eq_fields D cx cy hnx hny fs.toList ls r w (fun i f hf => ?_) g1 hr
        obtain ⟨lf, q1, q2⟩ := g2 i f hf
        split at q1
        · rename_i s n' agf l1 e1 e2 e3 e4
          rw [hn] at e2; injection e2 with e2; subst e2
          split at q1
          · rename_i hc
            injection q1 with q1; subst q1
            exact ⟨s, agf, l1, e1, e3, hc.1, hc.2.1, hc.2.2.1, hc.2.2.2, leaf_ok d f.type l1 e4 D (by omega), q2⟩
          · cases q1
        · cases q1
    · rename_i k e hd
      split at h
      · cases h
      rename_i hk
      simp only [Option.map_eq_some_iff] at h
      obtain ⟨ls, hls, rfl⟩ := h
      have hA : ag = true := by unfold agOf at hag; rw [hd] at hag; simpa using hag.symm
      subst hA
      unfold CellsOf at hx hy
      simp only [if_true] at hx hy
      subst hx hy
      obtain ⟨g1, g2⟩ := mapM_get hls
      obtain ⟨lf, q1, q2⟩ := g2 0 0 (by rw [List.getElem?_range (by omega)])
      split at q1
      · rename_i s n' agf l1 e1 e2 e3 e4
        split at q1
        · rename_i hc
          obtain ⟨i, hi, -⟩ : ∃ i, P.info? e = some i ∧ True := by
            unfold szOf at e1
            simp only [Option.map_eq_some_iff] at e1
            obtain ⟨i, hi, _⟩ := e1
            exact ⟨i, hi, trivial⟩
          rw [run_equalIn_array w D cx cy hd hi, cells_str P (t := t) e1]
          refine eq_items D cx cy hnx hny e1 e3 hc.1 hc.2.2 (leaf_ok d e l1 e4 D (by omega)) (List.range k) ls r w (fun i j hj => ?_) g1 hr
          obtain ⟨lf', q1', q2'⟩ := g2 i j hj
          rw [e1, hn, e3, e4] at q1'
          simp only at q1'
          split at q1'
          · rename_i hc'
            injection q1' with q1'; subst q1'
            exact ⟨hc'.2.1, q2'⟩
          · cases q1'
        · cases q1
      · cases q1
    · cases h
end
end Go.Proofs.YtgjdmlhgapmflaaDoor
