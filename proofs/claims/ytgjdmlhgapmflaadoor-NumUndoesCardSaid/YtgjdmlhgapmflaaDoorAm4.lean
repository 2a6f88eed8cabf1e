/- The abstract machine: how the model's operations are turned into its own, and that its reading operations say what the model does. -/
import Derived.Test.YtgjdmlhgapmflaaDoorAm3
import Derived.Laws.Entries
namespace Go.Proofs.YtgjdmlhgapmflaaDoor
set_option linter.unusedVariables false
set_option linter.unusedSimpArgs false

def szOf (P : Program) (t : TypeId) : Option Nat := (P.info? t).map (·.size)
def byOf (P : Program) (t : TypeId) : Option Nat := (P.info? t).map (·.bytes)
def zeOf (P : Program) (t : TypeId) : Option Value := (P.info? t).bind (·.zero)
def agOf (P : Program) (t : TypeId) : Option Bool := (P.underlying t).map fun d => match d with | .struct _ => true | .array _ _ => true | _ => false
def u8Of (P : Program) (t : TypeId) : Bool := match P.underlying t with | some (.int .u8) => true | _ => false
def partsOf (P : Program) (places : Nat → Option (Nat × Nat)) : List (Nat × Operand) → Option (List (Nat × Nat × Operand))
  | [] => some []
  | (i, x) :: r => match places i, partsOf P places r with | some (o, s), some l => some ((o, s, x) :: l) | _, _ => none
def placesOf (P : Program) (fs : Array Field) : Option (List (Nat × Nat)) := fs.toList.mapM (fun f => (P.info? f.type).map fun i => (f.offset, i.size))

/-- a zero value of n storable cells -/
def zeroOk (z : Value) (ag : Bool) (n : Nat) : Bool := decide (z.cells.size = n) && (z.cells.toList.map AV.val).all AV.grCell && (ag || decide (n = 1))
/-- an operation of the model as one of the machine; hint: a nil slice opens a row, a literal slice is a row -/
def compOp (P : Program) (hint : Bool) (ty : TypeId) : Op → Option AOp
  | .move x => some (.mov x)
  | .assign x => match hint, x, P.underlying ty with
    | true, .const (.slice none 0 0), some (.slice e) => (szOf P e).map .nilrow
    | _, _, _ => some (.mov x)
  | .pick c a b => some (.pick c a b)
  | .binOp op t x y _ => match op with
    | .eql => (match P.underlying t with | some .bool => some (.beq false x y) | some (.int _) => some (.bin .eql x y) | some .string => some (.bin .eql x y) | _ => none)
    | .neq => (match P.underlying t with | some .bool => some (.beq true x y) | some (.int _) => some (.bin .neq x y) | some .string => some (.bin .neq x y) | _ => none)
    | op => some (.bin op x y)
  | .unOp op _ x => some (.un op x)
  | .convert s d x => match P.underlying s, P.underlying d with
    | some (.int _), some (.int k) => some (.cint k x)
    | some .string, some .string => some (.cstr x)
    | some .string, some (.slice e) => if u8Of P e then some (.s2b x) else none
    | some (.slice e), some .string => if u8Of P e then some (.b2s x) else none
    | _, _ => none
  | .alloc t => (zeOf P t).map fun z => .alloc z.cells.toList
  | .load t a => match szOf P t, agOf P t with
    | some (n + 1), some ag => some (.load (n + 1) ag a)
    | _, _ => none
  | .store t a v => match szOf P t with
    | some (n + 1) => some (.store (n + 1) a v)
    | _ => none
  | .fieldAddr s x f => match P.underlying s with
    | some (.struct fs) => (match fs[f]? with
      | some fd => (match szOf P fd.type with | some (_ + 1) => some (.faddr fd.offset x) | _ => none)
      | none => none)
    | _ => none
  | .field s x f => match P.underlying s with
    | some (.struct fs) => (match fs[f]? with
      | some fd => (match szOf P fd.type, agOf P fd.type with | some (n + 1), some ag => some (.fld fd.offset (n + 1) ag x) | _, _ => none)
      | none => none)
    | _ => none
  | .indexAddr t x i => match P.underlying t with
    | some (.slice e) => (szOf P e).map fun sz => .iaddr sz x i
    | some (.array n e) => (szOf P e).map fun sz => .aaddr n sz x i
    | _ => none
  | .index t x i => match P.underlying t with
    | some .string => some (.sidx x i)
    | some (.array n e) => (match szOf P e, agOf P e with | some (sz + 1), some ag => some (.aidx n (sz + 1) ag x i) | _, _ => none)
    | _ => none
  | .slice t x lo hi none => match P.underlying t with
    | some .string => some (.sslc x lo hi)
    | some (.slice e) => (szOf P e).map fun sz => .slc sz x lo hi
    | _ => none
  | .build t parts => match P.underlying t, zeOf P t with
    | some (.struct fs), some z => (placesOf P fs).bind fun places => (partsOf P (places.toArray[·]?) parts.toList).map fun l => .build z.cells.toList l
    | some (.array _ e), some z => (szOf P e).bind fun sz => (partsOf P (fun i => some (i * sz, sz)) parts.toList).map fun l => .build z.cells.toList l
    | _, _ => none
  | .buildSlice t len parts => match P.underlying t with
    | some (.slice e) => (match szOf P e, zeOf P e, agOf P e with
      | some (n + 1), some z, some ag => if len * (n + 1) ≤ 16777216 ∧ zeroOk z ag (n + 1) then some (.bslice (n + 1) hint z.cells.toList ag len parts.toList) else none
      | _, _, _ => none)
    | _ => none
  | .makeSlice t l c => match P.underlying t with
    | some (.slice e) => (match szOf P e, zeOf P e, agOf P e, byOf P e with
      | some (n + 1), some z, some ag, some by_ => if zeroOk z ag (n + 1) then some (.mks (n + 1) z.cells.toList ag by_ l c) else none
      | _, _, _, _ => none)
    | _ => none
  | .extract t i => some (.ext t i)
  | .call ⟨.builtin .len, args, ts⟩ => match args.toList, (ts[0]?).bind P.underlying with
    | [x], some .string => some (.slen x)
    | [x], some (.slice _) => some (.len x)
    | _, _ => none
  | .call ⟨.builtin .min, args, _⟩ => match args.toList with | x :: ys => some (.mn x ys) | [] => none
  | .call ⟨.builtin .max, args, _⟩ => match args.toList with | x :: ys => some (.mx x ys) | [] => none
  | .call ⟨.builtin .append, args, ts⟩ => match args.toList, ts.toList with
    | [x, y], [t, t'] => if t = t' then (match P.underlying t with
      | some (.slice e) => (match szOf P e, zeOf P e, byOf P e with
        | some (n + 1), some z, some by_ => if z.cells.size = n + 1 then some (.app (n + 1) by_ x y) else none
        | _, _, _ => none)
      | _ => none) else none
    | _, _ => none
  | .call ⟨.value (.func f), args, _⟩ => match P.funcs[f]? with
    | some fn => if fn.body.isSome ∧ (fn.name == "runtime.NumGoroutine") = false then some (.call f args.toList) else none
    | none => none
  | _ => none

/-- the world has only grown -/
def Ext (w w' : World) : Prop := ∀ k : Nat, k < w.heap.size → w'.heap[k]? = w.heap[k]?
theorem Ext.refl (w : World) : Ext w w := fun _ _ => rfl
theorem Ext.cell {w w' : World} (h : Ext w w') {b : Nat} (hb : b < w.heap.size) (o : Nat) : w'.cell? ⟨b, o, none⟩ = w.cell? ⟨b, o, none⟩ := World.cell?_of_block (h b hb)

section
variable {P : Program} {w : World}
theorem run_szOf {t : TypeId} {n : Nat} (h : szOf P t = some n) (w : World) : (sizeOf t).run P w = .ok n w := by
  unfold szOf at h
  simp only [Option.map_eq_some_iff] at h
  obtain ⟨i, hi, rfl⟩ := h
  simp [sizeOf, typeInfo, hi]
theorem run_agOf {t : TypeId} {b : Bool} (h : agOf P t = some b) (w : World) : (isAgg t).run P w = .ok b w := by
  unfold agOf at h
  simp only [Option.map_eq_some_iff] at h
  obtain ⟨d, hd, rfl⟩ := h
  cases d <;> simp [isAgg, run_underlying hd]
theorem run_zeOf {t : TypeId} {z : Value} (h : zeOf P t = some z) (w : World) : (zeroValue t).run P w = .ok z w := by
  unfold zeOf at h
  simp only [Option.bind_eq_some_iff] at h
  obtain ⟨i, hi, hz⟩ := h
  simp [zeroValue, typeInfo, hi, hz]
theorem run_now {α : Type} {s : Sem α} {a : α} (h : Sem.now s = some a) (w : World) : s.run P w = .ok a w := by
  cases s <;> simp [Sem.now] at h
  subst h; rfl

theorem run_loadVar {t : TypeId} {n : Nat} {ag : Bool} (hn : szOf P t = some n) (hag : agOf P t = some ag) (b o : Nat) (cs : List Value) (hl : cs.length = n) (h1 : ag = false → n = 1)
    (hc : ∀ (j : Nat) (v : Value), cs[j]? = some v → w.cell? ⟨b, o + j, none⟩ = some v) :
    (loadVar t ⟨b, o, none⟩).run P w = .ok (if ag then .agg cs.toArray else cs.headD undef) w := by
  have ha : ∀ (j : Nat) (v : Value), cs[j]? = some v → w.cell? ((⟨b, o, none⟩ : Addr).add j) = some v := by
    intro j v hv
    have := hc j v hv
    unfold Addr.add
    split
    · rename_i h0; subst h0; simpa using this
    · exact this
  cases ag with
  | true =>
    have := run_loadCells_list (P := P) w ⟨b, o, none⟩ cs ha
    rw [hl] at this
    simp [loadVar, run_agOf hag, run_szOf hn, this]
  | false =>
    have h1 := h1 rfl
    match cs, hl with
    | [v], _ =>
      have := hc 0 v rfl
      simp only [Nat.add_zero] at this
      simp [loadVar, run_agOf hag, load, Sem.run, this]
    | [], h => simp at h; omega
    | _ :: _ :: _, h => simp at h; omega

theorem run_part {t : TypeId} {n : Nat} {ag : Bool} (hn : szOf P t = some n) (hag : agOf P t = some ag) (cs : Array Value) (off : Nat) (hl : off + n ≤ cs.size) (h1 : ag = false → n = 1) :
    (part t cs off).run P w = .ok (if ag then .agg (cs.extract off (off + n)) else cs.getD off undef) w := by
  cases ag with
  | true => simp [part, run_agOf hag, run_szOf hn]
  | false =>
    have h1 := h1 rfl
    have hlt : off < cs.size := by omega
    simp [part, run_agOf hag, hlt]
end
end Go.Proofs.YtgjdmlhgapmflaaDoor
