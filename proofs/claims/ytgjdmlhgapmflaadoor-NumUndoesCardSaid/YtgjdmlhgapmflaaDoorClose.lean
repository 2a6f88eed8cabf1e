/-
  From a walk that says 'true is returned, nothing that was there is written' to the statement's step: once for all laws of the seat. And what a slice that came in reads as.
-/
import Derived.Test.YtgjdmlhgapmflaaDoorRows
import Derived.Test.YtgjdmlhgapmflaaDoorMem
import Derived.ProofKit
import Derived.OpenShut
import Derived.ShutString
import Derived.ChangeOld
import Derived.Below
import Derived.SizedLaws
import Derived.Deep.Slices
import Derived.Deep.Fields
import Derived.Deep.CondSized
namespace Go.Proofs.YtgjdmlhgapmflaaDoor
set_option linter.unusedVariables false
set_option linter.unusedSimpArgs false
open Go.RowKit Go.ChangeShapes Go.WideShapes Go.ChangeAt Go.Deep

theorem own : ownKnob Tryd.prog.godebug = none := by kernel_rfl
theorem laidOut : laidOutB Tryd.prog = true := by kernel_rfl

section
variable {H : Type} {enc : TypeId × Value → H}
theorem trodAll_below {W W' : World} (hb : Below W.heap.size W W') : ∀ {ts : List TypeId} {vs : List Value} {ds : List (DataW H)} {ps : List MemPlace},
    (∀ t ∈ ts, Tryd.prog.readableRec t = true ∧ t < Tryd.prog.types.size) → DataW.TrodAll enc Tryd.prog W 0 (fun _ => true) true ts vs ds ps → DataW.TrodAll enc Tryd.prog W' 0 (fun b => decide (b < W.heap.size)) true ts vs ds ps
  | [], [], [], _, _, h => h
  | t :: ts, v :: vs, d :: ds, _, hr, ⟨p, q, h1, h2, e⟩ => by
    refine ⟨p, q, Below.trod laidOut (hr t (by simp)).1 (hr t (by simp)).2 h1 hb ?_, trodAll_below hb (fun t ht => hr t (by simp [ht])) h2, e⟩
    obtain ⟨m, hm⟩ := h1
    exact DataW.trod_lt m _ _ _ hm
  | [], _ :: _, _, _, _, h => h.elim
  | [], [], _ :: _, _, _, h => h.elim
  | _ :: _, [], _, _, _, h => h.elim
  | _ :: _, _ :: _, [], _, _, h => h.elim

set_option maxRecDepth 100000 in
/-- the statement's step, of a law whose walk returns true and writes nothing that was there -/
theorem law_lifted {F : FuncId} {fn : Func} {s : ChangeSpec} {conds : List PathCond} {os : Os} (started : os.Started) (noInit : Tryd.prog.inits.idxOf? F = none) (hfn : Tryd.prog.funcs[F]? = some fn)
    (hv : s.vars = []) (hs : ∀ ds : List (DataW H), ds.length = fn.params.size → s.fn H ds = { results := [.lit (.bool true)], args := ds }) (hres : fn.resultTypes = #[4])
    (hpar : ∀ t ∈ fn.params.toList, Tryd.prog.readableRec t = true ∧ t < Tryd.prog.types.size)
    (witness : ∃ (w : World) (tape : Tape) (i : Input), w.os = os ∧ (w.forCall tape i).Shaped Tryd.checked.prog ∧ i.vars = [] ∧ Input.okWide Tryd.checked.prog (w.forCall tape i) .any w.heap.size F i ∧
      s.pre6 enc Tryd.checked.prog fn conds false (w.forCall tape i).memory i.args ∧ Assume.holds {} Tryd.checked.prog (lone (Frame.enter Tryd.checked.prog F i.args .normal) [] (w.forCall tape i)))
    (walk : ∀ (W : World) (base : Nat) (args : Array Value) (ds : List (DataW H)) (p : List MemPlace),
      (∀ (j : Nat) t v, fn.params[j]? = some t → args[j]? = some v → Value.okWide Tryd.prog W .any base t v) →
      DataW.TrodAll enc Tryd.prog W 0 (fun _ => true) true fn.params.toList args.toList ds p →
      (DataW.weightsEach Tryd.prog fn.params.toList ds).all (· ≤ reachBytes) = true →
      Calls Tryd.prog F args W fun e w' => e = .returned (.bool true) ∧ Below W.heap.size W w') :
    ReturnsInHanded {} Tryd.checked os F .any (s.pre6 enc Tryd.prog fn conds false) (s.post enc Tryd.prog fn false true false false) := by
  refine returnsInHanded_of_change_sized (C := Tryd.checked) own started noInit hfn witness ?_
  intro W base args ds gs before hval hW hcnd hsz _
  have hW' := hW
  obtain ⟨p, q, hA, hV, rfl, hfz, hnd⟩ := hW
  rw [hv] at hV
  obtain ⟨rfl, rfl⟩ := trodVars_none hV
  have hlen : ds.length = fn.params.size := by
    have : ∀ {ts : List TypeId} {vs : List Value} {ds : List (DataW H)} {ps : List MemPlace}, DataW.TrodAll enc Tryd.checked.prog W 0 (fun _ => true) true ts vs ds ps → ds.length = ts.length := by
      intro ts
      induction ts with
      | nil => intro vs ds ps h; cases vs <;> cases ds <;> first | rfl | exact h.elim
      | cons t ts ih => intro vs ds ps h; cases vs <;> cases ds <;> first | exact h.elim | (obtain ⟨_, _, _, h2, _⟩ := h; simp [ih h2])
    rw [this hA]; simp
  have hvt : s.plain.varTypes Tryd.checked.prog = [] := by
    simp [DataSpec.varTypes, ChangeSpec.plain, hv]
  rw [hvt, List.append_nil, List.append_nil] at hsz
  refine (walk W base args ds p hval hA hsz).mono fun e W' ⟨he, bel⟩ => ?_
  subst he
  have h1 := hs (ds ++ []) (by simpa using hlen)
  refine ⟨_, rfl, ds, [], p ++ [], [], p, [], hW', ?_, ?_, ?_, bel.frame _, fun h => by cases h⟩
  · rw [h1, hres]; exact trodAll_mk1 (shut_bool Tryd.underlying4 _)
  · rw [h1]; simp only [List.append_nil]; exact trodAll_below bel hpar hA
  · rw [h1, hv]; exact rfl
end

/-! ### what came in -/
section
variable {H : Type} {enc : TypeId × Value → H} {w : World}

/-- a slice value: its elements lie one behind the other, size cells each -/
def SlAt (w : World) (size : Nat) (A : Option Addr) (n : Nat) (cell : Nat → Nat → Option Value) : Prop :=
  0 < n → ∃ b off, A = some ⟨b, off, none⟩ ∧ b < w.heap.size ∧ ∀ i, i < n → ∀ j, j < size → w.cell? ⟨b, off + i * size + j, none⟩ = cell i j

theorem SlAt.frame {w' : World} {size : Nat} {A : Option Addr} {n : Nat} {cell : Nat → Nat → Option Value} (h : SlAt w size A n cell) (hb : Below w.heap.size w w') : SlAt w' size A n cell := by
  intro hn
  obtain ⟨b, off, e, hlt, hc⟩ := h hn
  exact ⟨b, off, e, Nat.lt_of_lt_of_le hlt hb.size, fun i hi j hj => (hb.cell (p := ⟨b, _, none⟩) hlt).trans (hc i hi j hj)⟩

set_option maxRecDepth 100000 in
/-- any slice that came in: each element's cells, and its reading -/
theorem open_sl {t e : TypeId} {size : Nat} {v : Value} {d : DataW H} {p : List MemPlace} (ht : Tryd.prog.underlying t = some (.slice e)) (hC : Tryd.prog.cellsOf e = size) (hs : 0 < size) {b0 : Nat} (hv : Value.okWide Tryd.prog w .any b0 t v)
    (h : DataW.Trod enc Tryd.prog w 0 (fun _ => true) true t v d p) :
    ∃ A n c, v = .slice A n c ∧ n ≤ maxLen ∧ n ≤ c ∧ (A = none → n = 0 ∧ c = 0) ∧ ∃ (cs : Nat → List Value) (D : Nat → DataW H), SlAt w size A n (fun i j => (cs i)[j]?) ∧ (∀ i, i < n → (cs i).length = size ∧ ∃ fuel q, DataW.trod enc Tryd.prog w 0 (fun _ => true) true fuel e (cs i) = some (D i, q)) ∧
      ((n = 0 ∧ d = .nil) ∨ ∃ spare, d = .slice ((List.range n).map D) spare) := by
  obtain ⟨A, n, c, rfl⟩ := okWide_slice ht hv
  obtain ⟨fuel, hf⟩ := h
  rcases open_slice ht hf with ⟨hcs, hx⟩ | ⟨a, len, cap, m, n', D, Pl, hcs, hb, hl, hm, hmm, hx, hi⟩
  · simp [Value.cells] at hcs
    obtain ⟨rfl, rfl, rfl⟩ := hcs
    have hm0 : 0 ≤ maxLen := Nat.zero_le _
    refine ⟨none, 0, 0, rfl, hm0, Nat.le_refl 0, fun _ => ⟨rfl, rfl⟩, fun _ => [], fun _ => .nil, fun h => absurd h (by omega), fun i hi => absurd hi (by omega), .inl ⟨rfl, ?_⟩⟩
    simp only [Prod.mk.injEq] at hx; exact hx.1
  · simp [Value.cells] at hcs
    obtain ⟨rfl, rfl, rfl⟩ := hcs
    have hmc : m = c := by simpa using hmm
    have hcell : ∀ i, i < n → ∃ cs', World.cells? w 0 (a.add (i * size)) size = some cs' ∧ DataW.trod enc Tryd.prog w 0 (fun _ => true) true n' e cs' = some (D i, Pl i) := by
      intro i hin
      obtain ⟨cs', h1, h2⟩ := hi i (by omega)
      rw [hC] at h1
      exact ⟨cs', h1, h2⟩
    refine ⟨some a, n, c, rfl, by omega, hl, fun h => (by cases h), fun i => if h : i < n then (hcell i h).choose else [], D, fun hn => ?_, fun i hin => ?_, .inr ⟨_, by simp only [Prod.mk.injEq] at hx; exact hx.1⟩⟩
    · obtain ⟨cs0, h0, _⟩ := hcell 0 hn
      obtain ⟨_, hl0, hat0⟩ := World.cells?_some h0
      have hsp : ∃ b off, a = ⟨b, off, none⟩ ∧ b < w.heap.size := by
        have h00 := hat0 0 hs
        have hlt : 0 < cs0.length := by omega
        rw [List.getElem?_eq_getElem hlt] at h00
        have hz : (a.add (0 * size)).add 0 = a := by simp [Addr.add]
        rw [hz] at h00
        obtain ⟨b, off, spot⟩ := a
        have : spot = none := World.cell?_spot h00
        subst this
        refine ⟨b, off, rfl, ?_⟩
        simp only [World.cell?] at h00
        split at h00
        · rename_i hh; exact (Array.getElem?_eq_some_iff.1 hh).1
        · cases h00
      obtain ⟨b, off, rfl, hlt⟩ := hsp
      refine ⟨b, off, rfl, hlt, fun i hin j hj => ?_⟩
      obtain ⟨_, hl1, hat1⟩ := World.cells?_some (hcell i hin).choose_spec.1
      have := hat1 j hj
      simp only [dif_pos hin]
      rw [← this]
      congr 1
      simp only [Addr.add]
      split <;> split <;> simp_all
    · simp only [dif_pos hin]
      obtain ⟨_, hl1, hat1⟩ := World.cells?_some (hcell i hin).choose_spec.1
      exact ⟨hl1, n', _, (hcell i hin).choose_spec.2⟩
end

section
theorem wf_u8 {n : Int} (h : (Lit.int .u8 n).wf = true) : 0 ≤ n ∧ n ≤ 255 := by
  have := bounds_u8 h
  omega
theorem wf_i64 {n : Int} (h : (Lit.int .i64 n).wf = true) : -9223372036854775808 ≤ n ∧ n ≤ 9223372036854775807 := by
  have := bounds_i64 h
  omega
end
end Go.Proofs.YtgjdmlhgapmflaaDoor
