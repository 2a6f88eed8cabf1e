/- Own texts of this claim, merged: Up, AjC. -/
import Derived.Test.YtckopgopbgicjaaDoorPc
import Derived.Deep.DeepHandedRow
import Derived.Lay
import Derived.Deep.DeepWitnessRowRef
import Derived.Shelf.Vars
section
namespace Go.Proofs.YtckopgopbgicjaaDoor
set_option linter.unusedVariables false
set_option linter.unusedSimpArgs false
open Go.RowKit Go.ChangeShapes Go.WideShapes Go.ChangeAt Go.Deep
section
variable {H : Type} {enc : TypeId × Value → H}
set_option maxRecDepth 100000 in
end
theorem bulk_mem {H : Type} {d : DataW H} {l : List (DataW H)} (h : d ∈ l) : Rows.uptoBulk d ≤ Rows.uptoBulkAll l := by
 induction l with
 | nil => cases h
 | cons x r ih =>
  simp only [Rows.uptoBulkAll]
  cases List.mem_cons.1 h with
  | inl e => subst e; omega
  | inr e => have := ih e; omega
theorem bulk_len {H : Type} (l : List (DataW H)) : l.length ≤ Rows.uptoBulkAll l := by
 induction l with
 | nil => simp [Rows.uptoBulkAll]
 | cons x r ih =>
  have : 1 ≤ Rows.uptoBulk x := by
   cases x with
   | lit l => cases l <;> simp [Rows.uptoBulk]
   | _ => simp [Rows.uptoBulk]
  simp only [Rows.uptoBulkAll, List.length_cons]; omega
end Go.Proofs.YtckopgopbgicjaaDoor
end
section
namespace Go.Proofs.YtckopgopbgicjaaDoor
set_option linter.unusedVariables false
set_option linter.unusedSimpArgs false
open Go.RowKit Go.ChangeShapes Go.WideShapes Go.ChangeAt Go.Deep
set_option maxRecDepth 100000
section
variable {H : Type}
theorem Tys_cons {s : Sh} {r : List Sh} {l : List (DataW H)} (h : Tys (s :: r) l) : ∃ d l', l = d :: l' ∧ Ty s d ∧ Tys r l' := by
 cases l with
 | nil => simp [Tys] at h
 | cons d l => exact ⟨d, l, rfl, by simpa [Tys] using h⟩
theorem Tys_nil {l : List (DataW H)} (h : Tys [] l) : l = [] := by
 cases l with
 | nil => rfl
 | cons d l => simp [Tys] at h
def dStr : DataW H → Bs
 | .lit (.string l) => l
 | _ => []
def dInt : DataW H → Int
 | .lit (.int _ n) => n
 | _ => 0
def dEls : DataW H → List (DataW H)
 | .slice l _ => l
 | _ => []
def dPart (d : DataW H) (i : Nat) : DataW H := match d with
 | .agg l => l.getD i .nil
 | _ => .nil
theorem str_ok {d : DataW H} (h : Ty .str d) : dAV .str d = [strL (dStr d)] ∧ (dStr d).length ≤ maxLen := by
 obtain ⟨l, rfl, hl⟩ := Ty_str h; exact ⟨rfl, hl⟩
theorem int_ok {k : IntKind} {d : DataW H} (h : Ty (.int k) d) : dAV (.int k) d = [.val (.int k (dInt d))] ∧ (Lit.int k (dInt d)).wf = true := by
 obtain ⟨n, rfl, hl⟩ := Ty_int h; exact ⟨rfl, hl⟩
theorem sl_ok {α : Type} {e : Sh} {d : DataW H} (h : Ty (.sl e) d) (g : α → AV) (f : DataW H → α) (hf : ∀ x, Ty e x → e.mk (dAV e x) = g (f x)) : dAV (.sl e) d = [.slice e.n (((dEls d).map f).map g)] ∧ ((dEls d).map f).length ≤ maxLen ∧ ∀ x ∈ dEls d, Ty e x := by
 rcases Ty_sl h with rfl | ⟨elems, spare, rfl, hl, hx⟩
 ·exact ⟨rfl, Nat.zero_le _, fun x hx => by cases hx⟩
 ·refine ⟨?_, by simpa [dEls] using hl, hx⟩
  simp only [dAV, dEls, List.map_map]
  congr 2
  exact List.map_congr_left fun x hm => hf x (hx x hm)
variable {enc : TypeId × Value → H} {w : World}
end
section
variable {H : Type}
def sVl : Sh := .st [.int .i64, .int .i64, .str]
def vlOf (d : DataW H) : Vl := ⟨dInt (dPart d 0), dInt (dPart d 1), dStr (dPart d 2)⟩
theorem bulk_s {d : DataW H} (h : Ty .str d) : (dStr d).length + 1 = Rows.uptoBulk d := by
 obtain ⟨l, rfl, -⟩ := Ty_str h; simp [dStr, Rows.uptoBulk]
theorem bulk_sum {l : List (DataW H)} {f : DataW H → Nat} {c : Nat} (h : ∀ x ∈ l, f x ≤ c * Rows.uptoBulk x) : (l.map f).sum ≤ c * Rows.uptoBulkAll l := by
 induction l with
 | nil => simp
 | cons x r ih =>
  have h1 := h x (by simp)
  have h2 := ih fun y hy => h y (by simp [hy])
  simp only [List.map_cons, List.sum_cons, Rows.uptoBulkAll, Nat.mul_add]; omega
theorem vl_ok {d : DataW H} (h : Ty sVl d) : sVl.mk (dAV sVl d) = encVl (vlOf d) ∧ (InI64 (vlOf d).n ∧ InI64 (vlOf d).k) ∧ (vlT (vlOf d)).length ≤ 20 * Rows.uptoBulk d := by
 obtain ⟨l, rfl, h⟩ := Ty_st h
 obtain ⟨a, l, rfl, ha, h⟩ := Tys_cons h
 obtain ⟨b, l, rfl, hb, h⟩ := Tys_cons h
 obtain ⟨c, l, rfl, hc, h⟩ := Tys_cons h
 obtain rfl := Tys_nil h
 have k := bulk_s hc
 refine ⟨?_, ⟨wf_i64 (int_ok hb).2, wf_i64 (int_ok ha).2⟩, ?_⟩
 ·simp only [sVl, dAV, dAVs, (int_ok ha).1, (int_ok hb).1, (str_ok hc).1]
  rfl
 ·have q := decT_len (vlOf (DataW.agg [a, b, c])).n
  have e : (vlOf (DataW.agg [a, b, c])).s = dStr c := rfl
  have z : 1 ≤ Rows.uptoBulk (DataW.agg [a, b, c]) := by simp only [Rows.uptoBulk]; omega
  have u : (dStr c).length ≤ Rows.uptoBulk (DataW.agg [a, b, c]) := by
   simp only [Rows.uptoBulk, Rows.uptoBulkAll] at *; omega
  unfold vlT
  split
  ·omega
  ·split
   ·rw [e]; omega
   ·exact Nat.zero_le _
variable {enc : TypeId × Value → H} {w : World}
theorem rep_vls {v : Value} {d : DataW H} {p : List MemPlace} {b0 : Nat} (hv : Value.okWide Tryd.prog w .any b0 22 v)
    (h : DataW.Trod enc Tryd.prog w 0 (fun _ => true) true 22 v d p) : (Rows.uptoBulk d ≤ 1048576 → ((dEls d).map vlOf).length ≤ 1048576 ∧ Lib.lens (((dEls d).map vlOf).map vlT) ≤ 100000000) ∧ (∀ x ∈ (dEls d).map vlOf, InI64 x.n ∧ InI64 x.k) ∧ Rep (S0 w) w [] v (.slice 3 (((dEls d).map vlOf).map encVl)) := by
  obtain ⟨h1, h2⟩ := rep_arg (s := .sl sVl) (by kernel_rfl) hv h
  obtain ⟨h3, h4, h5⟩ := sl_ok h1 encVl vlOf fun x hx => (vl_ok hx).1
  rw [h3] at h2
  refine ⟨fun hk => ?_, fun x hx => ?_, h2⟩
  · have hb : Rows.uptoBulkAll (dEls d) ≤ 1048576 := by
      rcases Ty_sl h1 with rfl | ⟨elems, spare, rfl, hl, hty⟩
      · simp [dEls, Rows.uptoBulkAll]
      · simp only [Rows.uptoBulk] at hk; simp only [dEls]; omega
    refine ⟨by rw [List.length_map]; exact Nat.le_trans (bulk_len _) hb, ?_⟩
    have q : (((dEls d).map fun x => (vlT (vlOf x)).length)).sum ≤ 20 * Rows.uptoBulkAll (dEls d) := bulk_sum fun x hx => (vl_ok (h5 x hx)).2.2
    unfold Lib.lens
    rw [List.map_map, List.map_map]
    refine Nat.le_trans (Nat.le_of_eq ?_) (Nat.le_trans q (by omega))
    rfl
  · obtain ⟨y, hy, rfl⟩ := List.mem_map.1 hx
    exact (vl_ok (h5 y hy)).2.1
end
theorem gr_aj {W : World} (h : laidMetH Tryd.prog Rows.arraysJoinsUptoRow.laid W) (hs : W.ShapedOpen Tryd.prog) : GR (S0 W) W [] := by
 rw [MakeChecks.laidMetH_plain _ _ _ (by kernel_rfl)] at h
 refine ⟨fun g l hg => ?_, fun g hg => ?_⟩
 ·unfold GT at hg
  split at hg
  ·rename_i e
   cases hg
   subst e
   have := gr_ints (n := "internal/strconv.uint64pow10") (g := 1) (t := 73) (e := 66) (k := .u64) (zs := pow10L.map fun (n : Nat) => (n : Int)) h (List.mem_of_getElem? (i := 2) rfl) (by kernel_rfl) (by kernel_rfl) (c := 20) (by kernel_rfl) (by kernel_rfl) (by kernel_rfl) (by kernel_rfl)
   exact this
  ·cases hg
 ·have e : g = 0 := by
   unfold GI at hg
   split at hg
   ·assumption
   ·cases hg
  subst e
  obtain ⟨m, hm⟩ := Go.Proofs.cell_of_shapedOpen_int (g := 0) (t := 3) (k := .i64) (zero := #[.int .i64 0]) hs (by decide +kernel) (by kernel_rfl) rfl (by kernel_rfl) (by kernel_rfl) Tryd.underlying3
  refine ⟨m, hm, s0_of ?_ _⟩
  unfold World.cell? at hm
  split at hm
  ·rename_i hh
   exact (Array.getElem?_eq_some_iff.1 hh).1
  ·cases hm
theorem door_met (os : Os) (args : Array Value) : laidMetH Tryd.prog Rows.arraysJoinsUptoRow.laid ((World.laidAll Tryd.prog os Rows.arraysJoinsUptoRow.laid).forCall (fun _ _ => 0) ⟨#[], args, []⟩).memory := by
 rw [MakeChecks.laidMetH_plain _ _ _ (by kernel_rfl)]; exact laidMet_laidAll _ (by kernel_rfl) (by kernel_rfl)
section
variable {H : Type} {enc : TypeId × Value → H}
theorem law_liftedUL {F : FuncId} {fn : Func} {s : ChangeSpec} {conds : List PathCond} {laid : List (String × DataW Unit)} {os : Os} {J : Stop.Interp} (started : os.Started) (noInit : Tryd.prog.inits.idxOf? F = none) (hfn : Tryd.prog.funcs[F]? = some fn)
    (hv : s.vars = []) (hs : ∀ ds : List (DataW H), ds.length = fn.params.size → s.fn H ds = { results := [.lit (.bool true)], args := ds }) (hres : fn.resultTypes = #[4])
    (hpar : ∀ t ∈ fn.params.toList, Tryd.prog.readableRec t = true ∧ t < Tryd.prog.types.size)
    (witness : ∃ (w : World) (tape : Tape) (i : Input), w.os = os ∧ (w.forCall tape i).Shaped Tryd.checked.prog ∧ i.vars = [] ∧ Input.okWide Tryd.checked.prog (w.forCall tape i) .any w.heap.size F i ∧
      (Rows.OpenSpec.upto s).preRow enc Tryd.checked.prog fn conds false laid (w.forCall tape i).memory i.args ∧ Assume.holds {} Tryd.checked.prog (lone (Frame.enter Tryd.checked.prog F i.args .normal) [] (w.forCall tape i)))
    (walk : ∀ (W : World) (base : Nat) (args : Array Value) (ds : List (DataW H)) (p : List MemPlace),
      (∀ (j : Nat) t v, fn.params[j]? = some t → args[j]? = some v → Value.okWide Tryd.prog W .any base t v) →
      DataW.TrodAll enc Tryd.prog W 0 (fun _ => true) true fn.params.toList args.toList ds p →
      Rows.uptoBulkAll ds ≤ 1048576 → laidMetH Tryd.prog laid W → W.ShapedOpen Tryd.prog →
      Calls Tryd.prog F args W fun e w' => e = .returned (.bool true) ∧ Below W.heap.size W w') :
    ReturnsInHanded {} Tryd.checked os F .any ((Rows.OpenSpec.upto s).preRow enc Tryd.prog fn conds false laid) (((Rows.OpenSpec.upto s).at J).post enc Tryd.prog fn false true false false) := by
  refine returnsInHanded_of_row (C := Tryd.checked) (s := Rows.OpenSpec.upto s) own started noInit hfn witness ?_
  intro W base args ds gs before hval hW hcnd hk0 hsz hL hSh _
  have hk := hk0 Rows.uptoSmall rfl
  have hW' := hW
  obtain ⟨p, q, hA, hV, rfl, hfz, hnd⟩ := hW
  have hv' : (Rows.OpenSpec.upto s).vars = [] := hv
  rw [hv'] at hV
  obtain ⟨rfl, rfl⟩ := trodVars_none hV
  have hlen : ds.length = fn.params.size := by
    have : ∀ {ts : List TypeId} {vs : List Value} {ds : List (DataW H)} {ps : List MemPlace}, DataW.TrodAll enc Tryd.checked.prog W 0 (fun _ => true) true ts vs ds ps → ds.length = ts.length := by
      intro ts
      induction ts with
      | nil => intro vs ds ps h; cases vs <;> cases ds <;> first | rfl | exact h.elim
      | cons t ts ih => intro vs ds ps h; cases vs <;> cases ds <;> first | exact h.elim | (obtain ⟨_, _, _, h2, _⟩ := h; simp [ih h2])
    rw [this hA]; simp
  rw [List.append_nil] at hk
  have hk' : Rows.uptoBulkAll ds ≤ 1048576 := of_decide_eq_true hk
  refine (walk W base args ds p hval hA hk' hL hSh).mono fun e W' ⟨he, bel⟩ => ?_
  subst he
  have h1 := hs (ds ++ []) (by simpa using hlen)
  have h1' : ((Rows.OpenSpec.upto s).at J).fn H (ds ++ []) = { results := [.lit (.bool true)], args := ds ++ [] } := h1
  have hv2 : ((Rows.OpenSpec.upto s).at J).vars = [] := hv
  refine ⟨_, rfl, ds, [], p ++ [], [], p, [], hW', ?_, ?_, ?_, bel.frame _, fun h => by cases h⟩
  · rw [h1', hres]; exact trodAll_mk1 (shut_bool Tryd.underlying4 _)
  · rw [h1']; simp only [List.append_nil]; exact trodAll_below bel hpar hA
  · rw [h1', hv2]; exact rfl
end
end Go.Proofs.YtckopgopbgicjaaDoor
end
