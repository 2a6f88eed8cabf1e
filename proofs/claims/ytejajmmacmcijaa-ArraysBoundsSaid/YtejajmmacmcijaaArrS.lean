import Derived.Test.YtejajmmacmcijaaClose
import Derived.Test.YtejajmmacmcijaaArr8
namespace Go.Proofs.Ytejajmmacmcijaa
open Go.RowKit Go.ChangeShapes Go.WideShapes Go.ChangeAt Go.Deep
open Go.ChangeMaps (open_string shut_string)

section
variable {H : Type} {enc : TypeId × Value → H} {w : World}
set_option maxRecDepth 100000 in
/-- the cells of a call -/
theorem open_cl {fuel : Nat} {cs : List Value} {x : DataW H × List MemPlace} (h : DataW.trod enc Try.prog w 0 (fun _ => true) true fuel 30 cs = some x) :
    ∃ c : Cl, cs = c.cells.toList ∧ 0 ≤ c.kind ∧ c.kind ≤ 255 := by
  obtain ⟨ys, n, rfl, -, hl, hy, hf⟩ := DataW.trod_struct Try.underlying30 h
  have hC : Try.prog.cellsOf 30 = 6 := by kernel_rfl
  have hC0 : Try.prog.cellsOf 5 = 1 := by kernel_rfl
  have hC1 : Try.prog.cellsOf 9 = 1 := by kernel_rfl
  have hC2 : Try.prog.cellsOf 3 = 1 := by kernel_rfl
  have hC3 : Try.prog.cellsOf 28 = 3 := by kernel_rfl
  have hC4 : Try.prog.cellsOf 26 = 1 := by kernel_rfl
  rw [hC] at hl
  match cs, hl with
  | [c0, c1, c2, c3, c4, c5], _ =>
    have g0 := hf 0 _ rfl
    have g1 := hf 1 _ rfl
    have g2 := hf 2 _ rfl
    have g3 := hf 3 _ rfl
    simp only [List.getElem_toArray, List.getElem_cons_zero, List.getElem_cons_succ, hC0, hC1, hC3, List.drop_zero, List.drop_succ_cons, List.take_succ_cons, List.take_zero] at g0 g1 g2 g3
    have hy4 : ys.length = 4 := hy
    rw [List.getElem?_eq_getElem (by omega)] at g0 g1 g2 g3
    obtain ⟨a0, e0, -, w0⟩ := DataW.trod_int Try.underlying5 g0
    obtain ⟨a1, e1, -⟩ := DataW.trod_string Try.underlying9 g1
    obtain ⟨a2, e2, -⟩ := DataW.trod_string Try.underlying9 g2
    obtain ⟨zs, n', rfl, -, -, hz, hf'⟩ := DataW.trod_struct Try.underlying28 g3
    have k0 := hf' 0 _ rfl
    have k1 := hf' 1 _ rfl
    have k2 := hf' 2 _ rfl
    simp only [List.getElem_toArray, List.getElem_cons_zero, List.getElem_cons_succ, hC1, hC2, hC4, List.drop_zero, List.drop_succ_cons, List.take_succ_cons, List.take_zero] at k0 k1 k2
    have hz3 : zs.length = 3 := hz
    rw [List.getElem?_eq_getElem (by omega)] at k0 k1 k2
    obtain ⟨a3, e3, -⟩ := DataW.trod_int Try.underlying3 k0
    obtain ⟨a4, e4, -⟩ := DataW.trod_int Try.underlying26 k1
    obtain ⟨a5, e5, -⟩ := DataW.trod_string Try.underlying9 k2
    simp only [List.cons.injEq, and_true] at e0 e1 e2 e3 e4 e5
    subst e0 e1 e2 e3 e4 e5
    exact ⟨⟨a0, a1, a2, ⟨a3, a4, a5⟩⟩, rfl, (wf_u8 w0).1, (wf_u8 w0).2⟩

theorem open_cls {n : Nat} {A : Option Addr} {css : Nat → List Value} {D : Nat → DataW H} (hA : SlAt w 6 A n (fun i j => (css i)[j]?)) (h : ∀ i, i < n → (css i).length = 6 ∧ ∃ fuel q, DataW.trod enc Try.prog w 0 (fun _ => true) true fuel 30 (css i) = some (D i, q)) :
    ∃ cs : Nat → Cl, ClsAt w A n cs := by
  have hc : ∀ i, i < n → ∃ c : Cl, css i = c.cells.toList ∧ 0 ≤ c.kind ∧ c.kind ≤ 255 := fun i hi => by
    obtain ⟨_, fuel, q, hq⟩ := h i hi
    exact open_cl hq
  refine ⟨fun i => if hi : i < n then (hc i hi).choose else ⟨0, ⟨#[]⟩, ⟨#[]⟩, Va.zero⟩, fun hn => ?_⟩
  obtain ⟨b, off, e, hlt, hcell⟩ := hA hn
  refine ⟨b, off, e, hlt, fun i hi => ?_⟩
  simp only [dif_pos hi]
  obtain ⟨h1, h2, h3⟩ := (hc i hi).choose_spec
  refine ⟨h2, h3, fun j hj => (hcell i hi j hj).trans ?_⟩
  have := congrArg (fun l : List Value => l[j]?) h1
  simpa using this
end

set_option maxHeartbeats 400000 in
theorem Keep_long (x : Int) (A : Option Addr) (n c : Nat) (name key : ByteArray) (w : World) (hn : 80 < n) :
    Calls Try.prog 3 #[.int .i64 x, .slice A n c, .string name, .string key] w fun e w' => e = .returned (.bool true) ∧ Fr (fun _ => False) w w' := by
  go_enter Try.func3, Try.ntmps3
  go_wp2_with fail
  refine (awake45 _).mono ?_
  rintro e w1 ⟨rfl, hf⟩
  go_wp2
  go_ret
  exact ⟨rfl, hf⟩

set_option maxRecDepth 100000 in
theorem keep_lifted (os : Os) (started : os.Started) (H : Type) (enc : TypeId × Value → H) :
    ReturnsInHanded {} Try.checked os 3 .any (Rows.arraysKeepSpec.pre6 enc Try.prog Try.f3 Rows.arraysKeepRow.domain false) (Rows.arraysKeepSpec.post enc Try.prog Try.f3 false true false false) := by
  refine law_lifted started (by kernel_rfl) Try.func3 rfl ?_ rfl (of_decide_eq_true (by kernel_rfl))
    (ChangeSpec.witness6 (enc := enc) (C := Try.checked) false ⟨#[], #[.int .i64 0, .slice none 0 0, .string ⟨#[]⟩, .string ⟨#[]⟩], []⟩ 8 (by kernel_rfl) (by kernel_rfl) (by kernel_rfl) (by kernel_rfl)) ?_
  · intro ds hl
    match ds, hl with
    | [d1, d2, d3, d4], _ => rfl
  · intro W base args ds p hval hA hsz
    rw [Try.params3] at hA hval
    obtain ⟨v0, v1, v2, v3, d0, d1, d2, d3, p0, p1, p2, p3, rfl, rfl, rfl, h0, h1, h2, h3⟩ := trodAll_four hA
    obtain ⟨x, rfl, rfl, rfl, wx⟩ := open_int Try.underlying3 (hval 0 3 v0 rfl rfl) h0
    obtain ⟨A, n, c, rfl, hm, hnc, hnil, css, D, hS, hcs, -⟩ := open_sl (size := 6) Try.underlying22 (by kernel_rfl) (by omega) (hval 1 22 v1 rfl rfl) h1
    obtain ⟨s2, rfl, rfl, rfl, -⟩ := open_string Try.underlying9 (hval 2 9 v2 rfl rfl) h2
    obtain ⟨s3, rfl, rfl, rfl, -⟩ := open_string Try.underlying9 (hval 3 9 v3 rfl rfl) h3
    obtain ⟨cs, hC⟩ := open_cls hS hcs
    rcases Nat.lt_or_ge 80 n with hn | hn
    · exact (Keep_long x A n c s2 s3 W hn).mono fun e w' ⟨h1, h2⟩ => ⟨h1, h2.none_below⟩
    · exact (Keep_main x A n c cs s2 s3 W hn hC).mono fun e w' ⟨h1, h2⟩ => ⟨h1, h2.none_below⟩

theorem keep_holds : Rows.ArraysKeepSaid :=
  OpenClaim.holds_of_wide 3 Try.f3 rfl rfl rfl rfl rfl rfl rfl ⟨rfl, rfl, rfl, rfl, rfl⟩ rfl rfl rfl rfl rfl (by kernel_rfl) Try.func3 (by kernel_rfl)
    (of_decide_eq_true (by kernel_rfl)) (by unfold Func.isWrapper; first | (rw [if_pos (by decide +kernel)]; kernel_rfl) | (rw [if_neg (by decide +kernel)]; exact ⟨rfl, rfl⟩))
    (fun os started H enc _ => keep_lifted os started H enc)
#print axioms keep_holds
end Go.Proofs.Ytejajmmacmcijaa
