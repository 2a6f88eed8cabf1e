/- The program's first shortest edit script. -/
import Derived.Test.YtejajmmacmcijaaLcs2
namespace Go.Proofs.Ytejajmmacmcijaa
set_option linter.unusedVariables false
set_option linter.unusedSimpArgs false
open Go.RowKit Go.MapKept Go.ChangeMaps

theorem RowAt.ne {w : World} {g h n m : Nat} {e e' : TypeId} {f f' : Nat → Value} (h1 : RowAt w g e n f) (h2 : RowAt w h e' m f') (hne : e ≠ e') : g ≠ h := by
  rintro rfl
  obtain ⟨c1, e1, _⟩ := h1
  obtain ⟨c2, e2, _⟩ := h2
  rw [e1] at e2; cases e2; exact hne rfl

set_option maxHeartbeats 400000 in
set_option maxRecDepth 100000 in
theorem step_lcs {w : World} {i j : Nat} (op : Nat) (hi : i ≤ 1000) (hj : j ≤ 1000) (ho : op = 1 ∨ op = 2 ∨ op = 3) :
    Calls Try.prog 47 #[.agg #[.int .i64 i, .int .i64 j], .int .i64 op] w fun e w' => e = .returned (.agg #[.int .i64 ((if op = 3 then i else i + 1 : Nat) : Int), .int .i64 ((if op = 2 then j else j + 1 : Nat) : Int)]) ∧ Fr (fun _ => False) w w' := by
  rcases ho with rfl | rfl | rfl
  all_goals
    go_enter Try.func47, Try.ntmps47
    go_wp2
  · refine bodyPost_ret (v := .agg #[.int .i64 ((i : Int) + 1), .int .i64 ((j : Int) + 1)]) (by simp [results, Try.results47, go_sem]) rfl ⟨rfl, ?_⟩
    exact (((Fr.refl _ _).alloc _).alloc _)
  · refine bodyPost_ret (v := .agg #[.int .i64 ((i : Int) + 1), .int .i64 (j : Int)]) (by simp [results, Try.results47, go_sem]) rfl ⟨rfl, ?_⟩
    exact (((Fr.refl _ _).alloc _).alloc _)
  · refine bodyPost_ret (v := .agg #[.int .i64 (i : Int), .int .i64 ((j : Int) + 1)]) (by simp [results, Try.results47, go_sem]) rfl ⟨rfl, ?_⟩
    exact (((Fr.refl _ _).alloc _).alloc _)

/-- two places are compared -/
theorem eq_place (w : World) (a b c d : Int) : (Op.equalIn 10000 76 (.agg #[.int .i64 a, .int .i64 b]) (.agg #[.int .i64 c, .int .i64 d])).run Try.prog w = .ok (a == c && b == d) w := by
  have h0 : (sizeOf 3).run Try.prog w = .ok 1 w := by kernel_rfl
  have p0 : ∀ a b : Int, (part 3 #[.int .i64 a, .int .i64 b] 0).run Try.prog w = .ok (.int .i64 a) w := fun a b => by kernel_rfl
  have p1 : ∀ a b : Int, (part 3 #[.int .i64 a, .int .i64 b] 1).run Try.prog w = .ok (.int .i64 b) w := fun a b => by kernel_rfl
  have q : ∀ a b : Int, (Op.equalIn 9999 3 (.int .i64 a) (.int .i64 b)).run Try.prog w = .ok (a == b) w := fun a b => run_equalIn_int w 9998 3 .i64 .i64 a b Try.underlying3
  rw [Op.equalIn]
  simp only [Sem.run_bind, run_underlying Try.underlying76, Result.andThen_ok, h0]
  simp [List.range', List.forIn_cons, p0, p1, q, Result.andThen]
  cases h1 : (a == c) <;> cases h2 : (b == d) <;> simp_all

def Ed.vals (e : Ed) : List Value := [.int .i64 e.op, .int .i64 e.a, .int .i64 e.b, .int .i64 e.n]
/-- a slice of edits that the call made -/
def EdOwn (w : World) (base : Nat) (A : Option Addr) (c : Nat) (l : List Ed) : Prop := w.ownsRow base 55 4 (.slice A l.length c) l.length (l.flatMap Ed.vals)

theorem info_edit : (Try.prog.info? 55).map (fun i => (i.zero, i.size, i.bytes)) = some (some (.agg #[.int .i64 0, .int .i64 0, .int .i64 0, .int .i64 0]), 4, 32) := by kernel_rfl
theorem info_row : (Try.prog.info? 73).map (fun i => (i.zero, i.size, i.bytes)) = some (some (.slice none 0 0), 1, 24) := by kernel_rfl

theorem vals_length (l : List Ed) : (l.flatMap Ed.vals).length = l.length * 4 := by
  induction l with
  | nil => rfl
  | cons e l ih => simp [Ed.vals, ih]; omega
theorem vals_get (l : List Ed) {i j : Nat} (hi : i < l.length) (hj : j < 4) : (l.flatMap Ed.vals)[i * 4 + j]? = (l[i]).vals[j]? := by
  induction l generalizing i with
  | nil => simp at hi
  | cons e l ih =>
    rw [List.flatMap_cons]
    cases i with
    | zero => rw [List.getElem?_append_left (by simp [Ed.vals]; omega)]; simp
    | succ i =>
      rw [List.getElem?_append_right (by simp [Ed.vals]; omega)]
      have : (i + 1) * 4 + j - e.vals.length = i * 4 + j := by simp [Ed.vals]; omega
      rw [this, ih (by simpa using hi)]; rfl

/-- the form of a row of edits that is not empty: the cells of its elements -/
theorem EdOwn.form {w : World} {base : Nat} {A : Option Addr} {c : Nat} {l : List Ed} (h : EdOwn w base A c l) (hl : 0 < l.length) :
    ∃ g cur, A = some ⟨g, 0, none⟩ ∧ base ≤ g ∧ w.heap[g]? = some (.cells cur 55 (0, 0)) ∧ l.length ≤ c ∧ cur.size = c * 4 ∧ ∀ i, (hi : i < l.length) → ∀ j, j < 4 → cur[i * 4 + j]? = (l[i]).vals[j]? := by
  rcases h.2 with ⟨hv, hx⟩ | ⟨g, cap, cur, hv, hb, hh, hle, _, hsz, htake⟩
  · injection hv with h1 h2 h3
    omega
  · injection hv with h1 h2 h3
    subst h1 h3
    refine ⟨g, cur, rfl, hb, hh, hle, hsz, fun i hi j hj => ?_⟩
    rw [← vals_get l hi hj, ← htake, List.getElem?_take, if_pos (by omega)]
    simp
theorem EdOwn.cell {w : World} {base : Nat} {c g : Nat} {l : List Ed} (h : EdOwn w base (some ⟨g, 0, none⟩) c l) {i j : Nat} (hi : i < l.length) (hj : j < 4) : w.cell? ⟨g, i * 4 + j, none⟩ = (l[i]).vals[j]? := by
  obtain ⟨g', cur, h1, _, hh, _, _, hc⟩ := h.form (by omega)
  injection h1 with h1; injection h1 with h1; subst h1
  rw [cell_of_heap hh]; exact hc i hi j hj
theorem EdOwn.nil (w : World) (base : Nat) : EdOwn w base none 0 [] := World.ownsRow_nil w base 55 4
theorem EdOwn.slAt {w : World} {base : Nat} {A : Option Addr} {c : Nat} {l : List Ed} (h : EdOwn w base A c l) : 0 < l.length → ∃ b off, A = some ⟨b, off, none⟩ ∧ b < w.heap.size ∧ ∀ i, (hi : i < l.length) → ∀ j, j < 4 → w.cell? ⟨b, off + i * 4 + j, none⟩ = (l[i]).vals[j]? := by
  intro hl
  obtain ⟨g, cur, h1, _, hh, _, _, hc⟩ := h.form hl
  refine ⟨g, 0, h1, lt_of_heap hh, fun i hi j hj => ?_⟩
  rw [cell_of_heap hh, Nat.zero_add]; exact hc i hi j hj
theorem EdOwn.kept {w w' : World} {base : Nat} {A : Option Addr} {c : Nat} {l : List Ed} {L : Nat → Prop} (h : EdOwn w base A c l) (hf : Fr L w w') (hL : ∀ k, base ≤ k → ¬ L k) : EdOwn w' base A c l := by
  refine ⟨h.1, ?_⟩
  rcases h.2 with hn | ⟨g, cap, cur, hv, hb, hh, r⟩
  · exact .inl hn
  · exact .inr ⟨g, cap, cur, hv, hb, hf.keep hh (hL g hb), r⟩
/-- the last edit's number is raised -/
theorem EdOwn.bump {w : World} {base : Nat} {c g : Nat} {l : List Ed} {e : Ed} (h : EdOwn w base (some ⟨g, 0, none⟩) c (l ++ [e])) (x : Int) :
    EdOwn (w.setCell ⟨g, l.length * 4 + 3, none⟩ (.int .i64 x)) base (some ⟨g, 0, none⟩) c (l ++ [{ e with n := x }]) := by
  unfold EdOwn at *
  have hlen : (l ++ [{ e with n := x }]).length = (l ++ [e]).length := by simp
  refine ⟨by rw [vals_length], ?_⟩
  rcases h.2 with ⟨hv, hx⟩ | ⟨g', cap, cur, hv, hb, hh, hle, hmax, hsz, htake⟩
  · injection hv with h1; cases h1
  · injection hv with h1 h2 h3
    injection h1 with h1; injection h1 with h1
    subst h1 h3
    refine .inr ⟨g, c, cur.setIfInBounds (l.length * 4 + 3) (.int .i64 x), by rw [hlen], hb, heap_setCell_same _ _ _ _ hh, by rw [hlen]; exact hle, hmax, by simpa using hsz, ?_⟩
    rw [hlen]
    have hl : (l ++ [e]).length = l.length + 1 := by simp
    rw [hl] at htake hle ⊢
    apply List.ext_getElem?
    intro q
    have h0 := congrArg (fun z : List Value => z[q]?) htake
    simp only [List.getElem?_take] at h0 ⊢
    by_cases hq : q < (l.length + 1) * 4
    · rw [if_pos hq] at h0 ⊢
      simp only [Array.getElem?_toList, Array.getElem?_setIfInBounds] at h0 ⊢
      rw [List.flatMap_append] at h0 ⊢
      by_cases hq2 : q < l.length * 4
      · rw [if_neg (by omega), h0, List.getElem?_append_left (by rw [vals_length]; exact hq2), List.getElem?_append_left (by rw [vals_length]; exact hq2)]
      · rw [List.getElem?_append_right (by rw [vals_length]; omega)] at h0 ⊢
        rw [vals_length] at h0 ⊢
        obtain ⟨r, hr⟩ : ∃ r, q = l.length * 4 + r := ⟨q - l.length * 4, by omega⟩
        subst hr
        rw [Nat.add_sub_cancel_left] at h0 ⊢
        have hcs : l.length * 4 + 3 < cur.size := by omega
        have : r = 0 ∨ r = 1 ∨ r = 2 ∨ r = 3 := by omega
        rcases this with rfl | rfl | rfl | rfl
        · rw [if_neg (by omega), h0]; rfl
        · rw [if_neg (by omega), h0]; rfl
        · rw [if_neg (by omega), h0]; rfl
        · rw [if_pos rfl, if_pos hcs]; rfl
    · rw [if_neg hq]
      symm
      rw [List.getElem?_eq_none]
      rw [vals_length]; simp; omega
end Go.Proofs.Ytejajmmacmcijaa
