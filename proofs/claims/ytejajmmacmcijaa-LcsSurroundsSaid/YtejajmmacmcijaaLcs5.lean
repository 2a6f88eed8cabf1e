/- Two lists are compared: of strings, and of edits. -/
import Derived.Test.YtejajmmacmcijaaLcs4
namespace Go.Proofs.Ytejajmmacmcijaa
open Go.RowKit Go.MapKept Go.ChangeMaps

theorem listOf_ext {s t : Nat → ByteArray} {n m : Nat} : listOf s n = listOf t m ↔ n = m ∧ ∀ i, i < n → s i = t i := by
  constructor
  · intro h
    have hl := congrArg List.length h
    rw [listOf_length, listOf_length] at hl
    subst hl
    refine ⟨rfl, fun i hi => ?_⟩
    have := congrArg (fun l : List ByteArray => l[i]?) h
    simp only [listOf_get s hi, listOf_get t hi] at this
    exact Option.some.inj this
  · rintro ⟨rfl, h⟩
    unfold listOf
    exact List.map_congr_left fun i hi => h i (List.mem_range.1 hi)

set_option maxHeartbeats 400000 in
theorem Same_any {w : World} {A B : Option Addr} {n m c d : Nat} {s t : Nat → ByteArray} (hn : n ≤ maxLen) (hA : Sl w A n (fun i => .string (s i))) (hB : Sl w B m (fun i => .string (t i))) :
    Calls Try.prog 30 #[.slice A n c, .slice B m d] w fun e w' => e = .returned (.bool (decide (listOf s n = listOf t m))) ∧ Quiet w w' := by
  have HA := Lib.hid hA
  have HB := Lib.hid hB
  unfold maxLen at hn
  clear hA hB
  go_enter Try.func30, Try.ntmps30
  by_cases hnm : n = m
  · subst hnm
    have t0 : ((n : Int) != (n : Int)) = false := by simp
    go_wp2_with fail
    go_loopw [5] (fun v w' => ∃ k : Nat, k ≤ n ∧ v = .int .i64 k ∧ Quiet w w' ∧ Hid (∀ i, i < k → s i = t i)) (fun v _ => n - (intOf v).toNat)
    case atStart => exact ⟨0, Nat.zero_le _, rfl, Quiet.refl _, Lib.hid fun i hi => by omega⟩
    case round =>
      obtain ⟨k, hk, rfl, hq, hs⟩ := hrel
      have HQ := Lib.hid hq
      by_cases hkn : k < n
      · obtain ⟨b, off, rfl, _, hc⟩ := HA.out (by omega)
        obtain ⟨b2, off2, rfl, _, hc2⟩ := HB.out (by omega)
        have c0 : wr.cell? ⟨b, off + k, none⟩ = some (.string (s k)) := (hq.cell _).trans (hc k hkn)
        have c1 : wr.cell? ⟨b2, off2 + k, none⟩ = some (.string (t k)) := (hq.cell _).trans (hc2 k hkn)
        have t2 : ((k : Int) < (n : Int)) := by omega
        have t3 : (0 : Int) ≤ (k : Int) := by omega
        have t4 := Int.toNat_natCast k
        clear hq hc hc2
        by_cases he : s k = t k
        · have t1 := str_eq he
          have HE := Lib.hid he
          clear he
          go_wp2_with fail
          go_quiet (fail)
          go_wp2_with fail
          go_roundw
          case rel => exact ⟨k + 1, hkn, by go_num, HQ.out.drewN _, Lib.hid fun i hi => by
            by_cases h : i = k
            · rw [h]; exact HE.out
            · exact hs.out i (by omega)⟩
          case measure => simp [intOf] <;> omega
        · have t1 := str_ne he
          have hv : decide (listOf s n = listOf t n) = false := decide_eq_false fun q => he ((listOf_ext.1 q).2 k hkn)
          have HV := Lib.hid hv
          clear he hv
          go_wp2_with fail
          go_quiet (fail)
          go_wp2_with fail
          go_ret
          exact ⟨by rw [HV.out]; rfl, HQ.out.drewN _⟩
      · have t2 : ¬ ((k : Int) < (n : Int)) := by omega
        have hkk : k = n := by omega
        have hv : decide (listOf s n = listOf t n) = true := decide_eq_true (listOf_ext.2 ⟨rfl, fun i hi => hs.out i (by omega)⟩)
        have HV := Lib.hid hv
        clear hq hkk hv
        go_wp2_with fail
        go_ret
        exact ⟨by rw [HV.out]; rfl, HQ.out⟩
  · have t0 : ((n : Int) != (m : Int)) = true := by simp; omega
    have hv : decide (listOf s n = listOf t m) = false := decide_eq_false fun q => hnm (listOf_ext.1 q).1
    have HV := Lib.hid hv
    clear hnm hv
    go_wp2_with fail
    go_ret
    exact ⟨by rw [HV.out]; rfl, Quiet.refl _⟩

/-- a slice of edits, read as f -/
def EdAt (w : World) (A : Option Addr) (n : Nat) (f : Nat → Ed) : Prop :=
  0 < n → ∃ b off, A = some ⟨b, off, none⟩ ∧ b < w.heap.size ∧ ∀ i, i < n → ∀ j, j < 4 → w.cell? ⟨b, off + i * 4 + j, none⟩ = (f i).vals[j]?
theorem EdAt.fr {w w' : World} {A : Option Addr} {n : Nat} {f : Nat → Ed} (h : EdAt w A n f) (hf : Fr (fun _ => False) w w') : EdAt w' A n f := by
  intro hn
  obtain ⟨b, off, e, hlt, hc⟩ := h hn
  exact ⟨b, off, e, Nat.lt_of_lt_of_le hlt hf.size, fun i hi j hj => (World.cell?_of_block (hf.block b hlt fun q => q)).trans (hc i hi j hj)⟩
def edNil : Ed := ⟨0, 0, 0, 0⟩
theorem EdOwn.edAt {w : World} {base : Nat} {A : Option Addr} {c : Nat} {l : List Ed} (h : EdOwn w base A c l) : EdAt w A l.length (fun i => l.getD i edNil) := by
  intro hn
  obtain ⟨b, off, e, hlt, hc⟩ := h.slAt hn
  exact ⟨b, off, e, hlt, fun i hi j hj => by rw [hc i hi j hj]; simp [hi]⟩
def edsOf (f : Nat → Ed) (n : Nat) : List Ed := (List.range n).map f
theorem edsOf_length (f : Nat → Ed) (n : Nat) : (edsOf f n).length = n := by simp [edsOf]
theorem edsOf_get (f : Nat → Ed) {n i : Nat} (h : i < n) : (edsOf f n)[i]? = some (f i) := by simp [edsOf, h]
theorem edsOf_list (l : List Ed) : edsOf (fun i => l.getD i edNil) l.length = l := by
  apply List.ext_getElem?
  intro i
  by_cases h : i < l.length
  · rw [edsOf_get _ h]; simp [h]
  · rw [List.getElem?_eq_none (by rw [edsOf_length]; omega), List.getElem?_eq_none (by omega)]
theorem edsOf_ext {f g : Nat → Ed} {n m : Nat} : edsOf f n = edsOf g m ↔ n = m ∧ ∀ i, i < n → f i = g i := by
  constructor
  · intro h
    have hl := congrArg List.length h
    rw [edsOf_length, edsOf_length] at hl
    subst hl
    refine ⟨rfl, fun i hi => ?_⟩
    have := congrArg (fun l : List Ed => l[i]?) h
    simp only [edsOf_get f hi, edsOf_get g hi] at this
    exact Option.some.inj this
  · rintro ⟨rfl, h⟩
    unfold edsOf
    exact List.map_congr_left fun i hi => h i (List.mem_range.1 hi)

set_option maxHeartbeats 800000 in
theorem SameEdits_any {w : World} {A B : Option Addr} {n m c d : Nat} {f g : Nat → Ed} (hn : n ≤ maxLen) (hA : EdAt w A n f) (hB : EdAt w B m g) :
    Calls Try.prog 23 #[.slice A n c, .slice B m d] w fun e w' => e = .returned (.bool (decide (edsOf f n = edsOf g m))) ∧ Quiet w w' := by
  have HA := Lib.hid hA
  have HB := Lib.hid hB
  unfold maxLen at hn
  clear hA hB
  go_enter Try.func23, Try.ntmps23
  by_cases hnm : n = m
  · subst hnm
    have t0 : ((n : Int) != (n : Int)) = false := by simp
    go_wp2_with fail
    go_loopw [5] (fun v w' => ∃ k : Nat, k ≤ n ∧ v = .int .i64 k ∧ Quiet w w' ∧ Hid (∀ i, i < k → f i = g i)) (fun v _ => n - (intOf v).toNat)
    case atStart => exact ⟨0, Nat.zero_le _, rfl, Quiet.refl _, Lib.hid fun i hi => by omega⟩
    case round =>
      obtain ⟨k, hk, rfl, hq, hs⟩ := hrel
      have HQ := Lib.hid hq
      by_cases hkn : k < n
      · obtain ⟨b, off, rfl, _, hc⟩ := HA.out (by omega)
        obtain ⟨b2, off2, rfl, _, hc2⟩ := HB.out (by omega)
        have c0 : wr.cell? ⟨b, off + k * 4, none⟩ = some (.int .i64 (f k).op) := (hq.cell _).trans (hc k hkn 0 (by omega))
        have c1 : wr.cell? ⟨b, off + k * 4 + 1, none⟩ = some (.int .i64 (f k).a) := (hq.cell _).trans (hc k hkn 1 (by omega))
        have c2 : wr.cell? ⟨b, off + k * 4 + 2, none⟩ = some (.int .i64 (f k).b) := (hq.cell _).trans (hc k hkn 2 (by omega))
        have c3 : wr.cell? ⟨b, off + k * 4 + 3, none⟩ = some (.int .i64 (f k).n) := (hq.cell _).trans (hc k hkn 3 (by omega))
        have d0 : wr.cell? ⟨b2, off2 + k * 4, none⟩ = some (.int .i64 (g k).op) := (hq.cell _).trans (hc2 k hkn 0 (by omega))
        have d1 : wr.cell? ⟨b2, off2 + k * 4 + 1, none⟩ = some (.int .i64 (g k).a) := (hq.cell _).trans (hc2 k hkn 1 (by omega))
        have d2 : wr.cell? ⟨b2, off2 + k * 4 + 2, none⟩ = some (.int .i64 (g k).b) := (hq.cell _).trans (hc2 k hkn 2 (by omega))
        have d3 : wr.cell? ⟨b2, off2 + k * 4 + 3, none⟩ = some (.int .i64 (g k).n) := (hq.cell _).trans (hc2 k hkn 3 (by omega))
        have t2 : ((k : Int) < (n : Int)) := by omega
        have t3 : (0 : Int) ≤ (k : Int) := by omega
        have t4 := Int.toNat_natCast k
        clear hq hc hc2
        by_cases he : f k = g k
        · have HE := Lib.hid he
          rw [← he] at d0 d1 d2 d3
          clear he
          generalize f k = x at c0 c1 c2 c3 d0 d1 d2 d3
          have t5 : (x.op == x.op) = true := by simp
          have t6 : (x.a == x.a) = true := by simp
          have t7 : (x.b == x.b) = true := by simp
          have t8 : (x.n == x.n) = true := by simp
          go_wp2_with fail
          go_quiet (fail)
          go_wp2_with fail
          go_roundw
          case rel => exact ⟨k + 1, hkn, by go_num, HQ.out.drewN _, Lib.hid fun i hi => by
            by_cases h : i = k
            · rw [h]; exact HE.out
            · exact hs.out i (by omega)⟩
          case measure => simp [intOf] <;> omega
        · have hv : decide (edsOf f n = edsOf g n) = false := decide_eq_false fun q => he ((edsOf_ext.1 q).2 k hkn)
          have HV := Lib.hid hv
          clear hv
          generalize f k = x at c0 c1 c2 c3 d0 d1 d2 d3 he
          generalize g k = y at c0 c1 c2 c3 d0 d1 d2 d3 he
          obtain ⟨x1, x2, x3, x4⟩ := x
          obtain ⟨y1, y2, y3, y4⟩ := y
          simp only at c0 c1 c2 c3 d0 d1 d2 d3
          have hne : ((x1 == y1) = false) ∨ ((x1 == y1) = true ∧ (x2 == y2) = false) ∨ ((x1 == y1) = true ∧ (x2 == y2) = true ∧ (x3 == y3) = false) ∨ ((x1 == y1) = true ∧ (x2 == y2) = true ∧ (x3 == y3) = true ∧ (x4 == y4) = false) := by
            simp only [beq_iff_eq, beq_eq_false_iff_ne]
            by_cases h1 : x1 = y1
            · by_cases h2 : x2 = y2
              · by_cases h3 : x3 = y3
                · by_cases h4 : x4 = y4
                  · exact absurd (by rw [h1, h2, h3, h4]) he
                  · exact .inr (.inr (.inr ⟨h1, h2, h3, h4⟩))
                · exact .inr (.inr (.inl ⟨h1, h2, h3⟩))
              · exact .inr (.inl ⟨h1, h2⟩)
            · exact .inl h1
          clear he
          go_wp2_with fail
          rcases hne with e1 | ⟨e1, e2⟩ | ⟨e1, e2, e3⟩ | ⟨e1, e2, e3, e4⟩
          all_goals
            go_quiet (fail)
            go_wp2_with fail
            go_ret
            exact ⟨by rw [HV.out]; rfl, HQ.out.drewN _⟩
      · have t2 : ¬ ((k : Int) < (n : Int)) := by omega
        have hkk : k = n := by omega
        have hv : decide (edsOf f n = edsOf g n) = true := decide_eq_true (edsOf_ext.2 ⟨rfl, fun i hi => hs.out i (by omega)⟩)
        have HV := Lib.hid hv
        clear hq hkk hv
        go_wp2_with fail
        go_ret
        exact ⟨by rw [HV.out]; rfl, HQ.out⟩
  · have t0 : ((n : Int) != (m : Int)) = true := by simp; omega
    have hv : decide (edsOf f n = edsOf g m) = false := decide_eq_false fun q => hnm (edsOf_ext.1 q).1
    have HV := Lib.hid hv
    clear hnm hv
    go_wp2_with fail
    go_ret
    exact ⟨by rw [HV.out]; rfl, Quiet.refl _⟩

theorem few_any {w : World} {A : Option Addr} {n c k : Nat} :
    Calls Try.prog 21 #[.slice A n c, .int .i64 k] w fun e w' => e = .returned (.bool (decide (n ≤ k))) ∧ w' = w := by
  go_enter Try.func21, Try.ntmps21
  by_cases h : n ≤ k
  · have t : ((n : Int) ≤ (k : Int)) := by omega
    have hv : decide (n ≤ k) = true := decide_eq_true h
    have HV := Lib.hid hv
    clear h hv
    go_wp2
    go_ret
    exact ⟨by rw [HV.out]; rfl, rfl⟩
  · have t : ¬ ((n : Int) ≤ (k : Int)) := by omega
    have hv : decide (n ≤ k) = false := decide_eq_false h
    have HV := Lib.hid hv
    clear h hv
    go_wp2
    go_ret
    exact ⟨by rw [HV.out]; rfl, rfl⟩
end Go.Proofs.Ytejajmmacmcijaa
