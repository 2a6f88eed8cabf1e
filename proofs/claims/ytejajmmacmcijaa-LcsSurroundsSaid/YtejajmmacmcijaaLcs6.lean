/- Whether edits are an edit script: the plain law, and the program's walk. -/
import Derived.Test.YtejajmmacmcijaaLcs5
namespace Go.Proofs.Ytejajmmacmcijaa
open Go.RowKit Go.MapKept Go.ChangeMaps

section
variable (n m : Nat) (s t : Nat → ByteArray)
/-- the head of an edit at a place -/
def headE (e : Ed) (i j : Nat) : Prop := (e.op = 1 ∨ e.op = 2 ∨ e.op = 3) ∧ 1 ≤ e.n ∧ e.a = i ∧ e.b = j
def roomE (e : Ed) (i j : Nat) : Prop := (e.op ≠ 3 → e.n ≤ (n : Int) - i) ∧ (e.op ≠ 2 → e.n ≤ (m : Int) - j)
def okE (e : Ed) (i j : Nat) : Prop := headE e i j ∧ roomE n m e i j ∧ (e.op = 1 → ∀ k, k < e.n.toNat → s (i + k) = t (j + k))
instance (e : Ed) (i j : Nat) : Decidable (headE e i j) := by unfold headE; infer_instance
instance (e : Ed) (i j : Nat) : Decidable (roomE n m e i j) := by unfold roomE; infer_instance
instance (e : Ed) (i j : Nat) : Decidable (okE n m s t e i j) := by unfold okE; infer_instance
def nxI (e : Ed) (i : Nat) : Nat := if e.op = 3 then i else i + e.n.toNat
def nxJ (e : Ed) (j : Nat) : Nat := if e.op = 2 then j else j + e.n.toNat
/-- where the first k edits lead -/
def chkS (f : Nat → Ed) : Nat → Option (Nat × Nat)
  | 0 => some (0, 0)
  | k + 1 => match chkS f k with
    | none => none
    | some p => if okE n m s t (f k) p.1 p.2 then some (nxI (f k) p.1, nxJ (f k) p.2) else none
variable {n m : Nat} {s t : Nat → ByteArray} {f : Nat → Ed}
theorem chkS_none {k k' : Nat} (h : chkS n m s t f k = none) (hk : k ≤ k') : chkS n m s t f k' = none := by
  induction k' with
  | zero => obtain rfl : k = 0 := by omega
            exact h
  | succ k' ih =>
    by_cases hh : k = k' + 1
    · rw [← hh]; exact h
    · rw [chkS, ih (by omega)]
theorem chkS_ok {k i j : Nat} (h : chkS n m s t f k = some (i, j)) (ho : okE n m s t (f k) i j) : chkS n m s t f (k + 1) = some (nxI (f k) i, nxJ (f k) j) := by
  rw [chkS, h]; simp only [if_pos ho]
theorem chkS_bad {k l i j : Nat} {p : Nat × Nat} (h : chkS n m s t f k = some (i, j)) (ho : ¬ okE n m s t (f k) i j) (hk : k < l) : decide (chkS n m s t f l = some p) = false := by
  have h1 : chkS n m s t f (k + 1) = none := by rw [chkS, h]; simp only [if_neg ho]
  rw [chkS_none h1 hk]; simp
theorem okE_next {e : Ed} {i j : Nat} (ho : okE n m s t e i j) (hi : i ≤ n) (hj : j ≤ m) : nxI e i ≤ n ∧ nxJ e j ≤ m := by
  obtain ⟨⟨h1, h2, h3, h4⟩, ⟨h5, h6⟩, _⟩ := ho
  unfold nxI nxJ
  constructor
  · split
    · exact hi
    · have := h5 (by assumption); omega
  · split
    · exact hj
    · have := h6 (by assumption); omega
end

set_option maxHeartbeats 1600000 in
set_option maxRecDepth 100000 in
theorem Check_any {w : World} {A B C : Option Addr} {n m l c d e : Nat} {s t : Nat → ByteArray} {f : Nat → Ed} (hn : n ≤ maxLen) (hm : m ≤ maxLen) (hl : l ≤ maxLen)
    (hA : Sl w A n (fun i => .string (s i))) (hB : Sl w B m (fun i => .string (t i))) (hC : EdAt w C l f) :
    Calls Try.prog 28 #[.slice A n c, .slice B m d, .slice C l e] w fun e w' => e = .returned (.bool (decide (chkS n m s t f l = some (n, m)))) ∧ Fr (fun _ => False) w w' := by
  have HA := Lib.hid hA
  have HB := Lib.hid hB
  have HC := Lib.hid hC
  unfold maxLen at hn hm hl
  clear hA hB hC
  go_enter Try.func28, Try.ntmps28
  go_wp2_with fail
  have hw1 := (MapKept.heap_alloc w (.cells #[.int .i64 0, .int .i64 0] 76)).1
  have hf1 : Fr (fun _ => False) w (w.alloc (.cells #[.int .i64 0, .int .i64 0] 76)) := (Fr.refl _ _).alloc _
  generalize w.alloc (.cells #[.int .i64 0, .int .i64 0] 76) = w1 at *
  have HF1 := Lib.hid hf1
  have HW1 := Lib.hid hw1
  have HBA := Lib.hid (lt_of_heap hw1)
  clear hf1 hw1
  go_loopw [16] (fun v w' => ∃ k i j : Nat, k ≤ l ∧ v = .int .i64 k ∧ i ≤ n ∧ j ≤ m ∧ w'.heap[w.heap.size]? = some (.cells #[.int .i64 i, .int .i64 j] 76 (0, 0)) ∧ Fr (· = w.heap.size) w1 w' ∧ Hid (chkS n m s t f k = some (i, j))) (fun v _ => l - (intOf v).toNat)
  case atStart => exact ⟨0, 0, 0, Nat.zero_le _, rfl, Nat.zero_le _, Nat.zero_le _, HW1.out, Fr.refl _ _, Lib.hid rfl⟩
  case round =>
    obtain ⟨k, i, j, hk, rfl, hi, hj, hb, hf, hs⟩ := hrel
    have HF := Lib.hid hf
    have HB0 := Lib.hid hb
    have HS := hs
    clear hs
    by_cases hkl : k < l
    · obtain ⟨b, off, rfl, hblt, hc⟩ := HC.out (by omega)
      have hbk : ∀ x, wr.cell? ⟨b, x, none⟩ = w.cell? ⟨b, x, none⟩ := fun x => World.cell?_of_block ((hf.block b (by have := HF1.out.size; omega) (fun q => by have : b = w.heap.size := q; omega)).trans (HF1.out.block b hblt (fun q => q)))
      have e0 : wr.cell? ⟨b, off + k * 4, none⟩ = some (.int .i64 (f k).op) := (hbk _).trans (hc k hkl 0 (by omega))
      have e1 : wr.cell? ⟨b, off + k * 4 + 1, none⟩ = some (.int .i64 (f k).a) := (hbk _).trans (hc k hkl 1 (by omega))
      have e2 : wr.cell? ⟨b, off + k * 4 + 2, none⟩ = some (.int .i64 (f k).b) := (hbk _).trans (hc k hkl 2 (by omega))
      have e3 : wr.cell? ⟨b, off + k * 4 + 3, none⟩ = some (.int .i64 (f k).n) := (hbk _).trans (hc k hkl 3 (by omega))
      clear hc hbk hblt
      go_upto_region 5 with (fail)
      generalize hfk : f k = x at e0 e1 e2 e3
      have HFK := Lib.hid hfk
      clear hfk
      have hw2 := (MapKept.heap_alloc wr (.cells #[.int .i64 x.op, .int .i64 x.a, .int .i64 x.b, .int .i64 x.n] 55)).1
      have hf2 : Fr (fun _ => False) wr (wr.alloc (.cells #[.int .i64 x.op, .int .i64 x.a, .int .i64 x.b, .int .i64 x.n] 55)) := (Fr.refl _ _).alloc _
      generalize wr.alloc (.cells #[.int .i64 x.op, .int .i64 x.a, .int .i64 x.b, .int .i64 x.n] 55) = w2 at *
      clear e0 e1 e2 e3
      have x0 := cell_of_heap hw2 0
      have x1 := cell_of_heap hw2 1
      have x2 := cell_of_heap hw2 2
      have x3 := cell_of_heap hw2 3
      have hb2 := hf2.keep hb (fun q => q)
      have b0 := cell_of_heap hb2 0
      have b1 := cell_of_heap hb2 1
      simp only [List.getElem?_toArray, List.getElem?_cons_zero, List.getElem?_cons_succ] at x0 x1 x2 x3 b0 b1
      have HB2 := Lib.hid hb2
      have HF2 := Lib.hid (hf.trans hf2 fun _ q => q.elim)
      have HFW := Lib.hid (HF1.out.trans HF2.out fun q hq => .inr (by have : q = w.heap.size := hq; omega))
      clear hb2 hf2 hw2 hb hf
      go_cut [46] (fun v wx => v = .bool (!decide (headE x i j)) ∧ wx = w2)
      case first =>
        have hpl := eq_place
        by_cases ho : x.op = 1 ∨ x.op = 2 ∨ x.op = 3
        · by_cases hn1 : 1 ≤ x.n
          · by_cases hpp : x.a = i ∧ x.b = j
            · have HV := Lib.hid (decide_eq_true (p := headE x i j) ⟨ho, hn1, hpp.1, hpp.2⟩)
              have t1 : ((i : Int) == x.a) = true := by rw [beq_iff_eq]; exact hpp.1.symm
              have t2 : ((j : Int) == x.b) = true := by rw [beq_iff_eq]; exact hpp.2.symm
              have t3 : ¬ x.n < 1 := by omega
              rcases ho with h | h | h
              all_goals
                rw [h] at x0
                clear hpp hn1
                go_wp2_with fail
                go_meet
                exact ⟨by rw [HV.out]; rfl, rfl⟩
            · have HV := Lib.hid (decide_eq_false (p := headE x i j) (fun q => hpp q.2.2))
              have t3 : ¬ x.n < 1 := by omega
              have hq : ((i : Int) == x.a) = false ∨ (((i : Int) == x.a) = true ∧ ((j : Int) == x.b) = false) := by
                simp only [beq_iff_eq, beq_eq_false_iff_ne]; omega
              rcases hq with t1 | ⟨t1, t2⟩
              all_goals
                rcases ho with h | h | h
                all_goals
                  rw [h] at x0
                  clear hpp hn1
                  go_wp2_with fail
                  go_meet
                  exact ⟨by rw [HV.out]; rfl, rfl⟩
          · have HV := Lib.hid (decide_eq_false (p := headE x i j) (fun q => hn1 q.2.1))
            have t3 : x.n < 1 := by omega
            rcases ho with h | h | h
            all_goals
              rw [h] at x0
              clear hn1
              go_wp2_with fail
              go_meet
              exact ⟨by rw [HV.out]; rfl, rfl⟩
        · have HV := Lib.hid (decide_eq_false (p := headE x i j) (fun q => ho q.1))
          have t1 : (x.op != 1) = true := by simp only [bne_iff_ne]; omega
          have t2 : (x.op != 2) = true := by simp only [bne_iff_ne]; omega
          have t3 : (x.op != 3) = true := by simp only [bne_iff_ne]; omega
          clear ho
          go_wp2_with fail
          go_meet
          exact ⟨by rw [HV.out]; rfl, rfl⟩
      obtain ⟨rfl, rfl⟩ := hcut
      generalize hp : (!decide (headE x i j)) = p
      cases p with
      | true =>
        have hh : ¬ headE x i j := by simpa using hp
        have HV := Lib.hid (chkS_bad (l := l) (p := (n, m)) HS.out (by rw [HFK.out]; exact fun q => hh q.1) hkl)
        clear hp hh
        go_wp2_with fail
        go_ret
        exact ⟨by rw [HV.out]; rfl, HFW.out⟩
      | false =>
        have hh : headE x i j := by simpa using hp
        have HH := Lib.hid hh
        obtain ⟨ho, h1, _, _⟩ := hh
        clear hp
        obtain ⟨N, hN⟩ : ∃ N : Nat, x.n = N := ⟨x.n.toNat, by omega⟩
        have HN := Lib.hid hN
        rw [hN] at x3
        have b2 : IntKind.i64.wrap ((n : Int) - (i : Int)) = (n : Int) - (i : Int) := IntWalk.i64_in _ (by omega)
        have b3 : IntKind.i64.wrap ((m : Int) - (j : Int)) = (m : Int) - (j : Int) := IntWalk.i64_in _ (by omega)
        clear h1
        rcases ho with h | h | h
        · -- op = 1
          rw [h] at x0
          by_cases hr : (N : Int) ≤ (n : Int) - i ∧ (N : Int) ≤ (m : Int) - j
          · have HRO := Lib.hid (show roomE n m x i j from ⟨fun q => by first | exact absurd h q | omega, fun q => by first | exact absurd h q | omega⟩)
            have r1 : ¬ ((n : Int) - (i : Int) < (N : Int)) := by omega
            have r2 : ¬ ((m : Int) - (j : Int) < (N : Int)) := by omega
            have HR := Lib.hid hr
            clear hr
            go_wp2_with fail
            go_quiet (fail)
            go_wp2_with fail
            go_loopw [12] (fun v w' => ∃ q : Nat, q ≤ N ∧ v = .int .i64 q ∧ Quiet wc w' ∧ Hid (x.op = 1 → ∀ r, r < q → s (i + r) = t (j + r))) (fun v _ => N - (intOf v).toNat)
            case atStart => exact ⟨0, Nat.zero_le _, rfl, ⟨_, rfl⟩, Lib.hid fun _ r hr => by omega⟩
            case round =>
              obtain ⟨q, hq, rfl, hqw, hse⟩ := hrel
              have HQW := Lib.hid hqw
              have x0 := (hqw.cell _).trans x0
              have x1 := (hqw.cell _).trans x1
              have x2 := (hqw.cell _).trans x2
              have x3 := (hqw.cell _).trans x3
              have b0 := (hqw.cell _).trans b0
              have b1 := (hqw.cell _).trans b1
              have HB3 := Lib.hid ((hqw.fr (fun _ => False)).keep HB2.out (fun q => q))
              have HF3 := Lib.hid (HF2.out.trans (hqw.fr (fun _ => False)) fun _ q => q.elim)
              have d0 := free_of_heap HB3.out 0
              have d1 := free_of_heap HB3.out 1
              by_cases hqN : q < N
              · have g0 : ((q : Int) < (N : Int)) := by omega
                obtain ⟨ab, ao, rfl, _, hac⟩ := HA.out.fr (HFW.out.trans (hqw.fr (fun _ => False)) fun _ q => q.elim) (by omega)
                obtain ⟨bb, bo, rfl, _, hbc⟩ := HB.out.fr (HFW.out.trans (hqw.fr (fun _ => False)) fun _ q => q.elim) (by omega)
                have y0 : wr.cell? ⟨ab, ao + (i + q), none⟩ = some (.string (s (i + q))) := hac (i + q) (by omega)
                have y1 : wr.cell? ⟨bb, bo + (j + q), none⟩ = some (.string (t (j + q))) := hbc (j + q) (by omega)
                have z0 : IntKind.i64.wrap ((i : Int) + (q : Int)) = (i : Int) + (q : Int) := IntWalk.i64_in _ (by omega)
                have z1 : IntKind.i64.wrap ((j : Int) + (q : Int)) = (j : Int) + (q : Int) := IntWalk.i64_in _ (by omega)
                have z2 : ((i : Int) + (q : Int)).toNat = i + q := by omega
                have z3 : ((j : Int) + (q : Int)).toNat = j + q := by omega
                have z4 : (0 : Int) ≤ (i : Int) + (q : Int) := by omega
                have z5 : (0 : Int) ≤ (j : Int) + (q : Int) := by omega
                have z6 : (i : Int) + (q : Int) < (n : Int) := by omega
                have z7 : (j : Int) + (q : Int) < (m : Int) := by omega
                clear hac hbc hqw r1 r2 b2 b3
                by_cases he : s (i + q) = t (j + q)
                · have t1 := str_eq he
                  have HE := Lib.hid he
                  clear he
                  go_wp2_with fail
                  go_quiet (fail)
                  go_wp2_with fail
                  go_roundw
                  case rel => exact ⟨q + 1, hqN, by go_num, HQW.out.drewN _, Lib.hid fun ho r hr => by
                    by_cases h : r = q
                    · rw [h]; exact HE.out
                    · exact hse.out ho r (by omega)⟩
                  case measure => simp [intOf] <;> omega
                · have t1 := str_ne he
                  have HV := Lib.hid (chkS_bad (l := l) (p := (n, m)) HS.out (by rw [HFK.out]; exact fun q2 => he (q2.2.2 h q (by rw [HN.out]; omega))) hkl)
                  clear he
                  go_wp2_with fail
                  go_quiet (fail)
                  go_wp2_with fail
                  go_ret
                  exact ⟨by rw [HV.out]; rfl, (HFW.out.trans (HQW.out.fr (fun _ => False)) fun _ q => q.elim).drewN _⟩
              · have g0 : ¬ ((q : Int) < (N : Int)) := by omega
                obtain rfl : q = N := by omega
                have hok : okE n m s t (f k) i j := by rw [HFK.out]; exact ⟨HH.out, HRO.out, fun ho r hr => hse.out ho r (by rw [HN.out] at hr; omega)⟩
                have HOK := Lib.hid hok
                have hnx := chkS_ok HS.out hok
                have hnI : nxI (f k) i = i + q := by rw [HFK.out]; unfold nxI; rw [h, HN.out]; simp
                have hnJ : nxJ (f k) j = j + q := by rw [HFK.out]; unfold nxJ; rw [h, HN.out]; simp
                rw [hnI, hnJ] at hnx
                have hle := okE_next hok hi hj
                rw [hnI, hnJ] at hle
                have HNX := Lib.hid hnx
                have HLE := Lib.hid hle
                have z0 : IntKind.i64.wrap ((i : Int) + (q : Int)) = ((i + q : Nat) : Int) := by rw [IntWalk.i64_in _ (by omega)]; omega
                have z1 : IntKind.i64.wrap ((j : Int) + (q : Int)) = ((j + q : Nat) : Int) := by rw [IntWalk.i64_in _ (by omega)]; omega
                have z9 : IntKind.i64.wrap ((k : Int) + 1) = ((k + 1 : Nat) : Int) := by rw [IntWalk.i64_in _ (by omega)]; omega
                clear hok hnI hnJ hnx hle hqw r1 r2 b2 b3
                go_wp2_with fail
                go_roundw
                case rel =>
                  have hcx := heap_setCell_same _ _ 1 (.int .i64 ((j + q : Nat) : Int)) (heap_setCell_same _ _ 0 (.int .i64 ((i + q : Nat) : Int)) HB3.out)
                  exact ⟨k + 1, i + q, j + q, hkl, by go_num, HLE.out.1, HLE.out.2, hcx, (HF3.out.setCell ⟨w.heap.size, 0, none⟩ _ (.inl rfl)).setCell ⟨w.heap.size, 1, none⟩ _ (.inl rfl), HNX⟩
                case measure => simp [intOf] <;> omega
          · have HV := Lib.hid (chkS_bad (l := l) (p := (n, m)) HS.out (by rw [HFK.out]; rintro ⟨_, ⟨q1, q2⟩, _⟩; exact hr ⟨by have := q1 (by rw [h]; decide); omega, by have := q2 (by rw [h]; decide); omega⟩) hkl)
            have hrr : ((n : Int) - (i : Int) < (N : Int)) ∨ (¬ ((n : Int) - (i : Int) < (N : Int)) ∧ ((m : Int) - (j : Int) < (N : Int))) := by omega
            rcases hrr with r1 | ⟨r1, r2⟩
            all_goals
              clear hr
              go_wp2_with fail
              go_quiet (fail)
              go_wp2_with fail
              go_ret
              exact ⟨by rw [HV.out]; rfl, HFW.out.drewN _⟩
        · -- op = 2
          rw [h] at x0
          by_cases hr : (N : Int) ≤ (n : Int) - i
          · have HRO := Lib.hid (show roomE n m x i j from ⟨fun q => by first | exact absurd h q | omega, fun q => by first | exact absurd h q | omega⟩)
            have r1 : ¬ ((n : Int) - (i : Int) < (N : Int)) := by omega
            have r2 : ¬ ((m : Int) - (j : Int) < 0) := by omega
            have HR := Lib.hid hr
            clear hr
            go_wp2_with fail
            go_quiet (fail)
            go_wp2_with fail
            go_loopw [12] (fun v w' => ∃ q : Nat, q ≤ N ∧ v = .int .i64 q ∧ Quiet wc w' ∧ Hid (x.op = 1 → ∀ r, r < q → s (i + r) = t (j + r))) (fun v _ => N - (intOf v).toNat)
            case atStart => exact ⟨0, Nat.zero_le _, rfl, ⟨_, rfl⟩, Lib.hid fun _ r hr => by omega⟩
            case round =>
              obtain ⟨q, hq, rfl, hqw, hse⟩ := hrel
              have HQW := Lib.hid hqw
              have x0 := (hqw.cell _).trans x0
              have x1 := (hqw.cell _).trans x1
              have x2 := (hqw.cell _).trans x2
              have x3 := (hqw.cell _).trans x3
              have b0 := (hqw.cell _).trans b0
              have b1 := (hqw.cell _).trans b1
              have HB3 := Lib.hid ((hqw.fr (fun _ => False)).keep HB2.out (fun q => q))
              have HF3 := Lib.hid (HF2.out.trans (hqw.fr (fun _ => False)) fun _ q => q.elim)
              have d0 := free_of_heap HB3.out 0
              have d1 := free_of_heap HB3.out 1
              have hok : okE n m s t (f k) i j := by rw [HFK.out]; exact ⟨HH.out, HRO.out, fun ho => absurd ho (by rw [h]; decide)⟩
              have HOK := Lib.hid hok
              have hnx := chkS_ok HS.out hok
              have hnI : nxI (f k) i = i + N := by rw [HFK.out]; unfold nxI; rw [h, HN.out]; simp
              have hnJ : nxJ (f k) j = j := by rw [HFK.out]; unfold nxJ; rw [h, HN.out]; simp
              rw [hnI, hnJ] at hnx
              have hle := okE_next hok hi hj
              rw [hnI, hnJ] at hle
              have HNX := Lib.hid hnx
              have HLE := Lib.hid hle
              have z0 : IntKind.i64.wrap ((i : Int) + (N : Int)) = ((i + N : Nat) : Int) := by rw [IntWalk.i64_in _ (by omega)]; omega
              have z1 : IntKind.i64.wrap (j : Int) = (j : Int) := IntWalk.i64_in _ (by omega)
              have z4 : (j : Int) + 0 = (j : Int) := by omega
              have z9 : IntKind.i64.wrap ((k : Int) + 1) = ((k + 1 : Nat) : Int) := by rw [IntWalk.i64_in _ (by omega)]; omega
              clear hok hnI hnJ hnx hle hqw r1 r2 b2 b3
              go_wp2_with fail
              go_roundw
              case rel =>
                have hcx := heap_setCell_same _ _ 1 (.int .i64 ((j : Nat) : Int)) (heap_setCell_same _ _ 0 (.int .i64 ((i + N : Nat) : Int)) HB3.out)
                exact ⟨k + 1, i + N, j, hkl, by go_num, HLE.out.1, HLE.out.2, hcx, (HF3.out.setCell ⟨w.heap.size, 0, none⟩ _ (.inl rfl)).setCell ⟨w.heap.size, 1, none⟩ _ (.inl rfl), HNX⟩
              case measure => simp [intOf] <;> omega
          · have HV := Lib.hid (chkS_bad (l := l) (p := (n, m)) HS.out (by rw [HFK.out]; rintro ⟨_, ⟨q1, q2⟩, _⟩; exact hr (by have := q1 (by rw [h]; decide); omega)) hkl)
            have r1 : ((n : Int) - (i : Int) < (N : Int)) := by omega
            clear hr
            go_wp2_with fail
            go_quiet (fail)
            go_wp2_with fail
            go_ret
            exact ⟨by rw [HV.out]; rfl, HFW.out.drewN _⟩
        · -- op = 3
          rw [h] at x0
          by_cases hr : (N : Int) ≤ (m : Int) - j
          · have HRO := Lib.hid (show roomE n m x i j from ⟨fun q => by first | exact absurd h q | omega, fun q => by first | exact absurd h q | omega⟩)
            have r1 : ¬ ((n : Int) - (i : Int) < 0) := by omega
            have r2 : ¬ ((m : Int) - (j : Int) < (N : Int)) := by omega
            have HR := Lib.hid hr
            clear hr
            go_wp2_with fail
            go_quiet (fail)
            go_wp2_with fail
            go_loopw [12] (fun v w' => ∃ q : Nat, q ≤ N ∧ v = .int .i64 q ∧ Quiet wc w' ∧ Hid (x.op = 1 → ∀ r, r < q → s (i + r) = t (j + r))) (fun v _ => N - (intOf v).toNat)
            case atStart => exact ⟨0, Nat.zero_le _, rfl, ⟨_, rfl⟩, Lib.hid fun _ r hr => by omega⟩
            case round =>
              obtain ⟨q, hq, rfl, hqw, hse⟩ := hrel
              have HQW := Lib.hid hqw
              have x0 := (hqw.cell _).trans x0
              have x1 := (hqw.cell _).trans x1
              have x2 := (hqw.cell _).trans x2
              have x3 := (hqw.cell _).trans x3
              have b0 := (hqw.cell _).trans b0
              have b1 := (hqw.cell _).trans b1
              have HB3 := Lib.hid ((hqw.fr (fun _ => False)).keep HB2.out (fun q => q))
              have HF3 := Lib.hid (HF2.out.trans (hqw.fr (fun _ => False)) fun _ q => q.elim)
              have d0 := free_of_heap HB3.out 0
              have d1 := free_of_heap HB3.out 1
              have hok : okE n m s t (f k) i j := by rw [HFK.out]; exact ⟨HH.out, HRO.out, fun ho => absurd ho (by rw [h]; decide)⟩
              have HOK := Lib.hid hok
              have hnx := chkS_ok HS.out hok
              have hnI : nxI (f k) i = i := by rw [HFK.out]; unfold nxI; rw [h, HN.out]; simp
              have hnJ : nxJ (f k) j = j + N := by rw [HFK.out]; unfold nxJ; rw [h, HN.out]; simp
              rw [hnI, hnJ] at hnx
              have hle := okE_next hok hi hj
              rw [hnI, hnJ] at hle
              have HNX := Lib.hid hnx
              have HLE := Lib.hid hle
              have z0 : IntKind.i64.wrap (i : Int) = (i : Int) := IntWalk.i64_in _ (by omega)
              have z4 : (i : Int) + 0 = (i : Int) := by omega
              have z1 : IntKind.i64.wrap ((j : Int) + (N : Int)) = ((j + N : Nat) : Int) := by rw [IntWalk.i64_in _ (by omega)]; omega
              have z9 : IntKind.i64.wrap ((k : Int) + 1) = ((k + 1 : Nat) : Int) := by rw [IntWalk.i64_in _ (by omega)]; omega
              clear hok hnI hnJ hnx hle hqw r1 r2 b2 b3
              go_wp2_with fail
              go_roundw
              case rel =>
                have hcx := heap_setCell_same _ _ 1 (.int .i64 ((j + N : Nat) : Int)) (heap_setCell_same _ _ 0 (.int .i64 ((i : Nat) : Int)) HB3.out)
                exact ⟨k + 1, i, j + N, hkl, by go_num, HLE.out.1, HLE.out.2, hcx, (HF3.out.setCell ⟨w.heap.size, 0, none⟩ _ (.inl rfl)).setCell ⟨w.heap.size, 1, none⟩ _ (.inl rfl), HNX⟩
              case measure => simp [intOf] <;> omega
          · have HV := Lib.hid (chkS_bad (l := l) (p := (n, m)) HS.out (by rw [HFK.out]; rintro ⟨_, ⟨q1, q2⟩, _⟩; exact hr (by have := q2 (by rw [h]; decide); omega)) hkl)
            have r1 : ¬ ((n : Int) - (i : Int) < 0) := by omega
            have r2 : ((m : Int) - (j : Int) < (N : Int)) := by omega
            clear hr
            go_wp2_with fail
            go_quiet (fail)
            go_wp2_with fail
            go_ret
            exact ⟨by rw [HV.out]; rfl, HFW.out.drewN _⟩
    · have hkk : k = l := by omega
      subst hkk
      have b0 := cell_of_heap hb 0
      have b1 := cell_of_heap hb 1
      simp only [List.getElem?_toArray, List.getElem?_cons_zero, List.getElem?_cons_succ] at b0 b1
      have HFW := Lib.hid (HF1.out.trans hf fun q hq => .inr (by have : q = w.heap.size := hq; omega))
      have hpl := eq_place
      clear hb hf
      by_cases h1 : i = n ∧ j = m
      · have t1 : ((i : Int) == (n : Int)) = true := by rw [beq_iff_eq]; omega
        have t2 : ((j : Int) == (m : Int)) = true := by rw [beq_iff_eq]; omega
        have HV := Lib.hid (decide_eq_true (p := chkS n m s t f k = some (n, m)) (by rw [HS.out, h1.1, h1.2]))
        clear h1
        go_wp2
        go_ret
        exact ⟨by rw [HV.out]; rfl, HFW.out⟩
      · have HV := Lib.hid (decide_eq_false (p := chkS n m s t f k = some (n, m)) (by rw [HS.out]; intro q; injection q with q; injection q with q1 q2; exact h1 ⟨q1, q2⟩))
        have hq : ((i : Int) == (n : Int)) = false ∨ (((i : Int) == (n : Int)) = true ∧ ((j : Int) == (m : Int)) = false) := by
          simp only [beq_iff_eq, beq_eq_false_iff_ne]; omega
        clear h1
        rcases hq with t1 | ⟨t1, t2⟩
        all_goals
          go_wp2
          go_ret
          exact ⟨by rw [HV.out]; rfl, HFW.out⟩
end Go.Proofs.Ytejajmmacmcijaa
