import Derived.Test.YtejajmmacmcijaaArr7
namespace Go.Proofs.Ytejajmmacmcijaa
open Go.RowKit Go.MapKept Go.ChangeMaps

/-- a slice of calls reads as cs -/
def ClsAt (w : World) (A : Option Addr) (n : Nat) (cs : Nat → Cl) : Prop :=
  0 < n → ∃ b off, A = some ⟨b, off, none⟩ ∧ b < w.heap.size ∧ ∀ i, i < n → 0 ≤ (cs i).kind ∧ (cs i).kind ≤ 255 ∧ ∀ j, j < 6 → w.cell? ⟨b, off + i * 6 + j, none⟩ = (cs i).cells[j]?

theorem Mid.cell {lim : Int} {w w1 : World} {p m : Nat} {D : Dat} {K : List (Nat × Obj)} (h : Mid lim w w1 p m D K) {b o : Nat} (hb : b < w.heap.size) : w1.cell? ⟨b, o, none⟩ = w.cell? ⟨b, o, none⟩ :=
  World.cell?_of_block (h.fr.block b hb (fun q => q))

theorem Mid.fin {lim : Int} {w w2 w3 : World} {p m : Nat} {D : Dat} {K : List (Nat × Obj)} {b : Nat} {o o' : Obj} (h : Mid lim w w2 p m D K) (hx : (b, o) ∈ K) (hb : w.heap.size ≤ b) (hf : Fr (· = b) w2 w3) (ho : w3.heap[b]? = some o') :
    Mid lim w w3 p m D [(b, o')] :=
  (h.sub (K' := [(b, o)]) (by simpa using hx)).setBlk hb (by simp) hf ho

set_option maxHeartbeats 1600000 in
set_option maxRecDepth 100000 in
theorem Keep_main (x : Int) (A : Option Addr) (n c : Nat) (cs : Nat → Cl) (name key : ByteArray) (w : World) (hn : n ≤ 80) (hA : ClsAt w A n cs) :
    Calls Try.prog 3 #[.int .i64 x, .slice A n c, .string name, .string key] w fun e w' => e = .returned (.bool true) ∧ Fr (fun _ => False) w w' := by
  go_enter Try.func3, Try.ntmps3
  go_wp2_with fail
  refine (New_mid x _).mono ?_
  rintro e w1 ⟨p, m, rfl, hm⟩
  generalize min (max x 0) 4096 = lim at hm
  have M1 := Lib.hid (hm.alloc (.cells #[.int .i64 0, .int .i64 0, .string ⟨#[]⟩] 28))
  have hwb : w.heap.size ≤ w1.heap.size := hm.fr.size
  clear hm
  go_wp2_with fail
  go_loopw [10, 12] (fun h i wr => ∃ k : Nat, k ≤ n ∧ i = .int .i64 k ∧ h = .bool (dget (datK lim cs k) name key).isSome ∧ Mid lim w wr p m (datK lim cs k) [(w1.heap.size, .cells #[.int .i64 ((dget (datK lim cs k) name key).getD Va.zero).kind, .int .i64 ((dget (datK lim cs k) name key).getD Va.zero).num, .string ((dget (datK lim cs k) name key).getD Va.zero).str] 28)])
    (fun _ i _ => n - (intOf i).toNat)
  case atStart => exact ⟨0, Nat.zero_le _, rfl, rfl, M1.out⟩
  case round =>
    obtain ⟨k, hk, rfl, rfl, hm⟩ := hrel
    clear M1
    by_cases hlt : k < n
    · obtain ⟨b, off, rfl, hb, hcs⟩ := hA (by omega)
      obtain ⟨hk0, hk1, hcells⟩ := hcs k hlt
      have M := Lib.hid hm
      have a0 := (hm.cell hb).trans (hcells 0 (by omega))
      have a1 := (hm.cell hb).trans (hcells 1 (by omega))
      have a2 := (hm.cell hb).trans (hcells 2 (by omega))
      have a3 := (hm.cell hb).trans (hcells 3 (by omega))
      have a4 := (hm.cell hb).trans (hcells 4 (by omega))
      have a5 := (hm.cell hb).trans (hcells 5 (by omega))
      simp only [Cl.cells, List.getElem?_toArray, List.getElem?_cons_zero, List.getElem?_cons_succ, Nat.add_zero] at a0 a1 a2 a3 a4 a5
      have hok := Lib.hid hm.ok
      have HKS := Lib.hid (show datK lim cs (k + 1) = stepD lim (datK lim cs k) (cs k) from rfl)
      clear hcs hcells hA hm
      generalize datK lim cs k = D at *
      generalize cs k = ck at *
      have hst := fun o => step_mid (M.out.alloc o) ck hk0 hk1 rfl rfl rfl
      have q1 : ck.name ≠ name ∨ ck.name = name ∧ ck.key ≠ key ∧ ck.kind % 6 ≠ 3 ∨ ck.name = name ∧ ck.key = key ∧ ck.kind % 6 = 1 ∧ stepR lim D ck = 0 ∨ ck.name = name ∧ ck.key = key ∧ ck.kind % 6 = 0 ∧ stepR lim D ck = 0 ∨
          ck.name = name ∧ ck.key = key ∧ ck.kind % 6 = 2 ∨ ck.name = name ∧ ck.key = key ∧ ck.kind % 6 = 3 ∨ ck.name = name ∧ ck.key ≠ key ∧ ck.kind % 6 = 3 ∨ ck.name = name ∧ ck.key = key ∧ (ck.kind % 6 = 4 ∨ ck.kind % 6 = 5 ∨ ck.kind % 6 ≠ 2 ∧ ck.kind % 6 ≠ 3 ∧ stepR lim D ck ≠ 0) := by
        by_cases a : ck.name = name <;> by_cases b : ck.key = key <;> by_cases d : stepR lim D ck = 0 <;> simp only [a, b, d, ne_eq, not_true, not_false_iff, true_and, false_and, and_true, and_false, or_false, false_or, true_or, or_true] <;> omega
      go_wp2_with fail
      unfold Cl.cells at hst
      refine (hst _).mono ?_
      rintro e w2 ⟨rfl, hm2⟩
      clear hst a0 a1 a2 a3 a4 a5
      have k1 := hm2.at_ (List.mem_cons_self ..)
      have k2 := hm2.at_ (List.mem_cons_of_mem _ (List.mem_cons_self ..))
      have l1 := lt_of_heap k1
      have l2 := lt_of_heap k2
      have a0 := cell_of_heap k1 0
      have a1 := cell_of_heap k1 1
      have a2 := cell_of_heap k1 2
      have a3 := cell_of_heap k1 3
      have a4 := cell_of_heap k1 4
      have a5 := cell_of_heap k1 5
      have b0 := cell_of_heap k2 0
      have b1 := cell_of_heap k2 1
      have b2 := cell_of_heap k2 2
      have f0 := free_of_heap k2 0
      have f1 := free_of_heap k2 1
      have f2 := free_of_heap k2 2
      simp only [List.getElem?_toArray, List.getElem?_cons_zero, List.getElem?_cons_succ] at a0 a1 a2 a3 a4 a5 b0 b1 b2
      have K2 := Lib.hid k2
      have M2 := Lib.hid hm2
      clear hm2 k1 k2
      simp only
      rcases q1 with q | q | q | q | q | q | q | q
      · have s1 := str_ne q
        have HD := Lib.hid (keep_miss (lim := lim) (c := ck) (name := name) (key := key) hok.out (.inl q))
        clear q
        go_wp2
        go_roundw
        case rel => exact ⟨k + 1, by omega, by go_num, by rw [HKS.out, HD.out], by rw [HKS.out, HD.out]; exact M2.out.fin (List.mem_cons_of_mem _ (List.mem_cons_self ..)) hwb ((Fr.refl _ _).alloc _) ((heap_alloc_lt _ _ l2).trans K2.out)⟩
        case measure => simp [intOf]; omega
      · obtain ⟨q1, q2, q3⟩ := q
        have s1 := str_eq q1
        have s2 := str_ne q2
        have e3 : (ck.kind % 6 != 3) = true := by simpa using q3
        have HD := Lib.hid (keep_miss (lim := lim) (c := ck) (name := name) (key := key) hok.out (.inr ⟨q2, q3⟩))
        clear q1 q2 q3
        go_wp2
        go_roundw
        case rel => exact ⟨k + 1, by omega, by go_num, by rw [HKS.out, HD.out], by rw [HKS.out, HD.out]; exact M2.out.fin (List.mem_cons_of_mem _ (List.mem_cons_self ..)) hwb ((Fr.refl _ _).alloc _) ((heap_alloc_lt _ _ l2).trans K2.out)⟩
        case measure => simp [intOf]; omega
      · obtain ⟨q1, q2, q3, q4⟩ := q
        have s1 := str_eq q1
        have s2 := str_eq q2
        have e1 : (ck.kind % 6 == 1) = true := by simpa using q3
        have r0 : (stepR lim D ck == 0) = true := by simpa using q4
        have HD := Lib.hid (keep_set (lim := lim) q3 q4 q1 q2)
        clear q1 q2 q3 q4
        go_wp2
        go_region
        all_goals go_wp2
        all_goals go_roundw
        case rel => exact ⟨k + 1, by omega, by go_num, by rw [HKS.out, HD.out]; rfl, by rw [HKS.out, HD.out]; exact M2.out.fin (List.mem_cons_of_mem _ (List.mem_cons_self ..)) hwb (((setCell3 _ _ _ _ _).alloc _).drew) ((heap_alloc_lt _ _ (by simpa using l2)).trans (set3 K2.out))⟩
        case measure => simp [intOf]; omega
      · obtain ⟨q1, q2, q3, q4⟩ := q
        have s1 := str_eq q1
        have s2 := str_eq q2
        have e1 : (ck.kind % 6 == 1) = false := by simp; omega
        have e0 : (ck.kind % 6 == 0) = true := by simpa using q3
        have r0 : (stepR lim D ck == 0) = true := by simpa using q4
        have HD := Lib.hid (keep_get (lim := lim) q3 q4 q1 q2)
        clear q1 q2 q3 q4
        go_wp2
        go_roundw
        case rel => exact ⟨k + 1, by omega, by go_num, by rw [HKS.out, HD.out]; rfl, by rw [HKS.out, HD.out]; exact M2.out.fin (List.mem_cons_of_mem _ (List.mem_cons_self ..)) hwb ((Fr.refl _ _).alloc _) ((heap_alloc_lt _ _ l2).trans K2.out)⟩
        case measure => simp [intOf]; omega
      · obtain ⟨q1, q2, q3⟩ := q
        have s1 := str_eq q1
        have s2 := str_eq q2
        have e1 : (ck.kind % 6 == 1) = false := by simp; omega
        have e0 : (ck.kind % 6 == 0) = false := by simp; omega
        have e2 : (ck.kind % 6 == 2) = true := by simpa using q3
        have e3 : (ck.kind % 6 == 3) = false := by simp; omega
        have HD := Lib.hid (keep_del (lim := lim) (key := key) hok.out (.inl ⟨q3, q2⟩) q1)
        clear q1 q2 q3
        go_wp2
        all_goals (try go_region)
        all_goals (try go_wp2)
        all_goals go_roundw
        case rel => exact ⟨k + 1, by omega, by go_num, by rw [HKS.out, HD.out]; rfl, by rw [HKS.out, HD.out]; exact M2.out.fin (List.mem_cons_of_mem _ (List.mem_cons_self ..)) hwb ((setCell3 _ _ _ _ _).alloc _) ((heap_alloc_lt _ _ (by simpa using l2)).trans (set3 K2.out))⟩
        case measure => simp [intOf]; omega
      · obtain ⟨q1, q2, q3⟩ := q
        have s1 := str_eq q1
        have s2 := str_eq q2
        have e1 : (ck.kind % 6 == 1) = false := by simp; omega
        have e0 : (ck.kind % 6 == 0) = false := by simp; omega
        have e2 : (ck.kind % 6 == 2) = false := by simp; omega
        have e3 : (ck.kind % 6 == 3) = true := by simpa using q3
        have e4 : (ck.kind % 6 != 3) = false := by simpa using q3
        have HD := Lib.hid (keep_del (lim := lim) (key := key) hok.out (.inr q3) q1)
        clear q1 q2 q3
        go_wp2
        all_goals (try go_region)
        all_goals (try go_wp2)
        all_goals go_roundw
        case rel => exact ⟨k + 1, by omega, by go_num, by rw [HKS.out, HD.out]; rfl, by rw [HKS.out, HD.out]; exact M2.out.fin (List.mem_cons_of_mem _ (List.mem_cons_self ..)) hwb ((setCell3 _ _ _ _ _).alloc _) ((heap_alloc_lt _ _ (by simpa using l2)).trans (set3 K2.out))⟩
        case measure => simp [intOf]; omega
      · obtain ⟨q1, q2, q3⟩ := q
        have s1 := str_eq q1
        have s2 := str_ne q2
        have e1 : (ck.kind % 6 == 1) = false := by simp; omega
        have e0 : (ck.kind % 6 == 0) = false := by simp; omega
        have e2 : (ck.kind % 6 == 2) = false := by simp; omega
        have e3 : (ck.kind % 6 == 3) = true := by simpa using q3
        have e4 : (ck.kind % 6 != 3) = false := by simpa using q3
        have HD := Lib.hid (keep_del (lim := lim) (key := key) hok.out (.inr q3) q1)
        clear q1 q2 q3
        go_wp2
        all_goals (try go_region)
        all_goals (try go_wp2)
        all_goals go_roundw
        case rel => exact ⟨k + 1, by omega, by go_num, by rw [HKS.out, HD.out]; rfl, by rw [HKS.out, HD.out]; exact M2.out.fin (List.mem_cons_of_mem _ (List.mem_cons_self ..)) hwb ((setCell3 _ _ _ _ _).alloc _) ((heap_alloc_lt _ _ (by simpa using l2)).trans (set3 K2.out))⟩
        case measure => simp [intOf]; omega
      · obtain ⟨q1, q2, q3⟩ := q
        have s1 := str_eq q1
        have s2 := str_eq q2
        have HD := Lib.hid (show dget (stepD lim D ck) name key = dget D name key from by rw [keep_other (q3.imp id (fun r => r.imp id fun r => r.2.2))])
        have e2 : (ck.kind % 6 == 2) = false := by simp; omega
        have e3 : (ck.kind % 6 == 3) = false := by simp; omega
        have q4 : ck.kind % 6 = 1 ∧ stepR lim D ck ≠ 0 ∨ ck.kind % 6 = 0 ∧ stepR lim D ck ≠ 0 ∨ ck.kind % 6 ≠ 1 ∧ ck.kind % 6 ≠ 0 := by omega
        clear q1 q2 q3
        rcases q4 with ⟨q4, q5⟩ | ⟨q4, q5⟩ | ⟨q4, q5⟩
        · have e1 : (ck.kind % 6 == 1) = true := by simpa using q4
          have e0 : (ck.kind % 6 == 0) = false := by simp; omega
          have r0 : (stepR lim D ck == 0) = false := by simpa using q5
          clear q4 q5
          go_wp2
          go_roundw
          case rel => exact ⟨k + 1, by omega, by go_num, by rw [HKS.out, HD.out], by rw [HKS.out, HD.out]; exact M2.out.fin (List.mem_cons_of_mem _ (List.mem_cons_self ..)) hwb ((Fr.refl _ _).alloc _) ((heap_alloc_lt _ _ l2).trans K2.out)⟩
          case measure => simp [intOf]; omega
        · have e1 : (ck.kind % 6 == 1) = false := by simp; omega
          have e0 : (ck.kind % 6 == 0) = true := by simpa using q4
          have r0 : (stepR lim D ck == 0) = false := by simpa using q5
          clear q4 q5
          go_wp2
          go_roundw
          case rel => exact ⟨k + 1, by omega, by go_num, by rw [HKS.out, HD.out], by rw [HKS.out, HD.out]; exact M2.out.fin (List.mem_cons_of_mem _ (List.mem_cons_self ..)) hwb ((Fr.refl _ _).alloc _) ((heap_alloc_lt _ _ l2).trans K2.out)⟩
          case measure => simp [intOf]; omega
        · have e1 : (ck.kind % 6 == 1) = false := by simpa using q4
          have e0 : (ck.kind % 6 == 0) = false := by simpa using q5
          clear q4 q5
          go_wp2
          go_roundw
          case rel => exact ⟨k + 1, by omega, by go_num, by rw [HKS.out, HD.out], by rw [HKS.out, HD.out]; exact M2.out.fin (List.mem_cons_of_mem _ (List.mem_cons_self ..)) hwb ((Fr.refl _ _).alloc _) ((heap_alloc_lt _ _ l2).trans K2.out)⟩
          case measure => simp [intOf]; omega
    · clear hA
      have hke : k = n := by omega
      subst hke
      have M := Lib.hid hm
      have hok := Lib.hid hm.ok
      clear hm hlt
      generalize datK lim cs k = D at *
      go_wp2_with fail
      refine (Has_mid M.out name key rfl).mono ?_
      rintro e w2 ⟨rfl, hm2, -⟩
      have M2 := Lib.hid hm2
      clear hm2 M
      go_wp2_with fail
      cases hdg : dget D name key with
      | none =>
        rw [hdg] at M2
        simp only [Option.isSome, Option.getD, Va.zero] at M2
        by_cases hr : roomR lim D name key = 0
        · obtain ⟨v, hv1, hv2⟩ := roomD_get lim D name key hr
          have E2 := Lib.hid (rfl : roomD lim D name key = roomD lim D name key)
          have E3 := Lib.hid (show getV lim D name key = Va.zero from by simp [getV, hdg])
          have EH := Lib.hid (show (dget (roomD lim D name key) name key).isSome = true from by rw [hv1]; rfl)
          clear hv1 hv2 hdg
          refine (Get_mid M2.out name key hr E2.out E3.out).mono ?_
          clear hr
          rintro e w3 ⟨rfl, hm3⟩
          have M3 := Lib.hid (hm3.alloc (.cells #[.int .i64 0, .int .i64 0, .string ⟨#[]⟩] 28))
          clear M2
          have k2 := hm3.at_ (List.mem_cons_self ..)
          have l2 := lt_of_heap k2
          clear hm3 k2
          simp only [Va.zero]
          go_wp2_with fail
          refine (Has_mid M3.out name key EH.out).mono ?_
          rintro e w4 ⟨rfl, hm4, -⟩
          have M4 := Lib.hid hm4.fr
          clear hm4 M3
          go_wp2_with fail
          refine (awake45 _).mono ?_
          rintro e w5 ⟨rfl, hf⟩
          go_wp2
          go_ret
          exact ⟨rfl, M4.out.trans hf fun _ q => q.elim⟩
        · have E2 := Lib.hid (roomD_bad lim D name key hr)
          have E3 := Lib.hid (show getV lim D name key = Va.zero from by simp [getV, hdg])
          have EH := Lib.hid (show (dget D name key).isSome = false from by rw [hdg]; rfl)
          have hr0 : (roomR lim D name key == 0) = false := by simpa using hr
          clear hr hdg
          generalize hrr : roomR lim D name key = r at *
          have HRR := Lib.hid hrr
          clear hrr
          refine (Get_mid M2.out name key HRR.out E2.out E3.out).mono ?_
          rintro e w3 ⟨rfl, hm3⟩
          have M3 := Lib.hid (hm3.alloc (.cells #[.int .i64 0, .int .i64 0, .string ⟨#[]⟩] 28))
          clear M2
          have k2 := hm3.at_ (List.mem_cons_self ..)
          have l2 := lt_of_heap k2
          clear hm3 k2
          simp only [Va.zero]
          go_wp2_with fail
          refine (Has_mid M3.out name key EH.out).mono ?_
          rintro e w4 ⟨rfl, hm4, -⟩
          have M4 := Lib.hid hm4.fr
          clear hm4 M3
          go_wp2_with fail
          refine (awake45 _).mono ?_
          rintro e w5 ⟨rfl, hf⟩
          go_wp2
          go_ret
          exact ⟨rfl, M4.out.trans hf fun _ q => q.elim⟩
      | some v =>
        rw [hdg] at M2
        simp only [Option.isSome, Option.getD] at M2
        have e1 : roomR lim D name key = 0 := by simp [roomR, hdg]
        have e2 : roomD lim D name key = D := by simp [roomD, hdg]
        have e3 : getV lim D name key = v := by simp [getV, e1, hdg]
        refine (Get_mid M2.out name key e1 e2 e3).mono ?_
        rintro e w3 ⟨rfl, hm3⟩
        clear hdg e1 e2 e3 M2
        have k2 := hm3.at_ (List.mem_cons_self ..)
        have l2 := lt_of_heap k2
        have b0 := cell_of_heap k2 0
        have b1 := cell_of_heap k2 1
        have b2 := cell_of_heap k2 2
        simp only [List.getElem?_toArray, List.getElem?_cons_zero, List.getElem?_cons_succ] at b0 b1 b2
        have M3 := Lib.hid hm3.fr
        clear hm3 k2
        simp only
        go_wp2_with fail
        refine (awake45 _).mono ?_
        rintro e w4 ⟨rfl, hf⟩
        go_wp2
        go_ret
        exact ⟨rfl, (M3.out.alloc _).trans hf fun _ q => q.elim⟩
end Go.Proofs.Ytejajmmacmcijaa
