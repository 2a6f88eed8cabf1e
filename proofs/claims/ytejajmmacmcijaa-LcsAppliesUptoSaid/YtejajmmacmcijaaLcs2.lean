/- The program's numbering of both lists, one row of the table of costs, and the distance. -/
import Derived.Test.YtejajmmacmcijaaLcs1
namespace Go.Proofs.Ytejajmmacmcijaa
set_option linter.unusedVariables false
set_option linter.unusedSimpArgs false
open Go.RowKit Go.MapKept Go.ChangeMaps

def numsOf (K : Num) (s : Nat → ByteArray) (n : Nat) : List Nat := (List.range n).map fun i => num K (s i)
def intV (X : List Nat) (i : Nat) : Value := .int .i64 ((X.getD i 0 : Nat) : Int)
theorem numsOf_length (K : Num) (s : Nat → ByteArray) (n : Nat) : (numsOf K s n).length = n := by simp [numsOf]
theorem numsOf_get (K : Num) (s : Nat → ByteArray) {n i : Nat} (h : i < n) : intV (numsOf K s n) i = .int .i64 (num K (s i)) := by
  simp [intV, numsOf, List.getD, h]

def NumsPost (w : World) (n m : Nat) (s t : Nat → ByteArray) (e : Ending) (w' : World) : Prop :=
  ∃ (g h : Nat) (K : Num), e = .returned (.tuple #[.slice (some ⟨g, 0, none⟩) n n, .slice (some ⟨h, 0, none⟩) m m]) ∧ Sl w' (some ⟨g, 0, none⟩) n (intV (numsOf K s n)) ∧ Sl w' (some ⟨h, 0, none⟩) m (intV (numsOf K t m)) ∧
    Fr (fun _ => False) w w' ∧ w.heap.size ≤ g ∧ w.heap.size ≤ h ∧ Numbered K ∧ (∀ i, i < n → (mget K (s i)).isSome = true) ∧ (∀ i, i < m → (mget K (t i)).isSome = true)

set_option maxHeartbeats 400000 in
set_option maxRecDepth 100000 in
theorem numbers_any {w : World} {A B : Option Addr} {n m c d : Nat} {s t : Nat → ByteArray} (hn : n ≤ 500) (hm : m ≤ 500) (hA : Sl w A n (fun i => .string (s i))) (hB : Sl w B m (fun i => .string (t i))) :
    Calls Try.prog 45 #[.slice A n c, .slice B m d] w (NumsPost w n m s t) := by
  have hmm := fun w => @run_makeMap Try.prog 90 w
  have hmf : ∀ (fn : Fn) (first cap : Array Value) (w : World), (Instr.makeFunc fn first cap).run Try.prog w = .ok (.func fn first cap) w := fun _ _ _ _ => rfl
  have h0 : ∀ x, Fr (fun _ => False) w ((w.alloc (.map #[] 0)).alloc x) := fun x => ((Fr.refl _ _).alloc _).alloc x
  have HA := Lib.hid hA
  have HB := Lib.hid hB
  clear hA hB
  go_enter Try.func45, Try.ntmps45
  go_wp2_with fail
  have hw0 : (w.alloc (.map #[] 0)).heap.size = w.heap.size + 1 := by simp
  have hk0 := (MapKept.heap_alloc (w.alloc (.map #[] 0)) (.cells #[.map (some w.heap.size)] 90)).1
  rw [hw0] at hk0
  have hm0 := (MapAt.new w).alloc (.cells #[.map (some w.heap.size)] 90)
  refine (number_any (K := []) (by omega) (by simp) (HA.out.fr (h0 _)) hk0 hm0).mono ?_
  rintro e w1 ⟨g, rfl, hR1, hM1, hF1, hg1⟩
  have hk1 := hF1.keep hk0 (by show ¬ w.heap.size + 1 = w.heap.size; omega)
  have hF01 : Fr (fun _ => False) w w1 := ((h0 _).trans hF1 fun k hk => .inr (by have : k = w.heap.size := hk; omega))
  have HR1 := Lib.hid hR1
  have HF01 := Lib.hid hF01
  have HN := Lib.hid (number_any (c := d) (by omega : m ≤ 1000) (by have := kk_length [] s n; simp at this; omega) (HB.out.fr hF01) hk1 hM1)
  have hg1' : w.heap.size + 2 ≤ g := by simpa using hg1
  clear hk0 hm0 hR1 hM1 hF1 hg1 hk1 hF01 h0
  go_wp2_with fail
  refine HN.out.mono ?_
  rintro e w2 ⟨h, rfl, hR2, hM2, hF2, hg2⟩
  have HR2 := Lib.hid hR2
  have HF2 := Lib.hid hF2
  clear hR2 hM2 hF2
  go_wp2
  go_ret2
  have hK1 : Numbered (kk [] s n) := kk_numbered (by simp [Numbered]) s n
  have hget : ∀ i, i < n → ∃ v, mget (kk [] s n) (s i) = some v := fun i hi => Option.isSome_iff_exists.1 (kk_mem [] s n i hi)
  refine ⟨g, h, kk (kk [] s n) t m, rfl, ?_, ?_, HF01.out.trans HF2.out fun k hk => .inr (by have : k = w.heap.size := hk; omega), by omega, by have := HF01.out.size; omega, kk_numbered hK1 t m, fun i hi => ?_, fun i hi => kk_mem _ t m i hi⟩
  · refine ((HR1.out.fr HF2.out (by show ¬ g = w.heap.size; omega)).congr fun i hi => ?_).sl
    obtain ⟨v, hv⟩ := hget i hi
    rw [numsOf_get _ _ hi, num, num, hv, kk_get hv]
  · refine (HR2.out.congr fun i hi => ?_).sl
    rw [numsOf_get _ _ hi]
  · obtain ⟨v, hv⟩ := hget i hi
    rw [kk_get hv]; rfl

def RowPost (w : World) (X Y : List Nat) (i : Nat) (e : Ending) (w' : World) : Prop :=
  ∃ g, e = .returned (.slice (some ⟨g, 0, none⟩) (Y.length + 1) (Y.length + 1)) ∧ RowAt w' g 21 (Y.length + 1) (fun j => .int .i32 (dd X Y i j : Nat)) ∧ Fr (fun _ => False) w w' ∧ w.heap.size ≤ g

set_option maxHeartbeats 800000 in
set_option maxRecDepth 100000 in
theorem row_any {w : World} {A B C : Option Addr} {ca cb cn cc : Nat} {X Y : List Nat} {i : Nat} (hX : X.length ≤ 500) (hY : Y.length ≤ 500) (hi : i ≤ X.length) (hA : Sl w A X.length (intV X)) (hB : Sl w B Y.length (intV Y))
    (hC : i < X.length → cn = Y.length + 1 ∧ Sl w C cn (fun j => .int .i32 (dd X Y (i + 1) j : Nat))) :
    Calls Try.prog 46 #[.slice A X.length ca, .slice B Y.length cb, .int .i64 i, .slice C cn cc] w (RowPost w X Y i) := by
  obtain ⟨w0, u0, hR0, hf0⟩ := run_make_row (P := Try.prog) w (z := .int .i32 0) Try.underlying73 info_i32 rfl .i64 .i64 (Y.length + 1) (by omega) (by unfold maxLen; omega)
  have HA := Lib.hid hA
  have HB := Lib.hid hB
  have HC := Lib.hid hC
  have HR0 := Lib.hid hR0
  have HF0 := Lib.hid hf0
  have HDD := Lib.hid (fun j => dd_le X Y i j)
  have HDD1 := Lib.hid (fun j => dd_le X Y (i + 1) j)
  clear hA hB hC hR0 hf0
  have hcast : (((Y.length + 1 : Nat)) : Int) = (Y.length : Int) + 1 := by omega
  rw [hcast] at u0
  go_enter Try.func46, Try.ntmps46
  go_wp2_with fail
  clear u0 hcast
  go_loopw [10] (fun v wr => ∃ k : Nat, k ≤ Y.length + 1 ∧ v = .int .i64 ((k : Int) - 1) ∧ RowAt wr w.heap.size 21 (Y.length + 1) (fun q => if k ≤ q then .int .i32 (dd X Y i q : Nat) else .int .i32 0) ∧ Fr (fun _ => False) w wr)
    (fun v _ => (intOf v + 1).toNat)
  case atStart => exact ⟨Y.length + 1, Nat.le_refl _, by go_num, HR0.out.congr (fun q hq => by rw [if_neg (by omega)]), HF0.out⟩
  case round =>
    obtain ⟨k, hk, hv, hR, hF⟩ := hrel
    by_cases hk0 : k = 0
    · subst hk0
      rw [show ((0 : Nat) : Int) - 1 = -1 from rfl] at hv
      subst hv
      go_wp2
      go_ret
      exact ⟨_, rfl, hR.congr (fun q hq => by rw [if_pos (Nat.zero_le _)]), hF, Nat.le_refl _⟩
    · obtain ⟨j, rfl⟩ : ∃ j, k = j + 1 := ⟨k - 1, by omega⟩
      rw [show ((j + 1 : Nat) : Int) - 1 = (j : Int) from by omega] at hv
      subst hv
      have hj : j < Y.length + 1 := by omega
      have c0 := hR.cell hj
      have c1 := hR.free j
      have hw0 : w.heap.size < wr.heap.size := hR.lt
      have hstep : ∀ (wf : World) (x : Int), RowAt wf w.heap.size 21 (Y.length + 1) (fun q => if j + 1 ≤ q then .int .i32 (dd X Y i q : Nat) else .int .i32 0) → x = (dd X Y i j : Nat) →
          RowAt (wf.setCell ⟨w.heap.size, j, none⟩ (.int .i32 x)) w.heap.size 21 (Y.length + 1) (fun q => if j ≤ q then .int .i32 (dd X Y i q : Nat) else .int .i32 0) := by
        intro wf x h hx
        refine (h.set j (.int .i32 x)).congr fun q hq => ?_
        by_cases hqj : q = j
        · subst hqj; simp [hx]
        · simp only [hqj, if_false]
          by_cases h2 : j + 1 ≤ q
          · rw [if_pos h2, if_pos (by omega)]
          · rw [if_neg h2, if_neg (by omega)]
      have HST := Lib.hid hstep
      have HF := Lib.hid hF
      clear hstep hF hk0
      by_cases hin : i = X.length
      · have e1 : ((i : Int) == (X.length : Int)) = true := by rw [beq_iff_eq]; omega
        have HE := Lib.hid (dd_end X Y (Nat.le_of_eq hin.symm) j)
        have HR := Lib.hid hR
        clear hR hin
        go_wp2
        go_roundw
        case rel => exact ⟨j, by omega, rfl, HST.out _ _ HR.out (by rw [HE.out]; omega), HF.out.setCell _ _ (.inr (Nat.le_refl _))⟩
        case measure => simp [intOf] <;> omega
      · have hilt : i < X.length := by omega
        have e1 : ((i : Int) == (X.length : Int)) = false := by simp; omega
        obtain ⟨rfl, hC⟩ := HC.out hilt
        obtain ⟨b, off, rfl, hb, hcs⟩ := (hC.fr HF.out) (by omega)
        have d0 := hcs j (by omega)
        have HCS := Lib.hid hcs
        clear hcs hC hin
        have dl := HDD1.out j
        have dl2 := HDD1.out (j + 1)
        have dl3 := HDD.out (j + 1)
        by_cases hjn : j = Y.length
        · have e2 : ((j : Int) == (Y.length : Int)) = true := by rw [beq_iff_eq]; omega
          have HE := Lib.hid (show (dd X Y i j : Int) = (dd X Y (i + 1) j : Int) + 1 from by rw [dd_right X Y i (Nat.le_of_eq hjn.symm), dd_right X Y (i + 1) (Nat.le_of_eq hjn.symm)]; omega)
          have HR := Lib.hid hR
          clear hR hjn dl2 dl3
          go_wp2
          go_roundw
          case rel => exact ⟨j, by omega, rfl, HST.out _ _ HR.out (by rw [HE.out]), HF.out.setCell _ _ (.inr (Nat.le_refl _))⟩
          case measure => simp [intOf] <;> omega
        · have hjlt : j < Y.length := by omega
          have e2 : ((j : Int) == (Y.length : Int)) = false := by simp; omega
          obtain ⟨ba, offa, rfl, hba, hca⟩ := (HA.out.fr HF.out) (by omega)
          obtain ⟨bb, offb, rfl, hbb, hcb⟩ := (HB.out.fr HF.out) (by omega)
          have a0 := hca i hilt
          have b0 := hcb j hjlt
          have HX : X.getD i 0 = X[i] := by simp [List.getD, hilt]
          have HY : Y.getD j 0 = Y[j] := by simp [List.getD, hjlt]
          simp only [intV, HX, HY] at a0 b0
          have hds := dd_step X Y hilt hjlt
          clear hca hcb HX HY hjn
          by_cases hxy : X[i] = Y[j]
          · rw [if_pos hxy] at hds
            have HDS := Lib.hid hds
            have d1 := HCS.out (j + 1) (by omega)
            have e3 : (((X[i] : Nat) : Int) == ((Y[j] : Nat) : Int)) = true := by rw [beq_iff_eq]; omega
            generalize X[i] = xi at *
            generalize Y[j] = yj at *
            have HR := Lib.hid hR
            clear hR hxy hds d0 dl dl3
            go_wp2
            go_quiet (fail)
            have c0' := HR.out.cell hj
            have c1' := HR.out.free j
            go_wp2
            go_roundw
            case rel => exact ⟨j, by omega, rfl, HST.out _ _ (HR.out.keep rfl) (by rw [HDS.out]), ((HF.out.drewN _).setCell _ _ (.inr (Nat.le_refl _)))⟩
            case measure => simp [intOf] <;> omega
          · rw [if_neg hxy] at hds
            have HDS := Lib.hid (show (dd X Y i j : Int) = 1 + min (dd X Y (i + 1) j : Int) (dd X Y i (j + 1) : Int) from by omega)
            have d1 := hR.cell (show j + 1 < Y.length + 1 by omega)
            simp only [Nat.le_refl, if_true] at d1
            have e3 : (((X[i] : Nat) : Int) == ((Y[j] : Nat) : Int)) = false := by simp; omega
            generalize X[i] = xi at *
            generalize Y[j] = yj at *
            have HR := Lib.hid hR
            clear hR hxy hds dl2
            rcases Nat.lt_or_ge (dd X Y (i + 1) j) (dd X Y i (j + 1)) with hmin | hmin
            · have HDS2 := Lib.hid (show (dd X Y i j : Int) = 1 + (dd X Y (i + 1) j : Int) from by have := HDS.out; omega)
              go_wp2
              go_quiet (fail)
              go_wp2
              have q1 : (j : Int) < (Y.length : Int) + 1 := by omega
              have q2 : (j : Int) < (Y.length : Int) := by omega
              have q3 : IntKind.i64.wrap ((j : Int) + 1) = (j : Int) + 1 := IntWalk.i64_in _ (by omega)
              have q4 : ((j : Int) + 1).toNat = j + 1 := by omega
              have q5 : (0 : Int) ≤ (j : Int) + 1 := by omega
              have q6 : ((dd X Y (i + 1) j : Nat) : Int) < (dd X Y i (j + 1) : Nat) := by omega
              have q7 : IntKind.i32.wrap (1 + ((dd X Y (i + 1) j : Nat) : Int)) = 1 + ((dd X Y (i + 1) j : Nat) : Int) := IntWalk.i32_in _ (by omega)
              generalize hwq : wr.drewN _ = wq
              have hcq : ∀ a, wq.cell? a = wr.cell? a := fun a => by rw [← hwq]; rfl
              have d0' := (hcq _).trans d0
              have d1' := (hcq _).trans d1
              have HRq := Lib.hid (HR.out.keep (show wq.heap[w.heap.size]? = wr.heap[w.heap.size]? from by rw [← hwq]; rfl))
              have HFq := Lib.hid (show Fr (fun _ => False) w wq from by rw [← hwq]; exact HF.out.drewN _)
              clear hwq hcq d0 d1 a0 b0 c0 c1
              go_still_tail 14, (by kernel_rfl)
              change wpList _ _ _ _ _ wq.drew
              generalize hwd : wq.drew = wd
              have HRd := Lib.hid (HRq.out.keep (show wd.heap[w.heap.size]? = wq.heap[w.heap.size]? from by rw [← hwd]; rfl))
              have HFd := Lib.hid (show Fr (fun _ => False) w wd from by rw [← hwd]; exact HFq.out.drew)
              have c0 := HRd.out.cell hj
              have c1 := HRd.out.free j
              clear hwd d0' d1' q3 q4 q6 q7
              go_wp2
              go_roundw
              case rel => exact ⟨j, by omega, rfl, HST.out _ _ HRd.out (by rw [HDS2.out]; try (split <;> omega)), HFd.out.setCell _ _ (.inr (Nat.le_refl _))⟩
              case measure => simp [intOf] <;> omega
            · have HDS2 := Lib.hid (show (dd X Y i j : Int) = 1 + (dd X Y i (j + 1) : Int) from by have := HDS.out; omega)
              go_wp2
              go_quiet (fail)
              go_wp2
              have q1 : (j : Int) < (Y.length : Int) + 1 := by omega
              have q2 : (j : Int) < (Y.length : Int) := by omega
              have q3 : IntKind.i64.wrap ((j : Int) + 1) = (j : Int) + 1 := IntWalk.i64_in _ (by omega)
              have q4 : ((j : Int) + 1).toNat = j + 1 := by omega
              have q5 : (0 : Int) ≤ (j : Int) + 1 := by omega
              have q6 : ¬ ((dd X Y (i + 1) j : Nat) : Int) < (dd X Y i (j + 1) : Nat) := by omega
              have q7 : IntKind.i32.wrap (1 + ((dd X Y i (j + 1) : Nat) : Int)) = 1 + ((dd X Y i (j + 1) : Nat) : Int) := IntWalk.i32_in _ (by omega)
              generalize hwq : wr.drewN _ = wq
              have hcq : ∀ a, wq.cell? a = wr.cell? a := fun a => by rw [← hwq]; rfl
              have d0' := (hcq _).trans d0
              have d1' := (hcq _).trans d1
              have HRq := Lib.hid (HR.out.keep (show wq.heap[w.heap.size]? = wr.heap[w.heap.size]? from by rw [← hwq]; rfl))
              have HFq := Lib.hid (show Fr (fun _ => False) w wq from by rw [← hwq]; exact HF.out.drewN _)
              clear hwq hcq d0 d1 a0 b0 c0 c1
              go_still_tail 14, (by kernel_rfl)
              change wpList _ _ _ _ _ wq.drew
              generalize hwd : wq.drew = wd
              have HRd := Lib.hid (HRq.out.keep (show wd.heap[w.heap.size]? = wq.heap[w.heap.size]? from by rw [← hwd]; rfl))
              have HFd := Lib.hid (show Fr (fun _ => False) w wd from by rw [← hwd]; exact HFq.out.drew)
              have c0 := HRd.out.cell hj
              have c1 := HRd.out.free j
              clear hwd d0' d1' q3 q4 q6 q7
              go_wp2
              go_roundw
              case rel => exact ⟨j, by omega, rfl, HST.out _ _ HRd.out (by rw [HDS2.out]; try (split <;> omega)), HFd.out.setCell _ _ (.inr (Nat.le_refl _))⟩
              case measure => simp [intOf] <;> omega

/-- the distance of two lists of lines, given by their elements -/
def listOf (s : Nat → ByteArray) (n : Nat) : List ByteArray := (List.range n).map s
theorem listOf_length (s : Nat → ByteArray) (n : Nat) : (listOf s n).length = n := by simp [listOf]
theorem listOf_get (s : Nat → ByteArray) {n i : Nat} (h : i < n) : (listOf s n)[i]? = some (s i) := by simp [listOf, h]
theorem numsOf_eq (K : Num) (s : Nat → ByteArray) (n : Nat) : numsOf K s n = (listOf s n).map (num K) := by simp [numsOf, listOf]

theorem dist_map {α β : Type} [DecidableEq α] [DecidableEq β] (f : α → β) : ∀ (a b : List α), (∀ x ∈ a, ∀ y ∈ b, f x = f y → x = y) → dist (a.map f) (b.map f) = dist a b := by
  intro a
  induction a with
  | nil => intro b _; simp
  | cons x a ih =>
    intro b
    induction b with
    | nil => intro _; simp
    | cons y b ihb =>
      intro h
      have h1 := ih b (fun u hu v hv => h u (by simp [hu]) v (by simp [hv]))
      have h2 := ih (y :: b) (fun u hu v hv => h u (by simp [hu]) v hv)
      have h3 := ihb (fun u hu v hv => h u hu v (by simp [hv]))
      simp only [List.map_cons] at h2 h3 ⊢
      rw [dist_cons, dist_cons, h1, h2, h3]
      by_cases hxy : x = y
      · rw [if_pos hxy, if_pos (by rw [hxy])]
      · rw [if_neg hxy, if_neg (fun e => hxy (h x (by simp) y (by simp) e))]
theorem dd_nums {K : Num} (hK : Numbered K) {s t : Nat → ByteArray} {n m : Nat} (hs : ∀ i, i < n → (mget K (s i)).isSome = true) (ht : ∀ i, i < m → (mget K (t i)).isSome = true) (i j : Nat) :
    dd (numsOf K s n) (numsOf K t m) i j = dd (listOf s n) (listOf t m) i j := by
  rw [numsOf_eq, numsOf_eq, dd, dd, ← List.map_drop, ← List.map_drop]
  refine dist_map _ _ _ fun x hx y hy e => ?_
  obtain ⟨p, hp, rfl⟩ := List.mem_map.1 (List.mem_of_mem_drop hx)
  obtain ⟨q, hq, rfl⟩ := List.mem_map.1 (List.mem_of_mem_drop hy)
  exact num_inj hK (hs p (List.mem_range.1 hp)) (ht q (List.mem_range.1 hq)) e

theorem row_any' {w : World} {A B C : Option Addr} {ca cb cn cc n m : Nat} {X Y : List Nat} {i : Nat} (hn : X.length = n) (hm : Y.length = m) (hX : n ≤ 500) (hY : m ≤ 500) (hi : i ≤ n) (hA : Sl w A n (intV X)) (hB : Sl w B m (intV Y))
    (hC : i < n → cn = m + 1 ∧ Sl w C cn (fun j => .int .i32 (dd X Y (i + 1) j : Nat))) :
    Calls Try.prog 46 #[.slice A n ca, .slice B m cb, .int .i64 i, .slice C cn cc] w (RowPost w X Y i) := by
  subst hn hm
  exact row_any hX hY hi hA hB hC

set_option maxHeartbeats 800000 in
set_option maxRecDepth 100000 in
theorem Distance_any {w : World} {A B : Option Addr} {n m c d : Nat} {s t : Nat → ByteArray} (hn : n ≤ 500) (hm : m ≤ 500) (hA : Sl w A n (fun i => .string (s i))) (hB : Sl w B m (fun i => .string (t i))) :
    Calls Try.prog 26 #[.slice A n c, .slice B m d] w fun e w' => e = .returned (.int .i64 (dist (listOf s n) (listOf t m) : Nat)) ∧ Fr (fun _ => False) w w' := by
  have hnum := numbers_any (c := c) (d := d) hn hm hA hB
  clear hA hB
  go_enter Try.func26, Try.ntmps26
  go_wp2_with fail
  refine hnum.mono ?_
  clear hnum
  rintro e w1 ⟨g, h, K, rfl, hX, hY, hF, hg, hh, hK, hs, ht⟩
  have HX := Lib.hid hX
  have HY := Lib.hid hY
  have HF := Lib.hid hF
  have HD := Lib.hid (dd_nums hK hs ht)
  clear hX hY hF hK hs ht
  generalize hXX : numsOf K s n = X at *
  generalize hYY : numsOf K t m = Y at *
  have HXL := Lib.hid (show X.length = n from by rw [← hXX, numsOf_length])
  have HYL := Lib.hid (show Y.length = m from by rw [← hYY, numsOf_length])
  clear hXX hYY
  go_wp2_with fail
  go_loopw [7, 8] (fun r v wr => ∃ k : Nat, k ≤ n + 1 ∧ v = .int .i64 ((k : Int) - 1) ∧ Fr (fun _ => False) w1 wr ∧ ∃ C cn cc, r = .slice C cn cc ∧ (k ≤ n → cn = m + 1 ∧ Sl wr C (m + 1) (fun j => .int .i32 (dd X Y k j : Nat)))) (fun _ v _ => (intOf v + 1).toNat)
  case atStart => exact ⟨n + 1, Nat.le_refl _, by go_num, Fr.refl _ _, none, 0, 0, rfl, fun h => by omega⟩
  case round =>
    obtain ⟨k, hk, hv, hF, C, cn, cc, rfl, hC⟩ := hrel
    by_cases hk0 : k = 0
    · subst hk0
      rw [show ((0 : Nat) : Int) - 1 = -1 from rfl] at hv
      subst hv
      obtain ⟨rfl, hC2⟩ := hC (Nat.zero_le _)
      obtain ⟨b, off, rfl, hb, hcs⟩ := hC2 (by omega)
      have d0 := hcs 0 (by omega)
      simp only [Nat.add_zero] at d0
      have hle := dd_le X Y 0 0
      rw [HXL.out, HYL.out] at hle
      have HFW := Lib.hid (HF.out.trans hF fun _ q => q.elim)
      have HD0 := Lib.hid (HD.out 0 0)
      generalize dd X Y 0 0 = z at *
      clear hC hC2 hcs
      go_wp2
      go_ret
      refine ⟨?_, HFW.out⟩
      rw [HD0.out]
      simp [dd]
    · obtain ⟨j, rfl⟩ : ∃ j, k = j + 1 := ⟨k - 1, by omega⟩
      rw [show ((j + 1 : Nat) : Int) - 1 = (j : Int) from by omega] at hv
      subst hv
      have hrow := row_any' (w := wr) (A := some ⟨g, 0, none⟩) (B := some ⟨h, 0, none⟩) (C := C) (ca := n) (cb := m) (cn := cn) (cc := cc) (i := j) HXL.out HYL.out hn hm (by omega) (HX.out.fr hF) (HY.out.fr hF)
        (fun hlt => by obtain ⟨e1, e2⟩ := hC (by omega); subst e1; exact ⟨rfl, e2⟩)
      have HFr := Lib.hid hF
      have HYL2 := HYL.out
      clear hC hF hk0
      go_wp2_with fail
      refine hrow.mono ?_
      rintro e w2 ⟨g2, rfl, hR, hF2, hg2⟩
      rw [HYL2] at hR ⊢
      clear hrow HYL2
      have HR := Lib.hid hR
      have HF2 := Lib.hid hF2
      clear hR hF2
      go_wp2
      go_roundw
      case rel => exact ⟨j, by omega, rfl, HFr.out.trans HF2.out fun _ q => q.elim, _, _, _, rfl, fun _ => ⟨rfl, HR.out.sl⟩⟩
      case measure => simp [intOf] <;> omega
end Go.Proofs.Ytejajmmacmcijaa
