import Derived.Test.YtejajmmacmcijaaArr5
namespace Go.Proofs.Ytejajmmacmcijaa
open Go.RowKit Go.MapKept Go.ChangeMaps

abbrev bA : ByteArray := ⟨#[97]⟩
abbrev bB : ByteArray := ⟨#[98]⟩
abbrev bX : ByteArray := ⟨#[120]⟩
def d1 : Dat := [(bA, [(bX, Va.zero)])]
def v15 : Va := ⟨1, 5, ⟨#[]⟩⟩
def d2 : Dat := [(bA, [(bX, v15)])]
theorem aw1 : roomR 1 [] bA bX = 0 := by decide +kernel
theorem aw2 : roomD 1 [] bA bX = d1 := by decide +kernel
theorem aw3 : getV 1 [] bA bX = Va.zero := by decide +kernel
theorem aw4 : roomR 1 d1 bB bX = 3 := by decide +kernel
theorem aw5 : setD 1 d1 bB bX v15 = d1 := by decide +kernel
theorem aw6 : roomR 1 d1 bA bX = 0 := by decide +kernel
theorem aw7 : setD 1 d1 bA bX v15 = d2 := by decide +kernel
theorem aw8 : roomR 1 d2 bA bX = 0 := by decide +kernel
theorem aw9 : roomD 1 d2 bA bX = d2 := by decide +kernel
theorem aw10 : getV 1 d2 bA bX = v15 := by decide +kernel
theorem aw11 : tot d2 = 1 := by decide +kernel


/-- what is known between the calls: the arrays, what has changed, and the blocks of local variables -/
def Mid (lim : Int) (w w1 : World) (p m : Nat) (D : Dat) (K : List (Nat × Obj)) : Prop :=
  ∃ T, ArrT w1 p m T lim ∧ datOf T = D ∧ Fr (fun _ => False) w w1 ∧ (∀ k, foot p m T k → w.heap.size ≤ k) ∧ ∀ x ∈ K, w1.heap[x.1]? = some x.2 ∧ ¬ foot p m T x.1
theorem Mid.call {lim : Int} {w w1 w2 : World} {p m : Nat} {T : Tbl} {D' : Dat} {K : List (Nat × Obj)} {v : Value} {e : Ending} (hf : Fr (fun _ => False) w w1) (hfoot : ∀ k, foot p m T k → w.heap.size ≤ k)
    (hK : ∀ x ∈ K, w1.heap[x.1]? = some x.2 ∧ ¬ foot p m T x.1) (h : ArrPost w1 p m T lim v D' e w2) : e = .returned v ∧ Mid lim w w2 p m D' K := by
  obtain ⟨he, T', hT', hd, hf', hfo⟩ := h
  refine ⟨he, T', hT', hd, hf.trans hf' fun k hk => .inr (hfoot k hk), fun k hk => (hfo k hk).elim (fun q => hfoot k q) (fun q => by have := hf.size; omega), fun x hx => ?_⟩
  obtain ⟨h1, h2⟩ := hK x hx
  refine ⟨hf'.keep h1 h2, fun q => (hfo _ q).elim h2 fun q => ?_⟩
  have := lt_of_heap h1
  omega
theorem Mid.alloc {lim : Int} {w w1 : World} {p m : Nat} {D : Dat} {K : List (Nat × Obj)} (h : Mid lim w w1 p m D K) (o : Obj) : Mid lim w (w1.alloc o) p m D ((w1.heap.size, o) :: K) := by
  obtain ⟨T, hT, hd, hf', hfo, hK⟩ := h
  refine ⟨T, hT.fr0 ((Fr.refl _ _).alloc _), hd, hf'.alloc _, hfo, fun x hx => ?_⟩
  rcases List.mem_cons.1 hx with rfl | hx
  · exact ⟨(MapKept.heap_alloc w1 o).1, fun q => absurd (hT.lt q) (Nat.lt_irrefl _)⟩
  · exact ⟨(heap_alloc_lt _ _ (lt_of_heap (hK x hx).1)).trans (hK x hx).1, (hK x hx).2⟩
theorem Mid.at_ {lim : Int} {w w1 : World} {p m : Nat} {D : Dat} {K : List (Nat × Obj)} (h : Mid lim w w1 p m D K) {b : Nat} {o : Obj} (hx : (b, o) ∈ K) : w1.heap[b]? = some o := by
  obtain ⟨T, hT, hd, hf', hfo, hK⟩ := h
  exact (hK _ hx).1

section
variable {lim : Int} {w w1 : World} {p m : Nat} {D : Dat} {K : List (Nat × Obj)}
theorem New_mid (x : Int) (w : World) : Calls Try.prog 14 #[.int .i64 x] w fun e w' => ∃ p m, e = .returned (.pointer (some ⟨p, 0, none⟩)) ∧ Mid (min (max x 0) 4096) w w' p m [] [] :=
  (New_any x w).mono fun e w' ⟨p, m, h1, h2, h3, h4⟩ => ⟨p, m, h1, [], h2, rfl, h3, h4, by simp⟩
theorem Get_mid (h : Mid lim w w1 p m D K) (n k : ByteArray) {r : Int} {D' : Dat} {g : Va} (e1 : roomR lim D n k = r) (e2 : roomD lim D n k = D') (e3 : getV lim D n k = g) :
    Calls Try.prog 17 #[.pointer (some ⟨p, 0, none⟩), .string n, .string k] w1 fun e w2 => e = .returned (.tuple #[.agg #[.int .i64 g.kind, .int .i64 g.num, .string g.str], .int .i64 r]) ∧ Mid lim w w2 p m D' K := by
  obtain ⟨T, hT, rfl, hf', hfo, hK⟩ := h
  subst e1 e2 e3
  exact (Get_any hT n k).mono fun e w2 hp => Mid.call hf' hfo hK hp
theorem Set_mid (h : Mid lim w w1 p m D K) (n k : ByteArray) (x y : Int) (z : ByteArray) {r : Int} {D' : Dat} (e1 : roomR lim D n k = r) (e2 : setD lim D n k ⟨x, y, z⟩ = D') :
    Calls Try.prog 41 #[.pointer (some ⟨p, 0, none⟩), .string n, .string k, .agg #[.int .i64 x, .int .i64 y, .string z]] w1 fun e w2 => e = .returned (.int .i64 r) ∧ Mid lim w w2 p m D' K := by
  obtain ⟨T, hT, rfl, hf', hfo, hK⟩ := h
  subst e1 e2
  exact (Set_any hT n k ⟨x, y, z⟩).mono fun e w2 hp => Mid.call hf' hfo hK hp
theorem Has_mid (h : Mid lim w w1 p m D K) (n k : ByteArray) {r : Bool} (e1 : (dget D n k).isSome = r) :
    Calls Try.prog 16 #[.pointer (some ⟨p, 0, none⟩), .string n, .string k] w1 fun e w2 => e = .returned (.bool r) ∧ Mid lim w w2 p m D K ∧ Fr (fun _ => False) w1 w2 := by
  obtain ⟨T, hT, rfl, hf', hfo, hK⟩ := h
  subst e1
  exact (Has_any hT n k).mono fun e w2 ⟨he, hf⟩ => ⟨he, ⟨T, hT.fr0 hf, rfl, hf'.trans hf fun _ q => q.elim, hfo, fun x hx => ⟨hf.keep (hK x hx).1 (fun q => q), (hK x hx).2⟩⟩, hf⟩
theorem Count_mid (h : Mid lim w w1 p m D K) (n : ByteArray) {r : Int} (e1 : (((mget D n).getD []).length : Int) = r) : Calls Try.prog 19 #[.pointer (some ⟨p, 0, none⟩), .string n] w1 fun e w2 => e = .returned (.int .i64 r) ∧ w1 = w2 := by
  obtain ⟨T, hT, rfl, hf', hfo, hK⟩ := h
  rw [← e1]
  exact Count_any hT n
theorem step_mid (h : Mid lim w w1 p m D K) (c : Cl) (hk0 : 0 ≤ c.kind) (hk1 : c.kind ≤ 255) {r : Int} {D' : Dat} {g : Va} (e1 : stepR lim D c = r) (e2 : stepD lim D c = D') (e3 : stepV lim D c = g) :
    Calls Try.prog 15 #[.pointer (some ⟨p, 0, none⟩), .agg c.cells] w1 fun e w2 => e = .returned (.tuple #[.agg #[.int .i64 g.kind, .int .i64 g.num, .string g.str], .int .i64 r]) ∧ Mid lim w w2 p m D' K := by
  obtain ⟨T, hT, rfl, hf', hfo, hK⟩ := h
  subst e1 e2 e3
  exact (step_any hT c hk0 hk1).mono fun e w2 hp => Mid.call hf' hfo hK hp
theorem Size_mid (h : Mid lim w w1 p m D K) {r : Int} (e1 : (tot D : Int) = r) : Calls Try.prog 18 #[.pointer (some ⟨p, 0, none⟩)] w1 fun e w2 => e = .returned (.int .i64 r) ∧ w1 = w2 := by
  obtain ⟨T, hT, rfl, hf', hfo, hK⟩ := h
  rw [← e1]
  exact Size_any hT
theorem Mid.fr (h : Mid lim w w1 p m D K) : Fr (fun _ => False) w w1 := by obtain ⟨T, hT, rfl, hf', hfo, hK⟩ := h; exact hf'
end

set_option maxHeartbeats 800000 in
set_option maxRecDepth 100000 in
theorem awake45 (w : World) : Calls Try.prog 13 #[] w fun e w' => e = .returned (.bool true) ∧ Fr (fun _ => False) w w' := by
  go_enter Try.func13, Try.ntmps13
  go_wp2_with fail
  refine (New_mid 1 _).mono ?_
  rintro e w1 ⟨p, m, rfl, hm⟩
  rw [show min (max (1 : Int) 0) 4096 = 1 from by decide] at hm
  have M1 := Lib.hid hm
  clear hm
  go_wp2_with fail
  refine (Get_mid M1.out bA bX aw1 aw2 aw3).mono ?_
  rintro e w2 ⟨rfl, hm⟩
  have M2 := Lib.hid ((hm.alloc (.cells #[.int .i64 0, .int .i64 0, .string ⟨#[]⟩] 28)).alloc (.cells #[.int .i64 1, .int .i64 5, .string ⟨#[]⟩] 28))
  clear hm M1
  unfold Va.zero
  simp only
  go_wp2_with fail
  refine (Set_mid M2.out bB bX 1 5 ⟨#[]⟩ aw4 aw5).mono ?_
  rintro e w3 ⟨rfl, hm⟩
  have M3 := Lib.hid hm
  have k2 := hm.at_ (List.mem_cons_self ..)
  have k1 := hm.at_ (List.mem_cons_of_mem _ (List.mem_cons_self ..))
  rw [World.size_alloc] at k2
  have c0 := cell_of_heap k2 0
  have c1 := cell_of_heap k2 1
  have c2 := cell_of_heap k2 2
  simp only [List.getElem?_toArray, List.getElem?_cons_zero, List.getElem?_cons_succ] at c0 c1 c2
  clear hm k1 k2
  go_wp2_with fail
  clear c0 c1 c2
  refine (Set_mid M3.out bA bX 1 5 ⟨#[]⟩ aw6 aw7).mono ?_
  rintro e w4 ⟨rfl, hm⟩
  have M4 := Lib.hid hm
  clear hm
  go_wp2_with fail
  refine (Get_mid M4.out bA bX aw8 aw9 aw10).mono ?_
  rintro e w5 ⟨rfl, hm⟩
  have M5 := Lib.hid (hm.alloc (.cells #[.int .i64 1, .int .i64 5, .string ⟨#[]⟩] 28))
  have k2 := hm.at_ (List.mem_cons_self ..)
  have k1 := hm.at_ (List.mem_cons_of_mem _ (List.mem_cons_self ..))
  rw [World.size_alloc] at k2
  have l1 := lt_of_heap k1
  have l2 := lt_of_heap k2
  have c0 := cell_of_heap k2 0
  have c1 := cell_of_heap k2 1
  have c2 := cell_of_heap k2 2
  have b0 := cell_of_heap k1 0
  have b1 := cell_of_heap k1 1
  have b2 := cell_of_heap k1 2
  simp only [List.getElem?_toArray, List.getElem?_cons_zero, List.getElem?_cons_succ] at c0 c1 c2 b0 b1 b2
  clear hm k1 k2
  unfold v15
  simp only
  go_wp2_with fail
  clear c0 c1 c2 b0 b1 b2
  refine (Size_mid M5.out (by rw [aw11])).mono ?_
  rintro e w6 ⟨rfl, rfl⟩
  go_wp2
  go_ret
  exact ⟨rfl, M5.out.fr⟩
end Go.Proofs.Ytejajmmacmcijaa
