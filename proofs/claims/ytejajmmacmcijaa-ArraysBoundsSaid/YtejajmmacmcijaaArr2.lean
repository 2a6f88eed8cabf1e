import Derived.Test.YtejajmmacmcijaaArr
namespace Go.Proofs.Ytejajmmacmcijaa
open Go.RowKit Go.MapKept Go.ChangeMaps

theorem dget_dput (D : Dat) (n k : ByteArray) (v : Va) (n' k' : ByteArray) : dget (dput D n k v) n' k' = if n = n' ∧ k = k' then some v else dget D n' k' := by
  unfold dget dput
  rw [mget_put]
  by_cases hn : n = n'
  · subst hn
    simp only [if_true, Option.bind, true_and, mget_put]
    by_cases hk : k = k'
    · simp [hk]
    · simp only [hk, if_false]
      cases mget D n <;> simp [mget]
  · simp [hn]
theorem roomD_get (lim : Int) (D : Dat) (n k : ByteArray) (h : roomR lim D n k = 0) : ∃ v, dget (roomD lim D n k) n k = some v ∧ v = (dget D n k).getD Va.zero := by
  unfold roomR roomD at *
  split at h
  · rename_i hs
    rw [if_pos hs]
    obtain ⟨v, hv⟩ := Option.isSome_iff_exists.1 hs
    exact ⟨v, hv, by rw [hv]; rfl⟩
  · rename_i hs
    split at h
    · simp at h
    · rename_i hl
      rw [if_neg hs, if_neg hl]
      refine ⟨Va.zero, by simp [dget_dput], ?_⟩
      cases hd : dget D n k <;> simp_all
theorem dget_mget {T : Tbl} {n k : ByteArray} {v : Va} (h : dget (datOf T) n k = some v) : ∃ b M, mget T n = some (b, M) ∧ mget M k = some v := by
  rcases outer_get T n with ⟨h0, h1, h2⟩ | ⟨b, M, h0, h1, h2, h3⟩
  · simp [dget, h2] at h
  · exact ⟨b, M, h0, by simpa [dget, h2] using h⟩

def ArrPost (w : World) (p m : Nat) (T : Tbl) (lim : Int) (v : Value) (D' : Dat) (e : Ending) (w' : World) : Prop :=
  e = .returned v ∧ ∃ T', ArrT w' p m T' lim ∧ datOf T' = D' ∧ Fr (foot p m T) w w' ∧ ∀ k, foot p m T' k → foot p m T k ∨ w.heap.size ≤ k

def getV (lim : Int) (D : Dat) (n k : ByteArray) : Va := if roomR lim D n k = 0 then (dget D n k).getD Va.zero else Va.zero

theorem ArrM.lt {w : World} {p m : Nat} {T : Tbl} (h : ArrM w p m T) (hp : p < w.heap.size) {k : Nat} (hk : foot p m T k) : k < w.heap.size := by
  simp only [foot, List.mem_cons] at hk
  rcases hk with rfl | rfl | hk
  · exact hp
  · exact h.out.lt
  · obtain ⟨t, ht, rfl⟩ := List.mem_map.1 hk
    exact (h.inn t ht).lt
theorem ArrT.lt {w : World} {p m : Nat} {T : Tbl} {lim : Int} (h : ArrT w p m T lim) {k : Nat} (hk : foot p m T k) : k < w.heap.size := h.toArrM.lt (lt_of_heap h.cells) hk

theorem ArrPost.close {w w1 w2 : World} {p m : Nat} {T T' : Tbl} {lim : Int} {o : Obj} {v : Value} {D' : Dat} (h : ¬ foot p m T w.heap.size) (hT' : ArrT w1 p m T' lim) (hd : datOf T' = D') (hf : Fr (foot p m T) (w.alloc o) w1)
    (hfoot : ∀ k, foot p m T' k → foot p m T k ∨ (w.alloc o).heap.size ≤ k) (h2 : Fr (· = w.heap.size) w1 w2) : ArrPost w p m T lim v D' (.returned v) w2 := by
  have hs : (w.alloc o).heap.size = w.heap.size + 1 := by simp
  refine ⟨rfl, T', hT'.fr h2 ?_, hd, ?_, fun k hk => (hfoot k hk).imp id (fun q => by omega)⟩
  · intro k hk e
    have e : k = w.heap.size := e
    subst e
    rcases hfoot _ hk with q | q
    · exact h q
    · omega
  · exact (((Fr.refl (foot p m T) w).alloc o).trans hf fun k hk => .inl hk).trans h2 fun k hk => .inr (by have : k = w.heap.size := hk; omega)
theorem setCell3 (w : World) (b : Nat) (x y z : Value) : Fr (· = b) w (((w.setCell ⟨b, 0, none⟩ x).setCell ⟨b, 1, none⟩ y).setCell ⟨b, 2, none⟩ z) :=
  (((Fr.refl (· = b) w).setCell _ _ (.inl rfl)).setCell _ _ (.inl rfl)).setCell _ _ (.inl rfl)

set_option maxHeartbeats 400000 in
set_option maxRecDepth 100000 in
theorem Get_any {w : World} {p m : Nat} {T : Tbl} {lim : Int} (h : ArrT w p m T lim) (n k : ByteArray) :
    Calls Try.prog 17 #[.pointer (some ⟨p, 0, none⟩), .string n, .string k] w
      (ArrPost w p m T lim (.tuple #[(getV lim (datOf T) n k).enc, .int .i64 (roomR lim (datOf T) n k)]) (roomD lim (datOf T) n k)) := by
  have hr : ∀ x, Calls Try.prog 44 #[.pointer (some ⟨p, 0, none⟩), .string n, .string k] (w.alloc x) _ := fun x => room_any (h.fr0 ((Fr.refl _ _).alloc x)) n k
  have hnl : ¬ foot p m T w.heap.size := fun q => absurd (h.lt q) (Nat.lt_irrefl _)
  have HN := Lib.hid hnl
  clear hnl
  by_cases hz : roomR lim (datOf T) n k = 0
  · have hv := Lib.hid (roomD_get lim (datOf T) n k hz)
    rw [getV, if_pos hz]
    rw [hz] at hr ⊢
    clear hz
    go_enter Try.func17, Try.ntmps17
    go_wp2_with fail
    refine (hr _).mono ?_
    clear hr
    rintro e w1 ⟨rfl, T', hT', hd, hf, hfoot⟩
    have H1 := Lib.hid hT'
    have HD := Lib.hid hd
    have HF := Lib.hid hfoot
    have N1 := hf.new HN.out
    have f0 := free_of_heap N1 0
    have f1 := free_of_heap N1 1
    have f2 := free_of_heap N1 2
    have c0 := cell_of_heap N1 0
    have c1 := cell_of_heap N1 1
    have c2 := cell_of_heap N1 2
    have d2 := cell_of_heap hT'.cells 2
    simp only [List.getElem?_toArray, List.getElem?_cons_zero, List.getElem?_cons_succ] at c0 c1 c2 d2
    obtain ⟨v, hv1, hv2⟩ := hv.out
    rw [← hd] at hv1
    obtain ⟨b, M, g1, g2⟩ := dget_mget hv1
    have l1 := run_lookup_m Try.underlying62 Try.underlying9 (zero_outer w1) hT'.out n false
    have l2 := run_lookup_m Try.underlying68 Try.underlying9 (zero_inner w1) (hT'.inn _ (mget_mem g1)) k false
    rw [lookRes, show mget (outer T') n = some (.map (some b)) from by simp [outer, mget_mapV, g1]] at l1
    rw [lookRes, mget_mapV, g2] at l2
    simp only [Option.getD, Option.map, Va.enc, Bool.false_eq_true, if_false] at l1 l2
    have HV2 := Lib.hid hv2
    clear hT' hd hfoot N1 hv1 hv2 g1 g2 hv
    go_wp2
    refine bodyPost_ret (v := .tuple #[.agg #[.int .i64 v.kind, .int .i64 v.num, .string v.str], .int .i64 0]) (by simp [results, Try.results17, go_sem, c0, c1, c2]) rfl ?_
    rw [← HV2.out]
    exact ArrPost.close HN.out H1.out HD.out hf HF.out (setCell3 _ _ _ _ _)
  · have e1 : (roomR lim (datOf T) n k != 0) = true := by simpa using hz
    rw [getV, if_neg hz]
    generalize roomR lim (datOf T) n k = r at *
    clear hz
    go_enter Try.func17, Try.ntmps17
    go_wp2_with fail
    refine (hr _).mono ?_
    clear hr
    rintro e w1 ⟨rfl, T', hT', hd, hf, hfoot⟩
    have H1 := Lib.hid hT'
    have HD := Lib.hid hd
    have HF := Lib.hid hfoot
    have N1 := hf.new HN.out
    have f0 := free_of_heap N1 0
    have f1 := free_of_heap N1 1
    have f2 := free_of_heap N1 2
    have c0 := cell_of_heap N1 0
    have c1 := cell_of_heap N1 1
    have c2 := cell_of_heap N1 2
    simp only [List.getElem?_toArray, List.getElem?_cons_zero, List.getElem?_cons_succ] at c0 c1 c2
    clear hT' hd hfoot N1
    go_wp2
    refine bodyPost_ret (v := .tuple #[.agg #[.int .i64 0, .int .i64 0, .string ⟨#[]⟩], .int .i64 r]) (by simp [results, Try.results17, go_sem, c0, c1, c2]) rfl ?_
    exact ArrPost.close HN.out H1.out HD.out hf HF.out (setCell3 _ _ _ _ _)
end Go.Proofs.Ytejajmmacmcijaa
