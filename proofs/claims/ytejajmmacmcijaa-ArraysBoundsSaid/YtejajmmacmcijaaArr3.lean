import Derived.Test.YtejajmmacmcijaaArr2
namespace Go.Proofs.Ytejajmmacmcijaa
open Go.RowKit Go.MapKept Go.ChangeMaps

def setD (lim : Int) (D : Dat) (n k : ByteArray) (v : Va) : Dat := if roomR lim D n k = 0 then dput D n k v else D

theorem roomD_bad (lim : Int) (D : Dat) (n k : ByteArray) (h : roomR lim D n k ≠ 0) : roomD lim D n k = D := by
  unfold roomR roomD at *
  split at h
  · simp at h
  · split at h
    · rename_i h1 h2; rw [if_neg h1, if_pos h2]
    · simp at h
theorem mput_put {α : Type} (M : List (ByteArray × α)) (n : ByteArray) (x y : α) : mput (mput M n x) n y = mput M n y := by
  induction M with
  | nil => simp [mput]
  | cons t r ih =>
    obtain ⟨a, c⟩ := t
    by_cases ha : a = n <;> simp [mput, ha, ih]
theorem dput_dput (D : Dat) (n k : ByteArray) (x y : Va) : dput (dput D n k x) n k y = dput D n k y := by
  simp only [dput, mget_put, if_true, Option.getD, mput_put]
theorem dput_roomD (lim : Int) (D : Dat) (n k : ByteArray) (v : Va) (h : roomR lim D n k = 0) : dput (roomD lim D n k) n k v = dput D n k v := by
  unfold roomR roomD at *
  split
  · rfl
  · split
    · rfl
    · rw [dput_dput]

/-- the world behind a change of an inner map -/
theorem ArrT.inner {w w' : World} {p m : Nat} {T : Tbl} {lim : Int} (h : ArrT w p m T lim) {n : ByteArray} {b : Nat} {M M' : Inner} (hg : mget T n = some (b, M)) (hf : Fr (· = b) w w') (hM : MapAt w' b (mapV Va.enc M')) (hl : M'.length = M.length) : ArrT w' p m (mput T n (b, M')) lim := by
  have hb := h.ne_m (mget_mem hg)
  have ht := tot_put (datOf T) n M'
  rw [show mget (datOf T) n = some M from by simp [datOf, mget_mapV, hg]] at ht
  simp only [Option.getD] at ht
  have hd : tot (datOf (mput T n (b, M'))) = tot (datOf T) := by rw [datOf_put]; omega
  exact ⟨h.toArrM.inner hg hf hM, by rw [hd]; exact hf.keep h.cells (Ne.symm hb.2), h.lim0, h.limM, by rw [hd]; exact h.le⟩

theorem ArrPost.close2 {w w1 w2 : World} {p m : Nat} {T T' T'' : Tbl} {lim : Int} {o : Obj} {v : Value} {D' : Dat} (hT : ArrT w2 p m T'' lim) (hd : datOf T'' = D') (hf : Fr (foot p m T) (w.alloc o) w1)
    (hfoot : ∀ k, foot p m T' k → foot p m T k ∨ (w.alloc o).heap.size ≤ k) (h2 : Fr (foot p m T') w1 w2) (h3 : ∀ k, foot p m T'' k → foot p m T' k) : ArrPost w p m T lim v D' (.returned v) w2 := by
  have hs : (w.alloc o).heap.size = w.heap.size + 1 := by simp
  refine ⟨rfl, T'', hT, hd, ?_, fun k hk => (hfoot k (h3 k hk)).imp id (fun q => by omega)⟩
  exact (((Fr.refl (foot p m T) w).alloc o).trans hf fun k hk => .inl hk).trans h2 fun k hk => (hfoot k hk).imp id (fun q => by omega)
theorem foot_b {p m : Nat} {T : Tbl} {n : ByteArray} {b : Nat} {M : Inner} (h : mget T n = some (b, M)) : foot p m T b := by
  simp only [foot, List.mem_cons]; exact .inr (.inr (List.mem_map.2 ⟨_, mget_mem h, rfl⟩))

set_option maxHeartbeats 400000 in
set_option maxRecDepth 100000 in
theorem Set_any {w : World} {p m : Nat} {T : Tbl} {lim : Int} (h : ArrT w p m T lim) (n k : ByteArray) (v : Va) :
    Calls Try.prog 41 #[.pointer (some ⟨p, 0, none⟩), .string n, .string k, v.enc] w
      (ArrPost w p m T lim (.int .i64 (roomR lim (datOf T) n k)) (setD lim (datOf T) n k v)) := by
  have hr : ∀ x, Calls Try.prog 44 #[.pointer (some ⟨p, 0, none⟩), .string n, .string k] (w.alloc x) _ := fun x => room_any (h.fr0 ((Fr.refl _ _).alloc x)) n k
  have hnl : ¬ foot p m T w.heap.size := fun q => absurd (h.lt q) (Nat.lt_irrefl _)
  have HN := Lib.hid hnl
  clear hnl
  by_cases hz : roomR lim (datOf T) n k = 0
  · have hv := Lib.hid (roomD_get lim (datOf T) n k hz)
    have he := Lib.hid (dput_roomD lim (datOf T) n k v hz)
    rw [setD, if_pos hz]
    rw [hz] at hr ⊢
    clear hz
    unfold Va.enc
    go_enter Try.func41, Try.ntmps41
    go_wp2_with fail
    refine (hr _).mono ?_
    clear hr
    rintro e w1 ⟨rfl, T', hT', hd, hf, hfoot⟩
    have HD := Lib.hid hd
    have HF := Lib.hid hfoot
    have N1 := hf.new HN.out
    have NN := Lib.hid N1
    have c0 := cell_of_heap N1 0
    have c1 := cell_of_heap N1 1
    have c2 := cell_of_heap N1 2
    have d2 := cell_of_heap hT'.cells 2
    simp only [List.getElem?_toArray, List.getElem?_cons_zero, List.getElem?_cons_succ] at c0 c1 c2 d2
    obtain ⟨v0, hv1, hv2⟩ := hv.out
    rw [← hd] at hv1
    obtain ⟨b, M, g1, g2⟩ := dget_mget hv1
    have l1 := run_lookup_h Try.underlying62 Try.underlying9 zero_outer hT'.out n false (lookRes_some (v := .map (some b)) (by simp [outer, mget_mapV, g1])) w1.drew rfl
    have G1 := Lib.hid g1
    have G2 := Lib.hid g2
    have H1 := Lib.hid hT'
    clear hT' hd hfoot N1 hv1 hv2 g1 g2 hv
    go_wp2
    go_still_tail 8, (by kernel_rfl)
    change wpList _ _ _ _ _ w1.drew
    generalize hw2 : w1.drew = w2
    have f2 : Fr (fun _ => False) w1 w2 := by rw [← hw2]; exact (Fr.refl _ _).drew
    have H2 := Lib.hid (H1.out.fr0 f2)
    clear hw2 l1 c0 c1 c2 d2 H1
    obtain ⟨w3, u1, hM3, f3, hs3⟩ := run_mapUpdate_f Try.underlying68 Try.underlying9 (H2.out.inn _ (mget_mem G1.out)) k v.enc
    rw [mput_mapV] at hM3
    have hl : (mput M k v).length = M.length := by rw [mput_length, G2.out]; rfl
    have H3 := Lib.hid (H2.out.inner G1.out f3 hM3 hl)
    simp only [Va.enc] at u1
    have f23 := Lib.hid ((f2.mono (L' := (· = b)) fun _ _ q => q.elim).trans f3 fun k hk => .inl hk)
    have hd : datOf (mput T' n (b, mput M k v)) = dput (datOf T) n k v := by
      rw [← he.out, ← HD.out, datOf_put, dput]; congr 2; simp [datOf, mget_mapV, G1.out]
    have HD3 := Lib.hid hd
    clear hM3 hl f2 f3 hd
    go_wp2
    go_ret
    exact ArrPost.close2 H3.out HD3.out hf HF.out (f23.out.mono fun k _ hk => by rw [hk]; exact foot_b G1.out) fun k hk => (foot_put G1.out k).1 hk
  · have e1 : (roomR lim (datOf T) n k != 0) = true := by simpa using hz
    have hb := Lib.hid (roomD_bad lim (datOf T) n k hz)
    rw [setD, if_neg hz]
    generalize roomR lim (datOf T) n k = r at *
    clear hz
    unfold Va.enc
    go_enter Try.func41, Try.ntmps41
    go_wp2_with fail
    refine (hr _).mono ?_
    clear hr
    rintro e w1 ⟨rfl, T', hT', hd, hf, hfoot⟩
    have H1 := Lib.hid hT'
    rw [hb.out] at hd
    have HD := Lib.hid hd
    have HF := Lib.hid hfoot
    clear hT' hd hfoot
    go_wp2
    go_ret
    exact ArrPost.close HN.out H1.out HD.out hf HF.out (Fr.refl _ _)

/-- the data behind a delete -/
def delD (D : Dat) (n k : ByteArray) : Dat :=
  match mget D n with
  | none => D
  | some M => if (mget M k).isSome then (if (mdel M k).length = 0 then mdel D n else mput D n (mdel M k)) else D

def NewPost (w : World) (lim : Int) (e : Ending) (w' : World) : Prop := ∃ p m, e = .returned (.pointer (some ⟨p, 0, none⟩)) ∧ ArrT w' p m [] lim ∧ Fr (fun _ => False) w w' ∧ ∀ k, foot p m [] k → w.heap.size ≤ k
theorem ArrT_new (w : World) (lim : Int) (h0 : 0 ≤ lim) (h1 : lim ≤ 4096) : ArrT ((w.alloc (.map #[] 0)).alloc (.cells #[.int .i64 lim, .int .i64 0, .map (some w.heap.size)] 64)) (w.heap.size + 1) w.heap.size [] lim :=
  ⟨⟨by simp, (MapAt.new w).alloc _, by simp⟩, by have := (MapKept.heap_alloc (w.alloc (.map #[] 0)) (.cells #[.int .i64 lim, .int .i64 0, .map (some w.heap.size)] 64)).1; simpa [datOf, mapV, tot] using this, h0, h1, by simpa [datOf, mapV, tot] using h0⟩
theorem NewPost_mk (w : World) (lim x : Int) (h0 : 0 ≤ lim) (h1 : lim ≤ 4096) (hx : x = lim) : NewPost w x (.returned (.pointer (some ⟨w.heap.size + 1, 0, none⟩))) ((w.alloc (.map #[] 0)).alloc (.cells #[.int .i64 lim, .int .i64 0, .map (some w.heap.size)] 64)) :=
  ⟨_, _, rfl, by rw [hx]; exact ArrT_new w lim h0 h1, ((Fr.refl _ _).alloc _).alloc _, by simp [foot]⟩

set_option maxHeartbeats 400000 in
theorem New_any (x : Int) (w : World) : Calls Try.prog 14 #[.int .i64 x] w (NewPost w (min (max x 0) 4096)) := by
  have hmm := @run_makeMap Try.prog
  go_enter Try.func14, Try.ntmps14
  go_wp2
  all_goals go_ret
  all_goals exact NewPost_mk _ _ _ (by omega) (by omega) (by omega)

set_option maxHeartbeats 400000 in
theorem Size_any {w : World} {p m : Nat} {T : Tbl} {lim : Int} (h : ArrT w p m T lim) :
    Calls Try.prog 18 #[.pointer (some ⟨p, 0, none⟩)] w fun e w' => e = .returned (.int .i64 (tot (datOf T))) ∧ w = w' := by
  have c := cell_of_heap h.cells 1
  simp only [List.getElem?_toArray, List.getElem?_cons_zero, List.getElem?_cons_succ] at c
  clear h
  go_enter Try.func18, Try.ntmps18
  go_wp2
  go_ret
  exact ⟨rfl, rfl⟩

set_option maxHeartbeats 400000 in
theorem Count_any {w : World} {p m : Nat} {T : Tbl} {lim : Int} (h : ArrT w p m T lim) (n : ByteArray) :
    Calls Try.prog 19 #[.pointer (some ⟨p, 0, none⟩), .string n] w fun e w' => e = .returned (.int .i64 ((mget (datOf T) n).getD []).length) ∧ w = w' := by
  have c := cell_of_heap h.cells 2
  simp only [List.getElem?_toArray, List.getElem?_cons_zero, List.getElem?_cons_succ] at c
  rcases outer_get T n with ⟨h0, h1, h2⟩ | ⟨b, M, h0, h1, h2, h3⟩
  · have l1 := run_lookup_h Try.underlying62 Try.underlying9 zero_outer h.out n false (lookRes_none h1) w rfl
    have l2 := run_len_nil (w := w) Try.underlying68 3
    rw [h2]
    clear h h0 h1 h2
    go_enter Try.func19, Try.ntmps19
    go_wp2
    go_ret
    exact ⟨rfl, rfl⟩
  · have l1 := run_lookup_h Try.underlying62 Try.underlying9 zero_outer h.out n false (lookRes_some h1) w rfl
    have l2 := run_len_m (w := w) Try.underlying68 (h.inn _ h3) 3
    rw [mapV_length] at l2
    rw [h2]
    clear h h0 h1 h2 h3
    go_enter Try.func19, Try.ntmps19
    go_wp2
    go_ret
    exact ⟨rfl, rfl⟩

theorem mdel_mput {α : Type} (M : List (ByteArray × α)) (n : ByteArray) (x : α) (hn : (M.map (·.1)).Nodup) : mdel (mput M n x) n = mdel M n := by
  induction M with
  | nil => simp [mput, mdel]
  | cons t r ih =>
    obtain ⟨a, c⟩ := t
    simp only [List.map_cons, List.nodup_cons] at hn
    by_cases ha : a = n
    · simp [mput, mdel, ha]
    · simp [mput, mdel, ha, ih hn.2]
/-- an inner map was struck -/
theorem ArrM.strike {w w' : World} {p m : Nat} {T : Tbl} (h : ArrM w p m T) (n : ByteArray) (hf : Fr (· = m) w w') (hM : MapAt w' m (mdel (outer T) n)) : ArrM w' p m (mdel T n) := by
  have hsub : ((mdel T n).map (·.2.1)).Sublist (T.map (·.2.1)) := by
    clear hM h
    induction T with
    | nil => simp [mdel]
    | cons t r ih =>
      obtain ⟨a, c⟩ := t
      by_cases ha : a = n
      · simp [mdel, ha]
      · simp only [mdel, if_neg ha, List.map_cons]; exact ih.cons_cons _
  refine ⟨((hsub.cons_cons m).cons_cons p).nodup h.nodup, by rw [outer, ← mdel_mapV]; exact hM, fun t ht => ?_⟩
  have ht := (mem_mdel h.keys ht).1
  exact (h.inn t ht).fr hf (h.ne_m (n := t.1) (b := t.2.1) (M := t.2.2) ht).1
theorem foot_del {p m : Nat} {T : Tbl} {n : ByteArray} (hk : (T.map (·.1)).Nodup) {k : Nat} (h : foot p m (mdel T n) k) : foot p m T k := by
  simp only [foot, List.mem_cons] at h ⊢
  rcases h with h | h | h
  · exact .inl h
  · exact .inr (.inl h)
  · obtain ⟨t, ht, e⟩ := List.mem_map.1 h
    exact .inr (.inr (List.mem_map.2 ⟨t, (mem_mdel hk ht).1, e⟩))
theorem datOf_del (T : Tbl) (n : ByteArray) : datOf (mdel T n) = mdel (datOf T) n := by rw [datOf, datOf, ← mdel_mapV]
theorem tot_le {T : Tbl} {n : ByteArray} {b : Nat} {M : Inner} (h : mget T n = some (b, M)) : M.length ≤ tot (datOf T) := by
  have := tot_del (datOf T) n
  rw [show mget (datOf T) n = some M from by simp [datOf, mget_mapV, h]] at this
  simp only [Option.getD] at this; omega

set_option maxHeartbeats 400000 in
set_option maxRecDepth 100000 in
theorem Clear_any {w : World} {p m : Nat} {T : Tbl} {lim : Int} (h : ArrT w p m T lim) (n : ByteArray) :
    Calls Try.prog 43 #[.pointer (some ⟨p, 0, none⟩), .string n] w (ArrPost w p m T lim (.tuple #[]) (mdel (datOf T) n)) := by
  have c2 := cell_of_heap h.cells 2
  have c1 := cell_of_heap h.cells 1
  simp only [List.getElem?_toArray, List.getElem?_cons_zero, List.getElem?_cons_succ] at c1 c2
  have lim0 := h.lim0
  have limM := h.limM
  have hle := h.le
  have f1 := free_of_heap h.cells 1
  have H := Lib.hid h
  obtain ⟨q, r, l1, l2, hq1, hq2⟩ : ∃ q : Nat, ∃ r, (Instr.lookup 62 (.map (some m)) (.string n) false).run Try.prog w.drew = .ok (.map r) w.drew ∧
      (Builtin.len_ #[68] 3 #[.map r]).run Try.prog w.drew = .ok (.int .i64 q) w.drew ∧ q ≤ tot (datOf T) ∧ tot (mdel (datOf T) n) + q = tot (datOf T) := by
    have htd := tot_del (datOf T) n
    rcases outer_get T n with ⟨h0, h1, h2⟩ | ⟨b, M, h0, h1, h2, h3⟩
    · rw [h2] at htd
      refine ⟨0, none, run_lookup_h Try.underlying62 Try.underlying9 zero_outer h.out n false (lookRes_none h1) w.drew rfl, run_len_nil Try.underlying68 3, by omega, by simpa using htd⟩
    · rw [h2] at htd
      refine ⟨M.length, some b, run_lookup_h Try.underlying62 Try.underlying9 zero_outer h.out n false (lookRes_some h1) w.drew rfl, ?_, by simp at htd; omega, by simpa using htd⟩
      have := run_len_h Try.underlying68 (h.inn _ h3) 3 w.drew rfl
      rwa [mapV_length] at this
  clear h
  go_enter Try.func43, Try.ntmps43
  go_wp2
  go_still_tail 14, (by kernel_rfl)
  change wpList _ _ _ _ _ w.drew
  generalize hw1 : w.drew = w1
  have fr1 : Fr (fun _ => False) w w1 := by rw [← hw1]; exact (Fr.refl _ _).drew
  have H1 := Lib.hid (H.out.fr0 fr1)
  clear l1 l2 c1 c2 f1 hw1
  have c1 := cell_of_heap H1.out.cells 1
  have c2 := cell_of_heap H1.out.cells 2
  have f1 := free_of_heap H1.out.cells 1
  simp only [List.getElem?_toArray, List.getElem?_cons_zero, List.getElem?_cons_succ] at c1 c2
  have hpm : m ≠ p := by have := H1.out.nodup; simp only [List.nodup_cons, List.mem_cons, not_or] at this; exact Ne.symm this.1.1
  obtain ⟨w3, u1, hM3, f3, hs3⟩ := run_delete_f Try.underlying62 Try.underlying9 (H1.out.out.setCell ⟨p, 1, none⟩ (.int .i64 ((tot (datOf T) : Int) - q)) hpm) n 0
  have hM : ArrM (w1.setCell ⟨p, 1, none⟩ (.int .i64 ((tot (datOf T) : Int) - q))) p m T := H1.out.toArrM.fr ((Fr.refl (· = p) _).setCell _ _ (.inl rfl)) fun _ _ hk => hk
  have HM3 := Lib.hid (hM.strike n f3 hM3)
  have hc3 := f3.keep (heap_setCell_same w1 p 1 (.int .i64 ((tot (datOf T) : Int) - q)) H1.out.cells) (Ne.symm hpm)
  have HC3 := Lib.hid hc3
  have F13 := Lib.hid ((((fr1.mono (L' := foot p m T) fun _ _ q => q.elim).setCell ⟨p, 1, none⟩ (.int .i64 ((tot (datOf T) : Int) - q)) (.inl (by simp [foot]))).trans f3 fun k hk => .inl (by have : k = m := hk; rw [this]; simp [foot])))
  have HQ2 := Lib.hid hq2
  clear hM3 hM hc3 hq2
  go_wp2
  go_end0
  have ht : (tot (datOf T) : Int) - q = tot (datOf (mdel T n)) := by rw [datOf_del]; have := HQ2.out; omega
  refine ⟨rfl, mdel T n, ⟨HM3.out, by rw [← ht]; exact HC3.out, lim0, limM, by rw [← ht]; omega⟩, datOf_del T n, F13.out, fun k hk => .inl (foot_del H.out.keys hk)⟩
end Go.Proofs.Ytejajmmacmcijaa
