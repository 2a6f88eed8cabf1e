import Derived.Test.YtejajmmacmcijaaArr3
namespace Go.Proofs.Ytejajmmacmcijaa
open Go.RowKit Go.MapKept Go.ChangeMaps

theorem dget_isSome {D : Dat} {n k : ByteArray} : (dget D n k).isSome = true ↔ ∃ M v, mget D n = some M ∧ mget M k = some v := by
  unfold dget
  cases h : mget D n with
  | none => simp
  | some M => simp [Option.isSome_iff_exists]
theorem delD_no {D : Dat} {n k : ByteArray} (h : (dget D n k).isSome = false) : delD D n k = D := by
  unfold delD
  cases hm : mget D n with
  | none => rfl
  | some M =>
    have : mget M k = none := by simpa [dget, hm] using h
    simp [this]

set_option maxHeartbeats 800000 in
set_option maxRecDepth 100000 in
theorem Delete_any {w : World} {p m : Nat} {T : Tbl} {lim : Int} (h : ArrT w p m T lim) (n k : ByteArray) :
    Calls Try.prog 42 #[.pointer (some ⟨p, 0, none⟩), .string n, .string k] w (ArrPost w p m T lim (.tuple #[]) (delD (datOf T) n k)) := by
  have hh := Has_any h n k
  have H := Lib.hid h
  cases hs : (dget (datOf T) n k).isSome
  · rw [hs] at hh
    rw [delD_no hs]
    clear hs h
    go_enter Try.func42, Try.ntmps42
    go_wp2_with (go_at_call 16; refine hh.mono ?_; rintro e w1 ⟨rfl, hf⟩)
    go_end0
    exact ⟨rfl, T, H.out.fr0 hf, rfl, hf.mono fun _ _ q => q.elim, fun _ q => .inl q⟩
  · rw [hs] at hh
    obtain ⟨v, hv⟩ := Option.isSome_iff_exists.1 hs
    obtain ⟨b, M, g1, g2⟩ := dget_mget hv
    have hgd : mget (datOf T) n = some M := by simp [datOf, mget_mapV, g1]
    have hMl : (mdel M k).length + 1 = M.length := by
      rw [mdel_length, g2]
      have : 0 < M.length := by cases M <;> simp_all [mget]
      simp; omega
    have hpm : m ≠ p := by have := h.nodup; simp only [List.nodup_cons, List.mem_cons, not_or] at this; exact Ne.symm this.1.1
    have hbp := (h.ne_m (mget_mem g1)).2
    have hbm := (h.ne_m (mget_mem g1)).1
    have ht2 := tot_put (datOf T) n (mdel M k)
    rw [hgd] at ht2
    simp only [Option.getD] at ht2
    have hd2 : datOf (mput T n (b, mdel M k)) = mput (datOf T) n (mdel M k) := datOf_put T n b _
    have lim0 := h.lim0
    have limM := h.limM
    have hle := h.le
    have G1 := Lib.hid g1
    have HT2 := Lib.hid ht2
    have htp : 1 ≤ tot (datOf T) := by have := tot_le g1; omega
    have HML := Lib.hid hMl
    have HD2 := Lib.hid hd2
    have g3 : mget (mput T n (b, mdel M k)) n = some (b, mdel M k) := by rw [mget_put, if_pos rfl]
    have G3 := Lib.hid g3
    have hdel : delD (datOf T) n k = if (mdel M k).length = 0 then mdel (datOf T) n else mput (datOf T) n (mdel M k) := by simp [delD, hgd, g2]
    have HDEL := Lib.hid hdel
    clear hs h hv g1 g2 hgd ht2 hMl hd2 g3 hdel
    go_enter Try.func42, Try.ntmps42
    go_wp2_with fail
    refine hh.mono ?_
    rintro e w1 ⟨rfl, hf⟩
    clear hh
    have H1 := Lib.hid (H.out.fr0 hf)
    have c2 := cell_of_heap H1.out.cells 2
    simp only [List.getElem?_toArray, List.getElem?_cons_zero, List.getElem?_cons_succ] at c2
    have l1 := run_lookup_h Try.underlying62 Try.underlying9 zero_outer H1.out.out n false (lookRes_some (v := .map (some b)) (by simp [outer, mget_mapV, G1.out])) w1 rfl
    obtain ⟨w2, u1, hM2, f2, hs2⟩ := run_delete_f Try.underlying68 Try.underlying9 (H1.out.inn _ (mget_mem G1.out)) k 0
    rw [mdel_mapV] at hM2
    have H2 := Lib.hid (H1.out.toArrM.inner G1.out f2 hM2)
    have cc2 := f2.keep H1.out.cells (Ne.symm hbp)
    have k1 := cell_of_heap cc2 1
    have k1' := free_of_heap cc2 1
    simp only [List.getElem?_toArray, List.getElem?_cons_zero, List.getElem?_cons_succ] at k1
    -- behind the size
    have H3 : ArrT (w2.setCell ⟨p, 1, none⟩ (.int .i64 ((tot (datOf T) : Int) - 1))) p m (mput T n (b, mdel M k)) lim :=
      ArrT.size_set H2.out cc2 (by rw [HD2.out]; have := HT2.out; have := HML.out; omega) lim0 limM (by rw [HD2.out]; have := HT2.out; have := HML.out; omega)
    have HH3 := Lib.hid H3
    have d2 := cell_of_heap H3.cells 2
    simp only [List.getElem?_toArray, List.getElem?_cons_zero, List.getElem?_cons_succ] at d2
    have l2 := run_lookup_h Try.underlying62 Try.underlying9 zero_outer H3.out n false (lookRes_some (v := .map (some b)) (by simp [outer, mget_mapV, G3.out])) _ rfl
    have l3 := run_len_m Try.underlying68 (H3.inn _ (mget_mem G3.out)) 3
    rw [mapV_length] at l3
    simp only at l3
    have F3 := Lib.hid ((((hf.mono (L' := foot p m T) fun _ _ q => q.elim).trans f2 fun k hk => .inl (by have : k = b := hk; rw [this]; exact foot_b G1.out)).setCell ⟨p, 1, none⟩ (.int .i64 ((tot (datOf T) : Int) - 1)) (.inl (by simp [foot]))))
    obtain ⟨w4, u4, hM4, f4, hs4⟩ := run_delete_f Try.underlying62 Try.underlying9 H3.out n 0
    have HM4 := Lib.hid hM4
    clear H3 hM2 cc2 hs2 hM4 hs4
    by_cases hz : (mdel M k).length = 0
    · have e0 : (((mdel M k).length : Int) == 0) = true := by simpa using hz
      have HZ := Lib.hid hz
      clear hz
      go_wp2
      go_end0
      have h3 := HH3.out
      have htd := tot_del (datOf (mput T n (b, mdel M k))) n
      rw [show mget (datOf (mput T n (b, mdel M k))) n = some (mdel M k) from by simp [datOf, mget_mapV, G3.out]] at htd
      simp only [Option.getD, HZ.out, Nat.add_zero] at htd
      refine ⟨rfl, mdel (mput T n (b, mdel M k)) n, ⟨h3.toArrM.strike n f4 HM4.out, ?_, lim0, limM, ?_⟩, ?_, F3.out.trans f4 fun x hx => .inl (by have : x = m := hx; rw [this]; simp [foot]), fun x hx => .inl ((foot_put G1.out x).1 (foot_del h3.keys hx))⟩
      · rw [datOf_del, htd]; exact f4.keep h3.cells (Ne.symm hpm)
      · rw [datOf_del, htd]; exact h3.le
      · rw [datOf_del, HD2.out, HDEL.out, if_pos HZ.out, mdel_mput]
        rw [datOf, mapV_keys]; exact H.out.keys
    · have e0 : (((mdel M k).length : Int) == 0) = false := by simpa using hz
      have HZ := Lib.hid hz
      clear hz u4 f4
      go_wp2
      go_end0
      refine ⟨rfl, _, HH3.out, ?_, F3.out, fun k hk => .inl ((foot_put G1.out k).1 hk)⟩
      rw [HD2.out, HDEL.out, if_neg HZ.out]
end Go.Proofs.Ytejajmmacmcijaa
