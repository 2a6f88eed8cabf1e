/- The statement ArraysBounds: the number of elements is the sum of the counts of all arrays and never above the limit, and a call that returns an error changes nothing. -/
import Derived.Test.YtejajmmacmcijaaArr9
namespace Go.Proofs.Ytejajmmacmcijaa
open Go.RowKit Go.MapKept Go.ChangeMaps

theorem Mid.quiet {lim : Int} {w w1 w2 : World} {p m : Nat} {D : Dat} {K : List (Nat × Obj)} (h : Mid lim w w1 p m D K) (hq : Quiet w1 w2) : Mid lim w w2 p m D K := by
  obtain ⟨T, hT, hd, hf', hfo, hK⟩ := h
  exact ⟨T, hT.fr0 hq.fr, hd, hf'.trans hq.fr fun _ q => q.elim, hfo, fun x hx => ⟨by rw [hq.heap]; exact (hK x hx).1, (hK x hx).2⟩⟩
theorem Mid.frame0 {lim : Int} {w w1 w2 : World} {p m : Nat} {D : Dat} {K : List (Nat × Obj)} (h : Mid lim w w1 p m D K) (hf : Fr (fun _ => False) w1 w2) : Mid lim w w2 p m D K := by
  obtain ⟨T, hT, hd, hf', hfo, hK⟩ := h
  exact ⟨T, hT.fr0 hf, hd, hf'.trans hf fun _ q => q.elim, hfo, fun x hx => ⟨hf.keep (hK x hx).1 (fun q => q), (hK x hx).2⟩⟩

/-- an error: the limit is reached, there is no such element, nothing changes -/
theorem step_err {lim : Int} {D : Dat} {c : Cl} (hle : (tot D : Int) ≤ lim) (h : stepR lim D c ≠ 0) : stepR lim D c = 3 ∧ (tot D : Int) = lim ∧ stepD lim D c = D ∧ (dget D c.name c.key).isSome = false := by
  have h1 := keep_other (lim := lim) (D := D) (c := c) (.inr (.inr h))
  have hr : roomR lim D c.name c.key ≠ 0 ∧ stepR lim D c = roomR lim D c.name c.key := by
    unfold stepR at *
    split at h <;> rename_i h0
    · exact ⟨h, by simp [h0]⟩
    · split at h <;> rename_i h2
      · exact ⟨h, by simp [h2]⟩
      · simp at h
  rw [hr.2]
  have hr1 := hr.1
  unfold roomR at hr1 ⊢
  split at hr1 <;> rename_i h3
  · simp at hr1
  · split at hr1 <;> rename_i h4
    · rw [if_neg h3, if_pos h4]
      exact ⟨rfl, by omega, h1, by simpa using h3⟩
    · simp at hr1

theorem ClsAt.fr {w w' : World} {A : Option Addr} {n : Nat} {cs : Nat → Cl} (h : ClsAt w A n cs) (hf : Fr (fun _ => False) w w') : ClsAt w' A n cs := by
  intro hn
  obtain ⟨b, off, e, hlt, hc⟩ := h hn
  exact ⟨b, off, e, Nat.lt_of_lt_of_le hlt hf.size, fun i hi => ⟨(hc i hi).1, (hc i hi).2.1, fun j hj => (World.cell?_of_block (hf.block b hlt fun q => q)).trans ((hc i hi).2.2 j hj)⟩⟩
theorem lst_all {lim : Int} {w w1 : World} {p m : Nat} {D : Dat} {K : List (Nat × Obj)} (h : Mid lim w w1 p m D K) {n : Nat} {cs : Nat → Cl} (hk : ∀ a ∈ D.map (·.1), ∃ i, i < n ∧ (cs i).name = a) : lst D (fun i => (cs i).name) n = tot D :=
  lst_tot _ n D h.ok.1 hk

set_option maxHeartbeats 1600000 in
set_option maxRecDepth 100000 in
theorem Bounds_main (x : Int) (A : Option Addr) (n c : Nat) (cs : Nat → Cl) (w : World) (hn : n ≤ 80) (hA : ClsAt w A n cs) :
    Calls Try.prog 4 #[.int .i64 x, .slice A n c] w fun e w' => e = .returned (.bool true) ∧ Fr (fun _ => False) w w' := by
  go_enter Try.func4, Try.ntmps4
  go_wp2_with fail
  refine (New_mid x _).mono ?_
  rintro e w1 ⟨p, m, rfl, hm⟩
  have M1 := Lib.hid hm
  clear hm
  go_upto_if 18 with (fail)
  go_cut [0] (fun v wx => v = .int .i64 (max x 0) ∧ wx = w1)
  case first =>
    go_wp2
    all_goals go_meet
    all_goals exact ⟨by congr 1; omega, rfl⟩
  case rest =>
    obtain ⟨rfl, rfl⟩ := hcut
    generalize hmx : max x 0 = y at *
    have hy : 0 ≤ y := by omega
    clear hmx
    go_upto_if 20 with (fail)
    go_cut [0] (fun v wy => v = .int .i64 (min y 4096) ∧ wy = wc)
    case first =>
      go_wp2
      all_goals go_meet
      all_goals exact ⟨by congr 1; omega, rfl⟩
    case rest =>
      obtain ⟨rfl, rfl⟩ := hcut
      generalize min y 4096 = lim at *
      clear hy
      go_wp2_with fail
      go_loopw [6] (fun i wr => ∃ k : Nat, k ≤ n ∧ i = .int .i64 k ∧ Mid lim w wr p m (datK lim cs k) []) (fun i _ => n - (intOf i).toNat)
      case atStart => exact ⟨0, Nat.zero_le _, rfl, M1.out⟩
      case round =>
        obtain ⟨k, hk, rfl, hm⟩ := hrel
        clear M1
        by_cases hlt : k < n
        · obtain ⟨b, off, rfl, hb, hcs⟩ := hA (by omega)
          obtain ⟨hk0, hk1, hcells⟩ := hcs k hlt
          have M := Lib.hid hm
          have HL := Lib.hid hm.lims
          have HA := Lib.hid (show ClsAt w (some ⟨b, off, none⟩) n cs from fun _ => ⟨b, off, rfl, hb, hcs⟩)
          have HKS := Lib.hid (show datK lim cs (k + 1) = stepD lim (datK lim cs k) (cs k) from rfl)
          have HKEYS := Lib.hid (show ∀ a ∈ (stepD lim (datK lim cs k) (cs k)).map (·.1), ∃ i, i < n ∧ (cs i).name = a from fun a ha => by
            obtain ⟨i, hi, e⟩ := keys_datK lim cs (k + 1) a ha
            exact ⟨i, by omega, e⟩)
          have HCE := Lib.hid hcells
          have a0 := (hm.cell hb).trans (hcells 0 (by omega))
          have a1 := (hm.cell hb).trans (hcells 1 (by omega))
          have a2 := (hm.cell hb).trans (hcells 2 (by omega))
          have a3 := (hm.cell hb).trans (hcells 3 (by omega))
          have a4 := (hm.cell hb).trans (hcells 4 (by omega))
          have a5 := (hm.cell hb).trans (hcells 5 (by omega))
          simp only [Cl.cells, List.getElem?_toArray, List.getElem?_cons_zero, List.getElem?_cons_succ, Nat.add_zero] at a0 a1 a2 a3 a4 a5
          clear hcs hcells hA hm
          generalize datK lim cs k = D at *
          generalize hck : cs k = ck at *
          have HCK := Lib.hid hck
          clear hck
          have hS : ∀ q, Calls Try.prog 18 #[.pointer (some ⟨p, 0, none⟩)] (wr.drewN q) fun e w' => e = .returned (.int .i64 (tot D)) ∧ w' = wr.drewN q := fun q => (Size_mid (M.out.quiet ⟨q, rfl⟩) rfl).mono fun e w' ⟨h1, h2⟩ => ⟨h1, h2.symm⟩
          have hC : ∀ q, Calls Try.prog 19 #[.pointer (some ⟨p, 0, none⟩), .string ck.name] (wr.drewN q) fun e w' => e = .returned (.int .i64 (cnt D ck.name)) ∧ w' = wr.drewN q := fun q => (Count_mid (M.out.quiet ⟨q, rfl⟩) ck.name rfl).mono fun e w' ⟨h1, h2⟩ => ⟨h1, h2.symm⟩
          have HS := Lib.hid hS
          have HC := Lib.hid hC
          clear hS hC
          go_wp2_with fail
          go_quiet ((first | (go_at_call 18; exact Calls.quiet_of_same (HS.out _)) | (go_at_call 19; exact Calls.quiet_of_same (HC.out _))))
          have M2 := Lib.hid (M.out.quiet ⟨nq, rfl⟩)
          have hst := step_mid M2.out ck hk0 hk1 rfl rfl rfl
          unfold Cl.cells at hst
          go_wp2_with fail
          refine hst.mono ?_
          rintro e w2 ⟨rfl, hm2⟩
          clear hst a0 a1 a2 a3 a4 a5
          have M3 := Lib.hid (hm2.alloc (.cells #[.int .i64 (stepV lim D ck).kind, .int .i64 (stepV lim D ck).num, .string (stepV lim D ck).str] 28))
          clear hm2
          simp only
          by_cases he : stepR lim D ck = 0
          · have e0 : (stepR lim D ck != 0) = false := by simpa using he
            clear he
            go_wp2_with fail
            go_quiet (fail)
            generalize hw4 : World.drewN _ _ = w4
            have M4 := Lib.hid (show Mid lim w w4 p m (stepD lim D ck) [] from by rw [← hw4]; exact (M3.out.quiet ⟨_, rfl⟩).sub (by simp))
            clear hw4 M3 M M2
            clear HS HC
            generalize hD2 : stepD lim D ck = D2 at *
            clear hD2
            have htot : (tot D2 : Int) ≤ lim := M4.out.lims.2.2
            have hlst := Lib.hid (lst_all M4.out HKEYS.out)
            have hL4 := listed_any M4.out (some ⟨b, off, none⟩) n c cs hn (HA.out.fr M4.out.fr)
            rw [hlst.out] at hL4
            have hS4 := Size_mid M4.out rfl
            go_wp2_with fail
            refine hS4.mono ?_
            rintro e w' ⟨rfl, rfl⟩
            go_wp2_with fail
            refine hS4.mono ?_
            rintro e w' ⟨rfl, rfl⟩
            go_wp2_with fail
            refine hL4.mono ?_
            rintro e w5 ⟨rfl, hq5⟩
            have M5 := Lib.hid (M4.out.quiet hq5)
            clear hL4 hS4 hq5
            go_wp2
            go_roundw
            case rel => exact ⟨k + 1, by omega, by go_num, by rw [HKS.out]; exact M5.out.sub (by simp)⟩
            case measure => simp [intOf]; omega
          · obtain ⟨r1, r2, r3, r4⟩ := step_err HL.out.2.2 he
            rw [r3] at M3 HKS HKEYS
            generalize hgv : stepV lim D ck = gv at *
            rw [r1]
            have hn1 : ((tot D : Int) != lim) = false := by simp [r2]
            have hn2 : ((tot D : Int) != (tot D : Int)) = false := by simp
            have R4 := Lib.hid r4
            clear he r1 r2 r3 r4 hgv
            go_wp2_with fail
            generalize hw3 : w2.alloc _ = w3 at *
            have b1 := (M3.out.fr.block b hb (fun q => q))
            have a1 := (World.cell?_of_block (a := ⟨b, off + k * 6 + 1, none⟩) b1).trans (HCE.out 1 (by omega))
            have a2 := (World.cell?_of_block (a := ⟨b, off + k * 6 + 2, none⟩) b1).trans (HCE.out 2 (by omega))
            simp only [Cl.cells, List.getElem?_toArray, List.getElem?_cons_zero, List.getElem?_cons_succ] at a1 a2
            clear hw3 b1
            have M3d := Lib.hid (M3.out.quiet (w2 := w3.drew) ⟨1, rfl⟩)
            have hS3 : Calls Try.prog 18 #[.pointer (some ⟨p, 0, none⟩)] w3.drew fun e w' => e = .returned (.int .i64 (tot D)) ∧ w' = w3.drew := (Size_mid M3d.out rfl).mono fun e w' ⟨h1, h2⟩ => ⟨h1, h2.symm⟩
            have hC3 : Calls Try.prog 19 #[.pointer (some ⟨p, 0, none⟩), .string ck.name] w3.drew fun e w' => e = .returned (.int .i64 (cnt D ck.name)) ∧ w' = w3.drew := (Count_mid M3d.out ck.name rfl).mono fun e w' ⟨h1, h2⟩ => ⟨h1, h2.symm⟩
            have HS3 := Lib.hid hS3
            have HC3 := Lib.hid hC3
            clear hS3 hC3
            refine wp_region_still_tail 39 (by kernel_rfl) (by kernel_rfl) ?_
            simp only [List.take_succ_cons, List.take_zero, List.drop_succ_cons, List.drop_zero]
            repeat still_step
            still_call HS3.out
            repeat still_step
            still_call HC3.out
            repeat still_step
            refine wpStill_nil ?_
            change wpList _ _ _ _ _ w3.drew
            generalize hw4 : w3.drew = w4 at *
            clear hw4 HS3 HC3 a1 a2 M3 HS HC M M2
            go_wp2_with fail
            refine (Has_mid M3d.out ck.name ck.key R4.out).mono ?_
            rintro e w5 ⟨rfl, hm5, -⟩
            have M4 := Lib.hid (hm5.sub (K' := []) (by simp))
            clear hm5 M3d hn1 hn2 R4
            have htot : (tot D : Int) ≤ lim := M4.out.lims.2.2
            have hlst := Lib.hid (lst_all M4.out HKEYS.out)
            have hL4 := listed_any M4.out (some ⟨b, off, none⟩) n c cs hn (HA.out.fr M4.out.fr)
            rw [hlst.out] at hL4
            have hS4 := Size_mid M4.out rfl
            go_wp2_with fail
            refine hS4.mono ?_
            rintro e w' ⟨rfl, rfl⟩
            go_wp2_with fail
            refine hS4.mono ?_
            rintro e w' ⟨rfl, rfl⟩
            go_wp2_with fail
            refine hL4.mono ?_
            rintro e w5 ⟨rfl, hq5⟩
            have M5 := Lib.hid (M4.out.quiet hq5)
            clear hL4 hS4 hq5
            go_wp2
            go_roundw
            case rel => exact ⟨k + 1, by omega, by go_num, by rw [HKS.out]; exact M5.out.sub (by simp)⟩
            case measure => simp [intOf]; omega
        · have hke : k = n := by omega
          subst hke
          go_wp2_with fail
          refine (awake45 _).mono ?_
          rintro e w2 ⟨rfl, hf⟩
          go_wp2
          go_ret
          exact ⟨rfl, hm.fr.trans hf fun _ q => q.elim⟩

set_option maxHeartbeats 400000 in
theorem Bounds_long (x : Int) (A : Option Addr) (n c : Nat) (w : World) (hn : 80 < n) :
    Calls Try.prog 4 #[.int .i64 x, .slice A n c] w fun e w' => e = .returned (.bool true) ∧ Fr (fun _ => False) w w' := by
  go_enter Try.func4, Try.ntmps4
  go_wp2_with fail
  refine (awake45 _).mono ?_
  rintro e w1 ⟨rfl, hf⟩
  go_wp2
  go_ret
  exact ⟨rfl, hf⟩
end Go.Proofs.Ytejajmmacmcijaa
