/- The function 'listed' of the statements about arrays returns the number of all elements of the arrays that are named in the calls. -/
import Derived.Test.YtejajmmacmcijaaArr8
namespace Go.Proofs.Ytejajmmacmcijaa
open Go.RowKit Go.MapKept Go.ChangeMaps

def cnt (D : Dat) (n : ByteArray) : Nat := ((mget D n).getD []).length
def isFirst (nm : Nat → ByteArray) (i : Nat) : Bool := (List.range i).all fun k => decide (nm k ≠ nm i)
def lst (D : Dat) (nm : Nat → ByteArray) : Nat → Nat
  | 0 => 0
  | i + 1 => lst D nm i + if isFirst nm i then cnt D (nm i) else 0

theorem lst_cons (a : ByteArray) (M : Inner) (D : Dat) (nm : Nat → ByteArray) (ha : a ∉ D.map (·.1)) (n : Nat) :
    lst ((a, M) :: D) nm n = lst D nm n + if (List.range n).any (fun i => decide (nm i = a)) then M.length else 0 := by
  induction n with
  | zero => simp [lst]
  | succ n ih =>
    have hc : cnt D a = 0 := by rw [cnt, mget_none.2 ha]; rfl
    have hrange : (List.range (n + 1)).any (fun i => decide (nm i = a)) = ((List.range n).any (fun i => decide (nm i = a)) || decide (nm n = a)) := by
      rw [List.range_succ, List.any_append]; simp
    simp only [lst, ih, hrange]
    by_cases hn : nm n = a
    · have hcc : cnt ((a, M) :: D) (nm n) = M.length := by rw [hn]; simp [cnt, mget]
      have hc' : cnt D (nm n) = 0 := by rw [hn]; exact hc
      cases hf : isFirst nm n
      · have : (List.range n).any (fun i => decide (nm i = a)) = true := by
          simp only [isFirst, List.all_eq_false] at hf
          obtain ⟨x, hx, hxx⟩ := hf
          exact List.any_eq_true.2 ⟨x, hx, by simpa [hn] using hxx⟩
        simp [this]
      · have : (List.range n).any (fun i => decide (nm i = a)) = false := by
          simp only [isFirst, List.all_eq_true] at hf
          rw [List.any_eq_false]
          intro x hx
          have := hf x hx
          simpa [hn] using this
        rw [hcc, hc', this]; simp [hn]
    · have hcc : cnt ((a, M) :: D) (nm n) = cnt D (nm n) := by simp [cnt, mget, Ne.symm hn]
      simp only [hn, hcc, decide_false, Bool.or_false]
      omega

theorem lst_tot (nm : Nat → ByteArray) (n : Nat) : ∀ D : Dat, (D.map (·.1)).Nodup → (∀ a ∈ D.map (·.1), ∃ i, i < n ∧ nm i = a) → lst D nm n = tot D := by
  intro D
  induction D with
  | nil =>
    intro _ _
    have : ∀ n, lst [] nm n = 0 := by
      intro n
      induction n with
      | zero => rfl
      | succ n ih => simp [lst, ih, cnt, mget]
    simpa [tot] using this n
  | cons x r ih =>
    obtain ⟨a, M⟩ := x
    intro hn hs
    simp only [List.map_cons, List.nodup_cons] at hn
    obtain ⟨i, hi, he⟩ := hs a (by simp)
    have h2 := ih hn.2 (fun b hb => hs b (by simp only [List.map_cons, List.mem_cons]; exact .inr hb))
    rw [lst_cons a M r nm hn.1, h2, if_pos (List.any_eq_true.2 ⟨i, List.mem_range.2 hi, by simpa using he⟩)]
    simp [tot]; omega

/-- the names of the arrays are names of calls -/
theorem keys_step {lim : Int} {D : Dat} {c : Cl} {a : ByteArray} (h : a ∈ (stepD lim D c).map (·.1)) : a ∈ D.map (·.1) ∨ a = c.name := by
  have hput : ∀ (n : ByteArray) (M : Inner), a ∈ (mput D n M).map (·.1) → a ∈ D.map (·.1) ∨ a = n := by
    intro n M h
    rw [mput_keys] at h
    split at h
    · exact .inl h
    · simpa using h
  have hdel : ∀ n : ByteArray, a ∈ (mdel D n).map (·.1) → a ∈ D.map (·.1) ∨ a = c.name := fun n h => .inl ((mdel_keys_sub D n).subset h)
  unfold stepD roomD setD delD at h
  repeat' split at h
  all_goals first | exact .inl h | exact hput _ _ h | exact hdel _ h
theorem keys_datK (lim : Int) (cs : Nat → Cl) : ∀ (k : Nat) (a : ByteArray), a ∈ (datK lim cs k).map (·.1) → ∃ i, i < k ∧ (cs i).name = a
  | 0, a, h => by simp [datK] at h
  | k + 1, a, h => by
    rcases keys_step h with h | h
    · obtain ⟨i, hi, e⟩ := keys_datK lim cs k a h
      exact ⟨i, by omega, e⟩
    · exact ⟨k, by omega, h.symm⟩

theorem lst_le (D : Dat) (nm : Nat → ByteArray) (B : Nat) (h : ∀ a, cnt D a ≤ B) : ∀ n, lst D nm n ≤ n * B
  | 0 => by simp [lst]
  | n + 1 => by
    have := lst_le D nm B h n
    have := h (nm n)
    simp only [lst, Nat.add_mul]
    split <;> omega
theorem cnt_le (D : Dat) (a : ByteArray) : cnt D a ≤ tot D := by have := tot_del D a; unfold cnt; omega

def Quiet (w w' : World) : Prop := ∃ m, w' = w.drewN m
theorem Quiet.refl (w : World) : Quiet w w := ⟨0, rfl⟩
theorem Quiet.drewN {w w' : World} (h : Quiet w w') (n : Nat) : Quiet w (w'.drewN n) := by obtain ⟨m, rfl⟩ := h; exact ⟨m + n, by simp⟩
theorem Quiet.heap {w w' : World} (h : Quiet w w') : w'.heap = w.heap := by obtain ⟨m, rfl⟩ := h; rfl
theorem Quiet.cell {w w' : World} (h : Quiet w w') (a : Addr) : w'.cell? a = w.cell? a := by obtain ⟨m, rfl⟩ := h; rfl
theorem Quiet.fr {w w' : World} (h : Quiet w w') : Fr (fun _ => False) w w' := by obtain ⟨m, rfl⟩ := h; exact (Fr.refl _ _).drewN _

set_option maxHeartbeats 1000000 in
set_option maxRecDepth 100000 in
theorem listed_any {lim : Int} {w0 w : World} {p m : Nat} {D : Dat} {K : List (Nat × Obj)} (h : Mid lim w0 w p m D K) (A : Option Addr) (n c : Nat) (cs : Nat → Cl) (hn : n ≤ 80) (hA : ClsAt w A n cs) :
    Calls Try.prog 20 #[.pointer (some ⟨p, 0, none⟩), .slice A n c] w fun e w' => e = .returned (.int .i64 (lst D (fun i => (cs i).name) n)) ∧ Quiet w w' := by
  have HM := Lib.hid h
  have hb : ∀ j, lst D (fun i => (cs i).name) j ≤ j * 4096 := by
    intro j
    obtain ⟨h1, h2, h3⟩ := h.lims
    exact lst_le _ _ _ (fun a => by have := cnt_le D a; omega) j
  have HB := Lib.hid hb
  clear h hb
  go_enter Try.func20, Try.ntmps20
  go_wp2_with fail
  go_loopw [5, 6, 7, 8] (fun s i f j wr => ∃ k : Nat, k ≤ n ∧ i = .int .i64 k ∧ s = .int .i64 (lst D (fun i => (cs i).name) k) ∧ Quiet w wr) (fun _ i _ _ _ => n - (intOf i).toNat)
  case atStart => exact ⟨0, Nat.zero_le _, rfl, rfl, Quiet.refl _⟩
  case round =>
    obtain ⟨k, hk, rfl, rfl, hq⟩ := hrel
    by_cases hlt : k < n
    · obtain ⟨b, off, rfl, hb, hcs⟩ := hA (by omega)
      obtain ⟨wo, rfl⟩ : ∃ wo : World, wo = wr := ⟨_, rfl⟩
      have HC := Lib.hid hcs
      clear hcs hA
      go_wp2_with fail
      go_loopw [7, 8] (fun f j wr => ∃ l : Nat, l ≤ k ∧ j = .int .i64 l ∧ f = .bool ((List.range l).all fun q => decide ((cs q).name ≠ (cs k).name)) ∧ Quiet w wr) (fun _ j _ => k - (intOf j).toNat)
      case atStart => exact ⟨0, Nat.zero_le _, rfl, rfl, hq⟩
      case round =>
        obtain ⟨l, hl, rfl, rfl, hq2⟩ := hrel
        clear hq
        by_cases hll : l < k
        · have a1 := (hq2.cell _).trans ((HC.out l (by omega)).2.2 1 (by omega))
          have a2 := (hq2.cell _).trans ((HC.out k hlt).2.2 1 (by omega))
          simp only [Cl.cells, List.getElem?_toArray, List.getElem?_cons_zero, List.getElem?_cons_succ] at a1 a2
          by_cases hs : (cs l).name = (cs k).name
          · have s1 := str_eq hs
            have HF : Hid (((List.range (l + 1)).all fun q => decide ((cs q).name ≠ (cs k).name)) = false) := Lib.hid (by rw [List.range_succ, List.all_append]; simp [hs])
            have HQ := Lib.hid hq2
            clear hs hq2
            go_wp2
            go_quiet (fail)
            go_wp2
            go_roundw
            case rel => exact ⟨l + 1, by omega, by go_num, by rw [HF.out], HQ.out.drewN _⟩
            case measure => simp [intOf]; omega
          · have s1 := str_ne hs
            have HF : Hid (((List.range (l + 1)).all fun q => decide ((cs q).name ≠ (cs k).name)) = ((List.range l).all fun q => decide ((cs q).name ≠ (cs k).name))) := Lib.hid (by rw [List.range_succ, List.all_append]; simp [hs])
            have HQ := Lib.hid hq2
            clear hs hq2
            go_wp2
            go_quiet (fail)
            go_wp2
            go_roundw
            case rel => exact ⟨l + 1, by omega, by go_num, by rw [HF.out], HQ.out.drewN _⟩
            case measure => simp [intOf]; omega
        · have hle : l = k := by omega
          subst hle
          have a2 := (hq2.cell _).trans ((HC.out l hlt).2.2 1 (by omega))
          simp only [Cl.cells, List.getElem?_toArray, List.getElem?_cons_zero, List.getElem?_cons_succ] at a2
          have HQ := Lib.hid hq2
          have hcn := cnt_le D (cs l).name
          have hl1 := (HM.out.lims).2.2
          have hl2 := (HM.out.lims).2.1
          have hbl := HB.out l
          have HM2 := Lib.hid (show Mid lim w0 wr p m D K from by obtain ⟨T, hT, hd, hf', hfo, hK⟩ := HM.out; exact ⟨T, hT.fr0 hq2.fr, hd, hf'.trans hq2.fr fun _ q => q.elim, hfo, fun x hx => ⟨by rw [hq2.heap]; exact (hK x hx).1, (hK x hx).2⟩⟩)
          clear hq2
          cases hff : (List.range l).all fun q => decide ((cs q).name ≠ (cs l).name)
          · have HL := Lib.hid (show lst D (fun i => (cs i).name) (l + 1) = lst D (fun i => (cs i).name) l from by simp only [lst, isFirst, hff]; simp)
            clear hff hcn hbl
            go_wp2
            go_roundw
            case rel => exact ⟨l + 1, by omega, by go_num, by rw [HL.out], HQ.out⟩
            case measure => simp [intOf]; omega
          · have HL := Lib.hid (show lst D (fun i => (cs i).name) (l + 1) = lst D (fun i => (cs i).name) l + cnt D (cs l).name from by simp only [lst, isFirst, hff]; simp)
            clear hff
            have hcnt := Count_mid HM2.out (cs l).name rfl
            generalize hcc : ((mget D (cs l).name).getD []).length = q at *
            have HCC := Lib.hid (show cnt D (cs l).name = q from hcc)
            have hq' : (q : Int) ≤ 4096 := by have := HCC.out; omega
            clear hcc hcn
            generalize hgl : lst D (fun i => (cs i).name) l = S at *
            have HGL := Lib.hid hgl
            clear hgl
            go_wp2_with (go_at_call 19; refine hcnt.mono ?_; rintro e w' ⟨rfl, rfl⟩)
            go_roundw
            case rel => exact ⟨l + 1, by omega, by go_num, by rw [HL.out, HCC.out]; go_num, HQ.out⟩
            case measure => simp [intOf]; omega
    · have hke : k = n := by omega
      subst hke
      go_wp2
      go_ret
      exact ⟨rfl, hq⟩
end Go.Proofs.Ytejajmmacmcijaa
