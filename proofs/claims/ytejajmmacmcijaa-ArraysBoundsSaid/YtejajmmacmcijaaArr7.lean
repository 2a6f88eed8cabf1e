import Derived.Test.YtejajmmacmcijaaArr6
namespace Go.Proofs.Ytejajmmacmcijaa
open Go.RowKit Go.MapKept Go.ChangeMaps

def DatOk (D : Dat) : Prop := (D.map (·.1)).Nodup ∧ ∀ x ∈ D, (x.2.map (·.1)).Nodup
theorem Mid.ok {lim : Int} {w w1 : World} {p m : Nat} {D : Dat} {K : List (Nat × Obj)} (h : Mid lim w w1 p m D K) : DatOk D := by
  obtain ⟨T, hT, rfl, _⟩ := h
  refine ⟨by rw [datOf, mapV_keys]; exact hT.keys, fun x hx => ?_⟩
  obtain ⟨t, ht, rfl⟩ := List.mem_map.1 hx
  have := (hT.inn t ht).nodup
  rwa [mapV_keys] at this
theorem Mid.lims {lim : Int} {w w1 : World} {p m : Nat} {D : Dat} {K : List (Nat × Obj)} (h : Mid lim w w1 p m D K) : 0 ≤ lim ∧ lim ≤ 4096 ∧ (tot D : Int) ≤ lim := by
  obtain ⟨T, hT, rfl, _⟩ := h
  exact ⟨hT.lim0, hT.limM, hT.le⟩
theorem Mid.sub {lim : Int} {w w1 : World} {p m : Nat} {D : Dat} {K K' : List (Nat × Obj)} (h : Mid lim w w1 p m D K) (hs : ∀ x ∈ K', x ∈ K) : Mid lim w w1 p m D K' := by
  obtain ⟨T, hT, hd, hf', hfo, hK⟩ := h
  exact ⟨T, hT, hd, hf', hfo, fun x hx => hK x (hs x hx)⟩
/-- a local variable's block is written -/
theorem Mid.setBlk {lim : Int} {w w1 w2 : World} {p m : Nat} {D : Dat} {K : List (Nat × Obj)} {b : Nat} {o o' : Obj} (h : Mid lim w w1 p m D ((b, o) :: K)) (hb : w.heap.size ≤ b) (hK : ∀ x ∈ K, x.1 ≠ b) (hf : Fr (· = b) w1 w2) (ho : w2.heap[b]? = some o') :
    Mid lim w w2 p m D ((b, o') :: K) := by
  obtain ⟨T, hT, hd, hf', hfo, hK'⟩ := h
  have hn := (hK' _ (List.mem_cons_self ..)).2
  refine ⟨T, hT.fr hf fun k hk e => hn (by have e : k = b := e; rw [← e]; exact hk), hd, hf'.trans hf fun k hk => .inr (by have e : k = b := hk; omega), hfo, fun x hx => ?_⟩
  rcases List.mem_cons.1 hx with rfl | hx
  · exact ⟨ho, hn⟩
  · exact ⟨hf.keep (hK' x (List.mem_cons_of_mem _ hx)).1 (hK x hx), (hK' x (List.mem_cons_of_mem _ hx)).2⟩

theorem dget_getD_mget {D : Dat} {n k : ByteArray} : dget D n k = mget ((mget D n).getD []) k := by cases h : mget D n <;> simp [dget, h, mget]
theorem dget_roomD {lim : Int} {D : Dat} {n k : ByteArray} (h : roomR lim D n k = 0) (n' k' : ByteArray) : dget (roomD lim D n k) n' k' = if n = n' ∧ k = k' then some ((dget D n k).getD Va.zero) else dget D n' k' := by
  unfold roomR at h
  unfold roomD
  split at h
  · rename_i hs
    rw [if_pos hs]
    split
    · rename_i hh; obtain ⟨rfl, rfl⟩ := hh
      obtain ⟨v, hv⟩ := Option.isSome_iff_exists.1 hs
      rw [hv]; rfl
    · rfl
  · rename_i hs
    split at h
    · simp at h
    · rename_i hl
      rw [if_neg hs, if_neg hl, dget_dput]
      have : dget D n k = none := by cases hd : dget D n k <;> simp_all
      rw [this]; rfl
theorem dget_setD {lim : Int} {D : Dat} {n k : ByteArray} {v : Va} (h : roomR lim D n k = 0) (n' k' : ByteArray) : dget (setD lim D n k v) n' k' = if n = n' ∧ k = k' then some v else dget D n' k' := by
  rw [setD, if_pos h, dget_dput]
theorem setD_bad {lim : Int} {D : Dat} {n k : ByteArray} {v : Va} (h : roomR lim D n k ≠ 0) : setD lim D n k v = D := by rw [setD, if_neg h]
theorem dget_clear {D : Dat} (hD : DatOk D) (n n' k' : ByteArray) : dget (mdel D n) n' k' = if n = n' then none else dget D n' k' := by
  unfold dget
  rw [mget_del hD.1]
  split <;> simp
theorem dget_delD {D : Dat} (hD : DatOk D) (n k n' k' : ByteArray) : dget (delD D n k) n' k' = if n = n' ∧ k = k' then none else dget D n' k' := by
  unfold delD
  cases hm : mget D n with
  | none =>
    simp only
    split
    · rename_i h; obtain ⟨rfl, rfl⟩ := h; simp [dget, hm]
    · rfl
  | some M =>
    have hM := hD.2 _ (mget_mem hm)
    simp only
    split
    · rename_i hk
      split
      · rename_i hl
        rw [dget_clear hD]
        by_cases hn : n = n'
        · subst hn
          simp only [if_true, true_and]
          split
          · rfl
          · rename_i hkk
            have h1 := mget_del hM k k'
            rw [if_neg hkk, List.length_eq_zero_iff.1 hl] at h1
            simp only [mget] at h1
            simp [dget, hm, ← h1]
        · simp [hn]
      · simp only [dget, mget_put]
        by_cases hn : n = n'
        · subst hn
          simp only [if_true, true_and, Option.bind, mget_del hM, hm]
        · simp [hn]
    · rename_i hk
      split
      · rename_i h; obtain ⟨rfl, rfl⟩ := h
        simp only [dget, hm, Option.bind]
        cases hq : mget M k <;> simp_all
      · rfl

def datK (lim : Int) (cs : Nat → Cl) : Nat → Dat
  | 0 => []
  | k + 1 => stepD lim (datK lim cs k) (cs k)

section
variable {lim : Int} {D : Dat} {c : Cl} {name key : ByteArray}
theorem keep_miss (hD : DatOk D) (h : c.name ≠ name ∨ c.key ≠ key ∧ c.kind % 6 ≠ 3) : dget (stepD lim D c) name key = dget D name key := by
  have hne : ¬ (c.name = name ∧ c.key = key) := fun q => h.elim (fun r => r q.1) (fun r => r.1 q.2)
  unfold stepD
  split
  · by_cases hr : roomR lim D c.name c.key = 0
    · rw [dget_roomD hr, if_neg hne]
    · rw [roomD_bad _ _ _ _ hr]
  · split
    · by_cases hr : roomR lim D c.name c.key = 0
      · rw [dget_setD hr, if_neg hne]
      · rw [setD_bad hr]
    · split
      · rw [dget_delD hD, if_neg hne]
      · split
        · rename_i h3
          rw [dget_clear hD, if_neg (fun q => h.elim (fun r => r q) (fun r => r.2 h3))]
        · rfl
theorem keep_set (h1 : c.kind % 6 = 1) (hr : stepR lim D c = 0) (hn : c.name = name) (hk : c.key = key) : dget (stepD lim D c) name key = some c.val := by
  have hr : roomR lim D c.name c.key = 0 := by simpa [stepR, h1] using hr
  rw [stepD, if_neg (by omega), if_pos h1, dget_setD hr, if_pos ⟨hn, hk⟩]
theorem keep_get (h1 : c.kind % 6 = 0) (hr : stepR lim D c = 0) (hn : c.name = name) (hk : c.key = key) : dget (stepD lim D c) name key = some ((dget D name key).getD Va.zero) := by
  have hr : roomR lim D c.name c.key = 0 := by simpa [stepR, h1] using hr
  rw [stepD, if_pos h1, dget_roomD hr, if_pos ⟨hn, hk⟩, hn, hk]
theorem keep_del (hD : DatOk D) (h1 : c.kind % 6 = 2 ∧ c.key = key ∨ c.kind % 6 = 3) (hn : c.name = name) : dget (stepD lim D c) name key = none := by
  rcases h1 with ⟨h1, hk⟩ | h1
  · rw [stepD, if_neg (by omega), if_neg (by omega), if_pos h1, dget_delD hD, if_pos ⟨hn, hk⟩]
  · rw [stepD, if_neg (by omega), if_neg (by omega), if_neg (by omega), if_pos h1, dget_clear hD, if_pos hn]
theorem keep_other (h : c.kind % 6 = 4 ∨ c.kind % 6 = 5 ∨ stepR lim D c ≠ 0) : stepD lim D c = D := by
  unfold stepD
  split
  · rename_i h0
    rcases h with h | h | h
    · omega
    · omega
    · rw [roomD_bad]; simpa [stepR, h0] using h
  · split
    · rename_i h0 h1
      rcases h with h | h | h
      · omega
      · omega
      · rw [setD_bad]; simpa [stepR, h1] using h
    · rename_i h0 h1
      have : stepR lim D c = 0 := by rw [stepR, if_neg h0, if_neg h1]
      rw [if_neg (by omega), if_neg (by omega)]
end
end Go.Proofs.Ytejajmmacmcijaa
