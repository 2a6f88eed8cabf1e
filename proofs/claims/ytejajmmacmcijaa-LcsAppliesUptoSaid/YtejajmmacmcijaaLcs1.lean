/- The program's numbering of the lines of two lists: equal lines get equal numbers. -/
import Derived.Test.YtejajmmacmcijaaSl
import Derived.Test.YtejajmmacmcijaaLcsP
import Derived.Test.YtejajmmacmcijaaRows
namespace Go.Proofs.Ytejajmmacmcijaa
set_option linter.unusedVariables false
set_option linter.unusedSimpArgs false
open Go.RowKit Go.MapKept Go.ChangeMaps

abbrev Num := List (ByteArray × Nat)
def addK (K : Num) (s : ByteArray) : Num := match mget K s with | some _ => K | none => K ++ [(s, K.length)]
def kk (K : Num) (s : Nat → ByteArray) : Nat → Num
  | 0 => K
  | n + 1 => addK (kk K s n) (s n)
def num (K : Num) (s : ByteArray) : Nat := (mget K s).getD 0
def numV (n : Nat) : Value := .int .i64 n
def numMap (K : Num) : List (ByteArray × Value) := mapV numV K

theorem num_get (K : Num) (s : ByteArray) : mget (numMap K) s = (mget K s).map numV := mget_mapV _ _ _
theorem numMap_length (K : Num) : (numMap K).length = K.length := mapV_length _ _
theorem mget_append {α : Type} (M L : List (ByteArray × α)) (s : ByteArray) : mget (M ++ L) s = match mget M s with | some v => some v | none => mget L s := by
  induction M with
  | nil => rfl
  | cons p r ih =>
    obtain ⟨k, x⟩ := p
    by_cases hk : k = s
    · simp [mget, hk]
    · simp only [List.cons_append, mget, if_neg hk, ih]
theorem num_add (K : Num) (s : ByteArray) (h : mget K s = none) : mput (numMap K) s (.int .i64 (K.length : Int)) = numMap (addK K s) := by
  rw [mput_new _ (by rw [num_get, h]; rfl), addK, h]
  simp [numMap, mapV, numV]
theorem addK_mem (K : Num) (s : ByteArray) : (mget (addK K s) s).isSome = true := by
  unfold addK
  cases h : mget K s with
  | some v => simp [h]
  | none => simp [mget_append, h, mget]
theorem addK_get {K : Num} {s t : ByteArray} {v : Nat} (h : mget K t = some v) : mget (addK K s) t = some v := by
  unfold addK
  cases hs : mget K s with
  | some _ => exact h
  | none => simp [mget_append, h]
theorem addK_new {K : Num} {s : ByteArray} (h : mget K s = none) : mget (addK K s) s = some K.length := by simp [addK, h, mget_append, mget]
theorem kk_get {K : Num} {s : Nat → ByteArray} {t : ByteArray} {v : Nat} (h : mget K t = some v) : ∀ n, mget (kk K s n) t = some v
  | 0 => h
  | n + 1 => addK_get (kk_get h n)
theorem kk_mem (K : Num) (s : Nat → ByteArray) : ∀ (n i : Nat), i < n → (mget (kk K s n) (s i)).isSome = true
  | n + 1, i, h => by
    by_cases hi : i = n
    · subst hi; exact addK_mem _ _
    · obtain ⟨v, hv⟩ := Option.isSome_iff_exists.1 (kk_mem K s n i (by omega))
      rw [kk, addK_get hv]; rfl
theorem kk_step (K : Num) (s : Nat → ByteArray) {n i : Nat} (h : i < n) : num (kk K s (n + 1)) (s i) = num (kk K s n) (s i) := by
  obtain ⟨v, hv⟩ := Option.isSome_iff_exists.1 (kk_mem K s n i h)
  rw [num, num, kk, addK_get hv, hv]
theorem addK_length (K : Num) (s : ByteArray) : (addK K s).length ≤ K.length + 1 := by unfold addK; split <;> simp
theorem kk_length (K : Num) (s : Nat → ByteArray) : ∀ n, (kk K s n).length ≤ K.length + n
  | 0 => Nat.le_refl _
  | n + 1 => by have := kk_length K s n; have := addK_length (kk K s n) (s n); simp only [kk]; omega
/-- the numbers are those from 0 on -/
def Numbered (K : Num) : Prop := K.map (·.2) = List.range K.length
theorem addK_numbered {K : Num} (h : Numbered K) (s : ByteArray) : Numbered (addK K s) := by
  unfold addK Numbered at *
  split
  · exact h
  · simp [List.range_succ, h]
theorem kk_numbered {K : Num} (h : Numbered K) (s : Nat → ByteArray) : ∀ n, Numbered (kk K s n)
  | 0 => h
  | n + 1 => addK_numbered (kk_numbered h s n) _
theorem num_inj {K : Num} (h : Numbered K) {s t : ByteArray} (hs : (mget K s).isSome = true) (ht : (mget K t).isSome = true) (e : num K s = num K t) : s = t := by
  obtain ⟨v, hv⟩ := Option.isSome_iff_exists.1 hs
  obtain ⟨u, hu⟩ := Option.isSome_iff_exists.1 ht
  rw [num, num, hv, hu] at e
  simp only [Option.getD] at e
  subst e
  have h1 := mget_mem hv
  have h2 := mget_mem hu
  have hn : (K.map (·.2)).Nodup := by rw [h]; exact List.nodup_range
  clear hv hu hs ht h
  induction K with
  | nil => simp at h1
  | cons p r ih =>
    simp only [List.map_cons, List.nodup_cons] at hn
    rcases List.mem_cons.1 h1 with e1 | e1 <;> rcases List.mem_cons.1 h2 with e2 | e2
    · rw [← e1] at e2; injection e2 with e2; exact e2.symm
    · exact absurd (List.mem_map.2 ⟨_, e2, by rw [← e1]⟩) hn.1
    · exact absurd (List.mem_map.2 ⟨_, e1, by rw [← e2]⟩) hn.1
    · exact ih e1 e2 hn.2

theorem zeroInt (w : World) : (zeroValue 3).run Try.prog w = .ok (.int .i64 0) w := by kernel_rfl
theorem info_int : (Try.prog.info? 3).map (fun i => (i.zero, i.size, i.bytes)) = some (some (.int .i64 0), 1, 8) := by kernel_rfl
theorem info_i32 : (Try.prog.info? 21).map (fun i => (i.zero, i.size, i.bytes)) = some (some (.int .i32 0), 1, 4) := by kernel_rfl
theorem info_str : (Try.prog.info? 9).map (fun i => (i.zero, i.size, i.bytes)) = some (some (.string ⟨#[]⟩), 1, 16) := by kernel_rfl

def NumPost (w : World) (mb kb : Nat) (n : Nat) (K' : Num) (s : Nat → ByteArray) (e : Ending) (w' : World) : Prop :=
  ∃ g, e = .returned (.slice (some ⟨g, 0, none⟩) n n) ∧ RowAt w' g 3 n (fun i => .int .i64 (num K' (s i))) ∧ MapAt w' mb (numMap K') ∧ Fr (· = mb) w w' ∧ w.heap.size ≤ g

set_option maxHeartbeats 800000 in
set_option maxRecDepth 100000 in
theorem number_any {w : World} {A : Option Addr} {n c kb mb : Nat} {s : Nat → ByteArray} {K : Num} (hn : n ≤ 1000) (hKl : K.length ≤ 1000) (hA : Sl w A n (fun i => .string (s i))) (hk : w.heap[kb]? = some (.cells #[.map (some mb)] 90 (0, 0))) (hM : MapAt w mb (numMap K)) :
    Calls Try.prog 63 #[.slice A n c, .pointer (some ⟨kb, 0, none⟩)] w (NumPost w mb kb n (kk K s n) s) := by
  obtain ⟨w0, u0, hR0, hf0⟩ := run_make_row (P := Try.prog) w (z := .int .i64 0) Try.underlying52 info_int rfl .i64 .i64 n (by omega) (by unfold maxLen; omega)
  have hkm : kb ≠ mb := by
    rintro rfl
    obtain ⟨es, c, h1, _⟩ := hM
    rw [hk] at h1; cases h1
  have HA := Lib.hid hA
  have HK0 := Lib.hid (hf0.keep hk (fun q => q))
  have HM0 := Lib.hid (hM.fr hf0 (fun q => q))
  have HR0 := Lib.hid hR0
  have HF0 := Lib.hid hf0
  have hkl := lt_of_heap hk
  have hml := hM.lt
  clear hA hk hM hR0 hf0
  go_enter Try.func63, Try.ntmps63
  go_wp2_with fail
  clear u0
  go_loopw [14] (fun i wr => ∃ k : Nat, k ≤ n ∧ i = .int .i64 k ∧ RowAt wr w.heap.size 3 n (fun q => if q < k then .int .i64 (num (kk K s k) (s q)) else .int .i64 0) ∧ MapAt wr mb (numMap (kk K s k)) ∧ Fr (· = mb) w wr)
    (fun i _ => n - (intOf i).toNat)
  case atStart => exact ⟨0, Nat.zero_le _, rfl, HR0.out.congr (by simp), HM0.out, HF0.out.mono fun _ _ q => q.elim⟩
  case round =>
    obtain ⟨k, hk, rfl, hR, hM, hF⟩ := hrel
    by_cases hlt : k < n
    · obtain ⟨b, off, rfl, hb, hcs⟩ := HA.out (by omega)
      have a0 : wr.cell? ⟨b, off + k, none⟩ = some (.string (s k)) := by
        have hbm : b ≠ mb := by
          rintro rfl
          have h1 := hcs 0 (by omega)
          obtain ⟨es, c, h2, _⟩ := HM0.out.fr (w' := w0) (Fr.refl _ _) (fun q => q) (L := fun _ => False)
          have h3 := (HF0.out.block b hb (fun q => q))
          rw [h2] at h3
          simp [World.cell?, ← h3] at h1
        exact (World.cell?_of_block (hF.block b hb hbm)).trans (hcs k hlt)
      have a1 : wr.cell? ⟨kb, 0, none⟩ = some (.map (some mb)) := by
        rw [cell_of_heap ((hF.block kb hkl hkm).trans (((HF0.out.block kb hkl fun q => q).symm.trans HK0.out)))]; rfl
      have l1 := run_lookup_m Try.underlying90 Try.underlying9 (zeroInt wr) hM (s k) true
      rw [lookRes, num_get] at l1
      clear hcs
      have hlen := kk_length K s k
      have hstep : ∀ (wf : World) (x : Int) , RowAt wf w.heap.size 3 n (fun q => if q < k then .int .i64 (num (kk K s k) (s q)) else .int .i64 0) → x = (num (kk K s (k + 1)) (s k) : Nat) →
          RowAt (wf.setCell ⟨w.heap.size, k, none⟩ (.int .i64 x)) w.heap.size 3 n (fun q => if q < k + 1 then .int .i64 (num (kk K s (k + 1)) (s q)) else .int .i64 0) := by
        intro wf x h hx
        refine (h.set k (.int .i64 x)).congr fun i hi => ?_
        by_cases hik : i = k
        · subst hik; simp [hx]
        · simp only [hik, if_false]
          by_cases hi2 : i < k
          · rw [if_pos hi2, if_pos (by omega), kk_step K s hi2]
          · rw [if_neg hi2, if_neg (by omega)]
      have HST := Lib.hid hstep
      have HF := Lib.hid hF
      have hwr : w.heap.size < wr.heap.size := hR.lt
      clear hstep hF
      cases hin : mget (kk K s k) (s k) with
      | some v =>
        rw [hin] at l1
        simp only [Option.map, Option.getD, Option.isSome, numV, if_true] at l1
        have HKE := Lib.hid (show kk K s (k + 1) = kk K s k from by rw [kk, addK, hin])
        have HV := Lib.hid (show num (kk K s k) (s k) = v from by rw [num, hin]; rfl)
        have c0 := hR.cell hlt
        have c1 := hR.free k
        simp only [Nat.lt_irrefl, if_false] at c0
        have HR := Lib.hid hR
        have HM := Lib.hid hM
        clear hin hR hM
        go_wp2
        go_roundw
        case rel => exact ⟨k + 1, by omega, by go_num, HST.out _ _ HR.out (by rw [HKE.out, HV.out]), by rw [HKE.out]; exact HM.out.setCell _ _ (by simp; omega), HF.out.setCell _ _ (.inr (Nat.le_refl _))⟩
        case measure => simp [intOf]; omega
      | none =>
        rw [hin] at l1
        simp only [Option.map, Option.getD, Option.isSome, if_true] at l1
        have l2 := run_len_m (P := Try.prog) Try.underlying90 hM 3
        rw [numMap_length] at l2
        obtain ⟨w2, u2, hM2, f2, hs2⟩ := run_mapUpdate_f Try.underlying90 Try.underlying9 hM (s k) (.int .i64 (kk K s k).length)
        rw [num_add _ _ hin] at hM2
        have hR2 := hR.fr f2 (show ¬ w.heap.size = mb from by omega)
        have c0 := hR2.cell hlt
        have c1 := hR2.free k
        simp only [Nat.lt_irrefl, if_false] at c0
        have HR := Lib.hid hR2
        have HM := Lib.hid hM2
        have HF2 := Lib.hid (HF.out.trans f2 fun _ q => .inl q)
        have HNE := Lib.hid (show num (addK (kk K s k) (s k)) (s k) = (kk K s k).length from by rw [num, addK_new hin]; rfl)
        clear hin hR hM hR2 hM2 f2
        go_wp2
        go_roundw
        case rel => exact ⟨k + 1, by omega, by go_num, HST.out _ _ HR.out (by rw [kk, HNE.out]), HM.out.setCell _ _ (by simp; omega), HF2.out.setCell _ _ (.inr (Nat.le_refl _))⟩
        case measure => simp [intOf]; omega
    · have hke : k = n := by omega
      subst hke
      go_wp2
      go_ret
      exact ⟨_, rfl, hR.congr (fun i hi => by rw [if_pos hi]), hM, hF, Nat.le_refl _⟩
end Go.Proofs.Ytejajmmacmcijaa
