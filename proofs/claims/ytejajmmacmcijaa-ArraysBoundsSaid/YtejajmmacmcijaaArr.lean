import Derived.Test.YtejajmmacmcijaaMem
import Derived.Test.YtejajmmacmcijaaRows
namespace Go.Proofs.Ytejajmmacmcijaa
open Go.RowKit Go.MapKept Go.ChangeMaps

/-- a value of the program: kind, number, string -/
structure Va where
  kind : Int
  num : Int
  str : ByteArray
deriving DecidableEq
def Va.enc (v : Va) : Value := .agg #[.int .i64 v.kind, .int .i64 v.num, .string v.str]
def Va.zero : Va := ⟨0, 0, ⟨#[]⟩⟩
abbrev Inner := List (ByteArray × Va)
abbrev Tbl := List (ByteArray × Nat × Inner)
abbrev Dat := List (ByteArray × Inner)

def datOf (T : Tbl) : Dat := mapV (·.2) T
def outer (T : Tbl) : List (ByteArray × Value) := mapV (fun t => .map (some t.1)) T

def tot (D : Dat) : Nat := (D.map (·.2.length)).sum
def dget (D : Dat) (n k : ByteArray) : Option Va := (mget D n).bind (mget · k)
def dput (D : Dat) (n k : ByteArray) (v : Va) : Dat := mput D n (mput ((mget D n).getD []) k v)

/-- the maps of the arrays: an outer one at block m, an inner one for each name -/
structure ArrM (w : World) (p m : Nat) (T : Tbl) : Prop where
  nodup : (p :: m :: T.map (·.2.1)).Nodup
  out : MapAt w m (outer T)
  inn : ∀ t ∈ T, MapAt w t.2.1 (mapV Va.enc t.2.2)
structure ArrT (w : World) (p : Nat) (m : Nat) (T : Tbl) (lim : Int) : Prop extends ArrM w p m T where
  cells : w.heap[p]? = some (.cells #[.int .i64 lim, .int .i64 (tot (datOf T)), .map (some m)] 64 (0, 0))
  lim0 : 0 ≤ lim
  limM : lim ≤ 4096
  le : (tot (datOf T) : Int) ≤ lim

def foot (p m : Nat) (T : Tbl) (k : Nat) : Prop := k ∈ p :: m :: T.map (·.2.1)

section plain
variable {w w' : World} {p m : Nat} {T : Tbl}
theorem ArrM.fr {L : Nat → Prop} (h : ArrM w p m T) (hf : Fr L w w') (hL : ∀ k, foot p m T k → k ≠ p → ¬ L k) : ArrM w' p m T := by
  have hn := List.nodup_cons.1 h.nodup
  refine ⟨h.nodup, h.out.fr hf (hL _ (by simp [foot]) ?_), fun t ht => (h.inn t ht).fr hf (hL _ ?_ ?_)⟩
  · intro e; subst e; exact hn.1 (by simp)
  · simp only [foot, List.mem_cons]; exact .inr (.inr (List.mem_map.2 ⟨t, ht, rfl⟩))
  · intro e; exact hn.1 (by rw [← e]; exact List.mem_cons_of_mem _ (List.mem_map.2 ⟨t, ht, rfl⟩))
theorem ArrM.keys (h : ArrM w p m T) : (T.map (·.1)).Nodup := by have := h.out.nodup; simpa [outer, mapV_keys] using this
theorem tbl_blocks {n : ByteArray} {b : Nat} {M M' : Inner} (hg : mget T n = some (b, M)) : (mput T n (b, M')).map (·.2.1) = T.map (·.2.1) := by
  rw [← mapV_vals (fun x : Nat × Inner => x.1), ← mput_mapV, mput_same (by rw [mget_mapV, hg]; rfl), mapV_vals]
theorem ArrM.ne_m (h : ArrM w p m T) {n : ByteArray} {b : Nat} {M : Inner} (hg : (n, b, M) ∈ T) : b ≠ m ∧ b ≠ p := by
  have h1 := List.nodup_cons.1 h.nodup
  have h2 := List.nodup_cons.1 h1.2
  have hb : b ∈ T.map (·.2.1) := List.mem_map.2 ⟨_, hg, rfl⟩
  exact ⟨fun e => h2.1 (e ▸ hb), fun e => h1.1 (e ▸ List.mem_cons_of_mem _ hb)⟩
theorem nodup_inj {T : Tbl} (h : (T.map (·.2.1)).Nodup) {x y : ByteArray × Nat × Inner} (hx : x ∈ T) (hy : y ∈ T) (e : x.2.1 = y.2.1) : x = y := by
  induction T with
  | nil => simp at hx
  | cons t r ih =>
    simp only [List.map_cons, List.nodup_cons] at h
    rcases List.mem_cons.1 hx with h1 | h1 <;> rcases List.mem_cons.1 hy with h2 | h2
    · rw [h1, h2]
    · exact absurd (List.mem_map.2 ⟨y, h2, by rw [← e, h1]⟩) h.1
    · exact absurd (List.mem_map.2 ⟨x, h1, by rw [e, h2]⟩) h.1
    · exact ih h.2 h1 h2
/-- an inner map was changed -/
theorem ArrM.inner (h : ArrM w p m T) {n : ByteArray} {b : Nat} {M M' : Inner} (hg : mget T n = some (b, M)) (hf : Fr (· = b) w w') (hM : MapAt w' b (mapV Va.enc M')) : ArrM w' p m (mput T n (b, M')) := by
  have hb := h.ne_m (mget_mem hg)
  refine ⟨by rw [tbl_blocks hg]; exact h.nodup, ?_, ?_⟩
  · rw [outer, ← mput_mapV (fun t : Nat × Inner => Value.map (some t.1)), mput_same (by rw [mget_mapV, hg]; rfl)]
    exact h.out.fr hf (Ne.symm hb.1)
  · intro t ht
    rcases mem_mput h.keys ht with rfl | ⟨ht, hne⟩
    · exact hM
    · refine (h.inn t ht).fr hf (fun e => hne ?_)
      have h2 := (List.nodup_cons.1 (List.nodup_cons.1 h.nodup).2).2
      have := nodup_inj h2 ht (mget_mem hg) e
      rw [this]
/-- an empty inner map was laid at a new name -/
theorem ArrM.add (h : ArrM w p m T) (hp : p < w.heap.size) {n : ByteArray} (hg : mget T n = none) (hf : Fr (· = m) (w.alloc (.map #[] 0)) w') (hM : MapAt w' m (mput (outer T) n (.map (some w.heap.size)))) :
    ArrM w' p m (mput T n (w.heap.size, [])) := by
  have hs : (w.alloc (.map #[] 0)).heap.size = w.heap.size + 1 := by simp
  have hm := h.out.lt
  refine ⟨?_, ?_, ?_⟩
  · rw [mput_new _ hg]
    have hlt : ∀ x ∈ T.map (·.2.1), x < w.heap.size := by
      intro x hx
      obtain ⟨t, ht, rfl⟩ := List.mem_map.1 hx
      exact (h.inn t ht).lt
    have hn := h.nodup
    simp only [List.nodup_cons, List.mem_cons, List.map_append, List.map_cons, List.map_nil, List.nodup_append, List.mem_append, List.mem_singleton] at hn ⊢
    refine ⟨?_, ?_, hn.2.2, by simp, ?_⟩
    · rintro (e | e | e | e)
      · exact hn.1 (.inl e)
      · exact hn.1 (.inr e)
      · omega
      · simp at e
    · rintro (e | e | e)
      · exact hn.2.1 e
      · omega
      · simp at e
    · rintro a ha b hb rfl
      have := hlt a ha
      simp at hb; omega
  · rw [outer, ← mput_mapV (fun t : Nat × Inner => Value.map (some t.1))]; exact hM
  · intro t ht
    rcases mem_mput h.keys ht with rfl | ⟨ht, hne⟩
    · exact (MapAt.new w).fr hf (by intro e; have e' : w.heap.size = m := e; omega)
    · exact ((h.inn t ht).alloc _).fr hf (h.ne_m (n := t.1) (b := t.2.1) (M := t.2.2) ht).1
end plain

theorem tot_put (D : Dat) (n : ByteArray) (M : Inner) : tot (mput D n M) + ((mget D n).getD []).length = tot D + M.length := by
  induction D with
  | nil => simp [mput, mget, tot]
  | cons x r ih =>
    obtain ⟨k, y⟩ := x
    by_cases hk : k = n
    · simp [mput, mget, tot, hk]; omega
    · simp [mput, mget, tot, hk] at ih ⊢; omega
theorem tot_del (D : Dat) (n : ByteArray) : tot (mdel D n) + ((mget D n).getD []).length = tot D := by
  induction D with
  | nil => simp [mdel, mget, tot]
  | cons x r ih =>
    obtain ⟨k, y⟩ := x
    by_cases hk : k = n
    · simp [mdel, mget, tot, hk]; omega
    · simp [mdel, mget, tot, hk] at ih ⊢; omega
theorem tot_dput (D : Dat) (n k : ByteArray) (v : Va) : tot (dput D n k v) = if (dget D n k).isSome then tot D else tot D + 1 := by
  have h1 := tot_put D n (mput ((mget D n).getD []) k v)
  have h2 := mput_length ((mget D n).getD []) k v
  have h3 : dget D n k = mget ((mget D n).getD []) k := by cases h : mget D n <;> simp [dget, h, mget]
  rw [h3, dput]
  rw [h2] at h1
  split at h1 <;> rename_i hc
  · rw [if_pos hc]; omega
  · rw [if_neg hc]; omega

theorem zero_outer (w : World) : (zeroValue 68).run Try.prog w = .ok (.map none) w := by kernel_rfl
theorem zero_inner (w : World) : (zeroValue 28).run Try.prog w = .ok Va.zero.enc w := by kernel_rfl

theorem outer_get (T : Tbl) (n : ByteArray) : (mget T n = none ∧ mget (outer T) n = none ∧ mget (datOf T) n = none) ∨ ∃ b M, mget T n = some (b, M) ∧ mget (outer T) n = some (.map (some b)) ∧ mget (datOf T) n = some M ∧ (n, b, M) ∈ T := by
  cases h : mget T n with
  | none => left; simp [outer, datOf, mget_mapV, h]
  | some x => right; exact ⟨x.1, x.2, rfl, by simp [outer, mget_mapV, h], by simp [datOf, mget_mapV, h], mget_mem h⟩

set_option maxHeartbeats 400000 in
theorem Has_any {w : World} {p m : Nat} {T : Tbl} {lim : Int} (h : ArrT w p m T lim) (n k : ByteArray) :
    Calls Try.prog 16 #[.pointer (some ⟨p, 0, none⟩), .string n, .string k] w fun e w' => e = .returned (.bool (dget (datOf T) n k).isSome) ∧ Fr (fun _ => False) w w' := by
  have c2 : w.cell? ⟨p, 2, none⟩ = some (.map (some m)) := cell_of_heap h.cells 2
  have l1 := run_lookup_m Try.underlying62 Try.underlying9 (zero_outer w) h.out n false
  rcases outer_get T n with ⟨h0, h1, h2⟩ | ⟨b, M, h0, h1, h2, h3⟩
  · rw [lookRes, h1] at l1
    have l2 := run_lookup_nil (w := w) Try.underlying68 Try.underlying9 (zero_inner w) k true
    simp only [lookRes, mget, Va.enc] at l2
    rw [show dget (datOf T) n k = none from by simp [dget, h2]]
    clear h h0 h1 h2
    go_enter Try.func16, Try.ntmps16
    go_wp2
    go_ret
    exact ⟨rfl, (Fr.refl _ _).alloc _⟩
  · rw [lookRes, h1] at l1
    have l2 := run_lookup_m Try.underlying68 Try.underlying9 (zero_inner w) (h.inn _ h3) k true
    simp only [lookRes, mget_mapV] at l2
    rw [show dget (datOf T) n k = mget M k from by simp [dget, h2]]
    clear h h0 h1 h2 h3
    cases hk : mget M k
    all_goals
      rw [hk] at l2
      simp only [Option.map, Option.getD, Va.enc, Va.zero] at l2
      clear hk
      go_enter Try.func16, Try.ntmps16
      go_wp2
      go_ret
      exact ⟨rfl, (Fr.refl _ _).alloc _⟩

/-- what 'room' leaves: its result, and the data -/
def roomR (lim : Int) (D : Dat) (n k : ByteArray) : Int := if (dget D n k).isSome then 0 else if lim ≤ tot D then 3 else 0
def roomD (lim : Int) (D : Dat) (n k : ByteArray) : Dat := if (dget D n k).isSome then D else if lim ≤ tot D then D else dput D n k Va.zero

def RoomPost (w : World) (p m : Nat) (T : Tbl) (lim r : Int) (D' : Dat) (e : Ending) (w' : World) : Prop :=
  e = .returned (.int .i64 r) ∧ ∃ T', ArrT w' p m T' lim ∧ datOf T' = D' ∧ Fr (foot p m T) w w' ∧ ∀ k, foot p m T' k → foot p m T k ∨ w.heap.size ≤ k

theorem ArrT.fr {w w' : World} {p m : Nat} {T : Tbl} {lim : Int} {L : Nat → Prop} (h : ArrT w p m T lim) (hf : Fr L w w') (hL : ∀ k, foot p m T k → ¬ L k) : ArrT w' p m T lim :=
  ⟨h.toArrM.fr hf fun k hk _ => hL k hk, hf.keep h.cells (hL _ (by simp [foot])), h.lim0, h.limM, h.le⟩
theorem ArrT.fr0 {w w' : World} {p m : Nat} {T : Tbl} {lim : Int} (h : ArrT w p m T lim) (hf : Fr (fun _ => False) w w') : ArrT w' p m T lim := h.fr hf fun _ _ q => q

theorem ArrT.size_set {w : World} {p m : Nat} {T : Tbl} {lim x y : Int} (h : ArrM w p m T) (hc : w.heap[p]? = some (.cells #[.int .i64 lim, .int .i64 x, .map (some m)] 64 (0, 0)))
    (hy : y = tot (datOf T)) (lim0 : 0 ≤ lim) (limM : lim ≤ 4096) (le : (tot (datOf T) : Int) ≤ lim) : ArrT (w.setCell ⟨p, 1, none⟩ (.int .i64 y)) p m T lim :=
  ⟨h.fr ((Fr.refl (· = p) w).setCell _ _ (.inl rfl)) fun _ _ hk => hk, by rw [heap_setCell_same _ _ _ _ hc, hy]; rfl, lim0, limM, le⟩
theorem datOf_put (T : Tbl) (n : ByteArray) (b : Nat) (M : Inner) : datOf (mput T n (b, M)) = mput (datOf T) n M := by
  rw [datOf, datOf, ← mput_mapV]
theorem foot_put {p m : Nat} {T : Tbl} {n : ByteArray} {b : Nat} {M M' : Inner} (hg : mget T n = some (b, M)) (k : Nat) : foot p m (mput T n (b, M')) k ↔ foot p m T k := by
  simp only [foot, tbl_blocks hg]
theorem foot_add {p m : Nat} {T : Tbl} {n : ByteArray} {b : Nat} {M : Inner} (hg : mget T n = none) (k : Nat) : foot p m (mput T n (b, M)) k ↔ foot p m T k ∨ k = b := by
  rw [mput_new _ hg]
  simp only [foot, List.mem_cons, List.map_append, List.mem_append, List.map_cons, List.map_nil, List.not_mem_nil, or_false]
  constructor
  · rintro (h | h | h | h)
    · exact .inl (.inl h)
    · exact .inl (.inr (.inl h))
    · exact .inl (.inr (.inr h))
    · exact .inr h
  · rintro ((h | h | h) | h)
    · exact .inl h
    · exact .inr (.inl h)
    · exact .inr (.inr (.inl h))
    · exact .inr (.inr (.inr h))

set_option maxHeartbeats 400000 in
theorem room_has {w : World} {p m : Nat} {T : Tbl} {lim : Int} (h : ArrT w p m T lim) (n k : ByteArray) (hs : (dget (datOf T) n k).isSome = true) :
    Calls Try.prog 44 #[.pointer (some ⟨p, 0, none⟩), .string n, .string k] w (RoomPost w p m T lim 0 (datOf T)) := by
  have hh := Has_any h n k
  rw [hs] at hh
  have H := Lib.hid h
  clear hs h
  go_enter Try.func44, Try.ntmps44
  go_wp2_with (go_at_call 16; refine hh.mono ?_; rintro e w' ⟨rfl, hf⟩)
  go_ret
  exact ⟨rfl, T, H.out.fr0 hf, rfl, hf.mono fun _ _ q => q.elim, fun _ q => .inl q⟩

set_option maxHeartbeats 400000 in
theorem room_full {w : World} {p m : Nat} {T : Tbl} {lim : Int} (h : ArrT w p m T lim) (n k : ByteArray) (hs : (dget (datOf T) n k).isSome = false) (hl : lim ≤ tot (datOf T)) :
    Calls Try.prog 44 #[.pointer (some ⟨p, 0, none⟩), .string n, .string k] w (RoomPost w p m T lim 3 (datOf T)) := by
  have hh := Has_any h n k
  rw [hs] at hh
  have H := Lib.hid h
  clear hs h
  go_enter Try.func44, Try.ntmps44
  go_wp2_with (go_at_call 16; refine hh.mono ?_; rintro e w1 ⟨rfl, hf⟩; have H1 := Lib.hid (H.out.fr0 hf); have c0 := cell_of_heap H1.out.cells 0; have c1 := cell_of_heap H1.out.cells 1; simp only [List.getElem?_toArray, List.getElem?_cons_zero, List.getElem?_cons_succ] at c0 c1)
  go_quiet (fail)
  go_wp2
  go_ret
  exact ⟨rfl, T, (H1.out.fr0 ((Fr.refl _ _).drewN _)), rfl, (hf.drewN _).mono fun _ _ q => q.elim, fun _ q => .inl q⟩

set_option maxHeartbeats 400000 in
set_option maxRecDepth 100000 in
theorem room_old {w : World} {p m : Nat} {T : Tbl} {lim : Int} (h : ArrT w p m T lim) (n k : ByteArray) (hs : (dget (datOf T) n k).isSome = false) (hl : ¬ lim ≤ tot (datOf T)) {b : Nat} {M : Inner} (hg : mget T n = some (b, M)) :
    Calls Try.prog 44 #[.pointer (some ⟨p, 0, none⟩), .string n, .string k] w (RoomPost w p m T lim 0 (dput (datOf T) n k Va.zero)) := by
  have hh := Has_any h n k
  rw [hs] at hh
  have H := Lib.hid h
  have HS := Lib.hid hs
  have HG := Lib.hid hg
  have lim0 := h.lim0
  have limM := h.limM
  clear hs h hg
  go_enter Try.func44, Try.ntmps44
  go_wp2_with (go_at_call 16; refine hh.mono ?_; rintro e w1 ⟨rfl, hf⟩; have H1 := Lib.hid (H.out.fr0 hf); have c0 := cell_of_heap H1.out.cells 0; have c1 := cell_of_heap H1.out.cells 1; simp only [List.getElem?_toArray, List.getElem?_cons_zero, List.getElem?_cons_succ] at c0 c1)
  go_quiet (fail)
  clear c0 c1
  generalize hw2 : w1.drewN _ = w2
  have f2 : Fr (fun _ => False) w w2 := by rw [← hw2]; exact hf.drewN _
  clear hw2 hf H1
  have H2 := Lib.hid (H.out.fr0 f2)
  have c2 := cell_of_heap H2.out.cells 2
  simp only [List.getElem?_toArray, List.getElem?_cons_zero, List.getElem?_cons_succ] at c2
  have l1 := run_lookup_m Try.underlying62 Try.underlying9 (zero_outer w2) H2.out.out n false
  rw [lookRes, show mget (outer T) n = some (.map (some b)) from by simp [outer, mget_mapV, HG.out]] at l1
  simp only [Option.getD] at l1
  have q1 := fun w => run_eql_map_nil (P := Try.prog) w _ _ _ (some b) Try.underlying68
  obtain ⟨w3, u1, hM3, f3, hs3⟩ := run_mapUpdate_f Try.underlying68 Try.underlying9 (H2.out.inn _ (mget_mem HG.out)) k Va.zero.enc
  rw [mput_mapV] at hM3
  have HM3 := Lib.hid (H2.out.toArrM.inner HG.out f3 hM3)
  have hbp := (H.out.ne_m (mget_mem HG.out)).2
  have c3 := f3.keep H2.out.cells (Ne.symm hbp)
  have k1 := cell_of_heap c3 1
  have k1' := free_of_heap c3 1
  simp only [List.getElem?_toArray, List.getElem?_cons_zero, List.getElem?_cons_succ] at k1
  have C3 := Lib.hid c3
  simp only [Va.enc, Va.zero] at u1
  have hle := H.out.le
  clear c3 hM3 hbp
  go_wp2
  go_ret
  have ht := tot_dput (datOf T) n k Va.zero
  rw [HS.out] at ht
  simp only [Bool.false_eq_true, if_false] at ht
  have hd : datOf (mput T n (b, mput M k Va.zero)) = dput (datOf T) n k Va.zero := by rw [datOf_put, dput]; congr 2; simp [datOf, mget_mapV, HG.out]
  refine ⟨rfl, _, ArrT.size_set HM3.out C3.out (by rw [hd, ht]; rfl) lim0 limM (by rw [hd, ht]; push_cast; omega), hd, ?_, fun x hx => .inl ((foot_put HG.out x).1 hx)⟩
  refine ((f2.mono fun _ _ q => q.elim).trans f3 fun x hx => .inl ?_).setCell _ _ (.inl (by simp [foot]))
  subst hx
  simp only [foot, List.mem_cons]; exact .inr (.inr (List.mem_map.2 ⟨_, mget_mem HG.out, rfl⟩))

set_option maxHeartbeats 400000 in
set_option maxRecDepth 100000 in
theorem room_new {w : World} {p m : Nat} {T : Tbl} {lim : Int} (h : ArrT w p m T lim) (n k : ByteArray) (hs : (dget (datOf T) n k).isSome = false) (hl : ¬ lim ≤ tot (datOf T)) (hg : mget T n = none) :
    Calls Try.prog 44 #[.pointer (some ⟨p, 0, none⟩), .string n, .string k] w (RoomPost w p m T lim 0 (dput (datOf T) n k Va.zero)) := by
  have hh := Has_any h n k
  rw [hs] at hh
  have H := Lib.hid h
  have HS := Lib.hid hs
  have HG := Lib.hid hg
  have lim0 := h.lim0
  have limM := h.limM
  clear hs h hg
  go_enter Try.func44, Try.ntmps44
  go_wp2_with (go_at_call 16; refine hh.mono ?_; rintro e w1 ⟨rfl, hf⟩; have H1 := Lib.hid (H.out.fr0 hf); have c0 := cell_of_heap H1.out.cells 0; have c1 := cell_of_heap H1.out.cells 1; simp only [List.getElem?_toArray, List.getElem?_cons_zero, List.getElem?_cons_succ] at c0 c1)
  go_quiet (fail)
  clear c0 c1
  generalize hw2 : w1.drewN _ = w2
  have f2 : Fr (fun _ => False) w w2 := by rw [← hw2]; exact hf.drewN _
  clear hw2 hf H1
  have H2 := Lib.hid (H.out.fr0 f2)
  have c2 := cell_of_heap H2.out.cells 2
  simp only [List.getElem?_toArray, List.getElem?_cons_zero, List.getElem?_cons_succ] at c2
  have l1 := run_lookup_m Try.underlying62 Try.underlying9 (zero_outer w2) H2.out.out n false
  rw [lookRes, show mget (outer T) n = none from by simp [outer, mget_mapV, HG.out]] at l1
  simp only [Option.getD] at l1
  have q1 := fun w => run_eql_map_nil (P := Try.prog) w _ _ _ none Try.underlying68
  have hmm := fun w => @run_makeMap Try.prog 68 w
  obtain ⟨w3, u1, hM3, f3, hs3⟩ := run_mapUpdate_f Try.underlying62 Try.underlying9 (H2.out.out.alloc (.map #[] 0)) n (.map (some w2.heap.size))
  have hpl : p < w2.heap.size := lt_of_heap H2.out.cells
  have hml := H2.out.out.lt
  have hpm : p ≠ m := by have := H2.out.nodup; simp only [List.nodup_cons, List.mem_cons, not_or] at this; exact this.1.1
  have HM3 := Lib.hid (H2.out.toArrM.add hpl HG.out f3 hM3)
  have c3 := f3.keep ((heap_alloc_lt w2 (.map #[] 0) hpl).trans H2.out.cells) hpm
  have l3 := run_lookup_m Try.underlying62 Try.underlying9 (zero_outer w3) hM3 n false
  rw [lookRes, mget_put, if_pos rfl] at l3
  simp only [Option.getD] at l3
  have k2 := cell_of_heap c3 2
  have hg3 : mget (mput T n (w2.heap.size, [])) n = some (w2.heap.size, ([] : Inner)) := by rw [mget_put, if_pos rfl]
  obtain ⟨w4, u2, hM4, f4, hs4⟩ := run_mapUpdate_f Try.underlying68 Try.underlying9 (HM3.out.inn _ (mget_mem hg3)) k Va.zero.enc
  rw [mput_mapV] at hM4
  have HM4 := Lib.hid (HM3.out.inner hg3 f4 hM4)
  have c4 := f4.keep c3 (by show ¬ p = w2.heap.size; omega)
  have k1 := cell_of_heap c4 1
  have k1' := free_of_heap c4 1
  simp only [List.getElem?_toArray, List.getElem?_cons_zero, List.getElem?_cons_succ] at k1 k2
  have C4 := Lib.hid c4
  simp only [Va.enc, Va.zero] at u2
  have hle := H.out.le
  clear c3 hM3 c4 hM4 hg3
  go_wp2
  go_ret
  have ht := tot_dput (datOf T) n k Va.zero
  rw [HS.out] at ht
  simp only [Bool.false_eq_true, if_false] at ht
  have hT : mput (mput T n (w2.heap.size, [])) n (w2.heap.size, mput ([] : Inner) k Va.zero) = mput T n (w2.heap.size, [(k, Va.zero)]) := by
    rw [mput_new _ HG.out, mput_new _ HG.out]
    have : ∀ r : Tbl, mget r n = none → mput (r ++ [(n, w2.heap.size, [])]) n (w2.heap.size, mput ([] : Inner) k Va.zero) = r ++ [(n, w2.heap.size, [(k, Va.zero)])] := by
      intro r
      induction r with
      | nil => intro _; simp [mput]
      | cons t r ih =>
        obtain ⟨a, c⟩ := t
        intro hr
        by_cases ha : a = n
        · simp [mget, ha] at hr
        · simp only [mget, if_neg ha] at hr
          simpa [mput, ha] using ih hr
    exact this T HG.out
  have hd : datOf (mput T n (w2.heap.size, [(k, Va.zero)])) = dput (datOf T) n k Va.zero := by
    rw [datOf_put, dput]; congr 1; simp [datOf, mget_mapV, HG.out, mput]
  rw [hT] at HM4
  refine ⟨rfl, _, ArrT.size_set HM4.out C4.out (by rw [hd, ht]; rfl) lim0 limM (by rw [hd, ht]; push_cast; omega), hd, ?_, fun x hx => ?_⟩
  · have f23 := ((f2.mono (L' := foot p m T) fun _ _ q => q.elim).alloc (.map #[] 0)).trans f3 fun x hx => .inl (by subst hx; simp [foot])
    refine (f23.trans f4 fun x hx => .inr ?_).setCell _ _ (.inl (by simp [foot]))
    subst hx; exact f2.size
  · rcases (foot_add HG.out x).1 hx with h | h
    · exact .inl h
    · exact .inr (by rw [h]; exact f2.size)

theorem room_any {w : World} {p m : Nat} {T : Tbl} {lim : Int} (h : ArrT w p m T lim) (n k : ByteArray) :
    Calls Try.prog 44 #[.pointer (some ⟨p, 0, none⟩), .string n, .string k] w (RoomPost w p m T lim (roomR lim (datOf T) n k) (roomD lim (datOf T) n k)) := by
  unfold roomR roomD
  cases hs : (dget (datOf T) n k).isSome
  · simp only [Bool.false_eq_true, if_false]
    by_cases hl : lim ≤ tot (datOf T)
    · simp only [hl, if_true]; exact room_full h n k hs hl
    · simp only [hl, if_false]
      cases hg : mget T n with
      | none => exact room_new h n k hs hl hg
      | some x => exact room_old h n k hs hl hg
  · simp only [if_true]; exact room_has h n k hs
end Go.Proofs.Ytejajmmacmcijaa
