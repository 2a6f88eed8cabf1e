/-
  What a call may change: a frame with a set of blocks, and how it goes on over the steps of a walk. No program is named here.
-/
import Derived.Test.YtgjdmlhgapmflaaDoorMap
namespace Go.Proofs.YtgjdmlhgapmflaaDoor
set_option linter.unusedVariables false
set_option linter.unusedSimpArgs false
open Go.RowKit Go.MapKept Go.ChangeMaps

/-- w' is w with new blocks, and with changes to old blocks of L alone -/
structure Fr (L : Nat → Prop) (w w' : World) : Prop where
  os : w'.os = w.os
  tape : w'.tape = w.tape
  output : w'.output = w.output
  size : w.heap.size ≤ w'.heap.size
  block : ∀ k, k < w.heap.size → ¬ L k → w'.heap[k]? = w.heap[k]?

section
variable {L L' : Nat → Prop} {w w' w'' : World}
theorem Fr.refl (L : Nat → Prop) (w : World) : Fr L w w := ⟨rfl, rfl, rfl, Nat.le_refl _, fun _ _ _ => rfl⟩
theorem Fr.trans (h : Fr L w w') (h' : Fr L' w' w'') (hs : ∀ k, L' k → L k ∨ w.heap.size ≤ k) : Fr L w w'' :=
  ⟨h'.os.trans h.os, h'.tape.trans h.tape, h'.output.trans h.output, Nat.le_trans h.size h'.size, fun k hk hL =>
    (h'.block k (Nat.lt_of_lt_of_le hk h.size) (fun q => (hs k q).elim hL (fun g => by omega))).trans (h.block k hk hL)⟩
theorem Fr.mono (h : Fr L w w') (hs : ∀ k, k < w.heap.size → L k → L' k) : Fr L' w w' :=
  ⟨h.os, h.tape, h.output, h.size, fun k hk hL => h.block k hk (fun q => hL (hs k hk q))⟩
theorem Fr.drew (h : Fr L w w') : Fr L w w'.drew := ⟨h.os, h.tape, h.output, h.size, h.block⟩
theorem Fr.drewN (h : Fr L w w') (n : Nat) : Fr L w (w'.drewN n) := ⟨h.os, h.tape, h.output, h.size, h.block⟩
theorem Fr.alloc (h : Fr L w w') (o : Obj) : Fr L w (w'.alloc o) :=
  h.trans (L' := fun _ => False) ⟨rfl, rfl, rfl, by simp, fun k hk _ => (MapKept.heap_alloc w' o).2 k hk⟩ (fun _ q => q.elim)
theorem Fr.setCell (h : Fr L w w') (a : Addr) (v : Value) (ha : L a.block ∨ w.heap.size ≤ a.block) : Fr L w (w'.setCell a v) :=
  h.trans (L' := fun k => k = a.block) ⟨rfl, rfl, rfl, by simp [World.setCell], fun k _ hk => Below.heap_setCell w' a v k hk⟩ (fun k q => by subst q; exact ha)
theorem Fr.setBlock (h : Fr L w w') (b : Nat) (o : Obj) (ha : L b ∨ w.heap.size ≤ b) : Fr L w (setBlock w' b o) :=
  h.trans (L' := fun k => k = b) ⟨rfl, rfl, rfl, by simp [ChangeMaps.setBlock], fun k _ hk => by simp [ChangeMaps.setBlock, Ne.symm hk]⟩ (fun k q => by subst q; exact ha)
theorem Fr.below (h : Fr L w w') {B : Nat} (hB : B ≤ w.heap.size) (hL : ∀ k, L k → B ≤ k) : Below B w w' :=
  ⟨h.os, h.tape, h.output, h.size, fun k hk => h.block k (by omega) (fun q => by have := hL k q; omega)⟩
theorem Fr.of_below (h : Below w.heap.size w w') : Fr (fun _ => False) w w' := ⟨h.os, h.tape, h.output, h.size, fun k hk _ => h.block k hk⟩
theorem Fr.of_grown {row : Option Nat} (h : w.grownBy w' row) : Fr (fun k => some k = row) w w' := ⟨h.os, h.tape, h.output, h.size, fun k hk q => h.block k hk q⟩
theorem Fr.none_below (h : Fr (fun _ => False) w w') : Below w.heap.size w w' := h.below (Nat.le_refl _) (fun _ q => q.elim)

theorem heap_setCell_same (w : World) (b i : Nat) (v : Value) {cs : Array Value} {t : TypeId} {fz : Nat × Nat} (h : w.heap[b]? = some (.cells cs t fz)) :
    (w.setCell ⟨b, i, none⟩ v).heap[b]? = some (.cells (cs.setIfInBounds i v) t fz) := by
  simp [World.setCell, Array.getElem?_modify, h]
theorem heap_setCell_ne (w : World) (a : Addr) (v : Value) (k : Nat) (h : k ≠ a.block) : (w.setCell a v).heap[k]? = w.heap[k]? := Below.heap_setCell w a v k h
theorem heap_drewN (w : World) (n : Nat) : (w.drewN n).heap = w.heap := rfl
theorem heap_drew (w : World) : w.drew.heap = w.heap := rfl
attribute [go_sem] heap_drewN heap_drew
theorem heap_alloc_lt (w : World) (o : Obj) {k : Nat} (h : k < w.heap.size) : (w.alloc o).heap[k]? = w.heap[k]? := (MapKept.heap_alloc w o).2 k h
theorem lt_of_heap {w : World} {b : Nat} {o : Obj} (h : w.heap[b]? = some o) : b < w.heap.size := (Array.getElem?_eq_some_iff.1 h).1
theorem cell_of_heap {w : World} {b : Nat} {cs : Array Value} {t : TypeId} {fz : Nat × Nat} (h : w.heap[b]? = some (.cells cs t fz)) (i : Nat) : w.cell? ⟨b, i, none⟩ = cs[i]? := cell_of_row w b i cs t fz h
theorem free_of_heap {w : World} {b : Nat} {cs : Array Value} {t : TypeId} (h : w.heap[b]? = some (.cells cs t (0, 0))) (i : Nat) : w.frozen? ⟨b, i, none⟩ = false := by simp [World.frozen?, h]
section mapsteps
variable {P : Program} {w : World} {b : Nat} {M : List (ByteArray × Value)} {t k e : TypeId}
theorem run_mapUpdate_f (ht : P.underlying t = some (.map k e)) (hk : P.underlying k = some .string) (h : MapAt w b M) (s : ByteArray) (v : Value) :
    ∃ w', (Instr.mapUpdate t (.map (some b)) (.string s) v).run P w = .ok () w' ∧ MapAt w' b (mput M s v) ∧ Fr (· = b) w w' ∧ w'.heap.size = w.heap.size := by
  obtain ⟨o, h1, h2⟩ := run_mapUpdate_m ht hk h s v
  exact ⟨_, h1, h2, (Fr.refl _ _).setBlock _ _ (.inl rfl), by simp [ChangeMaps.setBlock]⟩
theorem run_delete_f (ht : P.underlying t = some (.map k e)) (hk : P.underlying k = some .string) (h : MapAt w b M) (s : ByteArray) (ty : TypeId) :
    ∃ w', (Builtin.delete_ #[t, k] ty #[.map (some b), .string s]).run P w = .ok (.tuple #[]) w' ∧ MapAt w' b (mdel M s) ∧ Fr (· = b) w w' ∧ w'.heap.size = w.heap.size := by
  obtain ⟨o, h1, h2⟩ := run_delete_m ht hk h s ty
  exact ⟨_, h1, h2, (Fr.refl _ _).setBlock _ _ (.inl rfl), by simp [ChangeMaps.setBlock]⟩
theorem MapAt.heq {w' : World} (h : MapAt w b M) (hw : w'.heap = w.heap) : MapAt w' b M := h.keep (by rw [hw])
theorem run_lookup_h {z : Value} (ht : P.underlying t = some (.map k e)) (hk : P.underlying k = some .string) (hz : ∀ w, (zeroValue e).run P w = .ok z w) (h : MapAt w b M) (s : ByteArray) (c : Bool) {r : Value} (hr : lookRes z M s c = r) :
    ∀ W : World, W.heap = w.heap → (Instr.lookup t (.map (some b)) (.string s) c).run P W = .ok r W := fun W hW => by rw [← hr]; exact run_lookup_m ht hk (hz W) (h.heq hW) s c
theorem lookRes_some {z v : Value} {s : ByteArray} (h : mget M s = some v) : lookRes z M s false = v := by simp [lookRes, h]
theorem lookRes_none {z : Value} {s : ByteArray} (h : mget M s = none) : lookRes z M s false = z := by simp [lookRes, h]
theorem run_len_h (ht : P.underlying t = some (.map k e)) (h : MapAt w b M) (ty : TypeId) : ∀ W : World, W.heap = w.heap → (Builtin.len_ #[t] ty #[.map (some b)]).run P W = .ok (.int .i64 M.length) W := fun W hW => run_len_m ht (h.heq hW) ty
theorem MapAt.fr {L : Nat → Prop} {w' : World} (h : MapAt w b M) (hf : Fr L w w') (hb : ¬ L b) : MapAt w' b M := h.keep (hf.block b h.lt hb)
theorem MapAt.setCell (h : MapAt w b M) (a : Addr) (v : Value) (hb : b ≠ a.block) : MapAt (w.setCell a v) b M := h.keep (heap_setCell_ne w a v b hb)
theorem Fr.keep {L : Nat → Prop} {w' : World} (hf : Fr L w w') {o : Obj} (h : w.heap[b]? = some o) (hb : ¬ L b) : w'.heap[b]? = some o := (hf.block b (lt_of_heap h) hb).trans h
end mapsteps
theorem str_eq {a b : ByteArray} (h : a = b) : (a.toList == b.toList) = true := by rw [h]; simp
theorem str_ne {a b : ByteArray} (h : a ≠ b) : (a.toList == b.toList) = false := by
  rw [ByteArray.toList_eq, ByteArray.toList_eq]
  simp only [beq_eq_false_iff_ne, ne_eq]
  intro e
  exact h (ByteArray.ext (Array.toList_inj.1 e))
theorem set3 {w : World} {b : Nat} {x y z x' y' z' : Value} {t : TypeId} (h : w.heap[b]? = some (.cells #[x, y, z] t (0, 0))) :
    (((w.setCell ⟨b, 0, none⟩ x').setCell ⟨b, 1, none⟩ y').setCell ⟨b, 2, none⟩ z').heap[b]? = some (.cells #[x', y', z'] t (0, 0)) := by
  rw [heap_setCell_same _ b 2 z' (heap_setCell_same _ b 1 y' (heap_setCell_same _ b 0 x' h))]; rfl
theorem Fr.new {L : Nat → Prop} {w w' : World} {o : Obj} (hf : Fr L (w.alloc o) w') (hL : ¬ L w.heap.size) : w'.heap[w.heap.size]? = some o :=
  (hf.block w.heap.size (by simp) hL).trans (MapKept.heap_alloc w o).1
end
end Go.Proofs.YtgjdmlhgapmflaaDoor
