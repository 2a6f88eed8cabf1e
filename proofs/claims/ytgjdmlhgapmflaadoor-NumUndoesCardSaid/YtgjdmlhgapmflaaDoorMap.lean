/-
  Maps keyed by strings, as association lists: what a look-up, a store, a delete, a length and a make do to the block. No program is named here.
-/
import Derived.WalkKit
import Derived.WalkSpells
import Derived.WalkLawsBesides
import Derived.Lib.Hide
import Derived.Deep.QuietTactic
import Derived.BigQuiet
import Derived.StillTailTactics
import Derived.RegionTactic
import Derived.Deep.RegionHeld3
import Derived.Deep.RegionLaw
import Derived.Deep.DeepCutAuto
import Derived.Deep.LoopGhost
import Derived.Deep.DeepMust
import Derived.Deep.DeepFit
import Derived.Maps.AppendAt
import Derived.Deep.AppendLies
import Derived.Deep.Draws
import Derived.Handy
import Derived.PlainAid
import Derived.WalkSmall
import Derived.MapKept
import Derived.ChangeMaps4
import Derived.ChangeMaps5
namespace Go.Proofs.YtgjdmlhgapmflaaDoor
set_option linter.unusedVariables false
set_option linter.unusedSimpArgs false
open Go.RowKit Go.MapKept Go.ChangeMaps

section assoc
variable {α : Type}
def mget : List (ByteArray × α) → ByteArray → Option α
  | [], _ => none
  | (k, v) :: r, s => if k = s then some v else mget r s
def mput : List (ByteArray × α) → ByteArray → α → List (ByteArray × α)
  | [], s, v => [(s, v)]
  | (k, x) :: r, s, v => if k = s then (k, v) :: r else (k, x) :: mput r s v
def mdel : List (ByteArray × α) → ByteArray → List (ByteArray × α)
  | [], _ => []
  | (k, x) :: r, s => if k = s then r else (k, x) :: mdel r s

theorem mget_put (M : List (ByteArray × α)) (s t : ByteArray) (v : α) : mget (mput M s v) t = if s = t then some v else mget M t := by
  induction M with
  | nil => simp [mput, mget]
  | cons p r ih =>
    obtain ⟨k, x⟩ := p
    by_cases hk : k = s
    · subst hk
      simp only [mput, if_true, mget]
      by_cases ht : k = t <;> simp [ht]
    · simp only [mput, if_neg hk, mget, ih]
      by_cases ht : k = t
      · subst ht; simp [Ne.symm hk]
      · simp [ht]

theorem mput_keys (M : List (ByteArray × α)) (s : ByteArray) (v : α) : (mput M s v).map (·.1) = if (mget M s).isSome then M.map (·.1) else M.map (·.1) ++ [s] := by
  induction M with
  | nil => simp [mput, mget]
  | cons p r ih =>
    obtain ⟨k, x⟩ := p
    by_cases hk : k = s
    · subst hk; simp [mput, mget]
    · simp only [mput, if_neg hk, mget, List.map_cons, ih]
      split <;> simp

theorem mput_length (M : List (ByteArray × α)) (s : ByteArray) (v : α) : (mput M s v).length = if (mget M s).isSome then M.length else M.length + 1 := by
  have := congrArg List.length (mput_keys M s v)
  simp only [List.length_map] at this
  rw [this]; split <;> simp

theorem mget_mem {M : List (ByteArray × α)} {s : ByteArray} {v : α} (h : mget M s = some v) : (s, v) ∈ M := by
  induction M with
  | nil => simp [mget] at h
  | cons p r ih =>
    obtain ⟨k, x⟩ := p
    by_cases hk : k = s
    · subst hk; simp [mget] at h; simp [h]
    · simp [mget, hk] at h; simp [ih h]

theorem mget_none {M : List (ByteArray × α)} {s : ByteArray} : mget M s = none ↔ s ∉ M.map (·.1) := by
  induction M with
  | nil => simp [mget]
  | cons p r ih =>
    obtain ⟨k, x⟩ := p
    by_cases hk : k = s
    · subst hk; simp [mget]
    · simp only [mget, if_neg hk, ih, List.map_cons, List.mem_cons, not_or]
      exact ⟨fun h => ⟨fun e => hk e.symm, h⟩, fun h => h.2⟩

theorem mget_of_mem {M : List (ByteArray × α)} {s : ByteArray} {v : α} (hn : (M.map (·.1)).Nodup) (h : (s, v) ∈ M) : mget M s = some v := by
  induction M with
  | nil => simp at h
  | cons p r ih =>
    obtain ⟨k, x⟩ := p
    simp only [List.map_cons, List.nodup_cons] at hn
    rcases List.mem_cons.1 h with h | h
    · cases h; simp [mget]
    · have : k ≠ s := by rintro rfl; exact hn.1 (List.mem_map.2 ⟨_, h, rfl⟩)
      simp [mget, this, ih hn.2 h]

theorem mdel_keys_sub (M : List (ByteArray × α)) (s : ByteArray) : ((mdel M s).map (·.1)).Sublist (M.map (·.1)) := by
  induction M with
  | nil => simp [mdel]
  | cons p r ih =>
    obtain ⟨k, x⟩ := p
    by_cases hk : k = s
    · simp [mdel, hk]
    · simp only [mdel, if_neg hk, List.map_cons]
      exact ih.cons_cons _

theorem mget_del {M : List (ByteArray × α)} (hn : (M.map (·.1)).Nodup) (s t : ByteArray) : mget (mdel M s) t = if s = t then none else mget M t := by
  induction M with
  | nil => simp [mdel, mget]
  | cons p r ih =>
    obtain ⟨k, x⟩ := p
    simp only [List.map_cons, List.nodup_cons] at hn
    by_cases hk : k = s
    · subst hk
      simp only [mdel, if_true, mget]
      by_cases ht : k = t
      · subst ht; simp; exact mget_none.2 hn.1
      · simp [ht]
    · simp only [mdel, if_neg hk, mget, ih hn.2]
      by_cases ht : k = t
      · subst ht; simp [Ne.symm hk]
      · simp [ht]

theorem mdel_length {M : List (ByteArray × α)} (s : ByteArray) : (mdel M s).length = if (mget M s).isSome then M.length - 1 else M.length := by
  induction M with
  | nil => simp [mdel, mget]
  | cons p r ih =>
    obtain ⟨k, x⟩ := p
    by_cases hk : k = s
    · simp [mdel, mget, hk]
    · simp only [mdel, if_neg hk, mget, List.length_cons, ih]
      split
      · rename_i h
        cases r with
        | nil => simp [mget] at h
        | cons => simp
      · rfl

theorem mput_nodup {M : List (ByteArray × α)} (hn : (M.map (·.1)).Nodup) (s : ByteArray) (v : α) : ((mput M s v).map (·.1)).Nodup := by
  rw [mput_keys]
  split
  · exact hn
  · rename_i h
    have : mget M s = none := by cases hm : mget M s <;> simp_all
    rw [mget_none] at this
    simp only [List.nodup_append, hn, List.nodup_cons, List.not_mem_nil, not_false_eq_true, List.nodup_nil, and_self, List.mem_singleton, true_and]
    rintro a ha b rfl rfl
    exact this ha

theorem mdel_nodup {M : List (ByteArray × α)} (hn : (M.map (·.1)).Nodup) (s : ByteArray) : ((mdel M s).map (·.1)).Nodup := (mdel_keys_sub M s).nodup hn
theorem mput_same {M : List (ByteArray × α)} {s : ByteArray} {v : α} (h : mget M s = some v) : mput M s v = M := by
  induction M with
  | nil => simp [mget] at h
  | cons p r ih =>
    obtain ⟨k, x⟩ := p
    by_cases hk : k = s
    · subst hk; simp [mget] at h; simp [mput, h]
    · simp [mget, hk] at h; simp [mput, hk, ih h]
theorem mput_new {M : List (ByteArray × α)} {s : ByteArray} (v : α) (h : mget M s = none) : mput M s v = M ++ [(s, v)] := by
  induction M with
  | nil => rfl
  | cons p r ih =>
    obtain ⟨k, x⟩ := p
    by_cases hk : k = s
    · simp [mget, hk] at h
    · simp [mget, hk] at h; simp [mput, hk, ih h]
theorem mem_mput {M : List (ByteArray × α)} (hn : (M.map (·.1)).Nodup) {s : ByteArray} {v : α} {x : ByteArray × α} (h : x ∈ mput M s v) : x = (s, v) ∨ (x ∈ M ∧ x.1 ≠ s) := by
  induction M with
  | nil => simp [mput] at h; exact .inl h
  | cons p r ih =>
    obtain ⟨k, y⟩ := p
    simp only [List.map_cons, List.nodup_cons] at hn
    by_cases hk : k = s
    · subst hk
      simp only [mput, if_true, List.mem_cons] at h
      rcases h with h | h
      · exact .inl h
      · exact .inr ⟨List.mem_cons_of_mem _ h, fun e => hn.1 (List.mem_map.2 ⟨x, h, e⟩)⟩
    · simp only [mput, if_neg hk, List.mem_cons] at h
      rcases h with rfl | h
      · exact .inr ⟨by simp, hk⟩
      · rcases ih hn.2 h with h | ⟨h, h'⟩
        · exact .inl h
        · exact .inr ⟨List.mem_cons_of_mem _ h, h'⟩
theorem mem_mdel {M : List (ByteArray × α)} (hn : (M.map (·.1)).Nodup) {s : ByteArray} {x : ByteArray × α} (h : x ∈ mdel M s) : x ∈ M ∧ x.1 ≠ s := by
  induction M with
  | nil => simp [mdel] at h
  | cons p r ih =>
    obtain ⟨k, y⟩ := p
    simp only [List.map_cons, List.nodup_cons] at hn
    by_cases hk : k = s
    · subst hk
      simp only [mdel, if_true] at h
      exact ⟨List.mem_cons_of_mem _ h, fun e => hn.1 (List.mem_map.2 ⟨x, h, e⟩)⟩
    · simp only [mdel, if_neg hk, List.mem_cons] at h
      rcases h with rfl | h
      · exact ⟨by simp, hk⟩
      · exact ⟨List.mem_cons_of_mem _ (ih hn.2 h).1, (ih hn.2 h).2⟩

def mapV {β : Type} (f : α → β) (M : List (ByteArray × α)) : List (ByteArray × β) := M.map fun p => (p.1, f p.2)
variable {β : Type} (f : α → β)
theorem mget_mapV (M : List (ByteArray × α)) (s : ByteArray) : mget (mapV f M) s = (mget M s).map f := by
  induction M with
  | nil => rfl
  | cons p r ih =>
    obtain ⟨k, x⟩ := p
    by_cases hk : k = s <;> simp [mapV, mget, hk]
    simpa [mapV] using ih
theorem mput_mapV (M : List (ByteArray × α)) (s : ByteArray) (v : α) : mput (mapV f M) s (f v) = mapV f (mput M s v) := by
  induction M with
  | nil => rfl
  | cons p r ih =>
    obtain ⟨k, x⟩ := p
    by_cases hk : k = s <;> simp [mapV, mput, hk]
    simpa [mapV] using ih
theorem mdel_mapV (M : List (ByteArray × α)) (s : ByteArray) : mdel (mapV f M) s = mapV f (mdel M s) := by
  induction M with
  | nil => rfl
  | cons p r ih =>
    obtain ⟨k, x⟩ := p
    by_cases hk : k = s <;> simp [mapV, mdel, hk]
    simpa [mapV] using ih
theorem mapV_length (M : List (ByteArray × α)) : (mapV f M).length = M.length := by simp [mapV]
theorem mapV_keys (M : List (ByteArray × α)) : (mapV f M).map (·.1) = M.map (·.1) := by simp [mapV]
theorem mapV_vals (M : List (ByteArray × α)) : (mapV f M).map (·.2) = M.map (fun p => f p.2) := by simp [mapV]
end assoc

/-- block b of w is a map from strings, whose entries are, in the order in which they came, those of M -/
def MapAt (w : World) (b : Nat) (M : List (ByteArray × Value)) : Prop :=
  ∃ es clock, w.heap[b]? = some (.map es clock) ∧ Stamped es clock ∧ es.toList.map (fun e => (e.key, e.val)) = M.map (fun p => (Value.string p.1, p.2))

section run
variable {P : Program} {w w' : World} {b : Nat} {M : List (ByteArray × Value)} {t k e : TypeId}

theorem MapAt.lt (h : MapAt w b M) : b < w.heap.size := by
  obtain ⟨es, c, hb, _⟩ := h
  exact (Array.getElem?_eq_some_iff.1 hb).1
theorem MapAt.keep (h : MapAt w b M) (hk : w'.heap[b]? = w.heap[b]?) : MapAt w' b M := by
  obtain ⟨es, c, hb, r⟩ := h
  exact ⟨es, c, hk.trans hb, r⟩
theorem MapAt.new (w : World) : MapAt (w.alloc (.map #[] 0)) w.heap.size [] :=
  ⟨#[], 0, (MapKept.heap_alloc w _).1, stamped_empty 0, rfl⟩
theorem MapAt.drew (h : MapAt w b M) : MapAt w.drew b M := h
theorem MapAt.drewN (h : MapAt w b M) (n : Nat) : MapAt (w.drewN n) b M := h
theorem MapAt.alloc (h : MapAt w b M) (o : Obj) : MapAt (w.alloc o) b M := h.keep ((MapKept.heap_alloc w o).2 b h.lt)

theorem isKey_of {es : Array MapEntry} (h : es.toList.map (fun e => (e.key, e.val)) = M.map (fun p => (Value.string p.1, p.2))) : ∀ x ∈ es.toList, IsKey .string x.key := by
  intro x hx
  have : (x.key, x.val) ∈ M.map (fun p => (Value.string p.1, p.2)) := by rw [← h]; exact List.mem_map.2 ⟨x, hx, rfl⟩
  obtain ⟨p, _, hp⟩ := List.mem_map.1 this
  injection hp with h1 h2
  rw [← h1]; trivial

theorem MapAt.nodup (h : MapAt w b M) : (M.map (·.1)).Nodup := by
  obtain ⟨es, c, hb, hs, hM⟩ := h
  have h1 := congrArg (List.map Prod.fst) hM
  simp only [List.map_map, Function.comp_def] at h1
  have h3 : (es.toList.map (fun e => e.key)).Nodup := hs.2.2
  rw [h1] at h3
  rw [show M.map (fun x => Value.string x.1) = (M.map (·.1)).map Value.string from by simp] at h3
  exact (List.pairwise_map.1 h3).imp (fun h e => h (by rw [e]))

theorem find_m (s : ByteArray) : ∀ (l : List MapEntry) (M : List (ByteArray × Value)) (i : Nat), l.map (fun e => (e.key, e.val)) = M.map (fun p => (Value.string p.1, p.2)) →
    (Instr.findNow .string (.string s) l i = some none ∧ mget M s = none ∧ (∀ v, mput M s v = M ++ [(s, v)]) ∧ mdel M s = M ∧ ∀ x ∈ l, x.key ≠ .string s) ∨
    ∃ j e, Instr.findNow .string (.string s) l i = some (some (i + j, e.val)) ∧ l[j]? = some e ∧ e.key = .string s ∧ mget M s = some e.val ∧ (∀ v, mput M s v = M.set j (s, v)) ∧ mdel M s = M.eraseIdx j
  | [], [], _, _ => .inl ⟨rfl, rfl, fun _ => rfl, rfl, by simp⟩
  | [], _ :: _, _, h => by simp at h
  | _ :: _, [], _, h => by simp at h
  | e :: es, (k, v) :: M, i, h => by
    simp only [List.map_cons, List.cons.injEq, Prod.mk.injEq] at h
    obtain ⟨⟨h1, h2⟩, h3⟩ := h
    by_cases hk : k = s
    · subst hk
      refine .inr ⟨0, e, ?_, rfl, h1, by simp [mget, h2], fun v => by simp [mput], by simp [mdel]⟩
      simp [Instr.findNow, h1, Instr.sameNow, (bytes_beq k k).2 rfl]
    · have hs : Instr.sameNow .string (.string s) e.key = some false := by
        rw [h1]; simp only [Instr.sameNow, Option.some.injEq]
        cases hb : s == k
        · rfl
        · exact absurd ((bytes_beq _ _).1 hb).symm hk
      rcases find_m s es M (i + 1) h3 with ⟨a1, a2, a3, a4, a5⟩ | ⟨j, e', a1, a2, a3, a4, a5, a6⟩
      · refine .inl ⟨by simp [Instr.findNow, hs, a1], by simp [mget, hk, a2], fun v => by simp [mput, hk, a3], by simp [mdel, hk, a4], ?_⟩
        intro x hx
        rcases List.mem_cons.1 hx with rfl | hx
        · rw [h1]; intro e; injection e with e; exact hk e
        · exact a5 x hx
      · refine .inr ⟨j + 1, e', by simp [Instr.findNow, hs, a1]; omega, by simpa using a2, a3, by simp [mget, hk, a4], fun v => by simp [mput, hk, a5], by simp [mdel, hk, a6]⟩

/-- the result of a look-up -/
def lookRes (z : Value) (M : List (ByteArray × Value)) (s : ByteArray) (ok : Bool) : Value :=
  if ok then .tuple #[(mget M s).getD z, .bool (mget M s).isSome] else (mget M s).getD z

theorem run_lookup_m (ht : P.underlying t = some (.map k e)) (hk : P.underlying k = some .string) {z : Value} (hz : (zeroValue e).run P w = .ok z w) (h : MapAt w b M) (s : ByteArray) (c : Bool) :
    (Instr.lookup t (.map (some b)) (.string s) c).run P w = .ok (lookRes z M s c) w := by
  obtain ⟨es, cl, hb, hs, hM⟩ := h
  have hkey : IsKey .string (.string s) := trivial
  rcases find_m s es.toList M 0 hM with ⟨a1, a2, a3, a4, a5⟩ | ⟨j, e', a1, a2, a3, a4, a5, a6⟩
  · cases c <;> simp [Instr.lookup, run_underlying ht, MapKept.run_getObj_map hb, run_checkKey hk hkey, run_findKey hk a1, Result.andThen, hz, lookRes, a2]
  · cases c <;> simp [Instr.lookup, run_underlying ht, MapKept.run_getObj_map hb, run_checkKey hk hkey, run_findKey hk a1, Result.andThen, lookRes, a4]

theorem run_lookup_nil (ht : P.underlying t = some (.map k e)) (hk : P.underlying k = some .string) {z : Value} (hz : (zeroValue e).run P w = .ok z w) (s : ByteArray) (c : Bool) :
    (Instr.lookup t (.map none) (.string s) c).run P w = .ok (lookRes z [] s c) w := by
  have hkey : IsKey .string (.string s) := trivial
  have hf : Instr.findNow .string (.string s) [] 0 = some none := rfl
  cases c <;> simp [Instr.lookup, run_underlying ht, run_checkKey hk hkey, run_findKey hk hf, Result.andThen, hz, lookRes, mget]

theorem run_mapUpdate_m (ht : P.underlying t = some (.map k e)) (hk : P.underlying k = some .string) (h : MapAt w b M) (s : ByteArray) (v : Value) :
    ∃ o, (Instr.mapUpdate t (.map (some b)) (.string s) v).run P w = .ok () (setBlock w b o) ∧ MapAt (setBlock w b o) b (mput M s v) := by
  obtain ⟨es, cl, hb, hs, hM⟩ := h
  have hkey : IsKey .string (.string s) := trivial
  rcases find_m s es.toList M 0 hM with ⟨a1, a2, a3, a4, a5⟩ | ⟨j, e', a1, a2, a3, a4, a5, a6⟩
  · refine ⟨.map (es.push ⟨.string s, v, cl⟩) (cl + 1), ?_, _, _, heap_setBlock_same hb _, stamped_push hs a5, ?_⟩
    · simp [Instr.mapUpdate, run_underlying ht, MapKept.run_getObj_map hb, run_checkKey hk hkey, run_findKey hk a1, MapKept.run_setObj_map _ hb, Result.andThen, setBlock]
    · simp [a3, hM]
  · have hj : es[j]? = some e' := by simpa using a2
    have hkf : ∀ e'', es[j]? = some e'' → ({ e'' with key := .string s, val := v } : MapEntry).key = e''.key := fun e'' he => by rw [hj] at he; cases he; exact a3.symm
    refine ⟨.map (es.modify j fun e => { e with key := .string s, val := v }) cl, ?_, _, _, heap_setBlock_same hb _, stamped_modify hs _ _ (fun _ _ => rfl) (fun e'' _ he => hkf e'' he), ?_⟩
    · simp [Instr.mapUpdate, run_underlying ht, MapKept.run_getObj_map hb, run_checkKey hk hkey, run_findKey hk a1, hj, a3, run_keyThatStays hkey, MapKept.run_setObj_map _ hb, Result.andThen, setBlock]
    · rw [a5]
      apply List.ext_getElem?
      intro i
      have h0 := congrArg (fun l => l[i]?) hM
      simp only [List.getElem?_map] at h0
      simp only [List.getElem?_map, List.getElem?_set, Array.toList_modify, List.getElem?_modify]
      by_cases hij : j = i
      · subst hij
        have hjl : j < M.length := by
          have := congrArg List.length hM
          have h2 := (List.getElem?_eq_some_iff.1 a2).1
          simp at this; simp at h2; omega
        simp [a2, hjl]
      · simp only [hij, if_false, Option.map_id_fun', id_eq]; simpa using h0

theorem run_delete_m (ht : P.underlying t = some (.map k e)) (hk : P.underlying k = some .string) (h : MapAt w b M) (s : ByteArray) (ty : TypeId) :
    ∃ o, (Builtin.delete_ #[t, k] ty #[.map (some b), .string s]).run P w = .ok (.tuple #[]) (setBlock w b o) ∧ MapAt (setBlock w b o) b (mdel M s) := by
  obtain ⟨es, cl, hb, hs, hM⟩ := h
  have hkey : IsKey .string (.string s) := trivial
  rcases find_m s es.toList M 0 hM with ⟨a1, a2, a3, a4, a5⟩ | ⟨j, e', a1, a2, a3, a4, a5, a6⟩
  · refine ⟨.map es cl, ?_, _, _, heap_setBlock_same hb _, hs, by rw [a4]; exact hM⟩
    simp [Builtin.delete_, run_underlying ht, MapKept.run_getObj_map hb, run_checkKey hk hkey, run_findKey hk a1, MapKept.run_setObj_map _ hb, Result.andThen, setBlock]
  · refine ⟨.map (es.eraseIdxIfInBounds j) cl, ?_, _, _, heap_setBlock_same hb _, stamped_erase hs j, ?_⟩
    · simp [Builtin.delete_, run_underlying ht, MapKept.run_getObj_map hb, run_checkKey hk hkey, run_findKey hk a1, MapKept.run_setObj_map _ hb, Result.andThen, setBlock]
    · have hjl : j < es.size := by have := (List.getElem?_eq_some_iff.1 a2).1; simpa using this
      rw [a6]
      simp only [Array.eraseIdxIfInBounds, hjl, dite_true, Array.toList_eraseIdx, map_eraseIdx, hM]

theorem run_delete_nil (ht : P.underlying t = some (.map k e)) (hk : P.underlying k = some .string) (s : ByteArray) (ty : TypeId) :
    (Builtin.delete_ #[t, k] ty #[.map none, .string s]).run P w = .ok (.tuple #[]) w := by
  have hkey : IsKey .string (.string s) := trivial
  simp [Builtin.delete_, run_underlying ht, run_checkKey hk hkey, Result.andThen]

theorem run_len_m (ht : P.underlying t = some (.map k e)) (h : MapAt w b M) (ty : TypeId) : (Builtin.len_ #[t] ty #[.map (some b)]).run P w = .ok (.int .i64 M.length) w := by
  obtain ⟨es, cl, hb, hs, hM⟩ := h
  have := congrArg List.length hM
  simp at this
  simp [Builtin.len_, run_underlying ht, MapKept.run_getObj_map hb, Result.andThen, goInt, this]
theorem run_len_nil (ht : P.underlying t = some (.map k e)) (ty : TypeId) : (Builtin.len_ #[t] ty #[.map none]).run P w = .ok (.int .i64 0) w := by
  simp [Builtin.len_, run_underlying ht, Result.andThen, goInt]
end run
end Go.Proofs.YtgjdmlhgapmflaaDoor
