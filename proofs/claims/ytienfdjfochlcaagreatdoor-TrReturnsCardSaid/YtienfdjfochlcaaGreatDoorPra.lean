/- Own texts of this claim, merged: Map, Mem, Close, Am1, Gt, Am2, Am3, Am4, Am5, Am6, Am7, Am8, Am9, Am10, Am11, Am12, Am13, Am14. -/
import Derived.WalkKit
import Derived.WalkSpells
import Derived.WalkLawsBesides
import Derived.Lib.Hide
import Derived.Deep.QuietTactic
import Derived.BigQuiet
import Derived.StillTailTactics
import Derived.RegionTactic
import Derived.Deep.RegionHeld3
import Derived.Deep.RegionLaw
import Derived.Deep.DeepCutAuto
import Derived.Deep.LoopGhost
import Derived.Deep.DeepMust
import Derived.Deep.DeepFit
import Derived.Maps.AppendAt
import Derived.Deep.AppendLies
import Derived.Deep.Draws
import Derived.Handy
import Derived.PlainAid
import Derived.WalkSmall
import Derived.MapKept
import Derived.ChangeMaps4
import Derived.ChangeMaps5
import Derived.Test.YtienfdjfochlcaaGreatDoorRows
import Derived.ProofKit
import Derived.OpenShut
import Derived.ShutString
import Derived.ChangeOld
import Derived.Below
import Derived.SizedLaws
import Derived.Deep.Slices
import Derived.Deep.Fields
import Derived.Deep.CondSized
import Derived.Calls
import Derived.Orders
import Derived.RowKit
import Derived.IntWalk
import Derived.Laws.Cells
import Derived.Laws.AppendOwn
import Derived.Laws.CopyRow
import Derived.Laws.Entries
import Derived.Laws.BytesString
import Derived.Laws.Tables
import Derived.Great.BuildSlice
section
namespace Go.Proofs.YtienfdjfochlcaaGreatDoor
set_option linter.unusedVariables false
set_option linter.unusedSimpArgs false
open Go.RowKit Go.MapKept Go.ChangeMaps
section assoc
variable {α : Type}
def mget : List (ByteArray × α) → ByteArray → Option α
 | [], _ => none
 | (k, v) :: r, s => if k = s then some v else mget r s
def mput : List (ByteArray × α) → ByteArray → α → List (ByteArray × α)
 | [], s, v => [(s, v)]
 | (k, x) :: r, s, v => if k = s then (k, v) :: r else (k, x) :: mput r s v
def mdel : List (ByteArray × α) → ByteArray → List (ByteArray × α)
 | [], _ => []
 | (k, x) :: r, s => if k = s then r else (k, x) :: mdel r s
def mapV {β : Type} (f : α → β) (M : List (ByteArray × α)) : List (ByteArray × β) := M.map fun p => (p.1, f p.2)
variable {β : Type} (f : α → β)
end assoc
def MapAt (w : World) (b : Nat) (M : List (ByteArray × Value)) : Prop :=
 ∃ es clock, w.heap[b]? = some (.map es clock) ∧ Stamped es clock ∧ es.toList.map (fun e => (e.key, e.val)) = M.map (fun p => (Value.string p.1, p.2))
section run
variable {P : Program} {w w' : World} {b : Nat} {M : List (ByteArray × Value)} {t k e : TypeId}
theorem MapAt.lt (h : MapAt w b M) : b < w.heap.size := by
 obtain ⟨es, c, hb, _⟩ := h
 exact (Array.getElem?_eq_some_iff.1 hb).1
theorem MapAt.keep (h : MapAt w b M) (hk : w'.heap[b]? = w.heap[b]?) : MapAt w' b M := by
 obtain ⟨es, c, hb, r⟩ := h
 exact ⟨es, c, hk.trans hb, r⟩
theorem MapAt.new (w : World) : MapAt (w.alloc (.map #[] 0)) w.heap.size [] :=
 ⟨#[], 0, (MapKept.heap_alloc w _).1, stamped_empty 0, rfl⟩
theorem MapAt.drew (h : MapAt w b M) : MapAt w.drew b M := h
theorem MapAt.drewN (h : MapAt w b M) (n : Nat) : MapAt (w.drewN n) b M := h
theorem MapAt.alloc (h : MapAt w b M) (o : Obj) : MapAt (w.alloc o) b M := h.keep ((MapKept.heap_alloc w o).2 b h.lt)
theorem MapAt.nodup (h : MapAt w b M) : (M.map (·.1)).Nodup := by
 obtain ⟨es, c, hb, hs, hM⟩ := h
 have h1 := congrArg (List.map Prod.fst) hM
 simp only [List.map_map, Function.comp_def] at h1
 have h3 : (es.toList.map (fun e => e.key)).Nodup := hs.2.2
 rw [h1] at h3
 rw [show M.map (fun x => Value.string x.1) = (M.map (·.1)).map Value.string from by simp] at h3
 exact (List.pairwise_map.1 h3).imp (fun h e => h (by rw [e]))
def lookRes (z : Value) (M : List (ByteArray × Value)) (s : ByteArray) (ok : Bool) : Value :=
 if ok then .tuple #[(mget M s).getD z, .bool (mget M s).isSome] else (mget M s).getD z
end run
end Go.Proofs.YtienfdjfochlcaaGreatDoor
end
section
namespace Go.Proofs.YtienfdjfochlcaaGreatDoor
set_option linter.unusedVariables false
set_option linter.unusedSimpArgs false
open Go.RowKit Go.MapKept Go.ChangeMaps
structure Fr (L : Nat → Prop) (w w' : World) : Prop where
 os : w'.os = w.os
 tape : w'.tape = w.tape
 output : w'.output = w.output
 size : w.heap.size ≤ w'.heap.size
 block : ∀ k, k < w.heap.size → ¬ L k → w'.heap[k]? = w.heap[k]?
section
variable {L L' : Nat → Prop} {w w' w'' : World}
theorem Fr.refl (L : Nat → Prop) (w : World) : Fr L w w := ⟨rfl, rfl, rfl, Nat.le_refl _, fun _ _ _ => rfl⟩
theorem Fr.trans (h : Fr L w w') (h' : Fr L' w' w'') (hs : ∀ k, L' k → L k ∨ w.heap.size ≤ k) : Fr L w w'' :=
 ⟨h'.os.trans h.os, h'.tape.trans h.tape, h'.output.trans h.output, Nat.le_trans h.size h'.size, fun k hk hL =>
  (h'.block k (Nat.lt_of_lt_of_le hk h.size) (fun q => (hs k q).elim hL (fun g => by omega))).trans (h.block k hk hL)⟩
theorem Fr.mono (h : Fr L w w') (hs : ∀ k, k < w.heap.size → L k → L' k) : Fr L' w w' :=
 ⟨h.os, h.tape, h.output, h.size, fun k hk hL => h.block k hk (fun q => hL (hs k hk q))⟩
theorem Fr.drew (h : Fr L w w') : Fr L w w'.drew := ⟨h.os, h.tape, h.output, h.size, h.block⟩
theorem Fr.drewN (h : Fr L w w') (n : Nat) : Fr L w (w'.drewN n) := ⟨h.os, h.tape, h.output, h.size, h.block⟩
theorem Fr.alloc (h : Fr L w w') (o : Obj) : Fr L w (w'.alloc o) :=
 h.trans (L' := fun _ => False) ⟨rfl, rfl, rfl, by simp, fun k hk _ => (MapKept.heap_alloc w' o).2 k hk⟩ (fun _ q => q.elim)
theorem Fr.setCell (h : Fr L w w') (a : Addr) (v : Value) (ha : L a.block ∨ w.heap.size ≤ a.block) : Fr L w (w'.setCell a v) :=
 h.trans (L' := fun k => k = a.block) ⟨rfl, rfl, rfl, by simp [World.setCell], fun k _ hk => Below.heap_setCell w' a v k hk⟩ (fun k q => by subst q; exact ha)
theorem Fr.setBlock (h : Fr L w w') (b : Nat) (o : Obj) (ha : L b ∨ w.heap.size ≤ b) : Fr L w (setBlock w' b o) :=
 h.trans (L' := fun k => k = b) ⟨rfl, rfl, rfl, by simp [ChangeMaps.setBlock], fun k _ hk => by simp [ChangeMaps.setBlock, Ne.symm hk]⟩ (fun k q => by subst q; exact ha)
theorem Fr.below (h : Fr L w w') {B : Nat} (hB : B ≤ w.heap.size) (hL : ∀ k, L k → B ≤ k) : Below B w w' :=
 ⟨h.os, h.tape, h.output, h.size, fun k hk => h.block k (by omega) (fun q => by have := hL k q; omega)⟩
theorem Fr.of_below (h : Below w.heap.size w w') : Fr (fun _ => False) w w' := ⟨h.os, h.tape, h.output, h.size, fun k hk _ => h.block k hk⟩
theorem Fr.none_below (h : Fr (fun _ => False) w w') : Below w.heap.size w w' := h.below (Nat.le_refl _) (fun _ q => q.elim)
theorem heap_setCell_ne (w : World) (a : Addr) (v : Value) (k : Nat) (h : k ≠ a.block) : (w.setCell a v).heap[k]? = w.heap[k]? := Below.heap_setCell w a v k h
theorem heap_drewN (w : World) (n : Nat) : (w.drewN n).heap = w.heap := rfl
theorem heap_drew (w : World) : w.drew.heap = w.heap := rfl
attribute [go_sem] heap_drewN heap_drew
theorem lt_of_heap {w : World} {b : Nat} {o : Obj} (h : w.heap[b]? = some o) : b < w.heap.size := (Array.getElem?_eq_some_iff.1 h).1
section mapsteps
variable {P : Program} {w : World} {b : Nat} {M : List (ByteArray × Value)} {t k e : TypeId}
theorem MapAt.fr {L : Nat → Prop} {w' : World} (h : MapAt w b M) (hf : Fr L w w') (hb : ¬ L b) : MapAt w' b M := h.keep (hf.block b h.lt hb)
theorem MapAt.setCell (h : MapAt w b M) (a : Addr) (v : Value) (hb : b ≠ a.block) : MapAt (w.setCell a v) b M := h.keep (heap_setCell_ne w a v b hb)
theorem Fr.keep {L : Nat → Prop} {w' : World} (hf : Fr L w w') {o : Obj} (h : w.heap[b]? = some o) (hb : ¬ L b) : w'.heap[b]? = some o := (hf.block b (lt_of_heap h) hb).trans h
end mapsteps
theorem str_ne {a b : ByteArray} (h : a ≠ b) : (a.toList == b.toList) = false := by
 rw [ByteArray.toList_eq, ByteArray.toList_eq]
 simp only [beq_eq_false_iff_ne, ne_eq]
 intro e
 exact h (ByteArray.ext (Array.toList_inj.1 e))
theorem Fr.new {L : Nat → Prop} {w w' : World} {o : Obj} (hf : Fr L (w.alloc o) w') (hL : ¬ L w.heap.size) : w'.heap[w.heap.size]? = some o :=
 (hf.block w.heap.size (by simp) hL).trans (MapKept.heap_alloc w o).1
end
end Go.Proofs.YtienfdjfochlcaaGreatDoor
end
section
namespace Go.Proofs.YtienfdjfochlcaaGreatDoor
set_option linter.unusedVariables false
set_option linter.unusedSimpArgs false
open Go.RowKit Go.ChangeShapes Go.WideShapes Go.ChangeAt Go.Deep
theorem own : ownKnob Tryz.prog.godebug = none := by kernel_rfl
theorem laidOut : laidOutB Tryz.prog = true := by kernel_rfl
section
variable {H : Type} {enc : TypeId × Value → H}
theorem trodAll_below {W W' : World} (hb : Below W.heap.size W W') : ∀ {ts : List TypeId} {vs : List Value} {ds : List (DataW H)} {ps : List MemPlace},
    (∀ t ∈ ts, Tryz.prog.readableRec t = true ∧ t < Tryz.prog.types.size) → DataW.TrodAll enc Tryz.prog W 0 (fun _ => true) true ts vs ds ps → DataW.TrodAll enc Tryz.prog W' 0 (fun b => decide (b < W.heap.size)) true ts vs ds ps
  | [], [], [], _, _, h => h
  | t :: ts, v :: vs, d :: ds, _, hr, ⟨p, q, h1, h2, e⟩ => by
    refine ⟨p, q, Below.trod laidOut (hr t (by simp)).1 (hr t (by simp)).2 h1 hb ?_, trodAll_below hb (fun t ht => hr t (by simp [ht])) h2, e⟩
    obtain ⟨m, hm⟩ := h1
    exact DataW.trod_lt m _ _ _ hm
  | [], _ :: _, _, _, _, h => h.elim
  | [], [], _ :: _, _, _, h => h.elim
  | _ :: _, [], _, _, _, h => h.elim
  | _ :: _, _ :: _, [], _, _, h => h.elim
set_option maxRecDepth 100000 in
end
section
variable {H : Type} {enc : TypeId × Value → H} {w : World}
def SlAt (w : World) (size : Nat) (A : Option Addr) (n : Nat) (cell : Nat → Nat → Option Value) : Prop :=
 0 < n → ∃ b off, A = some ⟨b, off, none⟩ ∧ b < w.heap.size ∧ ∀ i, i < n → ∀ j, j < size → w.cell? ⟨b, off + i * size + j, none⟩ = cell i j
theorem SlAt.frame {w' : World} {size : Nat} {A : Option Addr} {n : Nat} {cell : Nat → Nat → Option Value} (h : SlAt w size A n cell) (hb : Below w.heap.size w w') : SlAt w' size A n cell := by
 intro hn
 obtain ⟨b, off, e, hlt, hc⟩ := h hn
 exact ⟨b, off, e, Nat.lt_of_lt_of_le hlt hb.size, fun i hi j hj => (hb.cell (p := ⟨b, _, none⟩) hlt).trans (hc i hi j hj)⟩
set_option maxRecDepth 100000 in
end
section
end
end Go.Proofs.YtienfdjfochlcaaGreatDoor
end
section
namespace Go.Proofs.YtienfdjfochlcaaGreatDoor
set_option linter.unusedVariables false
set_option linter.unusedSimpArgs false
inductive AV where
 | any
 | val (v : Value)
 | agg (l : List AV)
 | tuple (l : List AV)
 | slice (sz : Nat) (l : List AV)
 | row (id ver used off len : Nat)
 | ptr (id off : Nat)
 | elt (id ver used i fo : Nat)
 | rptr (l : List AV)
 | fn (f : Fn) (first caps : List AV)
 | mp (id : Nat)
 | nif
 | bsl (id off len : Nat)
 | pel (id off k : Nat)
 | it (id : Nat)
def AV.cells : AV → List AV
 | .agg l => l
 | v => [v]
def AV.isCell : AV → Bool
 | .val (.agg _) | .val (.tuple _) | .any | .agg _ | .tuple _ => false
 | _ => true
def AV.grCell : AV → Bool
 | .val (.agg _) | .val (.tuple _) => false
 | .val _ | .slice _ _ | .nif | .rptr _ => true
 | _ => false
def AV.ground (v : AV) : Bool := v.cells.all AV.grCell
inductive MObj where
 | box (t : TypeId) (cells : List AV)
 | row (ver sz : Nat) (l : List AV) (wr : Bool) (ap : Nat)
 | mp (es : List (Value × AV))
 | dead
 | it (s : ByteArray) (pos : Nat)
inductive Hd where
 | box (b n : Nat)
 | row (b cap sz ver used : Nat) (wr : Bool)
 | mp (b : Nat)
 | dead
 | it (b : Nat)
def Hd.mut : Hd → Nat → Nat → Prop
 | .box b' _, b, _ => b = b'
 | .row b' cap sz _ used wr, b, o => b = b' ∧ 0 < cap ∧ (wr = true ∨ used * sz ≤ o)
 | .mp b', b, _ => b = b'
 | .dead, _, _ => False
 | .it b', b, _ => b = b'
def Mut (H : List Hd) (b o : Nat) : Prop := ∃ (i : Nat) (h : Hd), H[i]? = some h ∧ h.mut b o
def Stab (X : Nat → Nat → Prop) (H : List Hd) (w : World) (b o : Nat) : Prop := b < w.heap.size ∧ ¬ X b o ∧ ¬ Mut H b o
inductive Rep (S : Nat → Nat → Prop) (w : World) : List Hd → Value → AV → Prop
  | any (H v) : Rep S w H v .any
  | val (H v) : Rep S w H v (.val v)
  | agg {H : List Hd} {cs : Array Value} {l : List AV} (hn : cs.size = l.length) (h : ∀ (i : Nat) (y : AV), l[i]? = some y → Rep S w H (cs.getD i undef) y) : Rep S w H (.agg cs) (.agg l)
  | tuple {H : List Hd} {cs : Array Value} {l : List AV} (hn : cs.size = l.length) (h : ∀ (i : Nat) (y : AV), l[i]? = some y → Rep S w H (cs.getD i undef) y) : Rep S w H (.tuple cs) (.tuple l)
  | slice {H : List Hd} {A : Option Addr} {c : Nat} {l : List AV} (b off sz : Nat) (u : Nat → Nat → Value) (hc : l.length ≤ c) (hz : A = none → c = 0) (hA : 0 < l.length → A = some ⟨b, off, none⟩)
      (hsz : ∀ (i : Nat) (x : AV), l[i]? = some x → x.ground = true ∧ x.cells.length = sz)
      (hcell : ∀ (i : Nat) (x : AV) (j : Nat) (y : AV), l[i]? = some x → x.cells[j]? = some y → w.cell? ⟨b, off + i * sz + j, none⟩ = some (u i j) ∧ S b (off + i * sz + j))
      (hrep : ∀ (i : Nat) (x : AV) (j : Nat) (y : AV), l[i]? = some x → x.cells[j]? = some y → Rep S w [] (u i j) y) : Rep S w H (.slice A l.length c) (.slice sz l)
  | rptr {H : List Hd} {l : List AV} (b o : Nat) (u : Nat → Value) (hg : ∀ (j : Nat) (y : AV), l[j]? = some y → y.grCell = true) (hcell : ∀ (j : Nat) (y : AV), l[j]? = some y → w.cell? ⟨b, o + j, none⟩ = some (u j) ∧ S b (o + j))
      (hrep : ∀ (j : Nat) (y : AV), l[j]? = some y → Rep S w [] (u j) y) : Rep S w H (.pointer (some ⟨b, o, none⟩)) (.rptr l)
  | row {H : List Hd} {v : Value} (id ver used off len : Nat) {b cap sz cver cused : Nat} {wr : Bool} (hs : ∃ A n c, v = .slice A n c) (hH : H[id]? = some (.row b cap sz cver cused wr)) (hle : ver < cver ∨ (ver = cver ∧ used ≤ cused))
      (hv : ver = cver → used = cused → off + len ≤ used ∧ used ≤ cap ∧ ∃ A, v = .slice A len (cap - off) ∧ (off < cap → A = some ⟨b, off * sz, none⟩) ∧ (A = none → cap - off = 0) ∧ (cap = 0 → b = 0 → A = none)) : Rep S w H v (.row id ver used off len)
  | ptr {H : List Hd} (id off : Nat) {b n : Nat} (hH : H[id]? = some (.box b n)) : Rep S w H (.pointer (some ⟨b, off, none⟩)) (.ptr id off)
  | elt {H : List Hd} {v : Value} (id ver used i fo : Nat) {b cap sz cver cused : Nat} {wr : Bool} (hs : ∃ q, v = .pointer q) (hH : H[id]? = some (.row b cap sz cver cused wr)) (hle : ver < cver ∨ (ver = cver ∧ used ≤ cused))
      (hv : ver = cver → used = cused → i < used ∧ v = .pointer (some ⟨b, i * sz + fo, none⟩)) : Rep S w H v (.elt id ver used i fo)
  | fn {H : List Hd} {f : Fn} {fs cs : Array Value} {l k : List AV} (hn : fs.size = l.length) (hm : cs.size = k.length) (h : ∀ (i : Nat) (y : AV), l[i]? = some y → Rep S w H (fs.getD i undef) y) (h' : ∀ (i : Nat) (y : AV), k[i]? = some y → Rep S w H (cs.getD i undef) y) :
      Rep S w H (.func f fs cs) (.fn f l k)
  | mp {H : List Hd} (id : Nat) {b : Nat} (hH : H[id]? = some (.mp b)) : Rep S w H (.map (some b)) (.mp id)
  | nif (H : List Hd) (t : TypeId) (v : Value) : Rep S w H (.iface t v) .nif
  | bsl {H : List Hd} (id off len : Nat) {b n : Nat} (hH : H[id]? = some (.box b n)) : Rep S w H (.slice (some ⟨b, off, none⟩) len len) (.bsl id off len)
  | pel {H : List Hd} (id off k : Nat) {b n o : Nat} (hH : H[id]? = some (.box b n)) (ho : o = off + k) : Rep S w H (.pointer (some ⟨b, o, none⟩)) (.pel id off k)
  | it {H : List Hd} (id : Nat) {b : Nat} (hH : H[id]? = some (.it b)) : Rep S w H (.pointer (some ⟨b, 0, none⟩)) (.it id)
def Hd.le : Hd → Hd → Prop
 | .row b cap sz ver used wr, .row b' cap' sz' ver' used' wr' => (b = b' ∧ cap = cap' ∧ sz = sz' ∧ ver = ver' ∧ used = used') ∨ ver < ver' ∨ (ver = ver' ∧ used < used')
 | .box b n, .box b' n' => b = b' ∧ n = n'
 | .mp b, .mp b' => b = b'
 | .dead, .dead => True
 | .it b, .it b' => b = b'
 | _, _ => False
def HLe (H H' : List Hd) : Prop := ∀ (i : Nat) (h : Hd), H[i]? = some h → ∃ h' : Hd, H'[i]? = some h' ∧ h.le h'
theorem Hd.le_refl (h : Hd) : h.le h := by cases h <;> simp [Hd.le]
theorem HLe.refl (H : List Hd) : HLe H H := fun _ h hh => ⟨h, hh, h.le_refl⟩
theorem Hd.le_trans {h k l : Hd} (h1 : h.le k) (h2 : k.le l) : h.le l := by
 cases h <;> cases k <;> simp only [Hd.le] at h1 <;> cases l <;> simp only [Hd.le] at h2 ⊢
 ·exact ⟨h1.1.trans h2.1, h1.2.trans h2.2⟩
 ·rcases h1 with ⟨rfl, rfl, rfl, rfl, rfl⟩ | h1 | h1 <;> rcases h2 with ⟨rfl, rfl, rfl, rfl, rfl⟩ | h2 | h2 <;> first | (left; exact ⟨rfl, rfl, rfl, rfl, rfl⟩) | (right; left; omega) | (right; right; omega)
 ·exact h1.trans h2
 ·exact h1.trans h2
theorem HLe.trans {H K L : List Hd} (h1 : HLe H K) (h2 : HLe K L) : HLe H L := fun i h hh => by
 obtain ⟨k, hk, l1⟩ := h1 i h hh
 obtain ⟨l, hl, l2⟩ := h2 i k hk
 exact ⟨l, hl, Hd.le_trans l1 l2⟩
theorem HLe.nil (H : List Hd) : HLe [] H := fun i h hh => by simp at hh
theorem HLe.append (H K : List Hd) : HLe H (H ++ K) := fun i h hh => ⟨h, by rw [List.getElem?_append_left (by exact (List.getElem?_eq_some_iff.1 hh).1)]; exact hh, h.le_refl⟩
theorem Rep.mono {S S' : Nat → Nat → Prop} {w w' : World} (hS : ∀ (b o : Nat), S b o → S' b o ∧ w'.cell? ⟨b, o, none⟩ = w.cell? ⟨b, o, none⟩) {H : List Hd} {v : Value} {a : AV} (h : Rep S w H v a) : ∀ {H' : List Hd}, HLe H H' → Rep S' w' H' v a := by
 induction h with
 | any H v => intro H' _; exact .any _ _
 | val H v => intro H' _; exact .val _ _
 | agg hn h ih => intro H' hH; exact .agg hn fun i y hy => ih i y hy hH
 | tuple hn h ih => intro H' hH; exact .tuple hn fun i y hy => ih i y hy hH
 | slice b off sz u hc hz hA hsz hcell hrep ih =>
  intro H' _
  exact .slice b off sz u hc hz hA hsz (fun i x j y h1 h2 => by
   obtain ⟨g1, g2⟩ := hcell i x j y h1 h2
   obtain ⟨g3, g4⟩ := hS _ _ g2
   exact ⟨g4.trans g1, g3⟩) fun i x j y h1 h2 => ih i x j y h1 h2 (HLe.refl _)
 | rptr b o u hg hcell hrep ih =>
  intro H' _
  exact .rptr b o u hg (fun j y h2 => by
   obtain ⟨g1, g2⟩ := hcell j y h2
   obtain ⟨g3, g4⟩ := hS _ _ g2
   exact ⟨g4.trans g1, g3⟩) fun j y h2 => ih j y h2 (HLe.refl _)
 | row id ver used off len hs hH hle hv =>
  intro H' hHH
  obtain ⟨h', e, hl⟩ := hHH _ _ hH
  cases h' <;> simp only [Hd.le] at hl
  rename_i b' cap' sz' ver' used' wr'
  refine .row id ver used off len hs e ?_ ?_
  ·omega
  ·intro e1 e2
   rcases hl with ⟨rfl, rfl, rfl, rfl, rfl⟩ | hl | hl
   ·exact hv e1 e2
   ·omega
   ·omega
 | ptr id off hH =>
  intro H' hHH
  obtain ⟨h', e, hl⟩ := hHH _ _ hH
  cases h' <;> simp only [Hd.le] at hl
  obtain ⟨rfl, rfl⟩ := hl
  exact .ptr id off e
 | elt id ver used i fo hs hH hle hv =>
  intro H' hHH
  obtain ⟨h', e, hl⟩ := hHH _ _ hH
  cases h' <;> simp only [Hd.le] at hl
  rename_i b' cap' sz' ver' used' wr'
  refine .elt id ver used i fo hs e ?_ ?_
  ·omega
  ·intro e1 e2
   rcases hl with ⟨rfl, rfl, rfl, rfl, rfl⟩ | hl | hl
   ·exact hv e1 e2
   ·omega
   ·omega
 | fn hn hm h h' ih ih' => intro H' hH; exact .fn hn hm (fun i y hy => ih i y hy hH) fun i y hy => ih' i y hy hH
 | mp id hH =>
  intro H' hHH
  obtain ⟨h', e, hl⟩ := hHH _ _ hH
  cases h' <;> simp only [Hd.le] at hl
  subst hl
  exact .mp id e
 | nif H t v => intro H' _; exact .nif _ _ _
 | bsl id off len hH =>
  intro H' hHH
  obtain ⟨h', e, hl⟩ := hHH _ _ hH
  cases h' <;> simp only [Hd.le] at hl
  obtain ⟨rfl, rfl⟩ := hl
  exact .bsl id off len e
 | pel id off k hH ho =>
  intro H' hHH
  obtain ⟨h', e, hl⟩ := hHH _ _ hH
  cases h' <;> simp only [Hd.le] at hl
  obtain ⟨rfl, rfl⟩ := hl
  exact .pel id off k e ho
 | it id hH =>
  intro H' hHH
  obtain ⟨h', e, hl⟩ := hHH _ _ hH
  cases h' <;> simp only [Hd.le] at hl
  subst hl
  exact .it id e
theorem Rep.gr {S : Nat → Nat → Prop} {w : World} {H : List Hd} {v : Value} {a : AV} (h : Rep S w H v a) (hg : a.grCell = true) (H' : List Hd) : Rep S w H' v a := by
 cases h <;> simp [AV.grCell] at hg
 ·exact .val _ _
 ·rename_i b off sz u hc hz hA hsz hcell hrep
  exact .slice b off sz u hc hz hA hsz hcell hrep
 ·rename_i b o u hg' hcell hrep
  exact .rptr b o u hg' hcell hrep
 ·exact .nif _ _ _
def BT : TypeId := 85
def BOk (b : Nat) (cs : Array Value) : Prop := cs.getD 0 undef = .pointer none ∨ cs.getD 0 undef = .pointer (some ⟨b, 0, none⟩)
def ApOk (ap : Nat) (t : TypeId) (fz : Nat × Nat) : Prop := (ap ≠ 0 → fz = (0, 0)) ∧ (2 ≤ ap → t = ap - 2)
theorem ApOk.one (t : TypeId) : ApOk 1 t (0, 0) := ⟨fun _ => rfl, fun h => by omega⟩
theorem ApOk.zero (t : TypeId) (fz : Nat × Nat) : ApOk 0 t fz := ⟨fun h => absurd rfl h, fun h => by omega⟩
def apFit (ap k : Nat) : Bool := ap != 0 && (ap == 1 || ap == k)
theorem apFit_ok {ap k : Nat} {e : TypeId} (h : apFit ap k = true) (he : 2 ≤ k → e = k - 2) : ApOk ap e (0, 0) := by
 simp only [apFit, Bool.and_eq_true, Bool.or_eq_true, bne_iff_ne, beq_iff_eq] at h
 refine ⟨fun _ => rfl, fun h2 => ?_⟩
 rcases h.2 with q | q
 ·omega
 ·subst q; exact he h2
def ObjAt (S : Nat → Nat → Prop) (w : World) (H : List Hd) : MObj → Hd → Prop
  | .box t cells, .box b n => n = cells.length ∧ ∃ (cs : Array Value), w.heap[b]? = some (.cells cs t (0, 0)) ∧ cs.size = cells.length ∧ (∀ (i : Nat) (y : AV), cells[i]? = some y → Rep S w H (cs.getD i undef) y) ∧ (t = BT → BOk b cs)
  | .row ver s l wr ap, .row b cap sz ver' used wr' => ver' = ver ∧ wr' = wr ∧ s = sz ∧ used = l.length ∧ used ≤ cap ∧ (0 < cap → ∃ (cur : Array Value) (t : TypeId) (fz : Nat × Nat), w.heap[b]? = some (.cells cur t fz) ∧ ApOk ap t fz ∧ (∀ o : Nat, o < cur.size → (decide (fz.1 ≤ o) && decide (o < fz.2)) = false) ∧ cap * sz ≤ cur.size ∧
      ∀ (i : Nat) (x : AV) (j : Nat) (y : AV), l[i]? = some x → x.cells[j]? = some y → Rep S w [] (cur.getD (i * sz + j) undef) y) ∧ (∀ (i : Nat) (x : AV), l[i]? = some x → x.ground = true ∧ x.cells.length = sz) ∧ (2 ≤ ap → cap = 0 → b = 0)
  | .mp es, .mp b => ∃ (ens : Array MapEntry) (cl : Nat), w.heap[b]? = some (.map ens cl) ∧ ens.size = es.length ∧ ∀ (i : Nat) (k : Value) (y : AV), es[i]? = some (k, y) → ∃ e, ens[i]? = some e ∧ e.key = k ∧ e.born < cl ∧ y.ground = true ∧ Rep S w [] e.val y
  | .dead, .dead => True
  | .it s pos, .it b => w.heap[b]? = some (.stringIter s pos)
  | _, _ => False
def Hd.blk : Hd → Option Nat
 | .box b _ => some b
 | .row b cap _ _ _ _ => if 0 < cap then some b else none
 | .mp b => some b
 | .dead => none
 | .it b => some b
theorem Hd.mut_blk {h : Hd} {b o : Nat} (hm : h.mut b o) : h.blk = some b := by
 cases h <;> simp only [Hd.mut] at hm <;> simp [Hd.blk, hm]
structure MemAt (X : Nat → Nat → Prop) (w : World) (m : List MObj) (H : List Hd) : Prop where
 len : H.length = m.length
 obj : ∀ (i : Nat) (o : MObj) (h : Hd), m[i]? = some o → H[i]? = some h → ObjAt (Stab X H w) w H o h
 lt : ∀ (i : Nat) (h : Hd) (b : Nat), H[i]? = some h → h.blk = some b → b < w.heap.size
 apart : ∀ (i j : Nat) (h k : Hd) (b : Nat), H[i]? = some h → H[j]? = some k → h.blk = some b → k.blk = some b → i = j
end Go.Proofs.YtienfdjfochlcaaGreatDoor
end
section
namespace Go.Proofs.YtienfdjfochlcaaGreatDoor
def ints64 (l : List Nat) : List AV := l.map fun (n : Nat) => .val (.int .u64 (n : Int))
def pow10L : List Nat := [1, 10, 100, 1000, 10000, 100000, 1000000, 10000000, 100000000, 1000000000, 10000000000, 100000000000, 1000000000000, 10000000000000, 100000000000000, 1000000000000000, 10000000000000000, 100000000000000000, 1000000000000000000, 10000000000000000000]
def ints8 (l : List Nat) : List AV := l.map fun (n : Nat) => .val (.int .u8 (n : Int))
def deB64 : List Nat := [0, 1, 56, 2, 57, 49, 28, 3, 61, 58, 42, 50, 38, 29, 17, 4, 62, 47, 59, 36, 45, 43, 51, 22, 53, 39, 33, 30, 24, 18, 12, 5, 63, 55, 48, 27, 60, 41, 37, 16, 46, 35, 44, 21, 52, 32, 23, 11, 54, 26, 40, 15, 34, 20, 31, 10, 25, 14, 19, 9, 13, 8, 7, 6]
def GT (g : Nat) : Option (List AV) :=
 if g = 2 then some (ints64 pow10L) else
 if g = 6 then some [.nif] else
 if g = 5 then some [.nif] else
 if g = 0 then some (ints8 deB64) else
 none
def GI (g : Nat) : Bool :=
 if g = 1 then true else
 false
def bigTy (t : TypeId) : Bool := Nat.beq t 111 || Nat.beq t 155
end Go.Proofs.YtienfdjfochlcaaGreatDoor
end
section
namespace Go.Proofs.YtienfdjfochlcaaGreatDoor
set_option linter.unusedVariables false
set_option linter.unusedSimpArgs false
inductive AOp2 where
 | bad
 | callM (f : FuncId) (args : List Operand)
 | callV (x : Operand) (args : List Operand)
 | mkfn (f : FuncId) (first caps : List Operand)
 | mkmap
 | mlook (z : AV) (ok : Bool) (x k : Operand)
 | mset (x k v : Operand)
 | mdel (x k : Operand)
 | mlen (x : Operand)
 | aeq (ne : Bool) (n : Nat) (offs : List (Nat × Nat)) (x y : Operand)
 | isnil (ne : Bool) (c : Value) (x : Operand)
 | cpy (sz : Nat) (x y : Operand)
 | nilchk (x : Operand)
 | slc3 (x h mx : Operand)
 | nilsl (sz : Nat)
 | appS (ak : Nat) (x y : Operand)
 | mkif (t : TypeId) (x : Operand)
 | ifeq (ne : Bool) (ts : List TypeId) (x y : Operand)
 | bx (t : TypeId) (n : Nat) (x : Operand)
 | allocR (t : TypeId) (zero : List Value) (offs : List (Nat × Nat))
 | storeR (n : Nat) (offs : List (Nat × Nat)) (a v : Operand)
 | arrS (n : Nat) (x : Operand)
 | cpyA (x y : Operand)
 | rngS (x : Operand)
 | nxtS (x : Operand)
 | trunc (x h : Operand)
 | torow (ak : Nat) (x : Operand)
 | bxf (n : Nat) (x : Operand)
 | capN (x : Operand)
 | appN (ak : Nat) (x n : Operand)
inductive AOp where
 | x (o : AOp2)
 | mov (x : Operand)
 | nilrow (sz : Nat)
 | pick (c a b : Operand)
 | bin (op : BinOp) (x y : Operand)
 | beq (ne : Bool) (x y : Operand)
 | un (op : UnOp) (x : Operand)
 | cint (k : IntKind) (x : Operand)
 | cstr (x : Operand)
 | s2b (x : Operand)
 | b2s (x : Operand)
 | alloc (t : TypeId) (zero : List Value)
 | load (n : Nat) (ag : Bool) (a : Operand)
 | store (n : Nat) (a v : Operand)
 | faddr (off : Nat) (x : Operand)
 | fld (off n : Nat) (ag : Bool) (x : Operand)
 | iaddr (sz : Nat) (x i : Operand)
 | aaddr (cnt sz : Nat) (x i : Operand)
 | sidx (x i : Operand)
 | aidx (cnt sz : Nat) (ag : Bool) (x i : Operand)
 | len (x : Operand)
 | slen (x : Operand)
 | slc (sz : Nat) (x : Operand) (lo hi : Option Operand)
 | sslc (x : Operand) (lo hi : Option Operand)
 | app (sz bytes ak : Nat) (x y : Operand)
 | mks (sz : Nat) (zero : List Value) (ag : Bool) (bytes : Nat) (l c : Operand)
 | build (zero : List Value) (parts : List (Nat × Nat × Operand))
 | bslice (sz : Nat) (own : Bool) (zero : List Value) (ag : Bool) (cnt : Nat) (parts : List (Nat × Operand))
 | call (f : FuncId) (args : List Operand)
 | ext (x : Operand) (i : Nat)
 | mn (x : Operand) (ys : List Operand)
 | mx (x : Operand) (ys : List Operand)
structure AOper where
 dst : Option Nat
 op : AOp
 guard : Option (Nat × Bool)
inductive ACode where
 | skip
 | region (ops : List AOper) (drops : List Nat)
 | dregion (ops tail : List AOper) (drops : List Nat)
 | cregion (free chain : List AOper) (drops : List Nat)
 | seq (a b : ACode)
 | cond (c : Operand) (a b : ACode)
 | block (id : Nat) (c : ACode)
 | loop (c : ACode) (keep : List Nat)
 | join (c : ACode) (keep : List Nat)
 | exit (id : Nat)
 | ret
inductive AExit where
 | normal
 | exit (id : Nat)
 | ret
structure St where
 fr : List (Nat × AV)
 m : List MObj
def look : List (Nat × AV) → Nat → AV
 | [], _ => .any
 | (k, v) :: r, s => if k = s then v else look r s
def setf (d : Nat) (v : AV) : List (Nat × AV) → List (Nat × AV)
 | [] => [(d, v)]
 | (k, u) :: r => if k = d then (d, v) :: r else (k, u) :: setf d v r
def putf (d : Option Nat) (v : AV) (fr : List (Nat × AV)) : List (Nat × AV) := match d with | some d => setf d v fr | none => fr
def AV.ofV : Value → AV
 | .agg cs => .agg (cs.toList.map .val)
 | v => .val v
def evA (fr : List (Nat × AV)) : Operand → AV
 | .tmp t => look fr t
 | .const v => AV.ofV v
 | .func f => .val (.func (.func f) #[] #[])
 | .global g => match GT g with | some l => .rptr l | none => .any
def valsOf : List AV → Option (List Value)
 | [] => some []
 | .val v :: r => (valsOf r).map (v :: ·)
 | _ => none
def AV.toVal : AV → Option Value
 | .val v => some v
 | .agg l => (valsOf l).map fun vs => .agg vs.toArray
 | _ => none
def AV.toI : AV → Option Int
 | .val (.int _ n) => some n
 | _ => none
def AV.toN (v : AV) : Option Nat := match v.toI with | some n => if 0 ≤ n then some n.toNat else none | none => none
def Sem.now {α : Type} : Sem α → Option α
 | .pure a => some a
 | _ => none
def elems (m : List MObj) : AV → Option (List AV)
 | .slice _ l => some l
 | .val (.slice none 0 0) => some []
 | .row id ver used off len => match m[id]? with
  | some (.row v _ l _ _) => if v = ver ∧ l.length = used then some ((l.drop off).take len) else none
  | _ => none
 | .bsl id off len => match m[id]? with
  | some (.box _ cs) => if off + len ≤ cs.length ∧ ((cs.drop off).take len).all AV.grCell = true then some ((cs.drop off).take len) else none
  | _ => none
 | _ => none
def elemsS (m : List MObj) (sz : Nat) : AV → Option (List AV)
 | .slice s l => if s = sz then some l else none
 | .val (.slice none 0 0) => some []
 | .row id ver used off len => match m[id]? with
  | some (.row v s l _ _) => if v = ver ∧ l.length = used ∧ s = sz then some ((l.drop off).take len) else none
  | _ => none
 | _ => none
def cellsAt (m : List MObj) : AV → Option (List AV)
 | .rptr l => some l
 | .ptr id off => match m[id]? with
  | some (.box _ cs) => some (cs.drop off)
  | _ => none
 | .pel id off k => match m[id]? with
  | some (.box _ cs) => some (cs.drop (off + k))
  | _ => none
 | .elt id ver used i fo => match m[id]? with
  | some (.row v _ l _ _) => if v = ver ∧ l.length = used then (l[i]?).map fun x => x.cells.drop fo else none
  | _ => none
 | _ => none
def mkV (n : Nat) (ag : Bool) (l : List AV) : Option AV :=
 if l.length < n then none else if ag then some (.agg (l.take n)) else match l with | x :: _ => (if n = 1 then some x else none) | [] => none
def binV : BinOp → Value → Value → Option Value
 | .shl, .int k a, .int yk b => Sem.now (Op.shift .shl k a yk b)
 | .shr, .int k a, .int yk b => Sem.now (Op.shift .shr k a yk b)
 | .add, .int k a, .int k' b => if k = k' then some (.int k (k.wrap (a + b))) else none
 | .sub, .int k a, .int k' b => if k = k' then some (.int k (k.wrap (a - b))) else none
 | .mul, .int k a, .int k' b => if k = k' then some (.int k (k.wrap (a * b))) else none
 | .quo, .int k a, .int k' b => if k = k' then (if b = 0 then none else some (.int k (k.wrap (a.tdiv b)))) else none
 | .rem, .int k a, .int k' b => if k = k' then (if b = 0 then none else some (.int k (a.tmod b))) else none
 | .eql, .int k a, .int k' b => if k = k' then some (.bool (a == b)) else none
 | .neq, .int k a, .int k' b => if k = k' then some (.bool (a != b)) else none
 | .lss, .int k a, .int k' b => if k = k' then some (.bool (decide (a < b))) else none
 | .leq, .int k a, .int k' b => if k = k' then some (.bool (decide (a ≤ b))) else none
 | .gtr, .int k a, .int k' b => if k = k' then some (.bool (decide (b < a))) else none
 | .geq, .int k a, .int k' b => if k = k' then some (.bool (decide (b ≤ a))) else none
 | .and, .int k a, .int k' b => if k = k' then Sem.now (Op.intBits .and k a b) else none
 | .or, .int k a, .int k' b => if k = k' then Sem.now (Op.intBits .or k a b) else none
 | .xor, .int k a, .int k' b => if k = k' then Sem.now (Op.intBits .xor k a b) else none
 | .andNot, .int k a, .int k' b => if k = k' then Sem.now (Op.intBits .andNot k a b) else none
 | .add, .string a, .string b => if a.size + b.size ≤ 9223372036854775807 then some (.string (a ++ b)) else none
 | .eql, .string a, .string b => some (.bool (a.toList == b.toList))
 | .neq, .string a, .string b => some (.bool (!(a.toList == b.toList)))
 | .lss, .string a, .string b => some (.bool (Op.bytesLess a.toList b.toList))
 | .leq, .string a, .string b => some (.bool (Op.bytesLess a.toList b.toList || a.toList == b.toList))
 | .gtr, .string a, .string b => some (.bool (!(Op.bytesLess a.toList b.toList || a.toList == b.toList)))
 | .geq, .string a, .string b => some (.bool (!Op.bytesLess a.toList b.toList))
 | _, _, _ => none
def lowOf (fr : List (Nat × AV)) : Option Operand → Option Nat
 | none => some 0
 | some x => (evA fr x).toN
def highOf (fr : List (Nat × AV)) (n : Nat) : Option Operand → Option Nat
 | none => some n
 | some x => (evA fr x).toN
def fillA (fr : List (Nat × AV)) (cells : List AV) : List (Nat × Nat × Operand) → Option (List AV)
 | [] => some cells
 | (off, sz, x) :: r =>
  let cs := (evA fr x).cells
  if cs.length = sz ∧ off + sz ≤ cells.length ∧ cs.all AV.isCell then fillA fr (cells.take off ++ cs ++ cells.drop (off + sz)) r else none
def minI : Int → List AV → Option Int
 | a, [] => some a
 | a, v :: r => match v with | .val (.int _ b) => minI (if b < a then b else a) r | _ => none
def maxI : Int → List AV → Option Int
 | a, [] => some a
 | a, v :: r => match v with | .val (.int _ b) => maxI (if b > a then b else a) r | _ => none
def rowOk (m : List MObj) (id ver used : Nat) : Bool := match m[id]? with
 | some (.row v _ l _ _) => decide (v = ver ∧ l.length = used)
 | _ => false
def faddrA (m : List MObj) (off : Nat) : AV → Option AV
 | .ptr id o => some (.ptr id (o + off))
 | .rptr l => some (.rptr (l.drop off))
 | .elt id ver used i fo => if rowOk m id ver used then some (.elt id ver used i (fo + off)) else none
 | _ => none
def pelA (m : List MObj) (cnt off : Nat) : AV → Option AV
 | .ptr id o => if 64 ≤ cnt then some (.pel id o off) else faddrA m off (.ptr id o)
 | v => faddrA m off v
def iaddrA (m : List MObj) (sz n : Nat) : AV → Option AV
 | .row id ver used off len => (match m[id]? with
  | some (.row v s l _ _) => if v = ver ∧ l.length = used ∧ n < len ∧ s = sz then some (.elt id ver used (off + n) 0) else none
  | _ => none)
 | .slice s l => (match l[n]? with
  | some e => if s = sz then some (.rptr e.cells) else none
  | none => none)
 | _ => none
def slcA (m : List MObj) (fr : List (Nat × AV)) (sz : Nat) (lo hi : Option Operand) : AV → Option AV
 | .slice s l => (match lowOf fr lo, highOf fr l.length hi with
  | some a, some b => if a ≤ b ∧ b ≤ l.length ∧ s = sz then some (.slice s ((l.take b).drop a)) else none
  | _, _ => none)
 | .row id ver used off len => (match m[id]? with
  | some (.row v s l _ _) => if v = ver ∧ l.length = used ∧ s = sz then (match lowOf fr lo, highOf fr len hi with
   | some a, some b => if a ≤ b ∧ b ≤ len then some (.row id ver used (off + a) (b - a)) else none
   | _, _ => none) else none
  | _ => none)
 | .val (.slice none 0 0) => (match lowOf fr lo, highOf fr 0 hi with
  | some a, some b => if a ≤ b ∧ b ≤ 0 then some (.val (.slice none 0 0)) else none
  | _, _ => none)
 | _ => none
def sslcA (fr : List (Nat × AV)) (lo hi : Option Operand) : AV → Option AV
 | .val (.string s) => (match lowOf fr lo, highOf fr s.size hi with
  | some a, some b => if a ≤ b ∧ b ≤ s.size then some (.val (.string (s.extract a b))) else none
  | _, _ => none)
 | _ => none
def sidxA (n : Nat) : AV → Option AV
 | .val (.string s) => (s[n]?).map fun b => .val (.int .u8 b.toNat)
 | _ => none
def lenA (m : List MObj) (v : AV) : Option AV := (elems m v).map fun l => .val (.int .i64 l.length)
def slenA : AV → Option AV
 | .val (.string s) => some (.val (.int .i64 s.size))
 | _ => none
def bytesL : List AV → Option (List UInt8)
 | [] => some []
 | .val (.int .u8 n) :: r => (bytesL r).map (UInt8.ofNat n.toNat :: ·)
 | _ => none
def vEq : Value → Value → Option Bool
 | .string a, .string b => some (decide (a.data.toList = b.data.toList))
 | .int k a, .int k' b => if k = k' then some (decide (a = b)) else none
 | .bool a, .bool b => some (decide (a = b))
 | _, _ => none
def findE (k : Value) : List (Value × AV) → Nat → Option (Option (Nat × AV))
 | [], _ => some none
 | (k', y) :: r, i => match vEq k k' with
  | some true => some (some (i, y))
  | some false => findE k r (i + 1)
  | none => none
def mapOf (m : List MObj) : AV → Option (List (Value × AV))
 | .mp id => (match m[id]? with | some (.mp es) => some es | _ => none)
 | .val (.map none) => some []
 | _ => none
def mlookA (m : List MObj) (z : AV) (ok : Bool) (x : AV) : AV → Option AV
 | .val (.string s) => (match mapOf m x with
  | some es => (match findE (.string s) es 0 with
   | some (some (_, y)) => some (if ok then .tuple [y, .val (.bool true)] else y)
   | some none => some (if ok then .tuple [z, .val (.bool false)] else z)
   | none => none)
  | none => none)
 | _ => none
def vEqT : Nat → Value → Value → Option Bool
 | 0, .string a, .string b => some (decide (a.data.toList = b.data.toList))
 | 1, .int k a, .int k' b => if k = k' then some (decide (a = b)) else none
 | 2, .bool a, .bool b => some (decide (a = b))
 | _, _, _ => none
def aeqL (x y : List AV) : List (Nat × Nat) → Option Bool
 | [] => some true
 | (o, k) :: r => match x[o]?, y[o]? with
  | some (.val a), some (.val b) => (match vEqT k a b with
   | some true => aeqL x y r
   | some false => some false
   | none => none)
  | _, _ => none
def isnilA : Value → AV → Option Bool
 | .pointer none, .ptr _ _ => some false
 | .pointer none, .rptr _ => some false
 | .pointer none, .val (.pointer none) => some true
 | .nilFunc, .fn .. => some false
 | .nilFunc, .val (.func _ _ _) => some false
 | .nilFunc, .val .nilFunc => some true
 | .map none, .mp _ => some false
 | .map none, .val (.map none) => some true
 | .nilIface, .val .nilIface => some true
 | .nilIface, .val (.iface _ _) => some false
 | .nilIface, .nif => some false
 | .slice none 0 0, .val (.slice none 0 0) => some true
 | _, _ => none
def ifeqA (ts : List TypeId) : AV → AV → Option Bool
 | .val (.iface t (.int k a)), .val (.iface t' (.int k' b)) => if t = t' then (if ts.contains t ∧ k = k' then some (decide (a = b)) else none) else some false
 | .val .nilIface, .val (.iface _ _) => some false
 | .val (.iface _ _), .val .nilIface => some false
 | .val .nilIface, .nif => some false
 | .nif, .val .nilIface => some false
 | _, _ => none
def ifOf (t : TypeId) : AV → AV
 | .val v => .val (.iface t v)
 | _ => .nif
def pure2 (m : List MObj) (fr : List (Nat × AV)) : AOp2 → Option AV
 | .mkfn f first caps => some (.fn (.func f) (first.map (evA fr)) (caps.map (evA fr)))
 | .mlook z ok x k => mlookA m z ok (evA fr x) (evA fr k)
 | .mlen x => (mapOf m (evA fr x)).map fun es => .val (.int .i64 es.length)
 | .aeq ne n offs x y => (match evA fr x, evA fr y with
  | .agg l, .agg l' => if n ≤ l.length ∧ n ≤ l'.length then (aeqL l l' offs).map fun t => .val (.bool (if ne then !t else t)) else none
  | _, _ => none)
 | .nilchk x => (match evA fr x with
  | .ptr id off => some (.ptr id off)
  | .rptr l => some (.rptr l)
  | .elt id ver used i fo => if rowOk m id ver used then some (.elt id ver used i fo) else none
  | .fn (.func f) first caps => some (.fn (.func f) first caps)
  | _ => none)
 | .nilsl sz => some (.slice sz [])
 | .capN x => (match evA fr x with
  | .val (.slice none 0 0) => some (.val (.int .i64 0))
  | _ => none)
 | .arrS n x => (match evA fr x with
  | .ptr id off => some (.bsl id off n)
  | _ => none)
 | .slc3 x h mx => (match evA fr x with
  | .slice s l => (match lowOf fr (some h), highOf fr l.length (some mx) with
   | some a, some b => if a ≤ b ∧ b ≤ l.length then some (.slice s (l.take a)) else none
   | _, _ => none)
  | _ => none)
 | .isnil ne c x => (isnilA c (evA fr x)).map fun t => .val (.bool (if ne then !t else t))
 | .mkif t x => some (ifOf t (evA fr x))
 | .ifeq ne ts x y => (ifeqA ts (evA fr x) (evA fr y)).map fun t => .val (.bool (if ne then !t else t))
 | _ => none
def pureOp (m : List MObj) (fr : List (Nat × AV)) : AOp → Option AV
 | .x o => pure2 m fr o
 | .mov x => some (evA fr x)
 | .pick c a b => match evA fr c with
  | .val (.bool t) => some (if t then evA fr a else evA fr b)
  | _ => none
 | .bin op x y => match (evA fr x).toVal, (evA fr y).toVal with
  | some a, some b => (binV op a b).map .val
  | _, _ => none
 | .beq ne x y => match evA fr x, evA fr y with
  | .val (.bool a), .val (.bool b) => some (.val (.bool (if ne then !(a == b) else (a == b))))
  | _, _ => none
 | .un op x => match evA fr x with
  | .val (.int k n) => (match op with | .not => none | op => (Sem.now (Op.unary op (.int k n))).map .val)
  | .val (.bool b) => (match op with | .not => some (.val (.bool (!b))) | _ => none)
  | _ => none
 | .cint k x => match evA fr x with
  | .val (.int _ n) => some (.val (.int k (k.wrap n)))
  | _ => none
 | .cstr x => match evA fr x with
  | .val (.string s) => some (.val (.string s))
  | _ => none
 | .load n ag a => (cellsAt m (evA fr a)).bind (mkV n ag)
 | .faddr off x => faddrA m off (evA fr x)
 | .fld off n ag x => match evA fr x with
  | .agg l => mkV n ag (l.drop off)
  | _ => none
 | .iaddr sz x i => match (evA fr i).toN with
  | some n => iaddrA m sz n (evA fr x)
  | none => none
 | .aaddr cnt sz x i => match (evA fr i).toN with
  | some n => if n < cnt then pelA m cnt (n * sz) (evA fr x) else none
  | none => none
 | .sidx x i => match (evA fr i).toN with
  | some n => sidxA n (evA fr x)
  | none => none
 | .aidx cnt sz ag x i => match (evA fr i).toN, evA fr x with
  | some n, .agg l => if n < cnt then mkV sz ag (l.drop (n * sz)) else none
  | _, _ => none
 | .len x => lenA m (evA fr x)
 | .slen x => slenA (evA fr x)
 | .slc sz x lo hi => slcA m fr sz lo hi (evA fr x)
 | .sslc x lo hi => sslcA fr lo hi (evA fr x)
 | .build zero parts => (fillA fr (zero.map .val) parts).map .agg
 | .ext x i => match evA fr x with
  | .tuple l => l[i]?
  | _ => none
 | .mn x ys => match evA fr x with
  | .val (.int k n) => (minI n (ys.map (evA fr))).map fun r => .val (.int k r)
  | _ => none
 | .mx x ys => match evA fr x with
  | .val (.int k n) => (maxI n (ys.map (evA fr))).map fun r => .val (.int k r)
  | _ => none
 | .b2s x => (elems m (evA fr x)).bind fun l => (bytesL l).map fun s => .val (.string ⟨s.toArray⟩)
 | _ => none
def frzCell (m : List MObj) : AV → Option AV
 | .row id ver used off len => (match m[id]? with
  | some (.row v s l _ _) => if v = ver ∧ l.length = used then some (.slice s ((l.drop off).take len)) else none
  | _ => none)
 | v => if v.grCell then some v else none
def frzCells (m : List MObj) : List AV → Option (List AV)
 | [] => some []
 | v :: r => match frzCell m v, frzCells m r with | some a, some b => some (a :: b) | _, _ => none
def frz (m : List MObj) : AV → Option AV
 | .agg l => (frzCells m l).map .agg
 | v => frzCell m v
def frzL (m : List MObj) : List AV → Option (List AV)
 | [] => some []
 | v :: r => match frz m v, frzL m r with | some a, some b => some (a :: b) | _, _ => none
def AV.flatCell : AV → Bool
 | .val (.agg _) | .val (.tuple _) => false
 | .val _ => true
 | _ => false
def AV.flat : AV → Bool
 | .agg l => l.all AV.flatCell
 | v => v.flatCell
def AV.flatT : AV → Bool
 | .tuple l => l.all AV.flat
 | v => v.flat
def shutCell (m : List MObj) : AV → List MObj
 | .row id _ _ _ _ => match m[id]? with
  | some (.row v s l _ ap) => m.set id (.row v s l false ap)
  | _ => m
 | _ => m
def shutV (m : List MObj) (v : AV) : List MObj := v.cells.foldl shutCell m
def zeroEl (zero : List Value) (ag : Bool) : AV := if ag then .agg (zero.map .val) else match zero with | [v] => .val v | _ => .any
def setAt (l : List AV) (i : Nat) (cs : List AV) : List AV := l.take i ++ cs ++ l.drop (i + cs.length)
def setEl (x : AV) (fo : Nat) (cs : List AV) : Option AV := match x with
 | .agg l => if fo + cs.length ≤ l.length then some (.agg (setAt l fo cs)) else none
 | _ => match cs with | [c] => if fo = 0 then some c else none | _ => none
def bcA (s : ByteArray) : List AV := s.data.toList.map fun b => .val (.int .u8 b.toNat)
def bsEls (fr : List (Nat × AV)) (m : List MObj) (sz : Nat) : List AV → List (Nat × Operand) → Option (List AV)
 | l, [] => some l
 | l, (i, x) :: r => match frz m (evA fr x) with
  | some v => if v.cells.length = sz ∧ i < l.length then bsEls fr m sz (l.set i v) r else none
  | none => none
structure CallF where
 f : FuncId → List AV → Option AV
 m : FuncId → List AV → List MObj → Option (AV × List MObj)
def fnOf : AV → Option (FuncId × List AV × List AV)
 | .fn (.func f) first caps => some (f, first, caps)
 | .val (.func (.func f) a b) => if a.size = 0 ∧ b.size = 0 then some (f, [], []) else none
 | _ => none
def setKey (es : List (Value × AV)) (k : Value) (v : AV) : Option (List (Value × AV)) := match findE k es 0 with
 | some (some (i, _)) => some (es.set i (k, v))
 | some none => some (es ++ [(k, v)])
 | none => none
def delKey (es : List (Value × AV)) (k : Value) : Option (List (Value × AV)) := match findE k es 0 with
 | some (some (i, _)) => some (es.eraseIdx i)
 | some none => some es
 | none => none
def AV.storable : AV → Bool
 | .agg _ => true
 | x => x.isCell
def nilRows (n0 : Nat) : List (Nat × Nat) → List AV → List AV × List MObj
 | [], cs => (cs, [])
 | (o, sz) :: r, cs => match cs[o]? with
  | some (.val (.slice none 0 0)) => match nilRows (n0 + 1) r (cs.set o (.row n0 0 0 0 0)) with
   | (cs', os) => (cs', .row 0 (sz % 1048576) [] true (max 1 (sz / 1048576)) :: os)
  | _ => nilRows n0 r cs
def bCells (t : TypeId) (l : List AV) : Option (List AV) := if t = BT then (match l with
 | .val (.pointer none) :: r => some (.any :: r)
 | _ => none) else some l
def bxfV (fr : List (Nat × AV)) (n : Nat) (x : Operand) : Option AV := if (evA fr x).cells.length = n ∧ (evA fr x).cells.all AV.grCell = true then some (.rptr (evA fr x).cells) else none
def stepOp2 (call : CallF) (st : St) (dst : Option Nat) : AOp2 → Option St
  | .callM f args => (call.m f (args.map (evA st.fr)) st.m).map fun r => ⟨putf dst r.1 st.fr, r.2⟩
  | .callV x args => (match fnOf (evA st.fr x) with
    | some (f, first, caps) => (call.m f (first ++ args.map (evA st.fr) ++ caps) st.m).map fun r => ⟨putf dst r.1 st.fr, r.2⟩
    | none => none)
  | .bx t n x =>
    let cs := (evA st.fr x).cells
    if cs.length = n ∧ cs.all AV.isCell ∧ ¬ t = BT then some ⟨putf dst (.ptr st.m.length 0) st.fr, st.m ++ [.box t cs]⟩ else none
  | .allocR t zero offs => (match bCells t (zero.map .val) with
    | some zs => (match nilRows st.m.length offs zs with
    | (cs, os) => if (zero.map AV.val).all AV.isCell then some ⟨putf dst (.ptr (st.m.length + os.length) 0) st.fr, st.m ++ os ++ [.box t cs]⟩ else none)
    | none => none)
  | .storeR n offs a v => (match nilRows st.m.length offs (evA st.fr v).cells with
    | (cs, os) => if (evA st.fr v).storable = true ∧ cs.length = n ∧ cs.all AV.isCell then
      (match evA st.fr a with
      | .ptr id off => (match (st.m ++ os)[id]? with
        | some (.box bt l) => if off + n ≤ l.length ∧ (bt = BT → 0 < off) then some ⟨putf dst .any st.fr, (st.m ++ os).set id (.box bt (setAt l off cs))⟩ else none
        | _ => none)
      | _ => none) else none)
  | .mkmap => some ⟨putf dst (.mp st.m.length) st.fr, st.m ++ [.mp []]⟩
  | .appS ak x y => (match evA st.fr y with
    | .val (.string s) => (match evA st.fr x with
      | .val (.slice none 0 0) => if s.size ≤ 140737488355328 ∧ s.size ≤ maxLen then some ⟨putf dst (.row st.m.length 0 s.size 0 s.size) st.fr, st.m ++ [.row 0 1 (bcA s) true ak]⟩ else none
      | .row id ver used off len => (match st.m[id]? with
        | some (.row v sz l wr ap) => if v = ver ∧ l.length = used ∧ off = 0 ∧ len = used ∧ sz = 1 ∧ apFit ap ak ∧ used + s.size ≤ 140737488355328 ∧ used + s.size ≤ maxLen then
            some ⟨putf dst (.row id ver (used + s.size) 0 (used + s.size)) st.fr, st.m.set id (.row v sz (l ++ bcA s) wr ap)⟩ else none
        | _ => none)
      | _ => none)
    | _ => none)
  | .mset x k v => (match evA st.fr x, evA st.fr k, frz st.m (evA st.fr v) with
    | .mp id, .val (.string k), some g => (match (shutV st.m (evA st.fr v))[id]? with
      | some (.mp es) => if g.ground then (setKey es (.string k) g).map fun es' => ⟨putf dst .any st.fr, (shutV st.m (evA st.fr v)).set id (.mp es')⟩ else none
      | _ => none)
    | _, _, _ => none)
  | .mdel x k => (match evA st.fr x, evA st.fr k with
    | .mp id, .val (.string k) => (match st.m[id]? with
      | some (.mp es) => (delKey es (.string k)).map fun es' => ⟨putf dst .any st.fr, st.m.set id (.mp es')⟩
      | _ => none)
    | _, _ => none)
  | .cpy sz x y => (match evA st.fr x, elemsS st.m sz (evA st.fr y) with
    | .row id ver used off len, some ly => (match st.m[id]? with
      | some (.row v s l true ap) => if v = ver ∧ l.length = used ∧ s = sz then
          some ⟨putf dst (.val (.int .i64 (min ly.length len : Nat))) st.fr, st.m.set id (.row v s (setAt l off (ly.take (min ly.length len))) true ap)⟩ else none
      | _ => none)
    | _, _ => none)
  | .cpyA x y => (match evA st.fr x, evA st.fr y with
    | .bsl id off len, .val (.string s) => (match st.m[id]? with
      | some (.box bt l) => if off + len ≤ l.length ∧ ¬ bt = BT then some ⟨putf dst (.val (.int .i64 (min s.size len : Nat))) st.fr, st.m.set id (.box bt (setAt l off ((bcA s).take (min s.size len))))⟩ else none
      | _ => none)
    | _, _ => none)
  | .bxf n x => (bxfV st.fr n x).map fun v => ⟨putf dst v st.fr, st.m⟩
  | .torow ak x => (match evA st.fr x with
    | .val (.slice none 0 0) => some ⟨putf dst (.row st.m.length 1 0 0 0) st.fr, st.m ++ [.row 1 1 [] true ak]⟩
    | v => some ⟨putf dst v st.fr, st.m⟩)
  | .trunc x h => (match evA st.fr x, (evA st.fr h).toN with
    | .val (.slice none 0 0), some k => if k = 0 then some ⟨putf dst (.val (.slice none 0 0)) st.fr, st.m⟩ else none
    | .row id ver used off len, some k => (match st.m[id]? with
      | some (.row v s l true ap) => if v = ver ∧ l.length = used ∧ off = 0 ∧ k ≤ len then some ⟨putf dst (.row id (v + 1) k 0 k) st.fr, st.m.set id (.row (v + 1) s (l.take k) true ap)⟩ else none
      | _ => none)
    | _, _ => none)
  | .appN ak x n => (match evA st.fr x, evA st.fr n with
    | .val (.slice none 0 0), .val (.int .i64 k) => if 0 < k ∧ k ≤ 1000000000 then some ⟨putf dst (.row st.m.length 0 k.toNat 0 k.toNat) st.fr, st.m ++ [.row 0 1 (List.replicate k.toNat (.val (.int .u8 0))) true ak]⟩ else none
    | _, _ => none)
  | .rngS x => (match evA st.fr x with
    | .val (.string s) => some ⟨putf dst (.it st.m.length) st.fr, st.m ++ [.it s 0]⟩
    | _ => none)
  | .nxtS x => (match evA st.fr x with
    | .it id => (match st.m[id]? with
      | some (.it s pos) => if pos < s.size then some ⟨putf dst (.tuple [.val (.bool true), .val (.int .i64 pos), .val (.int .i32 (Utf8.decode s pos).1)]) st.fr, st.m.set id (.it s (pos + (Utf8.decode s pos).2))⟩
        else some ⟨putf dst (.tuple [.val (.bool false)]) st.fr, st.m⟩
      | _ => none)
    | _ => none)
  | o => (pure2 st.m st.fr o).map fun v => ⟨putf dst v st.fr, st.m⟩
def stepOp (call : CallF) (st : St) (dst : Option Nat) (o : AOp) : Option St :=
  match o with
  | .x o => stepOp2 call st dst o
  | .nilrow sz => some ⟨putf dst (.row st.m.length 0 0 0 0) st.fr, st.m ++ [.row 0 sz [] true 1]⟩
  | .alloc t zero => if t = BT then none else some ⟨putf dst (.ptr st.m.length 0) st.fr, st.m ++ [.box t (zero.map .val)]⟩
  | .store n a v =>
    let cs := (evA st.fr v).cells
    if cs.length = n ∧ cs.all AV.isCell then
      match evA st.fr a with
      | .ptr id off => (match st.m[id]? with
        | some (.box bt l) => if off + n ≤ l.length ∧ (bt = BT → 0 < off) then some ⟨putf dst .any st.fr, st.m.set id (.box bt (setAt l off cs))⟩ else none
        | _ => none)
      | .pel id off k => (match st.m[id]? with
        | some (.box bt l) => if off + k + n ≤ l.length ∧ (bt = BT → 0 < off + k) then some ⟨putf dst .any st.fr, st.m.set id (.box bt (setAt l (off + k) cs))⟩ else none
        | _ => none)
      | .elt id ver used i fo => (match (cs.foldl shutCell st.m)[id]? with
        | some (.row v s l true ap) => if v = ver ∧ l.length = used then
            (match frzCells st.m cs, l[i]? with
            | some gs, some x => (setEl x fo gs).map fun x' => ⟨putf dst .any st.fr, (cs.foldl shutCell st.m).set id (.row v s (l.set i x') true ap)⟩
            | _, _ => none) else none
        | _ => none)
      | _ => none
    else none
  | .app sz bytes ak x y =>
    (match elemsS st.m sz (evA st.fr y) with
    | some ly =>
      (match evA st.fr x with
      | .val (.slice none 0 0) => if ly.length * bytes ≤ 140737488355328 ∧ ly.length ≤ maxLen then some ⟨putf dst (.row st.m.length 0 ly.length 0 ly.length) st.fr, st.m ++ [.row 0 sz ly true ak]⟩ else none
      | .row id ver used off len => (match st.m[id]? with
        | some (.row v s l wr ap) => if v = ver ∧ l.length = used ∧ off = 0 ∧ len = used ∧ s = sz ∧ apFit ap ak ∧ (used + ly.length) * bytes ≤ 140737488355328 ∧ used + ly.length ≤ maxLen then
            some ⟨putf dst (.row id ver (used + ly.length) 0 (used + ly.length)) st.fr, st.m.set id (.row v s (l ++ ly) wr ap)⟩ else none
        | _ => none)
      | _ => none)
    | none => none)
  | .mks sz zero ag bytes l c =>
    (match (evA st.fr l).toN, (evA st.fr c).toN with
    | some n, some k => if n = k ∧ n ≤ maxLen ∧ bytes * n ≤ 281474976710656 then some ⟨putf dst (.row st.m.length 0 n 0 n) st.fr, st.m ++ [.row 0 sz (List.replicate n (zeroEl zero ag)) true 1]⟩ else none
    | _, _ => none)
  | .bslice sz own zero ag cnt parts =>
    (match bsEls st.fr st.m sz (List.replicate cnt (zeroEl zero ag)) parts with
    | some l => if own then some ⟨putf dst (.row st.m.length 0 cnt 0 cnt) st.fr, (parts.foldl (fun m p => shutV m (evA st.fr p.2)) st.m) ++ [.row 0 sz l true 1]⟩
      else some ⟨putf dst (.slice sz l) st.fr, parts.foldl (fun m p => shutV m (evA st.fr p.2)) st.m⟩
    | none => none)
  | .s2b x => (match evA st.fr x with
    | .val (.string s) => some ⟨putf dst (.row st.m.length 0 s.size 0 s.size) st.fr, st.m ++ [.row 0 1 (s.data.toList.map fun b => .val (.int .u8 b.toNat)) true 0]⟩
    | _ => none)
  | .call f args =>
    (match frzL st.m (args.map (evA st.fr)) with
    | some vs => (match call.f f vs with
      | some r => some ⟨putf dst r st.fr, if r.flatT then st.m else (args.map (evA st.fr)).foldl shutV st.m⟩
      | none => none)
    | none => none)
  | o => (pureOp st.m st.fr o).map fun v => ⟨putf dst v st.fr, st.m⟩
def wantedA (fr : List (Nat × AV)) : Option (Nat × Bool) → Option Bool
 | none => some true
 | some (s, b) => match look fr s with
  | .val (.bool c) => some (c == b)
  | .val (.tuple _) => some false
  | _ => none
def runOps (call : CallF) : List AOper → St → Option St
 | [], st => some st
 | o :: r, st => match wantedA st.fr o.guard with
  | some true => (match stepOp call st o.dst o.op with | some st' => runOps call r st' | none => none)
  | some false => runOps call r ⟨putf o.dst (.val undef) st.fr, st.m⟩
  | none => none
def quietOp (call : CallF) (m : List MObj) (fr : List (Nat × AV)) : AOp → Option AV
 | .call f args => (match frzL m (args.map (evA fr)) with
  | some vs => (match call.f f vs with
   | some r => if r.toVal.isSome then some r else none
   | none => none)
  | none => none)
 | o => pureOp m fr o
def runQ (call : CallF) (m : List MObj) : List AOper → List (Nat × AV) → Option (List (Nat × AV))
 | [], fr => some fr
 | o :: r, fr => match wantedA fr o.guard with
  | some true => (match quietOp call m fr o.op with | some v => runQ call m r (putf o.dst v fr) | none => none)
  | some false => runQ call m r (putf o.dst (.val undef) fr)
  | none => none
def keepF (fr : List (Nat × AV)) : List Nat → List (Nat × AV)
 | [] => []
 | s :: r => (s, look fr s) :: keepF fr r
def AOp.isEff : AOp → Bool
 | .x _ | .nilrow _ | .alloc .. | .store .. | .app .. | .mks .. | .bslice .. | .s2b _ | .call .. => true
 | _ => false
def AV.noRow (v : AV) : Bool := v.cells.all fun | .row .. => false | _ => true
def extOp (call : CallF) (m : List MObj) (fr : List (Nat × AV)) (o : AOp) : Option AV := match o with
 | .call f args => if (args.map (evA fr)).all AV.noRow then (frzL m (args.map (evA fr))).bind (call.f f) else none
 | .bslice sz false zero ag cnt parts => if parts.all (fun p => (evA fr p.2).noRow) then (bsEls fr m sz (List.replicate cnt (zeroEl zero ag)) parts).map (.slice sz) else none
 | .x (.bxf n x) => bxfV fr n x
 | .x o => pure2 m fr o
 | o => if o.isEff then none else pureOp m fr o
def opT : Operand → List Nat
 | .tmp t => [t]
 | _ => []
def opsT (l : List Operand) : List Nat := l.flatMap opT
def AOp2.uses : AOp2 → List Nat
 | .bad | .mkmap | .allocR .. | .nilsl _ => []
 | .callM _ l => opsT l
 | .callV x l => opsT (x :: l)
 | .mkfn _ a b => opsT (a ++ b)
 | .mlook _ _ x k => opsT [x, k]
 | .mset x k v => opsT [x, k, v]
 | .mdel x k => opsT [x, k]
 | .mlen x => opsT [x]
 | .aeq _ _ _ x y => opsT [x, y]
 | .isnil _ _ x => opsT [x]
 | .cpy _ x y => opsT [x, y]
 | .nilchk x => opsT [x]
 | .slc3 x h mx => opsT [x, h, mx]
 | .appS _ x y => opsT [x, y]
 | .mkif _ x => opsT [x]
 | .ifeq _ _ x y => opsT [x, y]
 | .bx _ _ x => opsT [x]
 | .storeR _ _ a v => opsT [a, v]
 | .arrS _ x => opsT [x]
 | .cpyA x y => opsT [x, y]
 | .rngS x => opsT [x]
 | .nxtS x => opsT [x]
 | .trunc x h => opsT [x, h]
 | .torow _ x => opsT [x]
 | .bxf _ x => opsT [x]
 | .capN x => opsT [x]
 | .appN _ x n => opsT [x, n]
def AOp.uses : AOp → List Nat
 | .x o => o.uses
 | .nilrow _ | .alloc .. => []
 | .mov z | .un _ z | .cint _ z | .cstr z | .s2b z | .b2s z | .load _ _ z | .faddr _ z | .fld _ _ _ z | .len z | .slen z | .ext z _ => opsT [z]
 | .pick c a b => opsT [c, a, b]
 | .bin _ z y | .beq _ z y | .store _ z y | .iaddr _ z y | .aaddr _ _ z y | .sidx z y | .aidx _ _ _ z y | .app _ _ _ z y => opsT [z, y]
 | .slc _ z lo hi | .sslc z lo hi => opsT (z :: (lo.toList ++ hi.toList))
 | .mks _ _ _ _ l c => opsT [l, c]
 | .build _ parts => opsT (parts.map fun p => p.2.2)
 | .bslice _ _ _ _ _ parts => opsT (parts.map fun p => p.2)
 | .call _ l => opsT l
 | .mn z ys | .mx z ys => opsT (z :: ys)
def AOper.uses (o : AOper) : List Nat := (match o.guard with | some (s, _) => [s] | none => []) ++ o.op.uses
def oneX (call : CallF) (m : List MObj) (fr : List (Nat × AV)) (o : AOper) : Option AV := match wantedA fr o.guard with
 | some true => extOp call m fr o.op
 | some false => some (.val undef)
 | none => none
def runX (call : CallF) (m : List MObj) : List AOper → List (Nat × AV) → Option (List (Nat × AV))
 | [], fr => some fr
 | o :: r, fr => match oneX call m (keepF fr o.uses) o with
  | some v => runX call m r (putf o.dst v fr)
  | none => none
def dropF (ds : List Nat) : List (Nat × AV) → List (Nat × AV)
 | [] => []
 | (k, v) :: r => if ds.contains k then dropF ds r else (k, v) :: dropF ds r
def AV.refB (n : Nat) : AV → Nat
 | .row id _ _ _ _ => id + 1
 | .ptr id _ => id + 1
 | .elt id _ _ _ _ => id + 1
 | .mp id => id + 1
 | .bsl id _ _ => id + 1
 | .pel id _ _ => id + 1
 | .it id => id + 1
 | .val _ | .slice _ _ | .rptr _ | .any | .nif => 0
 | _ => n
def maxRefB (n : Nat) : List AV → Nat
 | [] => 0
 | v :: r => max (v.refB n) (maxRefB n r)
def AV.refCell (n : Nat) : AV → Nat
 | .fn _ a b => max (maxRefB n a) (maxRefB n b)
 | v => v.refB n
def maxRef (n : Nat) : List AV → Nat
 | [] => 0
 | v :: r => max (v.refCell n) (maxRef n r)
def AV.ref (n : Nat) : AV → Nat
 | .agg l => maxRef n l
 | .tuple l => maxRef n (l.flatMap AV.cells)
 | v => v.refCell n
def MObj.ref (n : Nat) : MObj → Nat
 | .box t cs => if bigTy t then n else maxRef n cs
 | _ => 0
def frRef (n : Nat) : List (Nat × AV) → Nat
 | [] => 0
 | p :: r => max (p.2.ref n) (frRef n r)
def mRef (n : Nat) : List MObj → Nat
 | [] => 0
 | o :: r => max (o.ref n) (mRef n r)
def gc (b : Nat) (fr : List (Nat × AV)) (m : List MObj) : List MObj := m.take (max b (max (frRef m.length fr) (mRef m.length m)))
def shId (i id : Nat) : Nat := if i < id then id - 1 else id
def AV.shB (i : Nat) : AV → AV
 | .row id v u o l => if id = i then .any else .row (shId i id) v u o l
 | .ptr id o => if id = i then .any else .ptr (shId i id) o
 | .elt id v u k fo => if id = i then .any else .elt (shId i id) v u k fo
 | .mp id => if id = i then .any else .mp (shId i id)
 | .bsl id o n => if id = i then .any else .bsl (shId i id) o n
 | .pel id o k => if id = i then .any else .pel (shId i id) o k
 | .it id => if id = i then .any else .it (shId i id)
 | .val v => .val v
 | .slice sz l => .slice sz l
 | .rptr l => .rptr l
 | .nif => .nif
 | _ => .any
def shLB (i : Nat) : List AV → List AV
 | [] => []
 | v :: r => v.shB i :: shLB i r
def AV.shC (i : Nat) : AV → AV
 | .fn f a b => .fn f (shLB i a) (shLB i b)
 | v => v.shB i
def shLC (i : Nat) : List AV → List AV
 | [] => []
 | v :: r => v.shC i :: shLC i r
def AV.sh1 (i : Nat) : AV → AV
 | .agg l => .agg (shLC i l)
 | v => v.shC i
def shL1 (i : Nat) : List AV → List AV
 | [] => []
 | v :: r => v.sh1 i :: shL1 i r
def AV.sh (i : Nat) : AV → AV
 | .tuple l => .tuple (shL1 i l)
 | v => v.sh1 i
def MObj.sh (i : Nat) : MObj → MObj
 | .box t cs => .box t (shLC i cs)
 | o => o
def shFr (i : Nat) : List (Nat × AV) → List (Nat × AV)
 | [] => []
 | (k, v) :: r => (k, v.sh i) :: shFr i r
def shM (i : Nat) : List MObj → List MObj
 | [] => []
 | o :: r => o.sh i :: shM i r
def AV.menB (i : Nat) : AV → Bool
 | .row id _ _ _ _ => Nat.beq id i
 | .ptr id _ => Nat.beq id i
 | .elt id _ _ _ _ => Nat.beq id i
 | .mp id => Nat.beq id i
 | .bsl id _ _ => Nat.beq id i
 | .pel id _ _ => Nat.beq id i
 | .it id => Nat.beq id i
 | _ => false
def menLB (i : Nat) : List AV → Bool
 | [] => false
 | v :: r => v.menB i || menLB i r
def AV.menC (i : Nat) : AV → Bool
 | .fn _ a b => menLB i a || menLB i b
 | v => v.menB i
def menLC (i : Nat) : List AV → Bool
 | [] => false
 | v :: r => v.menC i || menLC i r
def AV.men1 (i : Nat) : AV → Bool
 | .agg l => menLC i l
 | v => v.menC i
def menL1 (i : Nat) : List AV → Bool
 | [] => false
 | v :: r => v.men1 i || menL1 i r
def AV.men (i : Nat) : AV → Bool
 | .tuple l => menL1 i l
 | v => v.men1 i
def MObj.men (i : Nat) : MObj → Bool
 | .box t cs => bigTy t || menLC i cs
 | _ => false
def menFr (i : Nat) : List (Nat × AV) → Bool
 | [] => false
 | (_, v) :: r => v.men i || menFr i r
def menM (i : Nat) : List MObj → Bool
 | [] => false
 | o :: r => o.men i || menM i r
def deadAt (b : Nat) (fr : List (Nat × AV)) (m : List MObj) : Nat → Option Nat
 | 0 => none
 | k + 1 => if k < b then none else if menFr k fr || menM k m then deadAt b fr m k else some k
def packN (b : Nat) : Nat → St → St
 | 0, st => st
 | n + 1, st => match deadAt b st.fr st.m st.m.length with
  | some i => packN b n ⟨shFr i st.fr, shM i (st.m.eraseIdx i)⟩
  | none => st
def packSt (b : Nat) (st : St) : St := packN b st.m.length st
def normS (b : Nat) (keep : List Nat) (st : St) : St := let fr := keepF st.fr keep; ⟨fr, gc b fr st.m⟩
def normSt (b : Nat) (keep : List Nat) (st : St) : St := match keep with
 | k :: ks => if k = 1000000 then packSt b ⟨keepF st.fr ks, st.m⟩ else normS b (k :: ks) st
 | [] => normS b [] st
def packR (pk : Bool) (b : Nat) (r : AV) (m : List MObj) : AV × List MObj := match pk with
 | true => match packSt b ⟨[(0, r)], m⟩ with
  | ⟨fr, m'⟩ => (look fr 0, m')
 | false => (r, m)
def noopA : AOper := ⟨none, .mov (.const undef), none⟩
def maskL (cs : List Nat) : Nat → List AOper → List AOper
 | _, [] => []
 | k, o :: r => (if cs.contains k then noopA else o) :: maskL cs (k + 1) r
def fastV : Value → Value → Bool
 | .int k a, .int k' b => decide (k = k') && decide (a = b)
 | .bool a, .bool b => decide (a = b)
 | .string a, .string b => decide (a.data.toList = b.data.toList)
 | .pointer none, .pointer none => true
 | .slice none 0 0, .slice none 0 0 => true
 | .nilIface, .nilIface => true
 | _, _ => false
def fastL (f : AV → AV → Bool) : List AV → List AV → Bool
 | [], [] => true
 | x :: l, y :: l' => f x y && fastL f l l'
 | _, _ => false
def fastA : Nat → AV → AV → Bool
 | 0, _, _ => false
 | n + 1, a, b => match a, b with
  | .any, .any => true
  | .nif, .nif => true
  | .val v, .val v' => fastV v v'
  | .agg l, .agg l' => fastL (fastA n) l l'
  | .tuple l, .tuple l' => fastL (fastA n) l l'
  | .rptr l, .rptr l' => fastL (fastA n) l l'
  | .slice s l, .slice s' l' => decide (s = s') && fastL (fastA n) l l'
  | .row i v u o l, .row i' v' u' o' l' => decide (i = i') && decide (v = v') && decide (u = u') && decide (o = o') && decide (l = l')
  | .ptr i o, .ptr i' o' => decide (i = i') && decide (o = o')
  | .elt i v u k f, .elt i' v' u' k' f' => decide (i = i') && decide (v = v') && decide (u = u') && decide (k = k') && decide (f = f')
  | .mp i, .mp i' => decide (i = i')
  | .bsl i o n, .bsl i' o' n' => decide (i = i') && decide (o = o') && decide (n = n')
  | .pel i o k, .pel i' o' k' => decide (i = i') && decide (o = o') && decide (k = k')
  | .it i, .it i' => decide (i = i')
  | _, _ => false
def fastFr : List (Nat × AV) → List (Nat × AV) → Bool
 | [], [] => true
 | (k, x) :: l, (k', y) :: l' => decide (k = k') && fastA 5 x y && fastFr l l'
 | _, _ => false
noncomputable def eqFB (a b : List (Nat × AV)) : Bool := fastFr a b || @decide (a = b) (Classical.propDecidable _)
def lookD : Option Nat → List (Nat × AV) → AV
 | some d, fr => look fr d
 | none, _ => .any
def stepC (call : CallF) (o : AOper) (st : St) : Option St := match runOps call [o] ⟨keepF st.fr o.uses, st.m⟩ with
 | some st' => some ⟨putf o.dst (lookD o.dst st'.fr) st.fr, st'.m⟩
 | none => none
noncomputable def runC (call : CallF) (free : List AOper) (fr0 fr1 : List (Nat × AV)) : List AOper → St → Option St
 | [], st => some st
 | o :: r, st => match stepC call o st with
  | some st' => (match r with
   | [] => some st'
   | _ :: _ => (match runX call st'.m free fr0 with
    | some fr2 => (match eqFB fr2 fr1 with
     | true => runC call free fr0 fr1 r st'
     | false => none)
    | none => none))
  | none => none
abbrev LoopF := ACode → List Nat → St → Option (AExit × St)
noncomputable def aexec (call : CallF) (base : Nat) (loop : LoopF) : ACode → St → Option (AExit × St)
 | .skip, st => some (.normal, st)
 | .region ops drops, st => match runOps call ops st with
  | some st' => some (.normal, ⟨dropF drops st'.fr, st'.m⟩)
  | none => none
 | .dregion ops tail drops, st => match runX call st.m ops st.fr with
  | some fr => (match runOps call tail ⟨fr, st.m⟩ with
   | some st' => some (.normal, ⟨dropF drops st'.fr, st'.m⟩)
   | none => none)
  | none => none
 | .cregion free chain drops, st => match runX call st.m free st.fr with
  | some fr1 => (match runC call free st.fr fr1 chain ⟨fr1, st.m⟩ with
   | some st' => some (.normal, ⟨dropF drops st'.fr, st'.m⟩)
   | none => none)
  | none => none
 | .seq a b, st => match aexec call base loop a st with
  | some (.normal, st') => aexec call base loop b st'
  | r => r
 | .cond c a b, st => match evA st.fr c with
  | .val (.bool true) => aexec call base loop a st
  | .val (.bool false) => aexec call base loop b st
  | _ => none
 | .block id c, st => match aexec call base loop c st with
  | some (.exit i, st') => if i = id then some (.normal, st') else some (.exit i, st')
  | r => r
 | .loop c keep, st => loop c keep st
 | .join c keep, st => match aexec call base loop c st with
  | some (.normal, st') => some (.normal, normSt base keep st')
  | r => r
 | .exit id, st => some (.exit id, st)
 | .ret, st => some (.ret, st)
inductive ARes where
 | tmp (t : Nat) (offs : List (Nat × Nat))
 | cell (t : Nat) (n : Nat) (ag : Bool) (offs : List (Nat × Nat))
structure AFunc where
 params : Nat
 ntmps : Nat
 results : List ARes
 body : ACode
 pk : Bool
def nilCell (sz : Nat) : AV → AV
 | .val (.slice none 0 0) => .slice sz []
 | v => v
def nilCells : List (Nat × Nat) → List AV → List AV
 | [], l => l
 | (o, sz) :: r, l => match l[o]? with
  | some x => nilCells r (l.set o (nilCell sz x))
  | none => nilCells r l
def nilN (offs : List (Nat × Nat)) : AV → AV
 | .agg l => .agg (nilCells offs l)
 | v => match offs with
  | [(0, sz)] => nilCell sz v
  | _ => v
def resOf (st : St) : ARes → Option AV
 | .tmp t offs => (frz st.m (look st.fr t)).map (nilN offs)
 | .cell t n ag offs => (((cellsAt st.m (look st.fr t)).bind (mkV n ag)).bind (frz st.m)).map (nilN offs)
def resL (st : St) : List ARes → Option (List AV)
 | [] => some []
 | x :: r => match resOf st x, resL st r with | some a, some b => some (a :: b) | _, _ => none
def mkRes : List AV → AV
 | [v] => v
 | l => .tuple l
def enterF (params : Nat) : Nat → List AV → List (Nat × AV)
 | _, [] => []
 | i, v :: r => (i, v) :: enterF params (i + 1) r
noncomputable def runBody (call : CallF) (loop : LoopF) (fn : AFunc) (args : List AV) : Option AV :=
 if args.length = fn.params then
  match aexec call 0 loop fn.body ⟨enterF fn.params 0 args, []⟩ with
  | some (.normal, st) | some (.ret, st) => (resL st fn.results).map mkRes
  | _ => none
 else none
def resOfM (st : St) : ARes → Option AV
 | .tmp t _ => some (look st.fr t)
 | .cell t n ag _ => (cellsAt st.m (look st.fr t)).bind (mkV n ag)
def resLM (st : St) : List ARes → Option (List AV)
 | [] => some []
 | x :: r => match resOfM st x, resLM st r with | some a, some b => some (a :: b) | _, _ => none
noncomputable def runBodyM (call : CallF) (loop : LoopF) (fn : AFunc) (args : List AV) (m : List MObj) : Option (AV × List MObj) :=
 if args.length = fn.params then
  match aexec call m.length loop fn.body ⟨enterF fn.params 0 args, m⟩ with
  | some (.normal, st) | some (.ret, st) => (resLM st fn.results).map fun l => packR fn.pk m.length (mkRes l) st.m
  | _ => none
 else none
noncomputable def loopK (call : CallF) (b : Nat) : Nat → LoopF
 | 0, _, _, _ => none
 | n + 1, c, keep, st => match aexec call b (loopK call b n) c (normSt b keep st) with
  | some (.normal, st') => loopK call b n c keep st'
  | r => r
noncomputable def runF (F : FuncId → Option AFunc) (X : CallF) : Nat → CallF
  | 0 => ⟨fun _ _ => none, fun _ _ _ => none⟩
  | n + 1 => ⟨fun f args => match F f with
      | some fn => runBody (runF F X n) (loopK (runF F X n) 0 n) fn args
      | none => X.f f args,
    fun f args m => match F f with
      | some fn => runBodyM (runF F X n) (loopK (runF F X n) m.length n) fn args m
      | none => X.m f args m⟩
end Go.Proofs.YtienfdjfochlcaaGreatDoor
end
section
namespace Go.Proofs.YtienfdjfochlcaaGreatDoor
set_option linter.unusedVariables false
set_option linter.unusedSimpArgs false
section
variable {S : Nat → Nat → Prop} {w : World} {H : List Hd} {v : Value}
theorem rep_ofV (v : Value) : Rep S w H v (AV.ofV v) := by
 unfold AV.ofV
 split
 ·rename_i cs
  refine .agg (by simp) fun i y hy => ?_
  simp only [List.getElem?_map] at hy
  rcases hc : cs.toList[i]? with _ | u
  ·rw [hc] at hy; cases hy
  ·rw [hc] at hy
   simp only [Option.map_some, Option.some.injEq] at hy
   subst hy
   have : cs.getD i undef = u := by
    rw [Array.getElem?_toList] at hc
    rw [Array.getD_eq_getD_getElem?, hc]; rfl
   rw [this]; exact .val _ _
 ·exact .val _ _
structure GR (S : Nat → Nat → Prop) (w : World) (H : List Hd) : Prop where
 t : ∀ g l, GT g = some l → Rep S w H (.pointer (some ⟨g, 0, none⟩)) (.rptr l) ∧ ∀ o, l.length ≤ o → S g o ∧ w.cell? ⟨g, o, none⟩ = none
 i : ∀ g, GI g = true → ∃ m : Int, w.cell? ⟨g, 0, none⟩ = some (.int .i64 m) ∧ S g 0
instance {S : Nat → Nat → Prop} {w : World} {H : List Hd} : CoeFun (GR S w H) (fun _ => ∀ g l, GT g = some l → Rep S w H (.pointer (some ⟨g, 0, none⟩)) (.rptr l) ∧ ∀ o, l.length ≤ o → S g o ∧ w.cell? ⟨g, o, none⟩ = none) := ⟨GR.t⟩
structure FrOk (S : Nat → Nat → Prop) (w : World) (H : List Hd) (a : Act) (fr : List (Nat × AV)) : Prop where
 t : ∀ s, Rep S w H (a.tmps.getD s undef) (look fr s)
 g : GR S w H
instance {S : Nat → Nat → Prop} {w : World} {H : List Hd} {a : Act} {fr : List (Nat × AV)} : CoeFun (FrOk S w H a fr) (fun _ => ∀ s, Rep S w H (a.tmps.getD s undef) (look fr s)) := ⟨FrOk.t⟩
theorem rep_ev {a : Act} {fr : List (Nat × AV)} (h : FrOk S w H a fr) (x : Operand) : Rep S w H (a.eval x) (evA fr x) := by
 cases x with
 | tmp t => exact h.t t
 | const v => exact rep_ofV v
 | func f => exact .val _ _
 | global g =>
  simp only [evA]
  split
  ·rename_i l hl; exact (h.g g l hl).1
  ·exact .any _ _
theorem rep_nilsl (sz : Nat) : Rep S w H (.slice none 0 0) (.slice sz []) := .slice (A := none) (c := 0) (l := []) 0 0 sz (fun _ _ => undef) (Nat.le_refl _) (fun _ => rfl) (fun h => by simp at h) (fun i x h => by simp at h) (fun i x j y h => by simp at h) (fun i x j y h => by simp at h)
theorem rep_val {u : Value} (h : Rep S w H v (.val u)) : v = u := by cases h; rfl
theorem rep_agg {l : List AV} (h : Rep S w H v (.agg l)) : ∃ cs : Array Value, v = .agg cs ∧ cs.size = l.length ∧ ∀ (i : Nat) (y : AV), l[i]? = some y → Rep S w H (cs.getD i undef) y := by
 cases h with
 | agg hn h => exact ⟨_, rfl, hn, h⟩
theorem rep_tuple {l : List AV} (h : Rep S w H v (.tuple l)) : ∃ cs : Array Value, v = .tuple cs ∧ cs.size = l.length ∧ ∀ (i : Nat) (y : AV), l[i]? = some y → Rep S w H (cs.getD i undef) y := by
 cases h with
 | tuple hn h => exact ⟨_, rfl, hn, h⟩
theorem valsOf_get : ∀ {l : List AV} {vs : List Value}, valsOf l = some vs → vs.length = l.length ∧ ∀ i : Nat, ∀ u, vs[i]? = some u → l[i]? = some (.val u)
 | [], vs, h => by simp [valsOf] at h; subst h; simp
 | .val v :: r, vs, h => by
  simp only [valsOf, Option.map_eq_some_iff] at h
  obtain ⟨vs', h1, rfl⟩ := h
  obtain ⟨h2, h3⟩ := valsOf_get h1
  refine ⟨by simp [h2], fun i u hu => ?_⟩
  cases i with
  | zero => simp at hu ⊢; exact hu
  | succ i => simp at hu ⊢; exact h3 i u hu
 | .any :: r, vs, h => by simp [valsOf] at h
 | .agg _ :: r, vs, h => by simp [valsOf] at h
 | .tuple _ :: r, vs, h => by simp [valsOf] at h
 | .slice _ _ :: r, vs, h => by simp [valsOf] at h
 | .row .. :: r, vs, h => by simp [valsOf] at h
 | .ptr .. :: r, vs, h => by simp [valsOf] at h
 | .elt .. :: r, vs, h => by simp [valsOf] at h
 | .rptr _ :: r, vs, h => by simp [valsOf] at h
 | .fn .. :: r, vs, h => by simp [valsOf] at h
 | .nif :: r, vs, h => by simp [valsOf] at h
 | .mp _ :: r, vs, h => by simp [valsOf] at h
theorem rep_toVal {av : AV} {u : Value} (h : Rep S w H v av) (ht : av.toVal = some u) : v = u := by
 unfold AV.toVal at ht
 split at ht
 ·rename_i x; injection ht with ht; subst ht; exact rep_val h
 ·rename_i l
  simp only [Option.map_eq_some_iff] at ht
  obtain ⟨vs, h1, rfl⟩ := ht
  obtain ⟨cs, rfl, hn, hc⟩ := rep_agg h
  obtain ⟨h2, h3⟩ := valsOf_get h1
  congr 1
  apply Array.ext_getElem?
  intro i
  by_cases hi : i < cs.size
  ·have hi2 : i < vs.length := by omega
   have := rep_val (hc i _ (h3 i vs[i] (List.getElem?_eq_getElem hi2)))
   simp only [Array.getD_eq_getD_getElem?, Array.getElem?_eq_getElem hi, Option.getD_some] at this
   simp [hi, hi2, this]
  ·simp [hi]; omega
 ·cases ht
theorem toI_some {av : AV} {n : Int} (h : av.toI = some n) : ∃ k, av = .val (.int k n) := by
 unfold AV.toI at h
 split at h
 ·injection h with h; subst h; exact ⟨_, rfl⟩
 ·cases h
theorem toN_some {av : AV} {n : Nat} (h : av.toN = some n) : ∃ k, av = .val (.int k (n : Int)) := by
 unfold AV.toN at h
 split at h
 ·rename_i x hx
  obtain ⟨k, rfl⟩ := toI_some hx
  split at h
  ·rename_i h0
   injection h with h
   refine ⟨k, ?_⟩
   rw [← h, Int.toNat_of_nonneg h0]
  ·cases h
 ·cases h
structure ElemsAt (w : World) (S : Nat → Nat → Prop) (v : Value) (l : List AV) : Prop where
 ex : ∃ (A : Option Addr) (c b off sz : Nat) (u : Nat → Nat → Value), v = .slice A l.length c ∧ l.length ≤ c ∧ (A = none → c = 0) ∧ (0 < l.length → A = some ⟨b, off, none⟩) ∧
  (∀ (i : Nat) (x : AV), l[i]? = some x → x.ground = true ∧ x.cells.length = sz) ∧
  ∀ (i : Nat) (x : AV) (j : Nat) (y : AV), l[i]? = some x → x.cells[j]? = some y → w.cell? ⟨b, off + i * sz + j, none⟩ = some (u i j) ∧ b < w.heap.size ∧ Rep S w [] (u i j) y
theorem cell_getD {w : World} {b o : Nat} {cs : Array Value} {t : TypeId} {fz : Nat × Nat} (h : w.heap[b]? = some (.cells cs t fz)) (ho : o < cs.size) : w.cell? ⟨b, o, none⟩ = some (cs.getD o undef) := by
 rw [cell_of_row w b o cs t fz h]
 simp [Array.getD_eq_getD_getElem?, ho]
theorem mul_lt_of {i n sz j : Nat} (hi : i < n) (hj : j < sz) : i * sz + j < n * sz := by
 have : (i + 1) * sz ≤ n * sz := Nat.mul_le_mul_right sz hi
 rw [Nat.add_mul, Nat.one_mul] at this
 omega
theorem rep_elems {X : Nat → Nat → Prop} {m : List MObj} {av : AV} {l : List AV} (hm : MemAt X w m H) (h : Rep (Stab X H w) w H v av) (he : elems m av = some l) : ElemsAt w (Stab X H w) v l := by
 unfold elems at he
 split at he
 ·rename_i sz' l'
  injection he with he; subst he
  cases h with
  | slice b off _ u hc hz hA hsz hcell hrep =>
   exact ⟨_, _, b, off, _, u, rfl, hc, hz, hA, hsz, fun i x j y h1 h2 => ⟨(hcell i x j y h1 h2).1, (hcell i x j y h1 h2).2.1, hrep i x j y h1 h2⟩⟩
 ·injection he with he; subst he
  have := rep_val h
  subst this
  exact ⟨none, 0, 0, 0, 0, fun _ _ => undef, rfl, Nat.le_refl _, fun _ => rfl, fun h => by simp at h, fun i x h => by simp at h, fun i x j y h => by simp at h⟩
 ·rename_i id ver used off len
  split at he
  ·rename_i v' s' l' wr ap hobj
   split at he
   ·rename_i hv
    obtain ⟨rfl, hu⟩ := hv
    injection he with he
    cases h with
    | row id ver used off len hs hH hle hvv =>
     have hO := hm.obj _ _ _ hobj hH
     simp only [ObjAt] at hO
     obtain ⟨e1, e2, es, e3, e4, e5, e6, e7⟩ := hO
     obtain ⟨g1, g2, A, rfl, g3, g4, g4n⟩ := hvv e1.symm (by omega)
     have hll : l.length = len := by rw [← he]; simp; omega
     have hget : ∀ (i : Nat) (x : AV), l[i]? = some x → l'[off + i]? = some x ∧ i < len := by
      intro i x hx
      have hlt : i < len := by have := (List.getElem?_eq_some_iff.1 hx).1; omega
      rw [← he, List.getElem?_take, if_pos hlt, List.getElem?_drop] at hx
      exact ⟨hx, hlt⟩
     rename_i b cap sz cver cused wr'
     refine ⟨A, cap - off, b, off * sz, sz, fun i j => ((w.heap[b]?).map (fun o => match o with | .cells cs _ _ => cs.getD ((off + i) * sz + j) undef | _ => undef)).getD undef, by rw [hll], by omega, g4, fun h0 => g3 (by omega), fun i x hx => e6 _ _ (hget i x hx).1, fun i x j y hx hy => ?_⟩
     obtain ⟨hx', hlt⟩ := hget i x hx
     obtain ⟨cur, t, fz, hh, _, _, hsz, hrep⟩ := e5 (by omega)
     have hjl := (List.getElem?_eq_some_iff.1 hy).1
     have hj : j < sz := by have := (e6 _ _ hx').2; omega
     have hlt2 : (off + i) * sz + j < cur.size := Nat.lt_of_lt_of_le (mul_lt_of (by omega) hj) hsz
     have hr := hrep _ _ _ _ hx' hy
     have hbl := hm.lt _ _ b hH (by simp [Hd.blk]; omega)
     refine ⟨?_, hbl, ?_⟩
     ·rw [hh]
      simp only [Option.map_some, Option.getD_some]
      rw [← Nat.add_mul]
      exact cell_getD hh hlt2
     ·rw [hh]; simpa using hr
   ·cases he
  ·cases he
 ·rename_i id off len
  split at he
  ·rename_i bt cs hobj
   split at he
   ·rename_i hc
    obtain ⟨hc1, hc2⟩ := hc
    injection he with he
    cases h with
    | bsl id off len hH =>
     have hO := hm.obj _ _ _ hobj hH
     simp only [ObjAt] at hO
     obtain ⟨e1, cur, hh, hsz, hrep, hbt⟩ := hO
     rename_i b n
     have hll : l.length = len := by rw [← he]; simp; omega
     have hgr : ∀ x ∈ l, AV.grCell x = true := fun x hx => by rw [← he] at hx; exact List.all_eq_true.1 hc2 x hx
     have hcl : ∀ x : AV, AV.grCell x = true → x.ground = true ∧ x.cells = [x] := fun x hx => by
      cases x <;> simp [AV.grCell] at hx <;> simp [AV.ground, AV.cells, AV.grCell, hx]
     have hget : ∀ (i : Nat) (x : AV), l[i]? = some x → cs[off + i]? = some x ∧ i < len := by
      intro i x hx
      have hlt : i < len := by have := (List.getElem?_eq_some_iff.1 hx).1; omega
      rw [← he, List.getElem?_take, if_pos hlt, List.getElem?_drop] at hx
      exact ⟨hx, hlt⟩
     refine ⟨some ⟨b, off, none⟩, len, b, off, 1, fun i j => cur.getD (off + i * 1 + j) undef, by rw [hll], by omega, (fun h => by cases h), fun _ => rfl, fun i x hx => ?_, fun i x j y hx hy => ?_⟩
     ·have g := hcl x (hgr x (List.mem_of_getElem? hx))
      exact ⟨g.1, by rw [g.2]; rfl⟩
     ·have gx := hgr x (List.mem_of_getElem? hx)
      have g := hcl x gx
      obtain ⟨hx', hlt⟩ := hget i x hx
      rw [g.2] at hy
      have hj : j = 0 := by
       cases j with
       | zero => rfl
       | succ j => simp at hy
      subst hj
      simp only [List.getElem?_cons_zero, Option.some.injEq] at hy
      subst hy
      have e : off + i * 1 + 0 = off + i := by omega
      simp only [e]
      exact ⟨cell_getD hh (by omega), hm.lt _ _ b hH rfl, (hrep _ _ hx').gr gx []⟩
   ·cases he
  ·cases he
 ·cases he
theorem rep_cellsAt {X : Nat → Nat → Prop} {m : List MObj} {av : AV} {l : List AV} (hm : MemAt X w m H) (h : Rep (Stab X H w) w H v av) (he : cellsAt m av = some l) (hl : 0 < l.length) :
    ∃ (b o : Nat) (u : Nat → Value), v = .pointer (some ⟨b, o, none⟩) ∧ b < w.heap.size ∧ ∀ (j : Nat) (y : AV), l[j]? = some y → w.cell? ⟨b, o + j, none⟩ = some (u j) ∧ Rep (Stab X H w) w H (u j) y := by
  unfold cellsAt at he
  split at he
  · rename_i l'
    injection he with he; subst he
    cases h with
    | rptr b o u hg hcell hrep =>
      have h0 := (hcell 0 _ (List.getElem?_eq_getElem hl)).2.1
      exact ⟨b, o, u, rfl, h0, fun j y hy => ⟨(hcell j y hy).1, (hrep j y hy).gr (hg j y hy) H⟩⟩
  · rename_i id off
    split at he
    · rename_i cs hobj
      injection he with he
      cases h with
      | ptr id off hH =>
        have hO := hm.obj _ _ _ hobj hH
        simp only [ObjAt] at hO
        obtain ⟨e1, cur, hh, hsz, hrep, hbt⟩ := hO
        rename_i b n
        refine ⟨b, off, fun j => cur.getD (off + j) undef, rfl, hm.lt _ _ b hH rfl, fun j y hy => ?_⟩
        rw [← he, List.getElem?_drop] at hy
        have hlt := (List.getElem?_eq_some_iff.1 hy).1
        exact ⟨cell_getD hh (by omega), hrep _ _ hy⟩
    · cases he
  · rename_i id off k
    split at he
    · rename_i cs hobj
      injection he with he
      cases h with
      | pel id off k hH ho =>
        subst ho
        have hO := hm.obj _ _ _ hobj hH
        simp only [ObjAt] at hO
        obtain ⟨e1, cur, hh, hsz, hrep, hbt⟩ := hO
        rename_i b n
        refine ⟨b, off + k, fun j => cur.getD (off + k + j) undef, rfl, hm.lt _ _ b hH rfl, fun j y hy => ?_⟩
        rw [← he, List.getElem?_drop] at hy
        have hlt := (List.getElem?_eq_some_iff.1 hy).1
        exact ⟨cell_getD hh (by omega), hrep _ _ hy⟩
    · cases he
  · rename_i id ver used i fo
    split at he
    · rename_i v' s' l' wr ap hobj
      split at he
      · rename_i hv
        obtain ⟨rfl, hu⟩ := hv
        simp only [Option.map_eq_some_iff] at he
        obtain ⟨x, hx, he⟩ := he
        cases h with
        | elt id ver used i fo hs hH hle hvv =>
          have hO := hm.obj _ _ _ hobj hH
          simp only [ObjAt] at hO
          obtain ⟨e1, e2, es, e3, e4, e5, e6, e7⟩ := hO
          obtain ⟨g1, rfl⟩ := hvv e1.symm (by omega)
          rename_i b cap sz cver cused wr'
          have hilt := (List.getElem?_eq_some_iff.1 hx).1
          obtain ⟨cur, t, fz, hh, _, _, hsz, hrep⟩ := e5 (by omega)
          refine ⟨b, i * sz + fo, fun j => cur.getD (i * sz + (fo + j)) undef, rfl, hm.lt _ _ b hH (by simp [Hd.blk]; omega), fun j y hy => ?_⟩
          rw [← he, List.getElem?_drop] at hy
          have hlt := (List.getElem?_eq_some_iff.1 hy).1
          obtain ⟨hgr, hlen⟩ := e6 _ _ hx
          have hlt2 : i * sz + (fo + j) < cur.size := Nat.lt_of_lt_of_le (mul_lt_of (by omega) (by omega)) hsz
          refine ⟨by rw [Nat.add_assoc]; exact cell_getD hh hlt2, (hrep _ _ _ _ hx hy).gr ?_ H⟩
          have := List.all_eq_true.1 hgr y (List.mem_of_getElem? hy)
          exact this
      · cases he
    · cases he
  · cases he
end
end Go.Proofs.YtienfdjfochlcaaGreatDoor
end
section
namespace Go.Proofs.YtienfdjfochlcaaGreatDoor
set_option linter.unusedVariables false
set_option linter.unusedSimpArgs false
def szOf (P : Program) (t : TypeId) : Option Nat := (P.info? t).map (·.size)
def byOf (P : Program) (t : TypeId) : Option Nat := (P.info? t).map (·.bytes)
def zeOf (P : Program) (t : TypeId) : Option Value := (P.info? t).bind (·.zero)
def agOf (P : Program) (t : TypeId) : Option Bool := (P.underlying t).map fun d => match d with | .struct _ => true | .array _ _ => true | _ => false
def u8Of (P : Program) (t : TypeId) : Bool := match P.underlying t with | some (.int .u8) => true | _ => false
def apOf (P : Program) (e : TypeId) : Nat := if u8Of P e then e + 2 else 1
theorem apOf_ok (P : Program) (e : TypeId) : 2 ≤ apOf P e → e = apOf P e - 2 := by
 unfold apOf
 split
 ·intro _; exact (Nat.add_sub_cancel e 2).symm
 ·intro h; omega
def partsOf (P : Program) (places : Nat → Option (Nat × Nat)) : List (Nat × Operand) → Option (List (Nat × Nat × Operand))
 | [] => some []
 | (i, x) :: r => match places i, partsOf P places r with | some (o, s), some l => some ((o, s, x) :: l) | _, _ => none
def placesOf (P : Program) (fs : Array Field) : Option (List (Nat × Nat)) := fs.toList.mapM (fun f => (P.info? f.type).map fun i => (f.offset, i.size))
def zeroOk (z : Value) (ag : Bool) (n : Nat) : Bool := decide (z.cells.size = n) && (z.cells.toList.map AV.val).all AV.grCell && (ag || decide (n = 1))
def compOp (P : Program) (hint : Bool) (ty : TypeId) : Op → Option AOp
 | .move x => some (.mov x)
 | .assign x => match hint, x, P.underlying ty with
  | true, .const (.slice none 0 0), some (.slice e) => (szOf P e).map .nilrow
  | false, .const (.slice none 0 0), some (.slice e) => (szOf P e).map fun sz => .x (.nilsl sz)
  | _, _, _ => some (.mov x)
 | .pick c a b => some (.pick c a b)
 | .binOp op t x y _ => match op with
  | .eql => (match P.underlying t with | some .bool => some (.beq false x y) | some (.int _) => some (.bin .eql x y) | some .string => some (.bin .eql x y) | _ => none)
  | .neq => (match P.underlying t with | some .bool => some (.beq true x y) | some (.int _) => some (.bin .neq x y) | some .string => some (.bin .neq x y) | _ => none)
  | op => some (.bin op x y)
 | .unOp op _ x => some (.un op x)
 | .convert s d x => match P.underlying s, P.underlying d with
  | some (.int _), some (.int k) => some (.cint k x)
  | some .string, some .string => some (.cstr x)
  | some .string, some (.slice e) => if u8Of P e then some (.s2b x) else none
  | some (.slice e), some .string => if u8Of P e then some (.b2s x) else none
  | _, _ => none
 | .alloc t => (zeOf P t).map fun z => .alloc t z.cells.toList
 | .load t a => match szOf P t, agOf P t with
  | some (n + 1), some ag => some (.load (n + 1) ag a)
  | _, _ => none
 | .store t a v => match szOf P t with
  | some (n + 1) => some (.store (n + 1) a v)
  | _ => none
 | .fieldAddr s x f => match P.underlying s with
  | some (.struct fs) => (match fs[f]? with
   | some fd => (match szOf P fd.type with | some (_ + 1) => some (.faddr fd.offset x) | _ => none)
   | none => none)
  | _ => none
 | .field s x f => match P.underlying s with
  | some (.struct fs) => (match fs[f]? with
   | some fd => (match szOf P fd.type, agOf P fd.type with | some (n + 1), some ag => some (.fld fd.offset (n + 1) ag x) | _, _ => none)
   | none => none)
  | _ => none
 | .indexAddr t x i => match P.underlying t with
  | some (.slice e) => (szOf P e).map fun sz => .iaddr sz x i
  | some (.array n e) => (szOf P e).map fun sz => .aaddr n sz x i
  | _ => none
 | .index t x i => match P.underlying t with
  | some .string => some (.sidx x i)
  | some (.array n e) => (match szOf P e, agOf P e with | some (sz + 1), some ag => some (.aidx n (sz + 1) ag x i) | _, _ => none)
  | _ => none
 | .slice t x lo hi none => match P.underlying t with
  | some .string => some (.sslc x lo hi)
  | some (.slice e) => (szOf P e).map fun sz => .slc sz x lo hi
  | _ => none
 | .build t parts => match P.underlying t, zeOf P t with
  | some (.struct fs), some z => (placesOf P fs).bind fun places => (partsOf P (places.toArray[·]?) parts.toList).map fun l => .build z.cells.toList l
  | some (.array _ e), some z => (szOf P e).bind fun sz => (partsOf P (fun i => some (i * sz, sz)) parts.toList).map fun l => .build z.cells.toList l
  | _, _ => none
 | .buildSlice t len parts => match P.underlying t with
  | some (.slice e) => (match szOf P e, zeOf P e, agOf P e with
   | some (n + 1), some z, some ag => if len * (n + 1) ≤ 16777216 ∧ zeroOk z ag (n + 1) then some (.bslice (n + 1) hint z.cells.toList ag len parts.toList) else none
   | _, _, _ => none)
  | _ => none
 | .makeSlice t l c => match P.underlying t with
  | some (.slice e) => (match szOf P e, zeOf P e, agOf P e, byOf P e with
   | some (n + 1), some z, some ag, some by_ => if zeroOk z ag (n + 1) then some (.mks (n + 1) z.cells.toList ag by_ l c) else none
   | _, _, _, _ => none)
  | _ => none
 | .extract t i => some (.ext t i)
 | .call ⟨.builtin .len, args, ts⟩ => match args.toList, (ts[0]?).bind P.underlying with
  | [x], some .string => some (.slen x)
  | [x], some (.slice _) => some (.len x)
  | _, _ => none
 | .call ⟨.builtin .min, args, _⟩ => match args.toList with | x :: ys => some (.mn x ys) | [] => none
 | .call ⟨.builtin .max, args, _⟩ => match args.toList with | x :: ys => some (.mx x ys) | [] => none
 | .call ⟨.builtin .append, args, ts⟩ => match args.toList, ts.toList with
  | [x, y], [t, t'] => if t = t' then (match P.underlying t with
   | some (.slice e) => (match szOf P e, zeOf P e, byOf P e with
    | some (n + 1), some z, some by_ => if z.cells.size = n + 1 then some (.app (n + 1) by_ (apOf P e) x y) else none
    | _, _, _ => none)
   | _ => none) else none
  | _, _ => none
 | .call ⟨.value (.func f), args, _⟩ => match P.funcs[f]? with
  | some fn => if fn.body.isSome ∧ (fn.name == "runtime.NumGoroutine") = false then some (.call f args.toList) else none
  | none => none
 | _ => none
def Ext (w w' : World) : Prop := ∀ k : Nat, k < w.heap.size → w'.heap[k]? = w.heap[k]?
theorem Ext.refl (w : World) : Ext w w := fun _ _ => rfl
theorem Ext.cell {w w' : World} (h : Ext w w') {b : Nat} (hb : b < w.heap.size) (o : Nat) : w'.cell? ⟨b, o, none⟩ = w.cell? ⟨b, o, none⟩ := World.cell?_of_block (h b hb)
section
variable {P : Program} {w : World}
theorem run_szOf {t : TypeId} {n : Nat} (h : szOf P t = some n) (w : World) : (sizeOf t).run P w = .ok n w := by
 unfold szOf at h
 simp only [Option.map_eq_some_iff] at h
 obtain ⟨i, hi, rfl⟩ := h
 simp [sizeOf, typeInfo, hi]
theorem run_agOf {t : TypeId} {b : Bool} (h : agOf P t = some b) (w : World) : (isAgg t).run P w = .ok b w := by
 unfold agOf at h
 simp only [Option.map_eq_some_iff] at h
 obtain ⟨d, hd, rfl⟩ := h
 cases d <;> simp [isAgg, run_underlying hd]
theorem run_zeOf {t : TypeId} {z : Value} (h : zeOf P t = some z) (w : World) : (zeroValue t).run P w = .ok z w := by
 unfold zeOf at h
 simp only [Option.bind_eq_some_iff] at h
 obtain ⟨i, hi, hz⟩ := h
 simp [zeroValue, typeInfo, hi, hz]
theorem run_now {α : Type} {s : Sem α} {a : α} (h : Sem.now s = some a) (w : World) : s.run P w = .ok a w := by
 cases s <;> simp [Sem.now] at h
 subst h; rfl
theorem run_loadVar {t : TypeId} {n : Nat} {ag : Bool} (hn : szOf P t = some n) (hag : agOf P t = some ag) (b o : Nat) (cs : List Value) (hl : cs.length = n) (h1 : ag = false → n = 1)
    (hc : ∀ (j : Nat) (v : Value), cs[j]? = some v → w.cell? ⟨b, o + j, none⟩ = some v) :
    (loadVar t ⟨b, o, none⟩).run P w = .ok (if ag then .agg cs.toArray else cs.headD undef) w := by
  have ha : ∀ (j : Nat) (v : Value), cs[j]? = some v → w.cell? ((⟨b, o, none⟩ : Addr).add j) = some v := by
    intro j v hv
    have := hc j v hv
    unfold Addr.add
    split
    · rename_i h0; subst h0; simpa using this
    · exact this
  cases ag with
  | true =>
    have := run_loadCells_list (P := P) w ⟨b, o, none⟩ cs ha
    rw [hl] at this
    simp [loadVar, run_agOf hag, run_szOf hn, this]
  | false =>
    have h1 := h1 rfl
    match cs, hl with
    | [v], _ =>
      have := hc 0 v rfl
      simp only [Nat.add_zero] at this
      simp [loadVar, run_agOf hag, load, Sem.run, this]
    | [], h => simp at h; omega
    | _ :: _ :: _, h => simp at h; omega
theorem run_part {t : TypeId} {n : Nat} {ag : Bool} (hn : szOf P t = some n) (hag : agOf P t = some ag) (cs : Array Value) (off : Nat) (hl : off + n ≤ cs.size) (h1 : ag = false → n = 1) :
    (part t cs off).run P w = .ok (if ag then .agg (cs.extract off (off + n)) else cs.getD off undef) w := by
  cases ag with
  | true => simp [part, run_agOf hag, run_szOf hn]
  | false =>
    have h1 := h1 rfl
    have hlt : off < cs.size := by omega
    simp [part, run_agOf hag, hlt]
end
end Go.Proofs.YtienfdjfochlcaaGreatDoor
end
section
namespace Go.Proofs.YtienfdjfochlcaaGreatDoor
set_option linter.unusedVariables false
set_option linter.unusedSimpArgs false
theorem addr_add (b o k : Nat) : (⟨b, o, none⟩ : Addr).add k = ⟨b, o + k, none⟩ := by
 unfold Addr.add
 split
 ·rename_i h; subst h; rfl
 ·rfl
section
variable {P : Program}
set_option maxHeartbeats 1000000 in
theorem run_binV {op : BinOp} {a b r : Value} (h : binV op a b = some r) (t : TypeId) (x y : Operand) (w : World) : (do eqGuard op t x y a b; binOp op t a b).run P w = .ok r w := by
  unfold binV at h
  split at h
  all_goals try (split at h <;> try (cases h; done))
  all_goals try (split at h <;> try (cases h; done))
  all_goals first
    | (cases h; done)
    | (have := run_now (P := P) h w; simp [eqGuard, binOp, this]; done)
    | (injection h with h; subst h; simp [eqGuard, binOp, Op.intArith, Op.intDiv, Op.intCmp, Op.stringOp, *]; done)
    | (have := run_now (P := P) h w; subst_vars; simp [eqGuard, binOp, this]; done)
    | (injection h with h; subst h; subst_vars; simp [eqGuard, binOp, Op.intArith, Op.intDiv, Op.intCmp, Op.stringOp, *]; done)
    | (rename_i a' b' hle
       have e : ¬ (((a'.size + b'.size : Nat) : Int) > IntKind.i64.max) := by
         have : IntKind.i64.max = 9223372036854775807 := by decide
         rw [this]; omega
       injection h with h; subst h
       simp [eqGuard, binOp, Op.stringOp, e] <;> omega)
def Gives (P : Program) (w : World) (s : Sem Value) (v : Value) : Prop := ∀ w' : World, Ext w w' → s.run P w' = .ok v w'
variable {w : World} {X : Nat → Nat → Prop} {m : List MObj} {H : List Hd} {v0 v1 : Value} {av0 av1 av : AV}
theorem mkV_some {n : Nat} {ag : Bool} {l : List AV} (h : mkV n ag l = some av) : n ≤ l.length ∧ ((ag = true ∧ av = .agg (l.take n)) ∨ (ag = false ∧ n = 1 ∧ l[0]? = some av)) := by
 unfold mkV at h
 split at h
 ·cases h
 ·rename_i hn
  refine ⟨by omega, ?_⟩
  split at h
  ·rename_i hag; injection h with h; exact .inl ⟨hag, h.symm⟩
  ·rename_i hag
   split at h
   ·split at h
    ·rename_i h1; injection h with h; subst h; exact .inr ⟨by simpa using hag, h1, rfl⟩
    ·cases h
   ·cases h
theorem s_load {t : TypeId} {n : Nat} {ag : Bool} (hn : szOf P t = some (n + 1)) (hag : agOf P t = some ag) (hm : MemAt X w m H) (h0 : Rep (Stab X H w) w H v0 av0) (hp : (cellsAt m av0).bind (mkV (n + 1) ag) = some av) :
    ∃ v, Gives P w (Instr.loadAt t v0) v ∧ Rep (Stab X H w) w H v av := by
  simp only [Option.bind_eq_some_iff] at hp
  obtain ⟨l, hl, hk⟩ := hp
  obtain ⟨hle, hk⟩ := mkV_some hk
  obtain ⟨b, o, u, rfl, hb, hc⟩ := rep_cellsAt hm h0 hl (by omega)
  have hcs : ∀ w' : World, Ext w w' → ∀ (j : Nat) (v : Value), ((List.range (n + 1)).map u)[j]? = some v → w'.cell? ⟨b, o + j, none⟩ = some v := by
    intro w' hw' j v hv
    simp only [List.getElem?_map] at hv
    by_cases hj : j < n + 1
    · rw [List.getElem?_range hj] at hv
      simp only [Option.map_some, Option.some.injEq] at hv
      subst hv
      rw [hw'.cell hb]
      exact (hc j _ (List.getElem?_eq_getElem (by omega))).1
    · rw [List.getElem?_eq_none (by simp; omega)] at hv; cases hv
  refine ⟨if ag then .agg ((List.range (n + 1)).map u).toArray else ((List.range (n + 1)).map u).headD undef, fun w' hw' => ?_, ?_⟩
  · simp only [Instr.loadAt, Instr.sureAddr]
    simp only [Sem.run_bind, Sem.run_pure, Result.andThen_ok]
    exact run_loadVar hn hag b o _ (by simp) (fun h => by
      rcases hk with ⟨h', _⟩ | ⟨_, h', _⟩
      · rw [h] at h'; cases h'
      · exact h') (hcs w' hw')
  · rcases hk with ⟨h', rfl⟩ | ⟨h', h1, h2⟩
    · subst h'
      refine .agg (by simp; omega) fun i y hy => ?_
      have hlt := (List.getElem?_eq_some_iff.1 hy).1
      simp only [List.length_take] at hlt
      rw [List.getElem?_take, if_pos (by omega)] at hy
      have := (hc i y hy).2
      simp only [Array.getD_eq_getD_getElem?, List.getElem?_toArray, List.getElem?_map]
      rw [List.getElem?_range (by omega)]
      exact this
    · subst h'
      have hn0 : n = 0 := by omega
      subst hn0
      have := (hc 0 _ h2).2
      simpa using this
theorem rowOk_some {id ver used : Nat} (h : rowOk m id ver used = true) : ∃ s l wr ap, m[id]? = some (.row ver s l wr ap) ∧ l.length = used := by
 unfold rowOk at h
 split at h
 ·rename_i v s l wr ap hobj
  simp only [decide_eq_true_eq] at h
  obtain ⟨rfl, rfl⟩ := h
  exact ⟨s, l, wr, ap, hobj, rfl⟩
 ·cases h
theorem rep_elt {id ver used i fo : Nat} (hm : MemAt X w m H) (h0 : Rep (Stab X H w) w H v0 (.elt id ver used i fo)) (h : rowOk m id ver used = true) (k : Nat) :
    ∃ b o, v0 = .pointer (some ⟨b, o, none⟩) ∧ Rep (Stab X H w) w H (.pointer (some ⟨b, o + k, none⟩)) (.elt id ver used i (fo + k)) := by
  obtain ⟨s, l, wr, ap, hobj, hu⟩ := rowOk_some h
  cases h0 with
  | elt id ver used i fo hs hH hle hvv =>
    have hO := hm.obj _ _ _ hobj hH
    simp only [ObjAt] at hO
    obtain ⟨e1, e2, es, e3, _⟩ := hO
    obtain ⟨g1, rfl⟩ := hvv e1.symm (by omega)
    exact ⟨_, _, rfl, Rep.elt id ver used i (fo + k) ⟨_, rfl⟩ hH hle fun _ _ => ⟨g1, by rw [Nat.add_assoc]⟩⟩
theorem rep_rptr {l : List AV} (h0 : Rep (Stab X H w) w H v0 (.rptr l)) (k : Nat) : ∃ b o, v0 = .pointer (some ⟨b, o, none⟩) ∧ Rep (Stab X H w) w H (.pointer (some ⟨b, o + k, none⟩)) (.rptr (l.drop k)) := by
 cases h0 with
 | rptr b o u hg hcell hrep =>
  refine ⟨b, o, rfl, .rptr b (o + k) (fun j => u (k + j)) (fun j y hy => hg (k + j) y (by rwa [List.getElem?_drop] at hy)) (fun j y hy => ?_) (fun j y hy => hrep (k + j) y (by rwa [List.getElem?_drop] at hy))⟩
  rw [List.getElem?_drop] at hy
  have := hcell _ _ hy
  rwa [← Nat.add_assoc] at this
theorem s_faddr {s : TypeId} {fs : Array Field} {f k : Nat} {fd : Field} (hs : P.underlying s = some (.struct fs)) (hf : fs[f]? = some fd) (hz : szOf P fd.type = some (k + 1)) (hm : MemAt X w m H) (h0 : Rep (Stab X H w) w H v0 av0)
    (hp : faddrA m fd.offset av0 = some av) :
    ∃ v, Gives P w (Instr.fieldAt s v0 f) v ∧ Rep (Stab X H w) w H v av := by
  have run : ∀ b o, Gives P w (Instr.fieldAt s (.pointer (some ⟨b, o, none⟩)) f) (.pointer (some ⟨b, o + fd.offset, none⟩)) := by
    intro b o w' hw'
    simp [Instr.fieldAt, run_underlying hs, hf, Instr.sureAddr, fieldPlace, run_szOf hz, addr_add]
  cases av0 <;> simp only [faddrA, reduceCtorEq] at hp
  case ptr id o =>
    injection hp with hp; subst hp
    cases h0 with
    | ptr id off hH => exact ⟨_, run _ _, .ptr _ _ hH⟩
  case rptr l =>
    injection hp with hp; subst hp
    obtain ⟨b, o, rfl, hr⟩ := rep_rptr h0 fd.offset
    exact ⟨_, run _ _, hr⟩
  case elt id ver used i fo =>
    split at hp
    · rename_i hok
      injection hp with hp; subst hp
      obtain ⟨b, o, rfl, hr⟩ := rep_elt hm h0 hok fd.offset
      exact ⟨_, run _ _, hr⟩
    · cases hp
theorem rep_mkV {l : List AV} {off n : Nat} {ag : Bool} (h0 : Rep (Stab X H w) w H v0 (.agg l)) (hp : mkV n ag (l.drop off) = some av) :
    ∃ cs : Array Value, v0 = .agg cs ∧ off + n ≤ cs.size ∧ (ag = false → n = 1) ∧ Rep (Stab X H w) w H (if ag then .agg (cs.extract off (off + n)) else cs.getD off undef) av ∨ n = 0 := by
  obtain ⟨cs, rfl, hn, hc⟩ := rep_agg h0
  obtain ⟨hle, hk⟩ := mkV_some hp
  simp only [List.length_drop] at hle
  by_cases hz : n = 0
  · exact ⟨cs, .inr hz⟩
  refine ⟨cs, .inl ⟨rfl, by omega, fun h => ?_, ?_⟩⟩
  · rcases hk with ⟨h', _⟩ | ⟨_, h', _⟩
    · rw [h] at h'; cases h'
    · exact h'
  · rcases hk with ⟨h', rfl⟩ | ⟨h', h1, h2⟩
    · subst h'
      refine .agg (by simp; omega) fun i y hy => ?_
      have hlt := (List.getElem?_eq_some_iff.1 hy).1
      simp only [List.length_take, List.length_drop] at hlt
      rw [List.getElem?_take, if_pos (by omega), List.getElem?_drop] at hy
      have := hc _ _ hy
      have e : (cs.extract off (off + n)).getD i undef = cs.getD (off + i) undef := by
        simp only [Array.getD_eq_getD_getElem?, Array.getElem?_extract]
        rw [if_pos (by omega)]
      rw [e]; exact this
    · subst h'
      rw [List.getElem?_drop] at h2
      simpa using hc _ _ h2
theorem s_fld {s : TypeId} {fs : Array Field} {f n : Nat} {ag : Bool} {fd : Field} {l : List AV} (hs : P.underlying s = some (.struct fs)) (hf : fs[f]? = some fd) (hz : szOf P fd.type = some (n + 1)) (hag : agOf P fd.type = some ag) (h0 : Rep (Stab X H w) w H v0 (.agg l))
    (hp : mkV (n + 1) ag (l.drop fd.offset) = some av) : ∃ v, Gives P w (Instr.field s v0 f) v ∧ Rep (Stab X H w) w H v av := by
  obtain ⟨cs, ⟨rfl, h1, h2, h3⟩ | h⟩ := rep_mkV h0 hp
  · refine ⟨_, fun w' _ => ?_, h3⟩
    simp [Instr.field, run_underlying hs, hf, asAgg, run_part hz hag cs fd.offset h1 h2]
  · omega
theorem s_iaddr {t e : TypeId} {sz n : Nat} (ht : P.underlying t = some (.slice e)) (hz : szOf P e = some sz) (hm : MemAt X w m H) (h0 : Rep (Stab X H w) w H v0 av0) (h1 : Rep (Stab X H w) w H v1 av1) (hi : av1.toN = some n)
    (hp : iaddrA m sz n av0 = some av) : ∃ v, Gives P w (Instr.indexAt t v0 v1) v ∧ Rep (Stab X H w) w H v av := by
  obtain ⟨k, rfl⟩ := toN_some hi
  obtain rfl := rep_val h1
  have run : ∀ (b o len c : Nat), n < len → Gives P w (Instr.indexAt t (.slice (some ⟨b, o, none⟩) len c) (.int k (n : Int))) (.pointer (some ⟨b, o + n * sz, none⟩)) := by
    intro b o len c hlt w' _
    simp [Instr.indexAt, asIntOf, run_underlying ht, hlt, run_szOf hz, addr_add]
  cases av0 <;> simp only [iaddrA, reduceCtorEq] at hp
  case row id ver used off len =>
    split at hp
    · rename_i v s l wr ap hobj
      split at hp
      · rename_i hc
        obtain ⟨rfl, rfl, hlt, rfl⟩ := hc
        injection hp with hp; subst hp
        cases h0 with
        | row id ver used off len hs hH hle hvv =>
          have hO := hm.obj _ _ _ hobj hH
          simp only [ObjAt] at hO
          obtain ⟨e1, e2, rfl, e3, e4, e5, e6, e7⟩ := hO
          obtain ⟨g1, g2, A, rfl, g3, g4, g4n⟩ := hvv e1.symm (by omega)
          rename_i b cap cver cused wr'
          obtain rfl := g3 (by omega)
          refine ⟨_, run b (off * s) len _ hlt, Rep.elt id _ _ (off + n) 0 ⟨_, rfl⟩ hH hle fun _ _ => ⟨by omega, ?_⟩⟩
          rw [Nat.add_zero, Nat.add_mul]
      · cases hp
    · cases hp
  case slice s l =>
    split at hp
    · rename_i x hx
      split at hp
      · rename_i hxz
        subst hxz
        injection hp with hp; subst hp
        cases h0 with
        | slice b off _ u hc hz' hA hsz hcell hrep =>
          have hlt := (List.getElem?_eq_some_iff.1 hx).1
          obtain rfl := hA (by omega)
          refine ⟨_, run b off l.length _ hlt, .rptr b (off + n * s) (u n) (fun j y hy => ?_) (fun j y hy => hcell n x j y hx hy) fun j y hy => hrep n x j y hx hy⟩
          exact List.all_eq_true.1 (hsz _ _ hx).1 y (List.mem_of_getElem? hy)
      · cases hp
    · cases hp
end
end Go.Proofs.YtienfdjfochlcaaGreatDoor
end
section
namespace Go.Proofs.YtienfdjfochlcaaGreatDoor
set_option linter.unusedVariables false
set_option linter.unusedSimpArgs false
section
variable {P : Program} {w : World} {X : Nat → Nat → Prop} {m : List MObj} {H : List Hd} {v0 v1 : Value} {av0 av1 av : AV}
theorem s_aaddr0 {t e : TypeId} {cnt sz n : Nat} (ht : P.underlying t = some (.array cnt e)) (hz : szOf P e = some sz) (hm : MemAt X w m H) (h0 : Rep (Stab X H w) w H v0 av0) (h1 : Rep (Stab X H w) w H v1 av1) (hi : av1.toN = some n) (hlt : n < cnt)
    (hp : faddrA m (n * sz) av0 = some av) : ∃ v, Gives P w (Instr.indexAt t v0 v1) v ∧ Rep (Stab X H w) w H v av := by
  obtain ⟨k, rfl⟩ := toN_some hi
  obtain rfl := rep_val h1
  have run : ∀ (b o : Nat), Gives P w (Instr.indexAt t (.pointer (some ⟨b, o, none⟩)) (.int k (n : Int))) (.pointer (some ⟨b, o + n * sz, none⟩)) := by
    intro b o w' _
    simp [Instr.indexAt, asIntOf, run_underlying ht, hlt, run_szOf hz, addr_add, Instr.sureAddr]
  cases av0 <;> simp only [faddrA, reduceCtorEq] at hp
  case ptr id o =>
    injection hp with hp; subst hp
    cases h0 with
    | ptr id off hH => exact ⟨_, run _ _, .ptr _ _ hH⟩
  case rptr l =>
    injection hp with hp; subst hp
    obtain ⟨b, o, rfl, hr⟩ := rep_rptr h0 (n * sz)
    exact ⟨_, run _ _, hr⟩
  case elt id ver used i fo =>
    split at hp
    · rename_i hok
      injection hp with hp; subst hp
      obtain ⟨b, o, rfl, hr⟩ := rep_elt hm h0 hok (n * sz)
      exact ⟨_, run _ _, hr⟩
    · cases hp
theorem s_aaddr {t e : TypeId} {cnt sz n : Nat} (ht : P.underlying t = some (.array cnt e)) (hz : szOf P e = some sz) (hm : MemAt X w m H) (h0 : Rep (Stab X H w) w H v0 av0) (h1 : Rep (Stab X H w) w H v1 av1) (hi : av1.toN = some n) (hlt : n < cnt)
    (hp : pelA m cnt (n * sz) av0 = some av) : ∃ v, Gives P w (Instr.indexAt t v0 v1) v ∧ Rep (Stab X H w) w H v av := by
  unfold pelA at hp
  split at hp
  · split at hp
    · injection hp with hp; subst hp
      obtain ⟨k, rfl⟩ := toN_some hi
      obtain rfl := rep_val h1
      cases h0 with
      | ptr id off hH =>
        rename_i b nb
        refine ⟨_, fun w' _ => ?_, .pel _ _ _ hH rfl⟩
        simp [Instr.indexAt, asIntOf, run_underlying ht, hlt, run_szOf hz, addr_add, Instr.sureAddr]
    · exact s_aaddr0 ht hz hm h0 h1 hi hlt hp
  · exact s_aaddr0 ht hz hm h0 h1 hi hlt hp
theorem s_sidx {t : TypeId} {n : Nat} (ht : P.underlying t = some .string) (h0 : Rep (Stab X H w) w H v0 av0) (h1 : Rep (Stab X H w) w H v1 av1) (hi : av1.toN = some n) (hp : sidxA n av0 = some av) :
    ∃ v, Gives P w (Instr.index t v0 v1) v ∧ Rep (Stab X H w) w H v av := by
  obtain ⟨k, rfl⟩ := toN_some hi
  obtain rfl := rep_val h1
  unfold sidxA at hp
  split at hp
  · rename_i s
    obtain rfl := rep_val h0
    simp only [Option.map_eq_some_iff] at hp
    obtain ⟨b, hb, rfl⟩ := hp
    refine ⟨_, fun w' _ => ?_, .val _ _⟩
    simp [Instr.index, asIntOf, run_underlying ht, hb]
  · cases hp
theorem s_aidx {t e : TypeId} {cnt n sz : Nat} {ag : Bool} {l : List AV} (ht : P.underlying t = some (.array cnt e)) (hz : szOf P e = some (sz + 1)) (hag : agOf P e = some ag) (h0 : Rep (Stab X H w) w H v0 (.agg l)) (h1 : Rep (Stab X H w) w H v1 av1) (hi : av1.toN = some n) (hlt : n < cnt)
    (hp : mkV (sz + 1) ag (l.drop (n * (sz + 1))) = some av) : ∃ v, Gives P w (Instr.index t v0 v1) v ∧ Rep (Stab X H w) w H v av := by
  obtain ⟨k, rfl⟩ := toN_some hi
  obtain rfl := rep_val h1
  obtain ⟨cs, ⟨rfl, h1, h2, h3⟩ | h⟩ := rep_mkV h0 hp
  · refine ⟨_, fun w' _ => ?_, h3⟩
    simp [Instr.index, asIntOf, run_underlying ht, hlt, run_szOf hz, run_part hz hag cs _ h1 h2]
  · omega
theorem s_len {t ty e : TypeId} (ht : P.underlying t = some (.slice e)) (hm : MemAt X w m H) (h0 : Rep (Stab X H w) w H v0 av0) (hp : lenA m av0 = some av) :
    ∃ v, Gives P w (Builtin.len_ #[t] ty #[v0]) v ∧ Rep (Stab X H w) w H v av := by
  simp only [lenA, Option.map_eq_some_iff] at hp
  obtain ⟨l, hl, rfl⟩ := hp
  obtain ⟨A, c, b, off, sz, u, rfl, _⟩ := (rep_elems hm h0 hl).ex
  exact ⟨_, fun w' _ => by simp [Builtin.len_, run_underlying ht, goInt], .val _ _⟩
theorem s_slen {t ty : TypeId} (ht : P.underlying t = some .string) (h0 : Rep (Stab X H w) w H v0 av0) (hp : slenA av0 = some av) :
    ∃ v, Gives P w (Builtin.len_ #[t] ty #[v0]) v ∧ Rep (Stab X H w) w H v av := by
  unfold slenA at hp
  split at hp
  · rename_i s
    injection hp with hp; subst hp
    obtain rfl := rep_val h0
    exact ⟨_, fun w' _ => by simp [Builtin.len_, run_underlying ht, goInt], .val _ _⟩
  · cases hp
theorem run_low {a : Act} {fr : List (Nat × AV)} (hr : FrOk (Stab X H w) w H a fr) {lo : Option Operand} {n : Nat} (h : lowOf fr lo = some n) : (lo = none ∧ n = 0) ∨ ∃ x k, lo = some x ∧ a.eval x = .int k (n : Int) := by
 cases lo with
 | none => simp [lowOf] at h; exact .inl ⟨rfl, h.symm⟩
 | some x =>
  obtain ⟨k, hk⟩ := toN_some h
  have := rep_ev hr x
  rw [hk] at this
  exact .inr ⟨x, k, rfl, rep_val this⟩
theorem run_high {a : Act} {fr : List (Nat × AV)} (hr : FrOk (Stab X H w) w H a fr) {hi : Option Operand} {n len : Nat} (h : highOf fr len hi = some n) : (hi = none ∧ n = len) ∨ ∃ x k, hi = some x ∧ a.eval x = .int k (n : Int) := by
 cases hi with
 | none => simp [highOf] at h; exact .inl ⟨rfl, h.symm⟩
 | some x =>
  obtain ⟨k, hk⟩ := toN_some h
  have := rep_ev hr x
  rw [hk] at this
  exact .inr ⟨x, k, rfl, rep_val this⟩
theorem run_bounds {a : Act} {fr : List (Nat × AV)} (hr : FrOk (Stab X H w) w H a fr) {lo hi : Option Operand} {l h len cap : Nat} (hl : lowOf fr lo = some l) (hh : highOf fr len hi = some h) (h1 : l ≤ h) (h2 : h ≤ cap) (isS : Bool) (w' : World) :
    (Instr.sliceBounds isS len cap (lo.map a.eval) (hi.map a.eval) none).run P w' = .ok (l, h, cap) w' := by
  have e1 : (l : Int) ≤ (h : Int) := by omega
  have e2 : (h : Int) ≤ (cap : Int) := by omega
  rcases run_low hr hl with ⟨rfl, rfl⟩ | ⟨x, k, rfl, hx⟩ <;> rcases run_high hr hh with ⟨rfl, rfl⟩ | ⟨y, k', rfl, hy⟩ <;> simp [Instr.sliceBounds, Instr.sliceBound, asIntOf, *]
theorem s_sslc {a : Act} {fr : List (Nat × AV)} (hr : FrOk (Stab X H w) w H a fr) {lo hi : Option Operand} {t : TypeId} (ht : P.underlying t = some .string) (h0 : Rep (Stab X H w) w H v0 av0) (hp : sslcA fr lo hi av0 = some av) :
    ∃ v, Gives P w (Instr.sliceAt t v0 (lo.map a.eval) (hi.map a.eval) none) v ∧ Rep (Stab X H w) w H v av := by
  unfold sslcA at hp
  split at hp
  · rename_i s
    obtain rfl := rep_val h0
    split at hp
    · rename_i x y hx hy
      split at hp
      · rename_i hc
        injection hp with hp; subst hp
        refine ⟨_, fun w' _ => ?_, .val _ _⟩
        simp [Instr.sliceAt, Instr.slice, run_underlying ht, run_bounds hr hx hy hc.1 hc.2]
      · cases hp
    · cases hp
  · cases hp
theorem s_slc {a : Act} {fr : List (Nat × AV)} (hr : FrOk (Stab X H w) w H a fr) {lo hi : Option Operand} {t e : TypeId} {sz : Nat} (ht : P.underlying t = some (.slice e)) (hz : szOf P e = some sz) (hm : MemAt X w m H) (h0 : Rep (Stab X H w) w H v0 av0) (hp : slcA m fr sz lo hi av0 = some av) :
    ∃ v, Gives P w (Instr.sliceAt t v0 (lo.map a.eval) (hi.map a.eval) none) v ∧ Rep (Stab X H w) w H v av := by
  have run : ∀ (A : Option Addr) (len cap x y : Nat), lowOf fr lo = some x → highOf fr len hi = some y → x ≤ y → y ≤ cap → Gives P w (Instr.sliceAt t (.slice A len cap) (lo.map a.eval) (hi.map a.eval) none) (.slice (if cap = x then A else A.map (·.add (x * sz))) (y - x) (cap - x)) := by
    intro A len cap x y hx hy h1 h2 w' _
    simp [Instr.sliceAt, Instr.slice, run_underlying ht, run_bounds hr hx hy h1 h2, run_szOf hz]
  refine (Classical.em (av0 = .val (.slice none 0 0))).elim (fun hn => ?_) (fun hn => ?_)
  · subst hn
    simp only [slcA] at hp
    split at hp
    · rename_i x y hx hy
      split at hp
      · rename_i hc
        injection hp with hp; subst hp
        obtain rfl := rep_val h0
        obtain rfl : y = 0 := by omega
        obtain rfl : x = 0 := by omega
        exact ⟨_, run none 0 0 0 0 hx hy (Nat.le_refl _) (Nat.le_refl _), .val _ _⟩
      · cases hp
    · cases hp
  cases av0 <;> (try simp only [slcA, reduceCtorEq] at hp)
  case slice s l =>
    split at hp
    · rename_i x y hx hy
      split at hp
      · rename_i hc
        obtain ⟨hc1, hc2, rfl⟩ := hc
        injection hp with hp; subst hp
        cases h0 with
        | slice b off _ u hc' hz' hA hsz hcell hrep =>
          rename_i A c
          have hlen : ((l.take y).drop x).length = y - x := by simp; omega
          have hget : ∀ (i : Nat) (e : AV), ((l.take y).drop x)[i]? = some e → l[x + i]? = some e := by
            intro i e he
            rw [List.getElem?_drop, List.getElem?_take] at he
            split at he
            · exact he
            · cases he
          refine ⟨_, run A l.length c x y hx hy hc1 (by omega), ?_⟩
          rw [← hlen]
          refine .slice b (off + x * s) s (fun i j => u (x + i) j) (by omega) (fun h => ?_) (fun h => ?_) (fun i e he => hsz _ _ (hget i e he)) (fun i e j z he hj => ?_) (fun i e j z he hj => hrep _ _ _ _ (hget i e he) hj)
          · split at h
            · omega
            · have : A = none := by simpa using h
              have := hz' this; omega
          · rw [if_neg (by omega), hA (by omega)]
            simp [addr_add]
          · have := hcell _ _ _ _ (hget i e he) hj
            rw [show off + x * s + i * s + j = off + (x + i) * s + j from by rw [Nat.add_mul]; omega]
            exact this
      · cases hp
    · cases hp
  case row id ver used off len =>
    split at hp
    · rename_i v s l wr ap hobj
      split at hp
      · rename_i hv
        obtain ⟨rfl, hu, rfl⟩ := hv
        split at hp
        · rename_i x y hx hy
          split at hp
          · rename_i hc
            injection hp with hp; subst hp
            cases h0 with
            | row id ver used off len hs hH hle hvv =>
              have hO := hm.obj _ _ _ hobj hH
              simp only [ObjAt] at hO
              obtain ⟨e1, e2, rfl, e3, e4, e5, e6, e7⟩ := hO
              obtain ⟨g1, g2, A, rfl, g3, g4, g4n⟩ := hvv e1.symm (by omega)
              rename_i b cap cver cused wr'
              refine ⟨_, run A len (cap - off) x y hx hy hc.1 (by omega), .row id _ used (off + x) (y - x) ⟨_, _, _, rfl⟩ hH hle fun _ _ => ⟨by omega, by omega, _, by congr 1; omega, fun h => ?_, fun h => ?_, fun q1 q2 => ?_⟩⟩
              · rw [if_neg (by omega), g3 (by omega)]
                simp [addr_add, Nat.add_mul]
              · split at h
                · omega
                · have : A = none := by simpa using h
                  have := g4 this; omega
              · rw [g4n q1 q2]; simp
          · cases hp
        · cases hp
      · cases hp
    · cases hp
theorem s_ext {i : Nat} {l : List AV} (h0 : Rep (Stab X H w) w H v0 (.tuple l)) (hp : l[i]? = some av) : ∃ v, Gives P w (Instr.extract v0 i) v ∧ Rep (Stab X H w) w H v av := by
 obtain ⟨cs, rfl, hn, hc⟩ := rep_tuple h0
 have hlt := (List.getElem?_eq_some_iff.1 hp).1
 refine ⟨_, fun w' _ => ?_, hc _ _ hp⟩
 simp [Instr.extract, show i < cs.size from by omega]
end
end Go.Proofs.YtienfdjfochlcaaGreatDoor
end
section
namespace Go.Proofs.YtienfdjfochlcaaGreatDoor
set_option linter.unusedVariables false
set_option linter.unusedSimpArgs false
section
variable {P : Program} {w : World} {S : Nat → Nat → Prop} {H : List Hd}
theorem rep_one {v : Value} {y : AV} (h : Rep S w H v y) (hy : y.isCell = true) : v.oneCell' = true ∧ v.cells = #[v] ∧ y.cells = [y] := by
 cases h with
 | any => simp [AV.isCell] at hy
 | agg => simp [AV.isCell] at hy
 | tuple => simp [AV.isCell] at hy
 | val H v => cases v <;> simp [AV.isCell] at hy <;> simp [Value.oneCell', Value.cells, AV.cells]
 | row id ver used off len hs =>
  obtain ⟨A, n, c, rfl⟩ := hs
  simp [Value.oneCell', Value.cells, AV.cells]
 | elt id ver used i fo hs =>
  obtain ⟨q, rfl⟩ := hs
  simp [Value.oneCell', Value.cells, AV.cells]
 | _ => simp [Value.oneCell', Value.cells, AV.cells]
def RepL (S : Nat → Nat → Prop) (w : World) (H : List Hd) (cs : Array Value) (l : List AV) : Prop := cs.size = l.length ∧ ∀ (i : Nat) (y : AV), l[i]? = some y → Rep S w H (cs.getD i undef) y
theorem rep_cells {v : Value} {av : AV} (h : Rep S w H v av) (hc : av.cells.all AV.isCell = true) : RepL S w H v.cells av.cells ∧ ∀ u ∈ v.cells.toList, u.oneCell' = true := by
 by_cases ha : ∃ l, av = .agg l
 ·obtain ⟨l, rfl⟩ := ha
  obtain ⟨cs, rfl, hn, hcs⟩ := rep_agg h
  refine ⟨⟨hn, hcs⟩, fun u hu => ?_⟩
  obtain ⟨i, hi, rfl⟩ := List.mem_iff_getElem.1 hu
  simp only [Array.length_toList, Value.cells] at hi
  have hlt : i < l.length := by omega
  have hr := hcs i _ (List.getElem?_eq_getElem hlt)
  have := List.all_eq_true.1 hc l[i] (by simp [AV.cells])
  have h1 := (rep_one hr this).1
  simp only [Array.getD_eq_getD_getElem?, Array.getElem?_eq_getElem hi, Option.getD_some] at h1
  simpa [Value.cells] using h1
 ·have e : av.cells = [av] := by
   cases av <;> first | rfl | exact absurd ⟨_, rfl⟩ ha
  rw [e] at hc ⊢
  simp only [List.all_cons, List.all_nil, Bool.and_true] at hc
  obtain ⟨h1, h2, _⟩ := rep_one h hc
  rw [h2]
  refine ⟨⟨rfl, fun i y hy => ?_⟩, fun u hu => ?_⟩
  ·cases i with
   | zero => simp at hy; subst hy; simpa using h
   | succ i => simp at hy
  ·simp at hu; subst hu; exact h1
theorem setRun_get (vs : List Value) : ∀ (k off : Nat) (cells : Array Value), (((vs.zipIdx k).foldl (fun cs (x : Value × Nat) => cs.setIfInBounds (off + x.2) x.1) cells).size = cells.size) ∧
    ∀ i, off + k + vs.length ≤ cells.size → ((vs.zipIdx k).foldl (fun cs (x : Value × Nat) => cs.setIfInBounds (off + x.2) x.1) cells).getD i undef = if off + k ≤ i ∧ i < off + k + vs.length then vs.getD (i - (off + k)) undef else cells.getD i undef := by
  induction vs with
  | nil => intro k off cells; simp; intro i _ h1 h2; omega
  | cons v r ih =>
    intro k off cells
    simp only [List.zipIdx_cons, List.foldl_cons]
    obtain ⟨h1, h2⟩ := ih (k + 1) off (cells.setIfInBounds (off + k) v)
    refine ⟨by rw [h1]; simp, fun i hb => ?_⟩
    simp only [List.length_cons] at hb
    rw [h2 i (by simp; omega)]
    simp only [List.length_cons]
    by_cases hi : off + (k + 1) ≤ i ∧ i < off + (k + 1) + r.length
    · rw [if_pos hi, if_pos (by omega), show i - (off + k) = (i - (off + (k + 1))) + 1 from by omega]
      simp
    · rw [if_neg hi]
      by_cases he : i = off + k
      · subst he
        rw [if_pos (by omega)]
        simp [Array.getD_eq_getD_getElem?, show off + k < cells.size from by omega]
      · rw [if_neg (by omega)]
        simp only [Array.getD_eq_getD_getElem?]
        rw [Array.getElem?_setIfInBounds_ne (by omega)]
theorem fill_rep {a : Act} {fr : List (Nat × AV)} (hr : FrOk S w H a fr) (place : Nat → Option (Nat × Nat)) :
    ∀ (parts : List (Nat × Operand)) (pl : List (Nat × Nat × Operand)) (cells : Array Value) (l l' : List AV), partsOf P place parts = some pl → RepL S w H cells l → fillA fr l pl = some l' →
      ∃ cells', Instr.fill place cells (parts.map fun p => (p.1, a.eval p.2)) = some cells' ∧ RepL S w H cells' l' := by
  intro parts
  induction parts with
  | nil => intro pl cells l l' h1 h2 h3; simp [partsOf] at h1; subst h1; simp [fillA] at h3; subst h3; exact ⟨cells, rfl, h2⟩
  | cons p r ih =>
    intro pl cells l l' h1 h2 h3
    obtain ⟨i, x⟩ := p
    simp only [partsOf] at h1
    split at h1
    · rename_i o s pl' hp hpl
      injection h1 with h1; subst h1
      simp only [fillA] at h3
      split at h3
      · rename_i hc
        obtain ⟨c1, c2, c3⟩ := hc
        obtain ⟨⟨e1, e2⟩, _⟩ := rep_cells (rep_ev hr x) c3
        obtain ⟨g1, g2⟩ := setRun_get (a.eval x).cells.toList 0 o cells
        have hsz : (a.eval x).cells.toList.length = s := by simp [e1, c1]
        have hfold : (a.eval x).cells.zipIdx.foldl (fun cs (x : Value × Nat) => cs.setIfInBounds (o + x.2) x.1) cells = ((a.eval x).cells.toList.zipIdx 0).foldl (fun cs (x : Value × Nat) => cs.setIfInBounds (o + x.2) x.1) cells := by
          rw [← Array.foldl_toList, Array.toList_zipIdx]
        have hrep : RepL S w H ((a.eval x).cells.zipIdx.foldl (fun cs (x : Value × Nat) => cs.setIfInBounds (o + x.2) x.1) cells) (l.take o ++ (evA fr x).cells ++ l.drop (o + s)) := by
          rw [hfold]
          refine ⟨by rw [g1, h2.1]; simp; omega, fun j y hy => ?_⟩
          rw [g2 j (by rw [hsz, h2.1]; omega), hsz]
          rw [List.append_assoc, List.getElem?_append, List.length_take, Nat.min_eq_left (by omega)] at hy
          split at hy
          · rename_i hj
            rw [if_neg (by omega)]
            rw [List.getElem?_take, if_pos hj] at hy
            exact h2.2 _ _ hy
          · rename_i hj
            rw [List.getElem?_append, c1] at hy
            split at hy
            · rename_i hj2
              rw [if_pos (by omega)]
              have := e2 _ _ hy
              simpa using this
            · rename_i hj2
              rw [if_neg (by omega)]
              rw [List.getElem?_drop] at hy
              have := h2.2 _ _ hy
              rwa [show o + s + (j - o - s) = j from by omega] at this
        obtain ⟨cells', hf, hr'⟩ := ih pl' _ _ _ hpl hrep h3
        refine ⟨cells', ?_, hr'⟩
        simp only [List.map_cons, Instr.fill, hp]
        rw [if_neg (by have := e1; have := h2.1; simp at *; omega)]
        exact hf
      · cases h3
    · cases h1
theorem repL_vals (cs : Array Value) : RepL S w H cs (cs.toList.map .val) := by
 refine ⟨by simp, fun i y hy => ?_⟩
 simp only [List.getElem?_map, Array.getElem?_toList] at hy
 rcases hc : cs[i]? with _ | u
 ·rw [hc] at hy; cases hy
 ·rw [hc] at hy
  simp only [Option.map_some, Option.some.injEq] at hy
  subst hy
  rw [Array.getD_eq_getD_getElem?, hc]
  exact .val _ _
end
end Go.Proofs.YtienfdjfochlcaaGreatDoor
end
section
namespace Go.Proofs.YtienfdjfochlcaaGreatDoor
set_option linter.unusedVariables false
set_option linter.unusedSimpArgs false
section
variable {P : Program} {w : World} {X : Nat → Nat → Prop} {m : List MObj} {H : List Hd} {av : AV} {a : Act} {fr : List (Nat × AV)}
theorem s_build {t : TypeId} {parts : Array (Nat × Operand)} {z : Value} {pl : List (Nat × Nat × Operand)} {l : List AV} (hr : FrOk (Stab X H w) w H a fr) (hz : zeOf P t = some z)
    (place : Nat → Option (Nat × Nat)) (hb : ∀ c, Instr.fill place z.cells (parts.map fun (i, x) => (i, a.eval x)).toList = some c → P.built t (parts.map fun (i, x) => (i, a.eval x)).toList = some c)
    (hpl : partsOf P place parts.toList = some pl) (hf : fillA fr (z.cells.toList.map .val) pl = some l) : ∃ v, Gives P w (Instr.build t (parts.map fun (i, x) => (i, a.eval x))) v ∧ Rep (Stab X H w) w H v (.agg l) := by
  obtain ⟨cells, h1, h2⟩ := fill_rep (P := P) hr place parts.toList pl z.cells _ l hpl (repL_vals _) hf
  have h1' : Instr.fill place z.cells (parts.map fun (i, x) => (i, a.eval x)).toList = some cells := by
    rw [Array.toList_map]; exact h1
  exact ⟨_, fun w' _ => run_build w' t _ cells (hb _ h1'), .agg h2.1 h2.2⟩
theorem min_run {k : IntKind} : ∀ (ys : List Operand) (n r : Int), minI n (ys.map (evA fr)) = some r → (FrOk (Stab X H w) w H a fr) → ∀ w' : World, ((ys.map a.eval).foldlM Builtin.min2 (Value.int k n)).run P w' = .ok (.int k r) w'
 | [], n, r, h, _, w' => by simp [minI] at h; subst h; simp
 | y :: ys, n, r, h, hr, w' => by
  simp only [List.map_cons, minI] at h
  split at h
  ·rename_i k' b hy
   have := rep_ev hr y
   rw [hy] at this
   have e := rep_val this
   simp only [List.map_cons, List.foldlM_cons, e, Builtin.min2]
   simpa using min_run ys _ r h hr w'
  ·cases h
theorem max_run {k : IntKind} : ∀ (ys : List Operand) (n r : Int), maxI n (ys.map (evA fr)) = some r → (FrOk (Stab X H w) w H a fr) → ∀ w' : World, ((ys.map a.eval).foldlM Builtin.max2 (Value.int k n)).run P w' = .ok (.int k r) w'
 | [], n, r, h, _, w' => by simp [maxI] at h; subst h; simp
 | y :: ys, n, r, h, hr, w' => by
  simp only [List.map_cons, maxI] at h
  split at h
  ·rename_i k' b hy
   have := rep_ev hr y
   rw [hy] at this
   have e := rep_val this
   simp only [List.map_cons, List.foldlM_cons, e, Builtin.max2]
   simpa using max_run ys _ r h hr w'
  ·cases h
theorem bytesL_ints : ∀ {l : List AV} {s : List UInt8}, bytesL l = some s → ∃ ns : List Int, l = ns.map (fun n => .val (.int .u8 n)) ∧ s = ns.map fun n => UInt8.ofNat n.toNat
 | [], s, h => by simp [bytesL] at h; subst h; exact ⟨[], rfl, rfl⟩
 | x :: r, s, h => by
  unfold bytesL at h
  split at h
  ·rename_i e; cases e
  ·rename_i n r' e
   injection e with e1 e2
   subst e1 e2
   simp only [Option.map_eq_some_iff] at h
   obtain ⟨s', h1, rfl⟩ := h
   obtain ⟨ns, rfl, rfl⟩ := bytesL_ints h1
   exact ⟨n :: ns, rfl, rfl⟩
  ·cases h
theorem push_all : ∀ (ns : List Int) (b : ByteArray), ns.foldl (fun r n => r.push (UInt8.ofNat n.toNat)) b = ⟨(b.data.toList ++ ns.map fun n => UInt8.ofNat n.toNat).toArray⟩
 | [], b => by simp
 | n :: ns, b => by
  rw [List.foldl_cons, push_all ns]
  simp [ByteArray.push]
theorem s_b2s {s d e : TypeId} {v0 : Value} {av0 : AV} (hs : P.underlying s = some (.slice e)) (hd : P.underlying d = some .string) (he : u8Of P e = true) (hm : MemAt X w m H) (h0 : Rep (Stab X H w) w H v0 av0)
    (hp : ((elems m av0).bind fun l => (bytesL l).map fun s => AV.val (.string ⟨s.toArray⟩)) = some av) : ∃ v, Gives P w (convert s d v0) v ∧ Rep (Stab X H w) w H v av := by
  have he' : P.underlying e = some (.int .u8) := by
    unfold u8Of at he
    split at he
    · assumption
    · cases he
  simp only [Option.bind_eq_some_iff, Option.map_eq_some_iff] at hp
  obtain ⟨l, hl, bs, hb, rfl⟩ := hp
  obtain ⟨ns, rfl, rfl⟩ := bytesL_ints hb
  obtain ⟨A, c, b, off, sz, u, rfl, hc, hA0, hA, hsz, hcell⟩ := (rep_elems hm h0 hl).ex
  refine ⟨_, fun w' hw' => ?_, .val _ _⟩
  rw [run_convert_bytes_string w' s d e A _ c hs he' hd]
  rcases A with _ | ad
  · have : ns = [] := by
      cases ns with
      | nil => rfl
      | cons n r => have := hA (by simp); cases this
    subst this
    simp [Conv.bytesToString]; rfl
  · have hload : (loadCells ad (ns.map fun n => AV.val (.int .u8 n)).length).run P w' = .ok (ns.map (Value.int .u8)).toArray w' := by
      have hlen : (ns.map fun n => AV.val (.int .u8 n)).length = (ns.map (Value.int .u8)).length := by simp
      rw [hlen]
      refine run_loadCells_list w' ad _ fun j v hv => ?_
      simp only [List.getElem?_map, Option.map_eq_some_iff] at hv
      obtain ⟨n, hn, rfl⟩ := hv
      have hjlt := (List.getElem?_eq_some_iff.1 hn).1
      have hA' := hA (by simp; omega)
      injection hA' with hA'
      subst hA'
      have hx : (ns.map fun n => AV.val (.int .u8 n))[j]? = some (AV.val (.int .u8 n)) := by simp [hn]
      have h1 := (hsz j _ hx).2
      simp only [AV.cells, List.length_singleton] at h1
      subst h1
      obtain ⟨h2, h3, h4⟩ := hcell j _ 0 (.val (.int .u8 n)) hx rfl
      rw [addr_add, hw'.cell h3]
      have := rep_val h4
      rw [this] at h2
      simpa using h2
    rw [run_bytesToString w' ad _ c ns hload, push_all]
    simp
theorem run_equal_bool {t : TypeId} (ht : P.underlying t = some .bool) (b c : Bool) (w' : World) : (Op.equal t (.bool b) (.bool c)).run P w' = .ok (b == c) w' := by
 have : ∀ d : Nat, (Op.equalIn (d + 1) t (.bool b) (.bool c)).run P w' = .ok (b == c) w' := fun d => by simp [Op.equalIn, run_underlying ht]
 exact this 9999
theorem next_of {s : Sem Value} {v : Value} (h : Gives P w s v) : ∀ w' : World, Ext w w' → (do pure (Next.value (← s)) : Sem Next).run P w' = .ok (.value v) w' := fun w' hw' => by simp [h w' hw']
set_option maxHeartbeats 1000000 in
theorem pure_sound {hint : Bool} {o : Oper} {ao : AOp} (hm : MemAt X w m H) (hr : FrOk (Stab X H w) w H a fr) (hc : compOp P hint o.type o.op = some ao) (hp : pureOp m fr ao = some av) :
    ∃ v, (∀ w' : World, Ext w w' → (execOp a.eval o).run P w' = .ok (.value v) w') ∧ Rep (Stab X H w) w H v av := by
  obtain ⟨dst, op, type, pos, after, guard⟩ := o
  simp only at hc
  have E : ∀ x, Rep (Stab X H w) w H (a.eval x) (evA fr x) := rep_ev hr
  have fin : ∀ (s : Sem Value), (∃ v, Gives P w s v ∧ Rep (Stab X H w) w H v av) → (execOp a.eval ⟨dst, op, type, pos, after, guard⟩ = (do pure (Next.value (← s)))) → ∃ v, (∀ w' : World, Ext w w' → (execOp a.eval ⟨dst, op, type, pos, after, guard⟩).run P w' = .ok (.value v) w') ∧ Rep (Stab X H w) w H v av := by
    intro s ⟨v, h1, h2⟩ he
    rw [he]
    exact ⟨v, next_of h1, h2⟩
  have call1 : ∀ (s : Sem Value) (op' : Op), (∃ v, Gives P w s v ∧ Rep (Stab X H w) w H v av) → (∀ w' : World, (execOp a.eval ⟨dst, op', type, pos, after, guard⟩).run P w' = (do pure (Next.value (← s)) : Sem Next).run P w') → ∃ v, (∀ w' : World, Ext w w' → (execOp a.eval ⟨dst, op', type, pos, after, guard⟩).run P w' = .ok (.value v) w') ∧ Rep (Stab X H w) w H v av := by
    intro s op' ⟨v, h1, h2⟩ he
    exact ⟨v, fun w' hw' => by rw [he]; exact next_of h1 w' hw', h2⟩
  have pv : ∀ (s : Sem Value) (v : Value), av = .val v → (∀ w', s.run P w' = .ok v w') → ∃ v, Gives P w s v ∧ Rep (Stab X H w) w H v av := fun s v e h => ⟨v, fun w' _ => h w', by rw [e]; exact .val _ _⟩
  cases op <;> simp only [compOp, reduceCtorEq] at hc
  case move x =>
    injection hc with hc; subst hc
    simp only [pureOp, Option.some.injEq] at hp; subst hp
    exact ⟨_, fun w' _ => rfl, E x⟩
  case assign x =>
    split at hc
    · simp only [Option.map_eq_some_iff] at hc
      obtain ⟨_, _, rfl⟩ := hc
      simp [pureOp] at hp
    · simp only [Option.map_eq_some_iff] at hc
      obtain ⟨sz, _, rfl⟩ := hc
      simp only [pureOp, pure2, Option.some.injEq] at hp; subst hp
      exact ⟨_, fun w' _ => rfl, rep_nilsl sz⟩
    · injection hc with hc; subst hc
      simp only [pureOp, Option.some.injEq] at hp; subst hp
      exact ⟨_, fun w' _ => rfl, E _⟩
  case pick c x y =>
    injection hc with hc; subst hc
    simp only [pureOp] at hp
    split at hp
    · rename_i t hct
      injection hp with hp; subst hp
      have hcv := E c
      rw [hct] at hcv
      have := rep_val hcv
      refine ⟨if t then a.eval x else a.eval y, fun w' _ => ?_, ?_⟩
      · simp [execOp, this, asBool]
      · cases t
        · exact E y
        · exact E x
    · cases hp
  case binOp op t x y yt =>
    have bin : ∀ op, ao = .bin op x y → (∃ v, Gives P w (do eqGuard op t x y (a.eval x) (a.eval y); binOp op t (a.eval x) (a.eval y)) v ∧ Rep (Stab X H w) w H v av) := by
      intro op e
      subst e
      simp only [pureOp] at hp
      split at hp
      · rename_i u v hu hv
        simp only [Option.map_eq_some_iff] at hp
        obtain ⟨r, hb, rfl⟩ := hp
        rw [rep_toVal (E x) hu, rep_toVal (E y) hv]
        exact ⟨r, fun w' _ => run_binV hb t x y w', .val _ _⟩
      · cases hp
    have beqq : ∀ ne op, (op = if ne then BinOp.neq else BinOp.eql) → ao = .beq ne x y → P.underlying t = some .bool → (∃ v, Gives P w (do eqGuard op t x y (a.eval x) (a.eval y); binOp op t (a.eval x) (a.eval y)) v ∧ Rep (Stab X H w) w H v av) := by
      intro ne op e1 e ht
      subst e
      simp only [pureOp] at hp
      split at hp
      · rename_i b c hb hcc
        injection hp with hp; subst hp
        have h1 := E x; have h2 := E y
        rw [hb] at h1; rw [hcc] at h2
        rw [rep_val h1, rep_val h2]
        refine ⟨_, fun w' _ => ?_, .val _ _⟩
        subst e1
        cases ne <;> simp [eqGuard, binOp, run_equal_bool ht]
      · cases hp
    cases op <;> simp only at hc
    case eql =>
      split at hc
      · injection hc with hc
        exact fin _ (beqq false .eql rfl hc.symm (by assumption)) rfl
      · injection hc with hc; exact fin _ (bin .eql hc.symm) rfl
      · injection hc with hc; exact fin _ (bin .eql hc.symm) rfl
      · cases hc
    case neq =>
      split at hc
      · injection hc with hc
        exact fin _ (beqq true .neq rfl hc.symm (by assumption)) rfl
      · injection hc with hc; exact fin _ (bin .neq hc.symm) rfl
      · injection hc with hc; exact fin _ (bin .neq hc.symm) rfl
      · cases hc
    all_goals (injection hc with hc; exact fin _ (bin _ hc.symm) rfl)
  case unOp op t x =>
    injection hc with hc; subst hc
    refine fin (Op.unary op (a.eval x)) ?_ rfl
    simp only [pureOp] at hp
    have hx := E x
    split at hp
    · rename_i k n hv
      rw [hv] at hx
      rw [rep_val hx]
      split at hp
      · cases hp
      · simp only [Option.map_eq_some_iff] at hp
        obtain ⟨r, hb, rfl⟩ := hp
        exact pv _ r rfl fun w' => run_now hb w'
    · rename_i b hv
      rw [hv] at hx
      rw [rep_val hx]
      split at hp
      · injection hp with hp; exact pv _ _ hp.symm fun w' => rfl
      · cases hp
    · cases hp
  case convert s d x =>
    refine fin (convert s d (a.eval x)) ?_ rfl
    have hx := E x
    split at hc
    · rename_i k1 k2 h1 h2
      injection hc with hc; subst hc
      simp only [pureOp] at hp
      split at hp
      · rename_i k n hv
        rw [hv] at hx
        rw [rep_val hx]
        injection hp with hp
        exact pv _ _ hp.symm fun w' => by simp [convert, run_underlying h1, run_underlying h2, Conv.intToInt]
      · cases hp
    · rename_i h1 h2
      injection hc with hc; subst hc
      simp only [pureOp] at hp
      split at hp
      · rename_i s' hv
        rw [hv] at hx
        rw [rep_val hx]
        injection hp with hp
        exact pv _ _ hp.symm fun w' => by simp [convert, run_underlying h1, run_underlying h2]
      · cases hp
    · split at hc
      · injection hc with hc; subst hc; simp [pureOp] at hp
      · cases hc
    · rename_i e h1 h2
      split at hc
      · rename_i hu
        injection hc with hc; subst hc
        simp only [pureOp] at hp
        exact s_b2s h1 h2 hu hm hx hp
      · cases hc
    · cases hc
  case alloc t =>
    simp only [Option.map_eq_some_iff] at hc
    obtain ⟨z, _, rfl⟩ := hc
    simp [pureOp] at hp
  case load t x =>
    split at hc
    · rename_i n ag h1 h2
      injection hc with hc; subst hc
      exact fin _ (s_load h1 h2 hm (E x) hp) rfl
    · cases hc
  case store t x y =>
    split at hc
    · injection hc with hc; subst hc; simp [pureOp] at hp
    · cases hc
  case fieldAddr s x f =>
    split at hc
    · rename_i fs hs
      split at hc
      · rename_i fd hf
        split at hc
        · rename_i k hk
          injection hc with hc; subst hc
          exact fin _ (s_faddr hs hf hk hm (E x) hp) rfl
        · cases hc
      · cases hc
    · cases hc
  case field s x f =>
    split at hc
    · rename_i fs hs
      split at hc
      · rename_i fd hf
        split at hc
        · rename_i k ag hk hag
          injection hc with hc; subst hc
          simp only [pureOp] at hp
          split at hp
          · rename_i l hl
            have hx := E x
            rw [hl] at hx
            exact fin _ (s_fld hs hf hk hag hx hp) rfl
          · cases hp
        · cases hc
      · cases hc
    · cases hc
  case indexAddr t x i =>
    split at hc
    · rename_i e ht
      simp only [Option.map_eq_some_iff] at hc
      obtain ⟨sz, hz, rfl⟩ := hc
      simp only [pureOp] at hp
      split at hp
      · rename_i n hn
        exact fin _ (s_iaddr ht hz hm (E x) (E i) hn hp) rfl
      · cases hp
    · rename_i cnt e ht
      simp only [Option.map_eq_some_iff] at hc
      obtain ⟨sz, hz, rfl⟩ := hc
      simp only [pureOp] at hp
      split at hp
      · rename_i n hn
        split at hp
        · rename_i hlt
          exact fin _ (s_aaddr ht hz hm (E x) (E i) hn hlt hp) rfl
        · cases hp
      · cases hp
    · cases hc
  case index t x i =>
    split at hc
    · rename_i ht
      injection hc with hc; subst hc
      simp only [pureOp] at hp
      split at hp
      · rename_i n hn
        exact fin _ (s_sidx ht (E x) (E i) hn hp) rfl
      · cases hp
    · rename_i cnt e ht
      split at hc
      · rename_i sz ag hz hag
        injection hc with hc; subst hc
        simp only [pureOp] at hp
        split at hp
        · rename_i n l hn hl
          split at hp
          · rename_i hlt
            have hx := E x
            rw [hl] at hx
            exact fin _ (s_aidx ht hz hag hx (E i) hn hlt hp) rfl
          · cases hp
        · cases hp
      · cases hc
    · cases hc
  case slice t x lo hi mx =>
    cases mx with
    | some _ => simp [compOp] at hc
    | none =>
      simp only [compOp] at hc
      split at hc
      · rename_i ht
        injection hc with hc; subst hc
        exact fin _ (s_sslc hr ht (E x) hp) rfl
      · rename_i e ht
        simp only [Option.map_eq_some_iff] at hc
        obtain ⟨sz, hz, rfl⟩ := hc
        exact fin _ (s_slc hr ht hz hm (E x) hp) rfl
      · cases hc
  case build t parts =>
    refine fin _ ?_ rfl
    split at hc
    · rename_i fs z hu hz
      simp only [Option.bind_eq_some_iff, Option.map_eq_some_iff] at hc
      obtain ⟨places, hpl, pl, hpo, rfl⟩ := hc
      simp only [pureOp, Option.map_eq_some_iff] at hp
      obtain ⟨l, hl, rfl⟩ := hp
      unfold zeOf at hz
      simp only [Option.bind_eq_some_iff] at hz
      obtain ⟨it, hit, hzz⟩ := hz
      refine s_build hr (z := z) (by unfold zeOf; simp [hit, hzz]) (places.toArray[·]?) (fun c hcc => ?_) hpo hl
      unfold placesOf at hpl
      simp only [Program.built, hit, hu, hzz, hpl]
      exact hcc
    · rename_i n e z hu hz
      simp only [Option.bind_eq_some_iff, Option.map_eq_some_iff] at hc
      obtain ⟨sz, hsz, pl, hpo, rfl⟩ := hc
      simp only [pureOp, Option.map_eq_some_iff] at hp
      obtain ⟨l, hl, rfl⟩ := hp
      unfold zeOf at hz
      simp only [Option.bind_eq_some_iff] at hz
      obtain ⟨it, hit, hzz⟩ := hz
      unfold szOf at hsz
      simp only [Option.map_eq_some_iff] at hsz
      obtain ⟨ie, hie, rfl⟩ := hsz
      refine s_build hr (z := z) (by unfold zeOf; simp [hit, hzz]) (fun i => some (i * ie.size, ie.size)) (fun c hcc => ?_) hpo hl
      simp only [Program.built, hit, hu, hzz, hie]
      exact hcc
    · cases hc
  case buildSlice t len parts =>
    split at hc
    · split at hc
      · split at hc
        · injection hc with hc; subst hc; simp [pureOp] at hp
        · cases hc
      · cases hc
    · cases hc
  case makeSlice t l c =>
    split at hc
    · split at hc
      · split at hc
        · injection hc with hc; subst hc; simp [pureOp] at hp
        · cases hc
      · cases hc
    · cases hc
  case extract x i =>
    injection hc with hc; subst hc
    simp only [pureOp] at hp
    split at hp
    · rename_i l hl
      have hx := E x
      rw [hl] at hx
      exact fin _ (s_ext hx hp) rfl
    · cases hp
  case call c =>
    obtain ⟨callee, args, ts⟩ := c
    cases callee with
    | invoke r n => simp [compOp] at hc
    | value f =>
      cases f <;> simp only [compOp, reduceCtorEq] at hc
      split at hc
      · split at hc
        · injection hc with hc; subst hc; simp [pureOp] at hp
        · cases hc
      · cases hc
    | builtin b =>
      cases b <;> simp only [compOp, reduceCtorEq] at hc
      case len =>
        split at hc
        · rename_i x hargs hts
          injection hc with hc; subst hc
          simp only [Option.bind_eq_some_iff] at hts
          obtain ⟨t, ht, hu⟩ := hts
          have : args = #[x] := by rw [← Array.toList_inj]; simpa using hargs
          subst this
          refine call1 _ _ (s_slen (ty := type) hu (E x) hp) ?_
          intro w'
          simp [execOp, resolve, invoke, builtin, Builtin.len_, ht]
        · rename_i x e hargs hts
          injection hc with hc; subst hc
          simp only [Option.bind_eq_some_iff] at hts
          obtain ⟨t, ht, hu⟩ := hts
          have : args = #[x] := by rw [← Array.toList_inj]; simpa using hargs
          subst this
          refine call1 _ _ (s_len (ty := type) hu hm (E x) hp) ?_
          intro w'
          simp [execOp, resolve, invoke, builtin, Builtin.len_, ht]
        · cases hc
      case min =>
        split at hc
        · rename_i x ys hargs
          injection hc with hc; subst hc
          simp only [pureOp] at hp
          split at hp
          · rename_i k n hv
            simp only [Option.map_eq_some_iff] at hp
            obtain ⟨r, hr1, rfl⟩ := hp
            have hx := E x
            rw [hv] at hx
            refine ⟨.int k r, fun w' _ => ?_, .val _ _⟩
            have := min_run (P := P) (k := k) ys n r hr1 hr w'
            simp [execOp, resolve, invoke, builtin, Builtin.min_, hargs, rep_val hx, this]
          · cases hp
        · cases hc
      case max =>
        split at hc
        · rename_i x ys hargs
          injection hc with hc; subst hc
          simp only [pureOp] at hp
          split at hp
          · rename_i k n hv
            simp only [Option.map_eq_some_iff] at hp
            obtain ⟨r, hr1, rfl⟩ := hp
            have hx := E x
            rw [hv] at hx
            refine ⟨.int k r, fun w' _ => ?_, .val _ _⟩
            have := max_run (P := P) (k := k) ys n r hr1 hr w'
            simp [execOp, resolve, invoke, builtin, Builtin.max_, hargs, rep_val hx, this]
          · cases hp
        · cases hc
      case append =>
        split at hc
        · split at hc
          · split at hc
            · split at hc
              · split at hc
                · injection hc with hc; subst hc; simp [pureOp] at hp
                · cases hc
              · cases hc
            · cases hc
          · cases hc
        · cases hc
end
end Go.Proofs.YtienfdjfochlcaaGreatDoor
end
section
namespace Go.Proofs.YtienfdjfochlcaaGreatDoor
set_option linter.unusedVariables false
set_option linter.unusedSimpArgs false
theorem look_setf (d : Nat) (v : AV) (s : Nat) : ∀ fr : List (Nat × AV), look (setf d v fr) s = if d = s then v else look fr s
 | [] => by simp [setf, look]
 | (k, u) :: r => by
  simp only [setf]
  split
  ·rename_i hk
   subst hk
   simp only [look]
   split <;> rfl
  ·rename_i hk
   simp only [look]
   split
   ·rename_i hks
    rw [if_neg (by intro h; apply hk; rw [hks, h])]
   ·exact look_setf d v s r
structure Goes (X : Nat → Nat → Prop) (w : World) (H : List Hd) (w' : World) (H' : List Hd) : Prop where
 le : HLe H H'
 stab : ∀ b o, Stab X H w b o → Stab X H' w' b o ∧ w'.cell? ⟨b, o, none⟩ = w.cell? ⟨b, o, none⟩
theorem Goes.trans {X : Nat → Nat → Prop} {w w' w'' : World} {H H' H'' : List Hd} (h : Goes X w H w' H') (h' : Goes X w' H' w'' H'') : Goes X w H w'' H'' :=
 ⟨h.le.trans h'.le, fun b o q => by
  obtain ⟨q1, q2⟩ := h.stab b o q
  obtain ⟨q3, q4⟩ := h'.stab b o q1
  exact ⟨q3, q4.trans q2⟩⟩
structure Base where
 o : World
 w : World
 H : List Hd
structure SR (X : Nat → Nat → Prop) (w0 : Base) (N : Nat) (st : St) (a : Act) (w : World) (H : List Hd) : Prop where
 dfr : a.defers = []
 siz : a.tmps.size = N
 frm : FrOk (Stab X H w) w H a st.fr
 mem : MemAt X w st.m H
 grw : Fr (fun _ => False) w0.o w
 new : ∀ (i : Nat) (h : Hd) (b : Nat), H[i]? = some h → h.blk = some b → w0.o.heap.size ≤ b
 old : ∀ b o, X b o → b < w0.o.heap.size
 since : Goes X w0.w w0.H w H
section
variable {X : Nat → Nat → Prop} {w0 : Base} {w w' : World} {N : Nat} {st : St} {a : Act} {H H' : List Hd}
theorem Goes.rep (h : Goes X w H w' H') {v : Value} {av : AV} (hr : Rep (Stab X H w) w H v av) : Rep (Stab X H' w') w' H' v av := hr.mono h.stab h.le
theorem Goes.rep0 (h : Goes X w H w' H') {v : Value} {av : AV} (hr : Rep (Stab X H w) w [] v av) : Rep (Stab X H' w') w' [] v av := hr.mono h.stab (HLe.refl _)
theorem ObjAt.goes (hg : Goes X w H w' H') {o : MObj} {h : Hd} (hb : ∀ b, h.blk = some b → w'.heap[b]? = w.heap[b]?) (ho : ObjAt (Stab X H w) w H o h) : ObjAt (Stab X H' w') w' H' o h := by
 cases o <;> cases h <;> simp only [ObjAt] at ho ⊢
 ·obtain ⟨e, cs, h1, h2, h3, h4⟩ := ho
  exact ⟨e, cs, (hb _ rfl).trans h1, h2, fun i y hy => hg.rep (h3 i y hy), h4⟩
 ·obtain ⟨e1, e2, e3, e4, e5, h1, h2⟩ := ho
  refine ⟨e1, e2, e3, e4, e5, fun hc => ?_, h2⟩
  obtain ⟨cur, t, fz, g1, g2, g3, g4, g5⟩ := h1 hc
  exact ⟨cur, t, fz, (hb _ (by simp [Hd.blk, hc])).trans g1, g2, g3, g4, fun i x j y hx hy => hg.rep0 (g5 i x j y hx hy)⟩
 ·obtain ⟨ens, cl, h1, h2, h3⟩ := ho
  refine ⟨ens, cl, (hb _ rfl).trans h1, h2, fun i k y hy => ?_⟩
  obtain ⟨e, g1, g2, g3, g4, g5⟩ := h3 i k y hy
  exact ⟨e, g1, g2, g3, g4, hg.rep0 g5⟩
 ·exact (hb _ rfl).trans ho
theorem Act.put_getD (a : Act) (d : Option Nat) (v : Value) (hd : ∀ k, d = some k → k < a.tmps.size) (s : Nat) : (a.put d v).tmps.getD s undef = match d with | some k => if k = s then v else a.tmps.getD s undef | none => a.tmps.getD s undef := by
 cases d with
 | none => rfl
 | some k =>
  have hk := hd k rfl
  simp only [Act.put, Array.getD_eq_getD_getElem?]
  by_cases h : k = s
  ·subst h; simp [hk]
  ·rw [if_neg h, Array.getElem?_setIfInBounds_ne h]
theorem rep_put {S : Nat → Nat → Prop} {fr : List (Nat × AV)} {d : Option Nat} {v : Value} {av : AV} (hd : ∀ k, d = some k → k < a.tmps.size) (h : FrOk S w H a fr) (hv : Rep S w H v av) :
    FrOk S w H (a.put d v) (putf d av fr) := by
  refine ⟨?_, h.g⟩
  intro s
  rw [Act.put_getD a d v hd s]
  cases d with
  | none => exact h.t s
  | some k =>
    simp only [putf, look_setf]
    split
    · exact hv
    · exact h.t s
theorem put_defers (a : Act) (d : Option Nat) (v : Value) : (a.put d v).defers = a.defers := by cases d <;> rfl
theorem put_size (a : Act) (d : Option Nat) (v : Value) : (a.put d v).tmps.size = a.tmps.size := by cases d <;> simp [Act.put]
theorem Goes.fok (h : Goes X w H w' H') {fr : List (Nat × AV)} (hf : FrOk (Stab X H w) w H a fr) : FrOk (Stab X H' w') w' H' a fr := ⟨fun s => h.rep (hf.t s), ⟨fun g l e => ⟨h.rep (hf.g g l e).1, fun o ho => ⟨(h.stab g o ((hf.g g l e).2 o ho).1).1, (h.stab g o ((hf.g g l e).2 o ho).1).2.trans ((hf.g g l e).2 o ho).2⟩⟩, fun g e => by
 obtain ⟨m, h1, h2⟩ := hf.g.i g e
 exact ⟨m, (h.stab g 0 h2).2.trans h1, (h.stab g 0 h2).1⟩⟩⟩
theorem SR.go {m' : List MObj} {d : Option Nat} {v : Value} {av : AV} (h : SR X w0 N st a w H) (hd : ∀ k, d = some k → k < N) (hg : Goes X w H w' H') (hm : MemAt X w' m' H') (hf : Fr (fun _ => False) w0.o w') (hn : ∀ (i : Nat) (h : Hd) (b : Nat), H'[i]? = some h → h.blk = some b → w0.o.heap.size ≤ b)
    (hv : Rep (Stab X H' w') w' H' v av) : SR X w0 N ⟨putf d av st.fr, m'⟩ (a.put d v) w' H' where
  dfr := by rw [put_defers]; exact h.dfr
  siz := by rw [put_size]; exact h.siz
  frm := rep_put (fun k hk => by rw [h.siz]; exact hd k hk) (hg.fok h.frm) hv
  mem := hm
  grw := hf
  new := hn
  old := h.old
  since := h.since.trans hg
theorem Goes.refl : Goes X w H w H := ⟨HLe.refl _, fun _ _ h => ⟨h, rfl⟩⟩
theorem SR.pure {d : Option Nat} {v : Value} {av : AV} (h : SR X w0 N st a w H) (hd : ∀ k, d = some k → k < N) (hv : Rep (Stab X H w) w H v av) : SR X w0 N ⟨putf d av st.fr, st.m⟩ (a.put d v) w H := h.go hd Goes.refl h.mem h.grw h.new hv
theorem goes_ext (he : Ext w w') (hs : w.heap.size ≤ w'.heap.size) : Goes X w H w' H := ⟨HLe.refl _, fun b o ⟨h1, h2, h3⟩ => ⟨⟨by omega, h2, h3⟩, he.cell h1 o⟩⟩
theorem MemAt.ext {m : List MObj} (hm : MemAt X w m H) (he : Ext w w') (hs : w.heap.size ≤ w'.heap.size) : MemAt X w' m H where
 len := hm.len
 obj := fun i o h ho hh => (hm.obj i o h ho hh).goes (goes_ext he hs) fun b hb => he b (hm.lt i h b hh hb)
 lt := fun i h b hh hb => Nat.lt_of_lt_of_le (hm.lt i h b hh hb) hs
 apart := hm.apart
theorem goes_new {h : Hd} (he : Ext w w') (hs : w.heap.size ≤ w'.heap.size) (hb : ∀ b, h.blk = some b → w.heap.size ≤ b) : Goes X w H w' (H ++ [h]) :=
 ⟨HLe.append _ _, fun b o ⟨h1, h2, h3⟩ => ⟨⟨by omega, h2, fun ⟨i, k, hk, hmut⟩ => by
  rw [List.getElem?_append] at hk
  split at hk
  ·exact h3 ⟨i, k, hk, hmut⟩
  ·have : k = h := by
    rcases Nat.lt_or_ge (i - H.length) 1 with h0 | h0
    ·rw [show i - H.length = 0 from by omega] at hk; simpa using hk.symm
    ·rw [List.getElem?_eq_none (by simpa using h0)] at hk; cases hk
   subst this
   have := hb b (Hd.mut_blk hmut)
   omega⟩, he.cell h1 o⟩⟩
theorem getElem?_snoc {α : Type} {l : List α} {x y : α} {i : Nat} (h : (l ++ [x])[i]? = some y) : l[i]? = some y ∧ i < l.length ∨ i = l.length ∧ y = x := by
 rw [List.getElem?_append] at h
 split at h
 ·rename_i hi; exact .inl ⟨h, hi⟩
 ·right
  rcases Nat.lt_or_ge (i - l.length) 1 with h0 | h0
  ·rw [show i - l.length = 0 from by omega] at h
   simp only [List.getElem?_cons_zero, Option.some.injEq] at h
   exact ⟨by omega, h.symm⟩
  ·rw [List.getElem?_eq_none (by simpa using h0)] at h; cases h
theorem MemAt.new {m : List MObj} {h : Hd} {o : MObj} (hm : MemAt X w m H) (he : Ext w w') (hs : w.heap.size ≤ w'.heap.size) (hb : ∀ b, h.blk = some b → w.heap.size ≤ b ∧ b < w'.heap.size)
    (ho : ObjAt (Stab X (H ++ [h]) w') w' (H ++ [h]) o h) : MemAt X w' (m ++ [o]) (H ++ [h]) where
  len := by simp [hm.len]
  obj := fun i o' h' ho' hh' => by
    rcases getElem?_snoc hh' with ⟨h1, h2⟩ | ⟨h1, h2⟩
    · rcases getElem?_snoc ho' with ⟨g1, g2⟩ | ⟨g1, g2⟩
      · exact (hm.obj i o' h' g1 h1).goes (goes_new he hs fun b q => (hb b q).1) fun b hb' => he b (hm.lt i h' b h1 hb')
      · have := hm.len; omega
    · rcases getElem?_snoc ho' with ⟨g1, g2⟩ | ⟨g1, g2⟩
      · have := hm.len; omega
      · subst h2 g2; exact ho
  lt := fun i h' b hh' hb' => by
    rcases getElem?_snoc hh' with ⟨h1, h2⟩ | ⟨h1, h2⟩
    · exact Nat.lt_of_lt_of_le (hm.lt i h' b h1 hb') hs
    · subst h2; exact (hb b hb').2
  apart := fun i j h' k b hi hj hb1 hb2 => by
    rcases getElem?_snoc hi with ⟨h1, h2⟩ | ⟨h1, h2⟩ <;> rcases getElem?_snoc hj with ⟨g1, g2⟩ | ⟨g1, g2⟩
    · exact hm.apart i j h' k b h1 g1 hb1 hb2
    · subst g2
      have := hm.lt i h' b h1 hb1
      have := (hb b hb2).1
      omega
    · subst h2
      have := hm.lt j k b g1 hb2
      have := (hb b hb1).1
      omega
    · omega
theorem ext_alloc (w : World) (o : Obj) : Ext w (w.alloc o) := fun k hk => (MapKept.heap_alloc w o).2 k hk
theorem SR.size (h : SR X w0 N st a w H) : w0.o.heap.size ≤ w.heap.size := h.grw.size
theorem SR.newObj {o : MObj} {h : Hd} {d : Option Nat} {v : Value} {av : AV} (hs : SR X w0 N st a w H) (hd : ∀ k, d = some k → k < N) (he : Ext w w') (hle : w.heap.size ≤ w'.heap.size) (hf : Fr (fun _ => False) w w')
    (hb : ∀ b, h.blk = some b → w.heap.size ≤ b ∧ b < w'.heap.size) (ho : ObjAt (Stab X (H ++ [h]) w') w' (H ++ [h]) o h) (hv : Rep (Stab X (H ++ [h]) w') w' (H ++ [h]) v av) :
    SR X w0 N ⟨putf d av st.fr, st.m ++ [o]⟩ (a.put d v) w' (H ++ [h]) := by
  refine hs.go hd (goes_new he hle fun b q => (hb b q).1) (hs.mem.new he hle hb ho) (hs.grw.trans hf fun _ q => q.elim) (fun i h' b hh hb' => ?_) hv
  rcases getElem?_snoc hh with ⟨h1, h2⟩ | ⟨h1, h2⟩
  · exact hs.new i h' b h1 hb'
  · subst h2
    have := (hb b hb').1
    have := hs.size
    omega
theorem snoc_last {α : Type} (l : List α) (x : α) : (l ++ [x])[l.length]? = some x := by simp
end
end Go.Proofs.YtienfdjfochlcaaGreatDoor
end
section
namespace Go.Proofs.YtienfdjfochlcaaGreatDoor
set_option linter.unusedVariables false
set_option linter.unusedSimpArgs false
section
variable {P : Program} {X : Nat → Nat → Prop} {w0 : Base} {w w' : World} {N : Nat} {st : St} {a : Act} {m : List MObj} {H H' : List Hd} {v : Value} {y y' : AV}
theorem frzCell_rep {S' : Nat → Nat → Prop} (hm : MemAt X w m H) (h : Rep (Stab X H w) w H v y) (hf : frzCell m y = some y') (hS : ∀ b o, Stab X H w b o → S' b o)
    (hR : ∀ id ver used off len, y = .row id ver used off len → ∀ b cap sz cver cused wr, H[id]? = some (.row b cap sz cver cused wr) → 0 < cap → b < w.heap.size → ∀ o, o < cused * sz → S' b o) : Rep S' w [] v y' ∧ y'.grCell = true := by
  have mono : ∀ {v y}, Rep (Stab X H w) w [] v y → Rep S' w [] v y := fun h => h.mono (fun b o q => ⟨hS b o q, rfl⟩) (HLe.refl _)
  by_cases hrow : ∃ id ver used off len, y = .row id ver used off len
  · obtain ⟨id, ver, used, off, len, rfl⟩ := hrow
    simp only [frzCell] at hf
    split at hf
    · rename_i v' s l wr ap hobj
      split at hf
      · rename_i hv
        obtain ⟨rfl, hu⟩ := hv
        injection hf with hf; subst hf
        cases h with
        | row id ver used off len hs hH hle hvv =>
          rename_i b cap sz cver cused wr'
          have hO := hm.obj _ _ _ hobj hH
          simp only [ObjAt] at hO
          obtain ⟨e1, e2, rfl, e3, e4, e5, e6, e7⟩ := hO
          obtain ⟨g1, g2, A, rfl, g3, g4, g4n⟩ := hvv e1.symm (by omega)
          have hll : ((l.drop off).take len).length = len := by simp; omega
          have hget : ∀ (i : Nat) (x : AV), ((l.drop off).take len)[i]? = some x → l[off + i]? = some x ∧ i < len := by
            intro i x hx
            have hlt : i < len := by have := (List.getElem?_eq_some_iff.1 hx).1; omega
            rw [List.getElem?_take, if_pos hlt, List.getElem?_drop] at hx
            exact ⟨hx, hlt⟩
          have key : ∀ (i : Nat) (x : AV) (j : Nat) (z : AV), ((l.drop off).take len)[i]? = some x → x.cells[j]? = some z → ∃ u, w.cell? ⟨b, off * s + i * s + j, none⟩ = some u ∧ S' b (off * s + i * s + j) ∧ Rep S' w [] u z := by
            intro i x j z hx hz
            obtain ⟨hx', hlt⟩ := hget i x hx
            obtain ⟨cur, t, fz, hh, _, _, hsz, hrep⟩ := e5 (by omega)
            have hjl := (List.getElem?_eq_some_iff.1 hz).1
            have hj : j < s := by have := (e6 _ _ hx').2; omega
            have hlt2 : (off + i) * s + j < cur.size := Nat.lt_of_lt_of_le (mul_lt_of (by omega) hj) hsz
            have hlt3 : (off + i) * s + j < cused * s := mul_lt_of (by omega) hj
            have hbl := hm.lt _ _ b hH (by simp [Hd.blk]; omega)
            refine ⟨_, ?_, ?_, mono (hrep _ _ _ _ hx' hz)⟩
            · rw [← Nat.add_mul]; exact cell_getD hh hlt2
            · rw [← Nat.add_mul]; exact hR _ _ _ _ _ rfl _ _ _ _ _ _ hH (by omega) hbl _ hlt3
          refine ⟨?_, rfl⟩
          have := Rep.slice (S := S') (w := w) (H := []) (A := A) (c := cap - off) (l := (l.drop off).take len) b (off * s) s (fun i j => (w.cell? ⟨b, off * s + i * s + j, none⟩).getD undef) (by omega) g4 (fun h => g3 (by omega)) (fun i x hx => e6 _ _ (hget i x hx).1)
            (fun i x j z hx hz => by obtain ⟨u, h1, h2, _⟩ := key i x j z hx hz; rw [h1]; exact ⟨rfl, h2⟩) (fun i x j z hx hz => by obtain ⟨u, h1, _, h3⟩ := key i x j z hx hz; rw [h1]; exact h3)
          rw [hll] at this
          exact this
      · cases hf
    · cases hf
  · have : y.grCell = true ∧ y' = y := by
      cases y <;> simp [frzCell, AV.grCell] at hf <;> try (exact absurd ⟨_, _, _, _, _, rfl⟩ hrow)
      · rename_i u
        have : (AV.val u).grCell = true := by
          cases u <;> simp at hf <;> rfl
        refine ⟨this, ?_⟩
        cases u <;> simp at hf <;> exact hf.symm
      all_goals exact ⟨rfl, hf.symm⟩
    obtain ⟨hg, rfl⟩ := this
    exact ⟨mono (h.gr hg []), hg⟩
theorem frzCells_get : ∀ {l l' : List AV}, frzCells m l = some l' → l'.length = l.length ∧ ∀ (i : Nat) (y' : AV), l'[i]? = some y' → ∃ y, l[i]? = some y ∧ frzCell m y = some y'
 | [], l', h => by simp [frzCells] at h; subst h; simp
 | x :: r, l', h => by
  simp only [frzCells] at h
  split at h
  ·rename_i a b ha hb
   injection h with h; subst h
   obtain ⟨h1, h2⟩ := frzCells_get hb
   refine ⟨by simp [h1], fun i y' hy => ?_⟩
   cases i with
   | zero => simp at hy; subst hy; exact ⟨x, rfl, ha⟩
   | succ i => simp at hy ⊢; exact h2 i y' hy
  ·cases h
theorem frz_rep {S' : Nat → Nat → Prop} (hm : MemAt X w m H) (h : Rep (Stab X H w) w H v y) (hf : frz m y = some y') (hS : ∀ b o, Stab X H w b o → S' b o)
    (hR : ∀ z ∈ y.cells, ∀ id ver used off len, z = .row id ver used off len → ∀ b cap sz cver cused wr, H[id]? = some (.row b cap sz cver cused wr) → 0 < cap → b < w.heap.size → ∀ o, o < cused * sz → S' b o) : Rep S' w [] v y' ∧ y'.ground = true := by
  by_cases ha : ∃ l, y = .agg l
  · obtain ⟨l, rfl⟩ := ha
    simp only [frz, Option.map_eq_some_iff] at hf
    obtain ⟨l', hl, rfl⟩ := hf
    obtain ⟨h1, h2⟩ := frzCells_get hl
    obtain ⟨cs, rfl, hn, hc⟩ := rep_agg h
    have key : ∀ (i : Nat) (z : AV), l'[i]? = some z → Rep S' w [] (cs.getD i undef) z ∧ z.grCell = true := by
      intro i z hz
      obtain ⟨x, hx, hfx⟩ := h2 i z hz
      exact frzCell_rep hm (hc i x hx) hfx hS (hR x (List.mem_of_getElem? hx))
    refine ⟨.agg (by omega) fun i z hz => (key i z hz).1, ?_⟩
    unfold AV.ground
    rw [List.all_eq_true]
    intro z hz
    obtain ⟨i, hi⟩ := List.mem_iff_getElem?.1 hz
    exact (key i z hi).2
  · have e1 : frz m y = frzCell m y := by cases y <;> first | rfl | exact absurd ⟨_, rfl⟩ ha
    have e2 : y.cells = [y] := by cases y <;> first | rfl | exact absurd ⟨_, rfl⟩ ha
    rw [e1] at hf
    rw [e2] at hR
    obtain ⟨h1, h2⟩ := frzCell_rep hm h hf hS (hR y (by simp))
    refine ⟨h1, ?_⟩
    have e3 : y'.cells = [y'] := by cases y' <;> first | rfl | simp [AV.grCell] at h2
    unfold AV.ground
    rw [e3]; simp [h2]
def Shuts (H H1 : List Hd) : Prop := H1.length = H.length ∧ ∀ (i : Nat) (h1 : Hd), H1[i]? = some h1 → ∃ h, H[i]? = some h ∧ (h1 = h ∨ ∃ b cap sz ver used wr, h = .row b cap sz ver used wr ∧ h1 = .row b cap sz ver used false)
def IsShut (H : List Hd) (id : Nat) : Prop := ∀ b cap sz ver used wr, H[id]? = some (.row b cap sz ver used wr) → wr = false
theorem Shuts.refl (H : List Hd) : Shuts H H := ⟨rfl, fun _ h hh => ⟨h, hh, .inl rfl⟩⟩
theorem Shuts.trans {H1 H2 : List Hd} (h : Shuts H H1) (h' : Shuts H1 H2) : Shuts H H2 := by
 refine ⟨h'.1.trans h.1, fun i k hk => ?_⟩
 obtain ⟨k1, hk1, e⟩ := h'.2 i k hk
 obtain ⟨k0, hk0, e0⟩ := h.2 i k1 hk1
 refine ⟨k0, hk0, ?_⟩
 rcases e with rfl | ⟨b, cap, sz, ver, used, wr, rfl, rfl⟩
 ·exact e0
 ·rcases e0 with e0 | ⟨b', cap', sz', ver', used', wr', rfl, e0⟩
  ·exact .inr ⟨b, cap, sz, ver, used, wr, e0.symm, rfl⟩
  ·injection e0 with e1 e2 e3 e4 e5 e6
   subst e1 e2 e3 e4 e5
   exact .inr ⟨_, _, _, _, _, _, rfl, rfl⟩
theorem Shuts.back {H1 : List Hd} (h : Shuts H H1) {i : Nat} {k : Hd} (hk : H[i]? = some k) : ∃ k1, H1[i]? = some k1 ∧ (k1 = k ∨ ∃ b cap sz ver used wr, k = .row b cap sz ver used wr ∧ k1 = .row b cap sz ver used false) := by
 have hlt : i < H1.length := by rw [h.1]; exact (List.getElem?_eq_some_iff.1 hk).1
 obtain ⟨k', hk', e⟩ := h.2 i _ (List.getElem?_eq_getElem hlt)
 rw [hk] at hk'
 injection hk' with hk'
 subst hk'
 exact ⟨_, List.getElem?_eq_getElem hlt, e⟩
theorem Shuts.goes {H1 : List Hd} (h : Shuts H H1) : Goes X w H w H1 := by
 refine ⟨fun i k hk => ?_, fun b o ⟨h1, h2, h3⟩ => ⟨⟨h1, h2, fun ⟨i, k, hk, hmut⟩ => ?_⟩, rfl⟩⟩
 ·obtain ⟨k1, hk1, e⟩ := h.back hk
  refine ⟨k1, hk1, ?_⟩
  rcases e with rfl | ⟨b, cap, sz, ver, used, wr, rfl, rfl⟩
  ·exact Hd.le_refl _
  ·exact .inl ⟨rfl, rfl, rfl, rfl, rfl⟩
 ·obtain ⟨k0, hk0, e⟩ := h.2 i k hk
  refine h3 ⟨i, k0, hk0, ?_⟩
  rcases e with rfl | ⟨b', cap, sz, ver, used, wr, rfl, rfl⟩
  ·exact hmut
  ·simp only [Hd.mut] at hmut ⊢
   exact ⟨hmut.1, hmut.2.1, .inr (by rcases hmut.2.2 with q | q; cases q; exact q)⟩
theorem Shuts.blk {H1 : List Hd} (h : Shuts H H1) {i : Nat} {k : Hd} (hk : H1[i]? = some k) : ∃ k0, H[i]? = some k0 ∧ k0.blk = k.blk := by
 obtain ⟨k0, hk0, e⟩ := h.2 i k hk
 refine ⟨k0, hk0, ?_⟩
 rcases e with rfl | ⟨b', cap, sz, ver, used, wr, rfl, rfl⟩ <;> rfl
theorem Shuts.isShut {H1 : List Hd} (h : Shuts H H1) {id : Nat} (hi : IsShut H id) : IsShut H1 id := by
 intro b cap sz ver used wr hk
 obtain ⟨k0, hk0, e⟩ := h.2 id _ hk
 rcases e with rfl | ⟨b', cap', sz', ver', used', wr', rfl, e⟩
 ·exact hi _ _ _ _ _ _ hk0
 ·injection e with _ _ _ _ _ e6
theorem shutCell_at (hm : MemAt X w m H) (y : AV) : ∃ H1, MemAt X w (shutCell m y) H1 ∧ Shuts H H1 ∧ ∀ id ver used off len, y = .row id ver used off len → IsShut H1 id := by
 unfold shutCell
 split
 ·rename_i id ver used off len
  split
  ·rename_i v s l wr ap hobj
   have hlt : id < H.length := by rw [hm.len]; exact (List.getElem?_eq_some_iff.1 hobj).1
   have hH := List.getElem?_eq_getElem hlt
   have hO := hm.obj _ _ _ hobj hH
   generalize hk : H[id] = k at hO hH
   cases k <;> simp only [ObjAt] at hO
   rename_i b cap sz ver' used' wr'
   have hsh : Shuts H (H.set id (.row b cap sz ver' used' false)) := by
    refine ⟨by simp, fun i h1 hh => ?_⟩
    by_cases hi : i = id
    ·subst hi
     rw [List.getElem?_set_self hlt] at hh
     injection hh with hh; subst hh
     exact ⟨_, hH, .inr ⟨b, cap, sz, ver', used', wr', rfl, rfl⟩⟩
    ·rw [List.getElem?_set_ne (Ne.symm hi)] at hh
     exact ⟨h1, hh, .inl rfl⟩
   refine ⟨H.set id (.row b cap sz ver' used' false), ⟨by simp [hm.len], fun i o h ho hh => ?_, fun i h b' hh hb => ?_, fun i j h k b' hi hj hb1 hb2 => ?_⟩, hsh, ?_⟩
   ·by_cases hi : i = id
    ·subst hi
     rw [List.getElem?_set_self hlt] at hh
     rw [List.getElem?_set_self (by rw [← hm.len]; exact hlt)] at ho
     injection hh with hh; injection ho with ho
     subst hh ho
     have := ObjAt.goes (X := X) (w := w) (w' := w) (H := H) (hsh.goes) (o := .row v s l wr ap) (h := .row b cap sz ver' used' wr') (fun _ _ => rfl) (by simp only [ObjAt]; exact hO)
     simp only [ObjAt] at this ⊢
     exact ⟨this.1, trivial, this.2.2⟩
    ·rw [List.getElem?_set_ne (Ne.symm hi)] at hh ho
     exact (hm.obj i o h ho hh).goes hsh.goes fun _ _ => rfl
   ·obtain ⟨k0, h0, e⟩ := hsh.blk hh
    exact hm.lt i k0 b' h0 (e.trans hb)
   ·obtain ⟨k0, h0, e⟩ := hsh.blk hi
    obtain ⟨k1, h1, e'⟩ := hsh.blk hj
    exact hm.apart i j k0 k1 b' h0 h1 (e.trans hb1) (e'.trans hb2)
   ·intro id' ver'' used'' off' len' e b1 c1 s1 v1 u1 w1 hh
    injection e with e1
    subst e1
    rw [List.getElem?_set_self hlt] at hh
    injection hh with hh
    injection hh with _ _ _ _ _ h6
    exact h6.symm
  ·rename_i hne
   refine ⟨H, hm, Shuts.refl H, ?_⟩
   intro id' ver'' used'' off' len' e b1 c1 s1 v1 u1 w1 hh
   injection e with e1
   subst e1
   have hlt : id < m.length := by rw [← hm.len]; exact (List.getElem?_eq_some_iff.1 hh).1
   have hO := hm.obj id _ _ (List.getElem?_eq_getElem hlt) hh
   generalize hmm : m[id] = o at hO
   cases o <;> simp only [ObjAt] at hO
   exact absurd (by rw [List.getElem?_eq_getElem hlt, hmm]) (hne _ _ _ _ _)
 ·rename_i hne
  exact ⟨H, hm, Shuts.refl H, fun id ver used off len e => absurd e (hne id ver used off len)⟩
theorem shutCells_at : ∀ (l : List AV) (m : List MObj) (H : List Hd), MemAt X w m H → ∃ H1, MemAt X w (l.foldl shutCell m) H1 ∧ Shuts H H1 ∧ ∀ z ∈ l, ∀ id ver used off len, z = .row id ver used off len → IsShut H1 id
 | [], m, H, hm => ⟨H, hm, Shuts.refl H, fun z hz => by simp at hz⟩
 | y :: r, m, H, hm => by
  obtain ⟨H1, h1, h2, h3⟩ := shutCell_at hm y
  obtain ⟨H2, g1, g2, g3⟩ := shutCells_at r _ _ h1
  refine ⟨H2, g1, h2.trans g2, fun z hz id ver used off len e => ?_⟩
  rcases List.mem_cons.1 hz with rfl | hz
  ·exact g2.isShut (h3 _ _ _ _ _ e)
  ·exact g3 z hz _ _ _ _ _ e
theorem shutVs_at : ∀ (l : List AV) (m : List MObj) (H : List Hd), MemAt X w m H → ∃ H1, MemAt X w (l.foldl shutV m) H1 ∧ Shuts H H1 ∧ ∀ v ∈ l, ∀ z ∈ v.cells, ∀ id ver used off len, z = .row id ver used off len → IsShut H1 id
 | [], m, H, hm => ⟨H, hm, Shuts.refl H, fun z hz => by simp at hz⟩
 | y :: r, m, H, hm => by
  obtain ⟨H1, h1, h2, h3⟩ := shutCells_at y.cells m H hm
  obtain ⟨H2, g1, g2, g3⟩ := shutVs_at r _ _ h1
  refine ⟨H2, g1, h2.trans g2, fun v hv z hz id ver used off len e => ?_⟩
  rcases List.mem_cons.1 hv with rfl | hv
  ·exact g2.isShut (h3 z hz _ _ _ _ _ e)
  ·exact g3 v hv z hz _ _ _ _ _ e
theorem shut_stab {H1 : List Hd} (hm : MemAt X w m H) (hs : Shuts H H1) (hX : ∀ b, (∃ o, X b o) → ∀ (i : Nat) (h : Hd), H[i]? = some h → h.blk ≠ some b) {id : Nat} (hi : IsShut H1 id) {b cap sz cver cused : Nat} {wr : Bool}
    (hH : H[id]? = some (.row b cap sz cver cused wr)) (hc : 0 < cap) (hb : b < w.heap.size) {o : Nat} (ho : o < cused * sz) : Stab X H1 w b o := by
  refine ⟨hb, fun hx => hX b ⟨o, hx⟩ id _ hH (by simp [Hd.blk, hc]), fun ⟨i, k, hk, hmut⟩ => ?_⟩
  obtain ⟨k0, hk0, e⟩ := hs.blk hk
  have := hm.apart i id k0 _ b hk0 hH (e.trans (Hd.mut_blk hmut)) (by simp [Hd.blk, hc])
  subst this
  obtain ⟨k1, hk1, e1⟩ := hs.back hH
  rw [hk] at hk1
  injection hk1 with hk1
  subst hk1
  have hw : ∃ wr, k = .row b cap sz cver cused wr := by
    rcases e1 with rfl | ⟨b', cap', sz', ver', used', wr', eq, rfl⟩
    · exact ⟨_, rfl⟩
    · injection eq with e1 e2 e3 e4 e5 e6
      subst e1 e2 e3 e4 e5
      exact ⟨_, rfl⟩
  obtain ⟨wr2, rfl⟩ := hw
  have := hi _ _ _ _ _ _ hk
  subst this
  simp only [Hd.mut] at hmut
  rcases hmut.2.2 with q | q
  · cases q
  · omega
end
end Go.Proofs.YtienfdjfochlcaaGreatDoor
end
section
namespace Go.Proofs.YtienfdjfochlcaaGreatDoor
set_option linter.unusedVariables false
set_option linter.unusedSimpArgs false
def Eff (P : Program) (X : Nat → Nat → Prop) (w0 : Base) (N : Nat) (st' : St) (a : Act) (d : Option Nat) (w : World) (s : Sem Next) : Prop :=
 ∃ v w' H', (s.run P w = .ok (.value v) w' ∨ (s.run P w = .ok .skip w' ∧ v = undef)) ∧ SR X w0 N st' (a.put d v) w' H'
theorem run_storeCells_fz (P : Program) (g o : Nat) (t : TypeId) (fz : Nat × Nat) : ∀ (vs : List Value) (i : Nat) (cur : Array Value) (w : World), w.heap[g]? = some (.cells cur t fz) → (∀ k, k < cur.size → (decide (fz.1 ≤ k) && decide (k < fz.2)) = false) →
    o + i + vs.length ≤ cur.size → (∀ v ∈ vs, v.oneCell' = true) →
    (storeCells ⟨g, o, none⟩ vs i).run P w = .ok () (w.setRow g (cur.toList.take (o + i) ++ vs ++ cur.toList.drop (o + i + vs.length)).toArray)
  | [], i, cur, w, hg, _, _, _ => by
    simp only [storeCells, List.append_nil, List.length_nil, Nat.add_zero, List.take_append_drop, Array.toArray_toList]
    rw [setRow_self w g cur t fz hg]
    rfl
  | v :: rest, i, cur, w, hg, hz, hl, h1 => by
    have hi : o + i < cur.size := by simp at hl; omega
    have hcell : w.cell? ⟨g, o + i, none⟩ = some cur[o + i] := by simp [World.cell?, hg, hi]
    have hfro : w.frozen? ⟨g, o + i, none⟩ = false := by
      simp only [World.frozen?, hg]
      exact hz _ hi
    have hst : (store ((⟨g, o, none⟩ : Addr).add i) v).run P w = .ok () (w.setRow g (cur.setIfInBounds (o + i) v)) := by
      rw [addr_add, run_store P w _ v _ (h1 v (by simp)), hcell]
      simp [hfro, setCell_eq_setRow w g (o + i) cur t fz v hg]
    have ih := run_storeCells_fz P g o t fz rest (i + 1) (cur.setIfInBounds (o + i) v) (w.setRow g (cur.setIfInBounds (o + i) v)) (setRow_heap w g cur _ t _ hg) (fun k hk => hz k (by simpa using hk)) (by simp at hl ⊢; omega) (fun x hx => h1 x (by simp [hx]))
    simp only [storeCells, Sem.run_bind, hst, Result.andThen_ok, ih, setRow_setRow]
    congr 3
    have e := list_seg_step cur.toList (o + i) v rest (by simp at hl ⊢; omega)
    simpa [Array.toList_setIfInBounds, Nat.add_assoc] using e
section
variable {P : Program} {X : Nat → Nat → Prop} {w0 : Base} {w : World} {N : Nat} {st : St} {a : Act} {H : List Hd} {d : Option Nat}
theorem SR.xb (h : SR X w0 N st a w H) : ∀ b, (∃ o, X b o) → ∀ (i : Nat) (k : Hd), H[i]? = some k → k.blk ≠ some b := fun b ⟨o, ho⟩ i k hk hb => by
 have := h.old b o ho
 have := h.new i k b hk hb
 omega
theorem SR.shuts (h : SR X w0 N st a w H) {m1 : List MObj} {H1 : List Hd} (hm : MemAt X w m1 H1) (hs : Shuts H H1) : SR X w0 N ⟨st.fr, m1⟩ a w H1 where
 dfr := h.dfr
 siz := h.siz
 frm := hs.goes.fok h.frm
 mem := hm
 grw := h.grw
 new := fun i k b hk hb => by
  obtain ⟨k0, h0, e⟩ := hs.blk hk
  exact h.new i k0 b h0 (e.trans hb)
 old := h.old
 since := h.since.trans hs.goes
theorem e_nilrow {ak ver : Nat} (sz : Nat) (h : SR X w0 N st a w H) (hd : ∀ k, d = some k → k < N) : SR X w0 N ⟨putf d (.row st.m.length ver 0 0 0) st.fr, st.m ++ [.row ver sz [] true ak]⟩ (a.put d (.slice none 0 0)) w (H ++ [.row 0 0 sz ver 0 true]) := by
 refine h.newObj hd (Ext.refl w) (Nat.le_refl _) (Fr.refl _ _) (fun b hb => by simp [Hd.blk] at hb) ?_ ?_
 ·simp [ObjAt]
 ·rw [← h.mem.len]
  exact .row _ ver 0 0 0 ⟨_, _, _, rfl⟩ (snoc_last _ _) (.inr ⟨rfl, Nat.le_refl _⟩) fun _ _ => ⟨by omega, by omega, none, rfl, fun q => absurd q (by omega), fun _ => rfl, fun _ _ => rfl⟩
theorem e_row0 {ap : Nat} {A : Option Addr} {w' : World} (sz : Nat) (hap : ap < 2) (h : SR X w0 N st a w H) (hd : ∀ k, d = some k → k < N) (hext : Ext w w') (hsz : w.heap.size ≤ w'.heap.size) (hfr : Fr (fun _ => False) w w') (hA : A ≠ none) :
    SR X w0 N ⟨putf d (.row st.m.length 0 0 0 0) st.fr, st.m ++ [.row 0 sz [] true ap]⟩ (a.put d (.slice A 0 0)) w' (H ++ [.row 1 0 sz 0 0 true]) := by
  refine h.newObj hd hext hsz hfr (fun b hb => by simp [Hd.blk] at hb) ?_ ?_
  · simp only [ObjAt]
    exact ⟨trivial, trivial, trivial, rfl, Nat.le_refl _, fun q => absurd q (by omega), fun i x hx => by simp at hx, fun q => by omega⟩
  · rw [← h.mem.len]
    exact .row _ 0 0 0 0 ⟨_, _, _, rfl⟩ (snoc_last _ _) (.inr ⟨rfl, Nat.le_refl _⟩) fun _ _ => ⟨by omega, by omega, A, rfl, fun q => absurd q (by omega), fun _ => rfl, fun _ q => by cases q⟩
theorem e_alloc {t : TypeId} {z : Value} (hbt : ¬ t = BT) (hz : zeOf P t = some z) (h : SR X w0 N st a w H) (hd : ∀ k, d = some k → k < N) :
    ∃ v w' H', (Instr.alloc t true (.tuple #[])).run P w = .ok v w' ∧ SR X w0 N ⟨putf d (.ptr st.m.length 0) st.fr, st.m ++ [.box t (z.cells.toList.map .val)]⟩ (a.put d v) w' H' := by
  refine ⟨.pointer (some ⟨w.heap.size, 0, none⟩), w.alloc (.cells z.cells t), H ++ [.box w.heap.size z.cells.size], by simp [Instr.alloc, run_zeOf hz, newVar, newRow], ?_⟩
  refine h.newObj hd (ext_alloc w _) (by simp) ((Fr.refl _ _).alloc _) (fun b hb => by simp [Hd.blk] at hb; subst hb; simp) ?_ ?_
  · refine ⟨by simp, z.cells, heap_alloc_new w _, by simp, fun i y hy => (repL_vals (S := Stab X (H ++ [Hd.box w.heap.size z.cells.size]) (w.alloc (.cells z.cells t))) z.cells).2 i y hy, fun e => absurd e hbt⟩
  · rw [← h.mem.len]
    exact .ptr _ 0 (snoc_last _ _)
theorem zeroEl_ok {z : Value} {ag : Bool} {n : Nat} (h : zeroOk z ag n = true) : z.cells.size = n ∧ (zeroEl z.cells.toList ag).cells = z.cells.toList.map .val ∧ (zeroEl z.cells.toList ag).ground = true := by
 simp only [zeroOk, Bool.and_eq_true, decide_eq_true_eq, Bool.or_eq_true] at h
 obtain ⟨⟨h1, h2⟩, h3⟩ := h
 refine ⟨h1, ?_⟩
 cases ag with
 | true => exact ⟨rfl, h2⟩
 | false =>
  have h3 : n = 1 := by simpa using h3
  have : ∃ u, z.cells.toList = [u] := by
   have hl : z.cells.toList.length = 1 := by simp; omega
   match hq : z.cells.toList, hl with
   | [u], _ => exact ⟨u, rfl⟩
  obtain ⟨u, hu⟩ := this
  rw [hu] at h2 ⊢
  simp only [zeroEl, Bool.false_eq_true, if_false]
  exact ⟨rfl, h2⟩
theorem made_get {z : Array Value} {sz n i j : Nat} (hz : z.size = sz) (hi : i < n) (hj : j < sz) : (madeCells z (n * sz)).getD (i * sz + j) undef = z.getD j undef := by
 have hlt := mul_lt_of hi hj
 simp only [Array.getD_eq_getD_getElem?, madeCells, Array.getElem?_map, Array.getElem?_range]
 rw [if_pos hlt]
 simp only [Option.map_some, Option.getD_some]
 rw [show (i * sz + j) % z.size = j from by rw [hz, Nat.add_comm, Nat.add_mul_mod_self_right]; exact Nat.mod_eq_of_lt hj]
 simp [show j < z.size from by omega]
theorem e_mks {t e : TypeId} {z : Value} {ag : Bool} {sz bytes n : Nat} {kl kc : IntKind} (ht : P.underlying t = some (.slice e)) (hs : szOf P e = some sz) (hz : zeOf P e = some z) (hby : byOf P e = some bytes) (hok : zeroOk z ag sz = true) (hn : n ≤ maxLen) (hb : bytes * n ≤ 281474976710656)
    (h : SR X w0 N st a w H) (hd : ∀ k, d = some k → k < N) :
    ∃ v w' H', (Instr.makeSlice t (.int kl (n : Int)) (.int kc (n : Int))).run P w = .ok v w' ∧ SR X w0 N ⟨putf d (.row st.m.length 0 n 0 n) st.fr, st.m ++ [.row 0 sz (List.replicate n (zeroEl z.cells.toList ag)) true 1]⟩ (a.put d v) w' H' := by
  unfold szOf at hs; unfold zeOf at hz; unfold byOf at hby
  simp only [Option.map_eq_some_iff, Option.bind_eq_some_iff] at hs hz hby
  obtain ⟨i, hi, rfl⟩ := hs
  obtain ⟨i', hi', hz⟩ := hz
  rw [hi] at hi'; injection hi' with hi'; subst hi'
  obtain ⟨i', hi', rfl⟩ := hby
  rw [hi] at hi'; injection hi' with hi'; subst hi'
  have hmax : n ≤ 9223372036854775807 := by have := hn; unfold maxLen at this; omega
  have hb' : (i.bytes : Int) * (n : Int) ≤ 281474976710656 := by
    have h : ((i.bytes * n : Nat) : Int) ≤ 281474976710656 := by omega
    rwa [Int.natCast_mul] at h
  have hrun := run_make (P := P) w t e i z ht hi hz kl kc n n (by omega) (Int.le_refl _) hb' (by omega)
  simp only [Int.toNat_natCast] at hrun
  obtain ⟨z1, z2, z3⟩ := zeroEl_ok hok
  by_cases hn0 : n = 0
  · subst hn0
    exact ⟨_, _, _, hrun, e_row0 (ap := 1) _ (by omega) h hd (ext_alloc w _) (by simp) ((Fr.refl _ _).alloc _) (by simp)⟩
  refine ⟨_, _, H ++ [.row w.heap.size n i.size 0 n true], hrun, ?_⟩
  refine h.newObj hd (ext_alloc w _) (by simp) ((Fr.refl _ _).alloc _) (fun b hb => by
    simp only [Hd.blk] at hb
    split at hb
    · injection hb with hb; subst hb; simp
    · cases hb) ?_ ?_
  · have hrepl : ∀ (k : Nat) (x : AV), (List.replicate n (zeroEl z.cells.toList ag))[k]? = some x → k < n ∧ x = zeroEl z.cells.toList ag := by
      intro k x hx
      rw [List.getElem?_replicate] at hx
      split at hx
      · rename_i hk; injection hx with hx; exact ⟨hk, hx.symm⟩
      · cases hx
    refine ⟨rfl, rfl, rfl, by simp, Nat.le_refl _, fun _ => ⟨_, e, (0, 0), heap_alloc_new w _, .one e, fun _ _ => by simp, Nat.le_of_eq (size_madeCells _ _).symm, fun k x j y hx hy => ?_⟩, fun k x hx => ?_, fun q => by omega⟩
    · obtain ⟨hk, rfl⟩ := hrepl k x hx
      rw [z2] at hy
      have hj := (List.getElem?_eq_some_iff.1 hy).1
      simp only [List.length_map, Array.length_toList] at hj
      rw [made_get z1 hk (by omega)]
      exact (repL_vals z.cells).2 j y hy
    · obtain ⟨hk, rfl⟩ := hrepl k x hx
      exact ⟨z3, by rw [z2]; simp [z1]⟩
  · rw [← h.mem.len]
    exact .row _ 0 n 0 n ⟨_, _, _, rfl⟩ (snoc_last _ _) (.inr ⟨rfl, Nat.le_refl _⟩) fun _ _ => ⟨by omega, by omega, some ⟨w.heap.size, 0, none⟩, rfl, fun q => by simp, fun q => (by cases q), fun q => by omega⟩
def ElR (S : Nat → Nat → Prop) (w : World) (sz : Nat) (cells : Array Value) (l : List AV) : Prop := cells.size = l.length * sz ∧ (∀ (i : Nat) (x : AV), l[i]? = some x → x.ground = true ∧ x.cells.length = sz) ∧
 ∀ (i : Nat) (x : AV) (j : Nat) (y : AV), l[i]? = some x → x.cells[j]? = some y → Rep S w [] (cells.getD (i * sz + j) undef) y
theorem gr_isCell {y : AV} (h : y.grCell = true) : y.isCell = true := by
 cases y <;> simp [AV.grCell] at h <;> try rfl
 rename_i v
 cases v <;> simp at h <;> rfl
theorem ground_cells {y : AV} (h : y.ground = true) : y.cells.all AV.isCell = true := by
 unfold AV.ground at h
 rw [List.all_eq_true] at h ⊢
 exact fun x hx => gr_isCell (h x hx)
theorem fill_els {S' : Nat → Nat → Prop} {sz : Nat} (hsz : 0 < sz) (hr : FrOk (Stab X H w) w H a st.fr) (hm : MemAt X w st.m H) :
    ∀ (parts : List (Nat × Operand)) (cells : Array Value) (l l' : List AV), (∀ p ∈ parts, ∀ v', frz st.m (evA st.fr p.2) = some v' → Rep S' w [] (a.eval p.2) v' ∧ v'.ground = true) → ElR S' w sz cells l → bsEls st.fr st.m sz l parts = some l' →
      l'.length = l.length ∧ ∃ cells', Instr.fill (fun i => some (i * sz, sz)) cells (parts.map fun p => (p.1, a.eval p.2)) = some cells' ∧ ElR S' w sz cells' l' := by
  intro parts
  induction parts with
  | nil => intro cells l l' _ h h2; simp [bsEls] at h2; subst h2; exact ⟨rfl, cells, rfl, h⟩
  | cons p r ih =>
    intro cells l l' hp h h2
    obtain ⟨i, x⟩ := p
    simp only [bsEls] at h2
    split at h2
    · rename_i v hv
      split at h2
      · rename_i hc
        obtain ⟨c1, c2⟩ := hc
        obtain ⟨hrep, hgr⟩ := hp (i, x) (by simp) v hv
        obtain ⟨⟨e1, e2⟩, _⟩ := rep_cells hrep (ground_cells hgr)
        have hvs : (a.eval x).cells.size = sz := by rw [e1, c1]
        obtain ⟨g1, g2⟩ := setRun_get (a.eval x).cells.toList 0 (i * sz) cells
        have hfold : (a.eval x).cells.zipIdx.foldl (fun cs (x : Value × Nat) => cs.setIfInBounds (i * sz + x.2) x.1) cells = ((a.eval x).cells.toList.zipIdx 0).foldl (fun cs (x : Value × Nat) => cs.setIfInBounds (i * sz + x.2) x.1) cells := by
          rw [← Array.foldl_toList, Array.toList_zipIdx]
        have hbound : i * sz + sz ≤ cells.size := by
          rw [h.1, ← Nat.succ_mul]
          exact Nat.mul_le_mul_right _ c2
        have hnew : ElR S' w sz ((a.eval x).cells.zipIdx.foldl (fun cs (x : Value × Nat) => cs.setIfInBounds (i * sz + x.2) x.1) cells) (l.set i v) := by
          rw [hfold]
          refine ⟨by rw [g1, h.1]; simp, fun k y hk => ?_, fun k y j z hk hj => ?_⟩
          · by_cases hki : k = i
            · subst hki
              rw [List.getElem?_set_self c2] at hk
              injection hk with hk; subst hk
              exact ⟨hgr, c1⟩
            · rw [List.getElem?_set_ne (Ne.symm hki)] at hk
              exact h.2.1 k y hk
          · have hjl := (List.getElem?_eq_some_iff.1 hj).1
            rw [g2 _ (by simp; omega)]
            simp only [Nat.add_zero, Array.length_toList, hvs]
            by_cases hki : k = i
            · subst hki
              rw [List.getElem?_set_self c2] at hk
              injection hk with hk; subst hk
              rw [if_pos (by omega), Nat.add_sub_cancel_left]
              have := e2 j z hj
              simpa using this
            · rw [List.getElem?_set_ne (Ne.symm hki)] at hk
              have hjs : j < sz := by have := (h.2.1 k y hk).2; omega
              rw [if_neg ?_]
              · exact h.2.2 k y j z hk hj
              · intro ⟨q1, q2⟩
                rcases Nat.lt_or_ge k i with hlt | hge
                · have : (k + 1) * sz ≤ i * sz := Nat.mul_le_mul_right _ hlt
                  rw [Nat.succ_mul] at this; omega
                · have : (i + 1) * sz ≤ k * sz := Nat.mul_le_mul_right _ (by omega)
                  rw [Nat.succ_mul] at this; omega
        obtain ⟨q0, cells', q1, q2⟩ := ih _ _ _ (fun p hpp => hp p (by simp [hpp])) hnew h2
        refine ⟨by simpa using q0, cells', ?_, q2⟩
        simp only [List.map_cons, Instr.fill]
        rw [if_neg (by simp; omega)]
        exact q1
      · cases h2
    · cases h2
theorem e_bslice {t e : TypeId} {z : Value} {ag own : Bool} {sz cnt : Nat} {parts : Array (Nat × Operand)} {l : List AV} (ht : P.underlying t = some (.slice e)) (hs : szOf P e = some sz) (h0 : 0 < sz) (hz : zeOf P e = some z) (hok : zeroOk z ag sz = true) (hsm : cnt * sz ≤ 16777216)
    (h : SR X w0 N st a w H) (hd : ∀ k, d = some k → k < N) (hl : bsEls st.fr st.m sz (List.replicate cnt (zeroEl z.cells.toList ag)) parts.toList = some l) :
    ∃ v w' H', (Instr.buildSlice t cnt (parts.map fun (i, x) => (i, a.eval x))).run P w = .ok v w' ∧
      SR X w0 N (if own then ⟨putf d (.row st.m.length 0 cnt 0 cnt) st.fr, (parts.toList.foldl (fun m p => shutV m (evA st.fr p.2)) st.m) ++ [.row 0 sz l true 1]⟩ else ⟨putf d (.slice sz l) st.fr, parts.toList.foldl (fun m p => shutV m (evA st.fr p.2)) st.m⟩) (a.put d v) w' H' := by
  obtain ⟨z1, z2, z3⟩ := zeroEl_ok hok
  have hfold : parts.toList.foldl (fun m p => shutV m (evA st.fr p.2)) st.m = (parts.toList.map fun p => evA st.fr p.2).foldl shutV st.m := by rw [List.foldl_map]
  obtain ⟨H1, m1, hsh, hshut⟩ := shutVs_at (parts.toList.map fun p => evA st.fr p.2) st.m H h.mem
  rw [← hfold] at m1
  have hrepl : ∀ (k : Nat) (x : AV), (List.replicate cnt (zeroEl z.cells.toList ag))[k]? = some x → k < cnt ∧ x = zeroEl z.cells.toList ag := by
    intro k x hx
    rw [List.getElem?_replicate] at hx
    split at hx
    · rename_i hk; injection hx with hx; exact ⟨hk, hx.symm⟩
    · cases hx
  have hbase : ElR (Stab X H1 w) w sz (madeCells z.cells (cnt * sz)) (List.replicate cnt (zeroEl z.cells.toList ag)) := by
    refine ⟨by rw [size_madeCells]; simp, fun k x hx => ?_, fun k x j y hx hy => ?_⟩
    · obtain ⟨hk, rfl⟩ := hrepl k x hx
      exact ⟨z3, by rw [z2]; simp [z1]⟩
    · obtain ⟨hk, rfl⟩ := hrepl k x hx
      rw [z2] at hy
      have hj := (List.getElem?_eq_some_iff.1 hy).1
      simp only [List.length_map, Array.length_toList] at hj
      rw [made_get z1 hk (by omega)]
      exact (repL_vals z.cells).2 j y hy
  have hparts : ∀ p ∈ parts.toList, ∀ v', frz st.m (evA st.fr p.2) = some v' → Rep (Stab X H1 w) w [] (a.eval p.2) v' ∧ v'.ground = true := by
    intro p hp v' hv'
    refine frz_rep h.mem (rep_ev h.frm p.2) hv' (fun b o q => (hsh.goes.stab b o q).1) fun zc hzc id ver used off len e b cap s cver cused wr hH hc hb o ho => ?_
    exact shut_stab h.mem hsh h.xb (hshut _ (List.mem_map.2 ⟨p, hp, rfl⟩) zc hzc _ _ _ _ _ e) hH hc hb ho
  obtain ⟨hlen, cells, hfill, hel⟩ := fill_els h0 h.frm h.mem parts.toList _ _ l hparts hbase hl
  simp only [List.length_replicate] at hlen
  have h1 : SR X w0 N ⟨st.fr, parts.toList.foldl (fun m p => shutV m (evA st.fr p.2)) st.m⟩ a w H1 := h.shuts m1 hsh
  have hrun : (Instr.buildSlice t cnt (parts.map fun (i, x) => (i, a.eval x))).run P w = .ok (.slice (some ⟨w.heap.size, 0, none⟩) cnt cnt) (w.alloc (.cells cells e)) := by
    unfold szOf at hs; unfold zeOf at hz
    simp only [Option.map_eq_some_iff, Option.bind_eq_some_iff] at hs hz
    obtain ⟨i, hi, rfl⟩ := hs
    obtain ⟨i', hi', hz⟩ := hz
    rw [hi] at hi'; injection hi' with hi'; subst hi'
    have hf' : Instr.fill (fun k => some (k * i.size, i.size)) ((Array.range (cnt * i.size)).map (z.cells[· % z.cells.size]!)) (parts.map fun (i, x) => (i, a.eval x)).toList = some cells := by
      rw [Array.toList_map]; exact hfill
    by_cases hc : cnt = 0
    · subst hc
      have hp : parts.toList = [] := by
        cases hq : parts.toList with
        | nil => rfl
        | cons p r =>
          obtain ⟨k, x⟩ := p
          rw [hq] at hl
          simp only [bsEls] at hl
          split at hl
          · simp at hl
          · cases hl
      have hp' : parts = #[] := by rw [← Array.toList_inj]; simpa using hp
      subst hp'
      simp [Instr.fill] at hf'
      subst hf'
      simp [Instr.buildSlice, run_underlying ht, sizeOf, typeInfo, hi, Instr.fill, newRow]
      have e0 : ∀ g : Nat → Value, Array.map g (Array.range 0) = #[] := fun g => Array.eq_empty_of_size_eq_zero (by simp)
      rw [e0, e0]
    · exact run_buildSlice w t e cnt _ cells i z ht hi hz (by omega) (by have := Nat.mul_pos (Nat.pos_of_ne_zero hc) h0; omega) hf'
  have hext := ext_alloc w (.cells cells e)
  have hnew : ∀ (H' : List Hd), (∀ b o, Stab X H1 w b o → Stab X H' (w.alloc (.cells cells e)) b o) → ∀ {v y}, Rep (Stab X H1 w) w [] v y → Rep (Stab X H' (w.alloc (.cells cells e))) (w.alloc (.cells cells e)) [] v y := by
    intro H' hS v y hr
    exact hr.mono (fun b o q => ⟨hS b o q, hext.cell q.1 o⟩) (HLe.refl _)
  cases own with
  | true =>
    by_cases hc0 : cnt = 0
    · subst hc0
      have hl0 : l = [] := List.eq_nil_of_length_eq_zero hlen
      subst hl0
      have hml : (List.foldl (fun m p => shutV m (evA st.fr p.2)) st.m parts.toList).length = st.m.length := by rw [← m1.len, hsh.1, h.mem.len]
      have := e_row0 (A := some ⟨w.heap.size, 0, none⟩) (ap := 1) sz (by omega) h1 hd hext (by simp) ((Fr.refl _ _).alloc _) (by simp)
      rw [hml] at this
      exact ⟨_, _, _, hrun, this⟩
    refine ⟨_, _, H1 ++ [.row w.heap.size cnt sz 0 cnt true], hrun, ?_⟩
    have hblk : ∀ b, (Hd.row w.heap.size cnt sz 0 cnt true).blk = some b → w.heap.size ≤ b ∧ b < (w.alloc (.cells cells e)).heap.size := by
      intro b hb
      simp only [Hd.blk] at hb
      split at hb
      · injection hb with hb; subst hb; simp
      · cases hb
    refine h1.newObj hd hext (by simp) ((Fr.refl _ _).alloc _) hblk ?_ ?_
    · refine ⟨rfl, rfl, rfl, hlen.symm, Nat.le_refl _, fun _ => ⟨cells, e, (0, 0), heap_alloc_new w _, .one e, fun _ _ => by simp, Nat.le_of_eq (by rw [hel.1, hlen]), fun k x j y hx hy => ?_⟩, hel.2.1, fun q => by omega⟩
      exact hnew _ (fun b o q => ((goes_new (h := .row w.heap.size cnt sz 0 cnt true) hext (by simp) fun b hb => (hblk b hb).1).stab b o q).1) (hel.2.2 k x j y hx hy)
    · have : (List.foldl (fun m p => shutV m (evA st.fr p.2)) st.m parts.toList).length = st.m.length := by rw [← m1.len, hsh.1, h.mem.len]
      rw [← this, ← h1.mem.len]
      exact .row _ 0 cnt 0 cnt ⟨_, _, _, rfl⟩ (snoc_last _ _) (.inr ⟨rfl, Nat.le_refl _⟩) fun _ _ => ⟨by omega, by omega, some ⟨w.heap.size, 0, none⟩, rfl, fun q => by simp, fun q => (by cases q), fun q => by omega⟩
  | false =>
    refine ⟨_, _, H1, hrun, ?_⟩
    refine h1.go hd (goes_ext hext (by simp)) (h1.mem.ext hext (by simp)) (h1.grw.alloc _) h1.new ?_
    have hst : ∀ o, Stab X H1 (w.alloc (.cells cells e)) w.heap.size o := by
      intro o
      refine ⟨by simp, fun hx => ?_, fun ⟨i, k, hk, hmut⟩ => ?_⟩
      · have := h.old _ _ hx; have := h.size; omega
      · have := h1.mem.lt i k _ hk (Hd.mut_blk hmut); omega
    have := Rep.slice (S := Stab X H1 (w.alloc (.cells cells e))) (w := w.alloc (.cells cells e)) (H := H1) (A := some ⟨w.heap.size, 0, none⟩) (c := cnt) (l := l) w.heap.size 0 sz (fun i j => cells.getD (i * sz + j) undef) (by omega) (fun q => by cases q) (fun _ => rfl) hel.2.1
      (fun i x j y hx hy => ⟨by
        have hjl := (List.getElem?_eq_some_iff.1 hy).1
        have hil := (List.getElem?_eq_some_iff.1 hx).1
        have hjs : j < sz := by have := (hel.2.1 i x hx).2; omega
        rw [Nat.zero_add]
        exact cell_getD (heap_alloc_new w _) (by rw [hel.1]; exact mul_lt_of hil hjs), hst _⟩)
      (fun i x j y hx hy => hnew _ (fun b o q => ((goes_ext (X := X) (H := H1) hext (by simp)).stab b o q).1) (hel.2.2 i x j y hx hy))
    rw [hlen] at this
    exact this
end
end Go.Proofs.YtienfdjfochlcaaGreatDoor
end
section
namespace Go.Proofs.YtienfdjfochlcaaGreatDoor
set_option linter.unusedVariables false
set_option linter.unusedSimpArgs false
section
variable {P : Program} {X : Nat → Nat → Prop} {w0 : Base} {w w' : World} {N : Nat} {st : St} {a : Act} {m : List MObj} {H : List Hd} {d : Option Nat}
theorem MemAt.upd {id : Nat} {o' : MObj} {k' : Hd} (hm : MemAt X w m H) (hg : Goes X w H w' (H.set id k')) (hsz : w.heap.size ≤ w'.heap.size)
    (hb : ∀ (i : Nat) (h : Hd) (b : Nat), i ≠ id → H[i]? = some h → h.blk = some b → w'.heap[b]? = w.heap[b]?)
    (hk : ∀ b, k'.blk = some b → b < w'.heap.size ∧ ∀ (i : Nat) (h : Hd), i ≠ id → H[i]? = some h → h.blk ≠ some b)
    (ho : ObjAt (Stab X (H.set id k') w') w' (H.set id k') o' k') : MemAt X w' (m.set id o') (H.set id k') where
  len := by simp [hm.len]
  obj := fun i o h hio hih => by
    by_cases hi : i = id
    · subst hi
      have hlt : i < (H.set i k').length := (List.getElem?_eq_some_iff.1 hih).1
      rw [List.length_set] at hlt
      rw [List.getElem?_set_self hlt] at hih
      rw [List.getElem?_set_self (by rw [← hm.len]; exact hlt)] at hio
      injection hih with hih; injection hio with hio
      subst hih hio
      exact ho
    · rw [List.getElem?_set_ne (Ne.symm hi)] at hih hio
      exact (hm.obj i o h hio hih).goes hg fun b hbb => hb i h b hi hih hbb
  lt := fun i h b hih hbb => by
    by_cases hi : i = id
    · subst hi
      have hlt : i < (H.set i k').length := (List.getElem?_eq_some_iff.1 hih).1
      rw [List.length_set] at hlt
      rw [List.getElem?_set_self hlt] at hih
      injection hih with hih; subst hih
      exact (hk b hbb).1
    · rw [List.getElem?_set_ne (Ne.symm hi)] at hih
      exact Nat.lt_of_lt_of_le (hm.lt i h b hih hbb) hsz
  apart := fun i j h k b hih hjk hb1 hb2 => by
    have own : ∀ {i : Nat} {h : Hd}, (H.set id k')[i]? = some h → i = id → h = k' := by
      intro i h hh hi
      subst hi
      have hlt : i < (H.set i k').length := (List.getElem?_eq_some_iff.1 hh).1
      rw [List.length_set] at hlt
      rw [List.getElem?_set_self hlt] at hh
      injection hh with hh; exact hh.symm
    by_cases hi : i = id <;> by_cases hj : j = id
    · rw [hi, hj]
    · have := own hih hi
      subst this
      rw [List.getElem?_set_ne (Ne.symm hj)] at hjk
      exact absurd hb2 ((hk b hb1).2 j k hj hjk)
    · have := own hjk hj
      subst this
      rw [List.getElem?_set_ne (Ne.symm hi)] at hih
      exact absurd hb1 ((hk b hb2).2 i h hi hih)
    · rw [List.getElem?_set_ne (Ne.symm hi)] at hih
      rw [List.getElem?_set_ne (Ne.symm hj)] at hjk
      exact hm.apart i j h k b hih hjk hb1 hb2
theorem set_same {α : Type} {l : List α} {i : Nat} {x : α} (h : l[i]? = some x) : l.set i x = l := by
 apply List.ext_getElem?
 intro j
 by_cases hj : i = j
 ·subst hj
  rw [List.getElem?_set_self (List.getElem?_eq_some_iff.1 h).1, h]
 ·rw [List.getElem?_set_ne hj]
theorem goes_write {id : Nat} {k : Hd} {b : Nat} {cs : Array Value} (hk : H[id]? = some k) (hb : ∀ o, k.mut b o) : Goes X w H (w.setRow b cs) H :=
 ⟨HLe.refl _, fun b' o ⟨h1, h2, h3⟩ => by
  have hne : b' ≠ b := fun e => h3 ⟨id, k, hk, by rw [e]; exact hb o⟩
  refine ⟨⟨by simpa [World.setRow] using h1, h2, h3⟩, World.cell?_of_block (setRow_other w b b' cs hne)⟩⟩
theorem fr_write {b : Nat} {cs : Array Value} (hf : Fr (fun _ => False) w0.o w) (hb : w0.o.heap.size ≤ b) : Fr (fun _ => False) w0.o (w.setRow b cs) :=
 ⟨hf.os, hf.tape, hf.output, by simpa [World.setRow] using hf.size, fun k hk q => (setRow_other w b k cs (by omega)).trans (hf.block k hk q)⟩
theorem setAt_get (l cs : List AV) (off i : Nat) (h : off + cs.length ≤ l.length) : (setAt l off cs)[i]? = if off ≤ i ∧ i < off + cs.length then cs[i - off]? else l[i]? := by
 unfold setAt
 rw [List.append_assoc, List.getElem?_append, List.length_take, Nat.min_eq_left (by omega)]
 split
 ·rename_i hi
  rw [List.getElem?_take, if_pos hi, if_neg (by omega)]
 ·rename_i hi
  rw [List.getElem?_append]
  split
  ·rw [if_pos (by omega)]
  ·rw [List.getElem?_drop, if_neg (by omega)]
   congr 1; omega
theorem setAt_length (l cs : List AV) (off : Nat) (h : off + cs.length ≤ l.length) : (setAt l off cs).length = l.length := by
 unfold setAt; simp; omega
theorem row_get (cur : Array Value) (vs : List Value) (o i : Nat) (h : o + vs.length ≤ cur.size) : (cur.toList.take o ++ vs ++ cur.toList.drop (o + vs.length)).toArray.getD i undef = if o ≤ i ∧ i < o + vs.length then vs.getD (i - o) undef else cur.getD i undef := by
 simp only [Array.getD_eq_getD_getElem?, List.getElem?_toArray, List.append_assoc]
 rw [List.getElem?_append, List.length_take, Nat.min_eq_left (by simp; omega)]
 split
 ·rename_i hi
  rw [List.getElem?_take, if_pos hi, if_neg (by omega)]
  simp
 ·rename_i hi
  rw [List.getElem?_append]
  split
  ·rw [if_pos (by omega)]
   simp [List.getD_eq_getElem?_getD]
  ·rw [List.getElem?_drop, if_neg (by omega)]
   simp only [Array.getElem?_toList]
   rw [show o + vs.length + (i - o - vs.length) = i from by omega]
theorem row_size (cur : Array Value) (vs : List Value) (o : Nat) (h : o + vs.length ≤ cur.size) : (cur.toList.take o ++ vs ++ cur.toList.drop (o + vs.length)).toArray.size = cur.size := by
 simp; omega
theorem run_storeAt {t : TypeId} {n b o : Nat} {v : Value} {ty : TypeId} {fz : Nat × Nat} {cur : Array Value} (hn : szOf P t = some n) (hv : v.cells.size = n) (hh : w.heap[b]? = some (.cells cur ty fz)) (hz : ∀ k, k < cur.size → (decide (fz.1 ≤ k) && decide (k < fz.2)) = false)
    (hl : o + n ≤ cur.size) (h1 : ∀ u ∈ v.cells.toList, u.oneCell' = true) : (Instr.storeAt t (.pointer (some ⟨b, o, none⟩)) v).run P w = .ok () (w.setRow b (cur.toList.take o ++ v.cells.toList ++ cur.toList.drop (o + v.cells.toList.length)).toArray) := by
  have := run_storeCells_fz P b o ty fz v.cells.toList 0 cur w hh hz (by simp; omega) h1
  simp only [Nat.add_zero] at this
  simp [Instr.storeAt, Instr.sureAddr, storeVar, run_szOf hn, hv, this]
theorem e_storeP {t : TypeId} {n id off : Nat} {va vv : Value} {av : AV} {bt : TypeId} {l : List AV} (hn : szOf P t = some n) (h : SR X w0 N st a w H) (hd : ∀ k, d = some k → k < N) (ha : Rep (Stab X H w) w H va (.ptr id off)) (hv : Rep (Stab X H w) w H vv av)
    (hl : av.cells.length = n) (hc : av.cells.all AV.isCell = true) (hobj : st.m[id]? = some (.box bt l)) (hle : off + n ≤ l.length) (hbo : bt = BT → 0 < off) :
    ∃ w' H', (Instr.storeAt t va vv).run P w = .ok () w' ∧ SR X w0 N ⟨putf d .any st.fr, st.m.set id (.box bt (setAt l off av.cells))⟩ (a.put d undef) w' H' := by
  cases ha with
  | ptr id off hH =>
    rename_i b nb
    have hO := h.mem.obj _ _ _ hobj hH
    simp only [ObjAt] at hO
    obtain ⟨e1, cur, hh, hsz, hrep, hbk⟩ := hO
    obtain ⟨⟨g1, g2⟩, g3⟩ := rep_cells hv hc
    have hvn : vv.cells.size = n := by omega
    have hrun := run_storeAt (P := P) (o := off) hn hvn hh (fun k _ => by simp) (by omega) g3
    have hgo : Goes X w H (w.setRow b (cur.toList.take off ++ vv.cells.toList ++ cur.toList.drop (off + vv.cells.toList.length)).toArray) H := goes_write hH fun o => rfl
    refine ⟨_, H, hrun, ?_⟩
    have hset := set_same hH
    have hmem := h.mem.upd (id := id) (k' := .box b nb) (o' := .box bt (setAt l off av.cells)) (w' := w.setRow b (cur.toList.take off ++ vv.cells.toList ++ cur.toList.drop (off + vv.cells.toList.length)).toArray) (by rw [hset]; exact hgo) (by simp [World.setRow])
      (fun i k b' hi hk hb' => setRow_other w b b' _ (fun e => hi (h.mem.apart i id k _ b' hk hH hb' (by rw [e]; rfl)))) (fun b' hb' => by
        simp only [Hd.blk, Option.some.injEq] at hb'
        subst hb'
        exact ⟨by simpa [World.setRow] using h.mem.lt _ _ b hH rfl, fun i k hi hk hkb => hi (h.mem.apart i id k _ b hk hH hkb rfl)⟩) (by
        rw [hset]
        simp only [ObjAt]
        refine ⟨by rw [setAt_length _ _ _ (by omega)]; exact e1, _, setRow_heap w b cur _ bt _ hh, by rw [row_size _ _ _ (by simp; omega), setAt_length _ _ _ (by omega)]; exact hsz, fun i y hy => ?_, fun e => ?_⟩
        · rw [setAt_get _ _ _ _ (by omega)] at hy
          rw [row_get _ _ _ _ (by simp; omega)]
          simp only [Array.length_toList]
          split at hy
          · rename_i hi
            rw [if_pos (by omega)]
            have := hgo.rep (g2 _ _ hy)
            simpa using this
          · rename_i hi
            rw [if_neg (by omega)]
            exact hgo.rep (hrep _ _ hy)
        · have h0 := hbo e
          have hk := hbk e
          unfold BOk at hk ⊢
          rw [row_get _ _ _ _ (by simp; omega), if_neg (by omega)]
          exact hk)
    rw [hset] at hmem
    exact h.go hd hgo hmem (fr_write h.grw (h.new _ _ _ hH rfl)) h.new (.any _ _)
theorem setEl_cells {x x' : AV} {fo s : Nat} {gs : List AV} (h : setEl x fo gs = some x') (hx : x.cells.length = s) (hg : x.ground = true) (hgs : ∀ y ∈ gs, y.grCell = true) :
    x'.ground = true ∧ x'.cells.length = s ∧ fo + gs.length ≤ s ∧ ∀ j : Nat, x'.cells[j]? = if fo ≤ j ∧ j < fo + gs.length then gs[j - fo]? else x.cells[j]? := by
  unfold setEl at h
  split at h
  · rename_i l
    split at h
    · rename_i hle
      injection h with h; subst h
      simp only [AV.cells] at hx ⊢
      refine ⟨?_, by rw [setAt_length _ _ _ hle]; exact hx, by omega, fun j => setAt_get _ _ _ _ hle⟩
      unfold AV.ground
      rw [List.all_eq_true]
      intro y hy
      simp only [AV.cells] at hy
      unfold setAt at hy
      rw [List.mem_append, List.mem_append] at hy
      have hall := List.all_eq_true.1 hg
      rcases hy with (hy | hy) | hy
      · exact hall y (List.mem_of_mem_take hy)
      · exact hgs y hy
      · exact hall y (List.mem_of_mem_drop hy)
    · cases h
  · rename_i hne
    have e : x.cells = [x] := by cases x <;> first | rfl | exact absurd rfl (hne _)
    rw [e] at hx ⊢
    split at h
    · rename_i c
      split at h
      · rename_i h0
        injection h with h; subst h h0
        have hcg := hgs c (by simp)
        have ec : c.cells = [c] := by cases c <;> first | rfl | simp [AV.grCell] at hcg
        rw [ec]
        simp only [List.length_singleton] at hx ⊢
        refine ⟨by unfold AV.ground; rw [ec]; simp [hcg], hx, by omega, fun j => ?_⟩
        split
        · rename_i hj; rw [show j = 0 from by omega]
        · rename_i hj
          rw [List.getElem?_eq_none (by simp; omega), List.getElem?_eq_none (by simp; omega)]
      · cases h
    · cases h
theorem e_storeE {t : TypeId} {n id ver used i fo v s : Nat} {ap : Nat} {va vv : Value} {av x x' : AV} {l gs : List AV} (hn : szOf P t = some n) (h : SR X w0 N st a w H) (hd : ∀ k, d = some k → k < N) (ha : Rep (Stab X H w) w H va (.elt id ver used i fo)) (hv : Rep (Stab X H w) w H vv av)
    (hl : av.cells.length = n) (hc : av.cells.all AV.isCell = true) (hobj : (av.cells.foldl shutCell st.m)[id]? = some (.row v s l true ap)) (hver : v = ver) (hused : l.length = used) (hgs : frzCells st.m av.cells = some gs) (hx : l[i]? = some x) (hx' : setEl x fo gs = some x') :
    ∃ w' H', (Instr.storeAt t va vv).run P w = .ok () w' ∧ SR X w0 N ⟨putf d .any st.fr, (av.cells.foldl shutCell st.m).set id (.row v s (l.set i x') true ap)⟩ (a.put d undef) w' H' := by
  subst hver
  obtain ⟨H1, m1, hsh, hshut⟩ := shutCells_at av.cells st.m H h.mem
  have h1 : SR X w0 N ⟨st.fr, av.cells.foldl shutCell st.m⟩ a w H1 := h.shuts m1 hsh
  have ha1 := hsh.goes.rep ha
  cases ha1 with
  | elt id ver used i fo hs hH hle hvv =>
    rename_i b cap sz cver cused wr
    have hO := m1.obj _ _ _ hobj hH
    simp only [ObjAt] at hO
    obtain ⟨e1, e2, es, e3, e4, e5, e6, e7⟩ := hO
    have hvv' := hvv e1.symm (by omega)
    subst e1 e2 es
    obtain ⟨g1, rfl⟩ := hvv'
    have hcap : 0 < cap := by omega
    obtain ⟨cur, ty, fz, hh, hap, hfz, hsz, hrep⟩ := e5 hcap
    obtain ⟨⟨c1, c2⟩, c3⟩ := rep_cells hv hc
    have hvn : vv.cells.size = n := by omega
    have hvl : vv.cells.toList.length = n := by simp [hvn]
    obtain ⟨q1, q2⟩ := frzCells_get hgs
    have hgrep : ∀ (j : Nat) (y : AV), gs[j]? = some y → Rep (Stab X H1 w) w [] (vv.cells.getD j undef) y ∧ y.grCell = true := by
      intro j y hy
      obtain ⟨y0, hy0, hf⟩ := q2 j y hy
      refine frzCell_rep h.mem (c2 j y0 hy0) hf (fun b o q => (hsh.goes.stab b o q).1) fun id' ver' used' off' len' e b' cap' s' cver' cused' wr' hH' hc' hb' o ho => ?_
      exact shut_stab h.mem hsh h.xb (hshut y0 (List.mem_of_getElem? hy0) _ _ _ _ _ e) hH' hc' hb' ho
    obtain ⟨hg0, hl0⟩ := e6 _ _ hx
    obtain ⟨p1, p2, p3, p4⟩ := setEl_cells hx' hl0 hg0 (fun y hy => by
      obtain ⟨j, hj⟩ := List.mem_iff_getElem?.1 hy
      exact (hgrep j y hj).2)
    have hilt := (List.getElem?_eq_some_iff.1 hx).1
    have hbound : i * s + fo + n ≤ cur.size := by
      refine Nat.le_trans ?_ hsz
      have : (i + 1) * s ≤ cap * s := Nat.mul_le_mul_right _ (by omega)
      rw [Nat.add_mul, Nat.one_mul] at this
      omega
    have hrun := run_storeAt (P := P) (o := i * s + fo) hn hvn hh hfz hbound c3
    have hgo : Goes X w H1 (w.setRow b (cur.toList.take (i * s + fo) ++ vv.cells.toList ++ cur.toList.drop (i * s + fo + vv.cells.toList.length)).toArray) H1 := goes_write hH fun o => ⟨rfl, hcap, .inl rfl⟩
    refine ⟨_, H1, hrun, ?_⟩
    have hset := set_same hH
    have hblk : (Hd.row b cap s cver cused true).blk = some b := by simp [Hd.blk, hcap]
    have hmem := m1.upd (id := id) (k' := .row b cap s cver cused true) (o' := .row cver s (l.set i x') true ap) (w' := w.setRow b (cur.toList.take (i * s + fo) ++ vv.cells.toList ++ cur.toList.drop (i * s + fo + vv.cells.toList.length)).toArray) (by rw [hset]; exact hgo) (by simp [World.setRow])
      (fun j k b' hi hk hb' => setRow_other w b b' _ (fun e => hi (m1.apart j id k _ b' hk hH hb' (by rw [e]; exact hblk)))) (fun b' hb' => by
        rw [hblk] at hb'
        injection hb' with hb'
        subst hb'
        exact ⟨by simpa [World.setRow] using m1.lt _ _ b hH hblk, fun j k hi hk hkb => hi (m1.apart j id k _ b hk hH hkb hblk)⟩) (by
        rw [hset]
        simp only [ObjAt]
        refine ⟨trivial, trivial, trivial, by simpa using e3, e4, fun _ => ⟨_, ty, fz, setRow_heap w b cur _ ty _ hh, hap, fun k hk => hfz k (by rw [row_size _ _ _ (by simp; omega)] at hk; exact hk), by rw [row_size _ _ _ (by simp; omega)]; exact hsz, fun k z j y hz hy => ?_⟩, fun k z hz => ?_, e7⟩
        · rw [row_get _ _ _ _ (by simp; omega)]
          by_cases hki : k = i
          · subst hki
            rw [List.getElem?_set_self hilt] at hz
            injection hz with hz; subst hz
            rw [p4 j] at hy
            split at hy
            · rename_i hj
              rw [if_pos (by omega)]
              have := hgo.rep0 (hgrep _ _ hy).1
              rw [show k * s + j - (k * s + fo) = j - fo from by omega]
              simpa using this
            · rename_i hj
              rw [if_neg (by omega)]
              exact hgo.rep0 (hrep _ _ _ _ hx hy)
          · rw [List.getElem?_set_ne (Ne.symm hki)] at hz
            have hjl := (List.getElem?_eq_some_iff.1 hy).1
            have hjs : j < s := by have := (e6 _ _ hz).2; omega
            rw [if_neg ?_]
            · exact hgo.rep0 (hrep _ _ _ _ hz hy)
            · intro ⟨r1, r2⟩
              rcases Nat.lt_or_ge k i with hlt | hge
              · have : (k + 1) * s ≤ i * s := Nat.mul_le_mul_right _ hlt
                rw [Nat.add_mul, Nat.one_mul] at this; omega
              · have : (i + 1) * s ≤ k * s := Nat.mul_le_mul_right _ (by omega)
                rw [Nat.add_mul, Nat.one_mul] at this; omega
        · by_cases hki : k = i
          · subst hki
            rw [List.getElem?_set_self hilt] at hz
            injection hz with hz; subst hz
            exact ⟨p1, p2⟩
          · rw [List.getElem?_set_ne (Ne.symm hki)] at hz
            exact e6 _ _ hz)
    rw [hset] at hmem
    exact h1.go hd hgo hmem (fr_write h.grw (h1.new _ _ _ hH hblk)) h1.new (.any _ _)
end
end Go.Proofs.YtienfdjfochlcaaGreatDoor
end
section
namespace Go.Proofs.YtienfdjfochlcaaGreatDoor
set_option linter.unusedVariables false
set_option linter.unusedSimpArgs false
section
variable {P : Program} {X : Nat → Nat → Prop} {w0 : Base} {w w' : World} {N : Nat} {st : St} {a : Act} {m : List MObj} {H : List Hd} {d : Option Nat}
theorem elemsS_elems {sz : Nat} {av : AV} {l : List AV} (he : elemsS m sz av = some l) : elems m av = some l := by
 unfold elemsS at he
 unfold elems
 split at he
 ·split at he
  ·exact he
  ·cases he
 ·exact he
 ·split at he
  ·rename_i hobj
   split at he
   ·rename_i hc
    injection he with he
    simp [hobj, hc.1, hc.2.1, he]
   ·cases he
  ·cases he
 ·cases he
theorem elemsS_len {sz : Nat} {v : Value} {av : AV} {l : List AV} (hm : MemAt X w m H) (h : Rep (Stab X H w) w H v av) (he : elemsS m sz av = some l) : ∀ (i : Nat) (x : AV), l[i]? = some x → x.cells.length = sz := by
 intro i x hx
 unfold elemsS at he
 split at he
 ·rename_i s l'
  split at he
  ·rename_i hs
   injection he with he; subst he hs
   cases h with
   | slice b off _ u hc hz hA hsz hcell hrep => exact (hsz i x hx).2
  ·cases he
 ·injection he with he; subst he; simp at hx
 ·split at he
  ·rename_i hobj
   split at he
   ·rename_i hc
    injection he with he
    cases h with
    | row id ver used off len hs hH hle hvv =>
     have hO := hm.obj _ _ _ hobj hH
     simp only [ObjAt] at hO
     obtain ⟨_, _, es, _, _, _, e6, e7⟩ := hO
     have hmem := List.mem_of_getElem? hx
     rw [← he] at hmem
     obtain ⟨k, hk⟩ := List.mem_iff_getElem?.1 (List.mem_of_mem_drop (List.mem_of_mem_take hmem))
     rw [(e6 k x hk).2, ← es, hc.2.2]
   ·cases he
  ·cases he
 ·cases he
theorem rep_news {sz : Nat} (hsz : 0 < sz) {v : Value} {av : AV} {l : List AV} (hm : MemAt X w m H) (h : Rep (Stab X H w) w H v av) (he : elemsS m sz av = some l) :
    ∃ (A : Option Addr) (c : Nat) (news : List Value), v = .slice A l.length c ∧ (A = none → l = [] ∧ c = 0) ∧ news.length = l.length * sz ∧ (∀ b, A = some b → ∀ (j : Nat) (u : Value), news[j]? = some u → w.cell? (b.add j) = some u) ∧ (∀ u ∈ news, u.oneCell' = true) ∧
      (∀ (i : Nat) (x : AV), l[i]? = some x → x.ground = true ∧ x.cells.length = sz) ∧ ∀ (i : Nat) (x : AV) (j : Nat) (y : AV), l[i]? = some x → x.cells[j]? = some y → Rep (Stab X H w) w [] (news.getD (i * sz + j) undef) y := by
  obtain ⟨A, c, b, off, sz', u, rfl, hc, hz, hA, hs, hcell⟩ := (rep_elems hm h (elemsS_elems he)).ex
  have hlen := elemsS_len hm h he
  have hss : ∀ i : Nat, i < l.length → sz' = sz := by
    intro i hi
    have h1 := (hs i _ (List.getElem?_eq_getElem hi)).2
    have h2 := hlen i _ (List.getElem?_eq_getElem hi)
    omega
  have hn : ∀ k, k < l.length * sz → k / sz < l.length ∧ k % sz < sz := fun k hk => ⟨Nat.div_lt_of_lt_mul (by rw [Nat.mul_comm]; exact hk), Nat.mod_lt _ hsz⟩
  have hat : ∀ k, k < l.length * sz → ∃ y, (l[k / sz]?).bind (fun x => x.cells[k % sz]?) = some y ∧ w.cell? ⟨b, off + k, none⟩ = some (u (k / sz) (k % sz)) ∧ Rep (Stab X H w) w [] (u (k / sz) (k % sz)) y ∧ y.grCell = true := by
    intro k hk
    obtain ⟨h1, h2⟩ := hn k hk
    have hx := List.getElem?_eq_getElem h1
    have hcl := hlen _ _ hx
    have hy := List.getElem?_eq_getElem (l := (l[k / sz]).cells) (i := k % sz) (by omega)
    obtain ⟨g1, _, g3⟩ := hcell _ _ _ _ hx hy
    refine ⟨_, by rw [hx]; exact hy, ?_, g3, List.all_eq_true.1 (hs _ _ hx).1 _ (List.mem_of_getElem? hy)⟩
    rw [hss _ h1] at g1
    rw [← g1]
    congr 2
    have := Nat.div_add_mod k sz
    rw [Nat.mul_comm] at this
    omega
  refine ⟨A, c, (List.range (l.length * sz)).map fun k => u (k / sz) (k % sz), rfl, fun hA0 => ?_, by simp, fun ad had j v hv => ?_, fun v hv => ?_, fun i x hx => ⟨(hs i x hx).1, hlen i x hx⟩, fun i x j y hx hy => ?_⟩
  · have := hz hA0
    subst this
    refine ⟨List.eq_nil_of_length_eq_zero (by omega), rfl⟩
  · simp only [List.getElem?_map, Option.map_eq_some_iff] at hv
    obtain ⟨k, hk, rfl⟩ := hv
    have hkl := (List.getElem?_eq_some_iff.1 hk).1
    simp only [List.length_range] at hkl
    rw [List.getElem?_range hkl] at hk
    injection hk with hk; subst hk
    have hpos : 0 < l.length := Nat.lt_of_le_of_lt (Nat.zero_le _) (hn j hkl).1
    have := hA hpos
    rw [had] at this
    injection this with this; subst this
    obtain ⟨y, _, h2, _⟩ := hat j hkl
    rw [addr_add]; exact h2
  · obtain ⟨k, hk, rfl⟩ := List.mem_map.1 hv
    obtain ⟨y, _, _, h3, h4⟩ := hat k (List.mem_range.1 hk)
    exact (rep_one h3 (gr_isCell h4)).1
  · have hil := (List.getElem?_eq_some_iff.1 hx).1
    have hjl := (List.getElem?_eq_some_iff.1 hy).1
    have hj : j < sz := by have := hlen i x hx; omega
    have hk := mul_lt_of hil hj
    have e1 : (i * sz + j) / sz = i := by rw [Nat.mul_comm, Nat.mul_add_div hsz, Nat.div_eq_of_lt hj, Nat.add_zero]
    have e2 : (i * sz + j) % sz = j := by rw [Nat.mul_comm, Nat.mul_add_mod]; exact Nat.mod_eq_of_lt hj
    simp only [List.getD_eq_getElem?_getD, List.getElem?_map]
    rw [List.getElem?_range hk]
    simp only [Option.map_some, Option.getD_some, e1, e2]
    exact (hcell _ _ _ _ hx hy).2.2
theorem app_zero {t ty e : TypeId} (ht : P.underlying t = some (.slice e)) {sz : Nat} (hs : szOf P e = some sz) (A B : Option Addr) (n c c' : Nat) (hn : n ≤ c) (hB : B = none → c' = 0) (w : World) :
    (Builtin.append_ #[t, t] ty #[.slice A n c, .slice B 0 c']).run P w = .ok (.slice A n c) w := by
  have h1 : ∀ w, (Builtin.firstCells sz 0 (.slice B 0 c')).run P w = .ok #[] w := by
    intro w
    cases B with
    | none => simp [Builtin.firstCells]
    | some b => simp [Builtin.firstCells, loadCells, loadCellsFrom]
  cases A with
  | none => simp [Builtin.append_, run_underlying ht, run_szOf hs, Builtin.lenOf, hn, h1]
  | some b => simp [Builtin.append_, run_underlying ht, run_szOf hs, Builtin.lenOf, hn, h1, storeCells]
theorem app_room {t ty e : TypeId} (ht : P.underlying t = some (.slice e)) {sz : Nat} (hs : szOf P e = some sz) (g sLen sCap : Nat) (cur : Array Value) (ty' : TypeId) (fz : Nat × Nat) (hg : w.heap[g]? = some (.cells cur ty' fz)) (hz : ∀ k, k < cur.size → (decide (fz.1 ≤ k) && decide (k < fz.2)) = false)
    (b : Addr) (n c : Nat) (news : List Value) (hl : news.length = n * sz) (hnews : ∀ (j : Nat) (u : Value), news[j]? = some u → w.cell? (b.add j) = some u) (h1 : ∀ u ∈ news, u.oneCell' = true) (hroom : sLen + n ≤ sCap) (hfit : sLen * sz + news.length ≤ cur.size) :
    (Builtin.append_ #[t, t] ty #[.slice (some ⟨g, 0, none⟩) sLen sCap, .slice (some b) n c]).run P w =
      .ok (.slice (some ⟨g, 0, none⟩) (sLen + n) sCap) (w.setRow g (cur.toList.take (sLen * sz) ++ news ++ cur.toList.drop (sLen * sz + news.length)).toArray) := by
  have hf := run_firstCells_some (P := P) w sz n b n c news hl hnews
  have hst := run_storeCells_fz P g (sLen * sz) ty' fz news 0 cur w hg hz (by simpa using hfit) h1
  simp only [Nat.add_zero] at hst
  simp [Builtin.append_, run_underlying ht, run_szOf hs, Builtin.lenOf, hroom, hf, addr_add, hst]
theorem zeroCells_size (z : Array Value) (n : Nat) : (Builtin.zeroCells z n).size = n * z.size := by simp [Builtin.zeroCells]
theorem cat_rep {S : Nat → Nat → Prop} {sz : Nat} {olds news : List Value} {rest : Array Value} {l ly : List AV} (ho : olds.length = l.length * sz) (hn : news.length = ly.length * sz) (hsz : ∀ (i : Nat) (x : AV), (l ++ ly)[i]? = some x → x.cells.length = sz)
    (h1 : ∀ (i : Nat) (x : AV) (j : Nat) (y : AV), l[i]? = some x → x.cells[j]? = some y → Rep S w [] (olds.getD (i * sz + j) undef) y)
    (h2 : ∀ (i : Nat) (x : AV) (j : Nat) (y : AV), ly[i]? = some x → x.cells[j]? = some y → Rep S w [] (news.getD (i * sz + j) undef) y) :
    ∀ (i : Nat) (x : AV) (j : Nat) (y : AV), (l ++ ly)[i]? = some x → x.cells[j]? = some y → Rep S w [] ((olds.toArray ++ news.toArray ++ rest).getD (i * sz + j) undef) y := by
  intro i x j y hx hy
  have hjl := (List.getElem?_eq_some_iff.1 hy).1
  have hj : j < sz := by have := hsz i x hx; omega
  have hil := (List.getElem?_eq_some_iff.1 hx).1
  rw [List.length_append] at hil
  have hcat : (olds.toArray ++ news.toArray ++ rest).getD (i * sz + j) undef = (olds ++ news).getD (i * sz + j) undef := by
    have hlt : i * sz + j < (olds ++ news).length := by
      rw [List.length_append, ho, hn, ← Nat.add_mul]; exact mul_lt_of hil hj
    simp only [Array.getD_eq_getD_getElem?, List.getD_eq_getElem?_getD]
    rw [Array.getElem?_append_left (by simpa using hlt)]
    simp
  rw [hcat]
  rw [List.getElem?_append] at hx
  simp only [List.getD_eq_getElem?_getD]
  split at hx
  · rename_i hi
    rw [List.getElem?_append_left (by rw [ho]; exact mul_lt_of hi hj)]
    have := h1 i x j y hx hy
    simpa [List.getD_eq_getElem?_getD] using this
  · rename_i hi
    have hle : l.length * sz ≤ i * sz := Nat.mul_le_mul_right _ (by omega)
    rw [List.getElem?_append_right (by rw [ho]; omega), ho]
    have := h2 _ x j y hx hy
    rw [show i * sz + j - l.length * sz = (i - l.length) * sz + j from by rw [Nat.sub_mul]; omega]
    simpa [List.getD_eq_getElem?_getD] using this
theorem ext_drew_alloc (w : World) (o : Obj) : Ext w (w.drew.alloc o) := fun k hk => (MapKept.heap_alloc w.drew o).2 k hk
theorem heap_drew_alloc (w : World) (o : Obj) : (w.drew.alloc o).heap[w.heap.size]? = some o := heap_alloc_new w.drew o
theorem app_moved {id ver s b cap sz cver cused cap' ap : Nat} {wr wr' : Bool} {l ly : List AV} {cs : Array Value} {e : TypeId} (hap : ApOk ap e (0, 0)) (h : SR X w0 N st a w H) (hd : ∀ k, d = some k → k < N) (hobj : st.m[id]? = some (.row ver s l wr ap)) (hH : H[id]? = some (.row b cap sz cver cused wr'))
    (hly : 0 < ly.length) (hcap : l.length + ly.length ≤ cap') (hsz : cs.size = cap' * s) (hg : ∀ (i : Nat) (x : AV), (l ++ ly)[i]? = some x → x.ground = true ∧ x.cells.length = s)
    (hrep : ∀ (i : Nat) (x : AV) (j : Nat) (y : AV), (l ++ ly)[i]? = some x → x.cells[j]? = some y → Rep (Stab X H w) w [] (cs.getD (i * s + j) undef) y) :
    ∃ H', SR X w0 N ⟨putf d (.row id ver (l.length + ly.length) 0 (l.length + ly.length)) st.fr, st.m.set id (.row ver s (l ++ ly) wr ap)⟩ (a.put d (.slice (some ⟨w.heap.size, 0, none⟩) (l.length + ly.length) cap')) (w.drew.alloc (.cells cs e)) H' := by
  have hO := h.mem.obj _ _ _ hobj hH
  simp only [ObjAt] at hO
  obtain ⟨e1, e2, es, e3, e4, e5, e6, e7⟩ := hO
  subst e1 e2 es
  have hlt : id < H.length := (List.getElem?_eq_some_iff.1 hH).1
  have hext := ext_drew_alloc w (.cells cs e)
  have hsize : (w.drew.alloc (.cells cs e)).heap.size = w.heap.size + 1 := by simp
  have hcap0 : 0 < cap' := by omega
  have hgo : Goes X w H (w.drew.alloc (.cells cs e)) (H.set id (.row w.heap.size cap' s cver (l.length + ly.length) wr')) := by
    refine ⟨fun i k hk => ?_, fun b' o ⟨h1, h2, h3⟩ => ⟨⟨by omega, h2, fun ⟨i, k, hk, hmut⟩ => ?_⟩, hext.cell h1 o⟩⟩
    · by_cases hi : i = id
      · subst hi
        rw [hH] at hk; injection hk with hk; subst hk
        exact ⟨_, List.getElem?_set_self hlt, .inr (.inr ⟨rfl, by omega⟩)⟩
      · exact ⟨k, by rw [List.getElem?_set_ne (Ne.symm hi)]; exact hk, k.le_refl⟩
    · by_cases hi : i = id
      · subst hi
        rw [List.getElem?_set_self hlt] at hk
        injection hk with hk; subst hk
        have := Hd.mut_blk hmut
        simp only [Hd.blk, hcap0, if_true, Option.some.injEq] at this
        omega
      · rw [List.getElem?_set_ne (Ne.symm hi)] at hk
        exact h3 ⟨i, k, hk, hmut⟩
  have hblk : (Hd.row w.heap.size cap' s cver (l.length + ly.length) wr').blk = some w.heap.size := by simp [Hd.blk, hcap0]
  have hmem := h.mem.upd (id := id) (k' := .row w.heap.size cap' s cver (l.length + ly.length) wr') (o' := .row cver s (l ++ ly) wr' ap) hgo (by omega) (fun i k b' hi hk hb' => hext b' (h.mem.lt i k b' hk hb')) (fun b' hb' => by
    rw [hblk] at hb'
    injection hb' with hb'; subst hb'
    exact ⟨by omega, fun i k hi hk hkb => by have := h.mem.lt i k _ hk hkb; omega⟩) (by
    simp only [ObjAt]
    refine ⟨trivial, trivial, trivial, by simp, hcap, fun _ => ⟨cs, e, (0, 0), heap_drew_alloc w _, hap, fun _ _ => by simp, Nat.le_of_eq hsz.symm, fun i x j y hx hy => hgo.rep0 (hrep i x j y hx hy)⟩, hg, fun _ q => by omega⟩)
  refine ⟨_, h.go hd hgo hmem ?_ (fun i k b' hk hb' => ?_) ?_⟩
  · exact ⟨h.grw.os, h.grw.tape, h.grw.output, by have := h.grw.size; omega, fun k hk q => (hext k (by have := h.grw.size; omega)).trans (h.grw.block k hk q)⟩
  · by_cases hi : i = id
    · subst hi
      rw [List.getElem?_set_self hlt] at hk
      injection hk with hk; subst hk
      rw [hblk] at hb'
      injection hb' with hb'; subst hb'
      exact h.size
    · rw [List.getElem?_set_ne (Ne.symm hi)] at hk
      exact h.new i k b' hk hb'
  · exact .row id cver _ 0 _ ⟨_, _, _, rfl⟩ (List.getElem?_set_self hlt) (.inr ⟨rfl, Nat.le_refl _⟩) fun _ _ => ⟨by omega, hcap, some ⟨w.heap.size, 0, none⟩, rfl, fun _ => by simp, fun q => (by cases q), fun q => by omega⟩
theorem app_placed {id ver s b cap sz cver cused ap : Nat} {wr wr' : Bool} {l ly : List AV} {cur : Array Value} {ty : TypeId} {fz : Nat × Nat} {news : List Value} (h : SR X w0 N st a w H) (hd : ∀ k, d = some k → k < N) (hobj : st.m[id]? = some (.row ver s l wr ap)) (hH : H[id]? = some (.row b cap sz cver cused wr'))
    (hcap0 : 0 < cap) (hly : 0 < ly.length) (hcap : l.length + ly.length ≤ cap) (hh : w.heap[b]? = some (.cells cur ty fz)) (hap : ApOk ap ty fz) (hfz : ∀ k, k < cur.size → (decide (fz.1 ≤ k) && decide (k < fz.2)) = false) (hsz : cap * s ≤ cur.size) (hn : news.length = ly.length * s)
    (hg : ∀ (i : Nat) (x : AV), (l ++ ly)[i]? = some x → x.ground = true ∧ x.cells.length = s)
    (h1 : ∀ (i : Nat) (x : AV) (j : Nat) (y : AV), l[i]? = some x → x.cells[j]? = some y → Rep (Stab X H w) w [] (cur.getD (i * s + j) undef) y)
    (h2 : ∀ (i : Nat) (x : AV) (j : Nat) (y : AV), ly[i]? = some x → x.cells[j]? = some y → Rep (Stab X H w) w [] (news.getD (i * s + j) undef) y) :
    ∃ H', SR X w0 N ⟨putf d (.row id ver (l.length + ly.length) 0 (l.length + ly.length)) st.fr, st.m.set id (.row ver s (l ++ ly) wr ap)⟩ (a.put d (.slice (some ⟨b, 0, none⟩) (l.length + ly.length) cap))
      (w.setRow b (cur.toList.take (l.length * s) ++ news ++ cur.toList.drop (l.length * s + news.length)).toArray) H' := by
  have hO := h.mem.obj _ _ _ hobj hH
  simp only [ObjAt] at hO
  obtain ⟨e1, e2, es, e3, e4, e5, e6, e7⟩ := hO
  subst e1 e2 es
  have hlt : id < H.length := (List.getElem?_eq_some_iff.1 hH).1
  have hfit : l.length * s + news.length ≤ cur.size := by rw [hn, ← Nat.add_mul]; exact Nat.le_trans (Nat.mul_le_mul_right _ hcap) hsz
  have hbl := h.mem.lt _ _ b hH (by simp [Hd.blk, hcap0])
  generalize hw' : w.setRow b (cur.toList.take (l.length * s) ++ news ++ cur.toList.drop (l.length * s + news.length)).toArray = w'
  have hsize : w'.heap.size = w.heap.size := by rw [← hw']; simp [World.setRow]
  have hother : ∀ k, k ≠ b → w'.heap[k]? = w.heap[k]? := fun k hk => by rw [← hw']; exact setRow_other w b k _ hk
  have hself : w'.heap[b]? = some (.cells (cur.toList.take (l.length * s) ++ news ++ cur.toList.drop (l.length * s + news.length)).toArray ty fz) := by rw [← hw']; exact setRow_heap w b cur _ ty fz hh
  have hnsz : (cur.toList.take (l.length * s) ++ news ++ cur.toList.drop (l.length * s + news.length)).toArray.size = cur.size := row_size _ _ _ hfit
  have hgo : Goes X w H w' (H.set id (.row b cap s cver (l.length + ly.length) wr')) := by
    refine ⟨fun i k hk => ?_, fun b' o ⟨q1, q2, q3⟩ => ?_⟩
    · by_cases hi : i = id
      · subst hi
        rw [hH] at hk; injection hk with hk; subst hk
        exact ⟨_, List.getElem?_set_self hlt, .inr (.inr ⟨rfl, by omega⟩)⟩
      · exact ⟨k, by rw [List.getElem?_set_ne (Ne.symm hi)]; exact hk, k.le_refl⟩
    · have hold : b' = b → wr' = false ∧ o < cused * s := by
        intro e
        subst e
        cases wr' with
        | true => exact absurd ⟨id, _, hH, rfl, hcap0, .inl rfl⟩ q3
        | false =>
          refine ⟨rfl, ?_⟩
          rcases Nat.lt_or_ge o (cused * s) with q | q
          · exact q
          · exact absurd ⟨id, _, hH, rfl, hcap0, .inr q⟩ q3
      refine ⟨⟨by omega, q2, fun ⟨i, k, hk, hmut⟩ => ?_⟩, ?_⟩
      · by_cases hi : i = id
        · subst hi
          rw [List.getElem?_set_self hlt] at hk
          injection hk with hk; subst hk
          simp only [Hd.mut] at hmut
          obtain ⟨r1, r2⟩ := hold hmut.1
          subst r1
          rcases hmut.2.2 with q | q
          · cases q
          · have : cused * s ≤ (l.length + ly.length) * s := Nat.mul_le_mul_right _ (by omega)
            omega
        · rw [List.getElem?_set_ne (Ne.symm hi)] at hk
          exact q3 ⟨i, k, hk, hmut⟩
      · by_cases hbb : b' = b
        · subst hbb
          obtain ⟨_, r2⟩ := hold rfl
          have hos : o < cur.size := by
            refine Nat.lt_of_lt_of_le ?_ hsz
            have : cused * s ≤ cap * s := Nat.mul_le_mul_right _ e4
            omega
          rw [cell_getD hself (by rw [hnsz]; exact hos), cell_getD hh hos, row_get _ _ _ _ hfit, if_neg (by rw [e3] at r2; omega)]
        · exact World.cell?_of_block (hother b' hbb)
  have hblk : ∀ u, (Hd.row b cap s cver u wr').blk = some b := fun u => by simp [Hd.blk, hcap0]
  have hmem := h.mem.upd (id := id) (k' := .row b cap s cver (l.length + ly.length) wr') (o' := .row cver s (l ++ ly) wr' ap) hgo (by omega) (fun i k b' hi hk hb' => hother b' fun e => hi (h.mem.apart i id k _ b' hk hH hb' (by rw [e]; exact hblk _))) (fun b' hb' => by
    rw [hblk] at hb'
    injection hb' with hb'; subst hb'
    exact ⟨by omega, fun i k hi hk hkb => hi (h.mem.apart i id k _ b hk hH hkb (hblk _))⟩) (by
    simp only [ObjAt]
    refine ⟨trivial, trivial, trivial, by simp, hcap, fun _ => ⟨_, ty, fz, hself, hap, fun k hk => hfz k (by rw [hnsz] at hk; exact hk), by rw [hnsz]; exact hsz, fun i x j y hx hy => ?_⟩, hg, fun _ q => by omega⟩
    have hjl := (List.getElem?_eq_some_iff.1 hy).1
    have hj : j < s := by have := (hg i x hx).2; omega
    rw [row_get _ _ _ _ hfit]
    rw [List.getElem?_append] at hx
    split at hx
    · rename_i hi
      rw [if_neg (by have := mul_lt_of (sz := s) hi hj; omega)]
      exact hgo.rep0 (h1 i x j y hx hy)
    · rename_i hi
      have hil := (List.getElem?_eq_some_iff.1 hx).1
      have q1 : l.length * s ≤ i * s := Nat.mul_le_mul_right _ (by omega)
      have q2 := mul_lt_of (sz := s) hil hj
      rw [Nat.sub_mul] at q2
      rw [if_pos (by omega), show i * s + j - l.length * s = (i - l.length) * s + j from by rw [Nat.sub_mul]; omega]
      exact hgo.rep0 (h2 _ x j y hx hy))
  refine ⟨_, h.go hd hgo hmem ?_ (fun i k b' hk hb' => ?_) ?_⟩
  · rw [← hw']; exact fr_write h.grw (h.new _ _ _ hH (hblk _))
  · by_cases hi : i = id
    · subst hi
      rw [List.getElem?_set_self hlt] at hk
      injection hk with hk; subst hk
      rw [hblk] at hb'
      injection hb' with hb'; subst hb'
      exact h.new _ _ _ hH (hblk _)
    · rw [List.getElem?_set_ne (Ne.symm hi)] at hk
      exact h.new i k b' hk hb'
  · exact .row id cver _ 0 _ ⟨_, _, _, rfl⟩ (List.getElem?_set_self hlt) (.inr ⟨rfl, Nat.le_refl _⟩) fun _ _ => ⟨by omega, hcap, some ⟨b, 0, none⟩, rfl, fun _ => by simp, fun q => (by cases q), fun q => by omega⟩
end
end Go.Proofs.YtienfdjfochlcaaGreatDoor
end
section
namespace Go.Proofs.YtienfdjfochlcaaGreatDoor
set_option linter.unusedVariables false
set_option linter.unusedSimpArgs false
section
variable {P : Program} {X : Nat → Nat → Prop} {w0 : Base} {w w' : World} {N : Nat} {st : St} {a : Act} {m : List MObj} {H : List Hd} {d : Option Nat}
theorem info_of {e : TypeId} {sz bytes : Nat} {z : Value} (hs : szOf P e = some sz) (hz : zeOf P e = some z) (hby : byOf P e = some bytes) : ∃ i, P.info? e = some i ∧ i.size = sz ∧ i.zero = some z ∧ i.bytes = bytes := by
 unfold szOf at hs; unfold zeOf at hz; unfold byOf at hby
 simp only [Option.map_eq_some_iff, Option.bind_eq_some_iff] at hs hz hby
 obtain ⟨i, hi, rfl⟩ := hs
 obtain ⟨i', hi', hz⟩ := hz
 rw [hi] at hi'; injection hi' with hi'; subst hi'
 obtain ⟨i', hi', rfl⟩ := hby
 rw [hi] at hi'; injection hi' with hi'; subst hi'
 exact ⟨i, hi, rfl, hz, rfl⟩
theorem e_appNil {t ty e : TypeId} {sz bytes ak : Nat} (hae : 2 ≤ ak → e = ak - 2) {z vy : Value} {ay : AV} {ly : List AV} (ht : P.underlying t = some (.slice e)) (hs : szOf P e = some sz) (h0 : 0 < sz) (hz : zeOf P e = some z) (hzs : z.cells.size = sz) (hby : byOf P e = some bytes) (h : SR X w0 N st a w H) (hd : ∀ k, d = some k → k < N)
    (ry : Rep (Stab X H w) w H vy ay) (hly : elemsS st.m sz ay = some ly) (hb : ly.length * bytes ≤ 140737488355328) (hm : ly.length ≤ maxLen) :
    ∃ v w' H', (Builtin.append_ #[t, t] ty #[.slice none 0 0, vy]).run P w = .ok v w' ∧ SR X w0 N ⟨putf d (.row st.m.length 0 ly.length 0 ly.length) st.fr, st.m ++ [.row 0 sz ly true ak]⟩ (a.put d v) w' H' := by
  obtain ⟨A, c, news, rfl, hA, hn, hcell, hone, hg, hrep⟩ := rep_news h0 h.mem ry hly
  by_cases hl : ly.length = 0
  · have : ly = [] := List.eq_nil_of_length_eq_zero hl
    subst this
    have hrun := app_zero (P := P) (ty := ty) ht hs none A 0 0 c (Nat.le_refl _) (fun q => (hA q).2) w
    exact ⟨_, _, _, hrun, e_nilrow sz h hd⟩
  · obtain ⟨b, hb'⟩ : ∃ b, A = some b := by
      cases A with
      | none => exact absurd (by rw [(hA rfl).1]; rfl) hl
      | some b => exact ⟨b, rfl⟩
    subst hb'
    obtain ⟨i, hi, h1, h2, h3⟩ := info_of hs hz hby
    have hrun := run_append_nil (P := P) w t ty e i z ht hi h2 b ly.length c news (by rw [h1]; exact hn) (hcell b rfl) (by omega) (by have := hm; unfold maxLen at this; omega) (by rw [h3]; omega)
    have hge := grownCap_ge w ly.length 0 e
    generalize grownCap w ly.length 0 e = cap' at *
    refine ⟨_, _, H ++ [.row w.heap.size cap' sz 0 ly.length true], hrun, ?_⟩
    have hext := ext_drew_alloc w (.cells (news.toArray ++ Builtin.zeroCells z.cells (cap' - ly.length)) e)
    have hfr : Fr (fun _ => False) w (w.drew.alloc (.cells (news.toArray ++ Builtin.zeroCells z.cells (cap' - ly.length)) e)) := ⟨rfl, rfl, rfl, by simp, fun k hk _ => hext k hk⟩
    have hcap : 0 < cap' := by omega
    refine h.newObj hd hext (by simp) hfr (fun b hb => by
      simp only [Hd.blk, hcap, if_true, Option.some.injEq] at hb
      subst hb; simp) ?_ ?_
    · have hsz2 : (news.toArray ++ Builtin.zeroCells z.cells (cap' - ly.length)).size = cap' * sz := by
        rw [Array.size_append, zeroCells_size, hzs]
        simp only [List.size_toArray, hn, ← Nat.add_mul]
        congr 1; omega
      refine ⟨rfl, rfl, rfl, rfl, hge, fun _ => ⟨_, e, (0, 0), heap_drew_alloc w _, ⟨fun _ => rfl, hae⟩, fun _ _ => by simp, Nat.le_of_eq hsz2.symm, fun k x j y hx hy => ?_⟩, hg, fun _ q => by omega⟩
      have hj : j < sz := by have := (hg k x hx).2; have := (List.getElem?_eq_some_iff.1 hy).1; omega
      have hlt : k * sz + j < news.length := by rw [hn]; exact mul_lt_of (List.getElem?_eq_some_iff.1 hx).1 hj
      have e1 : (news.toArray ++ Builtin.zeroCells z.cells (cap' - ly.length)).getD (k * sz + j) undef = news.getD (k * sz + j) undef := by
        simp only [Array.getD_eq_getD_getElem?]
        rw [Array.getElem?_append_left (by simpa using hlt)]
        simp [List.getD_eq_getElem?_getD]
      rw [e1]
      exact (goes_new (h := .row w.heap.size cap' sz 0 ly.length true) hext (by simp) (fun b hb => by
        simp only [Hd.blk, hcap, if_true, Option.some.injEq] at hb
        omega)).rep0 (hrep k x j y hx hy)
    · rw [← h.mem.len]
      exact .row _ 0 _ 0 _ ⟨_, _, _, rfl⟩ (snoc_last _ _) (.inr ⟨rfl, Nat.le_refl _⟩) fun _ _ => ⟨by omega, hge, some ⟨w.heap.size, 0, none⟩, rfl, fun q => by simp, fun q => (by cases q), fun q => by omega⟩
theorem e_appRow {t ty e : TypeId} {sz bytes id ver used v s ap ak : Nat} (hfl : apFit ap ak = true) (hae : 2 ≤ ak → e = ak - 2) {z vx vy : Value} {ay : AV} {l ly : List AV} {wr : Bool} (ht : P.underlying t = some (.slice e)) (hs : szOf P e = some sz) (h0 : 0 < sz) (hz : zeOf P e = some z) (hzs : z.cells.size = sz) (hby : byOf P e = some bytes) (h : SR X w0 N st a w H) (hd : ∀ k, d = some k → k < N)
    (rx : Rep (Stab X H w) w H vx (.row id ver used 0 used)) (ry : Rep (Stab X H w) w H vy ay) (hly : elemsS st.m sz ay = some ly) (hobj : st.m[id]? = some (.row v s l wr ap)) (hv : v = ver) (hu : l.length = used) (hss : s = sz) (hb : (used + ly.length) * bytes ≤ 140737488355328) (hm : used + ly.length ≤ maxLen) :
    ∃ vr w' H', (Builtin.append_ #[t, t] ty #[vx, vy]).run P w = .ok vr w' ∧ SR X w0 N ⟨putf d (.row id ver (used + ly.length) 0 (used + ly.length)) st.fr, st.m.set id (.row v s (l ++ ly) wr ap)⟩ (a.put d vr) w' H' := by
  subst hv hu hss
  obtain ⟨A, c, news, rfl, hA, hn, hcell, hone, hg, hrep⟩ := rep_news h0 h.mem ry hly
  have rx' := rx
  cases rx with
  | row id ver used off len hsl hH hle hvv =>
    rename_i b cap sz' cver cused wr'
    have hO := h.mem.obj _ _ _ hobj hH
    simp only [ObjAt] at hO
    obtain ⟨e1, e2, es, e3, e4, e5, e6, e7⟩ := hO
    have hvv' := hvv e1.symm (by omega)
    subst e1 e2 es
    obtain ⟨_, g2, A2, rfl, g3, g4, g4n⟩ := hvv'
    simp only [Nat.sub_zero] at g3 g4 g4n hle hvv rx' ⊢
    by_cases hl : ly.length = 0
    · have : ly = [] := List.eq_nil_of_length_eq_zero hl
      subst this
      have hrun := app_zero (P := P) (ty := ty) ht hs A2 A l.length cap c g2 (fun q => (hA q).2) w
      refine ⟨_, _, H, hrun, ?_⟩
      simp only [List.length_nil, Nat.add_zero, List.append_nil]
      have hset : st.m.set id (.row cver s l wr' ap) = st.m := set_same hobj
      rw [hset]
      exact h.pure hd rx'
    · obtain ⟨ad, hb'⟩ : ∃ b, A = some b := by
        cases A with
        | none => exact absurd (by rw [(hA rfl).1]; rfl) hl
        | some b => exact ⟨b, rfl⟩
      subst hb'
      obtain ⟨i, hi, h1, h2, h3⟩ := info_of hs hz hby
      subst h1 h3
      have hlp : 0 < ly.length := Nat.pos_of_ne_zero hl
      have hmax : l.length + ly.length ≤ 9223372036854775807 := by have := hm; unfold maxLen at this; omega
      have hgg : ∀ (k : Nat) (x : AV), (l ++ ly)[k]? = some x → x.ground = true ∧ x.cells.length = i.size := by
        intro k x hx
        rw [List.getElem?_append] at hx
        split at hx
        · exact e6 k x hx
        · exact hg _ x hx
      by_cases hroom : l.length + ly.length ≤ cap
      · have hcap0 : 0 < cap := by omega
        obtain ⟨cur, ty', fz, hh, hap, hfz, hsz, hold⟩ := e5 hcap0
        obtain rfl := g3 (by omega)
        simp only [Nat.zero_mul] at rx' ⊢
        have hrun := app_room (P := P) (ty := ty) ht hs b l.length cap cur ty' fz hh hfz ad ly.length c news hn (hcell ad rfl) hone hroom (by rw [hn, ← Nat.add_mul]; exact Nat.le_trans (Nat.mul_le_mul_right _ hroom) hsz)
        obtain ⟨H', hsr⟩ := app_placed h hd hobj hH hcap0 hlp hroom hh hap hfz hsz hn hgg hold hrep
        exact ⟨_, _, H', hrun, hsr⟩
      · have hfit := growslice_fits (need := l.length + ly.length) (old := cap) (by omega) hb
        have hge := grownCap_ge w (l.length + ly.length) cap e
        have grow : ∀ (olds : List Value), olds.length = l.length * i.size → (∀ (k : Nat) (x : AV) (j : Nat) (y : AV), l[k]? = some x → x.cells[j]? = some y → Rep (Stab X H w) w [] (olds.getD (k * i.size + j) undef) y) →
            ∃ H', SR X w0 N ⟨putf d (.row id cver (l.length + ly.length) 0 (l.length + ly.length)) st.fr, st.m.set id (.row cver i.size (l ++ ly) wr' ap)⟩ (a.put d (.slice (some ⟨w.heap.size, 0, none⟩) (l.length + ly.length) (grownCap w (l.length + ly.length) cap e)))
              (w.drew.alloc (.cells (olds.toArray ++ news.toArray ++ Builtin.zeroCells z.cells (grownCap w (l.length + ly.length) cap e - (l.length + ly.length))) e)) H' := by
          intro olds ho hor
          refine app_moved (apFit_ok hfl hae) h hd hobj hH hlp hge ?_ hgg (cat_rep ho hn (fun k x hx => (hgg k x hx).2) hor hrep)
          rw [Array.size_append, Array.size_append, zeroCells_size, hzs]
          simp only [List.size_toArray, ho, hn, ← Nat.add_mul]
          congr 1; omega
        rcases A2 with _ | ad2
        · have hc0 := g4 rfl
          subst hc0
          have hl0 : l = [] := List.eq_nil_of_length_eq_zero (by omega)
          subst hl0
          simp only [List.length_nil, Nat.zero_add] at *
          have hrun := run_append_nil (P := P) w t ty e i z ht hi h2 ad ly.length c news hn (hcell ad rfl) (by omega) (by omega) (by omega)
          obtain ⟨H', hsr⟩ := grow [] (by simp) (fun k x j y hx => by simp at hx)
          simp only [List.nil_append, Array.empty_append] at hsr
          exact ⟨_, _, H', hrun, by simpa using hsr⟩
        · have holds : ∃ olds : List Value, olds.length = l.length * i.size ∧ (∀ (j : Nat) (u : Value), olds[j]? = some u → w.cell? (ad2.add j) = some u) ∧ ∀ (k : Nat) (x : AV) (j : Nat) (y : AV), l[k]? = some x → x.cells[j]? = some y → Rep (Stab X H w) w [] (olds.getD (k * i.size + j) undef) y := by
            by_cases hcap0 : 0 < cap
            · obtain ⟨cur, ty', fz, hh, hap, hfz, hsz, hold⟩ := e5 hcap0
              have := g3 hcap0
              injection this with this; subst this
              have hle2 : l.length * i.size ≤ cur.size := Nat.le_trans (Nat.mul_le_mul_right _ g2) hsz
              refine ⟨cur.toList.take (l.length * i.size), by simp; omega, fun j u hu => ?_, fun k x j y hx hy => ?_⟩
              · have hj := (List.getElem?_eq_some_iff.1 hu).1
                simp only [List.length_take] at hj
                rw [List.getElem?_take, if_pos (by omega), Array.getElem?_toList] at hu
                rw [addr_add, Nat.zero_mul, Nat.zero_add, cell_getD hh (by omega), Array.getD_eq_getD_getElem?, hu]; rfl
              · have hj : j < i.size := by have := (e6 k x hx).2; have := (List.getElem?_eq_some_iff.1 hy).1; omega
                have hlt := mul_lt_of (sz := i.size) (List.getElem?_eq_some_iff.1 hx).1 hj
                have e1 : (cur.toList.take (l.length * i.size)).getD (k * i.size + j) undef = cur.getD (k * i.size + j) undef := by
                  simp only [List.getD_eq_getElem?_getD, Array.getD_eq_getD_getElem?]
                  rw [List.getElem?_take, if_pos hlt, Array.getElem?_toList]
                rw [e1]; exact hold k x j y hx hy
            · have hl0 : l = [] := List.eq_nil_of_length_eq_zero (by omega)
              subst hl0
              exact ⟨[], by simp, fun j u hu => by simp at hu, fun k x j y hx => by simp at hx⟩
          obtain ⟨olds, ho1, ho2, ho3⟩ := holds
          have hrun := run_append_grow (P := P) w t ty e i z ht hi h2 ad2 l.length cap olds ho1 ho2 ad ly.length c news hn (hcell ad rfl) (by omega) (by omega) hfit
          obtain ⟨H', hsr⟩ := grow olds ho1 ho3
          exact ⟨_, _, H', hrun, hsr⟩
theorem rptr_any {S S' : Nat → Nat → Prop} {H H' : List Hd} {v : Value} {l : List AV} (hS : ∀ b o, S b o → S' b o) (h : Rep S w H v (.rptr l)) : Rep S' w H' v (.rptr l) := by
 cases h with
 | rptr b o u hg hcell hrep => exact .rptr b o u hg (fun j y h2 => ⟨(hcell j y h2).1, hS _ _ (hcell j y h2).2⟩) fun j y h2 => (hrep j y h2).mono (fun b o q => ⟨hS b o q, rfl⟩) (HLe.refl _)
theorem GR.to {S S' : Nat → Nat → Prop} {H H' : List Hd} (hS : ∀ b o, S b o → S' b o) (h : GR S w H) : GR S' w H' := ⟨fun g l e => ⟨rptr_any hS (h g l e).1, fun o ho => ⟨hS _ _ ((h g l e).2 o ho).1, ((h g l e).2 o ho).2⟩⟩, fun g e => by
 obtain ⟨m, h1, h2⟩ := h.i g e
 exact ⟨m, h1, hS _ _ h2⟩⟩
def CallOk (P : Program) (f : FuncId) (args : List AV) (r : AV) : Prop :=
 ∀ (X : Nat → Nat → Prop) (w : World) (vs : Array Value), (∀ b o, X b o → b < w.heap.size) → GR (Stab X [] w) w [] → RepL (Stab X [] w) w [] vs args →
  Calls P f vs w fun e w' => ∃ v, e = .returned v ∧ Rep (Stab X [] w') w' [] v r ∧ Fr (fun _ => False) w w'
def CallOkM (P : Program) (f : FuncId) (args : List AV) (m : List MObj) (r : AV) (m' : List MObj) : Prop :=
 (∃ fn, P.funcs[f]? = some fn ∧ fn.body.isSome = true ∧ (fn.name == "runtime.NumGoroutine") = false) ∧
 ∀ (X : Nat → Nat → Prop) (o w : World) (H : List Hd) (vs : Array Value), MemAt X w m H → Fr (fun _ => False) o w → (∀ (i : Nat) (h : Hd) (b : Nat), H[i]? = some h → h.blk = some b → o.heap.size ≤ b) →
  (∀ b q, X b q → b < o.heap.size) → GR (Stab X H w) w H → RepL (Stab X H w) w H vs args →
  Calls P f vs w fun e w' => ∃ v H', e = .returned v ∧ Rep (Stab X H' w') w' H' v r ∧ MemAt X w' m' H' ∧ Fr (fun _ => False) o w' ∧ (∀ (i : Nat) (h : Hd) (b : Nat), H'[i]? = some h → h.blk = some b → o.heap.size ≤ b) ∧ Goes X w H w' H'
def CallsOk (P : Program) (call : CallF) : Prop :=
 (∀ f vs r, call.f f vs = some r → CallOk P f vs r) ∧ ∀ f vs m r m', call.m f vs m = some (r, m') → CallOkM P f vs m r m'
theorem e_callM {f : FuncId} {args : Array Value} {vs : List AV} {r : AV} {m' : List MObj} (h : SR X w0 N st a w H) (hd : ∀ k, d = some k → k < N) (hvs : RepL (Stab X H w) w H args vs) (hc : CallOkM P f vs st.m r m') :
    Calls P f args w fun e w' => ∃ v H', e = .returned v ∧ SR X w0 N ⟨putf d r st.fr, m'⟩ (a.put d v) w' H' :=
  (hc.2 X w0.o w H args h.mem h.grw h.new h.old h.frm.g hvs).mono fun _ _ ⟨v, H', he, hr, hm, hf, hn, hg⟩ => ⟨v, H', he, h.go hd hg hm hf hn hr⟩
theorem rep_flat {S S' : Nat → Nat → Prop} {v : Value} {r : AV} (h : Rep S w [] v r) (hf : r.flat = true) (H' : List Hd) : Rep S' w' H' v r := by
 have cell : ∀ {v y}, Rep S w [] v y → y.flatCell = true → Rep S' w' H' v y := by
  intro v y h hy
  cases h <;> simp [AV.flatCell] at hy
  exact .val _ _
 by_cases ha : ∃ l, r = .agg l
 ·obtain ⟨l, rfl⟩ := ha
  obtain ⟨cs, rfl, hn, hc⟩ := rep_agg h
  exact .agg hn fun i y hy => cell (hc i y hy) (List.all_eq_true.1 hf y (List.mem_of_getElem? hy))
 ·refine cell h ?_
  cases r <;> first | exact hf | exact absurd ⟨_, rfl⟩ ha
theorem rep_flatT {S S' : Nat → Nat → Prop} {v : Value} {r : AV} (h : Rep S w [] v r) (hf : r.flatT = true) (H' : List Hd) : Rep S' w' H' v r := by
 by_cases ha : ∃ l, r = .tuple l
 ·obtain ⟨l, rfl⟩ := ha
  obtain ⟨cs, rfl, hn, hc⟩ := rep_tuple h
  exact .tuple hn fun i y hy => rep_flat (hc i y hy) (List.all_eq_true.1 hf y (List.mem_of_getElem? hy)) H'
 ·refine rep_flat h ?_ H'
  cases r <;> first | exact hf | exact absurd ⟨_, rfl⟩ ha
theorem rep_noH {S : Nat → Nat → Prop} {v : Value} {r : AV} (h : Rep S w [] v r) (H' : List Hd) : Rep S w H' v r := h.mono (fun _ _ q => ⟨q, rfl⟩) (HLe.nil _)
theorem frzL_get : ∀ {l l' : List AV}, frzL m l = some l' → l'.length = l.length ∧ ∀ (i : Nat) (y' : AV), l'[i]? = some y' → ∃ y, l[i]? = some y ∧ frz m y = some y'
 | [], l', h => by simp [frzL] at h; subst h; simp
 | x :: r, l', h => by
  simp only [frzL] at h
  split at h
  ·rename_i a b ha hb
   injection h with h; subst h
   obtain ⟨h1, h2⟩ := frzL_get hb
   refine ⟨by simp [h1], fun i y' hy => ?_⟩
   cases i with
   | zero => simp at hy; subst hy; exact ⟨x, rfl, ha⟩
   | succ i => simp at hy ⊢; exact h2 i y' hy
  ·cases h
theorem e_call {f : FuncId} {args : Array Operand} {vs : List AV} {r : AV} (h : SR X w0 N st a w H) (hd : ∀ k, d = some k → k < N) (hvs : frzL st.m (args.toList.map (evA st.fr)) = some vs) (hc : CallOk P f vs r) :
    Calls P f (args.map a.eval) w fun e w' => ∃ v H', e = .returned v ∧ SR X w0 N ⟨putf d r st.fr, if r.flatT then st.m else (args.toList.map (evA st.fr)).foldl shutV st.m⟩ (a.put d v) w' H' := by
  obtain ⟨H1, m1, hsh, hshut⟩ := shutVs_at (args.toList.map (evA st.fr)) st.m H h.mem
  have h1 : SR X w0 N ⟨st.fr, (args.toList.map (evA st.fr)).foldl shutV st.m⟩ a w H1 := h.shuts m1 hsh
  have hX' : ∀ b o, (X b o ∨ Mut H1 b o) → b < w.heap.size := by
    rintro b o (hx | ⟨i, k, hk, hmut⟩)
    · have := h.old b o hx; have := h.size; omega
    · exact m1.lt i k b hk (Hd.mut_blk hmut)
  have hstab : ∀ b o, Stab X H1 w b o ↔ Stab (fun b o => X b o ∨ Mut H1 b o) [] w b o := by
    intro b o
    unfold Stab
    have : ¬ Mut [] b o := by rintro ⟨i, k, hk, _⟩; simp at hk
    simp only [this, not_false_eq_true, and_true, not_or]
  obtain ⟨hl, hget⟩ := frzL_get hvs
  have hargs : RepL (Stab (fun b o => X b o ∨ Mut H1 b o) [] w) w [] (args.map a.eval) vs := by
    refine ⟨by simp [hl], fun i y hy => ?_⟩
    obtain ⟨y0, hy0, hf⟩ := hget i y hy
    simp only [List.getElem?_map, Option.map_eq_some_iff, Array.getElem?_toList] at hy0
    obtain ⟨x, hx, rfl⟩ := hy0
    have e : (args.map a.eval).getD i undef = a.eval x := by simp [Array.getD_eq_getD_getElem?, hx]
    rw [e]
    refine (frz_rep h.mem (rep_ev h.frm x) hf (fun b o q => (hstab b o).1 (hsh.goes.stab b o q).1) fun zc hzc id ver used off len e b cap s cver cused wr hH hc hb o ho => ?_).1
    exact (hstab b o).1 (shut_stab h.mem hsh h.xb (hshut _ (List.mem_map.2 ⟨x, List.mem_of_getElem? (by rw [Array.getElem?_toList]; exact hx), rfl⟩) zc hzc _ _ _ _ _ e) hH hc hb ho)
  refine (hc _ w _ hX' (h1.frm.g.to fun b o q => (hstab b o).1 q) hargs).mono fun e w' ⟨v, he, hrv, hfr⟩ => ?_
  have hext : Ext w w' := fun k hk => hfr.block k hk fun q => q
  by_cases hflat : r.flatT = true
  · refine ⟨v, H, he, ?_⟩
    rw [if_pos hflat]
    exact h.go hd (goes_ext hext hfr.size) (h.mem.ext hext hfr.size) (h.grw.trans hfr fun _ q => q.elim) h.new (rep_flatT hrv hflat H)
  · refine ⟨v, H1, he, ?_⟩
    rw [if_neg hflat]
    refine h1.go hd (goes_ext hext hfr.size) (m1.ext hext hfr.size) (h.grw.trans hfr fun _ q => q.elim) h1.new (rep_noH (hrv.mono (fun b o q => ⟨?_, rfl⟩) (HLe.refl _)) H1)
    obtain ⟨q1, q2, q3⟩ := q
    exact ⟨q1, fun hx => q2 (.inl hx), fun hm => q2 (.inr hm)⟩
end
end Go.Proofs.YtienfdjfochlcaaGreatDoor
end
