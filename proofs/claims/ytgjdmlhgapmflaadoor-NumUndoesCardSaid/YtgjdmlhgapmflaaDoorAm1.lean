/- The abstract machine: its values, its memory, and what a value of it says of a value of the model. No program is named here. -/
import Derived.Calls
import Derived.Orders
import Derived.RowKit
import Derived.IntWalk
import Derived.Laws.Cells
import Derived.Laws.AppendOwn
import Derived.Laws.CopyRow
import Derived.Test.YtgjdmlhgapmflaaDoorMem
namespace Go.Proofs.YtgjdmlhgapmflaaDoor
set_option linter.unusedVariables false
set_option linter.unusedSimpArgs false

inductive AV where
  | any
  | val (v : Value)
  | agg (l : List AV)
  | tuple (l : List AV)
  | slice (sz : Nat) (l : List AV)
  | row (id ver used off len : Nat)
  | ptr (id off : Nat)
  | elt (id ver used i fo : Nat)
  | rptr (l : List AV)
  | fn (f : Fn) (first caps : List AV)
  | mp (id : Nat)
  | nif

/-- the cells of a value -/
def AV.cells : AV → List AV
  | .agg l => l
  | v => [v]
/-- one cell that may be stored: no aggregate, nothing unknown -/
def AV.isCell : AV → Bool
  | .val (.agg _) | .val (.tuple _) | .any | .agg _ | .tuple _ => false
  | _ => true
/-- a cell without a handle -/
def AV.grCell : AV → Bool
  | .val (.agg _) | .val (.tuple _) => false
  | .val _ | .slice _ _ | .nif => true
  | _ => false
/-- a value without a handle, whose cells may be stored -/
def AV.ground (v : AV) : Bool := v.cells.all AV.grCell

inductive MObj where
  | box (cells : List AV)
  | row (ver sz : Nat) (l : List AV) (wr ap : Bool)
  | mp (es : List (Value × AV))
  | dead

/-- where an object lies -/
inductive Hd where
  | box (b n : Nat)
  | row (b cap sz ver used : Nat) (wr : Bool)
  | mp (b : Nat)
  | dead

/-- the cells that may be written through an object -/
def Hd.mut : Hd → Nat → Nat → Prop
  | .box b' _, b, _ => b = b'
  | .row b' cap sz _ used wr, b, o => b = b' ∧ 0 < cap ∧ (wr = true ∨ used * sz ≤ o)
  | .mp b', b, _ => b = b'
  | .dead, _, _ => False

def Mut (H : List Hd) (b o : Nat) : Prop := ∃ (i : Nat) (h : Hd), H[i]? = some h ∧ h.mut b o
/-- the cells that nobody writes any more -/
def Stab (X : Nat → Nat → Prop) (H : List Hd) (w : World) (b o : Nat) : Prop := b < w.heap.size ∧ ¬ X b o ∧ ¬ Mut H b o

/-- what an abstract value says of a value of the model; S: the cells that stay as they are -/
inductive Rep (S : Nat → Nat → Prop) (w : World) : List Hd → Value → AV → Prop
  | any (H v) : Rep S w H v .any
  | val (H v) : Rep S w H v (.val v)
  | agg {H : List Hd} {cs : Array Value} {l : List AV} (hn : cs.size = l.length) (h : ∀ (i : Nat) (y : AV), l[i]? = some y → Rep S w H (cs.getD i undef) y) : Rep S w H (.agg cs) (.agg l)
  | tuple {H : List Hd} {cs : Array Value} {l : List AV} (hn : cs.size = l.length) (h : ∀ (i : Nat) (y : AV), l[i]? = some y → Rep S w H (cs.getD i undef) y) : Rep S w H (.tuple cs) (.tuple l)
  | slice {H : List Hd} {A : Option Addr} {c : Nat} {l : List AV} (b off sz : Nat) (u : Nat → Nat → Value) (hc : l.length ≤ c) (hz : A = none → c = 0) (hA : 0 < l.length → A = some ⟨b, off, none⟩)
      (hsz : ∀ (i : Nat) (x : AV), l[i]? = some x → x.ground = true ∧ x.cells.length = sz)
      (hcell : ∀ (i : Nat) (x : AV) (j : Nat) (y : AV), l[i]? = some x → x.cells[j]? = some y → w.cell? ⟨b, off + i * sz + j, none⟩ = some (u i j) ∧ S b (off + i * sz + j))
      (hrep : ∀ (i : Nat) (x : AV) (j : Nat) (y : AV), l[i]? = some x → x.cells[j]? = some y → Rep S w [] (u i j) y) : Rep S w H (.slice A l.length c) (.slice sz l)
  | rptr {H : List Hd} {l : List AV} (b o : Nat) (u : Nat → Value) (hg : ∀ (j : Nat) (y : AV), l[j]? = some y → y.grCell = true) (hcell : ∀ (j : Nat) (y : AV), l[j]? = some y → w.cell? ⟨b, o + j, none⟩ = some (u j) ∧ S b (o + j))
      (hrep : ∀ (j : Nat) (y : AV), l[j]? = some y → Rep S w [] (u j) y) : Rep S w H (.pointer (some ⟨b, o, none⟩)) (.rptr l)
  | row {H : List Hd} {v : Value} (id ver used off len : Nat) {b cap sz cver cused : Nat} {wr : Bool} (hs : ∃ A n c, v = .slice A n c) (hH : H[id]? = some (.row b cap sz cver cused wr)) (hle : ver < cver ∨ (ver = cver ∧ used ≤ cused))
      (hv : ver = cver → used = cused → off + len ≤ used ∧ used ≤ cap ∧ ∃ A, v = .slice A len (cap - off) ∧ (off < cap → A = some ⟨b, off * sz, none⟩) ∧ (A = none → cap - off = 0)) : Rep S w H v (.row id ver used off len)
  | ptr {H : List Hd} (id off : Nat) {b n : Nat} (hH : H[id]? = some (.box b n)) : Rep S w H (.pointer (some ⟨b, off, none⟩)) (.ptr id off)
  | elt {H : List Hd} {v : Value} (id ver used i fo : Nat) {b cap sz cver cused : Nat} {wr : Bool} (hs : ∃ q, v = .pointer q) (hH : H[id]? = some (.row b cap sz cver cused wr)) (hle : ver < cver ∨ (ver = cver ∧ used ≤ cused))
      (hv : ver = cver → used = cused → i < used ∧ v = .pointer (some ⟨b, i * sz + fo, none⟩)) : Rep S w H v (.elt id ver used i fo)
  | fn {H : List Hd} {f : Fn} {fs cs : Array Value} {l k : List AV} (hn : fs.size = l.length) (hm : cs.size = k.length) (h : ∀ (i : Nat) (y : AV), l[i]? = some y → Rep S w H (fs.getD i undef) y) (h' : ∀ (i : Nat) (y : AV), k[i]? = some y → Rep S w H (cs.getD i undef) y) :
      Rep S w H (.func f fs cs) (.fn f l k)
  | mp {H : List Hd} (id : Nat) {b : Nat} (hH : H[id]? = some (.mp b)) : Rep S w H (.map (some b)) (.mp id)
  | nif (H : List Hd) (t : TypeId) (v : Value) : Rep S w H (.iface t v) .nif

/-- an object has gone on -/
def Hd.le : Hd → Hd → Prop
  | .row b cap sz ver used wr, .row b' cap' sz' ver' used' wr' => (b = b' ∧ cap = cap' ∧ sz = sz' ∧ ver = ver' ∧ used = used') ∨ ver < ver' ∨ (ver = ver' ∧ used < used')
  | .box b n, .box b' n' => b = b' ∧ n = n'
  | .mp b, .mp b' => b = b'
  | .dead, .dead => True
  | _, _ => False
def HLe (H H' : List Hd) : Prop := ∀ (i : Nat) (h : Hd), H[i]? = some h → ∃ h' : Hd, H'[i]? = some h' ∧ h.le h'
theorem Hd.le_refl (h : Hd) : h.le h := by cases h <;> simp [Hd.le]
theorem HLe.refl (H : List Hd) : HLe H H := fun _ h hh => ⟨h, hh, h.le_refl⟩
theorem Hd.le_trans {h k l : Hd} (h1 : h.le k) (h2 : k.le l) : h.le l := by
  cases h <;> cases k <;> simp only [Hd.le] at h1 <;> cases l <;> simp only [Hd.le] at h2 ⊢
  · exact ⟨h1.1.trans h2.1, h1.2.trans h2.2⟩
  · rcases h1 with ⟨rfl, rfl, rfl, rfl, rfl⟩ | h1 | h1 <;> rcases h2 with ⟨rfl, rfl, rfl, rfl, rfl⟩ | h2 | h2 <;> first | (left; exact ⟨rfl, rfl, rfl, rfl, rfl⟩) | (right; left; omega) | (right; right; omega)
  · exact h1.trans h2
theorem HLe.trans {H K L : List Hd} (h1 : HLe H K) (h2 : HLe K L) : HLe H L := fun i h hh => by
  obtain ⟨k, hk, l1⟩ := h1 i h hh
  obtain ⟨l, hl, l2⟩ := h2 i k hk
  exact ⟨l, hl, Hd.le_trans l1 l2⟩
theorem HLe.nil (H : List Hd) : HLe [] H := fun i h hh => by simp at hh
theorem HLe.append (H K : List Hd) : HLe H (H ++ K) := fun i h hh => ⟨h, by rw [List.getElem?_append_left (by exact (List.getElem?_eq_some_iff.1 hh).1)]; exact hh, h.le_refl⟩

theorem Rep.mono {S S' : Nat → Nat → Prop} {w w' : World} (hS : ∀ (b o : Nat), S b o → S' b o ∧ w'.cell? ⟨b, o, none⟩ = w.cell? ⟨b, o, none⟩) {H : List Hd} {v : Value} {a : AV} (h : Rep S w H v a) : ∀ {H' : List Hd}, HLe H H' → Rep S' w' H' v a := by
  induction h with
  | any H v => intro H' _; exact .any _ _
  | val H v => intro H' _; exact .val _ _
  | agg hn h ih => intro H' hH; exact .agg hn fun i y hy => ih i y hy hH
  | tuple hn h ih => intro H' hH; exact .tuple hn fun i y hy => ih i y hy hH
  | slice b off sz u hc hz hA hsz hcell hrep ih =>
    intro H' _
    exact .slice b off sz u hc hz hA hsz (fun i x j y h1 h2 => by
      obtain ⟨g1, g2⟩ := hcell i x j y h1 h2
      obtain ⟨g3, g4⟩ := hS _ _ g2
      exact ⟨g4.trans g1, g3⟩) fun i x j y h1 h2 => ih i x j y h1 h2 (HLe.refl _)
  | rptr b o u hg hcell hrep ih =>
    intro H' _
    exact .rptr b o u hg (fun j y h2 => by
      obtain ⟨g1, g2⟩ := hcell j y h2
      obtain ⟨g3, g4⟩ := hS _ _ g2
      exact ⟨g4.trans g1, g3⟩) fun j y h2 => ih j y h2 (HLe.refl _)
  | row id ver used off len hs hH hle hv =>
    intro H' hHH
    obtain ⟨h', e, hl⟩ := hHH _ _ hH
    cases h' <;> simp only [Hd.le] at hl
    rename_i b' cap' sz' ver' used' wr'
    refine .row id ver used off len hs e ?_ ?_
    · omega
    · intro e1 e2
      rcases hl with ⟨rfl, rfl, rfl, rfl, rfl⟩ | hl | hl
      · exact hv e1 e2
      · omega
      · omega
  | ptr id off hH =>
    intro H' hHH
    obtain ⟨h', e, hl⟩ := hHH _ _ hH
    cases h' <;> simp only [Hd.le] at hl
    obtain ⟨rfl, rfl⟩ := hl
    exact .ptr id off e
  | elt id ver used i fo hs hH hle hv =>
    intro H' hHH
    obtain ⟨h', e, hl⟩ := hHH _ _ hH
    cases h' <;> simp only [Hd.le] at hl
    rename_i b' cap' sz' ver' used' wr'
    refine .elt id ver used i fo hs e ?_ ?_
    · omega
    · intro e1 e2
      rcases hl with ⟨rfl, rfl, rfl, rfl, rfl⟩ | hl | hl
      · exact hv e1 e2
      · omega
      · omega
  | fn hn hm h h' ih ih' => intro H' hH; exact .fn hn hm (fun i y hy => ih i y hy hH) fun i y hy => ih' i y hy hH
  | mp id hH =>
    intro H' hHH
    obtain ⟨h', e, hl⟩ := hHH _ _ hH
    cases h' <;> simp only [Hd.le] at hl
    subst hl
    exact .mp id e
  | nif H t v => intro H' _; exact .nif _ _ _

/-- a cell without handles reads the same whatever objects there are -/
theorem Rep.gr {S : Nat → Nat → Prop} {w : World} {H : List Hd} {v : Value} {a : AV} (h : Rep S w H v a) (hg : a.grCell = true) (H' : List Hd) : Rep S w H' v a := by
  cases h <;> simp [AV.grCell] at hg
  · exact .val _ _
  · rename_i b off sz u hc hz hA hsz hcell hrep
    exact .slice b off sz u hc hz hA hsz hcell hrep
  · exact .nif _ _ _

/-- what an object says of the memory -/
def ObjAt (S : Nat → Nat → Prop) (w : World) (H : List Hd) : MObj → Hd → Prop
  | .box cells, .box b n => n = cells.length ∧ ∃ (cs : Array Value) (t : TypeId), w.heap[b]? = some (.cells cs t (0, 0)) ∧ cs.size = cells.length ∧ ∀ (i : Nat) (y : AV), cells[i]? = some y → Rep S w H (cs.getD i undef) y
  | .row ver s l wr ap, .row b cap sz ver' used wr' => ver' = ver ∧ wr' = wr ∧ s = sz ∧ used = l.length ∧ used ≤ cap ∧ (0 < cap → ∃ (cur : Array Value) (t : TypeId) (fz : Nat × Nat), w.heap[b]? = some (.cells cur t fz) ∧ (ap = true → fz = (0, 0)) ∧ (∀ o : Nat, o < cur.size → (decide (fz.1 ≤ o) && decide (o < fz.2)) = false) ∧ cur.size = cap * sz ∧
      ∀ (i : Nat) (x : AV) (j : Nat) (y : AV), l[i]? = some x → x.cells[j]? = some y → Rep S w [] (cur.getD (i * sz + j) undef) y) ∧ ∀ (i : Nat) (x : AV), l[i]? = some x → x.ground = true ∧ x.cells.length = sz
  | .mp es, .mp b => ∃ (ens : Array MapEntry) (cl : Nat), w.heap[b]? = some (.map ens cl) ∧ ens.size = es.length ∧ ∀ (i : Nat) (k : Value) (y : AV), es[i]? = some (k, y) → ∃ e, ens[i]? = some e ∧ e.key = k ∧ e.born < cl ∧ y.ground = true ∧ Rep S w [] e.val y
  | .dead, .dead => True
  | _, _ => False

/-- the block of an object -/
def Hd.blk : Hd → Option Nat
  | .box b _ => some b
  | .row b cap _ _ _ _ => if 0 < cap then some b else none
  | .mp b => some b
  | .dead => none
theorem Hd.mut_blk {h : Hd} {b o : Nat} (hm : h.mut b o) : h.blk = some b := by
  cases h <;> simp only [Hd.mut] at hm <;> simp [Hd.blk, hm]

/-- the memory of the machine lies in the world -/
structure MemAt (X : Nat → Nat → Prop) (w : World) (m : List MObj) (H : List Hd) : Prop where
  len : H.length = m.length
  obj : ∀ (i : Nat) (o : MObj) (h : Hd), m[i]? = some o → H[i]? = some h → ObjAt (Stab X H w) w H o h
  lt : ∀ (i : Nat) (h : Hd) (b : Nat), H[i]? = some h → h.blk = some b → b < w.heap.size
  apart : ∀ (i j : Nat) (h k : Hd) (b : Nat), H[i]? = some h → H[j]? = some k → h.blk = some b → k.blk = some b → i = j
end Go.Proofs.YtgjdmlhgapmflaaDoor
