/- The abstract machine: its state in a world, and how it goes on. -/
import Derived.Test.YtgjdmlhgapmflaaDoorAm8
import Derived.Great.BuildSlice
namespace Go.Proofs.YtgjdmlhgapmflaaDoor
set_option linter.unusedVariables false
set_option linter.unusedSimpArgs false

theorem look_setf (d : Nat) (v : AV) (s : Nat) : ∀ fr : List (Nat × AV), look (setf d v fr) s = if d = s then v else look fr s
  | [] => by simp [setf, look]
  | (k, u) :: r => by
    simp only [setf]
    split
    · rename_i hk
      subst hk
      simp only [look]
      split <;> rfl
    · rename_i hk
      simp only [look]
      split
      · rename_i hks
        rw [if_neg (by intro h; apply hk; rw [hks, h])]
      · exact look_setf d v s r

/-- from one world to a later one -/
structure Goes (X : Nat → Nat → Prop) (w : World) (H : List Hd) (w' : World) (H' : List Hd) : Prop where
  le : HLe H H'
  stab : ∀ b o, Stab X H w b o → Stab X H' w' b o ∧ w'.cell? ⟨b, o, none⟩ = w.cell? ⟨b, o, none⟩
theorem Goes.trans {X : Nat → Nat → Prop} {w w' w'' : World} {H H' H'' : List Hd} (h : Goes X w H w' H') (h' : Goes X w' H' w'' H'') : Goes X w H w'' H'' :=
  ⟨h.le.trans h'.le, fun b o q => by
    obtain ⟨q1, q2⟩ := h.stab b o q
    obtain ⟨q3, q4⟩ := h'.stab b o q1
    exact ⟨q3, q4.trans q2⟩⟩

/-- where a function began: the world before all, the world and the objects at its entry -/
structure Base where
  o : World
  w : World
  H : List Hd

structure SR (X : Nat → Nat → Prop) (w0 : Base) (N : Nat) (st : St) (a : Act) (w : World) (H : List Hd) : Prop where
  dfr : a.defers = []
  siz : a.tmps.size = N
  frm : FrOk (Stab X H w) w H a st.fr
  mem : MemAt X w st.m H
  grw : Fr (fun _ => False) w0.o w
  new : ∀ (i : Nat) (h : Hd) (b : Nat), H[i]? = some h → h.blk = some b → w0.o.heap.size ≤ b
  old : ∀ b o, X b o → b < w0.o.heap.size
  since : Goes X w0.w w0.H w H

section
variable {X : Nat → Nat → Prop} {w0 : Base} {w w' : World} {N : Nat} {st : St} {a : Act} {H H' : List Hd}

theorem Goes.rep (h : Goes X w H w' H') {v : Value} {av : AV} (hr : Rep (Stab X H w) w H v av) : Rep (Stab X H' w') w' H' v av := hr.mono h.stab h.le
theorem Goes.rep0 (h : Goes X w H w' H') {v : Value} {av : AV} (hr : Rep (Stab X H w) w [] v av) : Rep (Stab X H' w') w' [] v av := hr.mono h.stab (HLe.refl _)

theorem ObjAt.goes (hg : Goes X w H w' H') {o : MObj} {h : Hd} (hb : ∀ b, h.blk = some b → w'.heap[b]? = w.heap[b]?) (ho : ObjAt (Stab X H w) w H o h) : ObjAt (Stab X H' w') w' H' o h := by
  cases o <;> cases h <;> simp only [ObjAt] at ho ⊢
  · obtain ⟨e, cs, t, h1, h2, h3⟩ := ho
    exact ⟨e, cs, t, (hb _ rfl).trans h1, h2, fun i y hy => hg.rep (h3 i y hy)⟩
  · obtain ⟨e1, e2, e3, e4, e5, h1, h2⟩ := ho
    refine ⟨e1, e2, e3, e4, e5, fun hc => ?_, h2⟩
    obtain ⟨cur, t, fz, g1, g2, g3, g4, g5⟩ := h1 hc
    exact ⟨cur, t, fz, (hb _ (by simp [Hd.blk, hc])).trans g1, g2, g3, g4, fun i x j y hx hy => hg.rep0 (g5 i x j y hx hy)⟩
  · obtain ⟨ens, cl, h1, h2, h3⟩ := ho
    refine ⟨ens, cl, (hb _ rfl).trans h1, h2, fun i k y hy => ?_⟩
    obtain ⟨e, g1, g2, g3, g4, g5⟩ := h3 i k y hy
    exact ⟨e, g1, g2, g3, g4, hg.rep0 g5⟩

theorem Act.put_getD (a : Act) (d : Option Nat) (v : Value) (hd : ∀ k, d = some k → k < a.tmps.size) (s : Nat) : (a.put d v).tmps.getD s undef = match d with | some k => if k = s then v else a.tmps.getD s undef | none => a.tmps.getD s undef := by
  cases d with
  | none => rfl
  | some k =>
    have hk := hd k rfl
    simp only [Act.put, Array.getD_eq_getD_getElem?]
    by_cases h : k = s
    · subst h; simp [hk]
    · rw [if_neg h, Array.getElem?_setIfInBounds_ne h]
theorem rep_put {S : Nat → Nat → Prop} {fr : List (Nat × AV)} {d : Option Nat} {v : Value} {av : AV} (hd : ∀ k, d = some k → k < a.tmps.size) (h : FrOk S w H a fr) (hv : Rep S w H v av) :
    FrOk S w H (a.put d v) (putf d av fr) := by
  refine ⟨?_, h.g⟩
  intro s
  rw [Act.put_getD a d v hd s]
  cases d with
  | none => exact h.t s
  | some k =>
    simp only [putf, look_setf]
    split
    · exact hv
    · exact h.t s
theorem put_defers (a : Act) (d : Option Nat) (v : Value) : (a.put d v).defers = a.defers := by cases d <;> rfl
theorem put_size (a : Act) (d : Option Nat) (v : Value) : (a.put d v).tmps.size = a.tmps.size := by cases d <;> simp [Act.put]

theorem Goes.fok (h : Goes X w H w' H') {fr : List (Nat × AV)} (hf : FrOk (Stab X H w) w H a fr) : FrOk (Stab X H' w') w' H' a fr := ⟨fun s => h.rep (hf.t s), fun g l e => ⟨h.rep (hf.g g l e).1, fun o ho => ⟨(h.stab g o ((hf.g g l e).2 o ho).1).1, (h.stab g o ((hf.g g l e).2 o ho).1).2.trans ((hf.g g l e).2 o ho).2⟩⟩⟩
theorem SR.go {m' : List MObj} {d : Option Nat} {v : Value} {av : AV} (h : SR X w0 N st a w H) (hd : ∀ k, d = some k → k < N) (hg : Goes X w H w' H') (hm : MemAt X w' m' H') (hf : Fr (fun _ => False) w0.o w') (hn : ∀ (i : Nat) (h : Hd) (b : Nat), H'[i]? = some h → h.blk = some b → w0.o.heap.size ≤ b)
    (hv : Rep (Stab X H' w') w' H' v av) : SR X w0 N ⟨putf d av st.fr, m'⟩ (a.put d v) w' H' where
  dfr := by rw [put_defers]; exact h.dfr
  siz := by rw [put_size]; exact h.siz
  frm := rep_put (fun k hk => by rw [h.siz]; exact hd k hk) (hg.fok h.frm) hv
  mem := hm
  grw := hf
  new := hn
  old := h.old
  since := h.since.trans hg

theorem Goes.refl : Goes X w H w H := ⟨HLe.refl _, fun _ _ h => ⟨h, rfl⟩⟩
theorem SR.pure {d : Option Nat} {v : Value} {av : AV} (h : SR X w0 N st a w H) (hd : ∀ k, d = some k → k < N) (hv : Rep (Stab X H w) w H v av) : SR X w0 N ⟨putf d av st.fr, st.m⟩ (a.put d v) w H := h.go hd Goes.refl h.mem h.grw h.new hv

/-- the world grew, the objects are the same -/
theorem goes_ext (he : Ext w w') (hs : w.heap.size ≤ w'.heap.size) : Goes X w H w' H := ⟨HLe.refl _, fun b o ⟨h1, h2, h3⟩ => ⟨⟨by omega, h2, h3⟩, he.cell h1 o⟩⟩
theorem MemAt.ext {m : List MObj} (hm : MemAt X w m H) (he : Ext w w') (hs : w.heap.size ≤ w'.heap.size) : MemAt X w' m H where
  len := hm.len
  obj := fun i o h ho hh => (hm.obj i o h ho hh).goes (goes_ext he hs) fun b hb => he b (hm.lt i h b hh hb)
  lt := fun i h b hh hb => Nat.lt_of_lt_of_le (hm.lt i h b hh hb) hs
  apart := hm.apart

/-- a new object in a new block -/
theorem goes_new {h : Hd} (he : Ext w w') (hs : w.heap.size ≤ w'.heap.size) (hb : ∀ b, h.blk = some b → w.heap.size ≤ b) : Goes X w H w' (H ++ [h]) :=
  ⟨HLe.append _ _, fun b o ⟨h1, h2, h3⟩ => ⟨⟨by omega, h2, fun ⟨i, k, hk, hmut⟩ => by
    rw [List.getElem?_append] at hk
    split at hk
    · exact h3 ⟨i, k, hk, hmut⟩
    · have : k = h := by
        rcases Nat.lt_or_ge (i - H.length) 1 with h0 | h0
        · rw [show i - H.length = 0 from by omega] at hk; simpa using hk.symm
        · rw [List.getElem?_eq_none (by simpa using h0)] at hk; cases hk
      subst this
      have := hb b (Hd.mut_blk hmut)
      omega⟩, he.cell h1 o⟩⟩
theorem getElem?_snoc {α : Type} {l : List α} {x y : α} {i : Nat} (h : (l ++ [x])[i]? = some y) : l[i]? = some y ∧ i < l.length ∨ i = l.length ∧ y = x := by
  rw [List.getElem?_append] at h
  split at h
  · rename_i hi; exact .inl ⟨h, hi⟩
  · right
    rcases Nat.lt_or_ge (i - l.length) 1 with h0 | h0
    · rw [show i - l.length = 0 from by omega] at h
      simp only [List.getElem?_cons_zero, Option.some.injEq] at h
      exact ⟨by omega, h.symm⟩
    · rw [List.getElem?_eq_none (by simpa using h0)] at h; cases h
theorem MemAt.new {m : List MObj} {h : Hd} {o : MObj} (hm : MemAt X w m H) (he : Ext w w') (hs : w.heap.size ≤ w'.heap.size) (hb : ∀ b, h.blk = some b → w.heap.size ≤ b ∧ b < w'.heap.size)
    (ho : ObjAt (Stab X (H ++ [h]) w') w' (H ++ [h]) o h) : MemAt X w' (m ++ [o]) (H ++ [h]) where
  len := by simp [hm.len]
  obj := fun i o' h' ho' hh' => by
    rcases getElem?_snoc hh' with ⟨h1, h2⟩ | ⟨h1, h2⟩
    · rcases getElem?_snoc ho' with ⟨g1, g2⟩ | ⟨g1, g2⟩
      · exact (hm.obj i o' h' g1 h1).goes (goes_new he hs fun b q => (hb b q).1) fun b hb' => he b (hm.lt i h' b h1 hb')
      · have := hm.len; omega
    · rcases getElem?_snoc ho' with ⟨g1, g2⟩ | ⟨g1, g2⟩
      · have := hm.len; omega
      · subst h2 g2; exact ho
  lt := fun i h' b hh' hb' => by
    rcases getElem?_snoc hh' with ⟨h1, h2⟩ | ⟨h1, h2⟩
    · exact Nat.lt_of_lt_of_le (hm.lt i h' b h1 hb') hs
    · subst h2; exact (hb b hb').2
  apart := fun i j h' k b hi hj hb1 hb2 => by
    rcases getElem?_snoc hi with ⟨h1, h2⟩ | ⟨h1, h2⟩ <;> rcases getElem?_snoc hj with ⟨g1, g2⟩ | ⟨g1, g2⟩
    · exact hm.apart i j h' k b h1 g1 hb1 hb2
    · subst g2
      have := hm.lt i h' b h1 hb1
      have := (hb b hb2).1
      omega
    · subst h2
      have := hm.lt j k b g1 hb2
      have := (hb b hb1).1
      omega
    · omega

theorem ext_alloc (w : World) (o : Obj) : Ext w (w.alloc o) := fun k hk => (MapKept.heap_alloc w o).2 k hk
theorem SR.size (h : SR X w0 N st a w H) : w0.o.heap.size ≤ w.heap.size := h.grw.size

/-- a new object: the machine goes on -/
theorem SR.newObj {o : MObj} {h : Hd} {d : Option Nat} {v : Value} {av : AV} (hs : SR X w0 N st a w H) (hd : ∀ k, d = some k → k < N) (he : Ext w w') (hle : w.heap.size ≤ w'.heap.size) (hf : Fr (fun _ => False) w w')
    (hb : ∀ b, h.blk = some b → w.heap.size ≤ b ∧ b < w'.heap.size) (ho : ObjAt (Stab X (H ++ [h]) w') w' (H ++ [h]) o h) (hv : Rep (Stab X (H ++ [h]) w') w' (H ++ [h]) v av) :
    SR X w0 N ⟨putf d av st.fr, st.m ++ [o]⟩ (a.put d v) w' (H ++ [h]) := by
  refine hs.go hd (goes_new he hle fun b q => (hb b q).1) (hs.mem.new he hle hb ho) (hs.grw.trans hf fun _ q => q.elim) (fun i h' b hh hb' => ?_) hv
  rcases getElem?_snoc hh with ⟨h1, h2⟩ | ⟨h1, h2⟩
  · exact hs.new i h' b h1 hb'
  · subst h2
    have := (hb b hb').1
    have := hs.size
    omega
theorem snoc_last {α : Type} (l : List α) (x : α) : (l ++ [x])[l.length]? = some x := by simp
end
end Go.Proofs.YtgjdmlhgapmflaaDoor
