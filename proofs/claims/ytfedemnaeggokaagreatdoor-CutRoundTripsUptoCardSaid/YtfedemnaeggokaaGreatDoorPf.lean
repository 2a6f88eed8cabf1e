/- Own texts of this claim, merged: CuE, CuF, CuX, Up, CuC. -/
import Derived.Test.YtfedemnaeggokaaGreatDoorPe
import Derived.RegionTactic
import Derived.WalkKit
import Derived.Deep.DeepHandedRow
import Derived.Lay
import Derived.Deep.DeepWitnessRowRef
section
namespace Go.Proofs.YtfedemnaeggokaaGreatDoor
set_option linter.unusedVariables false
set_option linter.unusedSimpArgs false
set_option maxRecDepth 100000
open Go.RowKit
theorem GR.fr {X : Nat → Nat → Prop} {w W : World} (h : GR (Stab X [] w) w []) (hf : Fr (fun _ => False) w W) : GR (Stab X [] W) W [] := by
 have hc : ∀ b o, b < w.heap.size → W.cell? ⟨b, o, none⟩ = w.cell? ⟨b, o, none⟩ := fun b o hb => World.cell?_of_block (hf.block b hb (fun q => q.elim))
 have hS : ∀ b o, Stab X [] w b o → Stab X [] W b o ∧ W.cell? ⟨b, o, none⟩ = w.cell? ⟨b, o, none⟩ := fun b o ⟨q1, q2, q3⟩ => ⟨⟨Nat.lt_of_lt_of_le q1 hf.size, q2, q3⟩, hc b o q1⟩
 intro g l hg
 obtain ⟨h1, h2⟩ := h g l hg
 exact ⟨Rep.mono hS h1 (HLe.refl _), fun o ho => by
  obtain ⟨q1, q2⟩ := h2 o ho
  exact ⟨(hS g o q1).1, by rw [(hS g o q1).2]; exact q2⟩⟩
def X0 : CallF := ⟨fun _ _ => none, fun _ _ _ => none⟩
theorem X0_ok : CallsOk Tryz.prog X0 := ⟨fun f vs r h => by simp [X0] at h, fun f vs m r m' h => by simp [X0] at h⟩
theorem num2_calls {X : Nat → Nat → Prop} {w : World} (hX : ∀ b o, X b o → b < w.heap.size) (hG : GR (Stab X [] w) w []) (s : Bs) (hs : s.length ≤ maxLen) (a : Nat) (ha : a ≤ s.length) (W : World) (hW : Fr (fun _ => False) w W) :
    Calls Tryz.prog 56 #[.string (ofL s), .int .i64 a] W fun e w' => e = .returned (.tuple #[.int .i64 (numV (dgs s a)), .int .i64 (nm2A (dgs s a) a), .agg #[.int .i64 (nmE 1 (dgs s a)), .int .i64 (nmB 1 (dgs s a) a)]]) ∧ Fr (fun _ => False) W w' := by
  have h : CallOk Tryz.prog 56 [strL s, intA a] _ := R_sound FT_ok X0_ok (number2_run s hs a ha)
  refine (h X W #[.string (ofL s), .int .i64 a] (fun b o q => Nat.lt_of_lt_of_le (hX b o q) hW.size) (hG.fr hW) ⟨rfl, fun i y hy => ?_⟩).mono fun e w' ⟨v, he, hr, hf⟩ => ⟨?_, hf⟩
  · match i, hy with
    | 0, hy => cases hy; exact .val _ _
    | 1, hy => cases hy; exact .val _ _
  · rw [he]
    congr 1
    obtain ⟨cs, rfl, hn, hc⟩ := rep_tuple hr
    have h0 := rep_val (hc 0 _ rfl)
    have h1 := rep_val (hc 1 _ rfl)
    obtain ⟨ds, h2, hm, hd⟩ := rep_agg (hc 2 _ rfl)
    have g0 := rep_val (hd 0 _ rfl)
    have g1 := rep_val (hd 1 _ rfl)
    match cs, hn with
    | ⟨[x, y, z]⟩, _ =>
      match ds, hm with
      | ⟨[p, q]⟩, _ =>
        simp only [Array.getD_eq_getD_getElem?] at h0 h1 h2 g0 g1
        simp at h0 h1 h2 g0 g1
        subst h0 h1 h2 g0 g1
        rfl
theorem fr_alloc2 (w : World) (x y : Obj) : Fr (fun _ => False) w ((w.alloc x).alloc y) := ((Fr.refl _ w).alloc x).alloc y
theorem after2 {w w' : World} {x y : Obj} (hF : Fr (fun _ => False) ((w.alloc x).alloc y) w') : w'.heap[w.heap.size]? = some x ∧ w'.heap[w.heap.size + 1]? = some y ∧ w.heap.size + 2 ≤ w'.heap.size ∧ Fr (fun _ => False) w w' := by
 have h1 := MapKept.heap_alloc w x
 have h2 := MapKept.heap_alloc (w.alloc x) y
 have e1 : (w.alloc x).heap.size = w.heap.size + 1 := by simp
 have e2 : ((w.alloc x).alloc y).heap.size = w.heap.size + 2 := by simp
 rw [e1] at h2
 have hs := hF.size
 rw [e2] at hs
 refine ⟨?_, ?_, hs, (fr_alloc2 w x y).trans hF fun _ q => q.elim⟩
 ·rw [hF.block _ (by omega) (fun q => q.elim), h2.2 _ (by omega)]; exact h1.1
 ·rw [hF.block _ (by omega) (fun q => q.elim)]; exact h2.1
structure Two (W : World) (b : Nat) (x y : Value) (t : TypeId) : Prop where
 h : W.heap[b]? = some (.cells #[x, y] t (0, 0))
theorem Two.c0 {W : World} {b : Nat} {x y : Value} {t : TypeId} (h : Two W b x y t) : W.cell? ⟨b, 0, none⟩ = some x := by simp only [World.cell?, h.h]; rfl
theorem Two.c1 {W : World} {b : Nat} {x y : Value} {t : TypeId} (h : Two W b x y t) : W.cell? ⟨b, 1, none⟩ = some y := by simp only [World.cell?, h.h]; rfl
theorem Two.fz {W : World} {b : Nat} {x y : Value} {t : TypeId} (h : Two W b x y t) (i : Nat) : W.frozen? ⟨b, i, none⟩ = false := by simp [World.frozen?, h.h]
theorem adr_ne {b c o k : Nat} (h : b ≠ c ∨ o ≠ k) : (⟨b, o, none⟩ : Addr) ≠ ⟨c, k, none⟩ := fun e => by
 cases e; rcases h with h | h <;> exact h rfl
structure Four (W : World) (b c : Nat) (x y p q : Value) : Prop where
 x : W.cell? ⟨b, 0, none⟩ = some x
 y : W.cell? ⟨b, 1, none⟩ = some y
 p : W.cell? ⟨c, 0, none⟩ = some p
 q : W.cell? ⟨c, 1, none⟩ = some q
theorem set_o {W : World} {a b : Addr} {v : Value} (h : a ≠ b) : (W.setCell a v).cell? b = W.cell? b := World.cell?_setCell_other (h := h) ..
theorem set_s {W : World} {a : Addr} {v u : Value} (h : W.cell? a = some u) : (W.setCell a v).cell? a = some v := World.cell?_setCell_same (h := h) ..
theorem Four.of {W : World} {b c : Nat} {x0 y0 p0 q0 : Value} (x y p q : Value) (n : b ≠ c) (h : Four W b c x0 y0 p0 q0) : Four ((((W.setCell ⟨b, 0, none⟩ x).setCell ⟨b, 1, none⟩ y).setCell ⟨c, 0, none⟩ p).setCell ⟨c, 1, none⟩ q).drew b c x y p q := by
 have n' := n.symm
 obtain ⟨h1, h2, h3, h4⟩ := h
 constructor
 ·rw [World.cell?_drew, set_o (adr_ne (.inl n')), set_o (adr_ne (.inl n')), set_o (adr_ne (.inr Nat.one_ne_zero)), set_s h1]
 ·rw [World.cell?_drew, set_o (adr_ne (.inl n')), set_o (adr_ne (.inl n')), set_s (u := y0)]
  rw [set_o (adr_ne (.inr Nat.zero_ne_one)), h2]
 ·rw [World.cell?_drew, set_o (adr_ne (.inr Nat.one_ne_zero)), set_s (u := p0)]
  rw [set_o (adr_ne (.inl n)), set_o (adr_ne (.inl n)), h3]
 ·rw [World.cell?_drew, set_s (u := q0)]
  rw [set_o (adr_ne (.inr Nat.zero_ne_one)), set_o (adr_ne (.inl n)), set_o (adr_ne (.inl n)), h4]
theorem res3 {W : World} {b c : Nat} {x y p q A : Value} (h : Four W b c x y p q) (tm : Array Value) (h4 : tm.getD 4 undef = .pointer (some ⟨b, 0, none⟩)) (h5 : tm.getD 5 undef = A) (h6 : tm.getD 6 undef = .pointer (some ⟨c, 0, none⟩)) :
    (results Tryz.f33 tm).run Tryz.prog W = .ok (.tuple #[.agg #[x, y], A, .agg #[p, q]]) W := by
  obtain ⟨h1, h2, h3, h7⟩ := h
  have e1 : (loadVar 50 ⟨b, 0, none⟩).run Tryz.prog W = .ok (.agg #[x, y]) W := run_loadVar (n := 2) (ag := true) (by decide +kernel) (by decide +kernel) b 0 [x, y] rfl (fun q => by cases q) (fun j v hj => by
    match j, hj with
    | 0, hj => cases hj; exact h1
    | 1, hj => cases hj; exact h2)
  have e2 : (loadVar 59 ⟨c, 0, none⟩).run Tryz.prog W = .ok (.agg #[p, q]) W := run_loadVar (n := 2) (ag := true) (by decide +kernel) (by decide +kernel) c 0 [p, q] rfl (fun q => by cases q) (fun j v hj => by
    match j, hj with
    | 0, hj => cases hj; exact h3
    | 1, hj => cases hj; exact h7)
  have hr : Tryz.f33.results = #[.cell 4 50, .tmp 5, .cell 6 59] := rfl
  unfold results
  rw [hr]
  simp only [Array.getD_eq_getD_getElem?] at h4 h5 h6
  simp [h4, h5, h6, Sem.run_bind, Result.andThen, e1, e2, asAddr]
set_option maxHeartbeats 4000000 in
theorem el2_minus {X : Nat → Nat → Prop} {w : World} (hX : ∀ b o, X b o → b < w.heap.size) (hG : GR (Stab X [] w) w []) (s : Bs) (hs : s.length ≤ maxLen) (a : Nat) (ha : a ≤ s.length) (h45 : s[a]? = some 45) :
    Calls Tryz.prog 33 #[.string (ofL s), .int .i64 a] w fun e w' => e = .returned (.tuple #[.agg #[.int .i64 1, .int .i64 (numV (dgs s (a + 1)))], .int .i64 (nm2A (dgs s (a + 1)) (a + 1)), .agg #[.int .i64 (nmE 1 (dgs s (a + 1))), .int .i64 (nmB 1 (dgs s (a + 1)) (a + 1))]]) ∧ Fr (fun _ => False) w w' := by
  have hm := maxLen_i64
  have hlt := (List.getElem?_eq_some_iff.1 h45).1
  have hl : (a : Int) < (s.length : Int) := by omega
  have hsz : (ofL s).size = s.length := rfl
  have hb : ((((ofL s)[a]'hlt).toNat : Int) == 45) = true := by
    have : (ofL s)[a]'hlt = 45 := by
      have e := (List.getElem?_eq_some_iff.1 h45).2
      exact e
    rw [this]; rfl
  have hnum := fun W hW => num2_calls hX hG s hs (a + 1) (by omega) W hW
  rw [show (((a + 1 : Nat)) : Int) = (a : Int) + 1 by omega] at hnum
  have ha1 : (a : Int) + 1 ≤ 9223372036854775807 := by omega
  have hin : IntKind.i64.wrap ((a : Int) + 1) = (a : Int) + 1 := wrap64_id (by omega) (by omega)
  clear hm hs ha h45 ha1
  generalize numV (dgs s (a + 1)) = V at hnum ⊢
  generalize nm2A (dgs s (a + 1)) (a + 1) = A at hnum ⊢
  generalize nmE 1 (dgs s (a + 1)) = E at hnum ⊢
  generalize nmB 1 (dgs s (a + 1)) (a + 1) = B at hnum ⊢
  go_enter Tryz.func33, Tryz.ntmps33
  go_wp2_with (go_at_call 56; refine (hnum _ (fr_alloc2 _ _ _)).mono ?_; rintro e w' ⟨rfl, hF⟩)
  obtain ⟨s4, s6, z', hFF⟩ := after2 hF
  have hal := MapKept.heap_alloc w' (Obj.cells #[Value.int IntKind.i64 E, Value.int IntKind.i64 B] 59)
  have hFW := hFF.alloc (Obj.cells #[Value.int IntKind.i64 E, Value.int IntKind.i64 B] 59)
  generalize w'.alloc (Obj.cells #[Value.int IntKind.i64 E, Value.int IntKind.i64 B] 59) = W at hal hFW ⊢
  have k4 : Two W w.heap.size _ _ _ := ⟨(hal.2 _ (by omega)).trans s4⟩
  have k6 : Two W (w.heap.size + 1) _ _ _ := ⟨(hal.2 _ (by omega)).trans s6⟩
  have k9 : Two W w'.heap.size _ _ _ := ⟨hal.1⟩
  have c40 := k4.c0
  have c41 := k4.c1
  have c60 := k6.c0
  have c61 := k6.c1
  have c90 := k9.c0
  have c91 := k9.c1
  have f4 := k4.fz
  have f6 := k6.fz
  have f9 := k9.fz
  have n46 : w.heap.size ≠ w.heap.size + 1 := by omega
  have n49 : w.heap.size ≠ w'.heap.size := by omega
  have n69 : w.heap.size + 1 ≠ w'.heap.size := by omega
  clear hF s4 s6 hFF hnum hal k4 k6 k9 hX hG
  go_region
  go_wp2
  have k := (Four.mk c40 c41 c60 c61).of (.int .i64 1) (.int .i64 V) (.int .i64 E) (.int .i64 B) n46
  refine bodyPost_ret (res3 k _ rfl rfl rfl) rfl ⟨rfl, ?_⟩
  exact ((((hFW.setCell _ _ (.inr (Nat.le_refl _))).setCell _ _ (.inr (Nat.le_refl _))).setCell _ _ (.inr (Nat.le_succ _))).setCell _ _ (.inr (Nat.le_succ _))).drew
structure Hid (p : Prop) : Prop where
 h : p
theorem Hid.out {p : Prop} (h : Hid p) : p := h.h
theorem Two.fr {W W' : World} {b : Nat} {x y : Value} {t : TypeId} (h : Two W b x y t) (hF : Fr (fun _ => False) W W') : Two W' b x y t := ⟨by
 have hl : b < W.heap.size := (Array.getElem?_eq_some_iff.1 h.h).1
 rw [hF.block b hl (fun q => q.elim)]; exact h.h⟩
theorem Two.far {W : World} {b c o : Nat} {x y v : Value} {t : TypeId} (h : Two W b x y t) (n : b ≠ c) : Two (W.setCell ⟨c, o, none⟩ v) b x y t := ⟨(Below.heap_setCell W ⟨c, o, none⟩ v b n).trans h.h⟩
structure Own (W : World) (b : Nat) (x y : Value) : Prop where
 c0 : W.cell? ⟨b, 0, none⟩ = some x
 c1 : W.cell? ⟨b, 1, none⟩ = some y
 fz : ∀ i, W.frozen? ⟨b, i, none⟩ = false
theorem Two.own {W : World} {b : Nat} {x y : Value} {t : TypeId} (h : Two W b x y t) : Own W b x y := ⟨h.c0, h.c1, h.fz⟩
theorem Own.set {W : World} {b : Nat} {x y : Value} (x' y' : Value) (h : Own W b x y) : Own ((W.setCell ⟨b, 0, none⟩ x').setCell ⟨b, 1, none⟩ y') b x' y' := by
 refine ⟨?_, ?_, fun i => ?_⟩
 ·rw [set_o (adr_ne (.inr Nat.one_ne_zero)), set_s h.c0]
 ·rw [set_s (u := y)]
  rw [set_o (adr_ne (.inr Nat.zero_ne_one)), h.c1]
 ·rw [World.frozen?_setCell, World.frozen?_setCell, h.fz]
theorem ofl_ne {s : Bs} {a : Nat} {c : UInt8} (h : a < s.length) (hc : s[a]? ≠ some c) : ((((ofL s)[a]'h).toNat : Int) == (c.toNat : Int)) = false := by
 simp only [beq_eq_false_iff_ne, ne_eq]
 intro e
 apply hc
 rw [List.getElem?_eq_getElem h]
 congr 1
 have : (s[a]'h).toNat = c.toNat := by
  have e' : (((s[a]'h).toNat : Nat) : Int) = (c.toNat : Int) := e
  omega
 exact UInt8.toNat_inj.1 this
theorem ofl_eq {s : Bs} {a : Nat} {c : UInt8} (h : a < s.length) (hc : s[a]? = some c) : ((((ofL s)[a]'h).toNat : Int) == (c.toNat : Int)) = true := by
 have : s[a]'h = c := by rw [List.getElem?_eq_getElem h] at hc; exact Option.some.inj hc
 have e : (ofL s)[a]'h = c := this
 rw [e]; simp
set_option maxHeartbeats 800000 in
theorem el2_e1 {X : Nat → Nat → Prop} {w : World} (hX : ∀ b o, X b o → b < w.heap.size) (hG : GR (Stab X [] w) w []) (s : Bs) (hs : s.length ≤ maxLen) (a : Nat) (ha : a ≤ s.length) (hl' : ¬ a < s.length) (hE' : nmE 1 (dgs s a) ≠ 0) :
    Calls Tryz.prog 33 #[.string (ofL s), .int .i64 a] w fun e w' => e = .returned (.tuple #[.agg #[.int .i64 0, .int .i64 0], .int .i64 a, .agg #[.int .i64 (nmE 1 (dgs s a)), .int .i64 (nmB 1 (dgs s a) a)]]) ∧ Fr (fun _ => False) w w' := by
  have hm := maxLen_i64
  have hsz : (ofL s).size = s.length := rfl
  have hl : ¬ (a : Int) < (s.length : Int) := by omega
  have hnum := fun W hW => num2_calls hX hG s hs a ha W hW
  have hE : (nmE 1 (dgs s a) == 0) = false := by simpa using hE'
  clear hm hs ha hE'
  generalize nm2A (dgs s a) a = A at hnum ⊢
  generalize numV (dgs s a) = V at hnum ⊢
  generalize nmE 1 (dgs s a) = E at hnum hE ⊢
  generalize nmB 1 (dgs s a) a = B at hnum ⊢
  go_enter Tryz.func33, Tryz.ntmps33
  go_wp2_with (go_at_call 56; refine (hnum _ (fr_alloc2 _ _ _)).mono ?_; rintro e w' ⟨rfl, hF⟩; refine Hid.out ?_)
  refine ⟨?_⟩
  repeat' (first | (exact (hno1 ‹_›).elim) | (exact (hno2 ‹_›).elim) | (first | go_values | go_skip | go_guarded | go_step | go_upon | go_in | go_back))
  obtain ⟨s4, s6, z', hFF⟩ := after2 hF
  have hal := MapKept.heap_alloc w' (Obj.cells #[Value.int IntKind.i64 E, Value.int IntKind.i64 B] 59)
  have hFW := hFF.alloc (Obj.cells #[Value.int IntKind.i64 E, Value.int IntKind.i64 B] 59)
  generalize w'.alloc (Obj.cells #[Value.int IntKind.i64 E, Value.int IntKind.i64 B] 59) = W at hal hFW ⊢
  have k4 : Two W w.heap.size _ _ _ := ⟨(hal.2 _ (by omega)).trans s4⟩
  have k6 : Two W (w.heap.size + 1) _ _ _ := ⟨(hal.2 _ (by omega)).trans s6⟩
  have k9 : Two W w'.heap.size _ _ _ := ⟨hal.1⟩
  have c40 := k4.c0
  have c41 := k4.c1
  have c60 := k6.c0
  have c61 := k6.c1
  have c90 := k9.c0
  have c91 := k9.c1
  have f4 := k4.fz
  have f6 := k6.fz
  have f9 := k9.fz
  have n46 : w.heap.size ≠ w.heap.size + 1 := by omega
  have n49 : w.heap.size ≠ w'.heap.size := by omega
  have n69 : w.heap.size + 1 ≠ w'.heap.size := by omega
  clear hF s4 s6 hFF hnum hal k4 k6 k9 hX hG
  go_region
  go_wp2
  have k := (Four.mk c40 c41 c60 c61).of (.int .i64 0) (.int .i64 0) (.int .i64 E) (.int .i64 B) n46
  refine bodyPost_ret (res3 k _ rfl rfl rfl) rfl ⟨rfl, ?_⟩
  exact ((((hFW.setCell _ _ (.inr (Nat.le_refl _))).setCell _ _ (.inr (Nat.le_refl _))).setCell _ _ (.inr (Nat.le_succ _))).setCell _ _ (.inr (Nat.le_succ _))).drew
set_option maxHeartbeats 800000 in
theorem el2_e2 {X : Nat → Nat → Prop} {w : World} (hX : ∀ b o, X b o → b < w.heap.size) (hG : GR (Stab X [] w) w []) (s : Bs) (hs : s.length ≤ maxLen) (a : Nat) (ha : a ≤ s.length) (hl' : a < s.length) (h45 : s[a]? ≠ some 45) (hE' : nmE 1 (dgs s a) ≠ 0) :
    Calls Tryz.prog 33 #[.string (ofL s), .int .i64 a] w fun e w' => e = .returned (.tuple #[.agg #[.int .i64 0, .int .i64 0], .int .i64 a, .agg #[.int .i64 (nmE 1 (dgs s a)), .int .i64 (nmB 1 (dgs s a) a)]]) ∧ Fr (fun _ => False) w w' := by
  have hm := maxLen_i64
  have hsz : (ofL s).size = s.length := rfl
  have hlt : a < s.length := hl'
  have hl : (a : Int) < (s.length : Int) := by omega
  have hb : ((((ofL s)[a]'hlt).toNat : Int) == 45) = false := ofl_ne hlt h45
  have hnum := fun W hW => num2_calls hX hG s hs a ha W hW
  have hE : (nmE 1 (dgs s a) == 0) = false := by simpa using hE'
  clear hm hs ha hE' h45
  generalize nm2A (dgs s a) a = A at hnum ⊢
  generalize numV (dgs s a) = V at hnum ⊢
  generalize nmE 1 (dgs s a) = E at hnum hE ⊢
  generalize nmB 1 (dgs s a) a = B at hnum ⊢
  go_enter Tryz.func33, Tryz.ntmps33
  go_wp2_with (go_at_call 56; refine (hnum _ (fr_alloc2 _ _ _)).mono ?_; rintro e w' ⟨rfl, hF⟩; refine Hid.out ?_)
  refine ⟨?_⟩
  repeat' (first | (exact (hno1 ‹_›).elim) | (exact (hno2 ‹_›).elim) | (first | go_values | go_skip | go_guarded | go_step | go_upon | go_in | go_back))
  obtain ⟨s4, s6, z', hFF⟩ := after2 hF
  have hal := MapKept.heap_alloc w' (Obj.cells #[Value.int IntKind.i64 E, Value.int IntKind.i64 B] 59)
  have hFW := hFF.alloc (Obj.cells #[Value.int IntKind.i64 E, Value.int IntKind.i64 B] 59)
  generalize w'.alloc (Obj.cells #[Value.int IntKind.i64 E, Value.int IntKind.i64 B] 59) = W at hal hFW ⊢
  have k4 : Two W w.heap.size _ _ _ := ⟨(hal.2 _ (by omega)).trans s4⟩
  have k6 : Two W (w.heap.size + 1) _ _ _ := ⟨(hal.2 _ (by omega)).trans s6⟩
  have k9 : Two W w'.heap.size _ _ _ := ⟨hal.1⟩
  have c40 := k4.c0
  have c41 := k4.c1
  have c60 := k6.c0
  have c61 := k6.c1
  have c90 := k9.c0
  have c91 := k9.c1
  have f4 := k4.fz
  have f6 := k6.fz
  have f9 := k9.fz
  have n46 : w.heap.size ≠ w.heap.size + 1 := by omega
  have n49 : w.heap.size ≠ w'.heap.size := by omega
  have n69 : w.heap.size + 1 ≠ w'.heap.size := by omega
  clear hF s4 s6 hFF hnum hal k4 k6 k9 hX hG
  go_region
  go_wp2
  have k := (Four.mk c40 c41 c60 c61).of (.int .i64 0) (.int .i64 0) (.int .i64 E) (.int .i64 B) n46
  refine bodyPost_ret (res3 k _ rfl rfl rfl) rfl ⟨rfl, ?_⟩
  exact ((((hFW.setCell _ _ (.inr (Nat.le_refl _))).setCell _ _ (.inr (Nat.le_refl _))).setCell _ _ (.inr (Nat.le_succ _))).setCell _ _ (.inr (Nat.le_succ _))).drew
set_option maxHeartbeats 800000 in
theorem el2_n1 {X : Nat → Nat → Prop} {w : World} (hX : ∀ b o, X b o → b < w.heap.size) (hG : GR (Stab X [] w) w []) (s : Bs) (hs : s.length ≤ maxLen) (a : Nat) (ha : a ≤ s.length) (hl' : a < s.length) (h45 : s[a]? ≠ some 45) (hE' : nmE 1 (dgs s a) = 0) (hA : ¬ nm2A (dgs s a) a < s.length) :
    Calls Tryz.prog 33 #[.string (ofL s), .int .i64 a] w fun e w' => e = .returned (.tuple #[.agg #[.int .i64 (numV (dgs s a)), .int .i64 (numV (dgs s a))], .int .i64 ((nm2A (dgs s a) a : Nat) : Int), .agg #[.int .i64 0, .int .i64 (nmB 1 (dgs s a) a)]]) ∧ Fr (fun _ => False) w w' := by
  have hm := maxLen_i64
  have hsz : (ofL s).size = s.length := rfl
  have hlt : a < s.length := hl'
  have hl : (a : Int) < (s.length : Int) := by omega
  have hb : ((((ofL s)[a]'hlt).toNat : Int) == 45) = false := ofl_ne hlt h45
  have hnum := fun W hW => num2_calls hX hG s hs a ha W hW
  have hB : nmE 1 (dgs s a) = 0 := hE'
  rw [hB] at hnum
  generalize numV (dgs s a) = V at hnum ⊢
  generalize nmB 1 (dgs s a) a = B at hnum ⊢
  generalize nm2A (dgs s a) a = A at *
  have hA' : (s.length : Int) ≤ (A : Int) := by omega
  clear hm hs ha hE' h45 hB
  go_enter Tryz.func33, Tryz.ntmps33
  go_wp2_with (go_at_call 56; refine (hnum _ (fr_alloc2 _ _ _)).mono ?_; rintro e w' ⟨rfl, hF⟩; refine Hid.out ?_)
  refine ⟨?_⟩
  repeat' (first | (exact (hno1 ‹_›).elim) | (exact (hno2 ‹_›).elim) | (first | go_values | go_skip | go_guarded | go_step | go_upon | go_in | go_back))
  obtain ⟨s4, s6, z', hFF⟩ := after2 hF
  have hal := MapKept.heap_alloc w' (Obj.cells #[Value.int IntKind.i64 0, Value.int IntKind.i64 B] 59)
  have hFW := hFF.alloc (Obj.cells #[Value.int IntKind.i64 0, Value.int IntKind.i64 B] 59)
  generalize w'.alloc (Obj.cells #[Value.int IntKind.i64 0, Value.int IntKind.i64 B] 59) = W at hal hFW ⊢
  have k4 : Two W w.heap.size _ _ _ := ⟨(hal.2 _ (by omega)).trans s4⟩
  have k6 : Two W (w.heap.size + 1) _ _ _ := ⟨(hal.2 _ (by omega)).trans s6⟩
  have k9 : Two W w'.heap.size _ _ _ := ⟨hal.1⟩
  have c40 := k4.c0
  have c41 := k4.c1
  have c60 := k6.c0
  have c61 := k6.c1
  have c90 := k9.c0
  have c91 := k9.c1
  have f4 := k4.fz
  have f6 := k6.fz
  have f9 := k9.fz
  have n46 : w.heap.size ≠ w.heap.size + 1 := by omega
  have n49 : w.heap.size ≠ w'.heap.size := by omega
  have n69 : w.heap.size + 1 ≠ w'.heap.size := by omega
  clear hF s4 s6 hFF hnum hal k4 k6 k9 hX hG
  go_region
  go_wp2
  have k := (Four.mk c40 c41 c60 c61).of (.int .i64 V) (.int .i64 V) (.int .i64 0) (.int .i64 B) n46
  refine bodyPost_ret (res3 k _ rfl rfl rfl) rfl ⟨rfl, ?_⟩
  exact ((((hFW.setCell _ _ (.inr (Nat.le_refl _))).setCell _ _ (.inr (Nat.le_refl _))).setCell _ _ (.inr (Nat.le_succ _))).setCell _ _ (.inr (Nat.le_succ _))).drew
set_option maxHeartbeats 800000 in
theorem el2_n2 {X : Nat → Nat → Prop} {w : World} (hX : ∀ b o, X b o → b < w.heap.size) (hG : GR (Stab X [] w) w []) (s : Bs) (hs : s.length ≤ maxLen) (a : Nat) (ha : a ≤ s.length) (hl' : a < s.length) (h45 : s[a]? ≠ some 45) (hE' : nmE 1 (dgs s a) = 0) (hA : nm2A (dgs s a) a < s.length) (hm45 : s[nm2A (dgs s a) a]? ≠ some 45) :
    Calls Tryz.prog 33 #[.string (ofL s), .int .i64 a] w fun e w' => e = .returned (.tuple #[.agg #[.int .i64 (numV (dgs s a)), .int .i64 (numV (dgs s a))], .int .i64 ((nm2A (dgs s a) a : Nat) : Int), .agg #[.int .i64 0, .int .i64 (nmB 1 (dgs s a) a)]]) ∧ Fr (fun _ => False) w w' := by
  have hm := maxLen_i64
  have hsz : (ofL s).size = s.length := rfl
  have hlt : a < s.length := hl'
  have hl : (a : Int) < (s.length : Int) := by omega
  have hb : ((((ofL s)[a]'hlt).toNat : Int) == 45) = false := ofl_ne hlt h45
  have hnum := fun W hW => num2_calls hX hG s hs a ha W hW
  have hB : nmE 1 (dgs s a) = 0 := hE'
  rw [hB] at hnum
  generalize numV (dgs s a) = V at hnum ⊢
  generalize nmB 1 (dgs s a) a = B at hnum ⊢
  generalize nm2A (dgs s a) a = A at *
  have hA' : decide ((s.length : Int) ≤ (A : Int)) = false := by simp; omega
  have hAi : (A : Int) < (s.length : Int) := by omega
  have hbA : ((((ofL s)[A]'hA).toNat : Int) == 45) = false := ofl_ne hA hm45
  have hbA2 : ((((ofL s)[A]'hA).toNat : Int) != 45) = true := by rw [bne, hbA]; rfl
  have hno1 : ¬ (¬ s.length ≤ A ∧ ((((ofL s)[A]'hA).toNat : Int) != 45) = false) := fun q => by rw [hbA2] at q; exact absurd q.2 (by decide)
  have hno2 := hno1
  clear hm hs ha hE' h45 hB hm45
  go_enter Tryz.func33, Tryz.ntmps33
  go_wp2_with (go_at_call 56; refine (hnum _ (fr_alloc2 _ _ _)).mono ?_; rintro e w' ⟨rfl, hF⟩; refine Hid.out ?_)
  refine ⟨?_⟩
  repeat' (first | (exact (hno1 ‹_›).elim) | (exact (hno2 ‹_›).elim) | (first | go_values | go_skip | go_guarded | go_step | go_upon | go_in | go_back))
  obtain ⟨s4, s6, z', hFF⟩ := after2 hF
  have hal := MapKept.heap_alloc w' (Obj.cells #[Value.int IntKind.i64 0, Value.int IntKind.i64 B] 59)
  have hFW := hFF.alloc (Obj.cells #[Value.int IntKind.i64 0, Value.int IntKind.i64 B] 59)
  generalize w'.alloc (Obj.cells #[Value.int IntKind.i64 0, Value.int IntKind.i64 B] 59) = W at hal hFW ⊢
  have k4 : Two W w.heap.size _ _ _ := ⟨(hal.2 _ (by omega)).trans s4⟩
  have k6 : Two W (w.heap.size + 1) _ _ _ := ⟨(hal.2 _ (by omega)).trans s6⟩
  have k9 : Two W w'.heap.size _ _ _ := ⟨hal.1⟩
  have c40 := k4.c0
  have c41 := k4.c1
  have c60 := k6.c0
  have c61 := k6.c1
  have c90 := k9.c0
  have c91 := k9.c1
  have f4 := k4.fz
  have f6 := k6.fz
  have f9 := k9.fz
  have n46 : w.heap.size ≠ w.heap.size + 1 := by omega
  have n49 : w.heap.size ≠ w'.heap.size := by omega
  have n69 : w.heap.size + 1 ≠ w'.heap.size := by omega
  clear hF s4 s6 hFF hnum hal k4 k6 k9 hX hG
  go_region
  go_wp2
  have k := (Four.mk c40 c41 c60 c61).of (.int .i64 V) (.int .i64 V) (.int .i64 0) (.int .i64 B) n46
  refine bodyPost_ret (res3 k _ rfl rfl rfl) rfl ⟨rfl, ?_⟩
  exact ((((hFW.setCell _ _ (.inr (Nat.le_refl _))).setCell _ _ (.inr (Nat.le_refl _))).setCell _ _ (.inr (Nat.le_succ _))).setCell _ _ (.inr (Nat.le_succ _))).drew
set_option maxHeartbeats 800000 in
theorem el2_o1 {X : Nat → Nat → Prop} {w : World} (hX : ∀ b o, X b o → b < w.heap.size) (hG : GR (Stab X [] w) w []) (s : Bs) (hs : s.length ≤ maxLen) (a : Nat) (ha : a ≤ s.length) (hl' : a < s.length) (h45 : s[a]? ≠ some 45) (hE' : nmE 1 (dgs s a) = 0) (hA : nm2A (dgs s a) a < s.length) (hm45 : s[nm2A (dgs s a) a]? = some 45) (hJ : ¬ nm2A (dgs s a) a + 1 < s.length) :
    Calls Tryz.prog 33 #[.string (ofL s), .int .i64 a] w fun e w' => e = .returned (.tuple #[.agg #[.int .i64 (numV (dgs s a)), .int .i64 0], .int .i64 ((nm2A (dgs s a) a + 1 : Nat) : Int), .agg #[.int .i64 0, .int .i64 (nmB 1 (dgs s a) a)]]) ∧ Fr (fun _ => False) w w' := by
  have hm := maxLen_i64
  have hsz : (ofL s).size = s.length := rfl
  have hlt : a < s.length := hl'
  have hl : (a : Int) < (s.length : Int) := by omega
  have hb : ((((ofL s)[a]'hlt).toNat : Int) == 45) = false := ofl_ne hlt h45
  have hnum := fun W hW => num2_calls hX hG s hs a ha W hW
  have hB : nmE 1 (dgs s a) = 0 := hE'
  rw [hB] at hnum
  generalize numV (dgs s a) = V at hnum ⊢
  generalize nmB 1 (dgs s a) a = B at hnum ⊢
  generalize nm2A (dgs s a) a = A at *
  have hA1 : decide ((s.length : Int) ≤ (A : Int)) = false := by simp; omega
  have hAi : (A : Int) < (s.length : Int) := by omega
  have hbA : ((((ofL s)[A]'hA).toNat : Int) == 45) = true := ofl_eq hA hm45
  have hbA2 : ((((ofL s)[A]'hA).toNat : Int) != 45) = false := by rw [bne, hbA]; rfl
  have hno1 : ¬ (s.length ≤ A ∨ ((((ofL s)[A]'hA).toNat : Int) != 45) = true) := fun q => q.elim (fun q => by omega) (fun q => by rw [hbA2] at q; exact absurd q (by decide))
  have hno2 := hno1
  have hin : IntKind.i64.wrap ((A : Int) + 1) = ((A + 1 : Nat) : Int) := by rw [wrap64_id (by omega) (by omega)]; rfl
  have hJ1 : (s.length : Int) ≤ ((A + 1 : Nat) : Int) := by omega
  clear hm hs ha hE' h45 hB hm45
  generalize A + 1 = J at *
  go_enter Tryz.func33, Tryz.ntmps33
  go_wp2_with (go_at_call 56; refine (hnum _ (fr_alloc2 _ _ _)).mono ?_; rintro e w' ⟨rfl, hF⟩; refine Hid.out ?_)
  refine ⟨?_⟩
  repeat' (first | (exact (hno1 ‹_›).elim) | (exact (hno2 ‹_›).elim) | (first | go_values | go_skip | go_guarded | go_step | go_upon | go_in | go_back))
  obtain ⟨s4, s6, z', hFF⟩ := after2 hF
  have hal := MapKept.heap_alloc w' (Obj.cells #[Value.int IntKind.i64 0, Value.int IntKind.i64 B] 59)
  have hFW := hFF.alloc (Obj.cells #[Value.int IntKind.i64 0, Value.int IntKind.i64 B] 59)
  generalize w'.alloc (Obj.cells #[Value.int IntKind.i64 0, Value.int IntKind.i64 B] 59) = W at hal hFW ⊢
  have k4 : Two W w.heap.size _ _ _ := ⟨(hal.2 _ (by omega)).trans s4⟩
  have k6 : Two W (w.heap.size + 1) _ _ _ := ⟨(hal.2 _ (by omega)).trans s6⟩
  have k9 : Two W w'.heap.size _ _ _ := ⟨hal.1⟩
  have c40 := k4.c0
  have c41 := k4.c1
  have c60 := k6.c0
  have c61 := k6.c1
  have c90 := k9.c0
  have c91 := k9.c1
  have f4 := k4.fz
  have f6 := k6.fz
  have f9 := k9.fz
  have n46 : w.heap.size ≠ w.heap.size + 1 := by omega
  have n49 : w.heap.size ≠ w'.heap.size := by omega
  have n69 : w.heap.size + 1 ≠ w'.heap.size := by omega
  clear hF s4 s6 hFF hnum hal k4 k6 k9 hX hG
  go_region
  go_wp2
  have k := (Four.mk c40 c41 c60 c61).of (.int .i64 V) (.int .i64 0) (.int .i64 0) (.int .i64 B) n46
  refine bodyPost_ret (res3 k _ rfl rfl rfl) rfl ⟨rfl, ?_⟩
  exact ((((hFW.setCell _ _ (.inr (Nat.le_refl _))).setCell _ _ (.inr (Nat.le_refl _))).setCell _ _ (.inr (Nat.le_succ _))).setCell _ _ (.inr (Nat.le_succ _))).drew
set_option maxHeartbeats 800000 in
theorem el2_o2 {X : Nat → Nat → Prop} {w : World} (hX : ∀ b o, X b o → b < w.heap.size) (hG : GR (Stab X [] w) w []) (s : Bs) (hs : s.length ≤ maxLen) (a : Nat) (ha : a ≤ s.length) (hl' : a < s.length) (h45 : s[a]? ≠ some 45) (hE' : nmE 1 (dgs s a) = 0) (hA : nm2A (dgs s a) a < s.length) (hm45 : s[nm2A (dgs s a) a]? = some 45) (hJ : nm2A (dgs s a) a + 1 < s.length) (hc : ((((ofL s)[nm2A (dgs s a) a + 1]'hJ).toNat : Int) < 48)) :
    Calls Tryz.prog 33 #[.string (ofL s), .int .i64 a] w fun e w' => e = .returned (.tuple #[.agg #[.int .i64 (numV (dgs s a)), .int .i64 0], .int .i64 ((nm2A (dgs s a) a + 1 : Nat) : Int), .agg #[.int .i64 0, .int .i64 (nmB 1 (dgs s a) a)]]) ∧ Fr (fun _ => False) w w' := by
  have hm := maxLen_i64
  have hsz : (ofL s).size = s.length := rfl
  have hlt : a < s.length := hl'
  have hl : (a : Int) < (s.length : Int) := by omega
  have hb : ((((ofL s)[a]'hlt).toNat : Int) == 45) = false := ofl_ne hlt h45
  have hnum := fun W hW => num2_calls hX hG s hs a ha W hW
  have hB : nmE 1 (dgs s a) = 0 := hE'
  rw [hB] at hnum
  generalize numV (dgs s a) = V at hnum ⊢
  generalize nmB 1 (dgs s a) a = B at hnum ⊢
  generalize nm2A (dgs s a) a = A at *
  have hA1 : decide ((s.length : Int) ≤ (A : Int)) = false := by simp; omega
  have hAi : (A : Int) < (s.length : Int) := by omega
  have hbA : ((((ofL s)[A]'hA).toNat : Int) == 45) = true := ofl_eq hA hm45
  have hbA2 : ((((ofL s)[A]'hA).toNat : Int) != 45) = false := by rw [bne, hbA]; rfl
  have hno1 : ¬ (s.length ≤ A ∨ ((((ofL s)[A]'hA).toNat : Int) != 45) = true) := fun q => q.elim (fun q => by omega) (fun q => by rw [hbA2] at q; exact absurd q (by decide))
  have hno2 := hno1
  have hin : IntKind.i64.wrap ((A : Int) + 1) = ((A + 1 : Nat) : Int) := by rw [wrap64_id (by omega) (by omega)]; rfl
  have hJ1 : decide ((s.length : Int) ≤ ((A + 1 : Nat) : Int)) = false := by simp; omega
  have hJi : ((A + 1 : Nat) : Int) < (s.length : Int) := by omega
  clear hm hs ha hE' h45 hB hm45
  generalize A + 1 = J at *
  go_enter Tryz.func33, Tryz.ntmps33
  go_wp2_with (go_at_call 56; refine (hnum _ (fr_alloc2 _ _ _)).mono ?_; rintro e w' ⟨rfl, hF⟩; refine Hid.out ?_)
  refine ⟨?_⟩
  repeat' (first | (exact (hno1 ‹_›).elim) | (exact (hno2 ‹_›).elim) | (first | go_values | go_skip | go_guarded | go_step | go_upon | go_in | go_back))
  obtain ⟨s4, s6, z', hFF⟩ := after2 hF
  have hal := MapKept.heap_alloc w' (Obj.cells #[Value.int IntKind.i64 0, Value.int IntKind.i64 B] 59)
  have hFW := hFF.alloc (Obj.cells #[Value.int IntKind.i64 0, Value.int IntKind.i64 B] 59)
  generalize w'.alloc (Obj.cells #[Value.int IntKind.i64 0, Value.int IntKind.i64 B] 59) = W at hal hFW ⊢
  have k4 : Two W w.heap.size _ _ _ := ⟨(hal.2 _ (by omega)).trans s4⟩
  have k6 : Two W (w.heap.size + 1) _ _ _ := ⟨(hal.2 _ (by omega)).trans s6⟩
  have k9 : Two W w'.heap.size _ _ _ := ⟨hal.1⟩
  have c40 := k4.c0
  have c41 := k4.c1
  have c60 := k6.c0
  have c61 := k6.c1
  have c90 := k9.c0
  have c91 := k9.c1
  have f4 := k4.fz
  have f6 := k6.fz
  have f9 := k9.fz
  have n46 : w.heap.size ≠ w.heap.size + 1 := by omega
  have n49 : w.heap.size ≠ w'.heap.size := by omega
  have n69 : w.heap.size + 1 ≠ w'.heap.size := by omega
  clear hF s4 s6 hFF hnum hal k4 k6 k9 hX hG
  go_region
  go_wp2
  have k := (Four.mk c40 c41 c60 c61).of (.int .i64 V) (.int .i64 0) (.int .i64 0) (.int .i64 B) n46
  refine bodyPost_ret (res3 k _ rfl rfl rfl) rfl ⟨rfl, ?_⟩
  exact ((((hFW.setCell _ _ (.inr (Nat.le_refl _))).setCell _ _ (.inr (Nat.le_refl _))).setCell _ _ (.inr (Nat.le_succ _))).setCell _ _ (.inr (Nat.le_succ _))).drew
set_option maxHeartbeats 800000 in
theorem el2_o3 {X : Nat → Nat → Prop} {w : World} (hX : ∀ b o, X b o → b < w.heap.size) (hG : GR (Stab X [] w) w []) (s : Bs) (hs : s.length ≤ maxLen) (a : Nat) (ha : a ≤ s.length) (hl' : a < s.length) (h45 : s[a]? ≠ some 45) (hE' : nmE 1 (dgs s a) = 0) (hA : nm2A (dgs s a) a < s.length) (hm45 : s[nm2A (dgs s a) a]? = some 45) (hJ : nm2A (dgs s a) a + 1 < s.length) (hc : ¬ ((((ofL s)[nm2A (dgs s a) a + 1]'hJ).toNat : Int) < 48)) (hd : 57 < ((((ofL s)[nm2A (dgs s a) a + 1]'hJ).toNat : Int))) :
    Calls Tryz.prog 33 #[.string (ofL s), .int .i64 a] w fun e w' => e = .returned (.tuple #[.agg #[.int .i64 (numV (dgs s a)), .int .i64 0], .int .i64 ((nm2A (dgs s a) a + 1 : Nat) : Int), .agg #[.int .i64 0, .int .i64 (nmB 1 (dgs s a) a)]]) ∧ Fr (fun _ => False) w w' := by
  have hm := maxLen_i64
  have hsz : (ofL s).size = s.length := rfl
  have hlt : a < s.length := hl'
  have hl : (a : Int) < (s.length : Int) := by omega
  have hb : ((((ofL s)[a]'hlt).toNat : Int) == 45) = false := ofl_ne hlt h45
  have hnum := fun W hW => num2_calls hX hG s hs a ha W hW
  have hB : nmE 1 (dgs s a) = 0 := hE'
  rw [hB] at hnum
  generalize numV (dgs s a) = V at hnum ⊢
  generalize nmB 1 (dgs s a) a = B at hnum ⊢
  generalize nm2A (dgs s a) a = A at *
  have hA1 : decide ((s.length : Int) ≤ (A : Int)) = false := by simp; omega
  have hAi : (A : Int) < (s.length : Int) := by omega
  have hbA : ((((ofL s)[A]'hA).toNat : Int) == 45) = true := ofl_eq hA hm45
  have hbA2 : ((((ofL s)[A]'hA).toNat : Int) != 45) = false := by rw [bne, hbA]; rfl
  have hno1 : ¬ (s.length ≤ A ∨ ((((ofL s)[A]'hA).toNat : Int) != 45) = true) := fun q => q.elim (fun q => by omega) (fun q => by rw [hbA2] at q; exact absurd q (by decide))
  have hno2 := hno1
  have hin : IntKind.i64.wrap ((A : Int) + 1) = ((A + 1 : Nat) : Int) := by rw [wrap64_id (by omega) (by omega)]; rfl
  have hJ1 : decide ((s.length : Int) ≤ ((A + 1 : Nat) : Int)) = false := by simp; omega
  have hJi : ((A + 1 : Nat) : Int) < (s.length : Int) := by omega
  clear hm hs ha hE' h45 hB hm45
  generalize A + 1 = J at *
  go_enter Tryz.func33, Tryz.ntmps33
  go_wp2_with (go_at_call 56; refine (hnum _ (fr_alloc2 _ _ _)).mono ?_; rintro e w' ⟨rfl, hF⟩; refine Hid.out ?_)
  refine ⟨?_⟩
  repeat' (first | (exact (hno1 ‹_›).elim) | (exact (hno2 ‹_›).elim) | (first | go_values | go_skip | go_guarded | go_step | go_upon | go_in | go_back))
  obtain ⟨s4, s6, z', hFF⟩ := after2 hF
  have hal := MapKept.heap_alloc w' (Obj.cells #[Value.int IntKind.i64 0, Value.int IntKind.i64 B] 59)
  have hFW := hFF.alloc (Obj.cells #[Value.int IntKind.i64 0, Value.int IntKind.i64 B] 59)
  generalize w'.alloc (Obj.cells #[Value.int IntKind.i64 0, Value.int IntKind.i64 B] 59) = W at hal hFW ⊢
  have k4 : Two W w.heap.size _ _ _ := ⟨(hal.2 _ (by omega)).trans s4⟩
  have k6 : Two W (w.heap.size + 1) _ _ _ := ⟨(hal.2 _ (by omega)).trans s6⟩
  have k9 : Two W w'.heap.size _ _ _ := ⟨hal.1⟩
  have c40 := k4.c0
  have c41 := k4.c1
  have c60 := k6.c0
  have c61 := k6.c1
  have c90 := k9.c0
  have c91 := k9.c1
  have f4 := k4.fz
  have f6 := k6.fz
  have f9 := k9.fz
  have n46 : w.heap.size ≠ w.heap.size + 1 := by omega
  have n49 : w.heap.size ≠ w'.heap.size := by omega
  have n69 : w.heap.size + 1 ≠ w'.heap.size := by omega
  clear hF s4 s6 hFF hnum hal k4 k6 k9 hX hG
  go_region
  go_wp2
  have k := (Four.mk c40 c41 c60 c61).of (.int .i64 V) (.int .i64 0) (.int .i64 0) (.int .i64 B) n46
  refine bodyPost_ret (res3 k _ rfl rfl rfl) rfl ⟨rfl, ?_⟩
  exact ((((hFW.setCell _ _ (.inr (Nat.le_refl _))).setCell _ _ (.inr (Nat.le_refl _))).setCell _ _ (.inr (Nat.le_succ _))).setCell _ _ (.inr (Nat.le_succ _))).drew
set_option maxHeartbeats 800000 in
theorem el2_m1 {X : Nat → Nat → Prop} {w : World} (hX : ∀ b o, X b o → b < w.heap.size) (hG : GR (Stab X [] w) w []) (s : Bs) (hs : s.length ≤ maxLen) (a : Nat) (ha : a ≤ s.length) (hl' : a < s.length) (h45 : s[a]? ≠ some 45) (hE' : nmE 1 (dgs s a) = 0) (hA : nm2A (dgs s a) a < s.length) (hm45 : s[nm2A (dgs s a) a]? = some 45) (hJ : nm2A (dgs s a) a + 1 < s.length) (hc : ¬ ((((ofL s)[nm2A (dgs s a) a + 1]'hJ).toNat : Int) < 48)) (hd : ¬ 57 < ((((ofL s)[nm2A (dgs s a) a + 1]'hJ).toNat : Int))) (hZ : nmE 1 (dgs s (nm2A (dgs s a) a + 1)) ≠ 0) :
    Calls Tryz.prog 33 #[.string (ofL s), .int .i64 a] w fun e w' => e = .returned (.tuple #[.agg #[.int .i64 (numV (dgs s a)), .int .i64 (numV (dgs s (nm2A (dgs s a) a + 1)))], .int .i64 ((nm2A (dgs s (nm2A (dgs s a) a + 1)) (nm2A (dgs s a) a + 1) : Nat) : Int), .agg #[.int .i64 (nmE 1 (dgs s (nm2A (dgs s a) a + 1))), .int .i64 (nmB 1 (dgs s (nm2A (dgs s a) a + 1)) (nm2A (dgs s a) a + 1))]]) ∧ Fr (fun _ => False) w w' := by
  have hm := maxLen_i64
  have hsz : (ofL s).size = s.length := rfl
  have hlt : a < s.length := hl'
  have hl : (a : Int) < (s.length : Int) := by omega
  have hb : ((((ofL s)[a]'hlt).toNat : Int) == 45) = false := ofl_ne hlt h45
  have hnum := fun W hW => num2_calls hX hG s hs a ha W hW
  have hB : nmE 1 (dgs s a) = 0 := hE'
  rw [hB] at hnum
  generalize numV (dgs s a) = V at hnum ⊢
  generalize nmB 1 (dgs s a) a = B at hnum ⊢
  generalize nm2A (dgs s a) a = A at *
  have hA1 : decide ((s.length : Int) ≤ (A : Int)) = false := by simp; omega
  have hAi : (A : Int) < (s.length : Int) := by omega
  have hbA : ((((ofL s)[A]'hA).toNat : Int) == 45) = true := ofl_eq hA hm45
  have hbA2 : ((((ofL s)[A]'hA).toNat : Int) != 45) = false := by rw [bne, hbA]; rfl
  have hno1 : ¬ (s.length ≤ A ∨ ((((ofL s)[A]'hA).toNat : Int) != 45) = true) := fun q => q.elim (fun q => by omega) (fun q => by rw [hbA2] at q; exact absurd q (by decide))
  have hin : IntKind.i64.wrap ((A : Int) + 1) = ((A + 1 : Nat) : Int) := by rw [wrap64_id (by omega) (by omega)]; rfl
  have hJ1 : decide ((s.length : Int) ≤ ((A + 1 : Nat) : Int)) = false := by simp; omega
  have hJi : ((A + 1 : Nat) : Int) < (s.length : Int) := by omega
  have hno2 : ¬ ((s.length ≤ A + 1 ∨ ((((ofL s)[A + 1]'hJ).toNat : Int) < 48)) ∨ 57 < ((((ofL s)[A + 1]'hJ).toNat : Int))) := by omega
  have hnum2 := fun W hW => num2_calls hX hG s hs (A + 1) (by omega) W hW
  generalize numV (dgs s (A + 1)) = V2 at hnum2 ⊢
  generalize nmB 1 (dgs s (A + 1)) (A + 1) = B2 at hnum2 ⊢
  generalize nm2A (dgs s (A + 1)) (A + 1) = A2 at hnum2 ⊢
  have hE2 : (nmE 1 (dgs s (A + 1)) == 0) = false := by simpa using hZ
  have hno3 : ¬ ((nmE 1 (dgs s (A + 1)) == 0) = true ∧ V2 < V) := fun q => by rw [hE2] at q; exact absurd q.1 (by decide)
  clear hZ
  generalize nmE 1 (dgs s (A + 1)) = E2 at hnum2 hE2 hno3 ⊢
  clear hm hs ha hE' h45 hB hm45
  generalize A + 1 = J at *
  go_enter Tryz.func33, Tryz.ntmps33
  go_wp2_with (go_at_call 56; refine (hnum _ (fr_alloc2 _ _ _)).mono ?_; rintro e w' ⟨rfl, hF⟩; refine Hid.out ?_)
  refine ⟨?_⟩
  repeat' (first | (exact (hno1 ‹_›).elim) | (exact (hno2 ‹_›).elim) | (go_at_call 56; refine Hid.out ?_) | (first | go_values | go_skip | go_guarded | go_step | go_upon | go_in | go_back))
  obtain ⟨s4, s6, z', hFF⟩ := after2 hF
  have hal := MapKept.heap_alloc w' (Obj.cells #[Value.int IntKind.i64 0, Value.int IntKind.i64 B] 59)
  have hFW := hFF.alloc (Obj.cells #[Value.int IntKind.i64 0, Value.int IntKind.i64 B] 59)
  generalize w'.alloc (Obj.cells #[Value.int IntKind.i64 0, Value.int IntKind.i64 B] 59) = W at hal hFW ⊢
  have k4 : Two W w.heap.size _ _ _ := ⟨(hal.2 _ (by omega)).trans s4⟩
  have k6 : Two W (w.heap.size + 1) _ _ _ := ⟨(hal.2 _ (by omega)).trans s6⟩
  have k9 : Two W w'.heap.size _ _ _ := ⟨hal.1⟩
  have c40 := k4.c0
  have c41 := k4.c1
  have c60 := k6.c0
  have c61 := k6.c1
  have c90 := k9.c0
  have c91 := k9.c1
  have f4 := k4.fz
  have f6 := k6.fz
  have f9 := k9.fz
  have n46 : w.heap.size ≠ w.heap.size + 1 := by omega
  have n49 : w.heap.size ≠ w'.heap.size := by omega
  have n69 : w.heap.size + 1 ≠ w'.heap.size := by omega
  refine ⟨?_⟩
  refine (hnum2 _ hFW).mono ?_
  rintro e w2 ⟨rfl, hF2⟩
  replace hFW := hFW.trans hF2 fun _ q => q.elim
  replace k4 := k4.fr hF2
  replace k6 := k6.fr hF2
  replace k9 := k9.fr hF2
  clear c40 c41 c60 c61 c90 c91 f4 f6 f9
  have c90 := k9.c0
  have c91 := k9.c1
  have f9 := k9.fz
  clear hF s4 s6 hFF hnum hnum2 hal hX hG
  dsimp only
  repeat' (first | (exact (hno3 ‹_›).elim) | (first | go_values | go_skip | go_guarded | go_step | go_upon | go_in | go_back))
  have o9 := k9.own.set (.int .i64 E2) (.int .i64 B2)
  replace k4 := ((k4.far (o := 0) (v := (.int .i64 E2)) n49).far (o := 1) (v := (.int .i64 B2)) n49)
  replace k6 := ((k6.far (o := 0) (v := (.int .i64 E2)) n69).far (o := 1) (v := (.int .i64 B2)) n69)
  replace hFW := ((hFW.setCell ⟨w'.heap.size, 0, none⟩ (.int .i64 E2) (.inr (Nat.le_trans (Nat.le_add_right _ 2) z'))).setCell ⟨w'.heap.size, 1, none⟩ (.int .i64 B2) (.inr (Nat.le_trans (Nat.le_add_right _ 2) z')))
  clear c90 c91 f9 k9
  generalize ((w2.setCell ⟨w'.heap.size, 0, none⟩ (.int .i64 E2)).setCell ⟨w'.heap.size, 1, none⟩ (.int .i64 B2)) = W3 at o9 k4 k6 hFW ⊢
  have c40 := k4.c0
  have c41 := k4.c1
  have c60 := k6.c0
  have c61 := k6.c1
  have c90 := o9.c0
  have c91 := o9.c1
  have f4 := k4.fz
  have f6 := k6.fz
  have f9 := o9.fz
  clear k4 k6 o9
  go_region
  go_wp2
  have k := (Four.mk c40 c41 c60 c61).of (.int .i64 V) (.int .i64 V2) (.int .i64 E2) (.int .i64 B2) n46
  refine bodyPost_ret (res3 k _ rfl rfl rfl) rfl ⟨rfl, ?_⟩
  exact ((((hFW.setCell _ _ (.inr (Nat.le_refl _))).setCell _ _ (.inr (Nat.le_refl _))).setCell _ _ (.inr (Nat.le_succ _))).setCell _ _ (.inr (Nat.le_succ _))).drew
set_option maxHeartbeats 800000 in
theorem el2_m2 {X : Nat → Nat → Prop} {w : World} (hX : ∀ b o, X b o → b < w.heap.size) (hG : GR (Stab X [] w) w []) (s : Bs) (hs : s.length ≤ maxLen) (a : Nat) (ha : a ≤ s.length) (hl' : a < s.length) (h45 : s[a]? ≠ some 45) (hE' : nmE 1 (dgs s a) = 0) (hA : nm2A (dgs s a) a < s.length) (hm45 : s[nm2A (dgs s a) a]? = some 45) (hJ : nm2A (dgs s a) a + 1 < s.length) (hc : ¬ ((((ofL s)[nm2A (dgs s a) a + 1]'hJ).toNat : Int) < 48)) (hd : ¬ 57 < ((((ofL s)[nm2A (dgs s a) a + 1]'hJ).toNat : Int))) (hZ : nmE 1 (dgs s (nm2A (dgs s a) a + 1)) = 0) (hV : numV (dgs s (nm2A (dgs s a) a + 1)) < numV (dgs s a)) :
    Calls Tryz.prog 33 #[.string (ofL s), .int .i64 a] w fun e w' => e = .returned (.tuple #[.agg #[.int .i64 (numV (dgs s a)), .int .i64 (numV (dgs s (nm2A (dgs s a) a + 1)))], .int .i64 ((nm2A (dgs s (nm2A (dgs s a) a + 1)) (nm2A (dgs s a) a + 1) : Nat) : Int), .agg #[.int .i64 2, .int .i64 ((nm2A (dgs s a) a + 1 : Nat) : Int)]]) ∧ Fr (fun _ => False) w w' := by
  have hm := maxLen_i64
  have hsz : (ofL s).size = s.length := rfl
  have hlt : a < s.length := hl'
  have hl : (a : Int) < (s.length : Int) := by omega
  have hb : ((((ofL s)[a]'hlt).toNat : Int) == 45) = false := ofl_ne hlt h45
  have hnum := fun W hW => num2_calls hX hG s hs a ha W hW
  have hB : nmE 1 (dgs s a) = 0 := hE'
  rw [hB] at hnum
  generalize numV (dgs s a) = V at *
  generalize nmB 1 (dgs s a) a = B at hnum ⊢
  generalize nm2A (dgs s a) a = A at *
  have hA1 : decide ((s.length : Int) ≤ (A : Int)) = false := by simp; omega
  have hAi : (A : Int) < (s.length : Int) := by omega
  have hbA : ((((ofL s)[A]'hA).toNat : Int) == 45) = true := ofl_eq hA hm45
  have hbA2 : ((((ofL s)[A]'hA).toNat : Int) != 45) = false := by rw [bne, hbA]; rfl
  have hno1 : ¬ (s.length ≤ A ∨ ((((ofL s)[A]'hA).toNat : Int) != 45) = true) := fun q => q.elim (fun q => by omega) (fun q => by rw [hbA2] at q; exact absurd q (by decide))
  have hin : IntKind.i64.wrap ((A : Int) + 1) = ((A + 1 : Nat) : Int) := by rw [wrap64_id (by omega) (by omega)]; rfl
  have hJ1 : decide ((s.length : Int) ≤ ((A + 1 : Nat) : Int)) = false := by simp; omega
  have hJi : ((A + 1 : Nat) : Int) < (s.length : Int) := by omega
  have hno2 : ¬ ((s.length ≤ A + 1 ∨ ((((ofL s)[A + 1]'hJ).toNat : Int) < 48)) ∨ 57 < ((((ofL s)[A + 1]'hJ).toNat : Int))) := by omega
  have hnum2 := fun W hW => num2_calls hX hG s hs (A + 1) (by omega) W hW
  generalize numV (dgs s (A + 1)) = V2 at *
  generalize nmB 1 (dgs s (A + 1)) (A + 1) = B2 at hnum2 ⊢
  generalize nm2A (dgs s (A + 1)) (A + 1) = A2 at hnum2 ⊢
  rw [hZ] at hnum2
  have hno3 : ¬ (¬ (V2 < V)) := fun q => q hV
  clear hZ
  clear hm hs ha hE' h45 hB hm45
  generalize A + 1 = J at *
  go_enter Tryz.func33, Tryz.ntmps33
  go_wp2_with (go_at_call 56; refine (hnum _ (fr_alloc2 _ _ _)).mono ?_; rintro e w' ⟨rfl, hF⟩; refine Hid.out ?_)
  refine ⟨?_⟩
  repeat' (first | (exact (hno1 ‹_›).elim) | (exact (hno2 ‹_›).elim) | (go_at_call 56; refine Hid.out ?_) | (first | go_values | go_skip | go_guarded | go_step | go_upon | go_in | go_back))
  obtain ⟨s4, s6, z', hFF⟩ := after2 hF
  have hal := MapKept.heap_alloc w' (Obj.cells #[Value.int IntKind.i64 0, Value.int IntKind.i64 B] 59)
  have hFW := hFF.alloc (Obj.cells #[Value.int IntKind.i64 0, Value.int IntKind.i64 B] 59)
  generalize w'.alloc (Obj.cells #[Value.int IntKind.i64 0, Value.int IntKind.i64 B] 59) = W at hal hFW ⊢
  have k4 : Two W w.heap.size _ _ _ := ⟨(hal.2 _ (by omega)).trans s4⟩
  have k6 : Two W (w.heap.size + 1) _ _ _ := ⟨(hal.2 _ (by omega)).trans s6⟩
  have k9 : Two W w'.heap.size _ _ _ := ⟨hal.1⟩
  have c40 := k4.c0
  have c41 := k4.c1
  have c60 := k6.c0
  have c61 := k6.c1
  have c90 := k9.c0
  have c91 := k9.c1
  have f4 := k4.fz
  have f6 := k6.fz
  have f9 := k9.fz
  have n46 : w.heap.size ≠ w.heap.size + 1 := by omega
  have n49 : w.heap.size ≠ w'.heap.size := by omega
  have n69 : w.heap.size + 1 ≠ w'.heap.size := by omega
  refine ⟨?_⟩
  refine (hnum2 _ hFW).mono ?_
  rintro e w2 ⟨rfl, hF2⟩
  replace hFW := hFW.trans hF2 fun _ q => q.elim
  replace k4 := k4.fr hF2
  replace k6 := k6.fr hF2
  replace k9 := k9.fr hF2
  clear c40 c41 c60 c61 c90 c91 f4 f6 f9
  have c90 := k9.c0
  have c91 := k9.c1
  have f9 := k9.fz
  clear hF s4 s6 hFF hnum hnum2 hal hX hG
  dsimp only
  repeat' (first | (exact (hno3 ‹_›).elim) | (first | go_values | go_skip | go_guarded | go_step | go_upon | go_in | go_back))
  have o9 := k9.own.set (.int .i64 0) (.int .i64 B2)
  replace o9 := o9.set (.int .i64 2) (.int .i64 J)
  replace k4 := ((((k4.far (o := 0) (v := (.int .i64 0)) n49).far (o := 1) (v := (.int .i64 B2)) n49).far (o := 0) (v := (.int .i64 2)) n49).far (o := 1) (v := (.int .i64 J)) n49)
  replace k6 := ((((k6.far (o := 0) (v := (.int .i64 0)) n69).far (o := 1) (v := (.int .i64 B2)) n69).far (o := 0) (v := (.int .i64 2)) n69).far (o := 1) (v := (.int .i64 J)) n69)
  replace hFW := ((((hFW.setCell ⟨w'.heap.size, 0, none⟩ (.int .i64 0) (.inr (Nat.le_trans (Nat.le_add_right _ 2) z'))).setCell ⟨w'.heap.size, 1, none⟩ (.int .i64 B2) (.inr (Nat.le_trans (Nat.le_add_right _ 2) z'))).setCell ⟨w'.heap.size, 0, none⟩ (.int .i64 2) (.inr (Nat.le_trans (Nat.le_add_right _ 2) z'))).setCell ⟨w'.heap.size, 1, none⟩ (.int .i64 J) (.inr (Nat.le_trans (Nat.le_add_right _ 2) z')))
  clear c90 c91 f9 k9
  generalize ((((w2.setCell ⟨w'.heap.size, 0, none⟩ (.int .i64 0)).setCell ⟨w'.heap.size, 1, none⟩ (.int .i64 B2)).setCell ⟨w'.heap.size, 0, none⟩ (.int .i64 2)).setCell ⟨w'.heap.size, 1, none⟩ (.int .i64 J)) = W3 at o9 k4 k6 hFW ⊢
  have c40 := k4.c0
  have c41 := k4.c1
  have c60 := k6.c0
  have c61 := k6.c1
  have c90 := o9.c0
  have c91 := o9.c1
  have f4 := k4.fz
  have f6 := k6.fz
  have f9 := o9.fz
  clear k4 k6 o9
  go_region
  go_wp2
  have k := (Four.mk c40 c41 c60 c61).of (.int .i64 V) (.int .i64 V2) (.int .i64 2) (.int .i64 J) n46
  refine bodyPost_ret (res3 k _ rfl rfl rfl) rfl ⟨rfl, ?_⟩
  exact ((((hFW.setCell _ _ (.inr (Nat.le_refl _))).setCell _ _ (.inr (Nat.le_refl _))).setCell _ _ (.inr (Nat.le_succ _))).setCell _ _ (.inr (Nat.le_succ _))).drew
set_option maxHeartbeats 800000 in
theorem el2_m3 {X : Nat → Nat → Prop} {w : World} (hX : ∀ b o, X b o → b < w.heap.size) (hG : GR (Stab X [] w) w []) (s : Bs) (hs : s.length ≤ maxLen) (a : Nat) (ha : a ≤ s.length) (hl' : a < s.length) (h45 : s[a]? ≠ some 45) (hE' : nmE 1 (dgs s a) = 0) (hA : nm2A (dgs s a) a < s.length) (hm45 : s[nm2A (dgs s a) a]? = some 45) (hJ : nm2A (dgs s a) a + 1 < s.length) (hc : ¬ ((((ofL s)[nm2A (dgs s a) a + 1]'hJ).toNat : Int) < 48)) (hd : ¬ 57 < ((((ofL s)[nm2A (dgs s a) a + 1]'hJ).toNat : Int))) (hZ : nmE 1 (dgs s (nm2A (dgs s a) a + 1)) = 0) (hV : ¬ numV (dgs s (nm2A (dgs s a) a + 1)) < numV (dgs s a)) :
    Calls Tryz.prog 33 #[.string (ofL s), .int .i64 a] w fun e w' => e = .returned (.tuple #[.agg #[.int .i64 (numV (dgs s a)), .int .i64 (numV (dgs s (nm2A (dgs s a) a + 1)))], .int .i64 ((nm2A (dgs s (nm2A (dgs s a) a + 1)) (nm2A (dgs s a) a + 1) : Nat) : Int), .agg #[.int .i64 0, .int .i64 (nmB 1 (dgs s (nm2A (dgs s a) a + 1)) (nm2A (dgs s a) a + 1))]]) ∧ Fr (fun _ => False) w w' := by
  have hm := maxLen_i64
  have hsz : (ofL s).size = s.length := rfl
  have hlt : a < s.length := hl'
  have hl : (a : Int) < (s.length : Int) := by omega
  have hb : ((((ofL s)[a]'hlt).toNat : Int) == 45) = false := ofl_ne hlt h45
  have hnum := fun W hW => num2_calls hX hG s hs a ha W hW
  have hB : nmE 1 (dgs s a) = 0 := hE'
  rw [hB] at hnum
  generalize numV (dgs s a) = V at *
  generalize nmB 1 (dgs s a) a = B at hnum ⊢
  generalize nm2A (dgs s a) a = A at *
  have hA1 : decide ((s.length : Int) ≤ (A : Int)) = false := by simp; omega
  have hAi : (A : Int) < (s.length : Int) := by omega
  have hbA : ((((ofL s)[A]'hA).toNat : Int) == 45) = true := ofl_eq hA hm45
  have hbA2 : ((((ofL s)[A]'hA).toNat : Int) != 45) = false := by rw [bne, hbA]; rfl
  have hno1 : ¬ (s.length ≤ A ∨ ((((ofL s)[A]'hA).toNat : Int) != 45) = true) := fun q => q.elim (fun q => by omega) (fun q => by rw [hbA2] at q; exact absurd q (by decide))
  have hin : IntKind.i64.wrap ((A : Int) + 1) = ((A + 1 : Nat) : Int) := by rw [wrap64_id (by omega) (by omega)]; rfl
  have hJ1 : decide ((s.length : Int) ≤ ((A + 1 : Nat) : Int)) = false := by simp; omega
  have hJi : ((A + 1 : Nat) : Int) < (s.length : Int) := by omega
  have hno2 : ¬ ((s.length ≤ A + 1 ∨ ((((ofL s)[A + 1]'hJ).toNat : Int) < 48)) ∨ 57 < ((((ofL s)[A + 1]'hJ).toNat : Int))) := by omega
  have hnum2 := fun W hW => num2_calls hX hG s hs (A + 1) (by omega) W hW
  generalize numV (dgs s (A + 1)) = V2 at *
  generalize nmB 1 (dgs s (A + 1)) (A + 1) = B2 at hnum2 ⊢
  generalize nm2A (dgs s (A + 1)) (A + 1) = A2 at hnum2 ⊢
  rw [hZ] at hnum2
  have hno3 : ¬ (V2 < V) := hV
  clear hZ
  clear hm hs ha hE' h45 hB hm45
  generalize A + 1 = J at *
  go_enter Tryz.func33, Tryz.ntmps33
  go_wp2_with (go_at_call 56; refine (hnum _ (fr_alloc2 _ _ _)).mono ?_; rintro e w' ⟨rfl, hF⟩; refine Hid.out ?_)
  refine ⟨?_⟩
  repeat' (first | (exact (hno1 ‹_›).elim) | (exact (hno2 ‹_›).elim) | (go_at_call 56; refine Hid.out ?_) | (first | go_values | go_skip | go_guarded | go_step | go_upon | go_in | go_back))
  obtain ⟨s4, s6, z', hFF⟩ := after2 hF
  have hal := MapKept.heap_alloc w' (Obj.cells #[Value.int IntKind.i64 0, Value.int IntKind.i64 B] 59)
  have hFW := hFF.alloc (Obj.cells #[Value.int IntKind.i64 0, Value.int IntKind.i64 B] 59)
  generalize w'.alloc (Obj.cells #[Value.int IntKind.i64 0, Value.int IntKind.i64 B] 59) = W at hal hFW ⊢
  have k4 : Two W w.heap.size _ _ _ := ⟨(hal.2 _ (by omega)).trans s4⟩
  have k6 : Two W (w.heap.size + 1) _ _ _ := ⟨(hal.2 _ (by omega)).trans s6⟩
  have k9 : Two W w'.heap.size _ _ _ := ⟨hal.1⟩
  have c40 := k4.c0
  have c41 := k4.c1
  have c60 := k6.c0
  have c61 := k6.c1
  have c90 := k9.c0
  have c91 := k9.c1
  have f4 := k4.fz
  have f6 := k6.fz
  have f9 := k9.fz
  have n46 : w.heap.size ≠ w.heap.size + 1 := by omega
  have n49 : w.heap.size ≠ w'.heap.size := by omega
  have n69 : w.heap.size + 1 ≠ w'.heap.size := by omega
  refine ⟨?_⟩
  refine (hnum2 _ hFW).mono ?_
  rintro e w2 ⟨rfl, hF2⟩
  replace hFW := hFW.trans hF2 fun _ q => q.elim
  replace k4 := k4.fr hF2
  replace k6 := k6.fr hF2
  replace k9 := k9.fr hF2
  clear c40 c41 c60 c61 c90 c91 f4 f6 f9
  have c90 := k9.c0
  have c91 := k9.c1
  have f9 := k9.fz
  clear hF s4 s6 hFF hnum hnum2 hal hX hG
  dsimp only
  repeat' (first | (exact (hno3 ‹_›).elim) | (first | go_values | go_skip | go_guarded | go_step | go_upon | go_in | go_back))
  have o9 := k9.own.set (.int .i64 0) (.int .i64 B2)
  replace k4 := ((k4.far (o := 0) (v := (.int .i64 0)) n49).far (o := 1) (v := (.int .i64 B2)) n49)
  replace k6 := ((k6.far (o := 0) (v := (.int .i64 0)) n69).far (o := 1) (v := (.int .i64 B2)) n69)
  replace hFW := ((hFW.setCell ⟨w'.heap.size, 0, none⟩ (.int .i64 0) (.inr (Nat.le_trans (Nat.le_add_right _ 2) z'))).setCell ⟨w'.heap.size, 1, none⟩ (.int .i64 B2) (.inr (Nat.le_trans (Nat.le_add_right _ 2) z')))
  clear c90 c91 f9 k9
  generalize ((w2.setCell ⟨w'.heap.size, 0, none⟩ (.int .i64 0)).setCell ⟨w'.heap.size, 1, none⟩ (.int .i64 B2)) = W3 at o9 k4 k6 hFW ⊢
  have c40 := k4.c0
  have c41 := k4.c1
  have c60 := k6.c0
  have c61 := k6.c1
  have c90 := o9.c0
  have c91 := o9.c1
  have f4 := k4.fz
  have f6 := k6.fz
  have f9 := o9.fz
  clear k4 k6 o9
  go_region
  go_wp2
  have k := (Four.mk c40 c41 c60 c61).of (.int .i64 V) (.int .i64 V2) (.int .i64 0) (.int .i64 B2) n46
  refine bodyPost_ret (res3 k _ rfl rfl rfl) rfl ⟨rfl, ?_⟩
  exact ((((hFW.setCell _ _ (.inr (Nat.le_refl _))).setCell _ _ (.inr (Nat.le_refl _))).setCell _ _ (.inr (Nat.le_succ _))).setCell _ _ (.inr (Nat.le_succ _))).drew
end Go.Proofs.YtfedemnaeggokaaGreatDoor
end
section
namespace Go.Proofs.YtfedemnaeggokaaGreatDoor
set_option linter.unusedVariables false
set_option linter.unusedSimpArgs false
theorem dgs_ne {s : Bs} {a : Nat} (h : nmE 1 (dgs s a) = 0) : dgs s a ≠ [] := fun q => by rw [q, nmE_nil] at h; exact absurd h (by decide)
theorem dgs_lt {s : Bs} {a : Nat} (h : dgs s a ≠ []) : a < s.length := by
 refine Nat.lt_of_not_le fun q => h ?_
 unfold dgs
 rw [List.drop_of_length_le q]; rfl
theorem el2_calls {X : Nat → Nat → Prop} {w : World} (hX : ∀ b o, X b o → b < w.heap.size) (hG : GR (Stab X [] w) w []) (s : Bs) (hs : s.length ≤ maxLen) (a : Nat) (ha : a ≤ s.length) :
    Calls Tryz.prog 33 #[.string (ofL s), .int .i64 a] w fun e w' => e = .returned (.tuple #[.agg #[.int .i64 (el2 s a).1.f, .int .i64 (el2 s a).1.t], .int .i64 (((el2 s a).2 : Nat) : Int), .agg #[.int .i64 (el s a).e, .int .i64 (el s a).b]]) ∧ Fr (fun _ => False) w w' := by
  by_cases h45 : s[a]? = some 45
  · have e1 : el2 s a = (⟨1, numV (dgs s (a + 1))⟩, nm2A (dgs s (a + 1)) (a + 1)) := if_pos h45
    rw [e1, el_minus h45]
    exact el2_minus hX hG s hs a ha h45
  by_cases hE : nmE 1 (dgs s a) = 0
  rotate_left
  · have e1 : el2 s a = (⟨0, 0⟩, a) := by rw [el2, if_neg h45, if_pos hE]
    rw [e1, el_bad h45 hE]
    have hb := nmB_n (a := a) hE
    by_cases hl : a < s.length
    · have := el2_e2 hX hG s hs a ha hl h45 hE
      rw [hb] at this; exact this
    · have := el2_e1 hX hG s hs a ha hl hE
      rw [hb] at this; exact this
  have hl := dgs_lt (dgs_ne hE)
  have hA : nm2A (dgs s a) a = a + (dgs s a).length := if_pos hE
  have hb := nmB_y (a := a) hE
  by_cases hm : s[a + (dgs s a).length]? = some 45
  rotate_left
  · have e1 : el2 s a = (⟨numV (dgs s a), numV (dgs s a)⟩, a + (dgs s a).length) := by rw [el2, if_neg h45, if_neg (by simp [hE]), if_pos hm]
    rw [e1, el_one h45 hE hm]
    by_cases hj : nm2A (dgs s a) a < s.length
    · have := el2_n2 hX hG s hs a ha hl h45 hE hj (by rw [hA]; exact hm)
      rw [hb, hA] at this; exact this
    · have := el2_n1 hX hG s hs a ha hl h45 hE hj
      rw [hb, hA] at this; exact this
  have hj : nm2A (dgs s a) a < s.length := by rw [hA]; exact (List.getElem?_eq_some_iff.1 hm).1
  have hm' : s[nm2A (dgs s a) a]? = some 45 := by rw [hA]; exact hm
  have at_ : ∀ h : nm2A (dgs s a) a + 1 < s.length, s[nm2A (dgs s a) a + 1 + 0]? = some ((ofL s)[nm2A (dgs s a) a + 1]'h) := fun h => List.getElem?_eq_getElem h
  by_cases hd : dgs s (a + (dgs s a).length + 1) = []
  · have e1 : el2 s a = (⟨numV (dgs s a), 0⟩, a + (dgs s a).length + 1) := by rw [el2, if_neg h45, if_neg (by simp [hE]), if_neg (by simp [hm]), if_pos hd]
    rw [e1, el_open h45 hE hm hd]
    rw [← hA] at hd ⊢
    by_cases hJ : nm2A (dgs s a) a + 1 < s.length
    · by_cases hc : ((((ofL s)[nm2A (dgs s a) a + 1]'hJ).toNat : Int) < 48)
      · have := el2_o2 hX hG s hs a ha hl h45 hE hj hm' hJ hc
        rw [hb] at this; exact this
      · by_cases hg : 57 < ((((ofL s)[nm2A (dgs s a) a + 1]'hJ).toNat : Int))
        · have := el2_o3 hX hG s hs a ha hl h45 hE hj hm' hJ hc hg
          rw [hb] at this; exact this
        · have := dgs_more (at_ hJ) (Nat.zero_le _) hc hg
          rw [hd] at this; simp at this
    · have := el2_o1 hX hG s hs a ha hl h45 hE hj hm' hJ
      rw [hb] at this; exact this
  have e1 : el2 s a = (⟨numV (dgs s a), numV (dgs s (a + (dgs s a).length + 1))⟩, nm2A (dgs s (a + (dgs s a).length + 1)) (a + (dgs s a).length + 1)) := by rw [el2, if_neg h45, if_neg (by simp [hE]), if_neg (by simp [hm]), if_neg hd]
  rw [e1, el_two h45 hE hm hd]
  rw [← hA] at hd ⊢
  have hJ := dgs_lt hd
  have hc : ¬ ((((ofL s)[nm2A (dgs s a) a + 1]'hJ).toNat : Int) < 48) := fun q => hd (List.eq_nil_of_length_eq_zero (dgs_stop (at_ hJ) (Nat.zero_le _) (.inl q)).symm)
  have hg : ¬ 57 < ((((ofL s)[nm2A (dgs s a) a + 1]'hJ).toNat : Int)) := fun q => hd (List.eq_nil_of_length_eq_zero (dgs_stop (at_ hJ) (Nat.zero_le _) (.inr q)).symm)
  have hlow := nmE_low (d := dgs s (nm2A (dgs s a) a + 1)) (nmE_1 hE)
  by_cases hZ : nmE 1 (dgs s (nm2A (dgs s a) a + 1)) = 0
  rotate_left
  · replace hlow := hlow.trans (if_neg (fun q => hZ q.1))
    have := el2_m1 hX hG s hs a ha hl h45 hE hj hm' hJ hc hg hZ
    rw [nmB_n hZ] at this
    dsimp only
    rw [nmB_n (by rw [hlow]; exact hZ), hlow]
    exact this
  by_cases hV : numV (dgs s (nm2A (dgs s a) a + 1)) < numV (dgs s a)
  · replace hlow := hlow.trans (if_pos ⟨hZ, hV⟩)
    have := el2_m2 hX hG s hs a ha hl h45 hE hj hm' hJ hc hg hZ hV
    dsimp only
    rw [nmB_n (by rw [hlow]; decide), hlow]
    exact this
  · replace hlow := (hlow.trans (if_neg (fun q => hV q.2))).trans hZ
    have := el2_m3 hX hG s hs a ha hl h45 hE hj hm' hJ hc hg hZ hV
    rw [nmB_y hZ] at this
    dsimp only
    rw [nmB_y hlow, hlow]
    exact this
theorem elem_ok (s : Bs) (hs : s.length ≤ maxLen) (a : Nat) (ha : a ≤ s.length) : CallOk Tryz.prog 33 [strL s, intA a] (.tuple [encSp (el2 s a).1, intA (el2 s a).2, .agg [intA (el s a).e, intA (el s a).b]]) := by
 intro X w args hX hG hr
 obtain ⟨hn, hc⟩ := hr
 have h0 := rep_val (hc 0 _ rfl)
 have h1 := rep_val (hc 1 _ rfl)
 obtain rfl : args = #[.string (ofL s), .int .i64 a] := by
  match args, hn with
  | ⟨[x, y]⟩, _ =>
   simp only [Array.getD_eq_getD_getElem?] at h0 h1
   simp at h0 h1
   subst h0 h1
   rfl
 refine (el2_calls hX hG s hs a ha).mono ?_
 rintro e w' ⟨rfl, hF⟩
 refine ⟨_, rfl, .tuple rfl fun i y hy => ?_, hF⟩
 match i, hy with
 | 0, hy =>
  cases hy
  refine .agg rfl fun i y hy => ?_
  match i, hy with
  | 0, hy => cases hy; exact .val _ _
  | 1, hy => cases hy; exact .val _ _
 | 1, hy => cases hy; exact .val _ _
 | 2, hy =>
  cases hy
  refine .agg rfl fun i y hy => ?_
  match i, hy with
  | 0, hy => cases hy; exact .val _ _
  | 1, hy => cases hy; exact .val _ _
end Go.Proofs.YtfedemnaeggokaaGreatDoor
end
section
namespace Go.Proofs.YtfedemnaeggokaaGreatDoor
set_option linter.unusedVariables false
set_option linter.unusedSimpArgs false
set_option maxRecDepth 100000
open Go.RowKit
def unstr : List AV → Option (List Bs)
 | [] => some []
 | .val (.string s) :: r => (unstr r).map (s.data.toList :: ·)
 | _ => none
theorem unstr_eq : ∀ {x : List AV} {a : List Bs}, unstr x = some a → x = a.map strL
 | [], a, h => by simp [unstr] at h; subst h; rfl
 | y :: r, a, h => by
  unfold unstr at h
  split at h
  ·rename_i e; cases e
  ·rename_i s r' e
   injection e with e1 e2
   subst e1 e2
   simp only [Option.map_eq_some_iff] at h
   obtain ⟨a', h', rfl⟩ := h
   rw [unstr_eq h']; rfl
  ·cases h
theorem unstr_strs : ∀ a : List Bs, unstr (a.map strL) = some a
 | [] => rfl
 | s :: r => by
  show (unstr (r.map strL)).map (s :: ·) = some (s :: r)
  rw [unstr_strs r]; rfl
def joinX : List AV → Option AV
 | [.slice 1 x, .val (.string sep)] => (match unstr x with
  | some a => if a.length ≤ 200000000 ∧ (Lib.join a sep.data.toList).length ≤ 140737488355328 then some (strL (Lib.join a sep.data.toList)) else none
  | none => none)
 | _ => none
def idxX : List AV → Option AV
 | [.val (.string s), .val (.int .u8 c)] => some (intA (Lib.indexByte s.data.toList c.toNat.toUInt8))
 | _ => none
def onX1 : List AV → Option AV
 | [.val (.string s), .val (.string c)] => (match c.data.toList with
  | [c] => some (intA (Lib.indexByte s.data.toList c))
  | _ => none)
 | _ => none
def cntX : List AV → Option AV
 | [.val (.string s), .val (.string c)] => (match c.data.toList with
  | [c] => some (intA (Lib.countByte s.data.toList c))
  | _ => none)
 | _ => none
def elX : List AV → Option AV
  | [.val (.string s), .val (.int .i64 a)] => if s.data.toList.length ≤ maxLen ∧ 0 ≤ a ∧ a.toNat ≤ s.data.toList.length then
      some (.tuple [encSp (el2 s.data.toList a.toNat).1, intA (el2 s.data.toList a.toNat).2, .agg [intA (el s.data.toList a.toNat).e, intA (el s.data.toList a.toNat).b]]) else none
  | _ => none
def ccX : List AV → List MObj → Option (AV × List MObj)
 | [.ptr id 0], m => if ccOk id m = true then some (.tuple [], m) else none
 | _, _ => none
def bsX : List AV → List MObj → Option (AV × List MObj)
 | [.ptr id 0], m => bsM id m
 | _, _ => none
theorem ofL_self (s : ByteArray) : ofL s.data.toList = s := rfl
theorem joinX_ok {vs : List AV} {r : AV} (h : joinX vs = some r) : CallOk Tryz.prog 36 vs r := by
 unfold joinX at h
 split at h
 ·rename_i x sep
  split at h
  ·rename_i a ha
   split at h
   ·rename_i hle
    injection h with h; subst h
    obtain rfl := unstr_eq ha
    intro X w cs hX hG hr
    obtain ⟨u, v, rfl, h1, h2⟩ := args2 hr
    obtain rfl := rep_val h2
    have hlen : (a.map strL).length = a.length := by simp
    generalize hx : a.map strL = x at h1 hlen
    cases h1 with
    | slice b off sz u hc hz hA hsz hcell hrep =>
     rename_i A c
     rw [hlen]
     by_cases hn : a.length = 0
     ·rw [hn]
      obtain rfl := List.eq_nil_of_length_eq_zero hn
      refine (Tryz.strings_Join_none A c sep w).mono fun e w' ⟨q1, q2⟩ => ?_
      subst q1 q2
      exact ⟨_, rfl, .val _ _, Fr.refl _ _⟩
     ·have hcl : ∀ (j : Nat) (y : ByteArray), (a.map ofL)[j]? = some y → w.cell? ⟨b, off + j, none⟩ = some (.string y) := fun j y hj => by
       have h0 : x[j]? = some (.val (.string y)) := by
        rw [← hx, List.getElem?_map]
        rw [List.getElem?_map] at hj
        cases hq : a[j]? with
        | none => rw [hq] at hj; cases hj
        | some z => rw [hq] at hj; cases hj; rfl
       have h1 := (hcell j _ 0 _ h0 rfl).1
       have h2 := rep_val (hrep j _ 0 _ h0 rfl)
       rw [h2] at h1
       simpa using h1
      have hb : b < w.heap.size := by
       have h0 : ∃ y, x[0]? = some y := ⟨x[0]'(by omega), List.getElem?_eq_getElem (by omega)⟩
       obtain ⟨y, h0⟩ := h0
       have hy : ∃ z : Bs, y = strL z := by
        rw [← hx, List.getElem?_map] at h0
        cases hq : a[0]? with
        | none => rw [hq] at h0; cases h0
        | some z => rw [hq] at h0; cases h0; exact ⟨z, rfl⟩
       obtain ⟨z, rfl⟩ := hy
       exact (hcell 0 _ 0 _ h0 rfl).2.1
      have hA' := hA (by omega)
      subst hA'
      have e : (a.map ofL).map (·.data.toList) = a := by
       rw [List.map_map]
       exact (List.map_congr_left fun s _ => rfl).trans (List.map_id a)
      have hJ := Tryz.strings_Join b off c (a.map ofL) sep w hcl hb (by simp; omega) (by simp; omega) (by rw [e]; exact hle.2)
      rw [e, List.length_map] at hJ
      exact hJ.mono fun e w' ⟨q1, q2⟩ => ⟨_, q1, .val _ _, Fr.of_below q2⟩
   ·cases h
  ·cases h
 ·cases h
theorem idxX_ok {vs : List AV} {r : AV} (h : idxX vs = some r) : CallOk Tryz.prog 39 vs r := by
 unfold idxX at h
 split at h
 ·rename_i s c
  injection h with h; subst h
  intro X w cs hX hG hr
  obtain ⟨u, v, rfl, h1, h2⟩ := args2 hr
  obtain rfl := rep_val h1
  obtain rfl := rep_val h2
  exact (Tryz.strings_IndexByte s c w).mono fun e w' ⟨q1, q2⟩ => by subst q1 q2; exact ⟨_, rfl, .val _ _, Fr.refl _ _⟩
 ·cases h
theorem onX1_ok {vs : List AV} {r : AV} (h : onX1 vs = some r) : CallOk Tryz.prog 75 vs r := by
 unfold onX1 at h
 split at h
 ·rename_i s t
  split at h
  ·rename_i c hc
   injection h with h; subst h
   intro X w cs hX hG hr
   obtain ⟨u, v, rfl, h1, h2⟩ := args2 hr
   obtain rfl := rep_val h1
   obtain rfl := rep_val h2
   have ht : t = ⟨#[c]⟩ := by rw [← ofL_self t, hc]; rfl
   subst ht
   exact (Tryz.strings_Index_one s c w).mono fun e w' ⟨q1, q2⟩ => by subst q1 q2; exact ⟨_, rfl, .val _ _, Fr.refl _ _⟩
  ·cases h
 ·cases h
theorem cntX_ok {vs : List AV} {r : AV} (h : cntX vs = some r) : CallOk Tryz.prog 74 vs r := by
 unfold cntX at h
 split at h
 ·rename_i s t
  split at h
  ·rename_i c hc
   injection h with h; subst h
   intro X w cs hX hG hr
   obtain ⟨u, v, rfl, h1, h2⟩ := args2 hr
   obtain rfl := rep_val h1
   obtain rfl := rep_val h2
   have ht : t = ⟨#[c]⟩ := by rw [← ofL_self t, hc]; rfl
   subst ht
   exact (Tryz.strings_Count_one s c w).mono fun e w' ⟨q1, q2⟩ => by subst q1 q2; exact ⟨_, rfl, .val _ _, Fr.refl _ _⟩
  ·cases h
 ·cases h
theorem elX_ok {vs : List AV} {r : AV} (h : elX vs = some r) : CallOk Tryz.prog 33 vs r := by
 unfold elX at h
 split at h
 ·rename_i s a
  split at h
  ·rename_i hq
   injection h with h; subst h
   have := elem_ok s.data.toList hq.1 a.toNat hq.2.2
   rw [show [strL s.data.toList, intA (a.toNat : Int)] = [.val (.string s), .val (.int .i64 a)] by rw [Int.toNat_of_nonneg hq.2.1]; rfl] at this
   exact this
  ·cases h
 ·cases h
theorem ccX_ok {vs : List AV} {m m' : List MObj} {r : AV} (h : ccX vs m = some (r, m')) : CallOkM Tryz.prog 64 vs m r m' := by
 unfold ccX at h
 split at h
 ·split at h
  ·rename_i hc
   simp only [Option.some.injEq, Prod.mk.injEq] at h
   obtain ⟨rfl, rfl⟩ := h
   exact cc_ok hc
  ·cases h
 ·cases h
theorem bsX_ok {vs : List AV} {m m' : List MObj} {r : AV} (h : bsX vs m = some (r, m')) : CallOkM Tryz.prog 46 vs m r m' := by
 unfold bsX at h
 split at h
 ·exact bs_ok h
 ·cases h
def XS : CallF := ⟨fun f vs => if f = 59 then itoaX vs else if f = 78 then atoiX vs else if f = 36 then joinX vs else if f = 39 then idxX vs else if f = 75 then onX1 vs else if f = 74 then cntX vs else if f = 33 then elX vs else none,
 fun f vs m => if f = 64 then ccX vs m else if f = 46 then bsX vs m else if f = 54 then sortM vs m else none⟩
theorem XS_ok : CallsOk Tryz.prog XS := by
 refine ⟨fun f vs r h => ?_, fun f vs m r m' h => ?_⟩
 ·simp only [XS] at h
  split at h
  ·rename_i hf; subst hf; exact itoaX_ok h
  split at h
  ·rename_i hf; subst hf; exact atoiX_ok h
  split at h
  ·rename_i hf; subst hf; exact joinX_ok h
  split at h
  ·rename_i hf; subst hf; exact idxX_ok h
  split at h
  ·rename_i hf; subst hf; exact onX1_ok h
  split at h
  ·rename_i hf; subst hf; exact cntX_ok h
  split at h
  ·rename_i hf; subst hf; exact elX_ok h
  cases h
 ·simp only [XS] at h
  split at h
  ·rename_i hf; subst hf; exact ccX_ok h
  split at h
  ·rename_i hf; subst hf; exact bsX_ok h
  split at h
  ·rename_i hf; subst hf; exact sort_ok h
  cases h
theorem XS_num : NumC XS where
 itoa n hn := R_ext rfl (by
  show itoaX [intA n] = _
  simp only [itoaX, intA]
  rw [if_pos hn])
 ok s hs hd hi := R_ext rfl (by
  show atoiX [strL s] = _
  have e : (ofL s).data.toList = s := rfl
  simp only [atoiX, strL]
  rw [if_pos (show (ofL s).size ≤ 281474976710656 from hs), e, atoi_dec hd, if_pos hi])
 over s hs hd hi := R_ext rfl (by
  show atoiX [strL s] = _
  have e : (ofL s).data.toList = s := rfl
  simp only [atoiX, strL]
  rw [if_pos (show (ofL s).size ≤ 281474976710656 from hs), e, atoi_dec hd, if_neg hi])
theorem XS_str : StrC XS where
 join l sep h1 h2 := R_ext rfl (by
  show joinX [.slice 1 (l.map strL), strL sep] = _
  have e : (ofL sep).data.toList = sep := rfl
  simp only [joinX, strL]
  rw [unstr_strs]
  simp only [e]
  rw [joinB_lib, if_pos ⟨h1, h2⟩])
 idx s c := R_ext rfl (by
  show idxX [strL s, u8A c] = _
  have e : (ofL s).data.toList = s := rfl
  simp only [idxX, strL, u8A, e]
  simp)
 one s c := R_ext rfl (by
  show onX1 [strL s, strL [c]] = _
  rfl)
 cnt s c := R_ext rfl (by
  show cntX [strL s, strL [c]] = _
  rfl)
theorem XS_bld : BldC XS where
 cc id m h := RM_ext rfl (by
  show ccX [.ptr id 0] m = _
  simp only [ccX]
  rw [if_pos h])
 str id rid ver used m c l wr bs m' h1 h2 h3 h4 h5 h6 := RM_ext rfl (by
  show bsM id m = _
  rw [bsM_of h1 h2 h3 h4 h5]
  exact congrArg (fun q => some (strL bs, q)) h6)
theorem XS_el : El2C XS := fun s a hs ha => R_ext rfl (by
    show elX [strL s, intA a] = _
    have e : (ofL s).data.toList = s := rfl
    simp only [elX, strL, intA, e]
    rw [if_pos ⟨hs, by omega, by omega⟩]
    rfl)
theorem XS_sort : SortC XS srt := fun id ver used m m' l hl hne hm hu he => RM_ext rfl (by
    show sortM [.row id ver used 0 used, .val (.func (.func 55) #[] #[])] m = _
    obtain ⟨vl, h1, h2, h3⟩ := toV_ok hl
    have h0 : 0 < l.length := List.length_pos_iff.2 hne.1
    have hn := hne.2
    have e : srt l = (srtV vl).map ofV := by unfold srt; rw [h1]
    simp only [sortM, hm]
    rw [if_pos ⟨trivial, trivial, trivial, trivial, trivial⟩, if_pos ⟨trivial, trivial, by simpa using hu, trivial, trivial, by omega, by omega⟩, h3]
    rw [← he, e, List.map_map]
    rfl)
theorem XS_cut : CutC XS srt := ⟨XS_num, XS_str, XS_bld, XS_el, XS_sort, srt_ok⟩
end Go.Proofs.YtfedemnaeggokaaGreatDoor
end
section
namespace Go.Proofs.YtfedemnaeggokaaGreatDoor
set_option linter.unusedVariables false
set_option linter.unusedSimpArgs false
open Go.RowKit Go.ChangeShapes Go.WideShapes Go.ChangeAt Go.Deep
section
variable {H : Type} {enc : TypeId × Value → H}
set_option maxRecDepth 100000 in
theorem law_liftedU {F : FuncId} {fn : Func} {s : ChangeSpec} {conds : List PathCond} {os : Os} {J : Stop.Interp} (started : os.Started) (noInit : Tryz.prog.inits.idxOf? F = none) (hfn : Tryz.prog.funcs[F]? = some fn)
    (hv : s.vars = []) (hs : ∀ ds : List (DataW H), ds.length = fn.params.size → s.fn H ds = { results := [.lit (.bool true)], args := ds }) (hres : fn.resultTypes = #[4])
    (hpar : ∀ t ∈ fn.params.toList, Tryz.prog.readableRec t = true ∧ t < Tryz.prog.types.size)
    (witness : ∃ (w : World) (tape : Tape) (i : Input), w.os = os ∧ (w.forCall tape i).Shaped Tryz.checked.prog ∧ i.vars = [] ∧ Input.okWide Tryz.checked.prog (w.forCall tape i) .any w.heap.size F i ∧
      (Rows.OpenSpec.upto s).pre6 enc Tryz.checked.prog fn conds false (w.forCall tape i).memory i.args ∧ Assume.holds {} Tryz.checked.prog (lone (Frame.enter Tryz.checked.prog F i.args .normal) [] (w.forCall tape i)))
    (walk : ∀ (W : World) (base : Nat) (args : Array Value) (ds : List (DataW H)) (p : List MemPlace),
      (∀ (j : Nat) t v, fn.params[j]? = some t → args[j]? = some v → Value.okWide Tryz.prog W .any base t v) →
      DataW.TrodAll enc Tryz.prog W 0 (fun _ => true) true fn.params.toList args.toList ds p →
      Rows.uptoBulkAll ds ≤ 1048576 →
      Calls Tryz.prog F args W fun e w' => e = .returned (.bool true) ∧ Below W.heap.size W w') :
    ReturnsInHanded {} Tryz.checked os F .any ((Rows.OpenSpec.upto s).pre6 enc Tryz.prog fn conds false) (((Rows.OpenSpec.upto s).at J).post enc Tryz.prog fn false true false false) := by
  refine returnsInHanded_of_cond_sized (C := Tryz.checked) (s := Rows.OpenSpec.upto s) (k := Rows.uptoSmall) rfl own started noInit hfn witness ?_
  intro W base args ds gs before hval hW hcnd hk hsz _
  have hW' := hW
  obtain ⟨p, q, hA, hV, rfl, hfz, hnd⟩ := hW
  have hv' : (Rows.OpenSpec.upto s).vars = [] := hv
  rw [hv'] at hV
  obtain ⟨rfl, rfl⟩ := trodVars_none hV
  have hlen : ds.length = fn.params.size := by
    have : ∀ {ts : List TypeId} {vs : List Value} {ds : List (DataW H)} {ps : List MemPlace}, DataW.TrodAll enc Tryz.checked.prog W 0 (fun _ => true) true ts vs ds ps → ds.length = ts.length := by
      intro ts
      induction ts with
      | nil => intro vs ds ps h; cases vs <;> cases ds <;> first | rfl | exact h.elim
      | cons t ts ih => intro vs ds ps h; cases vs <;> cases ds <;> first | exact h.elim | (obtain ⟨_, _, _, h2, _⟩ := h; simp [ih h2])
    rw [this hA]; simp
  rw [List.append_nil] at hk
  have hk' : Rows.uptoBulkAll ds ≤ 1048576 := of_decide_eq_true hk
  refine (walk W base args ds p hval hA hk').mono fun e W' ⟨he, bel⟩ => ?_
  subst he
  have h1 := hs (ds ++ []) (by simpa using hlen)
  have h1' : ((Rows.OpenSpec.upto s).at J).fn H (ds ++ []) = { results := [.lit (.bool true)], args := ds ++ [] } := h1
  have hv2 : ((Rows.OpenSpec.upto s).at J).vars = [] := hv
  refine ⟨_, rfl, ds, [], p ++ [], [], p, [], hW', ?_, ?_, ?_, bel.frame _, fun h => by cases h⟩
  · rw [h1', hres]; exact trodAll_mk1 (shut_bool Tryz.underlying4 _)
  · rw [h1']; simp only [List.append_nil]; exact trodAll_below bel hpar hA
  · rw [h1', hv2]; exact rfl
end
theorem bulk_str {H : Type} {l : List UInt8} {d : DataW H} (hd : d = .lit (.string l)) {n : Nat} (h : Rows.uptoBulk d ≤ n) : l.length ≤ n := by
 subst hd; simp only [Rows.uptoBulk] at h; omega
theorem bulk_mem {H : Type} {d : DataW H} {l : List (DataW H)} (h : d ∈ l) : Rows.uptoBulk d ≤ Rows.uptoBulkAll l := by
 induction l with
 | nil => cases h
 | cons x r ih =>
  simp only [Rows.uptoBulkAll]
  cases List.mem_cons.1 h with
  | inl e => subst e; omega
  | inr e => have := ih e; omega
theorem bulk_len {H : Type} (l : List (DataW H)) : l.length ≤ Rows.uptoBulkAll l := by
 induction l with
 | nil => simp [Rows.uptoBulkAll]
 | cons x r ih =>
  have : 1 ≤ Rows.uptoBulk x := by
   cases x with
   | lit l => cases l <;> simp [Rows.uptoBulk]
   | _ => simp [Rows.uptoBulk]
  simp only [Rows.uptoBulkAll, List.length_cons]; omega
end Go.Proofs.YtfedemnaeggokaaGreatDoor
end
section
namespace Go.Proofs.YtfedemnaeggokaaGreatDoor
set_option linter.unusedVariables false
set_option linter.unusedSimpArgs false
open Go.RowKit Go.ChangeShapes Go.WideShapes Go.ChangeAt Go.Deep
set_option maxRecDepth 100000
section
variable {H : Type}
theorem Tys_cons {s : Sh} {r : List Sh} {l : List (DataW H)} (h : Tys (s :: r) l) : ∃ d l', l = d :: l' ∧ Ty s d ∧ Tys r l' := by
 cases l with
 | nil => simp [Tys] at h
 | cons d l => exact ⟨d, l, rfl, by simpa [Tys] using h⟩
theorem Tys_nil {l : List (DataW H)} (h : Tys [] l) : l = [] := by
 cases l with
 | nil => rfl
 | cons d l => simp [Tys] at h
def dStr : DataW H → Bs
 | .lit (.string l) => l
 | _ => []
def dInt : DataW H → Int
 | .lit (.int _ n) => n
 | _ => 0
def dEls : DataW H → List (DataW H)
 | .slice l _ => l
 | _ => []
def dPart (d : DataW H) (i : Nat) : DataW H := match d with
 | .agg l => l.getD i .nil
 | _ => .nil
theorem str_ok {d : DataW H} (h : Ty .str d) : dAV .str d = [strL (dStr d)] ∧ (dStr d).length ≤ maxLen := by
 obtain ⟨l, rfl, hl⟩ := Ty_str h; exact ⟨rfl, hl⟩
theorem int_ok {k : IntKind} {d : DataW H} (h : Ty (.int k) d) : dAV (.int k) d = [.val (.int k (dInt d))] ∧ (Lit.int k (dInt d)).wf = true := by
 obtain ⟨n, rfl, hl⟩ := Ty_int h; exact ⟨rfl, hl⟩
theorem sl_ok {α : Type} {e : Sh} {d : DataW H} (h : Ty (.sl e) d) (g : α → AV) (f : DataW H → α) (hf : ∀ x, Ty e x → e.mk (dAV e x) = g (f x)) : dAV (.sl e) d = [.slice e.n (((dEls d).map f).map g)] ∧ ((dEls d).map f).length ≤ maxLen ∧ ∀ x ∈ dEls d, Ty e x := by
 rcases Ty_sl h with rfl | ⟨elems, spare, rfl, hl, hx⟩
 ·exact ⟨rfl, Nat.zero_le _, fun x hx => by cases hx⟩
 ·refine ⟨?_, by simpa [dEls] using hl, hx⟩
  simp only [dAV, dEls, List.map_map]
  congr 2
  exact List.map_congr_left fun x hm => hf x (hx x hm)
def spOf (d : DataW H) : Sp := ⟨dInt (dPart d 0), dInt (dPart d 1)⟩
theorem sp_ok {d : DataW H} (h : Ty (.st [.int .i64, .int .i64]) d) : Sh.mk (.st [.int .i64, .int .i64]) (dAV (.st [.int .i64, .int .i64]) d) = encSp (spOf d) ∧ InI64 (spOf d).f ∧ InI64 (spOf d).t := by
 obtain ⟨l, rfl, h⟩ := Ty_st h
 obtain ⟨a, l, rfl, ha, h⟩ := Tys_cons h
 obtain ⟨b, l, rfl, hb, h⟩ := Tys_cons h
 obtain rfl := Tys_nil h
 refine ⟨?_, wf_i64 (int_ok ha).2, wf_i64 (int_ok hb).2⟩
 simp only [dAV, dAVs, (int_ok ha).1, (int_ok hb).1]
 rfl
variable {enc : TypeId × Value → H} {w : World}
theorem rep_str {v : Value} {d : DataW H} {p : List MemPlace} {b0 : Nat} (hv : Value.okWide Tryz.prog w .any b0 9 v)
    (h : DataW.Trod enc Tryz.prog w 0 (fun _ => true) true 9 v d p) : (dStr d).length ≤ maxLen ∧ Rep (S0 w) w [] v (strL (dStr d)) ∧ d = .lit (.string (dStr d)) := by
  obtain ⟨h1, h2⟩ := rep_arg (s := .str) (by kernel_rfl) hv h
  obtain ⟨l, rfl, hl⟩ := Ty_str h1
  exact ⟨hl, h2, rfl⟩
theorem rep_u8 {v : Value} {d : DataW H} {p : List MemPlace} {b0 : Nat} (hv : Value.okWide Tryz.prog w .any b0 5 v)
    (h : DataW.Trod enc Tryz.prog w 0 (fun _ => true) true 5 v d p) : ∃ c : UInt8, Rep (S0 w) w [] v (u8A c) := by
  obtain ⟨h1, h2⟩ := rep_arg (s := .int .u8) (by kernel_rfl) hv h
  obtain ⟨n, rfl, hl⟩ := Ty_int h1
  have := wf_u8 hl
  refine ⟨UInt8.ofNat n.toNat, ?_⟩
  have e : ((UInt8.ofNat n.toNat).toNat : Int) = n := by rw [UInt8.toNat_ofNat']; omega
  unfold u8A
  rw [e]
  exact h2
theorem rep_strsI {v : Value} {d : DataW H} {p : List MemPlace} {b0 : Nat} (hv : Value.okWide Tryz.prog w .any b0 37 v)
    (h : DataW.Trod enc Tryz.prog w 0 (fun _ => true) true 37 v d p) : ((dEls d).map dStr).length ≤ maxLen ∧ Rep (S0 w) w [] v (.slice 1 (((dEls d).map dStr).map strL)) ∧ Ty (.sl .str) d := by
  obtain ⟨h1, h2⟩ := rep_arg (s := .sl .str) (by kernel_rfl) hv h
  obtain ⟨h3, h4, h5⟩ := sl_ok h1 strL dStr fun x hx => by rw [(str_ok hx).1]; rfl
  rw [h3] at h2
  exact ⟨h4, h2, h1⟩
theorem rep_i64 {v : Value} {d : DataW H} {p : List MemPlace} {b0 : Nat} (hv : Value.okWide Tryz.prog w .any b0 3 v)
    (h : DataW.Trod enc Tryz.prog w 0 (fun _ => true) true 3 v d p) : ∃ n : Int, InI64 n ∧ Rep (S0 w) w [] v (intA n) := by
  obtain ⟨h1, h2⟩ := rep_arg (s := .int .i64) (by kernel_rfl) hv h
  obtain ⟨n, rfl, hl⟩ := Ty_int h1
  have := wf_i64 hl
  exact ⟨n, this, h2⟩
theorem Ty_strs {d : DataW H} (h : Ty (.sl .str) d) : ∀ x ∈ (dEls d).map dStr, x.length ≤ maxLen := fun x hx => by
 rcases Ty_sl h with rfl | ⟨elems, spare, rfl, hl, hty⟩
 ·cases hx
 ·obtain ⟨y, hy, rfl⟩ := List.mem_map.1 hx
  exact (str_ok (hty y hy)).2
theorem rep_spans {v : Value} {d : DataW H} {p : List MemPlace} {b0 : Nat} (hv : Value.okWide Tryz.prog w .any b0 22 v)
    (h : DataW.Trod enc Tryz.prog w 0 (fun _ => true) true 22 v d p) : ((dEls d).map spOf).length ≤ maxLen ∧ (∀ x ∈ (dEls d).map spOf, InI64 x.f ∧ InI64 x.t) ∧ Rep (S0 w) w [] v (.slice 2 (((dEls d).map spOf).map encSp)) ∧ Ty (.sl (.st [.int .i64, .int .i64])) d := by
  obtain ⟨h1, h2⟩ := rep_arg (s := .sl (.st [.int .i64, .int .i64])) (by kernel_rfl) hv h
  obtain ⟨h3, h4, h5⟩ := sl_ok h1 encSp spOf fun x hx => (sp_ok hx).1
  rw [h3] at h2
  refine ⟨h4, fun x hx => ?_, h2, h1⟩
  obtain ⟨y, hy, rfl⟩ := List.mem_map.1 hx
  exact (sp_ok (h5 y hy)).2
end
theorem gr_cut {W : World} (h : laidMetH Tryz.prog Rows.cutSelectsRow.laid W) : GR (S0 W) W [] := by
 rw [MakeChecks.laidMetH_plain _ _ _ (by kernel_rfl)] at h
 intro g l hg
 unfold GT at hg
 split at hg
 ·rename_i e
  cases hg
  subst e
  have := gr_ints (n := "internal/strconv.uint64pow10") (g := 1) (t := 140) (e := 113) (k := .u64) (zs := pow10L.map fun (n : Nat) => (n : Int)) h (List.mem_of_getElem? (i := 2) rfl) (by kernel_rfl) (by kernel_rfl) (c := 20) (by kernel_rfl) (by kernel_rfl) (by kernel_rfl) (by kernel_rfl)
  exact this
 ·split at hg
  ·rename_i e
   cases hg
   subst e
   exact gr_err (t := 73) (n := "strconv.ErrRange") h (List.mem_of_getElem? (i := 4) rfl) (by kernel_rfl) (by kernel_rfl) Tryz.underlying73
  ·split at hg
   ·rename_i e
    cases hg
    subst e
    exact gr_err (t := 73) (n := "strconv.ErrSyntax") h (List.mem_of_getElem? (i := 5) rfl) (by kernel_rfl) (by kernel_rfl) Tryz.underlying73
   ·cases hg
theorem door_met (os : Os) (args : Array Value) : laidMetH Tryz.prog Rows.cutSelectsRow.laid ((World.laidAll Tryz.prog os Rows.cutSelectsRow.laid).forCall (fun _ _ => 0) ⟨#[], args, []⟩).memory := by
 rw [MakeChecks.laidMetH_plain _ _ _ (by kernel_rfl)]; exact laidMet_laidAll _ (by kernel_rfl) (by kernel_rfl)
section
variable {H : Type} {enc : TypeId × Value → H}
theorem law_liftedUL {F : FuncId} {fn : Func} {s : ChangeSpec} {conds : List PathCond} {laid : List (String × DataW Unit)} {os : Os} {J : Stop.Interp} (started : os.Started) (noInit : Tryz.prog.inits.idxOf? F = none) (hfn : Tryz.prog.funcs[F]? = some fn)
    (hv : s.vars = []) (hs : ∀ ds : List (DataW H), ds.length = fn.params.size → s.fn H ds = { results := [.lit (.bool true)], args := ds }) (hres : fn.resultTypes = #[4])
    (hpar : ∀ t ∈ fn.params.toList, Tryz.prog.readableRec t = true ∧ t < Tryz.prog.types.size)
    (witness : ∃ (w : World) (tape : Tape) (i : Input), w.os = os ∧ (w.forCall tape i).Shaped Tryz.checked.prog ∧ i.vars = [] ∧ Input.okWide Tryz.checked.prog (w.forCall tape i) .any w.heap.size F i ∧
      (Rows.OpenSpec.upto s).preRow enc Tryz.checked.prog fn conds false laid (w.forCall tape i).memory i.args ∧ Assume.holds {} Tryz.checked.prog (lone (Frame.enter Tryz.checked.prog F i.args .normal) [] (w.forCall tape i)))
    (walk : ∀ (W : World) (base : Nat) (args : Array Value) (ds : List (DataW H)) (p : List MemPlace),
      (∀ (j : Nat) t v, fn.params[j]? = some t → args[j]? = some v → Value.okWide Tryz.prog W .any base t v) →
      DataW.TrodAll enc Tryz.prog W 0 (fun _ => true) true fn.params.toList args.toList ds p →
      Rows.uptoBulkAll ds ≤ 1048576 → laidMetH Tryz.prog laid W →
      Calls Tryz.prog F args W fun e w' => e = .returned (.bool true) ∧ Below W.heap.size W w') :
    ReturnsInHanded {} Tryz.checked os F .any ((Rows.OpenSpec.upto s).preRow enc Tryz.prog fn conds false laid) (((Rows.OpenSpec.upto s).at J).post enc Tryz.prog fn false true false false) := by
  refine returnsInHanded_of_row (C := Tryz.checked) (s := Rows.OpenSpec.upto s) own started noInit hfn witness ?_
  intro W base args ds gs before hval hW hcnd hk0 hsz hL _ _
  have hk := hk0 Rows.uptoSmall rfl
  have hW' := hW
  obtain ⟨p, q, hA, hV, rfl, hfz, hnd⟩ := hW
  have hv' : (Rows.OpenSpec.upto s).vars = [] := hv
  rw [hv'] at hV
  obtain ⟨rfl, rfl⟩ := trodVars_none hV
  have hlen : ds.length = fn.params.size := by
    have : ∀ {ts : List TypeId} {vs : List Value} {ds : List (DataW H)} {ps : List MemPlace}, DataW.TrodAll enc Tryz.checked.prog W 0 (fun _ => true) true ts vs ds ps → ds.length = ts.length := by
      intro ts
      induction ts with
      | nil => intro vs ds ps h; cases vs <;> cases ds <;> first | rfl | exact h.elim
      | cons t ts ih => intro vs ds ps h; cases vs <;> cases ds <;> first | exact h.elim | (obtain ⟨_, _, _, h2, _⟩ := h; simp [ih h2])
    rw [this hA]; simp
  rw [List.append_nil] at hk
  have hk' : Rows.uptoBulkAll ds ≤ 1048576 := of_decide_eq_true hk
  refine (walk W base args ds p hval hA hk' hL).mono fun e W' ⟨he, bel⟩ => ?_
  subst he
  have h1 := hs (ds ++ []) (by simpa using hlen)
  have h1' : ((Rows.OpenSpec.upto s).at J).fn H (ds ++ []) = { results := [.lit (.bool true)], args := ds ++ [] } := h1
  have hv2 : ((Rows.OpenSpec.upto s).at J).vars = [] := hv
  refine ⟨_, rfl, ds, [], p ++ [], [], p, [], hW', ?_, ?_, ?_, bel.frame _, fun h => by cases h⟩
  · rw [h1', hres]; exact trodAll_mk1 (shut_bool Tryz.underlying4 _)
  · rw [h1']; simp only [List.append_nil]; exact trodAll_below bel hpar hA
  · rw [h1', hv2]; exact rfl
end
end Go.Proofs.YtfedemnaeggokaaGreatDoor
end
