/- The walk of the program's edit script. -/
import Derived.Test.YtejajmmacmcijaaLcs3
namespace Go.Proofs.Ytejajmmacmcijaa
set_option linter.unusedVariables false
set_option linter.unusedSimpArgs false
open Go.RowKit Go.MapKept Go.ChangeMaps

/-- the table of costs from row k on -/
def Table (w : World) (gc n m k : Nat) (gb : Nat → Nat) (X Y : List Nat) : Prop :=
  RowAt w gc 73 (n + 1) (fun q => if k ≤ q then .slice (some ⟨gb q, 0, none⟩) (m + 1) (m + 1) else .slice none 0 0) ∧
  ∀ q, k ≤ q → q ≤ n → RowAt w (gb q) 21 (m + 1) (fun j => .int .i32 (dd X Y q j : Nat))
theorem Table.fr {w w' : World} {gc n m k : Nat} {gb : Nat → Nat} {X Y : List Nat} {L : Nat → Prop} (h : Table w gc n m k gb X Y) (hf : Fr L w w') (hL : ∀ b, b < w.heap.size → ¬ L b) : Table w' gc n m k gb X Y :=
  ⟨h.1.fr hf (hL _ h.1.lt), fun q h1 h2 => (h.2 q h1 h2).fr hf (hL _ (h.2 q h1 h2).lt)⟩
theorem Table.fr2 {w w' : World} {gc n m k ba : Nat} {gb : Nat → Nat} {X Y : List Nat} (h : Table w gc n m k gb X Y) (hf : Fr (· = ba) w w') {cs : Array Value} {fz : Nat × Nat} (hb : w.heap[ba]? = some (.cells cs 76 fz)) : Table w' gc n m k gb X Y := by
  have hne : ∀ {g e l f}, RowAt w g e l f → e ≠ 76 → ¬ g = ba := by
    rintro g e l f ⟨c1, e1, _⟩ he rfl
    rw [hb] at e1; cases e1; exact he rfl
  exact ⟨h.1.fr hf (hne h.1 (by decide)), fun q h1 h2 => (h.2 q h1 h2).fr hf (hne (h.2 q h1 h2) (by decide))⟩
/-- one more row -/
theorem Table.step {w : World} {gc n m j g : Nat} {gb : Nat → Nat} {X Y : List Nat} (h : Table w gc n m (j + 1) gb X Y) (hj : j ≤ n) (hR : RowAt w g 21 (m + 1) (fun q => .int .i32 (dd X Y j q : Nat))) :
    Table (w.setCell ⟨gc, j, none⟩ (.slice (some ⟨g, 0, none⟩) (m + 1) (m + 1))) gc n m j (fun q => if q = j then g else gb q) X Y := by
  have hs : Fr (· = gc) w (w.setCell ⟨gc, j, none⟩ (.slice (some ⟨g, 0, none⟩) (m + 1) (m + 1))) := (Fr.refl (· = gc) w).setCell _ _ (.inl rfl)
  refine ⟨(h.1.set j _).congr fun q hq => ?_, fun q h1 h2 => ?_⟩
  · by_cases hqj : q = j
    · subst hqj; simp
    · simp only [hqj, if_false]
      by_cases h2 : j + 1 ≤ q
      · rw [if_pos h2, if_pos (by omega)]
      · rw [if_neg h2, if_neg (by omega)]
  · by_cases hqj : q = j
    · subst hqj
      simp only [if_true]
      exact hR.fr hs (RowAt.ne hR h.1 (by decide))
    · simp only [hqj, if_false]
      have := h.2 q (by omega) h2
      exact this.fr hs (RowAt.ne this h.1 (by decide))

def ScriptPost (w : World) (a b : List ByteArray) (e : Ending) (w' : World) : Prop :=
  ∃ A c, e = .returned (.slice A (script a b).length c) ∧ EdOwn w' w.heap.size A c (script a b) ∧ Fr (fun _ => False) w w'

/-- how much of both lists is left, by the block of the place -/
def remains (ba n m : Nat) (w : World) : Nat :=
  match w.cell? ⟨ba, 0, none⟩, w.cell? ⟨ba, 1, none⟩ with
  | some (.int _ i), some (.int _ j) => (n - i.toNat) + (m - j.toNat)
  | _, _ => 0
theorem remains_eq {ba n m : Nat} {w : World} {i j : Nat} {t : TypeId} {fz : Nat × Nat} (h : w.heap[ba]? = some (.cells #[.int .i64 i, .int .i64 j] t fz)) : remains ba n m w = (n - i) + (m - j) := by
  have c0 := cell_of_heap h 0
  have c1 := cell_of_heap h 1
  simp only [List.getElem?_toArray, List.getElem?_cons_zero, List.getElem?_cons_succ] at c0 c1
  simp [remains, c0, c1]

theorem EdOwn.mono {w : World} {base base' : Nat} {A : Option Addr} {c : Nat} {l : List Ed} (h : EdOwn w base A c l) (hb : base' ≤ base) : EdOwn w base' A c l :=
  ⟨h.1, h.2.imp id fun ⟨g, cap, cur, hv, hg, r⟩ => ⟨g, cap, cur, hv, Nat.le_trans hb hg, r⟩⟩
theorem addE_nil (op i j : Int) : addE [] op i j = [⟨op, i, j, 1⟩] := rfl
theorem addE_snoc (l : List Ed) (e : Ed) (op i j : Int) : addE (l ++ [e]) op i j = if e.op = op then l ++ [{ e with n := e.n + 1 }] else (l ++ [e]) ++ [⟨op, i, j, 1⟩] := by
  simp [addE]
theorem addE_length (l : List Ed) (op i j : Int) : (addE l op i j).length ≤ l.length + 1 := by
  rcases List.eq_nil_or_concat l with rfl | ⟨l', e, rfl⟩
  · simp [addE]
  · rw [List.concat_eq_append, addE_snoc]; split <;> simp

theorem addE_n {l : List Ed} {op i j : Int} {k k' : Nat} (h : ∀ e ∈ l, 0 ≤ e.n ∧ e.n ≤ (k : Int)) (hk : k + 1 ≤ k') : ∀ e ∈ addE l op i j, 0 ≤ e.n ∧ e.n ≤ (k' : Int) := by
  rcases List.eq_nil_or_concat l with rfl | ⟨l', e, rfl⟩
  · rw [addE_nil]; intro e he; simp only [List.mem_singleton] at he; subst he; exact ⟨by show (0 : Int) ≤ 1; omega, by show (1 : Int) ≤ _; omega⟩
  · rw [List.concat_eq_append] at *
    have h1 := h e (by simp)
    rw [addE_snoc]
    split
    · intro x hx
      rcases List.mem_append.1 hx with q | q
      · have := h x (by simp [q]); omega
      · simp only [List.mem_singleton] at q; subst q; exact ⟨by show 0 ≤ e.n + 1; omega, by show e.n + 1 ≤ _; omega⟩
    · intro x hx
      rcases List.mem_append.1 hx with q | q
      · have := h x q; omega
      · simp only [List.mem_singleton] at q; subst q; exact ⟨by show (0 : Int) ≤ 1; omega, by show (1 : Int) ≤ _; omega⟩

/-- append, by a run equation that was laid ahead of the walk -/
theorem wpList_append_run {P : Program} {w w' : World} {ops : Array Oper} {rest : List Oper} {o : Oper} {a : Act} {Q : Exit → Act → World → Prop} (hgd : o.guard = none) (s x : Operand) (t : TypeId)
    (ho : o.op = .call { callee := .builtin .append, args := #[s, x], argTypes := #[t, t] }) {v xv v' : Value} (hs : a.eval s = v) (hx : a.eval x = xv)
    (hr : (Builtin.append_ #[t, t] o.type #[v, xv]).run P w = .ok v' w') (h : wpList P ops Q rest (a.put o.dst v') w') : wpList P ops Q (o :: rest) a w :=
  wpList_plain hgd fun _ hK => by
    unfold Oper.wp execOp
    simp only [ho, resolve, invoke, builtin, Sem.run_bind, Sem.run_pure, Result.andThen_ok, List.map_toArray, List.map_cons, List.map_nil, hs, hx, hr]
    exact hK _ _ h

/-- a step of the script -/
theorem scrF_step {α : Type} [DecidableEq α] {a b : List α} {n m i j op : Nat} (hn : a.length = n) (hm : b.length = m) (hi : i ≤ n) (hj : j ≤ m) (h : i < n ∨ j < m) (out : List Ed) (ho : opAt a b i j = op) :
    (op = 1 ∨ op = 2 ∨ op = 3) ∧ (if op = 3 then i else i + 1) ≤ n ∧ (if op = 2 then j else j + 1) ≤ m ∧
    scrF a b ((n - i) + (m - j)) i j out = scrF a b ((n - (if op = 3 then i else i + 1)) + (m - (if op = 2 then j else j + 1))) (if op = 3 then i else i + 1) (if op = 2 then j else j + 1) (addE out op i j) := by
  subst hn hm
  have hc := opAt_cases a b hi hj h
  rw [ho] at hc
  have h1 : (op = 1 ∨ op = 2 ∨ op = 3) ∧ (if op = 3 then i else i + 1) ≤ a.length ∧ (if op = 2 then j else j + 1) ≤ b.length := by
    rcases hc with ⟨rfl, h2, _⟩ | ⟨rfl, h2, _⟩ | ⟨rfl, h2, h3, _⟩ <;> simp <;> omega
  refine ⟨h1.1, h1.2.1, h1.2.2, ?_⟩
  obtain ⟨k, hk⟩ : ∃ k, (a.length - i) + (b.length - j) = k + 1 := ⟨(a.length - i) + (b.length - j) - 1, by omega⟩
  rw [hk, scrF, if_neg (by omega), ho]
  refine (scrF_fuel a b _ k _ _ _ h1.2.1 h1.2.2 (Nat.le_refl _) ?_).symm
  rcases h1.1 with rfl | rfl | rfl <;> simp <;> omega

def Quiet (w w' : World) : Prop := ∃ m, w' = w.drewN m
theorem Quiet.refl (w : World) : Quiet w w := ⟨0, rfl⟩
theorem Quiet.drewN {w w' : World} (h : Quiet w w') (n : Nat) : Quiet w (w'.drewN n) := by obtain ⟨m, rfl⟩ := h; exact ⟨m + n, by simp⟩
theorem Quiet.trans {w w' w'' : World} (h : Quiet w w') (h' : Quiet w' w'') : Quiet w w'' := by obtain ⟨m, rfl⟩ := h; exact h'.elim fun k hk => ⟨m + k, by rw [hk]; simp⟩
theorem Quiet.heap {w w' : World} (h : Quiet w w') : w'.heap = w.heap := by obtain ⟨m, rfl⟩ := h; rfl
theorem Quiet.cell {w w' : World} (h : Quiet w w') (a : Addr) : w'.cell? a = w.cell? a := by obtain ⟨m, rfl⟩ := h; rfl
theorem Quiet.fr {w w' : World} (h : Quiet w w') (L : Nat → Prop) : Fr L w w' := by obtain ⟨m, rfl⟩ := h; exact (Fr.refl _ _).drewN _

/-- what holds at the head of the second loop -/
def Mid2 (wB w' : World) (ba n m : Nat) (a b : List ByteArray) (v : Value) (i j : Nat) (out : List Ed) : Prop :=
  i ≤ n ∧ j ≤ m ∧ (∃ A c, v = .slice A out.length c ∧ EdOwn w' wB.heap.size A c out) ∧ w'.heap[ba]? = some (.cells #[.int .i64 i, .int .i64 j] 76 (0, 0)) ∧ Fr (· = ba) wB w' ∧ scrF a b ((n - i) + (m - j)) i j out = script a b ∧ out.length ≤ i + j ∧ ∀ e ∈ out, 0 ≤ e.n ∧ e.n ≤ ((i + j : Nat) : Int)

set_option maxHeartbeats 1600000 in
set_option maxRecDepth 100000 in
theorem Script_any {w : World} {A B : Option Addr} {n m c d : Nat} {s t : Nat → ByteArray} (hn : n ≤ 400) (hm : m ≤ 400) (hA : Sl w A n (fun i => .string (s i))) (hB : Sl w B m (fun i => .string (t i))) :
    Calls Try.prog 24 #[.slice A n c, .slice B m d] w (ScriptPost w (listOf s n) (listOf t m)) := by
  have hnum := numbers_any (c := c) (d := d) (by omega) (by omega) hA hB
  clear hA hB
  go_enter Try.func24, Try.ntmps24
  go_wp2_with fail
  refine hnum.mono ?_
  clear hnum
  rintro e w1 ⟨g, h, K, rfl, hX, hY, hF, hg, hh, hK, hs, ht⟩
  have HX := Lib.hid hX
  have HY := Lib.hid hY
  have HF := Lib.hid hF
  have HD := Lib.hid (dd_nums hK hs ht)
  clear hX hY hF hK hs ht
  generalize hXX : numsOf K s n = X at *
  generalize hYY : numsOf K t m = Y at *
  have HXL := Lib.hid (show X.length = n from by rw [← hXX, numsOf_length])
  have HYL := Lib.hid (show Y.length = m from by rw [← hYY, numsOf_length])
  clear hXX hYY
  obtain ⟨w2, u2, hR2, hf2⟩ := run_make_row (P := Try.prog) w1 (z := .slice none 0 0) Try.underlying72 info_row rfl .i64 .i64 (n + 1) (by omega) (by unfold maxLen; omega)
  have hcast : (((n + 1 : Nat)) : Int) = (n : Int) + 1 := by omega
  rw [hcast] at u2
  have HF2 := Lib.hid hf2
  have HT2 := Lib.hid (show Table w2 w1.heap.size n m (n + 1) (fun _ => 0) X Y from ⟨hR2.congr fun q hq => by rw [if_neg (by omega)], fun q h1 h2 => by omega⟩)
  clear hR2 hf2
  go_wp2_with fail
  clear u2 hcast
  go_loopw [8, 9] (fun v r wr => ∃ k : Nat, k ≤ n + 1 ∧ v = .int .i64 ((k : Int) - 1) ∧ Fr (fun _ => False) w1 wr ∧ ∃ gb, Table wr w1.heap.size n m k gb X Y) (fun v _ _ => (intOf v + 1).toNat)
  case atStart => exact ⟨n + 1, Nat.le_refl _, by go_num, HF2.out, _, HT2.out⟩
  case round =>
    clear HT2 HF2
    obtain ⟨k, hk, hv, hF, gb, hT⟩ := hrel
    by_cases hk0 : k = 0
    · subst hk0
      rw [show ((0 : Nat) : Int) - 1 = -1 from rfl] at hv
      subst hv
      have HT := Lib.hid hT
      have HF1 := Lib.hid hF
      clear hT hF
      go_wp2_with fail
      have hwb : ∀ x y, ((wr.alloc x).alloc y).heap.size = wr.heap.size + 2 := fun x y => by simp
      have hB0 : ∀ x y, ((wr.alloc x).alloc y).heap[wr.heap.size]? = some x := fun x y => (heap_alloc_lt _ _ (by simp)).trans (MapKept.heap_alloc wr x).1
      have hB1 : ∀ x y, ((wr.alloc x).alloc y).heap[wr.heap.size + 1]? = some y := fun x y => by have := (MapKept.heap_alloc (wr.alloc x) y).1; simpa using this
      have hBF : ∀ x y, Fr (fun _ => False) wr ((wr.alloc x).alloc y) := fun x y => ((Fr.refl _ _).alloc x).alloc y
      have hb0 := hB0 (.cells #[.int .i64 0, .int .i64 0] 76) (.cells #[.int .i64 (n : Int), .int .i64 (m : Int)] 76)
      have hb1 := hB1 (.cells #[.int .i64 0, .int .i64 0] 76) (.cells #[.int .i64 (n : Int), .int .i64 (m : Int)] 76)
      have hbf := hBF (.cells #[.int .i64 0, .int .i64 0] 76) (.cells #[.int .i64 (n : Int), .int .i64 (m : Int)] 76)
      have hbs := hwb (.cells #[.int .i64 0, .int .i64 0] 76) (.cells #[.int .i64 (n : Int), .int .i64 (m : Int)] 76)
      clear hwb hB0 hB1 hBF
      generalize hwB : (wr.alloc _).alloc _ = wB at *
      have HTB := Lib.hid (HT.out.fr hbf fun _ _ q => q)
      have HB0 := Lib.hid hb0
      have HB1 := Lib.hid hb1
      have HBF := Lib.hid ((HF.out.trans HF1.out fun _ q => q.elim).trans hbf fun _ q => q.elim)
      have HBS := Lib.hid hbs
      have HWS := Lib.hid (show w.heap.size ≤ wr.heap.size from Nat.le_trans HF.out.size HF1.out.size)
      generalize hba : wr.heap.size = ba at *
      clear hwB hb0 hb1 hbf hbs hba HT HF1 HF
      go_loopw [10] (fun v w' => ∃ i j out, Mid2 wB w' ba n m (listOf s n) (listOf t m) v i j out) (fun _ w' => remains ba n m w')
      case atStart => exact ⟨0, 0, [], by omega, by omega, ⟨none, 0, rfl, EdOwn.nil _ _⟩, HB0.out, Fr.refl _ _, by rw [script]; simp [listOf_length], by simp, by simp⟩
      case round =>
        obtain ⟨i, j, out, hi, hj, ⟨A2, c2, rfl, hE⟩, hcell, hF, hscr, hol, hon⟩ := hrel
        have HON := Lib.hid hon
        have hba : ba < wB.heap.size := by have := HBS.out; omega
        have hend := hF.keep HB1.out (by show ¬ ba + 1 = ba; omega)
        have c0 := cell_of_heap hcell 0
        have c1 := cell_of_heap hcell 1
        have d0 := cell_of_heap hend 0
        have d1 := cell_of_heap hend 1
        simp only [List.getElem?_toArray, List.getElem?_cons_zero, List.getElem?_cons_succ] at c0 c1 d0 d1
        have HE := Lib.hid hE
        have HCE := Lib.hid hcell
        have HFR := Lib.hid hF
        have HSC := Lib.hid hscr
        have hT := HTB.out.fr2 hF HB0.out
        clear hE hcell hF hscr hend hon
        by_cases hfin : i = n ∧ j = m
        · obtain ⟨rfl, rfl⟩ := hfin
          have hpl := eq_place
          have e1 : ((i : Int) == (i : Int)) = true := by simp
          have e2 : ((j : Int) == (j : Int)) = true := by simp
          clear hT
          go_wp2
          go_ret
          have hs0 := HSC.out
          rw [Nat.sub_self, Nat.sub_self] at hs0
          have hs1 : out = script (listOf s i) (listOf t j) := hs0
          unfold ScriptPost
          rw [← hs1]
          exact ⟨A2, c2, rfl, HE.out.mono (by have := HBF.out.size; omega), HBF.out.trans HFR.out fun k hk => .inr (by have : k = ba := hk; have := HWS.out; omega)⟩
        · have hlt : i < n ∨ j < m := by omega
          have hpl := eq_place
          have en : (!(((i : Int) == (n : Int)) && ((j : Int) == (m : Int)))) = true := by
            rcases hlt with q | q
            · have : ((i : Int) == (n : Int)) = false := by simp; omega
              rw [this]; rfl
            · have : ((j : Int) == (m : Int)) = false := by simp; omega
              rw [this]; simp
          have HLT := Lib.hid hlt
          have HT := Lib.hid hT
          have g0 := hT.1.cell (show i < n + 1 by omega)
          have g1 := (hT.2 i (Nat.zero_le _) hi).cell (show j < m + 1 by omega)
          simp only [Nat.zero_le, if_true] at g0
          have hb1 := dd_le X Y i j
          rw [HXL.out, HYL.out] at hb1
          clear hT hfin hlt
          go_upto_region 13 with (fail)
          have f0 := show ((i : Int) < (n : Int) + 1) from by omega
          have f1 := show ((j : Int) < (m : Int) + 1) from by omega
          have f2 := show (0 : Int) ≤ (i : Int) from by omega
          have f3 := show (0 : Int) ≤ (j : Int) from by omega
          have f4 := Int.toNat_natCast i
          have f5 := Int.toNat_natCast j
          clear d0 d1 en hpl
          go_quiet (fail)
          go_upto_region 15 with (fail)
          go_cut [86] (fun v wx => v = .bool (decide (i < n ∧ dd X Y (i + 1) j + 1 = dd X Y i j)) ∧ Quiet wr wx)
          case first =>
            by_cases hin : i < n
            · have t0 : ((i : Int) < (n : Int)) := by omega
              have g2 := HT.out.1.cell (show i + 1 < n + 1 by omega)
              have g3 := (HT.out.2 (i + 1) (Nat.zero_le _) (by omega)).cell (show j < m + 1 by omega)
              simp only [Nat.zero_le, if_true] at g2
              have f6 : IntKind.i64.wrap ((i : Int) + 1) = (i : Int) + 1 := IntWalk.i64_in _ (by omega)
              have f7 : ((i : Int) + 1).toNat = i + 1 := by omega
              have f8 : ((i : Int) + 1) < (n : Int) + 1 := by omega
              have f9 : (0 : Int) ≤ (i : Int) + 1 := by omega
              have f10 : IntKind.i32.wrap (((dd X Y i j : Nat) : Int) - 1) = ((dd X Y i j : Nat) : Int) - 1 := IntWalk.i32_in _ (by omega)
              by_cases he : dd X Y (i + 1) j + 1 = dd X Y i j
              · have t1 : (((dd X Y (i + 1) j : Nat) : Int) == ((dd X Y i j : Nat) : Int) - 1) = true := by rw [beq_iff_eq]; omega
                have HV := decide_eq_true (p := i < n ∧ dd X Y (i + 1) j + 1 = dd X Y i j) ⟨hin, he⟩
                clear he hin
                go_quiet (fail)
                go_wp2
                go_meet
                exact ⟨congrArg Value.bool HV.symm, by first | exact ⟨_, rfl⟩ | (rw [World.drewN_drewN]; exact ⟨_, rfl⟩)⟩
              · have t1 : (((dd X Y (i + 1) j : Nat) : Int) == ((dd X Y i j : Nat) : Int) - 1) = false := by rw [beq_eq_false_iff_ne]; omega
                have HV := decide_eq_false (p := i < n ∧ dd X Y (i + 1) j + 1 = dd X Y i j) (fun q => he q.2)
                clear he hin
                go_quiet (fail)
                go_wp2
                go_meet
                exact ⟨congrArg Value.bool HV.symm, by first | exact ⟨_, rfl⟩ | (rw [World.drewN_drewN]; exact ⟨_, rfl⟩)⟩
            · have t0 : ¬ ((i : Int) < (n : Int)) := by omega
              have HV := decide_eq_false (p := i < n ∧ dd X Y (i + 1) j + 1 = dd X Y i j) (fun q => hin q.1)
              clear hin
              go_quiet (fail)
              go_wp2
              go_meet
              exact ⟨congrArg Value.bool HV.symm, by first | exact ⟨_, rfl⟩ | (rw [World.drewN_drewN]; exact ⟨_, rfl⟩)⟩
          obtain ⟨rfl, hq⟩ := hcut
          have HQ := Lib.hid hq
          have q0 := (hq.cell ⟨ba, 0, none⟩).trans c0
          have q1 := (hq.cell ⟨ba, 1, none⟩).trans c1
          clear c0 c1 hq g1
          generalize hp2 : decide (i < n ∧ dd X Y (i + 1) j + 1 = dd X Y i j) = p2
          go_upto_if 86 with (fail)
          go_cut [14] (fun v wx => v = .int .i64 (opAt X Y i j : Nat) ∧ Quiet wr wx)
          case first =>
            cases p2 with
            | true =>
              have hop : opAt X Y i j = 2 := by unfold opAt; rw [HXL.out, if_pos (of_decide_eq_true hp2)]
              clear hp2
              go_wp2_with fail
              go_meet
              exact ⟨by rw [hop]; rfl, HQ.out⟩
            | false =>
              have hop := of_decide_eq_false hp2
              have HOP := Lib.hid hop
              clear hp2 hop
              have q2 := (HQ.out.cell ⟨w1.heap.size, i, none⟩).trans g0
              go_upto_region 17 with (fail)
              clear g0
              go_cut [106] (fun v wx => v = .bool (decide (j < m ∧ dd X Y i (j + 1) + 1 = dd X Y i j)) ∧ Quiet wr wx)
              case first =>
                by_cases hin : j < m
                · have t0 : ((j : Int) < (m : Int)) := by omega
                  have g3 := (HQ.out.cell ⟨gb i, j + 1, none⟩).trans ((HT.out.2 i (Nat.zero_le _) hi).cell (show j + 1 < m + 1 by omega))
                  have hb2 := dd_le X Y i (j + 1)
                  rw [HXL.out, HYL.out] at hb2
                  have f6 : IntKind.i64.wrap ((j : Int) + 1) = (j : Int) + 1 := IntWalk.i64_in _ (by omega)
                  have f7 : ((j : Int) + 1).toNat = j + 1 := by omega
                  have f8 : ((j : Int) + 1) < (m : Int) + 1 := by omega
                  have f9 : (0 : Int) ≤ (j : Int) + 1 := by omega
                  have f10 : IntKind.i32.wrap (((dd X Y i j : Nat) : Int) - 1) = ((dd X Y i j : Nat) : Int) - 1 := IntWalk.i32_in _ (by omega)
                  by_cases he : dd X Y i (j + 1) + 1 = dd X Y i j
                  · have t1 : (((dd X Y i (j + 1) : Nat) : Int) == ((dd X Y i j : Nat) : Int) - 1) = true := by rw [beq_iff_eq]; omega
                    have HV := decide_eq_true (p := j < m ∧ dd X Y i (j + 1) + 1 = dd X Y i j) ⟨hin, he⟩
                    clear he hin
                    go_quiet (fail)
                    go_wp2
                    go_meet
                    exact ⟨congrArg Value.bool HV.symm, HQ.out.trans (by first | exact ⟨_, rfl⟩ | (rw [World.drewN_drewN]; exact ⟨_, rfl⟩))⟩
                  · have t1 : (((dd X Y i (j + 1) : Nat) : Int) == ((dd X Y i j : Nat) : Int) - 1) = false := by rw [beq_eq_false_iff_ne]; omega
                    have HV := decide_eq_false (p := j < m ∧ dd X Y i (j + 1) + 1 = dd X Y i j) (fun q => he q.2)
                    clear he hin
                    go_quiet (fail)
                    go_wp2
                    go_meet
                    exact ⟨congrArg Value.bool HV.symm, HQ.out.trans (by first | exact ⟨_, rfl⟩ | (rw [World.drewN_drewN]; exact ⟨_, rfl⟩))⟩
                · have t0 : ¬ ((j : Int) < (m : Int)) := by omega
                  have HV := decide_eq_false (p := j < m ∧ dd X Y i (j + 1) + 1 = dd X Y i j) (fun q => hin q.1)
                  clear hin
                  go_quiet (fail)
                  go_wp2
                  go_meet
                  exact ⟨congrArg Value.bool HV.symm, HQ.out.trans (by first | exact ⟨_, rfl⟩ | (rw [World.drewN_drewN]; exact ⟨_, rfl⟩))⟩
              obtain ⟨rfl, hq⟩ := hcut
              have HQ2 := Lib.hid hq
              clear q0 q1 q2 hq
              generalize hp3 : decide (j < m ∧ dd X Y i (j + 1) + 1 = dd X Y i j) = p3
              cases p3 with
              | true =>
                have hop : opAt X Y i j = 3 := by unfold opAt; rw [HXL.out, HYL.out, if_neg HOP.out, if_pos (of_decide_eq_true hp3)]
                clear hp3
                go_wp2_with fail
                go_meet
                exact ⟨by rw [hop]; rfl, HQ2.out⟩
              | false =>
                have hop : opAt X Y i j = 1 := by unfold opAt; rw [HXL.out, HYL.out, if_neg HOP.out, if_neg (of_decide_eq_false hp3)]
                clear hp3
                go_wp2_with fail
                go_meet
                exact ⟨by rw [hop]; rfl, HQ2.out⟩
          obtain ⟨rfl, hq⟩ := hcut
          have HQ3 := Lib.hid hq
          have HP2 := Lib.hid hp2
          clear q0 q1 hq g0 f0 f1 f2 f3 f4 f5 HQ hp2 hb1
          have HEW := Lib.hid (HE.out.kept (HQ3.out.fr fun _ => False) fun _ _ q => q)
          have HFW := Lib.hid (HFR.out.trans (HQ3.out.fr fun _ => False) fun _ q => q.elim)
          have HTW := Lib.hid (HT.out.fr (HQ3.out.fr fun _ => False) fun _ _ q => q)
          have hcell := HQ3.out.fr (fun _ => False) |>.keep HCE.out (fun q => q)
          have HCW := Lib.hid hcell
          have c0 := cell_of_heap hcell 0
          have c1 := cell_of_heap hcell 1
          simp only [List.getElem?_toArray, List.getElem?_cons_zero, List.getElem?_cons_succ] at c0 c1
          clear hcell
          generalize hop : opAt X Y i j = op
          have HOP := Lib.hid hop
          clear hop
          go_upto_region 20 with (fail)
          have HB : ∀ e ∈ out.getLast?, 0 < out.length := by
            intro e he; rcases out with _ | ⟨x, l⟩
            · simp at he
            · simp
          go_cut [120] (fun v wx => v = .bool (decide (out.getLast?.map (·.op) = some (op : Int))) ∧ Quiet wc wx)
          case first =>
            rcases List.eq_nil_or_concat out with h0 | ⟨l, e, h0⟩
            · have hl : out.length = 0 := by rw [h0]; rfl
              have HV := decide_eq_false (p := out.getLast?.map (·.op) = some (op : Int)) (by rw [h0]; simp)
              clear h0
              generalize hln : out.length = ln at *
              subst hl
              go_wp2_with fail
              go_meet
              exact ⟨congrArg Value.bool HV.symm, Quiet.refl _⟩
            · obtain ⟨g', cur, rfl, _, hh', _, _, hc'⟩ := HEW.out.form (by rw [h0]; simp)
              have hl : out.length = l.length + 1 := by rw [h0]; simp
              have hce := HEW.out.cell (i := l.length) (j := 0) (by omega) (by omega)
              have he2 : out[l.length]'(by omega) = e := by simp [h0]
              rw [he2] at hce
              have hop : (wc.cell? ⟨g', l.length * 4, none⟩) = some (.int .i64 e.op) := hce
              have hfz := free_of_heap hh' (l.length * 4)
              have f1 : IntKind.i64.wrap (((l.length + 1 : Nat) : Int) - 1) = (l.length : Int) := by rw [IntWalk.i64_in _ (by omega)]; omega
              have f2 : (0 : Int) ≤ (l.length : Int) := by omega
              have f3 := Int.toNat_natCast l.length
              have f4 : (0 : Int) < ((l.length + 1 : Nat) : Int) := by omega
              have f5 : (l.length : Int) < ((l.length + 1 : Nat) : Int) := by omega
              have HV0 : out.getLast?.map (·.op) = some e.op := by rw [h0]; simp
              clear hce he2 hc' hh' h0 HB
              generalize hln : out.length = ln at *
              subst hl
              generalize hLL : l.length = LL at *
              by_cases hee : e.op = (op : Int)
              · have t1 : (e.op == (op : Int)) = true := by rw [beq_iff_eq]; exact hee
                have HV := decide_eq_true (p := out.getLast?.map (·.op) = some (op : Int)) (by rw [HV0, hee])
                clear hee HV0
                go_wp2_with fail
                go_meet
                exact ⟨congrArg Value.bool HV.symm, Quiet.refl _⟩
              · have t1 : (e.op == (op : Int)) = false := by rw [beq_eq_false_iff_ne]; exact hee
                have HV := decide_eq_false (p := out.getLast?.map (·.op) = some (op : Int)) (by rw [HV0]; exact fun q => hee (Option.some.inj q))
                clear hee HV0
                go_wp2_with fail
                go_meet
                exact ⟨congrArg Value.bool HV.symm, Quiet.refl _⟩
          obtain ⟨rfl, hq⟩ := hcut
          have HE5 := Lib.hid (HEW.out.kept (hq.fr fun _ => False) fun _ _ q => q)
          have HF5 := Lib.hid (HFW.out.trans (hq.fr fun _ => False) fun _ q => q.elim)
          have HT5 := Lib.hid (HTW.out.fr (hq.fr fun _ => False) fun _ _ q => q)
          have HQ5 := Lib.hid (HQ3.out.trans hq)
          have hcell := hq.fr (fun _ => False) |>.keep HCW.out (fun q => q)
          have HC5 := Lib.hid hcell
          clear hq c0 c1 HB HEW HFW HTW HCW HQ3
          have c0 := cell_of_heap hcell 0
          have c1 := cell_of_heap hcell 1
          simp only [List.getElem?_toArray, List.getElem?_cons_zero, List.getElem?_cons_succ] at c0 c1
          clear hcell
          generalize hp4 : decide (out.getLast?.map (·.op) = some (op : Int)) = p4
          have HP4 := Lib.hid hp4
          clear hp4
          go_upto_if 120 with (fail)
          go_cut [10] (fun v wx => ∃ A3 c3, v = .slice A3 (addE out op i j).length c3 ∧ EdOwn wx wB.heap.size A3 c3 (addE out op i j) ∧ Fr (fun k => wB.heap.size ≤ k) wr wx)
          case first =>
            cases p4 with
            | true =>
              rcases List.eq_nil_or_concat out with h0 | ⟨l, e, h0⟩
              · exfalso; have := of_decide_eq_true HP4.out; rw [h0] at this; simp at this
              · obtain ⟨g', cur, rfl, hb', hh', _, _, hc'⟩ := HE5.out.form (by rw [h0]; simp)
                have hl : out.length = l.length + 1 := by rw [h0]; simp
                have he2 : out[l.length]'(by omega) = e := by simp [h0]
                have hce := HE5.out.cell (i := l.length) (j := 3) (by omega) (by omega)
                rw [he2] at hce
                have hcn : (wc.cell? ⟨g', l.length * 4 + 3, none⟩) = some (.int .i64 e.n) := hce
                have hfz := free_of_heap hh' (l.length * 4 + 3)
                have hen := HON.out e (by rw [h0]; simp)
                have hop : e.op = (op : Int) := by have := of_decide_eq_true HP4.out; rw [h0] at this; simpa using this
                have f0 : IntKind.i64.wrap (e.n + 1) = e.n + 1 := IntWalk.i64_in _ (by omega)
                have f1 : IntKind.i64.wrap (((l.length + 1 : Nat) : Int) - 1) = (l.length : Int) := by rw [IntWalk.i64_in _ (by omega)]; omega
                have f2 : (0 : Int) ≤ (l.length : Int) := by omega
                have f3 := Int.toNat_natCast l.length
                have f5 : (l.length : Int) < ((l.length + 1 : Nat) : Int) := by omega
                have hE6 : EdOwn (wc.setCell ⟨g', l.length * 4 + 3, none⟩ (.int .i64 (e.n + 1))) wB.heap.size (some ⟨g', 0, none⟩) c2 (addE out op i j) := by
                  rw [h0, List.concat_eq_append, addE_snoc, if_pos hop]
                  have := HE5.out
                  rw [h0, List.concat_eq_append] at this
                  exact this.bump _
                have hlen : (addE out op i j).length = l.length + 1 := by rw [h0, List.concat_eq_append, addE_snoc, if_pos hop]; simp
                have hF6 : Fr (fun k => wB.heap.size ≤ k) wr (wc.setCell ⟨g', l.length * 4 + 3, none⟩ (.int .i64 (e.n + 1))) := (HQ5.out.fr _).setCell _ _ (.inl hb')
                have HE6 := Lib.hid hE6
                have HF6 := Lib.hid hF6
                have HLEN := Lib.hid hlen
                clear hE6 hF6 hlen hce he2 hc' hh' h0 hen hop
                generalize hln : out.length = ln at *
                subst hl
                generalize hLL : l.length = LL at *
                go_wp2_with fail
                go_meet
                exact ⟨_, _, by rw [HLEN.out], HE6.out, HF6.out⟩
            | false =>
              have hap : (wc.alloc (.cells #[.int .i64 op, .int .i64 i, .int .i64 j, .int .i64 1] 55)).heap.size = wc.heap.size + 1 := by simp
              have hA : (wc.alloc (.cells #[.int .i64 op, .int .i64 i, .int .i64 j, .int .i64 1] 55)).heap[wc.heap.size]? = some (.cells #[.int .i64 op, .int .i64 i, .int .i64 j, .int .i64 1] 55) := (MapKept.heap_alloc wc _).1
              have hfa : Fr (fun _ => False) wc (wc.alloc (.cells #[.int .i64 op, .int .i64 i, .int .i64 j, .int .i64 1] 55)) := (Fr.refl _ _).alloc _
              have hown := HE5.out.kept hfa (fun _ _ q => q)
              obtain ⟨v', w', hrun, hown', hgr⟩ := run_append_row (P := Try.prog) (t := 44) (ty := 44) Try.underlying44 info_edit rfl (by omega) hown (A := some ⟨wc.heap.size, 0, none⟩) (m := 1) (c := 1) (news := (Ed.mk op i j 1).vals) rfl
                (.inr ⟨_, _, rfl, fun q u hu => by rw [cell_of_heap hA, Nat.zero_add]; simpa [Ed.vals] using hu⟩) (fun q => by cases q) (by intro u hu; simp [Ed.vals] at hu; rcases hu with rfl | rfl | rfl | rfl <;> rfl) (by unfold maxLen; omega) (by omega) (by rw [hap]; have := HF5.out.size; omega)
              have hne : addE out op i j = out ++ [⟨op, i, j, 1⟩] := by
                rcases List.eq_nil_or_concat out with h0 | ⟨l, e, h0⟩
                · rw [h0, addE_nil]; rfl
                · have := of_decide_eq_false HP4.out
                  rw [h0, List.concat_eq_append, addE_snoc, if_neg (fun q => this (by rw [h0]; simp [q]))]
              have hE6 : ∃ A3 c3, v' = .slice A3 (addE out op i j).length c3 ∧ EdOwn w' wB.heap.size A3 c3 (addE out op i j) := by
                rw [hne]
                rcases hown'.2 with ⟨hv, hx2⟩ | ⟨g2, cap, cur, hv, hx2⟩
                · simp at hx2
                · subst hv
                  refine ⟨some ⟨g2, 0, none⟩, cap, by simp, ?_⟩
                  unfold EdOwn
                  simpa using hown'
              have hrow : ∀ k, some k = (Value.slice A2 out.length c2).ownBlock → wB.heap.size ≤ k := by
                intro k hk
                rcases HE5.out.2 with ⟨hv, _⟩ | ⟨g2, cap, cur, hv, hb2, _⟩
                · rw [hv] at hk; cases hk
                · rw [hv] at hk; cases hk; exact hb2
              have hF6 : Fr (fun k => wB.heap.size ≤ k) wr w' := (HQ5.out.fr _).trans ((hfa.mono fun _ _ q => q.elim).trans ((Fr.of_grown hgr).mono fun k _ q => hrow k q) fun k q => .inl q) fun k q => .inl q
              obtain ⟨A3, c3, rfl, hE7⟩ := hE6
              have HE6 := Lib.hid hE7
              have HF6 := Lib.hid hF6
              have HRUN := Lib.hid hrun
              clear hE7 hF6 hrow hne hgr hown hown' hap hA hfa hrun
              go_wp2_with (first | (at_builtin; refine wpList_append_run rfl _ _ _ rfl rfl rfl HRUN.out ?_) | fail)
              go_meet
              exact ⟨_, _, rfl, HE6.out, HF6.out⟩
          obtain ⟨A3, c3, rfl, hE, hF⟩ := hcut
          have HE7 := Lib.hid hE
          have hcell := hF.keep HCE.out (show ¬ wB.heap.size ≤ ba by omega)
          have HF7 := Lib.hid (HFR.out.trans hF fun k q => .inr q)
          have hoz : opAt (listOf s n) (listOf t m) i j = op := by
            rw [← HOP.out]; unfold opAt
            simp only [HXL.out, HYL.out, listOf_length, HD.out]
          obtain ⟨ho, hbi, hbj, hsc⟩ := scrF_step (listOf_length s n) (listOf_length t m) hi hj HLT.out out hoz
          have HSTEP := Lib.hid hsc
          have hstep := step_lcs (w := wc) (i := i) (j := j) op (by omega) (by omega) ho
          have hmea : (n - (if op = 3 then i else i + 1)) + (m - (if op = 2 then j else j + 1)) < (n - i) + (m - j) := by
            rcases ho with rfl | rfl | rfl <;> simp at hbi hbj ⊢ <;> omega
          have hij : i + j + 1 ≤ (if op = 3 then i else i + 1) + (if op = 2 then j else j + 1) := by
            rcases ho with rfl | rfl | rfl <;> simp <;> omega
          have HMEA := Lib.hid hmea
          have HIJ := Lib.hid hij
          generalize (if op = 3 then i else i + 1) = i2 at *
          generalize (if op = 2 then j else j + 1) = j2 at *
          have c0 := cell_of_heap hcell 0
          have c1 := cell_of_heap hcell 1
          simp only [List.getElem?_toArray, List.getElem?_cons_zero, List.getElem?_cons_succ] at c0 c1
          have HC7 := Lib.hid hcell
          clear hcell hE hF hoz hsc hmea hij ho
          go_wp2_with fail
          refine hstep.mono ?_
          rintro e w7 ⟨rfl, hf7⟩
          clear hstep c0 c1
          have hcell := hf7.keep HC7.out (fun q => q)
          have d0 := free_of_heap hcell 0
          have d1 := free_of_heap hcell 1
          have c0 := cell_of_heap hcell 0
          have c1 := cell_of_heap hcell 1
          simp only [List.getElem?_toArray, List.getElem?_cons_zero, List.getElem?_cons_succ] at c0 c1
          have HC8 := Lib.hid hcell
          have HF8 := Lib.hid hf7
          clear hcell hf7
          go_wp2
          go_roundw
          case rel =>
            have hf8 : Fr (· = ba) wc w7 := HF8.out.mono fun _ _ q => q.elim
            have hfx : Fr (· = ba) wc ((w7.setCell ⟨ba, 0, none⟩ (.int .i64 i2)).setCell ⟨ba, 1, none⟩ (.int .i64 j2)) := (hf8.setCell ⟨ba, 0, none⟩ _ (.inl rfl)).setCell ⟨ba, 1, none⟩ _ (.inl rfl)
            have hcx := heap_setCell_same _ _ 1 (.int .i64 j2) (heap_setCell_same _ _ 0 (.int .i64 i2) HC8.out)
            refine ⟨i2, j2, addE out op i j, hbi, hbj, ⟨A3, c3, rfl, HE7.out.kept hfx (fun k hk q => by have : k = ba := q; omega)⟩, hcx, HF7.out.trans hfx fun k q => .inl q, HSTEP.out.symm.trans HSC.out, ?_, addE_n HON.out HIJ.out⟩
            have := addE_length out op i j
            have := HIJ.out
            omega
          case measure =>
            have hcx := heap_setCell_same _ _ 1 (.int .i64 j2) (heap_setCell_same _ _ 0 (.int .i64 i2) HC8.out)
            rw [remains_eq hcx, remains_eq HCE.out]
            exact HMEA.out
    · obtain ⟨j, rfl⟩ : ∃ j, k = j + 1 := ⟨k - 1, by omega⟩
      rw [show ((j + 1 : Nat) : Int) - 1 = (j : Int) from by omega] at hv
      subst hv
      have hj : j < n + 1 := by omega
      have HT := Lib.hid hT
      have HFr := Lib.hid hF
      have HYL2 := HYL.out
      have hlt1 : w1.heap.size < wr.heap.size := hT.1.lt
      have hrowz := fun (C : Option Addr) (cn cc : Nat) => row_any' (w := wr) (A := some ⟨g, 0, none⟩) (B := some ⟨h, 0, none⟩) (C := C) (cn := cn) (cc := cc) (ca := n) (cb := m) (i := j) HXL.out HYL.out (by omega) (by omega) (by omega) (HX.out.fr hF) (HY.out.fr hF)
      clear hk0
      by_cases hjn : j = n
      · have e1 : ¬ ((j : Int) < (n : Int)) := by omega
        have hrow := hrowz none 0 0 (fun hlt => by omega)
        clear hT hF hrowz hjn
        go_wp2_with fail
        refine hrow.mono ?_
        rintro e w3 ⟨g2, rfl, hR, hF2, hg2⟩
        rw [HYL2] at hR ⊢
        clear hrow HYL2
        have hT3 := HT.out.fr hF2 (fun _ _ q => q)
        have c0 := hT3.1.cell hj
        have c1 := hT3.1.free j
        rw [if_neg (by omega)] at c0
        have HR := Lib.hid hR
        have HT3 := Lib.hid hT3
        have HF3 := Lib.hid (HFr.out.trans hF2 fun _ q => q.elim)
        clear hR hF2 hT3
        go_wp2
        go_roundw
        case rel => exact ⟨j, by omega, rfl, HF3.out.setCell _ _ (.inr (Nat.le_refl _)), _, HT3.out.step (by omega) HR.out⟩
        case measure => simp [intOf] <;> omega
      · have e1 : ((j : Int) < (n : Int)) := by omega
        have hrow := hrowz (some ⟨gb (j + 1), 0, none⟩) (m + 1) (m + 1) (fun hlt => ⟨rfl, (hT.2 (j + 1) (by omega) (by omega)).sl⟩)
        have b0 := hT.1.cell (show j + 1 < n + 1 by omega)
        rw [if_pos (by omega)] at b0
        clear hT hF hrowz hjn
        go_wp2_with fail
        refine hrow.mono ?_
        rintro e w3 ⟨g2, rfl, hR, hF2, hg2⟩
        rw [HYL2] at hR ⊢
        clear hrow HYL2 b0
        have hT3 := HT.out.fr hF2 (fun _ _ q => q)
        have c0 := hT3.1.cell hj
        have c1 := hT3.1.free j
        rw [if_neg (by omega)] at c0
        have HR := Lib.hid hR
        have HT3 := Lib.hid hT3
        have HF3 := Lib.hid (HFr.out.trans hF2 fun _ q => q.elim)
        clear hR hF2 hT3
        go_wp2
        go_roundw
        case rel => exact ⟨j, by omega, rfl, HF3.out.setCell _ _ (.inr (Nat.le_refl _)), _, HT3.out.step (by omega) HR.out⟩
        case measure => simp [intOf] <;> omega
end Go.Proofs.Ytejajmmacmcijaa
