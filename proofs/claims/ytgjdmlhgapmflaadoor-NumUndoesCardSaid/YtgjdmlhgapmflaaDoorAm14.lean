/- The abstract machine: append, all of it; bytes of a string; a call. -/
import Derived.Test.YtgjdmlhgapmflaaDoorAm13
namespace Go.Proofs.YtgjdmlhgapmflaaDoor
set_option linter.unusedVariables false
set_option linter.unusedSimpArgs false

section
variable {P : Program} {X : Nat → Nat → Prop} {w0 : Base} {w w' : World} {N : Nat} {st : St} {a : Act} {m : List MObj} {H : List Hd} {d : Option Nat}

theorem info_of {e : TypeId} {sz bytes : Nat} {z : Value} (hs : szOf P e = some sz) (hz : zeOf P e = some z) (hby : byOf P e = some bytes) : ∃ i, P.info? e = some i ∧ i.size = sz ∧ i.zero = some z ∧ i.bytes = bytes := by
  unfold szOf at hs; unfold zeOf at hz; unfold byOf at hby
  simp only [Option.map_eq_some_iff, Option.bind_eq_some_iff] at hs hz hby
  obtain ⟨i, hi, rfl⟩ := hs
  obtain ⟨i', hi', hz⟩ := hz
  rw [hi] at hi'; injection hi' with hi'; subst hi'
  obtain ⟨i', hi', rfl⟩ := hby
  rw [hi] at hi'; injection hi' with hi'; subst hi'
  exact ⟨i, hi, rfl, hz, rfl⟩

theorem e_appNil {t ty e : TypeId} {sz bytes : Nat} {z vy : Value} {ay : AV} {ly : List AV} (ht : P.underlying t = some (.slice e)) (hs : szOf P e = some sz) (h0 : 0 < sz) (hz : zeOf P e = some z) (hzs : z.cells.size = sz) (hby : byOf P e = some bytes) (h : SR X w0 N st a w H) (hd : ∀ k, d = some k → k < N)
    (ry : Rep (Stab X H w) w H vy ay) (hly : elemsS st.m sz ay = some ly) (hb : ly.length * bytes ≤ 140737488355328) (hm : ly.length ≤ maxLen) :
    ∃ v w' H', (Builtin.append_ #[t, t] ty #[.slice none 0 0, vy]).run P w = .ok v w' ∧ SR X w0 N ⟨putf d (.row st.m.length 0 ly.length 0 ly.length) st.fr, st.m ++ [.row 0 sz ly true true]⟩ (a.put d v) w' H' := by
  obtain ⟨A, c, news, rfl, hA, hn, hcell, hone, hg, hrep⟩ := rep_news h0 h.mem ry hly
  by_cases hl : ly.length = 0
  · have : ly = [] := List.eq_nil_of_length_eq_zero hl
    subst this
    have hrun := app_zero (P := P) (ty := ty) ht hs none A 0 0 c (Nat.le_refl _) (fun q => (hA q).2) w
    exact ⟨_, _, _, hrun, e_nilrow sz h hd⟩
  · obtain ⟨b, hb'⟩ : ∃ b, A = some b := by
      cases A with
      | none => exact absurd (by rw [(hA rfl).1]; rfl) hl
      | some b => exact ⟨b, rfl⟩
    subst hb'
    obtain ⟨i, hi, h1, h2, h3⟩ := info_of hs hz hby
    have hrun := run_append_nil (P := P) w t ty e i z ht hi h2 b ly.length c news (by rw [h1]; exact hn) (hcell b rfl) (by omega) (by have := hm; unfold maxLen at this; omega) (by rw [h3]; omega)
    have hge := grownCap_ge w ly.length 0 e
    generalize grownCap w ly.length 0 e = cap' at *
    refine ⟨_, _, H ++ [.row w.heap.size cap' sz 0 ly.length true], hrun, ?_⟩
    have hext := ext_drew_alloc w (.cells (news.toArray ++ Builtin.zeroCells z.cells (cap' - ly.length)) e)
    have hfr : Fr (fun _ => False) w (w.drew.alloc (.cells (news.toArray ++ Builtin.zeroCells z.cells (cap' - ly.length)) e)) := ⟨rfl, rfl, rfl, by simp, fun k hk _ => hext k hk⟩
    have hcap : 0 < cap' := by omega
    refine h.newObj hd hext (by simp) hfr (fun b hb => by
      simp only [Hd.blk, hcap, if_true, Option.some.injEq] at hb
      subst hb; simp) ?_ ?_
    · have hsz2 : (news.toArray ++ Builtin.zeroCells z.cells (cap' - ly.length)).size = cap' * sz := by
        rw [Array.size_append, zeroCells_size, hzs]
        simp only [List.size_toArray, hn, ← Nat.add_mul]
        congr 1; omega
      refine ⟨rfl, rfl, rfl, rfl, hge, fun _ => ⟨_, e, (0, 0), heap_drew_alloc w _, fun _ => rfl, fun _ _ => by simp, hsz2, fun k x j y hx hy => ?_⟩, hg⟩
      have hj : j < sz := by have := (hg k x hx).2; have := (List.getElem?_eq_some_iff.1 hy).1; omega
      have hlt : k * sz + j < news.length := by rw [hn]; exact mul_lt_of (List.getElem?_eq_some_iff.1 hx).1 hj
      have e1 : (news.toArray ++ Builtin.zeroCells z.cells (cap' - ly.length)).getD (k * sz + j) undef = news.getD (k * sz + j) undef := by
        simp only [Array.getD_eq_getD_getElem?]
        rw [Array.getElem?_append_left (by simpa using hlt)]
        simp [List.getD_eq_getElem?_getD]
      rw [e1]
      exact (goes_new (h := .row w.heap.size cap' sz 0 ly.length true) hext (by simp) (fun b hb => by
        simp only [Hd.blk, hcap, if_true, Option.some.injEq] at hb
        omega)).rep0 (hrep k x j y hx hy)
    · rw [← h.mem.len]
      exact .row _ 0 _ 0 _ ⟨_, _, _, rfl⟩ (snoc_last _ _) (.inr ⟨rfl, Nat.le_refl _⟩) fun _ _ => ⟨by omega, hge, some ⟨w.heap.size, 0, none⟩, rfl, fun q => by simp, fun q => by cases q⟩

theorem e_appRow {t ty e : TypeId} {sz bytes id ver used v s : Nat} {z vx vy : Value} {ay : AV} {l ly : List AV} {wr : Bool} (ht : P.underlying t = some (.slice e)) (hs : szOf P e = some sz) (h0 : 0 < sz) (hz : zeOf P e = some z) (hzs : z.cells.size = sz) (hby : byOf P e = some bytes) (h : SR X w0 N st a w H) (hd : ∀ k, d = some k → k < N)
    (rx : Rep (Stab X H w) w H vx (.row id ver used 0 used)) (ry : Rep (Stab X H w) w H vy ay) (hly : elemsS st.m sz ay = some ly) (hobj : st.m[id]? = some (.row v s l wr true)) (hv : v = ver) (hu : l.length = used) (hss : s = sz) (hb : (used + ly.length) * bytes ≤ 140737488355328) (hm : used + ly.length ≤ maxLen) :
    ∃ vr w' H', (Builtin.append_ #[t, t] ty #[vx, vy]).run P w = .ok vr w' ∧ SR X w0 N ⟨putf d (.row id ver (used + ly.length) 0 (used + ly.length)) st.fr, st.m.set id (.row v s (l ++ ly) wr true)⟩ (a.put d vr) w' H' := by
  subst hv hu hss
  obtain ⟨A, c, news, rfl, hA, hn, hcell, hone, hg, hrep⟩ := rep_news h0 h.mem ry hly
  have rx' := rx
  cases rx with
  | row id ver used off len hsl hH hle hvv =>
    rename_i b cap sz' cver cused wr'
    have hO := h.mem.obj _ _ _ hobj hH
    simp only [ObjAt] at hO
    obtain ⟨e1, e2, es, e3, e4, e5, e6⟩ := hO
    have hvv' := hvv e1.symm (by omega)
    subst e1 e2 es
    obtain ⟨_, g2, A2, rfl, g3, g4⟩ := hvv'
    simp only [Nat.sub_zero] at g3 g4 hle hvv rx' ⊢
    by_cases hl : ly.length = 0
    · have : ly = [] := List.eq_nil_of_length_eq_zero hl
      subst this
      have hrun := app_zero (P := P) (ty := ty) ht hs A2 A l.length cap c g2 (fun q => (hA q).2) w
      refine ⟨_, _, H, hrun, ?_⟩
      simp only [List.length_nil, Nat.add_zero, List.append_nil]
      have hset : st.m.set id (.row cver s l wr' true) = st.m := set_same hobj
      rw [hset]
      exact h.pure hd rx'
    · obtain ⟨ad, hb'⟩ : ∃ b, A = some b := by
        cases A with
        | none => exact absurd (by rw [(hA rfl).1]; rfl) hl
        | some b => exact ⟨b, rfl⟩
      subst hb'
      obtain ⟨i, hi, h1, h2, h3⟩ := info_of hs hz hby
      subst h1 h3
      have hlp : 0 < ly.length := Nat.pos_of_ne_zero hl
      have hmax : l.length + ly.length ≤ 9223372036854775807 := by have := hm; unfold maxLen at this; omega
      have hgg : ∀ (k : Nat) (x : AV), (l ++ ly)[k]? = some x → x.ground = true ∧ x.cells.length = i.size := by
        intro k x hx
        rw [List.getElem?_append] at hx
        split at hx
        · exact e6 k x hx
        · exact hg _ x hx
      by_cases hroom : l.length + ly.length ≤ cap
      · have hcap0 : 0 < cap := by omega
        obtain ⟨cur, ty', fz, hh, hap, hfz, hsz, hold⟩ := e5 hcap0
        obtain rfl := g3 (by omega)
        simp only [Nat.zero_mul] at rx' ⊢
        have hrun := app_room (P := P) (ty := ty) ht hs b l.length cap cur ty' fz hh hfz ad ly.length c news hn (hcell ad rfl) hone hroom (by rw [hn, hsz, ← Nat.add_mul]; exact Nat.mul_le_mul_right _ hroom)
        obtain ⟨H', hsr⟩ := app_placed h hd hobj hH hcap0 hlp hroom hh (fun _ => hap trivial) hfz hsz hn hgg hold hrep
        exact ⟨_, _, H', hrun, hsr⟩
      · have hfit := growslice_fits (need := l.length + ly.length) (old := cap) (by omega) hb
        have hge := grownCap_ge w (l.length + ly.length) cap e
        have grow : ∀ (olds : List Value), olds.length = l.length * i.size → (∀ (k : Nat) (x : AV) (j : Nat) (y : AV), l[k]? = some x → x.cells[j]? = some y → Rep (Stab X H w) w [] (olds.getD (k * i.size + j) undef) y) →
            ∃ H', SR X w0 N ⟨putf d (.row id cver (l.length + ly.length) 0 (l.length + ly.length)) st.fr, st.m.set id (.row cver i.size (l ++ ly) wr' true)⟩ (a.put d (.slice (some ⟨w.heap.size, 0, none⟩) (l.length + ly.length) (grownCap w (l.length + ly.length) cap e)))
              (w.drew.alloc (.cells (olds.toArray ++ news.toArray ++ Builtin.zeroCells z.cells (grownCap w (l.length + ly.length) cap e - (l.length + ly.length))) e)) H' := by
          intro olds ho hor
          refine app_moved h hd hobj hH hlp hge ?_ hgg (cat_rep ho hn (fun k x hx => (hgg k x hx).2) hor hrep)
          rw [Array.size_append, Array.size_append, zeroCells_size, hzs]
          simp only [List.size_toArray, ho, hn, ← Nat.add_mul]
          congr 1; omega
        rcases A2 with _ | ad2
        · have hc0 := g4 rfl
          subst hc0
          have hl0 : l = [] := List.eq_nil_of_length_eq_zero (by omega)
          subst hl0
          simp only [List.length_nil, Nat.zero_add] at *
          have hrun := run_append_nil (P := P) w t ty e i z ht hi h2 ad ly.length c news hn (hcell ad rfl) (by omega) (by omega) (by omega)
          obtain ⟨H', hsr⟩ := grow [] (by simp) (fun k x j y hx => by simp at hx)
          simp only [List.nil_append, Array.empty_append] at hsr
          exact ⟨_, _, H', hrun, by simpa using hsr⟩
        · have holds : ∃ olds : List Value, olds.length = l.length * i.size ∧ (∀ (j : Nat) (u : Value), olds[j]? = some u → w.cell? (ad2.add j) = some u) ∧ ∀ (k : Nat) (x : AV) (j : Nat) (y : AV), l[k]? = some x → x.cells[j]? = some y → Rep (Stab X H w) w [] (olds.getD (k * i.size + j) undef) y := by
            by_cases hcap0 : 0 < cap
            · obtain ⟨cur, ty', fz, hh, hap, hfz, hsz, hold⟩ := e5 hcap0
              have := g3 hcap0
              injection this with this; subst this
              have hle2 : l.length * i.size ≤ cur.size := by rw [hsz]; exact Nat.mul_le_mul_right _ g2
              refine ⟨cur.toList.take (l.length * i.size), by simp; omega, fun j u hu => ?_, fun k x j y hx hy => ?_⟩
              · have hj := (List.getElem?_eq_some_iff.1 hu).1
                simp only [List.length_take] at hj
                rw [List.getElem?_take, if_pos (by omega), Array.getElem?_toList] at hu
                rw [addr_add, Nat.zero_mul, Nat.zero_add, cell_getD hh (by omega), Array.getD_eq_getD_getElem?, hu]; rfl
              · have hj : j < i.size := by have := (e6 k x hx).2; have := (List.getElem?_eq_some_iff.1 hy).1; omega
                have hlt := mul_lt_of (sz := i.size) (List.getElem?_eq_some_iff.1 hx).1 hj
                have e1 : (cur.toList.take (l.length * i.size)).getD (k * i.size + j) undef = cur.getD (k * i.size + j) undef := by
                  simp only [List.getD_eq_getElem?_getD, Array.getD_eq_getD_getElem?]
                  rw [List.getElem?_take, if_pos hlt, Array.getElem?_toList]
                rw [e1]; exact hold k x j y hx hy
            · have hl0 : l = [] := List.eq_nil_of_length_eq_zero (by omega)
              subst hl0
              exact ⟨[], by simp, fun j u hu => by simp at hu, fun k x j y hx => by simp at hx⟩
          obtain ⟨olds, ho1, ho2, ho3⟩ := holds
          have hrun := run_append_grow (P := P) w t ty e i z ht hi h2 ad2 l.length cap olds ho1 ho2 ad ly.length c news hn (hcell ad rfl) (by omega) (by omega) hfit
          obtain ⟨H', hsr⟩ := grow olds ho1 ho3
          exact ⟨_, _, H', hrun, hsr⟩

theorem rptr_any {S S' : Nat → Nat → Prop} {H H' : List Hd} {v : Value} {l : List AV} (hS : ∀ b o, S b o → S' b o) (h : Rep S w H v (.rptr l)) : Rep S' w H' v (.rptr l) := by
  cases h with
  | rptr b o u hg hcell hrep => exact .rptr b o u hg (fun j y h2 => ⟨(hcell j y h2).1, hS _ _ (hcell j y h2).2⟩) fun j y h2 => (hrep j y h2).mono (fun b o q => ⟨hS b o q, rfl⟩) (HLe.refl _)
theorem GR.to {S S' : Nat → Nat → Prop} {H H' : List Hd} (hS : ∀ b o, S b o → S' b o) (h : GR S w H) : GR S' w H' := fun g l e => ⟨rptr_any hS (h g l e).1, fun o ho => ⟨hS _ _ ((h g l e).2 o ho).1, ((h g l e).2 o ho).2⟩⟩
/-- what a call does -/
def CallOk (P : Program) (f : FuncId) (args : List AV) (r : AV) : Prop :=
  ∀ (X : Nat → Nat → Prop) (w : World) (vs : Array Value), (∀ b o, X b o → b < w.heap.size) → GR (Stab X [] w) w [] → RepL (Stab X [] w) w [] vs args →
    Calls P f vs w fun e w' => ∃ v, e = .returned v ∧ Rep (Stab X [] w') w' [] v r ∧ Fr (fun _ => False) w w'

/-- what a call does that runs in its caller's memory -/
def CallOkM (P : Program) (f : FuncId) (args : List AV) (m : List MObj) (r : AV) (m' : List MObj) : Prop :=
  (∃ fn, P.funcs[f]? = some fn ∧ fn.body.isSome = true ∧ (fn.name == "runtime.NumGoroutine") = false) ∧
  ∀ (X : Nat → Nat → Prop) (o w : World) (H : List Hd) (vs : Array Value), MemAt X w m H → Fr (fun _ => False) o w → (∀ (i : Nat) (h : Hd) (b : Nat), H[i]? = some h → h.blk = some b → o.heap.size ≤ b) →
    (∀ b q, X b q → b < o.heap.size) → GR (Stab X H w) w H → RepL (Stab X H w) w H vs args →
    Calls P f vs w fun e w' => ∃ v H', e = .returned v ∧ Rep (Stab X H' w') w' H' v r ∧ MemAt X w' m' H' ∧ Fr (fun _ => False) o w' ∧ (∀ (i : Nat) (h : Hd) (b : Nat), H'[i]? = some h → h.blk = some b → o.heap.size ≤ b) ∧ Goes X w H w' H'
def CallsOk (P : Program) (call : CallF) : Prop :=
  (∀ f vs r, call.f f vs = some r → CallOk P f vs r) ∧ ∀ f vs m r m', call.m f vs m = some (r, m') → CallOkM P f vs m r m'
theorem e_callM {f : FuncId} {args : Array Value} {vs : List AV} {r : AV} {m' : List MObj} (h : SR X w0 N st a w H) (hd : ∀ k, d = some k → k < N) (hvs : RepL (Stab X H w) w H args vs) (hc : CallOkM P f vs st.m r m') :
    Calls P f args w fun e w' => ∃ v H', e = .returned v ∧ SR X w0 N ⟨putf d r st.fr, m'⟩ (a.put d v) w' H' :=
  (hc.2 X w0.o w H args h.mem h.grw h.new h.old h.frm.g hvs).mono fun _ _ ⟨v, H', he, hr, hm, hf, hn, hg⟩ => ⟨v, H', he, h.go hd hg hm hf hn hr⟩

theorem rep_flat {S S' : Nat → Nat → Prop} {v : Value} {r : AV} (h : Rep S w [] v r) (hf : r.flat = true) (H' : List Hd) : Rep S' w' H' v r := by
  have cell : ∀ {v y}, Rep S w [] v y → y.flatCell = true → Rep S' w' H' v y := by
    intro v y h hy
    cases h <;> simp [AV.flatCell] at hy
    exact .val _ _
  by_cases ha : ∃ l, r = .agg l
  · obtain ⟨l, rfl⟩ := ha
    obtain ⟨cs, rfl, hn, hc⟩ := rep_agg h
    exact .agg hn fun i y hy => cell (hc i y hy) (List.all_eq_true.1 hf y (List.mem_of_getElem? hy))
  · refine cell h ?_
    cases r <;> first | exact hf | exact absurd ⟨_, rfl⟩ ha
theorem rep_flatT {S S' : Nat → Nat → Prop} {v : Value} {r : AV} (h : Rep S w [] v r) (hf : r.flatT = true) (H' : List Hd) : Rep S' w' H' v r := by
  by_cases ha : ∃ l, r = .tuple l
  · obtain ⟨l, rfl⟩ := ha
    obtain ⟨cs, rfl, hn, hc⟩ := rep_tuple h
    exact .tuple hn fun i y hy => rep_flat (hc i y hy) (List.all_eq_true.1 hf y (List.mem_of_getElem? hy)) H'
  · refine rep_flat h ?_ H'
    cases r <;> first | exact hf | exact absurd ⟨_, rfl⟩ ha
theorem rep_noH {S : Nat → Nat → Prop} {v : Value} {r : AV} (h : Rep S w [] v r) (H' : List Hd) : Rep S w H' v r := h.mono (fun _ _ q => ⟨q, rfl⟩) (HLe.nil _)

theorem frzL_get : ∀ {l l' : List AV}, frzL m l = some l' → l'.length = l.length ∧ ∀ (i : Nat) (y' : AV), l'[i]? = some y' → ∃ y, l[i]? = some y ∧ frz m y = some y'
  | [], l', h => by simp [frzL] at h; subst h; simp
  | x :: r, l', h => by
    simp only [frzL] at h
    split at h
    · rename_i a b ha hb
      injection h with h; subst h
      obtain ⟨h1, h2⟩ := frzL_get hb
      refine ⟨by simp [h1], fun i y' hy => ?_⟩
      cases i with
      | zero => simp at hy; subst hy; exact ⟨x, rfl, ha⟩
      | succ i => simp at hy ⊢; exact h2 i y' hy
    · cases h

theorem e_call {f : FuncId} {args : Array Operand} {vs : List AV} {r : AV} (h : SR X w0 N st a w H) (hd : ∀ k, d = some k → k < N) (hvs : frzL st.m (args.toList.map (evA st.fr)) = some vs) (hc : CallOk P f vs r) :
    Calls P f (args.map a.eval) w fun e w' => ∃ v H', e = .returned v ∧ SR X w0 N ⟨putf d r st.fr, if r.flatT then st.m else (args.toList.map (evA st.fr)).foldl shutV st.m⟩ (a.put d v) w' H' := by
  obtain ⟨H1, m1, hsh, hshut⟩ := shutVs_at (args.toList.map (evA st.fr)) st.m H h.mem
  have h1 : SR X w0 N ⟨st.fr, (args.toList.map (evA st.fr)).foldl shutV st.m⟩ a w H1 := h.shuts m1 hsh
  have hX' : ∀ b o, (X b o ∨ Mut H1 b o) → b < w.heap.size := by
    rintro b o (hx | ⟨i, k, hk, hmut⟩)
    · have := h.old b o hx; have := h.size; omega
    · exact m1.lt i k b hk (Hd.mut_blk hmut)
  have hstab : ∀ b o, Stab X H1 w b o ↔ Stab (fun b o => X b o ∨ Mut H1 b o) [] w b o := by
    intro b o
    unfold Stab
    have : ¬ Mut [] b o := by rintro ⟨i, k, hk, _⟩; simp at hk
    simp only [this, not_false_eq_true, and_true, not_or]
  obtain ⟨hl, hget⟩ := frzL_get hvs
  have hargs : RepL (Stab (fun b o => X b o ∨ Mut H1 b o) [] w) w [] (args.map a.eval) vs := by
    refine ⟨by simp [hl], fun i y hy => ?_⟩
    obtain ⟨y0, hy0, hf⟩ := hget i y hy
    simp only [List.getElem?_map, Option.map_eq_some_iff, Array.getElem?_toList] at hy0
    obtain ⟨x, hx, rfl⟩ := hy0
    have e : (args.map a.eval).getD i undef = a.eval x := by simp [Array.getD_eq_getD_getElem?, hx]
    rw [e]
    refine (frz_rep h.mem (rep_ev h.frm x) hf (fun b o q => (hstab b o).1 (hsh.goes.stab b o q).1) fun zc hzc id ver used off len e b cap s cver cused wr hH hc hb o ho => ?_).1
    exact (hstab b o).1 (shut_stab h.mem hsh h.xb (hshut _ (List.mem_map.2 ⟨x, List.mem_of_getElem? (by rw [Array.getElem?_toList]; exact hx), rfl⟩) zc hzc _ _ _ _ _ e) hH hc hb ho)
  refine (hc _ w _ hX' (h1.frm.g.to fun b o q => (hstab b o).1 q) hargs).mono fun e w' ⟨v, he, hrv, hfr⟩ => ?_
  have hext : Ext w w' := fun k hk => hfr.block k hk fun q => q
  by_cases hflat : r.flatT = true
  · refine ⟨v, H, he, ?_⟩
    rw [if_pos hflat]
    exact h.go hd (goes_ext hext hfr.size) (h.mem.ext hext hfr.size) (h.grw.trans hfr fun _ q => q.elim) h.new (rep_flatT hrv hflat H)
  · refine ⟨v, H1, he, ?_⟩
    rw [if_neg hflat]
    refine h1.go hd (goes_ext hext hfr.size) (m1.ext hext hfr.size) (h.grw.trans hfr fun _ q => q.elim) h1.new (rep_noH (hrv.mono (fun b o q => ⟨?_, rfl⟩) (HLe.refl _)) H1)
    obtain ⟨q1, q2, q3⟩ := q
    exact ⟨q1, fun hx => q2 (.inl hx), fun hm => q2 (.inr hm)⟩
end
end Go.Proofs.YtgjdmlhgapmflaaDoor
