/- Regions that draw their order: operations that only add to the memory, in any order; then a tail in one order. -/
import Derived.Test.YtgjdmlhgapmflaaDoorAm17
namespace Go.Proofs.YtgjdmlhgapmflaaDoor
set_option linter.unusedVariables false
set_option linter.unusedSimpArgs false
theorem shutV_noRow {v : AV} (h : v.noRow = true) (m : List MObj) : shutV m v = m := by
  unfold shutV
  unfold AV.noRow at h
  generalize v.cells = l at h
  induction l with
  | nil => rfl
  | cons x r ih =>
    simp only [List.all_cons, Bool.and_eq_true] at h
    rw [List.foldl_cons, show shutCell m x = m from by cases x <;> first | rfl | (exact absurd h.1 (by simp))]
    exact ih h.2
theorem extOp_step {call : CallF} {m : List MObj} {fr : List (Nat × AV)} {o : AOp} {v : AV} (h : extOp call m fr o = some v) (d : Option Nat) : stepOp call ⟨fr, m⟩ d o = some ⟨putf d v fr, m⟩ := by
  unfold extOp at h
  split at h
  · rename_i f args
    split at h
    · rename_i hn
      have hs : (args.map (evA fr)).foldl shutV m = m := by
        generalize args.map (evA fr) = l at hn
        clear h
        induction l with
        | nil => rfl
        | cons x r ih =>
          simp only [List.all_cons, Bool.and_eq_true] at hn
          rw [List.foldl_cons, shutV_noRow hn.1]; exact ih hn.2
      simp only [stepOp]
      cases hf : frzL m (args.map (evA fr)) with
      | none => rw [hf] at h; cases h
      | some vs =>
        rw [hf] at h
        have h : call.f f vs = some v := h
        simp only [h, hs]
        split <;> rfl
    · cases h
  · rename_i sz zero ag cnt parts
    split at h
    · rename_i hn
      have hs : parts.foldl (fun m p => shutV m (evA fr p.2)) m = m := by
        clear h
        induction parts with
        | nil => rfl
        | cons x r ih =>
          simp only [List.all_cons, Bool.and_eq_true] at hn
          rw [List.foldl_cons, shutV_noRow hn.1]; exact ih hn.2
      simp only [stepOp]
      cases hf : bsEls fr m sz (List.replicate cnt (zeroEl zero ag)) parts with
      | none => rw [hf] at h; cases h
      | some l =>
        rw [hf] at h
        injection h with h; subst h
        simp only [hs]; rfl
    · cases h
  · rename_i o
    show stepOp2 call ⟨fr, m⟩ d o = _
    cases o <;> first | (simp only [stepOp2]; rw [h]; rfl) | cases h
  · split at h
    · cases h
    · rename_i he
      rw [step_pure (by simpa using he), h]; rfl
theorem look_putf (d : Option Nat) (v : AV) (fr : List (Nat × AV)) (s : Nat) : look (putf d v fr) s = if d = some s then v else look fr s := by
  cases d with
  | none => simp [putf]
  | some d => simp only [putf, look_setf, Option.some.injEq]
theorem keepF_congr {fr fr' : List (Nat × AV)} : ∀ {ks : List Nat}, (∀ s ∈ ks, look fr s = look fr' s) → keepF fr ks = keepF fr' ks
  | [], _ => rfl
  | s :: r, h => by simp only [keepF]; rw [h s (by simp), keepF_congr fun t ht => h t (by simp [ht])]
/-- the slot is written by one of the listed operations -/
def Wr (al : List AOper) (p : Nat → Prop) (s : Nat) : Prop := ∃ j o, al[j]? = some o ∧ p j ∧ o.dst = some s
open Classical in
theorem runX_spec {call : CallF} {m : List MObj} : ∀ (al : List AOper) (fr fr' : List (Nat × AV)), runX call m al fr = some fr' →
    (∀ (i j : Nat) (o o' : AOper) (s : Nat), al[i]? = some o → al[j]? = some o' → o.dst = some s → o'.dst = some s → i = j) →
    (∀ s, ¬ Wr al (fun _ => True) s → look fr' s = look fr s) ∧
    ∀ i o, al[i]? = some o → ∃ F, (∀ s, look F s = if Wr al (fun j => j < i) s then look fr' s else look fr s) ∧ ∃ v, oneX call m (keepF F o.uses) o = some v ∧ ∀ s, o.dst = some s → look fr' s = v
  | [], fr, fr', h, _ => by
    simp only [runX] at h; injection h with h; subst h
    exact ⟨fun _ _ => rfl, fun i o ho => by simp at ho⟩
  | x :: r, fr, fr', h, hd => by
    simp only [runX] at h
    split at h
    · rename_i v hv
      obtain ⟨h1, h2⟩ := runX_spec r _ fr' h fun i j o o' s hi hj ho ho' => by
        have := hd (i + 1) (j + 1) o o' s (by simpa using hi) (by simpa using hj) ho ho'; omega
      have hx : ∀ s, x.dst = some s → look fr' s = v := fun s hs => by
        rw [h1 s, look_putf, if_pos hs]
        rintro ⟨j, o, hj, -, ho⟩
        have := hd 0 (j + 1) x o s rfl (by simpa using hj) hs ho
        omega
      refine ⟨fun s hs => ?_, fun i o ho => ?_⟩
      · rw [h1 s, look_putf, if_neg]
        · exact fun hx => hs ⟨0, x, rfl, trivial, hx⟩
        · rintro ⟨j, o, hj, -, ho⟩; exact hs ⟨j + 1, o, by simpa using hj, trivial, ho⟩
      · cases i with
        | zero =>
          simp at ho; subst ho
          refine ⟨fr, fun s => ?_, v, hv, hx⟩
          rw [if_neg]; rintro ⟨j, o, -, hj, -⟩; omega
        | succ i =>
          obtain ⟨F, hF, v', hv', hs'⟩ := h2 i o (by simpa using ho)
          refine ⟨F, fun s => ?_, v', hv', hs'⟩
          rw [hF s]
          by_cases hw : Wr r (fun j => j < i) s
          · rw [if_pos hw, if_pos]
            obtain ⟨j, o, hj, hlt, ho⟩ := hw
            exact ⟨j + 1, o, by simpa using hj, by omega, ho⟩
          · rw [if_neg hw, look_putf]
            by_cases hxs : x.dst = some s
            · rw [if_pos hxs, if_pos ⟨0, x, rfl, by omega, hxs⟩, hx s hxs]
            · rw [if_neg hxs, if_neg]
              rintro ⟨j, o, hj, hlt, ho⟩
              cases j with
              | zero => simp at hj; subst hj; exact hxs ho
              | succ j => exact hw ⟨j, o, by simpa using hj, by omega, ho⟩
    · cases h
section
variable {P : Program} {ops : Array Oper} {md : Region.Mode}
/-- what an operation comes to: its slot is written, nothing else of the frame -/
theorem wp_put_form {o : Oper} {a : Act} {w : World} {K : Act → World → Prop} {Q : Exit → Act → World → Prop} (h : o.wp P a w K Q) :
    o.wp P a w (fun a' w' => K a' w' ∧ ∃ u, a'.tmps = (a.put o.dst u).tmps) Q := by
  unfold Oper.wp at h ⊢
  generalize (execOp a.eval o).run P w = r at h ⊢
  cases r with
  | ok n w' =>
    cases n <;> simp only [Oper.upon] at h ⊢
    case value u => exact ⟨h, u, rfl⟩
    case skip => exact ⟨h, _, rfl⟩
    case defer d => exact ⟨h, undef, by cases o.dst <;> rfl⟩
    case enter f args =>
      refine h.mono fun e w'' he => ?_
      cases e with
      | returned u => exact ⟨he, u, rfl⟩
      | panicked c => exact he
      | outgrown => exact he
    case row r args => exact h.mono fun u w'' he => ⟨he, u, rfl⟩
  | halt x w' => cases x <;> simp only [Oper.upon] at h ⊢; exact h
theorem put_other {a : Act} {d : Option Tmp} {u : Value} {s : Nat} (h : d ≠ some s) : (a.put d u).tmps.getD s undef = a.tmps.getD s undef := by
  cases d with
  | none => rfl
  | some d =>
    have hd : d ≠ s := fun e => h (by rw [e])
    simp [Act.put, Array.getElem?_setIfInBounds_ne hd]
variable {X : Nat → Nat → Prop} {w0 : Base} {w : World} {N : Nat} {a : Act} {H : List Hd} {m : List MObj}
theorem SR.keep {F : List (Nat × AV)} (h : SR X w0 N ⟨F, m⟩ a w H) (ks : List Nat) : SR X w0 N ⟨keepF F ks, m⟩ a w H :=
  ⟨h.dfr, h.siz, ⟨fun s => by
    show Rep _ _ _ _ (look (keepF F ks) s)
    rw [look_keep]; split
    · exact h.frm.t s
    · exact .any _ _, h.frm.g⟩, h.mem, h.grw, h.new, h.old, h.since⟩
theorem SR.looks {F F' : List (Nat × AV)} (h : SR X w0 N ⟨F, m⟩ a w H) (he : ∀ s, look F' s = look F s) : SR X w0 N ⟨F', m⟩ a w H :=
  ⟨h.dfr, h.siz, ⟨fun s => by rw [show look (St.mk F' m).fr s = look F s from he s]; exact h.frm.t s, h.frm.g⟩, h.mem, h.grw, h.new, h.old, h.since⟩
/-- one operation, with the slots that it reads alone; the others stay -/
theorem oneX_sound {call : CallF} (hcall : CallsOk P call) {hint : Hints} {Q : Exit → Act → World → Prop} {i : Nat} {o : Oper} {ao : AOper} (hi : ops[i]? = some o) (hco : compOper P hint N ops o = some ao)
    {F : List (Nat × AV)} {v : AV} (hv : oneX call m (keepF F ao.uses) ao = some v) (h : SR X w0 N ⟨F, m⟩ a w H) {K : Act → World → Prop}
    (hK : ∀ a' w' H', SR X w0 N ⟨putf ao.dst v F, m⟩ a' w' H' → K a' w') : wpOp P ops Q i K a w := by
  obtain ⟨h1, h2, ⟨b, h3⟩, h4⟩ := compOper_some hco
  have hs : SR X ⟨w0.o, w, H⟩ N ⟨keepF F ao.uses, m⟩ a w H := by
    have := h.keep ao.uses
    exact ⟨this.dfr, this.siz, this.frm, this.mem, this.grw, this.new, this.old, Goes.refl⟩
  unfold wpOp
  simp only [hi]
  unfold oneX at hv
  split at hv
  · rename_i hw
    rw [wanted_sound h4 hs.frm hw, if_pos rfl]
    refine .inl ?_
    have hst := extOp_step hv ao.dst
    rw [h2] at hst
    have := wp_put_form (step_any (Q := Q) hcall h3 h1 hs hst (K := fun a' w' => ∃ H', SR X ⟨w0.o, w, H⟩ N ⟨putf o.dst v (keepF F ao.uses), m⟩ a' w' H') fun a' w' H' h => ⟨H', h⟩)
    refine Oper.wp_mono (fun a' w' h' => ?_) this
    obtain ⟨⟨H', h'⟩, u, hu⟩ := h'
    refine hK a' w' H' ⟨h'.dfr, h'.siz, ⟨fun s => ?_, h'.frm.g⟩, h'.mem, h'.grw, h'.new, h'.old, h.since.trans h'.since⟩
    show Rep _ _ _ _ (look (putf ao.dst v F) s)
    rw [look_putf, h2]
    by_cases hd : o.dst = some s
    · rw [if_pos hd]
      have := h'.frm.t s
      rw [show look (St.mk (putf o.dst v (keepF F ao.uses)) m).fr s = v by show look (putf o.dst v _) s = v; rw [look_putf, if_pos hd]] at this
      exact this
    · rw [if_neg hd, hu, put_other hd]
      exact h'.since.rep (h.frm s)
  · rename_i hw
    injection hv with hv; subst hv
    rw [wanted_sound h4 hs.frm hw, if_neg (by simp)]
    exact hK _ _ H (by rw [h2]; exact h.pure h1 (.val _ _))
  · cases hv
/-- how many of the first n are open -/
def cnt (listed : Array Bool) : Nat → Nat
  | 0 => 0
  | n + 1 => cnt listed n + (if listed.getD n true then 0 else 1)
theorem cnt_same {l l' : Array Bool} : ∀ n, (∀ j, j < n → l.getD j true = l'.getD j true) → cnt l n = cnt l' n
  | 0, _ => rfl
  | n + 1, h => by simp only [cnt]; rw [cnt_same n fun j hj => h j (by omega), h n (by omega)]
theorem getD_set_self (l : Array Bool) (i : Nat) : (l.setIfInBounds i true).getD i true = true := by
  by_cases h : i < l.size <;> simp [h]
theorem cnt_set {l : Array Bool} {i : Nat} (hu : l.getD i true = false) : ∀ n, i < n → cnt (l.setIfInBounds i true) n + 1 = cnt l n
  | 0, h => by omega
  | n + 1, h => by
    simp only [cnt]
    by_cases hin : i = n
    · subst hin
      rw [cnt_same i fun j hj => getD_set_ne true (by omega : i ≠ j), getD_set_self, hu]; simp
    · rw [getD_set_ne true hin]
      have := cnt_set hu n (by omega)
      omega
theorem first_open (l : Array Bool) : ∀ n, (∃ i, i < n ∧ l.getD i true = false ∧ ∀ j, j < i → l.getD j true = true) ∨ ((∀ i, i < n → l.getD i true = true) ∧ cnt l n = 0)
  | 0 => .inr ⟨fun i h => by omega, rfl⟩
  | n + 1 => by
    rcases first_open l n with ⟨i, h1, h2⟩ | ⟨h1, h2⟩
    · exact .inl ⟨i, by omega, h2⟩
    · cases hn : l.getD n true with
      | true => exact .inr ⟨fun i hi => by
          rcases Nat.lt_or_ge i n with h | h
          · exact h1 i h
          · have : i = n := by omega
            subst this; exact hn, by simp [cnt, h2, hn]⟩
      | false => exact .inl ⟨n, by omega, hn, h1⟩
theorem cnt_zero {l : Array Bool} {n : Nat} (h : cnt l n = 0) : ∀ i, i < n → l.getD i true = true := by
  induction n with
  | zero => intro i hi; omega
  | succ n ih =>
    simp only [cnt] at h
    intro i hi
    rcases Nat.lt_or_ge i n with h' | h'
    · exact ih (by omega) i h'
    · have : i = n := by omega
      subst this
      cases hn : l.getD i true with
      | true => rfl
      | false => rw [hn] at h; simp at h
theorem slotB_spec {al : List AOper} {n i j : Nat} {oi oj : AOper} {t : Nat} (h : slotB md ops al n = true) (hi : i < n) (hj : j < n) (hij : i ≠ j) (h1 : al[i]? = some oi) (h2 : al[j]? = some oj) (ht : oj.dst = some t) :
    oi.dst ≠ some t ∧ (t ∈ oi.uses → (j < i ∧ Region.waitsFor md ops i j = true) ∨ (i < j ∧ Region.waitsFor md ops j i = true)) := by
  have := List.all_eq_true.1 (List.all_eq_true.1 h i (List.mem_range.2 hi)) j (List.mem_range.2 hj)
  simp only [h1, h2, ht, Bool.or_eq_true, beq_iff_eq, Bool.and_eq_true, bne_iff_ne, ne_eq, decide_eq_true_eq, Bool.not_eq_true', List.contains_eq_mem, decide_eq_false_iff_not] at this
  rcases this with h | ⟨h1, h2⟩
  · exact absurd h hij
  · refine ⟨h1, fun hm => ?_⟩
    rcases h2 with (h | h) | h
    · exact absurd hm h
    · exact .inl h
    · exact .inr h
open Classical in
/-- the head of a region, in any order -/
theorem xhead {call : CallF} (hcall : CallsOk P call) {hint : Hints} {al : List AOper} {fr fr' : List (Nat × AV)} {n g : Nat} {Q : Exit → Act → World → Prop}
    (hc : ∀ i, i < n → ∃ o ao, ops[i]? = some o ∧ al[i]? = some ao ∧ compOper P hint N ops o = some ao) (hlen : al.length = n) (hr : runX call m al fr = some fr')
    (hn : n ≤ ops.size) (hB : slotB md ops al n = true) (hk : backB md ops n = true) (ht : n = ops.size ∨ (Region.sinkB md ops n = true ∧ Region.chainB md ops n = true))
    (hQ : ∀ (listed : Array Bool) (a : Act) (w : World) (H : List Hd), HeadInv md ops n listed → (∀ i, i < n → listed.getD i true = true) → SR X w0 N ⟨fr', m⟩ a w H → wpAny P md ops Q g listed a w) :
    ∀ (f : Nat) (listed : Array Bool) (a : Act) (w : World) (H : List Hd) (F : List (Nat × AV)), cnt listed n = f → HeadInv md ops n listed →
      (∀ s, look F s = if Wr al (fun j => listed.getD j true = true) s then look fr' s else look fr s) → SR X w0 N ⟨F, m⟩ a w H → wpAny P md ops Q (f + g) listed a w := by
  have hlt : ∀ {j : Nat} {o : AOper}, al[j]? = some o → j < n := fun h => by have := (List.getElem?_eq_some_iff.1 h).1; omega
  obtain ⟨hs1, hs2⟩ := runX_spec al fr fr' hr fun i j o o' s hi hj ho ho' => by
    by_cases hij : i = j
    · exact hij
    · exact absurd ho (slotB_spec hB (hlt hi) (hlt hj) hij hi hj ho').1
  intro f
  induction f with
  | zero =>
    intro listed a w H F hf inv hF hsr
    rw [Nat.zero_add]
    have hall := cnt_zero hf
    refine hQ listed a w H inv hall (hsr.looks fun s => ?_)
    rw [hF s]
    split
    · rfl
    · rename_i hw
      exact hs1 s fun ⟨j, o, hj, _, ho⟩ => hw ⟨j, o, hj, hall j (hlt hj), ho⟩
  | succ f ih =>
    intro listed a w H F hf inv hF hsr
    rw [show f + 1 + g = (f + g) + 1 by omega]
    have hex : ∃ i, i < n ∧ listed.getD i true = false ∧ ∀ j, j < i → listed.getD j true = true := by
      rcases first_open listed n with h | ⟨-, h0⟩
      · exact h
      · omega
    obtain ⟨i0, hi0, hu0, hb0⟩ := hex
    have hr0 : i0 ∈ Region.ready md ops listed := by
      obtain ⟨o, ao, ho, -, -⟩ := hc i0 hi0
      refine mem_ready.2 ⟨hu0, o, ho, fun e he hb => ?_⟩
      have := List.all_eq_true.1 hk i0 (List.mem_range.2 hi0)
      simp only [ho] at this
      have := Array.all_eq_true_iff_forall_mem.1 this e he
      simp only [hb, Bool.not_true, Bool.false_or, decide_eq_true_eq] at this
      have h2 := hb0 _ this
      have hsz : e.on < listed.size := by rw [inv.size]; omega
      simp [hsz] at h2 ⊢; exact h2
    refine ⟨fun h => (by rw [h] at hr0; cases hr0), fun i hi => ?_⟩
    obtain ⟨hun, oi, hoi, hall⟩ := mem_ready.1 hi
    have hin : i < n := by
      rcases ht with ht | ⟨hs, hch⟩
      · rw [ht]; exact (Array.getElem?_eq_some_iff.1 hoi).1
      · refine Nat.lt_of_not_le fun h => ?_
        rcases Nat.lt_or_ge n ops.size with hn' | hn'
        · exact tail_waits hs hch hn' inv _ i0 rfl hi0 hu0 i h hi
        · have := (Array.getElem?_eq_some_iff.1 hoi).1; omega
    obtain ⟨o, ao, ho, hao, hco⟩ := hc i hin
    rw [ho] at hoi; injection hoi with hoi; subst hoi
    obtain ⟨Fi, hFi, v, hv, hvs⟩ := hs2 i ao hao
    have hcong : keepF F ao.uses = keepF Fi ao.uses := keepF_congr fun s hsu => by
      rw [hF s, hFi s]
      have : Wr al (fun j => listed.getD j true = true) s ↔ Wr al (fun j => j < i) s := by
        constructor
        · rintro ⟨j, oj, hj, hl, hd⟩
          have hji : i ≠ j := fun e => by subst e; rw [hun] at hl; cases hl
          rcases (slotB_spec hB hin (hlt hj) hji hao hj hd).2 hsu with h | ⟨h1, h2⟩
          · exact ⟨j, oj, hj, h.1, hd⟩
          · obtain ⟨oj', hoj', e, he, hb, hon⟩ := Region.waitsFor_spec h2
            have hsz : j < listed.size := by rw [inv.size]; have := hlt hj; omega
            have hl' : listed.getD j false = true := by simp [hsz] at hl ⊢; exact hl
            have := inv.closed j oj' hoj' hl' e he hb
            rw [hon, getD_both hun] at this; cases this
        · rintro ⟨j, oj, hj, hl, hd⟩
          rcases (slotB_spec hB hin (hlt hj) (by omega) hao hj hd).2 hsu with ⟨h1, h2⟩ | h
          · obtain ⟨oi', hoi', e, he, hb, hon⟩ := Region.waitsFor_spec h2
            rw [ho] at hoi'; injection hoi' with hoi'; subst hoi'
            have h3 := hall e he hb
            rw [hon] at h3
            have hsz : j < listed.size := by rw [inv.size]; have := hlt hj; omega
            exact ⟨j, oj, hj, by simp [hsz] at h3 ⊢; exact h3, hd⟩
          · omega
      simp only [this]
    rw [← hcong] at hv
    refine oneX_sound hcall ho hco hv hsr fun a' w' H' hsr' => ?_
    refine ih (listed.setIfInBounds i true) a' w' H' _ ?_ (inv.set hi hin) (fun s => ?_) hsr'
    · have := cnt_set hun n hin; omega
    · rw [look_putf]
      by_cases hd : ao.dst = some s
      · rw [if_pos hd, if_pos ⟨i, ao, hao, getD_set_self _ _, hd⟩, hvs s hd]
      · rw [if_neg hd, hF s]
        have : Wr al (fun j => listed.getD j true = true) s ↔ Wr al (fun j => (listed.setIfInBounds i true).getD j true = true) s := by
          constructor
          · rintro ⟨j, oj, hj, hl, hdj⟩
            refine ⟨j, oj, hj, ?_, hdj⟩
            by_cases hij : i = j
            · subst hij; exact getD_set_self _ _
            · show (listed.setIfInBounds i true).getD j true = true
              rw [getD_set_ne true hij]; exact hl
          · rintro ⟨j, oj, hj, hl, hdj⟩
            by_cases hij : i = j
            · subst hij; rw [hao] at hj; injection hj with hj; subst hj; exact absurd hdj hd
            · have hl : (listed.setIfInBounds i true).getD j true = true := hl
              rw [getD_set_ne true hij] at hl; exact ⟨j, oj, hj, hl, hdj⟩
        simp only [this]
theorem compOps_get {hint : Hints} : ∀ {l : List Oper} {al : List AOper}, compOps P hint N ops l = some al → ∀ (i : Nat) (o : Oper), l[i]? = some o → ∃ ao, al[i]? = some ao ∧ compOper P hint N ops o = some ao
  | [], _, _, i, o, h => by simp at h
  | x :: l, al, hc, i, o, h => by
    simp only [compOps] at hc
    split at hc
    · rename_i ao al' ho hl
      injection hc with hc; subst hc
      cases i with
      | zero => simp at h; subst h; exact ⟨ao, rfl, ho⟩
      | succ i => obtain ⟨b, h1, h2⟩ := compOps_get hl i o (by simpa using h); exact ⟨b, by simpa using h1, h2⟩
    · cases hc
theorem fillB_eq {listed : Array Bool} {n : Nat} (inv : HeadInv md ops n listed) (h : ∀ i, i < n → listed.getD i true = true) : listed = fillB ops.size n := by
  refine Array.ext (by simp [fillB, inv.size]) fun i h1 h2 => ?_
  have hsz : i < ops.size := by rw [← inv.size]; exact h1
  rcases Nat.lt_or_ge i n with hi | hi
  · have := h i hi; simp [h1] at this; simp [fillB, this, hi]
  · have := inv.tail i hi hsz; simp [h1] at this; simp [fillB, this]; omega
/-- a region that draws its order -/
theorem wp_xregion {call : CallF} (hcall : CallsOk P call) {hint : Hints} {id : Nat} {al : List AOper} {fr fr' : List (Nat × AV)} {n : Nat} {Q : Exit → Act → World → Prop} (hm : P.follows .mixedOrders = true)
    (hc : compOps P hint N ops ops.toList = some al) (hB : xB .any ops (al.take n) n = true) (hr : runX call m (al.take n) fr = some fr') (h : SR X w0 N ⟨fr, m⟩ a { w with drawn := w.drawn + 1 } H)
    (hQ : ∀ a' w' H', SR X w0 N ⟨fr', m⟩ a' w' H' → wpList P ops Q (ops.toList.drop n) a' w') : (Code.region id ops true).wp P Q a w := by
  simp only [xB, Bool.and_eq_true, Bool.or_eq_true, decide_eq_true_eq] at hB
  obtain ⟨⟨⟨⟨⟨hn, hlen⟩, hsl⟩, hbk⟩, htl⟩, hsq⟩ := hB
  refine wp_region_any hm ?_
  have inv0 : HeadInv .any ops n (Array.replicate ops.size false) :=
    ⟨by simp, fun j oj _ hl => (by rw [getD_replicate_false] at hl; cases hl), fun t _ ht => getD_in (by simpa using ht) (getD_replicate_false _ _)⟩
  have hun : ∀ j, j < n → (Array.replicate ops.size false).getD j true = false := fun j hj => getD_in (by simp; omega) (getD_replicate_false _ _)
  have hcnt : ∀ k, k ≤ n → cnt (Array.replicate ops.size false) k = k := by
    intro k
    induction k with
    | zero => intro _; rfl
    | succ k ih => intro hk; simp only [cnt]; rw [ih (by omega), hun k (by omega)]; simp
  have := xhead (md := .any) (g := ops.size - n) hcall (fun i hi => by
      have hi' : i < ops.toList.length := by simp; omega
      obtain ⟨ao, h1, h2⟩ := compOps_get hc i (ops.toList[i]) (List.getElem?_eq_getElem hi')
      exact ⟨_, ao, by simp [show i < ops.size by omega], by rw [List.getElem?_take, if_pos hi]; exact h1, h2⟩) hlen hr hn hsl hbk htl
    (fun listed a' w' H' inv hall hsr => by
      have := wpAny_of_seq (md := .any) (Q' := Q) (ops.toList.drop n) n listed a' w' (fun j => by simp [List.getElem?_drop]) (by rw [List.length_drop, fillB_eq inv hall]; simpa using hsq) (hQ a' w' H' hsr)
      rwa [List.length_drop, show ops.toList.length - n = ops.size - n by simp] at this)
    n (Array.replicate ops.size false) a { w with drawn := w.drawn + 1 } H fr (hcnt n (Nat.le_refl _)) inv0 (fun s => by
      rw [if_neg]
      rintro ⟨j, o, hj, hl, -⟩
      have hjn : j < n := by have := (List.getElem?_eq_some_iff.1 hj).1; omega
      rw [hun j hjn] at hl; cases hl) h
  rw [show n + (ops.size - n) = ops.size by omega] at this
  exact this
end
end Go.Proofs.YtgjdmlhgapmflaaDoor
