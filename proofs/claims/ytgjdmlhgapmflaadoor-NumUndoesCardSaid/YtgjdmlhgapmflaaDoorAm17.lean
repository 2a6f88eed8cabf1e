/- The abstract machine: regions that draw their order, and code without loops of its own. -/
import Derived.Test.YtgjdmlhgapmflaaDoorAm16
namespace Go.Proofs.YtgjdmlhgapmflaaDoor
set_option linter.unusedVariables false
set_option linter.unusedSimpArgs false

section
variable {P : Program} {X : Nat → Nat → Prop} {w0 : Base} {w w' : World} {N : Nat} {st : St} {a : Act} {m : List MObj} {H : List Hd} {d : Option Nat}

theorem quietOp_pure {call : CallF} {fr : List (Nat × AV)} {o : AOp} (h : o.isCall = false) : quietOp call m fr o = pureOp m fr o := by
  cases o <;> first | rfl | simp [AOp.isCall] at h

theorem compOps_split {hint : Hints} {ops : Array Oper} : ∀ (l : List Oper) (al : List AOper) (n : Nat), compOps P hint N ops l = some al → compOps P hint N ops (l.take n) = some (al.take n) ∧ compOps P hint N ops (l.drop n) = some (al.drop n)
  | [], al, n, h => by simp [compOps] at h; subst h; simp [compOps]
  | o :: r, al, n, h => by
    simp only [compOps] at h
    split at h
    · rename_i ao al' ho hl
      injection h with h; subst h
      cases n with
      | zero => simp [compOps, ho, hl]
      | succ n =>
        obtain ⟨h1, h2⟩ := compOps_split r al' n hl
        simp [compOps, ho, h1, h2]
    · cases h

theorem look_drop (ds : List Nat) (s : Nat) : ∀ fr : List (Nat × AV), look (dropF ds fr) s = if ds.contains s then .any else look fr s
  | [] => by simp [dropF, look]
  | (k, v) :: r => by
    simp only [dropF]
    split
    · rename_i hk
      rw [look_drop ds s r]
      simp only [look]
      split
      · rfl
      · rename_i hs
        split
        · rename_i hks; subst hks; exact absurd hk hs
        · rfl
    · rename_i hk
      simp only [look]
      split
      · rename_i hks; subst hks; rw [if_neg hk]
      · exact look_drop ds s r
theorem SR.drop (h : SR X w0 N st a w H) (ds : List Nat) : SR X w0 N ⟨dropF ds st.fr, st.m⟩ a w H :=
  ⟨h.dfr, h.siz, ⟨fun s => by
    rw [look_drop]
    split
    · exact .any _ _
    · exact h.frm.t s, h.frm.g⟩, h.mem, h.grw, h.new, h.old, h.since⟩

theorem look_keep (fr : List (Nat × AV)) (s : Nat) : ∀ ks : List Nat, look (keepF fr ks) s = if ks.contains s then look fr s else .any
  | [] => by simp [keepF, look]
  | k :: r => by
    simp only [keepF, look, List.contains_cons]
    by_cases hk : k = s
    · subst hk; simp
    · rw [if_neg hk, look_keep fr s r]
      have : (s == k) = false := by simp; exact fun e => hk e.symm
      rw [this, Bool.false_or]

/-- values that name only the first objects -/
theorem maxRef_le {n k : Nat} : ∀ {l : List AV}, maxRef n l ≤ k → ∀ y ∈ l, y.refCell n ≤ k
  | [], _, y, hy => by simp at hy
  | v :: r, h, y, hy => by
    simp only [maxRef] at h
    rcases List.mem_cons.1 hy with rfl | hy
    · omega
    · exact maxRef_le (by omega) y hy
theorem maxRefB_le {n k : Nat} : ∀ {l : List AV}, maxRefB n l ≤ k → ∀ y ∈ l, y.refB n ≤ k
  | [], _, y, hy => by cases hy
  | v :: r, h, y, hy => by
    have h : max (v.refB n) (maxRefB n r) ≤ k := h
    rcases List.mem_cons.1 hy with rfl | hy
    · omega
    · exact maxRefB_le (by omega) y hy
theorem rep_takeB {S : Nat → Nat → Prop} {v : Value} {y : AV} {k : Nat} (h : Rep S w H v y) (hk : y.refB H.length ≤ k) : Rep S w (H.take k) v y := by
  have get : ∀ {i : Nat} {x : Hd}, H[i]? = some x → i + 1 ≤ k → (H.take k)[i]? = some x := fun hi hle => by rw [List.getElem?_take, if_pos (by omega)]; exact hi
  have all : H.length ≤ k → H.take k = H := fun hle => List.take_of_length_le hle
  cases h with
  | any => exact .any _ _
  | val => exact .val _ _
  | agg hn hc => rw [all (by simpa [AV.refB] using hk)]; exact .agg hn hc
  | tuple hn hc => rw [all (by simpa [AV.refB] using hk)]; exact .tuple hn hc
  | slice b off sz u hc hz hA hsz hcell hrep => exact .slice b off sz u hc hz hA hsz hcell hrep
  | rptr b o u hg hcell hrep => exact .rptr b o u hg hcell hrep
  | row id ver used off len hs hH hle hv => exact .row id ver used off len hs (get hH (by simpa [AV.refB] using hk)) hle hv
  | ptr id off hH => exact .ptr id off (get hH (by simpa [AV.refB] using hk))
  | elt id ver used i fo hs hH hle hv => exact .elt id ver used i fo hs (get hH (by simpa [AV.refB] using hk)) hle hv
  | fn hn hm h1 h2 => rw [all (by simpa [AV.refB] using hk)]; exact .fn hn hm h1 h2
  | mp id hH => exact .mp id (get hH (by simpa [AV.refB] using hk))
  | nif => exact .nif _ _ _
theorem rep_takeCell {S : Nat → Nat → Prop} {v : Value} {y : AV} {k : Nat} (h : Rep S w H v y) (hk : y.refCell H.length ≤ k) : Rep S w (H.take k) v y := by
  cases y with
  | fn f a b =>
    have hk : max (maxRefB H.length a) (maxRefB H.length b) ≤ k := hk
    cases h with
    | fn hn hm h1 h2 => exact .fn hn hm (fun i y hy => rep_takeB (h1 i y hy) (maxRefB_le (by omega) y (List.mem_of_getElem? hy))) fun i y hy => rep_takeB (h2 i y hy) (maxRefB_le (by omega) y (List.mem_of_getElem? hy))
  | _ => exact rep_takeB h hk
theorem rep_take1 {S : Nat → Nat → Prop} {v : Value} {y : AV} {k : Nat} (h : Rep S w H v y) (hk : maxRef H.length y.cells ≤ k) : Rep S w (H.take k) v y := by
  by_cases ha : ∃ l, y = .agg l
  · obtain ⟨l, rfl⟩ := ha
    obtain ⟨cs, rfl, hn, hc⟩ := rep_agg h
    exact .agg hn fun i z hz => rep_takeCell (hc i z hz) (maxRef_le hk z (List.mem_of_getElem? hz))
  · have e : y.cells = [y] := by cases y <;> first | rfl | exact absurd ⟨_, rfl⟩ ha
    rw [e] at hk
    exact rep_takeCell h (maxRef_le hk y (by simp))
theorem rep_take {S : Nat → Nat → Prop} {v : Value} {y : AV} {k : Nat} (h : Rep S w H v y) (hk : y.ref H.length ≤ k) : Rep S w (H.take k) v y := by
  by_cases ha : ∃ l, y = .tuple l
  · obtain ⟨l, rfl⟩ := ha
    obtain ⟨cs, rfl, hn, hc⟩ := rep_tuple h
    have hle : ∀ z ∈ l, maxRef H.length z.cells ≤ k := by
      have gen : ∀ (l : List AV), maxRef H.length (l.flatMap AV.cells) ≤ k → ∀ z ∈ l, maxRef H.length z.cells ≤ k := by
        have app : ∀ (x y : List AV), maxRef H.length (x ++ y) = max (maxRef H.length x) (maxRef H.length y) := by
          intro x y
          induction x with
          | nil => simp [maxRef]
          | cons u r ih => simp only [List.cons_append, maxRef, ih]; omega
        intro l
        induction l with
        | nil => intro _ z hz; simp at hz
        | cons u r ih =>
          intro hl z hz
          rw [List.flatMap_cons, app] at hl
          rcases List.mem_cons.1 hz with rfl | hz
          · omega
          · exact ih (by omega) z hz
      exact gen l hk
    exact .tuple hn fun i z hz => rep_take1 (hc i z hz) (hle z (List.mem_of_getElem? hz))
  · refine rep_take1 h ?_
    cases y <;> first | exact absurd ⟨_, rfl⟩ ha | (simp only [AV.cells, maxRef]; simp only [AV.ref] at hk; omega)

theorem look_ref {n k s : Nat} : ∀ {fr : List (Nat × AV)}, frRef n fr ≤ k → (look fr s).ref n ≤ k
  | [], _ => by simp [look, AV.ref, AV.refCell, AV.refB]
  | (i, v) :: r, h => by
    simp only [frRef] at h
    simp only [look]
    split
    · omega
    · exact look_ref (by omega)
theorem mRef_le {n k : Nat} : ∀ {m : List MObj}, mRef n m ≤ k → ∀ o ∈ m, o.ref n ≤ k
  | [], _, o, ho => by simp at ho
  | x :: r, h, o, ho => by
    simp only [mRef] at h
    rcases List.mem_cons.1 ho with rfl | ho
    · omega
    · exact mRef_le (by omega) o ho

theorem SR.norm (h : SR X w0 N st a w H) {bs : Nat} (hb0 : w0.H.length ≤ bs) (ks : List Nat) : ∃ H', SR X w0 N (normSt bs ks st) a w H' := by
  have h1 : SR X w0 N ⟨keepF st.fr ks, st.m⟩ a w H := ⟨h.dfr, h.siz, ⟨fun s => by
    rw [look_keep]
    split
    · exact h.frm.t s
    · exact .any _ _, h.frm.g⟩, h.mem, h.grw, h.new, h.old, h.since⟩
  unfold normSt
  simp only [gc]
  generalize hk : max bs (max (frRef st.m.length (keepF st.fr ks)) (mRef st.m.length st.m)) = k
  have hlen := h.mem.len
  have hfr : frRef st.m.length (keepF st.fr ks) ≤ k := by omega
  have hsub : ∀ b o, Mut (H.take k) b o → Mut H b o := fun b o ⟨i, x, hi, hmut⟩ => by
    rw [List.getElem?_take] at hi
    split at hi
    · exact ⟨i, x, hi, hmut⟩
    · cases hi
  have hst : ∀ b o, Stab X H w b o → Stab X (H.take k) w b o := fun b o ⟨q1, q2, q3⟩ => ⟨q1, q2, fun hm => q3 (hsub b o hm)⟩
  have get : ∀ {i : Nat} {x : Hd}, (H.take k)[i]? = some x → H[i]? = some x := fun hi => by
    rw [List.getElem?_take] at hi
    split at hi
    · exact hi
    · cases hi
  have getm : ∀ {i : Nat} {x : MObj}, (st.m.take k)[i]? = some x → st.m[i]? = some x := fun hi => by
    rw [List.getElem?_take] at hi
    split at hi
    · exact hi
    · cases hi
  have mono : ∀ {v y} {H0 : List Hd}, Rep (Stab X H w) w H0 v y → Rep (Stab X (H.take k) w) w H0 v y := fun hr => hr.mono (fun b o q => ⟨hst b o q, rfl⟩) (HLe.refl _)
  refine ⟨H.take k, h.dfr, h.siz, ⟨fun s => rep_take (mono (h1.frm.t s)) (by rw [hlen]; exact look_ref hfr), h1.frm.g.to hst⟩, ⟨by simp [hlen], fun i o x ho hx => ?_, fun i x b hx hb => h.mem.lt i x b (get hx) hb, fun i j x y b hx hy hb1 hb2 => h.mem.apart i j x y b (get hx) (get hy) hb1 hb2⟩, h.grw, fun i x b hx hb => h.new i x b (get hx) hb, h.old, ⟨fun i x hx => by
    obtain ⟨x', g1, g2⟩ := h.since.le i x hx
    refine ⟨x', ?_, g2⟩
    rw [List.getElem?_take, if_pos]
    · exact g1
    · have := (List.getElem?_eq_some_iff.1 hx).1; omega, fun b o q => ⟨hst b o (h.since.stab b o q).1, (h.since.stab b o q).2⟩⟩⟩
  have hO := h.mem.obj i o x (getm ho) (get hx)
  have href : o.ref st.m.length ≤ k := mRef_le (by omega) o (List.mem_of_getElem? (getm ho))
  cases o <;> cases x <;> simp only [ObjAt] at hO ⊢
  · obtain ⟨e, cs, t, q1, q2, q3⟩ := hO
    refine ⟨e, cs, t, q1, q2, fun j y hy => rep_takeCell (mono (q3 j y hy)) ?_⟩
    rw [hlen]
    exact maxRef_le (l := _) href y (List.mem_of_getElem? hy)
  · obtain ⟨e1, e2, e3, e4, e5, q1, q2⟩ := hO
    refine ⟨e1, e2, e3, e4, e5, fun hc => ?_, q2⟩
    obtain ⟨cur, t, fz, g1, g2, g3, g4, g5⟩ := q1 hc
    exact ⟨cur, t, fz, g1, g2, g3, g4, fun i x j y hx hy => mono (g5 i x j y hx hy)⟩
  · obtain ⟨ens, cl, q1, q2, q3⟩ := hO
    refine ⟨ens, cl, q1, q2, fun i kk y hy => ?_⟩
    obtain ⟨e, g1, g2, g3, g4, g5⟩ := q3 i kk y hy
    exact ⟨e, g1, g2, g3, g4, mono g5⟩
end
end Go.Proofs.YtgjdmlhgapmflaaDoor
