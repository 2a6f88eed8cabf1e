/- Lcs: what was walked before (the distance and the script) stands for the machine. -/
import Derived.Test.YtejajmmacmcijaaLcs4
import Derived.Test.YtejajmmacmcijaaLcQ
import Derived.Test.YtejajmmacmcijaaFt
namespace Go.Proofs.Ytejajmmacmcijaa
set_option linter.unusedVariables false
set_option linter.unusedSimpArgs false

def strV (s : ByteArray) : AV := .val (.string s)
def unstr : List AV → Option (List ByteArray)
  | [] => some []
  | .val (.string s) :: r => (unstr r).map (s :: ·)
  | _ => none
theorem unstr_eq : ∀ {x : List AV} {a : List ByteArray}, unstr x = some a → x = a.map strV
  | [], a, h => by simp [unstr] at h; subst h; rfl
  | y :: r, a, h => by
    unfold unstr at h
    split at h
    · rename_i e; cases e
    · rename_i s r' e
      injection e with e1 e2
      subst e1 e2
      simp only [Option.map_eq_some_iff] at h
      obtain ⟨a', h', rfl⟩ := h
      rw [unstr_eq h']; rfl
    · cases h
theorem unstr_strs : ∀ a : List ByteArray, unstr (a.map strV) = some a
  | [] => rfl
  | s :: r => by simp [strV, unstr]; exact unstr_strs r
def encEd (e : Ed) : AV := .agg [intA e.op, intA e.a, intA e.b, intA e.n]
def eds (l : List Ed) : AV := .slice 4 (l.map encEd)
def sAt (a : List ByteArray) (i : Nat) : ByteArray := a.getD i ⟨#[]⟩
theorem listOf_sAt (a : List ByteArray) : listOf (sAt a) a.length = a := by
  apply List.ext_getElem?
  intro i
  by_cases h : i < a.length
  · rw [listOf_get _ h]; simp [sAt, h]
  · rw [List.getElem?_eq_none (by rw [listOf_length]; omega), List.getElem?_eq_none (by omega)]

theorem rep_strs {X : Nat → Nat → Prop} {w : World} {v : Value} {a : List ByteArray} (h : Rep (Stab X [] w) w [] v (.slice 1 (a.map strV))) :
    ∃ A c, v = .slice A a.length c ∧ Sl w A a.length (fun i => .string (sAt a i)) ∧ a.length ≤ c ∧ (A = none → a.length = 0 ∧ c = 0) := by
  generalize hx : a.map strV = x at h
  have hlen : x.length = a.length := by rw [← hx]; simp
  cases h with
  | slice b off sz u hc hz hA hsz hcell hrep =>
    rename_i A c
    refine ⟨A, c, by rw [hlen], fun hn => ?_, by omega, fun hA0 => ⟨by have := hz hA0; omega, hz hA0⟩⟩
    refine ⟨b, off, hA (by omega), ?_, fun i hi => ?_⟩
    · have h0 : x[0]? = some (strV (sAt a 0)) := by rw [← hx]; simp [sAt, hn]
      exact (hcell 0 _ 0 (strV (sAt a 0)) h0 rfl).2.1
    · have h0 : x[i]? = some (strV (sAt a i)) := by rw [← hx]; simp [sAt, hi]
      have h1 := (hcell i _ 0 (strV (sAt a i)) h0 rfl).1
      have h2 := rep_val (hrep i _ 0 (strV (sAt a i)) h0 rfl)
      rw [h2] at h1
      simpa using h1
/-- what was walked before -/
def XLf (f : FuncId) (vs : List AV) : Option AV :=
  match vs with
  | [.slice 1 x, .slice 1 y] => (match unstr x, unstr y with
    | some a, some b =>
      if f = 26 then (if a.length ≤ 500 ∧ b.length ≤ 500 then some (.val (.int .i64 (dist a b : Nat))) else none)
      else if f = 24 then (if a.length ≤ 400 ∧ b.length ≤ 400 then some (eds (script a b)) else none)
      else none
    | _, _ => none)
  | _ => none
def XS : CallF := ⟨XLf, fun _ _ _ => none⟩

theorem repL_two {S : Nat → Nat → Prop} {w : World} {vs : Array Value} {x y : AV} (h : RepL S w [] vs [x, y]) : ∃ u v, vs = #[u, v] ∧ Rep S w [] u x ∧ Rep S w [] v y := by
  obtain ⟨h1, h2⟩ := h
  match vs, h1 with
  | ⟨[u, v]⟩, _ => exact ⟨u, v, rfl, h2 0 x rfl, h2 1 y rfl⟩
theorem XS_ok : CallsOk Try.prog XS := by
  refine ⟨fun f vs r h X w us hX hr => ?_, fun f vs m r m' h => by cases h⟩
  simp only [XS] at h
  unfold XLf at h
  split at h
  · split at h
    · rename_i a b ha hb
      obtain rfl := unstr_eq ha
      obtain rfl := unstr_eq hb
      split at h
      · rename_i hf; subst hf
        split at h
        · rename_i hle
          injection h with h; subst h
          obtain ⟨u, v, rfl, h1, h2⟩ := repL_two hr
          obtain ⟨A, c, rfl, g1, _⟩ := rep_strs h1
          obtain ⟨B, d, rfl, g2, _⟩ := rep_strs h2
          refine (Distance_any hle.1 hle.2 g1 g2).mono fun e w' ⟨q1, q2⟩ => ⟨_, q1, ?_, q2⟩
          rw [listOf_sAt, listOf_sAt]; exact .val _ _
        · cases h
      · split at h
        · rename_i hf; subst hf
          split at h
          · rename_i hle
            injection h with h; subst h
            obtain ⟨u, v, rfl, h1, h2⟩ := repL_two hr
            obtain ⟨A, c, rfl, g1, _⟩ := rep_strs h1
            obtain ⟨B, d, rfl, g2, _⟩ := rep_strs h2
            refine (Script_any hle.1 hle.2 g1 g2).mono fun e w' hp => ?_
            rw [listOf_sAt, listOf_sAt] at hp
            obtain ⟨C, k, q1, q2, q3⟩ := hp
            refine ⟨_, q1, ?_, q3⟩
            unfold eds
            have hlen : ((script a b).map encEd).length = (script a b).length := by simp
            by_cases h0 : 0 < (script a b).length
            · obtain ⟨g, cur, rfl, hb, hh, hc, hsz, hget⟩ := q2.form h0
              have key : ∀ (i : Nat) (x : AV), ((script a b).map encEd)[i]? = some x → ∃ e, (script a b)[i]? = some e ∧ x = encEd e := fun i x hx => by
                simp only [List.getElem?_map, Option.map_eq_some_iff] at hx
                obtain ⟨e, he, rfl⟩ := hx
                exact ⟨e, he, rfl⟩
              have := Rep.slice (S := Stab X [] w') (w := w') (H := []) (A := some ⟨g, 0, none⟩) (c := k) (l := (script a b).map encEd) g 0 4 (fun i j => cur.getD (i * 4 + j) undef) (by omega) (fun q => by cases q) (fun _ => rfl)
                (fun i x hx => by obtain ⟨e, _, rfl⟩ := key i x hx; exact ⟨rfl, rfl⟩)
                (fun i x j y hx hy => by
                  obtain ⟨e, he, rfl⟩ := key i x hx
                  have hil := (List.getElem?_eq_some_iff.1 he).1
                  have hj : j < 4 := (List.getElem?_eq_some_iff.1 hy).1
                  refine ⟨by rw [Nat.zero_add]; exact cell_getD hh (by omega), lt_of_heap hh, fun hx => ?_, by rintro ⟨i, k, hk, _⟩; simp at hk⟩
                  have := hX _ _ hx; omega)
                (fun i x j y hx hy => by
                  obtain ⟨e, he, rfl⟩ := key i x hx
                  have hil := (List.getElem?_eq_some_iff.1 he).1
                  have hj : j < 4 := (List.getElem?_eq_some_iff.1 hy).1
                  have hg := hget i hil j hj
                  have he' : (script a b)[i] = e := by rw [List.getElem?_eq_getElem hil] at he; injection he
                  rw [he'] at hg
                  rw [Array.getD_eq_getD_getElem?, hg]
                  match j, hj with
                  | 0, _ => simp [encEd, AV.cells] at hy; subst hy; exact .val _ _
                  | 1, _ => simp [encEd, AV.cells] at hy; subst hy; exact .val _ _
                  | 2, _ => simp [encEd, AV.cells] at hy; subst hy; exact .val _ _
                  | 3, _ => simp [encEd, AV.cells] at hy; subst hy; exact .val _ _)
              rw [hlen] at this
              exact this
            · have hnil : script a b = [] := List.eq_nil_of_length_eq_zero (by omega)
              rw [hnil] at q2 ⊢
              rcases q2.2 with ⟨hv, _⟩ | ⟨g, cap, cur, hv, _, _, hle2, _⟩
              · injection hv with e1 e2 e3
                subst e1 e3
                exact .slice (l := []) 0 0 4 (fun _ _ => undef) (Nat.le_refl _) (fun _ => rfl) (fun q => by simp at q) (fun i x hx => by simp at hx) (fun i x j y hx => by simp at hx) (fun i x j y hx => by simp at hx)
              · injection hv with e1 e2 e3
                subst e1 e3
                exact .slice (l := []) 0 0 4 (fun _ _ => undef) (Nat.zero_le _) (fun q => by cases q) (fun q => by simp at q) (fun i x hx => by simp at hx) (fun i x j y hx => by simp at hx) (fun i x j y hx => by simp at hx)
          · cases h
        · cases h
    · cases h
  · cases h
section
variable {α β : Type} [DecidableEq α] [DecidableEq β]
theorem dd_map (f : α → β) (hf : ∀ x y, f x = f y → x = y) (a b : List α) (i j : Nat) : dd (a.map f) (b.map f) i j = dd a b i j := by
  unfold dd
  rw [← List.map_drop, ← List.map_drop]
  exact dist_map f _ _ fun x _ y _ => hf x y
theorem script_map (f : α → β) (hf : ∀ x y, f x = f y → x = y) (a b : List α) : script (a.map f) (b.map f) = script a b := by
  have ho : ∀ i j, opAt (a.map f) (b.map f) i j = opAt a b i j := fun i j => by
    unfold opAt
    simp only [dd_map f hf, List.length_map]
  have : ∀ (n i j : Nat) (out : List Ed), scrF (a.map f) (b.map f) n i j out = scrF a b n i j out := by
    intro n
    induction n with
    | zero => intro i j out; rfl
    | succ n ih => intro i j out; simp only [scrF, List.length_map, ho, ih]
  unfold script
  rw [List.length_map, List.length_map, this]
end
theorem strL_map (a : List Bs) : a.map strL = (a.map ofL).map strV := by rw [List.map_map]; rfl
theorem xs_dist (a b : List Bs) (ha : a.length ≤ 500) (hb : b.length ≤ 500) : (R FT XS).f 26 [.slice 1 (a.map strL), .slice 1 (b.map strL)] = some (intA (dist a b : Nat)) := R_ext rfl (by
  simp only [XS]
  unfold XLf
  simp only [strL_map, unstr_strs, List.length_map, if_pos (And.intro ha hb), dist_map ofL a b (fun _ _ _ _ => ofL_inj)]
  rfl)
theorem xs_script (a b : List Bs) (ha : a.length ≤ 400) (hb : b.length ≤ 400) : (R FT XS).f 24 [.slice 1 (a.map strL), .slice 1 (b.map strL)] = some (.slice 4 ((script a b).map encEd)) := R_ext rfl (by
  simp only [XS]
  unfold XLf
  simp only [strL_map, unstr_strs, List.length_map, if_pos (And.intro ha hb), script_map ofL (fun _ _ => ofL_inj)]
  rfl)
end Go.Proofs.Ytejajmmacmcijaa
