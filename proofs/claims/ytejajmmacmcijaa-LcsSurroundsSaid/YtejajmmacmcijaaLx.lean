/- The machine's facts on lists of lines and edits: what was walked before stands for it. -/
import Derived.Test.YtejajmmacmcijaaLcs6
import Derived.Test.YtejajmmacmcijaaAm21
namespace Go.Proofs.Ytejajmmacmcijaa

def unstr : List AV → Option (List ByteArray)
  | [] => some []
  | .val (.string s) :: r => (unstr r).map (s :: ·)
  | _ => none
theorem unstr_eq : ∀ {x : List AV} {a : List ByteArray}, unstr x = some a → x = a.map strV
  | [], a, h => by simp [unstr] at h; subst h; rfl
  | y :: r, a, h => by
    unfold unstr at h
    split at h
    · rename_i e; cases e
    · rename_i s r' e
      injection e with e1 e2
      subst e1 e2
      simp only [Option.map_eq_some_iff] at h
      obtain ⟨a', h', rfl⟩ := h
      rw [unstr_eq h']; rfl
    · cases h
theorem unstr_strs : ∀ a : List ByteArray, unstr (a.map strV) = some a
  | [] => rfl
  | s :: r => by simp [strV, unstr]; exact unstr_strs r
def encEd (e : Ed) : AV := .agg [.val (.int .i64 e.op), .val (.int .i64 e.a), .val (.int .i64 e.b), .val (.int .i64 e.n)]
def eds (l : List Ed) : AV := .slice 4 (l.map encEd)
def unEd : List AV → Option (List Ed)
  | [] => some []
  | .agg [.val (.int .i64 o), .val (.int .i64 a), .val (.int .i64 b), .val (.int .i64 n)] :: r => (unEd r).map (⟨o, a, b, n⟩ :: ·)
  | _ => none
theorem unEd_eq : ∀ {x : List AV} {a : List Ed}, unEd x = some a → x = a.map encEd
  | [], a, h => by simp [unEd] at h; subst h; rfl
  | y :: r, a, h => by
    unfold unEd at h
    split at h
    · rename_i e; cases e
    · rename_i o p q n r' e
      injection e with e1 e2
      subst e1 e2
      simp only [Option.map_eq_some_iff] at h
      obtain ⟨a', h', rfl⟩ := h
      rw [unEd_eq h']; rfl
    · cases h
theorem unEd_eds : ∀ a : List Ed, unEd (a.map encEd) = some a
  | [] => rfl
  | s :: r => by simp [encEd, unEd]; exact unEd_eds r
def sAt (a : List ByteArray) (i : Nat) : ByteArray := a.getD i ⟨#[]⟩
theorem listOf_sAt (a : List ByteArray) : listOf (sAt a) a.length = a := by
  apply List.ext_getElem?
  intro i
  by_cases h : i < a.length
  · rw [listOf_get _ h]; simp [sAt, h]
  · rw [List.getElem?_eq_none (by rw [listOf_length]; omega), List.getElem?_eq_none (by omega)]

theorem rep_strs {X : Nat → Nat → Prop} {w : World} {v : Value} {a : List ByteArray} (h : Rep (Stab X [] w) w [] v (.slice 1 (a.map strV))) :
    ∃ A c, v = .slice A a.length c ∧ Sl w A a.length (fun i => .string (sAt a i)) ∧ a.length ≤ c ∧ (A = none → a.length = 0 ∧ c = 0) := by
  generalize hx : a.map strV = x at h
  have hlen : x.length = a.length := by rw [← hx]; simp
  cases h with
  | slice b off sz u hc hz hA hsz hcell hrep =>
    rename_i A c
    refine ⟨A, c, by rw [hlen], fun hn => ?_, by omega, fun hA0 => ⟨by have := hz hA0; omega, hz hA0⟩⟩
    refine ⟨b, off, hA (by omega), ?_, fun i hi => ?_⟩
    · have h0 : x[0]? = some (strV (sAt a 0)) := by rw [← hx]; simp [sAt, hn]
      exact (hcell 0 _ 0 (strV (sAt a 0)) h0 rfl).2.1
    · have h0 : x[i]? = some (strV (sAt a i)) := by rw [← hx]; simp [sAt, hi]
      have h1 := (hcell i _ 0 (strV (sAt a i)) h0 rfl).1
      have h2 := rep_val (hrep i _ 0 (strV (sAt a i)) h0 rfl)
      rw [h2] at h1
      simpa using h1
theorem rep_eds {X : Nat → Nat → Prop} {w : World} {v : Value} {a : List Ed} (h : Rep (Stab X [] w) w [] v (.slice 4 (a.map encEd))) :
    ∃ A c, v = .slice A a.length c ∧ EdAt w A a.length (fun i => a.getD i edNil) := by
  generalize hx : a.map encEd = x at h
  have hlen : x.length = a.length := by rw [← hx]; simp
  cases h with
  | slice b off sz u hc hz hA hsz hcell hrep =>
    rename_i A c
    refine ⟨A, c, by rw [hlen], fun hn => ?_⟩
    have hat : ∀ i, i < a.length → x[i]? = some (encEd (a.getD i edNil)) := fun i hi => by rw [← hx]; simp [hi]
    refine ⟨b, off, hA (by omega), ?_, fun i hi j hj => ?_⟩
    · exact (hcell 0 _ 0 _ (hat 0 hn) rfl).2.1
    · generalize a.getD i edNil = e at *
      have hi' := hat i hi
      match j, hj with
      | 0, _ => have := hcell i _ 0 _ hi' rfl; rw [this.1, rep_val (hrep i _ 0 _ hi' rfl)]; rfl
      | 1, _ => have := hcell i _ 1 _ hi' rfl; rw [this.1, rep_val (hrep i _ 1 _ hi' rfl)]; rfl
      | 2, _ => have := hcell i _ 2 _ hi' rfl; rw [this.1, rep_val (hrep i _ 2 _ hi' rfl)]; rfl
      | 3, _ => have := hcell i _ 3 _ hi' rfl; rw [this.1, rep_val (hrep i _ 3 _ hi' rfl)]; rfl

/-- what was walked before -/
def XL : CallF := fun f vs => match f, vs with
  | 26, [.slice 1 x, .slice 1 y] => (match unstr x, unstr y with
    | some a, some b => if a.length ≤ 500 ∧ b.length ≤ 500 then some (.val (.int .i64 (dist a b : Nat))) else none
    | _, _ => none)
  | 24, [.slice 1 x, .slice 1 y] => (match unstr x, unstr y with
    | some a, some b => if a.length ≤ 400 ∧ b.length ≤ 400 then some (eds (script a b)) else none
    | _, _ => none)
  | 23, [.slice 4 x, .slice 4 y] => (match unEd x, unEd y with
    | some a, some b => if a.length ≤ maxLen then some (.val (.bool (decide (a = b)))) else none
    | _, _ => none)
  | 28, [.slice 1 x, .slice 1 y, .slice 4 z] => (match unstr x, unstr y, unEd z with
    | some a, some b, some l => if a.length ≤ maxLen ∧ b.length ≤ maxLen ∧ l.length ≤ maxLen then some (.val (.bool (decide (chkS a.length b.length (sAt a) (sAt b) (fun i => l.getD i edNil) l.length = some (a.length, b.length))))) else none
    | _, _, _ => none)
  | _, _ => none

theorem repL_two {S : Nat → Nat → Prop} {w : World} {vs : Array Value} {x y : AV} (h : RepL S w [] vs [x, y]) : ∃ u v, vs = #[u, v] ∧ Rep S w [] u x ∧ Rep S w [] v y := by
  obtain ⟨h1, h2⟩ := h
  match vs, h1 with
  | ⟨[u, v]⟩, _ => exact ⟨u, v, rfl, h2 0 x rfl, h2 1 y rfl⟩
theorem repL_three {S : Nat → Nat → Prop} {w : World} {vs : Array Value} {x y z : AV} (h : RepL S w [] vs [x, y, z]) : ∃ u v t, vs = #[u, v, t] ∧ Rep S w [] u x ∧ Rep S w [] v y ∧ Rep S w [] t z := by
  obtain ⟨h1, h2⟩ := h
  match vs, h1 with
  | ⟨[u, v, t]⟩, _ => exact ⟨u, v, t, rfl, h2 0 x rfl, h2 1 y rfl, h2 2 z rfl⟩

theorem XL_ok : ∀ f vs r, XL f vs = some r → CallOk Try.prog f vs r := by
  intro f vs r h X w us hX hr
  unfold XL at h
  split at h
  · split at h
    · rename_i a b ha hb
      obtain rfl := unstr_eq ha
      obtain rfl := unstr_eq hb
      split at h
      · rename_i hle
        injection h with h; subst h
        obtain ⟨u, v, rfl, h1, h2⟩ := repL_two hr
        obtain ⟨A, c, rfl, g1, _⟩ := rep_strs h1
        obtain ⟨B, d, rfl, g2, _⟩ := rep_strs h2
        refine (Distance_any hle.1 hle.2 g1 g2).mono fun e w' ⟨q1, q2⟩ => ⟨_, q1, ?_, q2⟩
        rw [listOf_sAt, listOf_sAt]; exact .val _ _
      · cases h
    · cases h
  · split at h
    · rename_i a b ha hb
      obtain rfl := unstr_eq ha
      obtain rfl := unstr_eq hb
      split at h
      · rename_i hle
        injection h with h; subst h
        obtain ⟨u, v, rfl, h1, h2⟩ := repL_two hr
        obtain ⟨A, c, rfl, g1, _⟩ := rep_strs h1
        obtain ⟨B, d, rfl, g2, _⟩ := rep_strs h2
        refine (Script_any hle.1 hle.2 g1 g2).mono fun e w' hp => ?_
        rw [listOf_sAt, listOf_sAt] at hp
        obtain ⟨C, k, q1, q2, q3⟩ := hp
        refine ⟨_, q1, ?_, q3⟩
        unfold eds
        have hlen : ((script a b).map encEd).length = (script a b).length := by simp
        by_cases h0 : 0 < (script a b).length
        · obtain ⟨g, cur, rfl, hb, hh, hc, hsz, hget⟩ := q2.form h0
          have key : ∀ (i : Nat) (x : AV), ((script a b).map encEd)[i]? = some x → ∃ e, (script a b)[i]? = some e ∧ x = encEd e := fun i x hx => by
            simp only [List.getElem?_map, Option.map_eq_some_iff] at hx
            obtain ⟨e, he, rfl⟩ := hx
            exact ⟨e, he, rfl⟩
          have := Rep.slice (S := Stab X [] w') (w := w') (H := []) (A := some ⟨g, 0, none⟩) (c := k) (l := (script a b).map encEd) g 0 4 (fun i j => cur.getD (i * 4 + j) undef) (by omega) (fun q => by cases q) (fun _ => rfl)
            (fun i x hx => by obtain ⟨e, _, rfl⟩ := key i x hx; exact ⟨rfl, rfl⟩)
            (fun i x j y hx hy => by
              obtain ⟨e, he, rfl⟩ := key i x hx
              have hil := (List.getElem?_eq_some_iff.1 he).1
              have hj : j < 4 := (List.getElem?_eq_some_iff.1 hy).1
              refine ⟨by rw [Nat.zero_add]; exact cell_getD hh (by omega), lt_of_heap hh, fun hx => ?_, by rintro ⟨i, k, hk, _⟩; simp at hk⟩
              have := hX _ _ hx; omega)
            (fun i x j y hx hy => by
              obtain ⟨e, he, rfl⟩ := key i x hx
              have hil := (List.getElem?_eq_some_iff.1 he).1
              have hj : j < 4 := (List.getElem?_eq_some_iff.1 hy).1
              have hg := hget i hil j hj
              have he' : (script a b)[i] = e := by rw [List.getElem?_eq_getElem hil] at he; injection he
              rw [he'] at hg
              rw [Array.getD_eq_getD_getElem?, hg]
              match j, hj with
              | 0, _ => simp [encEd] at hy; subst hy; exact .val _ _
              | 1, _ => simp [encEd] at hy; subst hy; exact .val _ _
              | 2, _ => simp [encEd] at hy; subst hy; exact .val _ _
              | 3, _ => simp [encEd] at hy; subst hy; exact .val _ _)
          rw [hlen] at this
          exact this
        · have hnil : script a b = [] := List.eq_nil_of_length_eq_zero (by omega)
          rw [hnil] at q2 ⊢
          rcases q2.2 with ⟨hv, _⟩ | ⟨g, cap, cur, hv, _, _, hle2, _⟩
          · injection hv with e1 e2 e3
            subst e1 e3
            exact .slice (l := []) 0 0 4 (fun _ _ => undef) (Nat.le_refl _) (fun _ => rfl) (fun q => by simp at q) (fun i x hx => by simp at hx) (fun i x j y hx => by simp at hx) (fun i x j y hx => by simp at hx)
          · injection hv with e1 e2 e3
            subst e1 e3
            exact .slice (l := []) 0 0 4 (fun _ _ => undef) (Nat.zero_le _) (fun q => by cases q) (fun q => by simp at q) (fun i x hx => by simp at hx) (fun i x j y hx => by simp at hx) (fun i x j y hx => by simp at hx)
      · cases h
    · cases h
  · split at h
    · rename_i a b ha hb
      obtain rfl := unEd_eq ha
      obtain rfl := unEd_eq hb
      split at h
      · rename_i hle
        injection h with h; subst h
        obtain ⟨u, v, rfl, h1, h2⟩ := repL_two hr
        obtain ⟨A, c, rfl, g1⟩ := rep_eds h1
        obtain ⟨B, d, rfl, g2⟩ := rep_eds h2
        refine (SameEdits_any hle g1 g2).mono fun e w' ⟨q1, q2⟩ => ⟨_, q1, ?_, q2.fr _⟩
        rw [edsOf_list, edsOf_list]; exact .val _ _
      · cases h
    · cases h
  · split at h
    · rename_i a b l ha hb hl
      obtain rfl := unstr_eq ha
      obtain rfl := unstr_eq hb
      obtain rfl := unEd_eq hl
      split at h
      · rename_i hle
        injection h with h; subst h
        obtain ⟨u, v, t, rfl, h1, h2, h3⟩ := repL_three hr
        obtain ⟨A, c, rfl, g1, _⟩ := rep_strs h1
        obtain ⟨B, d, rfl, g2, _⟩ := rep_strs h2
        obtain ⟨C, k, rfl, g3⟩ := rep_eds h3
        exact (Check_any hle.1 hle.2.1 hle.2.2 g1 g2 g3).mono fun e w' ⟨q1, q2⟩ => ⟨_, q1, .val _ _, q2⟩
      · cases h
    · cases h
  · cases h
end Go.Proofs.Ytejajmmacmcijaa
