/- Lcs: the statements' own functions, walked. -/
import Derived.Test.YtejajmmacmcijaaLc5
namespace Go.Proofs.Ytejajmmacmcijaa
set_option linter.unusedVariables false
set_option linter.unusedSimpArgs false
set_option maxRecDepth 100000
set_option maxHeartbeats 4000000
theorem sameB_dec {α : Type} [DecidableEq α] (a b : α) : sameB a b = decide (a = b) := by unfold sameB; by_cases h : a = b <;> simp [h]
theorem ap_small {a b : List Bs} {l : List Ed} (h : edR a b l = some (a.length, b.length)) (hb : b.length ≤ 1099511627776) : ∀ k out, apR a b (l.take k) = some out → out.length ≤ 1099511627776 := fun k out ho => by
  have h1 : ∃ q, edR a b (l.take k) = some q := by
    cases hq : edR a b (l.take k) with
    | some q => exact ⟨q, rfl⟩
    | none =>
      have : edR a b l = none := by
        rw [← List.take_append_drop k l, edR_app, hq, edS_none]
      rw [this] at h; cases h
  obtain ⟨⟨i, j⟩, hq⟩ := h1
  rw [edR_apR _ _ _ hq] at ho
  injection ho with ho
  rw [← ho, List.length_take]; omega
theorem awake_run : (R FT XS).f 22 [] = some (boolA true) := R_of (n := 30) (by kernel_rfl)
theorem scrF_len (a b : List Bs) : ∀ (n i j : Nat) (out : List Ed), (scrF a b n i j out).length ≤ out.length + n
  | 0, _, _, out => Nat.le_refl _
  | n + 1, i, j, out => by
    rw [scrF]
    split
    · omega
    · refine Nat.le_trans (scrF_len a b n _ _ _) ?_
      have := addE_len (out := out) (op := (opAt a b i j : Int)) i j
      omega
theorem script_len (a b : List Bs) : (script a b).length ≤ a.length + b.length := by
  have := scrF_len a b (a.length + b.length) 0 0 []
  rw [List.length_nil, Nat.zero_add] at this
  exact this
theorem sameB_f {α : Type} {a b : α} (h : sameB a b = false) : a ≠ b := fun e => by rw [← sameB_y e] at h; cases h
theorem sameB_t {α : Type} {a b : α} (h : sameB a b = true) : a = b := Classical.byContradiction fun e => by rw [← sameB_n e] at h; cases h
theorem ends_n {a b : List Bs} : ∀ (l : List Ed) (q : Nat × Nat), edR a b l = some q → ∀ e ∈ l, 1 ≤ e.n := fun l => by
  induction l using list_snoc with
  | h0 => intro q h e he; simp at he
  | h1 l x ih =>
    intro q h e he
    obtain ⟨i, j, h1, h2, _⟩ := edR_snoc h
    rcases List.mem_append.1 he with h3 | h3
    · exact ih _ h1 e h3
    · simp at h3; subst h3; exact h2.n
theorem pth_len {a b : List Bs} : ∀ (p : List Int) (i j : Nat), pth a b p i j → p.length + i + j ≤ a.length + b.length
  | [], i, j, h => by obtain ⟨rfl, rfl⟩ := h; simp
  | op :: p, i, j, h => by
    have := pth_len p _ _ h.2
    rcases h.1 with ⟨rfl, _⟩ | ⟨rfl, _⟩ | ⟨rfl, _⟩ <;> simp [sI, sJ] at this ⊢ <;> omega
theorem ends_len {a b : List Bs} {l : List Ed} (h : edR a b l = some (a.length, b.length)) : (stE l).length ≤ a.length + b.length := by
  have := pth_len _ _ _ (ends_pth h); omega
theorem kep_take {l : List Ed} {k : Nat} {x : Ed} (h : l[k]? = some x) : kep (stE (l.take (k + 1))) = kep (stE (l.take k)) + if x.op = 1 then x.n.toNat else 0 := by
  rw [stE_take h, kep_app, kep_rep]
theorem kep_le : ∀ p : List Int, kep p ≤ p.length
  | [] => Nat.le_refl _
  | x :: p => by have := kep_le p; simp only [kep, List.length_cons]; split <;> omega
theorem getD_len {a b : List Bs} {l : List Ed} (hB : ∀ k out, apR a b (l.take k) = some out → out.length ≤ 1099511627776) : ((apR a b l).getD []).length ≤ maxLen := by
  cases h : apR a b l with
  | none => simp
  | some out =>
    have := hB l.length out (by rw [List.take_length]; exact h)
    have := maxLen_le
    show out.length ≤ maxLen
    omega
theorem conc_at {s : List Ed} {k : Nat} (hc : Conc s) (h0 : 0 < (k : Int)) (hk : k < s.length) (hk1 : ((k : Int) - 1).toNat < s.length) : s[k].op ≠ s[((k : Int) - 1).toNat].op ∧ ¬ (s[k].op = 2 ∧ s[((k : Int) - 1).toNat].op = 3) := by
  refine hc ((k : Int) - 1).toNat _ _ (List.getElem?_eq_getElem hk1) ?_
  rw [show ((k : Int) - 1).toNat + 1 = k by omega]
  exact List.getElem?_eq_getElem hk
theorem take_end {s : List Ed} {k : Nat} (h : ¬ (k : Int) < s.length) : s.take k = s := List.take_of_length_le (by omega)
theorem conc_ne {s : List Ed} {k : Nat} {x y : Ed} (hc : Conc s) (h0 : 0 < (k : Int)) (hy : s[k]? = some y) (hx : s[((k : Int) - 1).toNat]? = some x) : y.op ≠ x.op ∧ ¬ (y.op = 2 ∧ x.op = 3) := by
  refine hc ((k : Int) - 1).toNat _ _ hx ?_
  rw [show ((k : Int) - 1).toNat + 1 = k by omega]
  exact hy
theorem kep_at {s : List Ed} {k : Nat} {x y : Ed} (hy : s[k]? = some y) (ho : y.op = 1) (hx : s[k]? = some x) (hn : 1 ≤ x.n) (hl : (stE s).length ≤ 1000) : InI64 ((kep (stE (s.take k)) : Int) + x.n) ∧ (kep (stE (s.take k)) : Int) + x.n = kep (stE (s.take (k + 1))) := by
  obtain rfl := same_at hy hx
  have h1 := kep_take hx
  have h2 := kep_le (stE (s.take (k + 1)))
  have h3 := stE_len s (k + 1)
  rw [if_pos ho] at h1
  unfold InI64; omega
theorem kep_no {s : List Ed} {k : Nat} {y : Ed} (hy : s[k]? = some y) (ho : ¬ y.op = 1) : (kep (stE (s.take k)) : Int) = kep (stE (s.take (k + 1))) := by
  have h1 := kep_take hy
  rw [if_neg ho] at h1
  omega
theorem beq_f (b : Bool) (h : (b == b) = false) : False := by cases b <;> cases h
theorem scripts_run (a b : List Bs) (ha : a.length ≤ maxLen) (hb : b.length ≤ maxLen) : (R FT XS).f 5 [.slice 1 (a.map strL), .slice 1 (b.map strL)] = some (boolA true) := by
  have hm := maxLen_i64
  have hm2 := maxLen_le
  have hs := script_len a b
  refine R_wp ((Tr.c (boolA (decide ((↑a.length : Int) ≤ (60 : Int)))) ((Tr.b true (Tr.c (boolA true) Tr.nil)).w.br (Tr.c (boolA (decide ((↑b.length : Int) ≤ (60 : Int)))) ((Tr.c (boolA true) Tr.nil).br (Tr.c (AV.slice (4 : Nat) (List.map encEd (script a b))) (Tr.c (AV.slice (4 : Nat) (List.map encEd (script a b))) (Tr.c (boolA (sameB (script a b) (script a b))) ((Tr.c (intA (↑(dist a b) : Int)) (Tr.c (intA (↑(dist a b) : Int)) (Tr.b true (Tr.c (boolA true) Tr.nil)))).br (Tr.b false Tr.nil))))).w).w))).w) rfl ?_
  refine Eq.mpr (by kernel_rfl : _ = ((R FT XS).f (21 : FuncId) [AV.slice (1 : Nat) (List.map strL a), AV.val (Value.int IntKind.i64 (60 : Int))] = some (boolA (decide ((↑a.length : Int) ≤ (60 : Int)))) ∧ ((!decide ((↑a.length : Int) ≤ (60 : Int))) = true → true = true ∧ (R FT XS).f (22 : FuncId) [] = some (boolA true) ∧ true = true) ∧ ((!decide ((↑a.length : Int) ≤ (60 : Int))) = false → (R FT XS).f (21 : FuncId) [AV.slice (1 : Nat) (List.map strL b), AV.val (Value.int IntKind.i64 (60 : Int))] = some (boolA (decide ((↑b.length : Int) ≤ (60 : Int)))) ∧ ((!decide ((↑b.length : Int) ≤ (60 : Int))) = true → (R FT XS).f (22 : FuncId) [] = some (boolA true) ∧ true = true) ∧ ((!decide ((↑b.length : Int) ≤ (60 : Int))) = false → (R FT XS).f (24 : FuncId) [AV.slice (1 : Nat) (List.map strL a), AV.slice (1 : Nat) (List.map strL b)] = some (AV.slice (4 : Nat) (List.map encEd (script a b))) ∧ (R FT XS).f (25 : FuncId) [AV.slice (1 : Nat) (List.map strL a), AV.slice (1 : Nat) (List.map strL b)] = some (AV.slice (4 : Nat) (List.map encEd (script a b))) ∧ (R FT XS).f (23 : FuncId) [AV.slice (4 : Nat) (List.map encEd (script a b)), AV.slice (4 : Nat) (List.map encEd (script a b))] = some (boolA (sameB (script a b) (script a b))) ∧ (sameB (script a b) (script a b) = true → (R FT XS).f (26 : FuncId) [AV.slice (1 : Nat) (List.map strL a), AV.slice (1 : Nat) (List.map strL b)] = some (intA (↑(dist a b) : Int)) ∧ (R FT XS).f (27 : FuncId) [AV.slice (1 : Nat) (List.map strL a), AV.slice (1 : Nat) (List.map strL b)] = some (intA (↑(dist a b) : Int)) ∧ decide ((↑(dist a b) : Int) = (↑(dist a b) : Int)) = true ∧ (R FT XS).f (22 : FuncId) [] = some (boolA true) ∧ true = true) ∧ (sameB (script a b) (script a b) = false → false = false ∧ false = true))))) ?_
  refine ⟨(few_run _ _ ha), fun h1_ => have h1 := dnT h1_; ⟨rfl, (awake_run), rfl⟩, fun h2_ => have h2 := dnF h2_; ⟨(few_run _ _ hb), fun h3_ => have h3 := dnT h3_; ⟨(awake_run), rfl⟩, fun h4_ => have h4 := dnF h4_; ⟨(xs_script _ _ (by omega) (by omega)), (script2_run _ _ (by omega) (by omega)), (sameEd_run _ _ (by omega) (by omega)), fun h5 => ⟨(xs_dist _ _ (by omega) (by omega)), (dist2_run _ _ (by omega) (by omega)), (tD rfl), (awake_run), rfl⟩, fun h6 => ⟨rfl, ?_⟩⟩⟩⟩
  · exact absurd rfl (sameB_f h6)
theorem checks_run (a b : List Bs) (l : List Ed) (ha : a.length ≤ maxLen) (hb : b.length ≤ maxLen) (hl : l.length ≤ maxLen) (hi : ∀ e ∈ l, InI64 e.a ∧ InI64 e.b) (hB : ∀ k out, apR a b (l.take k) = some out → out.length ≤ 1099511627776) : (R FT XS).f 6 [.slice 1 (a.map strL), .slice 1 (b.map strL), .slice 4 (l.map encEd)] = some (boolA true) := by
  have hm := maxLen_i64
  have hm2 := maxLen_le
  refine R_wp ((Tr.c (boolA (sameB (edR a b l) (some (a.length, b.length)))) (Tr.c (boolA (sameB (edR a b l) (some (a.length, b.length)))) ((Tr.c (AV.slice (1 : Nat) (List.map strL ((apR a b l).getD []))) (Tr.c (AV.slice (1 : Nat) (List.map strL ((apR a b l).getD []))) (Tr.c (boolA (sameB ((apR a b l).getD []) ((apR a b l).getD []))) ((Tr.c (boolA true) Tr.nil).br Tr.nil)))).br (Tr.b false Tr.nil)))).w) rfl ?_
  refine Eq.mpr (by kernel_rfl : _ = ((R FT XS).f (28 : FuncId) [AV.slice (1 : Nat) (List.map strL a), AV.slice (1 : Nat) (List.map strL b), AV.slice (4 : Nat) (List.map encEd l)] = some (boolA (sameB (edR a b l) (some (a.length, b.length)))) ∧ (R FT XS).f (29 : FuncId) [AV.slice (1 : Nat) (List.map strL a), AV.slice (1 : Nat) (List.map strL b), AV.slice (4 : Nat) (List.map encEd l)] = some (boolA (sameB (edR a b l) (some (a.length, b.length)))) ∧ ((sameB (edR a b l) (some (a.length, b.length)) == sameB (edR a b l) (some (a.length, b.length))) = true → (R FT XS).f (31 : FuncId) [AV.slice (1 : Nat) (List.map strL a), AV.slice (1 : Nat) (List.map strL b), AV.slice (4 : Nat) (List.map encEd l)] = some (AV.slice (1 : Nat) (List.map strL ((apR a b l).getD []))) ∧ (R FT XS).f (32 : FuncId) [AV.slice (1 : Nat) (List.map strL a), AV.slice (1 : Nat) (List.map strL b), AV.slice (4 : Nat) (List.map encEd l)] = some (AV.slice (1 : Nat) (List.map strL ((apR a b l).getD []))) ∧ (R FT XS).f (30 : FuncId) [AV.slice (1 : Nat) (List.map strL ((apR a b l).getD [])), AV.slice (1 : Nat) (List.map strL ((apR a b l).getD []))] = some (boolA (sameB ((apR a b l).getD []) ((apR a b l).getD []))) ∧ (sameB ((apR a b l).getD []) ((apR a b l).getD []) = true → (R FT XS).f (22 : FuncId) [] = some (boolA true) ∧ true = true) ∧ (sameB ((apR a b l).getD []) ((apR a b l).getD []) = false → false = true)) ∧ ((sameB (edR a b l) (some (a.length, b.length)) == sameB (edR a b l) (some (a.length, b.length))) = false → false = false ∧ false = true))) ?_
  refine ⟨(chk_run _ _ _ ha hb hl), (chk2_run _ _ _ ha hb hl), fun h1 => ⟨(apply_run _ _ _ ha hb hl hB), (apply2_run _ _ _ ha hb hl hi hB), (same32_run _ _ ?_ ?_), fun h2 => ⟨(awake_run), rfl⟩, fun h3 => ?_⟩, fun h4 => ⟨rfl, ?_⟩⟩
  · exact getD_len hB
  · exact getD_len hB
  · exact absurd rfl (sameB_f h3)
  · exact (beq_f _ h4).elim
theorem shortest_run (a b : List Bs) (l : List Ed) (ha : a.length ≤ maxLen) (hb : b.length ≤ maxLen) (hl : l.length ≤ maxLen) : (R FT XS).f 7 [.slice 1 (a.map strL), .slice 1 (b.map strL), .slice 4 (l.map encEd)] = some (boolA true) := by
  have hm := maxLen_i64
  have hm2 := maxLen_le
  have hs := script_len a b
  have ho := (script_ok a b).1
  have hx : a.length ≤ 60 → b.length ≤ 60 → (R FT XS).f 24 [.slice 1 (a.map strL), .slice 1 (b.map strL)] = some (.slice 4 ((script a b).map encEd)) := fun h1 h2 => xs_script a b (by omega) (by omega)
  have hfi := fun l (h : edR a b l = some (a.length, b.length)) => ends_first (a := a) (b := b) (l := l) h
  have hc := script_cost a b
  have hcn := (script_ok a b).2.2
  generalize script a b = s at *
  refine R_wp ((Tr.c (boolA (decide ((↑a.length : Int) ≤ (60 : Int)))) ((Tr.b true (Tr.c (boolA true) Tr.nil)).w.br (Tr.c (boolA (decide ((↑b.length : Int) ≤ (60 : Int)))) ((Tr.c (boolA true) Tr.nil).br (Tr.c (AV.slice (4 : Nat) (List.map encEd s)) (Tr.c (boolA (sameB (edR a b s) (some (a.length, b.length)))) ((Tr.b true (Tr.b true Tr.nil).w).br (Tr.c (boolA (sameB (edR a b s) (some (a.length, b.length)))) (Tr.b false (Tr.c (intA (↑(cst (stE s)) : Int)) (Tr.c (intA (↑(dist a b) : Int)) (Tr.b false (Tr.c (boolA (sameB (edR a b l) (some (a.length, b.length)))) ((Tr.c (boolA (sameB (edR a b l) (some (a.length, b.length)))) (Tr.b true (Tr.c (boolA true) Tr.nil))).w.br (Tr.c (intA (↑(cst (stE l)) : Int)) (Tr.c (intA (↑(cst (stE s)) : Int)) ((Tr.b true Tr.nil).w.br (Tr.c (intA (↑(cst (stE l)) : Int)) (Tr.c (intA (↑(cst (stE s)) : Int)) ((Tr.c (AV.slice (1 : Nat) (List.map intA (stE s))) (Tr.c (AV.slice (1 : Nat) (List.map intA (stE l))) (Tr.c (boolA (lexle (stE s) (stE l))) (Tr.nil.br (Tr.c (boolA (sameB (edR a b l) (some (a.length, b.length)))) (Tr.b true (Tr.c (boolA true) Tr.nil))).w).w))).br (Tr.b false (Tr.c (boolA (sameB (edR a b l) (some (a.length, b.length)))) (Tr.b true (Tr.c (boolA true) Tr.nil))).w).w)))))).w).w).w).w)))))).w)).w))).w) rfl ?_
  refine Eq.mpr (by kernel_rfl : _ = ((R FT XS).f (21 : FuncId) [AV.slice (1 : Nat) (List.map strL a), AV.val (Value.int IntKind.i64 (60 : Int))] = some (boolA (decide ((↑a.length : Int) ≤ (60 : Int)))) ∧
  ((!decide ((↑a.length : Int) ≤ (60 : Int))) = true → true = true ∧ (R FT XS).f (22 : FuncId) [] = some (boolA true) ∧ true = true) ∧
    ((!decide ((↑a.length : Int) ≤ (60 : Int))) = false →
      (R FT XS).f (21 : FuncId) [AV.slice (1 : Nat) (List.map strL b), AV.val (Value.int IntKind.i64 (60 : Int))] = some (boolA (decide ((↑b.length : Int) ≤ (60 : Int)))) ∧
        ((!decide ((↑b.length : Int) ≤ (60 : Int))) = true → (R FT XS).f (22 : FuncId) [] = some (boolA true) ∧ true = true) ∧
          ((!decide ((↑b.length : Int) ≤ (60 : Int))) = false →
            (R FT XS).f (24 : FuncId) [AV.slice (1 : Nat) (List.map strL a), AV.slice (1 : Nat) (List.map strL b)] = some (AV.slice (4 : Nat) (List.map encEd s)) ∧
              (R FT XS).f (28 : FuncId) [AV.slice (1 : Nat) (List.map strL a), AV.slice (1 : Nat) (List.map strL b), AV.slice (4 : Nat) (List.map encEd s)] = some (boolA (sameB (edR a b s) (some (a.length, b.length)))) ∧
                ((!sameB (edR a b s) (some (a.length, b.length))) = true → true = true ∧ true = true ∧ false = true) ∧
                  ((!sameB (edR a b s) (some (a.length, b.length))) = false →
                    (R FT XS).f (33 : FuncId) [AV.slice (1 : Nat) (List.map strL a), AV.slice (1 : Nat) (List.map strL b), AV.slice (4 : Nat) (List.map encEd s)] = some (boolA (sameB (edR a b s) (some (a.length, b.length)))) ∧
                      (!sameB (edR a b s) (some (a.length, b.length))) = false ∧ (R FT XS).f (34 : FuncId) [AV.slice (4 : Nat) (List.map encEd s)] = some (intA (↑(cst (stE s)) : Int)) ∧ (R FT XS).f (26 : FuncId) [AV.slice (1 : Nat) (List.map strL a), AV.slice (1 : Nat) (List.map strL b)] = some (intA (↑(dist a b) : Int)) ∧ (!decide ((↑(cst (stE s)) : Int) = (↑(dist a b) : Int))) = false ∧ (R FT XS).f (33 : FuncId) [AV.slice (1 : Nat) (List.map strL a), AV.slice (1 : Nat) (List.map strL b), AV.slice (4 : Nat) (List.map encEd l)] = some (boolA (sameB (edR a b l) (some (a.length, b.length)))) ∧ ((!sameB (edR a b l) (some (a.length, b.length))) = true → (R FT XS).f (28 : FuncId) [AV.slice (1 : Nat) (List.map strL a), AV.slice (1 : Nat) (List.map strL b), AV.slice (4 : Nat) (List.map encEd l)] = some (boolA (sameB (edR a b l) (some (a.length, b.length)))) ∧ (!sameB (edR a b l) (some (a.length, b.length))) = true ∧ (R FT XS).f (22 : FuncId) [] = some (boolA true) ∧ true = true) ∧ ((!sameB (edR a b l) (some (a.length, b.length))) = false → (R FT XS).f (34 : FuncId) [AV.slice (4 : Nat) (List.map encEd l)] = some (intA (↑(cst (stE l)) : Int)) ∧ (R FT XS).f (34 : FuncId) [AV.slice (4 : Nat) (List.map encEd s)] = some (intA (↑(cst (stE s)) : Int)) ∧ (decide ((↑(cst (stE l)) : Int) < (↑(cst (stE s)) : Int)) = true → true = true ∧ false = true) ∧ (decide ((↑(cst (stE l)) : Int) < (↑(cst (stE s)) : Int)) = false → (R FT XS).f (34 : FuncId) [AV.slice (4 : Nat) (List.map encEd l)] = some (intA (↑(cst (stE l)) : Int)) ∧ (R FT XS).f (34 : FuncId) [AV.slice (4 : Nat) (List.map encEd s)] = some (intA (↑(cst (stE s)) : Int)) ∧ (decide ((↑(cst (stE l)) : Int) = (↑(cst (stE s)) : Int)) = true → (R FT XS).f (36 : FuncId) [AV.slice (4 : Nat) (List.map encEd s)] = some (AV.slice (1 : Nat) (List.map intA (stE s))) ∧ (R FT XS).f (36 : FuncId) [AV.slice (4 : Nat) (List.map encEd l)] = some (AV.slice (1 : Nat) (List.map intA (stE l))) ∧ (R FT XS).f (35 : FuncId) [AV.slice (1 : Nat) (List.map intA (stE s)), AV.slice (1 : Nat) (List.map intA (stE l))] = some (boolA (lexle (stE s) (stE l))) ∧ ((!lexle (stE s) (stE l)) = true → false = true) ∧ ((!lexle (stE s) (stE l)) = false → (R FT XS).f (28 : FuncId) [AV.slice (1 : Nat) (List.map strL a), AV.slice (1 : Nat) (List.map strL b), AV.slice (4 : Nat) (List.map encEd l)] = some (boolA (sameB (edR a b l) (some (a.length, b.length)))) ∧ sameB (edR a b l) (some (a.length, b.length)) = true ∧ (R FT XS).f (22 : FuncId) [] = some (boolA true) ∧ true = true)) ∧ (decide ((↑(cst (stE l)) : Int) = (↑(cst (stE s)) : Int)) = false → false = false ∧ (R FT XS).f (28 : FuncId) [AV.slice (1 : Nat) (List.map strL a), AV.slice (1 : Nat) (List.map strL b), AV.slice (4 : Nat) (List.map encEd l)] = some (boolA (sameB (edR a b l) (some (a.length, b.length)))) ∧ sameB (edR a b l) (some (a.length, b.length)) = true ∧ (R FT XS).f (22 : FuncId) [] = some (boolA true) ∧ true = true)))))))) ?_
  refine ⟨(few_run _ _ ha), fun h1_ => have h1 := dnT h1_; ⟨rfl, (awake_run), rfl⟩, fun h2_ => have h2 := dnF h2_; ⟨(few_run _ _ hb), fun h3_ => have h3 := dnT h3_; ⟨(awake_run), rfl⟩, fun h4_ => have h4 := dnF h4_; ⟨(hx (by omega) (by omega)), (chk_run _ _ _ ha hb (by omega)), fun h5_ => have h5 := nT h5_; ⟨rfl, rfl, ?_⟩, fun h6_ => have h6 := nF h6_; ⟨(own_run _ _ _ (by omega) (by omega) (by omega)), h6_, (cost_run _ (by omega) ?_ ?_), (xs_dist _ _ (by omega) (by omega)), (fnD (by omega)), (own_run _ _ _ (by omega) (by omega) hl), fun h7_ => have h7 := nT h7_; ⟨(chk_run _ _ _ ha hb hl), h7_, (awake_run), rfl⟩, fun h8_ => have h8 := nF h8_; ⟨(cost_run _ hl ?_ ?_), (cost_run _ (by omega) ?_ ?_), fun h9_ => have h9 := dT h9_; ⟨rfl, ?_⟩, fun h10_ => have h10 := dF h10_; ⟨(cost_run _ hl ?_ ?_), (cost_run _ (by omega) ?_ ?_), fun h11_ => have h11 := dT h11_; ⟨(steps_run _ (by omega) ?_ ?_), (steps_run _ hl ?_ ?_), (first_run _ _ ?_ ?_), fun h12_ => have h12 := nT h12_; ?_, fun h13_ => have h13 := nF h13_; ⟨(chk_run _ _ _ ha hb hl), h8, (awake_run), rfl⟩⟩, fun h14_ => have h14 := dF h14_; ⟨rfl, (chk_run _ _ _ ha hb hl), h8, (awake_run), rfl⟩⟩⟩⟩⟩⟩⟩
  · exact absurd ho (sameB_f h5)
  all_goals have hls := ends_len ho
  all_goals try first | exact fun e he => by have := ends_n _ _ ho e he; omega | (show (stE s).length ≤ 1000; omega)
  all_goals have hel := sameB_t h8
  all_goals have hll := ends_len hel
  all_goals try first | exact fun e he => by have := ends_n _ _ hel e he; omega | (show (stE l).length ≤ 1000; omega)
  · have := ends_cost hel
    omega
  · have := hfi l hel (by omega)
    rw [this] at h12; exact h12.symm
theorem applies_run (a b : List Bs) (l : List Ed) (ha : a.length ≤ maxLen) (hb : b.length ≤ 1048576) (hl : l.length ≤ maxLen) : (R FT XS).f 8 [.slice 1 (a.map strL), .slice 1 (b.map strL), .slice 4 (l.map encEd)] = some (boolA true) := by
  have hm := maxLen_i64
  have hm2 := maxLen_le
  have hs := script_len a b
  have ho := (script_ok a b).1
  have hx : a.length ≤ 60 → b.length ≤ 60 → (R FT XS).f 24 [.slice 1 (a.map strL), .slice 1 (b.map strL)] = some (.slice 4 ((script a b).map encEd)) := fun h1 h2 => xs_script a b (by omega) (by omega)
  have hfi := fun l (h : edR a b l = some (a.length, b.length)) => ends_first (a := a) (b := b) (l := l) h
  have hc := script_cost a b
  have hcn := (script_ok a b).2.2
  generalize script a b = s at *
  refine R_wp ((Tr.c (boolA (sameB (edR a b l) (some (a.length, b.length))))
    ((Tr.c (AV.slice (1 : Nat) (List.map strL ((apR a b l).getD []))) (Tr.c (boolA (sameB ((apR a b l).getD []) b)) (Tr.nil.br (Tr.c (boolA (decide ((↑a.length : Int) ≤ (60 : Int)))) ((Tr.b true (Tr.c (boolA true) Tr.nil)).w.br (Tr.c (boolA (decide ((↑b.length : Int) ≤ (60 : Int)))) ((Tr.c (boolA true) Tr.nil).br (Tr.c (AV.slice (4 : Nat) (List.map encEd s)) (Tr.inv (fun (k : Nat) ↦ St.mk [((0 : Nat), AV.slice (1 : Nat) (List.map strL a)), ((1 : Nat), AV.slice (1 : Nat) (List.map strL b)), ((7 : Nat), AV.slice (4 : Nat) (List.map encEd s)), ((8 : Nat), intA (↑(kep (stE (List.take k s))) : Int)), ((9 : Nat), intA (↑k : Int))] []) (fun (k : Nat) ↦ k ≤ s.length) (fun (k : Nat) ↦ s.length - k) fun (k : Nat) ↦ (Tr.k s.length ((Tr.ix encEd s k fun (x11 : Ed) ↦ (Tr.b true Tr.nil).w.br ((Tr.ix encEd s k fun (x16 : Ed) ↦ (Tr.ix encEd s ((↑k : Int) - (1 : Int)).toNat fun (x18 : Ed) ↦ (Tr.b true Tr.nil).w.br (Tr.ix encEd s k fun (x22 : Ed) ↦ (Tr.ix encEd s ((↑k : Int) - (1 : Int)).toNat fun (x25 : Ed) ↦ (Tr.nil.br (Tr.ix encEd s k fun (x29 : Ed) ↦ ((Tr.ix encEd s k fun (x32 : Ed) ↦ Tr.nil.w.w).br Tr.nil.w).w).w).w).w.br (Tr.b false (Tr.ix encEd s k fun (x38 : Ed) ↦ ((Tr.ix encEd s k fun (x41 : Ed) ↦ Tr.nil.w.w).br Tr.nil.w).w).w).w)).w).br (Tr.b false (Tr.ix encEd s k fun (x47 : Ed) ↦ ((Tr.ix encEd s k fun (x50 : Ed) ↦ Tr.nil.w.w).br Tr.nil.w).w).w).w)).w.w.br (Tr.c (AV.slice (1 : Nat) (List.map strL ((apR a b s).getD []))) (Tr.c (boolA (sameB ((apR a b s).getD []) b)) ((Tr.c (intA (↑(dist a b) : Int)) (Tr.k a.length (Tr.k b.length ((Tr.c (boolA true) Tr.nil).br Tr.nil).w.w.w))).br (Tr.b false Tr.nil)))).w)).w).w)).w))).w).w)).br
      (Tr.b false (Tr.c (boolA (decide ((↑a.length : Int) ≤ (60 : Int)))) ((Tr.b true (Tr.c (boolA true) Tr.nil)).w.br (Tr.c (boolA (decide ((↑b.length : Int) ≤ (60 : Int)))) ((Tr.c (boolA true) Tr.nil).br (Tr.c (AV.slice (4 : Nat) (List.map encEd s)) (Tr.inv (fun (k : Nat) ↦ St.mk [((0 : Nat), AV.slice (1 : Nat) (List.map strL a)), ((1 : Nat), AV.slice (1 : Nat) (List.map strL b)), ((7 : Nat), AV.slice (4 : Nat) (List.map encEd s)), ((8 : Nat), intA (↑(kep (stE (List.take k s))) : Int)), ((9 : Nat), intA (↑k : Int))] []) (fun (k : Nat) ↦ k ≤ s.length) (fun (k : Nat) ↦ s.length - k) fun (k : Nat) ↦ (Tr.k s.length ((Tr.ix encEd s k fun (x68 : Ed) ↦ (Tr.b true Tr.nil).w.br ((Tr.ix encEd s k fun (x73 : Ed) ↦ (Tr.ix encEd s ((↑k : Int) - (1 : Int)).toNat fun (x75 : Ed) ↦ (Tr.b true Tr.nil).w.br (Tr.ix encEd s k fun (x79 : Ed) ↦ (Tr.ix encEd s ((↑k : Int) - (1 : Int)).toNat fun (x82 : Ed) ↦ (Tr.nil.br (Tr.ix encEd s k fun (x86 : Ed) ↦ ((Tr.ix encEd s k fun (x89 : Ed) ↦ Tr.nil.w.w).br Tr.nil.w).w).w).w).w.br (Tr.b false (Tr.ix encEd s k fun (x95 : Ed) ↦ ((Tr.ix encEd s k fun (x98 : Ed) ↦ Tr.nil.w.w).br Tr.nil.w).w).w).w)).w).br (Tr.b false (Tr.ix encEd s k fun (x104 : Ed) ↦ ((Tr.ix encEd s k fun (x107 : Ed) ↦ Tr.nil.w.w).br Tr.nil.w).w).w).w)).w.w.br (Tr.c (AV.slice (1 : Nat) (List.map strL ((apR a b s).getD []))) (Tr.c (boolA (sameB ((apR a b s).getD []) b)) ((Tr.c (intA (↑(dist a b) : Int)) (Tr.k a.length (Tr.k b.length ((Tr.c (boolA true) Tr.nil).br Tr.nil).w.w.w))).br (Tr.b false Tr.nil)))).w)).w).w)).w))).w).w)).w) rfl ?_
  refine Eq.mpr (by kernel_rfl : _ = ((R FT XS).f (28 : FuncId) [AV.slice (1 : Nat) (List.map strL a), AV.slice (1 : Nat) (List.map strL b), AV.slice (4 : Nat) (List.map encEd l)] = some (boolA (sameB (edR a b l) (some (a.length, b.length)))) ∧
  (sameB (edR a b l) (some (a.length, b.length)) = true →
      (R FT XS).f (31 : FuncId) [AV.slice (1 : Nat) (List.map strL a), AV.slice (1 : Nat) (List.map strL b), AV.slice (4 : Nat) (List.map encEd l)] = some (AV.slice (1 : Nat) (List.map strL ((apR a b l).getD []))) ∧
        (R FT XS).f (30 : FuncId) [AV.slice (1 : Nat) (List.map strL ((apR a b l).getD [])), AV.slice (1 : Nat) (List.map strL b)] = some (boolA (sameB ((apR a b l).getD []) b)) ∧
          ((!sameB ((apR a b l).getD []) b) = true → false = true) ∧
            ((!sameB ((apR a b l).getD []) b) = false →
              (R FT XS).f (21 : FuncId) [AV.slice (1 : Nat) (List.map strL a), AV.val (Value.int IntKind.i64 (60 : Int))] = some (boolA (decide ((↑a.length : Int) ≤ (60 : Int)))) ∧
                ((!decide ((↑a.length : Int) ≤ (60 : Int))) = true → true = true ∧ (R FT XS).f (22 : FuncId) [] = some (boolA true) ∧ true = true) ∧
                  ((!decide ((↑a.length : Int) ≤ (60 : Int))) = false →
                    (R FT XS).f (21 : FuncId) [AV.slice (1 : Nat) (List.map strL b), AV.val (Value.int IntKind.i64 (60 : Int))] = some (boolA (decide ((↑b.length : Int) ≤ (60 : Int)))) ∧
                      ((!decide ((↑b.length : Int) ≤ (60 : Int))) = true → (R FT XS).f (22 : FuncId) [] = some (boolA true) ∧ true = true) ∧
                        ((!decide ((↑b.length : Int) ≤ (60 : Int))) = false →
                          (R FT XS).f (24 : FuncId) [AV.slice (1 : Nat) (List.map strL a), AV.slice (1 : Nat) (List.map strL b)] = some (AV.slice (4 : Nat) (List.map encEd s)) ∧
                            (∃ (j8 : Nat), ((List.map strL a = List.map strL a ∧ List.map strL b = List.map strL b ∧ List.map encEd s = List.map encEd s ∧ (0 : Int) = (↑(kep (stE (List.take j8 s))) : Int) ∧ (0 : Int) = (↑j8 : Int) ∧ True) ∧ True) ∧ j8 ≤ s.length) ∧
                              ∀ (k : Nat),
                                k ≤ s.length →
                                  (List.map encEd s).length = s.length ∧
                                    (decide ((↑k : Int) < (↑s.length : Int)) = true →
                                        List.map encEd s = List.map encEd s ∧
                                          (↑k : Int) = (↑k : Int) ∧
                                            k < s.length ∧
                                              ∀ (x11 : Ed),
                                                s[k]? = some x11 →
                                                  (decide (x11.n < (1 : Int)) = true → true = true ∧ false = true) ∧
                                                    (decide (x11.n < (1 : Int)) = false →
                                                      (decide ((0 : Int) < (↑k : Int)) = true →
                                                          List.map encEd s = List.map encEd s ∧
                                                            (↑k : Int) = (↑k : Int) ∧
                                                              k < s.length ∧
                                                                ∀ (x16 : Ed),
                                                                  s[k]? = some x16 →
                                                                    InI64 ((↑k : Int) - (1 : Int)) ∧
                                                                      List.map encEd s = List.map encEd s ∧
                                                                        (↑k : Int) - (1 : Int) = (↑((↑k : Int) - (1 : Int)).toNat : Int) ∧
                                                                          ((↑k : Int) - (1 : Int)).toNat < s.length ∧ ∀ (x18 : Ed), s[((↑k : Int) - (1 : Int)).toNat]? = some x18 → (decide (x16.op = x18.op) = true → true = true ∧ false = true) ∧ (decide (x16.op = x18.op) = false → List.map encEd s = List.map encEd s ∧ (↑k : Int) = (↑k : Int) ∧ k < s.length ∧ ∀ (x22 : Ed), s[k]? = some x22 → (decide (x22.op = (2 : Int)) = true → InI64 ((↑k : Int) - (1 : Int)) ∧ List.map encEd s = List.map encEd s ∧ (↑k : Int) - (1 : Int) = (↑((↑k : Int) - (1 : Int)).toNat : Int) ∧ ((↑k : Int) - (1 : Int)).toNat < s.length ∧ ∀ (x25 : Ed), s[((↑k : Int) - (1 : Int)).toNat]? = some x25 → (decide (x25.op = (3 : Int)) = true → false = true) ∧ (decide (x25.op = (3 : Int)) = false → List.map encEd s = List.map encEd s ∧ (↑k : Int) = (↑k : Int) ∧ k < s.length ∧ ∀ (x29 : Ed), s[k]? = some x29 → (decide (x29.op = (1 : Int)) = true → List.map encEd s = List.map encEd s ∧ (↑k : Int) = (↑k : Int) ∧ k < s.length ∧ ∀ (x32 : Ed), s[k]? = some x32 → InI64 ((↑(kep (stE (List.take k s))) : Int) + x32.n) ∧ InI64 ((↑k : Int) + (1 : Int)) ∧ ∃ (j34 : Nat), ((List.map strL a = List.map strL a ∧ List.map strL b = List.map strL b ∧ List.map encEd s = List.map encEd s ∧ (↑(kep (stE (List.take k s))) : Int) + x32.n = (↑(kep (stE (List.take j34 s))) : Int) ∧ (↑k : Int) + (1 : Int) = (↑j34 : Int) ∧ True) ∧ True) ∧ j34 ≤ s.length ∧ s.length - j34 < s.length - k) ∧ (decide (x29.op = (1 : Int)) = false → InI64 ((↑k : Int) + (1 : Int)) ∧ ∃ (j36 : Nat), ((List.map strL a = List.map strL a ∧ List.map strL b = List.map strL b ∧ List.map encEd s = List.map encEd s ∧ (↑(kep (stE (List.take k s))) : Int) = (↑(kep (stE (List.take j36 s))) : Int) ∧ (↑k : Int) + (1 : Int) = (↑j36 : Int) ∧ True) ∧ True) ∧ j36 ≤ s.length ∧ s.length - j36 < s.length - k))) ∧ (decide (x22.op = (2 : Int)) = false → false = false ∧ List.map encEd s = List.map encEd s ∧ (↑k : Int) = (↑k : Int) ∧ k < s.length ∧ ∀ (x38 : Ed), s[k]? = some x38 → (decide (x38.op = (1 : Int)) = true → List.map encEd s = List.map encEd s ∧ (↑k : Int) = (↑k : Int) ∧ k < s.length ∧ ∀ (x41 : Ed), s[k]? = some x41 → InI64 ((↑(kep (stE (List.take k s))) : Int) + x41.n) ∧ InI64 ((↑k : Int) + (1 : Int)) ∧ ∃ (j43 : Nat), ((List.map strL a = List.map strL a ∧ List.map strL b = List.map strL b ∧ List.map encEd s = List.map encEd s ∧ (↑(kep (stE (List.take k s))) : Int) + x41.n = (↑(kep (stE (List.take j43 s))) : Int) ∧ (↑k : Int) + (1 : Int) = (↑j43 : Int) ∧ True) ∧ True) ∧ j43 ≤ s.length ∧ s.length - j43 < s.length - k) ∧ (decide (x38.op = (1 : Int)) = false → InI64 ((↑k : Int) + (1 : Int)) ∧ ∃ (j45 : Nat), ((List.map strL a = List.map strL a ∧ List.map strL b = List.map strL b ∧ List.map encEd s = List.map encEd s ∧ (↑(kep (stE (List.take k s))) : Int) = (↑(kep (stE (List.take j45 s))) : Int) ∧ (↑k : Int) + (1 : Int) = (↑j45 : Int) ∧ True) ∧ True) ∧ j45 ≤ s.length ∧ s.length - j45 < s.length - k)))) ∧
                                                        (decide ((0 : Int) < (↑k : Int)) = false → false = false ∧ List.map encEd s = List.map encEd s ∧ (↑k : Int) = (↑k : Int) ∧ k < s.length ∧ ∀ (x47 : Ed), s[k]? = some x47 → (decide (x47.op = (1 : Int)) = true → List.map encEd s = List.map encEd s ∧ (↑k : Int) = (↑k : Int) ∧ k < s.length ∧ ∀ (x50 : Ed), s[k]? = some x50 → InI64 ((↑(kep (stE (List.take k s))) : Int) + x50.n) ∧ InI64 ((↑k : Int) + (1 : Int)) ∧ ∃ (j52 : Nat), ((List.map strL a = List.map strL a ∧ List.map strL b = List.map strL b ∧ List.map encEd s = List.map encEd s ∧ (↑(kep (stE (List.take k s))) : Int) + x50.n = (↑(kep (stE (List.take j52 s))) : Int) ∧ (↑k : Int) + (1 : Int) = (↑j52 : Int) ∧ True) ∧ True) ∧ j52 ≤ s.length ∧ s.length - j52 < s.length - k) ∧ (decide (x47.op = (1 : Int)) = false → InI64 ((↑k : Int) + (1 : Int)) ∧ ∃ (j54 : Nat), ((List.map strL a = List.map strL a ∧ List.map strL b = List.map strL b ∧ List.map encEd s = List.map encEd s ∧ (↑(kep (stE (List.take k s))) : Int) = (↑(kep (stE (List.take j54 s))) : Int) ∧ (↑k : Int) + (1 : Int) = (↑j54 : Int) ∧ True) ∧ True) ∧ j54 ≤ s.length ∧ s.length - j54 < s.length - k)))) ∧
                                      (decide ((↑k : Int) < (↑s.length : Int)) = false → (R FT XS).f (31 : FuncId) [AV.slice (1 : Nat) (List.map strL a), AV.slice (1 : Nat) (List.map strL b), AV.slice (4 : Nat) (List.map encEd s)] = some (AV.slice (1 : Nat) (List.map strL ((apR a b s).getD []))) ∧ (R FT XS).f (30 : FuncId) [AV.slice (1 : Nat) (List.map strL ((apR a b s).getD [])), AV.slice (1 : Nat) (List.map strL b)] = some (boolA (sameB ((apR a b s).getD []) b)) ∧ (sameB ((apR a b s).getD []) b = true → (R FT XS).f (26 : FuncId) [AV.slice (1 : Nat) (List.map strL a), AV.slice (1 : Nat) (List.map strL b)] = some (intA (↑(dist a b) : Int)) ∧ (List.map strL a).length = a.length ∧ (List.map strL b).length = b.length ∧ InI64 ((↑a.length : Int) + (↑b.length : Int)) ∧ InI64 ((2 : Int) * (↑(kep (stE (List.take k s))) : Int)) ∧ InI64 ((↑a.length : Int) + (↑b.length : Int) - (2 : Int) * (↑(kep (stE (List.take k s))) : Int)) ∧ (decide ((↑(dist a b) : Int) = (↑a.length : Int) + (↑b.length : Int) - (2 : Int) * (↑(kep (stE (List.take k s))) : Int)) = true → (R FT XS).f (22 : FuncId) [] = some (boolA true) ∧ true = true) ∧ (decide ((↑(dist a b) : Int) = (↑a.length : Int) + (↑b.length : Int) - (2 : Int) * (↑(kep (stE (List.take k s))) : Int)) = false → false = true)) ∧ (sameB ((apR a b s).getD []) b = false → false = false ∧ false = true)))))) ∧
    (sameB (edR a b l) (some (a.length, b.length)) = false →
      false = false ∧
        (R FT XS).f (21 : FuncId) [AV.slice (1 : Nat) (List.map strL a), AV.val (Value.int IntKind.i64 (60 : Int))] = some (boolA (decide ((↑a.length : Int) ≤ (60 : Int)))) ∧
          ((!decide ((↑a.length : Int) ≤ (60 : Int))) = true → true = true ∧ (R FT XS).f (22 : FuncId) [] = some (boolA true) ∧ true = true) ∧
            ((!decide ((↑a.length : Int) ≤ (60 : Int))) = false →
              (R FT XS).f (21 : FuncId) [AV.slice (1 : Nat) (List.map strL b), AV.val (Value.int IntKind.i64 (60 : Int))] = some (boolA (decide ((↑b.length : Int) ≤ (60 : Int)))) ∧
                ((!decide ((↑b.length : Int) ≤ (60 : Int))) = true → (R FT XS).f (22 : FuncId) [] = some (boolA true) ∧ true = true) ∧
                  ((!decide ((↑b.length : Int) ≤ (60 : Int))) = false →
                    (R FT XS).f (24 : FuncId) [AV.slice (1 : Nat) (List.map strL a), AV.slice (1 : Nat) (List.map strL b)] = some (AV.slice (4 : Nat) (List.map encEd s)) ∧
                      (∃ (j65 : Nat), ((List.map strL a = List.map strL a ∧ List.map strL b = List.map strL b ∧ List.map encEd s = List.map encEd s ∧ (0 : Int) = (↑(kep (stE (List.take j65 s))) : Int) ∧ (0 : Int) = (↑j65 : Int) ∧ True) ∧ True) ∧ j65 ≤ s.length) ∧
                        ∀ (k : Nat),
                          k ≤ s.length →
                            (List.map encEd s).length = s.length ∧
                              (decide ((↑k : Int) < (↑s.length : Int)) = true →
                                  List.map encEd s = List.map encEd s ∧
                                    (↑k : Int) = (↑k : Int) ∧
                                      k < s.length ∧
                                        ∀ (x68 : Ed),
                                          s[k]? = some x68 →
                                            (decide (x68.n < (1 : Int)) = true → true = true ∧ false = true) ∧
                                              (decide (x68.n < (1 : Int)) = false →
                                                (decide ((0 : Int) < (↑k : Int)) = true →
                                                    List.map encEd s = List.map encEd s ∧
                                                      (↑k : Int) = (↑k : Int) ∧
                                                        k < s.length ∧
                                                          ∀ (x73 : Ed),
                                                            s[k]? = some x73 →
                                                              InI64 ((↑k : Int) - (1 : Int)) ∧
                                                                List.map encEd s = List.map encEd s ∧
                                                                  (↑k : Int) - (1 : Int) = (↑((↑k : Int) - (1 : Int)).toNat : Int) ∧
                                                                    ((↑k : Int) - (1 : Int)).toNat < s.length ∧ ∀ (x75 : Ed), s[((↑k : Int) - (1 : Int)).toNat]? = some x75 → (decide (x73.op = x75.op) = true → true = true ∧ false = true) ∧ (decide (x73.op = x75.op) = false → List.map encEd s = List.map encEd s ∧ (↑k : Int) = (↑k : Int) ∧ k < s.length ∧ ∀ (x79 : Ed), s[k]? = some x79 → (decide (x79.op = (2 : Int)) = true → InI64 ((↑k : Int) - (1 : Int)) ∧ List.map encEd s = List.map encEd s ∧ (↑k : Int) - (1 : Int) = (↑((↑k : Int) - (1 : Int)).toNat : Int) ∧ ((↑k : Int) - (1 : Int)).toNat < s.length ∧ ∀ (x82 : Ed), s[((↑k : Int) - (1 : Int)).toNat]? = some x82 → (decide (x82.op = (3 : Int)) = true → false = true) ∧ (decide (x82.op = (3 : Int)) = false → List.map encEd s = List.map encEd s ∧ (↑k : Int) = (↑k : Int) ∧ k < s.length ∧ ∀ (x86 : Ed), s[k]? = some x86 → (decide (x86.op = (1 : Int)) = true → List.map encEd s = List.map encEd s ∧ (↑k : Int) = (↑k : Int) ∧ k < s.length ∧ ∀ (x89 : Ed), s[k]? = some x89 → InI64 ((↑(kep (stE (List.take k s))) : Int) + x89.n) ∧ InI64 ((↑k : Int) + (1 : Int)) ∧ ∃ (j91 : Nat), ((List.map strL a = List.map strL a ∧ List.map strL b = List.map strL b ∧ List.map encEd s = List.map encEd s ∧ (↑(kep (stE (List.take k s))) : Int) + x89.n = (↑(kep (stE (List.take j91 s))) : Int) ∧ (↑k : Int) + (1 : Int) = (↑j91 : Int) ∧ True) ∧ True) ∧ j91 ≤ s.length ∧ s.length - j91 < s.length - k) ∧ (decide (x86.op = (1 : Int)) = false → InI64 ((↑k : Int) + (1 : Int)) ∧ ∃ (j93 : Nat), ((List.map strL a = List.map strL a ∧ List.map strL b = List.map strL b ∧ List.map encEd s = List.map encEd s ∧ (↑(kep (stE (List.take k s))) : Int) = (↑(kep (stE (List.take j93 s))) : Int) ∧ (↑k : Int) + (1 : Int) = (↑j93 : Int) ∧ True) ∧ True) ∧ j93 ≤ s.length ∧ s.length - j93 < s.length - k))) ∧ (decide (x79.op = (2 : Int)) = false → false = false ∧ List.map encEd s = List.map encEd s ∧ (↑k : Int) = (↑k : Int) ∧ k < s.length ∧ ∀ (x95 : Ed), s[k]? = some x95 → (decide (x95.op = (1 : Int)) = true → List.map encEd s = List.map encEd s ∧ (↑k : Int) = (↑k : Int) ∧ k < s.length ∧ ∀ (x98 : Ed), s[k]? = some x98 → InI64 ((↑(kep (stE (List.take k s))) : Int) + x98.n) ∧ InI64 ((↑k : Int) + (1 : Int)) ∧ ∃ (j100 : Nat), ((List.map strL a = List.map strL a ∧ List.map strL b = List.map strL b ∧ List.map encEd s = List.map encEd s ∧ (↑(kep (stE (List.take k s))) : Int) + x98.n = (↑(kep (stE (List.take j100 s))) : Int) ∧ (↑k : Int) + (1 : Int) = (↑j100 : Int) ∧ True) ∧ True) ∧ j100 ≤ s.length ∧ s.length - j100 < s.length - k) ∧ (decide (x95.op = (1 : Int)) = false → InI64 ((↑k : Int) + (1 : Int)) ∧ ∃ (j102 : Nat), ((List.map strL a = List.map strL a ∧ List.map strL b = List.map strL b ∧ List.map encEd s = List.map encEd s ∧ (↑(kep (stE (List.take k s))) : Int) = (↑(kep (stE (List.take j102 s))) : Int) ∧ (↑k : Int) + (1 : Int) = (↑j102 : Int) ∧ True) ∧ True) ∧ j102 ≤ s.length ∧ s.length - j102 < s.length - k)))) ∧
                                                  (decide ((0 : Int) < (↑k : Int)) = false → false = false ∧ List.map encEd s = List.map encEd s ∧ (↑k : Int) = (↑k : Int) ∧ k < s.length ∧ ∀ (x104 : Ed), s[k]? = some x104 → (decide (x104.op = (1 : Int)) = true → List.map encEd s = List.map encEd s ∧ (↑k : Int) = (↑k : Int) ∧ k < s.length ∧ ∀ (x107 : Ed), s[k]? = some x107 → InI64 ((↑(kep (stE (List.take k s))) : Int) + x107.n) ∧ InI64 ((↑k : Int) + (1 : Int)) ∧ ∃ (j109 : Nat), ((List.map strL a = List.map strL a ∧ List.map strL b = List.map strL b ∧ List.map encEd s = List.map encEd s ∧ (↑(kep (stE (List.take k s))) : Int) + x107.n = (↑(kep (stE (List.take j109 s))) : Int) ∧ (↑k : Int) + (1 : Int) = (↑j109 : Int) ∧ True) ∧ True) ∧ j109 ≤ s.length ∧ s.length - j109 < s.length - k) ∧ (decide (x104.op = (1 : Int)) = false → InI64 ((↑k : Int) + (1 : Int)) ∧ ∃ (j111 : Nat), ((List.map strL a = List.map strL a ∧ List.map strL b = List.map strL b ∧ List.map encEd s = List.map encEd s ∧ (↑(kep (stE (List.take k s))) : Int) = (↑(kep (stE (List.take j111 s))) : Int) ∧ (↑k : Int) + (1 : Int) = (↑j111 : Int) ∧ True) ∧ True) ∧ j111 ≤ s.length ∧ s.length - j111 < s.length - k)))) ∧
                                (decide ((↑k : Int) < (↑s.length : Int)) = false → (R FT XS).f (31 : FuncId) [AV.slice (1 : Nat) (List.map strL a), AV.slice (1 : Nat) (List.map strL b), AV.slice (4 : Nat) (List.map encEd s)] = some (AV.slice (1 : Nat) (List.map strL ((apR a b s).getD []))) ∧ (R FT XS).f (30 : FuncId) [AV.slice (1 : Nat) (List.map strL ((apR a b s).getD [])), AV.slice (1 : Nat) (List.map strL b)] = some (boolA (sameB ((apR a b s).getD []) b)) ∧ (sameB ((apR a b s).getD []) b = true → (R FT XS).f (26 : FuncId) [AV.slice (1 : Nat) (List.map strL a), AV.slice (1 : Nat) (List.map strL b)] = some (intA (↑(dist a b) : Int)) ∧ (List.map strL a).length = a.length ∧ (List.map strL b).length = b.length ∧ InI64 ((↑a.length : Int) + (↑b.length : Int)) ∧ InI64 ((2 : Int) * (↑(kep (stE (List.take k s))) : Int)) ∧ InI64 ((↑a.length : Int) + (↑b.length : Int) - (2 : Int) * (↑(kep (stE (List.take k s))) : Int)) ∧ (decide ((↑(dist a b) : Int) = (↑a.length : Int) + (↑b.length : Int) - (2 : Int) * (↑(kep (stE (List.take k s))) : Int)) = true → (R FT XS).f (22 : FuncId) [] = some (boolA true) ∧ true = true) ∧ (decide ((↑(dist a b) : Int) = (↑a.length : Int) + (↑b.length : Int) - (2 : Int) * (↑(kep (stE (List.take k s))) : Int)) = false → false = true)) ∧ (sameB ((apR a b s).getD []) b = false → false = false ∧ false = true))))))) ?_
  refine ⟨(chk_run _ _ _ ha (by omega) hl), fun h1 => ⟨(apply_run _ _ _ ha (by omega) hl ?_), (same32_run _ _ ?_ (by omega)), fun h2_ => have h2 := nT h2_; ?_, fun h3_ => have h3 := nF h3_; ⟨(few_run _ _ ha), fun h4_ => have h4 := dnT h4_; ⟨rfl, (awake_run), rfl⟩, fun h5_ => have h5 := dnF h5_; ⟨(few_run _ _ (by omega)), fun h6_ => have h6 := dnT h6_; ⟨(awake_run), rfl⟩, fun h7_ => have h7 := dnF h7_; ⟨(hx (by omega) (by omega)), ⟨(0 : Nat), ⟨⟨rfl, rfl, rfl, rfl, (by omega), trivial⟩, trivial⟩, (by omega)⟩, fun k => fun h9 => ⟨(by simp), fun h10_ => have h10 := dT h10_; ⟨rfl, rfl, (by omega), fun x11 => fun h12 => ⟨fun h13_ => have h13 := dT h13_; ⟨rfl, ?_⟩, fun h14_ => have h14 := dF h14_; ⟨fun h15_ => have h15 := dT h15_; ⟨rfl, rfl, (by omega), fun x16 => fun h17 => ⟨(by unfold InI64; omega), rfl, (by omega), (by omega), fun x18 => fun h19 => ⟨fun h20_ => have h20 := dT h20_; ⟨rfl, ?_⟩, fun h21_ => have h21 := dF h21_; ⟨rfl, rfl, (by omega), fun x22 => fun h23 => ⟨fun h24_ => have h24 := dT h24_; ⟨(by unfold InI64; omega), rfl, (by omega), (by omega), fun x25 => fun h26 => ⟨fun h27_ => have h27 := dT h27_; ?_, fun h28_ => have h28 := dF h28_; ⟨rfl, rfl, (by omega), fun x29 => fun h30 => ⟨fun h31_ => have h31 := dT h31_; ⟨rfl, rfl, (by omega), fun x32 => fun h33 => ⟨?_, (by unfold InI64; omega), ⟨k + (1 : Nat), ⟨⟨rfl, rfl, rfl, ?_, (by omega), trivial⟩, trivial⟩, ⟨(by omega), (by omega)⟩⟩⟩⟩, fun h35_ => have h35 := dF h35_; ⟨(by unfold InI64; omega), ⟨k + (1 : Nat), ⟨⟨rfl, rfl, rfl, ?_, (by omega), trivial⟩, trivial⟩, ⟨(by omega), (by omega)⟩⟩⟩⟩⟩⟩⟩, fun h37_ => have h37 := dF h37_; ⟨rfl, rfl, rfl, (by omega), fun x38 => fun h39 => ⟨fun h40_ => have h40 := dT h40_; ⟨rfl, rfl, (by omega), fun x41 => fun h42 => ⟨?_, (by unfold InI64; omega), ⟨k + (1 : Nat), ⟨⟨rfl, rfl, rfl, ?_, (by omega), trivial⟩, trivial⟩, ⟨(by omega), (by omega)⟩⟩⟩⟩, fun h44_ => have h44 := dF h44_; ⟨(by unfold InI64; omega), ⟨k + (1 : Nat), ⟨⟨rfl, rfl, rfl, ?_, (by omega), trivial⟩, trivial⟩, ⟨(by omega), (by omega)⟩⟩⟩⟩⟩⟩⟩⟩⟩⟩, fun h46_ => have h46 := dF h46_; ⟨rfl, rfl, rfl, (by omega), fun x47 => fun h48 => ⟨fun h49_ => have h49 := dT h49_; ⟨rfl, rfl, (by omega), fun x50 => fun h51 => ⟨?_, (by unfold InI64; omega), ⟨k + (1 : Nat), ⟨⟨rfl, rfl, rfl, ?_, (by omega), trivial⟩, trivial⟩, ⟨(by omega), (by omega)⟩⟩⟩⟩, fun h53_ => have h53 := dF h53_; ⟨(by unfold InI64; omega), ⟨k + (1 : Nat), ⟨⟨rfl, rfl, rfl, ?_, (by omega), trivial⟩, trivial⟩, ⟨(by omega), (by omega)⟩⟩⟩⟩⟩⟩⟩⟩, fun h55_ => have h55 := dF h55_; ⟨(apply_run _ _ _ ha (by omega) (by omega) ?_), (same32_run _ _ ?_ (by omega)), fun h56 => ⟨(xs_dist _ _ (by omega) (by omega)), (by simp), (by simp), (by unfold InI64; omega), ?_, ?_, fun h57_ => have h57 := dT h57_; ⟨(awake_run), rfl⟩, fun h58_ => have h58 := dF h58_; ?_⟩, fun h59 => ⟨rfl, ?_⟩⟩⟩⟩⟩⟩⟩, fun h60 => ⟨rfl, (few_run _ _ ha), fun h61_ => have h61 := dnT h61_; ⟨rfl, (awake_run), rfl⟩, fun h62_ => have h62 := dnF h62_; ⟨(few_run _ _ (by omega)), fun h63_ => have h63 := dnT h63_; ⟨(awake_run), rfl⟩, fun h64_ => have h64 := dnF h64_; ⟨(hx (by omega) (by omega)), ⟨(0 : Nat), ⟨⟨rfl, rfl, rfl, rfl, (by omega), trivial⟩, trivial⟩, (by omega)⟩, fun k => fun h66 => ⟨(by simp), fun h67_ => have h67 := dT h67_; ⟨rfl, rfl, (by omega), fun x68 => fun h69 => ⟨fun h70_ => have h70 := dT h70_; ⟨rfl, ?_⟩, fun h71_ => have h71 := dF h71_; ⟨fun h72_ => have h72 := dT h72_; ⟨rfl, rfl, (by omega), fun x73 => fun h74 => ⟨(by unfold InI64; omega), rfl, (by omega), (by omega), fun x75 => fun h76 => ⟨fun h77_ => have h77 := dT h77_; ⟨rfl, ?_⟩, fun h78_ => have h78 := dF h78_; ⟨rfl, rfl, (by omega), fun x79 => fun h80 => ⟨fun h81_ => have h81 := dT h81_; ⟨(by unfold InI64; omega), rfl, (by omega), (by omega), fun x82 => fun h83 => ⟨fun h84_ => have h84 := dT h84_; ?_, fun h85_ => have h85 := dF h85_; ⟨rfl, rfl, (by omega), fun x86 => fun h87 => ⟨fun h88_ => have h88 := dT h88_; ⟨rfl, rfl, (by omega), fun x89 => fun h90 => ⟨?_, (by unfold InI64; omega), ⟨k + (1 : Nat), ⟨⟨rfl, rfl, rfl, ?_, (by omega), trivial⟩, trivial⟩, ⟨(by omega), (by omega)⟩⟩⟩⟩, fun h92_ => have h92 := dF h92_; ⟨(by unfold InI64; omega), ⟨k + (1 : Nat), ⟨⟨rfl, rfl, rfl, ?_, (by omega), trivial⟩, trivial⟩, ⟨(by omega), (by omega)⟩⟩⟩⟩⟩⟩⟩, fun h94_ => have h94 := dF h94_; ⟨rfl, rfl, rfl, (by omega), fun x95 => fun h96 => ⟨fun h97_ => have h97 := dT h97_; ⟨rfl, rfl, (by omega), fun x98 => fun h99 => ⟨?_, (by unfold InI64; omega), ⟨k + (1 : Nat), ⟨⟨rfl, rfl, rfl, ?_, (by omega), trivial⟩, trivial⟩, ⟨(by omega), (by omega)⟩⟩⟩⟩, fun h101_ => have h101 := dF h101_; ⟨(by unfold InI64; omega), ⟨k + (1 : Nat), ⟨⟨rfl, rfl, rfl, ?_, (by omega), trivial⟩, trivial⟩, ⟨(by omega), (by omega)⟩⟩⟩⟩⟩⟩⟩⟩⟩⟩, fun h103_ => have h103 := dF h103_; ⟨rfl, rfl, rfl, (by omega), fun x104 => fun h105 => ⟨fun h106_ => have h106 := dT h106_; ⟨rfl, rfl, (by omega), fun x107 => fun h108 => ⟨?_, (by unfold InI64; omega), ⟨k + (1 : Nat), ⟨⟨rfl, rfl, rfl, ?_, (by omega), trivial⟩, trivial⟩, ⟨(by omega), (by omega)⟩⟩⟩⟩, fun h110_ => have h110 := dF h110_; ⟨(by unfold InI64; omega), ⟨k + (1 : Nat), ⟨⟨rfl, rfl, rfl, ?_, (by omega), trivial⟩, trivial⟩, ⟨(by omega), (by omega)⟩⟩⟩⟩⟩⟩⟩⟩, fun h112_ => have h112 := dF h112_; ⟨(apply_run _ _ _ ha (by omega) (by omega) ?_), (same32_run _ _ ?_ (by omega)), fun h113 => ⟨(xs_dist _ _ (by omega) (by omega)), (by simp), (by simp), (by unfold InI64; omega), ?_, ?_, fun h114_ => have h114 := dT h114_; ⟨(awake_run), rfl⟩, fun h115_ => have h115 := dF h115_; ?_⟩, fun h116 => ⟨rfl, ?_⟩⟩⟩⟩⟩⟩⟩
  · exact ap_small (sameB_t h1) (by omega)
  · exact getD_len (ap_small (sameB_t h1) (by omega))
  · rw [ends_apR (sameB_t h1)] at h2; exact absurd rfl (sameB_f h2)
  all_goals have hls := ends_len ho
  all_goals have hsum := ends_sum ho
  all_goals try (have hk1 := kep_le (stE s))
  all_goals try exact ap_small ho (by omega)
  all_goals try exact getD_len (ap_small ho (by omega))
  all_goals try (have q := ends_n _ _ ho _ (List.mem_of_getElem? (by assumption : s[k]? = some _)); omega)
  all_goals try (have hq : sameB ((apR a b s).getD []) b = false := by assumption
                 rw [ends_apR ho] at hq; exact absurd rfl (sameB_f hq))
  all_goals first | (have ek := take_end h55; rw [ek] at *; (try unfold InI64); omega) | (have ek := take_end h112; rw [ek] at *; (try unfold InI64); omega) | skip
  · exact absurd h20 (conc_ne hcn h15 h17 h19).1
  · exact absurd ⟨h24, h27⟩ (conc_ne hcn h15 h23 h26).2
  · exact (kep_at h30 h31 h33 (ends_n _ _ ho _ (List.mem_of_getElem? h33)) (by omega)).1
  · exact (kep_at h30 h31 h33 (ends_n _ _ ho _ (List.mem_of_getElem? h33)) (by omega)).2
  · exact kep_no h30 h35
  · exact (kep_at h39 h40 h42 (ends_n _ _ ho _ (List.mem_of_getElem? h42)) (by omega)).1
  · exact (kep_at h39 h40 h42 (ends_n _ _ ho _ (List.mem_of_getElem? h42)) (by omega)).2
  · exact kep_no h39 h44
  · exact (kep_at h48 h49 h51 (ends_n _ _ ho _ (List.mem_of_getElem? h51)) (by omega)).1
  · exact (kep_at h48 h49 h51 (ends_n _ _ ho _ (List.mem_of_getElem? h51)) (by omega)).2
  · exact kep_no h48 h53
  · rw [take_end h55] at h58; omega
  · exact absurd h77 (conc_ne hcn h72 h74 h76).1
  · exact absurd ⟨h81, h84⟩ (conc_ne hcn h72 h80 h83).2
  · exact (kep_at h87 h88 h90 (ends_n _ _ ho _ (List.mem_of_getElem? h90)) (by omega)).1
  · exact (kep_at h87 h88 h90 (ends_n _ _ ho _ (List.mem_of_getElem? h90)) (by omega)).2
  · exact kep_no h87 h92
  · exact (kep_at h96 h97 h99 (ends_n _ _ ho _ (List.mem_of_getElem? h99)) (by omega)).1
  · exact (kep_at h96 h97 h99 (ends_n _ _ ho _ (List.mem_of_getElem? h99)) (by omega)).2
  · exact kep_no h96 h101
  · exact (kep_at h105 h106 h108 (ends_n _ _ ho _ (List.mem_of_getElem? h108)) (by omega)).1
  · exact (kep_at h105 h106 h108 (ends_n _ _ ho _ (List.mem_of_getElem? h108)) (by omega)).2
  · exact kep_no h105 h110
  · rw [take_end h112] at h115; omega
end Go.Proofs.Ytejajmmacmcijaa
