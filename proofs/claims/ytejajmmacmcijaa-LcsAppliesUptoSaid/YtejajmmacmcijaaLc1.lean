/- Lcs: small functions, walked. -/
import Derived.Test.YtejajmmacmcijaaLcX
namespace Go.Proofs.Ytejajmmacmcijaa
set_option linter.unusedVariables false
set_option linter.unusedSimpArgs false
set_option maxRecDepth 100000
set_option maxHeartbeats 4000000
noncomputable def sameB {α : Type} (a b : α) : Bool := @decide (a = b) (Classical.propDecidable _)
theorem sameB_n {α : Type} {a b : α} (h : a ≠ b) : false = sameB a b := by unfold sameB; simp [h]
theorem sameB_y {α : Type} {a b : α} (h : a = b) : true = sameB a b := by unfold sameB; simp [h]
theorem take_eq {α : Type} {a b : List α} {k : Nat} {x : α} (h : a.take k = b.take k) (ha : a[k]? = some x) (hb : b[k]? = some x) : a.take (k + 1) = b.take (k + 1) := by
  rw [take_succ' ha, take_succ' hb, h]
theorem take_all {α : Type} {a b : List α} {k : Nat} (h : a.take k = b.take k) (ha : a.length ≤ k) (hb : b.length ≤ k) : a = b := by
  rw [List.take_of_length_le ha, List.take_of_length_le hb] at h; exact h
theorem at_ne {α : Type} {a b : List α} {k : Nat} {x y : α} (ha : a[k]? = some x) (hb : b[k]? = some y) (h : x ≠ y) : a ≠ b := fun e => by
  subst e; rw [ha] at hb; cases hb; exact h rfl
theorem same_at {α : Type} {l : List α} {k : Nat} {x y : α} (h : l[k]? = some x) (h' : l[k]? = some y) : y = x := by rw [h] at h'; exact (Option.some.inj h').symm
theorem ed_eq {x y : Ed} (h1 : x.op = y.op) (h2 : x.a = y.a) (h3 : x.b = y.b) (h4 : x.n = y.n) : x = y := by cases x; cases y; cases h1; cases h2; cases h3; cases h4; rfl
theorem stE_take {l : List Ed} {k : Nat} {x : Ed} (h : l[k]? = some x) : stE (l.take (k + 1)) = stE (l.take k) ++ List.replicate x.n.toNat x.op := by
  rw [take_succ' h, stE_app, stE_one]
theorem stE_len (l : List Ed) (k : Nat) : (stE (l.take k)).length ≤ (stE l).length := by
  have : stE l = stE (l.take k) ++ stE (l.drop k) := by rw [← stE_app, List.take_append_drop]
  rw [this, List.length_append]; omega
theorem cst_le : ∀ p : List Int, cst p ≤ p.length
  | [] => Nat.le_refl _
  | x :: p => by have := cst_le p; simp only [cst, List.length_cons]; split <;> omega
theorem cst_take {l : List Ed} {k : Nat} {x : Ed} (h : l[k]? = some x) : cst (stE (l.take (k + 1))) = cst (stE (l.take k)) + if x.op = 1 then 0 else x.n.toNat := by
  rw [stE_take h, cst_app, cst_rep]
theorem lexle_cut : ∀ (k : Nat) (p q : List Int), p.take k = q.take k → k ≤ p.length → k ≤ q.length → lexle p q = lexle (p.drop k) (q.drop k)
  | 0, _, _, _, _, _ => rfl
  | k + 1, [], _, _, h, _ => by simp at h
  | k + 1, _ :: _, [], _, _, h => by simp at h
  | k + 1, x :: p, y :: q, h, h1, h2 => by
    simp only [List.take_succ_cons, List.cons.injEq] at h
    simp only [List.length_cons] at h1 h2
    rw [lexle, if_pos h.1, lexle_cut k p q h.2 (by omega) (by omega)]; rfl
theorem lexle_at {k : Nat} {p q : List Int} {x y : Int} (h : p.take k = q.take k) (hx : p[k]? = some x) (hy : q[k]? = some y) (hn : ¬ x = y) : decide (rk x < rk y) = lexle p q := by
  obtain ⟨h1, rfl⟩ := get_of hx
  obtain ⟨h2, rfl⟩ := get_of hy
  rw [lexle_cut k p q h (by omega) (by omega), List.drop_eq_getElem_cons h1, List.drop_eq_getElem_cons h2, lexle, if_neg hn]
theorem lexle_end {k : Nat} {p q : List Int} (h : p.take k = q.take k) (h1 : k ≤ p.length) (h2 : k ≤ q.length) (h3 : k = p.length ∨ k = q.length) : decide ((p.length : Int) ≤ q.length) = lexle p q := by
  rw [lexle_cut k p q h h1 h2]
  rcases h3 with rfl | rfl
  · rw [List.drop_length]; simp [lexle]; omega
  · rw [List.drop_length]
    by_cases e : p.length ≤ q.length
    · have : p.length = q.length := by omega
      rw [List.drop_of_length_le (by omega)]; simp [lexle]; omega
    · obtain ⟨x, r, hr⟩ : ∃ x r, p.drop q.length = x :: r := by
        cases hd : p.drop q.length with
        | nil => have := List.drop_eq_nil_iff.1 hd; omega
        | cons x r => exact ⟨x, r, rfl⟩
      rw [hr, lexle]; simp; omega
section
variable {X : CallF}
theorem few_run (l : List Bs) (n : Int) (hl : l.length ≤ maxLen) : (R FT X).f 21 [.slice 1 (l.map strL), intA n] = some (boolA (decide ((l.length : Int) ≤ n))) := by
  refine R_wp (Tr.k l.length Tr.nil) rfl ?_
  refine Eq.mpr (by kernel_rfl : _ = ((List.map strL l).length = l.length ∧ decide ((↑l.length : Int) ≤ n) = decide ((↑l.length : Int) ≤ n))) ?_
  refine ⟨(by simp), rfl⟩
theorem rank_run (op : Int) : (R FT X).f 51 [intA op] = some (intA (rk op)) := by
  refine R_wp ((Tr.nil.br (Tr.nil.br Tr.nil).w.w).w.w.w) rfl ?_
  refine Eq.mpr (by kernel_rfl : _ = ((decide (op = (2 : Int)) = true → (1 : Int) = rk op) ∧ (decide (op = (2 : Int)) = false → (decide (op = (3 : Int)) = true → (2 : Int) = rk op) ∧ (decide (op = (3 : Int)) = false → (3 : Int) = rk op)))) ?_
  refine ⟨fun h1_ => have h1 := dT h1_; ?_, fun h2_ => have h2 := dF h2_; ⟨fun h3_ => have h3 := dT h3_; ?_, fun h4_ => have h4 := dF h4_; ?_⟩⟩
  all_goals (unfold rk; (repeat' split) <;> omega)
theorem same32_run (a b : List Bs) (ha : a.length ≤ maxLen) (hb : b.length ≤ maxLen) : (R FT X).f 30 [.slice 1 (a.map strL), .slice 1 (b.map strL)] = some (boolA (sameB a b)) := by
  have hm := maxLen_i64
  refine R_wp ((Tr.k a.length (Tr.k b.length (Tr.nil.br (Tr.inv (fun (k : Nat) ↦ St.mk [((0 : Nat), AV.slice (1 : Nat) (List.map strL a)), ((1 : Nat), AV.slice (1 : Nat) (List.map strL b)), ((5 : Nat), intA (↑k : Int))] []) (fun (k : Nat) ↦ k ≤ a.length ∧ List.take k a = List.take k b) (fun (k : Nat) ↦ a.length - k) fun (k : Nat) ↦ (Tr.k a.length ((Tr.ix strL a k fun (x6 : Bs) ↦ Tr.ix strL b k fun (x8 : Bs) ↦ (Tr.nil.br Tr.nil.w).w).w.w.br Tr.nil)).w).w).w)).w) rfl ?_
  refine Eq.mpr (by kernel_rfl : _ = ((List.map strL a).length = a.length ∧ (List.map strL b).length = b.length ∧ ((!decide ((↑a.length : Int) = (↑b.length : Int))) = true → false = sameB a b) ∧ ((!decide ((↑a.length : Int) = (↑b.length : Int))) = false → (∃ (j3 : Nat), ((List.map strL a = List.map strL a ∧ List.map strL b = List.map strL b ∧ (0 : Int) = (↑j3 : Int) ∧ True) ∧ True) ∧ j3 ≤ a.length ∧ List.take j3 a = List.take j3 b) ∧ ∀ (k : Nat), k ≤ a.length ∧ List.take k a = List.take k b → (List.map strL a).length = a.length ∧ (decide ((↑k : Int) < (↑a.length : Int)) = true → List.map strL a = List.map strL a ∧ (↑k : Int) = (↑k : Int) ∧ k < a.length ∧ ∀ (x6 : Bs), a[k]? = some x6 → List.map strL b = List.map strL b ∧ (↑k : Int) = (↑k : Int) ∧ k < b.length ∧ ∀ (x8 : Bs), b[k]? = some x8 → ((!decide (x6 = x8)) = true → false = sameB a b) ∧ ((!decide (x6 = x8)) = false → InI64 ((↑k : Int) + (1 : Int)) ∧ ∃ (j12 : Nat), ((List.map strL a = List.map strL a ∧ List.map strL b = List.map strL b ∧ (↑k : Int) + (1 : Int) = (↑j12 : Int) ∧ True) ∧ True) ∧ (j12 ≤ a.length ∧ List.take j12 a = List.take j12 b) ∧ a.length - j12 < a.length - k)) ∧ (decide ((↑k : Int) < (↑a.length : Int)) = false → true = sameB a b)))) ?_
  refine ⟨(by simp), (by simp), fun h1_ => have h1 := dnT h1_; ?_, fun h2_ => have h2 := dnF h2_; ⟨⟨(0 : Nat), ⟨⟨rfl, rfl, (by omega), trivial⟩, trivial⟩, ⟨(by omega), rfl⟩⟩, fun k => fun h4 => have h4a := h4.1; have h4b := h4.2; ⟨(by simp), fun h5_ => have h5 := dT h5_; ⟨rfl, rfl, (by omega), fun x6 => fun h7 => ⟨rfl, rfl, (by omega), fun x8 => fun h9 => ⟨fun h10_ => have h10 := dnT h10_; ?_, fun h11_ => have h11 := dnF h11_; ⟨(by unfold InI64; omega), ⟨k + (1 : Nat), ⟨⟨rfl, rfl, (by omega), trivial⟩, trivial⟩, ⟨⟨(by omega), ?_⟩, (by omega)⟩⟩⟩⟩⟩⟩, fun h13_ => have h13 := dF h13_; ?_⟩⟩⟩
  · exact sameB_n fun e => h1 (by rw [e])
  · exact sameB_n (at_ne h7 h9 h10)
  · exact take_eq h4b h7 (h11 ▸ h9)
  · exact sameB_y (take_all h4b (by omega) (by omega))
theorem sameEd_run (a b : List Ed) (ha : a.length ≤ maxLen) (hb : b.length ≤ maxLen) : (R FT X).f 23 [.slice 4 (a.map encEd), .slice 4 (b.map encEd)] = some (boolA (sameB a b)) := by
  have hm := maxLen_i64
  refine R_wp ((Tr.k a.length (Tr.k b.length (Tr.nil.br (Tr.inv (fun (k : Nat) ↦ St.mk [((0 : Nat), AV.slice (4 : Nat) (List.map encEd a)), ((1 : Nat), AV.slice (4 : Nat) (List.map encEd b)), ((5 : Nat), intA (↑k : Int))] []) (fun (k : Nat) ↦ k ≤ a.length ∧ List.take k a = List.take k b) (fun (k : Nat) ↦ a.length - k) fun (k : Nat) ↦ (Tr.k a.length ((Tr.ix encEd a k fun (x6 : Ed) ↦ Tr.ix encEd b k fun (x8 : Ed) ↦ (Tr.nil.br Tr.nil.w).w).w.w.br Tr.nil)).w).w).w)).w) rfl ?_
  refine Eq.mpr (by kernel_rfl : _ = ((List.map encEd a).length = a.length ∧ (List.map encEd b).length = b.length ∧ ((!decide ((↑a.length : Int) = (↑b.length : Int))) = true → false = sameB a b) ∧ ((!decide ((↑a.length : Int) = (↑b.length : Int))) = false → (∃ (j3 : Nat), ((List.map encEd a = List.map encEd a ∧ List.map encEd b = List.map encEd b ∧ (0 : Int) = (↑j3 : Int) ∧ True) ∧ True) ∧ j3 ≤ a.length ∧ List.take j3 a = List.take j3 b) ∧ ∀ (k : Nat), k ≤ a.length ∧ List.take k a = List.take k b → (List.map encEd a).length = a.length ∧ (decide ((↑k : Int) < (↑a.length : Int)) = true → List.map encEd a = List.map encEd a ∧ (↑k : Int) = (↑k : Int) ∧ k < a.length ∧ ∀ (x6 : Ed), a[k]? = some x6 → List.map encEd b = List.map encEd b ∧ (↑k : Int) = (↑k : Int) ∧ k < b.length ∧ ∀ (x8 : Ed), b[k]? = some x8 → ((!(decide (x6.op = x8.op) && (decide (x6.a = x8.a) && (decide (x6.b = x8.b) && decide (x6.n = x8.n))))) = true → false = sameB a b) ∧ ((!(decide (x6.op = x8.op) && (decide (x6.a = x8.a) && (decide (x6.b = x8.b) && decide (x6.n = x8.n))))) = false → InI64 ((↑k : Int) + (1 : Int)) ∧ ∃ (j12 : Nat), ((List.map encEd a = List.map encEd a ∧ List.map encEd b = List.map encEd b ∧ (↑k : Int) + (1 : Int) = (↑j12 : Int) ∧ True) ∧ True) ∧ (j12 ≤ a.length ∧ List.take j12 a = List.take j12 b) ∧ a.length - j12 < a.length - k)) ∧ (decide ((↑k : Int) < (↑a.length : Int)) = false → true = sameB a b)))) ?_
  refine ⟨(by simp), (by simp), fun h1_ => have h1 := dnT h1_; ?_, fun h2_ => have h2 := dnF h2_; ⟨⟨(0 : Nat), ⟨⟨rfl, rfl, (by omega), trivial⟩, trivial⟩, ⟨(by omega), rfl⟩⟩, fun k => fun h4 => have h4a := h4.1; have h4b := h4.2; ⟨(by simp), fun h5_ => have h5 := dT h5_; ⟨rfl, rfl, (by omega), fun x6 => fun h7 => ⟨rfl, rfl, (by omega), fun x8 => fun h9 => ⟨fun h10_ => have h10 := nT h10_; ?_, fun h11_ => have h11 := nF h11_; ⟨(by unfold InI64; omega), ⟨k + (1 : Nat), ⟨⟨rfl, rfl, (by omega), trivial⟩, trivial⟩, ⟨⟨(by omega), ?_⟩, (by omega)⟩⟩⟩⟩⟩⟩, fun h13_ => have h13 := dF h13_; ?_⟩⟩⟩
  · exact sameB_n fun e => h1 (by rw [e])
  · exact sameB_n (at_ne h7 h9 fun e => by subst e; simp at h10)
  · simp only [Bool.and_eq_true, decide_eq_true_eq] at h11
    have e := ed_eq h11.1 h11.2.1 h11.2.2.1 h11.2.2.2
    exact take_eq h4b h7 (e ▸ h9)
  · exact sameB_y (take_all h4b (by omega) (by omega))
theorem first_run (p q : List Int) (hp : p.length ≤ 1000) (hq : q.length ≤ 1000) : (R FT X).f 35 [.slice 1 (p.map intA), .slice 1 (q.map intA)] = some (boolA (lexle p q)) := by
  refine R_wp ((Tr.inv (fun (k : Nat) ↦ St.mk [((0 : Nat), AV.slice (1 : Nat) (List.map intA p)), ((1 : Nat), AV.slice (1 : Nat) (List.map intA q)), ((5 : Nat), intA (↑k : Int))] []) (fun (k : Nat) ↦ k ≤ p.length ∧ k ≤ q.length ∧ List.take k p = List.take k q) (fun (k : Nat) ↦ p.length - k) fun (k : Nat) ↦ (Tr.k p.length ((Tr.k q.length ((Tr.ix intA p k fun (x5 : Int) ↦ Tr.ix intA q k fun (x7 : Int) ↦ ((Tr.ix intA p k fun (x10 : Int) ↦ Tr.c (intA (rk x10)) (Tr.ix intA q k fun (x12 : Int) ↦ Tr.c (intA (rk x12)) Tr.nil)).br Tr.nil.w).w).w.w.br (Tr.k p.length (Tr.k q.length Tr.nil)))).br (Tr.b false (Tr.k p.length (Tr.k q.length Tr.nil))))).w).w) rfl ?_
  refine Eq.mpr (by kernel_rfl : _ = ((∃ (j1 : Nat), ((List.map intA p = List.map intA p ∧ List.map intA q = List.map intA q ∧ (0 : Int) = (↑j1 : Int) ∧ True) ∧ True) ∧ j1 ≤ p.length ∧ j1 ≤ q.length ∧ List.take j1 p = List.take j1 q) ∧ ∀ (k : Nat), k ≤ p.length ∧ k ≤ q.length ∧ List.take k p = List.take k q → (List.map intA p).length = p.length ∧ (decide ((↑k : Int) < (↑p.length : Int)) = true → (List.map intA q).length = q.length ∧ (decide ((↑k : Int) < (↑q.length : Int)) = true → List.map intA p = List.map intA p ∧ (↑k : Int) = (↑k : Int) ∧ k < p.length ∧ ∀ (x5 : Int), p[k]? = some x5 → List.map intA q = List.map intA q ∧ (↑k : Int) = (↑k : Int) ∧ k < q.length ∧ ∀ (x7 : Int), q[k]? = some x7 → ((!decide (x5 = x7)) = true → List.map intA p = List.map intA p ∧ (↑k : Int) = (↑k : Int) ∧ k < p.length ∧ ∀ (x10 : Int), p[k]? = some x10 → (R FT X).f (51 : FuncId) [AV.val (Value.int IntKind.i64 x10)] = some (intA (rk x10)) ∧ List.map intA q = List.map intA q ∧ (↑k : Int) = (↑k : Int) ∧ k < q.length ∧ ∀ (x12 : Int), q[k]? = some x12 → (R FT X).f (51 : FuncId) [AV.val (Value.int IntKind.i64 x12)] = some (intA (rk x12)) ∧ decide (rk x10 < rk x12) = lexle p q) ∧ ((!decide (x5 = x7)) = false → InI64 ((↑k : Int) + (1 : Int)) ∧ ∃ (j15 : Nat), ((List.map intA p = List.map intA p ∧ List.map intA q = List.map intA q ∧ (↑k : Int) + (1 : Int) = (↑j15 : Int) ∧ True) ∧ True) ∧ (j15 ≤ p.length ∧ j15 ≤ q.length ∧ List.take j15 p = List.take j15 q) ∧ p.length - j15 < p.length - k)) ∧ (decide ((↑k : Int) < (↑q.length : Int)) = false → (List.map intA p).length = p.length ∧ (List.map intA q).length = q.length ∧ decide ((↑p.length : Int) ≤ (↑q.length : Int)) = lexle p q)) ∧ (decide ((↑k : Int) < (↑p.length : Int)) = false → false = false ∧ (List.map intA p).length = p.length ∧ (List.map intA q).length = q.length ∧ decide ((↑p.length : Int) ≤ (↑q.length : Int)) = lexle p q))) ?_
  refine ⟨⟨(0 : Nat), ⟨⟨rfl, rfl, (by omega), trivial⟩, trivial⟩, ⟨(by omega), (by omega), rfl⟩⟩, fun k => fun h2 => have h2a := h2.1; have h2b := h2.2.1; have h2c := h2.2.2; ⟨(by simp), fun h3_ => have h3 := dT h3_; ⟨(by simp), fun h4_ => have h4 := dT h4_; ⟨rfl, rfl, (by omega), fun x5 => fun h6 => ⟨rfl, rfl, (by omega), fun x7 => fun h8 => ⟨fun h9_ => have h9 := dnT h9_; ⟨rfl, rfl, (by omega), fun x10 => fun h11 => ⟨(rank_run _), rfl, rfl, (by omega), fun x12 => fun h13 => ⟨(rank_run _), ?_⟩⟩⟩, fun h14_ => have h14 := dnF h14_; ⟨(by unfold InI64; omega), ⟨k + (1 : Nat), ⟨⟨rfl, rfl, (by omega), trivial⟩, trivial⟩, ⟨⟨(by omega), (by omega), ?_⟩, (by omega)⟩⟩⟩⟩⟩⟩, fun h16_ => have h16 := dF h16_; ⟨(by simp), (by simp), ?_⟩⟩, fun h17_ => have h17 := dF h17_; ⟨rfl, (by simp), (by simp), ?_⟩⟩⟩
  · rw [same_at h11 h6, same_at h13 h8] at h9
    exact lexle_at h2c h11 h13 h9
  · exact take_eq h2c h6 (h14 ▸ h8)
  · exact lexle_end h2c h2a h2b (by omega)
  · exact lexle_end h2c h2a h2b (by omega)
theorem cost_run (l : List Ed) (hl : l.length ≤ maxLen) (hn : ∀ e ∈ l, 0 ≤ e.n) (hs : (stE l).length ≤ 1000) : (R FT X).f 34 [.slice 4 (l.map encEd)] = some (intA (cst (stE l))) := by
  have hm := maxLen_i64
  refine R_wp ((Tr.inv (fun (k : Nat) ↦ St.mk [((0 : Nat), AV.slice (4 : Nat) (List.map encEd l)), ((3 : Nat), intA (↑(cst (stE (List.take k l))) : Int)), ((4 : Nat), intA (↑k : Int))] []) (fun (k : Nat) ↦ k ≤ l.length) (fun (k : Nat) ↦ l.length - k) fun (k : Nat) ↦ (Tr.k l.length ((Tr.ix encEd l k fun (x4 : Ed) ↦ ((Tr.ix encEd l k fun (x7 : Ed) ↦ Tr.nil.w.w).br Tr.nil.w).w).w.w.br Tr.nil)).w).w) rfl ?_
  refine Eq.mpr (by kernel_rfl : _ = ((∃ (j1 : Nat), ((List.map encEd l = List.map encEd l ∧ (0 : Int) = (↑(cst (stE (List.take j1 l))) : Int) ∧ (0 : Int) = (↑j1 : Int) ∧ True) ∧ True) ∧ j1 ≤ l.length) ∧ ∀ (k : Nat), k ≤ l.length → (List.map encEd l).length = l.length ∧ (decide ((↑k : Int) < (↑l.length : Int)) = true → List.map encEd l = List.map encEd l ∧ (↑k : Int) = (↑k : Int) ∧ k < l.length ∧ ∀ (x4 : Ed), l[k]? = some x4 → ((!decide (x4.op = (1 : Int))) = true → List.map encEd l = List.map encEd l ∧ (↑k : Int) = (↑k : Int) ∧ k < l.length ∧ ∀ (x7 : Ed), l[k]? = some x7 → InI64 ((↑(cst (stE (List.take k l))) : Int) + x7.n) ∧ InI64 ((↑k : Int) + (1 : Int)) ∧ ∃ (j9 : Nat), ((List.map encEd l = List.map encEd l ∧ (↑(cst (stE (List.take k l))) : Int) + x7.n = (↑(cst (stE (List.take j9 l))) : Int) ∧ (↑k : Int) + (1 : Int) = (↑j9 : Int) ∧ True) ∧ True) ∧ j9 ≤ l.length ∧ l.length - j9 < l.length - k) ∧ ((!decide (x4.op = (1 : Int))) = false → InI64 ((↑k : Int) + (1 : Int)) ∧ ∃ (j11 : Nat), ((List.map encEd l = List.map encEd l ∧ (↑(cst (stE (List.take k l))) : Int) = (↑(cst (stE (List.take j11 l))) : Int) ∧ (↑k : Int) + (1 : Int) = (↑j11 : Int) ∧ True) ∧ True) ∧ j11 ≤ l.length ∧ l.length - j11 < l.length - k)) ∧ (decide ((↑k : Int) < (↑l.length : Int)) = false → (↑(cst (stE (List.take k l))) : Int) = (↑(cst (stE l)) : Int)))) ?_
  refine ⟨⟨(0 : Nat), ⟨⟨rfl, rfl, (by omega), trivial⟩, trivial⟩, (by omega)⟩, fun k => fun h2 => ⟨(by simp), fun h3_ => have h3 := dT h3_; ⟨rfl, rfl, (by omega), fun x4 => fun h5 => ⟨fun h6_ => have h6 := dnT h6_; ⟨rfl, rfl, (by omega), fun x7 => fun h8 => ⟨?_, (by unfold InI64; omega), ⟨k + (1 : Nat), ⟨⟨rfl, ?_, (by omega), trivial⟩, trivial⟩, ⟨(by omega), (by omega)⟩⟩⟩⟩, fun h10_ => have h10 := dnF h10_; ⟨(by unfold InI64; omega), ⟨k + (1 : Nat), ⟨⟨rfl, ?_, (by omega), trivial⟩, trivial⟩, ⟨(by omega), (by omega)⟩⟩⟩⟩⟩, fun h12_ => have h12 := dF h12_; ?_⟩⟩
  · have e := same_at h5 h8
    subst e
    have h9 := cst_take h5
    rw [if_neg h6] at h9
    have := hn _ (List.mem_of_getElem? h5)
    have := stE_len l (k + 1)
    have := cst_le (stE (l.take (k + 1)))
    unfold InI64; omega
  · have e := same_at h5 h8
    subst e
    have h9 := cst_take h5
    rw [if_neg h6] at h9
    have := hn _ (List.mem_of_getElem? h5)
    omega
  · have h9 := cst_take h5
    rw [if_pos h10] at h9
    rw [h9]; rfl
  · rw [List.take_of_length_le (by omega)]
end
end Go.Proofs.Ytejajmmacmcijaa
