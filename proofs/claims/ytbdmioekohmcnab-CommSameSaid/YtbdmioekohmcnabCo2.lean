/- Comm: the comparison of two lists. -/
import Derived.Test.YtbdmioekohmcnabCo1
namespace Go.Proofs.Ytbdmioekohmcnab
set_option linter.unusedVariables false
set_option linter.unusedSimpArgs false
set_option maxRecDepth 100000
set_option maxHeartbeats 4000000
/-- two lists, merged -/
def mrg (C : Bs → Bs → Int) : List Bs → List Bs → List CLn
  | [], b => b.map (CLn.mk 2)
  | x :: a, [] => (x :: a).map (CLn.mk 1)
  | x :: a, y :: b => if C x y < 0 then ⟨1, x⟩ :: mrg C a (y :: b) else if 0 < C x y then ⟨2, y⟩ :: mrg C (x :: a) b else ⟨3, x⟩ :: mrg C a b
termination_by a b => a.length + b.length
theorem mrg_nil (C : Bs → Bs → Int) (a : List Bs) : mrg C a [] = a.map (CLn.mk 1) := by
  cases a <;> rw [mrg]; rfl
theorem mrg_len (C : Bs → Bs → Int) : ∀ (n : Nat) (a b : List Bs), a.length + b.length ≤ n → (mrg C a b).length ≤ a.length + b.length
  | _, [], b, _ => by rw [mrg]; simp
  | _, x :: a, [], _ => by rw [mrg]; simp
  | 0, x :: a, y :: b, h => by simp at h
  | n + 1, x :: a, y :: b, h => by
    simp only [List.length_cons] at h
    rw [mrg]
    split
    · have := mrg_len C n a (y :: b) (by simp; omega); simp at this ⊢; omega
    · split
      · have := mrg_len C n (x :: a) b (by simp; omega); simp at this ⊢; omega
      · have := mrg_len C n a b (by omega); simp at this ⊢; omega
section
variable {C : Bs → Bs → Int} {a b : List Bs} {i k : Nat} {x y : Bs}
theorem dropc (h : a[i]? = some x) : a.drop i = x :: a.drop (i + 1) := by
  obtain ⟨hi, rfl⟩ := get_of h
  exact List.drop_eq_getElem_cons hi
theorem mrg_lt (ha : a[i]? = some x) (hb : b[k]? = some y) (h : C x y < 0) : mrg C (a.drop i) (b.drop k) = ⟨1, x⟩ :: mrg C (a.drop (i + 1)) (b.drop k) := by
  rw [dropc ha, dropc hb, mrg, if_pos h]
theorem mrg_gt (ha : a[i]? = some x) (hb : b[k]? = some y) (h : 0 < C x y) : mrg C (a.drop i) (b.drop k) = ⟨2, y⟩ :: mrg C (a.drop i) (b.drop (k + 1)) := by
  rw [dropc ha, dropc hb, mrg, if_neg (by omega), if_pos h]
theorem mrg_eq (ha : a[i]? = some x) (hb : b[k]? = some y) (h : ¬ C x y < 0) (h2 : ¬ 0 < C x y) : mrg C (a.drop i) (b.drop k) = ⟨3, x⟩ :: mrg C (a.drop (i + 1)) (b.drop (k + 1)) := by
  rw [dropc ha, dropc hb, mrg, if_neg h, if_neg h2]
theorem mrg_na (ha : a[i]? = some x) (hb : b.length ≤ k) : mrg C (a.drop i) (b.drop k) = ⟨1, x⟩ :: mrg C (a.drop (i + 1)) (b.drop k) := by
  rw [List.drop_of_length_le hb, mrg_nil, mrg_nil, dropc ha]; rfl
theorem mrg_nb (ha : a.length ≤ i) (hb : b[k]? = some y) : mrg C (a.drop i) (b.drop k) = ⟨2, y⟩ :: mrg C (a.drop i) (b.drop (k + 1)) := by
  rw [List.drop_of_length_le ha, mrg, mrg, dropc hb]; rfl
theorem mrg_end (h : a.length ≤ i ∨ b.length ≤ k) : mrg C (a.drop i) (b.drop k) = (a.drop i).map (CLn.mk 1) ++ (b.drop k).map (CLn.mk 2) := by
  rcases h with h | h
  · rw [List.drop_of_length_le h, mrg]; rfl
  · rw [List.drop_of_length_le h, mrg_nil]; simp
end
theorem map_cl (out : List CLn) (n : Int) (x : Bs) : out.map encCL ++ [AV.agg [.val (.int .i64 n), .val (.string (ofL x))]] = (out ++ [(⟨n, x⟩ : CLn)]).map encCL := by rw [List.map_append]; rfl
def unsB (C : Bs → Bs → Int) (a : List Bs) (j : Nat) : Bool := decide (0 < C (a.getD j []) (a.getD (j + 1) []))
/-- the first line that is out of order -/
def uns (C : Bs → Bs → Int) (a : List Bs) : Int := match (List.range (a.length - 1)).find? (unsB C a) with
  | some j => ((j + 1 : Nat) : Int)
  | none => -1
theorem find_hit {α : Type} {p : α → Bool} {l : List α} {k : Nat} {x : α} (h : l[k]? = some x) (hn : ∀ y ∈ l.take k, ¬ p y = true) (hx : p x = true) : l.find? p = some x := by
  obtain ⟨hk, rfl⟩ := get_of h
  have e : l = l.take k ++ l[k] :: l.drop (k + 1) := by rw [← List.drop_eq_getElem_cons hk, List.take_append_drop]
  have h1 : (l.take k).find? p = none := List.find?_eq_none.2 hn
  refine (congrArg (List.find? p) e).trans ?_
  rw [List.find?_append, h1, List.find?_cons, hx]; rfl
theorem uns_hit {C : Bs → Bs → Int} {a : List Bs} {j : Nat} {x y : Bs} (hx : a[j]? = some x) (hy : a[j + 1]? = some y) (h : 0 < C x y) (hn : ∀ i, i < j → unsB C a i = false) : ((j + 1 : Nat) : Int) = uns C a := by
  have hj : j < a.length - 1 := by have := (List.getElem?_eq_some_iff.1 hy).1; omega
  have e : (List.range (a.length - 1)).find? (unsB C a) = some j := find_hit (k := j) (List.getElem?_range hj) (fun i hi => by
    rw [List.take_range] at hi
    have := List.mem_range.1 hi
    rw [hn i (by omega)]; simp) (by unfold unsB; rw [getD_of hx, getD_of hy]; exact decide_eq_true h)
  unfold uns; rw [e]
theorem uns_none {C : Bs → Bs → Int} {a : List Bs} {k : Nat} (hk : a.length ≤ k + 1) (hn : ∀ i, i < k → unsB C a i = false) : -1 = uns C a := by
  have e : (List.range (a.length - 1)).find? (unsB C a) = none := List.find?_eq_none.2 fun i hi => by
    have := List.mem_range.1 hi
    rw [hn i (by omega)]; simp
  unfold uns; rw [e]
theorem uns_next {C : Bs → Bs → Int} {a : List Bs} {k : Nat} {x y : Bs} (hx : a[k]? = some x) (hy : a[k + 1]? = some y) (h : ¬ 0 < C x y) (hn : ∀ i, i < k → unsB C a i = false) : ∀ i, i < k + 1 → unsB C a i = false := fun i hi => by
  by_cases e : i = k
  · subst e; unfold unsB; rw [getD_of hx, getD_of hy]; exact decide_eq_false h
  · exact hn i (by omega)
def CmpOk (X : CallF) (f : FuncId) (l : Loc) (C : Bs → Bs → Int) : Prop := ∀ x y : Bs, x.length ≤ 1048576 → y.length ≤ 1048576 → (R FT X).f f [encLoc l, strL x, strL y] = some (intA (C x y))
section
variable {X : CallF}
theorem uns_run (l : Loc) (a : List Bs) (C : Bs → Bs → Int) (hC : ∀ x y : Bs, x.length ≤ 1048576 → y.length ≤ 1048576 → (R FT X).f 14 [encLoc l, strL x, strL y] = some (intA (C x y))) (ha : a.length ≤ 30) (hb : ∀ x ∈ a, x.length ≤ 40) : (R FT X).f 12 [encLoc l, .slice 1 (a.map strL)] = some (intA (uns C a)) := by
  refine R_wp ((Tr.inv (fun (k : Nat) ↦ St.mk [((1 : Nat), AV.slice (1 : Nat) (List.map strL a)), ((2 : Nat), AV.ptr (0 : Nat) (0 : Nat)), ((5 : Nat), intA (↑(k + (1 : Nat)) : Int))] [MObj.box [strL l.name, AV.slice (1 : Nat) (List.map intA l.weights), strL l.lower, strL l.upper, AV.slice (5 : Nat) (List.map encCls l.classes), AV.slice (2 : Nat) (List.map encEl l.elements)]]) (fun (k : Nat) ↦ k ≤ a.length ∧ ∀ (j : Nat), j < k → unsB C a j = false) (fun (k : Nat) ↦ a.length - k) fun (k : Nat) ↦ (Tr.k a.length ((Tr.ix strL a ((↑(k + (1 : Nat)) : Int) - (1 : Int)).toNat fun (x6 : Bs) ↦ Tr.ix strL a (k + (1 : Nat)) fun (x8 : Bs) ↦ Tr.c (intA (C x6 x8)) (Tr.nil.br Tr.nil.w).w).w.w.w.br Tr.nil)).w).w) rfl ?_
  refine Eq.mpr (by kernel_rfl : _ = ((∃ (j1 : Nat), ((List.map strL a = List.map strL a ∧ True ∧ (1 : Int) = (↑(j1 + (1 : Nat)) : Int) ∧ True) ∧ l.name = l.name ∧ List.map intA l.weights = List.map intA l.weights ∧ l.lower = l.lower ∧ l.upper = l.upper ∧ List.map encCls l.classes = List.map encCls l.classes ∧ List.map encEl l.elements = List.map encEl l.elements) ∧ j1 ≤ a.length ∧ ∀ (j2 : Nat), j2 < j1 → unsB C a j2 = false) ∧ ∀ (k : Nat), (k ≤ a.length ∧ ∀ (j : Nat), j < k → unsB C a j = false) → (List.map strL a).length = a.length ∧ (decide ((↑(k + (1 : Nat)) : Int) < (↑a.length : Int)) = true → InI64 ((↑(k + (1 : Nat)) : Int) - (1 : Int)) ∧ List.map strL a = List.map strL a ∧ (↑(k + (1 : Nat)) : Int) - (1 : Int) = (↑((↑(k + (1 : Nat)) : Int) - (1 : Int)).toNat : Int) ∧ ((↑(k + (1 : Nat)) : Int) - (1 : Int)).toNat < a.length ∧ ∀ (x6 : Bs), a[((↑(k + (1 : Nat)) : Int) - (1 : Int)).toNat]? = some x6 → List.map strL a = List.map strL a ∧ (↑(k + (1 : Nat)) : Int) = (↑(k + (1 : Nat)) : Int) ∧ k + (1 : Nat) < a.length ∧ ∀ (x8 : Bs), a[k + (1 : Nat)]? = some x8 → (R FT X).f (14 : FuncId) [AV.agg [strL l.name, AV.slice (1 : Nat) (List.map intA l.weights), strL l.lower, strL l.upper, AV.slice (5 : Nat) (List.map encCls l.classes), AV.slice (2 : Nat) (List.map encEl l.elements)], AV.val (Value.string (ofL x6)), AV.val (Value.string (ofL x8))] = some (intA (C x6 x8)) ∧ (decide ((0 : Int) < C x6 x8) = true → (↑(k + (1 : Nat)) : Int) = uns C a) ∧ (decide ((0 : Int) < C x6 x8) = false → InI64 ((↑(k + (1 : Nat)) : Int) + (1 : Int)) ∧ ∃ (j12 : Nat), ((List.map strL a = List.map strL a ∧ True ∧ (↑(k + (1 : Nat)) : Int) + (1 : Int) = (↑(j12 + (1 : Nat)) : Int) ∧ True) ∧ l.name = l.name ∧ List.map intA l.weights = List.map intA l.weights ∧ l.lower = l.lower ∧ l.upper = l.upper ∧ List.map encCls l.classes = List.map encCls l.classes ∧ List.map encEl l.elements = List.map encEl l.elements) ∧ (j12 ≤ a.length ∧ ∀ (j13 : Nat), j13 < j12 → unsB C a j13 = false) ∧ a.length - j12 < a.length - k)) ∧ (decide ((↑(k + (1 : Nat)) : Int) < (↑a.length : Int)) = false → (-1 : Int) = uns C a))) ?_
  refine ⟨?_, fun k => fun h4 => have h4a := h4.1; have h4b := h4.2; ⟨(by simp), fun h5_ => have h5 := dT h5_; ⟨(by unfold InI64; omega), rfl, (by omega), (by omega), fun x6 => fun h7 => ⟨rfl, rfl, (by omega), fun x8 => fun h9 => ⟨(hC _ _ ?_ ?_), fun h10_ => have h10 := dT h10_; ?_, fun h11_ => have h11 := dF h11_; ⟨(by unfold InI64; omega), ?_⟩⟩⟩⟩, fun h15_ => have h15 := dF h15_; ?_⟩⟩
  · exact ⟨0, ⟨⟨rfl, trivial, rfl, trivial⟩, rfl, rfl, rfl, rfl, rfl, rfl⟩, Nat.zero_le _, fun j hj => absurd hj (by omega)⟩
  · exact Nat.le_trans (hb _ (List.mem_of_getElem? h7)) (by omega)
  · exact Nat.le_trans (hb _ (List.mem_of_getElem? h9)) (by omega)
  all_goals try rw [show ((((k + 1 : Nat) : Int) - 1).toNat) = k by omega] at h7
  · exact uns_hit h7 h9 h10 h4b
  · exact ⟨k + 1, ⟨⟨rfl, trivial, rfl, trivial⟩, rfl, rfl, rfl, rfl, rfl, rfl⟩, ⟨by omega, uns_next h7 h9 h11 h4b⟩, by omega⟩
  · exact uns_none (by omega) h4b
theorem comm_run (l : Loc) (a b : List Bs) (C : Bs → Bs → Int) (hC : ∀ x y : Bs, x.length ≤ 1048576 → y.length ≤ 1048576 → (R FT X).f 14 [encLoc l, strL x, strL y] = some (intA (C x y))) (ha : a.length ≤ 30) (hb : b.length ≤ 30) (hal : ∀ x ∈ a, x.length ≤ 40) (hbl : ∀ x ∈ b, x.length ≤ 40) : (R FT X).f 7 [encLoc l, .slice 1 (a.map strL), .slice 1 (b.map strL)] = some (.slice 2 ((mrg C a b).map encCL)) := by
  refine R_wp ((Tr.inv (fun (p : Nat × Nat × List CLn) ↦ St.mk [((1 : Nat), AV.slice (1 : Nat) (List.map strL a)), ((2 : Nat), AV.slice (1 : Nat) (List.map strL b)), ((3 : Nat), AV.ptr (0 : Nat) (0 : Nat)), ((7 : Nat), AV.ptr (2 : Nat) (0 : Nat)), ((8 : Nat), AV.fn (Fn.func (13 : FuncId)) [] [AV.ptr (2 : Nat) (0 : Nat)]), ((9 : Nat), intA (↑p.fst : Int)), ((10 : Nat), intA (↑p.snd.fst : Int))] [MObj.box [strL l.name, AV.slice (1 : Nat) (List.map intA l.weights), strL l.lower, strL l.upper, AV.slice (5 : Nat) (List.map encCls l.classes), AV.slice (2 : Nat) (List.map encEl l.elements)], MObj.row (0 : Nat) (2 : Nat) (List.map encCL p.snd.snd) true true, MObj.box [AV.row (1 : Nat) (0 : Nat) p.snd.snd.length (0 : Nat) p.snd.snd.length]]) (fun (p : Nat × Nat × List CLn) ↦ p.fst ≤ a.length ∧ p.snd.fst ≤ b.length ∧ p.snd.snd.length ≤ p.fst + p.snd.fst ∧ mrg C a b = p.snd.snd ++ mrg C (List.drop p.fst a) (List.drop p.snd.fst b)) (fun (p : Nat × Nat × List CLn) ↦ a.length + b.length - p.fst - p.snd.fst) fun (p : Nat × Nat × List CLn) ↦
    (Tr.k a.length
            ((Tr.b true (Tr.sl p.fst (List.map strL a).length (Tr.k (List.drop p.fst (List.take (List.map strL a).length (List.map strL a))).length (Tr.inv (fun (q : Nat × Nat × Nat × List CLn) ↦ St.mk [((2 : Nat), AV.slice (1 : Nat) (List.map strL b)), ((7 : Nat), AV.ptr (2 : Nat) (0 : Nat)), ((8 : Nat), AV.fn (Fn.func (13 : FuncId)) [] [AV.ptr (2 : Nat) (0 : Nat)]), ((10 : Nat), intA (↑q.snd.fst : Int)), ((79 : Nat), AV.slice (1 : Nat) (List.map strL (List.drop q.fst a))), ((80 : Nat), intA (↑(List.drop q.fst a).length : Int)), ((81 : Nat), intA (↑q.snd.snd.fst : Int))] [MObj.box [strL l.name, AV.slice (1 : Nat) (List.map intA l.weights), strL l.lower, strL l.upper, AV.slice (5 : Nat) (List.map encCls l.classes), AV.slice (2 : Nat) (List.map encEl l.elements)], MObj.row (0 : Nat) (2 : Nat) (List.map encCL q.snd.snd.snd) true true, MObj.box [AV.row (1 : Nat) (0 : Nat) q.snd.snd.snd.length (0 : Nat) q.snd.snd.snd.length]]) (fun (q : Nat × Nat × Nat × List CLn) ↦ q.fst ≤ a.length ∧ q.snd.fst ≤ b.length ∧ q.snd.snd.fst ≤ (List.drop q.fst a).length ∧ q.snd.snd.snd.length ≤ q.fst + q.snd.fst + q.snd.snd.fst ∧ mrg C a b = q.snd.snd.snd ++ List.map (CLn.mk (1 : Int)) (List.drop q.snd.snd.fst (List.drop q.fst a)) ++ List.map (CLn.mk (2 : Int)) (List.drop q.snd.fst b)) (fun (q : Nat × Nat × Nat × List CLn) ↦ (List.drop q.fst a).length - q.snd.snd.fst) fun (q : Nat × Nat × Nat × List CLn) ↦ (Tr.ix strL (List.drop q.fst a) q.snd.snd.fst fun (x7 : Bs) ↦ (Tr.k (q.snd.snd.snd.length + (1 : Nat)) Tr.nil.w).inl).w.br (Tr.sl q.snd.fst (List.map strL b).length (Tr.k (List.drop q.snd.fst (List.take (List.map strL b).length (List.map strL b))).length (Tr.inv (fun (r : Nat × Nat × List CLn) ↦ St.mk [((7 : Nat), AV.ptr (2 : Nat) (0 : Nat)), ((8 : Nat), AV.fn (Fn.func (13 : FuncId)) [] [AV.ptr (2 : Nat) (0 : Nat)]), ((91 : Nat), AV.slice (1 : Nat) (List.map strL (List.drop r.fst b))), ((92 : Nat), intA (↑(List.drop r.fst b).length : Int)), ((93 : Nat), intA (↑r.snd.fst : Int))] [MObj.box [strL l.name, AV.slice (1 : Nat) (List.map intA l.weights), strL l.lower, strL l.upper, AV.slice (5 : Nat) (List.map encCls l.classes), AV.slice (2 : Nat) (List.map encEl l.elements)], MObj.row (0 : Nat) (2 : Nat) (List.map encCL r.snd.snd) true true, MObj.box [AV.row (1 : Nat) (0 : Nat) r.snd.snd.length (0 : Nat) r.snd.snd.length]]) (fun (r : Nat × Nat × List CLn) ↦ r.fst ≤ b.length ∧ r.snd.fst ≤ (List.drop r.fst b).length ∧ r.snd.snd.length ≤ a.length + r.fst + r.snd.fst ∧ mrg C a b = r.snd.snd ++ List.map (CLn.mk (2 : Int)) (List.drop r.snd.fst (List.drop r.fst b))) (fun (r : Nat × Nat × List CLn) ↦ (List.drop r.fst b).length - r.snd.fst) fun (r : Nat × Nat × List CLn) ↦ (Tr.ix strL (List.drop r.fst b) r.snd.fst fun (x14 : Bs) ↦ (Tr.k (r.snd.snd.length + (1 : Nat)) Tr.nil.w).inl).w.br (Tr.g (List.map encCL r.snd.snd) Tr.nil)).w))).w))).w.br
              (Tr.k b.length
                ((Tr.sl p.fst (List.map strL a).length (Tr.k (List.drop p.fst (List.take (List.map strL a).length (List.map strL a))).length (Tr.inv (fun (q : Nat × Nat × Nat × List CLn) ↦ St.mk [((2 : Nat), AV.slice (1 : Nat) (List.map strL b)), ((7 : Nat), AV.ptr (2 : Nat) (0 : Nat)), ((8 : Nat), AV.fn (Fn.func (13 : FuncId)) [] [AV.ptr (2 : Nat) (0 : Nat)]), ((10 : Nat), intA (↑q.snd.fst : Int)), ((79 : Nat), AV.slice (1 : Nat) (List.map strL (List.drop q.fst a))), ((80 : Nat), intA (↑(List.drop q.fst a).length : Int)), ((81 : Nat), intA (↑q.snd.snd.fst : Int))] [MObj.box [strL l.name, AV.slice (1 : Nat) (List.map intA l.weights), strL l.lower, strL l.upper, AV.slice (5 : Nat) (List.map encCls l.classes), AV.slice (2 : Nat) (List.map encEl l.elements)], MObj.row (0 : Nat) (2 : Nat) (List.map encCL q.snd.snd.snd) true true, MObj.box [AV.row (1 : Nat) (0 : Nat) q.snd.snd.snd.length (0 : Nat) q.snd.snd.snd.length]]) (fun (q : Nat × Nat × Nat × List CLn) ↦ q.fst ≤ a.length ∧ q.snd.fst ≤ b.length ∧ q.snd.snd.fst ≤ (List.drop q.fst a).length ∧ q.snd.snd.snd.length ≤ q.fst + q.snd.fst + q.snd.snd.fst ∧ mrg C a b = q.snd.snd.snd ++ List.map (CLn.mk (1 : Int)) (List.drop q.snd.snd.fst (List.drop q.fst a)) ++ List.map (CLn.mk (2 : Int)) (List.drop q.snd.fst b)) (fun (q : Nat × Nat × Nat × List CLn) ↦ (List.drop q.fst a).length - q.snd.snd.fst) fun (q : Nat × Nat × Nat × List CLn) ↦ (Tr.ix strL (List.drop q.fst a) q.snd.snd.fst fun (x23 : Bs) ↦ (Tr.k (q.snd.snd.snd.length + (1 : Nat)) Tr.nil.w).inl).w.br (Tr.sl q.snd.fst (List.map strL b).length (Tr.k (List.drop q.snd.fst (List.take (List.map strL b).length (List.map strL b))).length (Tr.inv (fun (r : Nat × Nat × List CLn) ↦ St.mk [((7 : Nat), AV.ptr (2 : Nat) (0 : Nat)), ((8 : Nat), AV.fn (Fn.func (13 : FuncId)) [] [AV.ptr (2 : Nat) (0 : Nat)]), ((91 : Nat), AV.slice (1 : Nat) (List.map strL (List.drop r.fst b))), ((92 : Nat), intA (↑(List.drop r.fst b).length : Int)), ((93 : Nat), intA (↑r.snd.fst : Int))] [MObj.box [strL l.name, AV.slice (1 : Nat) (List.map intA l.weights), strL l.lower, strL l.upper, AV.slice (5 : Nat) (List.map encCls l.classes), AV.slice (2 : Nat) (List.map encEl l.elements)], MObj.row (0 : Nat) (2 : Nat) (List.map encCL r.snd.snd) true true, MObj.box [AV.row (1 : Nat) (0 : Nat) r.snd.snd.length (0 : Nat) r.snd.snd.length]]) (fun (r : Nat × Nat × List CLn) ↦ r.fst ≤ b.length ∧ r.snd.fst ≤ (List.drop r.fst b).length ∧ r.snd.snd.length ≤ a.length + r.fst + r.snd.fst ∧ mrg C a b = r.snd.snd ++ List.map (CLn.mk (2 : Int)) (List.drop r.snd.fst (List.drop r.fst b))) (fun (r : Nat × Nat × List CLn) ↦ (List.drop r.fst b).length - r.snd.fst) fun (r : Nat × Nat × List CLn) ↦ (Tr.ix strL (List.drop r.fst b) r.snd.fst fun (x30 : Bs) ↦ (Tr.k (r.snd.snd.length + (1 : Nat)) Tr.nil.w).inl).w.br (Tr.g (List.map encCL r.snd.snd) Tr.nil)).w))).w)).br
                    (Tr.ix strL a p.fst fun (x35 : Bs) ↦ Tr.ix strL b p.snd.fst fun (x37 : Bs) ↦ Tr.c (intA (C x35 x37)) ((Tr.ix strL a p.fst fun (x40 : Bs) ↦ (Tr.k (p.snd.snd.length + (1 : Nat)) Tr.nil.w).inl).br (Tr.ix strL a p.fst fun (x44 : Bs) ↦ Tr.ix strL b p.snd.fst fun (x46 : Bs) ↦ Tr.c (intA (C x44 x46)) ((Tr.ix strL b p.snd.fst fun (x49 : Bs) ↦ (Tr.k (p.snd.snd.length + (1 : Nat)) Tr.nil.w).inl).br (Tr.ix strL a p.fst fun (x53 : Bs) ↦ (Tr.k (p.snd.snd.length + (1 : Nat)) Tr.nil.w.w).inl)).w).w).w).w).w))).w.w.w).w) rfl ?_
  refine Eq.mpr (by kernel_rfl : _ = ((∃ (j1 : Nat × Nat × List CLn), ((List.map strL a = List.map strL a ∧ List.map strL b = List.map strL b ∧ True ∧ True ∧ AV.fn (Fn.func (13 : FuncId)) [] [AV.ptr (2 : Nat) (0 : Nat)] = AV.fn (Fn.func (13 : FuncId)) [] [AV.ptr (2 : Nat) (0 : Nat)] ∧ (0 : Int) = (↑j1.fst : Int) ∧ (0 : Int) = (↑j1.snd.fst : Int) ∧ True) ∧ (l.name = l.name ∧ List.map intA l.weights = List.map intA l.weights ∧ l.lower = l.lower ∧ l.upper = l.upper ∧ List.map encCls l.classes = List.map encCls l.classes ∧ List.map encEl l.elements = List.map encEl l.elements) ∧ [] = List.map encCL j1.snd.snd ∧ (0 : Nat) = j1.snd.snd.length ∧ (0 : Nat) = (0 : Nat) ∧ (0 : Nat) = j1.snd.snd.length) ∧ j1.fst ≤ a.length ∧ j1.snd.fst ≤ b.length ∧ j1.snd.snd.length ≤ j1.fst + j1.snd.fst ∧ mrg C a b = j1.snd.snd ++ mrg C (List.drop j1.fst a) (List.drop j1.snd.fst b)) ∧
  ∀ (p : Nat × Nat × List CLn),
    p.fst ≤ a.length ∧ p.snd.fst ≤ b.length ∧ p.snd.snd.length ≤ p.fst + p.snd.fst ∧ mrg C a b = p.snd.snd ++ mrg C (List.drop p.fst a) (List.drop p.snd.fst b) →
      (List.map strL a).length = a.length ∧
        (decide ((↑p.fst : Int) = (↑a.length : Int)) = true →
            true = true ∧
              (↑p.fst : Int) = (↑p.fst : Int) ∧
                (↑(List.map strL a).length : Int) = (↑(List.map strL a).length : Int) ∧
                  p.fst ≤ (List.map strL a).length ∧
                    (List.map strL a).length ≤ (List.map strL a).length ∧
                      (List.drop p.fst (List.take (List.map strL a).length (List.map strL a))).length = (List.drop p.fst (List.take (List.map strL a).length (List.map strL a))).length ∧
                        (∃ (j4 : Nat × Nat × Nat × List CLn), ((List.map strL b = List.map strL b ∧ True ∧ AV.fn (Fn.func (13 : FuncId)) [] [AV.ptr (2 : Nat) (0 : Nat)] = AV.fn (Fn.func (13 : FuncId)) [] [AV.ptr (2 : Nat) (0 : Nat)] ∧ (↑p.snd.fst : Int) = (↑j4.snd.fst : Int) ∧ List.drop p.fst (List.take (List.map strL a).length (List.map strL a)) = List.map strL (List.drop j4.fst a) ∧ (↑(List.drop p.fst (List.take (List.map strL a).length (List.map strL a))).length : Int) = (↑(List.drop j4.fst a).length : Int) ∧ (0 : Int) = (↑j4.snd.snd.fst : Int) ∧ True) ∧ (l.name = l.name ∧ List.map intA l.weights = List.map intA l.weights ∧ l.lower = l.lower ∧ l.upper = l.upper ∧ List.map encCls l.classes = List.map encCls l.classes ∧ List.map encEl l.elements = List.map encEl l.elements) ∧ List.map encCL p.snd.snd = List.map encCL j4.snd.snd.snd ∧ p.snd.snd.length = j4.snd.snd.snd.length ∧ (0 : Nat) = (0 : Nat) ∧ p.snd.snd.length = j4.snd.snd.snd.length) ∧ j4.fst ≤ a.length ∧ j4.snd.fst ≤ b.length ∧ j4.snd.snd.fst ≤ (List.drop j4.fst a).length ∧ j4.snd.snd.snd.length ≤ j4.fst + j4.snd.fst + j4.snd.snd.fst ∧ mrg C a b = j4.snd.snd.snd ++ List.map (CLn.mk (1 : Int)) (List.drop j4.snd.snd.fst (List.drop j4.fst a)) ++ List.map (CLn.mk (2 : Int)) (List.drop j4.snd.fst b)) ∧
                          ∀ (q : Nat × Nat × Nat × List CLn),
                            q.fst ≤ a.length ∧ q.snd.fst ≤ b.length ∧ q.snd.snd.fst ≤ (List.drop q.fst a).length ∧ q.snd.snd.snd.length ≤ q.fst + q.snd.fst + q.snd.snd.fst ∧ mrg C a b = q.snd.snd.snd ++ List.map (CLn.mk (1 : Int)) (List.drop q.snd.snd.fst (List.drop q.fst a)) ++ List.map (CLn.mk (2 : Int)) (List.drop q.snd.fst b) →
                              (decide ((↑q.snd.snd.fst : Int) < (↑(List.drop q.fst a).length : Int)) = true → List.map strL (List.drop q.fst a) = List.map strL (List.drop q.fst a) ∧ (↑q.snd.snd.fst : Int) = (↑q.snd.snd.fst : Int) ∧ q.snd.snd.fst < (List.drop q.fst a).length ∧ ∀ (x7 : Bs), (List.drop q.fst a)[q.snd.snd.fst]? = some x7 → (List.map encCL q.snd.snd.snd).length = q.snd.snd.snd.length ∧ (0 : Nat) = (0 : Nat) ∧ q.snd.snd.snd.length = q.snd.snd.snd.length ∧ q.snd.snd.snd.length + [AV.agg [AV.val (Value.int IntKind.i64 (1 : Int)), AV.val (Value.string (ofL x7))]].length = q.snd.snd.snd.length + (1 : Nat) ∧ (q.snd.snd.snd.length + (1 : Nat)) * (24 : Nat) ≤ (140737488355328 : Nat) ∧ q.snd.snd.snd.length + (1 : Nat) ≤ (9223372036854775807 : Nat) ∧ InI64 ((↑q.snd.snd.fst : Int) + (1 : Int)) ∧ ∃ (j9 : Nat × Nat × Nat × List CLn), ((List.map strL b = List.map strL b ∧ True ∧ AV.fn (Fn.func (13 : FuncId)) [] [AV.ptr (2 : Nat) (0 : Nat)] = AV.fn (Fn.func (13 : FuncId)) [] [AV.ptr (2 : Nat) (0 : Nat)] ∧ (↑q.snd.fst : Int) = (↑j9.snd.fst : Int) ∧ List.map strL (List.drop q.fst a) = List.map strL (List.drop j9.fst a) ∧ (↑(List.drop q.fst a).length : Int) = (↑(List.drop j9.fst a).length : Int) ∧ (↑q.snd.snd.fst : Int) + (1 : Int) = (↑j9.snd.snd.fst : Int) ∧ True) ∧ (l.name = l.name ∧ List.map intA l.weights = List.map intA l.weights ∧ l.lower = l.lower ∧ l.upper = l.upper ∧ List.map encCls l.classes = List.map encCls l.classes ∧ List.map encEl l.elements = List.map encEl l.elements) ∧ List.map encCL q.snd.snd.snd ++ [AV.agg [AV.val (Value.int IntKind.i64 (1 : Int)), AV.val (Value.string (ofL x7))]] = List.map encCL j9.snd.snd.snd ∧ q.snd.snd.snd.length + (1 : Nat) = j9.snd.snd.snd.length ∧ (0 : Nat) = (0 : Nat) ∧ q.snd.snd.snd.length + (1 : Nat) = j9.snd.snd.snd.length) ∧ (j9.fst ≤ a.length ∧ j9.snd.fst ≤ b.length ∧ j9.snd.snd.fst ≤ (List.drop j9.fst a).length ∧ j9.snd.snd.snd.length ≤ j9.fst + j9.snd.fst + j9.snd.snd.fst ∧ mrg C a b = j9.snd.snd.snd ++ List.map (CLn.mk (1 : Int)) (List.drop j9.snd.snd.fst (List.drop j9.fst a)) ++ List.map (CLn.mk (2 : Int)) (List.drop j9.snd.fst b)) ∧ (List.drop j9.fst a).length - j9.snd.snd.fst < (List.drop q.fst a).length - q.snd.snd.fst) ∧
                                (decide ((↑q.snd.snd.fst : Int) < (↑(List.drop q.fst a).length : Int)) = false →
                                  (↑q.snd.fst : Int) = (↑q.snd.fst : Int) ∧
                                    (↑(List.map strL b).length : Int) = (↑(List.map strL b).length : Int) ∧
                                      q.snd.fst ≤ (List.map strL b).length ∧
                                        (List.map strL b).length ≤ (List.map strL b).length ∧
                                          (List.drop q.snd.fst (List.take (List.map strL b).length (List.map strL b))).length = (List.drop q.snd.fst (List.take (List.map strL b).length (List.map strL b))).length ∧
                                            (∃ (j11 : Nat × Nat × List CLn), ((True ∧ AV.fn (Fn.func (13 : FuncId)) [] [AV.ptr (2 : Nat) (0 : Nat)] = AV.fn (Fn.func (13 : FuncId)) [] [AV.ptr (2 : Nat) (0 : Nat)] ∧ List.drop q.snd.fst (List.take (List.map strL b).length (List.map strL b)) = List.map strL (List.drop j11.fst b) ∧ (↑(List.drop q.snd.fst (List.take (List.map strL b).length (List.map strL b))).length : Int) = (↑(List.drop j11.fst b).length : Int) ∧ (0 : Int) = (↑j11.snd.fst : Int) ∧ True) ∧ (l.name = l.name ∧ List.map intA l.weights = List.map intA l.weights ∧ l.lower = l.lower ∧ l.upper = l.upper ∧ List.map encCls l.classes = List.map encCls l.classes ∧ List.map encEl l.elements = List.map encEl l.elements) ∧ List.map encCL q.snd.snd.snd = List.map encCL j11.snd.snd ∧ q.snd.snd.snd.length = j11.snd.snd.length ∧ (0 : Nat) = (0 : Nat) ∧ q.snd.snd.snd.length = j11.snd.snd.length) ∧ j11.fst ≤ b.length ∧ j11.snd.fst ≤ (List.drop j11.fst b).length ∧ j11.snd.snd.length ≤ a.length + j11.fst + j11.snd.fst ∧ mrg C a b = j11.snd.snd ++ List.map (CLn.mk (2 : Int)) (List.drop j11.snd.fst (List.drop j11.fst b))) ∧
                                              ∀ (r : Nat × Nat × List CLn), r.fst ≤ b.length ∧ r.snd.fst ≤ (List.drop r.fst b).length ∧ r.snd.snd.length ≤ a.length + r.fst + r.snd.fst ∧ mrg C a b = r.snd.snd ++ List.map (CLn.mk (2 : Int)) (List.drop r.snd.fst (List.drop r.fst b)) → (decide ((↑r.snd.fst : Int) < (↑(List.drop r.fst b).length : Int)) = true → List.map strL (List.drop r.fst b) = List.map strL (List.drop r.fst b) ∧ (↑r.snd.fst : Int) = (↑r.snd.fst : Int) ∧ r.snd.fst < (List.drop r.fst b).length ∧ ∀ (x14 : Bs), (List.drop r.fst b)[r.snd.fst]? = some x14 → (List.map encCL r.snd.snd).length = r.snd.snd.length ∧ (0 : Nat) = (0 : Nat) ∧ r.snd.snd.length = r.snd.snd.length ∧ r.snd.snd.length + [AV.agg [AV.val (Value.int IntKind.i64 (2 : Int)), AV.val (Value.string (ofL x14))]].length = r.snd.snd.length + (1 : Nat) ∧ (r.snd.snd.length + (1 : Nat)) * (24 : Nat) ≤ (140737488355328 : Nat) ∧ r.snd.snd.length + (1 : Nat) ≤ (9223372036854775807 : Nat) ∧ InI64 ((↑r.snd.fst : Int) + (1 : Int)) ∧ ∃ (j16 : Nat × Nat × List CLn), ((True ∧ AV.fn (Fn.func (13 : FuncId)) [] [AV.ptr (2 : Nat) (0 : Nat)] = AV.fn (Fn.func (13 : FuncId)) [] [AV.ptr (2 : Nat) (0 : Nat)] ∧ List.map strL (List.drop r.fst b) = List.map strL (List.drop j16.fst b) ∧ (↑(List.drop r.fst b).length : Int) = (↑(List.drop j16.fst b).length : Int) ∧ (↑r.snd.fst : Int) + (1 : Int) = (↑j16.snd.fst : Int) ∧ True) ∧ (l.name = l.name ∧ List.map intA l.weights = List.map intA l.weights ∧ l.lower = l.lower ∧ l.upper = l.upper ∧ List.map encCls l.classes = List.map encCls l.classes ∧ List.map encEl l.elements = List.map encEl l.elements) ∧ List.map encCL r.snd.snd ++ [AV.agg [AV.val (Value.int IntKind.i64 (2 : Int)), AV.val (Value.string (ofL x14))]] = List.map encCL j16.snd.snd ∧ r.snd.snd.length + (1 : Nat) = j16.snd.snd.length ∧ (0 : Nat) = (0 : Nat) ∧ r.snd.snd.length + (1 : Nat) = j16.snd.snd.length) ∧ (j16.fst ≤ b.length ∧ j16.snd.fst ≤ (List.drop j16.fst b).length ∧ j16.snd.snd.length ≤ a.length + j16.fst + j16.snd.fst ∧ mrg C a b = j16.snd.snd ++ List.map (CLn.mk (2 : Int)) (List.drop j16.snd.fst (List.drop j16.fst b))) ∧ (List.drop j16.fst b).length - j16.snd.fst < (List.drop r.fst b).length - r.snd.fst) ∧ (decide ((↑r.snd.fst : Int) < (↑(List.drop r.fst b).length : Int)) = false → (List.map encCL r.snd.snd).length = r.snd.snd.length ∧ List.take r.snd.snd.length (List.drop (0 : Nat) (List.map encCL r.snd.snd)) = List.map encCL r.snd.snd ∧ List.map encCL r.snd.snd = List.map encCL (mrg C a b)))) ∧
          (decide ((↑p.fst : Int) = (↑a.length : Int)) = false →
            (List.map strL b).length = b.length ∧
              (decide ((↑p.snd.fst : Int) = (↑b.length : Int)) = true →
                  (↑p.fst : Int) = (↑p.fst : Int) ∧
                    (↑(List.map strL a).length : Int) = (↑(List.map strL a).length : Int) ∧
                      p.fst ≤ (List.map strL a).length ∧
                        (List.map strL a).length ≤ (List.map strL a).length ∧
                          (List.drop p.fst (List.take (List.map strL a).length (List.map strL a))).length = (List.drop p.fst (List.take (List.map strL a).length (List.map strL a))).length ∧
                            (∃ (j20 : Nat × Nat × Nat × List CLn), ((List.map strL b = List.map strL b ∧ True ∧ AV.fn (Fn.func (13 : FuncId)) [] [AV.ptr (2 : Nat) (0 : Nat)] = AV.fn (Fn.func (13 : FuncId)) [] [AV.ptr (2 : Nat) (0 : Nat)] ∧ (↑p.snd.fst : Int) = (↑j20.snd.fst : Int) ∧ List.drop p.fst (List.take (List.map strL a).length (List.map strL a)) = List.map strL (List.drop j20.fst a) ∧ (↑(List.drop p.fst (List.take (List.map strL a).length (List.map strL a))).length : Int) = (↑(List.drop j20.fst a).length : Int) ∧ (0 : Int) = (↑j20.snd.snd.fst : Int) ∧ True) ∧ (l.name = l.name ∧ List.map intA l.weights = List.map intA l.weights ∧ l.lower = l.lower ∧ l.upper = l.upper ∧ List.map encCls l.classes = List.map encCls l.classes ∧ List.map encEl l.elements = List.map encEl l.elements) ∧ List.map encCL p.snd.snd = List.map encCL j20.snd.snd.snd ∧ p.snd.snd.length = j20.snd.snd.snd.length ∧ (0 : Nat) = (0 : Nat) ∧ p.snd.snd.length = j20.snd.snd.snd.length) ∧ j20.fst ≤ a.length ∧ j20.snd.fst ≤ b.length ∧ j20.snd.snd.fst ≤ (List.drop j20.fst a).length ∧ j20.snd.snd.snd.length ≤ j20.fst + j20.snd.fst + j20.snd.snd.fst ∧ mrg C a b = j20.snd.snd.snd ++ List.map (CLn.mk (1 : Int)) (List.drop j20.snd.snd.fst (List.drop j20.fst a)) ++ List.map (CLn.mk (2 : Int)) (List.drop j20.snd.fst b)) ∧
                              ∀ (q : Nat × Nat × Nat × List CLn),
                                q.fst ≤ a.length ∧ q.snd.fst ≤ b.length ∧ q.snd.snd.fst ≤ (List.drop q.fst a).length ∧ q.snd.snd.snd.length ≤ q.fst + q.snd.fst + q.snd.snd.fst ∧ mrg C a b = q.snd.snd.snd ++ List.map (CLn.mk (1 : Int)) (List.drop q.snd.snd.fst (List.drop q.fst a)) ++ List.map (CLn.mk (2 : Int)) (List.drop q.snd.fst b) →
                                  (decide ((↑q.snd.snd.fst : Int) < (↑(List.drop q.fst a).length : Int)) = true → List.map strL (List.drop q.fst a) = List.map strL (List.drop q.fst a) ∧ (↑q.snd.snd.fst : Int) = (↑q.snd.snd.fst : Int) ∧ q.snd.snd.fst < (List.drop q.fst a).length ∧ ∀ (x23 : Bs), (List.drop q.fst a)[q.snd.snd.fst]? = some x23 → (List.map encCL q.snd.snd.snd).length = q.snd.snd.snd.length ∧ (0 : Nat) = (0 : Nat) ∧ q.snd.snd.snd.length = q.snd.snd.snd.length ∧ q.snd.snd.snd.length + [AV.agg [AV.val (Value.int IntKind.i64 (1 : Int)), AV.val (Value.string (ofL x23))]].length = q.snd.snd.snd.length + (1 : Nat) ∧ (q.snd.snd.snd.length + (1 : Nat)) * (24 : Nat) ≤ (140737488355328 : Nat) ∧ q.snd.snd.snd.length + (1 : Nat) ≤ (9223372036854775807 : Nat) ∧ InI64 ((↑q.snd.snd.fst : Int) + (1 : Int)) ∧ ∃ (j25 : Nat × Nat × Nat × List CLn), ((List.map strL b = List.map strL b ∧ True ∧ AV.fn (Fn.func (13 : FuncId)) [] [AV.ptr (2 : Nat) (0 : Nat)] = AV.fn (Fn.func (13 : FuncId)) [] [AV.ptr (2 : Nat) (0 : Nat)] ∧ (↑q.snd.fst : Int) = (↑j25.snd.fst : Int) ∧ List.map strL (List.drop q.fst a) = List.map strL (List.drop j25.fst a) ∧ (↑(List.drop q.fst a).length : Int) = (↑(List.drop j25.fst a).length : Int) ∧ (↑q.snd.snd.fst : Int) + (1 : Int) = (↑j25.snd.snd.fst : Int) ∧ True) ∧ (l.name = l.name ∧ List.map intA l.weights = List.map intA l.weights ∧ l.lower = l.lower ∧ l.upper = l.upper ∧ List.map encCls l.classes = List.map encCls l.classes ∧ List.map encEl l.elements = List.map encEl l.elements) ∧ List.map encCL q.snd.snd.snd ++ [AV.agg [AV.val (Value.int IntKind.i64 (1 : Int)), AV.val (Value.string (ofL x23))]] = List.map encCL j25.snd.snd.snd ∧ q.snd.snd.snd.length + (1 : Nat) = j25.snd.snd.snd.length ∧ (0 : Nat) = (0 : Nat) ∧ q.snd.snd.snd.length + (1 : Nat) = j25.snd.snd.snd.length) ∧ (j25.fst ≤ a.length ∧ j25.snd.fst ≤ b.length ∧ j25.snd.snd.fst ≤ (List.drop j25.fst a).length ∧ j25.snd.snd.snd.length ≤ j25.fst + j25.snd.fst + j25.snd.snd.fst ∧ mrg C a b = j25.snd.snd.snd ++ List.map (CLn.mk (1 : Int)) (List.drop j25.snd.snd.fst (List.drop j25.fst a)) ++ List.map (CLn.mk (2 : Int)) (List.drop j25.snd.fst b)) ∧ (List.drop j25.fst a).length - j25.snd.snd.fst < (List.drop q.fst a).length - q.snd.snd.fst) ∧
                                    (decide ((↑q.snd.snd.fst : Int) < (↑(List.drop q.fst a).length : Int)) = false →
                                      (↑q.snd.fst : Int) = (↑q.snd.fst : Int) ∧
                                        (↑(List.map strL b).length : Int) = (↑(List.map strL b).length : Int) ∧
                                          q.snd.fst ≤ (List.map strL b).length ∧
                                            (List.map strL b).length ≤ (List.map strL b).length ∧
                                              (List.drop q.snd.fst (List.take (List.map strL b).length (List.map strL b))).length = (List.drop q.snd.fst (List.take (List.map strL b).length (List.map strL b))).length ∧
                                                (∃ (j27 : Nat × Nat × List CLn), ((True ∧ AV.fn (Fn.func (13 : FuncId)) [] [AV.ptr (2 : Nat) (0 : Nat)] = AV.fn (Fn.func (13 : FuncId)) [] [AV.ptr (2 : Nat) (0 : Nat)] ∧ List.drop q.snd.fst (List.take (List.map strL b).length (List.map strL b)) = List.map strL (List.drop j27.fst b) ∧ (↑(List.drop q.snd.fst (List.take (List.map strL b).length (List.map strL b))).length : Int) = (↑(List.drop j27.fst b).length : Int) ∧ (0 : Int) = (↑j27.snd.fst : Int) ∧ True) ∧ (l.name = l.name ∧ List.map intA l.weights = List.map intA l.weights ∧ l.lower = l.lower ∧ l.upper = l.upper ∧ List.map encCls l.classes = List.map encCls l.classes ∧ List.map encEl l.elements = List.map encEl l.elements) ∧ List.map encCL q.snd.snd.snd = List.map encCL j27.snd.snd ∧ q.snd.snd.snd.length = j27.snd.snd.length ∧ (0 : Nat) = (0 : Nat) ∧ q.snd.snd.snd.length = j27.snd.snd.length) ∧ j27.fst ≤ b.length ∧ j27.snd.fst ≤ (List.drop j27.fst b).length ∧ j27.snd.snd.length ≤ a.length + j27.fst + j27.snd.fst ∧ mrg C a b = j27.snd.snd ++ List.map (CLn.mk (2 : Int)) (List.drop j27.snd.fst (List.drop j27.fst b))) ∧
                                                  ∀ (r : Nat × Nat × List CLn), r.fst ≤ b.length ∧ r.snd.fst ≤ (List.drop r.fst b).length ∧ r.snd.snd.length ≤ a.length + r.fst + r.snd.fst ∧ mrg C a b = r.snd.snd ++ List.map (CLn.mk (2 : Int)) (List.drop r.snd.fst (List.drop r.fst b)) → (decide ((↑r.snd.fst : Int) < (↑(List.drop r.fst b).length : Int)) = true → List.map strL (List.drop r.fst b) = List.map strL (List.drop r.fst b) ∧ (↑r.snd.fst : Int) = (↑r.snd.fst : Int) ∧ r.snd.fst < (List.drop r.fst b).length ∧ ∀ (x30 : Bs), (List.drop r.fst b)[r.snd.fst]? = some x30 → (List.map encCL r.snd.snd).length = r.snd.snd.length ∧ (0 : Nat) = (0 : Nat) ∧ r.snd.snd.length = r.snd.snd.length ∧ r.snd.snd.length + [AV.agg [AV.val (Value.int IntKind.i64 (2 : Int)), AV.val (Value.string (ofL x30))]].length = r.snd.snd.length + (1 : Nat) ∧ (r.snd.snd.length + (1 : Nat)) * (24 : Nat) ≤ (140737488355328 : Nat) ∧ r.snd.snd.length + (1 : Nat) ≤ (9223372036854775807 : Nat) ∧ InI64 ((↑r.snd.fst : Int) + (1 : Int)) ∧ ∃ (j32 : Nat × Nat × List CLn), ((True ∧ AV.fn (Fn.func (13 : FuncId)) [] [AV.ptr (2 : Nat) (0 : Nat)] = AV.fn (Fn.func (13 : FuncId)) [] [AV.ptr (2 : Nat) (0 : Nat)] ∧ List.map strL (List.drop r.fst b) = List.map strL (List.drop j32.fst b) ∧ (↑(List.drop r.fst b).length : Int) = (↑(List.drop j32.fst b).length : Int) ∧ (↑r.snd.fst : Int) + (1 : Int) = (↑j32.snd.fst : Int) ∧ True) ∧ (l.name = l.name ∧ List.map intA l.weights = List.map intA l.weights ∧ l.lower = l.lower ∧ l.upper = l.upper ∧ List.map encCls l.classes = List.map encCls l.classes ∧ List.map encEl l.elements = List.map encEl l.elements) ∧ List.map encCL r.snd.snd ++ [AV.agg [AV.val (Value.int IntKind.i64 (2 : Int)), AV.val (Value.string (ofL x30))]] = List.map encCL j32.snd.snd ∧ r.snd.snd.length + (1 : Nat) = j32.snd.snd.length ∧ (0 : Nat) = (0 : Nat) ∧ r.snd.snd.length + (1 : Nat) = j32.snd.snd.length) ∧ (j32.fst ≤ b.length ∧ j32.snd.fst ≤ (List.drop j32.fst b).length ∧ j32.snd.snd.length ≤ a.length + j32.fst + j32.snd.fst ∧ mrg C a b = j32.snd.snd ++ List.map (CLn.mk (2 : Int)) (List.drop j32.snd.fst (List.drop j32.fst b))) ∧ (List.drop j32.fst b).length - j32.snd.fst < (List.drop r.fst b).length - r.snd.fst) ∧ (decide ((↑r.snd.fst : Int) < (↑(List.drop r.fst b).length : Int)) = false → (List.map encCL r.snd.snd).length = r.snd.snd.length ∧ List.take r.snd.snd.length (List.drop (0 : Nat) (List.map encCL r.snd.snd)) = List.map encCL r.snd.snd ∧ List.map encCL r.snd.snd = List.map encCL (mrg C a b)))) ∧
                (decide ((↑p.snd.fst : Int) = (↑b.length : Int)) = false →
                  List.map strL a = List.map strL a ∧
                    (↑p.fst : Int) = (↑p.fst : Int) ∧
                      p.fst < a.length ∧
                        ∀ (x35 : Bs),
                          a[p.fst]? = some x35 →
                            List.map strL b = List.map strL b ∧
                              (↑p.snd.fst : Int) = (↑p.snd.fst : Int) ∧
                                p.snd.fst < b.length ∧
                                  ∀ (x37 : Bs),
                                    b[p.snd.fst]? = some x37 →
                                      (R FT X).f (14 : FuncId) [AV.agg [strL l.name, AV.slice (1 : Nat) (List.map intA l.weights), strL l.lower, strL l.upper, AV.slice (5 : Nat) (List.map encCls l.classes), AV.slice (2 : Nat) (List.map encEl l.elements)], AV.val (Value.string (ofL x35)), AV.val (Value.string (ofL x37))] = some (intA (C x35 x37)) ∧
                                        (decide (C x35 x37 < (0 : Int)) = true → List.map strL a = List.map strL a ∧ (↑p.fst : Int) = (↑p.fst : Int) ∧ p.fst < a.length ∧ ∀ (x40 : Bs), a[p.fst]? = some x40 → (List.map encCL p.snd.snd).length = p.snd.snd.length ∧ (0 : Nat) = (0 : Nat) ∧ p.snd.snd.length = p.snd.snd.length ∧ p.snd.snd.length + [AV.agg [AV.val (Value.int IntKind.i64 (1 : Int)), AV.val (Value.string (ofL x40))]].length = p.snd.snd.length + (1 : Nat) ∧ (p.snd.snd.length + (1 : Nat)) * (24 : Nat) ≤ (140737488355328 : Nat) ∧ p.snd.snd.length + (1 : Nat) ≤ (9223372036854775807 : Nat) ∧ InI64 ((↑p.fst : Int) + (1 : Int)) ∧ ∃ (j42 : Nat × Nat × List CLn), ((List.map strL a = List.map strL a ∧ List.map strL b = List.map strL b ∧ True ∧ True ∧ AV.fn (Fn.func (13 : FuncId)) [] [AV.ptr (2 : Nat) (0 : Nat)] = AV.fn (Fn.func (13 : FuncId)) [] [AV.ptr (2 : Nat) (0 : Nat)] ∧ (↑p.fst : Int) + (1 : Int) = (↑j42.fst : Int) ∧ (↑p.snd.fst : Int) = (↑j42.snd.fst : Int) ∧ True) ∧ (l.name = l.name ∧ List.map intA l.weights = List.map intA l.weights ∧ l.lower = l.lower ∧ l.upper = l.upper ∧ List.map encCls l.classes = List.map encCls l.classes ∧ List.map encEl l.elements = List.map encEl l.elements) ∧ List.map encCL p.snd.snd ++ [AV.agg [AV.val (Value.int IntKind.i64 (1 : Int)), AV.val (Value.string (ofL x40))]] = List.map encCL j42.snd.snd ∧ p.snd.snd.length + (1 : Nat) = j42.snd.snd.length ∧ (0 : Nat) = (0 : Nat) ∧ p.snd.snd.length + (1 : Nat) = j42.snd.snd.length) ∧ (j42.fst ≤ a.length ∧ j42.snd.fst ≤ b.length ∧ j42.snd.snd.length ≤ j42.fst + j42.snd.fst ∧ mrg C a b = j42.snd.snd ++ mrg C (List.drop j42.fst a) (List.drop j42.snd.fst b)) ∧ a.length + b.length - j42.fst - j42.snd.fst < a.length + b.length - p.fst - p.snd.fst) ∧
                                          (decide (C x35 x37 < (0 : Int)) = false →
                                            List.map strL a = List.map strL a ∧
                                              (↑p.fst : Int) = (↑p.fst : Int) ∧
                                                p.fst < a.length ∧
                                                  ∀ (x44 : Bs),
                                                    a[p.fst]? = some x44 →
                                                      List.map strL b = List.map strL b ∧
                                                        (↑p.snd.fst : Int) = (↑p.snd.fst : Int) ∧
                                                          p.snd.fst < b.length ∧
                                                            ∀ (x46 : Bs),
                                                              b[p.snd.fst]? = some x46 →
                                                                (R FT X).f (14 : FuncId) [AV.agg [strL l.name, AV.slice (1 : Nat) (List.map intA l.weights), strL l.lower, strL l.upper, AV.slice (5 : Nat) (List.map encCls l.classes), AV.slice (2 : Nat) (List.map encEl l.elements)], AV.val (Value.string (ofL x44)), AV.val (Value.string (ofL x46))] = some (intA (C x44 x46)) ∧
                                                                  (decide ((0 : Int) < C x44 x46) = true → List.map strL b = List.map strL b ∧ (↑p.snd.fst : Int) = (↑p.snd.fst : Int) ∧ p.snd.fst < b.length ∧ ∀ (x49 : Bs), b[p.snd.fst]? = some x49 → (List.map encCL p.snd.snd).length = p.snd.snd.length ∧ (0 : Nat) = (0 : Nat) ∧ p.snd.snd.length = p.snd.snd.length ∧ p.snd.snd.length + [AV.agg [AV.val (Value.int IntKind.i64 (2 : Int)), AV.val (Value.string (ofL x49))]].length = p.snd.snd.length + (1 : Nat) ∧ (p.snd.snd.length + (1 : Nat)) * (24 : Nat) ≤ (140737488355328 : Nat) ∧ p.snd.snd.length + (1 : Nat) ≤ (9223372036854775807 : Nat) ∧ InI64 ((↑p.snd.fst : Int) + (1 : Int)) ∧ ∃ (j51 : Nat × Nat × List CLn), ((List.map strL a = List.map strL a ∧ List.map strL b = List.map strL b ∧ True ∧ True ∧ AV.fn (Fn.func (13 : FuncId)) [] [AV.ptr (2 : Nat) (0 : Nat)] = AV.fn (Fn.func (13 : FuncId)) [] [AV.ptr (2 : Nat) (0 : Nat)] ∧ (↑p.fst : Int) = (↑j51.fst : Int) ∧ (↑p.snd.fst : Int) + (1 : Int) = (↑j51.snd.fst : Int) ∧ True) ∧ (l.name = l.name ∧ List.map intA l.weights = List.map intA l.weights ∧ l.lower = l.lower ∧ l.upper = l.upper ∧ List.map encCls l.classes = List.map encCls l.classes ∧ List.map encEl l.elements = List.map encEl l.elements) ∧ List.map encCL p.snd.snd ++ [AV.agg [AV.val (Value.int IntKind.i64 (2 : Int)), AV.val (Value.string (ofL x49))]] = List.map encCL j51.snd.snd ∧ p.snd.snd.length + (1 : Nat) = j51.snd.snd.length ∧ (0 : Nat) = (0 : Nat) ∧ p.snd.snd.length + (1 : Nat) = j51.snd.snd.length) ∧ (j51.fst ≤ a.length ∧ j51.snd.fst ≤ b.length ∧ j51.snd.snd.length ≤ j51.fst + j51.snd.fst ∧ mrg C a b = j51.snd.snd ++ mrg C (List.drop j51.fst a) (List.drop j51.snd.fst b)) ∧ a.length + b.length - j51.fst - j51.snd.fst < a.length + b.length - p.fst - p.snd.fst) ∧
                                                                    (decide ((0 : Int) < C x44 x46) = false → List.map strL a = List.map strL a ∧ (↑p.fst : Int) = (↑p.fst : Int) ∧ p.fst < a.length ∧ ∀ (x53 : Bs), a[p.fst]? = some x53 → (List.map encCL p.snd.snd).length = p.snd.snd.length ∧ (0 : Nat) = (0 : Nat) ∧ p.snd.snd.length = p.snd.snd.length ∧ p.snd.snd.length + [AV.agg [AV.val (Value.int IntKind.i64 (3 : Int)), AV.val (Value.string (ofL x53))]].length = p.snd.snd.length + (1 : Nat) ∧ (p.snd.snd.length + (1 : Nat)) * (24 : Nat) ≤ (140737488355328 : Nat) ∧ p.snd.snd.length + (1 : Nat) ≤ (9223372036854775807 : Nat) ∧ InI64 ((↑p.fst : Int) + (1 : Int)) ∧ InI64 ((↑p.snd.fst : Int) + (1 : Int)) ∧ ∃ (j55 : Nat × Nat × List CLn), ((List.map strL a = List.map strL a ∧ List.map strL b = List.map strL b ∧ True ∧ True ∧ AV.fn (Fn.func (13 : FuncId)) [] [AV.ptr (2 : Nat) (0 : Nat)] = AV.fn (Fn.func (13 : FuncId)) [] [AV.ptr (2 : Nat) (0 : Nat)] ∧ (↑p.fst : Int) + (1 : Int) = (↑j55.fst : Int) ∧ (↑p.snd.fst : Int) + (1 : Int) = (↑j55.snd.fst : Int) ∧ True) ∧ (l.name = l.name ∧ List.map intA l.weights = List.map intA l.weights ∧ l.lower = l.lower ∧ l.upper = l.upper ∧ List.map encCls l.classes = List.map encCls l.classes ∧ List.map encEl l.elements = List.map encEl l.elements) ∧ List.map encCL p.snd.snd ++ [AV.agg [AV.val (Value.int IntKind.i64 (3 : Int)), AV.val (Value.string (ofL x53))]] = List.map encCL j55.snd.snd ∧ p.snd.snd.length + (1 : Nat) = j55.snd.snd.length ∧ (0 : Nat) = (0 : Nat) ∧ p.snd.snd.length + (1 : Nat) = j55.snd.snd.length) ∧ (j55.fst ≤ a.length ∧ j55.snd.fst ≤ b.length ∧ j55.snd.snd.length ≤ j55.fst + j55.snd.fst ∧ mrg C a b = j55.snd.snd ++ mrg C (List.drop j55.fst a) (List.drop j55.snd.fst b)) ∧ a.length + b.length - j55.fst - j55.snd.fst < a.length + b.length - p.fst - p.snd.fst)))))) ?_
  refine ⟨⟨((0 : Nat), (0 : Nat), []), ⟨⟨rfl, rfl, trivial, trivial, rfl, (by (try dsimp only); omega), (by (try dsimp only); omega), trivial⟩, ⟨rfl, rfl, rfl, rfl, rfl, rfl⟩, rfl, rfl, rfl, rfl⟩, ⟨(by (try dsimp only); omega), (by (try dsimp only); omega), (by simp), rfl⟩⟩, fun p => fun h2 => have h2a := h2.1; have h2b := h2.2.1; have h2c := h2.2.2.1; have h2d := h2.2.2.2; ⟨(by simp), fun h3_ => have h3 := dT h3_; ⟨rfl, rfl, rfl, (by simp; omega), (by omega), rfl, ?_, fun q => fun h5 => have h5a := h5.1; have h5b := h5.2.1; have h5c := h5.2.2.1; have h5d := h5.2.2.2.1; have h5e := h5.2.2.2.2; ⟨fun h6_ => have h6 := dT h6_; ⟨rfl, rfl, (by omega), fun x7 => fun h8 => ⟨(by simp), rfl, rfl, rfl, ?_, ?_, ?_, ?_⟩⟩, fun h10_ => have h10 := dF h10_; ⟨rfl, rfl, (by simp; omega), (by omega), rfl, ?_, fun r => fun h12 => have h12a := h12.1; have h12b := h12.2.1; have h12c := h12.2.2.1; have h12d := h12.2.2.2; ⟨fun h13_ => have h13 := dT h13_; ⟨rfl, rfl, (by omega), fun x14 => fun h15 => ⟨(by simp), rfl, rfl, rfl, ?_, ?_, ?_, ?_⟩⟩, fun h17_ => have h17 := dF h17_; ⟨(by simp), ?_, ?_⟩⟩⟩⟩⟩, fun h18_ => have h18 := dF h18_; ⟨(by simp), fun h19_ => have h19 := dT h19_; ⟨rfl, rfl, (by simp; omega), (by omega), rfl, ?_, fun q => fun h21 => have h21a := h21.1; have h21b := h21.2.1; have h21c := h21.2.2.1; have h21d := h21.2.2.2.1; have h21e := h21.2.2.2.2; ⟨fun h22_ => have h22 := dT h22_; ⟨rfl, rfl, (by omega), fun x23 => fun h24 => ⟨(by simp), rfl, rfl, rfl, ?_, ?_, ?_, ?_⟩⟩, fun h26_ => have h26 := dF h26_; ⟨rfl, rfl, (by simp; omega), (by omega), rfl, ?_, fun r => fun h28 => have h28a := h28.1; have h28b := h28.2.1; have h28c := h28.2.2.1; have h28d := h28.2.2.2; ⟨fun h29_ => have h29 := dT h29_; ⟨rfl, rfl, (by omega), fun x30 => fun h31 => ⟨(by simp), rfl, rfl, rfl, ?_, ?_, ?_, ?_⟩⟩, fun h33_ => have h33 := dF h33_; ⟨(by simp), ?_, ?_⟩⟩⟩⟩⟩, fun h34_ => have h34 := dF h34_; ⟨rfl, rfl, (by omega), fun x35 => fun h36 => ⟨rfl, rfl, (by omega), fun x37 => fun h38 => ⟨(hC _ _ ?_ ?_), fun h39_ => have h39 := dT h39_; ⟨rfl, rfl, (by omega), fun x40 => fun h41 => ⟨(by simp), rfl, rfl, rfl, (by omega), (by omega), (by unfold InI64; omega), ⟨(p.fst + (1 : Nat), p.snd.fst, p.snd.snd ++ [CLn.mk (1 : Int) x40]), ⟨⟨rfl, rfl, trivial, trivial, rfl, (by (try dsimp only); omega), rfl, trivial⟩, ⟨rfl, rfl, rfl, rfl, rfl, rfl⟩, ?_, (by simp), rfl, (by simp)⟩, ⟨⟨(by (try dsimp only); omega), h2b, (by simp; (try dsimp only); omega), ?_⟩, (by (try dsimp only); omega)⟩⟩⟩⟩, fun h43_ => have h43 := dF h43_; ⟨rfl, rfl, (by omega), fun x44 => fun h45 => ⟨rfl, rfl, (by omega), fun x46 => fun h47 => ⟨(hC _ _ ?_ ?_), fun h48_ => have h48 := dT h48_; ⟨rfl, rfl, (by omega), fun x49 => fun h50 => ⟨(by simp), rfl, rfl, rfl, (by omega), (by omega), (by unfold InI64; omega), ⟨(p.fst, p.snd.fst + (1 : Nat), p.snd.snd ++ [CLn.mk (2 : Int) x49]), ⟨⟨rfl, rfl, trivial, trivial, rfl, rfl, (by (try dsimp only); omega), trivial⟩, ⟨rfl, rfl, rfl, rfl, rfl, rfl⟩, ?_, (by simp), rfl, (by simp)⟩, ⟨⟨h2a, (by (try dsimp only); omega), (by simp; (try dsimp only); omega), ?_⟩, (by (try dsimp only); omega)⟩⟩⟩⟩, fun h52_ => have h52 := dF h52_; ⟨rfl, rfl, (by omega), fun x53 => fun h54 => ⟨(by simp), rfl, rfl, rfl, (by omega), (by omega), (by unfold InI64; omega), (by unfold InI64; omega), ⟨(p.fst + (1 : Nat), p.snd.fst + (1 : Nat), p.snd.snd ++ [CLn.mk (3 : Int) x53]), ⟨⟨rfl, rfl, trivial, trivial, rfl, (by (try dsimp only); omega), (by (try dsimp only); omega), trivial⟩, ⟨rfl, rfl, rfl, rfl, rfl, rfl⟩, ?_, (by simp), rfl, (by simp)⟩, ⟨⟨(by (try dsimp only); omega), (by (try dsimp only); omega), (by simp; (try dsimp only); omega), ?_⟩, (by (try dsimp only); omega)⟩⟩⟩⟩⟩⟩⟩⟩⟩⟩⟩⟩⟩
  · refine ⟨(p.1, p.2.1, 0, p.2.2), ⟨⟨rfl, trivial, rfl, rfl, ?_, ?_, rfl, trivial⟩, ⟨rfl, rfl, rfl, rfl, rfl, rfl⟩, rfl, rfl, rfl, rfl⟩, h2a, h2b, Nat.zero_le _, h2c, ?_⟩
    · show List.drop p.1 (List.take (List.map strL a).length (List.map strL a)) = (a.drop p.1).map strL
      rw [List.take_length, List.map_drop]
    · show ((List.drop p.1 (List.take (List.map strL a).length (List.map strL a))).length : Int) = ((a.drop p.1).length : Nat)
      rw [List.take_length, ← List.map_drop, List.length_map]
    · show mrg C a b = p.2.2 ++ ((a.drop p.1).drop 0).map (CLn.mk 1) ++ (b.drop p.2.1).map (CLn.mk 2)
      rw [h2d, mrg_end (.inl (by omega)), List.drop_zero, List.append_assoc]
  all_goals try rw [List.length_drop] at h5c
  · omega
  · omega
  · unfold InI64; omega
  · refine ⟨(q.1, q.2.1, q.2.2.1 + 1, q.2.2.2 ++ [⟨1, x7⟩]), ⟨⟨rfl, trivial, rfl, rfl, rfl, rfl, rfl, trivial⟩, ⟨rfl, rfl, rfl, rfl, rfl, rfl⟩, ?_, by simp, rfl, by simp⟩, ⟨h5a, h5b, ?_, ?_, ?_⟩, ?_⟩
    · show _ = (q.2.2.2 ++ [(⟨1, x7⟩ : CLn)]).map encCL
      rw [List.map_append]; rfl
    · show q.2.2.1 + 1 ≤ (a.drop q.1).length
      omega
    · show (q.2.2.2 ++ [(⟨1, x7⟩ : CLn)]).length ≤ q.1 + q.2.1 + (q.2.2.1 + 1)
      simp; omega
    · show mrg C a b = (q.2.2.2 ++ [(⟨1, x7⟩ : CLn)]) ++ ((a.drop q.1).drop (q.2.2.1 + 1)).map (CLn.mk 1) ++ (b.drop q.2.1).map (CLn.mk 2)
      rw [h5e, dropc h8]; simp
    · show (a.drop q.1).length - (q.2.2.1 + 1) < (a.drop q.1).length - q.2.2.1
      omega
  · refine ⟨(q.2.1, 0, q.2.2.2), ⟨⟨trivial, rfl, ?_, ?_, rfl, trivial⟩, ⟨rfl, rfl, rfl, rfl, rfl, rfl⟩, rfl, rfl, rfl, rfl⟩, h5b, Nat.zero_le _, ?_, ?_⟩
    · show List.drop q.2.1 (List.take (List.map strL b).length (List.map strL b)) = (b.drop q.2.1).map strL
      rw [List.take_length, List.map_drop]
    · show ((List.drop q.2.1 (List.take (List.map strL b).length (List.map strL b))).length : Int) = ((b.drop q.2.1).length : Nat)
      rw [List.take_length, ← List.map_drop, List.length_map]
    · show q.2.2.2.length ≤ a.length + q.2.1 + 0
      omega
    · show mrg C a b = q.2.2.2 ++ ((b.drop q.2.1).drop 0).map (CLn.mk 2)
      rw [h5e, List.drop_of_length_le (l := a.drop q.1) (by omega)]; simp
  all_goals try rw [List.length_drop] at h12b
  · omega
  · omega
  · unfold InI64; omega
  · refine ⟨(r.1, r.2.1 + 1, r.2.2 ++ [⟨2, x14⟩]), ⟨⟨trivial, rfl, rfl, rfl, rfl, trivial⟩, ⟨rfl, rfl, rfl, rfl, rfl, rfl⟩, ?_, by simp, rfl, by simp⟩, ⟨h12a, ?_, ?_, ?_⟩, ?_⟩
    · show _ = (r.2.2 ++ [(⟨2, x14⟩ : CLn)]).map encCL
      rw [List.map_append]; rfl
    · show r.2.1 + 1 ≤ (b.drop r.1).length
      omega
    · show (r.2.2 ++ [(⟨2, x14⟩ : CLn)]).length ≤ a.length + r.1 + (r.2.1 + 1)
      simp; omega
    · show mrg C a b = (r.2.2 ++ [(⟨2, x14⟩ : CLn)]) ++ ((b.drop r.1).drop (r.2.1 + 1)).map (CLn.mk 2)
      rw [h12d, dropc h15]; simp
    · show (b.drop r.1).length - (r.2.1 + 1) < (b.drop r.1).length - r.2.1
      omega
  · rw [List.drop_zero, List.take_of_length_le (by simp)]
  · rw [h12d, List.drop_of_length_le (l := b.drop r.1) (by omega)]; simp
  · refine ⟨(p.1, p.2.1, 0, p.2.2), ⟨⟨rfl, trivial, rfl, rfl, ?_, ?_, rfl, trivial⟩, ⟨rfl, rfl, rfl, rfl, rfl, rfl⟩, rfl, rfl, rfl, rfl⟩, h2a, h2b, Nat.zero_le _, h2c, ?_⟩
    · show List.drop p.1 (List.take (List.map strL a).length (List.map strL a)) = (a.drop p.1).map strL
      rw [List.take_length, List.map_drop]
    · show ((List.drop p.1 (List.take (List.map strL a).length (List.map strL a))).length : Int) = ((a.drop p.1).length : Nat)
      rw [List.take_length, ← List.map_drop, List.length_map]
    · show mrg C a b = p.2.2 ++ ((a.drop p.1).drop 0).map (CLn.mk 1) ++ (b.drop p.2.1).map (CLn.mk 2)
      rw [h2d, mrg_end (.inr (by omega)), List.drop_zero, List.append_assoc]
  all_goals try rw [List.length_drop] at h21c
  · omega
  · omega
  · unfold InI64; omega
  · refine ⟨(q.1, q.2.1, q.2.2.1 + 1, q.2.2.2 ++ [⟨1, x23⟩]), ⟨⟨rfl, trivial, rfl, rfl, rfl, rfl, rfl, trivial⟩, ⟨rfl, rfl, rfl, rfl, rfl, rfl⟩, ?_, by simp, rfl, by simp⟩, ⟨h21a, h21b, ?_, ?_, ?_⟩, ?_⟩
    · show _ = (q.2.2.2 ++ [(⟨1, x23⟩ : CLn)]).map encCL
      rw [List.map_append]; rfl
    · show q.2.2.1 + 1 ≤ (a.drop q.1).length
      omega
    · show (q.2.2.2 ++ [(⟨1, x23⟩ : CLn)]).length ≤ q.1 + q.2.1 + (q.2.2.1 + 1)
      simp; omega
    · show mrg C a b = (q.2.2.2 ++ [(⟨1, x23⟩ : CLn)]) ++ ((a.drop q.1).drop (q.2.2.1 + 1)).map (CLn.mk 1) ++ (b.drop q.2.1).map (CLn.mk 2)
      rw [h21e, dropc h24]; simp
    · show (a.drop q.1).length - (q.2.2.1 + 1) < (a.drop q.1).length - q.2.2.1
      omega
  · refine ⟨(q.2.1, 0, q.2.2.2), ⟨⟨trivial, rfl, ?_, ?_, rfl, trivial⟩, ⟨rfl, rfl, rfl, rfl, rfl, rfl⟩, rfl, rfl, rfl, rfl⟩, h21b, Nat.zero_le _, ?_, ?_⟩
    · show List.drop q.2.1 (List.take (List.map strL b).length (List.map strL b)) = (b.drop q.2.1).map strL
      rw [List.take_length, List.map_drop]
    · show ((List.drop q.2.1 (List.take (List.map strL b).length (List.map strL b))).length : Int) = ((b.drop q.2.1).length : Nat)
      rw [List.take_length, ← List.map_drop, List.length_map]
    · show q.2.2.2.length ≤ a.length + q.2.1 + 0
      omega
    · show mrg C a b = q.2.2.2 ++ ((b.drop q.2.1).drop 0).map (CLn.mk 2)
      rw [h21e, List.drop_of_length_le (l := a.drop q.1) (by omega)]; simp
  all_goals try rw [List.length_drop] at h28b
  · omega
  · omega
  · unfold InI64; omega
  · refine ⟨(r.1, r.2.1 + 1, r.2.2 ++ [⟨2, x30⟩]), ⟨⟨trivial, rfl, rfl, rfl, rfl, trivial⟩, ⟨rfl, rfl, rfl, rfl, rfl, rfl⟩, ?_, by simp, rfl, by simp⟩, ⟨h28a, ?_, ?_, ?_⟩, ?_⟩
    · show _ = (r.2.2 ++ [(⟨2, x30⟩ : CLn)]).map encCL
      rw [List.map_append]; rfl
    · show r.2.1 + 1 ≤ (b.drop r.1).length
      omega
    · show (r.2.2 ++ [(⟨2, x30⟩ : CLn)]).length ≤ a.length + r.1 + (r.2.1 + 1)
      simp; omega
    · show mrg C a b = (r.2.2 ++ [(⟨2, x30⟩ : CLn)]) ++ ((b.drop r.1).drop (r.2.1 + 1)).map (CLn.mk 2)
      rw [h28d, dropc h31]; simp
    · show (b.drop r.1).length - (r.2.1 + 1) < (b.drop r.1).length - r.2.1
      omega
  · rw [List.drop_zero, List.take_of_length_le (by simp)]
  · rw [h28d, List.drop_of_length_le (l := b.drop r.1) (by omega)]; simp
  · exact Nat.le_trans (hal _ (List.mem_of_getElem? h36)) (by omega)
  · exact Nat.le_trans (hbl _ (List.mem_of_getElem? h38)) (by omega)
  · exact map_cl _ _ _
  · have e := same_at h36 h41
    rw [e]; exact app_next h2d (mrg_lt h36 h38 h39)
  · exact Nat.le_trans (hal _ (List.mem_of_getElem? h45)) (by omega)
  · exact Nat.le_trans (hbl _ (List.mem_of_getElem? h47)) (by omega)
  · exact map_cl _ _ _
  · have e := same_at h47 h50
    rw [e]; exact app_next h2d (mrg_gt h45 h47 h48)
  · exact map_cl _ _ _
  · have e1 := same_at h36 h45
    have e2 := same_at h38 h47
    rw [e1, e2] at h52
    have e := same_at h36 h54
    rw [e]; exact app_next h2d (mrg_eq h36 h38 h43 h52)
end
end Go.Proofs.Ytbdmioekohmcnab
