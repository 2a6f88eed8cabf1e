/- Locales: the collating elements, one after the other, are the string. -/
import Derived.Test.YtbdmioekohmcnaaLo12
namespace Go.Proofs.Ytbdmioekohmcnaa
set_option linter.unusedVariables false
set_option linter.unusedSimpArgs false
set_option maxRecDepth 100000
theorem pieces_nil {E : List El} {t : Bs} (h : pieces E t = []) : t = [] := by
  match t, h with
  | [], _ => rfl
  | [c], h => simp [pieces] at h
  | c :: d :: r, h => simp only [pieces] at h; split at h <;> simp at h
/-- what a step of the statement finds -/
theorem jstep {E : List El} {s x : Bs} {P : List Bs} {i at_ : Nat} (hI : (pieces E (s.drop at_)).map Prod.fst = P.drop i) (hx : P[i]? = some x) :
    (x.length = 1 ∧ at_ + 1 ≤ s.length ∧ (s.take (at_ + 1)).drop at_ = x ∧ lkAt E s at_ = none ∧ (pieces E (s.drop (at_ + 1))).map Prod.fst = P.drop (i + 1)) ∨
    (x.length = 2 ∧ at_ + 2 ≤ s.length ∧ (s.take (at_ + 2)).drop at_ = x ∧ (E.any fun e => decide (e.text = x)) = true ∧ (pieces E (s.drop (at_ + 2))).map Prod.fst = P.drop (i + 1)) := by
  obtain ⟨hi, rfl⟩ := get_of hx
  rw [List.drop_eq_getElem_cons hi] at hI
  have hlt : at_ < s.length := by
    rcases Nat.lt_or_ge at_ s.length with h | h
    · exact h
    · rw [List.drop_of_length_le h] at hI; simp only [pieces, List.map_nil] at hI; cases hI
  have hc : s[at_]? = some s[at_] := List.getElem?_eq_getElem hlt
  cases hk : lkAt E s at_ with
  | none =>
    rw [pieces_one hc hk, List.map_cons] at hI
    injection hI with h1 h2
    refine .inl ⟨by rw [← h1]; rfl, hlt, by rw [sub1 hc, ← h1], rfl, h2⟩
  | some wt =>
    have hk2 := hk
    rw [pieces_two hk, List.map_cons] at hI
    injection hI with h1 h2
    unfold lkAt at hk2
    split at hk2
    · rename_i h3
      refine .inr ⟨by rw [← h1, ← sub2]; exact len2 h3, h3, by rw [sub2, ← h1], ?_, h2⟩
      have h4 : ¬ lk E ((s.drop at_).take 2) = none := by rw [hk2]; simp
      rw [lk_none] at h4
      obtain ⟨e, he, ht⟩ := List.mem_map.1 (Classical.not_not.1 h4)
      rw [List.any_eq_true]
      exact ⟨e, he, by rw [← h1]; simpa using ht⟩
    · cases hk2
theorem jpair {E : List El} {s : Bs} {at_ : Nat} (hk : lkAt E s at_ = none) (h : at_ + 2 ≤ s.length) : (E.any fun e => decide (e.text = (s.take (at_ + 2)).drop at_)) = false := by
  rw [sub2]
  unfold lkAt at hk
  rw [if_pos h, lk_none] at hk
  exact List.any_eq_false.2 fun e he => by
    simp only [decide_eq_true_eq]
    exact fun h => hk (List.mem_map.2 ⟨e, he, h⟩)
section
variable {X : CallF}
theorem joins_good (L : Loc) (s : Bs) (P : List Bs) (hP : P = (pieces L.elements s).map Prod.fst) (hs : s.length ≤ 1048576) (hE : L.elements.length ≤ maxLen) (hPl : P.length ≤ 1048576)
    (hck : (R FT X).f 16 [encLoc L] = some (intA 0)) (hsp : (R FT X).f 19 [encLoc L, strL s] = some (.slice 1 (P.map strL))) (ha : (R FT X).f 17 [] = some (boolA true)) : (R FT X).f 6 [encLoc L, strL s] = some (boolA true) := by
  refine R_wp ((Tr.c (intA (0 : Int)) (Tr.b false (Tr.c (AV.slice (1 : Nat) (List.map strL P)) (Tr.inv (fun (k : Nat × Nat) ↦ St.mk [((1 : Nat), strL s), ((2 : Nat), AV.ptr (0 : Nat) (0 : Nat)), ((5 : Nat), AV.slice (1 : Nat) (List.map strL P)), ((6 : Nat), intA (↑k.snd : Int)), ((7 : Nat), intA (↑k.fst : Int))] [MObj.box [strL L.name, AV.slice (1 : Nat) (List.map intA L.weights), strL L.lower, strL L.upper, AV.slice (5 : Nat) (List.map encCls L.classes), AV.slice (2 : Nat) (List.map encEl L.elements)]]) (fun (k : Nat × Nat) ↦ k.fst ≤ P.length ∧ k.snd ≤ List.length s ∧ List.map Prod.fst (pieces L.elements (List.drop k.snd s)) = List.drop k.fst P) (fun (k : Nat × Nat) ↦ P.length - k.fst) fun (k : Nat × Nat) ↦ (Tr.k P.length ((Tr.ix strL P k.fst fun (x4 : Bs) ↦ ((Tr.b true (Tr.b true (Tr.b true Tr.nil).w)).br ((Tr.b true (Tr.b true Tr.nil).w).br (Tr.sl k.snd (k.snd + List.length x4) (Tr.ix strL P k.fst fun (x10 : Bs) ↦ (Tr.b true Tr.nil).w.br ((Tr.ix strL P k.fst fun (x15 : Bs) ↦ Tr.c (boolA (L.elements.any fun (e : El) ↦ decide (e.text = x15))) (Tr.nil.br (Tr.b false (Tr.b false (Tr.b false Tr.nil.w.w).w)).w).w).br (Tr.b false (Tr.b true ((Tr.sl k.snd (k.snd + (2 : Nat)) (Tr.c (boolA (L.elements.any fun (e : El) ↦ decide (e.text = List.drop k.snd (List.take (k.snd + (2 : Nat)) s)))) (Tr.nil.br Tr.nil.w.w).w)).w.br (Tr.b false Tr.nil.w.w).w).w).w).w))).w).w).w).w.br ((Tr.c (boolA true) Tr.nil).br Tr.nil).w)).w).w)).w).w) rfl ?_
  refine Eq.mpr (by kernel_rfl : _ = ((R FT X).f (16 : FuncId) [AV.agg [strL L.name, AV.slice (1 : Nat) (List.map intA L.weights), strL L.lower, strL L.upper, AV.slice (5 : Nat) (List.map encCls L.classes), AV.slice (2 : Nat) (List.map encEl L.elements)]] = some (intA (0 : Int)) ∧
  false = false ∧
    (R FT X).f (19 : FuncId) [AV.agg [strL L.name, AV.slice (1 : Nat) (List.map intA L.weights), strL L.lower, strL L.upper, AV.slice (5 : Nat) (List.map encCls L.classes), AV.slice (2 : Nat) (List.map encEl L.elements)], AV.val (Value.string (ofL s))] = some (AV.slice (1 : Nat) (List.map strL P)) ∧
      (∃ (j1 : Nat × Nat), ((s = s ∧ True ∧ List.map strL P = List.map strL P ∧ (0 : Int) = (↑j1.snd : Int) ∧ (0 : Int) = (↑j1.fst : Int) ∧ True) ∧ L.name = L.name ∧ List.map intA L.weights = List.map intA L.weights ∧ L.lower = L.lower ∧ L.upper = L.upper ∧ List.map encCls L.classes = List.map encCls L.classes ∧ List.map encEl L.elements = List.map encEl L.elements) ∧ j1.fst ≤ P.length ∧ j1.snd ≤ List.length s ∧ List.map Prod.fst (pieces L.elements (List.drop j1.snd s)) = List.drop j1.fst P) ∧
        ∀ (k : Nat × Nat),
          k.fst ≤ P.length ∧ k.snd ≤ List.length s ∧ List.map Prod.fst (pieces L.elements (List.drop k.snd s)) = List.drop k.fst P →
            (List.map strL P).length = P.length ∧
              (decide ((↑k.fst : Int) < (↑P.length : Int)) = true →
                  List.map strL P = List.map strL P ∧
                    (↑k.fst : Int) = (↑k.fst : Int) ∧
                      k.fst < P.length ∧
                        ∀ (x4 : Bs),
                          P[k.fst]? = some x4 →
                            (decide ((↑(List.length x4) : Int) < (1 : Int)) = true → true = true ∧ true = true ∧ true = true ∧ false = true) ∧
                              (decide ((↑(List.length x4) : Int) < (1 : Int)) = false →
                                InI64 ((↑(List.length s) : Int) - (↑k.snd : Int)) ∧
                                  (decide ((↑(List.length s) : Int) - (↑k.snd : Int) < (↑(List.length x4) : Int)) = true → true = true ∧ true = true ∧ false = true) ∧
                                    (decide ((↑(List.length s) : Int) - (↑k.snd : Int) < (↑(List.length x4) : Int)) = false →
                                      InI64 ((↑k.snd : Int) + (↑(List.length x4) : Int)) ∧
                                        (↑k.snd : Int) = (↑k.snd : Int) ∧
                                          (↑k.snd : Int) + (↑(List.length x4) : Int) = (↑(k.snd + List.length x4) : Int) ∧
                                            k.snd ≤ k.snd + List.length x4 ∧
                                              k.snd + List.length x4 ≤ List.length s ∧
                                                List.map strL P = List.map strL P ∧
                                                  (↑k.fst : Int) = (↑k.fst : Int) ∧
                                                    k.fst < P.length ∧
                                                      ∀ (x10 : Bs),
                                                        P[k.fst]? = some x10 →
                                                          ((!decide (List.drop k.snd (List.take (k.snd + List.length x4) s) = x10)) = true → true = true ∧ false = true) ∧
                                                            ((!decide (List.drop k.snd (List.take (k.snd + List.length x4) s) = x10)) = false →
                                                              (decide ((1 : Int) < (↑(List.length x4) : Int)) = true → List.map strL P = List.map strL P ∧ (↑k.fst : Int) = (↑k.fst : Int) ∧ k.fst < P.length ∧ ∀ (x15 : Bs), P[k.fst]? = some x15 → (R FT X).f (28 : FuncId) [AV.slice (2 : Nat) (List.map encEl L.elements), AV.val (Value.string (ofL x15))] = some (boolA (L.elements.any fun (e : El) ↦ decide (e.text = x15))) ∧ ((!L.elements.any fun (e : El) ↦ decide (e.text = x15)) = true → false = true) ∧ ((!L.elements.any fun (e : El) ↦ decide (e.text = x15)) = false → decide ((↑(List.length x4) : Int) = (1 : Int)) = false ∧ false = false ∧ false = false ∧ InI64 ((↑k.snd : Int) + (↑(List.length x4) : Int)) ∧ InI64 ((↑k.fst : Int) + (1 : Int)) ∧ ∃ (j19 : Nat × Nat), ((s = s ∧ True ∧ List.map strL P = List.map strL P ∧ (↑k.snd : Int) + (↑(List.length x4) : Int) = (↑j19.snd : Int) ∧ (↑k.fst : Int) + (1 : Int) = (↑j19.fst : Int) ∧ True) ∧ L.name = L.name ∧ List.map intA L.weights = List.map intA L.weights ∧ L.lower = L.lower ∧ L.upper = L.upper ∧ List.map encCls L.classes = List.map encCls L.classes ∧ List.map encEl L.elements = List.map encEl L.elements) ∧ (j19.fst ≤ P.length ∧ j19.snd ≤ List.length s ∧ List.map Prod.fst (pieces L.elements (List.drop j19.snd s)) = List.drop j19.fst P) ∧ P.length - j19.fst < P.length - k.fst)) ∧
                                                                (decide ((1 : Int) < (↑(List.length x4) : Int)) = false → false = false ∧ decide ((↑(List.length x4) : Int) = (1 : Int)) = true ∧ InI64 ((↑k.snd : Int) + (2 : Int)) ∧ (decide ((↑k.snd : Int) + (2 : Int) ≤ (↑(List.length s) : Int)) = true → InI64 ((↑k.snd : Int) + (2 : Int)) ∧ (↑k.snd : Int) = (↑k.snd : Int) ∧ (↑k.snd : Int) + (2 : Int) = (↑(k.snd + (2 : Nat)) : Int) ∧ k.snd ≤ k.snd + (2 : Nat) ∧ k.snd + (2 : Nat) ≤ List.length s ∧ (R FT X).f (28 : FuncId) [AV.slice (2 : Nat) (List.map encEl L.elements), AV.val (Value.string (ofL (List.drop k.snd (List.take (k.snd + (2 : Nat)) s))))] = some (boolA (L.elements.any fun (e : El) ↦ decide (e.text = List.drop k.snd (List.take (k.snd + (2 : Nat)) s)))) ∧ ((L.elements.any fun (e : El) ↦ decide (e.text = List.drop k.snd (List.take (k.snd + (2 : Nat)) s))) = true → false = true) ∧ ((L.elements.any fun (e : El) ↦ decide (e.text = List.drop k.snd (List.take (k.snd + (2 : Nat)) s))) = false → InI64 ((↑k.snd : Int) + (↑(List.length x4) : Int)) ∧ InI64 ((↑k.fst : Int) + (1 : Int)) ∧ ∃ (j24 : Nat × Nat), ((s = s ∧ True ∧ List.map strL P = List.map strL P ∧ (↑k.snd : Int) + (↑(List.length x4) : Int) = (↑j24.snd : Int) ∧ (↑k.fst : Int) + (1 : Int) = (↑j24.fst : Int) ∧ True) ∧ L.name = L.name ∧ List.map intA L.weights = List.map intA L.weights ∧ L.lower = L.lower ∧ L.upper = L.upper ∧ List.map encCls L.classes = List.map encCls L.classes ∧ List.map encEl L.elements = List.map encEl L.elements) ∧ (j24.fst ≤ P.length ∧ j24.snd ≤ List.length s ∧ List.map Prod.fst (pieces L.elements (List.drop j24.snd s)) = List.drop j24.fst P) ∧ P.length - j24.fst < P.length - k.fst)) ∧ (decide ((↑k.snd : Int) + (2 : Int) ≤ (↑(List.length s) : Int)) = false → false = false ∧ InI64 ((↑k.snd : Int) + (↑(List.length x4) : Int)) ∧ InI64 ((↑k.fst : Int) + (1 : Int)) ∧ ∃ (j26 : Nat × Nat), ((s = s ∧ True ∧ List.map strL P = List.map strL P ∧ (↑k.snd : Int) + (↑(List.length x4) : Int) = (↑j26.snd : Int) ∧ (↑k.fst : Int) + (1 : Int) = (↑j26.fst : Int) ∧ True) ∧ L.name = L.name ∧ List.map intA L.weights = List.map intA L.weights ∧ L.lower = L.lower ∧ L.upper = L.upper ∧ List.map encCls L.classes = List.map encCls L.classes ∧ List.map encEl L.elements = List.map encEl L.elements) ∧ (j26.fst ≤ P.length ∧ j26.snd ≤ List.length s ∧ List.map Prod.fst (pieces L.elements (List.drop j26.snd s)) = List.drop j26.fst P) ∧ P.length - j26.fst < P.length - k.fst)))))) ∧
                (decide ((↑k.fst : Int) < (↑P.length : Int)) = false → (decide ((↑k.snd : Int) = (↑(List.length s) : Int)) = true → (R FT X).f (17 : FuncId) [] = some (boolA true) ∧ true = true) ∧ (decide ((↑k.snd : Int) = (↑(List.length s) : Int)) = false → false = true)))) ?_
  refine ⟨(hck), rfl, (hsp), ⟨((0 : Nat), (0 : Nat)), ⟨⟨rfl, trivial, rfl, (by omega), (by omega), trivial⟩, rfl, rfl, rfl, rfl, rfl, rfl⟩, ⟨(by omega), (by omega), ?_⟩⟩, fun k => fun h2 => have h2a := h2.1; have h2b := h2.2.1; have h2c := h2.2.2; ⟨(by simp), fun h3_ => have h3 := dT h3_; ⟨rfl, rfl, (by omega), fun x4 => fun h5 => ⟨fun h6_ => have h6 := dT h6_; ⟨rfl, rfl, rfl, ?_⟩, fun h7_ => have h7 := dF h7_; ⟨(by unfold InI64; omega), fun h8_ => have h8 := dT h8_; ⟨rfl, rfl, ?_⟩, fun h9_ => have h9 := dF h9_; ⟨(by unfold InI64; omega), rfl, (by omega), (by omega), (by omega), rfl, rfl, (by omega), fun x10 => fun h11 => ⟨fun h12_ => have h12 := dnT h12_; ⟨rfl, ?_⟩, fun h13_ => have h13 := dnF h13_; ⟨fun h14_ => have h14 := dT h14_; ⟨rfl, rfl, (by omega), fun x15 => fun h16 => ⟨(pair_run _ _ hE), fun h17_ => have h17 := nT h17_; ?_, fun h18_ => have h18 := nF h18_; ⟨(fD (by omega)), rfl, rfl, (by unfold InI64; omega), (by unfold InI64; omega), ⟨(k.fst + (1 : Nat), k.snd + List.length x4), ⟨⟨rfl, trivial, rfl, (by omega), (by omega), trivial⟩, rfl, rfl, rfl, rfl, rfl, rfl⟩, ⟨⟨(by omega), (by omega), ?_⟩, (by omega)⟩⟩⟩⟩⟩, fun h20_ => have h20 := dF h20_; ⟨rfl, (tD (by omega)), (by unfold InI64; omega), fun h21_ => have h21 := dT h21_; ⟨(by unfold InI64; omega), rfl, (by omega), (by omega), (by omega), (pair_run _ _ hE), fun h22 => ?_, fun h23 => ⟨(by unfold InI64; omega), (by unfold InI64; omega), ⟨(k.fst + (1 : Nat), k.snd + List.length x4), ⟨⟨rfl, trivial, rfl, (by omega), (by omega), trivial⟩, rfl, rfl, rfl, rfl, rfl, rfl⟩, ⟨⟨(by omega), (by omega), ?_⟩, (by omega)⟩⟩⟩⟩, fun h25_ => have h25 := dF h25_; ⟨rfl, (by unfold InI64; omega), (by unfold InI64; omega), ⟨(k.fst + (1 : Nat), k.snd + List.length x4), ⟨⟨rfl, trivial, rfl, (by omega), (by omega), trivial⟩, rfl, rfl, rfl, rfl, rfl, rfl⟩, ⟨⟨(by omega), (by omega), ?_⟩, (by omega)⟩⟩⟩⟩⟩⟩⟩⟩⟩⟩, fun h27_ => have h27 := dF h27_; ⟨fun h28_ => have h28 := dT h28_; ⟨ha, rfl⟩, fun h29_ => have h29 := dF h29_; ?_⟩⟩⟩
  · subst hP; rfl
  · rcases jstep h2c h5 with ⟨e1, -⟩ | ⟨e1, -⟩ <;> omega
  · rcases jstep h2c h5 with ⟨e1, e2, -⟩ | ⟨e1, e2, -⟩ <;> omega
  · rw [h5] at h11; cases h11
    rcases jstep h2c h5 with ⟨e1, e2, e3, -⟩ | ⟨e1, e2, e3, -⟩ <;> (rw [e1] at h12; exact absurd e3 h12)
  · rw [h5] at h16; cases h16
    rcases jstep h2c h5 with ⟨e1, -⟩ | ⟨e1, e2, e3, e4, -⟩
    · omega
    · rw [e4] at h17; exact h17.symm
  · rcases jstep h2c h5 with ⟨e1, -⟩ | ⟨e1, e2, e3, e4, e5⟩
    · omega
    · show (pieces L.elements (s.drop (k.2 + x4.length))).map Prod.fst = P.drop (k.1 + 1)
      rw [e1]; exact e5
  · rcases jstep h2c h5 with ⟨e1, e2, e3, e4, e5⟩ | ⟨e1, -⟩
    · rw [jpair e4 (by omega)] at h22; exact h22
    · omega
  iterate 2
    rcases jstep h2c h5 with ⟨e1, e2, e3, e4, e5⟩ | ⟨e1, -⟩
    · show (pieces L.elements (s.drop (k.2 + x4.length))).map Prod.fst = P.drop (k.1 + 1)
      rw [e1]; exact e5
    · omega
  · rw [show P.drop k.1 = [] from List.drop_of_length_le (by omega)] at h2c
    have h30 := pieces_nil (List.map_eq_nil_iff.1 h2c)
    rw [List.drop_eq_nil_iff] at h30
    exact absurd (by omega) h29
theorem joins_bad (l L : Loc) (s : Bs) (P : List Bs) (e : Int) (hP : P = (pieces L.elements s).map Prod.fst) (hs : s.length ≤ 1048576) (hE : L.elements.length ≤ maxLen) (hPl : P.length ≤ 1048576)
    (he : e ≠ 0) (hck : (R FT X).f 16 [encLoc l] = some (intA e)) (hdf : (R FT X).f 27 [] = some (encLoc L)) (hsp : (R FT X).f 19 [encLoc L, strL s] = some (.slice 1 (P.map strL))) (ha : (R FT X).f 17 [] = some (boolA true)) : (R FT X).f 6 [encLoc l, strL s] = some (boolA true) := by
  refine R_wp ((Tr.c (intA e) (Tr.b true (Tr.c (encLoc L) (Tr.c (AV.slice (1 : Nat) (List.map strL P)) (Tr.inv (fun (k : Nat × Nat) ↦ St.mk [((1 : Nat), strL s), ((2 : Nat), AV.ptr (0 : Nat) (0 : Nat)), ((5 : Nat), AV.slice (1 : Nat) (List.map strL P)), ((6 : Nat), intA (↑k.snd : Int)), ((7 : Nat), intA (↑k.fst : Int))] [MObj.box [strL L.name, AV.slice (1 : Nat) (List.map intA L.weights), strL L.lower, strL L.upper, AV.slice (5 : Nat) (List.map encCls L.classes), AV.slice (2 : Nat) (List.map encEl L.elements)]]) (fun (k : Nat × Nat) ↦ k.fst ≤ P.length ∧ k.snd ≤ List.length s ∧ List.map Prod.fst (pieces L.elements (List.drop k.snd s)) = List.drop k.fst P) (fun (k : Nat × Nat) ↦ P.length - k.fst) fun (k : Nat × Nat) ↦ (Tr.k P.length ((Tr.ix strL P k.fst fun (x4 : Bs) ↦ ((Tr.b true (Tr.b true (Tr.b true Tr.nil).w)).br ((Tr.b true (Tr.b true Tr.nil).w).br (Tr.sl k.snd (k.snd + List.length x4) (Tr.ix strL P k.fst fun (x10 : Bs) ↦ (Tr.b true Tr.nil).w.br ((Tr.ix strL P k.fst fun (x15 : Bs) ↦ Tr.c (boolA (L.elements.any fun (e : El) ↦ decide (e.text = x15))) (Tr.nil.br (Tr.b false (Tr.b false (Tr.b false Tr.nil.w.w).w)).w).w).br (Tr.b false (Tr.b true ((Tr.sl k.snd (k.snd + (2 : Nat)) (Tr.c (boolA (L.elements.any fun (e : El) ↦ decide (e.text = List.drop k.snd (List.take (k.snd + (2 : Nat)) s)))) (Tr.nil.br Tr.nil.w.w).w)).w.br (Tr.b false Tr.nil.w.w).w).w).w).w))).w).w).w).w.br ((Tr.c (boolA true) Tr.nil).br Tr.nil).w)).w).w))).w).w) rfl ?_
  refine Eq.mpr (by kernel_rfl : _ = ((R FT X).f (16 : FuncId) [AV.agg [strL l.name, AV.slice (1 : Nat) (List.map intA l.weights), strL l.lower, strL l.upper, AV.slice (5 : Nat) (List.map encCls l.classes), AV.slice (2 : Nat) (List.map encEl l.elements)]] = some (intA e) ∧
  (!decide (e = (0 : Int))) = true ∧
    (R FT X).f (27 : FuncId) [] = some (AV.agg [strL L.name, AV.slice (1 : Nat) (List.map intA L.weights), strL L.lower, strL L.upper, AV.slice (5 : Nat) (List.map encCls L.classes), AV.slice (2 : Nat) (List.map encEl L.elements)]) ∧
      (R FT X).f (19 : FuncId) [AV.agg [strL L.name, AV.slice (1 : Nat) (List.map intA L.weights), strL L.lower, strL L.upper, AV.slice (5 : Nat) (List.map encCls L.classes), AV.slice (2 : Nat) (List.map encEl L.elements)], AV.val (Value.string (ofL s))] = some (AV.slice (1 : Nat) (List.map strL P)) ∧
        (∃ (j1 : Nat × Nat), ((s = s ∧ True ∧ List.map strL P = List.map strL P ∧ (0 : Int) = (↑j1.snd : Int) ∧ (0 : Int) = (↑j1.fst : Int) ∧ True) ∧ L.name = L.name ∧ List.map intA L.weights = List.map intA L.weights ∧ L.lower = L.lower ∧ L.upper = L.upper ∧ List.map encCls L.classes = List.map encCls L.classes ∧ List.map encEl L.elements = List.map encEl L.elements) ∧ j1.fst ≤ P.length ∧ j1.snd ≤ List.length s ∧ List.map Prod.fst (pieces L.elements (List.drop j1.snd s)) = List.drop j1.fst P) ∧
          ∀ (k : Nat × Nat),
            k.fst ≤ P.length ∧ k.snd ≤ List.length s ∧ List.map Prod.fst (pieces L.elements (List.drop k.snd s)) = List.drop k.fst P →
              (List.map strL P).length = P.length ∧
                (decide ((↑k.fst : Int) < (↑P.length : Int)) = true →
                    List.map strL P = List.map strL P ∧
                      (↑k.fst : Int) = (↑k.fst : Int) ∧
                        k.fst < P.length ∧
                          ∀ (x4 : Bs),
                            P[k.fst]? = some x4 →
                              (decide ((↑(List.length x4) : Int) < (1 : Int)) = true → true = true ∧ true = true ∧ true = true ∧ false = true) ∧
                                (decide ((↑(List.length x4) : Int) < (1 : Int)) = false →
                                  InI64 ((↑(List.length s) : Int) - (↑k.snd : Int)) ∧
                                    (decide ((↑(List.length s) : Int) - (↑k.snd : Int) < (↑(List.length x4) : Int)) = true → true = true ∧ true = true ∧ false = true) ∧
                                      (decide ((↑(List.length s) : Int) - (↑k.snd : Int) < (↑(List.length x4) : Int)) = false →
                                        InI64 ((↑k.snd : Int) + (↑(List.length x4) : Int)) ∧
                                          (↑k.snd : Int) = (↑k.snd : Int) ∧
                                            (↑k.snd : Int) + (↑(List.length x4) : Int) = (↑(k.snd + List.length x4) : Int) ∧
                                              k.snd ≤ k.snd + List.length x4 ∧
                                                k.snd + List.length x4 ≤ List.length s ∧
                                                  List.map strL P = List.map strL P ∧
                                                    (↑k.fst : Int) = (↑k.fst : Int) ∧
                                                      k.fst < P.length ∧
                                                        ∀ (x10 : Bs),
                                                          P[k.fst]? = some x10 →
                                                            ((!decide (List.drop k.snd (List.take (k.snd + List.length x4) s) = x10)) = true → true = true ∧ false = true) ∧
                                                              ((!decide (List.drop k.snd (List.take (k.snd + List.length x4) s) = x10)) = false →
                                                                (decide ((1 : Int) < (↑(List.length x4) : Int)) = true → List.map strL P = List.map strL P ∧ (↑k.fst : Int) = (↑k.fst : Int) ∧ k.fst < P.length ∧ ∀ (x15 : Bs), P[k.fst]? = some x15 → (R FT X).f (28 : FuncId) [AV.slice (2 : Nat) (List.map encEl L.elements), AV.val (Value.string (ofL x15))] = some (boolA (L.elements.any fun (e : El) ↦ decide (e.text = x15))) ∧ ((!L.elements.any fun (e : El) ↦ decide (e.text = x15)) = true → false = true) ∧ ((!L.elements.any fun (e : El) ↦ decide (e.text = x15)) = false → decide ((↑(List.length x4) : Int) = (1 : Int)) = false ∧ false = false ∧ false = false ∧ InI64 ((↑k.snd : Int) + (↑(List.length x4) : Int)) ∧ InI64 ((↑k.fst : Int) + (1 : Int)) ∧ ∃ (j19 : Nat × Nat), ((s = s ∧ True ∧ List.map strL P = List.map strL P ∧ (↑k.snd : Int) + (↑(List.length x4) : Int) = (↑j19.snd : Int) ∧ (↑k.fst : Int) + (1 : Int) = (↑j19.fst : Int) ∧ True) ∧ L.name = L.name ∧ List.map intA L.weights = List.map intA L.weights ∧ L.lower = L.lower ∧ L.upper = L.upper ∧ List.map encCls L.classes = List.map encCls L.classes ∧ List.map encEl L.elements = List.map encEl L.elements) ∧ (j19.fst ≤ P.length ∧ j19.snd ≤ List.length s ∧ List.map Prod.fst (pieces L.elements (List.drop j19.snd s)) = List.drop j19.fst P) ∧ P.length - j19.fst < P.length - k.fst)) ∧
                                                                  (decide ((1 : Int) < (↑(List.length x4) : Int)) = false → false = false ∧ decide ((↑(List.length x4) : Int) = (1 : Int)) = true ∧ InI64 ((↑k.snd : Int) + (2 : Int)) ∧ (decide ((↑k.snd : Int) + (2 : Int) ≤ (↑(List.length s) : Int)) = true → InI64 ((↑k.snd : Int) + (2 : Int)) ∧ (↑k.snd : Int) = (↑k.snd : Int) ∧ (↑k.snd : Int) + (2 : Int) = (↑(k.snd + (2 : Nat)) : Int) ∧ k.snd ≤ k.snd + (2 : Nat) ∧ k.snd + (2 : Nat) ≤ List.length s ∧ (R FT X).f (28 : FuncId) [AV.slice (2 : Nat) (List.map encEl L.elements), AV.val (Value.string (ofL (List.drop k.snd (List.take (k.snd + (2 : Nat)) s))))] = some (boolA (L.elements.any fun (e : El) ↦ decide (e.text = List.drop k.snd (List.take (k.snd + (2 : Nat)) s)))) ∧ ((L.elements.any fun (e : El) ↦ decide (e.text = List.drop k.snd (List.take (k.snd + (2 : Nat)) s))) = true → false = true) ∧ ((L.elements.any fun (e : El) ↦ decide (e.text = List.drop k.snd (List.take (k.snd + (2 : Nat)) s))) = false → InI64 ((↑k.snd : Int) + (↑(List.length x4) : Int)) ∧ InI64 ((↑k.fst : Int) + (1 : Int)) ∧ ∃ (j24 : Nat × Nat), ((s = s ∧ True ∧ List.map strL P = List.map strL P ∧ (↑k.snd : Int) + (↑(List.length x4) : Int) = (↑j24.snd : Int) ∧ (↑k.fst : Int) + (1 : Int) = (↑j24.fst : Int) ∧ True) ∧ L.name = L.name ∧ List.map intA L.weights = List.map intA L.weights ∧ L.lower = L.lower ∧ L.upper = L.upper ∧ List.map encCls L.classes = List.map encCls L.classes ∧ List.map encEl L.elements = List.map encEl L.elements) ∧ (j24.fst ≤ P.length ∧ j24.snd ≤ List.length s ∧ List.map Prod.fst (pieces L.elements (List.drop j24.snd s)) = List.drop j24.fst P) ∧ P.length - j24.fst < P.length - k.fst)) ∧ (decide ((↑k.snd : Int) + (2 : Int) ≤ (↑(List.length s) : Int)) = false → false = false ∧ InI64 ((↑k.snd : Int) + (↑(List.length x4) : Int)) ∧ InI64 ((↑k.fst : Int) + (1 : Int)) ∧ ∃ (j26 : Nat × Nat), ((s = s ∧ True ∧ List.map strL P = List.map strL P ∧ (↑k.snd : Int) + (↑(List.length x4) : Int) = (↑j26.snd : Int) ∧ (↑k.fst : Int) + (1 : Int) = (↑j26.fst : Int) ∧ True) ∧ L.name = L.name ∧ List.map intA L.weights = List.map intA L.weights ∧ L.lower = L.lower ∧ L.upper = L.upper ∧ List.map encCls L.classes = List.map encCls L.classes ∧ List.map encEl L.elements = List.map encEl L.elements) ∧ (j26.fst ≤ P.length ∧ j26.snd ≤ List.length s ∧ List.map Prod.fst (pieces L.elements (List.drop j26.snd s)) = List.drop j26.fst P) ∧ P.length - j26.fst < P.length - k.fst)))))) ∧
                  (decide ((↑k.fst : Int) < (↑P.length : Int)) = false → (decide ((↑k.snd : Int) = (↑(List.length s) : Int)) = true → (R FT X).f (17 : FuncId) [] = some (boolA true) ∧ true = true) ∧ (decide ((↑k.snd : Int) = (↑(List.length s) : Int)) = false → false = true)))) ?_
  refine ⟨(hck), (tnD (by omega)), (hdf), (hsp), ⟨((0 : Nat), (0 : Nat)), ⟨⟨rfl, trivial, rfl, (by omega), (by omega), trivial⟩, rfl, rfl, rfl, rfl, rfl, rfl⟩, ⟨(by omega), (by omega), ?_⟩⟩, fun k => fun h2 => have h2a := h2.1; have h2b := h2.2.1; have h2c := h2.2.2; ⟨(by simp), fun h3_ => have h3 := dT h3_; ⟨rfl, rfl, (by omega), fun x4 => fun h5 => ⟨fun h6_ => have h6 := dT h6_; ⟨rfl, rfl, rfl, ?_⟩, fun h7_ => have h7 := dF h7_; ⟨(by unfold InI64; omega), fun h8_ => have h8 := dT h8_; ⟨rfl, rfl, ?_⟩, fun h9_ => have h9 := dF h9_; ⟨(by unfold InI64; omega), rfl, (by omega), (by omega), (by omega), rfl, rfl, (by omega), fun x10 => fun h11 => ⟨fun h12_ => have h12 := dnT h12_; ⟨rfl, ?_⟩, fun h13_ => have h13 := dnF h13_; ⟨fun h14_ => have h14 := dT h14_; ⟨rfl, rfl, (by omega), fun x15 => fun h16 => ⟨(pair_run _ _ hE), fun h17_ => have h17 := nT h17_; ?_, fun h18_ => have h18 := nF h18_; ⟨(fD (by omega)), rfl, rfl, (by unfold InI64; omega), (by unfold InI64; omega), ⟨(k.fst + (1 : Nat), k.snd + List.length x4), ⟨⟨rfl, trivial, rfl, (by omega), (by omega), trivial⟩, rfl, rfl, rfl, rfl, rfl, rfl⟩, ⟨⟨(by omega), (by omega), ?_⟩, (by omega)⟩⟩⟩⟩⟩, fun h20_ => have h20 := dF h20_; ⟨rfl, (tD (by omega)), (by unfold InI64; omega), fun h21_ => have h21 := dT h21_; ⟨(by unfold InI64; omega), rfl, (by omega), (by omega), (by omega), (pair_run _ _ hE), fun h22 => ?_, fun h23 => ⟨(by unfold InI64; omega), (by unfold InI64; omega), ⟨(k.fst + (1 : Nat), k.snd + List.length x4), ⟨⟨rfl, trivial, rfl, (by omega), (by omega), trivial⟩, rfl, rfl, rfl, rfl, rfl, rfl⟩, ⟨⟨(by omega), (by omega), ?_⟩, (by omega)⟩⟩⟩⟩, fun h25_ => have h25 := dF h25_; ⟨rfl, (by unfold InI64; omega), (by unfold InI64; omega), ⟨(k.fst + (1 : Nat), k.snd + List.length x4), ⟨⟨rfl, trivial, rfl, (by omega), (by omega), trivial⟩, rfl, rfl, rfl, rfl, rfl, rfl⟩, ⟨⟨(by omega), (by omega), ?_⟩, (by omega)⟩⟩⟩⟩⟩⟩⟩⟩⟩⟩, fun h27_ => have h27 := dF h27_; ⟨fun h28_ => have h28 := dT h28_; ⟨ha, rfl⟩, fun h29_ => have h29 := dF h29_; ?_⟩⟩⟩
  · subst hP; rfl
  · rcases jstep h2c h5 with ⟨e1, -⟩ | ⟨e1, -⟩ <;> omega
  · rcases jstep h2c h5 with ⟨e1, e2, -⟩ | ⟨e1, e2, -⟩ <;> omega
  · rw [h5] at h11; cases h11
    rcases jstep h2c h5 with ⟨e1, e2, e3, -⟩ | ⟨e1, e2, e3, -⟩ <;> (rw [e1] at h12; exact absurd e3 h12)
  · rw [h5] at h16; cases h16
    rcases jstep h2c h5 with ⟨e1, -⟩ | ⟨e1, e2, e3, e4, -⟩
    · omega
    · rw [e4] at h17; exact h17.symm
  · rcases jstep h2c h5 with ⟨e1, -⟩ | ⟨e1, e2, e3, e4, e5⟩
    · omega
    · show (pieces L.elements (s.drop (k.2 + x4.length))).map Prod.fst = P.drop (k.1 + 1)
      rw [e1]; exact e5
  · rcases jstep h2c h5 with ⟨e1, e2, e3, e4, e5⟩ | ⟨e1, -⟩
    · rw [jpair e4 (by omega)] at h22; exact h22
    · omega
  iterate 2
    rcases jstep h2c h5 with ⟨e1, e2, e3, e4, e5⟩ | ⟨e1, -⟩
    · show (pieces L.elements (s.drop (k.2 + x4.length))).map Prod.fst = P.drop (k.1 + 1)
      rw [e1]; exact e5
    · omega
  · rw [show P.drop k.1 = [] from List.drop_of_length_le (by omega)] at h2c
    have h30 := pieces_nil (List.map_eq_nil_iff.1 h2c)
    rw [List.drop_eq_nil_iff] at h30
    exact absurd (by omega) h29
theorem joins_law (l : Loc) (s : Bs) (hl : LocOk l) (hs : s.length ≤ 1048576) (hc : StrC X) : (R FT X).f 6 [encLoc l, strL s] = some (boolA true) := by
  have ha := awake_run hc
  by_cases he : errLoc l = 0
  · have hg := good_of hl he
    have h1 := pieces_len l.elements _ s (Nat.le_refl _)
    refine joins_good l s _ rfl hs hl.elements.1 (by rw [List.length_map]; omega) (by rw [check2_run l hl, he]) ?_ ha
    rw [split_run l s hl hs, valL_y he]
  · have h1 := pieces_len defL.elements _ s (Nat.le_refl _)
    refine joins_bad l defL s _ (errLoc l) rfl hs defL_ok.elements.1 (by rw [List.length_map]; omega) he (check2_run l hl) def2_run ?_ ha
    rw [split_run defL s defL_ok hs, defL_val]
end
end Go.Proofs.Ytbdmioekohmcnaa
