/- Locales: the order of strings is total. -/
import Derived.Test.YtbdmioekohmcnaaLo12
namespace Go.Proofs.Ytbdmioekohmcnaa
set_option linter.unusedVariables false
set_option linter.unusedSimpArgs false
set_option maxRecDepth 100000
theorem ord_rng : ∀ a b : List Int, -1 ≤ ord a b ∧ ord a b ≤ 1
  | [], [] => by simp [ord]
  | [], _ :: _ => by simp [ord]
  | _ :: _, [] => by simp [ord]
  | x :: a, y :: b => by
    have ih := ord_rng a b
    simp only [ord]
    split
    · omega
    · split <;> omega
theorem ord_anti : ∀ a b : List Int, ord b a = - ord a b
  | [], [] => by simp [ord]
  | [], _ :: _ => by simp [ord]
  | _ :: _, [] => by simp [ord]
  | x :: a, y :: b => by
    have ih := ord_anti a b
    simp only [ord]
    split <;> split <;> (try split) <;> omega
theorem ord_zero : ∀ {a b : List Int}, ord a b = 0 → a = b
  | [], [], _ => rfl
  | [], _ :: _, h => by simp [ord] at h
  | _ :: _, [], h => by simp [ord] at h
  | x :: a, y :: b, h => by
    simp only [ord] at h
    split at h
    · omega
    · split at h
      · omega
      · rw [ord_zero h, show x = y by omega]
theorem ord_self : ∀ a : List Int, ord a a = 0
  | [] => rfl
  | x :: a => by simp only [ord, Int.lt_irrefl, gt_iff_lt, if_false]; exact ord_self a
theorem ord_trans : ∀ {a b c : List Int}, ord a b ≤ 0 → ord b c ≤ 0 → ord a c ≤ 0 ∧ (ord a b < 0 ∨ ord b c < 0 → ord a c < 0)
  | [], [], [], _, _ => by simp [ord]
  | [], [], _ :: _, _, _ => by simp [ord]
  | [], _ :: _, [], _, h => by simp [ord] at h
  | [], _ :: _, _ :: _, _, _ => by simp [ord]
  | _ :: _, [], _, h, _ => by simp [ord] at h
  | _ :: _, _ :: _, [], _, h => by simp [ord] at h
  | x :: a, y :: b, z :: c, h1, h2 => by
    simp only [ord] at h1 h2 ⊢
    by_cases e1 : x < y
    · rw [if_pos e1] at h1 ⊢
      by_cases e2 : y < z
      · rw [if_pos (by omega : x < z)]; omega
      · rw [if_neg e2] at h2 ⊢
        by_cases e3 : y > z
        · rw [if_pos e3] at h2; omega
        · rw [if_pos (by omega : x < z)]; omega
    · rw [if_neg e1] at h1 ⊢
      by_cases e4 : x > y
      · rw [if_pos e4] at h1; omega
      · rw [if_neg e4] at h1 ⊢
        obtain rfl : x = y := by omega
        by_cases e2 : x < z
        · simp only [if_pos e2]; omega
        · rw [if_neg e2] at h2
          by_cases e3 : x > z
          · rw [if_pos e3] at h2; omega
          · rw [if_neg e3] at h2
            simp only [if_neg e2, if_neg e3]
            exact ord_trans h1 h2
theorem ints_inj {a b : Bs} (h : ints a = ints b) : a = b := by
  unfold ints at h
  exact (List.map_inj_right fun x y e => UInt8.toNat_inj.1 (Int.ofNat.inj e)).1 h
theorem cmpL_rng (L : Loc) (a b : Bs) : -1 ≤ cmpL L a b ∧ cmpL L a b ≤ 1 := by
  unfold cmpL
  split <;> exact ord_rng _ _
theorem cmpL_anti (L : Loc) (a b : Bs) : cmpL L b a = - cmpL L a b := by
  unfold cmpL
  rw [ord_anti (wts L a) (wts L b), ord_anti (ints a) (ints b)]
  split <;> split <;> omega
theorem cmpL_zero {L : Loc} {a b : Bs} : cmpL L a b = 0 ↔ a = b := by
  constructor
  · intro h
    unfold cmpL at h
    split at h
    · omega
    · exact ints_inj (ord_zero h)
  · intro h
    subst h
    unfold cmpL
    rw [ord_self, ord_self]; rfl
theorem cmpL_trans {L : Loc} {a b c : Bs} (h1 : cmpL L a b ≤ 0) (h2 : cmpL L b c ≤ 0) : cmpL L a c ≤ 0 := by
  unfold cmpL at h1 h2 ⊢
  by_cases e1 : ord (wts L a) (wts L b) = 0
  · rw [if_neg (by simpa using e1)] at h1
    have e1' := ord_zero e1
    rw [← e1'] at h2
    by_cases e2 : ord (wts L a) (wts L c) = 0
    · rw [if_neg (by simpa using e2)] at h2 ⊢
      exact (ord_trans h1 h2).1
    · rw [if_pos e2] at h2 ⊢; exact h2
  · rw [if_pos e1] at h1
    by_cases e2 : ord (wts L b) (wts L c) = 0
    · have e2' := ord_zero e2
      rw [← e2', if_pos e1]; exact h1
    · rw [if_pos e2] at h2
      have := (ord_trans h1 h2).2 (.inl (by omega))
      rw [if_pos (by omega)]; omega
theorem same_at {α : Type} {l : List α} {k : Nat} {x y : α} (h : l[k]? = some x) (h' : l[k]? = some y) : y = x := by rw [h] at h'; exact (Option.some.inj h').symm
section
variable {X : CallF}
theorem orders_law' (l : Loc) (w : List Bs) (C : Bs → Bs → Int) (hw : w.length ≤ maxLen) (hb : ∀ x ∈ w, x.length ≤ 1048576) (hcmp : ∀ x y : Bs, x.length ≤ 1048576 → y.length ≤ 1048576 → (R FT X).f 21 [encLoc l, strL x, strL y] = some (intA (C x y)))
    (c0 : ∀ x y, C x y = 0 ↔ x = y) (c1 : ∀ x y, -1 ≤ C x y ∧ C x y ≤ 1) (c2 : ∀ x y, C y x = - C x y) (c3 : ∀ x y z, C x y ≤ 0 → C y z ≤ 0 → C x z ≤ 0) (ha : (R FT X).f 17 [] = some (boolA true)) : (R FT X).f 7 [encLoc l, .slice 1 (w.map strL)] = some (boolA true) := by
  refine R_wp ((Tr.k w.length ((Tr.c (boolA true) Tr.nil).br (Tr.ix strL w (0 : Nat) fun (x3 : Bs) ↦ Tr.ix strL w (1 : Nat) fun (x5 : Bs) ↦ Tr.c (intA (C x3 x5)) (Tr.ix strL w (1 : Nat) fun (x7 : Bs) ↦ Tr.ix strL w (2 : Nat) fun (x9 : Bs) ↦ Tr.c (intA (C x7 x9)) (Tr.ix strL w (0 : Nat) fun (x11 : Bs) ↦ Tr.ix strL w (2 : Nat) fun (x13 : Bs) ↦ Tr.c (intA (C x11 x13)) (Tr.ix strL w (0 : Nat) fun (x15 : Bs) ↦ Tr.ix strL w (1 : Nat) fun (x17 : Bs) ↦ (Tr.b true (Tr.b true (Tr.b true Tr.nil).w)).br ((Tr.b true (Tr.b true Tr.nil).w).br ((Tr.b true Tr.nil).w.br (Tr.ix strL w (1 : Nat) fun (x25 : Bs) ↦ Tr.ix strL w (0 : Nat) fun (x27 : Bs) ↦ Tr.c (intA (C x25 x27)) (Tr.nil.br ((((Tr.b true Tr.nil).w.br (((Tr.nil.br (Tr.c (boolA true) Tr.nil)).w.br (Tr.b false (Tr.c (boolA true) Tr.nil)).w).br (Tr.b false (Tr.b false (Tr.c (boolA true) Tr.nil)).w))).br (Tr.b false ((Tr.b true (Tr.nil.br (Tr.c (boolA true) Tr.nil)).w).br (Tr.b false (Tr.b false (Tr.c (boolA true) Tr.nil)).w)))).br (Tr.b false (Tr.b false (Tr.b true ((Tr.nil.br (Tr.c (boolA true) Tr.nil)).w.br (Tr.b false (Tr.c (boolA true) Tr.nil)).w))))).w).w)))).w)))).w).w) rfl ?_
  refine Eq.mpr (by kernel_rfl : _ = ((List.map strL w).length = w.length ∧
  ((!decide ((↑w.length : Int) = (3 : Int))) = true → (R FT X).f (17 : FuncId) [] = some (boolA true) ∧ true = true) ∧
    ((!decide ((↑w.length : Int) = (3 : Int))) = false →
      List.map strL w = List.map strL w ∧
        (0 : Int) = (0 : Int) ∧
          (0 : Nat) < w.length ∧
            ∀ (x3 : Bs),
              w[(0 : Nat)]? = some x3 →
                List.map strL w = List.map strL w ∧
                  (1 : Int) = (1 : Int) ∧
                    (1 : Nat) < w.length ∧
                      ∀ (x5 : Bs),
                        w[(1 : Nat)]? = some x5 →
                          (R FT X).f (21 : FuncId) [AV.agg [strL l.name, AV.slice (1 : Nat) (List.map intA l.weights), strL l.lower, strL l.upper, AV.slice (5 : Nat) (List.map encCls l.classes), AV.slice (2 : Nat) (List.map encEl l.elements)], AV.val (Value.string (ofL x3)), AV.val (Value.string (ofL x5))] = some (intA (C x3 x5)) ∧
                            List.map strL w = List.map strL w ∧
                              (1 : Int) = (1 : Int) ∧
                                (1 : Nat) < w.length ∧
                                  ∀ (x7 : Bs),
                                    w[(1 : Nat)]? = some x7 →
                                      List.map strL w = List.map strL w ∧
                                        (2 : Int) = (2 : Int) ∧
                                          (2 : Nat) < w.length ∧
                                            ∀ (x9 : Bs),
                                              w[(2 : Nat)]? = some x9 →
                                                (R FT X).f (21 : FuncId) [AV.agg [strL l.name, AV.slice (1 : Nat) (List.map intA l.weights), strL l.lower, strL l.upper, AV.slice (5 : Nat) (List.map encCls l.classes), AV.slice (2 : Nat) (List.map encEl l.elements)], AV.val (Value.string (ofL x7)), AV.val (Value.string (ofL x9))] = some (intA (C x7 x9)) ∧
                                                  List.map strL w = List.map strL w ∧
                                                    (0 : Int) = (0 : Int) ∧
                                                      (0 : Nat) < w.length ∧
                                                        ∀ (x11 : Bs),
                                                          w[(0 : Nat)]? = some x11 →
                                                            List.map strL w = List.map strL w ∧
                                                              (2 : Int) = (2 : Int) ∧
                                                                (2 : Nat) < w.length ∧
                                                                  ∀ (x13 : Bs),
                                                                    w[(2 : Nat)]? = some x13 →
                                                                      (R FT X).f (21 : FuncId) [AV.agg [strL l.name, AV.slice (1 : Nat) (List.map intA l.weights), strL l.lower, strL l.upper, AV.slice (5 : Nat) (List.map encCls l.classes), AV.slice (2 : Nat) (List.map encEl l.elements)], AV.val (Value.string (ofL x11)), AV.val (Value.string (ofL x13))] = some (intA (C x11 x13)) ∧
                                                                        List.map strL w = List.map strL w ∧
                                                                          (0 : Int) = (0 : Int) ∧ (0 : Nat) < w.length ∧ ∀ (x15 : Bs), w[(0 : Nat)]? = some x15 → List.map strL w = List.map strL w ∧ (1 : Int) = (1 : Int) ∧ (1 : Nat) < w.length ∧ ∀ (x17 : Bs), w[(1 : Nat)]? = some x17 → ((!decide (C x3 x5 = (0 : Int)) == decide (x15 = x17)) = true → true = true ∧ true = true ∧ true = true ∧ false = true) ∧ ((!decide (C x3 x5 = (0 : Int)) == decide (x15 = x17)) = false → (decide (C x3 x5 < (-1 : Int)) = true → true = true ∧ true = true ∧ false = true) ∧ (decide (C x3 x5 < (-1 : Int)) = false → (decide ((1 : Int) < C x3 x5) = true → true = true ∧ false = true) ∧ (decide ((1 : Int) < C x3 x5) = false → List.map strL w = List.map strL w ∧ (1 : Int) = (1 : Int) ∧ (1 : Nat) < w.length ∧ ∀ (x25 : Bs), w[(1 : Nat)]? = some x25 → List.map strL w = List.map strL w ∧ (0 : Int) = (0 : Int) ∧ (0 : Nat) < w.length ∧ ∀ (x27 : Bs), w[(0 : Nat)]? = some x27 → (R FT X).f (21 : FuncId) [AV.agg [strL l.name, AV.slice (1 : Nat) (List.map intA l.weights), strL l.lower, strL l.upper, AV.slice (5 : Nat) (List.map encCls l.classes), AV.slice (2 : Nat) (List.map encEl l.elements)], AV.val (Value.string (ofL x25)), AV.val (Value.string (ofL x27))] = some (intA (C x25 x27)) ∧ ((!decide (C x25 x27 = IntKind.i64.wrap ((0 : Int) - C x3 x5))) = true → false = true) ∧ ((!decide (C x25 x27 = IntKind.i64.wrap ((0 : Int) - C x3 x5))) = false → (decide (C x3 x5 ≤ (0 : Int)) = true → (decide (C x7 x9 ≤ (0 : Int)) = true → (decide ((0 : Int) < C x11 x13) = true → true = true ∧ false = true) ∧ (decide ((0 : Int) < C x11 x13) = false → (decide ((0 : Int) ≤ C x3 x5) = true → (decide ((0 : Int) ≤ C x7 x9) = true → (decide (C x11 x13 < (0 : Int)) = true → false = true) ∧ (decide (C x11 x13 < (0 : Int)) = false → (R FT X).f (17 : FuncId) [] = some (boolA true) ∧ true = true)) ∧ (decide ((0 : Int) ≤ C x7 x9) = false → false = false ∧ (R FT X).f (17 : FuncId) [] = some (boolA true) ∧ true = true)) ∧ (decide ((0 : Int) ≤ C x3 x5) = false → false = false ∧ false = false ∧ (R FT X).f (17 : FuncId) [] = some (boolA true) ∧ true = true))) ∧ (decide (C x7 x9 ≤ (0 : Int)) = false → false = false ∧ (decide ((0 : Int) ≤ C x3 x5) = true → decide ((0 : Int) ≤ C x7 x9) = true ∧ (decide (C x11 x13 < (0 : Int)) = true → false = true) ∧ (decide (C x11 x13 < (0 : Int)) = false → (R FT X).f (17 : FuncId) [] = some (boolA true) ∧ true = true)) ∧ (decide ((0 : Int) ≤ C x3 x5) = false → false = false ∧ false = false ∧ (R FT X).f (17 : FuncId) [] = some (boolA true) ∧ true = true))) ∧ (decide (C x3 x5 ≤ (0 : Int)) = false → false = false ∧ false = false ∧ decide ((0 : Int) ≤ C x3 x5) = true ∧ (decide ((0 : Int) ≤ C x7 x9) = true → (decide (C x11 x13 < (0 : Int)) = true → false = true) ∧ (decide (C x11 x13 < (0 : Int)) = false → (R FT X).f (17 : FuncId) [] = some (boolA true) ∧ true = true)) ∧ (decide ((0 : Int) ≤ C x7 x9) = false → false = false ∧ (R FT X).f (17 : FuncId) [] = some (boolA true) ∧ true = true))))))))) ?_
  refine ⟨(by simp), fun h1_ => have h1 := dnT h1_; ⟨ha, rfl⟩, fun h2_ => have h2 := dnF h2_; ⟨rfl, rfl, (by omega), fun x3 => fun h4 => ⟨rfl, rfl, (by omega), fun x5 => fun h6 => ⟨(hcmp _ _ ?_ ?_), rfl, rfl, (by omega), fun x7 => fun h8 => ⟨rfl, rfl, (by omega), fun x9 => fun h10 => ⟨(hcmp _ _ ?_ ?_), rfl, rfl, (by omega), fun x11 => fun h12 => ⟨rfl, rfl, (by omega), fun x13 => fun h14 => ⟨(hcmp _ _ ?_ ?_), rfl, rfl, (by omega), fun x15 => fun h16 => ⟨rfl, rfl, (by omega), fun x17 => fun h18 => ⟨fun h19_ => have h19 := nT h19_; ⟨rfl, rfl, rfl, ?_⟩, fun h20_ => have h20 := nF h20_; ⟨fun h21_ => have h21 := dT h21_; ⟨rfl, rfl, ?_⟩, fun h22_ => have h22 := dF h22_; ⟨fun h23_ => have h23 := dT h23_; ⟨rfl, ?_⟩, fun h24_ => have h24 := dF h24_; ⟨rfl, rfl, (by omega), fun x25 => fun h26 => ⟨rfl, rfl, (by omega), fun x27 => fun h28 => ⟨(hcmp _ _ ?_ ?_), fun h29_ => have h29 := dnT h29_; ?_, fun h30_ => have h30 := dnF h30_; ⟨fun h31_ => have h31 := dT h31_; ⟨fun h32_ => have h32 := dT h32_; ⟨fun h33_ => have h33 := dT h33_; ⟨rfl, ?_⟩, fun h34_ => have h34 := dF h34_; ⟨fun h35_ => have h35 := dT h35_; ⟨fun h36_ => have h36 := dT h36_; ⟨fun h37_ => have h37 := dT h37_; ?_, fun h38_ => have h38 := dF h38_; ⟨ha, rfl⟩⟩, fun h39_ => have h39 := dF h39_; ⟨rfl, ha, rfl⟩⟩, fun h40_ => have h40 := dF h40_; ⟨rfl, rfl, ha, rfl⟩⟩⟩, fun h41_ => have h41 := dF h41_; ⟨rfl, fun h42_ => have h42 := dT h42_; ⟨(tD (by omega)), fun h43_ => have h43 := dT h43_; ?_, fun h44_ => have h44 := dF h44_; ⟨ha, rfl⟩⟩, fun h45_ => have h45 := dF h45_; ⟨rfl, rfl, ha, rfl⟩⟩⟩, fun h46_ => have h46 := dF h46_; ⟨rfl, rfl, (tD (by omega)), fun h47_ => have h47 := dT h47_; ⟨fun h48_ => have h48 := dT h48_; ?_, fun h49_ => have h49 := dF h49_; ⟨ha, rfl⟩⟩, fun h50_ => have h50 := dF h50_; ⟨rfl, ha, rfl⟩⟩⟩⟩⟩⟩⟩⟩⟩⟩⟩⟩⟩⟩⟩⟩⟩⟩
  iterate 6 · exact hb _ (List.mem_of_getElem? (by assumption))
  · obtain rfl := same_at h4 h16
    obtain rfl := same_at h6 h18
    have e : decide (C x15 x17 = 0) = decide (x15 = x17) := by rw [decide_eq_decide]; exact c0 _ _
    rw [e] at h19
    simp at h19
  · have := c1 x3 x5; omega
  · have := c1 x3 x5; omega
  iterate 2 · exact hb _ (List.mem_of_getElem? (by assumption))
  · obtain rfl := same_at h4 h28
    obtain rfl := same_at h6 h26
    have e1 := c2 x27 x25
    have e2 := c1 x27 x25
    rw [wrap64_id (by omega) (by omega)] at h29
    omega
  all_goals
    obtain rfl := same_at h4 h12
    obtain rfl := same_at h6 h8
    obtain rfl := same_at h10 h14
    have e1 := c3 x11 x7 x13
    have e2 := c3 x13 x7 x11
    have e3 := c2 x11 x7
    have e4 := c2 x7 x13
    have e5 := c2 x11 x13
    omega
theorem orders_law (l : Loc) (w : List Bs) (hl : LocOk l) (hw : w.length ≤ maxLen) (hb : ∀ x ∈ w, x.length ≤ 1048576) (hc : StrC X) : (R FT X).f 7 [encLoc l, .slice 1 (w.map strL)] = some (boolA true) :=
  orders_law' l w (cmpL (valL l)) hw hb (fun x y hx hy => cmp_run l x y hl hc hx hy) (fun _ _ => cmpL_zero) (fun _ _ => cmpL_rng _ _ _) (fun _ _ => cmpL_anti _ _ _) (fun _ _ _ => cmpL_trans) (awake_run hc)
end
end Go.Proofs.Ytbdmioekohmcnaa
