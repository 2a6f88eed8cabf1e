/- Locales: the examples of the chapter. -/
import Derived.Test.YtbdmioekohmcnaaLo11
namespace Go.Proofs.Ytbdmioekohmcnaa
set_option linter.unusedVariables false
set_option linter.unusedSimpArgs false
set_option maxRecDepth 100000
def sampL : Loc := ⟨[112, 111, 115, 105, 120], (List.range 256).map natI, (List.range 256).map lowB, (List.range 256).map uppB, [], [⟨[99, 104], 500⟩]⟩
theorem sampL_err : errLoc sampL = 0 := by decide +kernel
theorem sampL_val : valL sampL = sampL := valL_y sampL_err
theorem defL_val : valL defL = defL := valL_y defL_err
theorem sampL_ok : LocOk sampL := by
  have hm := maxLen_le
  have h0 : ∀ x ∈ sampL.classes, x.name.length ≤ maxLen := fun x hx => by cases hx
  have h1 : ∀ x ∈ sampL.elements, x.text.length ≤ maxLen := fun x hx => by
    simp only [sampL, List.mem_singleton] at hx
    subst hx; simp; omega
  refine ⟨?_, ?_, ?_, ?_, ⟨?_, h0⟩, ?_, h1⟩ <;> (simp [sampL]; try omega)
def StrC (X : CallF) : Prop := ∀ a b : Bs, (R FT X).f 69 [strL a, strL b] = some (intA (ord (ints a) (ints b)))
section
variable {X : CallF}
theorem sample_run' (D S : Loc) (hD : D = defL) (hS : S = sampL) : (R FT X).f 59 [] = some (encLoc S) := by
  have e1 : (R FT X).f 27 [] = some (encLoc D) := by rw [hD]; exact def2_run
  refine R_wp (Tr.c (encLoc D) (Tr.g (List.map encEl [El.mk [(99 : UInt8), (104 : UInt8)] (500 : Int)]) Tr.nil)) rfl ?_
  refine Eq.mpr (by kernel_rfl : _ = ((R FT X).f (27 : FuncId) [] = some (AV.agg [strL D.name, AV.slice (1 : Nat) (List.map intA D.weights), strL D.lower, strL D.upper, AV.slice (5 : Nat) (List.map encCls D.classes), AV.slice (2 : Nat) (List.map encEl D.elements)]) ∧ (1 : Nat) = (1 : Nat) ∧ List.take (1 : Nat) (List.drop (0 : Nat) [AV.agg [AV.val (Value.string (ByteArray.mk #[(99 : UInt8), (104 : UInt8)])), AV.val (Value.int IntKind.i64 (500 : Int))]]) = List.map encEl [El.mk [(99 : UInt8), (104 : UInt8)] (500 : Int)] ∧ D.name = S.name ∧ List.map intA D.weights = List.map intA S.weights ∧ D.lower = S.lower ∧ D.upper = S.upper ∧ List.map encCls D.classes = List.map encCls S.classes ∧ List.map encEl [El.mk [(99 : UInt8), (104 : UInt8)] (500 : Int)] = List.map encEl S.elements)) ?_
  refine ⟨(e1), rfl, rfl, ?_, ?_, ?_, ?_, ?_, ?_⟩
  all_goals (subst hD hS; rfl)
theorem pair_run (E : List El) (s : Bs) (hE : E.length ≤ maxLen) : (R FT X).f 28 [.slice 2 (E.map encEl), strL s] = some (boolA (E.any fun e => decide (e.text = s))) := by
  have hm := maxLen_i64
  refine R_wp ((Tr.inv (fun (k : Nat) ↦ St.mk [((0 : Nat), AV.slice (2 : Nat) (List.map encEl E)), ((1 : Nat), strL s), ((5 : Nat), intA (↑k : Int))] []) (fun (k : Nat) ↦ k ≤ E.length ∧ ∀ (e : El), e ∈ List.take k E → e.text ≠ s) (fun (k : Nat) ↦ E.length - k) fun (k : Nat) ↦ (Tr.k E.length ((Tr.ix encEl E k fun (x6 : El) ↦ (Tr.nil.br Tr.nil.w).w).w.w.br Tr.nil)).w).w) rfl ?_
  refine Eq.mpr (by kernel_rfl : _ = ((∃ (j1 : Nat), ((List.map encEl E = List.map encEl E ∧ s = s ∧ (0 : Int) = (↑j1 : Int) ∧ True) ∧ True) ∧ j1 ≤ E.length ∧ ∀ (e2 : El), e2 ∈ List.take j1 E → e2.text ≠ s) ∧ ∀ (k : Nat), (k ≤ E.length ∧ ∀ (e : El), e ∈ List.take k E → e.text ≠ s) → (List.map encEl E).length = E.length ∧ (decide ((↑k : Int) < (↑E.length : Int)) = true → List.map encEl E = List.map encEl E ∧ (↑k : Int) = (↑k : Int) ∧ k < E.length ∧ ∀ (x6 : El), E[k]? = some x6 → (decide (x6.text = s) = true → true = E.any fun (e : El) ↦ decide (e.text = s)) ∧ (decide (x6.text = s) = false → InI64 ((↑k : Int) + (1 : Int)) ∧ ∃ (j10 : Nat), ((List.map encEl E = List.map encEl E ∧ s = s ∧ (↑k : Int) + (1 : Int) = (↑j10 : Int) ∧ True) ∧ True) ∧ (j10 ≤ E.length ∧ ∀ (e11 : El), e11 ∈ List.take j10 E → e11.text ≠ s) ∧ E.length - j10 < E.length - k)) ∧ (decide ((↑k : Int) < (↑E.length : Int)) = false → false = E.any fun (e : El) ↦ decide (e.text = s)))) ?_
  refine ⟨⟨(0 : Nat), ⟨⟨rfl, rfl, (by omega), trivial⟩, trivial⟩, ⟨(by omega), fun e2 => fun h3 => ?_⟩⟩, fun k => fun h4 => have h4a := h4.1; have h4b := h4.2; ⟨(by simp), fun h5_ => have h5 := dT h5_; ⟨rfl, rfl, (by omega), fun x6 => fun h7 => ⟨fun h8_ => have h8 := dT h8_; ?_, fun h9_ => have h9 := dF h9_; ⟨(by unfold InI64; omega), ⟨k + (1 : Nat), ⟨⟨rfl, rfl, (by omega), trivial⟩, trivial⟩, ⟨⟨(by omega), fun e11 => fun h12 => ?_⟩, (by omega)⟩⟩⟩⟩⟩, fun h13_ => have h13 := dF h13_; ?_⟩⟩
  · simp at h3
  · exact (List.any_eq_true.2 ⟨x6, List.mem_of_getElem? h7, by simpa using h8⟩).symm
  · exact all_of h7 h4b h9 _ h12
  · rw [List.take_of_length_le (by omega)] at h4b
    exact (List.any_eq_false.2 fun e he => by simpa using h4b e he).symm
theorem awake_run' (D S : Loc) (hD : D = defL) (hS : S = sampL) (hc : StrC X) : (R FT X).f 17 [] = some (boolA true) := by
  have e1 : (R FT X).f 27 [] = some (encLoc D) := by rw [hD]; exact def2_run
  have e1' : (R FT X).f 29 [] = some (encLoc D) := by rw [hD]; exact def_run
  have e2 : (R FT X).f 59 [] = some (encLoc S) := sample_run' defL S rfl hS
  have e3 : (R FT X).f 19 [encLoc S, strL [101, 99, 104, 104]] = some (.slice 1 ([[101], [99, 104], [104]].map strL)) := by
    rw [hS, split_run sampL _ sampL_ok (by simp), sampL_val]; rfl
  have e4 : (R FT X).f 31 [encLoc D, strL [98, 108, 97, 110, 107]] = some (.tuple [encCS (setOf [32, 9]), boolA true]) := by
    rw [hD, class_run defL _ defL_ok, defL_val]; rfl
  have e5 : (R FT X).f 33 [encLoc D, .val (.int .u8 97), .val (.int .u8 99)] = some (.tuple [encCS (setOf [97, 98, 99]), boolA true]) := by
    rw [hD]
    have := btw_run (X := X) defL 97 99 defL_ok
    rw [defL_val] at this
    refine this.trans ?_
    have e : btwS defL 97 99 = setOf [97, 98, 99] := by decide +kernel
    rw [e]; rfl
  have e6 : ∀ (a b : Bs) (n : Int), a.length ≤ 1048576 → b.length ≤ 1048576 → cmpL sampL a b = n → (R FT X).f 21 [encLoc S, strL a, strL b] = some (intA n) := fun a b n ha hb hn => by
    rw [hS, cmp_run sampL a b sampL_ok hc ha hb, sampL_val, hn]
  have e7 : (R FT X).f 21 [encLoc S, strL [99, 104], strL [99, 122]] = some (intA 1) := e6 [99, 104] [99, 122] 1 (by simp) (by simp) (by decide +kernel)
  have e8 : (R FT X).f 21 [encLoc S, strL [99], strL [99, 104]] = some (intA (-1)) := e6 [99] [99, 104] (-1) (by simp) (by simp) (by decide +kernel)
  have e9 : (R FT X).f 23 [encLoc S, strL [97, 66]] = some (strL [97, 98]) := by
    rw [hS, lower_run sampL _ sampL_ok (by have := maxLen_le; simp; omega), sampL_val]
    have e : mapB sampL.lower [97, 66] = [97, 98] := by decide +kernel
    rw [e]
  have e10 : (R FT X).f 25 [encLoc S, strL [97, 66]] = some (strL [65, 66]) := by
    rw [hS, upper_run sampL _ sampL_ok (by have := maxLen_le; simp; omega), sampL_val]
    have e : mapB sampL.upper [97, 66] = [65, 66] := by decide +kernel
    rw [e]
  have e11 : (R FT X).f 15 [encLoc S] = some (intA 0) := by
    rw [hS, check_run sampL sampL_ok, sampL_err]
  have e12 : (R FT X).f 61 [encLoc D, encLoc D] = some (boolA true) := by
    rw [hD, sameLocale_run defL defL defL_ok defL_ok, ← sameB_y rfl]
  refine R_wp (Tr.c (encLoc S) (Tr.c (AV.slice (1 : Nat) (List.map strL [[(101 : UInt8)], [(99 : UInt8), (104 : UInt8)], [(104 : UInt8)]])) (Tr.c (encLoc D) (Tr.c (AV.tuple [encCS (setOf [(32 : UInt8), (9 : UInt8)]), boolA true]) (Tr.c (encLoc D) (Tr.c (AV.tuple [encCS (setOf [(97 : UInt8), (98 : UInt8), (99 : UInt8)]), boolA true]) (Tr.k (3 : Nat) (Tr.b false (Tr.ix strL [[(101 : UInt8)], [(99 : UInt8), (104 : UInt8)], [(104 : UInt8)]] (1 : Nat) fun (x1 : Bs) ↦ (Tr.b true (Tr.b true (Tr.b true (Tr.b true Tr.nil).w))).br (Tr.b false (Tr.b false (Tr.c (encCS (setOf [(32 : UInt8), (9 : UInt8)])) (Tr.b false (Tr.c (encCS (setOf [(97 : UInt8), (98 : UInt8), (99 : UInt8)])) (Tr.b false (Tr.c (encLoc S) (Tr.c (intA (1 : Int)) (Tr.b true (Tr.c (encLoc S) (Tr.c (intA (-1 : Int)) (Tr.b true (Tr.c (encLoc S) (Tr.c (strL [(97 : UInt8), (98 : UInt8)]) (Tr.b true (Tr.c (encLoc S) (Tr.c (strL [(65 : UInt8), (66 : UInt8)]) (Tr.b true (Tr.c (encLoc S) (Tr.c (intA (0 : Int)) (Tr.b true (Tr.c (encLoc D) (Tr.c (encLoc D) (Tr.c (boolA true) Tr.nil)))))))))))))))))).w).w)))))))).w)))))) rfl ?_
  refine Eq.mpr (by kernel_rfl : _ = ((R FT X).f (59 : FuncId) [] = some (AV.agg [strL S.name, AV.slice (1 : Nat) (List.map intA S.weights), strL S.lower, strL S.upper, AV.slice (5 : Nat) (List.map encCls S.classes), AV.slice (2 : Nat) (List.map encEl S.elements)]) ∧
  (R FT X).f (19 : FuncId) [AV.agg [strL S.name, AV.slice (1 : Nat) (List.map intA S.weights), strL S.lower, strL S.upper, AV.slice (5 : Nat) (List.map encCls S.classes), AV.slice (2 : Nat) (List.map encEl S.elements)], AV.val (Value.string (ByteArray.mk #[(101 : UInt8), (99 : UInt8), (104 : UInt8), (104 : UInt8)]))] = some (AV.slice (1 : Nat) (List.map strL [[(101 : UInt8)], [(99 : UInt8), (104 : UInt8)], [(104 : UInt8)]])) ∧
    (R FT X).f (27 : FuncId) [] = some (AV.agg [strL D.name, AV.slice (1 : Nat) (List.map intA D.weights), strL D.lower, strL D.upper, AV.slice (5 : Nat) (List.map encCls D.classes), AV.slice (2 : Nat) (List.map encEl D.elements)]) ∧
      (R FT X).f (31 : FuncId) [AV.agg [strL D.name, AV.slice (1 : Nat) (List.map intA D.weights), strL D.lower, strL D.upper, AV.slice (5 : Nat) (List.map encCls D.classes), AV.slice (2 : Nat) (List.map encEl D.elements)], AV.val (Value.string (ByteArray.mk #[(98 : UInt8), (108 : UInt8), (97 : UInt8), (110 : UInt8), (107 : UInt8)]))] = some (AV.tuple [AV.agg [AV.val (Value.int IntKind.u64 (↑(wd (setOf [(32 : UInt8), (9 : UInt8)]) (0 : Nat)).toNat : Int)), AV.val (Value.int IntKind.u64 (↑(wd (setOf [(32 : UInt8), (9 : UInt8)]) (1 : Nat)).toNat : Int)), AV.val (Value.int IntKind.u64 (↑(wd (setOf [(32 : UInt8), (9 : UInt8)]) (2 : Nat)).toNat : Int)), AV.val (Value.int IntKind.u64 (↑(wd (setOf [(32 : UInt8), (9 : UInt8)]) (3 : Nat)).toNat : Int))], boolA true]) ∧
        (R FT X).f (27 : FuncId) [] = some (AV.agg [strL D.name, AV.slice (1 : Nat) (List.map intA D.weights), strL D.lower, strL D.upper, AV.slice (5 : Nat) (List.map encCls D.classes), AV.slice (2 : Nat) (List.map encEl D.elements)]) ∧
          (R FT X).f (33 : FuncId) [AV.agg [strL D.name, AV.slice (1 : Nat) (List.map intA D.weights), strL D.lower, strL D.upper, AV.slice (5 : Nat) (List.map encCls D.classes), AV.slice (2 : Nat) (List.map encEl D.elements)], AV.val (Value.int IntKind.u8 (97 : Int)), AV.val (Value.int IntKind.u8 (99 : Int))] = some (AV.tuple [AV.agg [AV.val (Value.int IntKind.u64 (↑(wd (setOf [(97 : UInt8), (98 : UInt8), (99 : UInt8)]) (0 : Nat)).toNat : Int)), AV.val (Value.int IntKind.u64 (↑(wd (setOf [(97 : UInt8), (98 : UInt8), (99 : UInt8)]) (1 : Nat)).toNat : Int)), AV.val (Value.int IntKind.u64 (↑(wd (setOf [(97 : UInt8), (98 : UInt8), (99 : UInt8)]) (2 : Nat)).toNat : Int)), AV.val (Value.int IntKind.u64 (↑(wd (setOf [(97 : UInt8), (98 : UInt8), (99 : UInt8)]) (3 : Nat)).toNat : Int))], boolA true]) ∧
            (3 : Nat) = (3 : Nat) ∧
              false = false ∧
                List.map strL [[(101 : UInt8)], [(99 : UInt8), (104 : UInt8)], [(104 : UInt8)]] = List.map strL [[(101 : UInt8)], [(99 : UInt8), (104 : UInt8)], [(104 : UInt8)]] ∧
                  (1 : Int) = (1 : Int) ∧
                    (1 : Nat) < (3 : Nat) ∧
                      ∀ (x1 : Bs),
                        some [(99 : UInt8), (104 : UInt8)] = some x1 →
                          ((!decide (x1 = toL (ByteArray.mk #[(99 : UInt8), (104 : UInt8)]))) = true → true = true ∧ true = true ∧ true = true ∧ true = true ∧ false = true) ∧
                            ((!decide (x1 = toL (ByteArray.mk #[(99 : UInt8), (104 : UInt8)]))) = false →
                              false = false ∧
                                false = false ∧
                                  (R FT X).f (60 : FuncId) [AV.val (Value.string (ByteArray.mk #[(32 : UInt8), (9 : UInt8)]))] = some (AV.agg [AV.val (Value.int IntKind.u64 (↑(wd (setOf [(32 : UInt8), (9 : UInt8)]) (0 : Nat)).toNat : Int)), AV.val (Value.int IntKind.u64 (↑(wd (setOf [(32 : UInt8), (9 : UInt8)]) (1 : Nat)).toNat : Int)), AV.val (Value.int IntKind.u64 (↑(wd (setOf [(32 : UInt8), (9 : UInt8)]) (2 : Nat)).toNat : Int)), AV.val (Value.int IntKind.u64 (↑(wd (setOf [(32 : UInt8), (9 : UInt8)]) (3 : Nat)).toNat : Int))]) ∧
                                    false = false ∧
                                      (R FT X).f (60 : FuncId) [AV.val (Value.string (ByteArray.mk #[(97 : UInt8), (98 : UInt8), (99 : UInt8)]))] = some (AV.agg [AV.val (Value.int IntKind.u64 (↑(wd (setOf [(97 : UInt8), (98 : UInt8), (99 : UInt8)]) (0 : Nat)).toNat : Int)), AV.val (Value.int IntKind.u64 (↑(wd (setOf [(97 : UInt8), (98 : UInt8), (99 : UInt8)]) (1 : Nat)).toNat : Int)), AV.val (Value.int IntKind.u64 (↑(wd (setOf [(97 : UInt8), (98 : UInt8), (99 : UInt8)]) (2 : Nat)).toNat : Int)), AV.val (Value.int IntKind.u64 (↑(wd (setOf [(97 : UInt8), (98 : UInt8), (99 : UInt8)]) (3 : Nat)).toNat : Int))]) ∧
                                        false = false ∧
                                          (R FT X).f (59 : FuncId) [] = some (AV.agg [strL S.name, AV.slice (1 : Nat) (List.map intA S.weights), strL S.lower, strL S.upper, AV.slice (5 : Nat) (List.map encCls S.classes), AV.slice (2 : Nat) (List.map encEl S.elements)]) ∧
                                            (R FT X).f (21 : FuncId) [AV.agg [strL S.name, AV.slice (1 : Nat) (List.map intA S.weights), strL S.lower, strL S.upper, AV.slice (5 : Nat) (List.map encCls S.classes), AV.slice (2 : Nat) (List.map encEl S.elements)], AV.val (Value.string (ByteArray.mk #[(99 : UInt8), (104 : UInt8)])), AV.val (Value.string (ByteArray.mk #[(99 : UInt8), (122 : UInt8)]))] = some (intA (1 : Int)) ∧
                                              true = true ∧
                                                (R FT X).f (59 : FuncId) [] = some (AV.agg [strL S.name, AV.slice (1 : Nat) (List.map intA S.weights), strL S.lower, strL S.upper, AV.slice (5 : Nat) (List.map encCls S.classes), AV.slice (2 : Nat) (List.map encEl S.elements)]) ∧
                                                  (R FT X).f (21 : FuncId) [AV.agg [strL S.name, AV.slice (1 : Nat) (List.map intA S.weights), strL S.lower, strL S.upper, AV.slice (5 : Nat) (List.map encCls S.classes), AV.slice (2 : Nat) (List.map encEl S.elements)], AV.val (Value.string (ByteArray.mk #[(99 : UInt8)])), AV.val (Value.string (ByteArray.mk #[(99 : UInt8), (104 : UInt8)]))] = some (intA (-1 : Int)) ∧ true = true ∧ (R FT X).f (59 : FuncId) [] = some (AV.agg [strL S.name, AV.slice (1 : Nat) (List.map intA S.weights), strL S.lower, strL S.upper, AV.slice (5 : Nat) (List.map encCls S.classes), AV.slice (2 : Nat) (List.map encEl S.elements)]) ∧ (R FT X).f (23 : FuncId) [AV.agg [strL S.name, AV.slice (1 : Nat) (List.map intA S.weights), strL S.lower, strL S.upper, AV.slice (5 : Nat) (List.map encCls S.classes), AV.slice (2 : Nat) (List.map encEl S.elements)], AV.val (Value.string (ByteArray.mk #[(97 : UInt8), (66 : UInt8)]))] = some (strL [(97 : UInt8), (98 : UInt8)]) ∧ true = true ∧ (R FT X).f (59 : FuncId) [] = some (AV.agg [strL S.name, AV.slice (1 : Nat) (List.map intA S.weights), strL S.lower, strL S.upper, AV.slice (5 : Nat) (List.map encCls S.classes), AV.slice (2 : Nat) (List.map encEl S.elements)]) ∧ (R FT X).f (25 : FuncId) [AV.agg [strL S.name, AV.slice (1 : Nat) (List.map intA S.weights), strL S.lower, strL S.upper, AV.slice (5 : Nat) (List.map encCls S.classes), AV.slice (2 : Nat) (List.map encEl S.elements)], AV.val (Value.string (ByteArray.mk #[(97 : UInt8), (66 : UInt8)]))] = some (strL [(65 : UInt8), (66 : UInt8)]) ∧ true = true ∧ (R FT X).f (59 : FuncId) [] = some (AV.agg [strL S.name, AV.slice (1 : Nat) (List.map intA S.weights), strL S.lower, strL S.upper, AV.slice (5 : Nat) (List.map encCls S.classes), AV.slice (2 : Nat) (List.map encEl S.elements)]) ∧ (R FT X).f (15 : FuncId) [AV.agg [strL S.name, AV.slice (1 : Nat) (List.map intA S.weights), strL S.lower, strL S.upper, AV.slice (5 : Nat) (List.map encCls S.classes), AV.slice (2 : Nat) (List.map encEl S.elements)]] = some (intA (0 : Int)) ∧ true = true ∧ (R FT X).f (29 : FuncId) [] = some (AV.agg [strL D.name, AV.slice (1 : Nat) (List.map intA D.weights), strL D.lower, strL D.upper, AV.slice (5 : Nat) (List.map encCls D.classes), AV.slice (2 : Nat) (List.map encEl D.elements)]) ∧ (R FT X).f (27 : FuncId) [] = some (AV.agg [strL D.name, AV.slice (1 : Nat) (List.map intA D.weights), strL D.lower, strL D.upper, AV.slice (5 : Nat) (List.map encCls D.classes), AV.slice (2 : Nat) (List.map encEl D.elements)]) ∧ (R FT X).f (61 : FuncId) [AV.agg [strL D.name, AV.slice (1 : Nat) (List.map intA D.weights), strL D.lower, strL D.upper, AV.slice (5 : Nat) (List.map encCls D.classes), AV.slice (2 : Nat) (List.map encEl D.elements)], AV.agg [strL D.name, AV.slice (1 : Nat) (List.map intA D.weights), strL D.lower, strL D.upper, AV.slice (5 : Nat) (List.map encCls D.classes), AV.slice (2 : Nat) (List.map encEl D.elements)]] = some (boolA true) ∧ true = true))) ?_
  refine ⟨(e2), (e3), (e1), (e4), (e1), (e5), rfl, rfl, rfl, rfl, (by omega), fun x1 => fun h2 => ⟨fun h3_ => have h3 := dnT h3_; ⟨rfl, rfl, rfl, rfl, ?_⟩, fun h4_ => have h4 := dnF h4_; ⟨rfl, rfl, (of2_run _ ?_), rfl, (of2_run _ ?_), rfl, (e2), (e7), rfl, (e2), (e8), rfl, (e2), (e9), rfl, (e2), (e10), rfl, (e2), (e11), rfl, (e1'), (e1), (e12), rfl⟩⟩⟩
  · injection h2 with h2; exact absurd h2.symm h3
  all_goals (have := maxLen_le; simp; omega)
theorem awake_run (hc : StrC X) : (R FT X).f 17 [] = some (boolA true) := awake_run' defL sampL rfl rfl hc
end
end Go.Proofs.Ytbdmioekohmcnaa
