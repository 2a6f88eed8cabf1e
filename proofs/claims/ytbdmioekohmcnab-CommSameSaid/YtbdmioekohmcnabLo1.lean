/- Locales: what a name is, and the errors of classes and collating elements: the program's functions and the reference's come to the same. -/
import Derived.Test.YtbdmioekohmcnabFt
namespace Go.Proofs.Ytbdmioekohmcnab
set_option linter.unusedVariables false
set_option linter.unusedSimpArgs false
set_option maxRecDepth 100000
/-- a byte of a name -/
def nameC (c : UInt8) (k : Nat) : Bool := decide ((c.toNat : Int) = 95) || (decide ((97 : Int) ≤ c.toNat) && decide ((c.toNat : Int) ≤ 122)) || (decide ((65 : Int) ≤ c.toNat) && decide ((c.toNat : Int) ≤ 90)) || (decide (k ≠ 0) && decide ((48 : Int) ≤ c.toNat) && decide ((c.toNat : Int) ≤ 57))
def nameAt (l : Bs) (k : Nat) : Bool := match l[k]? with | some c => nameC c k | none => true
def isName (l : Bs) : Bool := (List.range l.length).all (nameAt l) && decide (l ≠ []) && decide (l.length ≤ 32)
theorem isName_bad {s : Bs} {k : Nat} {c : UInt8} (hc : s[k]? = some c) (hn : nameC c k = false) : false = isName s := by
  have hk := (get_of hc).1
  have : nameAt s k = false := by rw [nameAt, hc]; exact hn
  have h2 : (List.range s.length).all (nameAt s) = false := List.all_eq_false.2 ⟨k, List.mem_range.2 hk, by simp [this]⟩
  simp [isName, h2]
theorem nameAt_step {s : Bs} {k : Nat} {c : UInt8} (hc : s[k]? = some c) (hI : ∀ i, i < k → nameAt s i = true) (hn : nameC c k = true) : ∀ i, i < k + 1 → nameAt s i = true := fun i hi => by
  by_cases e : i = k
  · subst e; rw [nameAt, hc]; exact hn
  · exact hI i (by omega)
theorem nameAt_all {s : Bs} {k : Nat} (hk : s.length ≤ k) (hI : ∀ i, i < k → nameAt s i = true) : (List.range s.length).all (nameAt s) = true := List.all_eq_true.2 fun i hi => hI i (by have := List.mem_range.1 hi; omega)
section
variable {X : CallF}
theorem name_run (s : Bs) (hs : s.length ≤ maxLen) : (R FT X).f 35 [strL s] = some (boolA (isName s)) := by
  have hm := maxLen_i64
  refine R_wp ((Tr.inv
    (fun (k : Nat) ↦
      St.mk [((0 : Nat), strL s), ((7 : Nat), intA (↑(List.length s) : Int)), ((8 : Nat), intA (↑k : Int))] [])
    (fun (k : Nat) ↦ k ≤ List.length s ∧ ∀ (i : Nat), i < k → nameAt s i = true) (fun (k : Nat) ↦ List.length s - k)
    fun (k : Nat) ↦
    (Tr.y k fun (c5 : UInt8) ↦
            Tr.cut
              (fun (v7 : Cut (3 : Nat) Bool) ↦
                St.mk
                  [((0 : Nat), AV.val (Value.string (ofL s))), ((3 : Nat), AV.val (Value.int IntKind.i64 (↑k : Int))),
                    ((4 : Nat), AV.val (Value.int IntKind.u8 (↑c5.toNat : Int))), ((5 : Nat), AV.val (Value.bool v7)),
                    ((7 : Nat), AV.val (Value.int IntKind.i64 (↑(List.length s) : Int))),
                    ((8 : Nat), AV.val (Value.int IntKind.i64 (↑k : Int)))]
                  [])
              (fun (v7 : Cut (3 : Nat) Bool) ↦
                (↑c5.toNat : Int) = (95 : Int) ∧ v7 = true ∨
                  ¬(↑c5.toNat : Int) = (95 : Int) ∧
                      (97 : Int) ≤ (↑c5.toNat : Int) ∧ (↑c5.toNat : Int) ≤ (122 : Int) ∧ v7 = true ∨
                    ¬(↑c5.toNat : Int) = (95 : Int) ∧
                        (97 : Int) ≤ (↑c5.toNat : Int) ∧
                          ¬(↑c5.toNat : Int) ≤ (122 : Int) ∧ v7 = decide ((↑c5.toNat : Int) ≤ (90 : Int)) ∨
                      ¬(↑c5.toNat : Int) = (95 : Int) ∧
                          ¬(97 : Int) ≤ (↑c5.toNat : Int) ∧
                            (65 : Int) ≤ (↑c5.toNat : Int) ∧ v7 = decide ((↑c5.toNat : Int) ≤ (90 : Int)) ∨
                        ¬(↑c5.toNat : Int) = (95 : Int) ∧
                          ¬(97 : Int) ≤ (↑c5.toNat : Int) ∧ ¬(65 : Int) ≤ (↑c5.toNat : Int) ∧ v7 = false)
              ((Tr.b true Tr.nil).br ((Tr.nil.br (Tr.b true Tr.nil)).br (Tr.b false (Tr.nil.br Tr.nil))))
              fun (v7 : Cut (3 : Nat) Bool) ↦
              Tr.cut
                (fun (v22 : Cut (4 : Nat) Unit) ↦
                  St.mk
                    [((0 : Nat), AV.val (Value.string (ofL s))),
                      ((7 : Nat), AV.val (Value.int IntKind.i64 (↑(List.length s) : Int))),
                      ((8 : Nat), AV.val (Value.int IntKind.i64 (↑k : Int)))]
                    [])
                (fun (v22 : Cut (4 : Nat) Unit) ↦
                  v7 = false ∧
                      ¬(↑k : Int) = (0 : Int) ∧ ¬(↑c5.toNat : Int) < (48 : Int) ∧ ¬(57 : Int) < (↑c5.toNat : Int) ∨
                    v7 = true)
                (((Tr.b true (Tr.b true Tr.nil).w).br ((Tr.b true Tr.nil).w.br (Tr.nil.br Tr.nil).w)).br
                  (Tr.b false Tr.nil).w)
                fun (v22 : Cut (4 : Nat) Unit) ↦ Tr.nil.w).w.br
      (Tr.cut (fun (v37 : Cut (9 : Nat) Bool) ↦ St.mk [((2 : Nat), AV.val (Value.bool v37))] [])
        (fun (v37 : Cut (9 : Nat) Bool) ↦
          ¬s = toL (ByteArray.mk #[]) ∧ v37 = decide ((↑(List.length s) : Int) ≤ (32 : Int)) ∨
            s = toL (ByteArray.mk #[]) ∧ v37 = false)
        (Tr.nil.br Tr.nil) fun (v : Cut (9 : Nat) Bool) ↦ Tr.nil)).w) rfl ?_
  refine Eq.mpr (by kernel_rfl : _ = ((∃ (j1 : Nat),
    ((s = s ∧ (↑(List.length s) : Int) = (↑(List.length s) : Int) ∧ (0 : Int) = (↑j1 : Int) ∧ True) ∧ True) ∧
      j1 ≤ List.length s ∧ ∀ (i : Nat), i < j1 → nameAt s i = true) ∧
  ∀ (k : Nat),
    (k ≤ List.length s ∧ ∀ (i : Nat), i < k → nameAt s i = true) →
      (decide ((↑k : Int) < (↑(List.length s) : Int)) = true →
          (↑k : Int) = (↑k : Int) ∧
            k < List.length s ∧
              ∀ (c5 : UInt8),
                s[k]? = some c5 →
                  ((decide ((↑c5.toNat : Int) = (95 : Int)) = true →
                        true = true ∧
                          ∃ (m3_8 : Cut (3 : Nat) Bool),
                            ((s = s ∧
                                  (↑k : Int) = (↑k : Int) ∧
                                    (↑c5.toNat : Int) = (↑c5.toNat : Int) ∧
                                      true = m3_8 ∧
                                        (↑(List.length s) : Int) = (↑(List.length s) : Int) ∧
                                          (↑k : Int) = (↑k : Int) ∧ True) ∧
                                True) ∧
                              ((↑c5.toNat : Int) = (95 : Int) ∧ m3_8 = true ∨
                                ¬(↑c5.toNat : Int) = (95 : Int) ∧
                                    (97 : Int) ≤ (↑c5.toNat : Int) ∧ (↑c5.toNat : Int) ≤ (122 : Int) ∧ m3_8 = true ∨
                                  ¬(↑c5.toNat : Int) = (95 : Int) ∧
                                      (97 : Int) ≤ (↑c5.toNat : Int) ∧
                                        ¬(↑c5.toNat : Int) ≤ (122 : Int) ∧
                                          m3_8 = decide ((↑c5.toNat : Int) ≤ (90 : Int)) ∨
                                    ¬(↑c5.toNat : Int) = (95 : Int) ∧
                                        ¬(97 : Int) ≤ (↑c5.toNat : Int) ∧
                                          (65 : Int) ≤ (↑c5.toNat : Int) ∧
                                            m3_8 = decide ((↑c5.toNat : Int) ≤ (90 : Int)) ∨
                                      ¬(↑c5.toNat : Int) = (95 : Int) ∧
                                        ¬(97 : Int) ≤ (↑c5.toNat : Int) ∧
                                          ¬(65 : Int) ≤ (↑c5.toNat : Int) ∧ m3_8 = false)) ∧
                      (decide ((↑c5.toNat : Int) = (95 : Int)) = false →
                        (decide ((97 : Int) ≤ (↑c5.toNat : Int)) = true →
                            (decide ((↑c5.toNat : Int) ≤ (122 : Int)) = true →
                                ∃ (m3_12 : Cut (3 : Nat) Bool),
                                  ((s = s ∧
                                        (↑k : Int) = (↑k : Int) ∧
                                          (↑c5.toNat : Int) = (↑c5.toNat : Int) ∧
                                            true = m3_12 ∧
                                              (↑(List.length s) : Int) = (↑(List.length s) : Int) ∧
                                                (↑k : Int) = (↑k : Int) ∧ True) ∧
                                      True) ∧
                                    ((↑c5.toNat : Int) = (95 : Int) ∧ m3_12 = true ∨
                                      ¬(↑c5.toNat : Int) = (95 : Int) ∧
                                          (97 : Int) ≤ (↑c5.toNat : Int) ∧
                                            (↑c5.toNat : Int) ≤ (122 : Int) ∧ m3_12 = true ∨
                                        ¬(↑c5.toNat : Int) = (95 : Int) ∧
                                            (97 : Int) ≤ (↑c5.toNat : Int) ∧
                                              ¬(↑c5.toNat : Int) ≤ (122 : Int) ∧
                                                m3_12 = decide ((↑c5.toNat : Int) ≤ (90 : Int)) ∨
                                          ¬(↑c5.toNat : Int) = (95 : Int) ∧
                                              ¬(97 : Int) ≤ (↑c5.toNat : Int) ∧
                                                (65 : Int) ≤ (↑c5.toNat : Int) ∧
                                                  m3_12 = decide ((↑c5.toNat : Int) ≤ (90 : Int)) ∨
                                            ¬(↑c5.toNat : Int) = (95 : Int) ∧
                                              ¬(97 : Int) ≤ (↑c5.toNat : Int) ∧
                                                ¬(65 : Int) ≤ (↑c5.toNat : Int) ∧ m3_12 = false)) ∧
                              (decide ((↑c5.toNat : Int) ≤ (122 : Int)) = false →
                                decide ((65 : Int) ≤ (↑c5.toNat : Int)) = true ∧
                                  ∃ (m3_14 : Cut (3 : Nat) Bool),
                                    ((s = s ∧
                                          (↑k : Int) = (↑k : Int) ∧
                                            (↑c5.toNat : Int) = (↑c5.toNat : Int) ∧
                                              decide ((↑c5.toNat : Int) ≤ (90 : Int)) = m3_14 ∧
                                                (↑(List.length s) : Int) = (↑(List.length s) : Int) ∧
                                                  (↑k : Int) = (↑k : Int) ∧ True) ∧
                                        True) ∧
                                      ((↑c5.toNat : Int) = (95 : Int) ∧ m3_14 = true ∨
                                        ¬(↑c5.toNat : Int) = (95 : Int) ∧
                                            (97 : Int) ≤ (↑c5.toNat : Int) ∧
                                              (↑c5.toNat : Int) ≤ (122 : Int) ∧ m3_14 = true ∨
                                          ¬(↑c5.toNat : Int) = (95 : Int) ∧
                                              (97 : Int) ≤ (↑c5.toNat : Int) ∧
                                                ¬(↑c5.toNat : Int) ≤ (122 : Int) ∧
                                                  m3_14 = decide ((↑c5.toNat : Int) ≤ (90 : Int)) ∨
                                            ¬(↑c5.toNat : Int) = (95 : Int) ∧
                                                ¬(97 : Int) ≤ (↑c5.toNat : Int) ∧
                                                  (65 : Int) ≤ (↑c5.toNat : Int) ∧
                                                    m3_14 = decide ((↑c5.toNat : Int) ≤ (90 : Int)) ∨
                                              ¬(↑c5.toNat : Int) = (95 : Int) ∧
                                                ¬(97 : Int) ≤ (↑c5.toNat : Int) ∧
                                                  ¬(65 : Int) ≤ (↑c5.toNat : Int) ∧ m3_14 = false))) ∧
                          (decide ((97 : Int) ≤ (↑c5.toNat : Int)) = false →
                            false = false ∧
                              (decide ((65 : Int) ≤ (↑c5.toNat : Int)) = true →
                                  ∃ (m3_17 : Cut (3 : Nat) Bool),
                                    ((s = s ∧
                                          (↑k : Int) = (↑k : Int) ∧
                                            (↑c5.toNat : Int) = (↑c5.toNat : Int) ∧
                                              decide ((↑c5.toNat : Int) ≤ (90 : Int)) = m3_17 ∧
                                                (↑(List.length s) : Int) = (↑(List.length s) : Int) ∧
                                                  (↑k : Int) = (↑k : Int) ∧ True) ∧
                                        True) ∧
                                      ((↑c5.toNat : Int) = (95 : Int) ∧ m3_17 = true ∨
                                        ¬(↑c5.toNat : Int) = (95 : Int) ∧
                                            (97 : Int) ≤ (↑c5.toNat : Int) ∧
                                              (↑c5.toNat : Int) ≤ (122 : Int) ∧ m3_17 = true ∨
                                          ¬(↑c5.toNat : Int) = (95 : Int) ∧
                                              (97 : Int) ≤ (↑c5.toNat : Int) ∧
                                                ¬(↑c5.toNat : Int) ≤ (122 : Int) ∧
                                                  m3_17 = decide ((↑c5.toNat : Int) ≤ (90 : Int)) ∨
                                            ¬(↑c5.toNat : Int) = (95 : Int) ∧
                                                ¬(97 : Int) ≤ (↑c5.toNat : Int) ∧
                                                  (65 : Int) ≤ (↑c5.toNat : Int) ∧
                                                    m3_17 = decide ((↑c5.toNat : Int) ≤ (90 : Int)) ∨
                                              ¬(↑c5.toNat : Int) = (95 : Int) ∧
                                                ¬(97 : Int) ≤ (↑c5.toNat : Int) ∧
                                                  ¬(65 : Int) ≤ (↑c5.toNat : Int) ∧ m3_17 = false)) ∧
                                (decide ((65 : Int) ≤ (↑c5.toNat : Int)) = false →
                                  ∃ (m3_19 : Cut (3 : Nat) Bool),
                                    ((s = s ∧
                                          (↑k : Int) = (↑k : Int) ∧
                                            (↑c5.toNat : Int) = (↑c5.toNat : Int) ∧
                                              false = m3_19 ∧
                                                (↑(List.length s) : Int) = (↑(List.length s) : Int) ∧
                                                  (↑k : Int) = (↑k : Int) ∧ True) ∧
                                        True) ∧
                                      ((↑c5.toNat : Int) = (95 : Int) ∧ m3_19 = true ∨
                                        ¬(↑c5.toNat : Int) = (95 : Int) ∧
                                            (97 : Int) ≤ (↑c5.toNat : Int) ∧
                                              (↑c5.toNat : Int) ≤ (122 : Int) ∧ m3_19 = true ∨
                                          ¬(↑c5.toNat : Int) = (95 : Int) ∧
                                              (97 : Int) ≤ (↑c5.toNat : Int) ∧
                                                ¬(↑c5.toNat : Int) ≤ (122 : Int) ∧
                                                  m3_19 = decide ((↑c5.toNat : Int) ≤ (90 : Int)) ∨
                                            ¬(↑c5.toNat : Int) = (95 : Int) ∧
                                                ¬(97 : Int) ≤ (↑c5.toNat : Int) ∧
                                                  (65 : Int) ≤ (↑c5.toNat : Int) ∧
                                                    m3_19 = decide ((↑c5.toNat : Int) ≤ (90 : Int)) ∨
                                              ¬(↑c5.toNat : Int) = (95 : Int) ∧
                                                ¬(97 : Int) ≤ (↑c5.toNat : Int) ∧
                                                  ¬(65 : Int) ≤ (↑c5.toNat : Int) ∧ m3_19 = false))))) ∧
                    ∀ (v7 : Cut (3 : Nat) Bool),
                      (↑c5.toNat : Int) = (95 : Int) ∧ v7 = true ∨
                          ¬(↑c5.toNat : Int) = (95 : Int) ∧
                              (97 : Int) ≤ (↑c5.toNat : Int) ∧ (↑c5.toNat : Int) ≤ (122 : Int) ∧ v7 = true ∨
                            ¬(↑c5.toNat : Int) = (95 : Int) ∧
                                (97 : Int) ≤ (↑c5.toNat : Int) ∧
                                  ¬(↑c5.toNat : Int) ≤ (122 : Int) ∧ v7 = decide ((↑c5.toNat : Int) ≤ (90 : Int)) ∨
                              ¬(↑c5.toNat : Int) = (95 : Int) ∧
                                  ¬(97 : Int) ≤ (↑c5.toNat : Int) ∧
                                    (65 : Int) ≤ (↑c5.toNat : Int) ∧ v7 = decide ((↑c5.toNat : Int) ≤ (90 : Int)) ∨
                                ¬(↑c5.toNat : Int) = (95 : Int) ∧
                                  ¬(97 : Int) ≤ (↑c5.toNat : Int) ∧ ¬(65 : Int) ≤ (↑c5.toNat : Int) ∧ v7 = false →
                        (((!v7) = true →
                              (decide ((↑k : Int) = (0 : Int)) = true → true = true ∧ true = true ∧ false = isName s) ∧
                                (decide ((↑k : Int) = (0 : Int)) = false →
                                  (decide ((↑c5.toNat : Int) < (48 : Int)) = true → true = true ∧ false = isName s) ∧
                                    (decide ((↑c5.toNat : Int) < (48 : Int)) = false →
                                      (decide ((57 : Int) < (↑c5.toNat : Int)) = true → false = isName s) ∧
                                        (decide ((57 : Int) < (↑c5.toNat : Int)) = false →
                                          ∃ (m4_29 : Cut (4 : Nat) Unit),
                                            ((s = s ∧
                                                  (↑(List.length s) : Int) = (↑(List.length s) : Int) ∧
                                                    (↑k : Int) = (↑k : Int) ∧ True) ∧
                                                True) ∧
                                              (v7 = false ∧
                                                  ¬(↑k : Int) = (0 : Int) ∧
                                                    ¬(↑c5.toNat : Int) < (48 : Int) ∧ ¬(57 : Int) < (↑c5.toNat : Int) ∨
                                                v7 = true))))) ∧
                            ((!v7) = false →
                              false = false ∧
                                ∃ (m4_31 : Cut (4 : Nat) Unit),
                                  ((s = s ∧
                                        (↑(List.length s) : Int) = (↑(List.length s) : Int) ∧
                                          (↑k : Int) = (↑k : Int) ∧ True) ∧
                                      True) ∧
                                    (v7 = false ∧
                                        ¬(↑k : Int) = (0 : Int) ∧
                                          ¬(↑c5.toNat : Int) < (48 : Int) ∧ ¬(57 : Int) < (↑c5.toNat : Int) ∨
                                      v7 = true))) ∧
                          ∀ (v22 : Cut (4 : Nat) Unit),
                            v7 = false ∧
                                  ¬(↑k : Int) = (0 : Int) ∧
                                    ¬(↑c5.toNat : Int) < (48 : Int) ∧ ¬(57 : Int) < (↑c5.toNat : Int) ∨
                                v7 = true →
                              InI64 ((↑k : Int) + (1 : Int)) ∧
                                ∃ (j34 : Nat),
                                  ((s = s ∧
                                        (↑(List.length s) : Int) = (↑(List.length s) : Int) ∧
                                          (↑k : Int) + (1 : Int) = (↑j34 : Int) ∧ True) ∧
                                      True) ∧
                                    (j34 ≤ List.length s ∧ ∀ (i : Nat), i < j34 → nameAt s i = true) ∧
                                      List.length s - j34 < List.length s - k) ∧
        (decide ((↑k : Int) < (↑(List.length s) : Int)) = false →
          (((!decide (s = toL (ByteArray.mk #[]))) = true →
                ∃ (m9_38 : Cut (9 : Nat) Bool),
                  ((decide ((↑(List.length s) : Int) ≤ (32 : Int)) = m9_38 ∧ True) ∧ True) ∧
                    (¬s = toL (ByteArray.mk #[]) ∧ m9_38 = decide ((↑(List.length s) : Int) ≤ (32 : Int)) ∨
                      s = toL (ByteArray.mk #[]) ∧ m9_38 = false)) ∧
              ((!decide (s = toL (ByteArray.mk #[]))) = false →
                ∃ (m9_40 : Cut (9 : Nat) Bool),
                  ((false = m9_40 ∧ True) ∧ True) ∧
                    (¬s = toL (ByteArray.mk #[]) ∧ m9_40 = decide ((↑(List.length s) : Int) ≤ (32 : Int)) ∨
                      s = toL (ByteArray.mk #[]) ∧ m9_40 = false))) ∧
            ∀ (v37 : Cut (9 : Nat) Bool),
              ¬s = toL (ByteArray.mk #[]) ∧ v37 = decide ((↑(List.length s) : Int) ≤ (32 : Int)) ∨
                  s = toL (ByteArray.mk #[]) ∧ v37 = false →
                v37 = isName s))) ?_
  refine ⟨⟨(0 : Nat), ⟨⟨rfl, rfl, (by omega), trivial⟩, trivial⟩, ⟨(by omega), fun i => fun h2 => ?_⟩⟩, fun k => fun h3 => have h3a := h3.1; have h3b := h3.2; ⟨fun h4_ => have h4 := dT h4_; ⟨rfl, (by omega), fun c5 => fun h6 => ⟨⟨fun h7_ => have h7 := dT h7_; ⟨rfl, ⟨true, ⟨⟨(by first | rfl | simp), ⟨(by first | rfl | simp), ⟨(by first | rfl | simp), ⟨(by first | rfl | simp), ⟨(by first | rfl | simp), ⟨(by first | rfl | simp), trivial⟩⟩⟩⟩⟩⟩, trivial⟩, Or.inl (⟨h7, rfl⟩)⟩⟩, fun h9_ => have h9 := dF h9_; ⟨fun h10_ => have h10 := dT h10_; ⟨fun h11_ => have h11 := dT h11_; ⟨true, ⟨⟨(by first | rfl | simp), ⟨(by first | rfl | simp), ⟨(by first | rfl | simp), ⟨(by first | rfl | simp), ⟨(by first | rfl | simp), ⟨(by first | rfl | simp), trivial⟩⟩⟩⟩⟩⟩, trivial⟩, Or.inr (Or.inl (⟨h9, h10, h11, rfl⟩))⟩, fun h13_ => have h13 := dF h13_; ⟨(tD (by omega)), ⟨decide ((↑c5.toNat : Int) ≤ (90 : Int)), ⟨⟨(by first | rfl | simp), ⟨(by first | rfl | simp), ⟨(by first | rfl | simp), ⟨(by first | rfl | simp), ⟨(by first | rfl | simp), ⟨(by first | rfl | simp), trivial⟩⟩⟩⟩⟩⟩, trivial⟩, Or.inr (Or.inr (Or.inl (⟨h9, h10, h13, rfl⟩)))⟩⟩⟩, fun h15_ => have h15 := dF h15_; ⟨rfl, fun h16_ => have h16 := dT h16_; ⟨decide ((↑c5.toNat : Int) ≤ (90 : Int)), ⟨⟨(by first | rfl | simp), ⟨(by first | rfl | simp), ⟨(by first | rfl | simp), ⟨(by first | rfl | simp), ⟨(by first | rfl | simp), ⟨(by first | rfl | simp), trivial⟩⟩⟩⟩⟩⟩, trivial⟩, Or.inr (Or.inr (Or.inr (Or.inl (⟨h9, h15, h16, rfl⟩))))⟩, fun h18_ => have h18 := dF h18_; ⟨false, ⟨⟨(by first | rfl | simp), ⟨(by first | rfl | simp), ⟨(by first | rfl | simp), ⟨(by first | rfl | simp), ⟨(by first | rfl | simp), ⟨(by first | rfl | simp), trivial⟩⟩⟩⟩⟩⟩, trivial⟩, Or.inr (Or.inr (Or.inr (Or.inr (⟨h9, h15, h18, rfl⟩))))⟩⟩⟩⟩, fun v7 => fun h21 => ⟨⟨fun h22_ => have h22 := nT h22_; ⟨fun h23_ => have h23 := dT h23_; ⟨rfl, rfl, ?_⟩, fun h24_ => have h24 := dF h24_; ⟨fun h25_ => have h25 := dT h25_; ⟨rfl, ?_⟩, fun h26_ => have h26 := dF h26_; ⟨fun h27_ => have h27 := dT h27_; ?_, fun h28_ => have h28 := dF h28_; ⟨(), ⟨⟨(by first | rfl | simp), ⟨(by first | rfl | simp), ⟨(by first | rfl | simp), trivial⟩⟩⟩, trivial⟩, Or.inl (⟨h22, h24, h26, h28⟩)⟩⟩⟩⟩, fun h30_ => have h30 := nF h30_; ⟨rfl, ⟨(), ⟨⟨(by first | rfl | simp), ⟨(by first | rfl | simp), ⟨(by first | rfl | simp), trivial⟩⟩⟩, trivial⟩, Or.inr (h30)⟩⟩⟩, fun v22 => fun h33 => ⟨(by unfold InI64; omega), ⟨k + (1 : Nat), ⟨⟨rfl, rfl, (by omega), trivial⟩, trivial⟩, ⟨⟨(by omega), fun i => fun h35 => ?_⟩, (by omega)⟩⟩⟩⟩⟩⟩, fun h36_ => have h36 := dF h36_; ⟨⟨fun h37_ => have h37 := dnT h37_; ⟨decide ((↑(List.length s) : Int) ≤ (32 : Int)), ⟨⟨(by first | rfl | simp), trivial⟩, trivial⟩, Or.inl (⟨h37, rfl⟩)⟩, fun h39_ => have h39 := dnF h39_; ⟨false, ⟨⟨(by first | rfl | simp), trivial⟩, trivial⟩, Or.inr (⟨h39, rfl⟩)⟩⟩, fun v37 => fun h42 => ?_⟩⟩⟩
  · omega
  iterate 3
    · refine isName_bad h6 ?_
      have hb := u8_lt c5
      simp only [nameC, Bool.or_eq_false_iff, Bool.and_eq_false_iff, decide_eq_false_iff_not]
      rcases h21 with h | h | h | h | h <;> simp_all <;> omega
  · refine nameAt_step h6 h3.2 ?_ _ (by assumption)
    have hb := u8_lt c5
    simp only [nameC, Bool.or_eq_true, Bool.and_eq_true, decide_eq_true_eq]
    rcases h21 with h | h | h | h | h <;> simp_all <;> omega
  · have hall := nameAt_all (by omega) h3.2
    have e0 : toL { data := #[] } = [] := rfl
    rw [e0] at h42
    rcases h42 with ⟨h, rfl⟩ | ⟨h, rfl⟩ <;> simp [isName, hall, h] <;> omega
end
end Go.Proofs.Ytbdmioekohmcnab
