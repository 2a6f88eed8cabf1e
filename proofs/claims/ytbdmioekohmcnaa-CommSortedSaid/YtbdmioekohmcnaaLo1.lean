/- Locales: what a name is, and the errors of classes and collating elements: the program's functions and the reference's come to the same. -/
import Derived.Test.YtbdmioekohmcnaaFt
namespace Go.Proofs.Ytbdmioekohmcnaa
set_option linter.unusedVariables false
set_option linter.unusedSimpArgs false
set_option maxRecDepth 100000
/-- a byte of a name -/
def nameC (c : UInt8) (k : Nat) : Bool := decide ((c.toNat : Int) = 95) || (decide ((97 : Int) ≤ c.toNat) && decide ((c.toNat : Int) ≤ 122)) || (decide ((65 : Int) ≤ c.toNat) && decide ((c.toNat : Int) ≤ 90)) || (decide (k ≠ 0) && decide ((48 : Int) ≤ c.toNat) && decide ((c.toNat : Int) ≤ 57))
def nameAt (l : Bs) (k : Nat) : Bool := match l[k]? with | some c => nameC c k | none => true
def isName (l : Bs) : Bool := (List.range l.length).all (nameAt l) && decide (l ≠ []) && decide (l.length ≤ 32)
theorem isName_bad {s : Bs} {k : Nat} {c : UInt8} (hc : s[k]? = some c) (hn : nameC c k = false) : false = isName s := by
  have hk := (get_of hc).1
  have : nameAt s k = false := by rw [nameAt, hc]; exact hn
  have h2 : (List.range s.length).all (nameAt s) = false := List.all_eq_false.2 ⟨k, List.mem_range.2 hk, by simp [this]⟩
  simp [isName, h2]
theorem nameAt_step {s : Bs} {k : Nat} {c : UInt8} (hc : s[k]? = some c) (hI : ∀ i, i < k → nameAt s i = true) (hn : nameC c k = true) : ∀ i, i < k + 1 → nameAt s i = true := fun i hi => by
  by_cases e : i = k
  · subst e; rw [nameAt, hc]; exact hn
  · exact hI i (by omega)
theorem nameAt_all {s : Bs} {k : Nat} (hk : s.length ≤ k) (hI : ∀ i, i < k → nameAt s i = true) : (List.range s.length).all (nameAt s) = true := List.all_eq_true.2 fun i hi => hI i (by have := List.mem_range.1 hi; omega)
section
variable {X : CallF}
theorem name_run (s : Bs) (hs : s.length ≤ maxLen) : (R FT X).f 52 [strL s] = some (boolA (isName s)) := by
  have hm := maxLen_i64
  refine R_wp ((Tr.inv
    (fun (k : Nat) ↦
      St.mk [((0 : Nat), strL s), ((7 : Nat), intA (↑(List.length s) : Int)), ((8 : Nat), intA (↑k : Int))] [])
    (fun (k : Nat) ↦ k ≤ List.length s ∧ ∀ (i : Nat), i < k → nameAt s i = true) (fun (k : Nat) ↦ List.length s - k)
    fun (k : Nat) ↦
    (Tr.y k fun (c5 : UInt8) ↦
            Tr.cut
              (fun (v7 : Cut (3 : Nat) Bool) ↦
                St.mk
                  [((0 : Nat), AV.val (Value.string (ofL s))), ((3 : Nat), AV.val (Value.int IntKind.i64 (↑k : Int))),
                    ((4 : Nat), AV.val (Value.int IntKind.u8 (↑c5.toNat : Int))), ((5 : Nat), AV.val (Value.bool v7)),
                    ((7 : Nat), AV.val (Value.int IntKind.i64 (↑(List.length s) : Int))),
                    ((8 : Nat), AV.val (Value.int IntKind.i64 (↑k : Int)))]
                  [])
              (fun (v7 : Cut (3 : Nat) Bool) ↦
                (↑c5.toNat : Int) = (95 : Int) ∧ v7 = true ∨
                  ¬(↑c5.toNat : Int) = (95 : Int) ∧
                      (97 : Int) ≤ (↑c5.toNat : Int) ∧ (↑c5.toNat : Int) ≤ (122 : Int) ∧ v7 = true ∨
                    ¬(↑c5.toNat : Int) = (95 : Int) ∧
                        (97 : Int) ≤ (↑c5.toNat : Int) ∧
                          ¬(↑c5.toNat : Int) ≤ (122 : Int) ∧ v7 = decide ((↑c5.toNat : Int) ≤ (90 : Int)) ∨
                      ¬(↑c5.toNat : Int) = (95 : Int) ∧
                          ¬(97 : Int) ≤ (↑c5.toNat : Int) ∧
                            (65 : Int) ≤ (↑c5.toNat : Int) ∧ v7 = decide ((↑c5.toNat : Int) ≤ (90 : Int)) ∨
                        ¬(↑c5.toNat : Int) = (95 : Int) ∧
                          ¬(97 : Int) ≤ (↑c5.toNat : Int) ∧ ¬(65 : Int) ≤ (↑c5.toNat : Int) ∧ v7 = false)
              ((Tr.b true Tr.nil).br ((Tr.nil.br (Tr.b true Tr.nil)).br (Tr.b false (Tr.nil.br Tr.nil))))
              fun (v7 : Cut (3 : Nat) Bool) ↦
              Tr.cut
                (fun (v22 : Cut (4 : Nat) Unit) ↦
                  St.mk
                    [((0 : Nat), AV.val (Value.string (ofL s))),
                      ((7 : Nat), AV.val (Value.int IntKind.i64 (↑(List.length s) : Int))),
                      ((8 : Nat), AV.val (Value.int IntKind.i64 (↑k : Int)))]
                    [])
                (fun (v22 : Cut (4 : Nat) Unit) ↦
                  v7 = false ∧
                      ¬(↑k : Int) = (0 : Int) ∧ ¬(↑c5.toNat : Int) < (48 : Int) ∧ ¬(57 : Int) < (↑c5.toNat : Int) ∨
                    v7 = true)
                (((Tr.b true (Tr.b true Tr.nil).w).br ((Tr.b true Tr.nil).w.br (Tr.nil.br Tr.nil).w)).br
                  (Tr.b false Tr.nil).w)
                fun (v22 : Cut (4 : Nat) Unit) ↦ Tr.nil.w).w.br
      (Tr.cut (fun (v37 : Cut (9 : Nat) Bool) ↦ St.mk [((2 : Nat), AV.val (Value.bool v37))] [])
        (fun (v37 : Cut (9 : Nat) Bool) ↦
          ¬s = toL (ByteArray.mk #[]) ∧ v37 = decide ((↑(List.length s) : Int) ≤ (32 : Int)) ∨
            s = toL (ByteArray.mk #[]) ∧ v37 = false)
        (Tr.nil.br Tr.nil) fun (v : Cut (9 : Nat) Bool) ↦ Tr.nil)).w) rfl ?_
  refine Eq.mpr (by kernel_rfl : _ = ((∃ (j1 : Nat),
    ((s = s ∧ (↑(List.length s) : Int) = (↑(List.length s) : Int) ∧ (0 : Int) = (↑j1 : Int) ∧ True) ∧ True) ∧
      j1 ≤ List.length s ∧ ∀ (i : Nat), i < j1 → nameAt s i = true) ∧
  ∀ (k : Nat),
    (k ≤ List.length s ∧ ∀ (i : Nat), i < k → nameAt s i = true) →
      (decide ((↑k : Int) < (↑(List.length s) : Int)) = true →
          (↑k : Int) = (↑k : Int) ∧
            k < List.length s ∧
              ∀ (c5 : UInt8),
                s[k]? = some c5 →
                  ((decide ((↑c5.toNat : Int) = (95 : Int)) = true →
                        true = true ∧
                          ∃ (m3_8 : Cut (3 : Nat) Bool),
                            ((s = s ∧
                                  (↑k : Int) = (↑k : Int) ∧
                                    (↑c5.toNat : Int) = (↑c5.toNat : Int) ∧
                                      true = m3_8 ∧
                                        (↑(List.length s) : Int) = (↑(List.length s) : Int) ∧
                                          (↑k : Int) = (↑k : Int) ∧ True) ∧
                                True) ∧
                              ((↑c5.toNat : Int) = (95 : Int) ∧ m3_8 = true ∨
                                ¬(↑c5.toNat : Int) = (95 : Int) ∧
                                    (97 : Int) ≤ (↑c5.toNat : Int) ∧ (↑c5.toNat : Int) ≤ (122 : Int) ∧ m3_8 = true ∨
                                  ¬(↑c5.toNat : Int) = (95 : Int) ∧
                                      (97 : Int) ≤ (↑c5.toNat : Int) ∧
                                        ¬(↑c5.toNat : Int) ≤ (122 : Int) ∧
                                          m3_8 = decide ((↑c5.toNat : Int) ≤ (90 : Int)) ∨
                                    ¬(↑c5.toNat : Int) = (95 : Int) ∧
                                        ¬(97 : Int) ≤ (↑c5.toNat : Int) ∧
                                          (65 : Int) ≤ (↑c5.toNat : Int) ∧
                                            m3_8 = decide ((↑c5.toNat : Int) ≤ (90 : Int)) ∨
                                      ¬(↑c5.toNat : Int) = (95 : Int) ∧
                                        ¬(97 : Int) ≤ (↑c5.toNat : Int) ∧
                                          ¬(65 : Int) ≤ (↑c5.toNat : Int) ∧ m3_8 = false)) ∧
                      (decide ((↑c5.toNat : Int) = (95 : Int)) = false →
                        (decide ((97 : Int) ≤ (↑c5.toNat : Int)) = true →
                            (decide ((↑c5.toNat : Int) ≤ (122 : Int)) = true →
                                ∃ (m3_12 : Cut (3 : Nat) Bool),
                                  ((s = s ∧
                                        (↑k : Int) = (↑k : Int) ∧
                                          (↑c5.toNat : Int) = (↑c5.toNat : Int) ∧
                                            true = m3_12 ∧
                                              (↑(List.length s) : Int) = (↑(List.length s) : Int) ∧
                                                (↑k : Int) = (↑k : Int) ∧ True) ∧
                                      True) ∧
                                    ((↑c5.toNat : Int) = (95 : Int) ∧ m3_12 = true ∨
                                      ¬(↑c5.toNat : Int) = (95 : Int) ∧
                                          (97 : Int) ≤ (↑c5.toNat : Int) ∧
                                            (↑c5.toNat : Int) ≤ (122 : Int) ∧ m3_12 = true ∨
                                        ¬(↑c5.toNat : Int) = (95 : Int) ∧
                                            (97 : Int) ≤ (↑c5.toNat : Int) ∧
                                              ¬(↑c5.toNat : Int) ≤ (122 : Int) ∧
                                                m3_12 = decide ((↑c5.toNat : Int) ≤ (90 : Int)) ∨
                                          ¬(↑c5.toNat : Int) = (95 : Int) ∧
                                              ¬(97 : Int) ≤ (↑c5.toNat : Int) ∧
                                                (65 : Int) ≤ (↑c5.toNat : Int) ∧
                                                  m3_12 = decide ((↑c5.toNat : Int) ≤ (90 : Int)) ∨
                                            ¬(↑c5.toNat : Int) = (95 : Int) ∧
                                              ¬(97 : Int) ≤ (↑c5.toNat : Int) ∧
                                                ¬(65 : Int) ≤ (↑c5.toNat : Int) ∧ m3_12 = false)) ∧
                              (decide ((↑c5.toNat : Int) ≤ (122 : Int)) = false →
                                decide ((65 : Int) ≤ (↑c5.toNat : Int)) = true ∧
                                  ∃ (m3_14 : Cut (3 : Nat) Bool),
                                    ((s = s ∧
                                          (↑k : Int) = (↑k : Int) ∧
                                            (↑c5.toNat : Int) = (↑c5.toNat : Int) ∧
                                              decide ((↑c5.toNat : Int) ≤ (90 : Int)) = m3_14 ∧
                                                (↑(List.length s) : Int) = (↑(List.length s) : Int) ∧
                                                  (↑k : Int) = (↑k : Int) ∧ True) ∧
                                        True) ∧
                                      ((↑c5.toNat : Int) = (95 : Int) ∧ m3_14 = true ∨
                                        ¬(↑c5.toNat : Int) = (95 : Int) ∧
                                            (97 : Int) ≤ (↑c5.toNat : Int) ∧
                                              (↑c5.toNat : Int) ≤ (122 : Int) ∧ m3_14 = true ∨
                                          ¬(↑c5.toNat : Int) = (95 : Int) ∧
                                              (97 : Int) ≤ (↑c5.toNat : Int) ∧
                                                ¬(↑c5.toNat : Int) ≤ (122 : Int) ∧
                                                  m3_14 = decide ((↑c5.toNat : Int) ≤ (90 : Int)) ∨
                                            ¬(↑c5.toNat : Int) = (95 : Int) ∧
                                                ¬(97 : Int) ≤ (↑c5.toNat : Int) ∧
                                                  (65 : Int) ≤ (↑c5.toNat : Int) ∧
                                                    m3_14 = decide ((↑c5.toNat : Int) ≤ (90 : Int)) ∨
                                              ¬(↑c5.toNat : Int) = (95 : Int) ∧
                                                ¬(97 : Int) ≤ (↑c5.toNat : Int) ∧
                                                  ¬(65 : Int) ≤ (↑c5.toNat : Int) ∧ m3_14 = false))) ∧
                          (decide ((97 : Int) ≤ (↑c5.toNat : Int)) = false →
                            false = false ∧
                              (decide ((65 : Int) ≤ (↑c5.toNat : Int)) = true →
                                  ∃ (m3_17 : Cut (3 : Nat) Bool),
                                    ((s = s ∧
                                          (↑k : Int) = (↑k : Int) ∧
                                            (↑c5.toNat : Int) = (↑c5.toNat : Int) ∧
                                              decide ((↑c5.toNat : Int) ≤ (90 : Int)) = m3_17 ∧
                                                (↑(List.length s) : Int) = (↑(List.length s) : Int) ∧
                                                  (↑k : Int) = (↑k : Int) ∧ True) ∧
                                        True) ∧
                                      ((↑c5.toNat : Int) = (95 : Int) ∧ m3_17 = true ∨
                                        ¬(↑c5.toNat : Int) = (95 : Int) ∧
                                            (97 : Int) ≤ (↑c5.toNat : Int) ∧
                                              (↑c5.toNat : Int) ≤ (122 : Int) ∧ m3_17 = true ∨
                                          ¬(↑c5.toNat : Int) = (95 : Int) ∧
                                              (97 : Int) ≤ (↑c5.toNat : Int) ∧
                                                ¬(↑c5.toNat : Int) ≤ (122 : Int) ∧
                                                  m3_17 = decide ((↑c5.toNat : Int) ≤ (90 : Int)) ∨
                                            ¬(↑c5.toNat : Int) = (95 : Int) ∧
                                                ¬(97 : Int) ≤ (↑c5.toNat : Int) ∧
                                                  (65 : Int) ≤ (↑c5.toNat : Int) ∧
                                                    m3_17 = decide ((↑c5.toNat : Int) ≤ (90 : Int)) ∨
                                              ¬(↑c5.toNat : Int) = (95 : Int) ∧
                                                ¬(97 : Int) ≤ (↑c5.toNat : Int) ∧
                                                  ¬(65 : Int) ≤ (↑c5.toNat : Int) ∧ m3_17 = false)) ∧
                                (decide ((65 : Int) ≤ (↑c5.toNat : Int)) = false →
                                  ∃ (m3_19 : Cut (3 : Nat) Bool),
                                    ((s = s ∧
                                          (↑k : Int) = (↑k : Int) ∧
                                            (↑c5.toNat : Int) = (↑c5.toNat : Int) ∧
                                              false = m3_19 ∧
                                                (↑(List.length s) : Int) = (↑(List.length s) : Int) ∧
                                                  (↑k : Int) = (↑k : Int) ∧ True) ∧
                                        True) ∧
                                      ((↑c5.toNat : Int) = (95 : Int) ∧ m3_19 = true ∨
                                        ¬(↑c5.toNat : Int) = (95 : Int) ∧
                                            (97 : Int) ≤ (↑c5.toNat : Int) ∧
                                              (↑c5.toNat : Int) ≤ (122 : Int) ∧ m3_19 = true ∨
                                          ¬(↑c5.toNat : Int) = (95 : Int) ∧
                                              (97 : Int) ≤ (↑c5.toNat : Int) ∧
                                                ¬(↑c5.toNat : Int) ≤ (122 : Int) ∧
                                                  m3_19 = decide ((↑c5.toNat : Int) ≤ (90 : Int)) ∨
                                            ¬(↑c5.toNat : Int) = (95 : Int) ∧
                                                ¬(97 : Int) ≤ (↑c5.toNat : Int) ∧
                                                  (65 : Int) ≤ (↑c5.toNat : Int) ∧
                                                    m3_19 = decide ((↑c5.toNat : Int) ≤ (90 : Int)) ∨
                                              ¬(↑c5.toNat : Int) = (95 : Int) ∧
                                                ¬(97 : Int) ≤ (↑c5.toNat : Int) ∧
                                                  ¬(65 : Int) ≤ (↑c5.toNat : Int) ∧ m3_19 = false))))) ∧
                    ∀ (v7 : Cut (3 : Nat) Bool),
                      (↑c5.toNat : Int) = (95 : Int) ∧ v7 = true ∨
                          ¬(↑c5.toNat : Int) = (95 : Int) ∧
                              (97 : Int) ≤ (↑c5.toNat : Int) ∧ (↑c5.toNat : Int) ≤ (122 : Int) ∧ v7 = true ∨
                            ¬(↑c5.toNat : Int) = (95 : Int) ∧
                                (97 : Int) ≤ (↑c5.toNat : Int) ∧
                                  ¬(↑c5.toNat : Int) ≤ (122 : Int) ∧ v7 = decide ((↑c5.toNat : Int) ≤ (90 : Int)) ∨
                              ¬(↑c5.toNat : Int) = (95 : Int) ∧
                                  ¬(97 : Int) ≤ (↑c5.toNat : Int) ∧
                                    (65 : Int) ≤ (↑c5.toNat : Int) ∧ v7 = decide ((↑c5.toNat : Int) ≤ (90 : Int)) ∨
                                ¬(↑c5.toNat : Int) = (95 : Int) ∧
                                  ¬(97 : Int) ≤ (↑c5.toNat : Int) ∧ ¬(65 : Int) ≤ (↑c5.toNat : Int) ∧ v7 = false →
                        (((!v7) = true →
                              (decide ((↑k : Int) = (0 : Int)) = true → true = true ∧ true = true ∧ false = isName s) ∧
                                (decide ((↑k : Int) = (0 : Int)) = false →
                                  (decide ((↑c5.toNat : Int) < (48 : Int)) = true → true = true ∧ false = isName s) ∧
                                    (decide ((↑c5.toNat : Int) < (48 : Int)) = false →
                                      (decide ((57 : Int) < (↑c5.toNat : Int)) = true → false = isName s) ∧
                                        (decide ((57 : Int) < (↑c5.toNat : Int)) = false →
                                          ∃ (m4_29 : Cut (4 : Nat) Unit),
                                            ((s = s ∧
                                                  (↑(List.length s) : Int) = (↑(List.length s) : Int) ∧
                                                    (↑k : Int) = (↑k : Int) ∧ True) ∧
                                                True) ∧
                                              (v7 = false ∧
                                                  ¬(↑k : Int) = (0 : Int) ∧
                                                    ¬(↑c5.toNat : Int) < (48 : Int) ∧ ¬(57 : Int) < (↑c5.toNat : Int) ∨
                                                v7 = true))))) ∧
                            ((!v7) = false →
                              false = false ∧
                                ∃ (m4_31 : Cut (4 : Nat) Unit),
                                  ((s = s ∧
                                        (↑(List.length s) : Int) = (↑(List.length s) : Int) ∧
                                          (↑k : Int) = (↑k : Int) ∧ True) ∧
                                      True) ∧
                                    (v7 = false ∧
                                        ¬(↑k : Int) = (0 : Int) ∧
                                          ¬(↑c5.toNat : Int) < (48 : Int) ∧ ¬(57 : Int) < (↑c5.toNat : Int) ∨
                                      v7 = true))) ∧
                          ∀ (v22 : Cut (4 : Nat) Unit),
                            v7 = false ∧
                                  ¬(↑k : Int) = (0 : Int) ∧
                                    ¬(↑c5.toNat : Int) < (48 : Int) ∧ ¬(57 : Int) < (↑c5.toNat : Int) ∨
                                v7 = true →
                              InI64 ((↑k : Int) + (1 : Int)) ∧
                                ∃ (j34 : Nat),
                                  ((s = s ∧
                                        (↑(List.length s) : Int) = (↑(List.length s) : Int) ∧
                                          (↑k : Int) + (1 : Int) = (↑j34 : Int) ∧ True) ∧
                                      True) ∧
                                    (j34 ≤ List.length s ∧ ∀ (i : Nat), i < j34 → nameAt s i = true) ∧
                                      List.length s - j34 < List.length s - k) ∧
        (decide ((↑k : Int) < (↑(List.length s) : Int)) = false →
          (((!decide (s = toL (ByteArray.mk #[]))) = true →
                ∃ (m9_38 : Cut (9 : Nat) Bool),
                  ((decide ((↑(List.length s) : Int) ≤ (32 : Int)) = m9_38 ∧ True) ∧ True) ∧
                    (¬s = toL (ByteArray.mk #[]) ∧ m9_38 = decide ((↑(List.length s) : Int) ≤ (32 : Int)) ∨
                      s = toL (ByteArray.mk #[]) ∧ m9_38 = false)) ∧
              ((!decide (s = toL (ByteArray.mk #[]))) = false →
                ∃ (m9_40 : Cut (9 : Nat) Bool),
                  ((false = m9_40 ∧ True) ∧ True) ∧
                    (¬s = toL (ByteArray.mk #[]) ∧ m9_40 = decide ((↑(List.length s) : Int) ≤ (32 : Int)) ∨
                      s = toL (ByteArray.mk #[]) ∧ m9_40 = false))) ∧
            ∀ (v37 : Cut (9 : Nat) Bool),
              ¬s = toL (ByteArray.mk #[]) ∧ v37 = decide ((↑(List.length s) : Int) ≤ (32 : Int)) ∨
                  s = toL (ByteArray.mk #[]) ∧ v37 = false →
                v37 = isName s))) ?_
  refine ⟨⟨(0 : Nat), ⟨⟨rfl, rfl, (by omega), trivial⟩, trivial⟩, ⟨(by omega), fun i => fun h2 => ?_⟩⟩, fun k => fun h3 => have h3a := h3.1; have h3b := h3.2; ⟨fun h4_ => have h4 := dT h4_; ⟨rfl, (by omega), fun c5 => fun h6 => ⟨⟨fun h7_ => have h7 := dT h7_; ⟨rfl, ⟨true, ⟨⟨(by first | rfl | simp), ⟨(by first | rfl | simp), ⟨(by first | rfl | simp), ⟨(by first | rfl | simp), ⟨(by first | rfl | simp), ⟨(by first | rfl | simp), trivial⟩⟩⟩⟩⟩⟩, trivial⟩, Or.inl (⟨h7, rfl⟩)⟩⟩, fun h9_ => have h9 := dF h9_; ⟨fun h10_ => have h10 := dT h10_; ⟨fun h11_ => have h11 := dT h11_; ⟨true, ⟨⟨(by first | rfl | simp), ⟨(by first | rfl | simp), ⟨(by first | rfl | simp), ⟨(by first | rfl | simp), ⟨(by first | rfl | simp), ⟨(by first | rfl | simp), trivial⟩⟩⟩⟩⟩⟩, trivial⟩, Or.inr (Or.inl (⟨h9, h10, h11, rfl⟩))⟩, fun h13_ => have h13 := dF h13_; ⟨(tD (by omega)), ⟨decide ((↑c5.toNat : Int) ≤ (90 : Int)), ⟨⟨(by first | rfl | simp), ⟨(by first | rfl | simp), ⟨(by first | rfl | simp), ⟨(by first | rfl | simp), ⟨(by first | rfl | simp), ⟨(by first | rfl | simp), trivial⟩⟩⟩⟩⟩⟩, trivial⟩, Or.inr (Or.inr (Or.inl (⟨h9, h10, h13, rfl⟩)))⟩⟩⟩, fun h15_ => have h15 := dF h15_; ⟨rfl, fun h16_ => have h16 := dT h16_; ⟨decide ((↑c5.toNat : Int) ≤ (90 : Int)), ⟨⟨(by first | rfl | simp), ⟨(by first | rfl | simp), ⟨(by first | rfl | simp), ⟨(by first | rfl | simp), ⟨(by first | rfl | simp), ⟨(by first | rfl | simp), trivial⟩⟩⟩⟩⟩⟩, trivial⟩, Or.inr (Or.inr (Or.inr (Or.inl (⟨h9, h15, h16, rfl⟩))))⟩, fun h18_ => have h18 := dF h18_; ⟨false, ⟨⟨(by first | rfl | simp), ⟨(by first | rfl | simp), ⟨(by first | rfl | simp), ⟨(by first | rfl | simp), ⟨(by first | rfl | simp), ⟨(by first | rfl | simp), trivial⟩⟩⟩⟩⟩⟩, trivial⟩, Or.inr (Or.inr (Or.inr (Or.inr (⟨h9, h15, h18, rfl⟩))))⟩⟩⟩⟩, fun v7 => fun h21 => ⟨⟨fun h22_ => have h22 := nT h22_; ⟨fun h23_ => have h23 := dT h23_; ⟨rfl, rfl, ?_⟩, fun h24_ => have h24 := dF h24_; ⟨fun h25_ => have h25 := dT h25_; ⟨rfl, ?_⟩, fun h26_ => have h26 := dF h26_; ⟨fun h27_ => have h27 := dT h27_; ?_, fun h28_ => have h28 := dF h28_; ⟨(), ⟨⟨(by first | rfl | simp), ⟨(by first | rfl | simp), ⟨(by first | rfl | simp), trivial⟩⟩⟩, trivial⟩, Or.inl (⟨h22, h24, h26, h28⟩)⟩⟩⟩⟩, fun h30_ => have h30 := nF h30_; ⟨rfl, ⟨(), ⟨⟨(by first | rfl | simp), ⟨(by first | rfl | simp), ⟨(by first | rfl | simp), trivial⟩⟩⟩, trivial⟩, Or.inr (h30)⟩⟩⟩, fun v22 => fun h33 => ⟨(by unfold InI64; omega), ⟨k + (1 : Nat), ⟨⟨rfl, rfl, (by omega), trivial⟩, trivial⟩, ⟨⟨(by omega), fun i => fun h35 => ?_⟩, (by omega)⟩⟩⟩⟩⟩⟩, fun h36_ => have h36 := dF h36_; ⟨⟨fun h37_ => have h37 := dnT h37_; ⟨decide ((↑(List.length s) : Int) ≤ (32 : Int)), ⟨⟨(by first | rfl | simp), trivial⟩, trivial⟩, Or.inl (⟨h37, rfl⟩)⟩, fun h39_ => have h39 := dnF h39_; ⟨false, ⟨⟨(by first | rfl | simp), trivial⟩, trivial⟩, Or.inr (⟨h39, rfl⟩)⟩⟩, fun v37 => fun h42 => ?_⟩⟩⟩
  · omega
  iterate 3
    · refine isName_bad h6 ?_
      have hb := u8_lt c5
      simp only [nameC, Bool.or_eq_false_iff, Bool.and_eq_false_iff, decide_eq_false_iff_not]
      rcases h21 with h | h | h | h | h <;> simp_all <;> omega
  · refine nameAt_step h6 h3.2 ?_ _ (by assumption)
    have hb := u8_lt c5
    simp only [nameC, Bool.or_eq_true, Bool.and_eq_true, decide_eq_true_eq]
    rcases h21 with h | h | h | h | h <;> simp_all <;> omega
  · have hall := nameAt_all (by omega) h3.2
    have e0 : toL { data := #[] } = [] := rfl
    rw [e0] at h42
    rcases h42 with ⟨h, rfl⟩ | ⟨h, rfl⟩ <;> simp [isName, hall, h] <;> omega
theorem isName_run (s : Bs) (hs : s.length ≤ maxLen) : (R FT X).f 55 [strL s] = some (boolA (isName s)) := by
  have hm := maxLen_i64
  refine R_wp (Tr.cut (fun (v1 : Cut (1 : Nat) Unit) ↦ St.mk [((0 : Nat), AV.val (Value.string (ofL s)))] [])
  (fun (v1 : Cut (1 : Nat) Unit) ↦
    (∃ (c5 : UInt8),
        ∃ (c8 : UInt8),
          ¬(↑(List.length s) : Int) = (0 : Int) ∧
            ¬(32 : Int) < (↑(List.length s) : Int) ∧
              s[(0 : Nat)]? = some c5 ∧
                (48 : Int) ≤ (↑c5.toNat : Int) ∧ s[(0 : Nat)]? = some c8 ∧ ¬(↑c8.toNat : Int) ≤ (57 : Int)) ∨
      ∃ (c5 : UInt8),
        ¬(↑(List.length s) : Int) = (0 : Int) ∧
          ¬(32 : Int) < (↑(List.length s) : Int) ∧ s[(0 : Nat)]? = some c5 ∧ ¬(48 : Int) ≤ (↑c5.toNat : Int))
  ((Tr.b true (Tr.b true Tr.nil).w).br
    ((Tr.b true Tr.nil).w.br
      (Tr.y (0 : Nat) fun (c5 : UInt8) ↦
        (Tr.y (0 : Nat) fun (c8 : UInt8) ↦ (Tr.nil.br Tr.nil).w).br (Tr.b false Tr.nil).w)))
  fun (v1 : Cut (1 : Nat) Unit) ↦
  (Tr.inv (fun (k : Nat) ↦ St.mk [((0 : Nat), strL s), ((3 : Nat), intA (↑k : Int))] [])
      (fun (k : Nat) ↦
        k ≤ List.length s ∧
          ((0 : Nat) < List.length s ∧
              List.length s ≤ (32 : Nat) ∧
                ∀ (c : UInt8),
                  s[(0 : Nat)]? = some c → ¬((48 : Int) ≤ (↑c.toNat : Int) ∧ (↑c.toNat : Int) ≤ (57 : Int))) ∧
            ∀ (i : Nat), i < k → nameAt s i = true)
      (fun (k : Nat) ↦ List.length s - k) fun (k : Nat) ↦
      ((Tr.y k fun (c23 : UInt8) ↦
                Tr.cut
                  (fun (v25 : Cut (9 : Nat) Unit) ↦
                    St.mk
                      [((0 : Nat), AV.val (Value.string (ofL s))),
                        ((3 : Nat), AV.val (Value.int IntKind.i64 (↑k : Int)))]
                      [])
                  (fun (v25 : Cut (9 : Nat) Unit) ↦
                    (97 : Int) ≤ (↑c23.toNat : Int) ∧ (↑c23.toNat : Int) ≤ (122 : Int) ∨
                      ¬(97 : Int) ≤ (↑c23.toNat : Int) ∧
                          (65 : Int) ≤ (↑c23.toNat : Int) ∧ (↑c23.toNat : Int) ≤ (90 : Int) ∨
                        ¬(97 : Int) ≤ (↑c23.toNat : Int) ∧
                            (65 : Int) ≤ (↑c23.toNat : Int) ∧
                              ¬(↑c23.toNat : Int) ≤ (90 : Int) ∧ (↑c23.toNat : Int) = (95 : Int) ∨
                          ¬(97 : Int) ≤ (↑c23.toNat : Int) ∧
                            ¬(65 : Int) ≤ (↑c23.toNat : Int) ∧
                              (48 : Int) ≤ (↑c23.toNat : Int) ∧ (↑c23.toNat : Int) ≤ (57 : Int))
                  (((Tr.b true (Tr.b true (Tr.b false Tr.nil).w)).br
                        (Tr.b true (Tr.b false (Tr.b true (Tr.b false (Tr.b true Tr.nil).w))))).br
                    (Tr.b false
                      (((Tr.b true (Tr.b false Tr.nil).w).br (Tr.b true (Tr.b false (Tr.nil.br Tr.nil).w))).br
                        (Tr.b false
                          (((Tr.b false Tr.nil).w.br (Tr.b true Tr.nil).w).br (Tr.b false (Tr.b true Tr.nil).w))))))
                  fun (v25 : Cut (9 : Nat) Unit) ↦ Tr.nil.w).w.br
          Tr.nil).w).w) rfl ?_
  refine Eq.mpr (by kernel_rfl : _ = (((decide ((↑(List.length s) : Int) = (0 : Int)) = true → true = true ∧ true = true ∧ false = isName s) ∧
    (decide ((↑(List.length s) : Int) = (0 : Int)) = false →
      (decide ((32 : Int) < (↑(List.length s) : Int)) = true → true = true ∧ false = isName s) ∧
        (decide ((32 : Int) < (↑(List.length s) : Int)) = false →
          (0 : Int) = (0 : Int) ∧
            (0 : Nat) < List.length s ∧
              ∀ (c5 : UInt8),
                s[(0 : Nat)]? = some c5 →
                  (decide ((48 : Int) ≤ (↑c5.toNat : Int)) = true →
                      (0 : Int) = (0 : Int) ∧
                        (0 : Nat) < List.length s ∧
                          ∀ (c8 : UInt8),
                            s[(0 : Nat)]? = some c8 →
                              (decide ((↑c8.toNat : Int) ≤ (57 : Int)) = true → false = isName s) ∧
                                (decide ((↑c8.toNat : Int) ≤ (57 : Int)) = false →
                                  ∃ (m1_12 : Cut (1 : Nat) Unit),
                                    ((s = s ∧ True) ∧ True) ∧
                                      ((∃ (c5 : UInt8),
                                          ∃ (c8 : UInt8),
                                            ¬(↑(List.length s) : Int) = (0 : Int) ∧
                                              ¬(32 : Int) < (↑(List.length s) : Int) ∧
                                                s[(0 : Nat)]? = some c5 ∧
                                                  (48 : Int) ≤ (↑c5.toNat : Int) ∧
                                                    s[(0 : Nat)]? = some c8 ∧ ¬(↑c8.toNat : Int) ≤ (57 : Int)) ∨
                                        ∃ (c5 : UInt8),
                                          ¬(↑(List.length s) : Int) = (0 : Int) ∧
                                            ¬(32 : Int) < (↑(List.length s) : Int) ∧
                                              s[(0 : Nat)]? = some c5 ∧ ¬(48 : Int) ≤ (↑c5.toNat : Int)))) ∧
                    (decide ((48 : Int) ≤ (↑c5.toNat : Int)) = false →
                      false = false ∧
                        ∃ (m1_14 : Cut (1 : Nat) Unit),
                          ((s = s ∧ True) ∧ True) ∧
                            ((∃ (c5 : UInt8),
                                ∃ (c8 : UInt8),
                                  ¬(↑(List.length s) : Int) = (0 : Int) ∧
                                    ¬(32 : Int) < (↑(List.length s) : Int) ∧
                                      s[(0 : Nat)]? = some c5 ∧
                                        (48 : Int) ≤ (↑c5.toNat : Int) ∧
                                          s[(0 : Nat)]? = some c8 ∧ ¬(↑c8.toNat : Int) ≤ (57 : Int)) ∨
                              ∃ (c5 : UInt8),
                                ¬(↑(List.length s) : Int) = (0 : Int) ∧
                                  ¬(32 : Int) < (↑(List.length s) : Int) ∧
                                    s[(0 : Nat)]? = some c5 ∧ ¬(48 : Int) ≤ (↑c5.toNat : Int)))))) ∧
  ∀ (v1 : Cut (1 : Nat) Unit),
    ((∃ (c5 : UInt8),
          ∃ (c8 : UInt8),
            ¬(↑(List.length s) : Int) = (0 : Int) ∧
              ¬(32 : Int) < (↑(List.length s) : Int) ∧
                s[(0 : Nat)]? = some c5 ∧
                  (48 : Int) ≤ (↑c5.toNat : Int) ∧ s[(0 : Nat)]? = some c8 ∧ ¬(↑c8.toNat : Int) ≤ (57 : Int)) ∨
        ∃ (c5 : UInt8),
          ¬(↑(List.length s) : Int) = (0 : Int) ∧
            ¬(32 : Int) < (↑(List.length s) : Int) ∧ s[(0 : Nat)]? = some c5 ∧ ¬(48 : Int) ≤ (↑c5.toNat : Int)) →
      (∃ (j17 : Nat),
          ((s = s ∧ (0 : Int) = (↑j17 : Int) ∧ True) ∧ True) ∧
            j17 ≤ List.length s ∧
              ((0 : Nat) < List.length s ∧
                  List.length s ≤ (32 : Nat) ∧
                    ∀ (c18 : UInt8),
                      s[(0 : Nat)]? = some c18 → ¬((48 : Int) ≤ (↑c18.toNat : Int) ∧ (↑c18.toNat : Int) ≤ (57 : Int))) ∧
                ∀ (i : Nat), i < j17 → nameAt s i = true) ∧
        ∀ (k : Nat),
          (k ≤ List.length s ∧
              ((0 : Nat) < List.length s ∧
                  List.length s ≤ (32 : Nat) ∧
                    ∀ (c : UInt8),
                      s[(0 : Nat)]? = some c → ¬((48 : Int) ≤ (↑c.toNat : Int) ∧ (↑c.toNat : Int) ≤ (57 : Int))) ∧
                ∀ (i : Nat), i < k → nameAt s i = true) →
            (decide ((↑k : Int) < (↑(List.length s) : Int)) = true →
                (↑k : Int) = (↑k : Int) ∧
                  k < List.length s ∧
                    ∀ (c23 : UInt8),
                      s[k]? = some c23 →
                        ((decide ((97 : Int) ≤ (↑c23.toNat : Int)) = true →
                              (decide ((↑c23.toNat : Int) ≤ (122 : Int)) = true →
                                  true = true ∧
                                    true = true ∧
                                      false = false ∧
                                        ∃ (m9_27 : Cut (9 : Nat) Unit),
                                          ((s = s ∧ (↑k : Int) = (↑k : Int) ∧ True) ∧ True) ∧
                                            ((97 : Int) ≤ (↑c23.toNat : Int) ∧ (↑c23.toNat : Int) ≤ (122 : Int) ∨
                                              ¬(97 : Int) ≤ (↑c23.toNat : Int) ∧
                                                  (65 : Int) ≤ (↑c23.toNat : Int) ∧ (↑c23.toNat : Int) ≤ (90 : Int) ∨
                                                ¬(97 : Int) ≤ (↑c23.toNat : Int) ∧
                                                    (65 : Int) ≤ (↑c23.toNat : Int) ∧
                                                      ¬(↑c23.toNat : Int) ≤ (90 : Int) ∧
                                                        (↑c23.toNat : Int) = (95 : Int) ∨
                                                  ¬(97 : Int) ≤ (↑c23.toNat : Int) ∧
                                                    ¬(65 : Int) ≤ (↑c23.toNat : Int) ∧
                                                      (48 : Int) ≤ (↑c23.toNat : Int) ∧
                                                        (↑c23.toNat : Int) ≤ (57 : Int))) ∧
                                (decide ((↑c23.toNat : Int) ≤ (122 : Int)) = false →
                                  decide ((65 : Int) ≤ (↑c23.toNat : Int)) = true ∧
                                    decide ((↑c23.toNat : Int) ≤ (90 : Int)) = false ∧
                                      decide ((48 : Int) ≤ (↑c23.toNat : Int)) = true ∧
                                        decide ((↑c23.toNat : Int) ≤ (57 : Int)) = false ∧
                                          (!decide ((↑c23.toNat : Int) = (95 : Int))) = true ∧ false = isName s)) ∧
                            (decide ((97 : Int) ≤ (↑c23.toNat : Int)) = false →
                              false = false ∧
                                (decide ((65 : Int) ≤ (↑c23.toNat : Int)) = true →
                                    (decide ((↑c23.toNat : Int) ≤ (90 : Int)) = true →
                                        true = true ∧
                                          false = false ∧
                                            ∃ (m9_32 : Cut (9 : Nat) Unit),
                                              ((s = s ∧ (↑k : Int) = (↑k : Int) ∧ True) ∧ True) ∧
                                                ((97 : Int) ≤ (↑c23.toNat : Int) ∧ (↑c23.toNat : Int) ≤ (122 : Int) ∨
                                                  ¬(97 : Int) ≤ (↑c23.toNat : Int) ∧
                                                      (65 : Int) ≤ (↑c23.toNat : Int) ∧
                                                        (↑c23.toNat : Int) ≤ (90 : Int) ∨
                                                    ¬(97 : Int) ≤ (↑c23.toNat : Int) ∧
                                                        (65 : Int) ≤ (↑c23.toNat : Int) ∧
                                                          ¬(↑c23.toNat : Int) ≤ (90 : Int) ∧
                                                            (↑c23.toNat : Int) = (95 : Int) ∨
                                                      ¬(97 : Int) ≤ (↑c23.toNat : Int) ∧
                                                        ¬(65 : Int) ≤ (↑c23.toNat : Int) ∧
                                                          (48 : Int) ≤ (↑c23.toNat : Int) ∧
                                                            (↑c23.toNat : Int) ≤ (57 : Int))) ∧
                                      (decide ((↑c23.toNat : Int) ≤ (90 : Int)) = false →
                                        decide ((48 : Int) ≤ (↑c23.toNat : Int)) = true ∧
                                          decide ((↑c23.toNat : Int) ≤ (57 : Int)) = false ∧
                                            ((!decide ((↑c23.toNat : Int) = (95 : Int))) = true → false = isName s) ∧
                                              ((!decide ((↑c23.toNat : Int) = (95 : Int))) = false →
                                                ∃ (m9_36 : Cut (9 : Nat) Unit),
                                                  ((s = s ∧ (↑k : Int) = (↑k : Int) ∧ True) ∧ True) ∧
                                                    ((97 : Int) ≤ (↑c23.toNat : Int) ∧
                                                        (↑c23.toNat : Int) ≤ (122 : Int) ∨
                                                      ¬(97 : Int) ≤ (↑c23.toNat : Int) ∧
                                                          (65 : Int) ≤ (↑c23.toNat : Int) ∧
                                                            (↑c23.toNat : Int) ≤ (90 : Int) ∨
                                                        ¬(97 : Int) ≤ (↑c23.toNat : Int) ∧
                                                            (65 : Int) ≤ (↑c23.toNat : Int) ∧
                                                              ¬(↑c23.toNat : Int) ≤ (90 : Int) ∧
                                                                (↑c23.toNat : Int) = (95 : Int) ∨
                                                          ¬(97 : Int) ≤ (↑c23.toNat : Int) ∧
                                                            ¬(65 : Int) ≤ (↑c23.toNat : Int) ∧
                                                              (48 : Int) ≤ (↑c23.toNat : Int) ∧
                                                                (↑c23.toNat : Int) ≤ (57 : Int))))) ∧
                                  (decide ((65 : Int) ≤ (↑c23.toNat : Int)) = false →
                                    false = false ∧
                                      (decide ((48 : Int) ≤ (↑c23.toNat : Int)) = true →
                                          (decide ((↑c23.toNat : Int) ≤ (57 : Int)) = true →
                                              false = false ∧
                                                ∃ (m9_40 : Cut (9 : Nat) Unit),
                                                  ((s = s ∧ (↑k : Int) = (↑k : Int) ∧ True) ∧ True) ∧
                                                    ((97 : Int) ≤ (↑c23.toNat : Int) ∧
                                                        (↑c23.toNat : Int) ≤ (122 : Int) ∨
                                                      ¬(97 : Int) ≤ (↑c23.toNat : Int) ∧
                                                          (65 : Int) ≤ (↑c23.toNat : Int) ∧
                                                            (↑c23.toNat : Int) ≤ (90 : Int) ∨
                                                        ¬(97 : Int) ≤ (↑c23.toNat : Int) ∧
                                                            (65 : Int) ≤ (↑c23.toNat : Int) ∧
                                                              ¬(↑c23.toNat : Int) ≤ (90 : Int) ∧
                                                                (↑c23.toNat : Int) = (95 : Int) ∨
                                                          ¬(97 : Int) ≤ (↑c23.toNat : Int) ∧
                                                            ¬(65 : Int) ≤ (↑c23.toNat : Int) ∧
                                                              (48 : Int) ≤ (↑c23.toNat : Int) ∧
                                                                (↑c23.toNat : Int) ≤ (57 : Int))) ∧
                                            (decide ((↑c23.toNat : Int) ≤ (57 : Int)) = false →
                                              (!decide ((↑c23.toNat : Int) = (95 : Int))) = true ∧ false = isName s)) ∧
                                        (decide ((48 : Int) ≤ (↑c23.toNat : Int)) = false →
                                          false = false ∧
                                            (!decide ((↑c23.toNat : Int) = (95 : Int))) = true ∧ false = isName s)))) ∧
                          ∀ (v25 : Cut (9 : Nat) Unit),
                            (97 : Int) ≤ (↑c23.toNat : Int) ∧ (↑c23.toNat : Int) ≤ (122 : Int) ∨
                                ¬(97 : Int) ≤ (↑c23.toNat : Int) ∧
                                    (65 : Int) ≤ (↑c23.toNat : Int) ∧ (↑c23.toNat : Int) ≤ (90 : Int) ∨
                                  ¬(97 : Int) ≤ (↑c23.toNat : Int) ∧
                                      (65 : Int) ≤ (↑c23.toNat : Int) ∧
                                        ¬(↑c23.toNat : Int) ≤ (90 : Int) ∧ (↑c23.toNat : Int) = (95 : Int) ∨
                                    ¬(97 : Int) ≤ (↑c23.toNat : Int) ∧
                                      ¬(65 : Int) ≤ (↑c23.toNat : Int) ∧
                                        (48 : Int) ≤ (↑c23.toNat : Int) ∧ (↑c23.toNat : Int) ≤ (57 : Int) →
                              InI64 ((↑k : Int) + (1 : Int)) ∧
                                ∃ (j45 : Nat),
                                  ((s = s ∧ (↑k : Int) + (1 : Int) = (↑j45 : Int) ∧ True) ∧ True) ∧
                                    (j45 ≤ List.length s ∧
                                        ((0 : Nat) < List.length s ∧
                                            List.length s ≤ (32 : Nat) ∧
                                              ∀ (c46 : UInt8),
                                                s[(0 : Nat)]? = some c46 →
                                                  ¬((48 : Int) ≤ (↑c46.toNat : Int) ∧
                                                      (↑c46.toNat : Int) ≤ (57 : Int))) ∧
                                          ∀ (i : Nat), i < j45 → nameAt s i = true) ∧
                                      List.length s - j45 < List.length s - k) ∧
              (decide ((↑k : Int) < (↑(List.length s) : Int)) = false → true = isName s))) ?_
  refine ⟨⟨fun h1_ => have h1 := dT h1_; ⟨rfl, rfl, ?_⟩, fun h2_ => have h2 := dF h2_; ⟨fun h3_ => have h3 := dT h3_; ⟨rfl, ?_⟩, fun h4_ => have h4 := dF h4_; ⟨rfl, (by omega), fun c5 => fun h6 => ⟨fun h7_ => have h7 := dT h7_; ⟨rfl, (by omega), fun c8 => fun h9 => ⟨fun h10_ => have h10 := dT h10_; ?_, fun h11_ => have h11 := dF h11_; ⟨(), ⟨⟨(by first | rfl | simp), trivial⟩, trivial⟩, Or.inl (⟨c5, c8, h2, h4, h6, h7, h9, h11⟩)⟩⟩⟩, fun h13_ => have h13 := dF h13_; ⟨rfl, ⟨(), ⟨⟨(by first | rfl | simp), trivial⟩, trivial⟩, Or.inr (⟨c5, h2, h4, h6, h13⟩)⟩⟩⟩⟩⟩⟩, fun v1 => fun h16 => ⟨⟨(0 : Nat), ⟨⟨rfl, (by omega), trivial⟩, trivial⟩, ⟨(by omega), ⟨(by omega), (by omega), fun c18 => fun h19 => ?_⟩, fun i => fun h20 => ?_⟩⟩, fun k => fun h21 => have h21a := h21.1; have h21b := h21.2.1; have h21c := h21.2.2; ⟨fun h22_ => have h22 := dT h22_; ⟨rfl, (by omega), fun c23 => fun h24 => ⟨⟨fun h25_ => have h25 := dT h25_; ⟨fun h26_ => have h26 := dT h26_; ⟨rfl, rfl, rfl, ⟨(), ⟨⟨(by first | rfl | simp), ⟨(by first | rfl | simp), trivial⟩⟩, trivial⟩, Or.inl (⟨h25, h26⟩)⟩⟩, fun h28_ => have h28 := dF h28_; ⟨(tD (by omega)), (fD (by omega)), (tD (by omega)), (fD (by omega)), (tnD (by omega)), ?_⟩⟩, fun h29_ => have h29 := dF h29_; ⟨rfl, fun h30_ => have h30 := dT h30_; ⟨fun h31_ => have h31 := dT h31_; ⟨rfl, rfl, ⟨(), ⟨⟨(by first | rfl | simp), ⟨(by first | rfl | simp), trivial⟩⟩, trivial⟩, Or.inr (Or.inl (⟨h29, h30, h31⟩))⟩⟩, fun h33_ => have h33 := dF h33_; ⟨(tD (by omega)), (fD (by omega)), fun h34_ => have h34 := dnT h34_; ?_, fun h35_ => have h35 := dnF h35_; ⟨(), ⟨⟨(by first | rfl | simp), ⟨(by first | rfl | simp), trivial⟩⟩, trivial⟩, Or.inr (Or.inr (Or.inl (⟨h29, h30, h33, h35⟩)))⟩⟩⟩, fun h37_ => have h37 := dF h37_; ⟨rfl, fun h38_ => have h38 := dT h38_; ⟨fun h39_ => have h39 := dT h39_; ⟨rfl, ⟨(), ⟨⟨(by first | rfl | simp), ⟨(by first | rfl | simp), trivial⟩⟩, trivial⟩, Or.inr (Or.inr (Or.inr (⟨h29, h37, h38, h39⟩)))⟩⟩, fun h41_ => have h41 := dF h41_; ⟨(tnD (by omega)), ?_⟩⟩, fun h42_ => have h42 := dF h42_; ⟨rfl, (tnD (by omega)), ?_⟩⟩⟩⟩, fun v25 => fun h44 => ⟨(by unfold InI64; omega), ⟨k + (1 : Nat), ⟨⟨rfl, (by omega), trivial⟩, trivial⟩, ⟨⟨(by omega), ⟨(by omega), (by omega), fun c46 => fun h47 => ?_⟩, fun i => fun h48 => ?_⟩, (by omega)⟩⟩⟩⟩⟩, fun h49_ => have h49 := dF h49_; ?_⟩⟩⟩
  · simp [isName, show s = [] from List.eq_nil_of_length_eq_zero (by omega)]
  · have : ¬ s.length ≤ 32 := by omega
    simp [isName, this]
  · rw [h6] at h9; cases h9
    refine isName_bad h6 ?_
    simp only [nameC, Bool.or_eq_false_iff, Bool.and_eq_false_iff, decide_eq_false_iff_not]
    omega
  · have h0 := ‹s[0]? = some _›
    rcases h16 with ⟨c, d, h1, h2, h3, h4, h5, h6⟩ | ⟨c, h1, h2, h3, h4⟩
    · rw [h3] at h5; cases h5
      rw [h3] at h0; cases h0; omega
    · rw [h3] at h0; cases h0; omega
  · omega
  iterate 4
    · refine isName_bad h24 ?_
      have hb := u8_lt c23
      have h0 := h21.2.1.2.2
      by_cases hk : k = 0
      · subst hk
        have := h0 _ h24
        simp only [nameC, Bool.or_eq_false_iff, Bool.and_eq_false_iff, decide_eq_false_iff_not]
        omega
      · simp only [nameC, Bool.or_eq_false_iff, Bool.and_eq_false_iff, decide_eq_false_iff_not]
        omega
  · exact h21.2.1.2.2 _ (by assumption)
  · refine nameAt_step h24 h21.2.2 ?_ _ (by assumption)
    have h0 := h21.2.1.2.2
    have : k = 0 → ¬(48 ≤ (c23.toNat : Int) ∧ (c23.toNat : Int) ≤ 57) := fun e => by subst e; exact h0 _ h24
    simp only [nameC, Bool.or_eq_true, Bool.and_eq_true, decide_eq_true_eq]
    omega
  · have hall := nameAt_all (by omega) h21.2.2
    have h1 := h21.2.1
    have h2 : s ≠ [] := fun e => by simp [e] at h1
    simp [isName, hall, h2, h1.2.1]
end
end Go.Proofs.Ytbdmioekohmcnaa
