/- Locales: the errors of classes and of collating elements. -/
import Derived.Test.YtbdmioekohmcnabLo1
namespace Go.Proofs.Ytbdmioekohmcnab
set_option linter.unusedVariables false
set_option linter.unusedSimpArgs false
set_option maxRecDepth 100000
def u64A (n : Int) : AV := .val (.int .u64 n)
structure Cls where
  name : Bs
  a : Int
  b : Int
  c : Int
  d : Int
structure El where
  text : Bs
  weight : Int
def encCls (c : Cls) : AV := .agg [strL c.name, u64A c.a, u64A c.b, u64A c.c, u64A c.d]
def encEl (e : El) : AV := .agg [strL e.text, intA e.weight]
def chkCl : List Bs → List Cls → Int
  | _, [] => 0
  | seen, c :: r => if isName c.name then (if c.name ∈ seen then 6 else chkCl (seen ++ [c.name]) r) else 4
def errCl (l : List Cls) : Int := if l.length ≤ 24 then chkCl [] l else 3
def chkEl : List Bs → List El → Int
  | _, [] => 0
  | seen, e :: r => if e.text.length = 2 ∧ 0 ≤ e.weight ∧ e.weight ≤ 65535 then (if e.text ∈ seen then 6 else chkEl (seen ++ [e.text]) r) else 2
def errEl (l : List El) : Int := if l.length ≤ 64 then chkEl [] l else 3
def clsAt (l : List Cls) (k : Nat) : Int := chkCl ((l.take k).map Cls.name) (l.drop k)
def elAt (l : List El) (k : Nat) : Int := chkEl ((l.take k).map El.text) (l.drop k)
theorem clsAt_step {l : List Cls} {k : Nat} {x : Cls} (h : l[k]? = some x) : clsAt l k = if isName x.name then (if x.name ∈ (l.take k).map Cls.name then 6 else clsAt l (k + 1)) else 4 := by
  obtain ⟨hk, rfl⟩ := get_of h
  unfold clsAt
  rw [List.drop_eq_getElem_cons hk, chkCl, List.take_succ_eq_append_getElem hk, List.map_append]
  rfl
theorem clsAt_end {l : List Cls} {k : Nat} (h : l.length ≤ k) : clsAt l k = 0 := by
  unfold clsAt
  rw [List.drop_eq_nil_of_le h, chkCl]
theorem elAt_step {l : List El} {k : Nat} {x : El} (h : l[k]? = some x) : elAt l k = if x.text.length = 2 ∧ 0 ≤ x.weight ∧ x.weight ≤ 65535 then (if x.text ∈ (l.take k).map El.text then 6 else elAt l (k + 1)) else 2 := by
  obtain ⟨hk, rfl⟩ := get_of h
  unfold elAt
  rw [List.drop_eq_getElem_cons hk, chkEl, List.take_succ_eq_append_getElem hk, List.map_append]
  rfl
theorem elAt_end {l : List El} {k : Nat} (h : l.length ≤ k) : elAt l k = 0 := by
  unfold elAt
  rw [List.drop_eq_nil_of_le h, chkEl]
section
variable {X : CallF}
theorem clss_run (l : List Cls) (hl : l.length ≤ maxLen) (hs : ∀ x ∈ l, x.name.length ≤ maxLen) : (R FT X).f 36 [.slice 5 (l.map encCls)] = some (intA (errCl l)) := by
  have hm := maxLen_i64
  refine R_wp ((Tr.k l.length
    (Tr.nil.br
        (Tr.k l.length
          (Tr.inv
              (fun (k : Nat × List (Bs × Bool)) ↦
                St.mk
                  [((3 : Nat), AV.mp (0 : Nat)), ((10 : Nat), AV.slice (5 : Nat) (List.map encCls l)),
                    ((11 : Nat), intA (↑l.length : Int)), ((12 : Nat), intA (↑k.fst : Int))]
                  [MObj.mp (mapE boolA k.snd)])
              (fun (k : Nat × List (Bs × Bool)) ↦
                k.fst ≤ l.length ∧
                  l.length ≤ (24 : Nat) ∧
                    errCl l = clsAt l k.fst ∧
                      ∀ (s : Bs), assoc k.snd s = if s ∈ List.map Cls.name (List.take k.fst l) then some true else none)
              (fun (k : Nat × List (Bs × Bool)) ↦ l.length - k.fst) fun (k : Nat × List (Bs × Bool)) ↦
              (Tr.ix encCls l k.fst fun (x7 : Cls) ↦
                      (Tr.c (boolA (isName x7.name))
                          (Tr.nil.br
                              (Tr.mp boolA k.snd
                                  (fun (x11 : Bool) ↦
                                    (Tr.nil.br (Tr.ms (mapE boolA (aput k.snd x7.name true)) Tr.nil.w)).w)
                                  (Tr.b false (Tr.ms (mapE boolA (aput k.snd x7.name true)) Tr.nil.w)).w).w).w).w).w.br
                Tr.nil).w)).w).w) rfl ?_
  refine Eq.mpr (by kernel_rfl : _ = ((List.map encCls l).length = l.length ∧
  (decide ((24 : Int) < (↑l.length : Int)) = true → (3 : Int) = errCl l) ∧
    (decide ((24 : Int) < (↑l.length : Int)) = false →
      (List.map encCls l).length = l.length ∧
        (∃ (j3 : Nat × List (Bs × Bool)),
            ((AV.mp (0 : Nat) = AV.mp (0 : Nat) ∧
                  List.map encCls l = List.map encCls l ∧
                    (↑l.length : Int) = (↑l.length : Int) ∧ (0 : Int) = (↑j3.fst : Int) ∧ True) ∧
                [] = mapE boolA j3.snd) ∧
              j3.fst ≤ l.length ∧
                l.length ≤ (24 : Nat) ∧
                  errCl l = clsAt l j3.fst ∧
                    ∀ (s4 : Bs),
                      assoc j3.snd s4 = if s4 ∈ List.map Cls.name (List.take j3.fst l) then some true else none) ∧
          ∀ (k : Nat × List (Bs × Bool)),
            (k.fst ≤ l.length ∧
                l.length ≤ (24 : Nat) ∧
                  errCl l = clsAt l k.fst ∧
                    ∀ (s : Bs), assoc k.snd s = if s ∈ List.map Cls.name (List.take k.fst l) then some true else none) →
              (decide ((↑k.fst : Int) < (↑l.length : Int)) = true →
                  List.map encCls l = List.map encCls l ∧
                    (↑k.fst : Int) = (↑k.fst : Int) ∧
                      k.fst < l.length ∧
                        ∀ (x7 : Cls),
                          l[k.fst]? = some x7 →
                            (R FT X).f (35 : FuncId) [AV.val (Value.string (ofL x7.name))] =
                                some (boolA (isName x7.name)) ∧
                              ((!isName x7.name) = true → (4 : Int) = errCl l) ∧
                                ((!isName x7.name) = false →
                                  mapE boolA k.snd =
                                      List.map (fun (x : Bs × Bool) ↦ (Value.string (ofL x.fst), boolA x.snd)) k.snd ∧
                                    (∀ (x11 : Bool),
                                        assoc k.snd x7.name = some x11 →
                                          (x11 = true → (6 : Int) = errCl l) ∧
                                            (x11 = false →
                                              setKey (mapE boolA k.snd) (Value.string (ofL x7.name))
                                                    (AV.val (Value.bool true)) =
                                                  some (mapE boolA (aput k.snd x7.name true)) ∧
                                                InI64 ((↑k.fst : Int) + (1 : Int)) ∧
                                                  ∃ (j15 : Nat × List (Bs × Bool)),
                                                    ((AV.mp (0 : Nat) = AV.mp (0 : Nat) ∧
                                                          List.map encCls l = List.map encCls l ∧
                                                            (↑l.length : Int) = (↑l.length : Int) ∧
                                                              (↑k.fst : Int) + (1 : Int) = (↑j15.fst : Int) ∧ True) ∧
                                                        mapE boolA (aput k.snd x7.name true) = mapE boolA j15.snd) ∧
                                                      (j15.fst ≤ l.length ∧
                                                          l.length ≤ (24 : Nat) ∧
                                                            errCl l = clsAt l j15.fst ∧
                                                              ∀ (s16 : Bs),
                                                                assoc j15.snd s16 =
                                                                  if s16 ∈ List.map Cls.name (List.take j15.fst l) then
                                                                    some true
                                                                  else none) ∧
                                                        l.length - j15.fst < l.length - k.fst)) ∧
                                      (assoc k.snd x7.name = none →
                                        false = false ∧
                                          setKey (mapE boolA k.snd) (Value.string (ofL x7.name))
                                                (AV.val (Value.bool true)) =
                                              some (mapE boolA (aput k.snd x7.name true)) ∧
                                            InI64 ((↑k.fst : Int) + (1 : Int)) ∧
                                              ∃ (j18 : Nat × List (Bs × Bool)),
                                                ((AV.mp (0 : Nat) = AV.mp (0 : Nat) ∧
                                                      List.map encCls l = List.map encCls l ∧
                                                        (↑l.length : Int) = (↑l.length : Int) ∧
                                                          (↑k.fst : Int) + (1 : Int) = (↑j18.fst : Int) ∧ True) ∧
                                                    mapE boolA (aput k.snd x7.name true) = mapE boolA j18.snd) ∧
                                                  (j18.fst ≤ l.length ∧
                                                      l.length ≤ (24 : Nat) ∧
                                                        errCl l = clsAt l j18.fst ∧
                                                          ∀ (s19 : Bs),
                                                            assoc j18.snd s19 =
                                                              if s19 ∈ List.map Cls.name (List.take j18.fst l) then
                                                                some true
                                                              else none) ∧
                                                    l.length - j18.fst < l.length - k.fst))) ∧
                (decide ((↑k.fst : Int) < (↑l.length : Int)) = false → (0 : Int) = errCl l)))) ?_
  refine ⟨(by simp), fun h1_ => have h1 := dT h1_; ?_, fun h2_ => have h2 := dF h2_; ⟨(by simp), ⟨((0 : Nat), []), ⟨⟨rfl, rfl, rfl, (by omega), trivial⟩, rfl⟩, ⟨(by omega), (by omega), ?_, fun s4 => rfl⟩⟩, fun k => fun h5 => have h5a := h5.1; have h5b := h5.2.1; have h5c := h5.2.2.1; have h5d := h5.2.2.2; ⟨fun h6_ => have h6 := dT h6_; ⟨rfl, rfl, (by omega), fun x7 => fun h8 => ⟨(name_run _ ?_), fun h9_ => have h9 := nT h9_; ?_, fun h10_ => have h10 := nF h10_; ⟨rfl, fun x11 => fun h12 => ⟨fun h13 => ?_, fun h14 => ⟨(setKey_mapE _ _ _ _), (by unfold InI64; omega), ⟨(k.fst + (1 : Nat), aput k.snd x7.name true), ⟨⟨rfl, rfl, rfl, (by omega), trivial⟩, rfl⟩, ⟨⟨(by omega), h5b, ?_, fun s16 => ?_⟩, (by omega)⟩⟩⟩⟩, fun h17 => ⟨rfl, (setKey_mapE _ _ _ _), (by unfold InI64; omega), ⟨(k.fst + (1 : Nat), aput k.snd x7.name true), ⟨⟨rfl, rfl, rfl, (by omega), trivial⟩, rfl⟩, ⟨⟨(by omega), h5b, ?_, fun s19 => ?_⟩, (by omega)⟩⟩⟩⟩⟩⟩, fun h20_ => have h20 := dF h20_; ?_⟩⟩⟩
  · simp [errCl]; omega
  · simp only [errCl, if_pos (show l.length ≤ 24 by omega)]; rfl
  · exact hs _ (List.mem_of_getElem? h8)
  · rw [h5c, clsAt_step h8, h9]; rfl
  · subst h13
    have := h5d x7.name
    rw [h12] at this
    split at this
    · rename_i h; rw [h5c, clsAt_step h8, h10, if_pos rfl, if_pos h]
    · cases this
  · subst h14
    exact absurd (h5d x7.name) (by rw [h12]; split <;> simp)
  · exact absurd (h5d x7.name) (by rw [h12, h14]; split <;> simp)
  · have hn : ¬ x7.name ∈ (l.take k.1).map Cls.name := fun hm => by
      have := h5d x7.name
      rw [if_pos hm, h17] at this; cases this
    rw [h5c, clsAt_step h8, h10, if_pos rfl, if_neg hn]
  · rw [assoc_put, List.take_succ_eq_append_getElem (get_of h8).1, List.map_append, (get_of h8).2]
    by_cases e : s19 = x7.name
    · simp [e]
    · rw [if_neg e, h5d]; simp [e]
  · rw [h5c, clsAt_end (by omega)]
theorem els_run (l : List El) (hl : l.length ≤ maxLen) (hs : ∀ x ∈ l, x.text.length ≤ maxLen) : (R FT X).f 37 [.slice 2 (l.map encEl)] = some (intA (errEl l)) := by
  have hm := maxLen_i64
  refine R_wp ((Tr.k l.length
    (Tr.nil.br
        (Tr.k l.length
          (Tr.inv
              (fun (k : Nat × List (Bs × Bool)) ↦
                St.mk
                  [((3 : Nat), AV.mp (0 : Nat)), ((10 : Nat), AV.slice (2 : Nat) (List.map encEl l)),
                    ((11 : Nat), intA (↑l.length : Int)), ((12 : Nat), intA (↑k.fst : Int))]
                  [MObj.mp (mapE boolA k.snd)])
              (fun (k : Nat × List (Bs × Bool)) ↦
                k.fst ≤ l.length ∧
                  l.length ≤ (64 : Nat) ∧
                    errEl l = elAt l k.fst ∧
                      ∀ (s : Bs), assoc k.snd s = if s ∈ List.map El.text (List.take k.fst l) then some true else none)
              (fun (k : Nat × List (Bs × Bool)) ↦ l.length - k.fst) fun (k : Nat × List (Bs × Bool)) ↦
              (Tr.ix encEl l k.fst fun (x7 : El) ↦
                      ((Tr.b true (Tr.b true Tr.nil).w).br
                          ((Tr.b true Tr.nil).w.br
                            (Tr.nil.br
                                (Tr.cut
                                  (fun (v15 : Cut (9 : Nat) Unit) ↦
                                    St.mk
                                      [((3 : Nat), AV.mp (0 : Nat)), ((5 : Nat), AV.ptr (1 : Nat) (0 : Nat)),
                                        ((10 : Nat), AV.slice (2 : Nat) (List.map encEl l)),
                                        ((11 : Nat), AV.val (Value.int IntKind.i64 (↑l.length : Int))),
                                        ((12 : Nat), AV.val (Value.int IntKind.i64 (↑k.fst : Int)))]
                                      [MObj.mp (mapE boolA k.snd), MObj.box [strL x7.text, intA x7.weight]])
                                  (fun (v15 : Cut (9 : Nat) Unit) ↦
                                    (∃ (x15 : Bool), assoc k.snd x7.text = some x15 ∧ x15 = false) ∨
                                      assoc k.snd x7.text = none)
                                  (Tr.mp boolA k.snd (fun (x15 : Bool) ↦ (Tr.nil.br Tr.nil).w) (Tr.b false Tr.nil).w)
                                  fun (v15 : Cut (9 : Nat) Unit) ↦
                                  Tr.ms (mapE boolA (aput k.snd x7.text true)) Tr.nil.w)).w)).w).w.br
                Tr.nil).w)).w).w) rfl ?_
  refine Eq.mpr (by kernel_rfl : _ = ((List.map encEl l).length = l.length ∧
  (decide ((64 : Int) < (↑l.length : Int)) = true → (3 : Int) = errEl l) ∧
    (decide ((64 : Int) < (↑l.length : Int)) = false →
      (List.map encEl l).length = l.length ∧
        (∃ (j3 : Nat × List (Bs × Bool)),
            ((AV.mp (0 : Nat) = AV.mp (0 : Nat) ∧
                  List.map encEl l = List.map encEl l ∧
                    (↑l.length : Int) = (↑l.length : Int) ∧ (0 : Int) = (↑j3.fst : Int) ∧ True) ∧
                [] = mapE boolA j3.snd) ∧
              j3.fst ≤ l.length ∧
                l.length ≤ (64 : Nat) ∧
                  errEl l = elAt l j3.fst ∧
                    ∀ (s4 : Bs),
                      assoc j3.snd s4 = if s4 ∈ List.map El.text (List.take j3.fst l) then some true else none) ∧
          ∀ (k : Nat × List (Bs × Bool)),
            (k.fst ≤ l.length ∧
                l.length ≤ (64 : Nat) ∧
                  errEl l = elAt l k.fst ∧
                    ∀ (s : Bs), assoc k.snd s = if s ∈ List.map El.text (List.take k.fst l) then some true else none) →
              (decide ((↑k.fst : Int) < (↑l.length : Int)) = true →
                  List.map encEl l = List.map encEl l ∧
                    (↑k.fst : Int) = (↑k.fst : Int) ∧
                      k.fst < l.length ∧
                        ∀ (x7 : El),
                          l[k.fst]? = some x7 →
                            ((!decide ((↑(List.length x7.text) : Int) = (2 : Int))) = true →
                                true = true ∧ true = true ∧ (2 : Int) = errEl l) ∧
                              ((!decide ((↑(List.length x7.text) : Int) = (2 : Int))) = false →
                                (decide (x7.weight < (0 : Int)) = true → true = true ∧ (2 : Int) = errEl l) ∧
                                  (decide (x7.weight < (0 : Int)) = false →
                                    (decide ((65535 : Int) < x7.weight) = true → (2 : Int) = errEl l) ∧
                                      (decide ((65535 : Int) < x7.weight) = false →
                                        (mapE boolA k.snd =
                                              List.map (fun (x : Bs × Bool) ↦ (Value.string (ofL x.fst), boolA x.snd))
                                                k.snd ∧
                                            (∀ (x15 : Bool),
                                                assoc k.snd x7.text = some x15 →
                                                  (x15 = true → (6 : Int) = errEl l) ∧
                                                    (x15 = false →
                                                      ∃ (m9_19 : Cut (9 : Nat) Unit),
                                                        ((AV.mp (0 : Nat) = AV.mp (0 : Nat) ∧
                                                              True ∧
                                                                List.map encEl l = List.map encEl l ∧
                                                                  (↑l.length : Int) = (↑l.length : Int) ∧
                                                                    (↑k.fst : Int) = (↑k.fst : Int) ∧ True) ∧
                                                            mapE boolA k.snd = mapE boolA k.snd ∧
                                                              x7.text = x7.text ∧ x7.weight = x7.weight) ∧
                                                          ((∃ (x15 : Bool),
                                                              assoc k.snd x7.text = some x15 ∧ x15 = false) ∨
                                                            assoc k.snd x7.text = none))) ∧
                                              (assoc k.snd x7.text = none →
                                                false = false ∧
                                                  ∃ (m9_21 : Cut (9 : Nat) Unit),
                                                    ((AV.mp (0 : Nat) = AV.mp (0 : Nat) ∧
                                                          True ∧
                                                            List.map encEl l = List.map encEl l ∧
                                                              (↑l.length : Int) = (↑l.length : Int) ∧
                                                                (↑k.fst : Int) = (↑k.fst : Int) ∧ True) ∧
                                                        mapE boolA k.snd = mapE boolA k.snd ∧
                                                          x7.text = x7.text ∧ x7.weight = x7.weight) ∧
                                                      ((∃ (x15 : Bool), assoc k.snd x7.text = some x15 ∧ x15 = false) ∨
                                                        assoc k.snd x7.text = none))) ∧
                                          ∀ (v15 : Cut (9 : Nat) Unit),
                                            (∃ (x15 : Bool), assoc k.snd x7.text = some x15 ∧ x15 = false) ∨
                                                assoc k.snd x7.text = none →
                                              setKey (mapE boolA k.snd) (Value.string (ofL x7.text))
                                                    (AV.val (Value.bool true)) =
                                                  some (mapE boolA (aput k.snd x7.text true)) ∧
                                                InI64 ((↑k.fst : Int) + (1 : Int)) ∧
                                                  ∃ (j24 : Nat × List (Bs × Bool)),
                                                    ((AV.mp (0 : Nat) = AV.mp (0 : Nat) ∧
                                                          List.map encEl l = List.map encEl l ∧
                                                            (↑l.length : Int) = (↑l.length : Int) ∧
                                                              (↑k.fst : Int) + (1 : Int) = (↑j24.fst : Int) ∧ True) ∧
                                                        mapE boolA (aput k.snd x7.text true) = mapE boolA j24.snd) ∧
                                                      (j24.fst ≤ l.length ∧
                                                          l.length ≤ (64 : Nat) ∧
                                                            errEl l = elAt l j24.fst ∧
                                                              ∀ (s25 : Bs),
                                                                assoc j24.snd s25 =
                                                                  if s25 ∈ List.map El.text (List.take j24.fst l) then
                                                                    some true
                                                                  else none) ∧
                                                        l.length - j24.fst < l.length - k.fst)))) ∧
                (decide ((↑k.fst : Int) < (↑l.length : Int)) = false → (0 : Int) = errEl l)))) ?_
  refine ⟨(by simp), fun h1_ => have h1 := dT h1_; ?_, fun h2_ => have h2 := dF h2_; ⟨(by simp), ⟨((0 : Nat), []), ⟨⟨rfl, rfl, rfl, (by omega), trivial⟩, rfl⟩, ⟨(by omega), (by omega), ?_, fun s4 => rfl⟩⟩, fun k => fun h5 => have h5a := h5.1; have h5b := h5.2.1; have h5c := h5.2.2.1; have h5d := h5.2.2.2; ⟨fun h6_ => have h6 := dT h6_; ⟨rfl, rfl, (by omega), fun x7 => fun h8 => ⟨fun h9_ => have h9 := dnT h9_; ⟨rfl, rfl, ?_⟩, fun h10_ => have h10 := dnF h10_; ⟨fun h11_ => have h11 := dT h11_; ⟨rfl, ?_⟩, fun h12_ => have h12 := dF h12_; ⟨fun h13_ => have h13 := dT h13_; ?_, fun h14_ => have h14 := dF h14_; ⟨⟨rfl, fun x15 => fun h16 => ⟨fun h17 => ?_, fun h18 => ⟨(), ⟨⟨(by first | rfl | simp), ⟨trivial, ⟨(by first | rfl | simp), ⟨(by first | rfl | simp), ⟨(by first | rfl | simp), trivial⟩⟩⟩⟩⟩, ⟨(by first | rfl | simp), ⟨(by first | rfl | simp), (by first | rfl | simp)⟩⟩⟩, Or.inl (⟨x15, h16, h18⟩)⟩⟩, fun h20 => ⟨rfl, ⟨(), ⟨⟨(by first | rfl | simp), ⟨trivial, ⟨(by first | rfl | simp), ⟨(by first | rfl | simp), ⟨(by first | rfl | simp), trivial⟩⟩⟩⟩⟩, ⟨(by first | rfl | simp), ⟨(by first | rfl | simp), (by first | rfl | simp)⟩⟩⟩, Or.inr (h20)⟩⟩⟩, fun v15 => fun h23 => ⟨(setKey_mapE _ _ _ _), (by unfold InI64; omega), ⟨(k.fst + (1 : Nat), aput k.snd x7.text true), ⟨⟨rfl, rfl, rfl, (by omega), trivial⟩, rfl⟩, ⟨⟨(by omega), h5b, ?_, fun s25 => ?_⟩, (by omega)⟩⟩⟩⟩⟩⟩⟩⟩, fun h26_ => have h26 := dF h26_; ?_⟩⟩⟩
  · simp [errEl]; omega
  · simp only [errEl, if_pos (show l.length ≤ 64 by omega)]; rfl
  · rw [h5c, elAt_step h8, if_neg (by omega)]
  · rw [h5c, elAt_step h8, if_neg (by omega)]
  · rw [h5c, elAt_step h8, if_neg (by omega)]
  · subst h17
    have := h5d x7.text
    rw [h16] at this
    split at this
    · rename_i h; rw [h5c, elAt_step h8, if_pos (by omega), if_pos h]
    · cases this
  · rw [h5c, elAt_step h8, if_pos (by omega), if_neg]
    intro hm
    have := h5d x7.text
    rw [if_pos hm] at this
    rcases h23 with ⟨b, h1, h2⟩ | h1 <;> rw [h1] at this <;> simp_all
  · rw [assoc_put, List.take_succ_eq_append_getElem (get_of h8).1, List.map_append, (get_of h8).2]
    by_cases e : s25 = x7.text
    · simp [e]
    · rw [if_neg e, h5d]; simp [e]
  · rw [h5c, elAt_end (by omega)]
end
end Go.Proofs.Ytbdmioekohmcnab
