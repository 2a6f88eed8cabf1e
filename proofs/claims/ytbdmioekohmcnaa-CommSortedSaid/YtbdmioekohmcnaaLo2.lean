/- Locales: the errors of classes and of collating elements. -/
import Derived.Test.YtbdmioekohmcnaaLo1
namespace Go.Proofs.Ytbdmioekohmcnaa
set_option linter.unusedVariables false
set_option linter.unusedSimpArgs false
set_option maxRecDepth 100000
def u64A (n : Int) : AV := .val (.int .u64 n)
structure Cls where
  name : Bs
  a : Int
  b : Int
  c : Int
  d : Int
structure El where
  text : Bs
  weight : Int
def encCls (c : Cls) : AV := .agg [strL c.name, u64A c.a, u64A c.b, u64A c.c, u64A c.d]
def encEl (e : El) : AV := .agg [strL e.text, intA e.weight]
def chkCl : List Bs → List Cls → Int
  | _, [] => 0
  | seen, c :: r => if isName c.name then (if c.name ∈ seen then 6 else chkCl (seen ++ [c.name]) r) else 4
def errCl (l : List Cls) : Int := if l.length ≤ 24 then chkCl [] l else 3
def chkEl : List Bs → List El → Int
  | _, [] => 0
  | seen, e :: r => if e.text.length = 2 ∧ 0 ≤ e.weight ∧ e.weight ≤ 65535 then (if e.text ∈ seen then 6 else chkEl (seen ++ [e.text]) r) else 2
def errEl (l : List El) : Int := if l.length ≤ 64 then chkEl [] l else 3
def clsAt (l : List Cls) (k : Nat) : Int := chkCl ((l.take k).map Cls.name) (l.drop k)
def elAt (l : List El) (k : Nat) : Int := chkEl ((l.take k).map El.text) (l.drop k)
theorem clsAt_step {l : List Cls} {k : Nat} {x : Cls} (h : l[k]? = some x) : clsAt l k = if isName x.name then (if x.name ∈ (l.take k).map Cls.name then 6 else clsAt l (k + 1)) else 4 := by
  obtain ⟨hk, rfl⟩ := get_of h
  unfold clsAt
  rw [List.drop_eq_getElem_cons hk, chkCl, List.take_succ_eq_append_getElem hk, List.map_append]
  rfl
theorem clsAt_end {l : List Cls} {k : Nat} (h : l.length ≤ k) : clsAt l k = 0 := by
  unfold clsAt
  rw [List.drop_eq_nil_of_le h, chkCl]
theorem elAt_step {l : List El} {k : Nat} {x : El} (h : l[k]? = some x) : elAt l k = if x.text.length = 2 ∧ 0 ≤ x.weight ∧ x.weight ≤ 65535 then (if x.text ∈ (l.take k).map El.text then 6 else elAt l (k + 1)) else 2 := by
  obtain ⟨hk, rfl⟩ := get_of h
  unfold elAt
  rw [List.drop_eq_getElem_cons hk, chkEl, List.take_succ_eq_append_getElem hk, List.map_append]
  rfl
theorem elAt_end {l : List El} {k : Nat} (h : l.length ≤ k) : elAt l k = 0 := by
  unfold elAt
  rw [List.drop_eq_nil_of_le h, chkEl]
section
variable {X : CallF}
theorem clss_run (l : List Cls) (hl : l.length ≤ maxLen) (hs : ∀ x ∈ l, x.name.length ≤ maxLen) : (R FT X).f 53 [.slice 5 (l.map encCls)] = some (intA (errCl l)) := by
  have hm := maxLen_i64
  refine R_wp ((Tr.k l.length
    (Tr.nil.br
        (Tr.k l.length
          (Tr.inv
              (fun (k : Nat × List (Bs × Bool)) ↦
                St.mk
                  [((3 : Nat), AV.mp (0 : Nat)), ((10 : Nat), AV.slice (5 : Nat) (List.map encCls l)),
                    ((11 : Nat), intA (↑l.length : Int)), ((12 : Nat), intA (↑k.fst : Int))]
                  [MObj.mp (mapE boolA k.snd)])
              (fun (k : Nat × List (Bs × Bool)) ↦
                k.fst ≤ l.length ∧
                  l.length ≤ (24 : Nat) ∧
                    errCl l = clsAt l k.fst ∧
                      ∀ (s : Bs), assoc k.snd s = if s ∈ List.map Cls.name (List.take k.fst l) then some true else none)
              (fun (k : Nat × List (Bs × Bool)) ↦ l.length - k.fst) fun (k : Nat × List (Bs × Bool)) ↦
              (Tr.ix encCls l k.fst fun (x7 : Cls) ↦
                      (Tr.c (boolA (isName x7.name))
                          (Tr.nil.br
                              (Tr.mp boolA k.snd
                                  (fun (x11 : Bool) ↦
                                    (Tr.nil.br (Tr.ms (mapE boolA (aput k.snd x7.name true)) Tr.nil.w)).w)
                                  (Tr.b false (Tr.ms (mapE boolA (aput k.snd x7.name true)) Tr.nil.w)).w).w).w).w).w.br
                Tr.nil).w)).w).w) rfl ?_
  refine Eq.mpr (by kernel_rfl : _ = ((List.map encCls l).length = l.length ∧
  (decide ((24 : Int) < (↑l.length : Int)) = true → (3 : Int) = errCl l) ∧
    (decide ((24 : Int) < (↑l.length : Int)) = false →
      (List.map encCls l).length = l.length ∧
        (∃ (j3 : Nat × List (Bs × Bool)),
            ((AV.mp (0 : Nat) = AV.mp (0 : Nat) ∧
                  List.map encCls l = List.map encCls l ∧
                    (↑l.length : Int) = (↑l.length : Int) ∧ (0 : Int) = (↑j3.fst : Int) ∧ True) ∧
                [] = mapE boolA j3.snd) ∧
              j3.fst ≤ l.length ∧
                l.length ≤ (24 : Nat) ∧
                  errCl l = clsAt l j3.fst ∧
                    ∀ (s4 : Bs),
                      assoc j3.snd s4 = if s4 ∈ List.map Cls.name (List.take j3.fst l) then some true else none) ∧
          ∀ (k : Nat × List (Bs × Bool)),
            (k.fst ≤ l.length ∧
                l.length ≤ (24 : Nat) ∧
                  errCl l = clsAt l k.fst ∧
                    ∀ (s : Bs), assoc k.snd s = if s ∈ List.map Cls.name (List.take k.fst l) then some true else none) →
              (decide ((↑k.fst : Int) < (↑l.length : Int)) = true →
                  List.map encCls l = List.map encCls l ∧
                    (↑k.fst : Int) = (↑k.fst : Int) ∧
                      k.fst < l.length ∧
                        ∀ (x7 : Cls),
                          l[k.fst]? = some x7 →
                            (R FT X).f (52 : FuncId) [AV.val (Value.string (ofL x7.name))] =
                                some (boolA (isName x7.name)) ∧
                              ((!isName x7.name) = true → (4 : Int) = errCl l) ∧
                                ((!isName x7.name) = false →
                                  mapE boolA k.snd =
                                      List.map (fun (x : Bs × Bool) ↦ (Value.string (ofL x.fst), boolA x.snd)) k.snd ∧
                                    (∀ (x11 : Bool),
                                        assoc k.snd x7.name = some x11 →
                                          (x11 = true → (6 : Int) = errCl l) ∧
                                            (x11 = false →
                                              setKey (mapE boolA k.snd) (Value.string (ofL x7.name))
                                                    (AV.val (Value.bool true)) =
                                                  some (mapE boolA (aput k.snd x7.name true)) ∧
                                                InI64 ((↑k.fst : Int) + (1 : Int)) ∧
                                                  ∃ (j15 : Nat × List (Bs × Bool)),
                                                    ((AV.mp (0 : Nat) = AV.mp (0 : Nat) ∧
                                                          List.map encCls l = List.map encCls l ∧
                                                            (↑l.length : Int) = (↑l.length : Int) ∧
                                                              (↑k.fst : Int) + (1 : Int) = (↑j15.fst : Int) ∧ True) ∧
                                                        mapE boolA (aput k.snd x7.name true) = mapE boolA j15.snd) ∧
                                                      (j15.fst ≤ l.length ∧
                                                          l.length ≤ (24 : Nat) ∧
                                                            errCl l = clsAt l j15.fst ∧
                                                              ∀ (s16 : Bs),
                                                                assoc j15.snd s16 =
                                                                  if s16 ∈ List.map Cls.name (List.take j15.fst l) then
                                                                    some true
                                                                  else none) ∧
                                                        l.length - j15.fst < l.length - k.fst)) ∧
                                      (assoc k.snd x7.name = none →
                                        false = false ∧
                                          setKey (mapE boolA k.snd) (Value.string (ofL x7.name))
                                                (AV.val (Value.bool true)) =
                                              some (mapE boolA (aput k.snd x7.name true)) ∧
                                            InI64 ((↑k.fst : Int) + (1 : Int)) ∧
                                              ∃ (j18 : Nat × List (Bs × Bool)),
                                                ((AV.mp (0 : Nat) = AV.mp (0 : Nat) ∧
                                                      List.map encCls l = List.map encCls l ∧
                                                        (↑l.length : Int) = (↑l.length : Int) ∧
                                                          (↑k.fst : Int) + (1 : Int) = (↑j18.fst : Int) ∧ True) ∧
                                                    mapE boolA (aput k.snd x7.name true) = mapE boolA j18.snd) ∧
                                                  (j18.fst ≤ l.length ∧
                                                      l.length ≤ (24 : Nat) ∧
                                                        errCl l = clsAt l j18.fst ∧
                                                          ∀ (s19 : Bs),
                                                            assoc j18.snd s19 =
                                                              if s19 ∈ List.map Cls.name (List.take j18.fst l) then
                                                                some true
                                                              else none) ∧
                                                    l.length - j18.fst < l.length - k.fst))) ∧
                (decide ((↑k.fst : Int) < (↑l.length : Int)) = false → (0 : Int) = errCl l)))) ?_
  refine ⟨(by simp), fun h1_ => have h1 := dT h1_; ?_, fun h2_ => have h2 := dF h2_; ⟨(by simp), ⟨((0 : Nat), []), ⟨⟨rfl, rfl, rfl, (by omega), trivial⟩, rfl⟩, ⟨(by omega), (by omega), ?_, fun s4 => rfl⟩⟩, fun k => fun h5 => have h5a := h5.1; have h5b := h5.2.1; have h5c := h5.2.2.1; have h5d := h5.2.2.2; ⟨fun h6_ => have h6 := dT h6_; ⟨rfl, rfl, (by omega), fun x7 => fun h8 => ⟨(name_run _ ?_), fun h9_ => have h9 := nT h9_; ?_, fun h10_ => have h10 := nF h10_; ⟨rfl, fun x11 => fun h12 => ⟨fun h13 => ?_, fun h14 => ⟨(setKey_mapE _ _ _ _), (by unfold InI64; omega), ⟨(k.fst + (1 : Nat), aput k.snd x7.name true), ⟨⟨rfl, rfl, rfl, (by omega), trivial⟩, rfl⟩, ⟨⟨(by omega), h5b, ?_, fun s16 => ?_⟩, (by omega)⟩⟩⟩⟩, fun h17 => ⟨rfl, (setKey_mapE _ _ _ _), (by unfold InI64; omega), ⟨(k.fst + (1 : Nat), aput k.snd x7.name true), ⟨⟨rfl, rfl, rfl, (by omega), trivial⟩, rfl⟩, ⟨⟨(by omega), h5b, ?_, fun s19 => ?_⟩, (by omega)⟩⟩⟩⟩⟩⟩, fun h20_ => have h20 := dF h20_; ?_⟩⟩⟩
  · simp [errCl]; omega
  · simp only [errCl, if_pos (show l.length ≤ 24 by omega)]; rfl
  · exact hs _ (List.mem_of_getElem? h8)
  · rw [h5c, clsAt_step h8, h9]; rfl
  · subst h13
    have := h5d x7.name
    rw [h12] at this
    split at this
    · rename_i h; rw [h5c, clsAt_step h8, h10, if_pos rfl, if_pos h]
    · cases this
  · subst h14
    exact absurd (h5d x7.name) (by rw [h12]; split <;> simp)
  · exact absurd (h5d x7.name) (by rw [h12, h14]; split <;> simp)
  · have hn : ¬ x7.name ∈ (l.take k.1).map Cls.name := fun hm => by
      have := h5d x7.name
      rw [if_pos hm, h17] at this; cases this
    rw [h5c, clsAt_step h8, h10, if_pos rfl, if_neg hn]
  · rw [assoc_put, List.take_succ_eq_append_getElem (get_of h8).1, List.map_append, (get_of h8).2]
    by_cases e : s19 = x7.name
    · simp [e]
    · rw [if_neg e, h5d]; simp [e]
  · rw [h5c, clsAt_end (by omega)]
theorem clss2_run (l : List Cls) (hl : l.length ≤ maxLen) (hs : ∀ x ∈ l, x.name.length ≤ maxLen) : (R FT X).f 57 [.slice 5 (l.map encCls)] = some (intA (errCl l)) := by
  have hm := maxLen_i64
  refine R_wp ((Tr.k l.length
    (Tr.nil.br
        (Tr.inv
            (fun (k : Nat) ↦
              St.mk [((0 : Nat), AV.slice (5 : Nat) (List.map encCls l)), ((3 : Nat), intA (↑k : Int))] [])
            (fun (k : Nat) ↦ k ≤ l.length ∧ l.length ≤ (24 : Nat) ∧ errCl l = clsAt l k) (fun (k : Nat) ↦ l.length - k)
            fun (k : Nat) ↦
            (Tr.k l.length
                ((Tr.ix encCls l k fun (x6 : Cls) ↦
                          Tr.c (boolA (isName x6.name))
                            (Tr.nil.br
                                (Tr.inv
                                    (fun (i : Nat) ↦
                                      St.mk
                                        [((0 : Nat), AV.slice (5 : Nat) (List.map encCls l)),
                                          ((3 : Nat), intA (↑k : Int)), ((4 : Nat), intA (↑i : Int))]
                                        [])
                                    (fun (i : Nat) ↦
                                      i ≤ k ∧
                                        k < l.length ∧
                                          ∀ (y : Cls),
                                            l[k]? = some y →
                                              isName y.name = true ∧ ∀ (z : Cls), z ∈ List.take i l → z.name ≠ y.name)
                                    (fun (i : Nat) ↦ k - i) fun (i : Nat) ↦
                                    ((Tr.ix encCls l i fun (x17 : Cls) ↦
                                                Tr.ix encCls l k fun (x19 : Cls) ↦ (Tr.nil.br Tr.nil.w).w).w.w.br
                                        Tr.nil.w).w).w).w).w.w.br
                  Tr.nil)).w).w).w).w) rfl ?_
  refine Eq.mpr (by kernel_rfl : _ = ((List.map encCls l).length = l.length ∧
  (decide ((24 : Int) < (↑l.length : Int)) = true → (3 : Int) = errCl l) ∧
    (decide ((24 : Int) < (↑l.length : Int)) = false →
      (∃ (j3 : Nat),
          ((List.map encCls l = List.map encCls l ∧ (0 : Int) = (↑j3 : Int) ∧ True) ∧ True) ∧
            j3 ≤ l.length ∧ l.length ≤ (24 : Nat) ∧ errCl l = clsAt l j3) ∧
        ∀ (k : Nat),
          k ≤ l.length ∧ l.length ≤ (24 : Nat) ∧ errCl l = clsAt l k →
            (List.map encCls l).length = l.length ∧
              (decide ((↑k : Int) < (↑l.length : Int)) = true →
                  List.map encCls l = List.map encCls l ∧
                    (↑k : Int) = (↑k : Int) ∧
                      k < l.length ∧
                        ∀ (x6 : Cls),
                          l[k]? = some x6 →
                            (R FT X).f (55 : FuncId) [AV.val (Value.string (ofL x6.name))] =
                                some (boolA (isName x6.name)) ∧
                              ((!isName x6.name) = true → (4 : Int) = errCl l) ∧
                                ((!isName x6.name) = false →
                                  (∃ (j10 : Nat),
                                      ((List.map encCls l = List.map encCls l ∧
                                            (↑k : Int) = (↑k : Int) ∧ (0 : Int) = (↑j10 : Int) ∧ True) ∧
                                          True) ∧
                                        j10 ≤ k ∧
                                          k < l.length ∧
                                            ∀ (y11 : Cls),
                                              l[k]? = some y11 →
                                                isName y11.name = true ∧
                                                  ∀ (z13 : Cls), z13 ∈ List.take j10 l → z13.name ≠ y11.name) ∧
                                    ∀ (i : Nat),
                                      (i ≤ k ∧
                                          k < l.length ∧
                                            ∀ (y : Cls),
                                              l[k]? = some y →
                                                isName y.name = true ∧
                                                  ∀ (z : Cls), z ∈ List.take i l → z.name ≠ y.name) →
                                        (decide ((↑i : Int) < (↑k : Int)) = true →
                                            List.map encCls l = List.map encCls l ∧
                                              (↑i : Int) = (↑i : Int) ∧
                                                i < l.length ∧
                                                  ∀ (x17 : Cls),
                                                    l[i]? = some x17 →
                                                      List.map encCls l = List.map encCls l ∧
                                                        (↑k : Int) = (↑k : Int) ∧
                                                          k < l.length ∧
                                                            ∀ (x19 : Cls),
                                                              l[k]? = some x19 →
                                                                (decide (x17.name = x19.name) = true →
                                                                    (6 : Int) = errCl l) ∧
                                                                  (decide (x17.name = x19.name) = false →
                                                                    InI64 ((↑i : Int) + (1 : Int)) ∧
                                                                      ∃ (j23 : Nat),
                                                                        ((List.map encCls l = List.map encCls l ∧
                                                                              (↑k : Int) = (↑k : Int) ∧
                                                                                (↑i : Int) + (1 : Int) = (↑j23 : Int) ∧
                                                                                  True) ∧
                                                                            True) ∧
                                                                          (j23 ≤ k ∧
                                                                              k < l.length ∧
                                                                                ∀ (y24 : Cls),
                                                                                  l[k]? = some y24 →
                                                                                    isName y24.name = true ∧
                                                                                      ∀ (z26 : Cls),
                                                                                        z26 ∈ List.take j23 l →
                                                                                          z26.name ≠ y24.name) ∧
                                                                            k - j23 < k - i)) ∧
                                          (decide ((↑i : Int) < (↑k : Int)) = false →
                                            InI64 ((↑k : Int) + (1 : Int)) ∧
                                              ∃ (j29 : Nat),
                                                ((List.map encCls l = List.map encCls l ∧
                                                      (↑k : Int) + (1 : Int) = (↑j29 : Int) ∧ True) ∧
                                                    True) ∧
                                                  (j29 ≤ l.length ∧ l.length ≤ (24 : Nat) ∧ errCl l = clsAt l j29) ∧
                                                    l.length - j29 < l.length - k))) ∧
                (decide ((↑k : Int) < (↑l.length : Int)) = false → (0 : Int) = errCl l)))) ?_
  refine ⟨(by simp), fun h1_ => have h1 := dT h1_; ?_, fun h2_ => have h2 := dF h2_; ⟨⟨(0 : Nat), ⟨⟨rfl, (by omega), trivial⟩, trivial⟩, ⟨(by omega), (by omega), ?_⟩⟩, fun k => fun h4 => have h4a := h4.1; have h4b := h4.2.1; have h4c := h4.2.2; ⟨(by simp), fun h5_ => have h5 := dT h5_; ⟨rfl, rfl, (by omega), fun x6 => fun h7 => ⟨(isName_run _ ?_), fun h8_ => have h8 := nT h8_; ?_, fun h9_ => have h9 := nF h9_; ⟨⟨(0 : Nat), ⟨⟨rfl, rfl, (by omega), trivial⟩, trivial⟩, ⟨(by omega), (by omega), fun y11 => fun h12 => ⟨?_, fun z13 => fun h14 => ?_⟩⟩⟩, fun i => fun h15 => have h15a := h15.1; have h15b := h15.2.1; have h15c := h15.2.2; ⟨fun h16_ => have h16 := dT h16_; ⟨rfl, rfl, (by omega), fun x17 => fun h18 => ⟨rfl, rfl, h15b, fun x19 => fun h20 => ⟨fun h21_ => have h21 := dT h21_; ?_, fun h22_ => have h22 := dF h22_; ⟨(by unfold InI64; omega), ⟨i + (1 : Nat), ⟨⟨rfl, rfl, (by omega), trivial⟩, trivial⟩, ⟨⟨(by omega), h15b, fun y24 => fun h25 => ⟨?_, fun z26 => fun h27 => ?_⟩⟩, (by omega)⟩⟩⟩⟩⟩⟩, fun h28_ => have h28 := dF h28_; ⟨(by unfold InI64; omega), ⟨k + (1 : Nat), ⟨⟨rfl, (by omega), trivial⟩, trivial⟩, ⟨⟨(by omega), h4b, ?_⟩, (by omega)⟩⟩⟩⟩⟩⟩⟩, fun h30_ => have h30 := dF h30_; ?_⟩⟩⟩
  · simp [errCl]; omega
  · simp only [errCl, if_pos (show l.length ≤ 24 by omega)]; rfl
  · exact hs _ (List.mem_of_getElem? h7)
  · rw [h4c, clsAt_step h7, h8]; rfl
  · rw [h7] at h12; cases h12; exact h9
  · simp at h14
  · rw [h4c, clsAt_step h20, (h15c _ h20).1, if_pos rfl, if_pos]
    refine List.mem_map.2 ⟨x17, List.mem_of_getElem? (i := i) ?_, h21⟩
    rw [List.getElem?_take, if_pos (by omega)]; exact h18
  · exact (h15c _ h25).1
  · rw [List.take_succ_eq_append_getElem (get_of h18).1, (get_of h18).2] at h27
    rw [h20] at h25; cases h25
    rcases List.mem_append.1 h27 with h | h
    · exact (h15c _ h20).2 _ h
    · simp at h; subst h; exact h22
  · have h0 : l[k]? = some l[k] := List.getElem?_eq_getElem (by omega)
    obtain ⟨a1, a2⟩ := h15c _ h0
    rw [h4c, clsAt_step h0, a1, if_pos rfl, if_neg]
    intro hm
    obtain ⟨z, hz, e⟩ := List.mem_map.1 hm
    exact a2 z (by rw [show i = k by omega]; exact hz) e
  · rw [h4c, clsAt_end (by omega)]
theorem light_run (n : Int) : (R FT X).f 56 [intA n] = some (boolA (decide (0 ≤ n) && decide (n ≤ 65535))) := by
  refine R_wp ((Tr.nil.br Tr.nil).w) rfl ?_
  refine Eq.mpr (by kernel_rfl : _ = ((decide ((0 : Int) ≤ n) = true → decide (n ≤ (65535 : Int)) = (decide ((0 : Int) ≤ n) && decide (n ≤ (65535 : Int)))) ∧
  (decide ((0 : Int) ≤ n) = false → false = (decide ((0 : Int) ≤ n) && decide (n ≤ (65535 : Int)))))) ?_
  refine ⟨fun h1_ => have h1 := dT h1_; ?_, fun h2_ => have h2 := dF h2_; ?_⟩
  · simp [h1]
  · simp [h2]
theorem els_run (l : List El) (hl : l.length ≤ maxLen) (hs : ∀ x ∈ l, x.text.length ≤ maxLen) : (R FT X).f 54 [.slice 2 (l.map encEl)] = some (intA (errEl l)) := by
  have hm := maxLen_i64
  refine R_wp ((Tr.k l.length
    (Tr.nil.br
        (Tr.k l.length
          (Tr.inv
              (fun (k : Nat × List (Bs × Bool)) ↦
                St.mk
                  [((3 : Nat), AV.mp (0 : Nat)), ((10 : Nat), AV.slice (2 : Nat) (List.map encEl l)),
                    ((11 : Nat), intA (↑l.length : Int)), ((12 : Nat), intA (↑k.fst : Int))]
                  [MObj.mp (mapE boolA k.snd)])
              (fun (k : Nat × List (Bs × Bool)) ↦
                k.fst ≤ l.length ∧
                  l.length ≤ (64 : Nat) ∧
                    errEl l = elAt l k.fst ∧
                      ∀ (s : Bs), assoc k.snd s = if s ∈ List.map El.text (List.take k.fst l) then some true else none)
              (fun (k : Nat × List (Bs × Bool)) ↦ l.length - k.fst) fun (k : Nat × List (Bs × Bool)) ↦
              (Tr.ix encEl l k.fst fun (x7 : El) ↦
                      ((Tr.b true (Tr.b true Tr.nil).w).br
                          ((Tr.b true Tr.nil).w.br
                            (Tr.nil.br
                                (Tr.cut
                                  (fun (v15 : Cut (9 : Nat) Unit) ↦
                                    St.mk
                                      [((3 : Nat), AV.mp (0 : Nat)), ((5 : Nat), AV.ptr (1 : Nat) (0 : Nat)),
                                        ((10 : Nat), AV.slice (2 : Nat) (List.map encEl l)),
                                        ((11 : Nat), AV.val (Value.int IntKind.i64 (↑l.length : Int))),
                                        ((12 : Nat), AV.val (Value.int IntKind.i64 (↑k.fst : Int)))]
                                      [MObj.mp (mapE boolA k.snd), MObj.box [strL x7.text, intA x7.weight]])
                                  (fun (v15 : Cut (9 : Nat) Unit) ↦
                                    (∃ (x15 : Bool), assoc k.snd x7.text = some x15 ∧ x15 = false) ∨
                                      assoc k.snd x7.text = none)
                                  (Tr.mp boolA k.snd (fun (x15 : Bool) ↦ (Tr.nil.br Tr.nil).w) (Tr.b false Tr.nil).w)
                                  fun (v15 : Cut (9 : Nat) Unit) ↦
                                  Tr.ms (mapE boolA (aput k.snd x7.text true)) Tr.nil.w)).w)).w).w.br
                Tr.nil).w)).w).w) rfl ?_
  refine Eq.mpr (by kernel_rfl : _ = ((List.map encEl l).length = l.length ∧
  (decide ((64 : Int) < (↑l.length : Int)) = true → (3 : Int) = errEl l) ∧
    (decide ((64 : Int) < (↑l.length : Int)) = false →
      (List.map encEl l).length = l.length ∧
        (∃ (j3 : Nat × List (Bs × Bool)),
            ((AV.mp (0 : Nat) = AV.mp (0 : Nat) ∧
                  List.map encEl l = List.map encEl l ∧
                    (↑l.length : Int) = (↑l.length : Int) ∧ (0 : Int) = (↑j3.fst : Int) ∧ True) ∧
                [] = mapE boolA j3.snd) ∧
              j3.fst ≤ l.length ∧
                l.length ≤ (64 : Nat) ∧
                  errEl l = elAt l j3.fst ∧
                    ∀ (s4 : Bs),
                      assoc j3.snd s4 = if s4 ∈ List.map El.text (List.take j3.fst l) then some true else none) ∧
          ∀ (k : Nat × List (Bs × Bool)),
            (k.fst ≤ l.length ∧
                l.length ≤ (64 : Nat) ∧
                  errEl l = elAt l k.fst ∧
                    ∀ (s : Bs), assoc k.snd s = if s ∈ List.map El.text (List.take k.fst l) then some true else none) →
              (decide ((↑k.fst : Int) < (↑l.length : Int)) = true →
                  List.map encEl l = List.map encEl l ∧
                    (↑k.fst : Int) = (↑k.fst : Int) ∧
                      k.fst < l.length ∧
                        ∀ (x7 : El),
                          l[k.fst]? = some x7 →
                            ((!decide ((↑(List.length x7.text) : Int) = (2 : Int))) = true →
                                true = true ∧ true = true ∧ (2 : Int) = errEl l) ∧
                              ((!decide ((↑(List.length x7.text) : Int) = (2 : Int))) = false →
                                (decide (x7.weight < (0 : Int)) = true → true = true ∧ (2 : Int) = errEl l) ∧
                                  (decide (x7.weight < (0 : Int)) = false →
                                    (decide ((65535 : Int) < x7.weight) = true → (2 : Int) = errEl l) ∧
                                      (decide ((65535 : Int) < x7.weight) = false →
                                        (mapE boolA k.snd =
                                              List.map (fun (x : Bs × Bool) ↦ (Value.string (ofL x.fst), boolA x.snd))
                                                k.snd ∧
                                            (∀ (x15 : Bool),
                                                assoc k.snd x7.text = some x15 →
                                                  (x15 = true → (6 : Int) = errEl l) ∧
                                                    (x15 = false →
                                                      ∃ (m9_19 : Cut (9 : Nat) Unit),
                                                        ((AV.mp (0 : Nat) = AV.mp (0 : Nat) ∧
                                                              True ∧
                                                                List.map encEl l = List.map encEl l ∧
                                                                  (↑l.length : Int) = (↑l.length : Int) ∧
                                                                    (↑k.fst : Int) = (↑k.fst : Int) ∧ True) ∧
                                                            mapE boolA k.snd = mapE boolA k.snd ∧
                                                              x7.text = x7.text ∧ x7.weight = x7.weight) ∧
                                                          ((∃ (x15 : Bool),
                                                              assoc k.snd x7.text = some x15 ∧ x15 = false) ∨
                                                            assoc k.snd x7.text = none))) ∧
                                              (assoc k.snd x7.text = none →
                                                false = false ∧
                                                  ∃ (m9_21 : Cut (9 : Nat) Unit),
                                                    ((AV.mp (0 : Nat) = AV.mp (0 : Nat) ∧
                                                          True ∧
                                                            List.map encEl l = List.map encEl l ∧
                                                              (↑l.length : Int) = (↑l.length : Int) ∧
                                                                (↑k.fst : Int) = (↑k.fst : Int) ∧ True) ∧
                                                        mapE boolA k.snd = mapE boolA k.snd ∧
                                                          x7.text = x7.text ∧ x7.weight = x7.weight) ∧
                                                      ((∃ (x15 : Bool), assoc k.snd x7.text = some x15 ∧ x15 = false) ∨
                                                        assoc k.snd x7.text = none))) ∧
                                          ∀ (v15 : Cut (9 : Nat) Unit),
                                            (∃ (x15 : Bool), assoc k.snd x7.text = some x15 ∧ x15 = false) ∨
                                                assoc k.snd x7.text = none →
                                              setKey (mapE boolA k.snd) (Value.string (ofL x7.text))
                                                    (AV.val (Value.bool true)) =
                                                  some (mapE boolA (aput k.snd x7.text true)) ∧
                                                InI64 ((↑k.fst : Int) + (1 : Int)) ∧
                                                  ∃ (j24 : Nat × List (Bs × Bool)),
                                                    ((AV.mp (0 : Nat) = AV.mp (0 : Nat) ∧
                                                          List.map encEl l = List.map encEl l ∧
                                                            (↑l.length : Int) = (↑l.length : Int) ∧
                                                              (↑k.fst : Int) + (1 : Int) = (↑j24.fst : Int) ∧ True) ∧
                                                        mapE boolA (aput k.snd x7.text true) = mapE boolA j24.snd) ∧
                                                      (j24.fst ≤ l.length ∧
                                                          l.length ≤ (64 : Nat) ∧
                                                            errEl l = elAt l j24.fst ∧
                                                              ∀ (s25 : Bs),
                                                                assoc j24.snd s25 =
                                                                  if s25 ∈ List.map El.text (List.take j24.fst l) then
                                                                    some true
                                                                  else none) ∧
                                                        l.length - j24.fst < l.length - k.fst)))) ∧
                (decide ((↑k.fst : Int) < (↑l.length : Int)) = false → (0 : Int) = errEl l)))) ?_
  refine ⟨(by simp), fun h1_ => have h1 := dT h1_; ?_, fun h2_ => have h2 := dF h2_; ⟨(by simp), ⟨((0 : Nat), []), ⟨⟨rfl, rfl, rfl, (by omega), trivial⟩, rfl⟩, ⟨(by omega), (by omega), ?_, fun s4 => rfl⟩⟩, fun k => fun h5 => have h5a := h5.1; have h5b := h5.2.1; have h5c := h5.2.2.1; have h5d := h5.2.2.2; ⟨fun h6_ => have h6 := dT h6_; ⟨rfl, rfl, (by omega), fun x7 => fun h8 => ⟨fun h9_ => have h9 := dnT h9_; ⟨rfl, rfl, ?_⟩, fun h10_ => have h10 := dnF h10_; ⟨fun h11_ => have h11 := dT h11_; ⟨rfl, ?_⟩, fun h12_ => have h12 := dF h12_; ⟨fun h13_ => have h13 := dT h13_; ?_, fun h14_ => have h14 := dF h14_; ⟨⟨rfl, fun x15 => fun h16 => ⟨fun h17 => ?_, fun h18 => ⟨(), ⟨⟨(by first | rfl | simp), ⟨trivial, ⟨(by first | rfl | simp), ⟨(by first | rfl | simp), ⟨(by first | rfl | simp), trivial⟩⟩⟩⟩⟩, ⟨(by first | rfl | simp), ⟨(by first | rfl | simp), (by first | rfl | simp)⟩⟩⟩, Or.inl (⟨x15, h16, h18⟩)⟩⟩, fun h20 => ⟨rfl, ⟨(), ⟨⟨(by first | rfl | simp), ⟨trivial, ⟨(by first | rfl | simp), ⟨(by first | rfl | simp), ⟨(by first | rfl | simp), trivial⟩⟩⟩⟩⟩, ⟨(by first | rfl | simp), ⟨(by first | rfl | simp), (by first | rfl | simp)⟩⟩⟩, Or.inr (h20)⟩⟩⟩, fun v15 => fun h23 => ⟨(setKey_mapE _ _ _ _), (by unfold InI64; omega), ⟨(k.fst + (1 : Nat), aput k.snd x7.text true), ⟨⟨rfl, rfl, rfl, (by omega), trivial⟩, rfl⟩, ⟨⟨(by omega), h5b, ?_, fun s25 => ?_⟩, (by omega)⟩⟩⟩⟩⟩⟩⟩⟩, fun h26_ => have h26 := dF h26_; ?_⟩⟩⟩
  · simp [errEl]; omega
  · simp only [errEl, if_pos (show l.length ≤ 64 by omega)]; rfl
  · rw [h5c, elAt_step h8, if_neg (by omega)]
  · rw [h5c, elAt_step h8, if_neg (by omega)]
  · rw [h5c, elAt_step h8, if_neg (by omega)]
  · subst h17
    have := h5d x7.text
    rw [h16] at this
    split at this
    · rename_i h; rw [h5c, elAt_step h8, if_pos (by omega), if_pos h]
    · cases this
  · rw [h5c, elAt_step h8, if_pos (by omega), if_neg]
    intro hm
    have := h5d x7.text
    rw [if_pos hm] at this
    rcases h23 with ⟨b, h1, h2⟩ | h1 <;> rw [h1] at this <;> simp_all
  · rw [assoc_put, List.take_succ_eq_append_getElem (get_of h8).1, List.map_append, (get_of h8).2]
    by_cases e : s25 = x7.text
    · simp [e]
    · rw [if_neg e, h5d]; simp [e]
  · rw [h5c, elAt_end (by omega)]
theorem els2_run (l : List El) (hl : l.length ≤ maxLen) (hs : ∀ x ∈ l, x.text.length ≤ maxLen) : (R FT X).f 58 [.slice 2 (l.map encEl)] = some (intA (errEl l)) := by
  have hm := maxLen_i64
  refine R_wp ((Tr.k l.length
    (Tr.nil.br
        (Tr.inv
            (fun (k : Nat) ↦
              St.mk [((0 : Nat), AV.slice (2 : Nat) (List.map encEl l)), ((3 : Nat), intA (↑k : Int))] [])
            (fun (k : Nat) ↦ k ≤ l.length ∧ l.length ≤ (64 : Nat) ∧ errEl l = elAt l k) (fun (k : Nat) ↦ l.length - k)
            fun (k : Nat) ↦
            (Tr.k l.length
                ((Tr.ix encEl l k fun (x6 : El) ↦
                          (Tr.b true Tr.nil).w.br
                            (Tr.ix encEl l k fun (x10 : El) ↦
                              Tr.c (boolA (decide ((0 : Int) ≤ x10.weight) && decide (x10.weight ≤ (65535 : Int))))
                                (Tr.nil.br
                                    (Tr.inv
                                        (fun (i : Nat) ↦
                                          St.mk
                                            [((0 : Nat), AV.slice (2 : Nat) (List.map encEl l)),
                                              ((3 : Nat), intA (↑k : Int)), ((4 : Nat), intA (↑i : Int))]
                                            [])
                                        (fun (i : Nat) ↦
                                          i ≤ k ∧
                                            k < l.length ∧
                                              ∀ (y : El),
                                                l[k]? = some y →
                                                  (List.length y.text = (2 : Nat) ∧
                                                      (0 : Int) ≤ y.weight ∧ y.weight ≤ (65535 : Int)) ∧
                                                    ∀ (z : El), z ∈ List.take i l → z.text ≠ y.text)
                                        (fun (i : Nat) ↦ k - i) fun (i : Nat) ↦
                                        ((Tr.ix encEl l i fun (x21 : El) ↦
                                                    Tr.ix encEl l k fun (x23 : El) ↦ (Tr.nil.br Tr.nil.w).w).w.w.br
                                            Tr.nil.w).w).w).w)).w.w.br
                  Tr.nil)).w).w).w).w) rfl ?_
  refine Eq.mpr (by kernel_rfl : _ = ((List.map encEl l).length = l.length ∧
  (decide ((64 : Int) < (↑l.length : Int)) = true → (3 : Int) = errEl l) ∧
    (decide ((64 : Int) < (↑l.length : Int)) = false →
      (∃ (j3 : Nat),
          ((List.map encEl l = List.map encEl l ∧ (0 : Int) = (↑j3 : Int) ∧ True) ∧ True) ∧
            j3 ≤ l.length ∧ l.length ≤ (64 : Nat) ∧ errEl l = elAt l j3) ∧
        ∀ (k : Nat),
          k ≤ l.length ∧ l.length ≤ (64 : Nat) ∧ errEl l = elAt l k →
            (List.map encEl l).length = l.length ∧
              (decide ((↑k : Int) < (↑l.length : Int)) = true →
                  List.map encEl l = List.map encEl l ∧
                    (↑k : Int) = (↑k : Int) ∧
                      k < l.length ∧
                        ∀ (x6 : El),
                          l[k]? = some x6 →
                            ((!decide ((↑(List.length x6.text) : Int) = (2 : Int))) = true →
                                true = true ∧ (2 : Int) = errEl l) ∧
                              ((!decide ((↑(List.length x6.text) : Int) = (2 : Int))) = false →
                                List.map encEl l = List.map encEl l ∧
                                  (↑k : Int) = (↑k : Int) ∧
                                    k < l.length ∧
                                      ∀ (x10 : El),
                                        l[k]? = some x10 →
                                          (R FT X).f (56 : FuncId) [AV.val (Value.int IntKind.i64 x10.weight)] =
                                              some
                                                (boolA
                                                  (decide ((0 : Int) ≤ x10.weight) &&
                                                    decide (x10.weight ≤ (65535 : Int)))) ∧
                                            ((!(decide ((0 : Int) ≤ x10.weight) &&
                                                      decide (x10.weight ≤ (65535 : Int)))) =
                                                  true →
                                                (2 : Int) = errEl l) ∧
                                              ((!(decide ((0 : Int) ≤ x10.weight) &&
                                                      decide (x10.weight ≤ (65535 : Int)))) =
                                                  false →
                                                (∃ (j14 : Nat),
                                                    ((List.map encEl l = List.map encEl l ∧
                                                          (↑k : Int) = (↑k : Int) ∧ (0 : Int) = (↑j14 : Int) ∧ True) ∧
                                                        True) ∧
                                                      j14 ≤ k ∧
                                                        k < l.length ∧
                                                          ∀ (y15 : El),
                                                            l[k]? = some y15 →
                                                              (List.length y15.text = (2 : Nat) ∧
                                                                  (0 : Int) ≤ y15.weight ∧ y15.weight ≤ (65535 : Int)) ∧
                                                                ∀ (z17 : El),
                                                                  z17 ∈ List.take j14 l → z17.text ≠ y15.text) ∧
                                                  ∀ (i : Nat),
                                                    (i ≤ k ∧
                                                        k < l.length ∧
                                                          ∀ (y : El),
                                                            l[k]? = some y →
                                                              (List.length y.text = (2 : Nat) ∧
                                                                  (0 : Int) ≤ y.weight ∧ y.weight ≤ (65535 : Int)) ∧
                                                                ∀ (z : El), z ∈ List.take i l → z.text ≠ y.text) →
                                                      (decide ((↑i : Int) < (↑k : Int)) = true →
                                                          List.map encEl l = List.map encEl l ∧
                                                            (↑i : Int) = (↑i : Int) ∧
                                                              i < l.length ∧
                                                                ∀ (x21 : El),
                                                                  l[i]? = some x21 →
                                                                    List.map encEl l = List.map encEl l ∧
                                                                      (↑k : Int) = (↑k : Int) ∧
                                                                        k < l.length ∧
                                                                          ∀ (x23 : El),
                                                                            l[k]? = some x23 →
                                                                              (decide (x21.text = x23.text) = true →
                                                                                  (6 : Int) = errEl l) ∧
                                                                                (decide (x21.text = x23.text) = false →
                                                                                  InI64 ((↑i : Int) + (1 : Int)) ∧
                                                                                    ∃ (j27 : Nat),
                                                                                      ((List.map encEl l =
                                                                                              List.map encEl l ∧
                                                                                            (↑k : Int) = (↑k : Int) ∧
                                                                                              (↑i : Int) + (1 : Int) =
                                                                                                  (↑j27 : Int) ∧
                                                                                                True) ∧
                                                                                          True) ∧
                                                                                        (j27 ≤ k ∧
                                                                                            k < l.length ∧
                                                                                              ∀ (y28 : El),
                                                                                                l[k]? = some y28 →
                                                                                                  (List.length
                                                                                                          y28.text =
                                                                                                        (2 : Nat) ∧
                                                                                                      (0 : Int) ≤
                                                                                                          y28.weight ∧
                                                                                                        y28.weight ≤
                                                                                                          (65535 :
                                                                                                            Int)) ∧
                                                                                                    ∀ (z30 : El),
                                                                                                      z30 ∈
                                                                                                          List.take j27
                                                                                                            l →
                                                                                                        z30.text ≠
                                                                                                          y28.text) ∧
                                                                                          k - j27 < k - i)) ∧
                                                        (decide ((↑i : Int) < (↑k : Int)) = false →
                                                          InI64 ((↑k : Int) + (1 : Int)) ∧
                                                            ∃ (j33 : Nat),
                                                              ((List.map encEl l = List.map encEl l ∧
                                                                    (↑k : Int) + (1 : Int) = (↑j33 : Int) ∧ True) ∧
                                                                  True) ∧
                                                                (j33 ≤ l.length ∧
                                                                    l.length ≤ (64 : Nat) ∧ errEl l = elAt l j33) ∧
                                                                  l.length - j33 < l.length - k)))) ∧
                (decide ((↑k : Int) < (↑l.length : Int)) = false → (0 : Int) = errEl l)))) ?_
  refine ⟨(by simp), fun h1_ => have h1 := dT h1_; ?_, fun h2_ => have h2 := dF h2_; ⟨⟨(0 : Nat), ⟨⟨rfl, (by omega), trivial⟩, trivial⟩, ⟨(by omega), (by omega), ?_⟩⟩, fun k => fun h4 => have h4a := h4.1; have h4b := h4.2.1; have h4c := h4.2.2; ⟨(by simp), fun h5_ => have h5 := dT h5_; ⟨rfl, rfl, (by omega), fun x6 => fun h7 => ⟨fun h8_ => have h8 := dnT h8_; ⟨rfl, ?_⟩, fun h9_ => have h9 := dnF h9_; ⟨rfl, rfl, (by omega), fun x10 => fun h11 => ⟨(light_run _), fun h12_ => have h12 := nT h12_; ?_, fun h13_ => have h13 := nF h13_; ⟨⟨(0 : Nat), ⟨⟨rfl, rfl, (by omega), trivial⟩, trivial⟩, ⟨(by omega), (by omega), fun y15 => fun h16 => ⟨⟨?_, ?_, ?_⟩, fun z17 => fun h18 => ?_⟩⟩⟩, fun i => fun h19 => have h19a := h19.1; have h19b := h19.2.1; have h19c := h19.2.2; ⟨fun h20_ => have h20 := dT h20_; ⟨rfl, rfl, (by omega), fun x21 => fun h22 => ⟨rfl, rfl, h19b, fun x23 => fun h24 => ⟨fun h25_ => have h25 := dT h25_; ?_, fun h26_ => have h26 := dF h26_; ⟨(by unfold InI64; omega), ⟨i + (1 : Nat), ⟨⟨rfl, rfl, (by omega), trivial⟩, trivial⟩, ⟨⟨(by omega), h19b, fun y28 => fun h29 => ⟨⟨?_, ?_, ?_⟩, fun z30 => fun h31 => ?_⟩⟩, (by omega)⟩⟩⟩⟩⟩⟩, fun h32_ => have h32 := dF h32_; ⟨(by unfold InI64; omega), ⟨k + (1 : Nat), ⟨⟨rfl, (by omega), trivial⟩, trivial⟩, ⟨⟨(by omega), h4b, ?_⟩, (by omega)⟩⟩⟩⟩⟩⟩⟩⟩⟩, fun h34_ => have h34 := dF h34_; ?_⟩⟩⟩
  · simp [errEl]; omega
  · simp only [errEl, if_pos (show l.length ≤ 64 by omega)]; rfl
  · rw [h4c, elAt_step h7, if_neg (by omega)]
  · rw [h4c, elAt_step h11, if_neg]
    simp only [Bool.and_eq_false_iff, decide_eq_false_iff_not] at h12
    omega
  iterate 3
    · simp only [Bool.and_eq_true, decide_eq_true_eq] at h13
      rw [h11] at h7 h16; cases h7; cases h16; omega
  · simp at h18
  · rw [h4c, elAt_step h24, if_pos (h19c _ h24).1, if_pos]
    refine List.mem_map.2 ⟨x21, List.mem_of_getElem? (i := i) ?_, h25⟩
    rw [List.getElem?_take, if_pos (by omega)]; exact h22
  iterate 3
    · have := (h19c _ h29).1; omega
  · rw [List.take_succ_eq_append_getElem (get_of h22).1, (get_of h22).2] at h31
    rw [h24] at h29; cases h29
    rcases List.mem_append.1 h31 with h | h
    · exact (h19c _ h24).2 _ h
    · simp at h; subst h; exact h26
  · have h0 : l[k]? = some l[k] := List.getElem?_eq_getElem (by omega)
    obtain ⟨a1, a2⟩ := h19c _ h0
    rw [h4c, elAt_step h0, if_pos a1, if_neg]
    intro hm
    obtain ⟨z, hz, e⟩ := List.mem_map.1 hm
    exact a2 z (by rw [show i = k by omega]; exact hz) e
  · rw [h4c, elAt_end (by omega)]
end
end Go.Proofs.Ytbdmioekohmcnaa
