/- Comm: what came in, and what is called from outside. -/
import Derived.Test.YtbdmioekohmcnabUp
import Derived.Test.YtbdmioekohmcnabCmp
import Derived.Test.YtbdmioekohmcnabCo4
namespace Go.Proofs.Ytbdmioekohmcnab
set_option linter.unusedVariables false
set_option linter.unusedSimpArgs false
open Go.RowKit Go.ChangeShapes Go.WideShapes Go.ChangeAt Go.Deep
set_option maxRecDepth 100000
/-- the functions of the library -/
def XS : CallF := ⟨fun f vs => if f = 20 then (match vs with
  | [.val (.string a), .val (.string b)] => some (intA (Lib.compareBytes a.data.toList b.data.toList))
  | _ => none) else none, fun _ _ _ => none⟩
theorem XS_ok : CallsOk Try.prog XS := by
  refine ⟨fun f vs r h => ?_, fun f vs m r m' h => by cases h⟩
  simp only [XS] at h
  split at h
  · rename_i hf
    subst hf
    split at h
    · rename_i a b
      cases h
      intro X w cs hX hr
      obtain ⟨hn, hr⟩ := hr
      have e0 := rep_val (hr 0 _ rfl)
      have e1 := rep_val (hr 1 _ rfl)
      have hcs : cs = #[.string a, .string b] := by
        apply Array.ext
        · simpa using hn
        · intro i h1 h2
          have h3 : i < 2 := by simpa using h2
          rw [Array.getD_eq_getD_getElem?] at e0 e1
          rcases i with _ | _ | i
          · rw [Array.getElem?_eq_getElem h1] at e0; exact e0
          · rw [Array.getElem?_eq_getElem h1] at e1; exact e1
          · omega
      subst hcs
      refine (compare_calls a b w).mono fun e w' ⟨he, hw⟩ => ?_
      subst he hw
      exact ⟨_, rfl, .val _ _, Fr.refl _ _⟩
    · cases h
  · cases h
theorem ord_bytes : ∀ a b : Bs, Lib.compareBytes a b = ord (ints a) (ints b)
  | [], [] => rfl
  | [], _ :: _ => rfl
  | _ :: _, [] => rfl
  | x :: a, y :: b => by
    have ih := ord_bytes a b
    simp only [Lib.compareBytes, ints, List.map_cons, ord]
    rw [show (List.map (fun c => ((UInt8.toNat c : Nat) : Int)) a) = ints a from rfl, show (List.map (fun c => ((UInt8.toNat c : Nat) : Int)) b) = ints b from rfl, ih]
    simp only [UInt8.lt_iff_toNat_lt, Int.ofNat_lt, gt_iff_lt]
theorem XS_cmp : StrC XS := fun a b => R_ext rfl (by
  rw [← ord_bytes]; rfl)

/-! ### shapes -/
def sCls : Sh := .st [.str, .st [.st [.int .u64, .int .u64, .int .u64, .int .u64]]]
def sEl : Sh := .st [.str, .int .i64]
def sLoc : Sh := .st [.str, .sl (.int .i64), .str, .str, .sl sCls, .sl sEl]
theorem sLoc_ok : sLoc.ok Try.prog 26 = true := by kernel_rfl
section
variable {H : Type}
theorem Tys_cons {s : Sh} {r : List Sh} {l : List (DataW H)} (h : Tys (s :: r) l) : ∃ d l', l = d :: l' ∧ Ty s d ∧ Tys r l' := by
  cases l with
  | nil => simp [Tys] at h
  | cons d l => exact ⟨d, l, rfl, by simpa [Tys] using h⟩
theorem Tys_nil {l : List (DataW H)} (h : Tys [] l) : l = [] := by
  cases l with
  | nil => rfl
  | cons d l => simp [Tys] at h
def dStr : DataW H → Bs
  | .lit (.string l) => l
  | _ => []
def dInt : DataW H → Int
  | .lit (.int _ n) => n
  | _ => 0
def dEls : DataW H → List (DataW H)
  | .slice l _ => l
  | _ => []
def dPart (d : DataW H) (i : Nat) : DataW H := match d with
  | .agg l => l.getD i .nil
  | _ => .nil
theorem str_ok {d : DataW H} (h : Ty .str d) : dAV .str d = [strL (dStr d)] ∧ (dStr d).length ≤ maxLen := by
  obtain ⟨l, rfl, hl⟩ := Ty_str h; exact ⟨rfl, hl⟩
theorem int_ok {k : IntKind} {d : DataW H} (h : Ty (.int k) d) : dAV (.int k) d = [.val (.int k (dInt d))] ∧ (Lit.int k (dInt d)).wf = true := by
  obtain ⟨n, rfl, hl⟩ := Ty_int h; exact ⟨rfl, hl⟩
/-- a slice, element by element -/
theorem sl_ok {α : Type} {e : Sh} {d : DataW H} (h : Ty (.sl e) d) (g : α → AV) (f : DataW H → α) (hf : ∀ x, Ty e x → e.mk (dAV e x) = g (f x)) : dAV (.sl e) d = [.slice e.n (((dEls d).map f).map g)] ∧ ((dEls d).map f).length ≤ maxLen ∧ ∀ x ∈ dEls d, Ty e x := by
  rcases Ty_sl h with rfl | ⟨elems, spare, rfl, hl, hx⟩
  · exact ⟨rfl, Nat.zero_le _, fun x hx => by cases hx⟩
  · refine ⟨?_, by simpa [dEls] using hl, hx⟩
    simp only [dAV, dEls, List.map_map]
    congr 2
    exact List.map_congr_left fun x hm => hf x (hx x hm)
def clsOf (d : DataW H) : Cls := ⟨dStr (dPart d 0), dInt (dPart (dPart (dPart d 1) 0) 0), dInt (dPart (dPart (dPart d 1) 0) 1), dInt (dPart (dPart (dPart d 1) 0) 2), dInt (dPart (dPart (dPart d 1) 0) 3)⟩
def elOf (d : DataW H) : El := ⟨dStr (dPart d 0), dInt (dPart d 1)⟩
def locOf (d : DataW H) : Loc := ⟨dStr (dPart d 0), (dEls (dPart d 1)).map dInt, dStr (dPart d 2), dStr (dPart d 3), (dEls (dPart d 4)).map clsOf, (dEls (dPart d 5)).map elOf⟩
theorem cls_ok {d : DataW H} (h : Ty sCls d) : sCls.mk (dAV sCls d) = encCls (clsOf d) ∧ (clsOf d).name.length ≤ maxLen := by
  obtain ⟨l, rfl, h⟩ := Ty_st h
  obtain ⟨a, l, rfl, ha, h⟩ := Tys_cons h
  obtain ⟨b, l, rfl, hb, h⟩ := Tys_cons h
  obtain rfl := Tys_nil h
  obtain ⟨m0, rfl, g0⟩ := Ty_st hb
  obtain ⟨bb, m0, rfl, hbb, g0⟩ := Tys_cons g0
  obtain rfl := Tys_nil g0
  obtain ⟨m, rfl, g⟩ := Ty_st hbb
  obtain ⟨b0, m, rfl, h0, g⟩ := Tys_cons g
  obtain ⟨b1, m, rfl, h1, g⟩ := Tys_cons g
  obtain ⟨b2, m, rfl, h2, g⟩ := Tys_cons g
  obtain ⟨b3, m, rfl, h3, g⟩ := Tys_cons g
  obtain rfl := Tys_nil g
  refine ⟨?_, (str_ok ha).2⟩
  simp only [sCls, dAV, dAVs, (str_ok ha).1, (int_ok h0).1, (int_ok h1).1, (int_ok h2).1, (int_ok h3).1]
  rfl
theorem el_ok {d : DataW H} (h : Ty sEl d) : sEl.mk (dAV sEl d) = encEl (elOf d) ∧ (elOf d).text.length ≤ maxLen := by
  obtain ⟨l, rfl, h⟩ := Ty_st h
  obtain ⟨a, l, rfl, ha, h⟩ := Tys_cons h
  obtain ⟨b, l, rfl, hb, h⟩ := Tys_cons h
  obtain rfl := Tys_nil h
  refine ⟨?_, (str_ok ha).2⟩
  simp only [sEl, dAV, dAVs, (str_ok ha).1, (int_ok hb).1]
  rfl
theorem loc_ok {d : DataW H} (h : Ty sLoc d) : sLoc.mk (dAV sLoc d) = encLoc (locOf d) ∧ LocOk (locOf d) := by
  obtain ⟨l, rfl, h⟩ := Ty_st h
  obtain ⟨a, l, rfl, ha, h⟩ := Tys_cons h
  obtain ⟨b, l, rfl, hb, h⟩ := Tys_cons h
  obtain ⟨c, l, rfl, hc, h⟩ := Tys_cons h
  obtain ⟨d, l, rfl, hd, h⟩ := Tys_cons h
  obtain ⟨e, l, rfl, he, h⟩ := Tys_cons h
  obtain ⟨f, l, rfl, hf, h⟩ := Tys_cons h
  obtain rfl := Tys_nil h
  obtain ⟨b1, b2, b3⟩ := sl_ok hb intA dInt fun x hx => by rw [(int_ok hx).1]; rfl
  obtain ⟨e1, e2, e3⟩ := sl_ok he encCls clsOf fun x hx => (cls_ok hx).1
  obtain ⟨f1, f2, f3⟩ := sl_ok hf encEl elOf fun x hx => (el_ok hx).1
  refine ⟨?_, ?_⟩
  · simp only [sLoc, dAV, dAVs, (str_ok ha).1, (str_ok hc).1, (str_ok hd).1, b1, e1, f1]
    rfl
  · refine ⟨(str_ok ha).2, b2, (str_ok hc).2, (str_ok hd).2, ⟨e2, fun x hx => ?_⟩, f2, fun x hx => ?_⟩
    · obtain ⟨y, hy, rfl⟩ := List.mem_map.1 hx
      exact (cls_ok (e3 y hy)).2
    · obtain ⟨y, hy, rfl⟩ := List.mem_map.1 hx
      exact (el_ok (f3 y hy)).2
variable {enc : TypeId × Value → H} {w : World}
theorem rep_loc {v : Value} {d : DataW H} {p : List MemPlace} {b0 : Nat} (hv : Value.okWide Try.prog w .any b0 26 v)
    (h : DataW.Trod enc Try.prog w 0 (fun _ => true) true 26 v d p) : LocOk (locOf d) ∧ Rep (S0 w) w [] v (encLoc (locOf d)) := by
  obtain ⟨h1, h2⟩ := rep_arg sLoc_ok hv h
  obtain ⟨h3, h4⟩ := loc_ok h1
  rw [h3] at h2
  exact ⟨h4, h2⟩
theorem rep_str {v : Value} {d : DataW H} {p : List MemPlace} {b0 : Nat} (hv : Value.okWide Try.prog w .any b0 9 v)
    (h : DataW.Trod enc Try.prog w 0 (fun _ => true) true 9 v d p) : (dStr d).length ≤ maxLen ∧ Rep (S0 w) w [] v (strL (dStr d)) ∧ d = .lit (.string (dStr d)) := by
  obtain ⟨h1, h2⟩ := rep_arg (s := .str) (by kernel_rfl) hv h
  obtain ⟨l, rfl, hl⟩ := Ty_str h1
  exact ⟨hl, h2, rfl⟩
theorem rep_u8 {v : Value} {d : DataW H} {p : List MemPlace} {b0 : Nat} (hv : Value.okWide Try.prog w .any b0 5 v)
    (h : DataW.Trod enc Try.prog w 0 (fun _ => true) true 5 v d p) : ∃ c : UInt8, Rep (S0 w) w [] v (u8A c) := by
  obtain ⟨h1, h2⟩ := rep_arg (s := .int .u8) (by kernel_rfl) hv h
  obtain ⟨n, rfl, hl⟩ := Ty_int h1
  have := wf_u8 hl
  refine ⟨UInt8.ofNat n.toNat, ?_⟩
  have e : ((UInt8.ofNat n.toNat).toNat : Int) = n := by rw [UInt8.toNat_ofNat']; omega
  unfold u8A
  rw [e]
  exact h2
theorem rep_strsI {v : Value} {d : DataW H} {p : List MemPlace} {b0 : Nat} (hv : Value.okWide Try.prog w .any b0 27 v)
    (h : DataW.Trod enc Try.prog w 0 (fun _ => true) true 27 v d p) : ((dEls d).map dStr).length ≤ maxLen ∧ Rep (S0 w) w [] v (.slice 1 (((dEls d).map dStr).map strL)) ∧ Ty (.sl .str) d := by
  obtain ⟨h1, h2⟩ := rep_arg (s := .sl .str) (by kernel_rfl) hv h
  obtain ⟨h3, h4, h5⟩ := sl_ok h1 strL dStr fun x hx => by rw [(str_ok hx).1]; rfl
  rw [h3] at h2
  exact ⟨h4, h2, h1⟩
theorem bulk_strs {d : DataW H} (h : Ty (.sl .str) d) {n : Nat} (hn : Rows.uptoBulk d ≤ n) : ∀ x ∈ (dEls d).map dStr, x.length ≤ n := fun x hx => by
  rcases Ty_sl h with rfl | ⟨elems, spare, rfl, hl, hty⟩
  · cases hx
  · obtain ⟨y, hy, rfl⟩ := List.mem_map.1 hx
    obtain ⟨l, rfl, -⟩ := Ty_str (hty y hy)
    have h1 := bulk_mem (show DataW.lit (.string l) ∈ elems from hy)
    simp only [Rows.uptoBulk] at hn
    exact bulk_str (d := .lit (.string l)) rfl (by omega)
def sCL : Sh := .st [.int .i64, .str]
def clOf (d : DataW H) : CLn := ⟨dInt (dPart d 0), dStr (dPart d 1)⟩
theorem cl_ok {d : DataW H} (h : Ty sCL d) : sCL.mk (dAV sCL d) = encCL (clOf d) ∧ InI64 (clOf d).col := by
  obtain ⟨l, rfl, h⟩ := Ty_st h
  obtain ⟨a, l, rfl, ha, h⟩ := Tys_cons h
  obtain ⟨b, l, rfl, hb, h⟩ := Tys_cons h
  obtain rfl := Tys_nil h
  refine ⟨?_, ?_⟩
  · simp only [sCL, dAV, dAVs, (int_ok ha).1, (str_ok hb).1]
    rfl
  · have := (int_ok ha).2
    unfold InI64
    have h2 : (clOf (.agg [a, b] : DataW H)).col = dInt a := rfl
    rw [h2]
    simp [Lit.wf, IntKind.min, IntKind.max, IntKind.signed, IntKind.bits] at this
    omega
theorem rep_cls {v : Value} {d : DataW H} {p : List MemPlace} {b0 : Nat} (hv : Value.okWide Try.prog w .any b0 31 v)
    (h : DataW.Trod enc Try.prog w 0 (fun _ => true) true 31 v d p) : ((dEls d).map clOf).length ≤ maxLen ∧ Rep (S0 w) w [] v (.slice 2 (((dEls d).map clOf).map encCL)) ∧ ∀ c ∈ (dEls d).map clOf, InI64 c.col := by
  obtain ⟨h1, h2⟩ := rep_arg (s := .sl sCL) (by kernel_rfl) hv h
  obtain ⟨h3, h4, h5⟩ := sl_ok h1 encCL clOf fun x hx => (cl_ok hx).1
  rw [h3] at h2
  refine ⟨h4, h2, fun c hc => ?_⟩
  obtain ⟨y, hy, rfl⟩ := List.mem_map.1 hc
  exact (cl_ok (h5 y hy)).2
theorem rep_b3 {v : Value} {d : DataW H} {p : List MemPlace} {b0 : Nat} (hv : Value.okWide Try.prog w .any b0 40 v)
    (h : DataW.Trod enc Try.prog w 0 (fun _ => true) true 40 v d p) : ∃ x y z : Bool, Rep (S0 w) w [] v (.agg [boolA x, boolA y, boolA z]) := by
  obtain ⟨h1, h2⟩ := rep_arg (s := .st [.bool, .bool, .bool]) (by kernel_rfl) hv h
  obtain ⟨l, rfl, g⟩ := Ty_st h1
  obtain ⟨a, l, rfl, ha, g⟩ := Tys_cons g
  obtain ⟨b, l, rfl, hb, g⟩ := Tys_cons g
  obtain ⟨c, l, rfl, hc, g⟩ := Tys_cons g
  obtain rfl := Tys_nil g
  obtain ⟨x, rfl⟩ := Ty_bool ha
  obtain ⟨y, rfl⟩ := Ty_bool hb
  obtain ⟨z, rfl⟩ := Ty_bool hc
  exact ⟨x, y, z, h2⟩
end
end Go.Proofs.Ytbdmioekohmcnab
