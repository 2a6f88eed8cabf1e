/- Own texts of this claim, merged: AmW1, AmW2, AmW3, AmW4, AmC, Rep, Laid, Pl, NuP, Sh, NuX, Fl, LcsP, LcQ, DfP, TxP, TxQ, DfQ, DfE. -/
import Derived.Test.YtfbpbkcplpkndaaGreatDoorPob
import Derived.LaidMore
import Derived.Lib.LaidTab
import Derived.Stop.Joined
import Derived.Lib.AtoiAll
import Derived.Lib.ItoaNum
import Derived.Shelf.Small.Strs
import Derived.Shelf.Small.Wraps
import Derived.Shelf.LaysM
import Derived.Shelf.Strconv.Itoa3
import Derived.Shelf.LaysC
import Derived.Shelf.Strconv.AtoiAll
import Derived.Shelf.Strings.Search3
import Derived.Shelf.Strings.Cut
import Derived.Shelf.Strings.Prefix
import Derived.Shelf.Strings.Split
import Derived.Test.YtfbpbkcplpkndaaGreatDoorProg
import Derived.Lib.AtoiErrMem
import Derived.Lib.ItoaMem
import Derived.Lib.AppendIntMem
import Derived.Lib.Bytealg
import Derived.Lib.Strings
import Derived.Lib.IndexLaws
import Derived.Lib.IndexMore
section
namespace Go.Proofs.YtfbpbkcplpkndaaGreatDoor
set_option linter.unusedVariables false
set_option linter.unusedSimpArgs false
abbrev Bs := List UInt8
def ofL (l : Bs) : ByteArray := ⟨l.toArray⟩
def toL (s : ByteArray) : Bs := s.data.toList
def strL (l : Bs) : AV := .val (.string (ofL l))
def intA (n : Int) : AV := .val (.int .i64 n)
def u8A (c : UInt8) : AV := .val (.int .u8 c.toNat)
def boolA (b : Bool) : AV := .val (.bool b)
theorem ofL_toL (s : ByteArray) : ofL (toL s) = s := rfl
theorem toL_ofL (l : Bs) : toL (ofL l) = l := rfl
theorem wrap64_id {n : Int} (h1 : -9223372036854775808 ≤ n) (h2 : n ≤ 9223372036854775807) : IntKind.i64.wrap n = n := IntWalk.i64_in _ (by omega)
theorem ofL_inj {a b : Bs} (h : ofL a = ofL b) : a = b := by rw [← toL_ofL a, h]; rfl
def InI64 (n : Int) : Prop := -9223372036854775808 ≤ n ∧ n ≤ 9223372036854775807
instance (n : Int) : Decidable (InI64 n) := by unfold InI64; infer_instance
inductive Tr : Type 1
 | nil
 | b (x : Bool) (r : Tr)
 | br (p q : Tr)
 | w (r : Tr)
 | raw (r : Tr)
 | k (n : Nat) (r : Tr)
 | sl (a b : Nat) (r : Tr)
 | ix {α : Type} (f : α → AV) (a : List α) (k : Nat) (r : α → Tr)
 | y (k : Nat) (r : UInt8 → Tr)
 | yk (k : Nat) (c : UInt8) (r : Tr)
 | un (n : Nat) (r : Tr)
 | bs (l : Bs) (r : Tr)
 | g (l : List AV) (r : Tr)
 | c (v : AV) (r : Tr)
 | cm (v : AV) (m : List MObj) (r : Tr)
 | inl (r : Tr)
 | mp {α : Type} (f : α → AV) (a : List (Bs × α)) (p : α → Tr) (q : Tr)
 | ms (es : List (Value × AV)) (r : Tr)
 | inv {ι : Type} (S : ι → St) (I : ι → Prop) (μ : ι → Nat) (r : ι → Tr)
 | lp (ex : AExit) (st : St) (r : Tr)
 | cut {ι : Type} (S : ι → St) (I : ι → Prop) (a : Tr) (r : ι → Tr)
inductive Ask where
 | stop (w : AOp)
 | t (b : Bool)
 | w (n : Int)
 | q (k : IntKind) (a b : Int)
 | r (a b : Int)
 | sh (b : Int)
 | ix (l : List AV) (n : Int)
 | ra (n : Int) (len : Nat)
 | ld (l : List AV) (i : Nat)
 | fin (n : Int) (i : Nat)
 | aa (n : Int) (i : Nat)
 | y (l : Bs) (n : Int)
 | len (l : List AV)
 | sl (len : Nat) (lo hi : Option Operand) (fr : List (Nat × AV))
 | cat (a b : Bs)
 | bs (l : List AV)
 | g (l : List AV) (off len : Nat)
 | call (f : FuncId) (vs : List AV)
 | callM (f : FuncId) (vs : List AV) (m : List MObj)
 | mp (es : List (Value × AV)) (k : Bs)
 | ms (es : List (Value × AV)) (k : Value) (v : AV)
 | app (l ly : List AV) (used : Nat)
 | n (a b : Int)
 | loop (c : ACode) (keep : List Nat) (st : St)
 | join (keep : List Nat) (st : St)
inductive StuckAt (_ : Ask) (_ : Tr → Prop) : Prop
theorem StuckAt.elim {a : Ask} {K : Tr → Prop} {p : Prop} (h : StuckAt a K) : p := nomatch h
def W (α : Type) := Tr → (α → Tr → Prop) → Prop
def SoundW {α : Type} (x : W α) (o : Option α) : Prop := ∀ T Q, x T Q → ∃ a T', o = some a ∧ Q a T'
def retW {α : Type} (a : α) : W α := fun T Q => Q a T
def bindW {α β : Type} (x : W α) (f : α → W β) : W β := fun T Q => x T fun a T' => f a T' Q
def askW {α : Type} (a : Ask) (q : Tr → (α → Tr → Prop) → Prop) : W α := fun T Q => match T with
 | .nil => StuckAt a fun T' => q T' Q
 | T => q T Q
def stopW {α : Type} (w : AOp) : W α := fun _ _ => StuckAt (.stop w) fun _ => False
def liftW {α : Type} (w : AOp) (o : Option α) : W α := fun T Q => match o with
 | some a => Q a T
 | none => StuckAt (.stop w) fun _ => False
def ifW {α : Type} (w : AOp) (c : Prop) [Decidable c] (x : W α) : W α := if c then x else stopW w
section
variable {α β : Type}
theorem SoundW.ret (a : α) : SoundW (retW a) (some a) := fun T _ h => ⟨a, T, rfl, h⟩
theorem SoundW.ret' {a : α} {o : Option α} (h : o = some a) : SoundW (retW a) o := h ▸ .ret a
theorem SoundW.bind {x : W α} {f : α → W β} {o : Option α} {g : α → Option β} (h : SoundW x o) (hf : ∀ a, o = some a → SoundW (f a) (g a)) : SoundW (bindW x f) (o.bind g) := fun T Q hq => by
 obtain ⟨a, T', h1, h2⟩ := h _ _ hq
 rw [h1]
 exact hf a h1 _ _ h2
theorem SoundW.bind' {x : W α} {f : α → W β} {o : Option α} {r : Option β} (h : SoundW x o) (hf : ∀ a, o = some a → SoundW (f a) r) : SoundW (bindW x f) r := fun T Q hq => by
 obtain ⟨a, T', h1, h2⟩ := h _ _ hq
 exact hf a h1 _ _ h2
theorem SoundW.ask {a : Ask} {q : Tr → (α → Tr → Prop) → Prop} {o : Option α} (h : ∀ T Q, q T Q → ∃ a T', o = some a ∧ Q a T') : SoundW (askW a q) o := fun T Q hq => by
 unfold askW at hq
 split at hq
 ·exact hq.elim
 ·exact h _ _ hq
theorem SoundW.stop (w : AOp) (o : Option α) : SoundW (stopW w : W α) o := fun _ _ h => h.elim
theorem SoundW.lift (w : AOp) (o : Option α) : SoundW (liftW w o) o := fun T Q h => by
 unfold liftW at h
 split at h
 ·exact ⟨_, T, rfl, h⟩
 ·exact h.elim
theorem SoundW.ite {w : AOp} {c : Prop} [Decidable c] {x : W α} {o : Option α} (h : c → SoundW x o) : SoundW (ifW w c x) o := by
 unfold ifW
 split
 ·rename_i hc; exact h hc
 ·exact .stop _ _
end
def boolW (t : Bool) : W Bool := askW (.t t) fun T Q => match T with
 | .b x r => t = x ∧ Q x r
 | .br p q => (t = true → Q true p) ∧ (t = false → Q false q)
 | _ => False
theorem boolW_ok (t : Bool) : SoundW (boolW t) (some t) := .ask fun T Q h => by
 split at h
 ·exact ⟨t, _, rfl, h.1 ▸ h.2⟩
 ·cases t
  ·exact ⟨_, _, rfl, h.2 rfl⟩
  ·exact ⟨_, _, rfl, h.1 rfl⟩
 ·exact h.elim
theorem wrap_ex : ∃ f : IntKind → Int → Int, f = IntKind.wrap := ⟨_, rfl⟩
noncomputable def wrapX : IntKind → Int → Int := Classical.choose wrap_ex
theorem wrapX_eq : wrapX = IntKind.wrap := Classical.choose_spec wrap_ex
def wrapW (n : Int) : W AV := askW (.w n) fun T Q => match T with
 | .w r => InI64 n ∧ Q (intA n) r
 | .raw r => Q (intA (wrapX .i64 n)) r
 | _ => False
theorem wrapW_ok (n : Int) : SoundW (wrapW n) (some (intA (IntKind.i64.wrap n))) := .ask fun T Q h => by
 split at h
 ·rename_i r
  refine ⟨_, r, rfl, ?_⟩
  rw [wrap64_id h.1.1 h.1.2]; exact h.2
 ·rw [wrapX_eq] at h; exact ⟨_, _, rfl, h⟩
 ·exact h.elim
def bitW (op : BinOp) (k : IntKind) (x y : Int) : Int := k.wrap (match op with
 | .and => (BitVec.ofInt k.bits x &&& BitVec.ofInt k.bits y).toNat
 | .or => (BitVec.ofInt k.bits x ||| BitVec.ofInt k.bits y).toNat
 | .xor => (BitVec.ofInt k.bits x ^^^ BitVec.ofInt k.bits y).toNat
 | _ => (BitVec.ofInt k.bits x &&& ~~~BitVec.ofInt k.bits y).toNat)
theorem bit_ex : ∃ f : BinOp → IntKind → Int → Int → Int, f = bitW := ⟨_, rfl⟩
noncomputable def bitX : BinOp → IntKind → Int → Int → Int := Classical.choose bit_ex
theorem bitX_eq : bitX = bitW := Classical.choose_spec bit_ex
def shlW (k : IntKind) (x y : Int) : Int := k.wrap (x * 2 ^ min y.toNat k.bits)
def shrW (k : IntKind) (x y : Int) : Int := x.fdiv (2 ^ min y.toNat k.bits)
def toU8 (n : Int) : UInt8 := UInt8.ofNat (n % 256).toNat
theorem u8_wrap (n : Int) : IntKind.u8.wrap n = ((toU8 n).toNat : Int) := by
 have h1 : 0 ≤ n % 256 := Int.emod_nonneg _ (by decide)
 have h2 : n % 256 < 256 := Int.emod_lt_of_pos _ (by decide)
 have h3 : (toU8 n).toNat = (n % 256).toNat := by
  unfold toU8
  rw [UInt8.toNat_ofNat']
  omega
 rw [h3]
 simp only [IntKind.wrap, IntKind.bits, IntKind.signed]
 simp
 omega
def arW (k : IntKind) (n : Int) : W AV := match k with
 | .i64 => wrapW n
 | .u8 => retW (u8A (toU8 n))
 | k => retW (.val (.int k (k.wrap n)))
theorem arW_ok (k : IntKind) (n : Int) : SoundW (arW k n) (some (.val (.int k (k.wrap n)))) := by
 cases k <;> first | exact wrapW_ok n | exact .ret' (by rw [u8_wrap]; rfl) | exact .ret _
def topI : IntKind → Int
 | .i64 => 9223372036854775807
 | .u8 => 255
 | .u64 => 18446744073709551615
 | _ => 0
theorem wrap_top {k : IntKind} {n : Int} (h1 : 0 ≤ n) (h2 : n ≤ topI k) : k.wrap n = n := by
 cases k <;> simp only [topI] at h2 <;> simp [IntKind.wrap, IntKind.bits, IntKind.signed] <;> omega
theorem quo_pos {a b : Int} (h1 : 0 ≤ a) (h2 : 0 < b) : a.tdiv b = a / b := Int.tdiv_eq_ediv_of_nonneg h1
theorem quo_wrap {k : IntKind} {a b : Int} (h1 : 0 ≤ a) (h2 : 0 < b) (h3 : a ≤ topI k) : k.wrap (a.tdiv b) = a / b := by
 rw [quo_pos h1 h2]
 refine wrap_top (Int.ediv_nonneg h1 (Int.le_of_lt h2)) (Int.le_trans (Int.ediv_le_self b h1) h3)
theorem rem_pos {a b : Int} (h1 : 0 ≤ a) : a.tmod b = a % b := Int.tmod_eq_emod_of_nonneg h1
def intW (w : AOp) (op : BinOp) (k : IntKind) (a b : Int) : W AV := match op with
 | .add => arW k (a + b)
 | .sub => arW k (a - b)
 | .mul => arW k (a * b)
 | .quo => askW (.q k a b) fun T Q => match T with
  | .w r => b ≠ 0 ∧ InI64 (a.tdiv b) ∧ k = .i64 ∧ Q (intA (a.tdiv b)) r
  | .raw r => b ≠ 0 ∧ Q (.val (.int k (wrapX k (a.tdiv b)))) r
  | .k _ r => 0 ≤ a ∧ 0 < b ∧ a ≤ topI k ∧ Q (.val (.int k (a / b))) r
  | _ => False
 | .rem => askW (.r a b) fun T Q => match T with
  | .w r => b ≠ 0 ∧ Q (.val (.int k (a.tmod b))) r
  | .k _ r => 0 ≤ a ∧ 0 < b ∧ Q (.val (.int k (a % b))) r
  | _ => False
 | .eql => retW (boolA (decide (a = b)))
 | .neq => retW (boolA (!decide (a = b)))
 | .lss => retW (boolA (decide (a < b)))
 | .leq => retW (boolA (decide (a ≤ b)))
 | .gtr => retW (boolA (decide (b < a)))
 | .geq => retW (boolA (decide (b ≤ a)))
 | .and => retW (.val (.int k (bitX .and k a b)))
 | .or => retW (.val (.int k (bitX .or k a b)))
 | .xor => retW (.val (.int k (bitX .xor k a b)))
 | .andNot => retW (.val (.int k (bitX .andNot k a b)))
 | _ => stopW w
theorem intW_ok (w : AOp) (op : BinOp) (k : IntKind) (a b : Int) : SoundW (intW w op k a b) ((binV op (.int k a) (.int k b)).map .val) := by
 cases op <;> unfold intW <;> simp only
 case add => exact arW_ok _ _ |> fun h => by simpa [binV] using h
 case sub => exact arW_ok _ _ |> fun h => by simpa [binV] using h
 case mul => exact arW_ok _ _ |> fun h => by simpa [binV] using h
 case quo =>
  refine .ask fun T Q h => ?_
  split at h
  ·obtain ⟨h1, h2, rfl, h3⟩ := h
   refine ⟨_, _, ?_, h3⟩
   simp [binV, h1, intA, wrap64_id h2.1 h2.2]
  ·rw [wrapX_eq] at h; exact ⟨_, _, by simp [binV, h.1], h.2⟩
  ·obtain ⟨h1, h2, h3, h4⟩ := h
   have hb : b ≠ 0 := by omega
   exact ⟨_, _, by simp [binV, hb, quo_wrap h1 h2 h3], h4⟩
  ·exact h.elim
 case rem =>
  refine .ask fun T Q h => ?_
  split at h
  ·exact ⟨_, _, by simp [binV, h.1], h.2⟩
  ·obtain ⟨h1, h2, h4⟩ := h
   have hb : b ≠ 0 := by omega
   exact ⟨_, _, by simp [binV, hb, rem_pos h1], h4⟩
  ·exact h.elim
 case eql => exact .ret' (by simp only [binV, if_true, Option.map_some]; rfl)
 case neq => exact .ret' (by simp only [binV, if_true, Option.map_some]; rfl)
 case lss => exact .ret' (by simp [binV, boolA])
 case leq => exact .ret' (by simp [binV, boolA])
 case gtr => exact .ret' (by simp [binV, boolA])
 case geq => exact .ret' (by simp [binV, boolA])
 case and => exact .ret' (by rw [bitX_eq]; simp only [binV, if_true]; rfl)
 case or => exact .ret' (by rw [bitX_eq]; simp only [binV, if_true]; rfl)
 case xor => exact .ret' (by rw [bitX_eq]; simp only [binV, if_true]; rfl)
 case andNot => exact .ret' (by rw [bitX_eq]; simp only [binV, if_true]; rfl)
 all_goals exact .stop _ _
def strW (w : AOp) (op : BinOp) (a b : Bs) : W AV := match op with
 | .add => askW (.cat a b) fun T Q => match T with
  | .w r => a.length + b.length ≤ 9223372036854775807 ∧ Q (strL (a ++ b)) r
  | _ => False
 | .eql => retW (boolA (decide (a = b)))
 | .neq => retW (boolA (!decide (a = b)))
 | .lss => retW (boolA (Op.bytesLess a b))
 | .leq => retW (boolA (Op.bytesLess a b || decide (a = b)))
 | .gtr => retW (boolA (!(Op.bytesLess a b || decide (a = b))))
 | .geq => retW (boolA (!Op.bytesLess a b))
 | _ => stopW w
theorem toList_data (a : ByteArray) : a.toList = toL a := ByteArray.toList_eq a
theorem app_toL (a b : ByteArray) : a ++ b = ofL (toL a ++ toL b) := by
 apply ByteArray.ext
 simp [ofL, toL]
theorem strW_ok (w : AOp) (op : BinOp) (a b : ByteArray) : SoundW (strW w op (toL a) (toL b)) ((binV op (.string a) (.string b)).map .val) := by
 have e : (a.toList == b.toList) = decide (toL a = toL b) := bytes_beq a b
 cases op <;> unfold strW <;> simp only
 case add =>
  refine .ask fun T Q h => ?_
  split at h
  ·refine ⟨_, _, ?_, h.2⟩
   have h1 : a.size + b.size ≤ 9223372036854775807 := h.1
   simp only [binV, if_pos h1, Option.map_some, strL, app_toL]
  ·exact h.elim
 case eql => exact .ret' (by simp only [binV, Option.map_some, boolA, e])
 case neq => exact .ret' (by simp only [binV, Option.map_some, boolA, e])
 case lss => exact .ret' (by simp only [binV, Option.map_some, boolA, toList_data])
 case leq => exact .ret' (by simp only [binV, Option.map_some, boolA, e]; simp only [toList_data])
 case gtr => exact .ret' (by simp only [binV, Option.map_some, boolA, e]; simp only [toList_data])
 case geq => exact .ret' (by simp only [binV, Option.map_some, boolA, toList_data])
 all_goals exact .stop _ _
def binW (w : AOp) (op : BinOp) (x y : AV) : W AV := match op, x, y with
 | .shl, .val (.int k a), .val (.int _ b) => askW (.sh b) fun T Q => match T with
  | .w r => 0 ≤ b ∧ Q (.val (.int k (shlW k a b))) r
  | _ => False
 | .shr, .val (.int k a), .val (.int _ b) => askW (.sh b) fun T Q => match T with
  | .w r => 0 ≤ b ∧ Q (.val (.int k (shrW k a b))) r
  | _ => False
 | op, .val (.int k a), .val (.int k' b) => ifW w (k = k') (intW w op k a b)
 | op, .val (.string a), .val (.string b) => strW w op (toL a) (toL b)
 | _, _, _ => stopW w
theorem binW_ok (w : AOp) (op : BinOp) (x y : AV) : SoundW (binW w op x y) (match x.toVal, y.toVal with | some a, some b => (binV op a b).map .val | _, _ => none) := by
 unfold binW
 split
 ·refine .ask fun T Q h => ?_
  split at h
  ·refine ⟨_, _, ?_, h.2⟩
   have : ¬ (_ : Int) < 0 := Int.not_lt.2 h.1
   simp only [AV.toVal, binV, Op.shift, if_neg this, Sem.now, Option.map_some]
   rfl
  ·exact h.elim
 ·refine .ask fun T Q h => ?_
  split at h
  ·refine ⟨_, _, ?_, h.2⟩
   have : ¬ (_ : Int) < 0 := Int.not_lt.2 h.1
   simp only [AV.toVal, binV, Op.shift, if_neg this, Sem.now, Option.map_some]
   rfl
  ·exact h.elim
 ·refine .ite fun hk => ?_
  subst hk
  exact intW_ok _ _ _ _ _
 ·exact strW_ok _ _ _ _
 ·exact .stop _ _
def rowW {α : Type} (m : List MObj) (w : AOp) (id : Nat) (f : Nat → Nat → List AV → Bool → Nat → W α) : W α := match m[id]? with
 | some (.row v s l wr ap) => f v s l wr ap
 | _ => stopW w
theorem rowW_ok {α : Type} {m : List MObj} {w : AOp} {id : Nat} {f : Nat → Nat → List AV → Bool → Nat → W α} {o : Option α} (h : ∀ v s l wr ap, m[id]? = some (.row v s l wr ap) → SoundW (f v s l wr ap) o) : SoundW (rowW m w id f) o := by
 unfold rowW
 split
 ·rename_i v s l wr ap hm; exact h _ _ _ _ _ hm
 ·exact .stop _ _
def asI : AV → Option Int
 | .val (.int _ n) => some n
 | _ => none
theorem asI_toN {v : AV} {n : Int} {k : Nat} (h : asI v = some n) (hk : n = (k : Int)) : v.toN = some k := by
 unfold asI at h
 split at h
 ·injection h with h; subst h hk; simp [AV.toN, AV.toI]
 ·cases h
def finW (n : Int) (sz : Nat) (ag : Bool) (w : AOp) : Nat → List AV → Nat → W AV
 | 0, _, _ => stopW w
 | cnt + 1, l, i => askW (.fin n i) fun T Q => match T with
  | .b true r => n = (i : Int) ∧ liftW w (mkV sz ag l) r Q
  | .b false r => n ≠ (i : Int) ∧ finW n sz ag w cnt (l.drop sz) (i + 1) r Q
  | .br p q => (n = (i : Int) → liftW w (mkV sz ag l) p Q) ∧ (n ≠ (i : Int) → finW n sz ag w cnt (l.drop sz) (i + 1) q Q)
  | _ => False
theorem finW_ok (n : Int) (sz : Nat) (ag : Bool) (w : AOp) (L : List AV) (o : Option AV) (cnt0 : Nat) (ho : ∀ k : Nat, n = (k : Int) → k < cnt0 → o = mkV sz ag (L.drop (k * sz))) : ∀ (cnt : Nat) (l : List AV) (i : Nat), i + cnt = cnt0 → l = L.drop (i * sz) → SoundW (finW n sz ag w cnt l i) o
 | 0, l, i, _, _ => .stop _ _
 | cnt + 1, l, i, hc, hl => .ask fun T Q h => by
  have hit : n = (i : Int) → ∀ r, liftW w (mkV sz ag l) r Q → ∃ a T', o = some a ∧ Q a T' := fun e r hr => by
   obtain ⟨a, T', h1, h2⟩ := SoundW.lift w _ _ _ hr
   exact ⟨a, T', by rw [ho i e (by omega), ← hl, h1], h2⟩
  have miss : ∀ r, finW n sz ag w cnt (l.drop sz) (i + 1) r Q → ∃ a T', o = some a ∧ Q a T' := fun r hr => finW_ok n sz ag w L o cnt0 ho cnt _ (i + 1) (by omega) (by rw [hl, List.drop_drop, Nat.add_mul, Nat.one_mul]) _ _ hr
  split at h
  ·exact hit h.1 _ h.2
  ·exact miss _ h.2
  ·by_cases e : n = (i : Int)
   ·exact hit e _ (h.1 e)
   ·exact miss _ (h.2 e)
  ·exact h.elim
def aaW (n : Int) (w : AOp) (all : Nat) : Nat → Nat → W Nat
 | 0, _ => stopW w
 | cnt + 1, i => askW (.aa n i) fun T Q => match T with
  | .k k r => n = (k : Int) ∧ k < all ∧ Q k r
  | .b true r => n = (i : Int) ∧ Q i r
  | .b false r => n ≠ (i : Int) ∧ aaW n w all cnt (i + 1) r Q
  | .br p q => (n = (i : Int) → Q i p) ∧ (n ≠ (i : Int) → aaW n w all cnt (i + 1) q Q)
  | _ => False
theorem aaW_ok (n : Int) (w : AOp) (all : Nat) : ∀ (cnt i : Nat), i + cnt = all → SoundW (aaW n w all cnt i) (if 0 ≤ n ∧ n.toNat < all then some n.toNat else none)
 | 0, i, _ => .stop _ _
 | cnt + 1, i, hc => .ask fun T Q h => by
  have hit : ∀ (k : Nat), n = (k : Int) → k < all → ∀ r, Q k r → ∃ a T', (if 0 ≤ n ∧ n.toNat < all then some n.toNat else none) = some a ∧ Q a T' := fun k e hk r hr => ⟨k, r, by subst e; simp [hk], hr⟩
  split at h
  ·exact hit _ h.1 h.2.1 _ h.2.2
  ·exact hit _ h.1 (by omega) _ h.2
  ·exact aaW_ok n w all cnt (i + 1) (by omega) _ _ h.2
  ·by_cases e : n = (i : Int)
   ·exact hit _ e (by omega) _ (h.1 e)
   ·exact aaW_ok n w all cnt (i + 1) (by omega) _ _ (h.2 e)
  ·exact h.elim
def lowI (fr : List (Nat × AV)) : Option Operand → Option Int
 | none => some 0
 | some x => asI (evA fr x)
def highI (fr : List (Nat × AV)) (n : Nat) : Option Operand → Option Int
 | none => some (n : Int)
 | some x => asI (evA fr x)
theorem low_of {fr : List (Nat × AV)} {lo : Option Operand} {i : Int} {a : Nat} (h : lowI fr lo = some i) (ha : i = (a : Int)) : lowOf fr lo = some a := by
 cases lo with
 | none => simp only [lowI, Option.some.injEq] at h; simp only [lowOf]; congr 1; omega
 | some x => exact asI_toN h ha
theorem high_of {fr : List (Nat × AV)} {hi : Option Operand} {i : Int} {a n : Nat} (h : highI fr n hi = some i) (ha : i = (a : Int)) : highOf fr n hi = some a := by
 cases hi with
 | none => simp only [highI, Option.some.injEq] at h; simp only [highOf]; congr 1; omega
 | some x => exact asI_toN h ha
def bndW (w : AOp) (fr : List (Nat × AV)) (lo hi : Option Operand) (len : Nat) : W (Nat × Nat) := match lowI fr lo, highI fr len hi with
 | some i, some j => askW (.sl len lo hi fr) fun T Q => match T with
  | .sl a b r => i = (a : Int) ∧ j = (b : Int) ∧ a ≤ b ∧ b ≤ len ∧ Q (a, b) r
  | _ => False
 | _, _ => stopW w
theorem bndW_ok {α : Type} {w : AOp} {fr : List (Nat × AV)} {lo hi : Option Operand} {len : Nat} {f : Nat × Nat → W α} {o : Option α} (h : ∀ a b, lowOf fr lo = some a → highOf fr len hi = some b → a ≤ b → b ≤ len → SoundW (f (a, b)) o) : SoundW (bindW (bndW w fr lo hi len) f) o := fun T Q hq => by
 unfold bindW bndW at hq
 rcases h1 : lowI fr lo with _ | i
 ·rw [h1] at hq; exact hq.elim
 rcases h2 : highI fr len hi with _ | j
 ·rw [h1, h2] at hq; exact hq.elim
 rw [h1, h2] at hq
 cases T <;> simp only [askW] at hq
 case nil => exact hq.elim
 case sl a b r =>
  obtain ⟨e1, e2, e3, e4, e5⟩ := hq
  exact h a b (low_of h1 e1) (high_of h2 e2) e3 e4 _ _ e5
def aeqB (x y : List AV) : List (Nat × Nat) → Option Bool
 | [] => some true
 | [(o, k)] => match x[o]?, y[o]? with
  | some (.val a), some (.val b) => vEqT k a b
  | _, _ => none
 | (o, k) :: r => match x[o]?, y[o]? with
  | some (.val a), some (.val b) => (match vEqT k a b, aeqB x y r with
   | some t, some u => some (t && u)
   | _, _ => none)
  | _, _ => none
theorem aeqB_ok (x y : List AV) : ∀ (l : List (Nat × Nat)) (b : Bool), aeqB x y l = some b → aeqL x y l = some b
 | [], b, h => h
 | [(o, k)], b, h => by
  simp only [aeqB] at h
  simp only [aeqL]
  split at h
  ·rename_i u v h1 h2
   simp only [h1, h2, h]
   cases b <;> rfl
  ·cases h
 | (o, k) :: p :: r, b, h => by
  simp only [aeqB] at h
  simp only [aeqL]
  split at h
  ·rename_i u v h1 h2
   simp only [h1, h2]
   split at h
   ·rename_i t t' h3 h4
    injection h with h
    have := aeqB_ok x y (p :: r) t' h4
    simp only [aeqL] at this
    simp only [h3]
    subst h
    cases t
    ·rfl
    ·simpa using this
   ·cases h
  ·cases h
def assoc {α : Type} : List (Bs × α) → Bs → Option α
 | [], _ => none
 | (k, v) :: r, s => if s = k then some v else assoc r s
theorem find_assoc {α : Type} (f : α → AV) (s : Bs) : ∀ (a : List (Bs × α)) (i : Nat), ∃ r, findE (.string (ofL s)) (a.map fun p => (.string (ofL p.1), f p.2)) i = some r ∧ r.map (·.2) = (assoc a s).map f
 | [], i => ⟨none, rfl, rfl⟩
 | (k, v) :: a, i => by
  have hv : vEq (.string (ofL s)) (.string (ofL k)) = some (decide (s = k)) := rfl
  by_cases h : s = k
  ·exact ⟨some (i, f v), by simp only [List.map_cons, findE, hv, decide_eq_true h], by simp [assoc, h]⟩
  ·obtain ⟨r, h1, h2⟩ := find_assoc f s a (i + 1)
   exact ⟨r, by simp only [List.map_cons, findE, hv, decide_eq_false h]; exact h1, by simp only [assoc, if_neg h]; exact h2⟩
def pure2W (m : List MObj) (fr : List (Nat × AV)) (o : AOp2) : W AV := match o with
 | .mlook z ok x k => (match evA fr k, mapOf m (evA fr x) with
  | .val (.string s), some es => askW (.mp es (toL s)) fun T Q => match T with
   | .mp f a p q => es = a.map (fun x => (.string (ofL x.1), f x.2)) ∧ (∀ x, assoc a (toL s) = some x → Q (if ok then .tuple [f x, .val (.bool true)] else f x) (p x)) ∧ (assoc a (toL s) = none → Q (if ok then .tuple [z, .val (.bool false)] else z) q)
   | _ => False
  | _, _ => stopW (.x o))
 | .aeq ne n offs x y => (match evA fr x, evA fr y with
  | .agg l, .agg l' => ifW (.x o) (n ≤ l.length ∧ n ≤ l'.length) (bindW (liftW (.x o) (aeqB l l' offs)) fun t => retW (.val (.bool (if ne then !t else t))))
  | _, _ => stopW (.x o))
 | .nilchk x => (match evA fr x with
  | .elt id ver used i fo => rowW m (.x o) id fun v' _ l _ _ => ifW (.x o) (v' = ver) (askW (.len l) fun T Q => match T with
   | .w r => l.length = used ∧ Q (.elt id ver used i fo) r
   | _ => False)
  | _ => liftW (.x o) (pure2 m fr o))
 | .slc3 x h mx => (match evA fr x with
  | .slice s l => bindW (bndW (.x o) fr (some h) (some mx) l.length) fun p => retW (.slice s (l.take p.1))
  | _ => stopW (.x o))
 | o => liftW (.x o) (pure2 m fr o)
theorem pure2W_ok (m : List MObj) (fr : List (Nat × AV)) (o : AOp2) : SoundW (pure2W m fr o) (pure2 m fr o) := by
 unfold pure2W
 split
 ·rename_i z ok x k
  split
  ·rename_i s es hk hm
   refine .ask fun T Q h => ?_
   split at h
   ·rename_i f a p q
    obtain ⟨e, h1, h2⟩ := h
    obtain ⟨r, g1, g2⟩ := find_assoc f (toL s) a 0
    simp only [pure2, mlookA, hk, hm, e]
    rw [show (Value.string s) = .string (ofL (toL s)) from rfl, g1]
    cases ha : assoc a (toL s) with
    | none =>
     rw [ha] at g2
     cases r with
     | some r => simp at g2
     | none => exact ⟨_, _, rfl, h2 ha⟩
    | some v =>
     rw [ha] at g2
     cases r with
     | none => simp at g2
     | some r =>
      obtain ⟨j, y⟩ := r
      simp only [Option.map_some, Option.some.injEq] at g2
      subst g2
      exact ⟨_, _, rfl, h1 v ha⟩
   ·exact h.elim
  ·exact .stop _ _
 ·rename_i ne n offs x y
  split
  ·rename_i l l' h1 h2
   refine .ite fun hc => ?_
   simp only [pure2, h1, h2, if_pos hc]
   refine .bind' (.lift _ _) fun t ht => .ret' ?_
   rw [aeqB_ok _ _ _ _ ht]; rfl
  ·exact .stop _ _
 ·rename_i x
  split
  ·rename_i id ver used i fo hx
   refine rowW_ok fun v' s l wr ap hm => .ite fun hv => .ask fun T Q h => ?_
   split at h
   ·refine ⟨_, _, ?_, h.2⟩
    have : rowOk m id ver used = true := by simp [rowOk, hm, hv, h.1]
    simp only [pure2, hx, if_pos this]
   ·exact h.elim
  ·exact .lift _ _
 ·rename_i x h mx
  split
  ·rename_i s l hx
   refine bndW_ok fun a b h1 h2 h3 h4 => .ret' ?_
   simp only [pure2, hx, h1, h2]
   rw [if_pos ⟨h3, h4⟩]
  ·exact .stop _ _
 ·exact .lift _ _
def faddrW (m : List MObj) (w : AOp) (off : Nat) (v : AV) : W AV := match v with
  | .elt id ver used i fo => rowW m w id fun v' _ l _ _ => ifW w (v' = ver) (askW (.len l) fun T Q => match T with
      | .w r => l.length = used ∧ Q (.elt id ver used i (fo + off)) r
      | _ => False)
  | v => liftW w (faddrA m off v)
theorem faddrW_ok (m : List MObj) (w : AOp) (off : Nat) (v : AV) : SoundW (faddrW m w off v) (faddrA m off v) := by
 unfold faddrW
 split
 ·rename_i id ver used i fo
  refine rowW_ok fun v' s l wr ap hm => .ite fun hv => .ask fun T Q h => ?_
  split at h
  ·refine ⟨_, _, ?_, h.2⟩
   have : rowOk m id ver used = true := by simp [rowOk, hm, hv, h.1]
   simp only [faddrA, if_pos this]
  ·exact h.elim
 ·exact .lift _ _
def pureW (m : List MObj) (fr : List (Nat × AV)) (o : AOp) : W AV := match o with
  | .x o => pure2W m fr o
  | .bin op x y => binW o op (evA fr x) (evA fr y)
  | .cint k x => (match evA fr x with
    | .val (.int _ n) => arW k n
    | _ => stopW o)
  | .un .neg x => (match evA fr x with
    | .val (.int .i64 n) => wrapW (0 - n)
    | _ => liftW o (pureOp m fr o))
  | .pick c a b => (match evA fr c with
    | .val (.bool t) => bindW (boolW t) fun t => retW (if t then evA fr a else evA fr b)
    | _ => stopW o)
  | .load n ag a => (match evA fr a with
    | .elt id ver used i fo => rowW m o id fun v _ l _ _ => ifW o (v = ver) (askW (.ld l i) fun T Q => match T with
        | .ix f a k r => l = a.map f ∧ l.length = used ∧ i = k ∧ k < a.length ∧ ∀ x, a[k]? = some x → liftW o (mkV n ag ((f x).cells.drop fo)) (r x) Q
        | _ => False)
    | _ => liftW o (pureOp m fr o))
  | .iaddr sz x i => (match asI (evA fr i), evA fr x with
    | some n, .slice s l => ifW o (s = sz) (askW (.ix l n) fun T Q => match T with
        | .ix f a k r => l = a.map f ∧ n = (k : Int) ∧ k < a.length ∧ ∀ x, a[k]? = some x → Q (.rptr (f x).cells) (r x)
        | _ => False)
    | some n, .row id ver used off len => rowW m o id fun v s l _ _ => ifW o (s = sz ∧ v = ver) (askW (.ra n len) fun T Q => match T with
        | .k k r => l.length = used ∧ n = (k : Int) ∧ k < len ∧ Q (.elt id ver used (off + k) 0) r
        | _ => False)
    | _, _ => stopW o)
  | .aaddr cnt sz x i => (match asI (evA fr i) with
    | some n => bindW (aaW n o cnt cnt 0) fun k => faddrW m o (k * sz) (evA fr x)
    | _ => stopW o)
  | .faddr off x => faddrW m o off (evA fr x)
  | .sidx x i => (match asI (evA fr i), evA fr x with
    | some n, .val (.string s) => askW (.y (toL s) n) fun T Q => match T with
        | .y k r => n = (k : Int) ∧ k < (toL s).length ∧ ∀ c, (toL s)[k]? = some c → Q (u8A c) (r c)
        | .yk k c r => n = (k : Int) ∧ (toL s)[k]? = some c ∧ Q (u8A c) r
        | _ => False
    | _, _ => stopW o)
  | .aidx cnt sz ag x i => (match asI (evA fr i), evA fr x with
    | some n, .agg l => finW n sz ag o cnt l 0
    | _, _ => stopW o)
  | .len x => (match evA fr x with
    | .slice _ l => askW (.len l) fun T Q => match T with
        | .k k r => l.length = k ∧ Q (intA k) r
        | _ => False
    | .row id ver used off len => rowW m o id fun v _ l _ _ => ifW o (v = ver) (askW (.len l) fun T Q => match T with
        | .k k r => l.length = used ∧ ((l.drop off).take len).length = k ∧ Q (intA k) r
        | _ => False)
    | _ => liftW o (pureOp m fr o))
  | .slen x => (match evA fr x with
    | .val (.string s) => retW (intA (toL s).length)
    | _ => stopW o)
  | .slc sz x lo hi => (match evA fr x with
    | .slice s l => ifW o (s = sz) (bindW (bndW o fr lo hi l.length) fun p => retW (.slice s ((l.take p.2).drop p.1)))
    | .row id ver used off len => rowW m o id fun v s l _ _ => ifW o (s = sz ∧ v = ver) (bindW (askW (.len l) fun T Q => match T with
        | .w r => l.length = used ∧ Q () r
        | _ => False) fun _ => bindW (bndW o fr lo hi len) fun p => retW (.row id ver used (off + p.1) (p.2 - p.1)))
    | .val (.slice none 0 0) => bindW (bndW o fr lo hi 0) fun p => retW (.val (.slice none 0 0))
    | _ => stopW o)
  | .sslc x lo hi => (match evA fr x with
    | .val (.string s) => bindW (bndW o fr lo hi (toL s).length) fun p => retW (strL (((toL s).take p.2).drop p.1))
    | _ => stopW o)
  | .b2s x => (match evA fr x with
    | .row id ver used off len => rowW m o id fun v _ l _ _ => ifW o (v = ver) (askW (.bs ((l.drop off).take len)) fun T Q => match T with
      | .bs s r => l.length = used ∧ bytesL ((l.drop off).take len) = some s ∧ Q (strL s) r
      | _ => False)
    | v => bindW (liftW o (elems m v)) fun l => askW (.bs l) fun T Q => match T with
      | .bs s r => bytesL l = some s ∧ Q (strL s) r
      | _ => False)
  | o => liftW o (pureOp m fr o)
theorem elems_row {m : List MObj} {id ver used off len v s : Nat} {l : List AV} {wr : Bool} {ap : Nat} (hm : m[id]? = some (.row v s l wr ap)) (hv : v = ver) (hu : l.length = used) : elems m (.row id ver used off len) = some ((l.drop off).take len) := by
 simp only [elems, hm, if_pos (And.intro hv hu)]
theorem pureW_ok (m : List MObj) (fr : List (Nat × AV)) (o : AOp) : SoundW (pureW m fr o) (pureOp m fr o) := by
 unfold pureW
 split
 ·exact pure2W_ok _ _ _
 ·exact binW_ok _ _ _ _
 ·rename_i k x
  split
  ·rename_i k' n hx
   simp only [pureOp, hx]
   exact arW_ok _ _
  ·exact .stop _ _
 ·rename_i x
  split
  ·rename_i n hx
   have : pureOp m fr (.un .neg x) = some (intA (IntKind.i64.wrap (0 - n))) := by simp only [pureOp, hx]; rfl
   rw [this]
   exact wrapW_ok _
  ·exact .lift _ _
 ·rename_i c a b
  split
  ·rename_i t hc
   simp only [pureOp, hc]
   refine .bind' (boolW_ok t) fun t' ht => ?_
   cases ht
   exact .ret _
  ·exact .stop _ _
 ·rename_i n ag a
  split
  ·rename_i id ver used i fo ha
   refine rowW_ok fun v s l wr ap hm => .ite fun hv => .ask fun T Q h => ?_
   split at h
   ·rename_i f b k r
    obtain ⟨e, hu, rfl, hk, h1⟩ := h
    obtain ⟨av, T', g1, g2⟩ := SoundW.lift _ _ _ _ (h1 _ (List.getElem?_eq_getElem hk))
    refine ⟨av, T', ?_, g2⟩
    have hl : l[i]? = some (f (b[i]'hk)) := by rw [e, List.getElem?_map, List.getElem?_eq_getElem hk]; rfl
    simp only [pureOp, ha, cellsAt, hm, if_pos (And.intro hv hu), hl, Option.map_some, Option.bind_some, g1]
   ·exact h.elim
  ·exact .lift _ _
 ·rename_i sz x i
  split
  ·rename_i n s l hi hx
   refine .ite fun hs => .ask fun T Q h => ?_
   split at h
   ·rename_i f a k r
    obtain ⟨e, hk, hlt, h1⟩ := h
    refine ⟨_, _, ?_, h1 _ (List.getElem?_eq_getElem hlt)⟩
    have hl : l[k]? = some (f (a[k]'hlt)) := by rw [e, List.getElem?_map, List.getElem?_eq_getElem hlt]; rfl
    simp only [pureOp, asI_toN hi hk, hx, iaddrA, hl, if_pos hs]
   ·exact h.elim
  ·rename_i n id ver used off len hi hx
   refine rowW_ok fun v s l wr ap hm => .ite fun hs => .ask fun T Q h => ?_
   split at h
   ·rename_i k r
    obtain ⟨hu, hk, hlt, h1⟩ := h
    refine ⟨_, _, ?_, h1⟩
    simp only [pureOp, asI_toN hi hk, hx, iaddrA, hm]
    rw [if_pos ⟨hs.2, hu, hlt, hs.1⟩]
   ·exact h.elim
  ·exact .stop _ _
 ·rename_i cnt sz x i
  split
  ·rename_i n hi
   refine .bind' (aaW_ok n _ cnt cnt 0 (Nat.zero_add _)) fun k hk => ?_
   split at hk
   ·rename_i hc
    injection hk with hk; subst hk
    have : pureOp m fr (.aaddr cnt sz x i) = faddrA m (n.toNat * sz) (evA fr x) := by
     simp only [pureOp, asI_toN hi (show n = (n.toNat : Int) from by omega), if_pos hc.2]
    rw [this]
    exact faddrW_ok _ _ _ _
   ·cases hk
  ·exact .stop _ _
 ·rename_i off x
  exact faddrW_ok _ _ _ _
 ·rename_i x i
  split
  ·rename_i n s hi hx
   refine .ask fun T Q h => ?_
   split at h
   ·rename_i k r
    obtain ⟨hk, hlt, h1⟩ := h
    refine ⟨_, _, ?_, h1 _ (List.getElem?_eq_getElem hlt)⟩
    have hs : s[k]? = some ((toL s)[k]'hlt) := by
     have h2 : k < s.size := hlt
     rw [getElem?_pos s k h2]
     rfl
    simp only [pureOp, asI_toN hi hk, hx, sidxA, hs, Option.map_some, u8A]
   ·rename_i k c r
    obtain ⟨hk, hc, h1⟩ := h
    refine ⟨_, _, ?_, h1⟩
    obtain ⟨hlt, hc⟩ := List.getElem?_eq_some_iff.1 hc
    have hs : s[k]? = some c := by
     have h2 : k < s.size := hlt
     rw [getElem?_pos s k h2, ← hc]
     rfl
    simp only [pureOp, asI_toN hi hk, hx, sidxA, hs, Option.map_some, u8A]
   ·exact h.elim
  ·exact .stop _ _
 ·rename_i cnt sz ag x i
  split
  ·rename_i n l hi hx
   refine finW_ok n sz ag _ l _ cnt (fun k hk hlt => ?_) cnt l 0 (by omega) (by simp)
   simp only [pureOp, asI_toN hi hk, hx, if_pos hlt]
  ·exact .stop _ _
 ·rename_i x
  split
  ·rename_i s l hx
   refine .ask fun T Q h => ?_
   split at h
   ·exact ⟨_, _, by simp only [pureOp, hx, lenA, elems, Option.map_some, h.1, intA], h.2⟩
   ·exact h.elim
  ·rename_i id ver used off len hx
   refine rowW_ok fun v s l wr ap hm => .ite fun hv => .ask fun T Q h => ?_
   split at h
   ·exact ⟨_, _, by simp only [pureOp, hx, lenA, elems_row hm hv h.1, Option.map_some, h.2.1, intA], h.2.2⟩
   ·exact h.elim
  ·exact .lift _ _
 ·rename_i x
  split
  ·rename_i s hx
   exact .ret' (by simp only [pureOp, hx, slenA]; rfl)
  ·exact .stop _ _
 ·rename_i sz x lo hi
  split
  ·rename_i s l hx
   refine .ite fun hs => bndW_ok fun a b h1 h2 h3 h4 => .ret' ?_
   simp only [pureOp, hx, slcA, h1, h2]
   rw [if_pos ⟨h3, h4, hs⟩]
  ·rename_i id ver used off len hx
   refine rowW_ok fun v s l wr ap hm => .ite fun hs => .bind' (o := if l.length = used then some () else none) (.ask fun T Q h => ?_) fun _ hu => ?_
   ·split at h
    ·exact ⟨_, _, by rw [if_pos h.1], h.2⟩
    ·exact h.elim
   ·split at hu
    ·rename_i hu'
     refine bndW_ok fun a b h1 h2 h3 h4 => .ret' ?_
     simp only [pureOp, hx, slcA, hm, h1, h2]
     rw [if_pos ⟨hs.2, hu', hs.1⟩, if_pos ⟨h3, h4⟩]
    ·cases hu
  ·rename_i hx
   refine bndW_ok fun a b h1 h2 h3 h4 => .ret' ?_
   simp only [pureOp, hx, slcA, h1, h2]
   rw [if_pos ⟨h3, h4⟩]
  ·exact .stop _ _
 ·rename_i x lo hi
  split
  ·rename_i s hx
   refine bndW_ok fun a b h1 h2 h3 h4 => .ret' ?_
   have h2' : highOf fr s.size hi = some b := h2
   have h4' : b ≤ s.size := h4
   simp only [pureOp, hx, sslcA, h1, h2']
   rw [if_pos ⟨h3, h4'⟩]
   congr 3
   apply ByteArray.ext
   simp only [ofL, toL]
   rw [ByteArray.data_extract]
   apply Array.ext'
   simp [List.drop_take]
  ·exact .stop _ _
 ·rename_i x
  split
  ·rename_i id ver used off len hx
   refine rowW_ok fun v s l wr ap hm => .ite fun hv => .ask fun T Q h => ?_
   split at h
   ·obtain ⟨h1, h2, h3⟩ := h
    exact ⟨_, _, by simp only [pureOp, hx, elems_row hm hv h1, Option.bind_some, h2, Option.map_some]; rfl, h3⟩
   ·exact h.elim
  ·rename_i hne
   have : pureOp m fr (.b2s x) = (elems m (evA fr x)).bind fun l => (bytesL l).map fun s => .val (.string ⟨s.toArray⟩) := rfl
   rw [this]
   refine .bind (.lift _ _) fun l _ => .ask fun T Q h => ?_
   split at h
   ·exact ⟨_, _, by rw [h.1]; rfl, h.2⟩
   ·exact h.elim
 ·exact .lift _ _
end Go.Proofs.YtfbpbkcplpkndaaGreatDoor
end
section
namespace Go.Proofs.YtfbpbkcplpkndaaGreatDoor
set_option linter.unusedVariables false
set_option linter.unusedSimpArgs false
section
variable (m : List MObj) (w : AOp)
def frzCellW : AV → W AV
  | .row id ver used off len => rowW m w id fun v s l _ _ => ifW w (v = ver) (askW (.g l off len) fun T Q => match T with
      | .g l' r => l.length = used ∧ (l.drop off).take len = l' ∧ Q (.slice s l') r
      | _ => False)
  | v => liftW w (frzCell m v)
def frzCellsW : List AV → W (List AV)
 | [] => retW []
 | v :: r => bindW (frzCellW m w v) fun a => bindW (frzCellsW r) fun b => retW (a :: b)
def frzW : AV → W AV
 | .agg l => bindW (frzCellsW m w l) fun l' => retW (.agg l')
 | v => frzCellW m w v
def frzLW : List AV → W (List AV)
 | [] => retW []
 | v :: r => bindW (frzW m w v) fun a => bindW (frzLW r) fun b => retW (a :: b)
theorem frzCellW_ok (v : AV) : SoundW (frzCellW m w v) (frzCell m v) := by
 unfold frzCellW
 split
 ·refine rowW_ok fun v s l wr ap hm => .ite fun hv => .ask fun T Q h => ?_
  split at h
  ·obtain ⟨h1, h2, h3⟩ := h
   exact ⟨_, _, by simp only [frzCell, hm]; rw [if_pos ⟨hv, h1⟩, h2], h3⟩
  ·exact h.elim
 ·exact .lift _ _
theorem frzCellsW_ok : ∀ l : List AV, SoundW (frzCellsW m w l) (frzCells m l)
 | [] => .ret _
 | v :: r => by
  have : frzCells m (v :: r) = (frzCell m v).bind fun a => (frzCells m r).bind fun b => some (a :: b) := by
   simp only [frzCells]
   cases frzCell m v <;> cases frzCells m r <;> rfl
  rw [this]
  exact (frzCellW_ok m w v).bind fun a _ => (frzCellsW_ok r).bind fun b _ => .ret _
theorem frzW_ok (v : AV) : SoundW (frzW m w v) (frz m v) := by
 unfold frzW
 split
 ·rename_i l
  have : frz m (.agg l) = (frzCells m l).bind fun l' => some (.agg l') := by simp only [frz]; cases frzCells m l <;> rfl
  rw [this]
  exact (frzCellsW_ok m w l).bind fun a _ => .ret _
 ·rename_i hne
  have : frz m v = frzCell m v := by
   unfold frz
   split
   ·exact absurd rfl (hne _)
   ·rfl
  rw [this]
  exact frzCellW_ok m w v
theorem frzLW_ok : ∀ l : List AV, SoundW (frzLW m w l) (frzL m l)
 | [] => .ret _
 | v :: r => by
  have : frzL m (v :: r) = (frz m v).bind fun a => (frzL m r).bind fun b => some (a :: b) := by
   simp only [frzL]
   cases frz m v <;> cases frzL m r <;> rfl
  rw [this]
  exact (frzW_ok m w v).bind fun a _ => (frzLW_ok r).bind fun b _ => .ret _
def elemsSW (sz : Nat) : AV → W (List AV)
  | .row id ver used off len => rowW m w id fun v s l _ _ => ifW w (s = sz ∧ v = ver) (askW (.g l off len) fun T Q => match T with
      | .g l' r => l.length = used ∧ (l.drop off).take len = l' ∧ Q l' r
      | _ => False)
  | v => liftW w (elemsS m sz v)
theorem elemsSW_ok (sz : Nat) (v : AV) : SoundW (elemsSW m w sz v) (elemsS m sz v) := by
 unfold elemsSW
 split
 ·refine rowW_ok fun v s l wr ap hm => .ite fun hs => .ask fun T Q h => ?_
  split at h
  ·obtain ⟨h1, h2, h3⟩ := h
   exact ⟨_, _, by simp only [elemsS, hm]; rw [if_pos ⟨hs.2, h1, hs.1⟩, h2], h3⟩
  ·exact h.elim
 ·exact .lift _ _
def bsElsW (fr : List (Nat × AV)) (sz : Nat) : List AV → List (Nat × Operand) → W (List AV)
 | l, [] => retW l
 | l, (i, x) :: r => bindW (frzW m w (evA fr x)) fun v => ifW w (v.cells.length = sz ∧ i < l.length) (bsElsW fr sz (l.set i v) r)
theorem bsElsW_ok (fr : List (Nat × AV)) (sz : Nat) : ∀ (ps : List (Nat × Operand)) (l : List AV), SoundW (bsElsW m w fr sz l ps) (bsEls fr m sz l ps)
 | [], l => .ret _
 | (i, x) :: r, l => by
  have : bsEls fr m sz l ((i, x) :: r) = (frz m (evA fr x)).bind fun v => if v.cells.length = sz ∧ i < l.length then bsEls fr m sz (l.set i v) r else none := by
   simp only [bsEls]
   cases frz m (evA fr x) <;> rfl
  rw [this]
  refine (frzW_ok m w _).bind fun a _ => .ite fun hc => ?_
  rw [if_pos hc]
  exact bsElsW_ok fr sz r _
end
abbrev InlW := FuncId → List AV → List MObj → W (AV × List MObj)
def InlOk (call : CallF) (inl : InlW) : Prop := ∀ f vs m, SoundW (inl f vs m) (call.m f vs m)
section
variable (call : CallF) (inl : InlW)
def callMW (f : FuncId) (vs : List AV) (m : List MObj) : W (AV × List MObj) := askW (.callM f vs m) fun T Q => match T with
 | .cm v m' r => call.m f vs m = some (v, m') ∧ Q (v, m') r
 | .inl r => inl f vs m r Q
 | _ => False
theorem callMW_ok (hi : InlOk call inl) (f : FuncId) (vs : List AV) (m : List MObj) : SoundW (callMW call inl f vs m) (call.m f vs m) := .ask fun T Q h => by
 split at h
 ·exact ⟨_, _, h.1, h.2⟩
 ·exact hi f vs m _ _ h
 ·exact h.elim
def step2W (st : St) (d : Option Nat) (o : AOp2) : W St := match o with
 | .callM f args => bindW (callMW call inl f (args.map (evA st.fr)) st.m) fun r => retW ⟨putf d r.1 st.fr, r.2⟩
 | .callV x args => (match fnOf (evA st.fr x) with
  | some (f, first, caps) => bindW (callMW call inl f (first ++ args.map (evA st.fr) ++ caps) st.m) fun r => retW ⟨putf d r.1 st.fr, r.2⟩
  | none => stopW (.x o))
 | .mset x k v => (match evA st.fr x, evA st.fr k with
  | .mp id, .val (.string k) => bindW (frzW st.m (.x o) (evA st.fr v)) fun g => (match (shutV st.m (evA st.fr v))[id]? with
   | some (.mp es) => ifW (.x o) (g.ground = true) (askW (.ms es (.string k) g) fun T Q => match T with
    | .ms es' r => setKey es (.string k) g = some es' ∧ Q ⟨putf d .any st.fr, (shutV st.m (evA st.fr v)).set id (.mp es')⟩ r
    | _ => False)
   | _ => stopW (.x o))
  | _, _ => stopW (.x o))
 | .mdel x k => (match evA st.fr x, evA st.fr k with
  | .mp id, .val (.string k) => (match st.m[id]? with
   | some (.mp es) => askW (.ms es (.string k) .any) fun T Q => match T with
    | .ms es' r => delKey es (.string k) = some es' ∧ Q ⟨putf d .any st.fr, st.m.set id (.mp es')⟩ r
    | _ => False
   | _ => stopW (.x o))
  | _, _ => stopW (.x o))
 | .cpy sz x y => (match evA st.fr x with
  | .row id ver used off len => bindW (elemsSW st.m (.x o) sz (evA st.fr y)) fun ly => (match st.m[id]? with
   | some (.row v s l true ap) => ifW (.x o) (v = ver ∧ s = sz) (askW (.n ly.length len) fun T Q => match T with
    | .k k r => l.length = used ∧ min ly.length len = k ∧ Q ⟨putf d (intA k) st.fr, st.m.set id (.row v s (setAt l off (ly.take k)) true ap)⟩ r
    | _ => False)
   | _ => stopW (.x o))
  | _ => stopW (.x o))
 | .appS ak x y => (match evA st.fr y with
  | .val (.string s) => (match evA st.fr x with
   | .val (.slice none 0 0) => askW (.app [] ((toL s).map u8A) 0) fun T Q => match T with
    | .k u r => (toL s).length = u ∧ u ≤ 140737488355328 ∧ u ≤ maxLen ∧ Q ⟨putf d (.row st.m.length 0 u 0 u) st.fr, st.m ++ [.row 0 1 ((toL s).map u8A) true ak]⟩ r
    | _ => False
   | .row id ver used off len => rowW st.m (.x o) id fun v sz l wr ap => ifW (.x o) (sz = 1 ∧ apFit ap ak = true ∧ v = ver) (askW (.app l ((toL s).map u8A) used) fun T Q => match T with
    | .k u r => l.length = used ∧ off = 0 ∧ len = used ∧ used + (toL s).length = u ∧ u ≤ 140737488355328 ∧ u ≤ maxLen ∧ Q ⟨putf d (.row id ver u 0 u) st.fr, st.m.set id (.row v sz (l ++ (toL s).map u8A) wr ap)⟩ r
    | _ => False)
   | _ => stopW (.x o))
  | _ => stopW (.x o))
 | .bx _ _ _ | .mkmap | .allocR _ _ _ | .storeR _ _ _ _ => liftW (.x o) (stepOp2 call st d o)
 | o => bindW (pure2W st.m st.fr o) fun v => retW ⟨putf d v st.fr, st.m⟩
theorem step2W_ok (hi : InlOk call inl) (st : St) (d : Option Nat) (o : AOp2) : SoundW (step2W call inl st d o) (stepOp2 call st d o) := by
 have pure : stepOp2 call st d o = (pure2 st.m st.fr o).map (fun v => ⟨putf d v st.fr, st.m⟩) → SoundW (bindW (pure2W st.m st.fr o) fun v => retW ⟨putf d v st.fr, st.m⟩) (stepOp2 call st d o) := by
  intro e
  have : stepOp2 call st d o = (pure2 st.m st.fr o).bind fun v => some ⟨putf d v st.fr, st.m⟩ := by rw [e]; cases pure2 st.m st.fr o <;> rfl
  rw [this]
  exact (pure2W_ok _ _ _).bind fun a _ => .ret _
 unfold step2W
 split
 ·rename_i f args
  refine .bind' (callMW_ok call inl hi _ _ _) fun r hr => .ret' ?_
  simp only [stepOp2, hr, Option.map_some]
 ·rename_i x args
  split
  ·rename_i f first caps hf
   refine .bind' (callMW_ok call inl hi _ _ _) fun r hr => .ret' ?_
   simp only [stepOp2, hf, hr, Option.map_some]
  ·exact .stop _ _
 ·rename_i x k v
  split
  ·rename_i id k hx hk
   refine .bind' (frzW_ok _ _ _) fun g hg => ?_
   split
   ·rename_i es hm
    refine .ite fun hgr => .ask fun T Q h => ?_
    split at h
    ·exact ⟨_, _, by simp only [stepOp2, hx, hk, hg, hm, if_pos hgr, h.1, Option.map_some], h.2⟩
    ·exact h.elim
   ·exact .stop _ _
  ·exact .stop _ _
 ·rename_i x k
  split
  ·rename_i id k hx hk
   split
   ·rename_i es hm
    refine .ask fun T Q h => ?_
    split at h
    ·exact ⟨_, _, by simp only [stepOp2, hx, hk, hm, h.1, Option.map_some], h.2⟩
    ·exact h.elim
   ·exact .stop _ _
  ·exact .stop _ _
 ·rename_i sz x y
  split
  ·rename_i id ver used off len hx
   refine .bind' (elemsSW_ok _ _ _ _) fun ly hly => ?_
   split
   ·rename_i v s l ap hm
    refine .ite fun hs => .ask fun T Q h => ?_
    split at h
    ·obtain ⟨h1, h2, h3⟩ := h
     exact ⟨_, _, by simp only [stepOp2, hx, hly, hm]; rw [if_pos ⟨hs.1, h1, hs.2⟩, h2]; rfl, h3⟩
    ·exact h.elim
   ·exact .stop _ _
  ·exact .stop _ _
 ·rename_i x y
  split
  ·rename_i s hy
   split
   ·rename_i hx
    refine .ask fun T Q h => ?_
    split at h
    ·obtain ⟨rfl, h2, h3, h4⟩ := h
     have h2' : s.size ≤ 140737488355328 := h2
     have h3' : s.size ≤ maxLen := h3
     exact ⟨_, _, by simp only [stepOp2, hy, hx]; rw [if_pos ⟨h2', h3'⟩]; rfl, h4⟩
    ·exact h.elim
   ·rename_i id ver used off len hx
    refine rowW_ok fun v sz l wr ap hm => .ite fun hs => .ask fun T Q h => ?_
    split at h
    ·obtain ⟨h2, h3, h4, rfl, h6, h7, h8⟩ := h
     have h6' : used + s.size ≤ 140737488355328 := h6
     have h7' : used + s.size ≤ maxLen := h7
     exact ⟨_, _, by simp only [stepOp2, hy, hx, hm]; rw [if_pos ⟨hs.2.2, h2, h3, h4, hs.1, hs.2.1, h6', h7'⟩]; rfl, h8⟩
    ·exact h.elim
   ·exact .stop _ _
  ·exact .stop _ _
 ·exact .lift _ _
 ·exact .lift _ _
 ·exact .lift _ _
 ·exact .lift _ _
 ·cases o <;> first | exact pure rfl | (rename_i h1 h2 h3 h4 h5 hS h6 h7 h8 h9; first | exact absurd rfl (hS _ _ _) | exact absurd rfl (h1 _ _) | exact absurd rfl (h2 _ _) | exact absurd rfl (h3 _ _ _) | exact absurd rfl (h4 _ _) | exact absurd rfl (h5 _ _ _) | exact absurd rfl (h6 _ _ _) | exact absurd rfl h7 | exact absurd rfl (h8 _ _ _) | exact absurd rfl (h9 _ _ _ _))
def stepW (st : St) (d : Option Nat) (o : AOp) : W St := match o with
  | .x o => step2W call inl st d o
  | .store n a v => (match evA st.fr a with
    | .elt id ver used i fo => ifW o (((evA st.fr v).cells.length = n) ∧ ((evA st.fr v).cells.all AV.isCell) = true) (
      match ((evA st.fr v).cells.foldl shutCell st.m)[id]? with
      | some (.row vv s l true ap) => ifW o (vv = ver) (bindW (askW (.ld l i) fun T Q => match T with
          | .ix f a k r => l = a.map f ∧ l.length = used ∧ i = k ∧ k < a.length ∧ ∀ x, a[k]? = some x → Q (f x) (r x)
          | _ => False) fun x => bindW (frzCellsW st.m o (evA st.fr v).cells) fun gs => liftW o ((setEl x fo gs).map fun x' => ⟨putf d .any st.fr, ((evA st.fr v).cells.foldl shutCell st.m).set id (.row vv s (l.set i x') true ap)⟩))
      | _ => stopW o)
    | _ => liftW o (stepOp call st d o))
  | .app sz bytes ak x y => bindW (elemsSW st.m o sz (evA st.fr y)) fun ly => (match evA st.fr x with
    | .val (.slice none 0 0) => askW (.app [] ly 0) fun T Q => match T with
        | .k u r => ly.length = u ∧ u * bytes ≤ 140737488355328 ∧ u ≤ maxLen ∧ Q ⟨putf d (.row st.m.length 0 u 0 u) st.fr, st.m ++ [.row 0 sz ly true ak]⟩ r
        | _ => False
    | .row id ver used off len => rowW st.m o id fun v s l wr ap => ifW o (s = sz ∧ apFit ap ak = true ∧ v = ver) (askW (.app l ly used) fun T Q => match T with
        | .k u r => l.length = used ∧ off = 0 ∧ len = used ∧ used + ly.length = u ∧ u * bytes ≤ 140737488355328 ∧ u ≤ maxLen ∧ Q ⟨putf d (.row id ver u 0 u) st.fr, st.m.set id (.row v s (l ++ ly) wr ap)⟩ r
        | _ => False)
    | _ => stopW o)
  | .mks sz zero ag bytes l c => (match asI (evA st.fr l), asI (evA st.fr c) with
    | some a, some b => askW (.n a b) fun T Q => match T with
        | .k k r => a = (k : Int) ∧ b = (k : Int) ∧ k ≤ maxLen ∧ bytes * k ≤ 281474976710656 ∧ Q ⟨putf d (.row st.m.length 0 k 0 k) st.fr, st.m ++ [.row 0 sz (List.replicate k (zeroEl zero ag)) true 1]⟩ r
        | _ => False
    | _, _ => stopW o)
  | .bslice sz own zero ag cnt parts => bindW (bsElsW st.m o st.fr sz (List.replicate cnt (zeroEl zero ag)) parts) fun l => retW (if own then ⟨putf d (.row st.m.length 0 cnt 0 cnt) st.fr, (parts.foldl (fun m p => shutV m (evA st.fr p.2)) st.m) ++ [.row 0 sz l true 1]⟩ else ⟨putf d (.slice sz l) st.fr, parts.foldl (fun m p => shutV m (evA st.fr p.2)) st.m⟩)
  | .call f args => bindW (frzLW st.m o (args.map (evA st.fr))) fun vs => bindW (askW (.call f vs) fun T Q => match T with
        | .c v r => call.f f vs = some v ∧ Q v r
        | _ => False) fun r => retW ⟨putf d r st.fr, if r.flatT then st.m else (args.map (evA st.fr)).foldl shutV st.m⟩
  | .s2b x => (match evA st.fr x with
    | .val (.string s) => retW ⟨putf d (.row st.m.length 0 (toL s).length 0 (toL s).length) st.fr, st.m ++ [.row 0 1 ((toL s).map u8A) true 0]⟩
    | _ => stopW o)
  | .nilrow _ | .alloc _ _ => liftW o (stepOp call st d o)
  | o => bindW (pureW st.m st.fr o) fun v => retW ⟨putf d v st.fr, st.m⟩
theorem stepW_pure (st : St) (d : Option Nat) {o : AOp} (h : o.isEff = false) : SoundW (bindW (pureW st.m st.fr o) fun v => retW ⟨putf d v st.fr, st.m⟩) (stepOp call st d o) := by
 have : stepOp call st d o = (pureOp st.m st.fr o).bind fun v => some ⟨putf d v st.fr, st.m⟩ := by
  rw [step_pure h]; cases pureOp st.m st.fr o <;> rfl
 rw [this]
 exact (pureW_ok _ _ _).bind fun a _ => .ret _
theorem stepW_ok (hi : InlOk call inl) (st : St) (d : Option Nat) (o : AOp) : SoundW (stepW call inl st d o) (stepOp call st d o) := by
 unfold stepW
 split
 ·exact step2W_ok call inl hi st d _
 ·rename_i n a v
  split
  ·rename_i id ver used i fo ha
   refine .ite fun hc => ?_
   split
   ·rename_i vv s l ap hm
    refine .ite fun hv => .bind' (o := if vv = ver ∧ l.length = used then l[i]? else none) (.ask fun T Q h => ?_) fun x hx => ?_
    ·split at h
     ·rename_i f b k r
      obtain ⟨e, hu, rfl, hk, h1⟩ := h
      refine ⟨_, _, ?_, h1 _ (List.getElem?_eq_getElem hk)⟩
      rw [if_pos ⟨hv, hu⟩, e, List.getElem?_map, List.getElem?_eq_getElem hk]; rfl
     ·exact h.elim
    ·split at hx
     ·rename_i hv
      refine .bind' (frzCellsW_ok st.m _ _) fun gs hg => ?_
      have : stepOp call st d (.store n a v) = (setEl x fo gs).map fun x' => ⟨putf d .any st.fr, ((evA st.fr v).cells.foldl shutCell st.m).set id (.row vv s (l.set i x') true ap)⟩ := by
       simp only [stepOp, ha, if_pos hc, hm, if_pos hv, hg, hx]
      rw [this]
      exact .lift _ _
     ·cases hx
   ·exact .stop _ _
  ·exact .lift _ _
 ·rename_i sz bytes x y
  refine .bind' (elemsSW_ok _ _ _ _) fun ly hy => ?_
  split
  ·rename_i hx
   refine .ask fun T Q h => ?_
   split at h
   ·obtain ⟨rfl, h2, h3, h4⟩ := h
    exact ⟨_, _, by simp only [stepOp, hy, hx]; rw [if_pos ⟨h2, h3⟩], h4⟩
   ·exact h.elim
  ·rename_i id ver used off len hx
   refine rowW_ok fun v s l wr ap hm => .ite fun hs => .ask fun T Q h => ?_
   split at h
   ·obtain ⟨h2, h3, h4, rfl, h6, h7, h8⟩ := h
    exact ⟨_, _, by simp only [stepOp, hy, hx, hm]; rw [if_pos ⟨hs.2.2, h2, h3, h4, hs.1, hs.2.1, h6, h7⟩], h8⟩
   ·exact h.elim
  ·exact .stop _ _
 ·rename_i sz zero ag bytes l c
  split
  ·rename_i a b hl hc
   refine .ask fun T Q h => ?_
   split at h
   ·obtain ⟨h1, h2, h3, h4, h5⟩ := h
    exact ⟨_, _, by simp only [stepOp, asI_toN hl h1, asI_toN hc h2]; rw [if_pos ⟨trivial, h3, h4⟩], h5⟩
   ·exact h.elim
  ·exact .stop _ _
 ·rename_i sz own zero ag cnt parts
  refine .bind' (bsElsW_ok _ _ _ _ _ _) fun l hl => ?_
  simp only [stepOp, hl]
  cases own <;> exact .ret _
 ·rename_i f args
  refine .bind' (frzLW_ok _ _ _) fun vs hv => .bind' (o := call.f f vs) (.ask fun T Q h => ?_) fun r hr => ?_
  ·split at h
   ·exact ⟨_, _, h.1, h.2⟩
   ·exact h.elim
  ·exact .ret' (by simp only [stepOp, hv, hr])
 ·rename_i x
  split
  ·rename_i s hx
   exact .ret' (by simp only [stepOp, hx]; rfl)
  ·exact .stop _ _
 ·exact .lift _ _
 ·exact .lift _ _
 ·cases o <;> first | exact stepW_pure call st d rfl | (rename_i h0 h1 h2 h3 h4 h5 h6 h7 h8; first | exact absurd rfl (h0 _) | exact absurd rfl (h1 _ _ _) | exact absurd rfl (h2 _ _ _ _ _) | exact absurd rfl (h3 _ _ _ _ _ _) | exact absurd rfl (h4 _ _ _ _ _ _) | exact absurd rfl (h5 _ _) | exact absurd rfl (h6 _) | exact absurd rfl (h7 _) | exact absurd rfl (h8 _ _))
def quietW (m : List MObj) (fr : List (Nat × AV)) (o : AOp) : W AV := match o with
  | .call f args => bindW (frzLW m o (args.map (evA fr))) fun vs => bindW (askW (.call f vs) fun T Q => match T with
        | .c v r => call.f f vs = some v ∧ Q v r
        | _ => False) fun r => liftW o (if r.toVal.isSome then some r else none)
  | o => pureW m fr o
def findK : List (Nat × Bool) → Nat → Option Bool
 | [], _ => none
 | (k, x) :: r, s => if k = s then some x else findK r s
def lessK (d : Option Nat) : List (Nat × Bool) → List (Nat × Bool)
 | [] => []
 | (k, x) :: r => if some k = d then lessK d r else (k, x) :: lessK d r
def KOk (fr : List (Nat × AV)) (K : List (Nat × Bool)) : Prop := ∀ s x, findK K s = some x → look fr s = .val (.bool x)
theorem lessK_find {d : Option Nat} : ∀ {K : List (Nat × Bool)} {s : Nat} {x : Bool}, findK (lessK d K) s = some x → findK K s = some x ∧ some s ≠ d
 | [], s, x, h => by simp [lessK, findK] at h
 | (k, y) :: r, s, x, h => by
  unfold lessK at h
  split at h
  ·rename_i hk
   have := lessK_find h
   refine ⟨?_, this.2⟩
   unfold findK
   rw [if_neg (fun e => this.2 (by rw [← e, hk]))]
   exact this.1
  ·rename_i hk
   unfold findK at h
   split at h
   ·rename_i hs
    subst hs
    exact ⟨by simp [findK, h], hk⟩
   ·rename_i hs
    have := lessK_find h
    exact ⟨by simp [findK, hs, this.1], this.2⟩
theorem KOk.put {fr : List (Nat × AV)} {K : List (Nat × Bool)} (h : KOk fr K) (d : Option Nat) (v : AV) : KOk (putf d v fr) (lessK d K) := by
 intro s x hs
 have := lessK_find hs
 cases d with
 | none => exact h s x this.1
 | some d =>
  have hne : ¬ d = s := fun e => this.2 (by rw [e])
  show look (setf d v fr) s = _
  rw [look_setf, if_neg hne]
  exact h s x this.1
theorem KOk.nil (fr : List (Nat × AV)) : KOk fr [] := fun s x h => by simp [findK] at h
theorem stepOp2_fr {st st' : St} {d : Option Nat} {o : AOp2} (h : stepOp2 call st d o = some st') : ∃ v, st'.fr = putf d v st.fr := by
 have pure : (pure2 st.m st.fr o).map (fun v => (⟨putf d v st.fr, st.m⟩ : St)) = some st' → ∃ v, st'.fr = putf d v st.fr := by
  intro h
  simp only [Option.map_eq_some_iff] at h
  obtain ⟨v, _, rfl⟩ := h
  exact ⟨v, rfl⟩
 cases o <;> first | exact pure h | (simp only [stepOp2, Option.map_eq_some_iff] at h; first | (obtain ⟨r, _, rfl⟩ := h; exact ⟨_, rfl⟩) | ((repeat' split at h) <;> first | (injection h with h; subst h; exact ⟨_, rfl⟩) | (simp only [Option.map_eq_some_iff] at h; obtain ⟨r, _, rfl⟩ := h; exact ⟨_, rfl⟩) | cases h))
theorem stepOp_fr {st st' : St} {d : Option Nat} {o : AOp} (h : stepOp call st d o = some st') : ∃ v, st'.fr = putf d v st.fr := by
 by_cases he : o.isEff = false
 ·rw [step_pure he] at h
  simp only [Option.map_eq_some_iff] at h
  obtain ⟨v, _, rfl⟩ := h
  exact ⟨v, rfl⟩
 ·cases o <;> first | exact absurd rfl he | exact stepOp2_fr call h | (simp only [stepOp] at h; repeat' split at h) <;> first | cases h; exact ⟨_, rfl⟩ | (simp only [Option.map_eq_some_iff] at h; obtain ⟨v, _, rfl⟩ := h; exact ⟨_, rfl⟩) | cases h
def newK (fr : List (Nat × AV)) (K : List (Nat × Bool)) : Option (Nat × Bool) → List (Nat × Bool)
 | none => K
 | some (s, _) => match findK K s with
  | some _ => K
  | none => match look fr s with
   | .val (.bool c) => (s, c) :: K
   | _ => K
def guardW (fr : List (Nat × AV)) (w : AOp) (K : List (Nat × Bool)) : Option (Nat × Bool) → W (Bool × List (Nat × Bool))
 | none => retW (true, K)
 | some (s, b) => match findK K s with
  | some x => retW (x == b, K)
  | none => match look fr s with
   | .val (.bool c) => bindW (boolW c) fun x => retW (x == b, (s, x) :: K)
   | .val (.tuple _) => retW (false, K)
   | _ => stopW w
theorem guardW_ok {fr : List (Nat × AV)} {K : List (Nat × Bool)} (hK : KOk fr K) (w : AOp) (g : Option (Nat × Bool)) : SoundW (guardW fr w K g) ((wantedA fr g).map fun b => (b, newK fr K g)) := by
 unfold guardW wantedA
 split
 ·exact .ret _
 ·rename_i s b
  split
  ·rename_i x hx
   simp only [hK s x hx, hx, newK, Option.map_some]
   exact .ret _
  ·rename_i hn
   split
   ·rename_i c hc
    refine .bind' (boolW_ok _) fun x hx => ?_
    cases hx
    simp only [hc, hn, newK, Option.map_some]
    exact .ret _
   ·rename_i l hc
    simp only [hc, hn, newK, Option.map_some]
    exact .ret _
   ·exact .stop _ _
theorem guardK_ok {fr : List (Nat × AV)} {K : List (Nat × Bool)} (hK : KOk fr K) (g : Option (Nat × Bool)) : KOk fr (newK fr K g) := by
 cases g with
 | none => exact hK
 | some p =>
  obtain ⟨s, b⟩ := p
  simp only [newK]
  split
  ·exact hK
  ·split
   ·rename_i c hc
    intro s' x hs
    unfold findK at hs
    split at hs
    ·rename_i e
     subst e
     cases hs
     exact hc
    ·exact hK _ _ hs
   ·exact hK
def knownOp (K : List (Nat × Bool)) : AOp → AOp
 | .pick (.tmp s) a b => (match findK K s with
  | some x => .mov (if x then a else b)
  | none => .pick (.tmp s) a b)
 | o => o
theorem knownOp_pure {fr : List (Nat × AV)} {K : List (Nat × Bool)} (hK : KOk fr K) (m : List MObj) (s : Nat) (a b : Operand) {x : Bool} (hx : findK K s = some x) : pureOp m fr (.pick (.tmp s) a b) = pureOp m fr (.mov (if x then a else b)) := by
 simp only [pureOp, evA, hK s x hx]
 cases x <;> rfl
theorem knownOp_step {st : St} {K : List (Nat × Bool)} (hK : KOk st.fr K) (d : Option Nat) (o : AOp) : stepOp call st d (knownOp K o) = stepOp call st d o := by
 unfold knownOp
 split
 ·rename_i s a b
  split
  ·rename_i x hx
   rw [step_pure rfl, step_pure rfl, knownOp_pure hK st.m s a b hx]
  ·rfl
 ·rfl
def opsW : List AOper → List (Nat × Bool) → St → W St
 | [], _, st => retW st
 | o :: r, K, st => bindW (guardW st.fr o.op K o.guard) fun w => if w.1 then bindW (stepW call inl st o.dst (knownOp w.2 o.op)) fun st' => opsW r (lessK o.dst w.2) st' else opsW r (lessK o.dst w.2) ⟨putf o.dst (.val undef) st.fr, st.m⟩
theorem opsW_ok (hi : InlOk call inl) : ∀ (l : List AOper) (K : List (Nat × Bool)) (st : St), KOk st.fr K → SoundW (opsW call inl l K st) (runOps call l st)
 | [], K, st, _ => .ret _
 | o :: r, K, st, hK => by
  unfold opsW runOps
  refine .bind' (guardW_ok hK _ _) fun w hw => ?_
  simp only [Option.map_eq_some_iff] at hw
  obtain ⟨b, hw, rfl⟩ := hw
  have hK' := guardK_ok hK o.guard
  rw [hw]
  cases b with
  | true =>
   simp only [if_true]
   refine .bind' (stepW_ok call inl hi _ _ _) fun st' hs => ?_
   rw [knownOp_step call hK'] at hs
   obtain ⟨v, hv⟩ := stepOp_fr call hs
   rw [hs]
   exact opsW_ok hi r _ st' (hv ▸ hK'.put _ v)
  | false => exact opsW_ok hi r _ _ (hK'.put _ _)
def extW (m : List MObj) (fr : List (Nat × AV)) (o : AOp) : W AV := match o with
  | .call f args => ifW o ((args.map (evA fr)).all AV.noRow = true) (bindW (frzLW m o (args.map (evA fr))) fun vs => askW (.call f vs) fun T Q => match T with
        | .c v r => call.f f vs = some v ∧ Q v r
        | _ => False)
  | .bslice sz false zero ag cnt parts => ifW o (parts.all (fun p => (evA fr p.2).noRow) = true) (bindW (bsElsW m o fr sz (List.replicate cnt (zeroEl zero ag)) parts) fun l => retW (.slice sz l))
  | .x o2 => pureW m fr (.x o2)
  | o => if o.isEff then stopW o else pureW m fr o
theorem extW_ok (m : List MObj) (fr : List (Nat × AV)) (o : AOp) : SoundW (extW call m fr o) (extOp call m fr o) := by
 unfold extW
 split
 ·rename_i f args
  refine .ite fun hc => ?_
  simp only [extOp]
  rw [if_pos hc]
  refine .bind (frzLW_ok _ _ _) fun vs hv => .ask fun T Q h => ?_
  split at h
  ·exact ⟨_, _, h.1, h.2⟩
  ·exact h.elim
 ·rename_i sz zero ag cnt parts
  refine .ite fun hc => ?_
  simp only [extOp]
  rw [if_pos hc]
  refine .bind' (bsElsW_ok _ _ _ _ _ _) fun l hl => ?_
  rw [hl]; exact .ret _
 ·exact pureW_ok _ _ _
 ·rename_i h1 h2 h3
  split
  ·exact .stop _ _
  ·rename_i he
   have : extOp call m fr o = pureOp m fr o := by
    cases o with
    | call f args => exact absurd rfl (h1 _ _)
    | bslice sz own z ag c p => cases own <;> first | exact absurd rfl (h2 _ _ _ _ _) | exact absurd rfl he
    | x o2 => exact absurd rfl (h3 _)
    | _ => first | rfl | exact absurd rfl he
   rw [this]
   exact pureW_ok _ _ _
theorem look_keepF (fr : List (Nat × AV)) (s : Nat) : ∀ {ks : List Nat}, s ∈ ks → look (keepF fr ks) s = look fr s
 | [], h => by cases h
 | k :: r, h => by
  simp only [keepF, look]
  split
  ·rename_i e; rw [e]
  ·rename_i e
   rcases List.mem_cons.1 h with h | h
   ·exact absurd h.symm e
   ·exact look_keepF fr s h
theorem knownOp_ext {fr : List (Nat × AV)} {K : List (Nat × Bool)} (hK : KOk fr K) (m : List MObj) (o : AOp) {ks : List Nat} (hu : ∀ s ∈ o.uses, s ∈ ks) : extOp call m (keepF fr ks) (knownOp K o) = extOp call m (keepF fr ks) o := by
 unfold knownOp
 split
 ·rename_i s a b
  split
  ·rename_i x hx
   have h1 : look (keepF fr ks) s = .val (.bool x) := by rw [look_keepF fr s (hu s (by simp [AOp.uses, opsT, opT]))]; exact hK s x hx
   simp only [extOp, AOp.isEff, pureOp, evA, h1]
   cases x <;> rfl
  ·rfl
 ·rfl
def extsW (m : List MObj) : List AOper → List (Nat × Bool) → List (Nat × AV) → W (List (Nat × AV))
 | [], _, fr => retW fr
 | o :: r, K, fr => bindW (guardW fr o.op K o.guard) fun w => if w.1 then bindW (extW call m (keepF fr o.uses) (knownOp w.2 o.op)) fun v => extsW m r (lessK o.dst w.2) (putf o.dst v fr) else extsW m r (lessK o.dst w.2) (putf o.dst (.val undef) fr)
theorem wanted_keep (fr : List (Nat × AV)) (o : AOper) : wantedA (keepF fr o.uses) o.guard = wantedA fr o.guard := by
 cases hg : o.guard with
 | none => rfl
 | some p =>
  obtain ⟨s, b⟩ := p
  simp only [wantedA]
  rw [look_keepF fr s (by simp [AOper.uses, hg])]
theorem extsW_ok (m : List MObj) : ∀ (l : List AOper) (K : List (Nat × Bool)) (fr : List (Nat × AV)), KOk fr K → SoundW (extsW call m l K fr) (runX call m l fr)
 | [], K, fr, _ => .ret _
 | o :: r, K, fr, hK => by
  unfold extsW runX
  refine .bind' (guardW_ok hK _ _) fun w hw => ?_
  simp only [Option.map_eq_some_iff] at hw
  obtain ⟨b, hw, rfl⟩ := hw
  have hK' := guardK_ok hK o.guard
  rw [oneX, wanted_keep, hw]
  cases b with
  | true =>
   simp only [if_true]
   refine .bind' (extW_ok call m _ _) fun v hs => ?_
   rw [knownOp_ext call hK' m o.op (ks := o.uses) (fun s hs => by unfold AOper.uses; exact List.mem_append_right _ hs)] at hs
   rw [hs]
   exact extsW_ok m r _ _ (hK'.put _ _)
  | false => exact extsW_ok m r _ _ (hK'.put _ _)
end
end Go.Proofs.YtfbpbkcplpkndaaGreatDoor
end
section
namespace Go.Proofs.YtfbpbkcplpkndaaGreatDoor
set_option linter.unusedVariables false
set_option linter.unusedSimpArgs false
def eqVal : Value → Value → Prop
 | .int k n, .int k' n' => if k = k' then n = n' else False
 | .bool a, .bool b => a = b
 | .string a, .string b => toL a = toL b
 | a, b => a = b
def eqCell : AV → AV → Prop
 | .val a, .val b => eqVal a b
 | .slice s l, .slice s' l' => if s = s' then l = l' else False
 | .row id ver used off len, .row id' ver' used' off' len' => if id = id' ∧ ver = ver' then used = used' ∧ off = off' ∧ len = len' else False
 | .ptr id off, .ptr id' off' => if id = id' ∧ off = off' then True else False
 | .any, .any => True
 | a, b => a = b
def eqCells : List AV → List AV → Prop
 | [], [] => True
 | [x], [y] => eqCell x y
 | x :: l, y :: l' => eqCell x y ∧ eqCells l l'
 | _, _ => False
def eqAV : AV → AV → Prop
 | .agg l, .agg l' => eqCells l l'
 | a, b => eqCell a b
def eqAVs : List AV → List AV → Prop
 | [], [] => True
 | [x], [y] => eqAV x y
 | x :: l, y :: l' => eqAV x y ∧ eqAVs l l'
 | _, _ => False
def eqR : AV → AV → Prop
 | .tuple l, .tuple l' => eqAVs l l'
 | a, b => eqAV a b
def eqFr : List (Nat × AV) → List (Nat × AV) → Prop
 | [], [] => True
 | (k, x) :: l, (k', y) :: l' => if k = k' then eqAV x y ∧ eqFr l l' else False
 | _, _ => False
def eqObj : MObj → MObj → Prop
 | .box t l, .box t' l' => if t = t' then eqCells l l' else False
 | .row v s l wr ap, .row v' s' l' wr' ap' => if v = v' ∧ s = s' ∧ wr = wr' ∧ ap = ap' then l = l' else False
 | .mp es, .mp es' => es = es'
 | a, b => a = b
def eqMem : List MObj → List MObj → Prop
 | [], [] => True
 | [x], [y] => eqObj x y
 | x :: l, y :: l' => eqObj x y ∧ eqMem l l'
 | _, _ => False
def eqSt (a b : St) : Prop := eqFr a.fr b.fr ∧ eqMem a.m b.m
theorem eqVal_eq {a b : Value} (h : eqVal a b) : a = b := by
 unfold eqVal at h
 split at h
 ·split at h
  ·rename_i hk; rw [hk, h]
  ·exact h.elim
 ·rw [h]
 ·rename_i s t
  rw [← ofL_toL s, ← ofL_toL t, h]
 ·exact h
theorem eqCell_eq {a b : AV} (h : eqCell a b) : a = b := by
 unfold eqCell at h
 split at h
 ·rw [eqVal_eq h]
 ·split at h
  ·rename_i hk; rw [hk, h]
  ·exact h.elim
 ·split at h
  ·rename_i hk; rw [hk.1, hk.2, h.1, h.2.1, h.2.2]
  ·exact h.elim
 ·split at h
  ·rename_i hk; rw [hk.1, hk.2]
  ·exact h.elim
 ·rfl
 ·exact h
theorem eqCells_eq : ∀ {a b : List AV}, eqCells a b → a = b
 | [], [], _ => rfl
 | [x], [y], h => by rw [eqCell_eq h]
 | [x], y :: z :: l, h => by simp only [eqCells] at h; exact h.2.elim
 | x :: z :: l, [y], h => by simp only [eqCells] at h; exact h.2.elim
 | x :: u :: l, y :: v :: l', h => by
  simp only [eqCells] at h
  rw [eqCell_eq h.1, eqCells_eq (a := u :: l) (b := v :: l') h.2]
 | [], _ :: _, h => by simp only [eqCells] at h
 | _ :: _, [], h => by simp only [eqCells] at h
theorem eqAV_eq {a b : AV} (h : eqAV a b) : a = b := by
 unfold eqAV at h
 split at h
 ·rw [eqCells_eq h]
 ·exact eqCell_eq h
theorem eqAVs_eq : ∀ {a b : List AV}, eqAVs a b → a = b
 | [], [], _ => rfl
 | [x], [y], h => by rw [eqAV_eq h]
 | [x], y :: z :: l, h => by simp only [eqAVs] at h; exact h.2.elim
 | x :: z :: l, [y], h => by simp only [eqAVs] at h; exact h.2.elim
 | x :: u :: l, y :: v :: l', h => by
  simp only [eqAVs] at h
  rw [eqAV_eq h.1, eqAVs_eq (a := u :: l) (b := v :: l') h.2]
 | [], _ :: _, h => by simp only [eqAVs] at h
 | _ :: _, [], h => by simp only [eqAVs] at h
theorem eqR_eq {a b : AV} (h : eqR a b) : a = b := by
 unfold eqR at h
 split at h
 ·rw [eqAVs_eq h]
 ·exact eqAV_eq h
theorem eqFr_eq : ∀ {a b : List (Nat × AV)}, eqFr a b → a = b
 | [], [], _ => rfl
 | (k, x) :: l, (k', y) :: l', h => by
  simp only [eqFr] at h
  split at h
  ·rename_i hk; rw [hk, eqAV_eq h.1, eqFr_eq h.2]
  ·exact h.elim
 | [], _ :: _, h => by simp only [eqFr] at h
 | _ :: _, [], h => by simp only [eqFr] at h
theorem eqObj_eq {a b : MObj} (h : eqObj a b) : a = b := by
 unfold eqObj at h
 split at h
 ·split at h
  ·rename_i hk; rw [hk, eqCells_eq h]
  ·exact h.elim
 ·split at h
  ·rename_i hk; rw [hk.1, hk.2.1, hk.2.2.1, hk.2.2.2, h]
  ·exact h.elim
 ·rw [h]
 ·exact h
theorem eqMem_eq : ∀ {a b : List MObj}, eqMem a b → a = b
 | [], [], _ => rfl
 | [x], [y], h => by rw [eqObj_eq h]
 | [x], y :: z :: l, h => by simp only [eqMem] at h; exact h.2.elim
 | x :: z :: l, [y], h => by simp only [eqMem] at h; exact h.2.elim
 | x :: u :: l, y :: v :: l', h => by
  simp only [eqMem] at h
  rw [eqObj_eq h.1, eqMem_eq (a := u :: l) (b := v :: l') h.2]
 | [], _ :: _, h => by simp only [eqMem] at h
 | _ :: _, [], h => by simp only [eqMem] at h
theorem eqSt_eq {a b : St} (h : eqSt a b) : a = b := by
 cases a; cases b
 simp only [eqSt] at h
 rw [eqFr_eq h.1, eqMem_eq h.2]
def andW {α : Type} (p : Prop) (x : W α) : W α := fun T Q => p ∧ x T Q
def stepCW (call : CallF) (inl : InlW) (o : AOper) (st : St) : W St := bindW (opsW call inl [o] [] ⟨keepF st.fr o.uses, st.m⟩) fun st' => retW ⟨putf o.dst (lookD o.dst st'.fr) st.fr, st'.m⟩
def chainW (call : CallF) (inl : InlW) (free : List AOper) (fr0 fr1 : List (Nat × AV)) : List AOper → St → W St
 | [], st => retW st
 | o :: r, st => bindW (stepCW call inl o st) fun st' => match r with
  | [] => retW st'
  | _ :: _ => bindW (extsW call st'.m free [] fr0) fun fr2 => andW (eqFr fr2 fr1) (chainW call inl free fr0 fr1 r st')
theorem stepCW_ok {call : CallF} {inl : InlW} (hi : InlOk call inl) (o : AOper) (st : St) : SoundW (stepCW call inl o st) (stepC call o st) := by
 unfold stepCW stepC
 refine .bind' (opsW_ok _ _ hi _ _ _ (KOk.nil _)) fun st' h => ?_
 rw [h]
 exact .ret _
theorem chainW_ok {call : CallF} {inl : InlW} (hi : InlOk call inl) {free : List AOper} {fr0 fr1 : List (Nat × AV)} : ∀ (l : List AOper) (st : St), SoundW (chainW call inl free fr0 fr1 l st) (runC call free fr0 fr1 l st)
 | [], st => .ret _
 | [o], st => by
  unfold chainW runC
  refine .bind' (stepCW_ok hi o st) fun st' h => ?_
  rw [h]
  exact .ret _
 | o :: o2 :: r, st => by
  unfold chainW runC
  refine .bind' (stepCW_ok hi o st) fun st' h => ?_
  rw [h]
  refine .bind' (extsW_ok _ _ _ _ _ (KOk.nil _)) fun fr2 h2 => ?_
  simp only [h2]
  intro T Q hq
  obtain ⟨q1, q2⟩ := hq
  simp only [eqFB_of (eqFr_eq q1)]
  exact chainW_ok hi (o2 :: r) st' T Q q2
section
variable (call : CallF) (inl : InlW) (loop : LoopF) (b : Nat)
def roundW {ι : Type} (S : ι → St) (I : ι → Prop) (μ : ι → Nat) (keep : List Nat) (i : ι) (Q : AExit × St → Tr → Prop) : AExit × St → Tr → Prop
 | (.normal, st'), _ => ∃ j, eqSt (normSt b keep st') (S j) ∧ I j ∧ μ j < μ i
 | (.exit k, st'), T => Q (.exit k, st') T
 | (.ret, st'), T => Q (.ret, st') T
def joinW (keep : List Nat) (Q : AExit × St → Tr → Prop) : AExit × St → Tr → Prop
 | (.normal, st'), T => Q (.normal, normSt b keep st') T
 | (.exit k, st'), T => Q (.exit k, st') T
 | (.ret, st'), T => Q (.ret, st') T
def cutW {ι : Type} (S : ι → St) (I : ι → Prop) (keep : List Nat) (Q : AExit × St → Tr → Prop) : AExit × St → Tr → Prop
 | (.normal, st'), _ => ∃ j, eqSt (normSt b keep st') (S j) ∧ I j
 | (.exit k, st'), T => Q (.exit k, st') T
 | (.ret, st'), T => Q (.ret, st') T
def unW (body : St → W (AExit × St)) (keep : List Nat) (Q : AExit × St → Tr → Prop) : Nat → St → Tr → Prop
 | 0, _, _ => False
 | n + 1, st, T => body (normSt b keep st) T fun r T' => match r with
  | (.normal, st') => unW body keep Q n st' T'
  | (.exit k, st') => Q (.exit k, st') T'
  | (.ret, st') => Q (.ret, st') T'
def codeW : ACode → St → W (AExit × St)
 | .skip, st => retW (.normal, st)
 | .region ops ds, st => bindW (opsW call inl ops [] st) fun st' => retW (.normal, ⟨dropF ds st'.fr, st'.m⟩)
 | .dregion ops tail ds, st => bindW (extsW call st.m ops [] st.fr) fun fr => bindW (opsW call inl tail [] ⟨fr, st.m⟩) fun st' => retW (.normal, ⟨dropF ds st'.fr, st'.m⟩)
 | .cregion free chain ds, st => bindW (extsW call st.m free [] st.fr) fun fr1 => bindW (chainW call inl free st.fr fr1 chain ⟨fr1, st.m⟩) fun st' => retW (.normal, ⟨dropF ds st'.fr, st'.m⟩)
 | .seq x y, st => bindW (codeW x st) fun r => match r with
  | (.normal, st') => codeW y st'
  | r => retW r
 | .cond c x y, st => match evA st.fr c with
  | .val (.bool t) => bindW (boolW t) fun t => if t then codeW x st else codeW y st
  | _ => stopW (.mov c)
 | .block id c, st => bindW (codeW c st) fun r => match r with
  | (.exit i, st') => retW (if i = id then (.normal, st') else (.exit i, st'))
  | r => retW r
 | .loop c k, st => askW (.loop c k (normSt b k st)) fun T Q => match T with
  | .lp ex st' r => loop c k st = some (ex, st') ∧ Q (ex, st') r
  | .un n r => unW b (codeW c) k Q n st r
  | .inv S I μ r => (∃ i, eqSt (normSt b k st) (S i) ∧ I i) ∧ ∀ i, I i → codeW c (S i) (r i) (roundW b S I μ k i Q)
  | _ => False
 | .join c k, st => askW (.join k st) fun T Q => match T with
  | .w r => codeW c st r (joinW b k Q)
  | .cut S I r r' => codeW c st r (cutW b S I k Q) ∧ ∀ i, I i → Q (.normal, S i) (r' i)
  | _ => False
 | .exit id, st => retW (.exit id, st)
 | .ret, st => retW (.ret, st)
end
section
variable {F : FuncId → Option AFunc} {X : CallF}
theorem loop_inv {b : Nat} {inl : InlW} {c : ACode} {keep : List Nat} {ι : Type} {S : ι → St} {I : ι → Prop} {μ : ι → Nat} {r : ι → Tr} {Q : AExit × St → Tr → Prop} (hc : ∀ st, SoundW (codeW (R F X) inl (Lp F X b) b c st) (aexec (R F X) b (Lp F X b) c st))
    (h : ∀ i, I i → codeW (R F X) inl (Lp F X b) b c (S i) (r i) (roundW b S I μ keep i Q)) : ∀ (n : Nat) (i : ι) (st : St), μ i < n → I i → normSt b keep st = S i → ∃ x T', Lp F X b c keep st = some x ∧ Q x T' := by
  intro n
  induction n with
  | zero => intro i st hn; omega
  | succ n ih =>
    intro i st hn hi hst
    obtain ⟨⟨ex, st'⟩, T', h1, h2⟩ := hc _ _ _ (h i hi)
    rw [← hst] at h1
    cases ex with
    | normal =>
      obtain ⟨j, e, hj, hlt⟩ := h2
      obtain ⟨x, T'', g1, g2⟩ := ih j st' (by omega) hj (eqSt_eq e)
      exact ⟨x, T'', Lp_step h1 g1, g2⟩
    | exit k => exact ⟨_, T', Lp_exit h1, h2⟩
    | ret => exact ⟨_, T', Lp_ret h1, h2⟩
theorem unW_ok {b : Nat} {c : ACode} {keep : List Nat} {body : St → W (AExit × St)} {Q : AExit × St → Tr → Prop} (hc : ∀ st, SoundW (body st) (aexec (R F X) b (Lp F X b) c st)) : ∀ (n : Nat) (st : St) (T : Tr), unW b body keep Q n st T → ∃ x T', Lp F X b c keep st = some x ∧ Q x T'
 | 0, _, _, h => h.elim
 | n + 1, st, T, h => by
  obtain ⟨⟨ex, st'⟩, T', h1, h2⟩ := hc _ _ _ h
  cases ex with
  | normal =>
   obtain ⟨x, T'', g1, g2⟩ := unW_ok hc n st' T' h2
   exact ⟨x, T'', Lp_step h1 g1, g2⟩
  | exit k => exact ⟨_, T', Lp_exit h1, h2⟩
  | ret => exact ⟨_, T', Lp_ret h1, h2⟩
theorem codeW_ok {inl : InlW} (hi : InlOk (R F X) inl) (b : Nat) : ∀ (c : ACode) (st : St), SoundW (codeW (R F X) inl (Lp F X b) b c st) (aexec (R F X) b (Lp F X b) c st)
 | .skip, st => .ret _
 | .region ops ds, st => by
  unfold codeW aexec
  refine .bind' (opsW_ok _ _ hi _ _ _ (KOk.nil _)) fun st' h => ?_
  rw [h]
  exact .ret _
 | .dregion ops tail ds, st => by
  unfold codeW aexec
  refine .bind' (extsW_ok _ _ _ _ _ (KOk.nil _)) fun fr h => ?_
  rw [h]
  refine .bind' (opsW_ok _ _ hi _ _ _ (KOk.nil _)) fun st' h' => ?_
  simp only [h']
  exact .ret _
 | .cregion free chain ds, st => by
  unfold codeW aexec
  refine .bind' (extsW_ok _ _ _ _ _ (KOk.nil _)) fun fr1 h => ?_
  rw [h]
  refine .bind' (chainW_ok hi _ _) fun st' h' => ?_
  simp only [h']
  exact .ret _
 | .seq x y, st => by
  unfold codeW aexec
  refine .bind' (codeW_ok hi b x st) fun r h => ?_
  rw [h]
  obtain ⟨ex, st'⟩ := r
  cases ex with
  | normal => exact codeW_ok hi b y st'
  | exit i => exact .ret _
  | ret => exact .ret _
 | .cond c x y, st => by
  unfold codeW aexec
  split
  ·rename_i t hc
   refine .bind' (boolW_ok _) fun t' ht => ?_
   cases ht
   rw [hc]
   cases t with
   | true => exact codeW_ok hi b x st
   | false => exact codeW_ok hi b y st
  ·exact .stop _ _
 | .block id c, st => by
  unfold codeW aexec
  refine .bind' (codeW_ok hi b c st) fun r h => ?_
  rw [h]
  obtain ⟨ex, st'⟩ := r
  cases ex with
  | normal => exact .ret _
  | exit i =>
   simp only
   split <;> exact .ret _
  | ret => exact .ret _
 | .loop c k, st => by
  unfold codeW aexec
  refine .ask fun T Q h => ?_
  split at h
  ·exact ⟨_, _, h.1, h.2⟩
  ·exact unW_ok (codeW_ok hi b c) _ _ _ h
  ·rename_i S I μ r
   obtain ⟨⟨i, e, hI⟩, h2⟩ := h
   exact loop_inv (codeW_ok hi b c) h2 (μ i + 1) i st (Nat.lt_succ_self _) hI (eqSt_eq e)
  ·exact h.elim
 | .join c k, st => by
  unfold codeW aexec
  refine .ask fun T Q h => ?_
  split at h
  ·obtain ⟨⟨ex, st'⟩, T', h1, h2⟩ := codeW_ok hi b c st _ _ h
   rw [h1]
   cases ex <;> exact ⟨_, T', rfl, h2⟩
  ·rename_i S I r r'
   obtain ⟨⟨ex, st'⟩, T', h1, h2⟩ := codeW_ok hi b c st _ _ h.1
   rw [h1]
   cases ex with
   | normal =>
    obtain ⟨j, e, hj⟩ := h2
    refine ⟨_, _, ?_, h.2 j hj⟩
    simp only [eqSt_eq e]
   | exit i => exact ⟨_, T', rfl, h2⟩
   | ret => exact ⟨_, T', rfl, h2⟩
  ·exact h.elim
 | .exit id, st => .ret _
 | .ret, st => .ret _
end
def resW0 (st : St) : ARes → W AV
 | .tmp t _ => frzW st.m (.mov (.tmp t)) (look st.fr t)
 | .cell t n ag _ => bindW (liftW (.mov (.tmp t)) ((cellsAt st.m (look st.fr t)).bind (mkV n ag))) fun v => frzW st.m (.mov (.tmp t)) v
def ARes.offs : ARes → List (Nat × Nat)
 | .tmp _ o => o
 | .cell _ _ _ o => o
def resW (st : St) (x : ARes) : W AV := bindW (resW0 st x) fun v => retW (nilN x.offs v)
theorem resW_ok (st : St) (x : ARes) : SoundW (resW st x) (resOf st x) := by
 have fin : ∀ {o : Option AV}, SoundW (resW0 st x) o → SoundW (resW st x) (o.map (nilN x.offs)) := fun {o} h => by
  have : o.map (nilN x.offs) = o.bind fun v => some (nilN x.offs v) := by cases o <;> rfl
  rw [this]
  exact h.bind fun a _ => .ret _
 cases x with
 | tmp t offs => exact fin (frzW_ok _ _ _)
 | cell t n ag offs =>
  refine fin ?_
  show SoundW (bindW (liftW (.mov (.tmp t)) ((cellsAt st.m (look st.fr t)).bind (mkV n ag))) fun v => frzW st.m (.mov (.tmp t)) v) (((cellsAt st.m (look st.fr t)).bind (mkV n ag)).bind (frz st.m))
  exact SoundW.bind (x := liftW (.mov (.tmp t)) ((cellsAt st.m (look st.fr t)).bind (mkV n ag))) (f := fun v => frzW st.m (.mov (.tmp t)) v) (SoundW.lift _ _) fun v _ => frzW_ok _ _ _
def resLW (st : St) : List ARes → W (List AV)
 | [] => retW []
 | x :: r => bindW (resW st x) fun a => bindW (resLW st r) fun b => retW (a :: b)
theorem resLW_ok (st : St) : ∀ l : List ARes, SoundW (resLW st l) (resL st l)
 | [] => .ret _
 | x :: r => by
  have : resL st (x :: r) = (resOf st x).bind fun a => (resL st r).bind fun b => some (a :: b) := by
   simp only [resL]
   cases resOf st x <;> cases resL st r <;> rfl
  rw [this]
  exact (resW_ok st x).bind fun a _ => (resLW_ok st r).bind fun b _ => .ret _
section
variable (F : FuncId → Option AFunc) (X : CallF)
def bodyMW (inl : InlW) (fn : AFunc) (args : List AV) (m : List MObj) : W (AV × List MObj) := ifW (.call 0 []) (args.length = fn.params) (bindW (codeW (R F X) inl (Lp F X m.length) m.length fn.body ⟨enterF fn.params 0 args, m⟩) fun r => match r with
 | (.exit _, _) => stopW (.call 0 [])
 | (_, st) => bindW (liftW (.call 0 []) (resLM st fn.results)) fun l => retW (packR fn.pk m.length (mkRes l) st.m))
def inlW : Nat → InlW
 | 0 => fun _ _ _ => stopW (.call 0 [])
 | d + 1 => fun f vs m => match F f with
  | some fn => bodyMW F X (inlW d) fn vs m
  | none => stopW (.call f [])
def bodyW (inl : InlW) (fn : AFunc) (args : List AV) : W AV := ifW (.call 0 []) (args.length = fn.params) (bindW (codeW (R F X) inl (Lp F X 0) 0 fn.body ⟨enterF fn.params 0 args, []⟩) fun r => match r with
 | (.exit _, _) => stopW (.call 0 [])
 | (_, st) => bindW (resLW st fn.results) fun l => retW (mkRes l))
end
section
variable {F : FuncId → Option AFunc} {X : CallF}
theorem bodyMW_ok {inl : InlW} (hi : InlOk (R F X) inl) (fn : AFunc) (args : List AV) (m : List MObj) : SoundW (bodyMW F X inl fn args m) (runBodyM (R F X) (Lp F X m.length) fn args m) := by
 unfold bodyMW runBodyM
 refine .ite fun h => ?_
 rw [if_pos h]
 refine .bind' (codeW_ok hi _ _ _) fun r hr => ?_
 obtain ⟨ex, st⟩ := r
 rw [hr]
 cases ex with
 | normal =>
  refine .bind' (.lift _ _) fun l hl => .ret' ?_
  simp only [hl, Option.map_some]
 | exit i => exact .stop _ _
 | ret =>
  refine .bind' (.lift _ _) fun l hl => .ret' ?_
  simp only [hl, Option.map_some]
theorem inlW_ok : ∀ d, InlOk (R F X) (inlW F X d)
 | 0 => fun _ _ _ => .stop _ _
 | d + 1 => fun f vs m => by
  unfold inlW
  split
  ·rename_i fn hf
   intro T Q h
   obtain ⟨a, T', h1, h2⟩ := bodyMW_ok (inlW_ok d) fn vs m T Q h
   exact ⟨a, T', RM_body hf h1, h2⟩
  ·exact .stop _ _
theorem bodyW_ok {inl : InlW} (hi : InlOk (R F X) inl) (fn : AFunc) (args : List AV) : SoundW (bodyW F X inl fn args) (runBody (R F X) (Lp F X 0) fn args) := by
 unfold bodyW runBody
 refine .ite fun h => ?_
 rw [if_pos h]
 refine .bind' (codeW_ok hi _ _ _) fun r hr => ?_
 obtain ⟨ex, st⟩ := r
 rw [hr]
 cases ex with
 | normal =>
  refine .bind' (resLW_ok _ _) fun l hl => .ret' ?_
  simp only [hl, Option.map_some]
 | exit i => exact .stop _ _
 | ret =>
  refine .bind' (resLW_ok _ _) fun l hl => .ret' ?_
  simp only [hl, Option.map_some]
@[irreducible] def wpR (F : FuncId → Option AFunc) (X : CallF) (fn : AFunc) (vs : List AV) (T : Tr) (r : AV) : Prop := bodyW F X (inlW F X 9) fn vs T fun v _ => eqR v r
@[irreducible] def wpRM (F : FuncId → Option AFunc) (X : CallF) (fn : AFunc) (vs : List AV) (m : List MObj) (T : Tr) (r : AV) (m' : List MObj) : Prop := bodyMW F X (inlW F X 9) fn vs m T fun v _ => eqR v.1 r ∧ eqMem v.2 m'
theorem R_wp {f : FuncId} {fn : AFunc} {vs : List AV} {r : AV} (T : Tr) (hf : F f = some fn) (h : wpR F X fn vs T r) : (R F X).f f vs = some r := by
 unfold wpR at h
 obtain ⟨a, T', h1, h2⟩ := bodyW_ok (inlW_ok 9) fn vs T _ h
 rw [← eqR_eq h2]
 exact R_body hf h1
theorem RM_wp {f : FuncId} {fn : AFunc} {vs : List AV} {m m' : List MObj} {r : AV} (T : Tr) (hf : F f = some fn) (h : wpRM F X fn vs m T r m') : (R F X).m f vs m = some (r, m') := by
 unfold wpRM at h
 obtain ⟨a, T', h1, h2, h3⟩ := bodyMW_ok (inlW_ok 9) fn vs m T _ h
 rw [← eqR_eq h2, ← eqMem_eq h3]
 exact RM_body hf h1
end
end Go.Proofs.YtfbpbkcplpkndaaGreatDoor
end
section
namespace Go.Proofs.YtfbpbkcplpkndaaGreatDoor
set_option linter.unusedVariables false
set_option linter.unusedSimpArgs false
def mapE {α : Type} (f : α → AV) (a : List (Bs × α)) : List (Value × AV) := a.map fun x => (.string (ofL x.1), f x.2)
def aput {α : Type} : List (Bs × α) → Bs → α → List (Bs × α)
 | [], s, v => [(s, v)]
 | (k, u) :: r, s, v => if s = k then (s, v) :: r else (k, u) :: aput r s v
def adel {α : Type} : List (Bs × α) → Bs → List (Bs × α)
 | [], _ => []
 | (k, u) :: r, s => if s = k then r else (k, u) :: adel r s
def setAtL {α : Type} (l : List α) (i : Nat) (cs : List α) : List α := l.take i ++ cs ++ l.drop (i + cs.length)
theorem get_of {α : Type} {l : List α} {k : Nat} {x : α} (h : l[k]? = some x) : ∃ hk : k < l.length, l[k] = x := List.getElem?_eq_some_iff.1 h
theorem maxLen_le : 1099511627776 ≤ maxLen := by decide +kernel
theorem maxLen_i64 : maxLen ≤ 9223372036854775807 := by decide +kernel
abbrev Cut (_ : Nat) (α : Type) : Type := α
theorem dT {p : Prop} [Decidable p] (h : decide p = true) : p := of_decide_eq_true h
theorem dF {p : Prop} [Decidable p] (h : decide p = false) : ¬ p := of_decide_eq_false h
theorem nT {b : Bool} (h : (!b) = true) : b = false := by simpa using h
theorem nF {b : Bool} (h : (!b) = false) : b = true := by simpa using h
theorem dnT {p : Prop} [Decidable p] (h : (!decide p) = true) : ¬ p := dF (nT h)
theorem dnF {p : Prop} [Decidable p] (h : (!decide p) = false) : p := dT (nF h)
theorem tD {p : Prop} [Decidable p] (h : p) : decide p = true := decide_eq_true h
theorem fD {p : Prop} [Decidable p] (h : ¬ p) : decide p = false := decide_eq_false h
theorem tnD {p : Prop} [Decidable p] (h : ¬ p) : (!decide p) = true := by simp [h]
theorem fnD {p : Prop} [Decidable p] (h : p) : (!decide p) = false := by simp [h]
end Go.Proofs.YtfbpbkcplpkndaaGreatDoor
end
section
namespace Go.Proofs.YtfbpbkcplpkndaaGreatDoor
set_option linter.unusedVariables false
set_option linter.unusedSimpArgs false
open Go.RowKit Go.ChangeShapes Go.WideShapes Go.ChangeAt Go.Deep
open Go.ChangeMaps (open_string shut_string)
abbrev S0 (w : World) : Nat → Nat → Prop := Stab (fun _ _ => False) [] w
theorem s0_of {w : World} {b : Nat} (h : b < w.heap.size) (o : Nat) : S0 w b o := ⟨h, fun h => h.elim, by rintro ⟨i, k, hk, _⟩; simp at hk⟩
theorem repL_of3 {S : Nat → Nat → Prop} {w : World} {v v' v'' : Value} {x x' x'' : AV} (h : Rep S w [] v x) (h' : Rep S w [] v' x') (h'' : Rep S w [] v'' x'') : RepL S w [] #[v, v', v''] [x, x', x''] := ⟨rfl, fun i y hy => by
 match i, hy with
 | 0, hy => cases hy; exact h
 | 1, hy => cases hy; exact h'
 | 2, hy => cases hy; exact h''⟩
theorem calls_true {f : FuncId} {vs : Array Value} {avs : List AV} {w : World} (hc : CallOk Tryz.prog f avs (boolA true)) (hG : GR (S0 w) w []) (h : RepL (S0 w) w [] vs avs) : Calls Tryz.prog f vs w fun e w' => e = .returned (.bool true) ∧ Below w.heap.size w w' := by
 refine (hc (fun _ _ => False) w vs (fun _ _ h => h.elim) hG h).mono fun e w' ⟨v, h1, h2, h3⟩ => ⟨?_, h3.none_below⟩
 rw [h1]
 have := rep_val h2
 rw [this]
theorem gr_of_var {w : World} {n : String} {g : Nat} {cs : Array Value} {l : List AV} (hn : Tryz.prog.globalNamed n = some g) (hv : w.var? Tryz.prog n = some cs) (hl : cs.size = l.length) (hr : ∀ (j : Nat) (y : AV), l[j]? = some y → y.grCell = true ∧ ∃ u, cs[j]? = some u ∧ Rep (S0 w) w [] u y) :
    Rep (S0 w) w [] (.pointer (some ⟨g, 0, none⟩)) (.rptr l) ∧ ∀ o, l.length ≤ o → S0 w g o ∧ w.cell? ⟨g, o, none⟩ = none := by
  unfold World.var? at hv
  rw [hn] at hv
  simp only [Option.bind_some] at hv
  split at hv
  · rename_i cs' t fz hh
    injection hv with hv
    subst hv
    have hc : ∀ j, w.cell? ⟨g, j, none⟩ = cs'[j]? := fun j => by simp [World.cell?, hh]
    have hlt : g < w.heap.size := (Array.getElem?_eq_some_iff.1 hh).1
    refine ⟨.rptr g 0 (fun j => cs'.getD j undef) (fun j y hy => (hr j y hy).1) (fun j y hy => ?_) (fun j y hy => ?_), fun o ho => ⟨s0_of hlt _, by rw [hc, Array.getElem?_eq_none (by omega)]⟩⟩
    · obtain ⟨-, u, hu, -⟩ := hr j y hy
      rw [Nat.zero_add, hc]
      exact ⟨by rw [hu, Array.getD_eq_getD_getElem?, hu]; rfl, s0_of hlt _⟩
    · obtain ⟨-, u, hu, hrep⟩ := hr j y hy
      rw [Array.getD_eq_getD_getElem?, hu]; exact hrep
  · cases hv
end Go.Proofs.YtfbpbkcplpkndaaGreatDoor
end
section
namespace Go.Proofs.YtfbpbkcplpkndaaGreatDoor
set_option linter.unusedVariables false
set_option linter.unusedSimpArgs false
open Go.RowKit Go.ChangeShapes Go.WideShapes Go.ChangeAt Go.Deep
set_option maxRecDepth 100000
inductive Sh
 | bool
 | int (k : IntKind)
 | str
 | sl (e : Sh)
 | st (fs : List Sh)
mutual
def Sh.n : Sh → Nat
 | .st fs => Sh.ns fs
 | _ => 1
def Sh.ns : List Sh → Nat
 | [] => 0
 | s :: r => s.n + Sh.ns r
end
mutual
def Sh.ok (P : Program) : Sh → TypeId → Bool
 | .bool, t => (match P.underlying t with | some .bool => true | _ => false)
 | .int k, t => (match P.underlying t with | some (.int k') => decide (k' = k) | _ => false)
 | .str, t => (match P.underlying t with | some .string => true | _ => false)
 | .sl e, t => (match P.underlying t with | some (.slice u) => decide (P.cellsOf u = e.n) && decide (0 < e.n) && e.ok P u | _ => false)
 | .st fs, t => (match P.underlying t with
  | some (.struct l) => decide (P.cellsOf t = Sh.ns fs) && Sh.okF P fs l.toList 0
  | some (.array n e) => decide (P.cellsOf t = Sh.ns fs) && decide (fs.length = n) && Sh.okA P fs e
  | _ => false)
def Sh.okF (P : Program) : List Sh → List Field → Nat → Bool
 | [], [], _ => true
 | s :: r, f :: l, o => decide (f.offset = o) && decide (P.cellsOf f.type = s.n) && s.ok P f.type && Sh.okF P r l (o + s.n)
 | _, _, _ => false
def Sh.okA (P : Program) : List Sh → TypeId → Bool
 | [], _ => true
 | s :: r, e => decide (P.cellsOf e = s.n) && s.ok P e && Sh.okA P r e
end
def Sh.mk : Sh → List AV → AV
 | .st _, l => .agg l
 | _, l => l.headD .any
section
variable {H : Type}
mutual
def dAV : Sh → DataW H → List AV
 | .st fs, .agg parts => dAVs fs parts
 | .sl e, .slice elems _ => [.slice e.n (elems.map fun x => e.mk (dAV e x))]
 | .sl e, .nil => [.slice e.n []]
 | .str, .lit (.string l) => [strL l]
 | .int _, .lit (.int k n) => [.val (.int k n)]
 | .bool, .lit (.bool b) => [.val (.bool b)]
 | _, _ => []
def dAVs : List Sh → List (DataW H) → List AV
 | s :: r, d :: l => dAV s d ++ dAVs r l
 | _, _ => []
end
mutual
def Ty : Sh → DataW H → Prop
 | .st fs, .agg parts => Tys fs parts
 | .sl e, .slice elems _ => elems.length ≤ maxLen ∧ ∀ x ∈ elems, Ty e x
 | .sl _, .nil => True
 | .str, .lit (.string l) => l.length ≤ maxLen
 | .int k, .lit (.int k' n) => k' = k ∧ (Lit.int k n).wf = true
 | .bool, .lit (.bool _) => True
 | _, _ => False
def Tys : List Sh → List (DataW H) → Prop
 | [], [] => True
 | s :: r, d :: l => Ty s d ∧ Tys r l
 | _, _ => False
end
theorem Ty_st {fs : List Sh} {d : DataW H} (h : Ty (.st fs) d) : ∃ parts, d = .agg parts ∧ Tys fs parts := by
 cases d <;> first | exact ⟨_, rfl, by simpa [Ty] using h⟩ | (simp [Ty] at h)
theorem Ty_sl {e : Sh} {d : DataW H} (h : Ty (.sl e) d) : (d = .nil) ∨ ∃ elems spare, d = .slice elems spare ∧ elems.length ≤ maxLen ∧ ∀ x ∈ elems, Ty e x := by
 cases d <;> first | exact .inl rfl | exact .inr ⟨_, _, rfl, by simpa [Ty] using h⟩ | (simp [Ty] at h)
theorem Ty_str {d : DataW H} (h : Ty .str d) : ∃ l, d = .lit (.string l) ∧ l.length ≤ maxLen := by
 cases d with
 | lit l => cases l <;> first | exact ⟨_, rfl, by simpa [Ty] using h⟩ | (simp [Ty] at h)
 | _ => simp [Ty] at h
theorem Ty_int {k : IntKind} {d : DataW H} (h : Ty (.int k) d) : ∃ n, d = .lit (.int k n) ∧ (Lit.int k n).wf = true := by
 cases d with
 | lit l => cases l <;> first | (simp only [Ty] at h; obtain ⟨rfl, h⟩ := h; exact ⟨_, rfl, h⟩) | (simp [Ty] at h)
 | _ => simp [Ty] at h
theorem Ty_bool {d : DataW H} (h : Ty .bool d) : ∃ b, d = .lit (.bool b) := by
 cases d with
 | lit l => cases l <;> first | exact ⟨_, rfl⟩ | (simp [Ty] at h)
 | _ => simp [Ty] at h
theorem mk_cells {s : Sh} {d : DataW H} (h : Ty s d) : (s.mk (dAV s d)).cells = dAV s d := by
 cases s with
 | bool => obtain ⟨b, rfl⟩ := Ty_bool h; rfl
 | int k => obtain ⟨n, rfl, -⟩ := Ty_int h; rfl
 | str => obtain ⟨l, rfl, -⟩ := Ty_str h; rfl
 | sl e =>
  rcases Ty_sl h with rfl | ⟨elems, spare, rfl, -, -⟩
  ·rfl
  ·simp [dAV, Sh.mk, AV.cells]
 | st fs => rfl
variable {enc : TypeId × Value → H} {w : World}
theorem addr_add2 (b o k j : Nat) : ((⟨b, o, none⟩ : Addr).add k).add j = ⟨b, o + k + j, none⟩ := by
 simp only [Addr.add]
 split <;> split <;> simp_all
theorem drop_take_get {cs : List Value} {o n i : Nat} {u : Value} (h : cs[o + i]? = some u) (hi : i < n) : ((cs.drop o).take n)[i]? = some u := by
 rw [List.getElem?_take, if_pos hi, List.getElem?_drop]; exact h
mutual
theorem rep_of : ∀ (s : Sh) (t : TypeId) (fuel : Nat) (cs : List Value) (d : DataW H) (ps : List MemPlace), s.ok Tryz.prog t = true → DataW.trod enc Tryz.prog w 0 (fun _ => true) true fuel t cs = some (d, ps) →
    Ty s d ∧ cs.length = s.n ∧ (dAV s d).length = s.n ∧ ∀ (i : Nat) (y : AV) (u : Value), (dAV s d)[i]? = some y → cs[i]? = some u → y.grCell = true ∧ Rep (S0 w) w [] u y
  | .bool, t, fuel, cs, d, ps, hs, h => by
    simp only [Sh.ok] at hs
    split at hs
    · rename_i ht
      obtain ⟨b, rfl, hx⟩ := DataW.trod_bool ht h
      cases hx
      refine ⟨by simp [Ty], rfl, rfl, fun i y u hy hu => ?_⟩
      match i, hy, hu with
      | 0, hy, hu => cases hy; cases hu; exact ⟨rfl, .val _ _⟩
    · cases hs
  | .int k, t, fuel, cs, d, ps, hs, h => by
    simp only [Sh.ok] at hs
    split at hs
    · rename_i k' ht
      have hk := of_decide_eq_true hs
      subst hk
      obtain ⟨b, rfl, hx, hw⟩ := DataW.trod_int ht h
      cases hx
      refine ⟨by simp [Ty, hw], rfl, rfl, fun i y u hy hu => ?_⟩
      match i, hy, hu with
      | 0, hy, hu => cases hy; cases hu; exact ⟨rfl, .val _ _⟩
    · cases hs
  | .str, t, fuel, cs, d, ps, hs, h => by
    simp only [Sh.ok] at hs
    split at hs
    · rename_i ht
      obtain ⟨b, rfl, hx, hw⟩ := DataW.trod_string ht h
      cases hx
      refine ⟨by simpa [Ty] using hw, rfl, rfl, fun i y u hy hu => ?_⟩
      match i, hy, hu with
      | 0, hy, hu => cases hy; cases hu; exact ⟨rfl, .val _ _⟩
    · cases hs
  | .sl e, t, fuel, cs, d, ps, hs, h => by
    simp only [Sh.ok] at hs
    split at hs
    · rename_i u ht
      simp only [Bool.and_eq_true, decide_eq_true_eq] at hs
      obtain ⟨⟨hC, hpos⟩, hok⟩ := hs
      rcases open_slice ht h with ⟨hcs, hx⟩ | ⟨a, len, cap, m, n', D, Pl, hcs, hb, hl, hm, hmm, hx, hi⟩
      · cases hx
        subst hcs
        refine ⟨by simp [Ty], rfl, rfl, fun i y u hy hu => ?_⟩
        match i, hy, hu with
        | 0, hy, hu =>
          cases hy; cases hu
          exact ⟨rfl, Rep.slice (S := S0 w) (w := w) (H := []) (A := none) (c := 0) (l := []) 0 0 _ (fun _ _ => undef) (by simp) (fun _ => rfl) (fun h => by simp at h) (fun i x hx => by simp at hx) (fun i x j y hx => by simp at hx) (fun i x j y hx => by simp at hx)⟩
      · cases hx
        subst hcs
        have hmc : m = cap := by simpa using hmm
        have el : ∀ i, i < len → ∃ cs', World.cells? w 0 (a.add (i * e.n)) e.n = some cs' ∧ Ty e (D i) ∧ cs'.length = e.n ∧ (dAV e (D i)).length = e.n ∧ ∀ (j : Nat) (y : AV) (v : Value), (dAV e (D i))[j]? = some y → cs'[j]? = some v → y.grCell = true ∧ Rep (S0 w) w [] v y := by
          intro i hil
          obtain ⟨cs', h1, h2⟩ := hi i (by omega)
          rw [hC] at h1
          exact ⟨cs', h1, rep_of e u n' cs' (D i) (Pl i) hok h2⟩
        have hty : ∀ x ∈ (List.range len).map D, Ty e x := fun x hx => by
          obtain ⟨i, hil, rfl⟩ := List.mem_map.1 hx
          exact (el i (List.mem_range.1 hil)).choose_spec.2.1
        refine ⟨by simp only [Ty]; exact ⟨by simp; omega, hty⟩, rfl, rfl, fun i y u hy hu => ?_⟩
        match i, hy, hu with
        | 0, hy, hu =>
          cases hy; cases hu
          refine ⟨rfl, ?_⟩
          have hlen : (((List.range len).map D).map fun x => e.mk (dAV e x)).length = len := by simp
          have key : ∀ (i : Nat) (x : AV), (((List.range len).map D).map fun x => e.mk (dAV e x))[i]? = some x → i < len ∧ x = e.mk (dAV e (D i)) := fun i x hx => by
            have hil : i < len := by have := (List.getElem?_eq_some_iff.1 hx).1; omega
            rw [List.getElem?_map, List.getElem?_map, List.getElem?_range hil] at hx
            simp only [Option.map_some, Option.some.injEq] at hx
            exact ⟨hil, hx.symm⟩
          by_cases hn : 0 < len
          · have hsp : ∃ b off, a = ⟨b, off, none⟩ ∧ b < w.heap.size := by
              obtain ⟨cs0, h0, -, hl0, -⟩ := el 0 hn
              obtain ⟨_, hl0', hat0⟩ := World.cells?_some h0
              have h00 := hat0 0 hpos
              have hlt : 0 < cs0.length := by omega
              rw [List.getElem?_eq_getElem hlt] at h00
              have hz : (a.add (0 * e.n)).add 0 = a := by simp [Addr.add]
              rw [hz] at h00
              obtain ⟨b, off, spot⟩ := a
              have : spot = none := World.cell?_spot h00
              subst this
              refine ⟨b, off, rfl, ?_⟩
              simp only [World.cell?] at h00
              split at h00
              · rename_i hh; exact (Array.getElem?_eq_some_iff.1 hh).1
              · cases h00
            obtain ⟨b, off, rfl, hlt⟩ := hsp
            have := Rep.slice (S := S0 w) (w := w) (H := []) (A := some ⟨b, off, none⟩) (c := cap) (l := (((List.range len).map D).map fun x => e.mk (dAV e x))) b off e.n (fun i j => if hil : i < len then ((el i hil).choose.getD j undef) else undef) (by omega) (fun h => by cases h) (fun _ => rfl)
              (fun i x hx => by
                obtain ⟨hil, rfl⟩ := key i x hx
                obtain ⟨h1, h2, h3, h4, h5⟩ := (el i hil).choose_spec
                rw [AV.ground, mk_cells h2]
                refine ⟨List.all_eq_true.2 fun y hy => ?_, h4⟩
                obtain ⟨j, hj, rfl⟩ := List.mem_iff_getElem.1 hy
                exact (h5 j _ _ (List.getElem?_eq_getElem hj) (List.getElem?_eq_getElem (by omega))).1)
              (fun i x j y hx hy => by
                obtain ⟨hil, rfl⟩ := key i x hx
                obtain ⟨h1, h2, h3, h4, h5⟩ := (el i hil).choose_spec
                rw [mk_cells h2] at hy
                have hj : j < e.n := by have := (List.getElem?_eq_some_iff.1 hy).1; omega
                refine ⟨?_, s0_of hlt _⟩
                obtain ⟨_, hl1, hat1⟩ := World.cells?_some h1
                have := hat1 j hj
                rw [dif_pos hil, List.getD_eq_getElem?_getD, List.getElem?_eq_getElem (by omega), Option.getD_some]
                rw [List.getElem?_eq_getElem (by omega)] at this
                exact (congrArg w.cell? (addr_add2 b off (i * e.n) j)).symm.trans this)
              (fun i x j y hx hy => by
                obtain ⟨hil, rfl⟩ := key i x hx
                obtain ⟨h1, h2, h3, h4, h5⟩ := (el i hil).choose_spec
                rw [mk_cells h2] at hy
                have hj : j < e.n := by have := (List.getElem?_eq_some_iff.1 hy).1; omega
                rw [dif_pos hil, List.getD_eq_getElem?_getD, List.getElem?_eq_getElem (by omega), Option.getD_some]
                exact (h5 j y _ hy (List.getElem?_eq_getElem (by omega))).2)
            rw [hlen] at this
            exact this
          · have hn0 : len = 0 := by omega
            subst hn0
            exact Rep.slice (S := S0 w) (w := w) (H := []) (A := some a) (c := cap) (l := []) 0 0 _ (fun _ _ => undef) (by simp) (fun h => by cases h) (fun h => by simp at h) (fun i x hx => by simp at hx) (fun i x j y hx => by simp at hx) (fun i x j y hx => by simp at hx)
    · cases hs
  | .st fs, t, fuel, cs, d, ps, hs, h => by
    simp only [Sh.ok] at hs
    split at hs
    · rename_i l ht
      simp only [Bool.and_eq_true, decide_eq_true_eq] at hs
      obtain ⟨xs, n, -, hx, hl, hxl, hf⟩ := DataW.trod_struct ht h
      cases hx
      obtain ⟨h1, h2, h3⟩ := rep_fields fs l.toList 0 n cs xs hs.2 (by simpa using hxl) (fun i f hi => hf i f (by simpa using hi))
      rw [hs.1] at hl
      refine ⟨by simpa [Ty] using h1, by simpa [Sh.n] using hl, by simpa [dAV, Sh.n] using h2, fun i y u hy hu => ?_⟩
      simp only [dAV] at hy
      exact h3 i y u hy (by simpa using hu)
    · rename_i n e ht
      simp only [Bool.and_eq_true, decide_eq_true_eq] at hs
      obtain ⟨xs, m, -, hx, hl, hxl, hf⟩ := DataW.trod_array ht h
      cases hx
      obtain ⟨h1, h2, h3⟩ := rep_items fs e 0 m cs xs hs.2 (by rw [hxl, hs.1.2]) (fun i hi => by
        have := hf i (by rw [← hs.1.2]; exact hi)
        simpa using this)
      rw [hs.1.1] at hl
      refine ⟨by simpa [Ty] using h1, by simpa [Sh.n] using hl, by simpa [dAV, Sh.n] using h2, fun i y u hy hu => ?_⟩
      simp only [dAV] at hy
      exact h3 i y u hy (by simpa using hu)
    · cases hs
theorem rep_fields : ∀ (fs : List Sh) (l : List Field) (o n : Nat) (cs : List Value) (xs : List (DataW H × List MemPlace)), Sh.okF Tryz.prog fs l o = true → xs.length = l.length →
    (∀ (i : Nat) (f : Field), l[i]? = some f → DataW.trod enc Tryz.prog w 0 (fun _ => true) true n f.type ((cs.drop f.offset).take (Tryz.prog.cellsOf f.type)) = xs[i]?) →
    Tys fs (xs.map (·.1)) ∧ (dAVs fs (xs.map (·.1))).length = Sh.ns fs ∧ ∀ (i : Nat) (y : AV) (u : Value), (dAVs fs (xs.map (·.1)))[i]? = some y → cs[o + i]? = some u → y.grCell = true ∧ Rep (S0 w) w [] u y
  | [], [], o, n, cs, xs, _, hx, _ => by
    obtain rfl : xs = [] := List.eq_nil_of_length_eq_zero hx
    exact ⟨by simp [Tys], rfl, fun i y u hy => by simp [dAVs] at hy⟩
  | [], _ :: _, o, n, cs, xs, hs, _, _ => by simp [Sh.okF] at hs
  | _ :: _, [], o, n, cs, xs, hs, _, _ => by simp [Sh.okF] at hs
  | s :: r, f :: l, o, n, cs, xs, hs, hx, hf => by
    simp only [Sh.okF, Bool.and_eq_true, decide_eq_true_eq] at hs
    obtain ⟨⟨⟨ho, hC⟩, hok⟩, hr⟩ := hs
    match xs, hx, hf with
    | x :: xs, hx, hf =>
      have h0 := hf 0 f rfl
      rw [ho, hC] at h0
      obtain ⟨a1, a2, a3, a4⟩ := rep_of s f.type n ((cs.drop o).take s.n) x.1 x.2 hok h0
      obtain ⟨b1, b2, b3⟩ := rep_fields r l (o + s.n) n cs xs hr (by simpa using hx) (fun i g hi => hf (i + 1) g hi)
      refine ⟨by simp only [List.map_cons, Tys]; exact ⟨a1, b1⟩, by simp only [List.map_cons, dAVs, Sh.ns, List.length_append, a3, b2], fun i y u hy hu => ?_⟩
      simp only [List.map_cons, dAVs] at hy
      by_cases hi : i < s.n
      · rw [List.getElem?_append_left (by omega)] at hy
        exact a4 i y u hy (drop_take_get hu hi)
      · rw [List.getElem?_append_right (by omega), a3] at hy
        exact b3 (i - s.n) y u hy (by rw [show o + s.n + (i - s.n) = o + i by omega]; exact hu)
theorem rep_items : ∀ (fs : List Sh) (e : TypeId) (k m : Nat) (cs : List Value) (xs : List (DataW H × List MemPlace)), Sh.okA Tryz.prog fs e = true → xs.length = fs.length →
    (∀ i, i < fs.length → DataW.trod enc Tryz.prog w 0 (fun _ => true) true m e ((cs.drop ((k + i) * Tryz.prog.cellsOf e)).take (Tryz.prog.cellsOf e)) = xs[i]?) →
    Tys fs (xs.map (·.1)) ∧ (dAVs fs (xs.map (·.1))).length = Sh.ns fs ∧ ∀ (i : Nat) (y : AV) (u : Value), (dAVs fs (xs.map (·.1)))[i]? = some y → cs[k * Tryz.prog.cellsOf e + i]? = some u → y.grCell = true ∧ Rep (S0 w) w [] u y
  | [], e, k, m, cs, xs, _, hx, _ => by
    obtain rfl : xs = [] := List.eq_nil_of_length_eq_zero hx
    exact ⟨by simp [Tys], rfl, fun i y u hy => by simp [dAVs] at hy⟩
  | s :: r, e, k, m, cs, xs, hs, hx, hf => by
    simp only [Sh.okA, Bool.and_eq_true, decide_eq_true_eq] at hs
    obtain ⟨⟨hC, hok⟩, hr⟩ := hs
    match xs, hx, hf with
    | x :: xs, hx, hf =>
      have h0 := hf 0 (by simp)
      rw [hC] at h0
      obtain ⟨a1, a2, a3, a4⟩ := rep_of s e m ((cs.drop ((k + 0) * s.n)).take s.n) x.1 x.2 hok h0
      obtain ⟨b1, b2, b3⟩ := rep_items r e (k + 1) m cs xs hr (by simpa using hx) (fun i hi => by
        have := hf (i + 1) (by simpa using hi)
        rw [show k + 1 + i = k + (i + 1) by omega]; simpa using this)
      refine ⟨by simp only [List.map_cons, Tys]; exact ⟨a1, b1⟩, by simp only [List.map_cons, dAVs, Sh.ns, List.length_append, a3, b2], fun i y u hy hu => ?_⟩
      simp only [List.map_cons, dAVs] at hy
      rw [hC] at hu b3
      by_cases hi : i < s.n
      · rw [List.getElem?_append_left (by omega)] at hy
        refine a4 i y u hy (drop_take_get ?_ hi)
        simpa using hu
      · rw [List.getElem?_append_right (by omega), a3] at hy
        refine b3 (i - s.n) y u hy ?_
        rw [show (k + 1) * s.n + (i - s.n) = k * s.n + i by rw [Nat.add_mul]; omega]; exact hu
end
theorem rep_arg {s : Sh} {t : TypeId} {v : Value} {d : DataW H} {p : List MemPlace} {b0 : Nat} (hs : s.ok Tryz.prog t = true) (hv : Value.okWide Tryz.prog w .any b0 t v)
    (h : DataW.Trod enc Tryz.prog w 0 (fun _ => true) true t v d p) : Ty s d ∧ Rep (S0 w) w [] v (s.mk (dAV s d)) := by
  obtain ⟨fuel, hf⟩ := h
  obtain ⟨h1, h2, h3, h4⟩ := rep_of s t fuel v.cells.toList d p hs hf
  refine ⟨h1, ?_⟩
  have one : ∀ x, dAV s d = [x] → v.cells = #[v] → s.mk (dAV s d) = x → Rep (S0 w) w [] v (s.mk (dAV s d)) := fun x hx hc hm => by
    rw [hm]
    exact (h4 0 x v (by rw [hx]; rfl) (by rw [hc]; rfl)).2
  cases s with
  | bool =>
    obtain ⟨b, rfl⟩ := Ty_bool h1
    simp only [Sh.ok] at hs
    split at hs
    · rename_i ht
      obtain ⟨b, rfl⟩ := okWide_bool ht hv
      exact one _ rfl rfl rfl
    · cases hs
  | int k =>
    obtain ⟨b, rfl, -⟩ := Ty_int h1
    simp only [Sh.ok] at hs
    split at hs
    · rename_i k' ht
      obtain ⟨b, rfl⟩ := okWide_int ht hv
      exact one _ rfl rfl rfl
    · cases hs
  | str =>
    obtain ⟨b, rfl, -⟩ := Ty_str h1
    simp only [Sh.ok] at hs
    split at hs
    · rename_i ht
      obtain ⟨b, rfl⟩ := okWide_string ht hv
      exact one _ rfl rfl rfl
    · cases hs
  | sl e =>
    simp only [Sh.ok] at hs
    split at hs
    · rename_i u ht
      obtain ⟨A, n, c, rfl⟩ := okWide_slice ht hv
      rcases Ty_sl h1 with rfl | ⟨elems, spare, rfl, -, -⟩
      · exact one (.slice e.n []) rfl rfl rfl
      · exact one _ (by simp only [dAV]; rfl) rfl (by simp only [dAV, Sh.mk]; rfl)
    · cases hs
  | st fs =>
    have hagg : ∃ cs : Array Value, v = .agg cs := by
      simp only [Sh.ok] at hs
      split at hs
      · rename_i l ht
        obtain ⟨cs, rfl, -⟩ := okWide_struct ht hv
        exact ⟨cs, rfl⟩
      · rename_i n e ht
        unfold Value.okWide at hv
        rw [ht] at hv
        obtain ⟨cs, rfl, -⟩ := hv
        exact ⟨cs, rfl⟩
      · cases hs
    obtain ⟨cs, rfl⟩ := hagg
    refine Rep.agg ?_ fun i y hy => ?_
    · simp only [Value.cells, Array.length_toList] at h2; rw [h2, h3]
    · have hi : i < cs.size := by
        have := (List.getElem?_eq_some_iff.1 hy).1
        simp only [Value.cells, Array.length_toList] at h2
        omega
      refine (h4 i y _ hy ?_).2
      simp only [Value.cells]
      rw [List.getElem?_eq_getElem (by simpa using hi)]
      simp [Array.getD, hi]
end
end Go.Proofs.YtfbpbkcplpkndaaGreatDoor
end
section
namespace Go.Proofs.YtfbpbkcplpkndaaGreatDoor
set_option linter.unusedVariables false
set_option linter.unusedSimpArgs false
open Go.RowKit Go.ChangeShapes Go.WideShapes Go.ChangeAt Go.Deep
section
variable {H : Type} {enc : TypeId × Value → H}
set_option maxRecDepth 100000 in
end
theorem laid_at {W : World} : ∀ {l : List (String × DataW Unit)} {ps : List MemPlace}, DataW.LaidVars Tryz.prog W l ps → ∀ {n : String} {d : DataW Unit}, (n, d) ∈ l →
    ∃ g t cs fuel p, Tryz.prog.globalNamed n = some g ∧ (Tryz.prog.globals[g]?).map (·.type) = some t ∧ W.var? Tryz.prog n = some cs ∧ DataW.trod (fun _ => ()) Tryz.prog W 0 (fun _ => true) false fuel t cs.toList = some (d, p)
  | [], ps, h, n, d, hm => by cases hm
  | (m, e) :: r, ps, h, n, d, hm => by
    obtain ⟨g, t, cs, fuel, p, q, h1, h2, h3, h4, h5, -⟩ := h
    rcases List.mem_cons.1 hm with q | q
    · cases q
      exact ⟨g, t, cs, fuel, p, h1, h2, h3, h4⟩
    · exact laid_at h5 q
theorem gr_ints {W : World} {laid : List (String × DataW Unit)} (hL : laidMet Tryz.prog laid W) {n : String} {g : Nat} {t e : TypeId} {k : IntKind} {zs : List Int} (hm : (n, Lib.tabData k zs) ∈ laid) (hn : Tryz.prog.globalNamed n = some g) (hty : (Tryz.prog.globals[g]?).map (·.type) = some t)
    {c : Nat} (ht : Tryz.prog.underlying t = some (.array c e)) (he : Tryz.prog.underlying e = some (.int k)) (hce : Tryz.prog.cellsOf e = 1) (hct : Tryz.prog.cellsOf t = c) :
    Rep (S0 W) W [] (.pointer (some ⟨g, 0, none⟩)) (.rptr (zs.map fun z => .val (.int k z))) ∧ ∀ o, (zs.map fun z => AV.val (.int k z)).length ≤ o → S0 W g o ∧ W.cell? ⟨g, o, none⟩ = none := by
  obtain ⟨ps, hV, -⟩ := hL
  obtain ⟨g', t', cs, fuel, p, h1, h2, h3, h4⟩ := laid_at hV hm
  obtain rfl := Option.some.inj (hn.symm.trans h1)
  obtain rfl := Option.some.inj (hty.symm.trans h2)
  have hcs := Lib.cells_of_tab ht he hce hct h4
  have hcs' : cs = (zs.map fun z => Value.int k z).toArray := by rw [← hcs]
  subst hcs'
  refine gr_of_var hn h3 (by simp) fun j y hy => ?_
  rw [List.getElem?_map, Option.map_eq_some_iff] at hy
  obtain ⟨z, hz, rfl⟩ := hy
  exact ⟨rfl, .int k z, by simp [hz], .val _ _⟩
theorem gr_err {W : World} {laid : List (String × DataW Unit)} (hL : laidMet Tryz.prog laid W) {n s : String} {d : DataW Unit} {g : Nat} {t : TypeId} (hm : (n, .iface s d) ∈ laid) (hn : Tryz.prog.globalNamed n = some g) (hty : (Tryz.prog.globals[g]?).map (·.type) = some t)
    {ms : Array (String × TypeId)} (ht : Tryz.prog.underlying t = some (.interface ms)) :
    Rep (S0 W) W [] (.pointer (some ⟨g, 0, none⟩)) (.rptr [.nif]) ∧ ∀ o, [AV.nif].length ≤ o → S0 W g o ∧ W.cell? ⟨g, o, none⟩ = none := by
  obtain ⟨ps, hV, -⟩ := hL
  obtain ⟨g', t', cs, fuel, p, h1, h2, h3, h4⟩ := laid_at hV hm
  obtain rfl := Option.some.inj (hn.symm.trans h1)
  obtain rfl := Option.some.inj (hty.symm.trans h2)
  have hcs : ∃ u v, cs = #[.iface u v] := by
    cases fuel with
    | zero => simp [DataW.trod] at h4
    | succ fuel =>
      obtain ⟨l⟩ := cs
      simp only [DataW.trod, ht] at h4
      split at h4 <;> first | (simp_all; done) | (rename_i u v _ _; exact ⟨u, v, by simp_all⟩) | skip
      all_goals (try (rename_i u v _ ; exact ⟨u, v, by simp_all⟩))
      all_goals (try (rename_i u v; exact ⟨u, v, by simp_all⟩))
  obtain ⟨u, v, rfl⟩ := hcs
  refine gr_of_var hn h3 rfl fun j y hy => ?_
  match j, hy with
  | 0, hy => cases hy; exact ⟨rfl, _, rfl, .nif _ _ _⟩
end Go.Proofs.YtfbpbkcplpkndaaGreatDoor
end
section
namespace Go.Proofs.YtfbpbkcplpkndaaGreatDoor
set_option linter.unusedVariables false
set_option linter.unusedSimpArgs false
theorem same_at {α : Type} {l : List α} {k : Nat} {x y : α} (h : l[k]? = some x) (h' : l[k]? = some y) : y = x := by rw [h] at h'; exact (Option.some.inj h').symm
theorem take_succ_get {α : Type} {l : List α} {k : Nat} {x : α} (h : l[k]? = some x) : l.take (k + 1) = l.take k ++ [x] := by
 obtain ⟨hk, rfl⟩ := get_of h
 rw [List.take_succ_eq_append_getElem hk]
theorem drop_get {α : Type} {l : List α} {k : Nat} {x : α} (h : l[k]? = some x) : l.drop k = x :: l.drop (k + 1) := by
 obtain ⟨hk, rfl⟩ := get_of h
 exact List.drop_eq_getElem_cons hk
theorem getD_of {α : Type} {l : List α} {k : Nat} {c z : α} (h : l[k]? = some c) : l.getD k z = c := by rw [List.getD_eq_getElem?_getD, h]; rfl
theorem u8_of {c : UInt8} {n : Nat} (h : (c.toNat : Int) = n) (hn : n < 256) : c = UInt8.ofNat n := by
 apply UInt8.toNat_inj.1
 rw [UInt8.toNat_ofNat']; omega
noncomputable def sameB {α : Type} (a b : α) : Bool := @decide (a = b) (Classical.propDecidable _)
end Go.Proofs.YtfbpbkcplpkndaaGreatDoor
end
section
namespace Go.Proofs.YtfbpbkcplpkndaaGreatDoor
set_option linter.unusedVariables false
set_option linter.unusedSimpArgs false
structure dig (c : UInt8) : Prop where
 lo : 48 ≤ c.toNat
 hi : c.toNat ≤ 57
theorem dig_iff {c : UInt8} : dig c ↔ 48 ≤ c.toNat ∧ c.toNat ≤ 57 := ⟨fun h => ⟨h.lo, h.hi⟩, fun h => ⟨h.1, h.2⟩⟩
instance (c : UInt8) : Decidable (dig c) := decidable_of_iff _ dig_iff.symm
def digsB (l : Bs) : Bool := decide (0 < l.length) && (decide (l.length ≤ 1) || decide (l[0]? ≠ some 48)) && decide (∀ c ∈ l, dig c)
def negB (l : Bs) : Bool := decide (l[0]? = some 45)
def numBody (l : Bs) : Bs := if negB l then l.drop 1 else l
def decB (l : Bs) : Bool := digsB (numBody l) && decide (l ≠ [45, 48])
def valF (a : Nat) (l : Bs) : Nat := l.foldl (fun a c => a * 10 + (c.toNat - 48)) a
def valD (l : Bs) : Nat := valF 0 l
theorem valD_snoc (l : Bs) (c : UInt8) : valD (l ++ [c]) = valD l * 10 + (c.toNat - 48) := by simp [valD, valF]
def valI (l : Bs) : Int := if negB l then -(valD (numBody l) : Int) else valD (numBody l)
def numV (l : Bs) : Int := if decB l = true ∧ InI64 (valI l) then valI l else 0
def numE (l : Bs) : Int := if decB l = true then (if InI64 (valI l) then 0 else 9) else 1
theorem num_ok {l : Bs} (h : decB l = true) (h2 : InI64 (valI l)) : numV l = valI l ∧ numE l = 0 := ⟨if_pos ⟨h, h2⟩, by rw [numE, if_pos h, if_pos h2]⟩
theorem num_over {l : Bs} (h : decB l = true) (h2 : ¬ InI64 (valI l)) : numV l = 0 ∧ numE l = 9 := ⟨if_neg fun q => h2 q.2, by rw [numE, if_pos h, if_neg h2]⟩
theorem num_bad {l : Bs} (h : decB l = false) : numV l = 0 ∧ numE l = 1 := ⟨if_neg fun q => by rw [h] at q; exact absurd q.1 (by decide), by rw [numE, if_neg (by rw [h]; decide)]⟩
theorem digsB_iff {l : Bs} : digsB l = true ↔ 0 < l.length ∧ (l.length ≤ 1 ∨ l[0]? ≠ some 48) ∧ ∀ c ∈ l, dig c := by
 simp only [digsB, Bool.and_eq_true, Bool.or_eq_true, decide_eq_true_eq, and_assoc]
theorem decB_iff {l : Bs} : decB l = true ↔ digsB (numBody l) = true ∧ l ≠ [45, 48] := by simp [decB]
theorem digit_nat {n : Nat} (h : n < 10) : (UInt8.ofNat (48 + n)).toNat = 48 + n := by rw [UInt8.toNat_ofNat']; omega
theorem dd_small {u : Nat} (h : u < 10) : Lib.decDigits u = [UInt8.ofNat (48 + u)] := by rw [Lib.decDigits, dif_pos h]
theorem dd_big {u : Nat} (h : ¬ u < 10) : Lib.decDigits u = Lib.decDigits (u / 10) ++ [UInt8.ofNat (48 + u % 10)] := by rw [Lib.decDigits, dif_neg h]
theorem dd_dig (u : Nat) : ∀ c ∈ Lib.decDigits u, dig c := by
 induction u using Nat.strongRecOn with
 | ind u ih =>
  intro c hc
  by_cases h : u < 10
  ·rw [dd_small h, List.mem_singleton] at hc
   subst hc; rw [dig_iff]; rw [digit_nat h]; omega
  ·rw [dd_big h] at hc
   rcases List.mem_append.1 hc with h1 | h1
   ·exact ih (u / 10) (by omega) c h1
   ·rw [List.mem_singleton] at h1
    subst h1; rw [dig_iff]; rw [digit_nat (Nat.mod_lt _ (by decide))]; omega
theorem dd_val (u : Nat) : valD (Lib.decDigits u) = u := by
 induction u using Nat.strongRecOn with
 | ind u ih =>
  by_cases h : u < 10
  ·rw [dd_small h]
   show 0 * 10 + ((UInt8.ofNat (48 + u)).toNat - 48) = u
   rw [digit_nat h]; omega
  ·rw [dd_big h, valD_snoc, ih (u / 10) (by omega), digit_nat (Nat.mod_lt _ (by decide))]; omega
theorem dd_pos (u : Nat) : 0 < (Lib.decDigits u).length := by rw [Lib.decDigits_length]; exact Lib.nDigits_pos u
theorem dd_head {u : Nat} (h : u ≠ 0) : (Lib.decDigits u)[0]? ≠ some 48 := by
 induction u using Nat.strongRecOn with
 | ind u ih =>
  by_cases h1 : u < 10
  ·rw [dd_small h1]
   simp only [List.getElem?_cons_zero, ne_eq, Option.some.injEq]
   intro e
   have := congrArg UInt8.toNat e
   rw [digit_nat h1] at this
   have e2 : (48 : UInt8).toNat = 48 := rfl
   omega
  ·rw [dd_big h1, List.getElem?_append_left (dd_pos _)]
   exact ih (u / 10) (by omega) (by omega)
theorem dd_digs (u : Nat) : digsB (Lib.decDigits u) = true := by
 rw [digsB_iff]
 refine ⟨dd_pos u, ?_, dd_dig u⟩
 by_cases h : u = 0
 ·left; subst h; rw [dd_small (by decide)]; simp
 ·exact .inr (dd_head h)
theorem dd_sign (u : Nat) : negB (Lib.decDigits u) = false := by
 unfold negB
 simp only [decide_eq_false_iff_not]
 intro e
 have hd := dd_dig u _ (List.mem_of_getElem? e)
 rw [dig_iff] at hd
 have e2 : (45 : UInt8).toNat = 45 := rfl
 omega
theorem itoa_neg' {n : Int} (h : n < 0) : Lib.itoa n = 45 :: Lib.decDigits n.natAbs := if_pos h
theorem itoa_pos' {n : Int} (h : ¬ n < 0) : Lib.itoa n = Lib.decDigits n.natAbs := by rw [Lib.itoa, if_neg h]; congr 1; omega
theorem itoa_body (n : Int) : numBody (Lib.itoa n) = Lib.decDigits n.natAbs := by
 by_cases h : n < 0
 ·rw [itoa_neg' h]; simp [numBody, negB]
 ·rw [itoa_pos' h]; simp [numBody, dd_sign]
theorem itoa_neg_iff (n : Int) : negB (Lib.itoa n) = decide (n < 0) := by
 by_cases h : n < 0
 ·rw [itoa_neg' h]; simp [negB, h]
 ·rw [itoa_pos' h, dd_sign]; simp [h]
theorem itoa_val (n : Int) : valI (Lib.itoa n) = n := by
 rw [valI, itoa_neg_iff, itoa_body, dd_val]
 by_cases h : n < 0
 ·simp only [h, decide_true, if_true]; omega
 ·simp only [h, decide_false, Bool.false_eq_true, if_false]; omega
theorem itoa_dec (n : Int) : decB (Lib.itoa n) = true := by
 rw [decB_iff, itoa_body]
 refine ⟨dd_digs _, fun e => ?_⟩
 have h := itoa_val n
 rw [e] at h
 have h0 : n = 0 := by rw [← h]; decide
 subst h0
 have : Lib.itoa 0 = [48] := by rw [itoa_pos' (by decide)]; exact dd_small (by decide)
 rw [this] at e
 cases e
end Go.Proofs.YtfbpbkcplpkndaaGreatDoor
end
section
namespace Go.Proofs
open Go.Shelf
def Tryz.lays137_ren : Go.Shelf.Ren := ⟨fun | 137 => 69 | 217 => 94 | 266 => 108 | n => n, fun | 9 => 9 | 5 => 5 | 3 => 3 | n => n, fun | n => n⟩
theorem Tryz.lays137 : Go.Proofs.Lays.n137 Tryz.prog Tryz.lays137_ren := {
 mixed := by kernel_rfl
 f137 := Tryz.func69.trans (congrArg some (by kernel_rfl))
 f217 := Tryz.func94.trans (congrArg some (by kernel_rfl))
 f266 := Tryz.func108.trans (congrArg some (by kernel_rfl))
 t3 := Tryz.underlying3
 a3 := Tryz.isAgg3
 z3 := Tryz.sizeOf3
 v3 := Tryz.zeroValue3
 t5 := Tryz.underlying5
 a5 := Tryz.isAgg5
 z5 := Tryz.sizeOf5
 v5 := Tryz.zeroValue5
 t9 := Tryz.underlying9
 a9 := Tryz.isAgg9
 z9 := Tryz.sizeOf9
 v9 := Tryz.zeroValue9 }
open Go.RowKit in
theorem Tryz.strings_IndexByte (s : ByteArray) (c : Int) (w : World) :
    Calls Tryz.prog 69 #[.string s, .int .u8 c] w fun e w' => e = .returned (.int .i64 (Lib.indexByte s.data.toList c.toNat.toUInt8)) ∧ w' = w := Any.strings_IndexByte Tryz.lays137 s c w
def Tryz.lays103_ren : Go.Shelf.Ren := ⟨fun | 103 => 97 | 210 => 112 | 206 => 99 | n => n, fun | 9 => 9 | 4 => 4 | 24 => 98 | 3 => 3 | n => n, fun | n => n⟩
theorem Tryz.lays103 : Go.Proofs.Lays.n103 Tryz.prog Tryz.lays103_ren := {
 mixed := by kernel_rfl
 f103 := Tryz.func97.trans (congrArg some (by kernel_rfl))
 f206 := Tryz.func99.trans (congrArg some (by kernel_rfl))
 f210 := Tryz.func112.trans (congrArg some (by kernel_rfl))
 t3 := Tryz.underlying3
 a3 := Tryz.isAgg3
 z3 := Tryz.sizeOf3
 v3 := Tryz.zeroValue3
 t4 := Tryz.underlying4
 a4 := Tryz.isAgg4
 z4 := Tryz.sizeOf4
 v4 := Tryz.zeroValue4
 t9 := Tryz.underlying9
 a9 := Tryz.isAgg9
 z9 := Tryz.sizeOf9
 v9 := Tryz.zeroValue9
 t24 := Tryz.underlying98
 a24 := Tryz.isAgg98
 z24 := Tryz.sizeOf98
 v24 := Tryz.zeroValue98 }
open Go.RowKit in
theorem Tryz.strings_CutPrefix (s p : ByteArray) (w : World) :
    Calls Tryz.prog 97 #[.string s, .string p] w fun e w' => e = .returned (.tuple #[.string ⟨(Lib.trimPrefix s.data.toList p.data.toList).toArray⟩, .bool (Lib.hasPrefix s.data.toList p.data.toList)]) ∧ w' = w := Any.strings_CutPrefix Tryz.lays103 s p w
def Tryz.lays104_ren : Go.Shelf.Ren := ⟨fun | 104 => 63 | 211 => 89 | 207 => 106 | n => n, fun | 9 => 9 | 4 => 4 | 24 => 98 | 3 => 3 | n => n, fun | n => n⟩
theorem Tryz.lays104 : Go.Proofs.Lays.n104 Tryz.prog Tryz.lays104_ren := {
 mixed := by kernel_rfl
 f104 := Tryz.func63.trans (congrArg some (by kernel_rfl))
 f207 := Tryz.func106.trans (congrArg some (by kernel_rfl))
 f211 := Tryz.func89.trans (congrArg some (by kernel_rfl))
 t3 := Tryz.underlying3
 a3 := Tryz.isAgg3
 z3 := Tryz.sizeOf3
 v3 := Tryz.zeroValue3
 t4 := Tryz.underlying4
 a4 := Tryz.isAgg4
 z4 := Tryz.sizeOf4
 v4 := Tryz.zeroValue4
 t9 := Tryz.underlying9
 a9 := Tryz.isAgg9
 z9 := Tryz.sizeOf9
 v9 := Tryz.zeroValue9
 t24 := Tryz.underlying98
 a24 := Tryz.isAgg98
 z24 := Tryz.sizeOf98
 v24 := Tryz.zeroValue98 }
open Go.RowKit in
theorem Tryz.strings_CutSuffix (s p : ByteArray) (w : World) (hs : s.size ≤ 9223372036854775807) :
    Calls Tryz.prog 63 #[.string s, .string p] w fun e w' => e = .returned (.tuple #[.string ⟨(Lib.trimSuffix s.data.toList p.data.toList).toArray⟩, .bool (Lib.hasSuffix s.data.toList p.data.toList)]) ∧ w' = w := Any.strings_CutSuffix Tryz.lays104 s p w hs
def Tryz.laysM171_ren : Go.Shelf.Ren := ⟨fun | 171 => 95 | 243 => 109 | 246 => 119 | 283 => 126 | 284 => 127 | 285 => 128 | 286 => 129 | 129 => 135 | 317 => 134 | 318 => 136 | 319 => 137 | 320 => 138 | 337 => 141 | 338 => 142 | n => n, fun | 3 => 3 | 9 => 9 | 2 => 2 | 4 => 4 | 171 => 150 | 0 => 0 | 53 => 151 | 37 => 60 | 5 => 5 | 173 => 154 | 212 => 157 | 51 => 147 | 20 => 20 | 213 => 158 | 46 => 141 | 232 => 173 | 233 => 174 | n => n, fun | 17 => 1 | 18 => 4 | 19 => 5 | n => n⟩
theorem Tryz.laysM171 : Go.Proofs.LaysM.n171 Tryz.prog Tryz.laysM171_ren := {
 mixed := by kernel_rfl
 f129 := Tryz.func135.trans (congrArg some (by kernel_rfl))
 f171 := Tryz.func95.trans (congrArg some (by kernel_rfl))
 f243 := Tryz.func109.trans (congrArg some (by kernel_rfl))
 f246 := Tryz.func119.trans (congrArg some (by kernel_rfl))
 f283 := Tryz.func126.trans (congrArg some (by kernel_rfl))
 f284 := Tryz.func127.trans (congrArg some (by kernel_rfl))
 f285 := Tryz.func128.trans (congrArg some (by kernel_rfl))
 f286 := Tryz.func129.trans (congrArg some (by kernel_rfl))
 f317 := Tryz.func134.trans (congrArg some (by kernel_rfl))
 f318 := Tryz.func136.trans (congrArg some (by kernel_rfl))
 f319 := Tryz.func137.trans (congrArg some (by kernel_rfl))
 f320 := Tryz.func138.trans (congrArg some (by kernel_rfl))
 f337 := Tryz.func141.trans (congrArg some (by kernel_rfl))
 f338 := Tryz.func142.trans (congrArg some (by kernel_rfl))
 t0 := Tryz.underlying0
 a0 := Tryz.isAgg0
 z0 := Tryz.sizeOf0
 v0 := Tryz.zeroValue0
 t2 := Tryz.underlying2
 a2 := Tryz.isAgg2
 z2 := Tryz.sizeOf2
 v2 := Tryz.zeroValue2
 t3 := Tryz.underlying3
 a3 := Tryz.isAgg3
 z3 := Tryz.sizeOf3
 v3 := Tryz.zeroValue3
 t4 := Tryz.underlying4
 a4 := Tryz.isAgg4
 z4 := Tryz.sizeOf4
 v4 := Tryz.zeroValue4
 t5 := Tryz.underlying5
 a5 := Tryz.isAgg5
 z5 := Tryz.sizeOf5
 v5 := Tryz.zeroValue5
 t9 := Tryz.underlying9
 a9 := Tryz.isAgg9
 z9 := Tryz.sizeOf9
 v9 := Tryz.zeroValue9
 t20 := Tryz.underlying20
 a20 := Tryz.isAgg20
 z20 := Tryz.sizeOf20
 v20 := Tryz.zeroValue20
 t37 := Tryz.underlying60
 a37 := Tryz.isAgg60
 z37 := Tryz.sizeOf60
 v37 := Tryz.zeroValue60
 t46 := Tryz.underlying141
 a46 := Tryz.isAgg141
 z46 := Tryz.sizeOf141
 v46 := Tryz.zeroValue141
 t51 := Tryz.underlying147
 a51 := Tryz.isAgg147
 z51 := Tryz.sizeOf147
 v51 := Tryz.zeroValue147
 t53 := Tryz.underlying151
 a53 := Tryz.isAgg151
 z53 := Tryz.sizeOf151
 v53 := Tryz.zeroValue151
 t171 := Tryz.underlying150
 a171 := Tryz.isAgg150
 z171 := Tryz.sizeOf150
 v171 := Tryz.zeroValue150
 t173 := Tryz.underlying154
 a173 := Tryz.isAgg154
 z173 := Tryz.sizeOf154
 v173 := Tryz.zeroValue154
 t212 := Tryz.underlying157
 a212 := Tryz.isAgg157
 z212 := Tryz.sizeOf157
 v212 := Tryz.zeroValue157
 t213 := Tryz.underlying158
 a213 := Tryz.isAgg158
 z213 := Tryz.sizeOf158
 t232 := Tryz.underlying173
 a232 := Tryz.isAgg173
 z232 := Tryz.sizeOf173
 v232 := Tryz.zeroValue173
 t233 := Tryz.underlying174
 a233 := Tryz.isAgg174
 z233 := Tryz.sizeOf174
 v233 := Tryz.zeroValue174
 g17 := by kernel_rfl
 g18 := by kernel_rfl
 g19 := by kernel_rfl
 i0 := by kernel_rfl
 i2 := by kernel_rfl
 i3 := by kernel_rfl
 i4 := by kernel_rfl
 i5 := by kernel_rfl
 i9 := by kernel_rfl
 i20 := by kernel_rfl
 i37 := by kernel_rfl
 i46 := by kernel_rfl
 i51 := by kernel_rfl
 i53 := by kernel_rfl
 i171 := by kernel_rfl
 i173 := by kernel_rfl
 i212 := by kernel_rfl
 i232 := by kernel_rfl
 i233 := by kernel_rfl
 m17 := by kernel_rfl
 m18 := by kernel_rfl
 m19 := by kernel_rfl }
open Go.RowKit Go.Sort Go.Lib in
theorem Tryz.strconv_Itoa (n : Int) (h0 : -9223372036854775808 ≤ n) (h1 : n ≤ 9223372036854775807) (w : World) (htab : Lib.TabIs Tryz.prog w "internal/strconv.uint64pow10" .u64 Lib.pow10Tab) :
    Calls Tryz.prog 95 #[.int .i64 n] w fun e w' => e = .returned (.string ⟨(Lib.itoa n).toArray⟩) ∧ ∃ k os, w' = grow (w.drewN k) os := Any.strconv_Itoa Tryz.laysM171 n h0 h1 w htab
def Tryz.laysC172_ren : Go.Shelf.Ren := ⟨fun | 172 => 132 | 244 => 139 | 245 => 140 | 247 => 143 | 279 => 144 | 280 => 145 | 281 => 146 | 282 => 147 | 287 => 148 | 316 => 149 | 171 => 95 | 205 => 150 | 321 => 151 | 322 => 152 | 243 => 109 | 246 => 119 | 283 => 126 | 284 => 127 | 285 => 128 | 286 => 129 | 129 => 135 | 317 => 134 | 318 => 136 | 319 => 137 | 320 => 138 | 337 => 141 | 338 => 142 | n => n, fun | 9 => 9 | 3 => 3 | 75 => 64 | 76 => 65 | 4 => 4 | 5 => 5 | 167 => 167 | 37 => 60 | 0 => 0 | 85 => 168 | 2 => 2 | 168 => 170 | 53 => 151 | 175 => 175 | 46 => 141 | 210 => 178 | 127 => 105 | 145 => 182 | 143 => 180 | 21 => 21 | 171 => 150 | 173 => 154 | 212 => 157 | 51 => 147 | 20 => 20 | 213 => 158 | 232 => 173 | 233 => 174 | 80 => 72 | n => n, fun | 15 => 6 | 16 => 7 | 17 => 1 | 18 => 4 | 19 => 5 | n => n⟩
theorem Tryz.laysC172 : Go.Proofs.LaysC.n172 Tryz.prog Tryz.laysC172_ren := {
 mixed := by kernel_rfl
 f129 := Tryz.func135.trans (congrArg some (by kernel_rfl))
 f171 := Tryz.func95.trans (congrArg some (by kernel_rfl))
 f172 := Tryz.func132.trans (congrArg some (by kernel_rfl))
 f205 := Tryz.func150.trans (congrArg some (by kernel_rfl))
 f243 := Tryz.func109.trans (congrArg some (by kernel_rfl))
 f244 := Tryz.func139.trans (congrArg some (by kernel_rfl))
 f245 := Tryz.func140.trans (congrArg some (by kernel_rfl))
 f246 := Tryz.func119.trans (congrArg some (by kernel_rfl))
 f247 := Tryz.func143.trans (congrArg some (by kernel_rfl))
 f279 := Tryz.func144.trans (congrArg some (by kernel_rfl))
 f280 := Tryz.func145.trans (congrArg some (by kernel_rfl))
 f281 := Tryz.func146.trans (congrArg some (by kernel_rfl))
 f282 := Tryz.func147.trans (congrArg some (by kernel_rfl))
 f283 := Tryz.func126.trans (congrArg some (by kernel_rfl))
 f284 := Tryz.func127.trans (congrArg some (by kernel_rfl))
 f285 := Tryz.func128.trans (congrArg some (by kernel_rfl))
 f286 := Tryz.func129.trans (congrArg some (by kernel_rfl))
 f287 := Tryz.func148.trans (congrArg some (by kernel_rfl))
 f316 := Tryz.func149.trans (congrArg some (by kernel_rfl))
 f317 := Tryz.func134.trans (congrArg some (by kernel_rfl))
 f318 := Tryz.func136.trans (congrArg some (by kernel_rfl))
 f319 := Tryz.func137.trans (congrArg some (by kernel_rfl))
 f320 := Tryz.func138.trans (congrArg some (by kernel_rfl))
 f321 := Tryz.func151.trans (congrArg some (by kernel_rfl))
 f322 := Tryz.func152.trans (congrArg some (by kernel_rfl))
 f337 := Tryz.func141.trans (congrArg some (by kernel_rfl))
 f338 := Tryz.func142.trans (congrArg some (by kernel_rfl))
 t0 := Tryz.underlying0
 a0 := Tryz.isAgg0
 z0 := Tryz.sizeOf0
 v0 := Tryz.zeroValue0
 t2 := Tryz.underlying2
 a2 := Tryz.isAgg2
 z2 := Tryz.sizeOf2
 v2 := Tryz.zeroValue2
 t3 := Tryz.underlying3
 a3 := Tryz.isAgg3
 z3 := Tryz.sizeOf3
 v3 := Tryz.zeroValue3
 t4 := Tryz.underlying4
 a4 := Tryz.isAgg4
 z4 := Tryz.sizeOf4
 v4 := Tryz.zeroValue4
 t5 := Tryz.underlying5
 a5 := Tryz.isAgg5
 z5 := Tryz.sizeOf5
 v5 := Tryz.zeroValue5
 t9 := Tryz.underlying9
 a9 := Tryz.isAgg9
 z9 := Tryz.sizeOf9
 v9 := Tryz.zeroValue9
 t20 := Tryz.underlying20
 a20 := Tryz.isAgg20
 z20 := Tryz.sizeOf20
 v20 := Tryz.zeroValue20
 t21 := Tryz.underlying21
 a21 := Tryz.isAgg21
 z21 := Tryz.sizeOf21
 v21 := Tryz.zeroValue21
 t37 := Tryz.underlying60
 a37 := Tryz.isAgg60
 z37 := Tryz.sizeOf60
 v37 := Tryz.zeroValue60
 t46 := Tryz.underlying141
 a46 := Tryz.isAgg141
 z46 := Tryz.sizeOf141
 v46 := Tryz.zeroValue141
 t51 := Tryz.underlying147
 a51 := Tryz.isAgg147
 z51 := Tryz.sizeOf147
 v51 := Tryz.zeroValue147
 t53 := Tryz.underlying151
 a53 := Tryz.isAgg151
 z53 := Tryz.sizeOf151
 v53 := Tryz.zeroValue151
 t75 := Tryz.underlying64
 a75 := Tryz.isAgg64
 z75 := Tryz.sizeOf64
 v75 := Tryz.zeroValue64
 t76 := Tryz.underlying65
 a76 := Tryz.isAgg65
 z76 := Tryz.sizeOf65
 v76 := Tryz.zeroValue65
 t85 := Tryz.underlying168
 a85 := Tryz.isAgg168
 z85 := Tryz.sizeOf168
 v85 := Tryz.zeroValue168
 t127 := Tryz.underlying105
 a127 := Tryz.isAgg105
 z127 := Tryz.sizeOf105
 v127 := Tryz.zeroValue105
 t143 := Tryz.underlying180
 a143 := Tryz.isAgg180
 z143 := Tryz.sizeOf180
 v143 := Tryz.zeroValue180
 t145 := Tryz.underlying182
 a145 := Tryz.isAgg182
 z145 := Tryz.sizeOf182
 v145 := Tryz.zeroValue182
 t167 := Tryz.underlying167
 a167 := Tryz.isAgg167
 z167 := Tryz.sizeOf167
 v167 := Tryz.zeroValue167
 t168 := Tryz.underlying170
 a168 := Tryz.isAgg170
 z168 := Tryz.sizeOf170
 v168 := Tryz.zeroValue170
 t171 := Tryz.underlying150
 a171 := Tryz.isAgg150
 z171 := Tryz.sizeOf150
 v171 := Tryz.zeroValue150
 t173 := Tryz.underlying154
 a173 := Tryz.isAgg154
 z173 := Tryz.sizeOf154
 v173 := Tryz.zeroValue154
 t175 := Tryz.underlying175
 a175 := Tryz.isAgg175
 z175 := Tryz.sizeOf175
 v175 := Tryz.zeroValue175
 t210 := Tryz.underlying178
 a210 := Tryz.isAgg178
 z210 := Tryz.sizeOf178
 v210 := Tryz.zeroValue178
 t212 := Tryz.underlying157
 a212 := Tryz.isAgg157
 z212 := Tryz.sizeOf157
 v212 := Tryz.zeroValue157
 t213 := Tryz.underlying158
 a213 := Tryz.isAgg158
 z213 := Tryz.sizeOf158
 t232 := Tryz.underlying173
 a232 := Tryz.isAgg173
 z232 := Tryz.sizeOf173
 v232 := Tryz.zeroValue173
 t233 := Tryz.underlying174
 a233 := Tryz.isAgg174
 z233 := Tryz.sizeOf174
 v233 := Tryz.zeroValue174
 g15 := by kernel_rfl
 g16 := by kernel_rfl
 g17 := by kernel_rfl
 g18 := by kernel_rfl
 g19 := by kernel_rfl
 t80 := Tryz.underlying72
 a80 := Tryz.isAgg72
 z80 := Tryz.sizeOf72
 v80 := Tryz.zeroValue72
 i0 := by kernel_rfl
 i2 := by kernel_rfl
 i3 := by kernel_rfl
 i4 := by kernel_rfl
 i5 := by kernel_rfl
 i9 := by kernel_rfl
 i20 := by kernel_rfl
 i21 := by kernel_rfl
 i37 := by kernel_rfl
 i46 := by kernel_rfl
 i51 := by kernel_rfl
 i53 := by kernel_rfl
 i75 := by kernel_rfl
 i76 := by kernel_rfl
 i80 := by kernel_rfl
 i85 := by kernel_rfl
 i127 := by kernel_rfl
 i143 := by kernel_rfl
 i145 := by kernel_rfl
 i167 := by kernel_rfl
 i168 := by kernel_rfl
 i171 := by kernel_rfl
 i173 := by kernel_rfl
 i175 := by kernel_rfl
 i210 := by kernel_rfl
 i212 := by kernel_rfl
 i232 := by kernel_rfl
 i233 := by kernel_rfl
 m15 := by kernel_rfl
 m16 := by kernel_rfl
 m17 := by kernel_rfl
 m18 := by kernel_rfl
 m19 := by kernel_rfl
 c0 := by kernel_rfl
 c2 := by kernel_rfl
 c3 := by kernel_rfl
 c4 := by kernel_rfl
 c5 := by kernel_rfl
 c9 := by kernel_rfl
 c20 := by kernel_rfl
 c21 := by kernel_rfl
 c37 := by kernel_rfl
 c46 := by kernel_rfl
 c51 := by kernel_rfl
 c53 := by kernel_rfl
 c75 := by kernel_rfl
 c76 := by kernel_rfl
 c80 := by kernel_rfl
 c85 := by kernel_rfl
 c127 := by kernel_rfl
 c143 := by kernel_rfl
 c145 := by kernel_rfl
 c167 := by kernel_rfl
 c168 := by kernel_rfl
 c171 := by kernel_rfl
 c173 := by kernel_rfl
 c175 := by kernel_rfl
 c210 := by kernel_rfl
 c212 := by kernel_rfl
 c213 := by kernel_rfl
 c232 := by kernel_rfl
 c233 := by kernel_rfl }
open Go.RowKit in
theorem Tryz.strconv_Atoi_ok (s : ByteArray) (hmax : s.size ≤ 9223372036854775806) (v : Int) (h : Lib.atoiAll s.data.toList = .ok v) (w : World) :
    Calls Tryz.prog 132 #[.string s] w fun e w' => e = .returned (.tuple #[.int .i64 v, .nilIface]) ∧ (w' = w ∨ ∃ t, w' = Lib.bytesWorld w 5 t) := Any.strconv_Atoi_ok Tryz.laysC172 s hmax v h w
open Go.RowKit in
theorem Tryz.strconv_Atoi_syntax (s : ByteArray) (hlim : s.size ≤ 281474976710656) (h : Lib.atoiAll s.data.toList = Go.Lib.NumEnd.syntax) (ev : Value) (w : World) (hv : w.cell? ⟨6, 0, none⟩ = some ev) (hev : ev = .nilIface ∨ ∃ te pe, ev = .iface te pe) :
    Calls Tryz.prog 132 #[.string s] w fun e w' => ∃ N, e = .returned (.tuple #[.int .i64 (0), .iface 170 (.pointer (some ⟨N, 0, none⟩))]) ∧ w.heap.size ≤ N ∧ w'.heap[N]? = some (.cells #[.string ⟨#[65, 116, 111, 105]⟩, .string s, ev] 178 (0, 0)) ∧ Below w.heap.size w w' := Any.strconv_Atoi_syntax Tryz.laysC172 s hlim h ev w hv hev
open Go.RowKit in
theorem Tryz.strconv_Atoi_range (s : ByteArray) (hlim : s.size ≤ 281474976710656) (h : Lib.atoiAll s.data.toList = .range) (ev : Value) (w : World) (hv : w.cell? ⟨7, 0, none⟩ = some ev) (hev : ev = .nilIface ∨ ∃ te pe, ev = .iface te pe) :
    Calls Tryz.prog 132 #[.string s] w fun e w' => ∃ N, e = .returned (.tuple #[.int .i64 (Lib.atoiSat s.data.toList), .iface 170 (.pointer (some ⟨N, 0, none⟩))]) ∧ w.heap.size ≤ N ∧ w'.heap[N]? = some (.cells #[.string ⟨#[65, 116, 111, 105]⟩, .string s, ev] 178 (0, 0)) ∧ Below w.heap.size w w' := Any.strconv_Atoi_range Tryz.laysC172 s hlim h ev w hv hev
def Tryz.lays144_ren : Go.Shelf.Ren := ⟨fun | 144 => 67 | 143 => 92 | 219 => 107 | 217 => 94 | 225 => 116 | 224 => 117 | 267 => 118 | 266 => 108 | 314 => 125 | n => n, fun | 9 => 9 | 4 => 4 | 3 => 3 | 5 => 5 | 46 => 141 | 146 => 148 | 51 => 147 | n => n, fun | 1 => 0 | n => n⟩
theorem Tryz.lays144 : Go.Proofs.Lays.n144 Tryz.prog Tryz.lays144_ren := {
 mixed := by kernel_rfl
 f143 := Tryz.func92.trans (congrArg some (by kernel_rfl))
 f144 := Tryz.func67.trans (congrArg some (by kernel_rfl))
 f217 := Tryz.func94.trans (congrArg some (by kernel_rfl))
 f219 := Tryz.func107.trans (congrArg some (by kernel_rfl))
 f224 := Tryz.func117.trans (congrArg some (by kernel_rfl))
 f225 := Tryz.func116.trans (congrArg some (by kernel_rfl))
 f266 := Tryz.func108.trans (congrArg some (by kernel_rfl))
 f267 := Tryz.func118.trans (congrArg some (by kernel_rfl))
 f314 := Tryz.func125.trans (congrArg some (by kernel_rfl))
 t3 := Tryz.underlying3
 a3 := Tryz.isAgg3
 z3 := Tryz.sizeOf3
 v3 := Tryz.zeroValue3
 t4 := Tryz.underlying4
 a4 := Tryz.isAgg4
 z4 := Tryz.sizeOf4
 v4 := Tryz.zeroValue4
 t5 := Tryz.underlying5
 a5 := Tryz.isAgg5
 z5 := Tryz.sizeOf5
 v5 := Tryz.zeroValue5
 t9 := Tryz.underlying9
 a9 := Tryz.isAgg9
 z9 := Tryz.sizeOf9
 v9 := Tryz.zeroValue9
 t46 := Tryz.underlying141
 a46 := Tryz.isAgg141
 z46 := Tryz.sizeOf141
 v46 := Tryz.zeroValue141
 t51 := Tryz.underlying147
 a51 := Tryz.isAgg147
 z51 := Tryz.sizeOf147
 v51 := Tryz.zeroValue147
 t146 := Tryz.underlying148
 a146 := Tryz.isAgg148
 z146 := Tryz.sizeOf148
 v146 := Tryz.zeroValue148
 g1 := by kernel_rfl }
open Go.RowKit Go.Lib in
theorem Tryz.strings_Contains_one (s : ByteArray) (c : UInt8) (w : World) :
    Calls Tryz.prog 67 #[.string s, .string ⟨#[c]⟩] w fun e w' => e = .returned (.bool (decide (0 ≤ Lib.indexByte s.data.toList c))) ∧ w' = w := Any.strings_Contains_one Tryz.lays144 s c w
def Tryz.lays145_ren : Go.Shelf.Ren := ⟨fun | 145 => 100 | 220 => 113 | 219 => 107 | 217 => 94 | 225 => 116 | 224 => 117 | 267 => 118 | 266 => 108 | 314 => 125 | n => n, fun | 9 => 9 | 4 => 4 | 59 => 127 | 3 => 3 | 5 => 5 | 46 => 141 | 146 => 148 | 51 => 147 | n => n, fun | 1 => 0 | n => n⟩
theorem Tryz.lays145 : Go.Proofs.Lays.n145 Tryz.prog Tryz.lays145_ren := {
 mixed := by kernel_rfl
 f145 := Tryz.func100.trans (congrArg some (by kernel_rfl))
 f217 := Tryz.func94.trans (congrArg some (by kernel_rfl))
 f219 := Tryz.func107.trans (congrArg some (by kernel_rfl))
 f220 := Tryz.func113.trans (congrArg some (by kernel_rfl))
 f224 := Tryz.func117.trans (congrArg some (by kernel_rfl))
 f225 := Tryz.func116.trans (congrArg some (by kernel_rfl))
 f266 := Tryz.func108.trans (congrArg some (by kernel_rfl))
 f267 := Tryz.func118.trans (congrArg some (by kernel_rfl))
 f314 := Tryz.func125.trans (congrArg some (by kernel_rfl))
 t3 := Tryz.underlying3
 a3 := Tryz.isAgg3
 z3 := Tryz.sizeOf3
 v3 := Tryz.zeroValue3
 t4 := Tryz.underlying4
 a4 := Tryz.isAgg4
 z4 := Tryz.sizeOf4
 v4 := Tryz.zeroValue4
 t5 := Tryz.underlying5
 a5 := Tryz.isAgg5
 z5 := Tryz.sizeOf5
 v5 := Tryz.zeroValue5
 t9 := Tryz.underlying9
 a9 := Tryz.isAgg9
 z9 := Tryz.sizeOf9
 v9 := Tryz.zeroValue9
 t46 := Tryz.underlying141
 a46 := Tryz.isAgg141
 z46 := Tryz.sizeOf141
 v46 := Tryz.zeroValue141
 t51 := Tryz.underlying147
 a51 := Tryz.isAgg147
 z51 := Tryz.sizeOf147
 v51 := Tryz.zeroValue147
 t59 := Tryz.underlying127
 a59 := Tryz.isAgg127
 z59 := Tryz.sizeOf127
 v59 := Tryz.zeroValue127
 t146 := Tryz.underlying148
 a146 := Tryz.isAgg148
 z146 := Tryz.sizeOf148
 v146 := Tryz.zeroValue148
 g1 := by kernel_rfl }
open Go.RowKit Go.Lib in
theorem Tryz.strings_Cut (s sep : ByteArray) (m : Int) (w : World) (hs : s.size < 4294967281) (hm : w.cell? ⟨0, 0, none⟩ = some (.int .i64 m)) :
    Calls Tryz.prog 100 #[.string s, .string sep] w fun e w' => e = .returned (.tuple #[.string ⟨(Lib.cut s.data.toList sep.data.toList).1.toArray⟩, .string ⟨(Lib.cut s.data.toList sep.data.toList).2.1.toArray⟩, .bool (Lib.cut s.data.toList sep.data.toList).2.2]) ∧ ∃ n, w' = w.drewN n := Any.strings_Cut Tryz.lays145 s sep m w hs hm
def Tryz.lays99_ren : Go.Shelf.Ren := ⟨fun | 99 => 80 | 206 => 99 | n => n, fun | 9 => 9 | 4 => 4 | 3 => 3 | n => n, fun | n => n⟩
theorem Tryz.lays99 : Go.Proofs.Lays.n99 Tryz.prog Tryz.lays99_ren := {
 mixed := by kernel_rfl
 f99 := Tryz.func80.trans (congrArg some (by kernel_rfl))
 f206 := Tryz.func99.trans (congrArg some (by kernel_rfl))
 t3 := Tryz.underlying3
 a3 := Tryz.isAgg3
 z3 := Tryz.sizeOf3
 v3 := Tryz.zeroValue3
 t4 := Tryz.underlying4
 a4 := Tryz.isAgg4
 z4 := Tryz.sizeOf4
 v4 := Tryz.zeroValue4
 t9 := Tryz.underlying9
 a9 := Tryz.isAgg9
 z9 := Tryz.sizeOf9
 v9 := Tryz.zeroValue9 }
open Go.RowKit Go.Lib in
theorem Tryz.strings_HasPrefix (s p : ByteArray) (w : World) :
    Calls Tryz.prog 80 #[.string s, .string p] w fun e w' => e = .returned (.bool (Lib.hasPrefix s.data.toList p.data.toList)) ∧ w' = w := Any.strings_HasPrefix Tryz.lays99 s p w
def Tryz.lays146_ren : Go.Shelf.Ren := ⟨fun | 146 => 77 | 221 => 96 | 268 => 110 | 138 => 111 | 143 => 92 | 195 => 120 | 197 => 121 | 218 => 122 | 219 => 107 | 260 => 130 | 217 => 94 | 225 => 116 | 224 => 117 | 267 => 118 | 266 => 108 | 314 => 125 | n => n, fun | 9 => 9 | 31 => 39 | 3 => 3 | 4 => 4 | 0 => 0 | 105 => 143 | 21 => 21 | 5 => 5 | 46 => 141 | 119 => 161 | 139 => 164 | 138 => 163 | 146 => 148 | 51 => 147 | n => n, fun | 1 => 0 | 3 => 2 | 4 => 3 | n => n⟩
theorem Tryz.lays146 : Go.Proofs.Lays.n146 Tryz.prog Tryz.lays146_ren := {
 mixed := by kernel_rfl
 f138 := Tryz.func111.trans (congrArg some (by kernel_rfl))
 f143 := Tryz.func92.trans (congrArg some (by kernel_rfl))
 f146 := Tryz.func77.trans (congrArg some (by kernel_rfl))
 f195 := Tryz.func120.trans (congrArg some (by kernel_rfl))
 f197 := Tryz.func121.trans (congrArg some (by kernel_rfl))
 f217 := Tryz.func94.trans (congrArg some (by kernel_rfl))
 f218 := Tryz.func122.trans (congrArg some (by kernel_rfl))
 f219 := Tryz.func107.trans (congrArg some (by kernel_rfl))
 f221 := Tryz.func96.trans (congrArg some (by kernel_rfl))
 f224 := Tryz.func117.trans (congrArg some (by kernel_rfl))
 f225 := Tryz.func116.trans (congrArg some (by kernel_rfl))
 f260 := Tryz.func130.trans (congrArg some (by kernel_rfl))
 f266 := Tryz.func108.trans (congrArg some (by kernel_rfl))
 f267 := Tryz.func118.trans (congrArg some (by kernel_rfl))
 f268 := Tryz.func110.trans (congrArg some (by kernel_rfl))
 f314 := Tryz.func125.trans (congrArg some (by kernel_rfl))
 t0 := Tryz.underlying0
 a0 := Tryz.isAgg0
 z0 := Tryz.sizeOf0
 v0 := Tryz.zeroValue0
 t3 := Tryz.underlying3
 a3 := Tryz.isAgg3
 z3 := Tryz.sizeOf3
 v3 := Tryz.zeroValue3
 t4 := Tryz.underlying4
 a4 := Tryz.isAgg4
 z4 := Tryz.sizeOf4
 v4 := Tryz.zeroValue4
 t5 := Tryz.underlying5
 a5 := Tryz.isAgg5
 z5 := Tryz.sizeOf5
 v5 := Tryz.zeroValue5
 t9 := Tryz.underlying9
 a9 := Tryz.isAgg9
 z9 := Tryz.sizeOf9
 v9 := Tryz.zeroValue9
 t21 := Tryz.underlying21
 a21 := Tryz.isAgg21
 z21 := Tryz.sizeOf21
 v21 := Tryz.zeroValue21
 t31 := Tryz.underlying39
 a31 := Tryz.isAgg39
 z31 := Tryz.sizeOf39
 v31 := Tryz.zeroValue39
 t46 := Tryz.underlying141
 a46 := Tryz.isAgg141
 z46 := Tryz.sizeOf141
 v46 := Tryz.zeroValue141
 t51 := Tryz.underlying147
 a51 := Tryz.isAgg147
 z51 := Tryz.sizeOf147
 v51 := Tryz.zeroValue147
 t105 := Tryz.underlying143
 a105 := Tryz.isAgg143
 z105 := Tryz.sizeOf143
 v105 := Tryz.zeroValue143
 t119 := Tryz.underlying161
 a119 := Tryz.isAgg161
 z119 := Tryz.sizeOf161
 t138 := Tryz.underlying163
 a138 := Tryz.isAgg163
 z138 := Tryz.sizeOf163
 v138 := Tryz.zeroValue163
 t139 := Tryz.underlying164
 a139 := Tryz.isAgg164
 z139 := Tryz.sizeOf164
 v139 := Tryz.zeroValue164
 t146 := Tryz.underlying148
 a146 := Tryz.isAgg148
 z146 := Tryz.sizeOf148
 v146 := Tryz.zeroValue148
 g1 := by kernel_rfl
 g3 := by kernel_rfl
 g4 := by kernel_rfl }
open Go.RowKit Go.Lib in
theorem Tryz.strings_Split (s sep : ByteArray) (m : Int) (w : World) (hs : s.size < 4294967281) (hm : w.cell? ⟨0, 0, none⟩ = some (.int .i64 m)) (h1 : 1 ≤ sep.size) :
    Calls Tryz.prog 77 #[.string s, .string sep] w fun e w' =>
      e = .returned (.slice (some ⟨w.heap.size, 0, none⟩) (Lib.countB s sep + 1) (Lib.countB s sep + 1)) ∧ w' = w.alloc (.cells ((Lib.splitB sep 0 (Lib.countB s sep) s).map Value.string).toArray 9) := Any.strings_Split Tryz.lays146 (by kernel_rfl) s sep m w hs hm h1
end Go.Proofs
end
section
namespace Go.Proofs.YtfbpbkcplpkndaaGreatDoor
set_option linter.unusedVariables false
set_option linter.unusedSimpArgs false
set_option maxRecDepth 100000
theorem gr_cells {w : World} {S : Nat → Nat → Prop} {g : Nat} {l : List AV} (h : GR S w []) (hg : GT g = some l) (hl : 0 < l.length) : ∃ (cs : Array Value) (t : TypeId) (fz : Nat × Nat), w.heap[g]? = some (.cells cs t fz) ∧ cs.size = l.length ∧ ∀ (j : Nat) (y : AV), l[j]? = some y → ∃ u, cs[j]? = some u ∧ Rep S w [] u y := by
 obtain ⟨h1, h2⟩ := h g l hg
 cases h1 with
 | rptr b o u hgr hcell hrep =>
  have h0 := (hcell 0 _ (List.getElem?_eq_getElem hl)).1
  simp only [World.cell?] at h0
  split at h0
  ·rename_i cs t fz hh
   have hc : ∀ j, w.cell? ⟨g, j, none⟩ = cs[j]? := fun j => by simp [World.cell?, hh]
   refine ⟨cs, t, fz, hh, ?_, fun j y hy => ⟨u j, ?_, hrep j y hy⟩⟩
   ·have hn := (h2 l.length (Nat.le_refl _)).2
    rw [hc] at hn
    have h3 : cs.size ≤ l.length := by
     rcases Nat.lt_or_ge l.length cs.size with q | q
     ·rw [Array.getElem?_eq_getElem q] at hn; cases hn
     ·exact q
    have h4 := (hcell (l.length - 1) _ (List.getElem?_eq_getElem (by omega))).1
    rw [hc] at h4
    have := (Array.getElem?_eq_some_iff.1 h4).1
    omega
   ·have := (hcell j y hy).1
    rw [Nat.zero_add, hc] at this
    exact this
  ·cases h0
theorem gr_nif {w : World} {S : Nat → Nat → Prop} {g : Nat} (h : GR S w []) (hg : GT g = some [.nif]) : ∃ ev, w.cell? ⟨g, 0, none⟩ = some ev ∧ (ev = .nilIface ∨ ∃ te pe, ev = .iface te pe) := by
 obtain ⟨cs, t, fz, hh, hs, hc⟩ := gr_cells h hg (by decide)
 obtain ⟨u, hu, hr⟩ := hc 0 .nif rfl
 refine ⟨u, by simp [World.cell?, hh, hu], ?_⟩
 cases hr with
 | nif H t v => exact .inr ⟨t, v, rfl⟩
theorem gr_tab {w : World} {S : Nat → Nat → Prop} {g : Nat} {n : String} (h : GR S w []) (hn : Tryz.prog.globalNamed n = some g) (hg : GT g = some (ints64 pow10L)) : Lib.TabIs Tryz.prog w n .u64 Lib.pow10Tab := by
 obtain ⟨cs, t, fz, hh, hs, hc⟩ := gr_cells h hg (by decide)
 unfold Lib.TabIs World.var?
 rw [hn]
 simp only [Option.bind_some, hh, Option.some.injEq]
 have hl : (ints64 pow10L).length = 20 := rfl
 have hp : ∀ j, j < 20 → (ints64 pow10L)[j]? = some (.val (.int .u64 ((10 ^ j : Nat) : Int))) := fun j hj => by
  have h : ∀ i : Fin 20, pow10L[i.val]? = some (10 ^ i.val) := by decide +kernel
  unfold ints64
  rw [List.getElem?_map, h ⟨j, hj⟩]; rfl
 apply Array.ext
 ·rw [hs, hl]; simp [Lib.pow10Tab]
 ·intro i h1 h2
  have hi : i < 20 := by omega
  obtain ⟨u, hu, hr⟩ := hc i _ (hp i hi)
  have e := rep_val hr
  subst e
  rw [Array.getElem?_eq_getElem h1] at hu
  rw [Option.some.inj hu]
  simp [Lib.pow10Tab]
theorem val1 {w : World} {S : Nat → Nat → Prop} {cs : Array Value} {a : Value} (h : RepL S w [] cs [.val a]) : cs = #[a] := by
 obtain ⟨hn, hr⟩ := h
 have e0 := rep_val (hr 0 _ rfl)
 apply Array.ext
 ·simpa using hn
 ·intro i h1 h2
  have h3 : i = 0 := by simp at h2; omega
  subst h3
  rw [Array.getD_eq_getD_getElem?, Array.getElem?_eq_getElem h1] at e0
  exact e0
def itoaX : List AV → Option AV
 | [.val (.int .i64 n)] => if InI64 n then some (strL (Lib.itoa n)) else none
 | _ => none
def atoiX : List AV → Option AV
 | [.val (.string s)] => if s.size ≤ 281474976710656 then (match Lib.atoiAll s.data.toList with
  | .ok v => some (.tuple [intA v, .val .nilIface])
  | Go.Lib.NumEnd.syntax => some (.tuple [intA 0, .nif])
  | .range => some (.tuple [intA (Lib.atoiSat s.data.toList), .nif])) else none
 | _ => none
theorem itoaX_ok {vs : List AV} {r : AV} (h : itoaX vs = some r) : CallOk Tryz.prog 95 vs r := by
 unfold itoaX at h
 split at h
 ·rename_i n
  split at h
  ·rename_i hn
   cases h
   intro X w cs hX hG hr
   obtain rfl := val1 hr
   refine (Tryz.strconv_Itoa n hn.1 hn.2 w (gr_tab (g := 1) hG (by kernel_rfl) rfl)).mono fun e w' ⟨he, k, os, hw⟩ => ?_
   subst he hw
   exact ⟨_, rfl, .val _ _, Fr.of_below (Lib.below_grow _ w (Nat.le_refl _) k os)⟩
  ·cases h
 ·cases h
theorem rep_tuple2 {S : Nat → Nat → Prop} {w : World} {H : List Hd} {u v : Value} {x y : AV} (h : Rep S w H u x) (h' : Rep S w H v y) : Rep S w H (.tuple #[u, v]) (.tuple [x, y]) := .tuple rfl fun i z hz => by
 match i, hz with
 | 0, hz => cases hz; exact h
 | 1, hz => cases hz; exact h'
theorem atoiX_ok {vs : List AV} {r : AV} (h : atoiX vs = some r) : CallOk Tryz.prog 132 vs r := by
 unfold atoiX at h
 split at h
 ·rename_i s
  split at h
  ·rename_i hs
   split at h
   ·rename_i v hv
    cases h
    intro X w cs hX hG hr
    obtain rfl := val1 hr
    refine (Tryz.strconv_Atoi_ok s (by omega) v hv w).mono fun e w' ⟨he, hw⟩ => ?_
    subst he
    refine ⟨_, rfl, rep_tuple2 (.val _ _) (.val _ _), ?_⟩
    rcases hw with rfl | ⟨t, rfl⟩
    ·exact Fr.refl _ _
    ·exact Fr.of_below (Lib.bytesWorld_below _ _ _)
   ·rename_i hv
    cases h
    intro X w cs hX hG hr
    obtain rfl := val1 hr
    obtain ⟨ev, h1, h2⟩ := gr_nif (g := 6) hG rfl
    refine (Tryz.strconv_Atoi_syntax s hs hv ev w h1 h2).mono fun e w' ⟨n, he, _, _, hb⟩ => ?_
    subst he
    exact ⟨_, rfl, rep_tuple2 (.val _ _) (.nif _ _ _), Fr.of_below hb⟩
   ·rename_i hv
    cases h
    intro X w cs hX hG hr
    obtain rfl := val1 hr
    obtain ⟨ev, h1, h2⟩ := gr_nif (g := 7) hG rfl
    refine (Tryz.strconv_Atoi_range s hs hv ev w h1 h2).mono fun e w' ⟨n, he, _, _, hb⟩ => ?_
    subst he
    exact ⟨_, rfl, rep_tuple2 (.val _ _) (.nif _ _ _), Fr.of_below hb⟩
  ·cases h
 ·cases h
end Go.Proofs.YtfbpbkcplpkndaaGreatDoor
end
section
namespace Go.Proofs.YtfbpbkcplpkndaaGreatDoor
set_option linter.unusedVariables false
set_option linter.unusedSimpArgs false
def flF (c : UInt8) (s : Bs) : Nat → Nat
 | 0 => 0
 | i + 1 => if s[i]? = some c then i + 1 else flF c s i
def flO (c : UInt8) (s : Bs) : Nat → List Bs
 | 0 => []
 | i + 1 => if s[i]? = some c then flO c s i ++ [(s.take i).drop (flF c s i)] else flO c s i
def flds (c : UInt8) (s : Bs) : List Bs := flO c s s.length ++ [s.drop (flF c s s.length)]
def lins (s : Bs) : List Bs := if flF 10 s s.length < s.length then flds 10 s else flO 10 s s.length
def endB (s : Bs) : Bool := decide (¬ flF 10 s s.length < s.length)
section
variable {c : UInt8} {s : Bs} {i : Nat}
theorem flF_y (h : s[i]? = some c) : flF c s (i + 1) = i + 1 := if_pos h
theorem flF_n (h : ¬ s[i]? = some c) : flF c s (i + 1) = flF c s i := if_neg h
theorem flO_y (h : s[i]? = some c) : flO c s (i + 1) = flO c s i ++ [(s.take i).drop (flF c s i)] := if_pos h
theorem flO_n (h : ¬ s[i]? = some c) : flO c s (i + 1) = flO c s i := if_neg h
theorem flF_le (c : UInt8) (s : Bs) : ∀ i, flF c s i ≤ i
 | 0 => Nat.le_refl _
 | i + 1 => by
  have := flF_le c s i
  unfold flF; split <;> omega
theorem flO_len (c : UInt8) (s : Bs) : ∀ i, (flO c s i).length ≤ i
 | 0 => Nat.le_refl _
 | i + 1 => by
  have := flO_len c s i
  unfold flO; split
  ·simp; omega
  ·omega
end
theorem fl_shift (c : UInt8) (y s : Bs) (hy : ∀ x ∈ y, x ≠ c) : ∀ i, flF c (y ++ c :: s) (y.length + 1 + i) = y.length + 1 + flF c s i ∧ flO c (y ++ c :: s) (y.length + 1 + i) = y :: flO c s i := by
 have hpre : ∀ j, j ≤ y.length → flF c (y ++ c :: s) j = 0 ∧ flO c (y ++ c :: s) j = [] := by
  intro j
  induction j with
  | zero => intro _; exact ⟨rfl, rfl⟩
  | succ j ih =>
   intro hj
   obtain ⟨h1, h2⟩ := ih (by omega)
   have hn : ¬ (y ++ c :: s)[j]? = some c := by
    rw [List.getElem?_append_left (by omega)]
    intro q
    exact hy c (List.mem_of_getElem? q) rfl
   rw [flF_n hn, flO_n hn]; exact ⟨h1, h2⟩
 intro i
 induction i with
 | zero =>
  obtain ⟨h1, h2⟩ := hpre y.length (Nat.le_refl _)
  have hc : (y ++ c :: s)[y.length]? = some c := by rw [List.getElem?_append_right (Nat.le_refl _)]; simp
  rw [Nat.add_zero, flF_y hc, flO_y hc, h1, h2]
  refine ⟨rfl, ?_⟩
  simp [flO]
 | succ i ih =>
  obtain ⟨h1, h2⟩ := ih
  have hg : (y ++ c :: s)[y.length + 1 + i]? = s[i]? := by
   rw [List.getElem?_append_right (by omega), show y.length + 1 + i - y.length = i + 1 by omega]; simp
  rw [show y.length + 1 + (i + 1) = (y.length + 1 + i) + 1 by omega]
  by_cases hc : s[i]? = some c
  ·rw [flF_y (hg.trans hc), flO_y (hg.trans hc), flF_y hc, flO_y hc, h1, h2]
   refine ⟨by omega, ?_⟩
   rw [List.cons_append]
   congr 3
   have : (y ++ c :: s).take (y.length + 1 + i) = y ++ c :: s.take i := by
    rw [show y.length + 1 + i = y.length + (i + 1) by omega, List.take_append]; simp [List.take_of_length_le]
   rw [this, show y.length + 1 + flF c s i = y.length + (flF c s i + 1) by omega, List.drop_append]
   simp
  ·rw [flF_n (by rw [hg]; exact hc), flO_n (by rw [hg]; exact hc), flF_n hc, flO_n hc]; exact ⟨h1, h2⟩
theorem flds_cons (c : UInt8) (y s : Bs) (hy : ∀ x ∈ y, x ≠ c) : flds c (y ++ c :: s) = y :: flds c s := by
 have h := fl_shift c y s hy s.length
 have e : (y ++ c :: s).length = y.length + 1 + s.length := by simp; omega
 unfold flds
 rw [e, h.1, h.2]
 simp only [List.cons_append, List.cons.injEq, true_and]
 congr 2
 rw [show y.length + 1 + flF c s s.length = y.length + (flF c s s.length + 1) by omega, List.drop_append]
 simp
theorem flds_one (c : UInt8) (s : Bs) (hs : ∀ x ∈ s, x ≠ c) : flds c s = [s] := by
 have : ∀ j, flF c s j = 0 ∧ flO c s j = [] := by
  intro j
  induction j with
  | zero => exact ⟨rfl, rfl⟩
  | succ j ih =>
   have hn : ¬ s[j]? = some c := fun q => hs c (List.mem_of_getElem? q) rfl
   rw [flF_n hn, flO_n hn]; exact ih
 unfold flds
 rw [(this _).1, (this _).2]; simp
theorem idx_no {c : UInt8} : ∀ {s : Bs}, Lib.indexByte s c < 0 → ∀ x ∈ s, x ≠ c
 | [], _, x, hx => by simp at hx
 | b :: s, h, x, hx => by
  unfold Lib.indexByte at h
  split at h
  ·omega
  ·rename_i hb
   have := Lib.indexByte_ge s c
   split at h
   ·rename_i h1
    rcases List.mem_cons.1 hx with q | q
    ·subst q; simpa using hb
    ·exact idx_no (by simp at h1; omega) x q
   ·rename_i h1
    simp at h1
    omega
theorem idx_yes {c : UInt8} : ∀ {s : Bs}, 0 ≤ Lib.indexByte s c → ∃ y r, s = y ++ c :: r ∧ (∀ x ∈ y, x ≠ c) ∧ Lib.indexByte s c = y.length
 | [], h => by simp [Lib.indexByte] at h
 | b :: s, h => by
  unfold Lib.indexByte at h ⊢
  by_cases hb : (b == c) = true
  ·rw [if_pos hb]
   have : b = c := by simpa using hb
   subst this
   exact ⟨[], s, rfl, fun x hx => by simp at hx, rfl⟩
  ·rw [if_neg hb] at h ⊢
   by_cases h1 : (Lib.indexByte s c == -1) = true
   ·rw [if_pos h1] at h; omega
   ·rw [if_neg h1] at h ⊢
    have hge := Lib.indexByte_ge s c
    obtain ⟨y, r, e, h2, h3⟩ := idx_yes (s := s) (c := c) (by simp at h1; omega)
    refine ⟨b :: y, r, by rw [e]; rfl, fun x hx => ?_, by rw [h3]; simp⟩
    rcases List.mem_cons.1 hx with q | q
    ·subst q; simpa using hb
    ·exact h2 x q
theorem cnt_flds (c : UInt8) (s : Bs) : (flds c s).length = Lib.countByte s c + 1 := by
 have : ∀ (n : Nat) (s : Bs), s.length ≤ n → (flds c s).length = Lib.countByte s c + 1 := by
  intro n
  induction n with
  | zero =>
   intro s hs
   have : s = [] := List.length_eq_zero_iff.1 (by omega)
   subst this; rfl
  | succ n ih =>
   intro s hs
   by_cases h : 0 ≤ Lib.indexByte s c
   ·obtain ⟨y, r, rfl, h2, -⟩ := idx_yes h
    rw [flds_cons c y r h2, List.length_cons, ih r (by simp at hs; omega)]
    unfold Lib.countByte
    rw [List.count_append, List.count_cons_self, List.count_eq_zero_of_not_mem (fun q => h2 c q rfl)]
    omega
   ·have h2 := idx_no (s := s) (c := c) (by omega)
    rw [flds_one c s h2]
    unfold Lib.countByte
    rw [List.count_eq_zero_of_not_mem (fun q => h2 c q rfl)]; rfl
 exact this s.length s (Nat.le_refl _)
def rst (c : UInt8) (s : Bs) : Nat → Bs
 | 0 => s
 | i + 1 => (rst c s i).drop ((Lib.indexByte (rst c s i) c).toNat + 1)
def gsL (c : UInt8) (s : Bs) (i : Nat) : List Bs := (flds c s).take i ++ List.replicate (Lib.countByte s c + 1 - i) []
theorem cnt_le (c : UInt8) (s : Bs) : Lib.countByte s c ≤ s.length := List.count_le_length
theorem u8eq {c d : UInt8} (h : (c.toNat : Int) = d.toNat) : c = d := UInt8.toNat_inj.1 (by omega)
def lensB : List Bs → Nat
 | [] => 0
 | x :: r => x.length + lensB r
theorem lensB_app (l r : List Bs) : lensB (l ++ r) = lensB l + lensB r := by
 induction l with
 | nil => simp [lensB]
 | cons x l ih => simp only [List.cons_append, lensB, ih]; omega
theorem flO_lens (c : UInt8) (s : Bs) : ∀ i, i ≤ s.length → lensB (flO c s i) + (flO c s i).length = flF c s i
 | 0, _ => rfl
 | i + 1, h => by
  have ih := flO_lens c s i (by omega)
  have hf := flF_le c s i
  by_cases hc : s[i]? = some c
  ·rw [flO_y hc, flF_y hc, lensB_app, List.length_append]
   simp only [lensB, List.length_drop, List.length_take, List.length_singleton]
   omega
  ·rw [flO_n hc, flF_n hc]; exact ih
theorem flds_lens (c : UInt8) (s : Bs) : lensB (flds c s) ≤ s.length := by
 have h := flO_lens c s s.length (Nat.le_refl _)
 have hf := flF_le c s s.length
 rw [flds, lensB_app]
 simp only [lensB, List.length_drop]
 omega
theorem lins_len (s : Bs) : (lins s).length ≤ s.length + 1 := by
 have h6 := cnt_flds 10 s
 have h7 := cnt_le 10 s
 have h8 := flO_len 10 s s.length
 unfold lins; split <;> omega
theorem lins_lens (s : Bs) : lensB (lins s) ≤ s.length := by
 have h1 := flds_lens 10 s
 have h2 := flO_lens 10 s s.length (Nat.le_refl _)
 have h3 := flF_le 10 s s.length
 unfold lins; split <;> omega
theorem lens_mem {l : List Bs} {x : Bs} (h : x ∈ l) : x.length ≤ lensB l := by
 induction l with
 | nil => simp at h
 | cons y l ih =>
  simp only [lensB]
  rcases List.mem_cons.1 h with q | q
  ·subst q; omega
  ·have := ih q; omega
end Go.Proofs.YtfbpbkcplpkndaaGreatDoor
end
section
namespace Go.Proofs.YtfbpbkcplpkndaaGreatDoor
set_option linter.unusedVariables false
set_option linter.unusedSimpArgs false
section dist
variable {α : Type} [DecidableEq α]
def rowf (f : List α → Nat) (x : α) : List α → Nat
 | [] => f [] + 1
 | y :: b => if x = y then f b else 1 + min (f (y :: b)) (rowf f x b)
def dist : List α → List α → Nat
 | [] => List.length
 | x :: a => rowf (dist a) x
@[simp] theorem dist_nil (b : List α) : dist [] b = b.length := rfl
@[simp] theorem dist_cons_nil (x : α) (a : List α) : dist (x :: a) [] = dist a [] + 1 := rfl
theorem dist_cons (x y : α) (a b : List α) : dist (x :: a) (y :: b) = if x = y then dist a b else 1 + min (dist a (y :: b)) (dist (x :: a) b) := rfl
@[simp] theorem dist_nil_right (a : List α) : dist a [] = a.length := by
 induction a with
 | nil => rfl
 | cons x a ih => simp [ih]
theorem dist_lip (n : Nat) : ∀ (a b : List α), a.length + b.length ≤ n →
    (∀ x, dist (x :: a) b ≤ dist a b + 1) ∧ (∀ x, dist a b ≤ dist (x :: a) b + 1) ∧ (∀ y, dist a (y :: b) ≤ dist a b + 1) ∧ (∀ y, dist a b ≤ dist a (y :: b) + 1) := by
  induction n with
  | zero =>
    intro a b h
    have ha : a = [] := List.eq_nil_of_length_eq_zero (by omega)
    have hb : b = [] := List.eq_nil_of_length_eq_zero (by omega)
    subst ha hb
    simp
  | succ n ih =>
    intro a b h
    refine ⟨fun x => ?_, fun x => ?_, fun y => ?_, fun y => ?_⟩
    · cases b with
      | nil => simp
      | cons y b =>
        have h4 := (ih a b (by simp at h; omega)).2.2.2 y
        rw [dist_cons]; split <;> omega
    · cases b with
      | nil => simp; omega
      | cons y b =>
        have h3 := (ih a b (by simp at h; omega)).2.2.1 y
        have h2 := (ih a b (by simp at h; omega)).2.1 x
        rw [dist_cons]; split <;> omega
    · cases a with
      | nil => simp
      | cons x a =>
        have h2 := (ih a b (by simp at h; omega)).2.1 x
        rw [dist_cons]; split <;> omega
    · cases a with
      | nil => simp; omega
      | cons x a =>
        have h1 := (ih a b (by simp at h; omega)).1 x
        have h4 := (ih a b (by simp at h; omega)).2.2.2 y
        rw [dist_cons]; split <;> omega
theorem dist_del (x : α) (a b : List α) : dist (x :: a) b ≤ dist a b + 1 := (dist_lip _ a b (Nat.le_refl _)).1 x
theorem dist_del' (x : α) (a b : List α) : dist a b ≤ dist (x :: a) b + 1 := (dist_lip _ a b (Nat.le_refl _)).2.1 x
theorem dist_ins (y : α) (a b : List α) : dist a (y :: b) ≤ dist a b + 1 := (dist_lip _ a b (Nat.le_refl _)).2.2.1 y
theorem dist_ins' (y : α) (a b : List α) : dist a b ≤ dist a (y :: b) + 1 := (dist_lip _ a b (Nat.le_refl _)).2.2.2 y
theorem dist_le (a b : List α) : dist a b ≤ a.length + b.length := by
 induction a with
 | nil => simp
 | cons x a ih => have := dist_del x a b; simp; omega
end dist
section places
variable {α : Type} [DecidableEq α]
def dd (a b : List α) (i j : Nat) : Nat := dist (a.drop i) (b.drop j)
theorem dd_end (a b : List α) {i : Nat} (h : a.length ≤ i) (j : Nat) : dd a b i j = b.length - j := by
 rw [dd, List.drop_eq_nil_of_le h]; simp
theorem dd_right (a b : List α) (i : Nat) {j : Nat} (h : b.length ≤ j) : dd a b i j = a.length - i := by
 rw [dd, List.drop_eq_nil_of_le h]; simp
theorem dd_step (a b : List α) {i j : Nat} (hi : i < a.length) (hj : j < b.length) :
    dd a b i j = if a[i] = b[j] then dd a b (i + 1) (j + 1) else 1 + min (dd a b (i + 1) j) (dd a b i (j + 1)) := by
  unfold dd
  rw [List.drop_eq_getElem_cons hi, List.drop_eq_getElem_cons hj, dist_cons]
theorem dd_del (a b : List α) {i : Nat} (hi : i < a.length) (j : Nat) : dd a b i j ≤ dd a b (i + 1) j + 1 ∧ dd a b (i + 1) j ≤ dd a b i j + 1 := by
 unfold dd
 rw [List.drop_eq_getElem_cons hi]
 exact ⟨dist_del _ _ _, dist_del' _ _ _⟩
theorem dd_ins (a b : List α) (i : Nat) {j : Nat} (hj : j < b.length) : dd a b i j ≤ dd a b i (j + 1) + 1 ∧ dd a b i (j + 1) ≤ dd a b i j + 1 := by
 unfold dd
 rw [List.drop_eq_getElem_cons hj]
 exact ⟨dist_ins _ _ _, dist_ins' _ _ _⟩
theorem dd_le (a b : List α) (i j : Nat) : dd a b i j ≤ (a.length - i) + (b.length - j) := by
 have := dist_le (a.drop i) (b.drop j)
 simpa [dd] using this
def best (a b : List α) (i j : Nat) : Nat :=
 let b0 := (a.length - i) + (b.length - j)
 let b1 := if i < a.length ∧ dd a b (i + 1) j + 1 < b0 then dd a b (i + 1) j + 1 else b0
 let b2 := if j < b.length ∧ dd a b i (j + 1) + 1 < b1 then dd a b i (j + 1) + 1 else b1
 if i < a.length ∧ j < b.length ∧ a[i]? = b[j]? ∧ dd a b (i + 1) (j + 1) < b2 then dd a b (i + 1) (j + 1) else b2
theorem best_eq (a b : List α) {i j : Nat} (hi : i ≤ a.length) (hj : j ≤ b.length) : best a b i j = dd a b i j := by
 unfold best
 rcases Nat.lt_or_ge i a.length with h1 | h1
 ·rcases Nat.lt_or_ge j b.length with h2 | h2
  ·have e := dd_step a b h1 h2
   have d1 := dd_del a b h1 j
   have d2 := dd_ins a b i h2
   have l0 := dd_le a b i j
   have l1 := dd_le a b (i + 1) j
   have l2 := dd_le a b i (j + 1)
   simp only [h1, h2, true_and, List.getElem?_eq_getElem, Option.some.injEq]
   by_cases hab : a[i] = b[j]
   ·rw [if_pos hab] at e
    simp only [hab, true_and]
    repeat' split
    all_goals omega
   ·rw [if_neg hab] at e
    simp only [hab, false_and, if_false]
    repeat' split
    all_goals omega
  ·have e0 : j = b.length := by omega
   subst e0
   have r1 := dd_right a b i (Nat.le_refl b.length)
   have r2 := dd_right a b (i + 1) (Nat.le_refl b.length)
   simp only [h1, true_and, Nat.lt_irrefl, false_and, and_false, if_false]
   split <;> omega
 ·have e0 : i = a.length := by omega
  subst e0
  have r1 := dd_end a b (Nat.le_refl a.length) j
  have r2 := dd_end a b (Nat.le_refl a.length) (j + 1)
  simp only [Nat.lt_irrefl, false_and, if_false]
  split <;> omega
def opAt (a b : List α) (i j : Nat) : Nat :=
 if i < a.length ∧ dd a b (i + 1) j + 1 = dd a b i j then 2 else if j < b.length ∧ dd a b i (j + 1) + 1 = dd a b i j then 3 else 1
theorem opAt_cases (a b : List α) {i j : Nat} (hi : i ≤ a.length) (hj : j ≤ b.length) (h : i < a.length ∨ j < b.length) :
    (opAt a b i j = 2 ∧ i < a.length ∧ dd a b (i + 1) j + 1 = dd a b i j) ∨
    (opAt a b i j = 3 ∧ j < b.length ∧ dd a b i (j + 1) + 1 = dd a b i j ∧ ¬ (i < a.length ∧ dd a b (i + 1) j + 1 = dd a b i j)) ∨
    (opAt a b i j = 1 ∧ i < a.length ∧ j < b.length ∧ a[i]? = b[j]? ∧ dd a b (i + 1) (j + 1) = dd a b i j ∧ ¬ (i < a.length ∧ dd a b (i + 1) j + 1 = dd a b i j) ∧ ¬ (j < b.length ∧ dd a b i (j + 1) + 1 = dd a b i j)) := by
  unfold opAt
  by_cases h2 : i < a.length ∧ dd a b (i + 1) j + 1 = dd a b i j
  · left; rw [if_pos h2]; exact ⟨rfl, h2.1, h2.2⟩
  · right
    rw [if_neg h2]
    by_cases h3 : j < b.length ∧ dd a b i (j + 1) + 1 = dd a b i j
    · left; rw [if_pos h3]; exact ⟨rfl, h3.1, h3.2, h2⟩
    · right
      rw [if_neg h3]
      have hi' : i < a.length := by
        rcases Nat.lt_or_ge i a.length with q | q
        · exact q
        · exfalso
          have e0 : i = a.length := by omega
          have hj' : j < b.length := by omega
          have r1 := dd_end a b q j
          have r2 := dd_end a b q (j + 1)
          exact h3 ⟨hj', by omega⟩
      have hj' : j < b.length := by
        rcases Nat.lt_or_ge j b.length with q | q
        · exact q
        · exfalso
          have r1 := dd_right a b i q
          have r2 := dd_right a b (i + 1) q
          exact h2 ⟨hi', by omega⟩
      have e := dd_step a b hi' hj'
      by_cases hab : a[i] = b[j]
      · rw [if_pos hab] at e
        exact ⟨rfl, hi', hj', by rw [List.getElem?_eq_getElem hi', List.getElem?_eq_getElem hj', hab], e.symm, h2, h3⟩
      · exfalso
        rw [if_neg hab] at e
        have n2 : dd a b (i + 1) j + 1 ≠ dd a b i j := fun q => h2 ⟨hi', q⟩
        have n3 : dd a b i (j + 1) + 1 ≠ dd a b i j := fun q => h3 ⟨hj', q⟩
        omega
end places
structure Ed where
 op : Int
 a : Int
 b : Int
 n : Int
deriving DecidableEq
def addE (l : List Ed) (op i j : Int) : List Ed :=
 match l.getLast? with
 | some e => if e.op = op then l.dropLast ++ [{ e with n := e.n + 1 }] else l ++ [⟨op, i, j, 1⟩]
 | none => [⟨op, i, j, 1⟩]
section script
variable {α : Type} [DecidableEq α]
def scrF (a b : List α) : Nat → Nat → Nat → List Ed → List Ed
 | 0, _, _, out => out
 | n + 1, i, j, out =>
  if a.length ≤ i ∧ b.length ≤ j then out
  else scrF a b n (if opAt a b i j = 3 then i else i + 1) (if opAt a b i j = 2 then j else j + 1) (addE out (opAt a b i j) i j)
def script (a b : List α) : List Ed := scrF a b (a.length + b.length) 0 0 []
theorem scrF_end (a b : List α) (n : Nat) {i j : Nat} (hi : a.length ≤ i) (hj : b.length ≤ j) (out : List Ed) : scrF a b n i j out = out := by
 cases n with
 | zero => rfl
 | succ n => rw [scrF, if_pos ⟨hi, hj⟩]
theorem scrF_fuel (a b : List α) : ∀ (n m i j : Nat) (out : List Ed), i ≤ a.length → j ≤ b.length → (a.length - i) + (b.length - j) ≤ n → n ≤ m → scrF a b n i j out = scrF a b m i j out := by
 intro n
 induction n with
 | zero =>
  intro m i j out hi hj h _
  rw [scrF_end a b m (by omega) (by omega)]; rfl
 | succ n ih =>
  intro m i j out hi hj h hm
  obtain ⟨m, rfl⟩ : ∃ k, m = k + 1 := ⟨m - 1, by omega⟩
  simp only [scrF]
  split
  ·rfl
  ·rename_i hne
   have hlt : i < a.length ∨ j < b.length := by omega
   rcases opAt_cases a b hi hj hlt with ⟨e, h1, _⟩ | ⟨e, h1, _⟩ | ⟨e, h1, h2, _⟩ <;> rw [e] <;> simp only [Nat.reduceEqDiff, if_true, if_false]
   ·exact ih m (i + 1) j _ (by omega) hj (by omega) (by omega)
   ·exact ih m i (j + 1) _ hi (by omega) (by omega) (by omega)
   ·exact ih m (i + 1) (j + 1) _ (by omega) (by omega) (by omega) (by omega)
end script
end Go.Proofs.YtfbpbkcplpkndaaGreatDoor
end
section
namespace Go.Proofs.YtfbpbkcplpkndaaGreatDoor
set_option linter.unusedVariables false
set_option linter.unusedSimpArgs false
set_option linter.unusedSectionVars false
section steps
variable {α : Type} [DecidableEq α]
def stOk (a b : List α) (op : Int) (i j : Nat) : Prop :=
 (op = 2 ∧ i < a.length) ∨ (op = 3 ∧ j < b.length) ∨ (op = 1 ∧ i < a.length ∧ j < b.length ∧ a[i]? = b[j]?)
def sI (op : Int) (i : Nat) : Nat := if op = 3 then i else i + 1
def sJ (op : Int) (j : Nat) : Nat := if op = 2 then j else j + 1
def pth (a b : List α) : List Int → Nat → Nat → Prop
 | [], i, j => i = a.length ∧ j = b.length
 | op :: p, i, j => stOk a b op i j ∧ pth a b p (sI op i) (sJ op j)
def cst : List Int → Nat
 | [] => 0
 | op :: p => (if op = 1 then 0 else 1) + cst p
def kep : List Int → Nat
 | [] => 0
 | op :: p => (if op = 1 then 1 else 0) + kep p
def gp (a b : List α) : Nat → Nat → Nat → List Int
 | 0, _, _ => []
 | n + 1, i, j => if a.length ≤ i ∧ b.length ≤ j then [] else (opAt a b i j : Int) :: gp a b n (if opAt a b i j = 3 then i else i + 1) (if opAt a b i j = 2 then j else j + 1)
def rk (op : Int) : Int := if op = 2 then 1 else if op = 3 then 2 else 3
def lexle : List Int → List Int → Bool
 | [], _ => true
 | _ :: _, [] => false
 | x :: a, y :: b => if x = y then lexle a b else decide (rk x < rk y)
def eI (e : Ed) (i : Nat) : Nat := if e.op = 3 then i else i + e.n.toNat
def eJ (e : Ed) (j : Nat) : Nat := if e.op = 2 then j else j + e.n.toNat
structure EdOk (a b : List α) (e : Ed) (i j : Nat) : Prop where
 op : e.op = 1 ∨ e.op = 2 ∨ e.op = 3
 n : 1 ≤ e.n
 pa : e.a = i
 pb : e.b = j
 ra : e.op ≠ 3 → i + e.n.toNat ≤ a.length
 rb : e.op ≠ 2 → j + e.n.toNat ≤ b.length
 eq : e.op = 1 → ∀ k, k < e.n.toNat → a[i + k]? = b[j + k]?
open Classical in
noncomputable def edS (a b : List α) (o : Option (Nat × Nat)) (e : Ed) : Option (Nat × Nat) := match o with
 | none => none
 | some p => if EdOk a b e p.1 p.2 then some (eI e p.1, eJ e p.2) else none
noncomputable def edR (a b : List α) (l : List Ed) : Option (Nat × Nat) := l.foldl (edS a b) (some (0, 0))
variable {a b : List α} {l : List Ed} {e : Ed} {i j k : Nat}
theorem edS_none (l : List Ed) : l.foldl (edS a b) none = none := by
 induction l with
 | nil => rfl
 | cons e l ih => exact ih
theorem edR_app (l m : List Ed) : edR a b (l ++ m) = m.foldl (edS a b) (edR a b l) := by unfold edR; rw [List.foldl_append]
theorem edR_snoc {l : List Ed} {e : Ed} {q : Nat × Nat} (h : edR a b (l ++ [e]) = some q) : ∃ i j, edR a b l = some (i, j) ∧ EdOk a b e i j ∧ q = (eI e i, eJ e j) := by
 rw [edR_app] at h
 simp only [List.foldl_cons, List.foldl_nil] at h
 cases h1 : edR a b l with
 | none => rw [h1] at h; simp [edS] at h
 | some p =>
  rw [h1] at h
  simp only [edS] at h
  split at h
  ·rename_i ho
   injection h with h
   exact ⟨p.1, p.2, rfl, ho, h.symm⟩
  ·cases h
theorem edOk_le (h : EdOk a b e i j) (hi : i ≤ a.length) (hj : j ≤ b.length) : eI e i ≤ a.length ∧ eJ e j ≤ b.length := by
 unfold eI eJ
 constructor
 ·split
  ·exact hi
  ·exact h.ra (by assumption)
 ·split
  ·exact hj
  ·exact h.rb (by assumption)
theorem list_snoc {β : Type} {P : List β → Prop} (h0 : P []) (h1 : ∀ l x, P l → P (l ++ [x])) (l : List β) : P l := by
 have : ∀ n (l : List β), l.length = n → P l := by
  intro n
  induction n with
  | zero => intro l h; rw [List.length_eq_zero_iff.1 h]; exact h0
  | succ n ih =>
   intro l h
   have hne : l ≠ [] := fun e => by rw [e] at h; cases h
   rw [← List.dropLast_concat_getLast hne]
   exact h1 _ _ (ih _ (by rw [List.length_dropLast]; omega))
 exact this _ l rfl
theorem edR_le : ∀ (l : List Ed) (i j : Nat), edR a b l = some (i, j) → i ≤ a.length ∧ j ≤ b.length := fun l => by
 induction l using list_snoc with
 | h0 => intro i j h; cases h; exact ⟨Nat.zero_le _, Nat.zero_le _⟩
 | h1 l e ih =>
  intro i j h
  obtain ⟨i0, j0, h1, h2, h3⟩ := edR_snoc h
  cases h3
  exact edOk_le h2 (ih _ _ h1).1 (ih _ _ h1).2
def stE (l : List Ed) : List Int := l.flatMap fun e => List.replicate e.n.toNat e.op
theorem stE_app (l m : List Ed) : stE (l ++ m) = stE l ++ stE m := by simp [stE]
theorem stE_one (e : Ed) : stE [e] = List.replicate e.n.toNat e.op := by simp [stE]
theorem rep_pth (p : List Int) (op : Int) : ∀ (n i j : Nat), (op = 1 ∨ op = 2 ∨ op = 3) → (op ≠ 3 → i + n ≤ a.length) → (op ≠ 2 → j + n ≤ b.length) → (op = 1 → ∀ k, k < n → a[i + k]? = b[j + k]?) →
    pth a b p (if op = 3 then i else i + n) (if op = 2 then j else j + n) → pth a b (List.replicate n op ++ p) i j
  | 0, i, j, _, _, _, _, h => by simpa using h
  | n + 1, i, j, h0, h1, h2, h3, h => by
    rw [List.replicate_succ, List.cons_append]
    refine ⟨?_, rep_pth p op n (sI op i) (sJ op j) h0 ?_ ?_ ?_ ?_⟩
    · rcases h0 with rfl | rfl | rfl
      · exact .inr (.inr ⟨rfl, by have := h1 (by decide); omega, by have := h2 (by decide); omega, h3 rfl 0 (by omega)⟩)
      · exact .inl ⟨rfl, by have := h1 (by decide); omega⟩
      · exact .inr (.inl ⟨rfl, by have := h2 (by decide); omega⟩)
    · intro hn; have := h1 hn; unfold sI; rw [if_neg hn]; omega
    · intro hn; have := h2 hn; unfold sJ; rw [if_neg hn]; omega
    · intro e k hk
      subst e
      have := h3 rfl (k + 1) (by omega)
      simp only [sI, sJ]
      simp
      rw [show i + 1 + k = i + (k + 1) by omega, show j + 1 + k = j + (k + 1) by omega]; exact this
    · unfold sI sJ
      by_cases e3 : op = 3
      · subst e3; simp at h ⊢; rw [show j + 1 + n = j + (n + 1) by omega]; exact h
      · by_cases e2 : op = 2
        · subst e2; simp at h ⊢; rw [show i + 1 + n = i + (n + 1) by omega]; exact h
        · simp only [if_neg e2, if_neg e3] at h ⊢
          rw [show i + 1 + n = i + (n + 1) by omega, show j + 1 + n = j + (n + 1) by omega]; exact h
theorem edR_pth : ∀ (l : List Ed) (i j : Nat) (p : List Int), edR a b l = some (i, j) → pth a b p i j → pth a b (stE l ++ p) 0 0 := fun l => by
 induction l using list_snoc with
 | h0 => intro i j p h hp; cases h; simpa [stE] using hp
 | h1 l e ih =>
  intro i j p h hp
  obtain ⟨i0, j0, h1, h2, h3⟩ := edR_snoc h
  cases h3
  rw [stE_app, stE_one, List.append_assoc]
  exact ih _ _ _ h1 (rep_pth p e.op e.n.toNat i0 j0 h2.op h2.ra h2.rb h2.eq hp)
def Conc (l : List Ed) : Prop := ∀ k x y, l[k]? = some x → l[k + 1]? = some y → y.op ≠ x.op ∧ ¬ (y.op = 2 ∧ x.op = 3)
theorem addE_nil (op i j : Int) : addE [] op i j = [⟨op, i, j, 1⟩] := rfl
theorem addE_snoc (l : List Ed) (e : Ed) (op i j : Int) : addE (l ++ [e]) op i j = if e.op = op then l ++ [{ e with n := e.n + 1 }] else l ++ [e] ++ [⟨op, i, j, 1⟩] := by
 unfold addE
 simp only [List.getLast?_concat, List.dropLast_concat]
theorem edOk_one {op : Int} (h : stOk a b op i j) : EdOk a b ⟨op, i, j, 1⟩ i j ∧ eI ⟨op, i, j, 1⟩ i = sI op i ∧ eJ ⟨op, i, j, 1⟩ j = sJ op j := by
 refine ⟨⟨?_, Int.le_refl 1, rfl, rfl, ?_, ?_, ?_⟩, rfl, rfl⟩
 ·rcases h with h | h | h
  ·exact .inr (.inl h.1)
  ·exact .inr (.inr h.1)
  ·exact .inl h.1
 ·intro hn
  rcases h with h | h | h
  ·show i + 1 ≤ _; omega
  ·exact absurd h.1 hn
  ·show i + 1 ≤ _; omega
 ·intro hn
  rcases h with h | h | h
  ·exact absurd h.1 hn
  ·show j + 1 ≤ _; omega
  ·show j + 1 ≤ _; omega
 ·intro hn k hk
  obtain rfl : k = 0 := by simp at hk; omega
  rcases h with h | h | h
  ·simp only at hn; omega
  ·simp only at hn; omega
  ·exact h.2.2.2
theorem addE_ok {op : Int} (l : List Ed) (h : edR a b l = some (i, j)) (hs : stOk a b op i j) : edR a b (addE l op i j) = some (sI op i, sJ op j) ∧ stE (addE l op i j) = stE l ++ [op] := by
 revert h
 induction l using list_snoc with
 | h0 =>
  intro h
  cases h
  obtain ⟨g1, g2, g3⟩ := edOk_one hs
  rw [addE_nil]
  refine ⟨?_, by simp [stE]⟩
  unfold edR
  simp only [List.foldl_cons, List.foldl_nil, edS]
  rw [if_pos g1, g2, g3]
 | h1 l e _ =>
  intro h
  rw [addE_snoc]
  split
  ·rename_i hop
   obtain ⟨i0, j0, h1, h2, h3⟩ := edR_snoc h
   have hi : i = eI e i0 := congrArg Prod.fst h3
   have hj : j = eJ e j0 := congrArg Prod.snd h3
   have hn : (e.n + 1).toNat = e.n.toNat + 1 := by have := h2.n; omega
   have ok : EdOk a b { e with n := e.n + 1 } i0 j0 := by
    unfold eI at hi
    unfold eJ at hj
    refine ⟨h2.op, by show 1 ≤ e.n + 1; have := h2.n; omega, h2.pa, h2.pb, ?_, ?_, ?_⟩
    ·intro h3
     show i0 + (e.n + 1).toNat ≤ _
     have h3' : e.op ≠ 3 := h3
     rw [if_neg h3'] at hi
     rcases hs with hs | hs | hs
     ·omega
     ·exact absurd (hop.trans hs.1) h3'
     ·omega
    ·intro h3
     show j0 + (e.n + 1).toNat ≤ _
     have h3' : e.op ≠ 2 := h3
     rw [if_neg h3'] at hj
     rcases hs with hs | hs | hs
     ·exact absurd (hop.trans hs.1) h3'
     ·omega
     ·omega
    ·intro h3 k hk
     have h3' : e.op = 1 := h3
     have hk' : k < (e.n + 1).toNat := hk
     by_cases hh : k < e.n.toNat
     ·exact h2.eq h3' k hh
     ·obtain rfl : k = e.n.toNat := by omega
      rw [if_neg (by rw [h3']; decide)] at hi hj
      rcases hs with hs | hs | hs
      ·omega
      ·omega
      ·rw [← hi, ← hj]; exact hs.2.2.2
   refine ⟨?_, ?_⟩
   ·rw [edR_app, h1]
    simp only [List.foldl_cons, List.foldl_nil, edS]
    rw [if_pos ok, hi, hj]
    unfold eI eJ sI sJ
    simp only [hn, hop]
    congr 2
    ·split <;> omega
    ·split <;> omega
   ·rw [stE_app, stE_app, stE_one, stE_one, List.append_assoc]
    congr 1
    show List.replicate (e.n + 1).toNat e.op = _
    rw [hn, List.replicate_succ', hop]
  ·obtain ⟨g1, g2, g3⟩ := edOk_one hs
   refine ⟨?_, ?_⟩
   ·rw [edR_app, h]
    simp only [List.foldl_cons, List.foldl_nil, edS]
    rw [if_pos g1, g2, g3]
   ·rw [stE_app, stE_one]; rfl
theorem addE_last (l : List Ed) (op i j : Int) : ∃ l' e, addE l op i j = l' ++ [e] ∧ e.op = op := by
 induction l using list_snoc with
 | h0 => exact ⟨[], _, rfl, rfl⟩
 | h1 l e _ =>
  rw [addE_snoc]
  split
  ·rename_i h; exact ⟨l, _, rfl, h⟩
  ·exact ⟨l ++ [e], _, rfl, rfl⟩
theorem conc_snoc {l : List Ed} {e x : Ed} (h : Conc (l ++ [e])) (hx : x.op ≠ e.op ∧ ¬ (x.op = 2 ∧ e.op = 3)) : Conc (l ++ [e] ++ [x]) := by
 intro k u v h1 h2
 by_cases hk : k + 1 < (l ++ [e]).length
 ·rw [List.getElem?_append_left (by omega)] at h1
  rw [List.getElem?_append_left hk] at h2
  exact h k u v h1 h2
 ·have hlt : k + 1 < (l ++ [e] ++ [x]).length := (List.getElem?_eq_some_iff.1 h2).1
  simp at hk hlt
  obtain rfl : k = l.length := by omega
  simp [List.getElem?_append] at h1 h2
  subst h1 h2
  exact hx
theorem conc_last {l : List Ed} {e e' : Ed} (h : Conc (l ++ [e])) (ho : e'.op = e.op) : Conc (l ++ [e']) := by
 intro k u v h1 h2
 by_cases hk : k + 1 < l.length
 ·rw [List.getElem?_append_left (by omega)] at h1
  rw [List.getElem?_append_left hk] at h2
  exact h k u v (by rw [List.getElem?_append_left (by omega)]; exact h1) (by rw [List.getElem?_append_left hk]; exact h2)
 ·have hlt : k + 1 < (l ++ [e']).length := (List.getElem?_eq_some_iff.1 h2).1
  simp at hk hlt
  have hkl : k + 1 = l.length := by omega
  rw [List.getElem?_append_left (by omega)] at h1
  rw [hkl] at h2
  simp [List.getElem?_append] at h2
  subst h2
  rw [ho]
  exact h k u e (by rw [List.getElem?_append_left (by omega)]; exact h1) (by rw [hkl]; simp [List.getElem?_append])
theorem addE_conc {op : Int} {i j : Int} (l : List Ed) (h : Conc l) (hl : ∀ l' e, l = l' ++ [e] → ¬ (op = 2 ∧ e.op = 3)) : Conc (addE l op i j) := by
 revert h hl
 induction l using list_snoc with
 | h0 =>
  intro h hl k x y h1 h2
  rw [addE_nil] at h1 h2
  simp at h2
 | h1 l e _ =>
  intro h hl
  rw [addE_snoc]
  split
  ·exact conc_last h rfl
  ·rename_i hn
   exact conc_snoc h ⟨fun q => hn q.symm, hl l e rfl⟩
theorem opAt_32 {i j : Nat} (hi : i ≤ a.length) (hj : j < b.length) (h : opAt a b i j = 3) : opAt a b i (j + 1) ≠ 2 := by
 intro h2
 have hlt : i < a.length ∨ j < b.length := .inr hj
 rcases opAt_cases a b hi (by omega) hlt with ⟨e, _⟩ | ⟨e, h3, h4, h5⟩ | ⟨e, _⟩
 ·omega
 ·by_cases hlt2 : i < a.length ∨ j + 1 < b.length
  ·rcases opAt_cases a b hi (j := j + 1) (by omega) hlt2 with ⟨e2, g1, g2⟩ | ⟨e2, _⟩ | ⟨e2, _⟩
   ·refine h5 ⟨g1, ?_⟩
    have := (dd_ins a b (i + 1) h3).1
    have := (dd_del a b g1 j).1
    omega
   ·omega
   ·omega
  ·have : opAt a b i (j + 1) = 1 := by
    unfold opAt
    rw [if_neg (by omega), if_neg (by omega)]
   omega
 ·omega
theorem scrF_ok : ∀ (n i j : Nat) (out : List Ed), i ≤ a.length → j ≤ b.length → (a.length - i) + (b.length - j) ≤ n → edR a b out = some (i, j) → Conc out → (∀ l' e, out = l' ++ [e] → e.op = 3 → opAt a b i j ≠ 2) →
    edR a b (scrF a b n i j out) = some (a.length, b.length) ∧ stE (scrF a b n i j out) = stE out ++ gp a b n i j ∧ Conc (scrF a b n i j out)
  | 0, i, j, out, hi, hj, h, ho, hc, _ => by
    obtain rfl : i = a.length := by omega
    obtain rfl : j = b.length := by omega
    exact ⟨ho, by simp [gp, scrF], hc⟩
  | n + 1, i, j, out, hi, hj, h, ho, hc, h32 => by
    rw [scrF, gp]
    by_cases hE : a.length ≤ i ∧ b.length ≤ j
    · obtain rfl : i = a.length := by omega
      obtain rfl : j = b.length := by omega
      rw [if_pos hE, if_pos hE]
      exact ⟨ho, by simp, hc⟩
    · rw [if_neg hE, if_neg hE]
      have hlt : i < a.length ∨ j < b.length := by omega
      have key : ∀ op : Nat, opAt a b i j = op → stOk a b (op : Int) i j → ((a.length - (if op = 3 then i else i + 1)) + (b.length - (if op = 2 then j else j + 1)) ≤ n) → (if op = 3 then i else i + 1) ≤ a.length → (if op = 2 then j else j + 1) ≤ b.length →
          edR a b (scrF a b n (if op = 3 then i else i + 1) (if op = 2 then j else j + 1) (addE out (op : Int) i j)) = some (a.length, b.length) ∧ stE (scrF a b n (if op = 3 then i else i + 1) (if op = 2 then j else j + 1) (addE out (op : Int) i j)) = stE out ++ (op : Int) :: gp a b n (if op = 3 then i else i + 1) (if op = 2 then j else j + 1) ∧ Conc (scrF a b n (if op = 3 then i else i + 1) (if op = 2 then j else j + 1) (addE out (op : Int) i j)) := by
        intro op he hs hn hi2 hj2
        obtain ⟨g1, g2⟩ := addE_ok out ho hs
        have e1 : sI (op : Int) i = if op = 3 then i else i + 1 := by unfold sI; split <;> split <;> omega
        have e2 : sJ (op : Int) j = if op = 2 then j else j + 1 := by unfold sJ; split <;> split <;> omega
        rw [e1, e2] at g1
        obtain ⟨r1, r2, r3⟩ := scrF_ok n _ _ (addE out (op : Int) i j) hi2 hj2 hn g1 (addE_conc out hc fun l' e q q2 => h32 l' e q q2.2 (by omega)) (fun l' e q q2 => by
          obtain ⟨l2, e2, q3, q4⟩ := addE_last out (op : Int) i j
          rw [q3] at q
          have q5 : e2 = e := by have := List.append_inj_right' q rfl; simpa using this
          subst q5
          have hop : op = 3 := by omega
          subst hop
          rcases hs with hs | hs | hs
          · omega
          · exact opAt_32 hi hs.2 he
          · omega)
        exact ⟨r1, by rw [r2, g2, List.append_assoc]; rfl, r3⟩
      rcases opAt_cases a b hi hj hlt with ⟨e, h1, h2⟩ | ⟨e, h1, h2, _⟩ | ⟨e, h1, h2, h3, h4, _⟩ <;> rw [e]
      · exact key 2 e (.inl ⟨rfl, h1⟩) (by simp; omega) (by simp; omega) (by simp; omega)
      · exact key 3 e (.inr (.inl ⟨rfl, h1⟩)) (by simp; omega) (by simp; omega) (by simp; omega)
      · exact key 1 e (.inr (.inr ⟨rfl, h1, h2, h3⟩)) (by simp; omega) (by simp; omega) (by simp; omega)
theorem script_ok (a b : List α) : edR a b (script a b) = some (a.length, b.length) ∧ stE (script a b) = gp a b (a.length + b.length) 0 0 ∧ Conc (script a b) := by
 have := scrF_ok (a := a) (b := b) (a.length + b.length) 0 0 [] (Nat.zero_le _) (Nat.zero_le _) (by omega) rfl (fun k x y h => by simp at h) (fun l' e q => by simp at q)
 simpa [script, stE] using this
theorem ends_pth {l : List Ed} (h : edR a b l = some (a.length, b.length)) : pth a b (stE l) 0 0 := by
 have := edR_pth l _ _ [] h ⟨rfl, rfl⟩
 simpa using this
def piece (a b : List α) (e : Ed) : Option (List α) :=
 if e.op = 3 then (if 0 ≤ e.n ∧ 0 ≤ e.b ∧ e.b ≤ b.length ∧ e.n ≤ b.length - e.b then some ((b.drop e.b.toNat).take e.n.toNat) else none)
 else if e.op = 1 ∨ e.op = 2 then (if 0 ≤ e.n ∧ 0 ≤ e.a ∧ e.a ≤ a.length ∧ e.n ≤ a.length - e.a then (if e.op = 2 then some [] else some ((a.drop e.a.toNat).take e.n.toNat)) else none)
 else none
def apS (a b : List α) (o : Option (List α)) (e : Ed) : Option (List α) := match o with
 | none => none
 | some out => (piece a b e).map (out ++ ·)
def apR (a b : List α) (l : List Ed) : Option (List α) := l.foldl (apS a b) (some [])
end steps
end Go.Proofs.YtfbpbkcplpkndaaGreatDoor
end
section
namespace Go.Proofs.YtfbpbkcplpkndaaGreatDoor
set_option linter.unusedVariables false
set_option linter.unusedSimpArgs false
set_option linter.unusedSectionVars false
structure DL where
 op : Int
 tx : Bs
 ne : Bool
deriving DecidableEq
structure Hk where
 fa : Int
 la : Int
 fb : Int
 lb : Int
 ls : List DL
deriving DecidableEq
structure Pt where
 old : Bs
 new : Bs
 hs : List Hk
deriving DecidableEq
def fdK (l : List Bs) (e : Bool) (k : Nat) : List Bs := (List.range l.length).map fun i => if i < k ∧ (i + 1 < l.length ∨ e = true) then l.getD i [] ++ [10] else l.getD i []
def fed (s : Bs) : List Bs := fdK (lins s) (endB s) (lins s).length
theorem fdK_len (l : List Bs) (e : Bool) (k : Nat) : (fdK l e k).length = l.length := by simp [fdK]
theorem fed_len (s : Bs) : (fed s).length = (lins s).length := fdK_len _ _ _
theorem fdK_0 (l : List Bs) (e : Bool) : fdK l e 0 = l := by
 apply List.ext_getElem?
 intro i
 simp only [fdK, List.getElem?_map]
 by_cases h : i < l.length
 ·rw [List.getElem?_range h]
  simp [h]
 ·rw [List.getElem?_eq_none (by simpa using h), List.getElem?_eq_none (by omega)]; rfl
theorem fdK_get {l : List Bs} {e : Bool} {k i : Nat} {x : Bs} (h : l[i]? = some x) : (fdK l e k)[i]? = some (if i < k ∧ (i + 1 < l.length ∨ e = true) then x ++ [10] else x) := by
 obtain ⟨hi, rfl⟩ := get_of h
 simp only [fdK, List.getElem?_map, List.getElem?_range hi, Option.map_some]
 simp [hi]
theorem fdK_set {l : List Bs} {e : Bool} {k : Nat} {x : Bs} (h : l[k]? = some x) (hc : k + 1 < l.length ∨ e = true) : (fdK l e k).set k (x ++ [10]) = fdK l e (k + 1) := by
 obtain ⟨hi, hx⟩ := get_of h
 apply List.ext_getElem?
 intro i
 by_cases h1 : i < l.length
 ·by_cases h2 : k = i
  ·subst h2
   rw [List.getElem?_set_self (by rw [fdK_len]; exact h1), fdK_get h, if_pos ⟨by omega, hc⟩]
  ·rw [List.getElem?_set_ne h2]
   have h3 : l[i]? = some l[i] := List.getElem?_eq_getElem h1
   rw [fdK_get h3, fdK_get h3]
   congr 1
   by_cases h4 : i < k
   ·simp [h4, show i < k + 1 by omega]
   ·simp [h4, show ¬ i < k + 1 by omega]
 ·rw [List.getElem?_eq_none (by rw [List.length_set, fdK_len]; omega), List.getElem?_eq_none (by rw [fdK_len]; omega)]
theorem fdK_no {l : List Bs} {e : Bool} {k : Nat} (hc : ¬ (k + 1 < l.length ∨ e = true)) (hk : k < l.length) : fdK l e k = fdK l e (k + 1) := by
 unfold fdK
 apply List.map_congr_left
 intro i hi
 have hi' : i < l.length := by simpa using hi
 by_cases h : i = k
 ·subst h
  rw [if_neg (by omega), if_neg fun q => hc q.2]
 ·by_cases h4 : i < k
  ·simp [h4, show i < k + 1 by omega]
  ·simp [h4, show ¬ i < k + 1 by omega]
theorem fdK_at {l : List Bs} {e : Bool} {k : Nat} : (fdK l e k)[k]? = l[k]? := by
 by_cases h1 : k < l.length
 ·rw [fdK_get (List.getElem?_eq_getElem h1), if_neg (by omega), List.getElem?_eq_getElem h1]
 ·rw [List.getElem?_eq_none (by rw [fdK_len]; omega), List.getElem?_eq_none (by omega)]
theorem fdK_snoc {l : List Bs} {e : Bool} {k : Nat} {x y : Bs} (h : l[k]? = some x) (hy : y = if e = true ∨ k + 1 < l.length then x ++ [10] else x) : (fdK l e l.length).take (k + 1) = (fdK l e l.length).take k ++ [y] := by
 rw [take_succ_get (x := y)]
 obtain ⟨hi, hx⟩ := get_of h
 rw [fdK_get h, hy]
 congr 1
 by_cases h1 : e = true ∨ k + 1 < l.length
 ·rw [if_pos h1, if_pos ⟨hi, h1.symm⟩]
 ·rw [if_neg h1, if_neg fun q => h1 q.2.symm]
theorem flO_flat (c : UInt8) (s : Bs) : ∀ i, i ≤ s.length → (flO c s i).flatMap (· ++ [c]) = s.take (flF c s i)
 | 0, _ => rfl
 | i + 1, h => by
  have ih := flO_flat c s i (by omega)
  by_cases hc : s[i]? = some c
  ·rw [flO_y hc, flF_y hc, List.flatMap_append, ih, take_succ_get hc]
   have hf := flF_le c s i
   simp only [List.flatMap_cons, List.flatMap_nil, List.append_nil]
   rw [← List.append_assoc]
   congr 1
   have e : s.take (flF c s i) = (s.take i).take (flF c s i) := by rw [List.take_take, Nat.min_eq_left hf]
   rw [e, List.take_append_drop]
  ·rw [flO_n hc, flF_n hc]; exact ih
theorem flO_app_flat (c : UInt8) (s : Bs) : (flO c s s.length).flatMap (· ++ [c]) ++ s.drop (flF c s s.length) = s := by
 rw [flO_flat c s _ (Nat.le_refl _), List.take_append_drop]
theorem flatMap_idx {l : List Bs} {f : Nat → Bs} {g : Bs → Bs} (h : ∀ i x, l[i]? = some x → f i = g x) : ((List.range l.length).map f).flatten = l.flatMap g := by
 rw [List.flatMap_def]
 congr 1
 apply List.ext_getElem?
 intro i
 simp only [List.getElem?_map]
 by_cases hi : i < l.length
 ·rw [List.getElem?_range hi, List.getElem?_eq_getElem hi]
  simp only [Option.map_some]
  rw [h i l[i] (List.getElem?_eq_getElem hi)]
 ·rw [List.getElem?_eq_none (by simpa using hi), List.getElem?_eq_none (by omega)]; rfl
theorem fed_flat (s : Bs) : (fed s).flatten = s := by
 unfold fed
 by_cases h : flF 10 s s.length < s.length
 ·have e1 : lins s = flO 10 s s.length ++ [s.drop (flF 10 s s.length)] := if_pos h
  have e2 : endB s = false := by simp [endB, h]
  rw [e2]
  have h1 := flO_app_flat 10 s
  generalize flO 10 s s.length = p at e1 h1
  generalize hq : s.drop (flF 10 s s.length) = q at e1 h1
  rw [e1]
  unfold fdK
  have e3 : (p ++ [q]).length = p.length + 1 := by simp
  rw [e3, List.range_succ, List.map_append, List.flatten_append]
  refine Eq.trans ?_ h1
  congr 1
  ·rw [flatMap_idx (l := p) (g := (· ++ [10]))]
   intro i x hx
   obtain ⟨hi, hx'⟩ := get_of hx
   rw [if_pos ⟨by omega, Or.inl (by omega)⟩]
   have : (p ++ [q]).getD i [] = x := getD_of (by rw [List.getElem?_append_left hi]; exact hx)
   rw [this]
  ·simp
 ·have e1 : lins s = flO 10 s s.length := if_neg h
  have e2 : endB s = true := by simp [endB, h]
  have h0 : flF 10 s s.length = s.length := by have := flF_le 10 s s.length; omega
  have h1 := flO_flat 10 s s.length (Nat.le_refl _)
  rw [e1, e2]
  unfold fdK
  rw [flatMap_idx (l := flO 10 s s.length) (g := (· ++ [10])), h1, h0, List.take_length]
  intro i x hx
  obtain ⟨hi, hx'⟩ := get_of hx
  rw [if_pos ⟨hi, Or.inr rfl⟩, getD_of hx]
structure Stp where
 op : Int
 a : Nat
 b : Nat
 tx : Bs
deriving DecidableEq
section
variable (A B : List Bs)
def stp : List Int → Nat → Nat → List Stp
 | [], _, _ => []
 | op :: p, i, j => ⟨op, i, j, if op = 3 then B.getD j [] else A.getD i []⟩ :: stp p (sI op i) (sJ op j)
end
def pI (p : List Int) (i : Nat) : Nat := p.foldl (fun i op => sI op i) i
def pJ (p : List Int) (j : Nat) : Nat := p.foldl (fun j op => sJ op j) j
theorem pI_app (p q : List Int) (i : Nat) : pI (p ++ q) i = pI q (pI p i) := by simp [pI]
theorem pJ_app (p q : List Int) (i : Nat) : pJ (p ++ q) i = pJ q (pJ p i) := by simp [pJ]
section
variable {A B : List Bs}
theorem stp_app : ∀ (p q : List Int) (i j : Nat), stp A B (p ++ q) i j = stp A B p i j ++ stp A B q (pI p i) (pJ p j)
 | [], q, i, j => rfl
 | op :: p, q, i, j => by
  simp only [List.cons_append, stp, stp_app p q]
  rfl
theorem stp_len : ∀ (p : List Int) (i j : Nat), (stp A B p i j).length = p.length
 | [], _, _ => rfl
 | op :: p, i, j => by simp [stp, stp_len p]
theorem stp_at : ∀ (p : List Int) (i j k : Nat) (op : Int), p[k]? = some op → (stp A B p i j)[k]? = some ⟨op, pI (p.take k) i, pJ (p.take k) j, if op = 3 then B.getD (pJ (p.take k) j) [] else A.getD (pI (p.take k) i) []⟩
 | [], _, _, _, _, h => by simp at h
 | o :: p, i, j, 0, op, h => by
  simp at h; subst h; rfl
 | o :: p, i, j, k + 1, op, h => by
  simp at h
  simp only [stp, List.getElem?_cons_succ, stp_at p _ _ k op h, List.take_succ_cons]
  rfl
theorem pI_rep {op : Int} (n i : Nat) : pI (List.replicate n op) i = if op = 3 then i else i + n := by
 induction n generalizing i with
 | zero => simp [pI]
 | succ n ih =>
  rw [List.replicate_succ, show pI (op :: List.replicate n op) i = pI (List.replicate n op) (sI op i) from rfl, ih]
  unfold sI; split <;> omega
theorem pJ_rep {op : Int} (n i : Nat) : pJ (List.replicate n op) i = if op = 2 then i else i + n := by
 induction n generalizing i with
 | zero => simp [pJ]
 | succ n ih =>
  rw [List.replicate_succ, show pJ (op :: List.replicate n op) i = pJ (List.replicate n op) (sJ op i) from rfl, ih]
  unfold sJ; split <;> omega
end
def mkDL (op : Int) (x : Bs) : DL := if x.getLast? = some 10 then ⟨op, x.dropLast, false⟩ else ⟨op, x, true⟩
def dlS (s : Stp) : DL := mkDL s.op s.tx
def cA (l : List DL) : Nat := l.countP fun x => decide (x.op ≠ 3)
def cB (l : List DL) : Nat := l.countP fun x => decide (x.op ≠ 2)
theorem mkDL_op (op : Int) (x : Bs) : (mkDL op x).op = op := by unfold mkDL; split <;> rfl
theorem cA_app (l m : List DL) : cA (l ++ m) = cA l + cA m := by simp [cA]
theorem cB_app (l m : List DL) : cB (l ++ m) = cB l + cB m := by simp [cB]
theorem cA_le (l : List DL) : cA l ≤ l.length := List.countP_le_length
theorem cB_le (l : List DL) : cB l ≤ l.length := List.countP_le_length
theorem cA_one (x : DL) : cA [x] = if x.op = 3 then 0 else 1 := by by_cases h : x.op = 3 <;> simp [cA, List.countP_cons, h]
theorem cB_one (x : DL) : cB [x] = if x.op = 2 then 0 else 1 := by by_cases h : x.op = 2 <;> simp [cB, List.countP_cons, h]
theorem stp_cA {A B : List Bs} : ∀ (p : List Int) (i j : Nat), pI p i = i + cA ((stp A B p i j).map dlS)
 | [], i, j => by simp [pI, stp, cA]
 | op :: p, i, j => by
  rw [show pI (op :: p) i = pI p (sI op i) from rfl, stp_cA (A := A) (B := B) p (sI op i) (sJ op j)]
  rw [show (stp A B (op :: p) i j).map dlS = [dlS ⟨op, i, j, if op = 3 then B.getD j [] else A.getD i []⟩] ++ (stp A B p (sI op i) (sJ op j)).map dlS from rfl, cA_app, cA_one, dlS, mkDL_op]
  unfold sI; split <;> omega
theorem stp_cB {A B : List Bs} : ∀ (p : List Int) (i j : Nat), pJ p j = j + cB ((stp A B p i j).map dlS)
 | [], i, j => by simp [pJ, stp, cB]
 | op :: p, i, j => by
  rw [show pJ (op :: p) j = pJ p (sJ op j) from rfl, stp_cB (A := A) (B := B) p (sI op i) (sJ op j)]
  rw [show (stp A B (op :: p) i j).map dlS = [dlS ⟨op, i, j, if op = 3 then B.getD j [] else A.getD i []⟩] ++ (stp A B p (sI op i) (sJ op j)).map dlS from rfl, cB_app, cB_one, dlS, mkDL_op]
  unfold sJ; split <;> omega
noncomputable def difS (s t : Bs) : List Stp := stp (fed s) (fed t) (stE (script (fed s) (fed t))) 0 0
noncomputable def difL (s t : Bs) : List DL := (difS s t).map dlS
structure chg (l : List DL) (i : Nat) : Prop where
 ex : ∃ x, l[i]? = some x ∧ x.op ≠ 1
structure nr (l : List DL) (n j : Nat) : Prop where
 ex : ∃ c, chg l c ∧ c ≤ j + n ∧ j ≤ c + n
inductive Rg (N : Nat → Prop) (len : Nat) : Nat → List (Nat × Nat) → Prop
 | fin {j : Nat} : len ≤ j → Rg N len j []
 | skip {j : Nat} {l : List (Nat × Nat)} : j < len → ¬ N j → Rg N len (j + 1) l → Rg N len j l
 | run {j e : Nat} {l : List (Nat × Nat)} : j < e → e ≤ len → (∀ x, j ≤ x → x < e → N x) → (e = len ∨ ¬ N e) → Rg N len e l → Rg N len j ((j, e) :: l)
section
variable {N : Nat → Prop} {len : Nat}
theorem Rg.det {j : Nat} {l m : List (Nat × Nat)} (h : Rg N len j l) : Rg N len j m → l = m := by
 induction h generalizing m with
 | fin h => intro h'; cases h' with
  | fin => rfl
  | skip h1 => omega
  | run h1 h2 => omega
 | skip h1 h2 h3 ih => intro h'; cases h' with
  | fin h => omega
  | skip _ _ h => exact ih h
  | run h4 h5 h6 => exact absurd (h6 _ (Nat.le_refl _) h4) h2
 | @run j e l h1 h2 h3 h4 h5 ih => intro h'; cases h' with
  | fin h => omega
  | skip _ h => exact absurd (h3 _ (Nat.le_refl _) h1) h
  | @run _ e' m g1 g2 g3 g4 g5 =>
   have he : e = e' := by
    rcases Nat.lt_trichotomy e e' with h | h | h
    ·rcases h4 with q | q
     ·omega
     ·exact absurd (g3 e (by omega) h) q
    ·exact h
    ·rcases g4 with q | q
     ·omega
     ·exact absurd (h3 e' (by omega) h) q
   subst he
   rw [ih g5]
theorem Rg.ex (N : Nat → Prop) (len : Nat) : ∀ k j, len - j ≤ k → ∃ l, Rg N len j l
 | 0, j, h => ⟨[], .fin (by omega)⟩
 | k + 1, j, h => by
  by_cases hj : len ≤ j
  ·exact ⟨[], .fin hj⟩
  ·by_cases hN : N j
   ·have hE : ∀ d e, len - e ≤ d → j < e → e ≤ len → (∀ x, j ≤ x → x < e → N x) → ∃ e', e ≤ e' ∧ e' ≤ len ∧ (∀ x, j ≤ x → x < e' → N x) ∧ (e' = len ∨ ¬ N e') := by
     intro d
     induction d with
     | zero => intro e h1 h2 h3 h4; exact ⟨e, Nat.le_refl _, h3, h4, Or.inl (by omega)⟩
     | succ d ih =>
      intro e h1 h2 h3 h4
      by_cases q : e = len
      ·exact ⟨e, Nat.le_refl _, h3, h4, Or.inl q⟩
      ·by_cases hN' : N e
       ·obtain ⟨e', g1, g2, g3, g4⟩ := ih (e + 1) (by omega) (by omega) (by omega) fun x hx hx' => by
         by_cases hxe : x = e
         ·subst hxe; exact hN'
         ·exact h4 x hx (by omega)
        exact ⟨e', by omega, g2, g3, g4⟩
       ·exact ⟨e, Nat.le_refl _, h3, h4, Or.inr hN'⟩
    obtain ⟨e', g1, g2, g3, g4⟩ := hE len (j + 1) (by omega) (by omega) (by omega) fun x hx hx' => by
     have : x = j := by omega
     subst this; exact hN
    obtain ⟨l, hl⟩ := Rg.ex N len k e' (by omega)
    exact ⟨_, .run (by omega) g2 g3 g4 hl⟩
   ·obtain ⟨l, hl⟩ := Rg.ex N len k (j + 1) (by omega)
    exact ⟨l, .skip (by omega) hN hl⟩
theorem Rg.skips {j k : Nat} {l : List (Nat × Nat)} (hjk : j ≤ k) (hk : k ≤ len) (hn : ∀ x, j ≤ x → x < k → ¬ N x) (h : Rg N len k l) : Rg N len j l := by
 obtain ⟨d, rfl⟩ : ∃ d, k = j + d := ⟨k - j, by omega⟩
 induction d generalizing j with
 | zero => exact h
 | succ d ih =>
  refine .skip (by omega) (hn j (Nat.le_refl _) (by omega)) (ih (j := j + 1) (by omega) (by omega) (fun x h1 h2 => hn x (by omega) (by omega)) ?_)
  rw [show j + 1 + d = j + (d + 1) by omega]; exact h
end
noncomputable def rgs (l : List DL) (n : Nat) : List (Nat × Nat) := Classical.choose (Rg.ex (nr l n) l.length l.length 0 (by omega))
theorem rgs_ok (l : List DL) (n : Nat) : Rg (nr l n) l.length 0 (rgs l n) := Classical.choose_spec (Rg.ex (nr l n) l.length l.length 0 (by omega))
def frm (b n : Nat) : Int := if n = 0 then b else b + 1
def hkR (l : List DL) (r : Nat × Nat) : Hk := ⟨frm (cA (l.take r.1)) (cA ((l.take r.2).drop r.1)), cA ((l.take r.2).drop r.1), frm (cB (l.take r.1)) (cB ((l.take r.2).drop r.1)), cB ((l.take r.2).drop r.1), (l.take r.2).drop r.1⟩
noncomputable def cmpP (nold told nnew tnew : Bs) (n : Nat) : Pt := ⟨nold, nnew, (rgs (difL told tnew) n).map (hkR (difL told tnew))⟩
structure CmpI (l : List DL) (n i : Nat) (out : List (Nat × Nat)) (f t : Nat) : Prop where
 ft : f ≤ t
 ti : t < i
 il : i ≤ l.length
 cf : chg l f
 ct : chg l t
 no : ∀ x, t < x → x < i → ¬ chg l x
 near : ∀ x, f ≤ x + n → x ≤ t → nr l n x
 goes : ∀ r, Rg (nr l n) l.length (f - n) r → Rg (nr l n) l.length 0 (out ++ r)
section
variable {l : List DL} {n i f t : Nat} {out : List (Nat × Nat)}
theorem chg_lt (h : chg l i) : i < l.length := by obtain ⟨x, h, _⟩ := h.ex; exact (List.getElem?_eq_some_iff.1 h).1
theorem nr_clip {n m : Nat} (hm : m = min n l.length) (j : Nat) (hj : j < l.length) : nr l m j ↔ nr l n j := by
 constructor
 ·rintro ⟨c, h1, h2, h3⟩; exact ⟨c, h1, by omega, by omega⟩
 ·rintro ⟨c, h1, h2, h3⟩; have := chg_lt h1; exact ⟨c, h1, by omega, by omega⟩
theorem CmpI.start (hi : i < l.length) (hc : chg l i) (hn : ∀ x, x < i → ¬ chg l x) : CmpI l n (i + 1) [] i i where
 ft := Nat.le_refl _
 ti := by omega
 il := hi
 cf := hc
 ct := hc
 no := fun x h1 h2 => by omega
 near := fun x h1 h2 => ⟨i, hc, h1, by omega⟩
 goes := fun r h => by
  refine Rg.skips (Nat.zero_le _) (by omega) (fun x _ hx => ?_) h
  rintro ⟨c, h1, h2, h3⟩
  exact hn c (by omega) h1
theorem CmpI.keep (h : CmpI l n i out f t) (hi : i < l.length) (hc : ¬ chg l i) : CmpI l n (i + 1) out f t :=
  ⟨h.ft, by have := h.ti; omega, hi, h.cf, h.ct, fun x h1 h2 => by
      by_cases q : x = i
      · subst q; exact hc
      · exact h.no x h1 (by omega), h.near, h.goes⟩
theorem CmpI.more (h : CmpI l n i out f t) (hi : i < l.length) (hc : chg l i) (hg : i - t - 1 ≤ n + n) : CmpI l n (i + 1) out f i where
 ft := by have := h.ft; have := h.ti; omega
 ti := by omega
 il := hi
 cf := h.cf
 ct := hc
 no := fun x h1 h2 => by omega
 near := fun x h1 h2 => by
  by_cases q : x ≤ t
  ·exact h.near x h1 q
  ·by_cases q2 : x ≤ t + n
   ·exact ⟨t, h.ct, by omega, q2⟩
   ·exact ⟨i, hc, by have := h.ti; omega, by omega⟩
 goes := h.goes
def cut (l : List DL) (n f t : Nat) : Nat × Nat := (f - n, min (t + 1 + n) l.length)
theorem CmpI.cut_run (h : CmpI l n i out f t) (hg : i = l.length ∨ chg l i ∧ n + n < i - t - 1) {r : List (Nat × Nat)} (hr : Rg (nr l n) l.length (cut l n f t).2 r) : Rg (nr l n) l.length 0 (out ++ (cut l n f t :: r)) := by
 apply h.goes
 have h1 := h.ft
 have h2 := h.ti
 have h3 := h.il
 have hc2 : (cut l n f t).2 = min (t + 1 + n) l.length := rfl
 generalize hE : (cut l n f t).2 = E at hr hc2
 rw [show cut l n f t = (f - n, E) from Prod.ext rfl hE]
 refine .run (by omega) (by omega) (fun x hx hx' => ?_) ?_ hr
 ·by_cases q : x ≤ t
  ·exact h.near x (by omega) q
  ·exact ⟨t, h.ct, by omega, by omega⟩
 ·by_cases q : t + 1 + n < l.length
  ·right
   rw [show E = t + 1 + n by omega]
   rintro ⟨c, g1, g2, g3⟩
   have g4 := chg_lt g1
   by_cases q2 : c ≤ t
   ·omega
   ·rcases hg with q3 | ⟨q3, q4⟩
    ·exact h.no c (by omega) (by omega) g1
    ·exact h.no c (by omega) (by omega) g1
  ·left; omega
theorem CmpI.next (h : CmpI l n i out f t) (hi : i < l.length) (hc : chg l i) (hg : n + n < i - t - 1) : CmpI l n (i + 1) (out ++ [cut l n f t]) i i where
 ft := Nat.le_refl _
 ti := by omega
 il := hi
 cf := hc
 ct := hc
 no := fun x h1 h2 => by omega
 near := fun x h1 h2 => ⟨i, hc, h1, by omega⟩
 goes := fun r hr => by
  have h2 := h.ti
  rw [List.append_assoc]
  refine h.cut_run (Or.inr ⟨hc, hg⟩) (Rg.skips (k := i - n) (by simp only [cut]; omega) (by omega) (fun x hx hx' => ?_) hr)
  rintro ⟨c, g1, g2, g3⟩
  have g4 := chg_lt g1
  simp only [cut] at hx
  by_cases q2 : c ≤ t
  ·omega
  ·exact h.no c (by omega) (by omega) g1
theorem CmpI.done (h : CmpI l n l.length out f t) : out ++ [cut l n f t] = rgs l n := by
 refine Rg.det (h.cut_run (Or.inl rfl) (r := []) (Rg.skips (k := l.length) (Nat.min_le_right _ _) (Nat.le_refl _) (fun x hx hx' => ?_) (.fin (Nat.le_refl _)))) (rgs_ok l n)
 rintro ⟨c, g1, g2, g3⟩
 have g4 := chg_lt g1
 simp only [cut] at hx
 by_cases q2 : c ≤ t
 ·omega
 ·exact h.no c (by omega) g4 g1
theorem cmp_none (hn : ∀ x, x < l.length → ¬ chg l x) : [] = rgs l n := by
 refine Rg.det (Rg.skips (Nat.zero_le _) (Nat.le_refl _) (fun x _ hx => ?_) (.fin (Nat.le_refl _))) (rgs_ok l n)
 rintro ⟨c, g1, g2, g3⟩
 exact hn c (chg_lt g1) g1
structure RefI (l : List DL) (n i : Nat) (out : List (Nat × Nat)) : Prop where
 il : i ≤ l.length
 goes : ∀ r, Rg (nr l n) l.length i r → Rg (nr l n) l.length 0 (out ++ r)
theorem RefI.zero : RefI l n 0 [] := ⟨Nat.zero_le _, fun r h => h⟩
theorem RefI.skip (h : RefI l n i out) (hi : i < l.length) (hn : ¬ nr l n i) : RefI l n (i + 1) out := ⟨hi, fun r hr => h.goes r (.skip hi hn hr)⟩
theorem RefI.run (h : RefI l n f out) (hf : f < i) (hi : i ≤ l.length) (hn : ∀ x, f ≤ x → x < i → nr l n x) (he : i = l.length ∨ ¬ nr l n i) : RefI l n i (out ++ [(f, i)]) := ⟨hi, fun r hr => by
 rw [List.append_assoc]; exact h.goes _ (.run hf hi hn he hr)⟩
theorem RefI.done (h : RefI l n l.length out) : out = rgs l n := by
 have := h.goes [] (.fin (Nat.le_refl _))
 rw [List.append_nil] at this
 exact this.det (rgs_ok l n)
end
end Go.Proofs.YtfbpbkcplpkndaaGreatDoor
end
section
namespace Go.Proofs.YtfbpbkcplpkndaaGreatDoor
set_option linter.unusedVariables false
set_option linter.unusedSimpArgs false
def escL : Bs := [110, 116, 114, 97, 98, 102, 118]
def escB : Bs := [10, 9, 13, 7, 8, 12, 11]
def octL (c : UInt8) : Bs := [UInt8.ofNat (48 + c.toNat / 64), UInt8.ofNat (48 + c.toNat / 8 % 8), UInt8.ofNat (48 + c.toNat % 8)]
def escC (c : UInt8) : Bs := if 0 ≤ Lib.indexByte escB c then [92, escL.getD (Lib.indexByte escB c).toNat 0] else if c = 92 then [92, 92] else if 32 ≤ c.toNat ∧ c.toNat ≤ 126 then [c] else 92 :: octL c
def esc (s : Bs) : Bs := s.flatMap escC
theorem esc_take {s : Bs} {k : Nat} {c : UInt8} (h : s[k]? = some c) : esc (s.take (k + 1)) = esc (s.take k) ++ escC c := by
 rw [take_succ_get h]; simp [esc]
theorem esc_1 {c : UInt8} (h : 0 ≤ Lib.indexByte escB c) : (Lib.indexByte escB c).toNat < 7 := by
 have := (Lib.indexByte_some (l := escB) (c := c) (o := (Lib.indexByte escB c).toNat) (by omega)).1
 exact (List.getElem?_eq_some_iff.1 this).1
end Go.Proofs.YtfbpbkcplpkndaaGreatDoor
end
section
namespace Go.Proofs.YtfbpbkcplpkndaaGreatDoor
set_option linter.unusedVariables false
set_option linter.unusedSimpArgs false
def octV : Nat → Nat → Bs → Nat × Nat
 | 0, v, _ => (v, 0)
 | _ + 1, v, [] => (v, 0)
 | k + 1, v, c :: r => if 48 ≤ c.toNat ∧ c.toNat ≤ 55 then ((octV k (8 * v + (c.toNat - 48)) r).1, (octV k (8 * v + (c.toNat - 48)) r).2 + 1) else (v, 0)
def seqP (s : Bs) : Option (UInt8 × Nat) := match s with
 | [] => none
 | c :: _ => if 0 ≤ Lib.indexByte escL c then some (escB.getD (Lib.indexByte escL c).toNat 0, 1) else if c = 92 ∨ c = 34 ∨ c = 47 then some (c, 1) else if 0 < (octV 3 0 s).2 ∧ (octV 3 0 s).1 < 256 then some (UInt8.ofNat (octV 3 0 s).1, (octV 3 0 s).2) else none
inductive Ue (s : Bs) : Nat → Bs → (Option Bs × Nat) → Prop
 | fin {i : Nat} {out : Bs} : s.length ≤ i → Ue s i out (some out, 0)
 | raw {i : Nat} {out : Bs} {c : UInt8} {r : Option Bs × Nat} : s[i]? = some c → c ≠ 92 → Ue s (i + 1) (out ++ [c]) r → Ue s i out r
 | bad {i : Nat} {out : Bs} : s[i]? = some 92 → seqP (s.drop (i + 1)) = none → Ue s i out (none, i)
 | esc {i n : Nat} {out : Bs} {d : UInt8} {r : Option Bs × Nat} : s[i]? = some 92 → seqP (s.drop (i + 1)) = some (d, n) → Ue s (i + 1 + n) (out ++ [d]) r → Ue s i out r
theorem Ue.det {s : Bs} {i : Nat} {out : Bs} {r r' : Option Bs × Nat} (h : Ue s i out r) : Ue s i out r' → r = r' := by
 induction h with
 | fin h =>
  intro g
  cases g with
  | fin => rfl
  | raw q => have := (List.getElem?_eq_some_iff.1 q).1; omega
  | bad q => have := (List.getElem?_eq_some_iff.1 q).1; omega
  | esc q => have := (List.getElem?_eq_some_iff.1 q).1; omega
 | raw h h2 _ ih =>
  intro g
  cases g with
  | fin q => have := (List.getElem?_eq_some_iff.1 h).1; omega
  | raw q _ g => rw [h] at q; cases q; exact ih g
  | bad q => rw [h] at q; cases q; exact absurd rfl h2
  | esc q => rw [h] at q; cases q; exact absurd rfl h2
 | bad h h2 =>
  intro g
  cases g with
  | fin q => have := (List.getElem?_eq_some_iff.1 h).1; omega
  | raw q q2 => rw [h] at q; cases q; exact absurd rfl q2
  | bad => rfl
  | esc _ q => rw [h2] at q; cases q
 | esc h h2 _ ih =>
  intro g
  cases g with
  | fin q => have := (List.getElem?_eq_some_iff.1 h).1; omega
  | raw q q2 => rw [h] at q; cases q; exact absurd rfl q2
  | bad _ q => rw [h2] at q; cases q
  | esc _ q g => rw [h2] at q; cases q; exact ih g
theorem Ue.ex (s : Bs) : ∀ (k i : Nat) (out : Bs), s.length - i ≤ k → ∃ r, Ue s i out r
 | 0, i, out, h => ⟨_, .fin (by omega)⟩
 | k + 1, i, out, h => by
  cases hc : s[i]? with
  | none => exact ⟨_, .fin (List.getElem?_eq_none_iff.1 hc)⟩
  | some c =>
   have hi := (List.getElem?_eq_some_iff.1 hc).1
   by_cases h92 : c = 92
   ·subst h92
    cases hs : seqP (s.drop (i + 1)) with
    | none => exact ⟨_, .bad hc hs⟩
    | some p =>
     obtain ⟨r, hr⟩ := Ue.ex s k (i + 1 + p.2) (out ++ [p.1]) (by omega)
     exact ⟨r, .esc hc hs hr⟩
   ·obtain ⟨r, hr⟩ := Ue.ex s k (i + 1) (out ++ [c]) (by omega)
    exact ⟨r, .raw hc h92 hr⟩
noncomputable def unR (s : Bs) : Option Bs × Nat := Classical.choose (Ue.ex s s.length 0 [] (Nat.le_refl _))
theorem unR_ok (s : Bs) : Ue s 0 [] (unR s) := Classical.choose_spec (Ue.ex s s.length 0 [] (Nat.le_refl _))
theorem unR_eq {s : Bs} {r : Option Bs × Nat} (h : Ue s 0 [] r) : unR s = r := (unR_ok s).det h
noncomputable def unT (s : Bs) : Bs := (unR s).1.getD []
noncomputable def unE (s : Bs) : Int := if (unR s).1.isSome then 0 else 1
noncomputable def unI (s : Bs) : Int := (unR s).2
theorem un_ok {s out : Bs} (h : Ue s 0 [] (some out, 0)) : unT s = out ∧ unE s = 0 ∧ unI s = 0 := by
 unfold unT unE unI; rw [unR_eq h]; exact ⟨rfl, rfl, rfl⟩
theorem octV_le : ∀ (k v : Nat) (s : Bs), (octV k v s).2 ≤ k ∧ (octV k v s).2 ≤ s.length
 | 0, v, s => by simp [octV]
 | k + 1, v, [] => by simp [octV]
 | k + 1, v, c :: r => by
  have := octV_le k (8 * v + (c.toNat - 48)) r
  unfold octV; split
  ·simp; omega
  ·simp
theorem seqP_len {s : Bs} {d : UInt8} {n : Nat} (h : seqP s = some (d, n)) : 1 ≤ n ∧ n ≤ s.length := by
 unfold seqP at h
 split at h
 ·cases h
 ·rename_i c r
  split at h
  ·cases h; simp
  ·split at h
   ·cases h; simp
   ·split at h
    ·rename_i hq
     cases h
     have := octV_le 3 0 (c :: r)
     exact ⟨hq.1, this.2⟩
    ·cases h
theorem Ue.len {s : Bs} {i : Nat} {out : Bs} {r : Option Bs × Nat} (h : Ue s i out r) : i ≤ s.length → (r.1.getD []).length + i ≤ out.length + s.length ∧ r.2 ≤ s.length := by
 induction h with
 | fin h => intro _; simp; omega
 | raw h _ _ ih =>
  intro _
  have hi := (List.getElem?_eq_some_iff.1 h).1
  have := ih (by omega)
  simp at this ⊢; omega
 | bad h =>
  intro _
  have hi := (List.getElem?_eq_some_iff.1 h).1
  simp; omega
 | esc h h2 _ ih =>
  intro _
  have hi := (List.getElem?_eq_some_iff.1 h).1
  have hn := seqP_len h2
  rw [List.length_drop] at hn
  have := ih (by omega)
  simp at this ⊢; omega
theorem ue_esc (s : Bs) : ∀ (k : Nat) (t : Bs) (r : Option Bs × Nat), s.length = k + t.length → s.drop k = t → Ue (esc s) (esc (s.take k)).length (s.take k) r → Ue (esc s) 0 [] r
 | 0, t, r, _, _, h => by simpa [esc] using h
 | k + 1, t, r, hl, ht, h => by
  have hk : k < s.length := by omega
  have hc : s[k]? = some s[k] := List.getElem?_eq_getElem hk
  refine ue_esc s k (s[k] :: t) r (by simp; omega) (by rw [drop_get hc, ht]) ?_
  generalize s[k] = c at hc
  have e1 := esc_take hc
  have e2 : s.take (k + 1) = s.take k ++ [c] := take_succ_get hc
  rw [e1, e2, List.length_append] at h
  have ee : esc s = esc (s.take k) ++ (escC c ++ esc t) := by
   have : s = s.take k ++ (c :: t) := by rw [← ht, ← drop_get hc, List.take_append_drop]
   conv => lhs; rw [this]
   simp [esc]
  have gA : ∀ j, (esc s)[(esc (s.take k)).length + j]? = (escC c ++ esc t)[j]? := fun j => by
   rw [ee, List.getElem?_append_right (by omega)]; congr 1; omega
  have dA : ∀ j, (esc s).drop ((esc (s.take k)).length + j) = (escC c ++ esc t).drop j := fun j => by
   rw [ee, List.drop_append]; simp
  generalize (esc (s.take k)).length = n at h gA dA
  by_cases hi : 0 ≤ Lib.indexByte escB c
  ·have h7 := esc_1 hi
   have h8 := (Lib.indexByte_some (l := escB) (c := c) (o := (Lib.indexByte escB c).toNat) (by omega)).1
   have e : escC c = [92, escL.getD (Lib.indexByte escB c).toNat 0] := by unfold escC; rw [if_pos hi]
   generalize (Lib.indexByte escB c).toNat = q at h7 h8 e
   have hq : ∀ q, q < 7 → seqP (escL.getD q 0 :: esc t) = some (escB.getD q 0, 1) := by
    intro q hq
    have e1 : ∀ q, q < 7 → 0 ≤ Lib.indexByte escL (escL.getD q 0) ∧ (Lib.indexByte escL (escL.getD q 0)).toNat = q := by decide
    unfold seqP
    simp only
    rw [if_pos (e1 q hq).1, (e1 q hq).2]
   have hcq : escB.getD q 0 = c := getD_of h8
   refine .esc (d := c) (n := 1) ?_ ?_ (by rw [e] at h; exact h)
   ·have := gA 0; rw [Nat.add_zero] at this; rw [this, e]; rfl
   ·rw [dA 1, e, ← hcq]; exact hq q h7
  ·by_cases h92 : c = 92
   ·subst h92
    have e : escC 92 = [92, 92] := by decide
    refine .esc (d := 92) (n := 1) ?_ ?_ (by rw [e] at h; exact h)
    ·have := gA 0; rw [Nat.add_zero] at this; rw [this, e]; rfl
    ·rw [dA 1, e]
     show seqP (92 :: esc t) = _
     unfold seqP
     simp only
     rw [if_neg (by decide), if_pos (by decide)]
   ·by_cases hp : 32 ≤ c.toNat ∧ c.toNat ≤ 126
    ·have e : escC c = [c] := by unfold escC; rw [if_neg hi, if_neg h92, if_pos hp]
     refine .raw (c := c) ?_ h92 (by rw [e] at h; exact h)
     have := gA 0; rw [Nat.add_zero] at this; rw [this, e]; rfl
    ·have e : escC c = 92 :: octL c := by unfold escC; rw [if_neg hi, if_neg h92, if_neg hp]
     refine .esc (d := c) (n := 3) ?_ ?_ (by rw [e] at h; exact h)
     ·have := gA 0; rw [Nat.add_zero] at this; rw [this, e]; rfl
     ·rw [dA 1, e]
      show seqP (octL c ++ esc t) = _
      have hc8 := c.toNat_lt
      have o1 : (UInt8.ofNat (48 + c.toNat / 64)).toNat = 48 + c.toNat / 64 := by rw [UInt8.toNat_ofNat']; omega
      have o2 : (UInt8.ofNat (48 + c.toNat / 8 % 8)).toNat = 48 + c.toNat / 8 % 8 := by rw [UInt8.toNat_ofNat']; omega
      have o3 : (UInt8.ofNat (48 + c.toNat % 8)).toNat = 48 + c.toNat % 8 := by rw [UInt8.toNat_ofNat']; omega
      have d1 : (UInt8.ofNat (48 + c.toNat / 64)) = 48 ∨ (UInt8.ofNat (48 + c.toNat / 64)) = 49 ∨ (UInt8.ofNat (48 + c.toNat / 64)) = 50 ∨ (UInt8.ofNat (48 + c.toNat / 64)) = 51 := by
       have : c.toNat / 64 = 0 ∨ c.toNat / 64 = 1 ∨ c.toNat / 64 = 2 ∨ c.toNat / 64 = 3 := by omega
       rcases this with q | q | q | q <;> rw [q] <;> decide
      have hv : octV 3 0 (octL c ++ esc t) = (c.toNat, 3) := by
       unfold octL
       simp only [List.cons_append, List.nil_append, octV, o1, o2, o3]
       rw [if_pos (by omega), if_pos (by omega), if_pos (by omega)]
       simp only [Prod.mk.injEq]
       exact ⟨by omega, trivial⟩
      have hne : ∃ x l, octL c ++ esc t = x :: l ∧ ¬ 0 ≤ Lib.indexByte escL x ∧ ¬ (x = 92 ∨ x = 34 ∨ x = 47) := by
       refine ⟨UInt8.ofNat (48 + c.toNat / 64), _, rfl, ?_⟩
       rcases d1 with q | q | q | q <;> rw [q] <;> decide
      obtain ⟨x, l, hx, n1, n2⟩ := hne
      rw [hx] at hv ⊢
      unfold seqP
      simp only
      rw [if_neg n1, if_neg n2, hv, if_pos ⟨by simp, hc8⟩]
      simp only [Option.some.injEq, Prod.mk.injEq, and_true]
      exact UInt8.toNat_inj.1 (by rw [UInt8.toNat_ofNat']; exact Nat.mod_eq_of_lt hc8)
theorem un_esc (s : Bs) : unT (esc s) = s ∧ unE (esc s) = 0 ∧ unI (esc s) = 0 :=
 un_ok (ue_esc s s.length [] _ (by simp) (by simp) (by rw [List.take_length]; exact .fin (Nat.le_refl _)))
end Go.Proofs.YtfbpbkcplpkndaaGreatDoor
end
section
namespace Go.Proofs.YtfbpbkcplpkndaaGreatDoor
set_option linter.unusedVariables false
set_option linter.unusedSimpArgs false
set_option linter.unusedSectionVars false
def lnF (x : DL) : Prop := 1 ≤ x.op ∧ x.op ≤ 3 ∧ ∀ c ∈ x.tx, c ≠ 10
structure HkF (h : Hk) : Prop where
 ln : ∀ x ∈ h.ls, lnF x
 la : h.la = cA h.ls
 lb : h.lb = cB h.ls
 a0 : 0 ≤ h.fa
 a1 : h.fa ≤ 2147483647
 b0 : 0 ≤ h.fb
 b1 : h.fb ≤ 2147483647
def ptF (p : Pt) : Prop := ∀ h ∈ p.hs, HkF h
noncomputable def dcd (p : Prop) : Bool := @decide p (Classical.propDecidable _)
theorem dcd_t {p : Prop} (h : p) : dcd p = true := by unfold dcd; simp [h]
theorem dcd_f {p : Prop} (h : ¬ p) : dcd p = false := by unfold dcd; simp [h]
theorem dcd_iff {p : Prop} : dcd p = true ↔ p := by unfold dcd; simp
theorem dcd_nf {p : Prop} : dcd p = false ↔ ¬ p := by unfold dcd; simp
def noE : Bs := [92, 32, 78, 111, 32, 110, 101, 119, 108, 105, 110, 101, 32, 97, 116, 32, 101, 110, 100, 32, 111, 102, 32, 102, 105, 108, 101]
def sgn (op : Int) : Bs := if op = 2 then [45] else if op = 3 then [43] else [32]
def wrt (b : Bs) (x : DL) : Bs := b ++ x.tx ++ [10] ++ (if x.ne = true then noE ++ [10] else [])
def ext (f n : Int) : Bs := if n = 1 then Lib.itoa f else Lib.itoa f ++ [44] ++ Lib.itoa n
def hdU (h : Hk) : Bs := [64, 64, 32, 45] ++ ext h.fa h.la ++ [32, 43] ++ ext h.fb h.lb ++ [32, 64, 64]
def lsU (l : List DL) : Bs := l.flatMap fun x => wrt (sgn x.op) x
def hkU (h : Hk) : Bs := hdU h ++ [10] ++ lsU h.ls
def nmU (p : Pt) : Bs := [45, 45, 45, 32] ++ esc p.old ++ [10, 43, 43, 43, 32] ++ esc p.new ++ [10]
def ptU (p : Pt) : Bs := nmU p ++ p.hs.flatMap hkU
noncomputable def uni (p : Pt) : Bs := if dcd (ptF p) = true then ptU p else []
def ends (f t : Int) : Bs := if f = t then Lib.itoa f else Lib.itoa f ++ [44] ++ Lib.itoa t
def norG (a b : Int) (d i : List DL) : Bs :=
 if d = [] ∧ i = [] then [] else
 if i = [] then ends (a + 1) (a + d.length) ++ [100] ++ Lib.itoa b ++ [10] ++ d.flatMap (wrt [60, 32])
 else if d = [] then Lib.itoa a ++ [97] ++ ends (b + 1) (b + i.length) ++ [10] ++ i.flatMap (wrt [62, 32])
 else ends (a + 1) (a + d.length) ++ [99] ++ ends (b + 1) (b + i.length) ++ [10] ++ d.flatMap (wrt [60, 32]) ++ [45, 45, 45, 10] ++ i.flatMap (wrt [62, 32])
def norF (a b : Int) (d i : List DL) : List DL → Bs
 | [] => norG a b d i
 | x :: r => if x.op = 2 then norF a b (d ++ [x]) i r else if x.op = 3 then norF a b d (i ++ [x]) r else norG a b d i ++ norF (a + d.length + 1) (b + i.length + 1) [] [] r
def bfr (f n : Int) : Int := if n = 0 then f else f - 1
def hkN (h : Hk) : Bs := norF (bfr h.fa h.la) (bfr h.fb h.lb) [] [] h.ls
noncomputable def nor (p : Pt) : Bs := if dcd (ptF p) = true then p.hs.flatMap hkN else []
def isD (x : DL) : Bool := decide (x.op = 2)
def isI (x : DL) : Bool := decide (x.op = 3)
def dgV (s : Bs) : Int := if numE s = 9 then 2147483648 else numV s
def dgO (s : Bs) : Bool := decide (numE s ≠ 1) && !Lib.hasPrefix s [45]
def prA (s : Bs) : Int := dgV (Lib.cut s [44]).1
def prB (s : Bs) : Int := if (Lib.cut s [44]).2.2 = true then dgV (Lib.cut s [44]).2.1 else 1
def prO (s : Bs) : Bool := dgO (Lib.cut s [44]).1 && (if (Lib.cut s [44]).2.2 = true then dgO (Lib.cut s [44]).2.1 else true)
def hdT (s : Bs) : Bs := Lib.trimSuffix (s.drop 4) [32, 64, 64]
def hdX (s : Bs) : Bs × Bs × Bool := Lib.cut (hdT s) [32, 43]
structure HdN where
 fa : Int
 la : Int
 fb : Int
 lb : Int
def hdV (s : Bs) : HdN := ⟨prA (hdX s).1, prB (hdX s).1, prA (hdX s).2.1, prB (hdX s).2.1⟩
def hdO (s : Bs) : Bool := Lib.hasPrefix s [64, 64, 32, 45] && Lib.hasSuffix (s.drop 4) [32, 64, 64] && (hdX s).2.2 && prO (hdX s).1 && prO (hdX s).2.1
def hdE (s : Bs) : Int := if hdO s = true then (if (hdV s).fa ≤ 2147483647 ∧ (hdV s).la ≤ 2147483647 ∧ (hdV s).fb ≤ 2147483647 ∧ (hdV s).lb ≤ 2147483647 then 0 else 2) else 1
def opP (l : Bs) (a b : Int) : Option Int :=
 if l[0]? = some 32 ∧ 0 < a ∧ 0 < b then some 1 else if l[0]? = some 45 ∧ 0 < a then some 2 else if l[0]? = some 43 ∧ 0 < b then some 3 else none
def neB (ls : List Bs) (k : Nat) : Bool := decide (ls[k]? = some noE)
def nxt (ls : List Bs) (k : Nat) : Nat := if neB ls k = true then k + 1 else k
theorem opP_cases {l : Bs} {a b op : Int} (h : opP l a b = some op) : (op = 1 ∧ l[0]? = some 32 ∧ 0 < a ∧ 0 < b) ∨ (op = 2 ∧ l[0]? = some 45 ∧ 0 < a) ∨ (op = 3 ∧ l[0]? = some 43 ∧ 0 < b) := by
 unfold opP at h
 split at h
 ·rename_i q; cases h; exact Or.inl ⟨rfl, q⟩
 ·split at h
  ·rename_i q; cases h; exact Or.inr (Or.inl ⟨rfl, q⟩)
  ·split at h
   ·rename_i q; cases h; exact Or.inr (Or.inr ⟨rfl, q⟩)
   ·cases h
inductive Bd (ls : List Bs) : Int → Int → Nat → List DL → (Int × Nat × List DL) → Prop
 | fin {a b : Int} {k : Nat} {acc : List DL} : ¬ (0 < a ∨ 0 < b) → Bd ls a b k acc (0, k, acc)
 | out {a b : Int} {k : Nat} {acc : List DL} : (0 < a ∨ 0 < b) → ls.length ≤ k → Bd ls a b k acc (1, k, acc)
 | bad {a b : Int} {k : Nat} {acc : List DL} {l : Bs} : (0 < a ∨ 0 < b) → ls[k]? = some l → opP l a b = none → Bd ls a b k acc (1, k, acc)
 | go {a b op : Int} {k : Nat} {acc : List DL} {l : Bs} {r : Int × Nat × List DL} : ls[k]? = some l → opP l a b = some op → Bd ls (if op = 3 then a else a - 1) (if op = 2 then b else b - 1) (nxt ls (k + 1)) (acc ++ [⟨op, l.drop 1, neB ls (k + 1)⟩]) r → Bd ls a b k acc r
section
variable {ls : List Bs}
theorem Bd.det {a b : Int} {k : Nat} {acc : List DL} {r r' : Int × Nat × List DL} (h : Bd ls a b k acc r) : Bd ls a b k acc r' → r = r' := by
 induction h with
 | fin h =>
  intro g
  cases g with
  | fin => rfl
  | out q => exact absurd q h
  | bad q => exact absurd q h
  | go _ q => rcases opP_cases q with q | q | q <;> omega
 | out h h2 =>
  intro g
  cases g with
  | fin q => exact absurd h q
  | out => rfl
  | bad _ q => have := (List.getElem?_eq_some_iff.1 q).1; omega
  | go q => have := (List.getElem?_eq_some_iff.1 q).1; omega
 | bad h h2 h3 =>
  intro g
  cases g with
  | fin q => exact absurd h q
  | out _ q => have := (List.getElem?_eq_some_iff.1 h2).1; omega
  | bad => rfl
  | go q q2 => rw [h2] at q; cases q; rw [h3] at q2; cases q2
 | go h h2 _ ih =>
  intro g
  cases g with
  | fin q => rcases opP_cases h2 with h | h | h <;> omega
  | out _ q => have := (List.getElem?_eq_some_iff.1 h).1; omega
  | bad _ q q2 => rw [h] at q; cases q; rw [h2] at q2; cases q2
  | go q q2 g => rw [h] at q; cases q; rw [h2] at q2; cases q2; exact ih g
theorem nxt_ge (k : Nat) : k ≤ nxt ls k := by unfold nxt; split <;> omega
theorem nxt_le {k : Nat} (h : k ≤ ls.length) : nxt ls k ≤ ls.length := by
 unfold nxt; split
 ·rename_i q
  unfold neB at q
  have := (List.getElem?_eq_some_iff.1 (of_decide_eq_true q)).1
  omega
 ·exact h
theorem Bd.ex : ∀ (n : Nat) (a b : Int) (k : Nat) (acc : List DL), a.toNat + b.toNat ≤ n → ∃ r, Bd ls a b k acc r
 | n, a, b, k, acc, hn => by
  by_cases h0 : 0 < a ∨ 0 < b
  ·cases hl : ls[k]? with
   | none => exact ⟨_, .out h0 (List.getElem?_eq_none_iff.1 hl)⟩
   | some l =>
    cases ho : opP l a b with
    | none => exact ⟨_, .bad h0 hl ho⟩
    | some op =>
     cases n with
     | zero => omega
     | succ n =>
      obtain ⟨r, hr⟩ := Bd.ex n (if op = 3 then a else a - 1) (if op = 2 then b else b - 1) (nxt ls (k + 1)) (acc ++ [⟨op, l.drop 1, neB ls (k + 1)⟩]) (by
       rcases opP_cases ho with ⟨q, h⟩ | ⟨q, h⟩ | ⟨q, h⟩ <;> subst q <;> simp <;> omega)
      exact ⟨r, .go hl ho hr⟩
  ·exact ⟨_, .fin h0⟩
end
noncomputable def bdR (ls : List Bs) (a b : Int) (k : Nat) : Int × Nat × List DL := Classical.choose (Bd.ex (ls := ls) (a.toNat + b.toNat) a b k [] (Nat.le_refl _))
theorem bdR_ok (ls : List Bs) (a b : Int) (k : Nat) : Bd ls a b k [] (bdR ls a b k) := Classical.choose_spec (Bd.ex (ls := ls) (a.toNat + b.toNat) a b k [] (Nat.le_refl _))
theorem bdR_eq {ls : List Bs} {a b : Int} {k : Nat} {r : Int × Nat × List DL} (h : Bd ls a b k [] r) : bdR ls a b k = r := (bdR_ok ls a b k).det h
def lnAt (ls : List Bs) (k : Nat) : Bs := ls.getD k []
noncomputable def hkB (ls : List Bs) (k : Nat) : Int × Nat × List DL := bdR ls (hdV (lnAt ls k)).la (hdV (lnAt ls k)).lb (k + 1)
noncomputable def hkE (ls : List Bs) (k : Nat) : Int := if hdE (lnAt ls k) = 0 then (hkB ls k).1 else hdE (lnAt ls k)
noncomputable def hkA (ls : List Bs) (k : Nat) : Nat := if hdE (lnAt ls k) = 0 then (hkB ls k).2.1 else k
noncomputable def hkH (ls : List Bs) (k : Nat) : Hk := ⟨(hdV (lnAt ls k)).fa, (hdV (lnAt ls k)).la, (hdV (lnAt ls k)).fb, (hdV (lnAt ls k)).lb, (hkB ls k).2.2⟩
def atH (ls : List Bs) (k : Nat) : Bool := decide (k < ls.length) && Lib.hasPrefix (lnAt ls k) [64, 64]
theorem Bd.adv {ls : List Bs} {a b : Int} {k : Nat} {acc : List DL} {r : Int × Nat × List DL} (h : Bd ls a b k acc r) : k ≤ r.2.1 ∧ (k ≤ ls.length → r.2.1 ≤ ls.length) := by
 induction h with
 | fin => exact ⟨Nat.le_refl _, id⟩
 | out => exact ⟨Nat.le_refl _, id⟩
 | bad => exact ⟨Nat.le_refl _, id⟩
 | @go a b op k acc l r h _ _ ih =>
  have h1 := nxt_ge (ls := ls) (k + 1)
  have hk := (List.getElem?_eq_some_iff.1 h).1
  exact ⟨by omega, fun _ => ih.2 (nxt_le (by omega))⟩
theorem hkA_adv {ls : List Bs} {k : Nat} (h : hkE ls k = 0) : k + 1 ≤ hkA ls k := by
 unfold hkE at h; unfold hkA
 split at h
 ·rename_i q; rw [if_pos q]; exact (bdR_ok ls _ _ (k + 1)).adv.1
 ·rename_i q; exact absurd h q
theorem hkA_le {ls : List Bs} {k : Nat} (hk : k < ls.length) : hkA ls k ≤ ls.length := by
 unfold hkA; split
 ·exact (bdR_ok ls _ _ (k + 1)).adv.2 hk
 ·omega
inductive Hs (ls : List Bs) : Nat → List Hk → (Int × Nat × List Hk) → Prop
 | fin {k : Nat} {acc : List Hk} : atH ls k = false → Hs ls k acc (0, k, acc)
 | bad {k : Nat} {acc : List Hk} : atH ls k = true → hkE ls k ≠ 0 → Hs ls k acc (hkE ls k, hkA ls k, acc)
 | go {k : Nat} {acc : List Hk} {r : Int × Nat × List Hk} : atH ls k = true → hkE ls k = 0 → Hs ls (hkA ls k) (acc ++ [hkH ls k]) r → Hs ls k acc r
section
variable {ls : List Bs}
theorem atH_lt {k : Nat} (h : atH ls k = true) : k < ls.length := by unfold atH at h; simp at h; exact h.1
theorem Hs.det {k : Nat} {acc : List Hk} {r r' : Int × Nat × List Hk} (h : Hs ls k acc r) : Hs ls k acc r' → r = r' := by
 induction h with
 | fin h => intro g; cases g with
  | fin => rfl
  | bad q => rw [h] at q; cases q
  | go q => rw [h] at q; cases q
 | bad h h2 => intro g; cases g with
  | fin q => rw [h] at q; cases q
  | bad => rfl
  | go _ q => exact absurd q h2
 | go h h2 _ ih => intro g; cases g with
  | fin q => rw [h] at q; cases q
  | bad _ q => exact absurd h2 q
  | go _ _ g => exact ih g
theorem Hs.ex : ∀ (n k : Nat) (acc : List Hk), ls.length - k ≤ n → ∃ r, Hs ls k acc r
 | n, k, acc, hn => by
  cases ha : atH ls k with
  | false => exact ⟨_, .fin ha⟩
  | true =>
   by_cases he : hkE ls k = 0
   ·have h1 := hkA_adv he
    have h2 := atH_lt ha
    cases n with
    | zero => omega
    | succ n =>
     obtain ⟨r, hr⟩ := Hs.ex n (hkA ls k) (acc ++ [hkH ls k]) (by omega)
     exact ⟨r, .go ha he hr⟩
   ·exact ⟨_, .bad ha he⟩
end
noncomputable def hsR (ls : List Bs) (k : Nat) : Int × Nat × List Hk := Classical.choose (Hs.ex (ls := ls) (ls.length - k) k [] (Nat.le_refl _))
theorem hsR_ok (ls : List Bs) (k : Nat) : Hs ls k [] (hsR ls k) := Classical.choose_spec (Hs.ex (ls := ls) (ls.length - k) k [] (Nat.le_refl _))
theorem hsR_eq {ls : List Bs} {k : Nat} {r : Int × Nat × List Hk} (h : Hs ls k [] r) : hsR ls k = r := (hsR_ok ls k).det h
theorem Hs.adv {k : Nat} {ls : List Bs} {acc : List Hk} {r : Int × Nat × List Hk} (h : Hs ls k acc r) : (r.1 = 0 → k ≤ r.2.1) ∧ (k ≤ ls.length → r.2.1 ≤ ls.length) := by
 induction h with
 | fin => exact ⟨fun _ => Nat.le_refl _, id⟩
 | bad h h2 => exact ⟨fun q => absurd q h2, fun _ => hkA_le (atH_lt h)⟩
 | go h h2 _ ih => exact ⟨fun q => by have := hkA_adv h2; have := ih.1 q; omega, fun _ => ih.2 (hkA_le (atH_lt h))⟩
noncomputable def nmP (ls : List Bs) (k : Nat) (p : Bs) : Option Bs := if k < ls.length ∧ Lib.hasPrefix (lnAt ls k) p = true ∧ unE ((lnAt ls k).drop p.length) = 0 then some (unT ((lnAt ls k).drop p.length)) else none
def mnA : Bs := [45, 45, 45, 32]
def mnB : Bs := [43, 43, 43, 32]
theorem nmP_lt {ls : List Bs} {k : Nat} {p x : Bs} (h : nmP ls k p = some x) : k < ls.length := by
 unfold nmP at h; split at h
 ·rename_i q; exact q.1
 ·cases h
inductive Pm (ls : List Bs) : Nat → List Pt → (Int × Nat × List Pt) → Prop
 | fin {k : Nat} {acc : List Pt} : ls.length ≤ k → Pm ls k acc (0, k, acc)
 | b1 {k : Nat} {acc : List Pt} : k < ls.length → nmP ls k mnA = none → Pm ls k acc (1, k, acc)
 | b2 {k : Nat} {acc : List Pt} {o : Bs} : nmP ls k mnA = some o → nmP ls (k + 1) mnB = none → Pm ls k acc (1, k + 1, acc)
 | b3 {k : Nat} {acc : List Pt} {o n : Bs} : nmP ls k mnA = some o → nmP ls (k + 1) mnB = some n → (hsR ls (k + 2)).1 ≠ 0 → Pm ls k acc ((hsR ls (k + 2)).1, (hsR ls (k + 2)).2.1, acc)
 | go {k : Nat} {acc : List Pt} {o n : Bs} {r : Int × Nat × List Pt} : nmP ls k mnA = some o → nmP ls (k + 1) mnB = some n → (hsR ls (k + 2)).1 = 0 → Pm ls (hsR ls (k + 2)).2.1 (acc ++ [⟨o, n, (hsR ls (k + 2)).2.2⟩]) r → Pm ls k acc r
section
variable {ls : List Bs}
theorem Pm.det {k : Nat} {acc : List Pt} {r r' : Int × Nat × List Pt} (h : Pm ls k acc r) : Pm ls k acc r' → r = r' := by
 induction h with
 | fin h => intro g; cases g with
  | fin => rfl
  | b1 q => omega
  | b2 q => have := nmP_lt q; omega
  | b3 q => have := nmP_lt q; omega
  | go q => have := nmP_lt q; omega
 | b1 h h2 => intro g; cases g with
  | fin q => omega
  | b1 => rfl
  | b2 q => rw [h2] at q; cases q
  | b3 q => rw [h2] at q; cases q
  | go q => rw [h2] at q; cases q
 | b2 h h2 => intro g; cases g with
  | fin q => have := nmP_lt h; omega
  | b1 _ q => rw [h] at q; cases q
  | b2 => rfl
  | b3 _ q => rw [h2] at q; cases q
  | go _ q => rw [h2] at q; cases q
 | b3 h h2 h3 => intro g; cases g with
  | fin q => have := nmP_lt h; omega
  | b1 _ q => rw [h] at q; cases q
  | b2 _ q => rw [h2] at q; cases q
  | b3 => rfl
  | go _ _ q => exact absurd q h3
 | go h h2 h3 _ ih => intro g; cases g with
  | fin q => have := nmP_lt h; omega
  | b1 _ q => rw [h] at q; cases q
  | b2 _ q => rw [h2] at q; cases q
  | b3 _ _ q => exact absurd h3 q
  | go q q2 _ g => rw [h] at q; cases q; rw [h2] at q2; cases q2; exact ih g
theorem Pm.ex : ∀ (n k : Nat) (acc : List Pt), ls.length - k ≤ n → ∃ r, Pm ls k acc r
 | n, k, acc, hn => by
  by_cases hk : ls.length ≤ k
  ·exact ⟨_, .fin hk⟩
  ·cases ho : nmP ls k mnA with
   | none => exact ⟨_, .b1 (by omega) ho⟩
   | some o =>
    cases hn' : nmP ls (k + 1) mnB with
    | none => exact ⟨_, .b2 ho hn'⟩
    | some n' =>
     by_cases he : (hsR ls (k + 2)).1 = 0
     ·have h1 := (hsR_ok ls (k + 2)).adv.1 he
      cases n with
      | zero => omega
      | succ n =>
       obtain ⟨r, hr⟩ := Pm.ex n (hsR ls (k + 2)).2.1 (acc ++ [⟨o, n', (hsR ls (k + 2)).2.2⟩]) (by omega)
       exact ⟨r, .go ho hn' he hr⟩
     ·exact ⟨_, .b3 ho hn' he⟩
end
noncomputable def pmR (ls : List Bs) : Int × Nat × List Pt := Classical.choose (Pm.ex (ls := ls) (ls.length - 0) 0 [] (Nat.le_refl _))
theorem pmR_ok (ls : List Bs) : Pm ls 0 [] (pmR ls) := Classical.choose_spec (Pm.ex (ls := ls) (ls.length - 0) 0 [] (Nat.le_refl _))
noncomputable def paP (s : Bs) : List Pt := if (pmR (lins s)).1 = 0 then (pmR (lins s)).2.2 else []
noncomputable def paE (s : Bs) : Int := (pmR (lins s)).1
noncomputable def paL (s : Bs) : Int := if (pmR (lins s)).1 = 0 then 0 else (pmR (lins s)).2.1 + 1
theorem Pm.adv {k : Nat} {ls : List Bs} {acc : List Pt} {r : Int × Nat × List Pt} (h : Pm ls k acc r) : k ≤ ls.length → r.2.1 ≤ ls.length := by
 induction h with
 | fin => exact id
 | b1 => exact id
 | b2 h => intro _; exact nmP_lt h
 | b3 h h2 => intro _; exact (hsR_ok ls _).adv.2 (by have := nmP_lt h2; omega)
 | go h h2 _ _ ih => intro _; exact ih ((hsR_ok ls _).adv.2 (by have := nmP_lt h2; omega))
end Go.Proofs.YtfbpbkcplpkndaaGreatDoor
end
section
namespace Go.Proofs.YtfbpbkcplpkndaaGreatDoor
set_option linter.unusedVariables false
set_option linter.unusedSimpArgs false
def encDL (x : DL) : AV := .agg [intA x.op, strL x.tx, boolA x.ne]
def encHk (h : Hk) : AV := .agg [intA h.fa, intA h.la, intA h.fb, intA h.lb, .slice 3 (h.ls.map encDL)]
def encPt (p : Pt) : AV := .agg [strL p.old, strL p.new, .slice 5 (p.hs.map encHk)]
def encStp (s : Stp) : AV := .agg [intA s.op, intA s.a, intA s.b, strL s.tx]
def encEd (e : Ed) : AV := .agg [intA e.op, intA e.a, intA e.b, intA e.n]
def encNm (n t : Bs) : AV := .agg [strL n, strL t]
theorem take_len1 {α : Type} {l : List α} {k : Nat} {x : α} (h : l[k]? = some x) : (l.take k).length + 1 = (l.take (k + 1)).length := by
 have := (List.getElem?_eq_some_iff.1 h).1
 rw [List.length_take, List.length_take]; omega
theorem map_take1 {α β : Type} {f : α → β} {l : List α} {k : Nat} {x : α} (h : l[k]? = some x) : (l.take k).map f ++ [f x] = (l.take (k + 1)).map f := by rw [take_succ_get h, List.map_append]; rfl
theorem cA_take {l : List DL} {k : Nat} {x : DL} (h : l[k]? = some x) : cA (l.take (k + 1)) = cA (l.take k) + if x.op = 3 then 0 else 1 := by rw [take_succ_get h, cA_app, cA_one]
theorem cB_take {l : List DL} {k : Nat} {x : DL} (h : l[k]? = some x) : cB (l.take (k + 1)) = cB (l.take k) + if x.op = 2 then 0 else 1 := by rw [take_succ_get h, cB_app, cB_one]
theorem last_i {l : Bs} {c : UInt8} (h : (0 : Int) < l.length) (hc : l[((l.length : Int) - 1).toNat]? = some c) : l.getLast? = some c := by
 rw [List.getLast?_eq_getElem?, show l.length - 1 = ((l.length : Int) - 1).toNat by omega]; exact hc
theorem mkDL_y {op : Int} {s : Bs} {c : UInt8} (h : (0 : Int) < s.length) (hc : s[((s.length : Int) - 1).toNat]? = some c) (h10 : c = 10) : mkDL op s = ⟨op, (s.take ((s.length : Int) - 1).toNat).drop 0, false⟩ := by
 subst h10
 unfold mkDL
 rw [if_pos (last_i h hc), List.dropLast_eq_take, List.drop_zero, show s.length - 1 = ((s.length : Int) - 1).toNat by omega]
theorem mkDL_n {op : Int} {s : Bs} {c : UInt8} (h : (0 : Int) < s.length) (hc : s[((s.length : Int) - 1).toNat]? = some c) (h10 : ¬ c = 10) : mkDL op s = ⟨op, s, true⟩ := by
 unfold mkDL
 rw [if_neg (by rw [last_i h hc]; simpa using h10)]
end Go.Proofs.YtfbpbkcplpkndaaGreatDoor
end
