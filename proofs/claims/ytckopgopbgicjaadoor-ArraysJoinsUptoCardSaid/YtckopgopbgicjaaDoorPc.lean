/- Own texts of this claim, merged: AmW1, AmW2, AmW3, AmW4, AmC, Rep, Laid, Pl, NuP, AjP, Ft, Aj1, Arr, Arr2, Arr3, Arr4, Arr5, Arr6, Sh, AjX, Aj2. -/
import Derived.Test.YtckopgopbgicjaaDoorPb
import Derived.LaidMore
import Derived.Lib.LaidTab
import Derived.Stop.Joined
import Derived.Lib.AtoiAll
import Derived.Lib.ItoaNum
import Derived.Test.YtckopgopbgicjaaDoorChecked
import Derived.KernelRfl
import Derived.Lib.Join
import Derived.Test.YtckopgopbgicjaaDoorRows
import Derived.Shelf.Strings.OnBuilder
import Derived.Shelf.LaysM
import Derived.Shelf.Strconv.Itoa3
import Derived.Test.YtckopgopbgicjaaDoorProg
import Derived.Lib.ItoaMem
import Derived.Lib.AppendIntMem
section
namespace Go.Proofs.YtckopgopbgicjaaDoor
set_option linter.unusedVariables false
set_option linter.unusedSimpArgs false
abbrev Bs := List UInt8
def ofL (l : Bs) : ByteArray := ⟨l.toArray⟩
def toL (s : ByteArray) : Bs := s.data.toList
def strL (l : Bs) : AV := .val (.string (ofL l))
def intA (n : Int) : AV := .val (.int .i64 n)
def u8A (c : UInt8) : AV := .val (.int .u8 c.toNat)
def boolA (b : Bool) : AV := .val (.bool b)
theorem ofL_toL (s : ByteArray) : ofL (toL s) = s := rfl
theorem wrap64_id {n : Int} (h1 : -9223372036854775808 ≤ n) (h2 : n ≤ 9223372036854775807) : IntKind.i64.wrap n = n := IntWalk.i64_in _ (by omega)
def InI64 (n : Int) : Prop := -9223372036854775808 ≤ n ∧ n ≤ 9223372036854775807
instance (n : Int) : Decidable (InI64 n) := by unfold InI64; infer_instance
inductive Tr : Type 1
 | nil
 | b (x : Bool) (r : Tr)
 | br (p q : Tr)
 | w (r : Tr)
 | raw (r : Tr)
 | k (n : Nat) (r : Tr)
 | sl (a b : Nat) (r : Tr)
 | ix {α : Type} (f : α → AV) (a : List α) (k : Nat) (r : α → Tr)
 | y (k : Nat) (r : UInt8 → Tr)
 | yk (k : Nat) (c : UInt8) (r : Tr)
 | un (n : Nat) (r : Tr)
 | bs (l : Bs) (r : Tr)
 | g (l : List AV) (r : Tr)
 | c (v : AV) (r : Tr)
 | cm (v : AV) (m : List MObj) (r : Tr)
 | inl (r : Tr)
 | mp {α : Type} (f : α → AV) (a : List (Bs × α)) (p : α → Tr) (q : Tr)
 | ms (es : List (Value × AV)) (r : Tr)
 | inv {ι : Type} (S : ι → St) (I : ι → Prop) (μ : ι → Nat) (r : ι → Tr)
 | lp (ex : AExit) (st : St) (r : Tr)
 | cut {ι : Type} (S : ι → St) (I : ι → Prop) (a : Tr) (r : ι → Tr)
inductive Ask where
 | stop (w : AOp)
 | t (b : Bool)
 | w (n : Int)
 | q (k : IntKind) (a b : Int)
 | r (a b : Int)
 | sh (b : Int)
 | ix (l : List AV) (n : Int)
 | ra (n : Int) (len : Nat)
 | ld (l : List AV) (i : Nat)
 | fin (n : Int) (i : Nat)
 | aa (n : Int) (i : Nat)
 | y (l : Bs) (n : Int)
 | len (l : List AV)
 | sl (len : Nat) (lo hi : Option Operand) (fr : List (Nat × AV))
 | cat (a b : Bs)
 | bs (l : List AV)
 | g (l : List AV) (off len : Nat)
 | call (f : FuncId) (vs : List AV)
 | callM (f : FuncId) (vs : List AV) (m : List MObj)
 | mp (es : List (Value × AV)) (k : Bs)
 | ms (es : List (Value × AV)) (k : Value) (v : AV)
 | app (l ly : List AV) (used : Nat)
 | n (a b : Int)
 | loop (c : ACode) (keep : List Nat) (st : St)
 | join (keep : List Nat) (st : St)
inductive StuckAt (_ : Ask) (_ : Tr → Prop) : Prop
theorem StuckAt.elim {a : Ask} {K : Tr → Prop} {p : Prop} (h : StuckAt a K) : p := nomatch h
def W (α : Type) := Tr → (α → Tr → Prop) → Prop
def SoundW {α : Type} (x : W α) (o : Option α) : Prop := ∀ T Q, x T Q → ∃ a T', o = some a ∧ Q a T'
def retW {α : Type} (a : α) : W α := fun T Q => Q a T
def bindW {α β : Type} (x : W α) (f : α → W β) : W β := fun T Q => x T fun a T' => f a T' Q
def askW {α : Type} (a : Ask) (q : Tr → (α → Tr → Prop) → Prop) : W α := fun T Q => match T with
 | .nil => StuckAt a fun T' => q T' Q
 | T => q T Q
def stopW {α : Type} (w : AOp) : W α := fun _ _ => StuckAt (.stop w) fun _ => False
def liftW {α : Type} (w : AOp) (o : Option α) : W α := fun T Q => match o with
 | some a => Q a T
 | none => StuckAt (.stop w) fun _ => False
def ifW {α : Type} (w : AOp) (c : Prop) [Decidable c] (x : W α) : W α := if c then x else stopW w
section
variable {α β : Type}
theorem SoundW.ret (a : α) : SoundW (retW a) (some a) := fun T _ h => ⟨a, T, rfl, h⟩
theorem SoundW.ret' {a : α} {o : Option α} (h : o = some a) : SoundW (retW a) o := h ▸ .ret a
theorem SoundW.bind {x : W α} {f : α → W β} {o : Option α} {g : α → Option β} (h : SoundW x o) (hf : ∀ a, o = some a → SoundW (f a) (g a)) : SoundW (bindW x f) (o.bind g) := fun T Q hq => by
 obtain ⟨a, T', h1, h2⟩ := h _ _ hq
 rw [h1]
 exact hf a h1 _ _ h2
theorem SoundW.bind' {x : W α} {f : α → W β} {o : Option α} {r : Option β} (h : SoundW x o) (hf : ∀ a, o = some a → SoundW (f a) r) : SoundW (bindW x f) r := fun T Q hq => by
 obtain ⟨a, T', h1, h2⟩ := h _ _ hq
 exact hf a h1 _ _ h2
theorem SoundW.ask {a : Ask} {q : Tr → (α → Tr → Prop) → Prop} {o : Option α} (h : ∀ T Q, q T Q → ∃ a T', o = some a ∧ Q a T') : SoundW (askW a q) o := fun T Q hq => by
 unfold askW at hq
 split at hq
 ·exact hq.elim
 ·exact h _ _ hq
theorem SoundW.stop (w : AOp) (o : Option α) : SoundW (stopW w : W α) o := fun _ _ h => h.elim
theorem SoundW.lift (w : AOp) (o : Option α) : SoundW (liftW w o) o := fun T Q h => by
 unfold liftW at h
 split at h
 ·exact ⟨_, T, rfl, h⟩
 ·exact h.elim
theorem SoundW.ite {w : AOp} {c : Prop} [Decidable c] {x : W α} {o : Option α} (h : c → SoundW x o) : SoundW (ifW w c x) o := by
 unfold ifW
 split
 ·rename_i hc; exact h hc
 ·exact .stop _ _
end
def boolW (t : Bool) : W Bool := askW (.t t) fun T Q => match T with
 | .b x r => t = x ∧ Q x r
 | .br p q => (t = true → Q true p) ∧ (t = false → Q false q)
 | _ => False
theorem boolW_ok (t : Bool) : SoundW (boolW t) (some t) := .ask fun T Q h => by
 split at h
 ·exact ⟨t, _, rfl, h.1 ▸ h.2⟩
 ·cases t
  ·exact ⟨_, _, rfl, h.2 rfl⟩
  ·exact ⟨_, _, rfl, h.1 rfl⟩
 ·exact h.elim
theorem wrap_ex : ∃ f : IntKind → Int → Int, f = IntKind.wrap := ⟨_, rfl⟩
noncomputable def wrapX : IntKind → Int → Int := Classical.choose wrap_ex
theorem wrapX_eq : wrapX = IntKind.wrap := Classical.choose_spec wrap_ex
def wrapW (n : Int) : W AV := askW (.w n) fun T Q => match T with
 | .w r => InI64 n ∧ Q (intA n) r
 | .raw r => Q (intA (wrapX .i64 n)) r
 | _ => False
theorem wrapW_ok (n : Int) : SoundW (wrapW n) (some (intA (IntKind.i64.wrap n))) := .ask fun T Q h => by
 split at h
 ·rename_i r
  refine ⟨_, r, rfl, ?_⟩
  rw [wrap64_id h.1.1 h.1.2]; exact h.2
 ·rw [wrapX_eq] at h; exact ⟨_, _, rfl, h⟩
 ·exact h.elim
def bitW (op : BinOp) (k : IntKind) (x y : Int) : Int := k.wrap (match op with
 | .and => (BitVec.ofInt k.bits x &&& BitVec.ofInt k.bits y).toNat
 | .or => (BitVec.ofInt k.bits x ||| BitVec.ofInt k.bits y).toNat
 | .xor => (BitVec.ofInt k.bits x ^^^ BitVec.ofInt k.bits y).toNat
 | _ => (BitVec.ofInt k.bits x &&& ~~~BitVec.ofInt k.bits y).toNat)
theorem bit_ex : ∃ f : BinOp → IntKind → Int → Int → Int, f = bitW := ⟨_, rfl⟩
noncomputable def bitX : BinOp → IntKind → Int → Int → Int := Classical.choose bit_ex
theorem bitX_eq : bitX = bitW := Classical.choose_spec bit_ex
def shlW (k : IntKind) (x y : Int) : Int := k.wrap (x * 2 ^ min y.toNat k.bits)
def shrW (k : IntKind) (x y : Int) : Int := x.fdiv (2 ^ min y.toNat k.bits)
def toU8 (n : Int) : UInt8 := UInt8.ofNat (n % 256).toNat
theorem u8_wrap (n : Int) : IntKind.u8.wrap n = ((toU8 n).toNat : Int) := by
 have h1 : 0 ≤ n % 256 := Int.emod_nonneg _ (by decide)
 have h2 : n % 256 < 256 := Int.emod_lt_of_pos _ (by decide)
 have h3 : (toU8 n).toNat = (n % 256).toNat := by
  unfold toU8
  rw [UInt8.toNat_ofNat']
  omega
 rw [h3]
 simp only [IntKind.wrap, IntKind.bits, IntKind.signed]
 simp
 omega
def arW (k : IntKind) (n : Int) : W AV := match k with
 | .i64 => wrapW n
 | .u8 => retW (u8A (toU8 n))
 | k => retW (.val (.int k (k.wrap n)))
theorem arW_ok (k : IntKind) (n : Int) : SoundW (arW k n) (some (.val (.int k (k.wrap n)))) := by
 cases k <;> first | exact wrapW_ok n | exact .ret' (by rw [u8_wrap]; rfl) | exact .ret _
def topI : IntKind → Int
 | .i64 => 9223372036854775807
 | .u8 => 255
 | .u64 => 18446744073709551615
 | _ => 0
theorem wrap_top {k : IntKind} {n : Int} (h1 : 0 ≤ n) (h2 : n ≤ topI k) : k.wrap n = n := by
 cases k <;> simp only [topI] at h2 <;> simp [IntKind.wrap, IntKind.bits, IntKind.signed] <;> omega
theorem quo_pos {a b : Int} (h1 : 0 ≤ a) (h2 : 0 < b) : a.tdiv b = a / b := Int.tdiv_eq_ediv_of_nonneg h1
theorem quo_wrap {k : IntKind} {a b : Int} (h1 : 0 ≤ a) (h2 : 0 < b) (h3 : a ≤ topI k) : k.wrap (a.tdiv b) = a / b := by
 rw [quo_pos h1 h2]
 refine wrap_top (Int.ediv_nonneg h1 (Int.le_of_lt h2)) (Int.le_trans (Int.ediv_le_self b h1) h3)
theorem rem_pos {a b : Int} (h1 : 0 ≤ a) : a.tmod b = a % b := Int.tmod_eq_emod_of_nonneg h1
def intW (w : AOp) (op : BinOp) (k : IntKind) (a b : Int) : W AV := match op with
 | .add => arW k (a + b)
 | .sub => arW k (a - b)
 | .mul => arW k (a * b)
 | .quo => askW (.q k a b) fun T Q => match T with
  | .w r => b ≠ 0 ∧ InI64 (a.tdiv b) ∧ k = .i64 ∧ Q (intA (a.tdiv b)) r
  | .raw r => b ≠ 0 ∧ Q (.val (.int k (wrapX k (a.tdiv b)))) r
  | .k _ r => 0 ≤ a ∧ 0 < b ∧ a ≤ topI k ∧ Q (.val (.int k (a / b))) r
  | _ => False
 | .rem => askW (.r a b) fun T Q => match T with
  | .w r => b ≠ 0 ∧ Q (.val (.int k (a.tmod b))) r
  | .k _ r => 0 ≤ a ∧ 0 < b ∧ Q (.val (.int k (a % b))) r
  | _ => False
 | .eql => retW (boolA (decide (a = b)))
 | .neq => retW (boolA (!decide (a = b)))
 | .lss => retW (boolA (decide (a < b)))
 | .leq => retW (boolA (decide (a ≤ b)))
 | .gtr => retW (boolA (decide (b < a)))
 | .geq => retW (boolA (decide (b ≤ a)))
 | .and => retW (.val (.int k (bitX .and k a b)))
 | .or => retW (.val (.int k (bitX .or k a b)))
 | .xor => retW (.val (.int k (bitX .xor k a b)))
 | .andNot => retW (.val (.int k (bitX .andNot k a b)))
 | _ => stopW w
theorem intW_ok (w : AOp) (op : BinOp) (k : IntKind) (a b : Int) : SoundW (intW w op k a b) ((binV op (.int k a) (.int k b)).map .val) := by
 cases op <;> unfold intW <;> simp only
 case add => exact arW_ok _ _ |> fun h => by simpa [binV] using h
 case sub => exact arW_ok _ _ |> fun h => by simpa [binV] using h
 case mul => exact arW_ok _ _ |> fun h => by simpa [binV] using h
 case quo =>
  refine .ask fun T Q h => ?_
  split at h
  ·obtain ⟨h1, h2, rfl, h3⟩ := h
   refine ⟨_, _, ?_, h3⟩
   simp [binV, h1, intA, wrap64_id h2.1 h2.2]
  ·rw [wrapX_eq] at h; exact ⟨_, _, by simp [binV, h.1], h.2⟩
  ·obtain ⟨h1, h2, h3, h4⟩ := h
   have hb : b ≠ 0 := by omega
   exact ⟨_, _, by simp [binV, hb, quo_wrap h1 h2 h3], h4⟩
  ·exact h.elim
 case rem =>
  refine .ask fun T Q h => ?_
  split at h
  ·exact ⟨_, _, by simp [binV, h.1], h.2⟩
  ·obtain ⟨h1, h2, h4⟩ := h
   have hb : b ≠ 0 := by omega
   exact ⟨_, _, by simp [binV, hb, rem_pos h1], h4⟩
  ·exact h.elim
 case eql => exact .ret' (by simp only [binV, if_true, Option.map_some]; rfl)
 case neq => exact .ret' (by simp only [binV, if_true, Option.map_some]; rfl)
 case lss => exact .ret' (by simp [binV, boolA])
 case leq => exact .ret' (by simp [binV, boolA])
 case gtr => exact .ret' (by simp [binV, boolA])
 case geq => exact .ret' (by simp [binV, boolA])
 case and => exact .ret' (by rw [bitX_eq]; simp only [binV, if_true]; rfl)
 case or => exact .ret' (by rw [bitX_eq]; simp only [binV, if_true]; rfl)
 case xor => exact .ret' (by rw [bitX_eq]; simp only [binV, if_true]; rfl)
 case andNot => exact .ret' (by rw [bitX_eq]; simp only [binV, if_true]; rfl)
 all_goals exact .stop _ _
def strW (w : AOp) (op : BinOp) (a b : Bs) : W AV := match op with
 | .add => askW (.cat a b) fun T Q => match T with
  | .w r => a.length + b.length ≤ 9223372036854775807 ∧ Q (strL (a ++ b)) r
  | _ => False
 | .eql => retW (boolA (decide (a = b)))
 | .neq => retW (boolA (!decide (a = b)))
 | .lss => retW (boolA (Op.bytesLess a b))
 | .leq => retW (boolA (Op.bytesLess a b || decide (a = b)))
 | .gtr => retW (boolA (!(Op.bytesLess a b || decide (a = b))))
 | .geq => retW (boolA (!Op.bytesLess a b))
 | _ => stopW w
theorem toList_data (a : ByteArray) : a.toList = toL a := ByteArray.toList_eq a
theorem app_toL (a b : ByteArray) : a ++ b = ofL (toL a ++ toL b) := by
 apply ByteArray.ext
 simp [ofL, toL]
theorem strW_ok (w : AOp) (op : BinOp) (a b : ByteArray) : SoundW (strW w op (toL a) (toL b)) ((binV op (.string a) (.string b)).map .val) := by
 have e : (a.toList == b.toList) = decide (toL a = toL b) := bytes_beq a b
 cases op <;> unfold strW <;> simp only
 case add =>
  refine .ask fun T Q h => ?_
  split at h
  ·refine ⟨_, _, ?_, h.2⟩
   have h1 : a.size + b.size ≤ 9223372036854775807 := h.1
   simp only [binV, if_pos h1, Option.map_some, strL, app_toL]
  ·exact h.elim
 case eql => exact .ret' (by simp only [binV, Option.map_some, boolA, e])
 case neq => exact .ret' (by simp only [binV, Option.map_some, boolA, e])
 case lss => exact .ret' (by simp only [binV, Option.map_some, boolA, toList_data])
 case leq => exact .ret' (by simp only [binV, Option.map_some, boolA, e]; simp only [toList_data])
 case gtr => exact .ret' (by simp only [binV, Option.map_some, boolA, e]; simp only [toList_data])
 case geq => exact .ret' (by simp only [binV, Option.map_some, boolA, toList_data])
 all_goals exact .stop _ _
def binW (w : AOp) (op : BinOp) (x y : AV) : W AV := match op, x, y with
 | .shl, .val (.int k a), .val (.int _ b) => askW (.sh b) fun T Q => match T with
  | .w r => 0 ≤ b ∧ Q (.val (.int k (shlW k a b))) r
  | _ => False
 | .shr, .val (.int k a), .val (.int _ b) => askW (.sh b) fun T Q => match T with
  | .w r => 0 ≤ b ∧ Q (.val (.int k (shrW k a b))) r
  | _ => False
 | op, .val (.int k a), .val (.int k' b) => ifW w (k = k') (intW w op k a b)
 | op, .val (.string a), .val (.string b) => strW w op (toL a) (toL b)
 | _, _, _ => stopW w
theorem binW_ok (w : AOp) (op : BinOp) (x y : AV) : SoundW (binW w op x y) (match x.toVal, y.toVal with | some a, some b => (binV op a b).map .val | _, _ => none) := by
 unfold binW
 split
 ·refine .ask fun T Q h => ?_
  split at h
  ·refine ⟨_, _, ?_, h.2⟩
   have : ¬ (_ : Int) < 0 := Int.not_lt.2 h.1
   simp only [AV.toVal, binV, Op.shift, if_neg this, Sem.now, Option.map_some]
   rfl
  ·exact h.elim
 ·refine .ask fun T Q h => ?_
  split at h
  ·refine ⟨_, _, ?_, h.2⟩
   have : ¬ (_ : Int) < 0 := Int.not_lt.2 h.1
   simp only [AV.toVal, binV, Op.shift, if_neg this, Sem.now, Option.map_some]
   rfl
  ·exact h.elim
 ·refine .ite fun hk => ?_
  subst hk
  exact intW_ok _ _ _ _ _
 ·exact strW_ok _ _ _ _
 ·exact .stop _ _
def rowW {α : Type} (m : List MObj) (w : AOp) (id : Nat) (f : Nat → Nat → List AV → Bool → Nat → W α) : W α := match m[id]? with
 | some (.row v s l wr ap) => f v s l wr ap
 | _ => stopW w
theorem rowW_ok {α : Type} {m : List MObj} {w : AOp} {id : Nat} {f : Nat → Nat → List AV → Bool → Nat → W α} {o : Option α} (h : ∀ v s l wr ap, m[id]? = some (.row v s l wr ap) → SoundW (f v s l wr ap) o) : SoundW (rowW m w id f) o := by
 unfold rowW
 split
 ·rename_i v s l wr ap hm; exact h _ _ _ _ _ hm
 ·exact .stop _ _
def asI : AV → Option Int
 | .val (.int _ n) => some n
 | _ => none
theorem asI_toN {v : AV} {n : Int} {k : Nat} (h : asI v = some n) (hk : n = (k : Int)) : v.toN = some k := by
 unfold asI at h
 split at h
 ·injection h with h; subst h hk; simp [AV.toN, AV.toI]
 ·cases h
def finW (n : Int) (sz : Nat) (ag : Bool) (w : AOp) : Nat → List AV → Nat → W AV
 | 0, _, _ => stopW w
 | cnt + 1, l, i => askW (.fin n i) fun T Q => match T with
  | .b true r => n = (i : Int) ∧ liftW w (mkV sz ag l) r Q
  | .b false r => n ≠ (i : Int) ∧ finW n sz ag w cnt (l.drop sz) (i + 1) r Q
  | .br p q => (n = (i : Int) → liftW w (mkV sz ag l) p Q) ∧ (n ≠ (i : Int) → finW n sz ag w cnt (l.drop sz) (i + 1) q Q)
  | _ => False
theorem finW_ok (n : Int) (sz : Nat) (ag : Bool) (w : AOp) (L : List AV) (o : Option AV) (cnt0 : Nat) (ho : ∀ k : Nat, n = (k : Int) → k < cnt0 → o = mkV sz ag (L.drop (k * sz))) : ∀ (cnt : Nat) (l : List AV) (i : Nat), i + cnt = cnt0 → l = L.drop (i * sz) → SoundW (finW n sz ag w cnt l i) o
 | 0, l, i, _, _ => .stop _ _
 | cnt + 1, l, i, hc, hl => .ask fun T Q h => by
  have hit : n = (i : Int) → ∀ r, liftW w (mkV sz ag l) r Q → ∃ a T', o = some a ∧ Q a T' := fun e r hr => by
   obtain ⟨a, T', h1, h2⟩ := SoundW.lift w _ _ _ hr
   exact ⟨a, T', by rw [ho i e (by omega), ← hl, h1], h2⟩
  have miss : ∀ r, finW n sz ag w cnt (l.drop sz) (i + 1) r Q → ∃ a T', o = some a ∧ Q a T' := fun r hr => finW_ok n sz ag w L o cnt0 ho cnt _ (i + 1) (by omega) (by rw [hl, List.drop_drop, Nat.add_mul, Nat.one_mul]) _ _ hr
  split at h
  ·exact hit h.1 _ h.2
  ·exact miss _ h.2
  ·by_cases e : n = (i : Int)
   ·exact hit e _ (h.1 e)
   ·exact miss _ (h.2 e)
  ·exact h.elim
def aaW (n : Int) (w : AOp) (all : Nat) : Nat → Nat → W Nat
 | 0, _ => stopW w
 | cnt + 1, i => askW (.aa n i) fun T Q => match T with
  | .k k r => n = (k : Int) ∧ k < all ∧ Q k r
  | .b true r => n = (i : Int) ∧ Q i r
  | .b false r => n ≠ (i : Int) ∧ aaW n w all cnt (i + 1) r Q
  | .br p q => (n = (i : Int) → Q i p) ∧ (n ≠ (i : Int) → aaW n w all cnt (i + 1) q Q)
  | _ => False
theorem aaW_ok (n : Int) (w : AOp) (all : Nat) : ∀ (cnt i : Nat), i + cnt = all → SoundW (aaW n w all cnt i) (if 0 ≤ n ∧ n.toNat < all then some n.toNat else none)
 | 0, i, _ => .stop _ _
 | cnt + 1, i, hc => .ask fun T Q h => by
  have hit : ∀ (k : Nat), n = (k : Int) → k < all → ∀ r, Q k r → ∃ a T', (if 0 ≤ n ∧ n.toNat < all then some n.toNat else none) = some a ∧ Q a T' := fun k e hk r hr => ⟨k, r, by subst e; simp [hk], hr⟩
  split at h
  ·exact hit _ h.1 h.2.1 _ h.2.2
  ·exact hit _ h.1 (by omega) _ h.2
  ·exact aaW_ok n w all cnt (i + 1) (by omega) _ _ h.2
  ·by_cases e : n = (i : Int)
   ·exact hit _ e (by omega) _ (h.1 e)
   ·exact aaW_ok n w all cnt (i + 1) (by omega) _ _ (h.2 e)
  ·exact h.elim
def lowI (fr : List (Nat × AV)) : Option Operand → Option Int
 | none => some 0
 | some x => asI (evA fr x)
def highI (fr : List (Nat × AV)) (n : Nat) : Option Operand → Option Int
 | none => some (n : Int)
 | some x => asI (evA fr x)
theorem low_of {fr : List (Nat × AV)} {lo : Option Operand} {i : Int} {a : Nat} (h : lowI fr lo = some i) (ha : i = (a : Int)) : lowOf fr lo = some a := by
 cases lo with
 | none => simp only [lowI, Option.some.injEq] at h; simp only [lowOf]; congr 1; omega
 | some x => exact asI_toN h ha
theorem high_of {fr : List (Nat × AV)} {hi : Option Operand} {i : Int} {a n : Nat} (h : highI fr n hi = some i) (ha : i = (a : Int)) : highOf fr n hi = some a := by
 cases hi with
 | none => simp only [highI, Option.some.injEq] at h; simp only [highOf]; congr 1; omega
 | some x => exact asI_toN h ha
def bndW (w : AOp) (fr : List (Nat × AV)) (lo hi : Option Operand) (len : Nat) : W (Nat × Nat) := match lowI fr lo, highI fr len hi with
 | some i, some j => askW (.sl len lo hi fr) fun T Q => match T with
  | .sl a b r => i = (a : Int) ∧ j = (b : Int) ∧ a ≤ b ∧ b ≤ len ∧ Q (a, b) r
  | _ => False
 | _, _ => stopW w
theorem bndW_ok {α : Type} {w : AOp} {fr : List (Nat × AV)} {lo hi : Option Operand} {len : Nat} {f : Nat × Nat → W α} {o : Option α} (h : ∀ a b, lowOf fr lo = some a → highOf fr len hi = some b → a ≤ b → b ≤ len → SoundW (f (a, b)) o) : SoundW (bindW (bndW w fr lo hi len) f) o := fun T Q hq => by
 unfold bindW bndW at hq
 rcases h1 : lowI fr lo with _ | i
 ·rw [h1] at hq; exact hq.elim
 rcases h2 : highI fr len hi with _ | j
 ·rw [h1, h2] at hq; exact hq.elim
 rw [h1, h2] at hq
 cases T <;> simp only [askW] at hq
 case nil => exact hq.elim
 case sl a b r =>
  obtain ⟨e1, e2, e3, e4, e5⟩ := hq
  exact h a b (low_of h1 e1) (high_of h2 e2) e3 e4 _ _ e5
def aeqB (x y : List AV) : List (Nat × Nat) → Option Bool
 | [] => some true
 | [(o, k)] => match x[o]?, y[o]? with
  | some (.val a), some (.val b) => vEqT k a b
  | _, _ => none
 | (o, k) :: r => match x[o]?, y[o]? with
  | some (.val a), some (.val b) => (match vEqT k a b, aeqB x y r with
   | some t, some u => some (t && u)
   | _, _ => none)
  | _, _ => none
theorem aeqB_ok (x y : List AV) : ∀ (l : List (Nat × Nat)) (b : Bool), aeqB x y l = some b → aeqL x y l = some b
 | [], b, h => h
 | [(o, k)], b, h => by
  simp only [aeqB] at h
  simp only [aeqL]
  split at h
  ·rename_i u v h1 h2
   simp only [h1, h2, h]
   cases b <;> rfl
  ·cases h
 | (o, k) :: p :: r, b, h => by
  simp only [aeqB] at h
  simp only [aeqL]
  split at h
  ·rename_i u v h1 h2
   simp only [h1, h2]
   split at h
   ·rename_i t t' h3 h4
    injection h with h
    have := aeqB_ok x y (p :: r) t' h4
    simp only [aeqL] at this
    simp only [h3]
    subst h
    cases t
    ·rfl
    ·simpa using this
   ·cases h
  ·cases h
def assoc {α : Type} : List (Bs × α) → Bs → Option α
 | [], _ => none
 | (k, v) :: r, s => if s = k then some v else assoc r s
theorem find_assoc {α : Type} (f : α → AV) (s : Bs) : ∀ (a : List (Bs × α)) (i : Nat), ∃ r, findE (.string (ofL s)) (a.map fun p => (.string (ofL p.1), f p.2)) i = some r ∧ r.map (·.2) = (assoc a s).map f
 | [], i => ⟨none, rfl, rfl⟩
 | (k, v) :: a, i => by
  have hv : vEq (.string (ofL s)) (.string (ofL k)) = some (decide (s = k)) := rfl
  by_cases h : s = k
  ·exact ⟨some (i, f v), by simp only [List.map_cons, findE, hv, decide_eq_true h], by simp [assoc, h]⟩
  ·obtain ⟨r, h1, h2⟩ := find_assoc f s a (i + 1)
   exact ⟨r, by simp only [List.map_cons, findE, hv, decide_eq_false h]; exact h1, by simp only [assoc, if_neg h]; exact h2⟩
def pure2W (m : List MObj) (fr : List (Nat × AV)) (o : AOp2) : W AV := match o with
 | .mlook z ok x k => (match evA fr k, mapOf m (evA fr x) with
  | .val (.string s), some es => askW (.mp es (toL s)) fun T Q => match T with
   | .mp f a p q => es = a.map (fun x => (.string (ofL x.1), f x.2)) ∧ (∀ x, assoc a (toL s) = some x → Q (if ok then .tuple [f x, .val (.bool true)] else f x) (p x)) ∧ (assoc a (toL s) = none → Q (if ok then .tuple [z, .val (.bool false)] else z) q)
   | _ => False
  | _, _ => stopW (.x o))
 | .aeq ne n offs x y => (match evA fr x, evA fr y with
  | .agg l, .agg l' => ifW (.x o) (n ≤ l.length ∧ n ≤ l'.length) (bindW (liftW (.x o) (aeqB l l' offs)) fun t => retW (.val (.bool (if ne then !t else t))))
  | _, _ => stopW (.x o))
 | .nilchk x => (match evA fr x with
  | .elt id ver used i fo => rowW m (.x o) id fun v' _ l _ _ => ifW (.x o) (v' = ver) (askW (.len l) fun T Q => match T with
   | .w r => l.length = used ∧ Q (.elt id ver used i fo) r
   | _ => False)
  | _ => liftW (.x o) (pure2 m fr o))
 | .slc3 x h mx => (match evA fr x with
  | .slice s l => bindW (bndW (.x o) fr (some h) (some mx) l.length) fun p => retW (.slice s (l.take p.1))
  | _ => stopW (.x o))
 | o => liftW (.x o) (pure2 m fr o)
theorem pure2W_ok (m : List MObj) (fr : List (Nat × AV)) (o : AOp2) : SoundW (pure2W m fr o) (pure2 m fr o) := by
 unfold pure2W
 split
 ·rename_i z ok x k
  split
  ·rename_i s es hk hm
   refine .ask fun T Q h => ?_
   split at h
   ·rename_i f a p q
    obtain ⟨e, h1, h2⟩ := h
    obtain ⟨r, g1, g2⟩ := find_assoc f (toL s) a 0
    simp only [pure2, mlookA, hk, hm, e]
    rw [show (Value.string s) = .string (ofL (toL s)) from rfl, g1]
    cases ha : assoc a (toL s) with
    | none =>
     rw [ha] at g2
     cases r with
     | some r => simp at g2
     | none => exact ⟨_, _, rfl, h2 ha⟩
    | some v =>
     rw [ha] at g2
     cases r with
     | none => simp at g2
     | some r =>
      obtain ⟨j, y⟩ := r
      simp only [Option.map_some, Option.some.injEq] at g2
      subst g2
      exact ⟨_, _, rfl, h1 v ha⟩
   ·exact h.elim
  ·exact .stop _ _
 ·rename_i ne n offs x y
  split
  ·rename_i l l' h1 h2
   refine .ite fun hc => ?_
   simp only [pure2, h1, h2, if_pos hc]
   refine .bind' (.lift _ _) fun t ht => .ret' ?_
   rw [aeqB_ok _ _ _ _ ht]; rfl
  ·exact .stop _ _
 ·rename_i x
  split
  ·rename_i id ver used i fo hx
   refine rowW_ok fun v' s l wr ap hm => .ite fun hv => .ask fun T Q h => ?_
   split at h
   ·refine ⟨_, _, ?_, h.2⟩
    have : rowOk m id ver used = true := by simp [rowOk, hm, hv, h.1]
    simp only [pure2, hx, if_pos this]
   ·exact h.elim
  ·exact .lift _ _
 ·rename_i x h mx
  split
  ·rename_i s l hx
   refine bndW_ok fun a b h1 h2 h3 h4 => .ret' ?_
   simp only [pure2, hx, h1, h2]
   rw [if_pos ⟨h3, h4⟩]
  ·exact .stop _ _
 ·exact .lift _ _
def faddrW (m : List MObj) (w : AOp) (off : Nat) (v : AV) : W AV := match v with
  | .elt id ver used i fo => rowW m w id fun v' _ l _ _ => ifW w (v' = ver) (askW (.len l) fun T Q => match T with
      | .w r => l.length = used ∧ Q (.elt id ver used i (fo + off)) r
      | _ => False)
  | v => liftW w (faddrA m off v)
theorem faddrW_ok (m : List MObj) (w : AOp) (off : Nat) (v : AV) : SoundW (faddrW m w off v) (faddrA m off v) := by
 unfold faddrW
 split
 ·rename_i id ver used i fo
  refine rowW_ok fun v' s l wr ap hm => .ite fun hv => .ask fun T Q h => ?_
  split at h
  ·refine ⟨_, _, ?_, h.2⟩
   have : rowOk m id ver used = true := by simp [rowOk, hm, hv, h.1]
   simp only [faddrA, if_pos this]
  ·exact h.elim
 ·exact .lift _ _
def pureW (m : List MObj) (fr : List (Nat × AV)) (o : AOp) : W AV := match o with
  | .x o => pure2W m fr o
  | .bin op x y => binW o op (evA fr x) (evA fr y)
  | .cint k x => (match evA fr x with
    | .val (.int _ n) => arW k n
    | _ => stopW o)
  | .un .neg x => (match evA fr x with
    | .val (.int .i64 n) => wrapW (0 - n)
    | _ => liftW o (pureOp m fr o))
  | .pick c a b => (match evA fr c with
    | .val (.bool t) => bindW (boolW t) fun t => retW (if t then evA fr a else evA fr b)
    | _ => stopW o)
  | .load n ag a => (match evA fr a with
    | .elt id ver used i fo => rowW m o id fun v _ l _ _ => ifW o (v = ver) (askW (.ld l i) fun T Q => match T with
        | .ix f a k r => l = a.map f ∧ l.length = used ∧ i = k ∧ k < a.length ∧ ∀ x, a[k]? = some x → liftW o (mkV n ag ((f x).cells.drop fo)) (r x) Q
        | _ => False)
    | _ => liftW o (pureOp m fr o))
  | .iaddr sz x i => (match asI (evA fr i), evA fr x with
    | some n, .slice s l => ifW o (s = sz) (askW (.ix l n) fun T Q => match T with
        | .ix f a k r => l = a.map f ∧ n = (k : Int) ∧ k < a.length ∧ ∀ x, a[k]? = some x → Q (.rptr (f x).cells) (r x)
        | _ => False)
    | some n, .row id ver used off len => rowW m o id fun v s l _ _ => ifW o (s = sz ∧ v = ver) (askW (.ra n len) fun T Q => match T with
        | .k k r => l.length = used ∧ n = (k : Int) ∧ k < len ∧ Q (.elt id ver used (off + k) 0) r
        | _ => False)
    | _, _ => stopW o)
  | .aaddr cnt sz x i => (match asI (evA fr i) with
    | some n => bindW (aaW n o cnt cnt 0) fun k => faddrW m o (k * sz) (evA fr x)
    | _ => stopW o)
  | .faddr off x => faddrW m o off (evA fr x)
  | .sidx x i => (match asI (evA fr i), evA fr x with
    | some n, .val (.string s) => askW (.y (toL s) n) fun T Q => match T with
        | .y k r => n = (k : Int) ∧ k < (toL s).length ∧ ∀ c, (toL s)[k]? = some c → Q (u8A c) (r c)
        | .yk k c r => n = (k : Int) ∧ (toL s)[k]? = some c ∧ Q (u8A c) r
        | _ => False
    | _, _ => stopW o)
  | .aidx cnt sz ag x i => (match asI (evA fr i), evA fr x with
    | some n, .agg l => finW n sz ag o cnt l 0
    | _, _ => stopW o)
  | .len x => (match evA fr x with
    | .slice _ l => askW (.len l) fun T Q => match T with
        | .k k r => l.length = k ∧ Q (intA k) r
        | _ => False
    | .row id ver used off len => rowW m o id fun v _ l _ _ => ifW o (v = ver) (askW (.len l) fun T Q => match T with
        | .k k r => l.length = used ∧ ((l.drop off).take len).length = k ∧ Q (intA k) r
        | _ => False)
    | _ => liftW o (pureOp m fr o))
  | .slen x => (match evA fr x with
    | .val (.string s) => retW (intA (toL s).length)
    | _ => stopW o)
  | .slc sz x lo hi => (match evA fr x with
    | .slice s l => ifW o (s = sz) (bindW (bndW o fr lo hi l.length) fun p => retW (.slice s ((l.take p.2).drop p.1)))
    | .row id ver used off len => rowW m o id fun v s l _ _ => ifW o (s = sz ∧ v = ver) (bindW (askW (.len l) fun T Q => match T with
        | .w r => l.length = used ∧ Q () r
        | _ => False) fun _ => bindW (bndW o fr lo hi len) fun p => retW (.row id ver used (off + p.1) (p.2 - p.1)))
    | .val (.slice none 0 0) => bindW (bndW o fr lo hi 0) fun p => retW (.val (.slice none 0 0))
    | _ => stopW o)
  | .sslc x lo hi => (match evA fr x with
    | .val (.string s) => bindW (bndW o fr lo hi (toL s).length) fun p => retW (strL (((toL s).take p.2).drop p.1))
    | _ => stopW o)
  | .b2s x => (match evA fr x with
    | .row id ver used off len => rowW m o id fun v _ l _ _ => ifW o (v = ver) (askW (.bs ((l.drop off).take len)) fun T Q => match T with
      | .bs s r => l.length = used ∧ bytesL ((l.drop off).take len) = some s ∧ Q (strL s) r
      | _ => False)
    | v => bindW (liftW o (elems m v)) fun l => askW (.bs l) fun T Q => match T with
      | .bs s r => bytesL l = some s ∧ Q (strL s) r
      | _ => False)
  | o => liftW o (pureOp m fr o)
theorem elems_row {m : List MObj} {id ver used off len v s : Nat} {l : List AV} {wr : Bool} {ap : Nat} (hm : m[id]? = some (.row v s l wr ap)) (hv : v = ver) (hu : l.length = used) : elems m (.row id ver used off len) = some ((l.drop off).take len) := by
 simp only [elems, hm, if_pos (And.intro hv hu)]
theorem pureW_ok (m : List MObj) (fr : List (Nat × AV)) (o : AOp) : SoundW (pureW m fr o) (pureOp m fr o) := by
 unfold pureW
 split
 ·exact pure2W_ok _ _ _
 ·exact binW_ok _ _ _ _
 ·rename_i k x
  split
  ·rename_i k' n hx
   simp only [pureOp, hx]
   exact arW_ok _ _
  ·exact .stop _ _
 ·rename_i x
  split
  ·rename_i n hx
   have : pureOp m fr (.un .neg x) = some (intA (IntKind.i64.wrap (0 - n))) := by simp only [pureOp, hx]; rfl
   rw [this]
   exact wrapW_ok _
  ·exact .lift _ _
 ·rename_i c a b
  split
  ·rename_i t hc
   simp only [pureOp, hc]
   refine .bind' (boolW_ok t) fun t' ht => ?_
   cases ht
   exact .ret _
  ·exact .stop _ _
 ·rename_i n ag a
  split
  ·rename_i id ver used i fo ha
   refine rowW_ok fun v s l wr ap hm => .ite fun hv => .ask fun T Q h => ?_
   split at h
   ·rename_i f b k r
    obtain ⟨e, hu, rfl, hk, h1⟩ := h
    obtain ⟨av, T', g1, g2⟩ := SoundW.lift _ _ _ _ (h1 _ (List.getElem?_eq_getElem hk))
    refine ⟨av, T', ?_, g2⟩
    have hl : l[i]? = some (f (b[i]'hk)) := by rw [e, List.getElem?_map, List.getElem?_eq_getElem hk]; rfl
    simp only [pureOp, ha, cellsAt, hm, if_pos (And.intro hv hu), hl, Option.map_some, Option.bind_some, g1]
   ·exact h.elim
  ·exact .lift _ _
 ·rename_i sz x i
  split
  ·rename_i n s l hi hx
   refine .ite fun hs => .ask fun T Q h => ?_
   split at h
   ·rename_i f a k r
    obtain ⟨e, hk, hlt, h1⟩ := h
    refine ⟨_, _, ?_, h1 _ (List.getElem?_eq_getElem hlt)⟩
    have hl : l[k]? = some (f (a[k]'hlt)) := by rw [e, List.getElem?_map, List.getElem?_eq_getElem hlt]; rfl
    simp only [pureOp, asI_toN hi hk, hx, iaddrA, hl, if_pos hs]
   ·exact h.elim
  ·rename_i n id ver used off len hi hx
   refine rowW_ok fun v s l wr ap hm => .ite fun hs => .ask fun T Q h => ?_
   split at h
   ·rename_i k r
    obtain ⟨hu, hk, hlt, h1⟩ := h
    refine ⟨_, _, ?_, h1⟩
    simp only [pureOp, asI_toN hi hk, hx, iaddrA, hm]
    rw [if_pos ⟨hs.2, hu, hlt, hs.1⟩]
   ·exact h.elim
  ·exact .stop _ _
 ·rename_i cnt sz x i
  split
  ·rename_i n hi
   refine .bind' (aaW_ok n _ cnt cnt 0 (Nat.zero_add _)) fun k hk => ?_
   split at hk
   ·rename_i hc
    injection hk with hk; subst hk
    have : pureOp m fr (.aaddr cnt sz x i) = faddrA m (n.toNat * sz) (evA fr x) := by
     simp only [pureOp, asI_toN hi (show n = (n.toNat : Int) from by omega), if_pos hc.2]
    rw [this]
    exact faddrW_ok _ _ _ _
   ·cases hk
  ·exact .stop _ _
 ·rename_i off x
  exact faddrW_ok _ _ _ _
 ·rename_i x i
  split
  ·rename_i n s hi hx
   refine .ask fun T Q h => ?_
   split at h
   ·rename_i k r
    obtain ⟨hk, hlt, h1⟩ := h
    refine ⟨_, _, ?_, h1 _ (List.getElem?_eq_getElem hlt)⟩
    have hs : s[k]? = some ((toL s)[k]'hlt) := by
     have h2 : k < s.size := hlt
     rw [getElem?_pos s k h2]
     rfl
    simp only [pureOp, asI_toN hi hk, hx, sidxA, hs, Option.map_some, u8A]
   ·rename_i k c r
    obtain ⟨hk, hc, h1⟩ := h
    refine ⟨_, _, ?_, h1⟩
    obtain ⟨hlt, hc⟩ := List.getElem?_eq_some_iff.1 hc
    have hs : s[k]? = some c := by
     have h2 : k < s.size := hlt
     rw [getElem?_pos s k h2, ← hc]
     rfl
    simp only [pureOp, asI_toN hi hk, hx, sidxA, hs, Option.map_some, u8A]
   ·exact h.elim
  ·exact .stop _ _
 ·rename_i cnt sz ag x i
  split
  ·rename_i n l hi hx
   refine finW_ok n sz ag _ l _ cnt (fun k hk hlt => ?_) cnt l 0 (by omega) (by simp)
   simp only [pureOp, asI_toN hi hk, hx, if_pos hlt]
  ·exact .stop _ _
 ·rename_i x
  split
  ·rename_i s l hx
   refine .ask fun T Q h => ?_
   split at h
   ·exact ⟨_, _, by simp only [pureOp, hx, lenA, elems, Option.map_some, h.1, intA], h.2⟩
   ·exact h.elim
  ·rename_i id ver used off len hx
   refine rowW_ok fun v s l wr ap hm => .ite fun hv => .ask fun T Q h => ?_
   split at h
   ·exact ⟨_, _, by simp only [pureOp, hx, lenA, elems_row hm hv h.1, Option.map_some, h.2.1, intA], h.2.2⟩
   ·exact h.elim
  ·exact .lift _ _
 ·rename_i x
  split
  ·rename_i s hx
   exact .ret' (by simp only [pureOp, hx, slenA]; rfl)
  ·exact .stop _ _
 ·rename_i sz x lo hi
  split
  ·rename_i s l hx
   refine .ite fun hs => bndW_ok fun a b h1 h2 h3 h4 => .ret' ?_
   simp only [pureOp, hx, slcA, h1, h2]
   rw [if_pos ⟨h3, h4, hs⟩]
  ·rename_i id ver used off len hx
   refine rowW_ok fun v s l wr ap hm => .ite fun hs => .bind' (o := if l.length = used then some () else none) (.ask fun T Q h => ?_) fun _ hu => ?_
   ·split at h
    ·exact ⟨_, _, by rw [if_pos h.1], h.2⟩
    ·exact h.elim
   ·split at hu
    ·rename_i hu'
     refine bndW_ok fun a b h1 h2 h3 h4 => .ret' ?_
     simp only [pureOp, hx, slcA, hm, h1, h2]
     rw [if_pos ⟨hs.2, hu', hs.1⟩, if_pos ⟨h3, h4⟩]
    ·cases hu
  ·rename_i hx
   refine bndW_ok fun a b h1 h2 h3 h4 => .ret' ?_
   simp only [pureOp, hx, slcA, h1, h2]
   rw [if_pos ⟨h3, h4⟩]
  ·exact .stop _ _
 ·rename_i x lo hi
  split
  ·rename_i s hx
   refine bndW_ok fun a b h1 h2 h3 h4 => .ret' ?_
   have h2' : highOf fr s.size hi = some b := h2
   have h4' : b ≤ s.size := h4
   simp only [pureOp, hx, sslcA, h1, h2']
   rw [if_pos ⟨h3, h4'⟩]
   congr 3
   apply ByteArray.ext
   simp only [ofL, toL]
   rw [ByteArray.data_extract]
   apply Array.ext'
   simp [List.drop_take]
  ·exact .stop _ _
 ·rename_i x
  split
  ·rename_i id ver used off len hx
   refine rowW_ok fun v s l wr ap hm => .ite fun hv => .ask fun T Q h => ?_
   split at h
   ·obtain ⟨h1, h2, h3⟩ := h
    exact ⟨_, _, by simp only [pureOp, hx, elems_row hm hv h1, Option.bind_some, h2, Option.map_some]; rfl, h3⟩
   ·exact h.elim
  ·rename_i hne
   have : pureOp m fr (.b2s x) = (elems m (evA fr x)).bind fun l => (bytesL l).map fun s => .val (.string ⟨s.toArray⟩) := rfl
   rw [this]
   refine .bind (.lift _ _) fun l _ => .ask fun T Q h => ?_
   split at h
   ·exact ⟨_, _, by rw [h.1]; rfl, h.2⟩
   ·exact h.elim
 ·exact .lift _ _
end Go.Proofs.YtckopgopbgicjaaDoor
end
section
namespace Go.Proofs.YtckopgopbgicjaaDoor
set_option linter.unusedVariables false
set_option linter.unusedSimpArgs false
section
variable (m : List MObj) (w : AOp)
def frzCellW : AV → W AV
  | .row id ver used off len => rowW m w id fun v s l _ _ => ifW w (v = ver) (askW (.g l off len) fun T Q => match T with
      | .g l' r => l.length = used ∧ (l.drop off).take len = l' ∧ Q (.slice s l') r
      | _ => False)
  | v => liftW w (frzCell m v)
def frzCellsW : List AV → W (List AV)
 | [] => retW []
 | v :: r => bindW (frzCellW m w v) fun a => bindW (frzCellsW r) fun b => retW (a :: b)
def frzW : AV → W AV
 | .agg l => bindW (frzCellsW m w l) fun l' => retW (.agg l')
 | v => frzCellW m w v
def frzLW : List AV → W (List AV)
 | [] => retW []
 | v :: r => bindW (frzW m w v) fun a => bindW (frzLW r) fun b => retW (a :: b)
theorem frzCellW_ok (v : AV) : SoundW (frzCellW m w v) (frzCell m v) := by
 unfold frzCellW
 split
 ·refine rowW_ok fun v s l wr ap hm => .ite fun hv => .ask fun T Q h => ?_
  split at h
  ·obtain ⟨h1, h2, h3⟩ := h
   exact ⟨_, _, by simp only [frzCell, hm]; rw [if_pos ⟨hv, h1⟩, h2], h3⟩
  ·exact h.elim
 ·exact .lift _ _
theorem frzCellsW_ok : ∀ l : List AV, SoundW (frzCellsW m w l) (frzCells m l)
 | [] => .ret _
 | v :: r => by
  have : frzCells m (v :: r) = (frzCell m v).bind fun a => (frzCells m r).bind fun b => some (a :: b) := by
   simp only [frzCells]
   cases frzCell m v <;> cases frzCells m r <;> rfl
  rw [this]
  exact (frzCellW_ok m w v).bind fun a _ => (frzCellsW_ok r).bind fun b _ => .ret _
theorem frzW_ok (v : AV) : SoundW (frzW m w v) (frz m v) := by
 unfold frzW
 split
 ·rename_i l
  have : frz m (.agg l) = (frzCells m l).bind fun l' => some (.agg l') := by simp only [frz]; cases frzCells m l <;> rfl
  rw [this]
  exact (frzCellsW_ok m w l).bind fun a _ => .ret _
 ·rename_i hne
  have : frz m v = frzCell m v := by
   unfold frz
   split
   ·exact absurd rfl (hne _)
   ·rfl
  rw [this]
  exact frzCellW_ok m w v
theorem frzLW_ok : ∀ l : List AV, SoundW (frzLW m w l) (frzL m l)
 | [] => .ret _
 | v :: r => by
  have : frzL m (v :: r) = (frz m v).bind fun a => (frzL m r).bind fun b => some (a :: b) := by
   simp only [frzL]
   cases frz m v <;> cases frzL m r <;> rfl
  rw [this]
  exact (frzW_ok m w v).bind fun a _ => (frzLW_ok r).bind fun b _ => .ret _
def elemsSW (sz : Nat) : AV → W (List AV)
  | .row id ver used off len => rowW m w id fun v s l _ _ => ifW w (s = sz ∧ v = ver) (askW (.g l off len) fun T Q => match T with
      | .g l' r => l.length = used ∧ (l.drop off).take len = l' ∧ Q l' r
      | _ => False)
  | v => liftW w (elemsS m sz v)
theorem elemsSW_ok (sz : Nat) (v : AV) : SoundW (elemsSW m w sz v) (elemsS m sz v) := by
 unfold elemsSW
 split
 ·refine rowW_ok fun v s l wr ap hm => .ite fun hs => .ask fun T Q h => ?_
  split at h
  ·obtain ⟨h1, h2, h3⟩ := h
   exact ⟨_, _, by simp only [elemsS, hm]; rw [if_pos ⟨hs.2, h1, hs.1⟩, h2], h3⟩
  ·exact h.elim
 ·exact .lift _ _
def bsElsW (fr : List (Nat × AV)) (sz : Nat) : List AV → List (Nat × Operand) → W (List AV)
 | l, [] => retW l
 | l, (i, x) :: r => bindW (frzW m w (evA fr x)) fun v => ifW w (v.cells.length = sz ∧ i < l.length) (bsElsW fr sz (l.set i v) r)
theorem bsElsW_ok (fr : List (Nat × AV)) (sz : Nat) : ∀ (ps : List (Nat × Operand)) (l : List AV), SoundW (bsElsW m w fr sz l ps) (bsEls fr m sz l ps)
 | [], l => .ret _
 | (i, x) :: r, l => by
  have : bsEls fr m sz l ((i, x) :: r) = (frz m (evA fr x)).bind fun v => if v.cells.length = sz ∧ i < l.length then bsEls fr m sz (l.set i v) r else none := by
   simp only [bsEls]
   cases frz m (evA fr x) <;> rfl
  rw [this]
  refine (frzW_ok m w _).bind fun a _ => .ite fun hc => ?_
  rw [if_pos hc]
  exact bsElsW_ok fr sz r _
end
abbrev InlW := FuncId → List AV → List MObj → W (AV × List MObj)
def InlOk (call : CallF) (inl : InlW) : Prop := ∀ f vs m, SoundW (inl f vs m) (call.m f vs m)
section
variable (call : CallF) (inl : InlW)
def callMW (f : FuncId) (vs : List AV) (m : List MObj) : W (AV × List MObj) := askW (.callM f vs m) fun T Q => match T with
 | .cm v m' r => call.m f vs m = some (v, m') ∧ Q (v, m') r
 | .inl r => inl f vs m r Q
 | _ => False
theorem callMW_ok (hi : InlOk call inl) (f : FuncId) (vs : List AV) (m : List MObj) : SoundW (callMW call inl f vs m) (call.m f vs m) := .ask fun T Q h => by
 split at h
 ·exact ⟨_, _, h.1, h.2⟩
 ·exact hi f vs m _ _ h
 ·exact h.elim
def step2W (st : St) (d : Option Nat) (o : AOp2) : W St := match o with
 | .callM f args => bindW (callMW call inl f (args.map (evA st.fr)) st.m) fun r => retW ⟨putf d r.1 st.fr, r.2⟩
 | .callV x args => (match fnOf (evA st.fr x) with
  | some (f, first, caps) => bindW (callMW call inl f (first ++ args.map (evA st.fr) ++ caps) st.m) fun r => retW ⟨putf d r.1 st.fr, r.2⟩
  | none => stopW (.x o))
 | .mset x k v => (match evA st.fr x, evA st.fr k with
  | .mp id, .val (.string k) => bindW (frzW st.m (.x o) (evA st.fr v)) fun g => (match (shutV st.m (evA st.fr v))[id]? with
   | some (.mp es) => ifW (.x o) (g.ground = true) (askW (.ms es (.string k) g) fun T Q => match T with
    | .ms es' r => setKey es (.string k) g = some es' ∧ Q ⟨putf d .any st.fr, (shutV st.m (evA st.fr v)).set id (.mp es')⟩ r
    | _ => False)
   | _ => stopW (.x o))
  | _, _ => stopW (.x o))
 | .mdel x k => (match evA st.fr x, evA st.fr k with
  | .mp id, .val (.string k) => (match st.m[id]? with
   | some (.mp es) => askW (.ms es (.string k) .any) fun T Q => match T with
    | .ms es' r => delKey es (.string k) = some es' ∧ Q ⟨putf d .any st.fr, st.m.set id (.mp es')⟩ r
    | _ => False
   | _ => stopW (.x o))
  | _, _ => stopW (.x o))
 | .cpy sz x y => (match evA st.fr x with
  | .row id ver used off len => bindW (elemsSW st.m (.x o) sz (evA st.fr y)) fun ly => (match st.m[id]? with
   | some (.row v s l true ap) => ifW (.x o) (v = ver ∧ s = sz) (askW (.n ly.length len) fun T Q => match T with
    | .k k r => l.length = used ∧ min ly.length len = k ∧ Q ⟨putf d (intA k) st.fr, st.m.set id (.row v s (setAt l off (ly.take k)) true ap)⟩ r
    | _ => False)
   | _ => stopW (.x o))
  | _ => stopW (.x o))
 | .appS ak x y => (match evA st.fr y with
  | .val (.string s) => (match evA st.fr x with
   | .val (.slice none 0 0) => askW (.app [] ((toL s).map u8A) 0) fun T Q => match T with
    | .k u r => (toL s).length = u ∧ u ≤ 140737488355328 ∧ u ≤ maxLen ∧ Q ⟨putf d (.row st.m.length 0 u 0 u) st.fr, st.m ++ [.row 0 1 ((toL s).map u8A) true ak]⟩ r
    | _ => False
   | .row id ver used off len => rowW st.m (.x o) id fun v sz l wr ap => ifW (.x o) (sz = 1 ∧ apFit ap ak = true ∧ v = ver) (askW (.app l ((toL s).map u8A) used) fun T Q => match T with
    | .k u r => l.length = used ∧ off = 0 ∧ len = used ∧ used + (toL s).length = u ∧ u ≤ 140737488355328 ∧ u ≤ maxLen ∧ Q ⟨putf d (.row id ver u 0 u) st.fr, st.m.set id (.row v sz (l ++ (toL s).map u8A) wr ap)⟩ r
    | _ => False)
   | _ => stopW (.x o))
  | _ => stopW (.x o))
 | .bx _ _ _ | .mkmap | .allocR _ _ _ | .storeR _ _ _ _ => liftW (.x o) (stepOp2 call st d o)
 | o => bindW (pure2W st.m st.fr o) fun v => retW ⟨putf d v st.fr, st.m⟩
theorem step2W_ok (hi : InlOk call inl) (st : St) (d : Option Nat) (o : AOp2) : SoundW (step2W call inl st d o) (stepOp2 call st d o) := by
 have pure : stepOp2 call st d o = (pure2 st.m st.fr o).map (fun v => ⟨putf d v st.fr, st.m⟩) → SoundW (bindW (pure2W st.m st.fr o) fun v => retW ⟨putf d v st.fr, st.m⟩) (stepOp2 call st d o) := by
  intro e
  have : stepOp2 call st d o = (pure2 st.m st.fr o).bind fun v => some ⟨putf d v st.fr, st.m⟩ := by rw [e]; cases pure2 st.m st.fr o <;> rfl
  rw [this]
  exact (pure2W_ok _ _ _).bind fun a _ => .ret _
 unfold step2W
 split
 ·rename_i f args
  refine .bind' (callMW_ok call inl hi _ _ _) fun r hr => .ret' ?_
  simp only [stepOp2, hr, Option.map_some]
 ·rename_i x args
  split
  ·rename_i f first caps hf
   refine .bind' (callMW_ok call inl hi _ _ _) fun r hr => .ret' ?_
   simp only [stepOp2, hf, hr, Option.map_some]
  ·exact .stop _ _
 ·rename_i x k v
  split
  ·rename_i id k hx hk
   refine .bind' (frzW_ok _ _ _) fun g hg => ?_
   split
   ·rename_i es hm
    refine .ite fun hgr => .ask fun T Q h => ?_
    split at h
    ·exact ⟨_, _, by simp only [stepOp2, hx, hk, hg, hm, if_pos hgr, h.1, Option.map_some], h.2⟩
    ·exact h.elim
   ·exact .stop _ _
  ·exact .stop _ _
 ·rename_i x k
  split
  ·rename_i id k hx hk
   split
   ·rename_i es hm
    refine .ask fun T Q h => ?_
    split at h
    ·exact ⟨_, _, by simp only [stepOp2, hx, hk, hm, h.1, Option.map_some], h.2⟩
    ·exact h.elim
   ·exact .stop _ _
  ·exact .stop _ _
 ·rename_i sz x y
  split
  ·rename_i id ver used off len hx
   refine .bind' (elemsSW_ok _ _ _ _) fun ly hly => ?_
   split
   ·rename_i v s l ap hm
    refine .ite fun hs => .ask fun T Q h => ?_
    split at h
    ·obtain ⟨h1, h2, h3⟩ := h
     exact ⟨_, _, by simp only [stepOp2, hx, hly, hm]; rw [if_pos ⟨hs.1, h1, hs.2⟩, h2]; rfl, h3⟩
    ·exact h.elim
   ·exact .stop _ _
  ·exact .stop _ _
 ·rename_i x y
  split
  ·rename_i s hy
   split
   ·rename_i hx
    refine .ask fun T Q h => ?_
    split at h
    ·obtain ⟨rfl, h2, h3, h4⟩ := h
     have h2' : s.size ≤ 140737488355328 := h2
     have h3' : s.size ≤ maxLen := h3
     exact ⟨_, _, by simp only [stepOp2, hy, hx]; rw [if_pos ⟨h2', h3'⟩]; rfl, h4⟩
    ·exact h.elim
   ·rename_i id ver used off len hx
    refine rowW_ok fun v sz l wr ap hm => .ite fun hs => .ask fun T Q h => ?_
    split at h
    ·obtain ⟨h2, h3, h4, rfl, h6, h7, h8⟩ := h
     have h6' : used + s.size ≤ 140737488355328 := h6
     have h7' : used + s.size ≤ maxLen := h7
     exact ⟨_, _, by simp only [stepOp2, hy, hx, hm]; rw [if_pos ⟨hs.2.2, h2, h3, h4, hs.1, hs.2.1, h6', h7'⟩]; rfl, h8⟩
    ·exact h.elim
   ·exact .stop _ _
  ·exact .stop _ _
 ·exact .lift _ _
 ·exact .lift _ _
 ·exact .lift _ _
 ·exact .lift _ _
 ·cases o <;> first | exact pure rfl | (rename_i h1 h2 h3 h4 h5 hS h6 h7 h8 h9; first | exact absurd rfl (hS _ _ _) | exact absurd rfl (h1 _ _) | exact absurd rfl (h2 _ _) | exact absurd rfl (h3 _ _ _) | exact absurd rfl (h4 _ _) | exact absurd rfl (h5 _ _ _) | exact absurd rfl (h6 _ _ _) | exact absurd rfl h7 | exact absurd rfl (h8 _ _ _) | exact absurd rfl (h9 _ _ _ _))
def stepW (st : St) (d : Option Nat) (o : AOp) : W St := match o with
  | .x o => step2W call inl st d o
  | .store n a v => (match evA st.fr a with
    | .elt id ver used i fo => ifW o (((evA st.fr v).cells.length = n) ∧ ((evA st.fr v).cells.all AV.isCell) = true) (
      match ((evA st.fr v).cells.foldl shutCell st.m)[id]? with
      | some (.row vv s l true ap) => ifW o (vv = ver) (bindW (askW (.ld l i) fun T Q => match T with
          | .ix f a k r => l = a.map f ∧ l.length = used ∧ i = k ∧ k < a.length ∧ ∀ x, a[k]? = some x → Q (f x) (r x)
          | _ => False) fun x => bindW (frzCellsW st.m o (evA st.fr v).cells) fun gs => liftW o ((setEl x fo gs).map fun x' => ⟨putf d .any st.fr, ((evA st.fr v).cells.foldl shutCell st.m).set id (.row vv s (l.set i x') true ap)⟩))
      | _ => stopW o)
    | _ => liftW o (stepOp call st d o))
  | .app sz bytes ak x y => bindW (elemsSW st.m o sz (evA st.fr y)) fun ly => (match evA st.fr x with
    | .val (.slice none 0 0) => askW (.app [] ly 0) fun T Q => match T with
        | .k u r => ly.length = u ∧ u * bytes ≤ 140737488355328 ∧ u ≤ maxLen ∧ Q ⟨putf d (.row st.m.length 0 u 0 u) st.fr, st.m ++ [.row 0 sz ly true ak]⟩ r
        | _ => False
    | .row id ver used off len => rowW st.m o id fun v s l wr ap => ifW o (s = sz ∧ apFit ap ak = true ∧ v = ver) (askW (.app l ly used) fun T Q => match T with
        | .k u r => l.length = used ∧ off = 0 ∧ len = used ∧ used + ly.length = u ∧ u * bytes ≤ 140737488355328 ∧ u ≤ maxLen ∧ Q ⟨putf d (.row id ver u 0 u) st.fr, st.m.set id (.row v s (l ++ ly) wr ap)⟩ r
        | _ => False)
    | _ => stopW o)
  | .mks sz zero ag bytes l c => (match asI (evA st.fr l), asI (evA st.fr c) with
    | some a, some b => askW (.n a b) fun T Q => match T with
        | .k k r => a = (k : Int) ∧ b = (k : Int) ∧ k ≤ maxLen ∧ bytes * k ≤ 281474976710656 ∧ Q ⟨putf d (.row st.m.length 0 k 0 k) st.fr, st.m ++ [.row 0 sz (List.replicate k (zeroEl zero ag)) true 1]⟩ r
        | _ => False
    | _, _ => stopW o)
  | .bslice sz own zero ag cnt parts => bindW (bsElsW st.m o st.fr sz (List.replicate cnt (zeroEl zero ag)) parts) fun l => retW (if own then ⟨putf d (.row st.m.length 0 cnt 0 cnt) st.fr, (parts.foldl (fun m p => shutV m (evA st.fr p.2)) st.m) ++ [.row 0 sz l true 1]⟩ else ⟨putf d (.slice sz l) st.fr, parts.foldl (fun m p => shutV m (evA st.fr p.2)) st.m⟩)
  | .call f args => bindW (frzLW st.m o (args.map (evA st.fr))) fun vs => bindW (askW (.call f vs) fun T Q => match T with
        | .c v r => call.f f vs = some v ∧ Q v r
        | _ => False) fun r => retW ⟨putf d r st.fr, if r.flatT then st.m else (args.map (evA st.fr)).foldl shutV st.m⟩
  | .s2b x => (match evA st.fr x with
    | .val (.string s) => retW ⟨putf d (.row st.m.length 0 (toL s).length 0 (toL s).length) st.fr, st.m ++ [.row 0 1 ((toL s).map u8A) true 0]⟩
    | _ => stopW o)
  | .nilrow _ | .alloc _ _ => liftW o (stepOp call st d o)
  | o => bindW (pureW st.m st.fr o) fun v => retW ⟨putf d v st.fr, st.m⟩
theorem stepW_pure (st : St) (d : Option Nat) {o : AOp} (h : o.isEff = false) : SoundW (bindW (pureW st.m st.fr o) fun v => retW ⟨putf d v st.fr, st.m⟩) (stepOp call st d o) := by
 have : stepOp call st d o = (pureOp st.m st.fr o).bind fun v => some ⟨putf d v st.fr, st.m⟩ := by
  rw [step_pure h]; cases pureOp st.m st.fr o <;> rfl
 rw [this]
 exact (pureW_ok _ _ _).bind fun a _ => .ret _
theorem stepW_ok (hi : InlOk call inl) (st : St) (d : Option Nat) (o : AOp) : SoundW (stepW call inl st d o) (stepOp call st d o) := by
 unfold stepW
 split
 ·exact step2W_ok call inl hi st d _
 ·rename_i n a v
  split
  ·rename_i id ver used i fo ha
   refine .ite fun hc => ?_
   split
   ·rename_i vv s l ap hm
    refine .ite fun hv => .bind' (o := if vv = ver ∧ l.length = used then l[i]? else none) (.ask fun T Q h => ?_) fun x hx => ?_
    ·split at h
     ·rename_i f b k r
      obtain ⟨e, hu, rfl, hk, h1⟩ := h
      refine ⟨_, _, ?_, h1 _ (List.getElem?_eq_getElem hk)⟩
      rw [if_pos ⟨hv, hu⟩, e, List.getElem?_map, List.getElem?_eq_getElem hk]; rfl
     ·exact h.elim
    ·split at hx
     ·rename_i hv
      refine .bind' (frzCellsW_ok st.m _ _) fun gs hg => ?_
      have : stepOp call st d (.store n a v) = (setEl x fo gs).map fun x' => ⟨putf d .any st.fr, ((evA st.fr v).cells.foldl shutCell st.m).set id (.row vv s (l.set i x') true ap)⟩ := by
       simp only [stepOp, ha, if_pos hc, hm, if_pos hv, hg, hx]
      rw [this]
      exact .lift _ _
     ·cases hx
   ·exact .stop _ _
  ·exact .lift _ _
 ·rename_i sz bytes x y
  refine .bind' (elemsSW_ok _ _ _ _) fun ly hy => ?_
  split
  ·rename_i hx
   refine .ask fun T Q h => ?_
   split at h
   ·obtain ⟨rfl, h2, h3, h4⟩ := h
    exact ⟨_, _, by simp only [stepOp, hy, hx]; rw [if_pos ⟨h2, h3⟩], h4⟩
   ·exact h.elim
  ·rename_i id ver used off len hx
   refine rowW_ok fun v s l wr ap hm => .ite fun hs => .ask fun T Q h => ?_
   split at h
   ·obtain ⟨h2, h3, h4, rfl, h6, h7, h8⟩ := h
    exact ⟨_, _, by simp only [stepOp, hy, hx, hm]; rw [if_pos ⟨hs.2.2, h2, h3, h4, hs.1, hs.2.1, h6, h7⟩], h8⟩
   ·exact h.elim
  ·exact .stop _ _
 ·rename_i sz zero ag bytes l c
  split
  ·rename_i a b hl hc
   refine .ask fun T Q h => ?_
   split at h
   ·obtain ⟨h1, h2, h3, h4, h5⟩ := h
    exact ⟨_, _, by simp only [stepOp, asI_toN hl h1, asI_toN hc h2]; rw [if_pos ⟨trivial, h3, h4⟩], h5⟩
   ·exact h.elim
  ·exact .stop _ _
 ·rename_i sz own zero ag cnt parts
  refine .bind' (bsElsW_ok _ _ _ _ _ _) fun l hl => ?_
  simp only [stepOp, hl]
  cases own <;> exact .ret _
 ·rename_i f args
  refine .bind' (frzLW_ok _ _ _) fun vs hv => .bind' (o := call.f f vs) (.ask fun T Q h => ?_) fun r hr => ?_
  ·split at h
   ·exact ⟨_, _, h.1, h.2⟩
   ·exact h.elim
  ·exact .ret' (by simp only [stepOp, hv, hr])
 ·rename_i x
  split
  ·rename_i s hx
   exact .ret' (by simp only [stepOp, hx]; rfl)
  ·exact .stop _ _
 ·exact .lift _ _
 ·exact .lift _ _
 ·cases o <;> first | exact stepW_pure call st d rfl | (rename_i h0 h1 h2 h3 h4 h5 h6 h7 h8; first | exact absurd rfl (h0 _) | exact absurd rfl (h1 _ _ _) | exact absurd rfl (h2 _ _ _ _ _) | exact absurd rfl (h3 _ _ _ _ _ _) | exact absurd rfl (h4 _ _ _ _ _ _) | exact absurd rfl (h5 _ _) | exact absurd rfl (h6 _) | exact absurd rfl (h7 _) | exact absurd rfl (h8 _ _))
def quietW (m : List MObj) (fr : List (Nat × AV)) (o : AOp) : W AV := match o with
  | .call f args => bindW (frzLW m o (args.map (evA fr))) fun vs => bindW (askW (.call f vs) fun T Q => match T with
        | .c v r => call.f f vs = some v ∧ Q v r
        | _ => False) fun r => liftW o (if r.toVal.isSome then some r else none)
  | o => pureW m fr o
def findK : List (Nat × Bool) → Nat → Option Bool
 | [], _ => none
 | (k, x) :: r, s => if k = s then some x else findK r s
def lessK (d : Option Nat) : List (Nat × Bool) → List (Nat × Bool)
 | [] => []
 | (k, x) :: r => if some k = d then lessK d r else (k, x) :: lessK d r
def KOk (fr : List (Nat × AV)) (K : List (Nat × Bool)) : Prop := ∀ s x, findK K s = some x → look fr s = .val (.bool x)
theorem lessK_find {d : Option Nat} : ∀ {K : List (Nat × Bool)} {s : Nat} {x : Bool}, findK (lessK d K) s = some x → findK K s = some x ∧ some s ≠ d
 | [], s, x, h => by simp [lessK, findK] at h
 | (k, y) :: r, s, x, h => by
  unfold lessK at h
  split at h
  ·rename_i hk
   have := lessK_find h
   refine ⟨?_, this.2⟩
   unfold findK
   rw [if_neg (fun e => this.2 (by rw [← e, hk]))]
   exact this.1
  ·rename_i hk
   unfold findK at h
   split at h
   ·rename_i hs
    subst hs
    exact ⟨by simp [findK, h], hk⟩
   ·rename_i hs
    have := lessK_find h
    exact ⟨by simp [findK, hs, this.1], this.2⟩
theorem KOk.put {fr : List (Nat × AV)} {K : List (Nat × Bool)} (h : KOk fr K) (d : Option Nat) (v : AV) : KOk (putf d v fr) (lessK d K) := by
 intro s x hs
 have := lessK_find hs
 cases d with
 | none => exact h s x this.1
 | some d =>
  have hne : ¬ d = s := fun e => this.2 (by rw [e])
  show look (setf d v fr) s = _
  rw [look_setf, if_neg hne]
  exact h s x this.1
theorem KOk.nil (fr : List (Nat × AV)) : KOk fr [] := fun s x h => by simp [findK] at h
theorem stepOp2_fr {st st' : St} {d : Option Nat} {o : AOp2} (h : stepOp2 call st d o = some st') : ∃ v, st'.fr = putf d v st.fr := by
 have pure : (pure2 st.m st.fr o).map (fun v => (⟨putf d v st.fr, st.m⟩ : St)) = some st' → ∃ v, st'.fr = putf d v st.fr := by
  intro h
  simp only [Option.map_eq_some_iff] at h
  obtain ⟨v, _, rfl⟩ := h
  exact ⟨v, rfl⟩
 cases o <;> first | exact pure h | (simp only [stepOp2, Option.map_eq_some_iff] at h; first | (obtain ⟨r, _, rfl⟩ := h; exact ⟨_, rfl⟩) | ((repeat' split at h) <;> first | (injection h with h; subst h; exact ⟨_, rfl⟩) | (simp only [Option.map_eq_some_iff] at h; obtain ⟨r, _, rfl⟩ := h; exact ⟨_, rfl⟩) | cases h))
theorem stepOp_fr {st st' : St} {d : Option Nat} {o : AOp} (h : stepOp call st d o = some st') : ∃ v, st'.fr = putf d v st.fr := by
 by_cases he : o.isEff = false
 ·rw [step_pure he] at h
  simp only [Option.map_eq_some_iff] at h
  obtain ⟨v, _, rfl⟩ := h
  exact ⟨v, rfl⟩
 ·cases o <;> first | exact absurd rfl he | exact stepOp2_fr call h | (simp only [stepOp] at h; repeat' split at h) <;> first | cases h; exact ⟨_, rfl⟩ | (simp only [Option.map_eq_some_iff] at h; obtain ⟨v, _, rfl⟩ := h; exact ⟨_, rfl⟩) | cases h
def newK (fr : List (Nat × AV)) (K : List (Nat × Bool)) : Option (Nat × Bool) → List (Nat × Bool)
 | none => K
 | some (s, _) => match findK K s with
  | some _ => K
  | none => match look fr s with
   | .val (.bool c) => (s, c) :: K
   | _ => K
def guardW (fr : List (Nat × AV)) (w : AOp) (K : List (Nat × Bool)) : Option (Nat × Bool) → W (Bool × List (Nat × Bool))
 | none => retW (true, K)
 | some (s, b) => match findK K s with
  | some x => retW (x == b, K)
  | none => match look fr s with
   | .val (.bool c) => bindW (boolW c) fun x => retW (x == b, (s, x) :: K)
   | .val (.tuple _) => retW (false, K)
   | _ => stopW w
theorem guardW_ok {fr : List (Nat × AV)} {K : List (Nat × Bool)} (hK : KOk fr K) (w : AOp) (g : Option (Nat × Bool)) : SoundW (guardW fr w K g) ((wantedA fr g).map fun b => (b, newK fr K g)) := by
 unfold guardW wantedA
 split
 ·exact .ret _
 ·rename_i s b
  split
  ·rename_i x hx
   simp only [hK s x hx, hx, newK, Option.map_some]
   exact .ret _
  ·rename_i hn
   split
   ·rename_i c hc
    refine .bind' (boolW_ok _) fun x hx => ?_
    cases hx
    simp only [hc, hn, newK, Option.map_some]
    exact .ret _
   ·rename_i l hc
    simp only [hc, hn, newK, Option.map_some]
    exact .ret _
   ·exact .stop _ _
theorem guardK_ok {fr : List (Nat × AV)} {K : List (Nat × Bool)} (hK : KOk fr K) (g : Option (Nat × Bool)) : KOk fr (newK fr K g) := by
 cases g with
 | none => exact hK
 | some p =>
  obtain ⟨s, b⟩ := p
  simp only [newK]
  split
  ·exact hK
  ·split
   ·rename_i c hc
    intro s' x hs
    unfold findK at hs
    split at hs
    ·rename_i e
     subst e
     cases hs
     exact hc
    ·exact hK _ _ hs
   ·exact hK
def knownOp (K : List (Nat × Bool)) : AOp → AOp
 | .pick (.tmp s) a b => (match findK K s with
  | some x => .mov (if x then a else b)
  | none => .pick (.tmp s) a b)
 | o => o
theorem knownOp_pure {fr : List (Nat × AV)} {K : List (Nat × Bool)} (hK : KOk fr K) (m : List MObj) (s : Nat) (a b : Operand) {x : Bool} (hx : findK K s = some x) : pureOp m fr (.pick (.tmp s) a b) = pureOp m fr (.mov (if x then a else b)) := by
 simp only [pureOp, evA, hK s x hx]
 cases x <;> rfl
theorem knownOp_step {st : St} {K : List (Nat × Bool)} (hK : KOk st.fr K) (d : Option Nat) (o : AOp) : stepOp call st d (knownOp K o) = stepOp call st d o := by
 unfold knownOp
 split
 ·rename_i s a b
  split
  ·rename_i x hx
   rw [step_pure rfl, step_pure rfl, knownOp_pure hK st.m s a b hx]
  ·rfl
 ·rfl
def opsW : List AOper → List (Nat × Bool) → St → W St
 | [], _, st => retW st
 | o :: r, K, st => bindW (guardW st.fr o.op K o.guard) fun w => if w.1 then bindW (stepW call inl st o.dst (knownOp w.2 o.op)) fun st' => opsW r (lessK o.dst w.2) st' else opsW r (lessK o.dst w.2) ⟨putf o.dst (.val undef) st.fr, st.m⟩
theorem opsW_ok (hi : InlOk call inl) : ∀ (l : List AOper) (K : List (Nat × Bool)) (st : St), KOk st.fr K → SoundW (opsW call inl l K st) (runOps call l st)
 | [], K, st, _ => .ret _
 | o :: r, K, st, hK => by
  unfold opsW runOps
  refine .bind' (guardW_ok hK _ _) fun w hw => ?_
  simp only [Option.map_eq_some_iff] at hw
  obtain ⟨b, hw, rfl⟩ := hw
  have hK' := guardK_ok hK o.guard
  rw [hw]
  cases b with
  | true =>
   simp only [if_true]
   refine .bind' (stepW_ok call inl hi _ _ _) fun st' hs => ?_
   rw [knownOp_step call hK'] at hs
   obtain ⟨v, hv⟩ := stepOp_fr call hs
   rw [hs]
   exact opsW_ok hi r _ st' (hv ▸ hK'.put _ v)
  | false => exact opsW_ok hi r _ _ (hK'.put _ _)
def extW (m : List MObj) (fr : List (Nat × AV)) (o : AOp) : W AV := match o with
  | .call f args => ifW o ((args.map (evA fr)).all AV.noRow = true) (bindW (frzLW m o (args.map (evA fr))) fun vs => askW (.call f vs) fun T Q => match T with
        | .c v r => call.f f vs = some v ∧ Q v r
        | _ => False)
  | .bslice sz false zero ag cnt parts => ifW o (parts.all (fun p => (evA fr p.2).noRow) = true) (bindW (bsElsW m o fr sz (List.replicate cnt (zeroEl zero ag)) parts) fun l => retW (.slice sz l))
  | .x o2 => pureW m fr (.x o2)
  | o => if o.isEff then stopW o else pureW m fr o
theorem extW_ok (m : List MObj) (fr : List (Nat × AV)) (o : AOp) : SoundW (extW call m fr o) (extOp call m fr o) := by
 unfold extW
 split
 ·rename_i f args
  refine .ite fun hc => ?_
  simp only [extOp]
  rw [if_pos hc]
  refine .bind (frzLW_ok _ _ _) fun vs hv => .ask fun T Q h => ?_
  split at h
  ·exact ⟨_, _, h.1, h.2⟩
  ·exact h.elim
 ·rename_i sz zero ag cnt parts
  refine .ite fun hc => ?_
  simp only [extOp]
  rw [if_pos hc]
  refine .bind' (bsElsW_ok _ _ _ _ _ _) fun l hl => ?_
  rw [hl]; exact .ret _
 ·exact pureW_ok _ _ _
 ·rename_i h1 h2 h3
  split
  ·exact .stop _ _
  ·rename_i he
   have : extOp call m fr o = pureOp m fr o := by
    cases o with
    | call f args => exact absurd rfl (h1 _ _)
    | bslice sz own z ag c p => cases own <;> first | exact absurd rfl (h2 _ _ _ _ _) | exact absurd rfl he
    | x o2 => exact absurd rfl (h3 _)
    | _ => first | rfl | exact absurd rfl he
   rw [this]
   exact pureW_ok _ _ _
theorem look_keepF (fr : List (Nat × AV)) (s : Nat) : ∀ {ks : List Nat}, s ∈ ks → look (keepF fr ks) s = look fr s
 | [], h => by cases h
 | k :: r, h => by
  simp only [keepF, look]
  split
  ·rename_i e; rw [e]
  ·rename_i e
   rcases List.mem_cons.1 h with h | h
   ·exact absurd h.symm e
   ·exact look_keepF fr s h
theorem knownOp_ext {fr : List (Nat × AV)} {K : List (Nat × Bool)} (hK : KOk fr K) (m : List MObj) (o : AOp) {ks : List Nat} (hu : ∀ s ∈ o.uses, s ∈ ks) : extOp call m (keepF fr ks) (knownOp K o) = extOp call m (keepF fr ks) o := by
 unfold knownOp
 split
 ·rename_i s a b
  split
  ·rename_i x hx
   have h1 : look (keepF fr ks) s = .val (.bool x) := by rw [look_keepF fr s (hu s (by simp [AOp.uses, opsT, opT]))]; exact hK s x hx
   simp only [extOp, AOp.isEff, pureOp, evA, h1]
   cases x <;> rfl
  ·rfl
 ·rfl
def extsW (m : List MObj) : List AOper → List (Nat × Bool) → List (Nat × AV) → W (List (Nat × AV))
 | [], _, fr => retW fr
 | o :: r, K, fr => bindW (guardW fr o.op K o.guard) fun w => if w.1 then bindW (extW call m (keepF fr o.uses) (knownOp w.2 o.op)) fun v => extsW m r (lessK o.dst w.2) (putf o.dst v fr) else extsW m r (lessK o.dst w.2) (putf o.dst (.val undef) fr)
theorem wanted_keep (fr : List (Nat × AV)) (o : AOper) : wantedA (keepF fr o.uses) o.guard = wantedA fr o.guard := by
 cases hg : o.guard with
 | none => rfl
 | some p =>
  obtain ⟨s, b⟩ := p
  simp only [wantedA]
  rw [look_keepF fr s (by simp [AOper.uses, hg])]
theorem extsW_ok (m : List MObj) : ∀ (l : List AOper) (K : List (Nat × Bool)) (fr : List (Nat × AV)), KOk fr K → SoundW (extsW call m l K fr) (runX call m l fr)
 | [], K, fr, _ => .ret _
 | o :: r, K, fr, hK => by
  unfold extsW runX
  refine .bind' (guardW_ok hK _ _) fun w hw => ?_
  simp only [Option.map_eq_some_iff] at hw
  obtain ⟨b, hw, rfl⟩ := hw
  have hK' := guardK_ok hK o.guard
  rw [oneX, wanted_keep, hw]
  cases b with
  | true =>
   simp only [if_true]
   refine .bind' (extW_ok call m _ _) fun v hs => ?_
   rw [knownOp_ext call hK' m o.op (ks := o.uses) (fun s hs => by unfold AOper.uses; exact List.mem_append_right _ hs)] at hs
   rw [hs]
   exact extsW_ok m r _ _ (hK'.put _ _)
  | false => exact extsW_ok m r _ _ (hK'.put _ _)
end
end Go.Proofs.YtckopgopbgicjaaDoor
end
section
namespace Go.Proofs.YtckopgopbgicjaaDoor
set_option linter.unusedVariables false
set_option linter.unusedSimpArgs false
def eqVal : Value → Value → Prop
 | .int k n, .int k' n' => if k = k' then n = n' else False
 | .bool a, .bool b => a = b
 | .string a, .string b => toL a = toL b
 | a, b => a = b
def eqCell : AV → AV → Prop
 | .val a, .val b => eqVal a b
 | .slice s l, .slice s' l' => if s = s' then l = l' else False
 | .row id ver used off len, .row id' ver' used' off' len' => if id = id' ∧ ver = ver' then used = used' ∧ off = off' ∧ len = len' else False
 | .ptr id off, .ptr id' off' => if id = id' ∧ off = off' then True else False
 | .any, .any => True
 | a, b => a = b
def eqCells : List AV → List AV → Prop
 | [], [] => True
 | [x], [y] => eqCell x y
 | x :: l, y :: l' => eqCell x y ∧ eqCells l l'
 | _, _ => False
def eqAV : AV → AV → Prop
 | .agg l, .agg l' => eqCells l l'
 | a, b => eqCell a b
def eqAVs : List AV → List AV → Prop
 | [], [] => True
 | [x], [y] => eqAV x y
 | x :: l, y :: l' => eqAV x y ∧ eqAVs l l'
 | _, _ => False
def eqR : AV → AV → Prop
 | .tuple l, .tuple l' => eqAVs l l'
 | a, b => eqAV a b
def eqFr : List (Nat × AV) → List (Nat × AV) → Prop
 | [], [] => True
 | (k, x) :: l, (k', y) :: l' => if k = k' then eqAV x y ∧ eqFr l l' else False
 | _, _ => False
def eqObj : MObj → MObj → Prop
 | .box t l, .box t' l' => if t = t' then eqCells l l' else False
 | .row v s l wr ap, .row v' s' l' wr' ap' => if v = v' ∧ s = s' ∧ wr = wr' ∧ ap = ap' then l = l' else False
 | .mp es, .mp es' => es = es'
 | a, b => a = b
def eqMem : List MObj → List MObj → Prop
 | [], [] => True
 | [x], [y] => eqObj x y
 | x :: l, y :: l' => eqObj x y ∧ eqMem l l'
 | _, _ => False
def eqSt (a b : St) : Prop := eqFr a.fr b.fr ∧ eqMem a.m b.m
theorem eqVal_eq {a b : Value} (h : eqVal a b) : a = b := by
 unfold eqVal at h
 split at h
 ·split at h
  ·rename_i hk; rw [hk, h]
  ·exact h.elim
 ·rw [h]
 ·rename_i s t
  rw [← ofL_toL s, ← ofL_toL t, h]
 ·exact h
theorem eqCell_eq {a b : AV} (h : eqCell a b) : a = b := by
 unfold eqCell at h
 split at h
 ·rw [eqVal_eq h]
 ·split at h
  ·rename_i hk; rw [hk, h]
  ·exact h.elim
 ·split at h
  ·rename_i hk; rw [hk.1, hk.2, h.1, h.2.1, h.2.2]
  ·exact h.elim
 ·split at h
  ·rename_i hk; rw [hk.1, hk.2]
  ·exact h.elim
 ·rfl
 ·exact h
theorem eqCells_eq : ∀ {a b : List AV}, eqCells a b → a = b
 | [], [], _ => rfl
 | [x], [y], h => by rw [eqCell_eq h]
 | [x], y :: z :: l, h => by simp only [eqCells] at h; exact h.2.elim
 | x :: z :: l, [y], h => by simp only [eqCells] at h; exact h.2.elim
 | x :: u :: l, y :: v :: l', h => by
  simp only [eqCells] at h
  rw [eqCell_eq h.1, eqCells_eq (a := u :: l) (b := v :: l') h.2]
 | [], _ :: _, h => by simp only [eqCells] at h
 | _ :: _, [], h => by simp only [eqCells] at h
theorem eqAV_eq {a b : AV} (h : eqAV a b) : a = b := by
 unfold eqAV at h
 split at h
 ·rw [eqCells_eq h]
 ·exact eqCell_eq h
theorem eqAVs_eq : ∀ {a b : List AV}, eqAVs a b → a = b
 | [], [], _ => rfl
 | [x], [y], h => by rw [eqAV_eq h]
 | [x], y :: z :: l, h => by simp only [eqAVs] at h; exact h.2.elim
 | x :: z :: l, [y], h => by simp only [eqAVs] at h; exact h.2.elim
 | x :: u :: l, y :: v :: l', h => by
  simp only [eqAVs] at h
  rw [eqAV_eq h.1, eqAVs_eq (a := u :: l) (b := v :: l') h.2]
 | [], _ :: _, h => by simp only [eqAVs] at h
 | _ :: _, [], h => by simp only [eqAVs] at h
theorem eqR_eq {a b : AV} (h : eqR a b) : a = b := by
 unfold eqR at h
 split at h
 ·rw [eqAVs_eq h]
 ·exact eqAV_eq h
theorem eqFr_eq : ∀ {a b : List (Nat × AV)}, eqFr a b → a = b
 | [], [], _ => rfl
 | (k, x) :: l, (k', y) :: l', h => by
  simp only [eqFr] at h
  split at h
  ·rename_i hk; rw [hk, eqAV_eq h.1, eqFr_eq h.2]
  ·exact h.elim
 | [], _ :: _, h => by simp only [eqFr] at h
 | _ :: _, [], h => by simp only [eqFr] at h
theorem eqObj_eq {a b : MObj} (h : eqObj a b) : a = b := by
 unfold eqObj at h
 split at h
 ·split at h
  ·rename_i hk; rw [hk, eqCells_eq h]
  ·exact h.elim
 ·split at h
  ·rename_i hk; rw [hk.1, hk.2.1, hk.2.2.1, hk.2.2.2, h]
  ·exact h.elim
 ·rw [h]
 ·exact h
theorem eqMem_eq : ∀ {a b : List MObj}, eqMem a b → a = b
 | [], [], _ => rfl
 | [x], [y], h => by rw [eqObj_eq h]
 | [x], y :: z :: l, h => by simp only [eqMem] at h; exact h.2.elim
 | x :: z :: l, [y], h => by simp only [eqMem] at h; exact h.2.elim
 | x :: u :: l, y :: v :: l', h => by
  simp only [eqMem] at h
  rw [eqObj_eq h.1, eqMem_eq (a := u :: l) (b := v :: l') h.2]
 | [], _ :: _, h => by simp only [eqMem] at h
 | _ :: _, [], h => by simp only [eqMem] at h
theorem eqSt_eq {a b : St} (h : eqSt a b) : a = b := by
 cases a; cases b
 simp only [eqSt] at h
 rw [eqFr_eq h.1, eqMem_eq h.2]
def andW {α : Type} (p : Prop) (x : W α) : W α := fun T Q => p ∧ x T Q
def stepCW (call : CallF) (inl : InlW) (o : AOper) (st : St) : W St := bindW (opsW call inl [o] [] ⟨keepF st.fr o.uses, st.m⟩) fun st' => retW ⟨putf o.dst (lookD o.dst st'.fr) st.fr, st'.m⟩
def chainW (call : CallF) (inl : InlW) (free : List AOper) (fr0 fr1 : List (Nat × AV)) : List AOper → St → W St
 | [], st => retW st
 | o :: r, st => bindW (stepCW call inl o st) fun st' => match r with
  | [] => retW st'
  | _ :: _ => bindW (extsW call st'.m free [] fr0) fun fr2 => andW (eqFr fr2 fr1) (chainW call inl free fr0 fr1 r st')
theorem stepCW_ok {call : CallF} {inl : InlW} (hi : InlOk call inl) (o : AOper) (st : St) : SoundW (stepCW call inl o st) (stepC call o st) := by
 unfold stepCW stepC
 refine .bind' (opsW_ok _ _ hi _ _ _ (KOk.nil _)) fun st' h => ?_
 rw [h]
 exact .ret _
theorem chainW_ok {call : CallF} {inl : InlW} (hi : InlOk call inl) {free : List AOper} {fr0 fr1 : List (Nat × AV)} : ∀ (l : List AOper) (st : St), SoundW (chainW call inl free fr0 fr1 l st) (runC call free fr0 fr1 l st)
 | [], st => .ret _
 | [o], st => by
  unfold chainW runC
  refine .bind' (stepCW_ok hi o st) fun st' h => ?_
  rw [h]
  exact .ret _
 | o :: o2 :: r, st => by
  unfold chainW runC
  refine .bind' (stepCW_ok hi o st) fun st' h => ?_
  rw [h]
  refine .bind' (extsW_ok _ _ _ _ _ (KOk.nil _)) fun fr2 h2 => ?_
  simp only [h2]
  intro T Q hq
  obtain ⟨q1, q2⟩ := hq
  simp only [eqFB_of (eqFr_eq q1)]
  exact chainW_ok hi (o2 :: r) st' T Q q2
section
variable (call : CallF) (inl : InlW) (loop : LoopF) (b : Nat)
def roundW {ι : Type} (S : ι → St) (I : ι → Prop) (μ : ι → Nat) (keep : List Nat) (i : ι) (Q : AExit × St → Tr → Prop) : AExit × St → Tr → Prop
 | (.normal, st'), _ => ∃ j, eqSt (normSt b keep st') (S j) ∧ I j ∧ μ j < μ i
 | (.exit k, st'), T => Q (.exit k, st') T
 | (.ret, st'), T => Q (.ret, st') T
def joinW (keep : List Nat) (Q : AExit × St → Tr → Prop) : AExit × St → Tr → Prop
 | (.normal, st'), T => Q (.normal, normSt b keep st') T
 | (.exit k, st'), T => Q (.exit k, st') T
 | (.ret, st'), T => Q (.ret, st') T
def cutW {ι : Type} (S : ι → St) (I : ι → Prop) (keep : List Nat) (Q : AExit × St → Tr → Prop) : AExit × St → Tr → Prop
 | (.normal, st'), _ => ∃ j, eqSt (normSt b keep st') (S j) ∧ I j
 | (.exit k, st'), T => Q (.exit k, st') T
 | (.ret, st'), T => Q (.ret, st') T
def unW (body : St → W (AExit × St)) (keep : List Nat) (Q : AExit × St → Tr → Prop) : Nat → St → Tr → Prop
 | 0, _, _ => False
 | n + 1, st, T => body (normSt b keep st) T fun r T' => match r with
  | (.normal, st') => unW body keep Q n st' T'
  | (.exit k, st') => Q (.exit k, st') T'
  | (.ret, st') => Q (.ret, st') T'
def codeW : ACode → St → W (AExit × St)
 | .skip, st => retW (.normal, st)
 | .region ops ds, st => bindW (opsW call inl ops [] st) fun st' => retW (.normal, ⟨dropF ds st'.fr, st'.m⟩)
 | .dregion ops tail ds, st => bindW (extsW call st.m ops [] st.fr) fun fr => bindW (opsW call inl tail [] ⟨fr, st.m⟩) fun st' => retW (.normal, ⟨dropF ds st'.fr, st'.m⟩)
 | .cregion free chain ds, st => bindW (extsW call st.m free [] st.fr) fun fr1 => bindW (chainW call inl free st.fr fr1 chain ⟨fr1, st.m⟩) fun st' => retW (.normal, ⟨dropF ds st'.fr, st'.m⟩)
 | .seq x y, st => bindW (codeW x st) fun r => match r with
  | (.normal, st') => codeW y st'
  | r => retW r
 | .cond c x y, st => match evA st.fr c with
  | .val (.bool t) => bindW (boolW t) fun t => if t then codeW x st else codeW y st
  | _ => stopW (.mov c)
 | .block id c, st => bindW (codeW c st) fun r => match r with
  | (.exit i, st') => retW (if i = id then (.normal, st') else (.exit i, st'))
  | r => retW r
 | .loop c k, st => askW (.loop c k (normSt b k st)) fun T Q => match T with
  | .lp ex st' r => loop c k st = some (ex, st') ∧ Q (ex, st') r
  | .un n r => unW b (codeW c) k Q n st r
  | .inv S I μ r => (∃ i, eqSt (normSt b k st) (S i) ∧ I i) ∧ ∀ i, I i → codeW c (S i) (r i) (roundW b S I μ k i Q)
  | _ => False
 | .join c k, st => askW (.join k st) fun T Q => match T with
  | .w r => codeW c st r (joinW b k Q)
  | .cut S I r r' => codeW c st r (cutW b S I k Q) ∧ ∀ i, I i → Q (.normal, S i) (r' i)
  | _ => False
 | .exit id, st => retW (.exit id, st)
 | .ret, st => retW (.ret, st)
end
section
variable {F : FuncId → Option AFunc} {X : CallF}
theorem loop_inv {b : Nat} {inl : InlW} {c : ACode} {keep : List Nat} {ι : Type} {S : ι → St} {I : ι → Prop} {μ : ι → Nat} {r : ι → Tr} {Q : AExit × St → Tr → Prop} (hc : ∀ st, SoundW (codeW (R F X) inl (Lp F X b) b c st) (aexec (R F X) b (Lp F X b) c st))
    (h : ∀ i, I i → codeW (R F X) inl (Lp F X b) b c (S i) (r i) (roundW b S I μ keep i Q)) : ∀ (n : Nat) (i : ι) (st : St), μ i < n → I i → normSt b keep st = S i → ∃ x T', Lp F X b c keep st = some x ∧ Q x T' := by
  intro n
  induction n with
  | zero => intro i st hn; omega
  | succ n ih =>
    intro i st hn hi hst
    obtain ⟨⟨ex, st'⟩, T', h1, h2⟩ := hc _ _ _ (h i hi)
    rw [← hst] at h1
    cases ex with
    | normal =>
      obtain ⟨j, e, hj, hlt⟩ := h2
      obtain ⟨x, T'', g1, g2⟩ := ih j st' (by omega) hj (eqSt_eq e)
      exact ⟨x, T'', Lp_step h1 g1, g2⟩
    | exit k => exact ⟨_, T', Lp_exit h1, h2⟩
    | ret => exact ⟨_, T', Lp_ret h1, h2⟩
theorem unW_ok {b : Nat} {c : ACode} {keep : List Nat} {body : St → W (AExit × St)} {Q : AExit × St → Tr → Prop} (hc : ∀ st, SoundW (body st) (aexec (R F X) b (Lp F X b) c st)) : ∀ (n : Nat) (st : St) (T : Tr), unW b body keep Q n st T → ∃ x T', Lp F X b c keep st = some x ∧ Q x T'
 | 0, _, _, h => h.elim
 | n + 1, st, T, h => by
  obtain ⟨⟨ex, st'⟩, T', h1, h2⟩ := hc _ _ _ h
  cases ex with
  | normal =>
   obtain ⟨x, T'', g1, g2⟩ := unW_ok hc n st' T' h2
   exact ⟨x, T'', Lp_step h1 g1, g2⟩
  | exit k => exact ⟨_, T', Lp_exit h1, h2⟩
  | ret => exact ⟨_, T', Lp_ret h1, h2⟩
theorem codeW_ok {inl : InlW} (hi : InlOk (R F X) inl) (b : Nat) : ∀ (c : ACode) (st : St), SoundW (codeW (R F X) inl (Lp F X b) b c st) (aexec (R F X) b (Lp F X b) c st)
 | .skip, st => .ret _
 | .region ops ds, st => by
  unfold codeW aexec
  refine .bind' (opsW_ok _ _ hi _ _ _ (KOk.nil _)) fun st' h => ?_
  rw [h]
  exact .ret _
 | .dregion ops tail ds, st => by
  unfold codeW aexec
  refine .bind' (extsW_ok _ _ _ _ _ (KOk.nil _)) fun fr h => ?_
  rw [h]
  refine .bind' (opsW_ok _ _ hi _ _ _ (KOk.nil _)) fun st' h' => ?_
  simp only [h']
  exact .ret _
 | .cregion free chain ds, st => by
  unfold codeW aexec
  refine .bind' (extsW_ok _ _ _ _ _ (KOk.nil _)) fun fr1 h => ?_
  rw [h]
  refine .bind' (chainW_ok hi _ _) fun st' h' => ?_
  simp only [h']
  exact .ret _
 | .seq x y, st => by
  unfold codeW aexec
  refine .bind' (codeW_ok hi b x st) fun r h => ?_
  rw [h]
  obtain ⟨ex, st'⟩ := r
  cases ex with
  | normal => exact codeW_ok hi b y st'
  | exit i => exact .ret _
  | ret => exact .ret _
 | .cond c x y, st => by
  unfold codeW aexec
  split
  ·rename_i t hc
   refine .bind' (boolW_ok _) fun t' ht => ?_
   cases ht
   rw [hc]
   cases t with
   | true => exact codeW_ok hi b x st
   | false => exact codeW_ok hi b y st
  ·exact .stop _ _
 | .block id c, st => by
  unfold codeW aexec
  refine .bind' (codeW_ok hi b c st) fun r h => ?_
  rw [h]
  obtain ⟨ex, st'⟩ := r
  cases ex with
  | normal => exact .ret _
  | exit i =>
   simp only
   split <;> exact .ret _
  | ret => exact .ret _
 | .loop c k, st => by
  unfold codeW aexec
  refine .ask fun T Q h => ?_
  split at h
  ·exact ⟨_, _, h.1, h.2⟩
  ·exact unW_ok (codeW_ok hi b c) _ _ _ h
  ·rename_i S I μ r
   obtain ⟨⟨i, e, hI⟩, h2⟩ := h
   exact loop_inv (codeW_ok hi b c) h2 (μ i + 1) i st (Nat.lt_succ_self _) hI (eqSt_eq e)
  ·exact h.elim
 | .join c k, st => by
  unfold codeW aexec
  refine .ask fun T Q h => ?_
  split at h
  ·obtain ⟨⟨ex, st'⟩, T', h1, h2⟩ := codeW_ok hi b c st _ _ h
   rw [h1]
   cases ex <;> exact ⟨_, T', rfl, h2⟩
  ·rename_i S I r r'
   obtain ⟨⟨ex, st'⟩, T', h1, h2⟩ := codeW_ok hi b c st _ _ h.1
   rw [h1]
   cases ex with
   | normal =>
    obtain ⟨j, e, hj⟩ := h2
    refine ⟨_, _, ?_, h.2 j hj⟩
    simp only [eqSt_eq e]
   | exit i => exact ⟨_, T', rfl, h2⟩
   | ret => exact ⟨_, T', rfl, h2⟩
  ·exact h.elim
 | .exit id, st => .ret _
 | .ret, st => .ret _
end
def resW0 (st : St) : ARes → W AV
 | .tmp t _ => frzW st.m (.mov (.tmp t)) (look st.fr t)
 | .cell t n ag _ => bindW (liftW (.mov (.tmp t)) ((cellsAt st.m (look st.fr t)).bind (mkV n ag))) fun v => frzW st.m (.mov (.tmp t)) v
def ARes.offs : ARes → List (Nat × Nat)
 | .tmp _ o => o
 | .cell _ _ _ o => o
def resW (st : St) (x : ARes) : W AV := bindW (resW0 st x) fun v => retW (nilN x.offs v)
theorem resW_ok (st : St) (x : ARes) : SoundW (resW st x) (resOf st x) := by
 have fin : ∀ {o : Option AV}, SoundW (resW0 st x) o → SoundW (resW st x) (o.map (nilN x.offs)) := fun {o} h => by
  have : o.map (nilN x.offs) = o.bind fun v => some (nilN x.offs v) := by cases o <;> rfl
  rw [this]
  exact h.bind fun a _ => .ret _
 cases x with
 | tmp t offs => exact fin (frzW_ok _ _ _)
 | cell t n ag offs =>
  refine fin ?_
  show SoundW (bindW (liftW (.mov (.tmp t)) ((cellsAt st.m (look st.fr t)).bind (mkV n ag))) fun v => frzW st.m (.mov (.tmp t)) v) (((cellsAt st.m (look st.fr t)).bind (mkV n ag)).bind (frz st.m))
  exact SoundW.bind (x := liftW (.mov (.tmp t)) ((cellsAt st.m (look st.fr t)).bind (mkV n ag))) (f := fun v => frzW st.m (.mov (.tmp t)) v) (SoundW.lift _ _) fun v _ => frzW_ok _ _ _
def resLW (st : St) : List ARes → W (List AV)
 | [] => retW []
 | x :: r => bindW (resW st x) fun a => bindW (resLW st r) fun b => retW (a :: b)
theorem resLW_ok (st : St) : ∀ l : List ARes, SoundW (resLW st l) (resL st l)
 | [] => .ret _
 | x :: r => by
  have : resL st (x :: r) = (resOf st x).bind fun a => (resL st r).bind fun b => some (a :: b) := by
   simp only [resL]
   cases resOf st x <;> cases resL st r <;> rfl
  rw [this]
  exact (resW_ok st x).bind fun a _ => (resLW_ok st r).bind fun b _ => .ret _
section
variable (F : FuncId → Option AFunc) (X : CallF)
def bodyMW (inl : InlW) (fn : AFunc) (args : List AV) (m : List MObj) : W (AV × List MObj) := ifW (.call 0 []) (args.length = fn.params) (bindW (codeW (R F X) inl (Lp F X m.length) m.length fn.body ⟨enterF fn.params 0 args, m⟩) fun r => match r with
 | (.exit _, _) => stopW (.call 0 [])
 | (_, st) => bindW (liftW (.call 0 []) (resLM st fn.results)) fun l => retW (packR fn.pk m.length (mkRes l) st.m))
def inlW : Nat → InlW
 | 0 => fun _ _ _ => stopW (.call 0 [])
 | d + 1 => fun f vs m => match F f with
  | some fn => bodyMW F X (inlW d) fn vs m
  | none => stopW (.call f [])
def bodyW (inl : InlW) (fn : AFunc) (args : List AV) : W AV := ifW (.call 0 []) (args.length = fn.params) (bindW (codeW (R F X) inl (Lp F X 0) 0 fn.body ⟨enterF fn.params 0 args, []⟩) fun r => match r with
 | (.exit _, _) => stopW (.call 0 [])
 | (_, st) => bindW (resLW st fn.results) fun l => retW (mkRes l))
end
section
variable {F : FuncId → Option AFunc} {X : CallF}
theorem bodyMW_ok {inl : InlW} (hi : InlOk (R F X) inl) (fn : AFunc) (args : List AV) (m : List MObj) : SoundW (bodyMW F X inl fn args m) (runBodyM (R F X) (Lp F X m.length) fn args m) := by
 unfold bodyMW runBodyM
 refine .ite fun h => ?_
 rw [if_pos h]
 refine .bind' (codeW_ok hi _ _ _) fun r hr => ?_
 obtain ⟨ex, st⟩ := r
 rw [hr]
 cases ex with
 | normal =>
  refine .bind' (.lift _ _) fun l hl => .ret' ?_
  simp only [hl, Option.map_some]
 | exit i => exact .stop _ _
 | ret =>
  refine .bind' (.lift _ _) fun l hl => .ret' ?_
  simp only [hl, Option.map_some]
theorem inlW_ok : ∀ d, InlOk (R F X) (inlW F X d)
 | 0 => fun _ _ _ => .stop _ _
 | d + 1 => fun f vs m => by
  unfold inlW
  split
  ·rename_i fn hf
   intro T Q h
   obtain ⟨a, T', h1, h2⟩ := bodyMW_ok (inlW_ok d) fn vs m T Q h
   exact ⟨a, T', RM_body hf h1, h2⟩
  ·exact .stop _ _
theorem bodyW_ok {inl : InlW} (hi : InlOk (R F X) inl) (fn : AFunc) (args : List AV) : SoundW (bodyW F X inl fn args) (runBody (R F X) (Lp F X 0) fn args) := by
 unfold bodyW runBody
 refine .ite fun h => ?_
 rw [if_pos h]
 refine .bind' (codeW_ok hi _ _ _) fun r hr => ?_
 obtain ⟨ex, st⟩ := r
 rw [hr]
 cases ex with
 | normal =>
  refine .bind' (resLW_ok _ _) fun l hl => .ret' ?_
  simp only [hl, Option.map_some]
 | exit i => exact .stop _ _
 | ret =>
  refine .bind' (resLW_ok _ _) fun l hl => .ret' ?_
  simp only [hl, Option.map_some]
@[irreducible] def wpR (F : FuncId → Option AFunc) (X : CallF) (fn : AFunc) (vs : List AV) (T : Tr) (r : AV) : Prop := bodyW F X (inlW F X 9) fn vs T fun v _ => eqR v r
@[irreducible] def wpRM (F : FuncId → Option AFunc) (X : CallF) (fn : AFunc) (vs : List AV) (m : List MObj) (T : Tr) (r : AV) (m' : List MObj) : Prop := bodyMW F X (inlW F X 9) fn vs m T fun v _ => eqR v.1 r ∧ eqMem v.2 m'
theorem R_wp {f : FuncId} {fn : AFunc} {vs : List AV} {r : AV} (T : Tr) (hf : F f = some fn) (h : wpR F X fn vs T r) : (R F X).f f vs = some r := by
 unfold wpR at h
 obtain ⟨a, T', h1, h2⟩ := bodyW_ok (inlW_ok 9) fn vs T _ h
 rw [← eqR_eq h2]
 exact R_body hf h1
end
end Go.Proofs.YtckopgopbgicjaaDoor
end
section
namespace Go.Proofs.YtckopgopbgicjaaDoor
set_option linter.unusedVariables false
set_option linter.unusedSimpArgs false
def mapE {α : Type} (f : α → AV) (a : List (Bs × α)) : List (Value × AV) := a.map fun x => (.string (ofL x.1), f x.2)
def aput {α : Type} : List (Bs × α) → Bs → α → List (Bs × α)
 | [], s, v => [(s, v)]
 | (k, u) :: r, s, v => if s = k then (s, v) :: r else (k, u) :: aput r s v
def adel {α : Type} : List (Bs × α) → Bs → List (Bs × α)
 | [], _ => []
 | (k, u) :: r, s => if s = k then r else (k, u) :: adel r s
def setAtL {α : Type} (l : List α) (i : Nat) (cs : List α) : List α := l.take i ++ cs ++ l.drop (i + cs.length)
theorem get_of {α : Type} {l : List α} {k : Nat} {x : α} (h : l[k]? = some x) : ∃ hk : k < l.length, l[k] = x := List.getElem?_eq_some_iff.1 h
theorem maxLen_le : 1099511627776 ≤ maxLen := by decide +kernel
theorem toU8_nat (n : Nat) : toU8 (n : Int) = UInt8.ofNat n := by
 apply UInt8.toNat_inj.1
 unfold toU8
 rw [UInt8.toNat_ofNat', UInt8.toNat_ofNat']
 omega
theorem tdiv_lit (n : Int) (k : Int) (hk : 0 < k) : (0 ≤ n ∧ n.tdiv k = n / k ∧ n.tmod k = n % k) ∨ (n < 0 ∧ n.tdiv k = -(-n / k) ∧ n.tmod k = -(-n % k)) := by
 by_cases h : 0 ≤ n
 ·exact .inl ⟨h, Int.tdiv_eq_ediv_of_nonneg h, Int.tmod_eq_emod_of_nonneg h⟩
 ·refine .inr ⟨by omega, ?_, ?_⟩
  ·rw [← Int.tdiv_eq_ediv_of_nonneg (a := -n) (by omega), Int.neg_tdiv, Int.neg_neg]
  ·rw [← Int.tmod_eq_emod_of_nonneg (a := -n) (by omega), Int.neg_tmod, Int.neg_neg]
abbrev Cut (_ : Nat) (α : Type) : Type := α
theorem dT {p : Prop} [Decidable p] (h : decide p = true) : p := of_decide_eq_true h
theorem dF {p : Prop} [Decidable p] (h : decide p = false) : ¬ p := of_decide_eq_false h
theorem nT {b : Bool} (h : (!b) = true) : b = false := by simpa using h
theorem nF {b : Bool} (h : (!b) = false) : b = true := by simpa using h
theorem dnT {p : Prop} [Decidable p] (h : (!decide p) = true) : ¬ p := dF (nT h)
theorem dnF {p : Prop} [Decidable p] (h : (!decide p) = false) : p := dT (nF h)
end Go.Proofs.YtckopgopbgicjaaDoor
end
section
namespace Go.Proofs.YtckopgopbgicjaaDoor
set_option linter.unusedVariables false
set_option linter.unusedSimpArgs false
open Go.RowKit Go.ChangeShapes Go.WideShapes Go.ChangeAt Go.Deep
open Go.ChangeMaps (open_string shut_string)
abbrev S0 (w : World) : Nat → Nat → Prop := Stab (fun _ _ => False) [] w
theorem s0_of {w : World} {b : Nat} (h : b < w.heap.size) (o : Nat) : S0 w b o := ⟨h, fun h => h.elim, by rintro ⟨i, k, hk, _⟩; simp at hk⟩
theorem repL_of1 {S : Nat → Nat → Prop} {w : World} {v : Value} {x : AV} (h : Rep S w [] v x) : RepL S w [] #[v] [x] := ⟨rfl, fun i y hy => by
 match i, hy with
 | 0, hy => cases hy; exact h⟩
theorem calls_true {f : FuncId} {vs : Array Value} {avs : List AV} {w : World} (hc : CallOk Tryd.prog f avs (boolA true)) (hG : GR (S0 w) w []) (h : RepL (S0 w) w [] vs avs) : Calls Tryd.prog f vs w fun e w' => e = .returned (.bool true) ∧ Below w.heap.size w w' := by
 refine (hc (fun _ _ => False) w vs (fun _ _ h => h.elim) hG h).mono fun e w' ⟨v, h1, h2, h3⟩ => ⟨?_, h3.none_below⟩
 rw [h1]
 have := rep_val h2
 rw [this]
theorem gr_of_var {w : World} {n : String} {g : Nat} {cs : Array Value} {l : List AV} (hn : Tryd.prog.globalNamed n = some g) (hv : w.var? Tryd.prog n = some cs) (hl : cs.size = l.length) (hr : ∀ (j : Nat) (y : AV), l[j]? = some y → y.grCell = true ∧ ∃ u, cs[j]? = some u ∧ Rep (S0 w) w [] u y) :
    Rep (S0 w) w [] (.pointer (some ⟨g, 0, none⟩)) (.rptr l) ∧ ∀ o, l.length ≤ o → S0 w g o ∧ w.cell? ⟨g, o, none⟩ = none := by
  unfold World.var? at hv
  rw [hn] at hv
  simp only [Option.bind_some] at hv
  split at hv
  · rename_i cs' t fz hh
    injection hv with hv
    subst hv
    have hc : ∀ j, w.cell? ⟨g, j, none⟩ = cs'[j]? := fun j => by simp [World.cell?, hh]
    have hlt : g < w.heap.size := (Array.getElem?_eq_some_iff.1 hh).1
    refine ⟨.rptr g 0 (fun j => cs'.getD j undef) (fun j y hy => (hr j y hy).1) (fun j y hy => ?_) (fun j y hy => ?_), fun o ho => ⟨s0_of hlt _, by rw [hc, Array.getElem?_eq_none (by omega)]⟩⟩
    · obtain ⟨-, u, hu, -⟩ := hr j y hy
      rw [Nat.zero_add, hc]
      exact ⟨by rw [hu, Array.getD_eq_getD_getElem?, hu]; rfl, s0_of hlt _⟩
    · obtain ⟨-, u, hu, hrep⟩ := hr j y hy
      rw [Array.getD_eq_getD_getElem?, hu]; exact hrep
  · cases hv
end Go.Proofs.YtckopgopbgicjaaDoor
end
section
namespace Go.Proofs.YtckopgopbgicjaaDoor
set_option linter.unusedVariables false
set_option linter.unusedSimpArgs false
open Go.RowKit Go.ChangeShapes Go.WideShapes Go.ChangeAt Go.Deep
set_option maxRecDepth 100000
inductive Sh
 | bool
 | int (k : IntKind)
 | str
 | sl (e : Sh)
 | st (fs : List Sh)
mutual
def Sh.n : Sh → Nat
 | .st fs => Sh.ns fs
 | _ => 1
def Sh.ns : List Sh → Nat
 | [] => 0
 | s :: r => s.n + Sh.ns r
end
mutual
def Sh.ok (P : Program) : Sh → TypeId → Bool
 | .bool, t => (match P.underlying t with | some .bool => true | _ => false)
 | .int k, t => (match P.underlying t with | some (.int k') => decide (k' = k) | _ => false)
 | .str, t => (match P.underlying t with | some .string => true | _ => false)
 | .sl e, t => (match P.underlying t with | some (.slice u) => decide (P.cellsOf u = e.n) && decide (0 < e.n) && e.ok P u | _ => false)
 | .st fs, t => (match P.underlying t with
  | some (.struct l) => decide (P.cellsOf t = Sh.ns fs) && Sh.okF P fs l.toList 0
  | some (.array n e) => decide (P.cellsOf t = Sh.ns fs) && decide (fs.length = n) && Sh.okA P fs e
  | _ => false)
def Sh.okF (P : Program) : List Sh → List Field → Nat → Bool
 | [], [], _ => true
 | s :: r, f :: l, o => decide (f.offset = o) && decide (P.cellsOf f.type = s.n) && s.ok P f.type && Sh.okF P r l (o + s.n)
 | _, _, _ => false
def Sh.okA (P : Program) : List Sh → TypeId → Bool
 | [], _ => true
 | s :: r, e => decide (P.cellsOf e = s.n) && s.ok P e && Sh.okA P r e
end
def Sh.mk : Sh → List AV → AV
 | .st _, l => .agg l
 | _, l => l.headD .any
section
variable {H : Type}
mutual
def dAV : Sh → DataW H → List AV
 | .st fs, .agg parts => dAVs fs parts
 | .sl e, .slice elems _ => [.slice e.n (elems.map fun x => e.mk (dAV e x))]
 | .sl e, .nil => [.slice e.n []]
 | .str, .lit (.string l) => [strL l]
 | .int _, .lit (.int k n) => [.val (.int k n)]
 | .bool, .lit (.bool b) => [.val (.bool b)]
 | _, _ => []
def dAVs : List Sh → List (DataW H) → List AV
 | s :: r, d :: l => dAV s d ++ dAVs r l
 | _, _ => []
end
mutual
def Ty : Sh → DataW H → Prop
 | .st fs, .agg parts => Tys fs parts
 | .sl e, .slice elems _ => elems.length ≤ maxLen ∧ ∀ x ∈ elems, Ty e x
 | .sl _, .nil => True
 | .str, .lit (.string l) => l.length ≤ maxLen
 | .int k, .lit (.int k' n) => k' = k ∧ (Lit.int k n).wf = true
 | .bool, .lit (.bool _) => True
 | _, _ => False
def Tys : List Sh → List (DataW H) → Prop
 | [], [] => True
 | s :: r, d :: l => Ty s d ∧ Tys r l
 | _, _ => False
end
theorem Ty_st {fs : List Sh} {d : DataW H} (h : Ty (.st fs) d) : ∃ parts, d = .agg parts ∧ Tys fs parts := by
 cases d <;> first | exact ⟨_, rfl, by simpa [Ty] using h⟩ | (simp [Ty] at h)
theorem Ty_sl {e : Sh} {d : DataW H} (h : Ty (.sl e) d) : (d = .nil) ∨ ∃ elems spare, d = .slice elems spare ∧ elems.length ≤ maxLen ∧ ∀ x ∈ elems, Ty e x := by
 cases d <;> first | exact .inl rfl | exact .inr ⟨_, _, rfl, by simpa [Ty] using h⟩ | (simp [Ty] at h)
theorem Ty_str {d : DataW H} (h : Ty .str d) : ∃ l, d = .lit (.string l) ∧ l.length ≤ maxLen := by
 cases d with
 | lit l => cases l <;> first | exact ⟨_, rfl, by simpa [Ty] using h⟩ | (simp [Ty] at h)
 | _ => simp [Ty] at h
theorem Ty_int {k : IntKind} {d : DataW H} (h : Ty (.int k) d) : ∃ n, d = .lit (.int k n) ∧ (Lit.int k n).wf = true := by
 cases d with
 | lit l => cases l <;> first | (simp only [Ty] at h; obtain ⟨rfl, h⟩ := h; exact ⟨_, rfl, h⟩) | (simp [Ty] at h)
 | _ => simp [Ty] at h
theorem Ty_bool {d : DataW H} (h : Ty .bool d) : ∃ b, d = .lit (.bool b) := by
 cases d with
 | lit l => cases l <;> first | exact ⟨_, rfl⟩ | (simp [Ty] at h)
 | _ => simp [Ty] at h
theorem mk_cells {s : Sh} {d : DataW H} (h : Ty s d) : (s.mk (dAV s d)).cells = dAV s d := by
 cases s with
 | bool => obtain ⟨b, rfl⟩ := Ty_bool h; rfl
 | int k => obtain ⟨n, rfl, -⟩ := Ty_int h; rfl
 | str => obtain ⟨l, rfl, -⟩ := Ty_str h; rfl
 | sl e =>
  rcases Ty_sl h with rfl | ⟨elems, spare, rfl, -, -⟩
  ·rfl
  ·simp [dAV, Sh.mk, AV.cells]
 | st fs => rfl
variable {enc : TypeId × Value → H} {w : World}
theorem addr_add2 (b o k j : Nat) : ((⟨b, o, none⟩ : Addr).add k).add j = ⟨b, o + k + j, none⟩ := by
 simp only [Addr.add]
 split <;> split <;> simp_all
theorem drop_take_get {cs : List Value} {o n i : Nat} {u : Value} (h : cs[o + i]? = some u) (hi : i < n) : ((cs.drop o).take n)[i]? = some u := by
 rw [List.getElem?_take, if_pos hi, List.getElem?_drop]; exact h
mutual
theorem rep_of : ∀ (s : Sh) (t : TypeId) (fuel : Nat) (cs : List Value) (d : DataW H) (ps : List MemPlace), s.ok Tryd.prog t = true → DataW.trod enc Tryd.prog w 0 (fun _ => true) true fuel t cs = some (d, ps) →
    Ty s d ∧ cs.length = s.n ∧ (dAV s d).length = s.n ∧ ∀ (i : Nat) (y : AV) (u : Value), (dAV s d)[i]? = some y → cs[i]? = some u → y.grCell = true ∧ Rep (S0 w) w [] u y
  | .bool, t, fuel, cs, d, ps, hs, h => by
    simp only [Sh.ok] at hs
    split at hs
    · rename_i ht
      obtain ⟨b, rfl, hx⟩ := DataW.trod_bool ht h
      cases hx
      refine ⟨by simp [Ty], rfl, rfl, fun i y u hy hu => ?_⟩
      match i, hy, hu with
      | 0, hy, hu => cases hy; cases hu; exact ⟨rfl, .val _ _⟩
    · cases hs
  | .int k, t, fuel, cs, d, ps, hs, h => by
    simp only [Sh.ok] at hs
    split at hs
    · rename_i k' ht
      have hk := of_decide_eq_true hs
      subst hk
      obtain ⟨b, rfl, hx, hw⟩ := DataW.trod_int ht h
      cases hx
      refine ⟨by simp [Ty, hw], rfl, rfl, fun i y u hy hu => ?_⟩
      match i, hy, hu with
      | 0, hy, hu => cases hy; cases hu; exact ⟨rfl, .val _ _⟩
    · cases hs
  | .str, t, fuel, cs, d, ps, hs, h => by
    simp only [Sh.ok] at hs
    split at hs
    · rename_i ht
      obtain ⟨b, rfl, hx, hw⟩ := DataW.trod_string ht h
      cases hx
      refine ⟨by simpa [Ty] using hw, rfl, rfl, fun i y u hy hu => ?_⟩
      match i, hy, hu with
      | 0, hy, hu => cases hy; cases hu; exact ⟨rfl, .val _ _⟩
    · cases hs
  | .sl e, t, fuel, cs, d, ps, hs, h => by
    simp only [Sh.ok] at hs
    split at hs
    · rename_i u ht
      simp only [Bool.and_eq_true, decide_eq_true_eq] at hs
      obtain ⟨⟨hC, hpos⟩, hok⟩ := hs
      rcases open_slice ht h with ⟨hcs, hx⟩ | ⟨a, len, cap, m, n', D, Pl, hcs, hb, hl, hm, hmm, hx, hi⟩
      · cases hx
        subst hcs
        refine ⟨by simp [Ty], rfl, rfl, fun i y u hy hu => ?_⟩
        match i, hy, hu with
        | 0, hy, hu =>
          cases hy; cases hu
          exact ⟨rfl, Rep.slice (S := S0 w) (w := w) (H := []) (A := none) (c := 0) (l := []) 0 0 _ (fun _ _ => undef) (by simp) (fun _ => rfl) (fun h => by simp at h) (fun i x hx => by simp at hx) (fun i x j y hx => by simp at hx) (fun i x j y hx => by simp at hx)⟩
      · cases hx
        subst hcs
        have hmc : m = cap := by simpa using hmm
        have el : ∀ i, i < len → ∃ cs', World.cells? w 0 (a.add (i * e.n)) e.n = some cs' ∧ Ty e (D i) ∧ cs'.length = e.n ∧ (dAV e (D i)).length = e.n ∧ ∀ (j : Nat) (y : AV) (v : Value), (dAV e (D i))[j]? = some y → cs'[j]? = some v → y.grCell = true ∧ Rep (S0 w) w [] v y := by
          intro i hil
          obtain ⟨cs', h1, h2⟩ := hi i (by omega)
          rw [hC] at h1
          exact ⟨cs', h1, rep_of e u n' cs' (D i) (Pl i) hok h2⟩
        have hty : ∀ x ∈ (List.range len).map D, Ty e x := fun x hx => by
          obtain ⟨i, hil, rfl⟩ := List.mem_map.1 hx
          exact (el i (List.mem_range.1 hil)).choose_spec.2.1
        refine ⟨by simp only [Ty]; exact ⟨by simp; omega, hty⟩, rfl, rfl, fun i y u hy hu => ?_⟩
        match i, hy, hu with
        | 0, hy, hu =>
          cases hy; cases hu
          refine ⟨rfl, ?_⟩
          have hlen : (((List.range len).map D).map fun x => e.mk (dAV e x)).length = len := by simp
          have key : ∀ (i : Nat) (x : AV), (((List.range len).map D).map fun x => e.mk (dAV e x))[i]? = some x → i < len ∧ x = e.mk (dAV e (D i)) := fun i x hx => by
            have hil : i < len := by have := (List.getElem?_eq_some_iff.1 hx).1; omega
            rw [List.getElem?_map, List.getElem?_map, List.getElem?_range hil] at hx
            simp only [Option.map_some, Option.some.injEq] at hx
            exact ⟨hil, hx.symm⟩
          by_cases hn : 0 < len
          · have hsp : ∃ b off, a = ⟨b, off, none⟩ ∧ b < w.heap.size := by
              obtain ⟨cs0, h0, -, hl0, -⟩ := el 0 hn
              obtain ⟨_, hl0', hat0⟩ := World.cells?_some h0
              have h00 := hat0 0 hpos
              have hlt : 0 < cs0.length := by omega
              rw [List.getElem?_eq_getElem hlt] at h00
              have hz : (a.add (0 * e.n)).add 0 = a := by simp [Addr.add]
              rw [hz] at h00
              obtain ⟨b, off, spot⟩ := a
              have : spot = none := World.cell?_spot h00
              subst this
              refine ⟨b, off, rfl, ?_⟩
              simp only [World.cell?] at h00
              split at h00
              · rename_i hh; exact (Array.getElem?_eq_some_iff.1 hh).1
              · cases h00
            obtain ⟨b, off, rfl, hlt⟩ := hsp
            have := Rep.slice (S := S0 w) (w := w) (H := []) (A := some ⟨b, off, none⟩) (c := cap) (l := (((List.range len).map D).map fun x => e.mk (dAV e x))) b off e.n (fun i j => if hil : i < len then ((el i hil).choose.getD j undef) else undef) (by omega) (fun h => by cases h) (fun _ => rfl)
              (fun i x hx => by
                obtain ⟨hil, rfl⟩ := key i x hx
                obtain ⟨h1, h2, h3, h4, h5⟩ := (el i hil).choose_spec
                rw [AV.ground, mk_cells h2]
                refine ⟨List.all_eq_true.2 fun y hy => ?_, h4⟩
                obtain ⟨j, hj, rfl⟩ := List.mem_iff_getElem.1 hy
                exact (h5 j _ _ (List.getElem?_eq_getElem hj) (List.getElem?_eq_getElem (by omega))).1)
              (fun i x j y hx hy => by
                obtain ⟨hil, rfl⟩ := key i x hx
                obtain ⟨h1, h2, h3, h4, h5⟩ := (el i hil).choose_spec
                rw [mk_cells h2] at hy
                have hj : j < e.n := by have := (List.getElem?_eq_some_iff.1 hy).1; omega
                refine ⟨?_, s0_of hlt _⟩
                obtain ⟨_, hl1, hat1⟩ := World.cells?_some h1
                have := hat1 j hj
                rw [dif_pos hil, List.getD_eq_getElem?_getD, List.getElem?_eq_getElem (by omega), Option.getD_some]
                rw [List.getElem?_eq_getElem (by omega)] at this
                exact (congrArg w.cell? (addr_add2 b off (i * e.n) j)).symm.trans this)
              (fun i x j y hx hy => by
                obtain ⟨hil, rfl⟩ := key i x hx
                obtain ⟨h1, h2, h3, h4, h5⟩ := (el i hil).choose_spec
                rw [mk_cells h2] at hy
                have hj : j < e.n := by have := (List.getElem?_eq_some_iff.1 hy).1; omega
                rw [dif_pos hil, List.getD_eq_getElem?_getD, List.getElem?_eq_getElem (by omega), Option.getD_some]
                exact (h5 j y _ hy (List.getElem?_eq_getElem (by omega))).2)
            rw [hlen] at this
            exact this
          · have hn0 : len = 0 := by omega
            subst hn0
            exact Rep.slice (S := S0 w) (w := w) (H := []) (A := some a) (c := cap) (l := []) 0 0 _ (fun _ _ => undef) (by simp) (fun h => by cases h) (fun h => by simp at h) (fun i x hx => by simp at hx) (fun i x j y hx => by simp at hx) (fun i x j y hx => by simp at hx)
    · cases hs
  | .st fs, t, fuel, cs, d, ps, hs, h => by
    simp only [Sh.ok] at hs
    split at hs
    · rename_i l ht
      simp only [Bool.and_eq_true, decide_eq_true_eq] at hs
      obtain ⟨xs, n, -, hx, hl, hxl, hf⟩ := DataW.trod_struct ht h
      cases hx
      obtain ⟨h1, h2, h3⟩ := rep_fields fs l.toList 0 n cs xs hs.2 (by simpa using hxl) (fun i f hi => hf i f (by simpa using hi))
      rw [hs.1] at hl
      refine ⟨by simpa [Ty] using h1, by simpa [Sh.n] using hl, by simpa [dAV, Sh.n] using h2, fun i y u hy hu => ?_⟩
      simp only [dAV] at hy
      exact h3 i y u hy (by simpa using hu)
    · rename_i n e ht
      simp only [Bool.and_eq_true, decide_eq_true_eq] at hs
      obtain ⟨xs, m, -, hx, hl, hxl, hf⟩ := DataW.trod_array ht h
      cases hx
      obtain ⟨h1, h2, h3⟩ := rep_items fs e 0 m cs xs hs.2 (by rw [hxl, hs.1.2]) (fun i hi => by
        have := hf i (by rw [← hs.1.2]; exact hi)
        simpa using this)
      rw [hs.1.1] at hl
      refine ⟨by simpa [Ty] using h1, by simpa [Sh.n] using hl, by simpa [dAV, Sh.n] using h2, fun i y u hy hu => ?_⟩
      simp only [dAV] at hy
      exact h3 i y u hy (by simpa using hu)
    · cases hs
theorem rep_fields : ∀ (fs : List Sh) (l : List Field) (o n : Nat) (cs : List Value) (xs : List (DataW H × List MemPlace)), Sh.okF Tryd.prog fs l o = true → xs.length = l.length →
    (∀ (i : Nat) (f : Field), l[i]? = some f → DataW.trod enc Tryd.prog w 0 (fun _ => true) true n f.type ((cs.drop f.offset).take (Tryd.prog.cellsOf f.type)) = xs[i]?) →
    Tys fs (xs.map (·.1)) ∧ (dAVs fs (xs.map (·.1))).length = Sh.ns fs ∧ ∀ (i : Nat) (y : AV) (u : Value), (dAVs fs (xs.map (·.1)))[i]? = some y → cs[o + i]? = some u → y.grCell = true ∧ Rep (S0 w) w [] u y
  | [], [], o, n, cs, xs, _, hx, _ => by
    obtain rfl : xs = [] := List.eq_nil_of_length_eq_zero hx
    exact ⟨by simp [Tys], rfl, fun i y u hy => by simp [dAVs] at hy⟩
  | [], _ :: _, o, n, cs, xs, hs, _, _ => by simp [Sh.okF] at hs
  | _ :: _, [], o, n, cs, xs, hs, _, _ => by simp [Sh.okF] at hs
  | s :: r, f :: l, o, n, cs, xs, hs, hx, hf => by
    simp only [Sh.okF, Bool.and_eq_true, decide_eq_true_eq] at hs
    obtain ⟨⟨⟨ho, hC⟩, hok⟩, hr⟩ := hs
    match xs, hx, hf with
    | x :: xs, hx, hf =>
      have h0 := hf 0 f rfl
      rw [ho, hC] at h0
      obtain ⟨a1, a2, a3, a4⟩ := rep_of s f.type n ((cs.drop o).take s.n) x.1 x.2 hok h0
      obtain ⟨b1, b2, b3⟩ := rep_fields r l (o + s.n) n cs xs hr (by simpa using hx) (fun i g hi => hf (i + 1) g hi)
      refine ⟨by simp only [List.map_cons, Tys]; exact ⟨a1, b1⟩, by simp only [List.map_cons, dAVs, Sh.ns, List.length_append, a3, b2], fun i y u hy hu => ?_⟩
      simp only [List.map_cons, dAVs] at hy
      by_cases hi : i < s.n
      · rw [List.getElem?_append_left (by omega)] at hy
        exact a4 i y u hy (drop_take_get hu hi)
      · rw [List.getElem?_append_right (by omega), a3] at hy
        exact b3 (i - s.n) y u hy (by rw [show o + s.n + (i - s.n) = o + i by omega]; exact hu)
theorem rep_items : ∀ (fs : List Sh) (e : TypeId) (k m : Nat) (cs : List Value) (xs : List (DataW H × List MemPlace)), Sh.okA Tryd.prog fs e = true → xs.length = fs.length →
    (∀ i, i < fs.length → DataW.trod enc Tryd.prog w 0 (fun _ => true) true m e ((cs.drop ((k + i) * Tryd.prog.cellsOf e)).take (Tryd.prog.cellsOf e)) = xs[i]?) →
    Tys fs (xs.map (·.1)) ∧ (dAVs fs (xs.map (·.1))).length = Sh.ns fs ∧ ∀ (i : Nat) (y : AV) (u : Value), (dAVs fs (xs.map (·.1)))[i]? = some y → cs[k * Tryd.prog.cellsOf e + i]? = some u → y.grCell = true ∧ Rep (S0 w) w [] u y
  | [], e, k, m, cs, xs, _, hx, _ => by
    obtain rfl : xs = [] := List.eq_nil_of_length_eq_zero hx
    exact ⟨by simp [Tys], rfl, fun i y u hy => by simp [dAVs] at hy⟩
  | s :: r, e, k, m, cs, xs, hs, hx, hf => by
    simp only [Sh.okA, Bool.and_eq_true, decide_eq_true_eq] at hs
    obtain ⟨⟨hC, hok⟩, hr⟩ := hs
    match xs, hx, hf with
    | x :: xs, hx, hf =>
      have h0 := hf 0 (by simp)
      rw [hC] at h0
      obtain ⟨a1, a2, a3, a4⟩ := rep_of s e m ((cs.drop ((k + 0) * s.n)).take s.n) x.1 x.2 hok h0
      obtain ⟨b1, b2, b3⟩ := rep_items r e (k + 1) m cs xs hr (by simpa using hx) (fun i hi => by
        have := hf (i + 1) (by simpa using hi)
        rw [show k + 1 + i = k + (i + 1) by omega]; simpa using this)
      refine ⟨by simp only [List.map_cons, Tys]; exact ⟨a1, b1⟩, by simp only [List.map_cons, dAVs, Sh.ns, List.length_append, a3, b2], fun i y u hy hu => ?_⟩
      simp only [List.map_cons, dAVs] at hy
      rw [hC] at hu b3
      by_cases hi : i < s.n
      · rw [List.getElem?_append_left (by omega)] at hy
        refine a4 i y u hy (drop_take_get ?_ hi)
        simpa using hu
      · rw [List.getElem?_append_right (by omega), a3] at hy
        refine b3 (i - s.n) y u hy ?_
        rw [show (k + 1) * s.n + (i - s.n) = k * s.n + i by rw [Nat.add_mul]; omega]; exact hu
end
theorem rep_arg {s : Sh} {t : TypeId} {v : Value} {d : DataW H} {p : List MemPlace} {b0 : Nat} (hs : s.ok Tryd.prog t = true) (hv : Value.okWide Tryd.prog w .any b0 t v)
    (h : DataW.Trod enc Tryd.prog w 0 (fun _ => true) true t v d p) : Ty s d ∧ Rep (S0 w) w [] v (s.mk (dAV s d)) := by
  obtain ⟨fuel, hf⟩ := h
  obtain ⟨h1, h2, h3, h4⟩ := rep_of s t fuel v.cells.toList d p hs hf
  refine ⟨h1, ?_⟩
  have one : ∀ x, dAV s d = [x] → v.cells = #[v] → s.mk (dAV s d) = x → Rep (S0 w) w [] v (s.mk (dAV s d)) := fun x hx hc hm => by
    rw [hm]
    exact (h4 0 x v (by rw [hx]; rfl) (by rw [hc]; rfl)).2
  cases s with
  | bool =>
    obtain ⟨b, rfl⟩ := Ty_bool h1
    simp only [Sh.ok] at hs
    split at hs
    · rename_i ht
      obtain ⟨b, rfl⟩ := okWide_bool ht hv
      exact one _ rfl rfl rfl
    · cases hs
  | int k =>
    obtain ⟨b, rfl, -⟩ := Ty_int h1
    simp only [Sh.ok] at hs
    split at hs
    · rename_i k' ht
      obtain ⟨b, rfl⟩ := okWide_int ht hv
      exact one _ rfl rfl rfl
    · cases hs
  | str =>
    obtain ⟨b, rfl, -⟩ := Ty_str h1
    simp only [Sh.ok] at hs
    split at hs
    · rename_i ht
      obtain ⟨b, rfl⟩ := okWide_string ht hv
      exact one _ rfl rfl rfl
    · cases hs
  | sl e =>
    simp only [Sh.ok] at hs
    split at hs
    · rename_i u ht
      obtain ⟨A, n, c, rfl⟩ := okWide_slice ht hv
      rcases Ty_sl h1 with rfl | ⟨elems, spare, rfl, -, -⟩
      · exact one (.slice e.n []) rfl rfl rfl
      · exact one _ (by simp only [dAV]; rfl) rfl (by simp only [dAV, Sh.mk]; rfl)
    · cases hs
  | st fs =>
    have hagg : ∃ cs : Array Value, v = .agg cs := by
      simp only [Sh.ok] at hs
      split at hs
      · rename_i l ht
        obtain ⟨cs, rfl, -⟩ := okWide_struct ht hv
        exact ⟨cs, rfl⟩
      · rename_i n e ht
        unfold Value.okWide at hv
        rw [ht] at hv
        obtain ⟨cs, rfl, -⟩ := hv
        exact ⟨cs, rfl⟩
      · cases hs
    obtain ⟨cs, rfl⟩ := hagg
    refine Rep.agg ?_ fun i y hy => ?_
    · simp only [Value.cells, Array.length_toList] at h2; rw [h2, h3]
    · have hi : i < cs.size := by
        have := (List.getElem?_eq_some_iff.1 hy).1
        simp only [Value.cells, Array.length_toList] at h2
        omega
      refine (h4 i y _ hy ?_).2
      simp only [Value.cells]
      rw [List.getElem?_eq_getElem (by simpa using hi)]
      simp [Array.getD, hi]
end
end Go.Proofs.YtckopgopbgicjaaDoor
end
section
namespace Go.Proofs.YtckopgopbgicjaaDoor
set_option linter.unusedVariables false
set_option linter.unusedSimpArgs false
open Go.RowKit Go.ChangeShapes Go.WideShapes Go.ChangeAt Go.Deep
section
variable {H : Type} {enc : TypeId × Value → H}
set_option maxRecDepth 100000 in
end
theorem laid_at {W : World} : ∀ {l : List (String × DataW Unit)} {ps : List MemPlace}, DataW.LaidVars Tryd.prog W l ps → ∀ {n : String} {d : DataW Unit}, (n, d) ∈ l →
    ∃ g t cs fuel p, Tryd.prog.globalNamed n = some g ∧ (Tryd.prog.globals[g]?).map (·.type) = some t ∧ W.var? Tryd.prog n = some cs ∧ DataW.trod (fun _ => ()) Tryd.prog W 0 (fun _ => true) false fuel t cs.toList = some (d, p)
  | [], ps, h, n, d, hm => by cases hm
  | (m, e) :: r, ps, h, n, d, hm => by
    obtain ⟨g, t, cs, fuel, p, q, h1, h2, h3, h4, h5, -⟩ := h
    rcases List.mem_cons.1 hm with q | q
    · cases q
      exact ⟨g, t, cs, fuel, p, h1, h2, h3, h4⟩
    · exact laid_at h5 q
theorem gr_ints {W : World} {laid : List (String × DataW Unit)} (hL : laidMet Tryd.prog laid W) {n : String} {g : Nat} {t e : TypeId} {k : IntKind} {zs : List Int} (hm : (n, Lib.tabData k zs) ∈ laid) (hn : Tryd.prog.globalNamed n = some g) (hty : (Tryd.prog.globals[g]?).map (·.type) = some t)
    {c : Nat} (ht : Tryd.prog.underlying t = some (.array c e)) (he : Tryd.prog.underlying e = some (.int k)) (hce : Tryd.prog.cellsOf e = 1) (hct : Tryd.prog.cellsOf t = c) :
    Rep (S0 W) W [] (.pointer (some ⟨g, 0, none⟩)) (.rptr (zs.map fun z => .val (.int k z))) ∧ ∀ o, (zs.map fun z => AV.val (.int k z)).length ≤ o → S0 W g o ∧ W.cell? ⟨g, o, none⟩ = none := by
  obtain ⟨ps, hV, -⟩ := hL
  obtain ⟨g', t', cs, fuel, p, h1, h2, h3, h4⟩ := laid_at hV hm
  obtain rfl := Option.some.inj (hn.symm.trans h1)
  obtain rfl := Option.some.inj (hty.symm.trans h2)
  have hcs := Lib.cells_of_tab ht he hce hct h4
  have hcs' : cs = (zs.map fun z => Value.int k z).toArray := by rw [← hcs]
  subst hcs'
  refine gr_of_var hn h3 (by simp) fun j y hy => ?_
  rw [List.getElem?_map, Option.map_eq_some_iff] at hy
  obtain ⟨z, hz, rfl⟩ := hy
  exact ⟨rfl, .int k z, by simp [hz], .val _ _⟩
end Go.Proofs.YtckopgopbgicjaaDoor
end
section
namespace Go.Proofs.YtckopgopbgicjaaDoor
set_option linter.unusedVariables false
set_option linter.unusedSimpArgs false
theorem take_succ_get {α : Type} {l : List α} {k : Nat} {x : α} (h : l[k]? = some x) : l.take (k + 1) = l.take k ++ [x] := by
 obtain ⟨hk, rfl⟩ := get_of h
 rw [List.take_succ_eq_append_getElem hk]
noncomputable def sameB {α : Type} (a b : α) : Bool := @decide (a = b) (Classical.propDecidable _)
end Go.Proofs.YtckopgopbgicjaaDoor
end
section
namespace Go.Proofs.YtckopgopbgicjaaDoor
set_option linter.unusedVariables false
set_option linter.unusedSimpArgs false
structure dig (c : UInt8) : Prop where
 lo : 48 ≤ c.toNat
 hi : c.toNat ≤ 57
theorem dig_iff {c : UInt8} : dig c ↔ 48 ≤ c.toNat ∧ c.toNat ≤ 57 := ⟨fun h => ⟨h.lo, h.hi⟩, fun h => ⟨h.1, h.2⟩⟩
instance (c : UInt8) : Decidable (dig c) := decidable_of_iff _ dig_iff.symm
def digsB (l : Bs) : Bool := decide (0 < l.length) && (decide (l.length ≤ 1) || decide (l[0]? ≠ some 48)) && decide (∀ c ∈ l, dig c)
def negB (l : Bs) : Bool := decide (l[0]? = some 45)
def numBody (l : Bs) : Bs := if negB l then l.drop 1 else l
def decB (l : Bs) : Bool := digsB (numBody l) && decide (l ≠ [45, 48])
def valF (a : Nat) (l : Bs) : Nat := l.foldl (fun a c => a * 10 + (c.toNat - 48)) a
def valD (l : Bs) : Nat := valF 0 l
def valI (l : Bs) : Int := if negB l then -(valD (numBody l) : Int) else valD (numBody l)
def numV (l : Bs) : Int := if decB l = true ∧ InI64 (valI l) then valI l else 0
def numE (l : Bs) : Int := if decB l = true then (if InI64 (valI l) then 0 else 9) else 1
theorem dd_small {u : Nat} (h : u < 10) : Lib.decDigits u = [UInt8.ofNat (48 + u)] := by rw [Lib.decDigits, dif_pos h]
theorem dd_big {u : Nat} (h : ¬ u < 10) : Lib.decDigits u = Lib.decDigits (u / 10) ++ [UInt8.ofNat (48 + u % 10)] := by rw [Lib.decDigits, dif_neg h]
theorem dd_pos (u : Nat) : 0 < (Lib.decDigits u).length := by rw [Lib.decDigits_length]; exact Lib.nDigits_pos u
theorem itoa_pos' {n : Int} (h : ¬ n < 0) : Lib.itoa n = Lib.decDigits n.natAbs := by rw [Lib.itoa, if_neg h]; congr 1; omega
theorem nd_le : ∀ (k u : Nat), 1 ≤ k → u < 10 ^ k → Lib.nDigits u ≤ k
 | 0, u, h, _ => by omega
 | k + 1, u, _, hu => by
  by_cases h1 : u < 10
  ·rw [Lib.nDigits_small h1]; omega
  ·rw [Lib.nDigits_big h1]
   have hk : 1 ≤ k := by
    rcases k with _ | k
    ·simp at hu; omega
    ·omega
   have := nd_le k (u / 10) hk (by rw [Nat.pow_succ] at hu; omega)
   omega
end Go.Proofs.YtckopgopbgicjaaDoor
end
section
namespace Go.Proofs.YtckopgopbgicjaaDoor
set_option linter.unusedVariables false
set_option linter.unusedSimpArgs false
def dgK : Nat → Nat → Bs
 | 0, _ => []
 | k + 1, n => dgK k (n / 10) ++ [UInt8.ofNat (48 + n % 10)]
theorem dgK_len : ∀ k n, (dgK k n).length = k
 | 0, _ => rfl
 | k + 1, n => by rw [dgK, List.length_append, dgK_len]; rfl
theorem dgK_front : ∀ k n, dgK (k + 1) n = UInt8.ofNat (48 + n / 10 ^ k % 10) :: dgK k n
 | 0, n => by simp [dgK]
 | k + 1, n => by
  rw [show dgK (k + 1 + 1) n = dgK (k + 1) (n / 10) ++ [UInt8.ofNat (48 + n % 10)] from rfl, dgK_front k (n / 10)]
  rw [show dgK (k + 1) n = dgK k (n / 10) ++ [UInt8.ofNat (48 + n % 10)] from rfl, Nat.div_div_eq_div_mul, Nat.pow_succ, Nat.mul_comm (10 ^ k) 10]
  rfl
theorem dec_dgK : ∀ k u, Lib.nDigits u = k → Lib.decDigits u = dgK k u
 | 0, u, h => by have := Lib.nDigits_pos u; omega
 | k + 1, u, h => by
  by_cases q : u < 10
  ·rw [Lib.nDigits_small q] at h
   obtain rfl : k = 0 := by omega
   rw [dd_small q, dgK, dgK, List.nil_append, Nat.mod_eq_of_lt q]
  ·rw [Lib.nDigits_big q] at h
   rw [dd_big q, dgK, dec_dgK k (u / 10) (by omega)]
def nK (m u : Nat) : Nat := max m (Lib.nDigits u)
def txK (m u : Nat) : Bs := dgK (nK m u) u
theorem nD_gt : ∀ i u, 10 ^ i ≤ u → i < Lib.nDigits u
 | 0, u, _ => Lib.nDigits_pos u
 | i + 1, u, h => by
  rw [Nat.pow_succ] at h
  have h1 : 0 < 10 ^ i := Nat.pow_pos (by decide)
  rw [Lib.nDigits_big (by omega)]
  have := nD_gt i (u / 10) (by omega)
  omega
theorem nK_more {m u i : Nat} (h : i < m ∨ 0 < u / 10 ^ i) : i + 1 ≤ nK m u := by
 unfold nK
 rcases h with h | h
 ·omega
 ·have : 10 ^ i ≤ u := by
   rcases Nat.lt_or_ge u (10 ^ i) with q | q
   ·rw [Nat.div_eq_of_lt q] at h; omega
   ·exact q
  have := nD_gt i u this
  omega
theorem nK_end {m u i : Nat} (hm : 1 ≤ m) (h1 : ¬ i < m) (h2 : ¬ 0 < u / 10 ^ i) (hi : i ≤ nK m u) : i = nK m u := by
 have h3 : u < 10 ^ i := by
  rcases Nat.lt_or_ge u (10 ^ i) with q | q
  ·exact q
  ·have := Nat.div_pos q (Nat.pow_pos (by decide : 0 < 10)); omega
 have := nd_le i u (by omega) h3
 unfold nK at *; omega
theorem txK_1 (u : Nat) : txK 1 u = Lib.decDigits u := by
 have := Lib.nDigits_pos u
 unfold txK nK
 rw [dec_dgK _ u rfl, show max 1 (Lib.nDigits u) = Lib.nDigits u by omega]
theorem txK_4 {f : Nat} (hf : f < 10000) : txK 4 f = (Lib.decDigits (10000 + f)).drop 1 := by
 have h5 : Lib.nDigits (10000 + f) = 5 := by
  have h1 := nd_le 5 (10000 + f) (by decide) (by rw [show 10 ^ 5 = 100000 by decide]; omega)
  have h2 := nD_gt 4 (10000 + f) (by rw [show 10 ^ 4 = 10000 by decide]; omega)
  omega
 have h4 := nd_le 4 f (by decide) (by rw [show 10 ^ 4 = 10000 by decide]; omega)
 rw [dec_dgK 5 _ h5, dgK_front]
 show dgK (nK 4 f) f = dgK 4 (10000 + f)
 rw [show nK 4 f = 4 by unfold nK; omega]
 simp only [dgK]
 rw [show f / 10 / 10 / 10 % 10 = (10000 + f) / 10 / 10 / 10 % 10 by omega, show f / 10 / 10 % 10 = (10000 + f) / 10 / 10 % 10 by omega, show f / 10 % 10 = (10000 + f) / 10 % 10 by omega, show f % 10 = (10000 + f) % 10 by omega]
def szK (t : Bs) : Nat → Nat
 | 0 => 0
 | k + 1 => if t[k]? = some 48 then szK t k else k + 1
theorem szK_le (t : Bs) : ∀ k, szK t k ≤ k
 | 0 => Nat.le_refl _
 | k + 1 => by have := szK_le t k; unfold szK; split <;> omega
theorem szK_pos (t : Bs) : ∀ k j, j < k → t[j]? ≠ some 48 → 0 < szK t k
 | 0, j, h, _ => by omega
 | k + 1, j, h, hj => by
  unfold szK
  split
  ·rename_i q
   have : j ≠ k := fun e => hj (e ▸ q)
   exact szK_pos t k j (by omega) hj
  ·omega
theorem szK_y {t : Bs} {k : Nat} (h : t[k]? = some 48) : szK t (k + 1) = szK t k := by
 rw [szK, if_pos h]
theorem szK_n {t : Bs} {k : Nat} (h : t[k]? ≠ some 48) : szK t (k + 1) = k + 1 := by
 rw [szK, if_neg h]
theorem szK_4 {f : Nat} (h0 : f ≠ 0) (hf : f < 10000) : 0 < szK (txK 4 f) (txK 4 f).length := by
 have h4 := nd_le 4 f (by decide) (by rw [show 10 ^ 4 = 10000 by decide]; omega)
 have e : txK 4 f = dgK 4 f := by unfold txK; rw [show nK 4 f = 4 by unfold nK; omega]
 rw [e, dgK_len]
 have c : ∀ d : Nat, d < 10 → d ≠ 0 → UInt8.ofNat (48 + d) ≠ 48 := fun d hd hn e => by
  have := congrArg UInt8.toNat e
  rw [UInt8.toNat_ofNat'] at this
  have h48 : (48 : UInt8).toNat = 48 := rfl
  rw [h48] at this; omega
 have g : dgK 4 f = [UInt8.ofNat (48 + f / 10 / 10 / 10 % 10), UInt8.ofNat (48 + f / 10 / 10 % 10), UInt8.ofNat (48 + f / 10 % 10), UInt8.ofNat (48 + f % 10)] := rfl
 rw [g]
 by_cases h1 : f % 10 = 0
 ·by_cases h2 : f / 10 % 10 = 0
  ·by_cases h3 : f / 10 / 10 % 10 = 0
   ·refine szK_pos _ 4 0 (by decide) ?_
    simp only [List.getElem?_cons_zero]
    exact fun q => c _ (by omega) (by omega) (Option.some.inj q)
   ·refine szK_pos _ 4 1 (by decide) ?_
    simp only [List.getElem?_cons_succ, List.getElem?_cons_zero]
    exact fun q => c _ (by omega) h3 (Option.some.inj q)
  ·refine szK_pos _ 4 2 (by decide) ?_
   simp only [List.getElem?_cons_succ, List.getElem?_cons_zero]
   exact fun q => c _ (by omega) h2 (Option.some.inj q)
 ·refine szK_pos _ 4 3 (by decide) ?_
  simp only [List.getElem?_cons_succ, List.getElem?_cons_zero]
  exact fun q => c _ (by omega) h1 (Option.some.inj q)
def clp (d : Int) : Int := if d < -10000000000000 then -10000000000000 else if 10000000000000 < d then 10000000000000 else d
theorem clp_bd (d : Int) : -10000000000000 ≤ clp d ∧ clp d ≤ 10000000000000 := by unfold clp; (repeat' split) <;> omega
theorem clp_clp (d : Int) : clp (clp d) = clp d := by
 have h := clp_bd d
 have g : ∀ x : Int, -10000000000000 ≤ x → x ≤ 10000000000000 → clp x = x := fun x h1 h2 => by
  unfold clp; rw [if_neg (by omega), if_neg (by omega)]
 exact g _ h.1 h.2
def frT (f : Nat) : Bs := (txK 4 f).take (szK (txK 4 f) (txK 4 f).length)
def absT (n : Nat) : Bs := Lib.decDigits (n / 10000) ++ (if n % 10000 = 0 then [] else 46 :: frT (n % 10000))
def decT (d : Int) : Bs := if clp d < 0 then 45 :: absT (clp d).natAbs else absT (clp d).natAbs
theorem dd_le9 {n : Nat} (h : n ≤ 10000000000000) : (Lib.decDigits (n / 10000)).length ≤ 10 := by
 rw [Lib.decDigits_length]
 exact nd_le 10 _ (by decide) (by rw [show 10 ^ 10 = 10000000000 by decide]; omega)
theorem frT_len {f : Nat} (hf : f < 10000) : (frT f).length ≤ 4 := by
 have h4 := nd_le 4 f (by decide) (by rw [show 10 ^ 4 = 10000 by decide]; omega)
 unfold frT
 rw [List.length_take]
 have : (txK 4 f).length = 4 := by unfold txK; rw [dgK_len]; unfold nK; omega
 omega
theorem decT_len (d : Int) : (decT d).length ≤ 20 := by
 have h := clp_bd d
 have h1 := dd_le9 (n := (clp d).natAbs) (by omega)
 have h2 := frT_len (f := (clp d).natAbs % 10000) (Nat.mod_lt _ (by decide))
 have h3 : (absT (clp d).natAbs).length ≤ 15 := by
  unfold absT
  rw [List.length_append]
  split
  ·simp only [List.length_nil]; omega
  ·simp only [List.length_cons]; omega
 unfold decT; split
 ·rw [List.length_cons]; omega
 ·omega
structure Vl where
 k : Int
 n : Int
 s : Bs
def encVl (v : Vl) : AV := .agg [intA v.k, intA v.n, strL v.s]
def vlT (v : Vl) : Bs := if v.k = 1 then decT v.n else if v.k = 2 ∨ v.k = 3 then v.s else []
end Go.Proofs.YtckopgopbgicjaaDoor
end
section
namespace Go.Proofs.YtckopgopbgicjaaDoor
set_option linter.unusedVariables false
set_option linter.unusedSimpArgs false
def MS : List Nat := [11, 12, 13, 16, 17, 18, 21, 24, 25, 29]
def ac3 : AFunc := AFunc.mk 1 11 [ARes.tmp 2 []] (ACode.seq (ACode.region [AOper.mk (some 2) (AOp.mov (Operand.const (Value.bool false))) none] [2]) (ACode.seq (ACode.join (ACode.region [AOper.mk (some 3) (AOp.mov (Operand.tmp 0)) none, AOper.mk (some 4) (AOp.call 4 [Operand.tmp 3]) none, AOper.mk (some 5) (AOp.mov (Operand.tmp 0)) none, AOper.mk (some 6) (AOp.call 5 [Operand.tmp 5]) none, AOper.mk (some 7) (AOp.bin BinOp.eql (Operand.tmp 4) (Operand.tmp 6)) none, AOper.mk (some 8) (AOp.mov (Operand.tmp 7)) none, AOper.mk (some 9) (AOp.call 6 []) (some (8, true)), AOper.mk (some 10) (AOp.pick (Operand.tmp 8) (Operand.tmp 9) (Operand.const (Value.bool false))) none, AOper.mk (some 2) (AOp.mov (Operand.tmp 10)) none] [0, 3, 4, 5, 6, 7, 8, 9, 10]) [2]) ACode.ret)) false
theorem comp3 : comp Tryd.prog MS 3 = some ac3 := by kernel_rfl
def lp4_1 : ACode := ACode.seq (ACode.region [AOper.mk (some 9) (AOp.bin BinOp.lss (Operand.tmp 8) (Operand.tmp 7)) none] []) (ACode.seq (ACode.cond (Operand.tmp 9) ACode.skip (ACode.exit 0)) (ACode.seq (ACode.join (ACode.block 1 (ACode.seq (ACode.region [AOper.mk (some 10) (AOp.iaddr 3 (Operand.tmp 6) (Operand.tmp 8)) none, AOper.mk (some 11) (AOp.load 3 true (Operand.tmp 10)) none, AOper.mk (some 5) (AOp.alloc 29 [Value.int IntKind.i64 (0 : Int), Value.int IntKind.i64 (0 : Int), Value.string (ByteArray.mk #[])]) none, AOper.mk none (AOp.store 3 (Operand.tmp 5) (Operand.tmp 11)) none] [10, 11]) (ACode.region [AOper.mk (some 12) (AOp.mov (Operand.tmp 3)) none, AOper.mk (some 13) (AOp.load 3 true (Operand.tmp 5)) none, AOper.mk (some 14) (AOp.call 7 [Operand.tmp 13]) none, AOper.mk (some 15) (AOp.bslice 1 false [Value.string (ByteArray.mk #[])] false 1 [(0, Operand.tmp 14)]) none, AOper.mk (some 16) (AOp.app 1 16 1 (Operand.tmp 12) (Operand.tmp 15)) none, AOper.mk (some 3) (AOp.mov (Operand.tmp 16)) none] [12, 5, 13, 14, 15, 16]))) [3, 6, 7, 8]) (ACode.region [AOper.mk (some 17) (AOp.bin BinOp.add (Operand.tmp 8) (Operand.const (Value.int IntKind.i64 (1 : Int)))) none, AOper.mk (some 8) (AOp.mov (Operand.tmp 17)) none] [17])))
def ac4 : AFunc := AFunc.mk 1 20 [ARes.tmp 2 []] (ACode.seq (ACode.region [AOper.mk (some 2) (AOp.mov (Operand.const (Value.string (ByteArray.mk #[])))) none] [2]) (ACode.seq (ACode.region [AOper.mk (some 3) (AOp.nilrow 1) none] []) (ACode.seq (ACode.seq (ACode.region [AOper.mk (some 6) (AOp.mov (Operand.tmp 0)) none, AOper.mk (some 7) (AOp.len (Operand.tmp 6)) none, AOper.mk (some 8) (AOp.mov (Operand.const (Value.int IntKind.i64 (0 : Int)))) none] [0]) (ACode.join (ACode.block 0 (ACode.loop lp4_1 [3, 6, 7, 8])) [3])) (ACode.seq (ACode.region [AOper.mk (some 18) (AOp.mov (Operand.tmp 3)) none, AOper.mk (some 19) (AOp.call 8 [Operand.tmp 18, Operand.const (Value.string (ByteArray.mk #[28]))]) none, AOper.mk (some 2) (AOp.mov (Operand.tmp 19)) none] [3, 18, 19]) ACode.ret)))) false
theorem comp4 : comp Tryd.prog MS 4 = some ac4 := by kernel_rfl
def lp5_1 : ACode := ACode.seq (ACode.join (ACode.seq (ACode.region [AOper.mk (some 5) (AOp.mov (Operand.tmp 4)) none, AOper.mk (some 6) (AOp.mov (Operand.tmp 0)) none, AOper.mk (some 7) (AOp.len (Operand.tmp 6)) none, AOper.mk (some 8) (AOp.bin BinOp.lss (Operand.tmp 5) (Operand.tmp 7)) none] [5, 6, 7]) (ACode.cond (Operand.tmp 8) ACode.skip (ACode.exit 0))) [0, 3, 4]) (ACode.seq (ACode.join (ACode.block 1 (ACode.seq (ACode.join (ACode.seq (ACode.region [AOper.mk (some 11) (AOp.mov (Operand.tmp 4)) none, AOper.mk (some 12) (AOp.bin BinOp.gtr (Operand.tmp 11) (Operand.const (Value.int IntKind.i64 (0 : Int)))) none] [11]) (ACode.join (ACode.cond (Operand.tmp 12) (ACode.region [AOper.mk (some 13) (AOp.mov (Operand.tmp 3)) none, AOper.mk (some 14) (AOp.bslice 1 true [Value.int IntKind.u8 (0 : Int)] false 1 [(0, Operand.const (Value.int IntKind.u8 (28 : Int)))]) none, AOper.mk (some 15) (AOp.b2s (Operand.tmp 14)) none, AOper.mk (some 16) (AOp.bin BinOp.add (Operand.tmp 13) (Operand.tmp 15)) none, AOper.mk (some 3) (AOp.mov (Operand.tmp 16)) none] [13, 14, 15, 16]) ACode.skip) [0, 3, 4])) [0, 3, 4]) (ACode.region [AOper.mk (some 17) (AOp.mov (Operand.tmp 3)) none, AOper.mk (some 18) (AOp.mov (Operand.tmp 0)) none, AOper.mk (some 19) (AOp.mov (Operand.tmp 4)) none, AOper.mk (some 20) (AOp.iaddr 3 (Operand.tmp 18) (Operand.tmp 19)) none, AOper.mk (some 21) (AOp.load 3 true (Operand.tmp 20)) none, AOper.mk (some 22) (AOp.call 9 [Operand.tmp 21]) none, AOper.mk (some 23) (AOp.bin BinOp.add (Operand.tmp 17) (Operand.tmp 22)) none, AOper.mk (some 3) (AOp.mov (Operand.tmp 23)) none] [17, 18, 19, 20, 21, 22, 23]))) [0, 3, 4]) (ACode.region [AOper.mk (some 9) (AOp.mov (Operand.tmp 4)) none, AOper.mk (some 10) (AOp.bin BinOp.add (Operand.tmp 9) (Operand.const (Value.int IntKind.i64 (1 : Int)))) none, AOper.mk (some 4) (AOp.mov (Operand.tmp 10)) none] [9, 10]))
def ac5 : AFunc := AFunc.mk 1 25 [ARes.tmp 2 []] (ACode.seq (ACode.region [AOper.mk (some 2) (AOp.mov (Operand.const (Value.string (ByteArray.mk #[])))) none] [2]) (ACode.seq (ACode.region [AOper.mk (some 3) (AOp.mov (Operand.const (Value.string (ByteArray.mk #[])))) none] []) (ACode.seq (ACode.seq (ACode.region [AOper.mk (some 4) (AOp.mov (Operand.const (Value.int IntKind.i64 (0 : Int)))) none] []) (ACode.join (ACode.block 0 (ACode.loop lp5_1 [0, 3, 4])) [3])) (ACode.seq (ACode.region [AOper.mk (some 24) (AOp.mov (Operand.tmp 3)) none, AOper.mk (some 2) (AOp.mov (Operand.tmp 24)) none] [3, 24]) ACode.ret)))) false
theorem comp5 : comp Tryd.prog MS 5 = some ac5 := by kernel_rfl
def ac7 : AFunc := AFunc.mk 1 16 [ARes.tmp 2 []] (ACode.seq (ACode.region [AOper.mk (some 1) (AOp.x (AOp2.bx 29 3 (Operand.tmp 0))) none, AOper.mk (some 2) (AOp.mov (Operand.const (Value.string (ByteArray.mk #[])))) none] [0, 2]) (ACode.seq (ACode.seq (ACode.region [AOper.mk (some 3) (AOp.faddr 0 (Operand.tmp 1)) none, AOper.mk (some 4) (AOp.load 1 false (Operand.tmp 3)) none] [3]) (ACode.join (ACode.block 0 (ACode.join (ACode.seq (ACode.region [AOper.mk (some 6) (AOp.bin BinOp.eql (Operand.tmp 4) (Operand.const (Value.int IntKind.i64 (1 : Int)))) none, AOper.mk (some 5) (AOp.mov (Operand.tmp 6)) none] [6]) (ACode.join (ACode.cond (Operand.tmp 5) (ACode.seq (ACode.region [AOper.mk (some 7) (AOp.faddr 1 (Operand.tmp 1)) none, AOper.mk (some 8) (AOp.load 1 false (Operand.tmp 7)) none, AOper.mk (some 9) (AOp.call 15 [Operand.tmp 8]) none, AOper.mk (some 10) (AOp.call 14 [Operand.tmp 9]) none, AOper.mk (some 2) (AOp.mov (Operand.tmp 10)) none] [1, 7, 8, 9, 10]) ACode.ret) (ACode.join (ACode.seq (ACode.join (ACode.seq (ACode.region [AOper.mk (some 12) (AOp.bin BinOp.eql (Operand.tmp 4) (Operand.const (Value.int IntKind.i64 (2 : Int)))) none, AOper.mk (some 11) (AOp.mov (Operand.tmp 12)) none] [12]) (ACode.join (ACode.cond (Operand.tmp 11) ACode.skip (ACode.region [AOper.mk (some 13) (AOp.bin BinOp.eql (Operand.tmp 4) (Operand.const (Value.int IntKind.i64 (3 : Int)))) none, AOper.mk (some 11) (AOp.mov (Operand.tmp 13)) none] [4, 13])) [1, 11])) [1, 11]) (ACode.join (ACode.cond (Operand.tmp 11) (ACode.seq (ACode.region [AOper.mk (some 14) (AOp.faddr 2 (Operand.tmp 1)) none, AOper.mk (some 15) (AOp.load 1 false (Operand.tmp 14)) none, AOper.mk (some 2) (AOp.mov (Operand.tmp 15)) none] [1, 14, 15]) ACode.ret) ACode.skip) [])) [1, 11])) [])) [])) [])) (ACode.seq (ACode.region [AOper.mk (some 2) (AOp.mov (Operand.const (Value.string (ByteArray.mk #[])))) none] []) ACode.ret))) false
theorem comp7 : comp Tryd.prog MS 7 = some ac7 := by kernel_rfl
def ac9 : AFunc := AFunc.mk 1 16 [ARes.tmp 2 []] (ACode.seq (ACode.region [AOper.mk (some 1) (AOp.x (AOp2.bx 29 3 (Operand.tmp 0))) none, AOper.mk (some 2) (AOp.mov (Operand.const (Value.string (ByteArray.mk #[])))) none] [0, 2]) (ACode.seq (ACode.seq (ACode.region [AOper.mk (some 3) (AOp.faddr 0 (Operand.tmp 1)) none, AOper.mk (some 4) (AOp.load 1 false (Operand.tmp 3)) none] [3]) (ACode.join (ACode.block 0 (ACode.join (ACode.seq (ACode.region [AOper.mk (some 6) (AOp.bin BinOp.eql (Operand.tmp 4) (Operand.const (Value.int IntKind.i64 (1 : Int)))) none, AOper.mk (some 5) (AOp.mov (Operand.tmp 6)) none] [6]) (ACode.join (ACode.cond (Operand.tmp 5) (ACode.seq (ACode.region [AOper.mk (some 7) (AOp.faddr 1 (Operand.tmp 1)) none, AOper.mk (some 8) (AOp.load 1 false (Operand.tmp 7)) none, AOper.mk (some 9) (AOp.call 20 [Operand.tmp 8]) none, AOper.mk (some 10) (AOp.call 19 [Operand.tmp 9]) none, AOper.mk (some 2) (AOp.mov (Operand.tmp 10)) none] [1, 7, 8, 9, 10]) ACode.ret) (ACode.join (ACode.seq (ACode.join (ACode.seq (ACode.region [AOper.mk (some 12) (AOp.bin BinOp.eql (Operand.tmp 4) (Operand.const (Value.int IntKind.i64 (2 : Int)))) none, AOper.mk (some 11) (AOp.mov (Operand.tmp 12)) none] [12]) (ACode.join (ACode.cond (Operand.tmp 11) ACode.skip (ACode.region [AOper.mk (some 13) (AOp.bin BinOp.eql (Operand.tmp 4) (Operand.const (Value.int IntKind.i64 (3 : Int)))) none, AOper.mk (some 11) (AOp.mov (Operand.tmp 13)) none] [4, 13])) [1, 11])) [1, 11]) (ACode.join (ACode.cond (Operand.tmp 11) (ACode.seq (ACode.region [AOper.mk (some 14) (AOp.faddr 2 (Operand.tmp 1)) none, AOper.mk (some 15) (AOp.load 1 false (Operand.tmp 14)) none, AOper.mk (some 2) (AOp.mov (Operand.tmp 15)) none] [1, 14, 15]) ACode.ret) ACode.skip) [])) [1, 11])) [])) [])) [])) (ACode.seq (ACode.region [AOper.mk (some 2) (AOp.mov (Operand.const (Value.string (ByteArray.mk #[])))) none] []) ACode.ret))) false
theorem comp9 : comp Tryd.prog MS 9 = some ac9 := by kernel_rfl
def lp14_1 : ACode := ACode.seq (ACode.join (ACode.seq (ACode.region [AOper.mk (some 27) (AOp.mov (Operand.tmp 6)) none, AOper.mk (some 28) (AOp.mov (Operand.tmp 6)) none, AOper.mk (some 29) (AOp.slen (Operand.tmp 28)) none, AOper.mk (some 30) (AOp.bin BinOp.sub (Operand.tmp 29) (Operand.const (Value.int IntKind.i64 (1 : Int)))) none, AOper.mk (some 31) (AOp.sidx (Operand.tmp 27) (Operand.tmp 30)) none, AOper.mk (some 32) (AOp.bin BinOp.eql (Operand.tmp 31) (Operand.const (Value.int IntKind.u8 (48 : Int)))) none] [27, 28, 29, 30, 31]) (ACode.cond (Operand.tmp 32) ACode.skip (ACode.exit 0))) [4, 6]) (ACode.join (ACode.block 1 (ACode.region [AOper.mk (some 33) (AOp.mov (Operand.tmp 6)) none, AOper.mk (some 34) (AOp.mov (Operand.tmp 6)) none, AOper.mk (some 35) (AOp.slen (Operand.tmp 34)) none, AOper.mk (some 36) (AOp.bin BinOp.sub (Operand.tmp 35) (Operand.const (Value.int IntKind.i64 (1 : Int)))) none, AOper.mk (some 37) (AOp.sslc (Operand.tmp 33) none (some (Operand.tmp 36))) none, AOper.mk (some 6) (AOp.mov (Operand.tmp 37)) none] [33, 34, 35, 36, 37])) [4, 6])
def ac14 : AFunc := AFunc.mk 1 42 [ARes.tmp 2 []] (ACode.seq (ACode.region [AOper.mk (some 2) (AOp.mov (Operand.const (Value.string (ByteArray.mk #[])))) none] [2]) (ACode.seq (ACode.region [AOper.mk (some 7) (AOp.mov (Operand.tmp 0)) none, AOper.mk (some 8) (AOp.call 22 [Operand.tmp 7]) none, AOper.mk (some 0) (AOp.mov (Operand.tmp 8)) none] [7, 8]) (ACode.seq (ACode.region [AOper.mk (some 3) (AOp.mov (Operand.const (Value.string (ByteArray.mk #[])))) none] []) (ACode.seq (ACode.join (ACode.seq (ACode.region [AOper.mk (some 9) (AOp.mov (Operand.tmp 0)) none, AOper.mk (some 10) (AOp.bin BinOp.lss (Operand.tmp 9) (Operand.const (Value.int IntKind.i64 (0 : Int)))) none] [9]) (ACode.join (ACode.cond (Operand.tmp 10) (ACode.region [AOper.mk (some 11) (AOp.mov (Operand.tmp 0)) none, AOper.mk (some 12) (AOp.un UnOp.neg (Operand.tmp 11)) none, AOper.mk (some 3) (AOp.mov (Operand.const (Value.string (ByteArray.mk #[45])))) none, AOper.mk (some 0) (AOp.mov (Operand.tmp 12)) none] [11, 12]) ACode.skip) [0, 3])) [0, 3]) (ACode.seq (ACode.region [AOper.mk (some 13) (AOp.mov (Operand.tmp 3)) none, AOper.mk (some 14) (AOp.mov (Operand.tmp 0)) none, AOper.mk (some 15) (AOp.bin BinOp.quo (Operand.tmp 14) (Operand.const (Value.int IntKind.i64 (10000 : Int)))) none, AOper.mk (some 16) (AOp.call 23 [Operand.tmp 15]) none, AOper.mk (some 17) (AOp.bin BinOp.add (Operand.tmp 13) (Operand.tmp 16)) none, AOper.mk (some 4) (AOp.mov (Operand.tmp 17)) none] [3, 13, 14, 15, 16, 17]) (ACode.seq (ACode.region [AOper.mk (some 18) (AOp.mov (Operand.tmp 0)) none, AOper.mk (some 19) (AOp.bin BinOp.rem (Operand.tmp 18) (Operand.const (Value.int IntKind.i64 (10000 : Int)))) none, AOper.mk (some 5) (AOp.mov (Operand.tmp 19)) none] [0, 18, 19]) (ACode.seq (ACode.join (ACode.seq (ACode.region [AOper.mk (some 20) (AOp.mov (Operand.tmp 5)) none, AOper.mk (some 21) (AOp.bin BinOp.eql (Operand.tmp 20) (Operand.const (Value.int IntKind.i64 (0 : Int)))) none] [20]) (ACode.join (ACode.cond (Operand.tmp 21) (ACode.seq (ACode.region [AOper.mk (some 22) (AOp.mov (Operand.tmp 4)) none, AOper.mk (some 2) (AOp.mov (Operand.tmp 22)) none] [4, 22]) ACode.ret) ACode.skip) [4, 5])) [4, 5]) (ACode.seq (ACode.region [AOper.mk (some 23) (AOp.mov (Operand.tmp 5)) none, AOper.mk (some 24) (AOp.bin BinOp.add (Operand.const (Value.int IntKind.i64 (10000 : Int))) (Operand.tmp 23)) none, AOper.mk (some 25) (AOp.call 23 [Operand.tmp 24]) none, AOper.mk (some 26) (AOp.sslc (Operand.tmp 25) (some (Operand.const (Value.int IntKind.i64 (1 : Int)))) none) none, AOper.mk (some 6) (AOp.mov (Operand.tmp 26)) none] [5, 23, 24, 25, 26]) (ACode.seq (ACode.join (ACode.block 0 (ACode.loop lp14_1 [4, 6])) [4, 6]) (ACode.seq (ACode.region [AOper.mk (some 38) (AOp.mov (Operand.tmp 4)) none, AOper.mk (some 39) (AOp.bin BinOp.add (Operand.tmp 38) (Operand.const (Value.string (ByteArray.mk #[46])))) none, AOper.mk (some 40) (AOp.mov (Operand.tmp 6)) none, AOper.mk (some 41) (AOp.bin BinOp.add (Operand.tmp 39) (Operand.tmp 40)) none, AOper.mk (some 2) (AOp.mov (Operand.tmp 41)) none] [4, 38, 39, 6, 40, 41]) ACode.ret)))))))))) false
theorem comp14 : comp Tryd.prog MS 14 = some ac14 := by kernel_rfl
def ac15 : AFunc := AFunc.mk 1 6 [ARes.tmp 2 []] (ACode.seq (ACode.region [AOper.mk (some 2) (AOp.mov (Operand.const (Value.int IntKind.i64 (0 : Int)))) none] [2]) (ACode.seq (ACode.region [AOper.mk (some 3) (AOp.mov (Operand.tmp 0)) none, AOper.mk (some 4) (AOp.mx (Operand.tmp 3) [Operand.const (Value.int IntKind.i64 (-10000000000000 : Int))]) none, AOper.mk (some 5) (AOp.mn (Operand.tmp 4) [Operand.const (Value.int IntKind.i64 (10000000000000 : Int))]) none, AOper.mk (some 2) (AOp.mov (Operand.tmp 5)) none] [0, 3, 4, 5]) ACode.ret)) false
theorem comp15 : comp Tryd.prog MS 15 = some ac15 := by kernel_rfl
def lp19_1 : ACode := ACode.seq (ACode.join (ACode.seq (ACode.region [AOper.mk (some 19) (AOp.mov (Operand.tmp 5)) none, AOper.mk (some 20) (AOp.mov (Operand.tmp 5)) none, AOper.mk (some 21) (AOp.slen (Operand.tmp 20)) none, AOper.mk (some 22) (AOp.bin BinOp.sub (Operand.tmp 21) (Operand.const (Value.int IntKind.i64 (1 : Int)))) none, AOper.mk (some 23) (AOp.sidx (Operand.tmp 19) (Operand.tmp 22)) none, AOper.mk (some 24) (AOp.bin BinOp.eql (Operand.tmp 23) (Operand.const (Value.int IntKind.u8 (48 : Int)))) none] [19, 20, 21, 22, 23]) (ACode.cond (Operand.tmp 24) ACode.skip (ACode.exit 0))) [0, 4, 5]) (ACode.join (ACode.block 1 (ACode.region [AOper.mk (some 25) (AOp.mov (Operand.tmp 5)) none, AOper.mk (some 26) (AOp.mov (Operand.tmp 5)) none, AOper.mk (some 27) (AOp.slen (Operand.tmp 26)) none, AOper.mk (some 28) (AOp.bin BinOp.sub (Operand.tmp 27) (Operand.const (Value.int IntKind.i64 (1 : Int)))) none, AOper.mk (some 29) (AOp.sslc (Operand.tmp 25) none (some (Operand.tmp 28))) none, AOper.mk (some 5) (AOp.mov (Operand.tmp 29)) none] [25, 26, 27, 28, 29])) [0, 4, 5])
def ac19 : AFunc := AFunc.mk 1 39 [ARes.tmp 2 []] (ACode.seq (ACode.region [AOper.mk (some 2) (AOp.mov (Operand.const (Value.string (ByteArray.mk #[])))) none] [2]) (ACode.seq (ACode.region [AOper.mk (some 6) (AOp.mov (Operand.tmp 0)) none, AOper.mk (some 7) (AOp.call 26 [Operand.tmp 6]) none, AOper.mk (some 0) (AOp.mov (Operand.tmp 7)) none] [6, 7]) (ACode.seq (ACode.region [AOper.mk (some 8) (AOp.mov (Operand.tmp 0)) none, AOper.mk (some 9) (AOp.call 27 [Operand.tmp 8]) none, AOper.mk (some 3) (AOp.mov (Operand.tmp 9)) none] [8, 9]) (ACode.seq (ACode.region [AOper.mk (some 10) (AOp.mov (Operand.tmp 3)) none, AOper.mk (some 11) (AOp.bin BinOp.quo (Operand.tmp 10) (Operand.const (Value.int IntKind.i64 (10000 : Int)))) none, AOper.mk (some 12) (AOp.call 28 [Operand.tmp 11, Operand.const (Value.int IntKind.i64 (1 : Int))]) none, AOper.mk (some 4) (AOp.mov (Operand.tmp 12)) none] [10, 11, 12]) (ACode.seq (ACode.join (ACode.seq (ACode.region [AOper.mk (some 13) (AOp.mov (Operand.tmp 3)) none, AOper.mk (some 14) (AOp.bin BinOp.rem (Operand.tmp 13) (Operand.const (Value.int IntKind.i64 (10000 : Int)))) none, AOper.mk (some 15) (AOp.bin BinOp.neq (Operand.tmp 14) (Operand.const (Value.int IntKind.i64 (0 : Int)))) none] [13, 14]) (ACode.join (ACode.cond (Operand.tmp 15) (ACode.seq (ACode.region [AOper.mk (some 16) (AOp.mov (Operand.tmp 3)) none, AOper.mk (some 17) (AOp.bin BinOp.rem (Operand.tmp 16) (Operand.const (Value.int IntKind.i64 (10000 : Int)))) none, AOper.mk (some 18) (AOp.call 28 [Operand.tmp 17, Operand.const (Value.int IntKind.i64 (4 : Int))]) none, AOper.mk (some 5) (AOp.mov (Operand.tmp 18)) none] [3, 16, 17, 18]) (ACode.seq (ACode.join (ACode.block 0 (ACode.loop lp19_1 [0, 4, 5])) [0, 4, 5]) (ACode.region [AOper.mk (some 30) (AOp.mov (Operand.tmp 4)) none, AOper.mk (some 31) (AOp.bin BinOp.add (Operand.tmp 30) (Operand.const (Value.string (ByteArray.mk #[46])))) none, AOper.mk (some 32) (AOp.mov (Operand.tmp 5)) none, AOper.mk (some 33) (AOp.bin BinOp.add (Operand.tmp 31) (Operand.tmp 32)) none, AOper.mk (some 4) (AOp.mov (Operand.tmp 33)) none] [30, 31, 5, 32, 33]))) ACode.skip) [0, 4])) [0, 4]) (ACode.seq (ACode.join (ACode.seq (ACode.region [AOper.mk (some 34) (AOp.mov (Operand.tmp 0)) none, AOper.mk (some 35) (AOp.bin BinOp.lss (Operand.tmp 34) (Operand.const (Value.int IntKind.i64 (0 : Int)))) none] [0, 34]) (ACode.join (ACode.cond (Operand.tmp 35) (ACode.seq (ACode.region [AOper.mk (some 36) (AOp.mov (Operand.tmp 4)) none, AOper.mk (some 37) (AOp.bin BinOp.add (Operand.const (Value.string (ByteArray.mk #[45]))) (Operand.tmp 36)) none, AOper.mk (some 2) (AOp.mov (Operand.tmp 37)) none] [4, 36, 37]) ACode.ret) ACode.skip) [4])) [4]) (ACode.seq (ACode.region [AOper.mk (some 38) (AOp.mov (Operand.tmp 4)) none, AOper.mk (some 2) (AOp.mov (Operand.tmp 38)) none] [4, 38]) ACode.ret))))))) false
theorem comp19 : comp Tryd.prog MS 19 = some ac19 := by kernel_rfl
def ac20 : AFunc := AFunc.mk 1 8 [ARes.tmp 2 []] (ACode.seq (ACode.region [AOper.mk (some 2) (AOp.mov (Operand.const (Value.int IntKind.i64 (0 : Int)))) none] [2]) (ACode.seq (ACode.join (ACode.seq (ACode.region [AOper.mk (some 3) (AOp.mov (Operand.tmp 0)) none, AOper.mk (some 4) (AOp.bin BinOp.gtr (Operand.tmp 3) (Operand.const (Value.int IntKind.i64 (10000000000000 : Int)))) none] [3]) (ACode.join (ACode.cond (Operand.tmp 4) (ACode.seq (ACode.region [AOper.mk (some 2) (AOp.mov (Operand.const (Value.int IntKind.i64 (10000000000000 : Int)))) none] []) ACode.ret) ACode.skip) [0])) [0]) (ACode.seq (ACode.join (ACode.seq (ACode.region [AOper.mk (some 5) (AOp.mov (Operand.tmp 0)) none, AOper.mk (some 6) (AOp.bin BinOp.lss (Operand.tmp 5) (Operand.const (Value.int IntKind.i64 (-10000000000000 : Int)))) none] [5]) (ACode.join (ACode.cond (Operand.tmp 6) (ACode.seq (ACode.region [AOper.mk (some 2) (AOp.mov (Operand.const (Value.int IntKind.i64 (-10000000000000 : Int)))) none] []) ACode.ret) ACode.skip) [0])) [0]) (ACode.seq (ACode.region [AOper.mk (some 7) (AOp.mov (Operand.tmp 0)) none, AOper.mk (some 2) (AOp.mov (Operand.tmp 7)) none] [0, 7]) ACode.ret)))) false
theorem comp20 : comp Tryd.prog MS 20 = some ac20 := by kernel_rfl
def ac22 : AFunc := AFunc.mk 1 6 [ARes.tmp 2 []] (ACode.seq (ACode.region [AOper.mk (some 2) (AOp.mov (Operand.const (Value.int IntKind.i64 (0 : Int)))) none] [2]) (ACode.seq (ACode.region [AOper.mk (some 3) (AOp.mov (Operand.tmp 0)) none, AOper.mk (some 4) (AOp.mn (Operand.const (Value.int IntKind.i64 (10000000000000 : Int))) [Operand.tmp 3]) none, AOper.mk (some 5) (AOp.mx (Operand.const (Value.int IntKind.i64 (-10000000000000 : Int))) [Operand.tmp 4]) none, AOper.mk (some 2) (AOp.mov (Operand.tmp 5)) none] [0, 3, 4, 5]) ACode.ret)) false
theorem comp22 : comp Tryd.prog MS 22 = some ac22 := by kernel_rfl
def ac23 : AFunc := AFunc.mk 1 5 [ARes.tmp 2 []] (ACode.seq (ACode.region [AOper.mk (some 2) (AOp.mov (Operand.const (Value.string (ByteArray.mk #[])))) none] [2]) (ACode.seq (ACode.region [AOper.mk (some 3) (AOp.mov (Operand.tmp 0)) none, AOper.mk (some 4) (AOp.call 30 [Operand.tmp 3]) none, AOper.mk (some 2) (AOp.mov (Operand.tmp 4)) none] [0, 3, 4]) ACode.ret)) false
theorem comp23 : comp Tryd.prog MS 23 = some ac23 := by kernel_rfl
def ac26 : AFunc := AFunc.mk 1 8 [ARes.tmp 2 []] (ACode.seq (ACode.region [AOper.mk (some 2) (AOp.mov (Operand.const (Value.int IntKind.i64 (0 : Int)))) none] [2]) (ACode.seq (ACode.join (ACode.seq (ACode.region [AOper.mk (some 3) (AOp.mov (Operand.tmp 0)) none, AOper.mk (some 4) (AOp.bin BinOp.lss (Operand.tmp 3) (Operand.const (Value.int IntKind.i64 (-10000000000000 : Int)))) none] [3]) (ACode.join (ACode.cond (Operand.tmp 4) (ACode.seq (ACode.region [AOper.mk (some 2) (AOp.mov (Operand.const (Value.int IntKind.i64 (-10000000000000 : Int)))) none] []) ACode.ret) ACode.skip) [0])) [0]) (ACode.seq (ACode.join (ACode.seq (ACode.region [AOper.mk (some 5) (AOp.mov (Operand.tmp 0)) none, AOper.mk (some 6) (AOp.bin BinOp.gtr (Operand.tmp 5) (Operand.const (Value.int IntKind.i64 (10000000000000 : Int)))) none] [5]) (ACode.join (ACode.cond (Operand.tmp 6) (ACode.seq (ACode.region [AOper.mk (some 2) (AOp.mov (Operand.const (Value.int IntKind.i64 (10000000000000 : Int)))) none] []) ACode.ret) ACode.skip) [0])) [0]) (ACode.seq (ACode.region [AOper.mk (some 7) (AOp.mov (Operand.tmp 0)) none, AOper.mk (some 2) (AOp.mov (Operand.tmp 7)) none] [0, 7]) ACode.ret)))) false
theorem comp26 : comp Tryd.prog MS 26 = some ac26 := by kernel_rfl
def ac27 : AFunc := AFunc.mk 1 8 [ARes.tmp 2 []] (ACode.seq (ACode.region [AOper.mk (some 2) (AOp.mov (Operand.const (Value.int IntKind.i64 (0 : Int)))) none] [2]) (ACode.seq (ACode.join (ACode.seq (ACode.region [AOper.mk (some 3) (AOp.mov (Operand.tmp 0)) none, AOper.mk (some 4) (AOp.bin BinOp.lss (Operand.tmp 3) (Operand.const (Value.int IntKind.i64 (0 : Int)))) none] [3]) (ACode.join (ACode.cond (Operand.tmp 4) (ACode.seq (ACode.region [AOper.mk (some 5) (AOp.mov (Operand.tmp 0)) none, AOper.mk (some 6) (AOp.un UnOp.neg (Operand.tmp 5)) none, AOper.mk (some 2) (AOp.mov (Operand.tmp 6)) none] [0, 5, 6]) ACode.ret) ACode.skip) [0])) [0]) (ACode.seq (ACode.region [AOper.mk (some 7) (AOp.mov (Operand.tmp 0)) none, AOper.mk (some 2) (AOp.mov (Operand.tmp 7)) none] [0, 7]) ACode.ret))) false
theorem comp27 : comp Tryd.prog MS 27 = some ac27 := by kernel_rfl
def lp28_1 : ACode := ACode.seq (ACode.join (ACode.seq (ACode.region [AOper.mk (some 7) (AOp.mov (Operand.tmp 6)) none, AOper.mk (some 8) (AOp.mov (Operand.tmp 1)) none, AOper.mk (some 9) (AOp.bin BinOp.lss (Operand.tmp 7) (Operand.tmp 8)) none, AOper.mk (some 10) (AOp.mov (Operand.tmp 9)) none, AOper.mk (some 11) (AOp.mov (Operand.tmp 0)) (some (10, false)), AOper.mk (some 12) (AOp.bin BinOp.gtr (Operand.tmp 11) (Operand.const (Value.int IntKind.i64 (0 : Int)))) (some (10, false)), AOper.mk (some 13) (AOp.pick (Operand.tmp 10) (Operand.const (Value.bool true)) (Operand.tmp 12)) none] [7, 8, 9, 10, 11, 12]) (ACode.cond (Operand.tmp 13) ACode.skip (ACode.exit 0))) [0, 1, 5, 6]) (ACode.seq (ACode.join (ACode.block 1 (ACode.seq (ACode.region [AOper.mk (some 16) (AOp.mov (Operand.tmp 0)) none, AOper.mk (some 17) (AOp.bin BinOp.rem (Operand.tmp 16) (Operand.const (Value.int IntKind.i64 (10 : Int)))) none, AOper.mk (some 18) (AOp.bin BinOp.add (Operand.const (Value.int IntKind.i64 (48 : Int))) (Operand.tmp 17)) none, AOper.mk (some 19) (AOp.cint IntKind.u8 (Operand.tmp 18)) none, AOper.mk (some 20) (AOp.bslice 1 true [Value.int IntKind.u8 (0 : Int)] false 1 [(0, Operand.tmp 19)]) none, AOper.mk (some 21) (AOp.b2s (Operand.tmp 20)) none, AOper.mk (some 22) (AOp.mov (Operand.tmp 5)) none, AOper.mk (some 23) (AOp.bin BinOp.add (Operand.tmp 21) (Operand.tmp 22)) none, AOper.mk (some 5) (AOp.mov (Operand.tmp 23)) none] [16, 17, 18, 19, 20, 21, 22, 23]) (ACode.region [AOper.mk (some 24) (AOp.mov (Operand.tmp 0)) none, AOper.mk (some 25) (AOp.bin BinOp.quo (Operand.tmp 24) (Operand.const (Value.int IntKind.i64 (10 : Int)))) none, AOper.mk (some 0) (AOp.mov (Operand.tmp 25)) none] [24, 25]))) [0, 1, 5, 6]) (ACode.region [AOper.mk (some 14) (AOp.mov (Operand.tmp 6)) none, AOper.mk (some 15) (AOp.bin BinOp.add (Operand.tmp 14) (Operand.const (Value.int IntKind.i64 (1 : Int)))) none, AOper.mk (some 6) (AOp.mov (Operand.tmp 15)) none] [14, 15]))
def ac28 : AFunc := AFunc.mk 2 27 [ARes.tmp 4 []] (ACode.seq (ACode.region [AOper.mk (some 4) (AOp.mov (Operand.const (Value.string (ByteArray.mk #[])))) none] [4]) (ACode.seq (ACode.region [AOper.mk (some 5) (AOp.mov (Operand.const (Value.string (ByteArray.mk #[])))) none] []) (ACode.seq (ACode.seq (ACode.region [AOper.mk (some 6) (AOp.mov (Operand.const (Value.int IntKind.i64 (0 : Int)))) none] []) (ACode.join (ACode.block 0 (ACode.loop lp28_1 [0, 1, 5, 6])) [5])) (ACode.seq (ACode.region [AOper.mk (some 26) (AOp.mov (Operand.tmp 5)) none, AOper.mk (some 4) (AOp.mov (Operand.tmp 26)) none] [5, 26]) ACode.ret)))) false
theorem comp28 : comp Tryd.prog MS 28 = some ac28 := by kernel_rfl
def FT : FuncId → Option AFunc
 | 3 => some ac3
 | 4 => some ac4
 | 5 => some ac5
 | 7 => some ac7
 | 9 => some ac9
 | 14 => some ac14
 | 15 => some ac15
 | 19 => some ac19
 | 20 => some ac20
 | 22 => some ac22
 | 23 => some ac23
 | 26 => some ac26
 | 27 => some ac27
 | 28 => some ac28
 | _ => none
theorem FT_ok : ∀ f af, FT f = some af → ∃ hn, compFunc Tryd.prog hn f = some af := by
 intro f af h
 unfold FT at h
 split at h
 ·injection h with h; subst h; exact comp_ok comp3
 ·injection h with h; subst h; exact comp_ok comp4
 ·injection h with h; subst h; exact comp_ok comp5
 ·injection h with h; subst h; exact comp_ok comp7
 ·injection h with h; subst h; exact comp_ok comp9
 ·injection h with h; subst h; exact comp_ok comp14
 ·injection h with h; subst h; exact comp_ok comp15
 ·injection h with h; subst h; exact comp_ok comp19
 ·injection h with h; subst h; exact comp_ok comp20
 ·injection h with h; subst h; exact comp_ok comp22
 ·injection h with h; subst h; exact comp_ok comp23
 ·injection h with h; subst h; exact comp_ok comp26
 ·injection h with h; subst h; exact comp_ok comp27
 ·injection h with h; subst h; exact comp_ok comp28
 ·cases h
end Go.Proofs.YtckopgopbgicjaaDoor
end
section
namespace Go.Proofs.YtckopgopbgicjaaDoor
set_option linter.unusedVariables false
set_option linter.unusedSimpArgs false
set_option maxRecDepth 100000
set_option maxHeartbeats 4000000
theorem jn_snoc {l : List Bs} (h : l ≠ []) (x sep : Bs) : Lib.join (l ++ [x]) sep = Lib.join l sep ++ sep ++ x := by
 cases l with
 | nil => exact absurd rfl h
 | cons y r =>
  rw [List.cons_append, Lib.join_cons, Lib.join_cons]
  simp [Lib.joinTail]
theorem jn_len (l : List Bs) (sep : Bs) : (Lib.join l sep).length ≤ Lib.lens l + sep.length * l.length := by
 cases l with
 | nil => simp [Lib.join_nil]
 | cons y r =>
  rw [Lib.join_length, List.length_cons, Nat.mul_succ]; omega
theorem jn_take (l : List Bs) (k : Nat) : (Lib.join (l.take k) [28]).length ≤ Lib.lens l + l.length := by
 have h1 := jn_len (l.take k) [28]
 have h2 := Lib.lens_take_le l k
 rw [List.length_take] at h1
 simp only [List.length_singleton] at h1
 omega
structure AjC (X : CallF) : Prop where
 itoa : ∀ n : Int, InI64 n → (R FT X).f 30 [intA n] = some (strL (Lib.itoa n))
 join : ∀ (l : List Bs) (sep : Bs), l.length ≤ 200000000 → (Lib.join l sep).length ≤ 140737488355328 → (R FT X).f 8 [.slice 1 (l.map strL), strL sep] = some (strL (Lib.join l sep))
 aw : (R FT X).f 6 [] = some (boolA true)
section
variable {T : Bs} {k : Nat} {c : UInt8}
structure ZI (T : Bs) (k : Nat) : Prop where
 le : k ≤ T.length
 eq : szK T k = szK T T.length
 po : 0 < szK T k
theorem ZI.len (h : ZI T k) : (T.take k).length = k ∧ 0 < k := by
 have := szK_le T k
 have := h.po
 have := h.le
 rw [List.length_take]; omega
theorem ZI.ix (h : ZI T k) (g : (T.take k)[(((T.take k).length : Int) - 1).toNat]? = some c) : T[k - 1]? = some c := by
 have l := h.len
 rw [l.1, show ((k : Int) - 1).toNat = k - 1 by omega, List.getElem?_take_of_lt (by omega)] at g
 exact g
theorem ZI.step (h : ZI T k) (g : (T.take k)[(((T.take k).length : Int) - 1).toNat]? = some c) (e : (c.toNat : Int) = 48) : (T.take k).take (((T.take k).length : Int) - 1).toNat = T.take (k - 1) ∧ ZI T (k - 1) ∧ k - 1 < k := by
 have l := h.len
 have x := h.ix g
 have c48 : c = 48 := UInt8.toNat_inj.1 (by rw [show (48 : UInt8).toNat = 48 from rfl]; omega)
 have y : szK T k = szK T (k - 1) := by
  conv => lhs; rw [show k = k - 1 + 1 by omega]
  rw [szK_y (c48 ▸ x)]
 refine ⟨?_, ⟨by have := h.le; omega, by rw [← y]; exact h.eq, by rw [← y]; exact h.po⟩, by omega⟩
 rw [l.1, show ((k : Int) - 1).toNat = k - 1 by omega, List.take_take, Nat.min_eq_left (by omega)]
theorem ZI.done (h : ZI T k) (g : (T.take k)[(((T.take k).length : Int) - 1).toNat]? = some c) (e : ¬ (c.toNat : Int) = 48) : T.take k = T.take (szK T T.length) := by
 have l := h.len
 have x := h.ix g
 have y : szK T k = k := by
  conv => lhs; rw [show k = k - 1 + 1 by omega]
  rw [szK_n (fun q => e (by rw [x] at q; rw [Option.some.inj q]; rfl))]; omega
 rw [← h.eq, y]
theorem ZI.start {f : Nat} (h0 : f ≠ 0) (hf : f < 10000) (hT : T = txK 4 f) : ZI T T.length := by
 subst hT
 exact ⟨Nat.le_refl _, rfl, szK_4 h0 hf⟩
end
theorem it_q {x : Int} {N : Nat} (h : x = N) : Lib.itoa (x / 10000) = Lib.decDigits (N / 10000) := by
 rw [show x / 10000 = ((N / 10000 : Nat) : Int) by omega, itoa_pos' (by omega)]; rfl
theorem it_f {x : Int} {N : Nat} (h : x = N) : Lib.itoa (10000 + x % 10000) = Lib.decDigits (10000 + N % 10000) := by
 rw [show 10000 + x % 10000 = ((10000 + N % 10000 : Nat) : Int) by omega, itoa_pos' (by omega)]; rfl
theorem decT_n {d : Int} (h : clp d < 0) : decT d = [45] ++ absT (clp d).natAbs := by unfold decT; rw [if_pos h]; rfl
theorem decT_p {d : Int} (h : ¬ clp d < 0) : decT d = absT (clp d).natAbs := by unfold decT; rw [if_neg h]
theorem absT_0 {n : Nat} (h : n % 10000 = 0) : absT n = Lib.decDigits (n / 10000) := by unfold absT; rw [if_pos h, List.append_nil]
theorem absT_f {n : Nat} (h : n % 10000 ≠ 0) : absT n = Lib.decDigits (n / 10000) ++ [46] ++ frT (n % 10000) := by unfold absT; rw [if_neg h]; simp
section
variable {X : CallF}
theorem near3_run (d : Int) (h : InI64 d) : (R FT X).f 22 [intA d] = some (intA (clp d)) := by
 refine R_wp (Tr.nil) rfl ?_
 refine Eq.mpr (by kernel_rfl : _ = ((if (if d < 10000000000000 then d else (10000000000000 : Int)) > (-10000000000000 : Int) then if d < 10000000000000 then d else (10000000000000 : Int) else (-10000000000000 : Int)) = clp d)) ?_
 refine ?_
 all_goals (unfold clp; (repeat' split) <;> omega)
theorem nearest_run (d : Int) (h : InI64 d) : (R FT X).f 15 [intA d] = some (intA (clp d)) := by
 refine R_wp (Tr.nil) rfl ?_
 refine Eq.mpr (by kernel_rfl : _ = ((if (10000000000000 : Int) < if (-10000000000000 : Int) > d then (-10000000000000 : Int) else d then (10000000000000 : Int) else if (-10000000000000 : Int) > d then (-10000000000000 : Int) else d) = clp d)) ?_
 refine ?_
 all_goals (unfold clp; (repeat' split) <;> omega)
theorem near42_run (d : Int) (h : InI64 d) : (R FT X).f 20 [intA d] = some (intA (clp d)) := by
 refine R_wp ((Tr.nil.br (Tr.nil.br Tr.nil).w.w).w.w) rfl ?_
 refine Eq.mpr (by kernel_rfl : _ = ((decide ((10000000000000 : Int) < d) = true → (10000000000000 : Int) = clp d) ∧ (decide ((10000000000000 : Int) < d) = false → (decide (d < (-10000000000000 : Int)) = true → (-10000000000000 : Int) = clp d) ∧ (decide (d < (-10000000000000 : Int)) = false → d = clp d)))) ?_
 refine ⟨fun h1_ => have h1 := dT h1_; ?_, fun h2_ => have h2 := dF h2_; ⟨fun h3_ => have h3 := dT h3_; ?_, fun h4_ => have h4 := dF h4_; ?_⟩⟩
 all_goals (unfold clp; (repeat' split) <;> omega)
theorem near02_run (d : Int) (h : InI64 d) : (R FT X).f 26 [intA d] = some (intA (clp d)) := by
 refine R_wp ((Tr.nil.br (Tr.nil.br Tr.nil).w.w).w.w) rfl ?_
 refine Eq.mpr (by kernel_rfl : _ = ((decide (d < (-10000000000000 : Int)) = true → (-10000000000000 : Int) = clp d) ∧ (decide (d < (-10000000000000 : Int)) = false → (decide ((10000000000000 : Int) < d) = true → (10000000000000 : Int) = clp d) ∧ (decide ((10000000000000 : Int) < d) = false → d = clp d)))) ?_
 refine ⟨fun h1_ => have h1 := dT h1_; ?_, fun h2_ => have h2 := dF h2_; ⟨fun h3_ => have h3 := dT h3_; ?_, fun h4_ => have h4 := dF h4_; ?_⟩⟩
 all_goals (unfold clp; (repeat' split) <;> omega)
theorem n_div (v : Nat) : (v : Int).tdiv 10 = ((v / 10 : Nat) : Int) := by
 rw [Int.tdiv_eq_ediv_of_nonneg (by omega)]; omega
theorem n_mod (v : Nat) : (v : Int).tmod 10 = (v : Int) % 10 := Int.tmod_eq_emod_of_nonneg (by omega)
theorem n_dg (v : Nat) {x : Int} (hx : x = (v : Int) % 10) : toU8 (48 + x) = UInt8.ofNat (48 + v % 10) := by
 rw [← toU8_nat]; congr 1; omega
theorem tx_div (u i : Nat) : ((u / 10 ^ i : Nat) : Int).tdiv 10 = ((u / 10 ^ (i + 1) : Nat) : Int) := by
 rw [n_div, Nat.pow_succ, ← Nat.div_div_eq_div_mul]
theorem tx_dg (u i : Nat) {x : Int} (hx : x = ((u / 10 ^ i : Nat) : Int) % 10) : [toU8 (48 + x)] ++ dgK i u = dgK (i + 1) u := by
 rw [dgK_front, List.singleton_append, n_dg _ hx]
theorem tx_mod (u i : Nat) : ((u / 10 ^ i : Nat) : Int).tmod 10 = ((u / 10 ^ i : Nat) : Int) % 10 := n_mod _
theorem tx_in {u i : Nat} (hu : u ≤ 100000000000000) : InI64 (((u / 10 ^ i : Nat) : Int).tdiv 10) := by
 have h : u / 10 ^ i ≤ u := Nat.div_le_self _ _
 generalize u / 10 ^ i = v at h
 rw [n_div]; unfold InI64; omega
theorem nK_le {u m : Nat} (hu : u ≤ 100000000000000) (hm : m ≤ 4) : nK m u ≤ 20 := by
 have := nd_le 20 u (by decide) (by rw [show 10 ^ 20 = 100000000000000000000 by decide]; omega)
 unfold nK; omega
theorem txt_run (u m : Nat) (hu : u ≤ 100000000000000) (hm : 1 ≤ m ∧ m ≤ 4) : (R FT X).f 28 [intA u, intA m] = some (strL (txK m u)) := by
 refine R_wp ((Tr.inv (fun (i : Nat) ↦ St.mk [(0, intA (↑(u / (10 : Nat) ^ i) : Int)), (1, intA (↑m : Int)), (5, strL (dgK i u)), (6, intA (↑i : Int))] []) (fun (i : Nat) ↦ i ≤ nK m u) (fun (i : Nat) ↦ nK m u - i) fun (i : Nat) ↦ ((Tr.b true (Tr.bs [toU8 ((48 : Int) + (↑(u / (10 : Nat) ^ i) : Int).tmod 10)] Tr.nil.w.w.w).w.w.w).br ((Tr.k 0 (Tr.bs [toU8 ((48 : Int) + (↑(u / (10 : Nat) ^ i) : Int) % (10 : Int))] Tr.nil.w.w.w).w).w.br Tr.nil)).w).w) rfl ?_
 refine Eq.mpr (by kernel_rfl : _ = ((∃ (j1 : Nat), (((↑u : Int) = (↑(u / (10 : Nat) ^ j1) : Int) ∧ (↑m : Int) = (↑m : Int) ∧ [] = dgK j1 u ∧ (0 : Int) = (↑j1 : Int) ∧ True) ∧ True) ∧ j1 ≤ nK m u) ∧ ∀ (i : Nat), i ≤ nK m u → (decide ((↑i : Int) < (↑m : Int)) = true → true = true ∧ (10 : Int) ≠ 0 ∧ InI64 ((48 : Int) + (↑(u / (10 : Nat) ^ i) : Int).tmod 10) ∧ (1 : Nat) = 1 ∧ some [UInt8.ofNat (↑(toU8 ((48 : Int) + (↑(u / (10 : Nat) ^ i) : Int).tmod 10)).toNat : Int).toNat] = some [toU8 ((48 : Int) + (↑(u / (10 : Nat) ^ i) : Int).tmod 10)] ∧ [toU8 ((48 : Int) + (↑(u / (10 : Nat) ^ i) : Int).tmod 10)].length + List.length (dgK i u) ≤ 9223372036854775807 ∧ (10 : Int) ≠ 0 ∧ InI64 ((↑(u / (10 : Nat) ^ i) : Int).tdiv 10) ∧ IntKind.i64 = IntKind.i64 ∧ InI64 ((↑i : Int) + 1) ∧ ∃ (j4 : Nat), (((↑(u / (10 : Nat) ^ i) : Int).tdiv 10 = (↑(u / (10 : Nat) ^ j4) : Int) ∧ (↑m : Int) = (↑m : Int) ∧ [toU8 ((48 : Int) + (↑(u / (10 : Nat) ^ i) : Int).tmod 10)] ++ dgK i u = dgK j4 u ∧ (↑i : Int) + 1 = (↑j4 : Int) ∧ True) ∧ True) ∧ j4 ≤ nK m u ∧ nK m u - j4 < nK m u - i) ∧ (decide ((↑i : Int) < (↑m : Int)) = false → (decide ((0 : Int) < (↑(u
 / (10 : Nat) ^ i) : Int)) = true → (0 : Int) ≤ (↑(u / (10 : Nat) ^ i) : Int) ∧ (0 : Int) < 10 ∧ InI64 ((48 : Int) + (↑(u / (10 : Nat) ^ i) : Int) % (10 : Int)) ∧ (1 : Nat) = 1 ∧ some [UInt8.ofNat (↑(toU8 ((48 : Int) + (↑(u / (10 : Nat) ^ i) : Int) % (10 : Int))).toNat : Int).toNat] = some [toU8 ((48 : Int) + (↑(u / (10 : Nat) ^ i) : Int) % (10 : Int))] ∧ [toU8 ((48 : Int) + (↑(u / (10 : Nat) ^ i) : Int) % (10 : Int))].length + List.length (dgK i u) ≤ 9223372036854775807 ∧ (10 : Int) ≠ 0 ∧ InI64 ((↑(u / (10 : Nat) ^ i) : Int).tdiv 10) ∧ IntKind.i64 = IntKind.i64 ∧ InI64 ((↑i : Int) + 1) ∧ ∃ (j7 : Nat), (((↑(u / (10 : Nat) ^ i) : Int).tdiv 10 = (↑(u / (10 : Nat) ^ j7) : Int) ∧ (↑m : Int) = (↑m : Int) ∧ [toU8 ((48 : Int) + (↑(u / (10 : Nat) ^ i) : Int) % (10 : Int))] ++ dgK i u = dgK j7 u ∧ (↑i : Int) + 1 = (↑j7 : Int) ∧ True) ∧ True) ∧ j7 ≤ nK m u ∧ nK m u - j7 < nK m u - i) ∧ (decide ((0 : Int) < (↑(u / (10 : Nat) ^ i) : Int)) = false → dgK i u = txK m u)))) ?_
 refine ⟨⟨(0 : Nat), ⟨⟨(by omega), rfl, rfl, (by omega), trivial⟩, trivial⟩, (by omega)⟩, fun i => fun h2 => ⟨fun h3_ => have h3 := dT h3_; ⟨rfl, (by omega), (by have := tdiv_lit ((↑(u / (10 : Nat) ^ i) : Int)) 10 (by decide); unfold InI64; omega), rfl, (by simp), ?_, (by omega), ?_, rfl, (by unfold InI64; omega), ⟨i + (1 : Nat), ⟨⟨?_, rfl, ?_, (by omega), trivial⟩, trivial⟩, ⟨?_, ?_⟩⟩⟩, fun h5_ => have h5 := dF h5_; ⟨fun h6_ => have h6 := dT h6_; ⟨(by omega), (by omega), (by unfold InI64; omega), rfl, (by simp), ?_, (by omega), ?_, rfl, ?_, ⟨i + (1 : Nat), ⟨⟨?_, rfl, ?_, (by omega), trivial⟩, trivial⟩, ⟨?_, ?_⟩⟩⟩, fun h8_ => have h8 := dF h8_; ?_⟩⟩⟩
 all_goals have kk := nK_le hu hm.2
 all_goals have l1 := dgK_len i u
 all_goals first
  | (simp only [List.length_singleton]; omega)
  | exact tx_in hu
  | exact tx_div u i
  | exact tx_dg u i (tx_mod u i)
  | exact tx_dg u i rfl
  | exact nK_more (Or.inl (by omega))
  | exact nK_more (Or.inr (by exact Int.ofNat_lt.1 h6))
  | (have := nK_more (m := m) (u := u) (i := i) (Or.inl (by omega)); omega)
  | (have := nK_more (m := m) (u := u) (i := i) (Or.inr (Int.ofNat_lt.1 h6)); omega)
  | (unfold InI64; omega)
  | (have e := nK_end hm.1 (by omega) (fun q => h8 (Int.ofNat_lt.2 q)) h2; unfold txK; rw [← e]; done)
theorem fmt_run (hX : AjC X) (n : Int) (h : InI64 n) : (R FT X).f 23 [intA n] = some (strL (Lib.itoa n)) := by
 have hi := hX.itoa
 refine R_wp (Tr.c (strL (Lib.itoa n)) Tr.nil) rfl ?_
 refine Eq.mpr (by kernel_rfl : _ = ((R FT X).f 30 [intA n] = some (strL (Lib.itoa n)) ∧ Lib.itoa n = Lib.itoa n)) ?_
 refine ⟨(hi _ h), rfl⟩
theorem size_run (n : Int) (h : -10000000000000 ≤ n ∧ n ≤ 10000000000000) : (R FT X).f 27 [intA n] = some (intA (n.natAbs : Int)) := by
 refine R_wp ((Tr.nil.w.br Tr.nil).w.w) rfl ?_
 refine Eq.mpr (by kernel_rfl : _ = ((decide (n < 0) = true → InI64 ((0 : Int) - n) ∧ (0 : Int) - n = (↑n.natAbs : Int)) ∧ (decide (n < 0) = false → n = (↑n.natAbs : Int)))) ?_
 refine ⟨fun h1_ => have h1 := dT h1_; ⟨(by unfold InI64; omega), (by omega)⟩, fun h2_ => have h2 := dF h2_; (by omega)⟩
 all_goals omega
theorem dec3_run (hX : AjC X) (d : Int) (h : InI64 d) : (R FT X).f 14 [intA d] = some (strL (decT d)) := by
  have hm := maxLen_le
  have hi := fun n h => fmt_run hX n h
  have nr := near3_run (X := X) d h
  have cb := clp_bd d
  obtain ⟨S, hS⟩ : ∃ S, S = (if clp d < 0 then [45] else []) ++ Lib.decDigits ((clp d).natAbs / 10000) := ⟨_, rfl⟩
  obtain ⟨T, hT⟩ : ∃ T, T = txK 4 ((clp d).natAbs % 10000) := ⟨_, rfl⟩
  have hSl : S.length ≤ 12 := by rw [hS]; have := dd_le9 (n := (clp d).natAbs) (by omega); rw [List.length_append]; split <;> (simp; omega)
  have hTl : T.length = 4 := by
    have h4 := nd_le 4 ((clp d).natAbs % 10000) (by decide) (by rw [show 10 ^ 4 = 10000 by decide]; omega)
    rw [hT, txK, dgK_len, nK]; omega
  have dq := dd_le9 (n := (clp d).natAbs) (by omega)
  have q1 := fun (h : clp d < 0) => it_q (x := 0 - clp d) (N := (clp d).natAbs) (by omega)
  have q2 := fun (h : ¬ clp d < 0) => it_q (x := clp d) (N := (clp d).natAbs) (by omega)
  have f1 := fun (h : clp d < 0) => it_f (x := 0 - clp d) (N := (clp d).natAbs) (by omega)
  have f2 := fun (h : ¬ clp d < 0) => it_f (x := clp d) (N := (clp d).natAbs) (by omega)
  have p0 := fun (u : Nat) => dd_pos u
  have hT' : (Lib.decDigits (10000 + (clp d).natAbs % 10000)).drop 1 = T := by rw [hT, txK_4 (by omega)]
  refine R_wp (Tr.c (intA (clp d)) ((Tr.k 0 (Tr.c (strL (Lib.itoa (((0 : Int) - clp d) / (10000 : Int)))) (Tr.k 0 (Tr.nil.br (Tr.c (strL (Lib.itoa ((10000 : Int) + ((0 : Int) - clp d) % (10000 : Int)))) (Tr.sl (1 : Nat) (Lib.itoa ((10000 : Int) + ((0 : Int) - clp d) % (10000 : Int))).length (Tr.inv (fun (k : Nat) ↦ St.mk [(4, strL S), (6, strL (List.take k T))] []) (fun (k : Nat) ↦ ZI T k) (fun (k : Nat) ↦ k) fun (k : Nat) ↦ (Tr.y ((↑(List.take k T).length : Int) - 1).toNat fun (c6 : UInt8) ↦ (Tr.sl (0 : Nat) ((↑(List.take k T).length : Int) - 1).toNat Tr.nil).w.w.br Tr.nil.w.w).w.w).w)).w).w.w).w)).w.br (Tr.k 0 (Tr.c (strL (Lib.itoa (clp d / (10000 : Int)))) (Tr.k 0 (Tr.nil.br (Tr.c (strL (Lib.itoa ((10000 : Int) + clp d % (10000 : Int)))) (Tr.sl (1 : Nat) (Lib.itoa ((10000 : Int) + clp d % (10000 : Int))).length (Tr.inv (fun (k : Nat) ↦ St.mk [(4, strL S), (6, strL (List.take k T))] []) (fun (k : Nat) ↦ ZI T k) (fun (k : Nat) ↦ k) fun (k : Nat) ↦ (Tr.y ((↑(List.take k T).length : Int) - 1).toNat fun (c16 : UInt8) ↦ (Tr.sl (0 : Nat) ((↑(List.take k T).length : Int) - 1).toNat Tr.nil).w.w.br Tr.nil.w.w).w.w).w)).w).w.w).w))).w.w) rfl ?_
  refine Eq.mpr (by kernel_rfl : _ = ((R FT X).f 22 [intA d] = some (intA (clp d)) ∧ (decide (clp d < 0) = true → InI64 ((0 : Int) - clp d) ∧ (0 : Int) ≤ 0 - clp d ∧ (0 : Int) < 10000 ∧ (0 : Int) - clp d ≤ 9223372036854775807 ∧ (R FT X).f 23 [intA (((0 : Int) - clp d) / (10000 : Int))] = some (strL (Lib.itoa (((0 : Int) - clp d) / (10000 : Int)))) ∧ [(45 : UInt8)].length + (Lib.itoa (((0 : Int) - clp d) / (10000 : Int))).length ≤ 9223372036854775807 ∧ (0 : Int) ≤ 0 - clp d ∧ (0 : Int) < 10000 ∧ (decide (((0 : Int) - clp d) % (10000 : Int) = 0) = true → [(45 : UInt8)] ++ Lib.itoa (((0 : Int) - clp d) / (10000 : Int)) = decT d) ∧ (decide (((0 : Int) - clp d) % (10000 : Int) = 0) = false → InI64 ((10000 : Int) + ((0 : Int) - clp d) % (10000 : Int)) ∧ (R FT X).f 23 [intA ((10000 : Int) + ((0 : Int) - clp d) % (10000 : Int))] = some (strL (Lib.itoa ((10000 : Int) + ((0 : Int) - clp d) % (10000 : Int)))) ∧ (1 : Int) = 1 ∧ (↑(Lib.itoa ((10000 : Int) + ((0 : Int) - clp d) % (10000 : Int))).length : Int) = (↑(Lib.itoa ((10000 : Int) + ((0 : Int) - clp d) % (10000 : Int))).length : Int) ∧ (1 : Nat) ≤ (Lib.itoa ((10000
  : Int) + ((0 : Int) - clp d) % (10000 : Int))).length ∧ (Lib.itoa ((10000 : Int) + ((0 : Int) - clp d) % (10000 : Int))).length ≤ (Lib.itoa ((10000 : Int) + ((0 : Int) - clp d) % (10000 : Int))).length ∧ (∃ (j4 : Nat), (([(45 : UInt8)] ++ Lib.itoa (((0 : Int) - clp d) / (10000 : Int)) = S ∧ List.drop (1 : Nat) (List.take (Lib.itoa ((10000 : Int) + ((0 : Int) - clp d) % (10000 : Int))).length (Lib.itoa ((10000 : Int) + ((0 : Int) - clp d) % (10000 : Int)))) = List.take j4 T ∧ True) ∧ True) ∧ ZI T j4) ∧ ∀ (k : Nat), ZI T k → InI64 ((↑(List.take k T).length : Int) - 1) ∧ (↑(List.take k T).length : Int) - 1 = (↑((↑(List.take k T).length : Int) - 1).toNat : Int) ∧ ((↑(List.take k T).length : Int) - 1).toNat < (List.take k T).length ∧ ∀ (c6 : UInt8), (List.take k T)[((↑(List.take k T).length : Int) - 1).toNat]? = some c6 → (decide ((↑c6.toNat : Int) = 48) = true → InI64 ((↑(List.take k T).length : Int) - 1) ∧ (0 : Int) = 0 ∧ (↑(List.take k T).length : Int) - 1 = (↑((↑(List.take k T).length : Int) - 1).toNat : Int) ∧ (0 : Nat) ≤ ((↑(List.take k T).length : Int) - 1).toNat ∧ ((↑(List.take k T).length : Int)
  - (1 : Int)).toNat ≤ (List.take k T).length ∧ ∃ (j9 : Nat), ((S = S ∧ List.drop (0 : Nat) (List.take ((↑(List.take k T).length : Int) - 1).toNat (List.take k T)) = List.take j9 T ∧ True) ∧ True) ∧ ZI T j9 ∧ j9 < k) ∧ (decide ((↑c6.toNat : Int) = 48) = false → S.length + [(46 : UInt8)].length ≤ 9223372036854775807 ∧ List.length (S ++ [(46 : UInt8)]) + (List.take k T).length ≤ 9223372036854775807 ∧ S ++ [(46 : UInt8)] ++ List.take k T = decT d))) ∧ (decide (clp d < 0) = false → (0 : Int) ≤ clp d ∧ (0 : Int) < 10000 ∧ clp d ≤ 9223372036854775807 ∧ (R FT X).f 23 [intA (clp d / (10000 : Int))] = some (strL (Lib.itoa (clp d / (10000 : Int)))) ∧ (@List.nil UInt8).length + (Lib.itoa (clp d / (10000 : Int))).length ≤ 9223372036854775807 ∧ (0 : Int) ≤ clp d ∧ (0 : Int) < 10000 ∧ (decide (clp d % (10000 : Int) = 0) = true → [] ++ Lib.itoa (clp d / (10000 : Int)) = decT d) ∧ (decide (clp d % (10000 : Int) = 0) = false → InI64 ((10000 : Int) + clp d % (10000 : Int)) ∧ (R FT X).f 23 [intA ((10000 : Int) + clp d % (10000 : Int))] = some (strL (Lib.itoa ((10000 : Int) + clp d % (10000 : Int))))
  ∧ (1 : Int) = 1 ∧ (↑(Lib.itoa ((10000 : Int) + clp d % (10000 : Int))).length : Int) = (↑(Lib.itoa ((10000 : Int) + clp d % (10000 : Int))).length : Int) ∧ (1 : Nat) ≤ (Lib.itoa ((10000 : Int) + clp d % (10000 : Int))).length ∧ (Lib.itoa ((10000 : Int) + clp d % (10000 : Int))).length ≤ (Lib.itoa ((10000 : Int) + clp d % (10000 : Int))).length ∧ (∃ (j14 : Nat), (([] ++ Lib.itoa (clp d / (10000 : Int)) = S ∧ List.drop (1 : Nat) (List.take (Lib.itoa ((10000 : Int) + clp d % (10000 : Int))).length (Lib.itoa ((10000 : Int) + clp d % (10000 : Int)))) = List.take j14 T ∧ True) ∧ True) ∧ ZI T j14) ∧ ∀ (k : Nat), ZI T k → InI64 ((↑(List.take k T).length : Int) - 1) ∧ (↑(List.take k T).length : Int) - 1 = (↑((↑(List.take k T).length : Int) - 1).toNat : Int) ∧ ((↑(List.take k T).length : Int) - 1).toNat < (List.take k T).length ∧ ∀ (c16 : UInt8), (List.take k T)[((↑(List.take k T).length : Int) - 1).toNat]? = some c16 → (decide ((↑c16.toNat : Int) = 48) = true → InI64 ((↑(List.take k T).length : Int) - 1) ∧ (0 : Int) = 0 ∧ (↑(List.take k T).length : Int) - 1 = (↑((↑(List.take k T).length : Int) - 1).toNat
  : Int) ∧ (0 : Nat) ≤ ((↑(List.take k T).length : Int) - 1).toNat ∧ ((↑(List.take k T).length : Int) - 1).toNat ≤ (List.take k T).length ∧ ∃ (j19 : Nat), ((S = S ∧ List.drop (0 : Nat) (List.take ((↑(List.take k T).length : Int) - 1).toNat (List.take k T)) = List.take j19 T ∧ True) ∧ True) ∧ ZI T j19 ∧ j19 < k) ∧ (decide ((↑c16.toNat : Int) = 48) = false → S.length + [(46 : UInt8)].length ≤ 9223372036854775807 ∧ List.length (S ++ [(46 : UInt8)]) + (List.take k T).length ≤ 9223372036854775807 ∧ S ++ [(46 : UInt8)] ++ List.take k T = decT d))))) ?_
  refine ⟨(nr), fun h1_ => have h1 := dT h1_; ⟨(by unfold InI64; omega), (by omega), (by omega), (by omega), (hi _ (by exact (by unfold InI64; omega))), ?_, (by omega), (by omega), fun h2_ => have h2 := dT h2_; ?_, fun h3_ => have h3 := dF h3_; ⟨(by unfold InI64; omega), (hi _ (by exact (by unfold InI64; omega))), rfl, rfl, ?_, (by omega), ?_, fun k => fun h5 => ⟨?_, ?_, ?_, fun c6 => fun h7 => ⟨fun h8_ => have h8 := dT h8_; ⟨?_, rfl, ?_, (by omega), (by omega), ?_⟩, fun h10_ => have h10 := dF h10_; ⟨(by simp; omega), (by simp; omega), ?_⟩⟩⟩⟩⟩, fun h11_ => have h11 := dF h11_; ⟨(by omega), (by omega), (by omega), (hi _ (by exact (by unfold InI64; omega))), ?_, (by omega), (by omega), fun h12_ => have h12 := dT h12_; ?_, fun h13_ => have h13 := dF h13_; ⟨(by unfold InI64; omega), (hi _ (by exact (by unfold InI64; omega))), rfl, rfl, ?_, (by omega), ?_, fun k => fun h15 => ⟨?_, ?_, ?_, fun c16 => fun h17 => ⟨fun h18_ => have h18 := dT h18_; ⟨?_, rfl, ?_, (by omega), (by omega), ?_⟩, fun h20_ => have h20 := dF h20_; ⟨(by simp; omega), (by simp; omega), ?_⟩⟩⟩⟩⟩⟩
  all_goals first
    | (have z : ZI T k := by assumption
       have l := z.len
       have le := z.le
       unfold InI64; omega)
    | (have z : ZI T k := by assumption
       have l := z.len
       omega)
    | (have z : ZI T k := by assumption
       have st := z.step (by assumption) (by assumption)
       exact ⟨k - 1, ⟨⟨rfl, by rw [List.drop_zero]; exact st.1, trivial⟩, trivial⟩, st.2⟩)
    | (have z : ZI T k := by assumption
       have st := z.step (by assumption) (by assumption)
       exact ⟨k - 1, ⟨⟨rfl, rfl, by rw [List.drop_zero]; exact st.1, trivial⟩, trivial⟩, st.2⟩)
    | (simp only [List.length_append, List.length_cons, List.length_nil, List.length_take]; omega)
    | (rw [q1 (by assumption)]; simp only [List.length_append, List.length_cons, List.length_nil]; omega)
    | (rw [q2 (by assumption)]; simp only [List.length_append, List.length_cons, List.length_nil]; omega)
    | (rw [f1 (by assumption)]; exact p0 _)
    | (rw [f2 (by assumption)]; exact p0 _)
    | (rw [q1 (by assumption), decT_n (by assumption), absT_0 (by omega)]; done)
    | (rw [q2 (by assumption), decT_p (by assumption), absT_0 (by omega)]; rfl)
    | (rw [q1 (by assumption), f1 (by assumption)]; exact ⟨T.length, ⟨⟨by rw [hS, if_pos (by assumption)], by rw [List.take_length, List.take_length, hT'], trivial⟩, trivial⟩, ZI.start (f := (clp d).natAbs % 10000) (by omega) (by omega) hT⟩)
    | (rw [q2 (by assumption), f2 (by assumption)]; exact ⟨T.length, ⟨⟨by rw [hS, if_neg (by assumption)], by rw [List.take_length, List.take_length, hT'], trivial⟩, trivial⟩, ZI.start (f := (clp d).natAbs % 10000) (by omega) (by omega) hT⟩)
    | (have z : ZI T k := by assumption
       rw [z.done (by assumption) (by assumption), decT_n (by assumption), absT_f (by omega), hS, if_pos (by assumption), frT, ← hT]; simp)
    | (have z : ZI T k := by assumption
       rw [z.done (by assumption) (by assumption), decT_p (by assumption), absT_f (by omega), hS, if_neg (by assumption), frT, ← hT]; simp)
    | skip
theorem dec2_run (d : Int) (h : InI64 d) : (R FT X).f 19 [intA d] = some (strL (decT d)) := by
  have hm := maxLen_le
  have nr := near02_run (X := X) d h
  have sz := fun n h => size_run (X := X) n h
  have tx := fun (u m : Nat) hu hm => txt_run (X := X) u m hu hm
  have cb := clp_bd d
  obtain ⟨S, hS⟩ : ∃ S, S = Lib.decDigits ((clp d).natAbs / 10000) := ⟨_, rfl⟩
  obtain ⟨T, hT⟩ : ∃ T, T = txK 4 ((clp d).natAbs % 10000) := ⟨_, rfl⟩
  have hSl : S.length ≤ 12 := by rw [hS]; have := dd_le9 (n := (clp d).natAbs) (by omega); omega
  have hTl : T.length = 4 := by
    have h4 := nd_le 4 ((clp d).natAbs % 10000) (by decide) (by rw [show 10 ^ 4 = 10000 by decide]; omega)
    rw [hT, txK, dgK_len, nK]; omega
  have dq := dd_le9 (n := (clp d).natAbs) (by omega)
  have q1 := fun (h : clp d < 0) => it_q (x := 0 - clp d) (N := (clp d).natAbs) (by omega)
  have q2 := fun (h : ¬ clp d < 0) => it_q (x := clp d) (N := (clp d).natAbs) (by omega)
  have f1 := fun (h : clp d < 0) => it_f (x := 0 - clp d) (N := (clp d).natAbs) (by omega)
  have f2 := fun (h : ¬ clp d < 0) => it_f (x := clp d) (N := (clp d).natAbs) (by omega)
  have p0 := fun (u : Nat) => dd_pos u
  have hT' : (Lib.decDigits (10000 + (clp d).natAbs % 10000)).drop 1 = T := by rw [hT, txK_4 (by omega)]
  refine R_wp (Tr.c (intA (clp d)) (Tr.c (intA (↑(clp d).natAbs : Int)) (Tr.k 0 (Tr.c (strL (txK (1 : Nat) ((clp d).natAbs / (10000 : Nat)))) (Tr.k 0 ((Tr.k 0 (Tr.c (strL (txK (4 : Nat) ((clp d).natAbs % Int.natAbs (10000 : Int)))) (Tr.inv (fun (k : Nat) ↦ St.mk [(0, intA (clp d)), (4, strL S), (5, strL (List.take k T))] []) (fun (k : Nat) ↦ ZI T k) (fun (k : Nat) ↦ k) fun (k : Nat) ↦ (Tr.y ((↑(List.take k T).length : Int) - 1).toNat fun (c4 : UInt8) ↦ (Tr.sl (0 : Nat) ((↑(List.take k T).length : Int) - 1).toNat Tr.nil).w.w.br (Tr.nil.w.br Tr.nil).w.w.w.w).w.w).w)).br (Tr.nil.w.br Tr.nil).w.w).w).w)))) rfl ?_
  refine Eq.mpr (by kernel_rfl : _ = ((R FT X).f 26 [intA d] = some (intA (clp d)) ∧ (R FT X).f 27 [intA (clp d)] = some (intA (↑(clp d).natAbs : Int)) ∧ (0 : Int) ≤ (↑(clp d).natAbs : Int) ∧ (0 : Int) < 10000 ∧ (↑(clp d).natAbs : Int) ≤ 9223372036854775807 ∧ (R FT X).f 28 [intA (↑((clp d).natAbs / (10000 : Nat)) : Int), intA (↑(1 : Nat) : Int)] = some (strL (txK (1 : Nat) ((clp d).natAbs / (10000 : Nat)))) ∧ (0 : Int) ≤ (↑(clp d).natAbs : Int) ∧ (0 : Int) < 10000 ∧ ((!decide ((↑(clp d).natAbs : Int) % (10000 : Int) = 0)) = true → (0 : Int) ≤ (↑(clp d).natAbs : Int) ∧ (0 : Int) < 10000 ∧ (R FT X).f 28 [intA (↑((clp d).natAbs % Int.natAbs (10000 : Int)) : Int), intA (↑(4 : Nat) : Int)] = some (strL (txK (4 : Nat) ((clp d).natAbs % Int.natAbs (10000 : Int)))) ∧ (∃ (j2 : Nat), ((clp d = clp d ∧ txK (1 : Nat) ((clp d).natAbs / (10000 : Nat)) = S ∧ txK (4 : Nat) ((clp d).natAbs % Int.natAbs (10000 : Int)) = List.take j2 T ∧ True) ∧ True) ∧ ZI T j2) ∧ ∀ (k : Nat), ZI T k → InI64 ((↑(List.take k T).length : Int) - 1) ∧ (↑(List.take k T).length : Int) - 1 = (↑((↑(List.take k T).length : Int) - 1).toNat : Int) ∧ ((↑(List.take
  k T).length : Int) - 1).toNat < (List.take k T).length ∧ ∀ (c4 : UInt8), (List.take k T)[((↑(List.take k T).length : Int) - 1).toNat]? = some c4 → (decide ((↑c4.toNat : Int) = 48) = true → InI64 ((↑(List.take k T).length : Int) - 1) ∧ (0 : Int) = 0 ∧ (↑(List.take k T).length : Int) - 1 = (↑((↑(List.take k T).length : Int) - 1).toNat : Int) ∧ (0 : Nat) ≤ ((↑(List.take k T).length : Int) - 1).toNat ∧ ((↑(List.take k T).length : Int) - 1).toNat ≤ (List.take k T).length ∧ ∃ (j7 : Nat), ((clp d = clp d ∧ S = S ∧ List.drop (0 : Nat) (List.take ((↑(List.take k T).length : Int) - 1).toNat (List.take k T)) = List.take j7 T ∧ True) ∧ True) ∧ ZI T j7 ∧ j7 < k) ∧ (decide ((↑c4.toNat : Int) = 48) = false → S.length + [(46 : UInt8)].length ≤ 9223372036854775807 ∧ List.length (S ++ [(46 : UInt8)]) + (List.take k T).length ≤ 9223372036854775807 ∧ (decide (clp d < 0) = true → [(45 : UInt8)].length + List.length (S ++ [(46 : UInt8)] ++ List.take k T) ≤ 9223372036854775807 ∧ [(45 : UInt8)] ++ (S ++ [(46 : UInt8)] ++ List.take k T) = decT d) ∧ (decide (clp d < 0) = false → S ++
  [(46 : UInt8)] ++ List.take k T = decT d))) ∧ ((!decide ((↑(clp d).natAbs : Int) % (10000 : Int) = 0)) = false → (decide (clp d < 0) = true → [(45 : UInt8)].length + List.length (txK (1 : Nat) ((clp d).natAbs / (10000 : Nat))) ≤ 9223372036854775807 ∧ [(45 : UInt8)] ++ txK (1 : Nat) ((clp d).natAbs / (10000 : Nat)) = decT d) ∧ (decide (clp d < 0) = false → txK (1 : Nat) ((clp d).natAbs / (10000 : Nat)) = decT d)))) ?_
  refine ⟨(nr), (sz _ ⟨(by omega), (by omega)⟩), (by omega), (by omega), (by omega), (tx _ _ (by exact (by omega)) ⟨(by omega), (by omega)⟩), (by omega), (by omega), fun h1_ => have h1 := dnT h1_; ⟨(by omega), (by omega), (tx _ _ (by exact (by simp; omega)) ⟨(by omega), (by omega)⟩), ?_, fun k => fun h3 => ⟨?_, ?_, ?_, fun c4 => fun h5 => ⟨fun h6_ => have h6 := dT h6_; ⟨?_, rfl, ?_, (by omega), (by omega), ?_⟩, fun h8_ => have h8 := dF h8_; ⟨(by simp; omega), (by simp; omega), fun h9_ => have h9 := dT h9_; ⟨(by simp; omega), ?_⟩, fun h10_ => have h10 := dF h10_; ?_⟩⟩⟩⟩, fun h11_ => have h11 := dnF h11_; ⟨fun h12_ => have h12 := dT h12_; ⟨?_, ?_⟩, fun h13_ => have h13 := dF h13_; ?_⟩⟩
  all_goals first
    | (have z : ZI T k := by assumption
       have l := z.len
       have le := z.le
       unfold InI64; omega)
    | (have z : ZI T k := by assumption
       have l := z.len
       omega)
    | (have z : ZI T k := by assumption
       have st := z.step (by assumption) (by assumption)
       exact ⟨k - 1, ⟨⟨rfl, rfl, by rw [List.drop_zero]; exact st.1, trivial⟩, trivial⟩, st.2⟩)
    | (simp only [List.length_append, List.length_cons, List.length_nil, List.length_take]; omega)
    | (rw [txK_1]; simp only [List.length_append, List.length_cons, List.length_nil]; omega)
    | (rw [txK_1, decT_n (by assumption), absT_0 (by omega)]; done)
    | (rw [txK_1, decT_p (by assumption), absT_0 (by omega)]; done)
    | (exact ⟨T.length, ⟨⟨rfl, by rw [txK_1, hS], by rw [List.take_length, hT]; rfl, trivial⟩, trivial⟩, ZI.start (f := (clp d).natAbs % 10000) (by omega) (by omega) hT⟩)
    | (have z : ZI T k := by assumption
       rw [z.done (by assumption) (by assumption), decT_n (by assumption), absT_f (by omega), hS, frT, ← hT]; done)
    | (have z : ZI T k := by assumption
       rw [z.done (by assumption) (by assumption), decT_p (by assumption), absT_f (by omega), hS, frT, ← hT]; done)
    | skip
theorem text3_run (hX : AjC X) (v : Vl) (h : InI64 v.n) (hk : InI64 v.k) : (R FT X).f 7 [encVl v] = some (strL (vlT v)) := by
 have nr := nearest_run (X := X) v.n h
 have cb := clp_bd v.n
 have df := dec3_run hX (clp v.n) (by unfold InI64; omega)
 refine R_wp (((Tr.c (intA (clp v.n)) (Tr.c (strL (decT (clp v.n))) Tr.nil)).br ((Tr.b true Tr.nil).w.br (Tr.nil.br Tr.nil).w).w.w.w).w.w.w) rfl ?_
 refine Eq.mpr (by kernel_rfl : _ = ((decide (v.k = 1) = true → (R FT X).f 15 [intA v.n] = some (intA (clp v.n)) ∧ (R FT X).f 14 [intA (clp v.n)] = some (strL (decT (clp v.n))) ∧ decT (clp v.n) = vlT v) ∧ (decide (v.k = 1) = false → (decide (v.k = 2) = true → decide (v.k = 2) = true ∧ v.s = vlT v) ∧ (decide (v.k = 2) = false → (decide (v.k = 3) = true → v.s = vlT v) ∧ (decide (v.k = 3) = false → [] = vlT v))))) ?_
 refine ⟨fun h1_ => have h1 := dT h1_; ⟨(nr), (df), ?_⟩, fun h2_ => have h2 := dF h2_; ⟨fun h3_ => have h3 := dT h3_; ⟨h3_, ?_⟩, fun h4_ => have h4 := dF h4_; ⟨fun h5_ => have h5 := dT h5_; ?_, fun h6_ => have h6 := dF h6_; ?_⟩⟩⟩
 ·rw [show decT (clp v.n) = decT v.n by unfold decT; rw [clp_clp]]; unfold vlT; rw [if_pos h1]
 ·unfold vlT; rw [if_neg h2, if_pos (Or.inl h3)]
 ·unfold vlT; rw [if_neg h2, if_pos (Or.inr h5)]
 ·unfold vlT; rw [if_neg h2, if_neg (by omega)]
theorem text2_run (v : Vl) (h : InI64 v.n) (hk : InI64 v.k) : (R FT X).f 9 [encVl v] = some (strL (vlT v)) := by
 have nr := near42_run (X := X) v.n h
 have cb := clp_bd v.n
 have df := dec2_run (X := X) (clp v.n) (by unfold InI64; omega)
 refine R_wp (((Tr.c (intA (clp v.n)) (Tr.c (strL (decT (clp v.n))) Tr.nil)).br ((Tr.b true Tr.nil).w.br (Tr.nil.br Tr.nil).w).w.w.w).w.w.w) rfl ?_
 refine Eq.mpr (by kernel_rfl : _ = ((decide (v.k = 1) = true → (R FT X).f 20 [intA v.n] = some (intA (clp v.n)) ∧ (R FT X).f 19 [intA (clp v.n)] = some (strL (decT (clp v.n))) ∧ decT (clp v.n) = vlT v) ∧ (decide (v.k = 1) = false → (decide (v.k = 2) = true → decide (v.k = 2) = true ∧ v.s = vlT v) ∧ (decide (v.k = 2) = false → (decide (v.k = 3) = true → v.s = vlT v) ∧ (decide (v.k = 3) = false → [] = vlT v))))) ?_
 refine ⟨fun h1_ => have h1 := dT h1_; ⟨(nr), (df), ?_⟩, fun h2_ => have h2 := dF h2_; ⟨fun h3_ => have h3 := dT h3_; ⟨h3_, ?_⟩, fun h4_ => have h4 := dF h4_; ⟨fun h5_ => have h5 := dT h5_; ?_, fun h6_ => have h6 := dF h6_; ?_⟩⟩⟩
 ·rw [show decT (clp v.n) = decT v.n by unfold decT; rw [clp_clp]]; unfold vlT; rw [if_pos h1]
 ·unfold vlT; rw [if_neg h2, if_pos (Or.inl h3)]
 ·unfold vlT; rw [if_neg h2, if_pos (Or.inr h5)]
 ·unfold vlT; rw [if_neg h2, if_neg (by omega)]
theorem key3_run (hX : AjC X) (l : List Vl) (h : ∀ v ∈ l, InI64 v.n ∧ InI64 v.k) (hl : l.length ≤ 1048576) (hj : Lib.lens (l.map vlT) ≤ 100000000) : (R FT X).f 4 [.slice 3 (l.map encVl)] = some (strL (Lib.join (l.map vlT) [28])) := by
 have hm := maxLen_le
 have tx := fun v h hk => text3_run hX v h hk
 have jn := hX.join
 obtain ⟨P, hP⟩ : ∃ P : Nat → List Bs, P = fun k => (l.take k).map vlT := ⟨_, rfl⟩
 have hPl : ∀ k, (P k).length ≤ l.length := fun k => by rw [hP]; simp only [List.length_map, List.length_take]; omega
 refine R_wp (Tr.k l.length (Tr.inv (fun (k : Nat) ↦ St.mk [(3, AV.row 0 0 (P k).length (0 : Nat) (P k).length), (6, AV.slice 3 (List.map encVl l)), (7, intA (↑l.length : Int)), (8, intA (↑k : Int))] [MObj.row 0 1 (List.map strL (P k)) true (1 : Nat)]) (fun (k : Nat) ↦ k ≤ l.length) (fun (k : Nat) ↦ l.length - k) fun (k : Nat) ↦ (Tr.ix encVl l k fun (x4 : Vl) ↦ Tr.c (strL (vlT x4)) (Tr.k ((P k).length + 1) Tr.nil.w)).w.br (Tr.g (List.map strL (P k)) (Tr.c (strL (Lib.join (P k) [(28 : UInt8)])) Tr.nil))).w) rfl ?_
 refine Eq.mpr (by kernel_rfl : _ = ((List.map encVl l).length = l.length ∧ (∃ (j1 : Nat), ((((0 : Nat) = (P j1).length ∧ (0 : Nat) = 0 ∧ (0 : Nat) = (P j1).length) ∧ List.map encVl l = List.map encVl l ∧ (↑l.length : Int) = (↑l.length : Int) ∧ (0 : Int) = (↑j1 : Int) ∧ True) ∧ [] = List.map strL (P j1)) ∧ j1 ≤ l.length) ∧ ∀ (k : Nat), k ≤ l.length → (decide ((↑k : Int) < (↑l.length : Int)) = true → List.map encVl l = List.map encVl l ∧ (↑k : Int) = (↑k : Int) ∧ k < l.length ∧ ∀ (x4 : Vl), l[k]? = some x4 → (R FT X).f 7 [encVl x4] = some (strL (vlT x4)) ∧ (List.map strL (P k)).length = (P k).length ∧ (0 : Nat) = 0 ∧ (P k).length = (P k).length ∧ (P k).length + [AV.val (Value.string (ofL (vlT x4)))].length = (P k).length + 1 ∧ ((P k).length + 1) * 16 ≤ (140737488355328 : Nat) ∧ (P k).length + 1 ≤ (9223372036854775807 : Nat) ∧ InI64 ((↑k : Int) + 1) ∧ ∃ (j6 : Nat), ((((P k).length + 1 = (P j6).length ∧ (0 : Nat) = 0 ∧ (P k).length + 1 = (P j6).length) ∧ List.map encVl l = List.map encVl l ∧ (↑l.length : Int) = (↑l.length : Int) ∧ (↑k : Int) + 1 = (↑j6 : Int) ∧ True) ∧ List.map strL (P k) ++ [AV.val (Value.string (ofL (vlT x4)))]
 = List.map strL (P j6)) ∧ j6 ≤ l.length ∧ l.length - j6 < l.length - k) ∧ (decide ((↑k : Int) < (↑l.length : Int)) = false → (List.map strL (P k)).length = (P k).length ∧ List.take (P k).length (List.drop (0 : Nat) (List.map strL (P k))) = List.map strL (P k) ∧ (R FT X).f 8 [AV.slice 1 (List.map strL (P k)), strL [(28 : UInt8)]] = some (strL (Lib.join (P k) [(28 : UInt8)])) ∧ Lib.join (P k) [(28 : UInt8)] = Lib.join (List.map vlT l) [(28 : UInt8)]))) ?_
 refine ⟨(by simp), ⟨(0 : Nat), ⟨⟨⟨?_, rfl, ?_⟩, rfl, rfl, (by omega), trivial⟩, ?_⟩, (by omega)⟩, fun k => fun h2 => ⟨fun h3_ => have h3 := dT h3_; ⟨rfl, rfl, (by omega), fun x4 => fun h5 => ⟨(tx _ ?_ ?_), (by simp), rfl, rfl, rfl, ?_, ?_, (by unfold InI64; omega), ⟨k + (1 : Nat), ⟨⟨⟨?_, rfl, ?_⟩, rfl, rfl, (by omega), trivial⟩, ?_⟩, ⟨(by omega), (by omega)⟩⟩⟩⟩, fun h7_ => have h7 := dF h7_; ⟨(by simp), ?_, (jn _ _ ?_ ?_), ?_⟩⟩⟩
 all_goals first
  | (rw [hP]; rfl)
  | exact (h _ (List.mem_of_getElem? h5)).1
  | exact (h _ (List.mem_of_getElem? h5)).2
  | (have := hPl k; omega)
  | (rw [hP]; simp only [List.length_map, List.length_take]; omega)
  | (rw [hP]; simp only; rw [take_succ_get h5]; simp; rfl)
  | (rw [List.drop_zero, List.take_of_length_le (by simp)]; done)
  | (rw [hP]; simp only; rw [List.take_of_length_le (by omega)]; done)
  | (have q := jn_take (l.map vlT) l.length; rw [hP]; simp only; rw [List.take_of_length_le (by omega)]; rw [List.take_of_length_le (by simp), List.length_map] at q; omega)
theorem key2_run (l : List Vl) (h : ∀ v ∈ l, InI64 v.n ∧ InI64 v.k) (hl : l.length ≤ 1048576) (hj : Lib.lens (l.map vlT) ≤ 100000000) : (R FT X).f 5 [.slice 3 (l.map encVl)] = some (strL (Lib.join (l.map vlT) [28])) := by
  have hm := maxLen_le
  have tx := fun v h hk => text2_run (X := X) v h hk
  obtain ⟨P, hP⟩ : ∃ P : Nat → Bs, P = fun k => Lib.join ((l.take k).map vlT) [28] := ⟨_, rfl⟩
  have pl : ∀ k, (P k).length ≤ 102000000 := fun k => by
    have q := jn_take (l.map vlT) k
    rw [hP]; simp only; rw [List.map_take]; rw [List.length_map] at q; omega
  have ps : ∀ {k x}, 0 < k → l[k]? = some x → P k ++ [28] ++ vlT x = P (k + 1) := fun {k x} h0 hx => by
    rw [hP]; simp only
    have hk := (List.getElem?_eq_some_iff.1 hx).1
    rw [take_succ_get hx, List.map_append, List.map_singleton, jn_snoc (fun e => by have := congrArg List.length e; rw [List.length_map, List.length_take, List.length_nil] at this; omega)]
  have p0 : ∀ {x}, l[0]? = some x → P 0 ++ vlT x = P 1 := fun {x} hx => by
    rw [hP]; simp only
    rw [take_succ_get hx, List.take_zero, List.nil_append, List.map_singleton, Lib.join_one]; rfl
  refine R_wp ((Tr.inv (fun (k : Nat) ↦ St.mk [(0, AV.slice 3 (List.map encVl l)), (3, strL (P k)), (4, intA (↑k : Int))] []) (fun (k : Nat) ↦ k ≤ l.length) (fun (k : Nat) ↦ l.length - k) fun (k : Nat) ↦ (Tr.k l.length (((Tr.bs [(28 : UInt8)] (Tr.ix encVl l k fun (x5 : Vl) ↦ Tr.c (strL (vlT x5)) Tr.nil.w.w).w).br (Tr.ix encVl l k fun (x9 : Vl) ↦ Tr.c (strL (vlT x9)) Tr.nil.w.w)).w.w.w.br Tr.nil)).w).w) rfl ?_
  refine Eq.mpr (by kernel_rfl : _ = ((∃ (j1 : Nat), ((List.map encVl l = List.map encVl l ∧ [] = P j1 ∧ (0 : Int) = (↑j1 : Int) ∧ True) ∧ True) ∧ j1 ≤ l.length) ∧ ∀ (k : Nat), k ≤ l.length → (List.map encVl l).length = l.length ∧ (decide ((↑k : Int) < (↑l.length : Int)) = true → (decide ((0 : Int) < (↑k : Int)) = true → (1 : Nat) = 1 ∧ some [UInt8.ofNat (Int.toNat (28 : Int))] = some [(28 : UInt8)] ∧ List.length (P k) + [(28 : UInt8)].length ≤ 9223372036854775807 ∧ List.map encVl l = List.map encVl l ∧ (↑k : Int) = (↑k : Int) ∧ k < l.length ∧ ∀ (x5 : Vl), l[k]? = some x5 → (R FT X).f 9 [encVl x5] = some (strL (vlT x5)) ∧ List.length (P k ++ [(28 : UInt8)]) + List.length (vlT x5) ≤ 9223372036854775807 ∧ InI64 ((↑k : Int) + 1) ∧ ∃ (j7 : Nat), ((List.map encVl l = List.map encVl l ∧ P k ++ [(28 : UInt8)] ++ vlT x5 = P j7 ∧ (↑k : Int) + 1 = (↑j7 : Int) ∧ True) ∧ True) ∧ j7 ≤ l.length ∧ l.length - j7 < l.length - k) ∧ (decide ((0 : Int) < (↑k : Int)) = false → List.map encVl l = List.map encVl l ∧ (↑k : Int) = (↑k : Int) ∧ k < l.length ∧ ∀ (x9 : Vl), l[k]? = some x9 → (R FT X).f 9 [encVl x9] = some (strL (vlT x9)) ∧ List.length (P k) + List.length (vlT x9) ≤ (9223372036854775807
  : Nat) ∧ InI64 ((↑k : Int) + 1) ∧ ∃ (j11 : Nat), ((List.map encVl l = List.map encVl l ∧ P k ++ vlT x9 = P j11 ∧ (↑k : Int) + 1 = (↑j11 : Int) ∧ True) ∧ True) ∧ j11 ≤ l.length ∧ l.length - j11 < l.length - k)) ∧ (decide ((↑k : Int) < (↑l.length : Int)) = false → P k = Lib.join (List.map vlT l) [(28 : UInt8)]))) ?_
  refine ⟨⟨(0 : Nat), ⟨⟨rfl, ?_, (by omega), trivial⟩, trivial⟩, (by omega)⟩, fun k => fun h2 => ⟨(by simp), fun h3_ => have h3 := dT h3_; ⟨fun h4_ => have h4 := dT h4_; ⟨rfl, rfl, ?_, rfl, rfl, (by omega), fun x5 => fun h6 => ⟨(tx _ ?_ ?_), ?_, (by unfold InI64; omega), ⟨k + (1 : Nat), ⟨⟨rfl, ?_, (by omega), trivial⟩, trivial⟩, ⟨(by omega), (by omega)⟩⟩⟩⟩, fun h8_ => have h8 := dF h8_; ⟨rfl, rfl, (by omega), fun x9 => fun h10 => ⟨(tx _ ?_ ?_), ?_, (by unfold InI64; omega), ⟨k + (1 : Nat), ⟨⟨rfl, ?_, (by omega), trivial⟩, trivial⟩, ⟨(by omega), (by omega)⟩⟩⟩⟩⟩, fun h12_ => have h12 := dF h12_; ?_⟩⟩
  all_goals first
    | (rw [hP]; rfl)
    | exact (h _ (List.mem_of_getElem? (by assumption))).1
    | exact (h _ (List.mem_of_getElem? (by assumption))).2
    | exact ps (by omega) h6
    | (obtain rfl : k = 0 := by omega
       exact p0 h10)
    | (have := pl k; simp only [List.length_singleton]; omega)
    | (have q := pl (k + 1); rw [← ps (by omega) h6] at q; simp only [List.length_append] at q ⊢; omega)
    | (obtain rfl : k = 0 := by omega
       have q := pl 1; rw [← p0 h10] at q; simp only [List.length_append] at q ⊢; omega)
    | (rw [hP]; simp only; rw [List.take_of_length_le (by omega)]; done)
end
end Go.Proofs.YtckopgopbgicjaaDoor
end
section
namespace Go.Proofs.YtckopgopbgicjaaDoor
set_option linter.unusedVariables false
set_option linter.unusedSimpArgs false
open Go.RowKit Go.MapKept Go.ChangeMaps
structure Va where
 kind : Int
 num : Int
 str : ByteArray
deriving DecidableEq
def Va.enc (v : Va) : Value := .agg #[.int .i64 v.kind, .int .i64 v.num, .string v.str]
def Va.zero : Va := ⟨0, 0, ⟨#[]⟩⟩
abbrev Inner := List (ByteArray × Va)
abbrev Tbl := List (ByteArray × Nat × Inner)
abbrev Dat := List (ByteArray × Inner)
def datOf (T : Tbl) : Dat := mapV (·.2) T
def outer (T : Tbl) : List (ByteArray × Value) := mapV (fun t => .map (some t.1)) T
def tot (D : Dat) : Nat := (D.map (·.2.length)).sum
def dget (D : Dat) (n k : ByteArray) : Option Va := (mget D n).bind (mget · k)
def dput (D : Dat) (n k : ByteArray) (v : Va) : Dat := mput D n (mput ((mget D n).getD []) k v)
structure ArrM (w : World) (p m : Nat) (T : Tbl) : Prop where
 nodup : (p :: m :: T.map (·.2.1)).Nodup
 out : MapAt w m (outer T)
 inn : ∀ t ∈ T, MapAt w t.2.1 (mapV Va.enc t.2.2)
structure ArrT (w : World) (p : Nat) (m : Nat) (T : Tbl) (lim : Int) : Prop extends ArrM w p m T where
 cells : w.heap[p]? = some (.cells #[.int .i64 lim, .int .i64 (tot (datOf T)), .map (some m)] 53 (0, 0))
 lim0 : 0 ≤ lim
 limM : lim ≤ 4096
 le : (tot (datOf T) : Int) ≤ lim
def foot (p m : Nat) (T : Tbl) (k : Nat) : Prop := k ∈ p :: m :: T.map (·.2.1)
section plain
variable {w w' : World} {p m : Nat} {T : Tbl}
theorem ArrM.fr {L : Nat → Prop} (h : ArrM w p m T) (hf : Fr L w w') (hL : ∀ k, foot p m T k → k ≠ p → ¬ L k) : ArrM w' p m T := by
 have hn := List.nodup_cons.1 h.nodup
 refine ⟨h.nodup, h.out.fr hf (hL _ (by simp [foot]) ?_), fun t ht => (h.inn t ht).fr hf (hL _ ?_ ?_)⟩
 ·intro e; subst e; exact hn.1 (by simp)
 ·simp only [foot, List.mem_cons]; exact .inr (.inr (List.mem_map.2 ⟨t, ht, rfl⟩))
 ·intro e; exact hn.1 (by rw [← e]; exact List.mem_cons_of_mem _ (List.mem_map.2 ⟨t, ht, rfl⟩))
theorem ArrM.keys (h : ArrM w p m T) : (T.map (·.1)).Nodup := by have := h.out.nodup; simpa [outer, mapV_keys] using this
theorem tbl_blocks {n : ByteArray} {b : Nat} {M M' : Inner} (hg : mget T n = some (b, M)) : (mput T n (b, M')).map (·.2.1) = T.map (·.2.1) := by
 rw [← mapV_vals (fun x : Nat × Inner => x.1), ← mput_mapV, mput_same (by rw [mget_mapV, hg]; rfl), mapV_vals]
theorem ArrM.ne_m (h : ArrM w p m T) {n : ByteArray} {b : Nat} {M : Inner} (hg : (n, b, M) ∈ T) : b ≠ m ∧ b ≠ p := by
 have h1 := List.nodup_cons.1 h.nodup
 have h2 := List.nodup_cons.1 h1.2
 have hb : b ∈ T.map (·.2.1) := List.mem_map.2 ⟨_, hg, rfl⟩
 exact ⟨fun e => h2.1 (e ▸ hb), fun e => h1.1 (e ▸ List.mem_cons_of_mem _ hb)⟩
theorem nodup_inj {T : Tbl} (h : (T.map (·.2.1)).Nodup) {x y : ByteArray × Nat × Inner} (hx : x ∈ T) (hy : y ∈ T) (e : x.2.1 = y.2.1) : x = y := by
 induction T with
 | nil => simp at hx
 | cons t r ih =>
  simp only [List.map_cons, List.nodup_cons] at h
  rcases List.mem_cons.1 hx with h1 | h1 <;> rcases List.mem_cons.1 hy with h2 | h2
  ·rw [h1, h2]
  ·exact absurd (List.mem_map.2 ⟨y, h2, by rw [← e, h1]⟩) h.1
  ·exact absurd (List.mem_map.2 ⟨x, h1, by rw [e, h2]⟩) h.1
  ·exact ih h.2 h1 h2
theorem ArrM.inner (h : ArrM w p m T) {n : ByteArray} {b : Nat} {M M' : Inner} (hg : mget T n = some (b, M)) (hf : Fr (· = b) w w') (hM : MapAt w' b (mapV Va.enc M')) : ArrM w' p m (mput T n (b, M')) := by
 have hb := h.ne_m (mget_mem hg)
 refine ⟨by rw [tbl_blocks hg]; exact h.nodup, ?_, ?_⟩
 ·rw [outer, ← mput_mapV (fun t : Nat × Inner => Value.map (some t.1)), mput_same (by rw [mget_mapV, hg]; rfl)]
  exact h.out.fr hf (Ne.symm hb.1)
 ·intro t ht
  rcases mem_mput h.keys ht with rfl | ⟨ht, hne⟩
  ·exact hM
  ·refine (h.inn t ht).fr hf (fun e => hne ?_)
   have h2 := (List.nodup_cons.1 (List.nodup_cons.1 h.nodup).2).2
   have := nodup_inj h2 ht (mget_mem hg) e
   rw [this]
theorem ArrM.add (h : ArrM w p m T) (hp : p < w.heap.size) {n : ByteArray} (hg : mget T n = none) (hf : Fr (· = m) (w.alloc (.map #[] 0)) w') (hM : MapAt w' m (mput (outer T) n (.map (some w.heap.size)))) :
    ArrM w' p m (mput T n (w.heap.size, [])) := by
  have hs : (w.alloc (.map #[] 0)).heap.size = w.heap.size + 1 := by simp
  have hm := h.out.lt
  refine ⟨?_, ?_, ?_⟩
  · rw [mput_new _ hg]
    have hlt : ∀ x ∈ T.map (·.2.1), x < w.heap.size := by
      intro x hx
      obtain ⟨t, ht, rfl⟩ := List.mem_map.1 hx
      exact (h.inn t ht).lt
    have hn := h.nodup
    simp only [List.nodup_cons, List.mem_cons, List.map_append, List.map_cons, List.map_nil, List.nodup_append, List.mem_append, List.mem_singleton] at hn ⊢
    refine ⟨?_, ?_, hn.2.2, by simp, ?_⟩
    · rintro (e | e | e | e)
      · exact hn.1 (.inl e)
      · exact hn.1 (.inr e)
      · omega
      · simp at e
    · rintro (e | e | e)
      · exact hn.2.1 e
      · omega
      · simp at e
    · rintro a ha b hb rfl
      have := hlt a ha
      simp at hb; omega
  · rw [outer, ← mput_mapV (fun t : Nat × Inner => Value.map (some t.1))]; exact hM
  · intro t ht
    rcases mem_mput h.keys ht with rfl | ⟨ht, hne⟩
    · exact (MapAt.new w).fr hf (by intro e; have e' : w.heap.size = m := e; omega)
    · exact ((h.inn t ht).alloc _).fr hf (h.ne_m (n := t.1) (b := t.2.1) (M := t.2.2) ht).1
end plain
theorem tot_put (D : Dat) (n : ByteArray) (M : Inner) : tot (mput D n M) + ((mget D n).getD []).length = tot D + M.length := by
 induction D with
 | nil => simp [mput, mget, tot]
 | cons x r ih =>
  obtain ⟨k, y⟩ := x
  by_cases hk : k = n
  ·simp [mput, mget, tot, hk]; omega
  ·simp [mput, mget, tot, hk] at ih ⊢; omega
theorem tot_dput (D : Dat) (n k : ByteArray) (v : Va) : tot (dput D n k v) = if (dget D n k).isSome then tot D else tot D + 1 := by
 have h1 := tot_put D n (mput ((mget D n).getD []) k v)
 have h2 := mput_length ((mget D n).getD []) k v
 have h3 : dget D n k = mget ((mget D n).getD []) k := by cases h : mget D n <;> simp [dget, h, mget]
 rw [h3, dput]
 rw [h2] at h1
 split at h1 <;> rename_i hc
 ·rw [if_pos hc]; omega
 ·rw [if_neg hc]; omega
theorem zero_outer (w : World) : (zeroValue 55).run Tryd.prog w = .ok (.map none) w := by kernel_rfl
theorem zero_inner (w : World) : (zeroValue 29).run Tryd.prog w = .ok Va.zero.enc w := by kernel_rfl
theorem outer_get (T : Tbl) (n : ByteArray) : (mget T n = none ∧ mget (outer T) n = none ∧ mget (datOf T) n = none) ∨ ∃ b M, mget T n = some (b, M) ∧ mget (outer T) n = some (.map (some b)) ∧ mget (datOf T) n = some M ∧ (n, b, M) ∈ T := by
 cases h : mget T n with
 | none => left; simp [outer, datOf, mget_mapV, h]
 | some x => right; exact ⟨x.1, x.2, rfl, by simp [outer, mget_mapV, h], by simp [datOf, mget_mapV, h], mget_mem h⟩
set_option maxHeartbeats 400000 in
theorem Has_any {w : World} {p m : Nat} {T : Tbl} {lim : Int} (h : ArrT w p m T lim) (n k : ByteArray) :
    Calls Tryd.prog 29 #[.pointer (some ⟨p, 0, none⟩), .string n, .string k] w fun e w' => e = .returned (.bool (dget (datOf T) n k).isSome) ∧ Fr (fun _ => False) w w' := by
  have c2 : w.cell? ⟨p, 2, none⟩ = some (.map (some m)) := cell_of_heap h.cells 2
  have l1 := run_lookup_m Tryd.underlying51 Tryd.underlying9 (zero_outer w) h.out n false
  rcases outer_get T n with ⟨h0, h1, h2⟩ | ⟨b, M, h0, h1, h2, h3⟩
  · rw [lookRes, h1] at l1
    have l2 := run_lookup_nil (w := w) Tryd.underlying55 Tryd.underlying9 (zero_inner w) k true
    simp only [lookRes, mget, Va.enc] at l2
    rw [show dget (datOf T) n k = none from by simp [dget, h2]]
    clear h h0 h1 h2
    go_enter Tryd.func29, Tryd.ntmps29
    go_wp2
    go_ret
    exact ⟨rfl, (Fr.refl _ _).alloc _⟩
  · rw [lookRes, h1] at l1
    have l2 := run_lookup_m Tryd.underlying55 Tryd.underlying9 (zero_inner w) (h.inn _ h3) k true
    simp only [lookRes, mget_mapV] at l2
    rw [show dget (datOf T) n k = mget M k from by simp [dget, h2]]
    clear h h0 h1 h2 h3
    cases hk : mget M k
    all_goals
      rw [hk] at l2
      simp only [Option.map, Option.getD, Va.enc, Va.zero] at l2
      clear hk
      go_enter Tryd.func29, Tryd.ntmps29
      go_wp2
      go_ret
      exact ⟨rfl, (Fr.refl _ _).alloc _⟩
def roomR (lim : Int) (D : Dat) (n k : ByteArray) : Int := if (dget D n k).isSome then 0 else if lim ≤ tot D then 3 else 0
def roomD (lim : Int) (D : Dat) (n k : ByteArray) : Dat := if (dget D n k).isSome then D else if lim ≤ tot D then D else dput D n k Va.zero
def RoomPost (w : World) (p m : Nat) (T : Tbl) (lim r : Int) (D' : Dat) (e : Ending) (w' : World) : Prop :=
 e = .returned (.int .i64 r) ∧ ∃ T', ArrT w' p m T' lim ∧ datOf T' = D' ∧ Fr (foot p m T) w w' ∧ ∀ k, foot p m T' k → foot p m T k ∨ w.heap.size ≤ k
theorem ArrT.fr {w w' : World} {p m : Nat} {T : Tbl} {lim : Int} {L : Nat → Prop} (h : ArrT w p m T lim) (hf : Fr L w w') (hL : ∀ k, foot p m T k → ¬ L k) : ArrT w' p m T lim :=
 ⟨h.toArrM.fr hf fun k hk _ => hL k hk, hf.keep h.cells (hL _ (by simp [foot])), h.lim0, h.limM, h.le⟩
theorem ArrT.fr0 {w w' : World} {p m : Nat} {T : Tbl} {lim : Int} (h : ArrT w p m T lim) (hf : Fr (fun _ => False) w w') : ArrT w' p m T lim := h.fr hf fun _ _ q => q
theorem ArrT.size_set {w : World} {p m : Nat} {T : Tbl} {lim x y : Int} (h : ArrM w p m T) (hc : w.heap[p]? = some (.cells #[.int .i64 lim, .int .i64 x, .map (some m)] 53 (0, 0)))
    (hy : y = tot (datOf T)) (lim0 : 0 ≤ lim) (limM : lim ≤ 4096) (le : (tot (datOf T) : Int) ≤ lim) : ArrT (w.setCell ⟨p, 1, none⟩ (.int .i64 y)) p m T lim :=
  ⟨h.fr ((Fr.refl (· = p) w).setCell _ _ (.inl rfl)) fun _ _ hk => hk, by rw [heap_setCell_same _ _ _ _ hc, hy]; rfl, lim0, limM, le⟩
theorem datOf_put (T : Tbl) (n : ByteArray) (b : Nat) (M : Inner) : datOf (mput T n (b, M)) = mput (datOf T) n M := by
 rw [datOf, datOf, ← mput_mapV]
theorem foot_put {p m : Nat} {T : Tbl} {n : ByteArray} {b : Nat} {M M' : Inner} (hg : mget T n = some (b, M)) (k : Nat) : foot p m (mput T n (b, M')) k ↔ foot p m T k := by
 simp only [foot, tbl_blocks hg]
theorem foot_add {p m : Nat} {T : Tbl} {n : ByteArray} {b : Nat} {M : Inner} (hg : mget T n = none) (k : Nat) : foot p m (mput T n (b, M)) k ↔ foot p m T k ∨ k = b := by
 rw [mput_new _ hg]
 simp only [foot, List.mem_cons, List.map_append, List.mem_append, List.map_cons, List.map_nil, List.not_mem_nil, or_false]
 constructor
 ·rintro (h | h | h | h)
  ·exact .inl (.inl h)
  ·exact .inl (.inr (.inl h))
  ·exact .inl (.inr (.inr h))
  ·exact .inr h
 ·rintro ((h | h | h) | h)
  ·exact .inl h
  ·exact .inr (.inl h)
  ·exact .inr (.inr (.inl h))
  ·exact .inr (.inr (.inr h))
set_option maxHeartbeats 400000 in
theorem room_has {w : World} {p m : Nat} {T : Tbl} {lim : Int} (h : ArrT w p m T lim) (n k : ByteArray) (hs : (dget (datOf T) n k).isSome = true) :
    Calls Tryd.prog 21 #[.pointer (some ⟨p, 0, none⟩), .string n, .string k] w (RoomPost w p m T lim 0 (datOf T)) := by
  have hh := Has_any h n k
  rw [hs] at hh
  have H := Lib.hid h
  clear hs h
  go_enter Tryd.func21, Tryd.ntmps21
  go_wp2_with (go_at_call 29; refine hh.mono ?_; rintro e w' ⟨rfl, hf⟩)
  go_ret
  exact ⟨rfl, T, H.out.fr0 hf, rfl, hf.mono fun _ _ q => q.elim, fun _ q => .inl q⟩
set_option maxHeartbeats 400000 in
theorem room_full {w : World} {p m : Nat} {T : Tbl} {lim : Int} (h : ArrT w p m T lim) (n k : ByteArray) (hs : (dget (datOf T) n k).isSome = false) (hl : lim ≤ tot (datOf T)) :
    Calls Tryd.prog 21 #[.pointer (some ⟨p, 0, none⟩), .string n, .string k] w (RoomPost w p m T lim 3 (datOf T)) := by
  have hh := Has_any h n k
  rw [hs] at hh
  have H := Lib.hid h
  clear hs h
  go_enter Tryd.func21, Tryd.ntmps21
  go_wp2_with (go_at_call 29; refine hh.mono ?_; rintro e w1 ⟨rfl, hf⟩; have H1 := Lib.hid (H.out.fr0 hf); have c0 := cell_of_heap H1.out.cells 0; have c1 := cell_of_heap H1.out.cells 1; simp only [List.getElem?_toArray, List.getElem?_cons_zero, List.getElem?_cons_succ] at c0 c1)
  go_quiet (fail)
  go_wp2
  go_ret
  exact ⟨rfl, T, (H1.out.fr0 ((Fr.refl _ _).drewN _)), rfl, (hf.drewN _).mono fun _ _ q => q.elim, fun _ q => .inl q⟩
set_option maxHeartbeats 400000 in
set_option maxRecDepth 100000 in
theorem room_old {w : World} {p m : Nat} {T : Tbl} {lim : Int} (h : ArrT w p m T lim) (n k : ByteArray) (hs : (dget (datOf T) n k).isSome = false) (hl : ¬ lim ≤ tot (datOf T)) {b : Nat} {M : Inner} (hg : mget T n = some (b, M)) :
    Calls Tryd.prog 21 #[.pointer (some ⟨p, 0, none⟩), .string n, .string k] w (RoomPost w p m T lim 0 (dput (datOf T) n k Va.zero)) := by
  have hh := Has_any h n k
  rw [hs] at hh
  have H := Lib.hid h
  have HS := Lib.hid hs
  have HG := Lib.hid hg
  have lim0 := h.lim0
  have limM := h.limM
  clear hs h hg
  go_enter Tryd.func21, Tryd.ntmps21
  go_wp2_with (go_at_call 29; refine hh.mono ?_; rintro e w1 ⟨rfl, hf⟩; have H1 := Lib.hid (H.out.fr0 hf); have c0 := cell_of_heap H1.out.cells 0; have c1 := cell_of_heap H1.out.cells 1; simp only [List.getElem?_toArray, List.getElem?_cons_zero, List.getElem?_cons_succ] at c0 c1)
  go_quiet (fail)
  clear c0 c1
  generalize hw2 : w1.drewN _ = w2
  have f2 : Fr (fun _ => False) w w2 := by rw [← hw2]; exact hf.drewN _
  clear hw2 hf H1
  have H2 := Lib.hid (H.out.fr0 f2)
  have c2 := cell_of_heap H2.out.cells 2
  simp only [List.getElem?_toArray, List.getElem?_cons_zero, List.getElem?_cons_succ] at c2
  have l1 := run_lookup_m Tryd.underlying51 Tryd.underlying9 (zero_outer w2) H2.out.out n false
  rw [lookRes, show mget (outer T) n = some (.map (some b)) from by simp [outer, mget_mapV, HG.out]] at l1
  simp only [Option.getD] at l1
  have q1 := fun w => run_eql_map_nil (P := Tryd.prog) w _ _ _ (some b) Tryd.underlying55
  obtain ⟨w3, u1, hM3, f3, hs3⟩ := run_mapUpdate_f Tryd.underlying55 Tryd.underlying9 (H2.out.inn _ (mget_mem HG.out)) k Va.zero.enc
  rw [mput_mapV] at hM3
  have HM3 := Lib.hid (H2.out.toArrM.inner HG.out f3 hM3)
  have hbp := (H.out.ne_m (mget_mem HG.out)).2
  have c3 := f3.keep H2.out.cells (Ne.symm hbp)
  have k1 := cell_of_heap c3 1
  have k1' := free_of_heap c3 1
  simp only [List.getElem?_toArray, List.getElem?_cons_zero, List.getElem?_cons_succ] at k1
  have C3 := Lib.hid c3
  simp only [Va.enc, Va.zero] at u1
  have hle := H.out.le
  clear c3 hM3 hbp
  go_wp2
  go_ret
  have ht := tot_dput (datOf T) n k Va.zero
  rw [HS.out] at ht
  simp only [Bool.false_eq_true, if_false] at ht
  have hd : datOf (mput T n (b, mput M k Va.zero)) = dput (datOf T) n k Va.zero := by rw [datOf_put, dput]; congr 2; simp [datOf, mget_mapV, HG.out]
  refine ⟨rfl, _, ArrT.size_set HM3.out C3.out (by rw [hd, ht]; rfl) lim0 limM (by rw [hd, ht]; push_cast; omega), hd, ?_, fun x hx => .inl ((foot_put HG.out x).1 hx)⟩
  refine ((f2.mono fun _ _ q => q.elim).trans f3 fun x hx => .inl ?_).setCell _ _ (.inl (by simp [foot]))
  subst hx
  simp only [foot, List.mem_cons]; exact .inr (.inr (List.mem_map.2 ⟨_, mget_mem HG.out, rfl⟩))
set_option maxHeartbeats 400000 in
set_option maxRecDepth 100000 in
theorem room_new {w : World} {p m : Nat} {T : Tbl} {lim : Int} (h : ArrT w p m T lim) (n k : ByteArray) (hs : (dget (datOf T) n k).isSome = false) (hl : ¬ lim ≤ tot (datOf T)) (hg : mget T n = none) :
    Calls Tryd.prog 21 #[.pointer (some ⟨p, 0, none⟩), .string n, .string k] w (RoomPost w p m T lim 0 (dput (datOf T) n k Va.zero)) := by
  have hh := Has_any h n k
  rw [hs] at hh
  have H := Lib.hid h
  have HS := Lib.hid hs
  have HG := Lib.hid hg
  have lim0 := h.lim0
  have limM := h.limM
  clear hs h hg
  go_enter Tryd.func21, Tryd.ntmps21
  go_wp2_with (go_at_call 29; refine hh.mono ?_; rintro e w1 ⟨rfl, hf⟩; have H1 := Lib.hid (H.out.fr0 hf); have c0 := cell_of_heap H1.out.cells 0; have c1 := cell_of_heap H1.out.cells 1; simp only [List.getElem?_toArray, List.getElem?_cons_zero, List.getElem?_cons_succ] at c0 c1)
  go_quiet (fail)
  clear c0 c1
  generalize hw2 : w1.drewN _ = w2
  have f2 : Fr (fun _ => False) w w2 := by rw [← hw2]; exact hf.drewN _
  clear hw2 hf H1
  have H2 := Lib.hid (H.out.fr0 f2)
  have c2 := cell_of_heap H2.out.cells 2
  simp only [List.getElem?_toArray, List.getElem?_cons_zero, List.getElem?_cons_succ] at c2
  have l1 := run_lookup_m Tryd.underlying51 Tryd.underlying9 (zero_outer w2) H2.out.out n false
  rw [lookRes, show mget (outer T) n = none from by simp [outer, mget_mapV, HG.out]] at l1
  simp only [Option.getD] at l1
  have q1 := fun w => run_eql_map_nil (P := Tryd.prog) w _ _ _ none Tryd.underlying55
  have hmm := fun w => @run_makeMap Tryd.prog 55 w
  obtain ⟨w3, u1, hM3, f3, hs3⟩ := run_mapUpdate_f Tryd.underlying51 Tryd.underlying9 (H2.out.out.alloc (.map #[] 0)) n (.map (some w2.heap.size))
  have hpl : p < w2.heap.size := lt_of_heap H2.out.cells
  have hml := H2.out.out.lt
  have hpm : p ≠ m := by have := H2.out.nodup; simp only [List.nodup_cons, List.mem_cons, not_or] at this; exact this.1.1
  have HM3 := Lib.hid (H2.out.toArrM.add hpl HG.out f3 hM3)
  have c3 := f3.keep ((heap_alloc_lt w2 (.map #[] 0) hpl).trans H2.out.cells) hpm
  have l3 := run_lookup_m Tryd.underlying51 Tryd.underlying9 (zero_outer w3) hM3 n false
  rw [lookRes, mget_put, if_pos rfl] at l3
  simp only [Option.getD] at l3
  have k2 := cell_of_heap c3 2
  have hg3 : mget (mput T n (w2.heap.size, [])) n = some (w2.heap.size, ([] : Inner)) := by rw [mget_put, if_pos rfl]
  obtain ⟨w4, u2, hM4, f4, hs4⟩ := run_mapUpdate_f Tryd.underlying55 Tryd.underlying9 (HM3.out.inn _ (mget_mem hg3)) k Va.zero.enc
  rw [mput_mapV] at hM4
  have HM4 := Lib.hid (HM3.out.inner hg3 f4 hM4)
  have c4 := f4.keep c3 (by show ¬ p = w2.heap.size; omega)
  have k1 := cell_of_heap c4 1
  have k1' := free_of_heap c4 1
  simp only [List.getElem?_toArray, List.getElem?_cons_zero, List.getElem?_cons_succ] at k1 k2
  have C4 := Lib.hid c4
  simp only [Va.enc, Va.zero] at u2
  have hle := H.out.le
  clear c3 hM3 c4 hM4 hg3
  go_wp2
  go_ret
  have ht := tot_dput (datOf T) n k Va.zero
  rw [HS.out] at ht
  simp only [Bool.false_eq_true, if_false] at ht
  have hT : mput (mput T n (w2.heap.size, [])) n (w2.heap.size, mput ([] : Inner) k Va.zero) = mput T n (w2.heap.size, [(k, Va.zero)]) := by
    rw [mput_new _ HG.out, mput_new _ HG.out]
    have : ∀ r : Tbl, mget r n = none → mput (r ++ [(n, w2.heap.size, [])]) n (w2.heap.size, mput ([] : Inner) k Va.zero) = r ++ [(n, w2.heap.size, [(k, Va.zero)])] := by
      intro r
      induction r with
      | nil => intro _; simp [mput]
      | cons t r ih =>
        obtain ⟨a, c⟩ := t
        intro hr
        by_cases ha : a = n
        · simp [mget, ha] at hr
        · simp only [mget, if_neg ha] at hr
          simpa [mput, ha] using ih hr
    exact this T HG.out
  have hd : datOf (mput T n (w2.heap.size, [(k, Va.zero)])) = dput (datOf T) n k Va.zero := by
    rw [datOf_put, dput]; congr 1; simp [datOf, mget_mapV, HG.out, mput]
  rw [hT] at HM4
  refine ⟨rfl, _, ArrT.size_set HM4.out C4.out (by rw [hd, ht]; rfl) lim0 limM (by rw [hd, ht]; push_cast; omega), hd, ?_, fun x hx => ?_⟩
  · have f23 := ((f2.mono (L' := foot p m T) fun _ _ q => q.elim).alloc (.map #[] 0)).trans f3 fun x hx => .inl (by subst hx; simp [foot])
    refine (f23.trans f4 fun x hx => .inr ?_).setCell _ _ (.inl (by simp [foot]))
    subst hx; exact f2.size
  · rcases (foot_add HG.out x).1 hx with h | h
    · exact .inl h
    · exact .inr (by rw [h]; exact f2.size)
theorem room_any {w : World} {p m : Nat} {T : Tbl} {lim : Int} (h : ArrT w p m T lim) (n k : ByteArray) :
    Calls Tryd.prog 21 #[.pointer (some ⟨p, 0, none⟩), .string n, .string k] w (RoomPost w p m T lim (roomR lim (datOf T) n k) (roomD lim (datOf T) n k)) := by
  unfold roomR roomD
  cases hs : (dget (datOf T) n k).isSome
  · simp only [Bool.false_eq_true, if_false]
    by_cases hl : lim ≤ tot (datOf T)
    · simp only [hl, if_true]; exact room_full h n k hs hl
    · simp only [hl, if_false]
      cases hg : mget T n with
      | none => exact room_new h n k hs hl hg
      | some x => exact room_old h n k hs hl hg
  · simp only [if_true]; exact room_has h n k hs
end Go.Proofs.YtckopgopbgicjaaDoor
end
section
namespace Go.Proofs.YtckopgopbgicjaaDoor
set_option linter.unusedVariables false
set_option linter.unusedSimpArgs false
open Go.RowKit Go.MapKept Go.ChangeMaps
theorem dget_dput (D : Dat) (n k : ByteArray) (v : Va) (n' k' : ByteArray) : dget (dput D n k v) n' k' = if n = n' ∧ k = k' then some v else dget D n' k' := by
 unfold dget dput
 rw [mget_put]
 by_cases hn : n = n'
 ·subst hn
  simp only [if_true, Option.bind, true_and, mget_put]
  by_cases hk : k = k'
  ·simp [hk]
  ·simp only [hk, if_false]
   cases mget D n <;> simp [mget]
 ·simp [hn]
theorem roomD_get (lim : Int) (D : Dat) (n k : ByteArray) (h : roomR lim D n k = 0) : ∃ v, dget (roomD lim D n k) n k = some v ∧ v = (dget D n k).getD Va.zero := by
 unfold roomR roomD at *
 split at h
 ·rename_i hs
  rw [if_pos hs]
  obtain ⟨v, hv⟩ := Option.isSome_iff_exists.1 hs
  exact ⟨v, hv, by rw [hv]; rfl⟩
 ·rename_i hs
  split at h
  ·simp at h
  ·rename_i hl
   rw [if_neg hs, if_neg hl]
   refine ⟨Va.zero, by simp [dget_dput], ?_⟩
   cases hd : dget D n k <;> simp_all
theorem dget_mget {T : Tbl} {n k : ByteArray} {v : Va} (h : dget (datOf T) n k = some v) : ∃ b M, mget T n = some (b, M) ∧ mget M k = some v := by
 rcases outer_get T n with ⟨h0, h1, h2⟩ | ⟨b, M, h0, h1, h2, h3⟩
 ·simp [dget, h2] at h
 ·exact ⟨b, M, h0, by simpa [dget, h2] using h⟩
def ArrPost (w : World) (p m : Nat) (T : Tbl) (lim : Int) (v : Value) (D' : Dat) (e : Ending) (w' : World) : Prop :=
 e = .returned v ∧ ∃ T', ArrT w' p m T' lim ∧ datOf T' = D' ∧ Fr (foot p m T) w w' ∧ ∀ k, foot p m T' k → foot p m T k ∨ w.heap.size ≤ k
def getV (lim : Int) (D : Dat) (n k : ByteArray) : Va := if roomR lim D n k = 0 then (dget D n k).getD Va.zero else Va.zero
theorem ArrM.lt {w : World} {p m : Nat} {T : Tbl} (h : ArrM w p m T) (hp : p < w.heap.size) {k : Nat} (hk : foot p m T k) : k < w.heap.size := by
 simp only [foot, List.mem_cons] at hk
 rcases hk with rfl | rfl | hk
 ·exact hp
 ·exact h.out.lt
 ·obtain ⟨t, ht, rfl⟩ := List.mem_map.1 hk
  exact (h.inn t ht).lt
theorem ArrT.lt {w : World} {p m : Nat} {T : Tbl} {lim : Int} (h : ArrT w p m T lim) {k : Nat} (hk : foot p m T k) : k < w.heap.size := h.toArrM.lt (lt_of_heap h.cells) hk
theorem ArrPost.close {w w1 w2 : World} {p m : Nat} {T T' : Tbl} {lim : Int} {o : Obj} {v : Value} {D' : Dat} (h : ¬ foot p m T w.heap.size) (hT' : ArrT w1 p m T' lim) (hd : datOf T' = D') (hf : Fr (foot p m T) (w.alloc o) w1)
    (hfoot : ∀ k, foot p m T' k → foot p m T k ∨ (w.alloc o).heap.size ≤ k) (h2 : Fr (· = w.heap.size) w1 w2) : ArrPost w p m T lim v D' (.returned v) w2 := by
  have hs : (w.alloc o).heap.size = w.heap.size + 1 := by simp
  refine ⟨rfl, T', hT'.fr h2 ?_, hd, ?_, fun k hk => (hfoot k hk).imp id (fun q => by omega)⟩
  · intro k hk e
    have e : k = w.heap.size := e
    subst e
    rcases hfoot _ hk with q | q
    · exact h q
    · omega
  · exact (((Fr.refl (foot p m T) w).alloc o).trans hf fun k hk => .inl hk).trans h2 fun k hk => .inr (by have : k = w.heap.size := hk; omega)
theorem setCell3 (w : World) (b : Nat) (x y z : Value) : Fr (· = b) w (((w.setCell ⟨b, 0, none⟩ x).setCell ⟨b, 1, none⟩ y).setCell ⟨b, 2, none⟩ z) :=
 (((Fr.refl (· = b) w).setCell _ _ (.inl rfl)).setCell _ _ (.inl rfl)).setCell _ _ (.inl rfl)
set_option maxHeartbeats 400000 in
set_option maxRecDepth 100000 in
theorem Get_any {w : World} {p m : Nat} {T : Tbl} {lim : Int} (h : ArrT w p m T lim) (n k : ByteArray) :
    Calls Tryd.prog 11 #[.pointer (some ⟨p, 0, none⟩), .string n, .string k] w
      (ArrPost w p m T lim (.tuple #[(getV lim (datOf T) n k).enc, .int .i64 (roomR lim (datOf T) n k)]) (roomD lim (datOf T) n k)) := by
  have hr : ∀ x, Calls Tryd.prog 21 #[.pointer (some ⟨p, 0, none⟩), .string n, .string k] (w.alloc x) _ := fun x => room_any (h.fr0 ((Fr.refl _ _).alloc x)) n k
  have hnl : ¬ foot p m T w.heap.size := fun q => absurd (h.lt q) (Nat.lt_irrefl _)
  have HN := Lib.hid hnl
  clear hnl
  by_cases hz : roomR lim (datOf T) n k = 0
  · have hv := Lib.hid (roomD_get lim (datOf T) n k hz)
    rw [getV, if_pos hz]
    rw [hz] at hr ⊢
    clear hz
    go_enter Tryd.func11, Tryd.ntmps11
    go_wp2_with fail
    refine (hr _).mono ?_
    clear hr
    rintro e w1 ⟨rfl, T', hT', hd, hf, hfoot⟩
    have H1 := Lib.hid hT'
    have HD := Lib.hid hd
    have HF := Lib.hid hfoot
    have N1 := hf.new HN.out
    have f0 := free_of_heap N1 0
    have f1 := free_of_heap N1 1
    have f2 := free_of_heap N1 2
    have c0 := cell_of_heap N1 0
    have c1 := cell_of_heap N1 1
    have c2 := cell_of_heap N1 2
    have d2 := cell_of_heap hT'.cells 2
    simp only [List.getElem?_toArray, List.getElem?_cons_zero, List.getElem?_cons_succ] at c0 c1 c2 d2
    obtain ⟨v, hv1, hv2⟩ := hv.out
    rw [← hd] at hv1
    obtain ⟨b, M, g1, g2⟩ := dget_mget hv1
    have l1 := run_lookup_m Tryd.underlying51 Tryd.underlying9 (zero_outer w1) hT'.out n false
    have l2 := run_lookup_m Tryd.underlying55 Tryd.underlying9 (zero_inner w1) (hT'.inn _ (mget_mem g1)) k false
    rw [lookRes, show mget (outer T') n = some (.map (some b)) from by simp [outer, mget_mapV, g1]] at l1
    rw [lookRes, mget_mapV, g2] at l2
    simp only [Option.getD, Option.map, Va.enc, Bool.false_eq_true, if_false] at l1 l2
    have HV2 := Lib.hid hv2
    clear hT' hd hfoot N1 hv1 hv2 g1 g2 hv
    go_wp2
    refine bodyPost_ret (v := .tuple #[.agg #[.int .i64 v.kind, .int .i64 v.num, .string v.str], .int .i64 0]) (by simp [results, Tryd.results11, go_sem, c0, c1, c2]) rfl ?_
    rw [← HV2.out]
    exact ArrPost.close HN.out H1.out HD.out hf HF.out (setCell3 _ _ _ _ _)
  · have e1 : (roomR lim (datOf T) n k != 0) = true := by simpa using hz
    rw [getV, if_neg hz]
    generalize roomR lim (datOf T) n k = r at *
    clear hz
    go_enter Tryd.func11, Tryd.ntmps11
    go_wp2_with fail
    refine (hr _).mono ?_
    clear hr
    rintro e w1 ⟨rfl, T', hT', hd, hf, hfoot⟩
    have H1 := Lib.hid hT'
    have HD := Lib.hid hd
    have HF := Lib.hid hfoot
    have N1 := hf.new HN.out
    have f0 := free_of_heap N1 0
    have f1 := free_of_heap N1 1
    have f2 := free_of_heap N1 2
    have c0 := cell_of_heap N1 0
    have c1 := cell_of_heap N1 1
    have c2 := cell_of_heap N1 2
    simp only [List.getElem?_toArray, List.getElem?_cons_zero, List.getElem?_cons_succ] at c0 c1 c2
    clear hT' hd hfoot N1
    go_wp2
    refine bodyPost_ret (v := .tuple #[.agg #[.int .i64 0, .int .i64 0, .string ⟨#[]⟩], .int .i64 r]) (by simp [results, Tryd.results11, go_sem, c0, c1, c2]) rfl ?_
    exact ArrPost.close HN.out H1.out HD.out hf HF.out (setCell3 _ _ _ _ _)
end Go.Proofs.YtckopgopbgicjaaDoor
end
section
namespace Go.Proofs.YtckopgopbgicjaaDoor
set_option linter.unusedVariables false
set_option linter.unusedSimpArgs false
open Go.RowKit Go.MapKept Go.ChangeMaps
def setD (lim : Int) (D : Dat) (n k : ByteArray) (v : Va) : Dat := if roomR lim D n k = 0 then dput D n k v else D
theorem roomD_bad (lim : Int) (D : Dat) (n k : ByteArray) (h : roomR lim D n k ≠ 0) : roomD lim D n k = D := by
 unfold roomR roomD at *
 split at h
 ·simp at h
 ·split at h
  ·rename_i h1 h2; rw [if_neg h1, if_pos h2]
  ·simp at h
theorem mput_put {α : Type} (M : List (ByteArray × α)) (n : ByteArray) (x y : α) : mput (mput M n x) n y = mput M n y := by
 induction M with
 | nil => simp [mput]
 | cons t r ih =>
  obtain ⟨a, c⟩ := t
  by_cases ha : a = n <;> simp [mput, ha, ih]
theorem dput_dput (D : Dat) (n k : ByteArray) (x y : Va) : dput (dput D n k x) n k y = dput D n k y := by
 simp only [dput, mget_put, if_true, Option.getD, mput_put]
theorem dput_roomD (lim : Int) (D : Dat) (n k : ByteArray) (v : Va) (h : roomR lim D n k = 0) : dput (roomD lim D n k) n k v = dput D n k v := by
 unfold roomR roomD at *
 split
 ·rfl
 ·split
  ·rfl
  ·rw [dput_dput]
theorem ArrT.inner {w w' : World} {p m : Nat} {T : Tbl} {lim : Int} (h : ArrT w p m T lim) {n : ByteArray} {b : Nat} {M M' : Inner} (hg : mget T n = some (b, M)) (hf : Fr (· = b) w w') (hM : MapAt w' b (mapV Va.enc M')) (hl : M'.length = M.length) : ArrT w' p m (mput T n (b, M')) lim := by
 have hb := h.ne_m (mget_mem hg)
 have ht := tot_put (datOf T) n M'
 rw [show mget (datOf T) n = some M from by simp [datOf, mget_mapV, hg]] at ht
 simp only [Option.getD] at ht
 have hd : tot (datOf (mput T n (b, M'))) = tot (datOf T) := by rw [datOf_put]; omega
 exact ⟨h.toArrM.inner hg hf hM, by rw [hd]; exact hf.keep h.cells (Ne.symm hb.2), h.lim0, h.limM, by rw [hd]; exact h.le⟩
theorem ArrPost.close2 {w w1 w2 : World} {p m : Nat} {T T' T'' : Tbl} {lim : Int} {o : Obj} {v : Value} {D' : Dat} (hT : ArrT w2 p m T'' lim) (hd : datOf T'' = D') (hf : Fr (foot p m T) (w.alloc o) w1)
    (hfoot : ∀ k, foot p m T' k → foot p m T k ∨ (w.alloc o).heap.size ≤ k) (h2 : Fr (foot p m T') w1 w2) (h3 : ∀ k, foot p m T'' k → foot p m T' k) : ArrPost w p m T lim v D' (.returned v) w2 := by
  have hs : (w.alloc o).heap.size = w.heap.size + 1 := by simp
  refine ⟨rfl, T'', hT, hd, ?_, fun k hk => (hfoot k (h3 k hk)).imp id (fun q => by omega)⟩
  exact (((Fr.refl (foot p m T) w).alloc o).trans hf fun k hk => .inl hk).trans h2 fun k hk => (hfoot k hk).imp id (fun q => by omega)
theorem foot_b {p m : Nat} {T : Tbl} {n : ByteArray} {b : Nat} {M : Inner} (h : mget T n = some (b, M)) : foot p m T b := by
 simp only [foot, List.mem_cons]; exact .inr (.inr (List.mem_map.2 ⟨_, mget_mem h, rfl⟩))
set_option maxHeartbeats 400000 in
set_option maxRecDepth 100000 in
theorem Set_any {w : World} {p m : Nat} {T : Tbl} {lim : Int} (h : ArrT w p m T lim) (n k : ByteArray) (v : Va) :
    Calls Tryd.prog 12 #[.pointer (some ⟨p, 0, none⟩), .string n, .string k, v.enc] w
      (ArrPost w p m T lim (.int .i64 (roomR lim (datOf T) n k)) (setD lim (datOf T) n k v)) := by
  have hr : ∀ x, Calls Tryd.prog 21 #[.pointer (some ⟨p, 0, none⟩), .string n, .string k] (w.alloc x) _ := fun x => room_any (h.fr0 ((Fr.refl _ _).alloc x)) n k
  have hnl : ¬ foot p m T w.heap.size := fun q => absurd (h.lt q) (Nat.lt_irrefl _)
  have HN := Lib.hid hnl
  clear hnl
  by_cases hz : roomR lim (datOf T) n k = 0
  · have hv := Lib.hid (roomD_get lim (datOf T) n k hz)
    have he := Lib.hid (dput_roomD lim (datOf T) n k v hz)
    rw [setD, if_pos hz]
    rw [hz] at hr ⊢
    clear hz
    unfold Va.enc
    go_enter Tryd.func12, Tryd.ntmps12
    go_wp2_with fail
    refine (hr _).mono ?_
    clear hr
    rintro e w1 ⟨rfl, T', hT', hd, hf, hfoot⟩
    have HD := Lib.hid hd
    have HF := Lib.hid hfoot
    have N1 := hf.new HN.out
    have NN := Lib.hid N1
    have c0 := cell_of_heap N1 0
    have c1 := cell_of_heap N1 1
    have c2 := cell_of_heap N1 2
    have d2 := cell_of_heap hT'.cells 2
    simp only [List.getElem?_toArray, List.getElem?_cons_zero, List.getElem?_cons_succ] at c0 c1 c2 d2
    obtain ⟨v0, hv1, hv2⟩ := hv.out
    rw [← hd] at hv1
    obtain ⟨b, M, g1, g2⟩ := dget_mget hv1
    have l1 := run_lookup_h Tryd.underlying51 Tryd.underlying9 zero_outer hT'.out n false (lookRes_some (v := .map (some b)) (by simp [outer, mget_mapV, g1])) w1.drew rfl
    have G1 := Lib.hid g1
    have G2 := Lib.hid g2
    have H1 := Lib.hid hT'
    clear hT' hd hfoot N1 hv1 hv2 g1 g2 hv
    go_wp2
    go_still_tail 8, (by kernel_rfl)
    change wpList _ _ _ _ _ w1.drew
    generalize hw2 : w1.drew = w2
    have f2 : Fr (fun _ => False) w1 w2 := by rw [← hw2]; exact (Fr.refl _ _).drew
    have H2 := Lib.hid (H1.out.fr0 f2)
    clear hw2 l1 c0 c1 c2 d2 H1
    obtain ⟨w3, u1, hM3, f3, hs3⟩ := run_mapUpdate_f Tryd.underlying55 Tryd.underlying9 (H2.out.inn _ (mget_mem G1.out)) k v.enc
    rw [mput_mapV] at hM3
    have hl : (mput M k v).length = M.length := by rw [mput_length, G2.out]; rfl
    have H3 := Lib.hid (H2.out.inner G1.out f3 hM3 hl)
    simp only [Va.enc] at u1
    have f23 := Lib.hid ((f2.mono (L' := (· = b)) fun _ _ q => q.elim).trans f3 fun k hk => .inl hk)
    have hd : datOf (mput T' n (b, mput M k v)) = dput (datOf T) n k v := by
      rw [← he.out, ← HD.out, datOf_put, dput]; congr 2; simp [datOf, mget_mapV, G1.out]
    have HD3 := Lib.hid hd
    clear hM3 hl f2 f3 hd
    go_wp2
    go_ret
    exact ArrPost.close2 H3.out HD3.out hf HF.out (f23.out.mono fun k _ hk => by rw [hk]; exact foot_b G1.out) fun k hk => (foot_put G1.out k).1 hk
  · have e1 : (roomR lim (datOf T) n k != 0) = true := by simpa using hz
    have hb := Lib.hid (roomD_bad lim (datOf T) n k hz)
    rw [setD, if_neg hz]
    generalize roomR lim (datOf T) n k = r at *
    clear hz
    unfold Va.enc
    go_enter Tryd.func12, Tryd.ntmps12
    go_wp2_with fail
    refine (hr _).mono ?_
    clear hr
    rintro e w1 ⟨rfl, T', hT', hd, hf, hfoot⟩
    have H1 := Lib.hid hT'
    rw [hb.out] at hd
    have HD := Lib.hid hd
    have HF := Lib.hid hfoot
    clear hT' hd hfoot
    go_wp2
    go_ret
    exact ArrPost.close HN.out H1.out HD.out hf HF.out (Fr.refl _ _)
def delD (D : Dat) (n k : ByteArray) : Dat :=
 match mget D n with
 | none => D
 | some M => if (mget M k).isSome then (if (mdel M k).length = 0 then mdel D n else mput D n (mdel M k)) else D
def NewPost (w : World) (lim : Int) (e : Ending) (w' : World) : Prop := ∃ p m, e = .returned (.pointer (some ⟨p, 0, none⟩)) ∧ ArrT w' p m [] lim ∧ Fr (fun _ => False) w w' ∧ ∀ k, foot p m [] k → w.heap.size ≤ k
theorem ArrT_new (w : World) (lim : Int) (h0 : 0 ≤ lim) (h1 : lim ≤ 4096) : ArrT ((w.alloc (.map #[] 0)).alloc (.cells #[.int .i64 lim, .int .i64 0, .map (some w.heap.size)] 53)) (w.heap.size + 1) w.heap.size [] lim :=
 ⟨⟨by simp, (MapAt.new w).alloc _, by simp⟩, by have := (MapKept.heap_alloc (w.alloc (.map #[] 0)) (.cells #[.int .i64 lim, .int .i64 0, .map (some w.heap.size)] 53)).1; simpa [datOf, mapV, tot] using this, h0, h1, by simpa [datOf, mapV, tot] using h0⟩
theorem NewPost_mk (w : World) (lim x : Int) (h0 : 0 ≤ lim) (h1 : lim ≤ 4096) (hx : x = lim) : NewPost w x (.returned (.pointer (some ⟨w.heap.size + 1, 0, none⟩))) ((w.alloc (.map #[] 0)).alloc (.cells #[.int .i64 lim, .int .i64 0, .map (some w.heap.size)] 53)) :=
 ⟨_, _, rfl, by rw [hx]; exact ArrT_new w lim h0 h1, ((Fr.refl _ _).alloc _).alloc _, by simp [foot]⟩
set_option maxHeartbeats 400000 in
theorem New_any (x : Int) (w : World) : Calls Tryd.prog 10 #[.int .i64 x] w (NewPost w (min (max x 0) 4096)) := by
 have hmm := @run_makeMap Tryd.prog
 go_enter Tryd.func10, Tryd.ntmps10
 go_wp2
 all_goals go_ret
 all_goals exact NewPost_mk _ _ _ (by omega) (by omega) (by omega)
set_option maxHeartbeats 400000 in
theorem Size_any {w : World} {p m : Nat} {T : Tbl} {lim : Int} (h : ArrT w p m T lim) :
    Calls Tryd.prog 13 #[.pointer (some ⟨p, 0, none⟩)] w fun e w' => e = .returned (.int .i64 (tot (datOf T))) ∧ w = w' := by
  have c := cell_of_heap h.cells 1
  simp only [List.getElem?_toArray, List.getElem?_cons_zero, List.getElem?_cons_succ] at c
  clear h
  go_enter Tryd.func13, Tryd.ntmps13
  go_wp2
  go_ret
  exact ⟨rfl, rfl⟩
end Go.Proofs.YtckopgopbgicjaaDoor
end
section
namespace Go.Proofs.YtckopgopbgicjaaDoor
set_option linter.unusedVariables false
set_option linter.unusedSimpArgs false
open Go.RowKit Go.MapKept Go.ChangeMaps
end Go.Proofs.YtckopgopbgicjaaDoor
end
section
namespace Go.Proofs.YtckopgopbgicjaaDoor
set_option linter.unusedVariables false
set_option linter.unusedSimpArgs false
open Go.RowKit Go.MapKept Go.ChangeMaps
structure Cl where
 kind : Int
 name : ByteArray
 key : ByteArray
 val : Va
def Cl.cells (c : Cl) : Array Value := #[.int .u8 c.kind, .string c.name, .string c.key, .int .i64 c.val.kind, .int .i64 c.val.num, .string c.val.str]
def stepV (lim : Int) (D : Dat) (c : Cl) : Va := if c.kind % 6 = 0 then getV lim D c.name c.key else Va.zero
def stepR (lim : Int) (D : Dat) (c : Cl) : Int := if c.kind % 6 = 0 then roomR lim D c.name c.key else if c.kind % 6 = 1 then roomR lim D c.name c.key else 0
def stepD (lim : Int) (D : Dat) (c : Cl) : Dat :=
 if c.kind % 6 = 0 then roomD lim D c.name c.key else if c.kind % 6 = 1 then setD lim D c.name c.key c.val
 else if c.kind % 6 = 2 then delD D c.name c.key else if c.kind % 6 = 3 then mdel D c.name else D
end Go.Proofs.YtckopgopbgicjaaDoor
end
section
namespace Go.Proofs.YtckopgopbgicjaaDoor
set_option linter.unusedVariables false
set_option linter.unusedSimpArgs false
open Go.RowKit Go.MapKept Go.ChangeMaps
abbrev bA : ByteArray := ⟨#[97]⟩
abbrev bB : ByteArray := ⟨#[98]⟩
abbrev bX : ByteArray := ⟨#[120]⟩
def d1 : Dat := [(bA, [(bX, Va.zero)])]
def v15 : Va := ⟨1, 5, ⟨#[]⟩⟩
def d2 : Dat := [(bA, [(bX, v15)])]
theorem aw1 : roomR 1 [] bA bX = 0 := by decide +kernel
theorem aw2 : roomD 1 [] bA bX = d1 := by decide +kernel
theorem aw3 : getV 1 [] bA bX = Va.zero := by decide +kernel
theorem aw4 : roomR 1 d1 bB bX = 3 := by decide +kernel
theorem aw5 : setD 1 d1 bB bX v15 = d1 := by decide +kernel
theorem aw6 : roomR 1 d1 bA bX = 0 := by decide +kernel
theorem aw7 : setD 1 d1 bA bX v15 = d2 := by decide +kernel
theorem aw8 : roomR 1 d2 bA bX = 0 := by decide +kernel
theorem aw9 : roomD 1 d2 bA bX = d2 := by decide +kernel
theorem aw10 : getV 1 d2 bA bX = v15 := by decide +kernel
theorem aw11 : tot d2 = 1 := by decide +kernel
def Mid (lim : Int) (w w1 : World) (p m : Nat) (D : Dat) (K : List (Nat × Obj)) : Prop :=
 ∃ T, ArrT w1 p m T lim ∧ datOf T = D ∧ Fr (fun _ => False) w w1 ∧ (∀ k, foot p m T k → w.heap.size ≤ k) ∧ ∀ x ∈ K, w1.heap[x.1]? = some x.2 ∧ ¬ foot p m T x.1
theorem Mid.call {lim : Int} {w w1 w2 : World} {p m : Nat} {T : Tbl} {D' : Dat} {K : List (Nat × Obj)} {v : Value} {e : Ending} (hf : Fr (fun _ => False) w w1) (hfoot : ∀ k, foot p m T k → w.heap.size ≤ k)
    (hK : ∀ x ∈ K, w1.heap[x.1]? = some x.2 ∧ ¬ foot p m T x.1) (h : ArrPost w1 p m T lim v D' e w2) : e = .returned v ∧ Mid lim w w2 p m D' K := by
  obtain ⟨he, T', hT', hd, hf', hfo⟩ := h
  refine ⟨he, T', hT', hd, hf.trans hf' fun k hk => .inr (hfoot k hk), fun k hk => (hfo k hk).elim (fun q => hfoot k q) (fun q => by have := hf.size; omega), fun x hx => ?_⟩
  obtain ⟨h1, h2⟩ := hK x hx
  refine ⟨hf'.keep h1 h2, fun q => (hfo _ q).elim h2 fun q => ?_⟩
  have := lt_of_heap h1
  omega
theorem Mid.alloc {lim : Int} {w w1 : World} {p m : Nat} {D : Dat} {K : List (Nat × Obj)} (h : Mid lim w w1 p m D K) (o : Obj) : Mid lim w (w1.alloc o) p m D ((w1.heap.size, o) :: K) := by
 obtain ⟨T, hT, hd, hf', hfo, hK⟩ := h
 refine ⟨T, hT.fr0 ((Fr.refl _ _).alloc _), hd, hf'.alloc _, hfo, fun x hx => ?_⟩
 rcases List.mem_cons.1 hx with rfl | hx
 ·exact ⟨(MapKept.heap_alloc w1 o).1, fun q => absurd (hT.lt q) (Nat.lt_irrefl _)⟩
 ·exact ⟨(heap_alloc_lt _ _ (lt_of_heap (hK x hx).1)).trans (hK x hx).1, (hK x hx).2⟩
theorem Mid.at_ {lim : Int} {w w1 : World} {p m : Nat} {D : Dat} {K : List (Nat × Obj)} (h : Mid lim w w1 p m D K) {b : Nat} {o : Obj} (hx : (b, o) ∈ K) : w1.heap[b]? = some o := by
 obtain ⟨T, hT, hd, hf', hfo, hK⟩ := h
 exact (hK _ hx).1
section
variable {lim : Int} {w w1 : World} {p m : Nat} {D : Dat} {K : List (Nat × Obj)}
theorem New_mid (x : Int) (w : World) : Calls Tryd.prog 10 #[.int .i64 x] w fun e w' => ∃ p m, e = .returned (.pointer (some ⟨p, 0, none⟩)) ∧ Mid (min (max x 0) 4096) w w' p m [] [] :=
 (New_any x w).mono fun e w' ⟨p, m, h1, h2, h3, h4⟩ => ⟨p, m, h1, [], h2, rfl, h3, h4, by simp⟩
theorem Get_mid (h : Mid lim w w1 p m D K) (n k : ByteArray) {r : Int} {D' : Dat} {g : Va} (e1 : roomR lim D n k = r) (e2 : roomD lim D n k = D') (e3 : getV lim D n k = g) :
    Calls Tryd.prog 11 #[.pointer (some ⟨p, 0, none⟩), .string n, .string k] w1 fun e w2 => e = .returned (.tuple #[.agg #[.int .i64 g.kind, .int .i64 g.num, .string g.str], .int .i64 r]) ∧ Mid lim w w2 p m D' K := by
  obtain ⟨T, hT, rfl, hf', hfo, hK⟩ := h
  subst e1 e2 e3
  exact (Get_any hT n k).mono fun e w2 hp => Mid.call hf' hfo hK hp
theorem Set_mid (h : Mid lim w w1 p m D K) (n k : ByteArray) (x y : Int) (z : ByteArray) {r : Int} {D' : Dat} (e1 : roomR lim D n k = r) (e2 : setD lim D n k ⟨x, y, z⟩ = D') :
    Calls Tryd.prog 12 #[.pointer (some ⟨p, 0, none⟩), .string n, .string k, .agg #[.int .i64 x, .int .i64 y, .string z]] w1 fun e w2 => e = .returned (.int .i64 r) ∧ Mid lim w w2 p m D' K := by
  obtain ⟨T, hT, rfl, hf', hfo, hK⟩ := h
  subst e1 e2
  exact (Set_any hT n k ⟨x, y, z⟩).mono fun e w2 hp => Mid.call hf' hfo hK hp
theorem Size_mid (h : Mid lim w w1 p m D K) {r : Int} (e1 : (tot D : Int) = r) : Calls Tryd.prog 13 #[.pointer (some ⟨p, 0, none⟩)] w1 fun e w2 => e = .returned (.int .i64 r) ∧ w1 = w2 := by
 obtain ⟨T, hT, rfl, hf', hfo, hK⟩ := h
 rw [← e1]
 exact Size_any hT
theorem Mid.fr (h : Mid lim w w1 p m D K) : Fr (fun _ => False) w w1 := by obtain ⟨T, hT, rfl, hf', hfo, hK⟩ := h; exact hf'
end
set_option maxHeartbeats 800000 in
set_option maxRecDepth 100000 in
theorem awake45 (w : World) : Calls Tryd.prog 6 #[] w fun e w' => e = .returned (.bool true) ∧ Fr (fun _ => False) w w' := by
 go_enter Tryd.func6, Tryd.ntmps6
 go_wp2_with fail
 refine (New_mid 1 _).mono ?_
 rintro e w1 ⟨p, m, rfl, hm⟩
 rw [show min (max (1 : Int) 0) 4096 = 1 from by decide] at hm
 have M1 := Lib.hid hm
 clear hm
 go_wp2_with fail
 refine (Get_mid M1.out bA bX aw1 aw2 aw3).mono ?_
 rintro e w2 ⟨rfl, hm⟩
 have M2 := Lib.hid ((hm.alloc (.cells #[.int .i64 0, .int .i64 0, .string ⟨#[]⟩] 29)).alloc (.cells #[.int .i64 1, .int .i64 5, .string ⟨#[]⟩] 29))
 clear hm M1
 unfold Va.zero
 simp only
 go_wp2_with fail
 refine (Set_mid M2.out bB bX 1 5 ⟨#[]⟩ aw4 aw5).mono ?_
 rintro e w3 ⟨rfl, hm⟩
 have M3 := Lib.hid hm
 have k2 := hm.at_ (List.mem_cons_self ..)
 have k1 := hm.at_ (List.mem_cons_of_mem _ (List.mem_cons_self ..))
 rw [World.size_alloc] at k2
 have c0 := cell_of_heap k2 0
 have c1 := cell_of_heap k2 1
 have c2 := cell_of_heap k2 2
 simp only [List.getElem?_toArray, List.getElem?_cons_zero, List.getElem?_cons_succ] at c0 c1 c2
 clear hm k1 k2
 go_wp2_with fail
 clear c0 c1 c2
 refine (Set_mid M3.out bA bX 1 5 ⟨#[]⟩ aw6 aw7).mono ?_
 rintro e w4 ⟨rfl, hm⟩
 have M4 := Lib.hid hm
 clear hm
 go_wp2_with fail
 refine (Get_mid M4.out bA bX aw8 aw9 aw10).mono ?_
 rintro e w5 ⟨rfl, hm⟩
 have M5 := Lib.hid (hm.alloc (.cells #[.int .i64 1, .int .i64 5, .string ⟨#[]⟩] 29))
 have k2 := hm.at_ (List.mem_cons_self ..)
 have k1 := hm.at_ (List.mem_cons_of_mem _ (List.mem_cons_self ..))
 rw [World.size_alloc] at k2
 have l1 := lt_of_heap k1
 have l2 := lt_of_heap k2
 have c0 := cell_of_heap k2 0
 have c1 := cell_of_heap k2 1
 have c2 := cell_of_heap k2 2
 have b0 := cell_of_heap k1 0
 have b1 := cell_of_heap k1 1
 have b2 := cell_of_heap k1 2
 simp only [List.getElem?_toArray, List.getElem?_cons_zero, List.getElem?_cons_succ] at c0 c1 c2 b0 b1 b2
 clear hm k1 k2
 unfold v15
 simp only
 go_wp2_with fail
 clear c0 c1 c2 b0 b1 b2
 refine (Size_mid M5.out (by rw [aw11])).mono ?_
 rintro e w6 ⟨rfl, rfl⟩
 go_wp2
 go_ret
 exact ⟨rfl, M5.out.fr⟩
end Go.Proofs.YtckopgopbgicjaaDoor
end
section
namespace Go.Proofs
open Go.Shelf
def Tryd.lays156_ren : Go.Shelf.Ren := ⟨fun | 156 => 8 | 165 => 16 | 166 => 17 | 169 => 18 | 240 => 24 | 241 => 25 | 276 => 31 | 277 => 32 | n => n, fun | 31 => 26 | 9 => 9 | 3 => 3 | 4 => 4 | 0 => 0 | 20 => 20 | 72 => 44 | 76 => 48 | 70 => 42 | 37 => 32 | 75 => 47 | 127 => 57 | 164 => 60 | 5 => 5 | 80 => 50 | n => n, fun | n => n⟩
theorem Tryd.lays156 : Go.Proofs.Lays.n156 Tryd.prog Tryd.lays156_ren := {
 mixed := by kernel_rfl
 f156 := Tryd.func8.trans (congrArg some (by kernel_rfl))
 f165 := Tryd.func16.trans (congrArg some (by kernel_rfl))
 f166 := Tryd.func17.trans (congrArg some (by kernel_rfl))
 f169 := Tryd.func18.trans (congrArg some (by kernel_rfl))
 f240 := Tryd.func24.trans (congrArg some (by kernel_rfl))
 f241 := Tryd.func25.trans (congrArg some (by kernel_rfl))
 f276 := Tryd.func31.trans (congrArg some (by kernel_rfl))
 f277 := Tryd.func32.trans (congrArg some (by kernel_rfl))
 t0 := Tryd.underlying0
 a0 := Tryd.isAgg0
 z0 := Tryd.sizeOf0
 v0 := Tryd.zeroValue0
 t3 := Tryd.underlying3
 a3 := Tryd.isAgg3
 z3 := Tryd.sizeOf3
 v3 := Tryd.zeroValue3
 t4 := Tryd.underlying4
 a4 := Tryd.isAgg4
 z4 := Tryd.sizeOf4
 v4 := Tryd.zeroValue4
 t9 := Tryd.underlying9
 a9 := Tryd.isAgg9
 z9 := Tryd.sizeOf9
 v9 := Tryd.zeroValue9
 t20 := Tryd.underlying20
 a20 := Tryd.isAgg20
 z20 := Tryd.sizeOf20
 v20 := Tryd.zeroValue20
 t31 := Tryd.underlying26
 a31 := Tryd.isAgg26
 z31 := Tryd.sizeOf26
 v31 := Tryd.zeroValue26
 t37 := Tryd.underlying32
 a37 := Tryd.isAgg32
 z37 := Tryd.sizeOf32
 v37 := Tryd.zeroValue32
 t70 := Tryd.underlying42
 a70 := Tryd.isAgg42
 z70 := Tryd.sizeOf42
 v70 := Tryd.zeroValue42
 t72 := Tryd.underlying44
 a72 := Tryd.isAgg44
 z72 := Tryd.sizeOf44
 v72 := Tryd.zeroValue44
 t75 := Tryd.underlying47
 a75 := Tryd.isAgg47
 z75 := Tryd.sizeOf47
 v75 := Tryd.zeroValue47
 t76 := Tryd.underlying48
 a76 := Tryd.isAgg48
 z76 := Tryd.sizeOf48
 v76 := Tryd.zeroValue48
 t127 := Tryd.underlying57
 a127 := Tryd.isAgg57
 z127 := Tryd.sizeOf57
 v127 := Tryd.zeroValue57
 t164 := Tryd.underlying60
 a164 := Tryd.isAgg60
 z164 := Tryd.sizeOf60
 v164 := Tryd.zeroValue60 }
theorem Tryd.Builder_Extra_156 : Builder.Extra Tryd.prog Tryd.lays156_ren := {
 sizeBuilder := by kernel_rfl
 liesBuilder := by kernel_rfl
 t5 := Tryd.underlying5
 a5 := Tryd.isAgg5
 z5 := Tryd.sizeOf5
 v5 := Tryd.zeroValue5
 infoByte := by kernel_rfl
 cellsByte := by kernel_rfl
 sizeByte := by kernel_rfl
 neB5 := by decide }
open Go.RowKit in
theorem Tryd.strings_Join_none (a : Option Addr) (c : Nat) (sep : ByteArray) (w : World) :
    Calls Tryd.prog 8 #[.slice a 0 c, .string sep] w fun e w' => e = .returned (.string ⟨#[]⟩) ∧ w' = w := Any.strings_Join_none Tryd.lays156 Tryd.Builder_Extra_156 a c sep w
open Go.RowKit in
theorem Tryd.strings_Join (bk o c : Nat) (xs : List ByteArray) (sep : ByteArray) (w : World) (hcells : ∀ (j : Nat) x, xs[j]? = some x → w.cell? ⟨bk, o + j, none⟩ = some (.string x)) (hbk : bk < w.heap.size) (hN : xs.length ≤ 140737488355328) (hcap : xs.length ≤ c) (hlen : (Lib.join (xs.map (·.data.toList)) sep.data.toList).length ≤ 140737488355328) :
    Calls Tryd.prog 8 #[.slice (some ⟨bk, o, none⟩) xs.length c, .string sep] w fun e w' => e = .returned (.string ⟨(Lib.join (xs.map (·.data.toList)) sep.data.toList).toArray⟩) ∧ Below w.heap.size w w' := Any.strings_Join Tryd.lays156 Tryd.Builder_Extra_156 bk o c xs sep w hcells hbk hN hcap hlen
def Tryd.laysM171_ren : Go.Shelf.Ren := ⟨fun | 171 => 30 | 243 => 33 | 246 => 34 | 283 => 35 | 284 => 36 | 285 => 37 | 286 => 38 | 129 => 40 | 317 => 39 | 318 => 41 | 319 => 42 | 320 => 43 | 337 => 44 | 338 => 45 | n => n, fun | 3 => 3 | 9 => 9 | 2 => 2 | 4 => 4 | 171 => 65 | 0 => 0 | 53 => 66 | 37 => 32 | 5 => 5 | 173 => 69 | 212 => 73 | 51 => 74 | 20 => 20 | 213 => 75 | 46 => 77 | 232 => 80 | 233 => 81 | n => n, fun | 17 => 1 | 18 => 2 | 19 => 3 | n => n⟩
theorem Tryd.laysM171 : Go.Proofs.LaysM.n171 Tryd.prog Tryd.laysM171_ren := {
 mixed := by kernel_rfl
 f129 := Tryd.func40.trans (congrArg some (by kernel_rfl))
 f171 := Tryd.func30.trans (congrArg some (by kernel_rfl))
 f243 := Tryd.func33.trans (congrArg some (by kernel_rfl))
 f246 := Tryd.func34.trans (congrArg some (by kernel_rfl))
 f283 := Tryd.func35.trans (congrArg some (by kernel_rfl))
 f284 := Tryd.func36.trans (congrArg some (by kernel_rfl))
 f285 := Tryd.func37.trans (congrArg some (by kernel_rfl))
 f286 := Tryd.func38.trans (congrArg some (by kernel_rfl))
 f317 := Tryd.func39.trans (congrArg some (by kernel_rfl))
 f318 := Tryd.func41.trans (congrArg some (by kernel_rfl))
 f319 := Tryd.func42.trans (congrArg some (by kernel_rfl))
 f320 := Tryd.func43.trans (congrArg some (by kernel_rfl))
 f337 := Tryd.func44.trans (congrArg some (by kernel_rfl))
 f338 := Tryd.func45.trans (congrArg some (by kernel_rfl))
 t0 := Tryd.underlying0
 a0 := Tryd.isAgg0
 z0 := Tryd.sizeOf0
 v0 := Tryd.zeroValue0
 t2 := Tryd.underlying2
 a2 := Tryd.isAgg2
 z2 := Tryd.sizeOf2
 v2 := Tryd.zeroValue2
 t3 := Tryd.underlying3
 a3 := Tryd.isAgg3
 z3 := Tryd.sizeOf3
 v3 := Tryd.zeroValue3
 t4 := Tryd.underlying4
 a4 := Tryd.isAgg4
 z4 := Tryd.sizeOf4
 v4 := Tryd.zeroValue4
 t5 := Tryd.underlying5
 a5 := Tryd.isAgg5
 z5 := Tryd.sizeOf5
 v5 := Tryd.zeroValue5
 t9 := Tryd.underlying9
 a9 := Tryd.isAgg9
 z9 := Tryd.sizeOf9
 v9 := Tryd.zeroValue9
 t20 := Tryd.underlying20
 a20 := Tryd.isAgg20
 z20 := Tryd.sizeOf20
 v20 := Tryd.zeroValue20
 t37 := Tryd.underlying32
 a37 := Tryd.isAgg32
 z37 := Tryd.sizeOf32
 v37 := Tryd.zeroValue32
 t46 := Tryd.underlying77
 a46 := Tryd.isAgg77
 z46 := Tryd.sizeOf77
 v46 := Tryd.zeroValue77
 t51 := Tryd.underlying74
 a51 := Tryd.isAgg74
 z51 := Tryd.sizeOf74
 v51 := Tryd.zeroValue74
 t53 := Tryd.underlying66
 a53 := Tryd.isAgg66
 z53 := Tryd.sizeOf66
 v53 := Tryd.zeroValue66
 t171 := Tryd.underlying65
 a171 := Tryd.isAgg65
 z171 := Tryd.sizeOf65
 v171 := Tryd.zeroValue65
 t173 := Tryd.underlying69
 a173 := Tryd.isAgg69
 z173 := Tryd.sizeOf69
 v173 := Tryd.zeroValue69
 t212 := Tryd.underlying73
 a212 := Tryd.isAgg73
 z212 := Tryd.sizeOf73
 v212 := Tryd.zeroValue73
 t213 := Tryd.underlying75
 a213 := Tryd.isAgg75
 z213 := Tryd.sizeOf75
 t232 := Tryd.underlying80
 a232 := Tryd.isAgg80
 z232 := Tryd.sizeOf80
 v232 := Tryd.zeroValue80
 t233 := Tryd.underlying81
 a233 := Tryd.isAgg81
 z233 := Tryd.sizeOf81
 v233 := Tryd.zeroValue81
 g17 := by kernel_rfl
 g18 := by kernel_rfl
 g19 := by kernel_rfl
 i0 := by kernel_rfl
 i2 := by kernel_rfl
 i3 := by kernel_rfl
 i4 := by kernel_rfl
 i5 := by kernel_rfl
 i9 := by kernel_rfl
 i20 := by kernel_rfl
 i37 := by kernel_rfl
 i46 := by kernel_rfl
 i51 := by kernel_rfl
 i53 := by kernel_rfl
 i171 := by kernel_rfl
 i173 := by kernel_rfl
 i212 := by kernel_rfl
 i232 := by kernel_rfl
 i233 := by kernel_rfl
 m17 := by kernel_rfl
 m18 := by kernel_rfl
 m19 := by kernel_rfl }
open Go.RowKit Go.Sort Go.Lib in
theorem Tryd.strconv_Itoa (n : Int) (h0 : -9223372036854775808 ≤ n) (h1 : n ≤ 9223372036854775807) (w : World) (htab : Lib.TabIs Tryd.prog w "internal/strconv.uint64pow10" .u64 Lib.pow10Tab) :
    Calls Tryd.prog 30 #[.int .i64 n] w fun e w' => e = .returned (.string ⟨(Lib.itoa n).toArray⟩) ∧ ∃ k os, w' = grow (w.drewN k) os := Any.strconv_Itoa Tryd.laysM171 n h0 h1 w htab
end Go.Proofs
end
section
namespace Go.Proofs.YtckopgopbgicjaaDoor
set_option linter.unusedVariables false
set_option linter.unusedSimpArgs false
set_option maxRecDepth 100000
open Go.RowKit
theorem gr_cells {w : World} {S : Nat → Nat → Prop} {g : Nat} {l : List AV} (h : GR S w []) (hg : GT g = some l) (hl : 0 < l.length) : ∃ (cs : Array Value) (t : TypeId) (fz : Nat × Nat), w.heap[g]? = some (.cells cs t fz) ∧ cs.size = l.length ∧ ∀ (j : Nat) (y : AV), l[j]? = some y → ∃ u, cs[j]? = some u ∧ Rep S w [] u y := by
 obtain ⟨h1, h2⟩ := h g l hg
 cases h1 with
 | rptr b o u hgr hcell hrep =>
  have h0 := (hcell 0 _ (List.getElem?_eq_getElem hl)).1
  simp only [World.cell?] at h0
  split at h0
  ·rename_i cs t fz hh
   have hc : ∀ j, w.cell? ⟨g, j, none⟩ = cs[j]? := fun j => by simp [World.cell?, hh]
   refine ⟨cs, t, fz, hh, ?_, fun j y hy => ⟨u j, ?_, hrep j y hy⟩⟩
   ·have hn := (h2 l.length (Nat.le_refl _)).2
    rw [hc] at hn
    have h3 : cs.size ≤ l.length := by
     rcases Nat.lt_or_ge l.length cs.size with q | q
     ·rw [Array.getElem?_eq_getElem q] at hn; cases hn
     ·exact q
    have h4 := (hcell (l.length - 1) _ (List.getElem?_eq_getElem (by omega))).1
    rw [hc] at h4
    have := (Array.getElem?_eq_some_iff.1 h4).1
    omega
   ·have := (hcell j y hy).1
    rw [Nat.zero_add, hc] at this
    exact this
  ·cases h0
theorem gr_tab {w : World} {S : Nat → Nat → Prop} {g : Nat} {n : String} (h : GR S w []) (hn : Tryd.prog.globalNamed n = some g) (hg : GT g = some (ints64 pow10L)) : Lib.TabIs Tryd.prog w n .u64 Lib.pow10Tab := by
 obtain ⟨cs, t, fz, hh, hs, hc⟩ := gr_cells h hg (by decide)
 unfold Lib.TabIs World.var?
 rw [hn]
 simp only [Option.bind_some, hh, Option.some.injEq]
 have hl : (ints64 pow10L).length = 20 := rfl
 have hp : ∀ j, j < 20 → (ints64 pow10L)[j]? = some (.val (.int .u64 ((10 ^ j : Nat) : Int))) := fun j hj => by
  have h : ∀ i : Fin 20, pow10L[i.val]? = some (10 ^ i.val) := by decide +kernel
  unfold ints64
  rw [List.getElem?_map, h ⟨j, hj⟩]; rfl
 apply Array.ext
 ·rw [hs, hl]; simp [Lib.pow10Tab]
 ·intro i h1 h2
  have hi : i < 20 := by omega
  obtain ⟨u, hu, hr⟩ := hc i _ (hp i hi)
  have e := rep_val hr
  subst e
  rw [Array.getElem?_eq_getElem h1] at hu
  rw [Option.some.inj hu]
  simp [Lib.pow10Tab]
theorem val1 {w : World} {S : Nat → Nat → Prop} {cs : Array Value} {a : Value} (h : RepL S w [] cs [.val a]) : cs = #[a] := by
 obtain ⟨hn, hr⟩ := h
 have e0 := rep_val (hr 0 _ rfl)
 apply Array.ext
 ·simpa using hn
 ·intro i h1 h2
  have h3 : i = 0 := by simp at h2; omega
  subst h3
  rw [Array.getD_eq_getD_getElem?, Array.getElem?_eq_getElem h1] at e0
  exact e0
def itoaX : List AV → Option AV
 | [.val (.int .i64 n)] => if InI64 n then some (strL (Lib.itoa n)) else none
 | _ => none
theorem itoaX_ok {vs : List AV} {r : AV} (h : itoaX vs = some r) : CallOk Tryd.prog 30 vs r := by
 unfold itoaX at h
 split at h
 ·rename_i n
  split at h
  ·rename_i hn
   cases h
   intro X w cs hX hG hr
   obtain rfl := val1 hr
   refine (Tryd.strconv_Itoa n hn.1 hn.2 w (gr_tab (g := 1) hG (by kernel_rfl) rfl)).mono fun e w' ⟨he, k, os, hw⟩ => ?_
   subst he hw
   exact ⟨_, rfl, .val _ _, Fr.of_below (Lib.below_grow _ w (Nat.le_refl _) k os)⟩
  ·cases h
 ·cases h
theorem args2 {S : Nat → Nat → Prop} {w : World} {H : List Hd} {vs : Array Value} {x y : AV} (hr : RepL S w H vs [x, y]) : ∃ u v, vs = #[u, v] ∧ Rep S w H u x ∧ Rep S w H v y := by
 obtain ⟨h1, h2⟩ := hr
 match vs, h1 with
 | ⟨[u, v]⟩, _ => exact ⟨u, v, rfl, h2 0 x rfl, h2 1 y rfl⟩
def unstr : List AV → Option (List Bs)
 | [] => some []
 | .val (.string s) :: r => (unstr r).map (s.data.toList :: ·)
 | _ => none
theorem unstr_eq : ∀ {x : List AV} {a : List Bs}, unstr x = some a → x = a.map strL
 | [], a, h => by simp [unstr] at h; subst h; rfl
 | y :: r, a, h => by
  unfold unstr at h
  split at h
  ·rename_i e; cases e
  ·rename_i s r' e
   injection e with e1 e2
   subst e1 e2
   simp only [Option.map_eq_some_iff] at h
   obtain ⟨a', h', rfl⟩ := h
   rw [unstr_eq h']; rfl
  ·cases h
theorem unstr_strs : ∀ a : List Bs, unstr (a.map strL) = some a
 | [] => rfl
 | s :: r => by
  show (unstr (r.map strL)).map (s :: ·) = some (s :: r)
  rw [unstr_strs r]; rfl
def joinX : List AV → Option AV
 | [.slice 1 x, .val (.string sep)] => (match unstr x with
  | some a => if a.length ≤ 200000000 ∧ (Lib.join a sep.data.toList).length ≤ 140737488355328 then some (strL (Lib.join a sep.data.toList)) else none
  | none => none)
 | _ => none
theorem joinX_ok {vs : List AV} {r : AV} (h : joinX vs = some r) : CallOk Tryd.prog 8 vs r := by
 unfold joinX at h
 split at h
 ·rename_i x sep
  split at h
  ·rename_i a ha
   split at h
   ·rename_i hle
    injection h with h; subst h
    obtain rfl := unstr_eq ha
    intro X w cs hX hG hr
    obtain ⟨u, v, rfl, h1, h2⟩ := args2 hr
    obtain rfl := rep_val h2
    have hlen : (a.map strL).length = a.length := by simp
    generalize hx : a.map strL = x at h1 hlen
    cases h1 with
    | slice b off sz u hc hz hA hsz hcell hrep =>
     rename_i A c
     rw [hlen]
     by_cases hn : a.length = 0
     ·rw [hn]
      obtain rfl := List.eq_nil_of_length_eq_zero hn
      refine (Tryd.strings_Join_none A c sep w).mono fun e w' ⟨q1, q2⟩ => ?_
      subst q1 q2
      exact ⟨_, rfl, .val _ _, Fr.refl _ _⟩
     ·have hcl : ∀ (j : Nat) (y : ByteArray), (a.map ofL)[j]? = some y → w.cell? ⟨b, off + j, none⟩ = some (.string y) := fun j y hj => by
       have h0 : x[j]? = some (.val (.string y)) := by
        rw [← hx, List.getElem?_map]
        rw [List.getElem?_map] at hj
        cases hq : a[j]? with
        | none => rw [hq] at hj; cases hj
        | some z => rw [hq] at hj; cases hj; rfl
       have h1 := (hcell j _ 0 _ h0 rfl).1
       have h2 := rep_val (hrep j _ 0 _ h0 rfl)
       rw [h2] at h1
       simpa using h1
      have hb : b < w.heap.size := by
       have h0 : ∃ y, x[0]? = some y := ⟨x[0]'(by omega), List.getElem?_eq_getElem (by omega)⟩
       obtain ⟨y, h0⟩ := h0
       have hy : ∃ z : Bs, y = strL z := by
        rw [← hx, List.getElem?_map] at h0
        cases hq : a[0]? with
        | none => rw [hq] at h0; cases h0
        | some z => rw [hq] at h0; cases h0; exact ⟨z, rfl⟩
       obtain ⟨z, rfl⟩ := hy
       exact (hcell 0 _ 0 _ h0 rfl).2.1
      have hA' := hA (by omega)
      subst hA'
      have e : (a.map ofL).map (·.data.toList) = a := by
       rw [List.map_map]
       exact (List.map_congr_left fun s _ => rfl).trans (List.map_id a)
      have hJ := Tryd.strings_Join b off c (a.map ofL) sep w hcl hb (by simp; omega) (by simp; omega) (by rw [e]; exact hle.2)
      rw [e, List.length_map] at hJ
      exact hJ.mono fun e w' ⟨q1, q2⟩ => ⟨_, q1, .val _ _, Fr.of_below q2⟩
   ·cases h
  ·cases h
 ·cases h
def awX : List AV → Option AV
 | [] => some (boolA true)
 | _ => none
theorem awX_ok {vs : List AV} {r : AV} (h : awX vs = some r) : CallOk Tryd.prog 6 vs r := by
 unfold awX at h
 split at h
 ·cases h
  intro X w cs hX hG hr
  obtain rfl : cs = #[] := by
   have := hr.1
   simpa using this
  exact (awake45 w).mono fun e w' ⟨q1, q2⟩ => ⟨_, q1, .val _ _, q2⟩
 ·cases h
def XS : CallF := ⟨fun f vs => if f = 30 then itoaX vs else if f = 8 then joinX vs else if f = 6 then awX vs else none, fun _ _ _ => none⟩
theorem XS_ok : CallsOk Tryd.prog XS := by
 refine ⟨fun f vs r h => ?_, fun f vs m r m' h => by cases h⟩
 simp only [XS] at h
 split at h
 ·rename_i hf; subst hf; exact itoaX_ok h
 split at h
 ·rename_i hf; subst hf; exact joinX_ok h
 split at h
 ·rename_i hf; subst hf; exact awX_ok h
 cases h
theorem XS_aj : AjC XS where
 itoa n hn := R_ext rfl (by
  show itoaX [intA n] = _
  simp only [itoaX, intA]
  rw [if_pos hn])
 join l sep h1 h2 := R_ext rfl (by
  show joinX [.slice 1 (l.map strL), strL sep] = _
  have e : (ofL sep).data.toList = sep := rfl
  simp only [joinX, strL]
  rw [unstr_strs l]
  simp only [e]
  rw [if_pos ⟨h1, h2⟩])
 aw := R_ext rfl rfl
end Go.Proofs.YtckopgopbgicjaaDoor
end
section
namespace Go.Proofs.YtckopgopbgicjaaDoor
set_option linter.unusedVariables false
set_option linter.unusedSimpArgs false
set_option maxRecDepth 100000
set_option maxHeartbeats 2000000
theorem joins_law (l : List Vl) (h : ∀ v ∈ l, InI64 v.n ∧ InI64 v.k) (hl : l.length ≤ 1048576) (hj : Lib.lens (l.map vlT) ≤ 100000000) : (R FT XS).f 3 [.slice 3 (l.map encVl)] = some (boolA true) := by
 have k3 := key3_run XS_aj l h hl hj
 have k2 := key2_run (X := XS) l h hl hj
 have aw := XS_aj.aw
 refine R_wp ((Tr.c (strL (Lib.join (List.map vlT l) [(28 : UInt8)])) (Tr.c (strL (Lib.join (List.map vlT l) [(28 : UInt8)])) ((Tr.c (boolA true) Tr.nil).br Tr.nil))).w) rfl ?_
 refine Eq.mpr (by kernel_rfl : _ = ((R FT XS).f 4 [AV.slice 3 (List.map encVl l)] = some (strL (Lib.join (List.map vlT l) [(28 : UInt8)])) ∧ (R FT XS).f 5 [AV.slice 3 (List.map encVl l)] = some (strL (Lib.join (List.map vlT l) [(28 : UInt8)])) ∧ (decide (Lib.join (List.map vlT l) [(28 : UInt8)] = Lib.join (List.map vlT l) [(28 : UInt8)]) = true → (R FT XS).f 6 [] = some (boolA true) ∧ true = true) ∧ (decide (Lib.join (List.map vlT l) [(28 : UInt8)] = Lib.join (List.map vlT l) [(28 : UInt8)]) = false → false = true))) ?_
 refine ⟨(k3), (k2), fun h1_ => have h1 := dT h1_; ⟨(aw), rfl⟩, fun h2_ => have h2 := dF h2_; ?_⟩
 exact absurd rfl h2
end Go.Proofs.YtckopgopbgicjaaDoor
end
