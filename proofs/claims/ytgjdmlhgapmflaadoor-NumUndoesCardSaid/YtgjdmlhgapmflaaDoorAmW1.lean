/- The abstract machine: what is to be shown of a run: a proposition that the machine itself writes down. -/
import Derived.Test.YtgjdmlhgapmflaaDoorAm20
namespace Go.Proofs.YtgjdmlhgapmflaaDoor
set_option linter.unusedVariables false
set_option linter.unusedSimpArgs false

abbrev Bs := List UInt8
def ofL (l : Bs) : ByteArray := ⟨l.toArray⟩
def toL (s : ByteArray) : Bs := s.data.toList
def strL (l : Bs) : AV := .val (.string (ofL l))
def intA (n : Int) : AV := .val (.int .i64 n)
def u8A (c : UInt8) : AV := .val (.int .u8 c.toNat)
def boolA (b : Bool) : AV := .val (.bool b)
theorem ofL_toL (s : ByteArray) : ofL (toL s) = s := rfl
theorem toL_ofL (l : Bs) : toL (ofL l) = l := rfl
theorem wrap64_id {n : Int} (h1 : -9223372036854775808 ≤ n) (h2 : n ≤ 9223372036854775807) : IntKind.i64.wrap n = n := IntWalk.i64_in _ (by omega)
theorem ofL_inj {a b : Bs} (h : ofL a = ofL b) : a = b := by rw [← toL_ofL a, h]; rfl
def InI64 (n : Int) : Prop := -9223372036854775808 ≤ n ∧ n ≤ 9223372036854775807
instance (n : Int) : Decidable (InI64 n) := by unfold InI64; infer_instance

/-- what the walk is told -/
inductive Tr : Type 1
  | nil
  | b (x : Bool) (r : Tr)
  | br (p q : Tr)
  | w (r : Tr)
  | raw (r : Tr)
  | k (n : Nat) (r : Tr)
  | sl (a b : Nat) (r : Tr)
  | ix {α : Type} (f : α → AV) (a : List α) (k : Nat) (r : α → Tr)
  | y (k : Nat) (r : UInt8 → Tr)
  | yk (k : Nat) (c : UInt8) (r : Tr)
  | un (n : Nat) (r : Tr)
  | bs (l : Bs) (r : Tr)
  | g (l : List AV) (r : Tr)
  | c (v : AV) (r : Tr)
  | cm (v : AV) (m : List MObj) (r : Tr)
  | inl (r : Tr)
  | mp {α : Type} (f : α → AV) (a : List (Bs × α)) (p : α → Tr) (q : Tr)
  | ms (es : List (Value × AV)) (r : Tr)
  | inv {ι : Type} (S : ι → St) (I : ι → Prop) (μ : ι → Nat) (r : ι → Tr)
  | lp (ex : AExit) (st : St) (r : Tr)
  | cut {ι : Type} (S : ι → St) (I : ι → Prop) (a : Tr) (r : ι → Tr)

/-- what is asked -/
inductive Ask where
  | stop (w : AOp)
  | t (b : Bool)
  | w (n : Int)
  | q (k : IntKind) (a b : Int)
  | r (a b : Int)
  | sh (b : Int)
  | ix (l : List AV) (n : Int)
  | ra (n : Int) (len : Nat)
  | ld (l : List AV) (i : Nat)
  | fin (n : Int) (i : Nat)
  | aa (n : Int) (i : Nat)
  | y (l : Bs) (n : Int)
  | len (l : List AV)
  | sl (len : Nat) (lo hi : Option Operand) (fr : List (Nat × AV))
  | cat (a b : Bs)
  | bs (l : List AV)
  | g (l : List AV) (off len : Nat)
  | call (f : FuncId) (vs : List AV)
  | callM (f : FuncId) (vs : List AV) (m : List MObj)
  | mp (es : List (Value × AV)) (k : Bs)
  | ms (es : List (Value × AV)) (k : Value) (v : AV)
  | app (l ly : List AV) (used : Nat)
  | n (a b : Int)
  | loop (c : ACode) (keep : List Nat) (st : St)
  | join (keep : List Nat) (st : St)
inductive StuckAt (_ : Ask) (_ : Tr → Prop) : Prop
theorem StuckAt.elim {a : Ask} {K : Tr → Prop} {p : Prop} (h : StuckAt a K) : p := nomatch h

def W (α : Type) := Tr → (α → Tr → Prop) → Prop
def SoundW {α : Type} (x : W α) (o : Option α) : Prop := ∀ T Q, x T Q → ∃ a T', o = some a ∧ Q a T'
def retW {α : Type} (a : α) : W α := fun T Q => Q a T
def bindW {α β : Type} (x : W α) (f : α → W β) : W β := fun T Q => x T fun a T' => f a T' Q
def askW {α : Type} (a : Ask) (q : Tr → (α → Tr → Prop) → Prop) : W α := fun T Q => match T with
  | .nil => StuckAt a fun T' => q T' Q
  | T => q T Q
def stopW {α : Type} (w : AOp) : W α := fun _ _ => StuckAt (.stop w) fun _ => False
def liftW {α : Type} (w : AOp) (o : Option α) : W α := fun T Q => match o with
  | some a => Q a T
  | none => StuckAt (.stop w) fun _ => False
def ifW {α : Type} (w : AOp) (c : Prop) [Decidable c] (x : W α) : W α := if c then x else stopW w
section
variable {α β : Type}
theorem SoundW.ret (a : α) : SoundW (retW a) (some a) := fun T _ h => ⟨a, T, rfl, h⟩
theorem SoundW.ret' {a : α} {o : Option α} (h : o = some a) : SoundW (retW a) o := h ▸ .ret a
theorem SoundW.bind {x : W α} {f : α → W β} {o : Option α} {g : α → Option β} (h : SoundW x o) (hf : ∀ a, o = some a → SoundW (f a) (g a)) : SoundW (bindW x f) (o.bind g) := fun T Q hq => by
  obtain ⟨a, T', h1, h2⟩ := h _ _ hq
  rw [h1]
  exact hf a h1 _ _ h2
theorem SoundW.bind' {x : W α} {f : α → W β} {o : Option α} {r : Option β} (h : SoundW x o) (hf : ∀ a, o = some a → SoundW (f a) r) : SoundW (bindW x f) r := fun T Q hq => by
  obtain ⟨a, T', h1, h2⟩ := h _ _ hq
  exact hf a h1 _ _ h2
theorem SoundW.ask {a : Ask} {q : Tr → (α → Tr → Prop) → Prop} {o : Option α} (h : ∀ T Q, q T Q → ∃ a T', o = some a ∧ Q a T') : SoundW (askW a q) o := fun T Q hq => by
  unfold askW at hq
  split at hq
  · exact hq.elim
  · exact h _ _ hq
theorem SoundW.stop (w : AOp) (o : Option α) : SoundW (stopW w : W α) o := fun _ _ h => h.elim
theorem SoundW.lift (w : AOp) (o : Option α) : SoundW (liftW w o) o := fun T Q h => by
  unfold liftW at h
  split at h
  · exact ⟨_, T, rfl, h⟩
  · exact h.elim
theorem SoundW.ite {w : AOp} {c : Prop} [Decidable c] {x : W α} {o : Option α} (h : c → SoundW x o) : SoundW (ifW w c x) o := by
  unfold ifW
  split
  · rename_i hc; exact h hc
  · exact .stop _ _
end

/-- a truth value -/
def boolW (t : Bool) : W Bool := askW (.t t) fun T Q => match T with
  | .b x r => t = x ∧ Q x r
  | .br p q => (t = true → Q true p) ∧ (t = false → Q false q)
  | _ => False
theorem boolW_ok (t : Bool) : SoundW (boolW t) (some t) := .ask fun T Q h => by
  split at h
  · exact ⟨t, _, rfl, h.1 ▸ h.2⟩
  · cases t
    · exact ⟨_, _, rfl, h.2 rfl⟩
    · exact ⟨_, _, rfl, h.1 rfl⟩
  · exact h.elim
theorem wrap_ex : ∃ f : IntKind → Int → Int, f = IntKind.wrap := ⟨_, rfl⟩
/-- a number that wraps around, which nobody unfolds -/
noncomputable def wrapX : IntKind → Int → Int := Classical.choose wrap_ex
theorem wrapX_eq : wrapX = IntKind.wrap := Classical.choose_spec wrap_ex
/-- an i64 that is kept in range -/
def wrapW (n : Int) : W AV := askW (.w n) fun T Q => match T with
  | .w r => InI64 n ∧ Q (intA n) r
  | .raw r => Q (intA (wrapX .i64 n)) r
  | _ => False
theorem wrapW_ok (n : Int) : SoundW (wrapW n) (some (intA (IntKind.i64.wrap n))) := .ask fun T Q h => by
  split at h
  · rename_i r
    refine ⟨_, r, rfl, ?_⟩
    rw [wrap64_id h.1.1 h.1.2]; exact h.2
  · rw [wrapX_eq] at h; exact ⟨_, _, rfl, h⟩
  · exact h.elim
def bitW (op : BinOp) (k : IntKind) (x y : Int) : Int := k.wrap (match op with
  | .and => (BitVec.ofInt k.bits x &&& BitVec.ofInt k.bits y).toNat
  | .or => (BitVec.ofInt k.bits x ||| BitVec.ofInt k.bits y).toNat
  | .xor => (BitVec.ofInt k.bits x ^^^ BitVec.ofInt k.bits y).toNat
  | _ => (BitVec.ofInt k.bits x &&& ~~~BitVec.ofInt k.bits y).toNat)
theorem bit_ex : ∃ f : BinOp → IntKind → Int → Int → Int, f = bitW := ⟨_, rfl⟩
/-- the same, which the kernel does not unfold -/
noncomputable def bitX : BinOp → IntKind → Int → Int → Int := Classical.choose bit_ex
theorem bitX_eq : bitX = bitW := Classical.choose_spec bit_ex
def shlW (k : IntKind) (x y : Int) : Int := k.wrap (x * 2 ^ min y.toNat k.bits)
def shrW (k : IntKind) (x y : Int) : Int := x.fdiv (2 ^ min y.toNat k.bits)
/-- an int as a byte -/
def toU8 (n : Int) : UInt8 := UInt8.ofNat (n % 256).toNat
theorem u8_wrap (n : Int) : IntKind.u8.wrap n = ((toU8 n).toNat : Int) := by
  have h1 : 0 ≤ n % 256 := Int.emod_nonneg _ (by decide)
  have h2 : n % 256 < 256 := Int.emod_lt_of_pos _ (by decide)
  have h3 : (toU8 n).toNat = (n % 256).toNat := by
    unfold toU8
    rw [UInt8.toNat_ofNat']
    omega
  rw [h3]
  simp only [IntKind.wrap, IntKind.bits, IntKind.signed]
  simp
  omega
def arW (k : IntKind) (n : Int) : W AV := match k with
  | .i64 => wrapW n
  | .u8 => retW (u8A (toU8 n))
  | k => retW (.val (.int k (k.wrap n)))
theorem arW_ok (k : IntKind) (n : Int) : SoundW (arW k n) (some (.val (.int k (k.wrap n)))) := by
  cases k <;> first | exact wrapW_ok n | exact .ret' (by rw [u8_wrap]; rfl) | exact .ret _
/-- the greatest number of a kind -/
def topI : IntKind → Int
  | .i64 => 9223372036854775807
  | .u8 => 255
  | .u64 => 18446744073709551615
  | _ => 0
theorem wrap_top {k : IntKind} {n : Int} (h1 : 0 ≤ n) (h2 : n ≤ topI k) : k.wrap n = n := by
  cases k <;> simp only [topI] at h2 <;> simp [IntKind.wrap, IntKind.bits, IntKind.signed] <;> omega
theorem quo_pos {a b : Int} (h1 : 0 ≤ a) (h2 : 0 < b) : a.tdiv b = a / b := Int.tdiv_eq_ediv_of_nonneg h1
theorem quo_wrap {k : IntKind} {a b : Int} (h1 : 0 ≤ a) (h2 : 0 < b) (h3 : a ≤ topI k) : k.wrap (a.tdiv b) = a / b := by
  rw [quo_pos h1 h2]
  refine wrap_top (Int.ediv_nonneg h1 (Int.le_of_lt h2)) (Int.le_trans (Int.ediv_le_self b h1) h3)
theorem rem_pos {a b : Int} (h1 : 0 ≤ a) : a.tmod b = a % b := Int.tmod_eq_emod_of_nonneg h1
def intW (w : AOp) (op : BinOp) (k : IntKind) (a b : Int) : W AV := match op with
  | .add => arW k (a + b)
  | .sub => arW k (a - b)
  | .mul => arW k (a * b)
  | .quo => askW (.q k a b) fun T Q => match T with
    | .w r => b ≠ 0 ∧ InI64 (a.tdiv b) ∧ k = .i64 ∧ Q (intA (a.tdiv b)) r
    | .raw r => b ≠ 0 ∧ Q (.val (.int k (wrapX k (a.tdiv b)))) r
    | .k _ r => 0 ≤ a ∧ 0 < b ∧ a ≤ topI k ∧ Q (.val (.int k (a / b))) r
    | _ => False
  | .rem => askW (.r a b) fun T Q => match T with
    | .w r => b ≠ 0 ∧ Q (.val (.int k (a.tmod b))) r
    | .k _ r => 0 ≤ a ∧ 0 < b ∧ Q (.val (.int k (a % b))) r
    | _ => False
  | .eql => retW (boolA (decide (a = b)))
  | .neq => retW (boolA (!decide (a = b)))
  | .lss => retW (boolA (decide (a < b)))
  | .leq => retW (boolA (decide (a ≤ b)))
  | .gtr => retW (boolA (decide (b < a)))
  | .geq => retW (boolA (decide (b ≤ a)))
  | .and => retW (.val (.int k (bitX .and k a b)))
  | .or => retW (.val (.int k (bitX .or k a b)))
  | .xor => retW (.val (.int k (bitX .xor k a b)))
  | .andNot => retW (.val (.int k (bitX .andNot k a b)))
  | _ => stopW w
theorem intW_ok (w : AOp) (op : BinOp) (k : IntKind) (a b : Int) : SoundW (intW w op k a b) ((binV op (.int k a) (.int k b)).map .val) := by
  cases op <;> unfold intW <;> simp only
  case add => exact arW_ok _ _ |> fun h => by simpa [binV] using h
  case sub => exact arW_ok _ _ |> fun h => by simpa [binV] using h
  case mul => exact arW_ok _ _ |> fun h => by simpa [binV] using h
  case quo =>
    refine .ask fun T Q h => ?_
    split at h
    · obtain ⟨h1, h2, rfl, h3⟩ := h
      refine ⟨_, _, ?_, h3⟩
      simp [binV, h1, intA, wrap64_id h2.1 h2.2]
    · rw [wrapX_eq] at h; exact ⟨_, _, by simp [binV, h.1], h.2⟩
    · obtain ⟨h1, h2, h3, h4⟩ := h
      have hb : b ≠ 0 := by omega
      exact ⟨_, _, by simp [binV, hb, quo_wrap h1 h2 h3], h4⟩
    · exact h.elim
  case rem =>
    refine .ask fun T Q h => ?_
    split at h
    · exact ⟨_, _, by simp [binV, h.1], h.2⟩
    · obtain ⟨h1, h2, h4⟩ := h
      have hb : b ≠ 0 := by omega
      exact ⟨_, _, by simp [binV, hb, rem_pos h1], h4⟩
    · exact h.elim
  case eql => exact .ret' (by simp only [binV, if_true, Option.map_some]; rfl)
  case neq => exact .ret' (by simp only [binV, if_true, Option.map_some]; rfl)
  case lss => exact .ret' (by simp [binV, boolA])
  case leq => exact .ret' (by simp [binV, boolA])
  case gtr => exact .ret' (by simp [binV, boolA])
  case geq => exact .ret' (by simp [binV, boolA])
  case and => exact .ret' (by rw [bitX_eq]; simp only [binV, if_true]; rfl)
  case or => exact .ret' (by rw [bitX_eq]; simp only [binV, if_true]; rfl)
  case xor => exact .ret' (by rw [bitX_eq]; simp only [binV, if_true]; rfl)
  case andNot => exact .ret' (by rw [bitX_eq]; simp only [binV, if_true]; rfl)
  all_goals exact .stop _ _
def strW (w : AOp) (op : BinOp) (a b : Bs) : W AV := match op with
  | .add => askW (.cat a b) fun T Q => match T with
    | .w r => a.length + b.length ≤ 9223372036854775807 ∧ Q (strL (a ++ b)) r
    | _ => False
  | .eql => retW (boolA (decide (a = b)))
  | .neq => retW (boolA (!decide (a = b)))
  | .lss => retW (boolA (Op.bytesLess a b))
  | .leq => retW (boolA (Op.bytesLess a b || decide (a = b)))
  | .gtr => retW (boolA (!(Op.bytesLess a b || decide (a = b))))
  | .geq => retW (boolA (!Op.bytesLess a b))
  | _ => stopW w
theorem toList_data (a : ByteArray) : a.toList = toL a := ByteArray.toList_eq a
theorem app_toL (a b : ByteArray) : a ++ b = ofL (toL a ++ toL b) := by
  apply ByteArray.ext
  simp [ofL, toL]
theorem strW_ok (w : AOp) (op : BinOp) (a b : ByteArray) : SoundW (strW w op (toL a) (toL b)) ((binV op (.string a) (.string b)).map .val) := by
  have e : (a.toList == b.toList) = decide (toL a = toL b) := bytes_beq a b
  cases op <;> unfold strW <;> simp only
  case add =>
    refine .ask fun T Q h => ?_
    split at h
    · refine ⟨_, _, ?_, h.2⟩
      have h1 : a.size + b.size ≤ 9223372036854775807 := h.1
      simp only [binV, if_pos h1, Option.map_some, strL, app_toL]
    · exact h.elim
  case eql => exact .ret' (by simp only [binV, Option.map_some, boolA, e])
  case neq => exact .ret' (by simp only [binV, Option.map_some, boolA, e])
  case lss => exact .ret' (by simp only [binV, Option.map_some, boolA, toList_data])
  case leq => exact .ret' (by simp only [binV, Option.map_some, boolA, e]; simp only [toList_data])
  case gtr => exact .ret' (by simp only [binV, Option.map_some, boolA, e]; simp only [toList_data])
  case geq => exact .ret' (by simp only [binV, Option.map_some, boolA, toList_data])
  all_goals exact .stop _ _
def binW (w : AOp) (op : BinOp) (x y : AV) : W AV := match op, x, y with
  | .shl, .val (.int k a), .val (.int _ b) => askW (.sh b) fun T Q => match T with
    | .w r => 0 ≤ b ∧ Q (.val (.int k (shlW k a b))) r
    | _ => False
  | .shr, .val (.int k a), .val (.int _ b) => askW (.sh b) fun T Q => match T with
    | .w r => 0 ≤ b ∧ Q (.val (.int k (shrW k a b))) r
    | _ => False
  | op, .val (.int k a), .val (.int k' b) => ifW w (k = k') (intW w op k a b)
  | op, .val (.string a), .val (.string b) => strW w op (toL a) (toL b)
  | _, _, _ => stopW w
theorem binW_ok (w : AOp) (op : BinOp) (x y : AV) : SoundW (binW w op x y) (match x.toVal, y.toVal with | some a, some b => (binV op a b).map .val | _, _ => none) := by
  unfold binW
  split
  · refine .ask fun T Q h => ?_
    split at h
    · refine ⟨_, _, ?_, h.2⟩
      have : ¬ (_ : Int) < 0 := Int.not_lt.2 h.1
      simp only [AV.toVal, binV, Op.shift, if_neg this, Sem.now, Option.map_some]
      rfl
    · exact h.elim
  · refine .ask fun T Q h => ?_
    split at h
    · refine ⟨_, _, ?_, h.2⟩
      have : ¬ (_ : Int) < 0 := Int.not_lt.2 h.1
      simp only [AV.toVal, binV, Op.shift, if_neg this, Sem.now, Option.map_some]
      rfl
    · exact h.elim
  · refine .ite fun hk => ?_
    subst hk
    exact intW_ok _ _ _ _ _
  · exact strW_ok _ _ _ _
  · exact .stop _ _

def rowW {α : Type} (m : List MObj) (w : AOp) (id : Nat) (f : Nat → Nat → List AV → Bool → Bool → W α) : W α := match m[id]? with
  | some (.row v s l wr ap) => f v s l wr ap
  | _ => stopW w
theorem rowW_ok {α : Type} {m : List MObj} {w : AOp} {id : Nat} {f : Nat → Nat → List AV → Bool → Bool → W α} {o : Option α} (h : ∀ v s l wr ap, m[id]? = some (.row v s l wr ap) → SoundW (f v s l wr ap) o) : SoundW (rowW m w id f) o := by
  unfold rowW
  split
  · rename_i v s l wr ap hm; exact h _ _ _ _ _ hm
  · exact .stop _ _
/-- an int as an index -/
def asI : AV → Option Int
  | .val (.int _ n) => some n
  | _ => none
theorem asI_toN {v : AV} {n : Int} {k : Nat} (h : asI v = some n) (hk : n = (k : Int)) : v.toN = some k := by
  unfold asI at h
  split at h
  · injection h with h; subst h hk; simp [AV.toN, AV.toI]
  · cases h
/-- the cells of an array, one after the other -/
def finW (n : Int) (sz : Nat) (ag : Bool) (w : AOp) : Nat → List AV → Nat → W AV
  | 0, _, _ => stopW w
  | cnt + 1, l, i => askW (.fin n i) fun T Q => match T with
    | .b true r => n = (i : Int) ∧ liftW w (mkV sz ag l) r Q
    | .b false r => n ≠ (i : Int) ∧ finW n sz ag w cnt (l.drop sz) (i + 1) r Q
    | .br p q => (n = (i : Int) → liftW w (mkV sz ag l) p Q) ∧ (n ≠ (i : Int) → finW n sz ag w cnt (l.drop sz) (i + 1) q Q)
    | _ => False
theorem finW_ok (n : Int) (sz : Nat) (ag : Bool) (w : AOp) (L : List AV) (o : Option AV) (cnt0 : Nat) (ho : ∀ k : Nat, n = (k : Int) → k < cnt0 → o = mkV sz ag (L.drop (k * sz))) : ∀ (cnt : Nat) (l : List AV) (i : Nat), i + cnt = cnt0 → l = L.drop (i * sz) → SoundW (finW n sz ag w cnt l i) o
  | 0, l, i, _, _ => .stop _ _
  | cnt + 1, l, i, hc, hl => .ask fun T Q h => by
    have hit : n = (i : Int) → ∀ r, liftW w (mkV sz ag l) r Q → ∃ a T', o = some a ∧ Q a T' := fun e r hr => by
      obtain ⟨a, T', h1, h2⟩ := SoundW.lift w _ _ _ hr
      exact ⟨a, T', by rw [ho i e (by omega), ← hl, h1], h2⟩
    have miss : ∀ r, finW n sz ag w cnt (l.drop sz) (i + 1) r Q → ∃ a T', o = some a ∧ Q a T' := fun r hr => finW_ok n sz ag w L o cnt0 ho cnt _ (i + 1) (by omega) (by rw [hl, List.drop_drop, Nat.add_mul, Nat.one_mul]) _ _ hr
    split at h
    · exact hit h.1 _ h.2
    · exact miss _ h.2
    · by_cases e : n = (i : Int)
      · exact hit e _ (h.1 e)
      · exact miss _ (h.2 e)
    · exact h.elim
/-- an index of an array -/
def aaW (n : Int) (w : AOp) (all : Nat) : Nat → Nat → W Nat
  | 0, _ => stopW w
  | cnt + 1, i => askW (.aa n i) fun T Q => match T with
    | .k k r => n = (k : Int) ∧ k < all ∧ Q k r
    | .b true r => n = (i : Int) ∧ Q i r
    | .b false r => n ≠ (i : Int) ∧ aaW n w all cnt (i + 1) r Q
    | .br p q => (n = (i : Int) → Q i p) ∧ (n ≠ (i : Int) → aaW n w all cnt (i + 1) q Q)
    | _ => False
theorem aaW_ok (n : Int) (w : AOp) (all : Nat) : ∀ (cnt i : Nat), i + cnt = all → SoundW (aaW n w all cnt i) (if 0 ≤ n ∧ n.toNat < all then some n.toNat else none)
  | 0, i, _ => .stop _ _
  | cnt + 1, i, hc => .ask fun T Q h => by
    have hit : ∀ (k : Nat), n = (k : Int) → k < all → ∀ r, Q k r → ∃ a T', (if 0 ≤ n ∧ n.toNat < all then some n.toNat else none) = some a ∧ Q a T' := fun k e hk r hr => ⟨k, r, by subst e; simp [hk], hr⟩
    split at h
    · exact hit _ h.1 h.2.1 _ h.2.2
    · exact hit _ h.1 (by omega) _ h.2
    · exact aaW_ok n w all cnt (i + 1) (by omega) _ _ h.2
    · by_cases e : n = (i : Int)
      · exact hit _ e (by omega) _ (h.1 e)
      · exact aaW_ok n w all cnt (i + 1) (by omega) _ _ (h.2 e)
    · exact h.elim
def lowI (fr : List (Nat × AV)) : Option Operand → Option Int
  | none => some 0
  | some x => asI (evA fr x)
def highI (fr : List (Nat × AV)) (n : Nat) : Option Operand → Option Int
  | none => some (n : Int)
  | some x => asI (evA fr x)
theorem low_of {fr : List (Nat × AV)} {lo : Option Operand} {i : Int} {a : Nat} (h : lowI fr lo = some i) (ha : i = (a : Int)) : lowOf fr lo = some a := by
  cases lo with
  | none => simp only [lowI, Option.some.injEq] at h; simp only [lowOf]; congr 1; omega
  | some x => exact asI_toN h ha
theorem high_of {fr : List (Nat × AV)} {hi : Option Operand} {i : Int} {a n : Nat} (h : highI fr n hi = some i) (ha : i = (a : Int)) : highOf fr n hi = some a := by
  cases hi with
  | none => simp only [highI, Option.some.injEq] at h; simp only [highOf]; congr 1; omega
  | some x => exact asI_toN h ha
/-- bounds of a part -/
def bndW (w : AOp) (fr : List (Nat × AV)) (lo hi : Option Operand) (len : Nat) : W (Nat × Nat) := match lowI fr lo, highI fr len hi with
  | some i, some j => askW (.sl len lo hi fr) fun T Q => match T with
    | .sl a b r => i = (a : Int) ∧ j = (b : Int) ∧ a ≤ b ∧ b ≤ len ∧ Q (a, b) r
    | _ => False
  | _, _ => stopW w
theorem bndW_ok {α : Type} {w : AOp} {fr : List (Nat × AV)} {lo hi : Option Operand} {len : Nat} {f : Nat × Nat → W α} {o : Option α} (h : ∀ a b, lowOf fr lo = some a → highOf fr len hi = some b → a ≤ b → b ≤ len → SoundW (f (a, b)) o) : SoundW (bindW (bndW w fr lo hi len) f) o := fun T Q hq => by
  unfold bindW bndW at hq
  rcases h1 : lowI fr lo with _ | i
  · rw [h1] at hq; exact hq.elim
  rcases h2 : highI fr len hi with _ | j
  · rw [h1, h2] at hq; exact hq.elim
  rw [h1, h2] at hq
  cases T <;> simp only [askW] at hq
  case nil => exact hq.elim
  case sl a b r =>
    obtain ⟨e1, e2, e3, e4, e5⟩ := hq
    exact h a b (low_of h1 e1) (high_of h2 e2) e3 e4 _ _ e5

/-- the bytes of a list of cells -/
theorem bytesL_map (l : Bs) : bytesL (l.map u8A) = some l := by
  induction l with
  | nil => rfl
  | cons c l ih => simp only [List.map_cons, u8A, bytesL, ih]; simp
def aeqB (x y : List AV) : List (Nat × Nat) → Option Bool
  | [] => some true
  | [(o, k)] => match x[o]?, y[o]? with
    | some (.val a), some (.val b) => vEqT k a b
    | _, _ => none
  | (o, k) :: r => match x[o]?, y[o]? with
    | some (.val a), some (.val b) => (match vEqT k a b, aeqB x y r with
      | some t, some u => some (t && u)
      | _, _ => none)
    | _, _ => none
theorem aeqB_ok (x y : List AV) : ∀ (l : List (Nat × Nat)) (b : Bool), aeqB x y l = some b → aeqL x y l = some b
  | [], b, h => h
  | [(o, k)], b, h => by
    simp only [aeqB] at h
    simp only [aeqL]
    split at h
    · rename_i u v h1 h2
      simp only [h1, h2, h]
      cases b <;> rfl
    · cases h
  | (o, k) :: p :: r, b, h => by
    simp only [aeqB] at h
    simp only [aeqL]
    split at h
    · rename_i u v h1 h2
      simp only [h1, h2]
      split at h
      · rename_i t t' h3 h4
        injection h with h
        have := aeqB_ok x y (p :: r) t' h4
        simp only [aeqL] at this
        simp only [h3]
        subst h
        cases t
        · rfl
        · simpa using this
      · cases h
    · cases h

def assoc {α : Type} : List (Bs × α) → Bs → Option α
  | [], _ => none
  | (k, v) :: r, s => if s = k then some v else assoc r s
theorem find_assoc {α : Type} (f : α → AV) (s : Bs) : ∀ (a : List (Bs × α)) (i : Nat), ∃ r, findE (.string (ofL s)) (a.map fun p => (.string (ofL p.1), f p.2)) i = some r ∧ r.map (·.2) = (assoc a s).map f
  | [], i => ⟨none, rfl, rfl⟩
  | (k, v) :: a, i => by
    have hv : vEq (.string (ofL s)) (.string (ofL k)) = some (decide (s = k)) := rfl
    by_cases h : s = k
    · exact ⟨some (i, f v), by simp only [List.map_cons, findE, hv, decide_eq_true h], by simp [assoc, h]⟩
    · obtain ⟨r, h1, h2⟩ := find_assoc f s a (i + 1)
      exact ⟨r, by simp only [List.map_cons, findE, hv, decide_eq_false h]; exact h1, by simp only [assoc, if_neg h]; exact h2⟩

def pure2W (m : List MObj) (fr : List (Nat × AV)) (o : AOp2) : W AV := match o with
  | .mlook z ok x k => (match evA fr k, mapOf m (evA fr x) with
    | .val (.string s), some es => askW (.mp es (toL s)) fun T Q => match T with
      | .mp f a p q => es = a.map (fun x => (.string (ofL x.1), f x.2)) ∧ (∀ x, assoc a (toL s) = some x → Q (if ok then .tuple [f x, .val (.bool true)] else f x) (p x)) ∧ (assoc a (toL s) = none → Q (if ok then .tuple [z, .val (.bool false)] else z) q)
      | _ => False
    | _, _ => stopW (.x o))
  | .aeq ne n offs x y => (match evA fr x, evA fr y with
    | .agg l, .agg l' => ifW (.x o) (n ≤ l.length ∧ n ≤ l'.length) (bindW (liftW (.x o) (aeqB l l' offs)) fun t => retW (.val (.bool (if ne then !t else t))))
    | _, _ => stopW (.x o))
  | o => liftW (.x o) (pure2 m fr o)
theorem pure2W_ok (m : List MObj) (fr : List (Nat × AV)) (o : AOp2) : SoundW (pure2W m fr o) (pure2 m fr o) := by
  unfold pure2W
  split
  · rename_i z ok x k
    split
    · rename_i s es hk hm
      refine .ask fun T Q h => ?_
      split at h
      · rename_i f a p q
        obtain ⟨e, h1, h2⟩ := h
        obtain ⟨r, g1, g2⟩ := find_assoc f (toL s) a 0
        simp only [pure2, mlookA, hk, hm, e]
        rw [show (Value.string s) = .string (ofL (toL s)) from rfl, g1]
        cases ha : assoc a (toL s) with
        | none =>
          rw [ha] at g2
          cases r with
          | some r => simp at g2
          | none => exact ⟨_, _, rfl, h2 ha⟩
        | some v =>
          rw [ha] at g2
          cases r with
          | none => simp at g2
          | some r =>
            obtain ⟨j, y⟩ := r
            simp only [Option.map_some, Option.some.injEq] at g2
            subst g2
            exact ⟨_, _, rfl, h1 v ha⟩
      · exact h.elim
    · exact .stop _ _
  · rename_i ne n offs x y
    split
    · rename_i l l' h1 h2
      refine .ite fun hc => ?_
      simp only [pure2, h1, h2, if_pos hc]
      refine .bind' (.lift _ _) fun t ht => .ret' ?_
      rw [aeqB_ok _ _ _ _ ht]; rfl
    · exact .stop _ _
  · exact .lift _ _

/-- the address of a field -/
def faddrW (m : List MObj) (w : AOp) (off : Nat) (v : AV) : W AV := match v with
  | .elt id ver used i fo => rowW m w id fun v' _ l _ _ => ifW w (v' = ver) (askW (.len l) fun T Q => match T with
      | .w r => l.length = used ∧ Q (.elt id ver used i (fo + off)) r
      | _ => False)
  | v => liftW w (faddrA m off v)
theorem faddrW_ok (m : List MObj) (w : AOp) (off : Nat) (v : AV) : SoundW (faddrW m w off v) (faddrA m off v) := by
  unfold faddrW
  split
  · rename_i id ver used i fo
    refine rowW_ok fun v' s l wr ap hm => .ite fun hv => .ask fun T Q h => ?_
    split at h
    · refine ⟨_, _, ?_, h.2⟩
      have : rowOk m id ver used = true := by simp [rowOk, hm, hv, h.1]
      simp only [faddrA, if_pos this]
    · exact h.elim
  · exact .lift _ _
def pureW (m : List MObj) (fr : List (Nat × AV)) (o : AOp) : W AV := match o with
  | .x o => pure2W m fr o
  | .bin op x y => binW o op (evA fr x) (evA fr y)
  | .cint k x => (match evA fr x with
    | .val (.int _ n) => arW k n
    | _ => stopW o)
  | .un .neg x => (match evA fr x with
    | .val (.int .i64 n) => wrapW (0 - n)
    | _ => liftW o (pureOp m fr o))
  | .pick c a b => (match evA fr c with
    | .val (.bool t) => bindW (boolW t) fun t => retW (if t then evA fr a else evA fr b)
    | _ => stopW o)
  | .load n ag a => (match evA fr a with
    | .elt id ver used i fo => rowW m o id fun v _ l _ _ => ifW o (v = ver) (askW (.ld l i) fun T Q => match T with
        | .ix f a k r => l = a.map f ∧ l.length = used ∧ i = k ∧ k < a.length ∧ ∀ x, a[k]? = some x → liftW o (mkV n ag ((f x).cells.drop fo)) (r x) Q
        | _ => False)
    | _ => liftW o (pureOp m fr o))
  | .iaddr sz x i => (match asI (evA fr i), evA fr x with
    | some n, .slice s l => ifW o (s = sz) (askW (.ix l n) fun T Q => match T with
        | .ix f a k r => l = a.map f ∧ n = (k : Int) ∧ k < a.length ∧ ∀ x, a[k]? = some x → Q (.rptr (f x).cells) (r x)
        | _ => False)
    | some n, .row id ver used off len => rowW m o id fun v s l _ _ => ifW o (s = sz ∧ v = ver) (askW (.ra n len) fun T Q => match T with
        | .k k r => l.length = used ∧ n = (k : Int) ∧ k < len ∧ Q (.elt id ver used (off + k) 0) r
        | _ => False)
    | _, _ => stopW o)
  | .aaddr cnt sz x i => (match asI (evA fr i) with
    | some n => bindW (aaW n o cnt cnt 0) fun k => faddrW m o (k * sz) (evA fr x)
    | _ => stopW o)
  | .faddr off x => faddrW m o off (evA fr x)
  | .sidx x i => (match asI (evA fr i), evA fr x with
    | some n, .val (.string s) => askW (.y (toL s) n) fun T Q => match T with
        | .y k r => n = (k : Int) ∧ k < (toL s).length ∧ ∀ c, (toL s)[k]? = some c → Q (u8A c) (r c)
        | .yk k c r => n = (k : Int) ∧ (toL s)[k]? = some c ∧ Q (u8A c) r
        | _ => False
    | _, _ => stopW o)
  | .aidx cnt sz ag x i => (match asI (evA fr i), evA fr x with
    | some n, .agg l => finW n sz ag o cnt l 0
    | _, _ => stopW o)
  | .len x => (match evA fr x with
    | .slice _ l => askW (.len l) fun T Q => match T with
        | .k k r => l.length = k ∧ Q (intA k) r
        | _ => False
    | .row id ver used off len => rowW m o id fun v _ l _ _ => ifW o (v = ver) (askW (.len l) fun T Q => match T with
        | .k k r => l.length = used ∧ ((l.drop off).take len).length = k ∧ Q (intA k) r
        | _ => False)
    | _ => liftW o (pureOp m fr o))
  | .slen x => (match evA fr x with
    | .val (.string s) => retW (intA (toL s).length)
    | _ => stopW o)
  | .slc sz x lo hi => (match evA fr x with
    | .slice s l => ifW o (s = sz) (bindW (bndW o fr lo hi l.length) fun p => retW (.slice s ((l.take p.2).drop p.1)))
    | .row id ver used off len => rowW m o id fun v s l _ _ => ifW o (s = sz ∧ v = ver) (bindW (askW (.len l) fun T Q => match T with
        | .w r => l.length = used ∧ Q () r
        | _ => False) fun _ => bindW (bndW o fr lo hi len) fun p => retW (.row id ver used (off + p.1) (p.2 - p.1)))
    | .val (.slice none 0 0) => bindW (bndW o fr lo hi 0) fun p => retW (.val (.slice none 0 0))
    | _ => stopW o)
  | .sslc x lo hi => (match evA fr x with
    | .val (.string s) => bindW (bndW o fr lo hi (toL s).length) fun p => retW (strL (((toL s).take p.2).drop p.1))
    | _ => stopW o)
  | .b2s x => (match evA fr x with
    | .row id ver used off len => rowW m o id fun v _ l _ _ => ifW o (v = ver) (askW (.bs ((l.drop off).take len)) fun T Q => match T with
      | .bs s r => l.length = used ∧ bytesL ((l.drop off).take len) = some s ∧ Q (strL s) r
      | _ => False)
    | v => bindW (liftW o (elems m v)) fun l => askW (.bs l) fun T Q => match T with
      | .bs s r => bytesL l = some s ∧ Q (strL s) r
      | _ => False)
  | o => liftW o (pureOp m fr o)

theorem elems_row {m : List MObj} {id ver used off len v s : Nat} {l : List AV} {wr ap : Bool} (hm : m[id]? = some (.row v s l wr ap)) (hv : v = ver) (hu : l.length = used) : elems m (.row id ver used off len) = some ((l.drop off).take len) := by
  simp only [elems, hm, if_pos (And.intro hv hu)]
theorem pureW_ok (m : List MObj) (fr : List (Nat × AV)) (o : AOp) : SoundW (pureW m fr o) (pureOp m fr o) := by
  unfold pureW
  split
  · exact pure2W_ok _ _ _
  · exact binW_ok _ _ _ _
  · rename_i k x
    split
    · rename_i k' n hx
      simp only [pureOp, hx]
      exact arW_ok _ _
    · exact .stop _ _
  · rename_i x
    split
    · rename_i n hx
      have : pureOp m fr (.un .neg x) = some (intA (IntKind.i64.wrap (0 - n))) := by simp only [pureOp, hx]; rfl
      rw [this]
      exact wrapW_ok _
    · exact .lift _ _
  · rename_i c a b
    split
    · rename_i t hc
      simp only [pureOp, hc]
      refine .bind' (boolW_ok t) fun t' ht => ?_
      cases ht
      exact .ret _
    · exact .stop _ _
  · rename_i n ag a
    split
    · rename_i id ver used i fo ha
      refine rowW_ok fun v s l wr ap hm => .ite fun hv => .ask fun T Q h => ?_
      split at h
      · rename_i f b k r
        obtain ⟨e, hu, rfl, hk, h1⟩ := h
        obtain ⟨av, T', g1, g2⟩ := SoundW.lift _ _ _ _ (h1 _ (List.getElem?_eq_getElem hk))
        refine ⟨av, T', ?_, g2⟩
        have hl : l[i]? = some (f (b[i]'hk)) := by rw [e, List.getElem?_map, List.getElem?_eq_getElem hk]; rfl
        simp only [pureOp, ha, cellsAt, hm, if_pos (And.intro hv hu), hl, Option.map_some, Option.bind_some, g1]
      · exact h.elim
    · exact .lift _ _
  · rename_i sz x i
    split
    · rename_i n s l hi hx
      refine .ite fun hs => .ask fun T Q h => ?_
      split at h
      · rename_i f a k r
        obtain ⟨e, hk, hlt, h1⟩ := h
        refine ⟨_, _, ?_, h1 _ (List.getElem?_eq_getElem hlt)⟩
        have hl : l[k]? = some (f (a[k]'hlt)) := by rw [e, List.getElem?_map, List.getElem?_eq_getElem hlt]; rfl
        simp only [pureOp, asI_toN hi hk, hx, iaddrA, hl, if_pos hs]
      · exact h.elim
    · rename_i n id ver used off len hi hx
      refine rowW_ok fun v s l wr ap hm => .ite fun hs => .ask fun T Q h => ?_
      split at h
      · rename_i k r
        obtain ⟨hu, hk, hlt, h1⟩ := h
        refine ⟨_, _, ?_, h1⟩
        simp only [pureOp, asI_toN hi hk, hx, iaddrA, hm]
        rw [if_pos ⟨hs.2, hu, hlt, hs.1⟩]
      · exact h.elim
    · exact .stop _ _
  · rename_i cnt sz x i
    split
    · rename_i n hi
      refine .bind' (aaW_ok n _ cnt cnt 0 (Nat.zero_add _)) fun k hk => ?_
      split at hk
      · rename_i hc
        injection hk with hk; subst hk
        have : pureOp m fr (.aaddr cnt sz x i) = faddrA m (n.toNat * sz) (evA fr x) := by
          simp only [pureOp, asI_toN hi (show n = (n.toNat : Int) from by omega), if_pos hc.2]
        rw [this]
        exact faddrW_ok _ _ _ _
      · cases hk
    · exact .stop _ _
  · rename_i off x
    exact faddrW_ok _ _ _ _
  · rename_i x i
    split
    · rename_i n s hi hx
      refine .ask fun T Q h => ?_
      split at h
      · rename_i k r
        obtain ⟨hk, hlt, h1⟩ := h
        refine ⟨_, _, ?_, h1 _ (List.getElem?_eq_getElem hlt)⟩
        have hs : s[k]? = some ((toL s)[k]'hlt) := by
          have h2 : k < s.size := hlt
          rw [getElem?_pos s k h2]
          rfl
        simp only [pureOp, asI_toN hi hk, hx, sidxA, hs, Option.map_some, u8A]
      · rename_i k c r
        obtain ⟨hk, hc, h1⟩ := h
        refine ⟨_, _, ?_, h1⟩
        obtain ⟨hlt, hc⟩ := List.getElem?_eq_some_iff.1 hc
        have hs : s[k]? = some c := by
          have h2 : k < s.size := hlt
          rw [getElem?_pos s k h2, ← hc]
          rfl
        simp only [pureOp, asI_toN hi hk, hx, sidxA, hs, Option.map_some, u8A]
      · exact h.elim
    · exact .stop _ _
  · rename_i cnt sz ag x i
    split
    · rename_i n l hi hx
      refine finW_ok n sz ag _ l _ cnt (fun k hk hlt => ?_) cnt l 0 (by omega) (by simp)
      simp only [pureOp, asI_toN hi hk, hx, if_pos hlt]
    · exact .stop _ _
  · rename_i x
    split
    · rename_i s l hx
      refine .ask fun T Q h => ?_
      split at h
      · exact ⟨_, _, by simp only [pureOp, hx, lenA, elems, Option.map_some, h.1, intA], h.2⟩
      · exact h.elim
    · rename_i id ver used off len hx
      refine rowW_ok fun v s l wr ap hm => .ite fun hv => .ask fun T Q h => ?_
      split at h
      · exact ⟨_, _, by simp only [pureOp, hx, lenA, elems_row hm hv h.1, Option.map_some, h.2.1, intA], h.2.2⟩
      · exact h.elim
    · exact .lift _ _
  · rename_i x
    split
    · rename_i s hx
      exact .ret' (by simp only [pureOp, hx, slenA]; rfl)
    · exact .stop _ _
  · rename_i sz x lo hi
    split
    · rename_i s l hx
      refine .ite fun hs => bndW_ok fun a b h1 h2 h3 h4 => .ret' ?_
      simp only [pureOp, hx, slcA, h1, h2]
      rw [if_pos ⟨h3, h4, hs⟩]
    · rename_i id ver used off len hx
      refine rowW_ok fun v s l wr ap hm => .ite fun hs => .bind' (o := if l.length = used then some () else none) (.ask fun T Q h => ?_) fun _ hu => ?_
      · split at h
        · exact ⟨_, _, by rw [if_pos h.1], h.2⟩
        · exact h.elim
      · split at hu
        · rename_i hu'
          refine bndW_ok fun a b h1 h2 h3 h4 => .ret' ?_
          simp only [pureOp, hx, slcA, hm, h1, h2]
          rw [if_pos ⟨hs.2, hu', hs.1⟩, if_pos ⟨h3, h4⟩]
        · cases hu
    · rename_i hx
      refine bndW_ok fun a b h1 h2 h3 h4 => .ret' ?_
      simp only [pureOp, hx, slcA, h1, h2]
      rw [if_pos ⟨h3, h4⟩]
    · exact .stop _ _
  · rename_i x lo hi
    split
    · rename_i s hx
      refine bndW_ok fun a b h1 h2 h3 h4 => .ret' ?_
      have h2' : highOf fr s.size hi = some b := h2
      have h4' : b ≤ s.size := h4
      simp only [pureOp, hx, sslcA, h1, h2']
      rw [if_pos ⟨h3, h4'⟩]
      congr 3
      apply ByteArray.ext
      simp only [ofL, toL]
      rw [ByteArray.data_extract]
      apply Array.ext'
      simp [List.drop_take]
    · exact .stop _ _
  · rename_i x
    split
    · rename_i id ver used off len hx
      refine rowW_ok fun v s l wr ap hm => .ite fun hv => .ask fun T Q h => ?_
      split at h
      · obtain ⟨h1, h2, h3⟩ := h
        exact ⟨_, _, by simp only [pureOp, hx, elems_row hm hv h1, Option.bind_some, h2, Option.map_some]; rfl, h3⟩
      · exact h.elim
    · rename_i hne
      have : pureOp m fr (.b2s x) = (elems m (evA fr x)).bind fun l => (bytesL l).map fun s => .val (.string ⟨s.toArray⟩) := rfl
      rw [this]
      refine .bind (.lift _ _) fun l _ => .ask fun T Q h => ?_
      split at h
      · exact ⟨_, _, by rw [h.1]; rfl, h.2⟩
      · exact h.elim
  · exact .lift _ _
end Go.Proofs.YtgjdmlhgapmflaaDoor
