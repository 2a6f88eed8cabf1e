/- The abstract machine: a walk along facts that are given one after the other. -/
import Derived.Test.YtejajmmacmcijaaAm21
namespace Go.Proofs.Ytejajmmacmcijaa

/-- what a fact brings -/
inductive Sc where
  | t
  | b (x : Bool)
  | v (r : AV)
  | l (ex : AExit) (st : St)
  | ix (k : Nat) (e : AV)
  | n (k : Nat)
  | y (k : Nat) (c : UInt8)
  | g (l : List AV)
  | z (a : Int)
  | s (s : ByteArray)
  | sl (a b : Nat) (l : List AV)
  | ss (a b : Nat) (s : ByteArray)
inductive Res (α : Type) where
  | ok (a : α) (sc : List Sc) (P : List Prop)
  | stop (st : St) (w : AOp) (sc : List Sc)
def AllT : List Prop → Prop
  | [] => True
  | p :: r => p ∧ AllT r
theorem AllT_append : ∀ {P Q : List Prop}, AllT (P ++ Q) → AllT P ∧ AllT Q
  | [], _, h => ⟨trivial, h⟩
  | _ :: P, _, h => ⟨⟨h.1, (AllT_append (P := P) h.2).1⟩, (AllT_append (P := P) h.2).2⟩
def WM (α : Type) := List Sc → Res α
def retM {α : Type} (a : α) : WM α := fun sc => .ok a sc []
def bindM {α β : Type} (x : WM α) (f : α → WM β) : WM β := fun sc => match x sc with
  | .stop st w sc => .stop st w sc
  | .ok a sc1 P => match f a sc1 with
    | .stop st w sc => .stop st w sc
    | .ok b sc2 Q => .ok b sc2 (P ++ Q)
def liftM {α : Type} (st : St) (w : AOp) (o : Option α) : WM α := fun sc => match o with
  | some a => .ok a sc []
  | none => .stop st w sc
def askM {α : Type} (st : St) (w : AOp) (q : Sc → Option (α × Prop)) : WM α := fun sc => match sc with
  | [] => .stop st w []
  | s :: r => match q s with
    | some (a, p) => .ok a r [p]
    | none => .stop st w sc
def stopM {α : Type} (st : St) (w : AOp) : WM α := fun sc => .stop st w sc
def OkM {α : Type} (x : WM α) (o : Option α) : Prop := ∀ sc a sc' P, x sc = .ok a sc' P → AllT P → o = some a
section
variable {α β : Type}
theorem OkM.ret (a : α) : OkM (retM a) (some a) := by
  intro sc b sc' P h hp
  simp only [retM, Res.ok.injEq] at h
  rw [h.1]
theorem OkM.lift (st : St) (w : AOp) (o : Option α) : OkM (liftM st w o) o := by
  intro sc b sc' P h hp
  unfold liftM at h
  cases o with
  | none => simp at h
  | some a => simp only [Res.ok.injEq] at h; rw [h.1]
theorem OkM.stop (st : St) (w : AOp) (o : Option α) : OkM (stopM st w : WM α) o := by
  intro sc b sc' P h hp
  simp [stopM] at h
theorem OkM.ask {st : St} {w : AOp} {q : Sc → Option (α × Prop)} {o : Option α} (h : ∀ s a p, q s = some (a, p) → p → o = some a) : OkM (askM st w q) o := by
  intro sc b sc' P hx hp
  unfold askM at hx
  cases sc with
  | nil => simp at hx
  | cons s r =>
    simp only at hx
    split at hx
    · rename_i a p hq
      simp only [Res.ok.injEq] at hx
      obtain ⟨rfl, rfl, rfl⟩ := hx
      exact h s _ p hq hp.1
    · simp at hx
theorem OkM.bind {x : WM α} {f : α → WM β} {o : Option α} {g : α → Option β} (h : OkM x o) (hf : ∀ a, o = some a → OkM (f a) (g a)) : OkM (bindM x f) (o.bind g) := by
  intro sc b sc' P hx hp
  unfold bindM at hx
  split at hx
  · simp at hx
  · rename_i a sc1 Q h1
    split at hx
    · simp at hx
    · rename_i b' sc2 Q' h2
      simp only [Res.ok.injEq] at hx
      obtain ⟨rfl, rfl, rfl⟩ := hx
      have ha := h _ _ _ _ h1 (AllT_append hp).1
      rw [ha]
      exact hf a ha _ _ _ _ h2 (AllT_append hp).2
theorem OkM.bind' {x : WM α} {f : α → WM β} {o : Option α} {r : Option β} (h : OkM x o) (hf : ∀ a, o = some a → OkM (f a) r) : OkM (bindM x f) r := by
  intro sc b sc' P hx hp
  unfold bindM at hx
  split at hx
  · simp at hx
  · rename_i a sc1 Q h1
    split at hx
    · simp at hx
    · rename_i b' sc2 Q' h2
      simp only [Res.ok.injEq] at hx
      obtain ⟨rfl, rfl, rfl⟩ := hx
      exact hf a (h _ _ _ _ h1 (AllT_append hp).1) _ _ _ _ h2 (AllT_append hp).2
end

/-! ### operations that leave the memory alone -/
def boolM (st : St) (w : AOp) (t : Bool) : WM Bool := askM st w fun
  | .b x => some (x, t = x)
  | _ => none
theorem boolM_ok (st : St) (w : AOp) (t : Bool) : OkM (boolM st w t) (some t) := OkM.ask fun s a p hq hp => by
  cases s <;> simp only [Option.some.injEq, Prod.mk.injEq, reduceCtorEq] at hq
  obtain ⟨rfl, rfl⟩ := hq
  rw [hp]
def zM (st : St) (w : AOp) (k : IntKind) (c : Prop) (a : Int) : WM AV := askM st w fun
  | .z n => some (.val (.int k n), c ∧ a = n)
  | _ => none
def zM' (st : St) (w : AOp) (k : IntKind) (a : Int) : WM AV := askM st w fun
  | .z n => some (.val (.int k n), a = n)
  | _ => none
theorem zM_ok {st : St} {w : AOp} {k : IntKind} {c : Prop} {a : Int} {o : Option AV} (h : c → o = some (.val (.int k a))) : OkM (zM st w k c a) o := OkM.ask fun s b p hq hp => by
  cases s <;> simp only [Option.some.injEq, Prod.mk.injEq, reduceCtorEq] at hq
  obtain ⟨rfl, rfl⟩ := hq
  rw [h hp.1, hp.2]
theorem zM'_ok {st : St} {w : AOp} {k : IntKind} {a : Int} {o : Option AV} (h : o = some (.val (.int k a))) : OkM (zM' st w k a) o := OkM.ask fun s b p hq hp => by
  cases s <;> simp only [Option.some.injEq, Prod.mk.injEq, reduceCtorEq] at hq
  obtain ⟨rfl, rfl⟩ := hq
  rw [h, hp]
def intM (st : St) (w : AOp) (op : BinOp) (k : IntKind) (a b : Int) (o : Option AV) : WM AV := match op with
  | .add => if k = .i64 then zM' st w .i64 (IntKind.i64.wrap (a + b)) else liftM st w o
  | .sub => if k = .i64 then zM' st w .i64 (IntKind.i64.wrap (a - b)) else liftM st w o
  | .mul => if k = .i64 then zM' st w .i64 (IntKind.i64.wrap (a * b)) else liftM st w o
  | .quo => zM st w k (b ≠ 0) (k.wrap (a.tdiv b))
  | .rem => zM st w k (b ≠ 0) (a.tmod b)
  | _ => liftM st w o
def binM (st : St) (w : AOp) (op : BinOp) (o : Option AV) : Option Value → Option Value → WM AV
  | some (.int k a), some (.int k' b) => if k = k' then intM st w op k a b o else liftM st w o
  | some (.string a), some (.string b) => (match op with
    | .add => askM st w fun
      | .s s' => some (.val (.string s'), a.size + b.size ≤ 9223372036854775807 ∧ a ++ b = s')
      | _ => none
    | _ => liftM st w o)
  | _, _ => liftM st w o
theorem binM_ok (st : St) (w : AOp) (op : BinOp) (x y : Option Value) : OkM (binM st w op (match x, y with | some a, some b => (binV op a b).map .val | _, _ => none) x y) (match x, y with | some a, some b => (binV op a b).map .val | _, _ => none) := by
  unfold binM
  split
  · rename_i k a k' b
    split
    · rename_i hk
      subst hk
      unfold intM
      split
      · split
        · rename_i h; subst h; exact zM'_ok (by simp [binV])
        · exact OkM.lift _ _ _
      · split
        · rename_i h; subst h; exact zM'_ok (by simp [binV])
        · exact OkM.lift _ _ _
      · split
        · rename_i h; subst h; exact zM'_ok (by simp [binV])
        · exact OkM.lift _ _ _
      · exact zM_ok fun h => by simp [binV, h]
      · exact zM_ok fun h => by simp [binV, h]
      · exact OkM.lift _ _ _
    · exact OkM.lift _ _ _
  · split
    · refine OkM.ask fun s b p hq hp => ?_
      cases s <;> simp only [Option.some.injEq, Prod.mk.injEq, reduceCtorEq] at hq
      obtain ⟨rfl, rfl⟩ := hq
      simp [binV, hp.1, hp.2]
    · exact OkM.lift _ _ _
  · exact OkM.lift _ _ _
def rowM {α : Type} (st : St) (w : AOp) (id : Nat) (f : Nat → Nat → List AV → Bool → Bool → WM α) : WM α := match st.m[id]? with
  | some (.row v s l wr ap) => f v s l wr ap
  | _ => stopM st w
theorem rowM_ok {α : Type} {st : St} {w : AOp} {id : Nat} {f : Nat → Nat → List AV → Bool → Bool → WM α} {o : Option α} (h : ∀ v s l wr ap, st.m[id]? = some (.row v s l wr ap) → OkM (f v s l wr ap) o) : OkM (rowM st w id f) o := by
  unfold rowM
  split
  · rename_i v s l wr ap hm
    exact h _ _ _ _ _ hm
  · exact OkM.stop _ _ _
def ifM {α : Type} (st : St) (w : AOp) (c : Prop) [Decidable c] (x : WM α) : WM α := if c then x else stopM st w
theorem ifM_ok {α : Type} {st : St} {w : AOp} {c : Prop} [Decidable c] {x : WM α} {o : Option α} (h : c → OkM x o) : OkM (ifM st w c x) o := by
  unfold ifM
  split
  · rename_i hc; exact h hc
  · exact OkM.stop _ _ _

def pureM (m : List MObj) (fr : List (Nat × AV)) (o : AOp) : WM AV :=
  match o with
  | .bin op x y => binM ⟨fr, m⟩ o op (pureOp m fr o) (evA fr x).toVal (evA fr y).toVal
  | .cint k x => (match evA fr x with
    | .val (.int k' n) => if k = .i64 then zM' ⟨fr, m⟩ o .i64 (IntKind.i64.wrap n) else liftM ⟨fr, m⟩ o (pureOp m fr o)
    | _ => liftM ⟨fr, m⟩ o (pureOp m fr o))
  | .pick c a b => (match evA fr c with
    | .val (.bool t) => bindM (boolM ⟨fr, m⟩ o t) fun t => retM (if t then evA fr a else evA fr b)
    | _ => stopM ⟨fr, m⟩ o)
  | .load n ag a => (match evA fr a with
    | .elt id ver used i fo => rowM ⟨fr, m⟩ o id fun v _ l _ _ => bindM (askM ⟨fr, m⟩ o fun
        | .v x => some (x, v = ver ∧ l.length = used ∧ l[i]? = some x)
        | _ => none) fun x => liftM ⟨fr, m⟩ o (mkV n ag (x.cells.drop fo))
    | _ => liftM ⟨fr, m⟩ o (pureOp m fr o))
  | .iaddr sz x i => (match evA fr i, evA fr x with
    | .val (.int _ n), .slice s l => ifM ⟨fr, m⟩ o (s = sz) (askM ⟨fr, m⟩ o fun
        | .ix k e => some (.rptr e.cells, n = (k : Int) ∧ l[k]? = some e)
        | _ => none)
    | .val (.int _ n), .row id ver used off len => rowM ⟨fr, m⟩ o id fun v s l _ _ => ifM ⟨fr, m⟩ o (s = sz) (askM ⟨fr, m⟩ o fun
        | .n k => some (.elt id ver used (off + k) 0, v = ver ∧ l.length = used ∧ n = (k : Int) ∧ k < len)
        | _ => none)
    | _, _ => stopM ⟨fr, m⟩ o)
  | .aaddr cnt sz x i => (match evA fr i with
    | .val (.int _ n) => bindM (askM ⟨fr, m⟩ o fun
        | .n k => some (k, n = (k : Int) ∧ k < cnt)
        | _ => none) fun k => liftM ⟨fr, m⟩ o (faddrA m (k * sz) (evA fr x))
    | _ => stopM ⟨fr, m⟩ o)
  | .sidx x i => (match evA fr i, evA fr x with
    | .val (.int _ n), .val (.string s) => askM ⟨fr, m⟩ o fun
        | .y k c => some (.val (.int .u8 c.toNat), n = (k : Int) ∧ s[k]? = some c)
        | _ => none
    | _, _ => stopM ⟨fr, m⟩ o)
  | .aidx cnt sz ag x i => (match evA fr i, evA fr x with
    | .val (.int _ n), .agg l => askM ⟨fr, m⟩ o fun
        | .ix k e => some (e, n = (k : Int) ∧ k < cnt ∧ mkV sz ag (l.drop (k * sz)) = some e)
        | _ => none
    | _, _ => stopM ⟨fr, m⟩ o)
  | .len x => (match evA fr x with
    | .slice _ l => askM ⟨fr, m⟩ o fun
        | .n k => some (.val (.int .i64 k), l.length = k)
        | _ => none
    | .row id ver used off len => rowM ⟨fr, m⟩ o id fun v _ l _ _ => askM ⟨fr, m⟩ o fun
        | .n k => some (.val (.int .i64 k), v = ver ∧ l.length = used ∧ ((l.drop off).take len).length = k)
        | _ => none
    | _ => liftM ⟨fr, m⟩ o (pureOp m fr o))
  | .slc sz x lo hi => (match evA fr x with
    | .slice s l => ifM ⟨fr, m⟩ o (s = sz) (askM ⟨fr, m⟩ o fun
        | .sl a b l' => some (.slice s l', lowOf fr lo = some a ∧ highOf fr l.length hi = some b ∧ a ≤ b ∧ b ≤ l.length ∧ (l.take b).drop a = l')
        | _ => none)
    | .row id ver used off len => rowM ⟨fr, m⟩ o id fun v s l _ _ => ifM ⟨fr, m⟩ o (s = sz) (askM ⟨fr, m⟩ o fun
        | .sl a b _ => some (.row id ver used (off + a) (b - a), v = ver ∧ l.length = used ∧ lowOf fr lo = some a ∧ highOf fr len hi = some b ∧ a ≤ b ∧ b ≤ len)
        | _ => none)
    | _ => stopM ⟨fr, m⟩ o)
  | .sslc x lo hi => (match evA fr x with
    | .val (.string s) => askM ⟨fr, m⟩ o fun
        | .ss a b s' => some (.val (.string s'), lowOf fr lo = some a ∧ highOf fr s.size hi = some b ∧ a ≤ b ∧ b ≤ s.size ∧ s.extract a b = s')
        | _ => none
    | _ => stopM ⟨fr, m⟩ o)
  | .b2s x => askM ⟨fr, m⟩ o fun
        | .s s' => some (.val (.string s'), ((elems m (evA fr x)).bind fun l => (bytesL l).map fun s => AV.val (.string ⟨s.toArray⟩)) = some (.val (.string s')))
        | _ => none
  | o => liftM ⟨fr, m⟩ o (pureOp m fr o)
theorem toN_of {k : IntKind} {n : Int} {j : Nat} (h : n = (j : Int)) : (AV.val (.int k n)).toN = some j := by subst h; simp
theorem pureM_ok (m : List MObj) (fr : List (Nat × AV)) (o : AOp) : OkM (pureM m fr o) (pureOp m fr o) := by
  unfold pureM
  split
  · rename_i op x y
    exact binM_ok _ _ _ _ _
  · rename_i k x
    split
    · rename_i k' n hx
      split
      · rename_i hk; subst hk; exact zM'_ok (by simp only [pureOp, hx])
      · exact OkM.lift _ _ _
    · exact OkM.lift _ _ _
  · rename_i c a b
    split
    · rename_i t hc
      refine OkM.bind' (boolM_ok _ _ _) fun t' ht => ?_
      cases ht
      simp only [pureOp, hc]
      exact OkM.ret _
    · exact OkM.stop _ _ _
  · rename_i n ag a
    split
    · rename_i id ver used i fo ha
      refine rowM_ok fun v s l wr ap hm => ?_
      simp only at hm
      have : pureOp m fr (.load n ag a) = (if v = ver ∧ l.length = used then l[i]? else none).bind (fun x => mkV n ag (x.cells.drop fo)) := by
        simp only [pureOp, ha, cellsAt, hm]
        split
        · cases l[i]? <;> rfl
        · rfl
      rw [this]
      refine OkM.bind (OkM.ask fun s a p hq hp => ?_) fun x _ => OkM.lift _ _ _
      cases s <;> simp only [Option.some.injEq, Prod.mk.injEq, reduceCtorEq] at hq
      obtain ⟨rfl, rfl⟩ := hq
      rw [if_pos ⟨hp.1, hp.2.1⟩, hp.2.2]
    · exact OkM.lift _ _ _
  · rename_i sz x i
    split
    · rename_i k n s l hi hx
      refine ifM_ok fun hs => OkM.ask fun s a p hq hp => ?_
      cases s <;> simp only [Option.some.injEq, Prod.mk.injEq, reduceCtorEq] at hq
      obtain ⟨rfl, rfl⟩ := hq
      simp only [pureOp, hi, hx, toN_of hp.1, iaddrA, hp.2, if_pos hs]
    · rename_i k n id ver used off len hi hx
      refine rowM_ok fun v s l wr ap hm => ifM_ok fun hs => OkM.ask fun sc a p hq hp => ?_
      cases sc <;> simp only [Option.some.injEq, Prod.mk.injEq, reduceCtorEq] at hq
      obtain ⟨rfl, rfl⟩ := hq
      simp only at hm
      simp only [pureOp, hi, hx, toN_of hp.2.2.1, iaddrA, hm]
      rw [if_pos ⟨hp.1, hp.2.1, hp.2.2.2, hs⟩]
    · exact OkM.stop _ _ _
  · rename_i cnt sz x i
    split
    · rename_i k n hi
      refine OkM.bind' (o := if 0 ≤ n ∧ n.toNat < cnt then some n.toNat else none) (OkM.ask fun sc a p hq hp => ?_) fun j hj => ?_
      · cases sc <;> simp only [Option.some.injEq, Prod.mk.injEq, reduceCtorEq] at hq
        obtain ⟨rfl, rfl⟩ := hq
        obtain ⟨rfl, h2⟩ := hp
        simp [h2]
      · split at hj
        · rename_i hc
          cases hj
          have : pureOp m fr (.aaddr cnt sz x i) = faddrA m (n.toNat * sz) (evA fr x) := by
            simp only [pureOp, hi, AV.toN, AV.toI, if_pos hc.1, if_pos hc.2]
          rw [this]
          exact OkM.lift _ _ _
        · cases hj
    · exact OkM.stop _ _ _
  · rename_i x i
    split
    · rename_i k n s hi hx
      refine OkM.ask fun sc a p hq hp => ?_
      cases sc <;> simp only [Option.some.injEq, Prod.mk.injEq, reduceCtorEq] at hq
      obtain ⟨rfl, rfl⟩ := hq
      simp only [pureOp, hi, hx, toN_of hp.1, sidxA, hp.2, Option.map_some]
    · exact OkM.stop _ _ _
  · rename_i cnt sz ag x i
    split
    · rename_i k n l hi hx
      refine OkM.ask fun sc a p hq hp => ?_
      cases sc <;> simp only [Option.some.injEq, Prod.mk.injEq, reduceCtorEq] at hq
      obtain ⟨rfl, rfl⟩ := hq
      simp only [pureOp, hi, hx, toN_of hp.1, if_pos hp.2.1, hp.2.2]
    · exact OkM.stop _ _ _
  · rename_i x
    split
    · rename_i s l hx
      refine OkM.ask fun sc a p hq hp => ?_
      cases sc <;> simp only [Option.some.injEq, Prod.mk.injEq, reduceCtorEq] at hq
      obtain ⟨rfl, rfl⟩ := hq
      simp only [pureOp, hx, lenA, elems, Option.map_some, hp]
    · rename_i id ver used off len hx
      refine rowM_ok fun v s l wr ap hm => OkM.ask fun sc a p hq hp => ?_
      cases sc <;> simp only [Option.some.injEq, Prod.mk.injEq, reduceCtorEq] at hq
      obtain ⟨rfl, rfl⟩ := hq
      simp only at hm
      simp only [pureOp, hx, lenA, elems, hm]
      rw [if_pos ⟨hp.1, hp.2.1⟩, Option.map_some, hp.2.2]
    · exact OkM.lift _ _ _
  · rename_i sz x lo hi
    split
    · rename_i s l hx
      refine ifM_ok fun hs => OkM.ask fun sc a p hq hp => ?_
      cases sc <;> simp only [Option.some.injEq, Prod.mk.injEq, reduceCtorEq] at hq
      obtain ⟨rfl, rfl⟩ := hq
      obtain ⟨h1, h2, h3, h4, h5⟩ := hp
      simp only [pureOp, hx, slcA, h1, h2]
      rw [if_pos ⟨h3, h4, hs⟩, h5]
    · rename_i id ver used off len hx
      refine rowM_ok fun v s l wr ap hm => ifM_ok fun hs => OkM.ask fun sc a p hq hp => ?_
      cases sc <;> simp only [Option.some.injEq, Prod.mk.injEq, reduceCtorEq] at hq
      obtain ⟨rfl, rfl⟩ := hq
      obtain ⟨h1, h2, h3, h4, h5, h6⟩ := hp
      simp only at hm
      simp only [pureOp, hx, slcA, hm, h3, h4]
      rw [if_pos ⟨h1, h2, hs⟩, if_pos ⟨h5, h6⟩]
    · exact OkM.stop _ _ _
  · rename_i x lo hi
    split
    · rename_i s hx
      refine OkM.ask fun sc a p hq hp => ?_
      cases sc <;> simp only [Option.some.injEq, Prod.mk.injEq, reduceCtorEq] at hq
      obtain ⟨rfl, rfl⟩ := hq
      obtain ⟨h1, h2, h3, h4, h5⟩ := hp
      simp only [pureOp, hx, sslcA, h1, h2]
      rw [if_pos ⟨h3, h4⟩, h5]
    · exact OkM.stop _ _ _
  · rename_i x
    refine OkM.ask fun sc a p hq hp => ?_
    cases sc <;> simp only [Option.some.injEq, Prod.mk.injEq, reduceCtorEq] at hq
    obtain ⟨rfl, rfl⟩ := hq
    exact hp
  · exact OkM.lift _ _ _
end Go.Proofs.Ytejajmmacmcijaa
