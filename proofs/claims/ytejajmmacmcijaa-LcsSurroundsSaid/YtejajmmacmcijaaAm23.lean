/- The abstract machine: the walk along given facts, for code, loops and functions. -/
import Derived.Test.YtejajmmacmcijaaAm22
namespace Go.Proofs.Ytejajmmacmcijaa

section
variable (m : List MObj) (w : AOp)
def frzCellM : AV → WM AV
  | .row id ver used off len => rowM ⟨[], m⟩ w id fun v s l _ _ => askM ⟨[], m⟩ w fun
      | .g l' => some (.slice s l', v = ver ∧ l.length = used ∧ (l.drop off).take len = l')
      | _ => none
  | v => liftM ⟨[], m⟩ w (frzCell m v)
def frzCellsM : List AV → WM (List AV)
  | [] => retM []
  | v :: r => bindM (frzCellM m w v) fun a => bindM (frzCellsM r) fun b => retM (a :: b)
def frzM : AV → WM AV
  | .agg l => bindM (frzCellsM m w l) fun l' => retM (.agg l')
  | v => frzCellM m w v
def frzLM : List AV → WM (List AV)
  | [] => retM []
  | v :: r => bindM (frzM m w v) fun a => bindM (frzLM r) fun b => retM (a :: b)
theorem frzCellM_ok (v : AV) : OkM (frzCellM m w v) (frzCell m v) := by
  unfold frzCellM
  split
  · rename_i id ver used off len
    refine rowM_ok fun v s l wr ap hm => OkM.ask fun sc a p hq hp => ?_
    cases sc <;> simp only [Option.some.injEq, Prod.mk.injEq, reduceCtorEq] at hq
    obtain ⟨rfl, rfl⟩ := hq
    simp only at hm
    simp only [frzCell, hm]
    rw [if_pos ⟨hp.1, hp.2.1⟩, hp.2.2]
  · exact OkM.lift _ _ _
theorem frzCellsM_ok : ∀ l : List AV, OkM (frzCellsM m w l) (frzCells m l)
  | [] => OkM.ret _
  | v :: r => by
    have : frzCells m (v :: r) = (frzCell m v).bind fun a => (frzCells m r).bind fun b => some (a :: b) := by
      simp only [frzCells]
      cases frzCell m v <;> cases frzCells m r <;> rfl
    rw [this]
    exact (frzCellM_ok m w v).bind fun a _ => (frzCellsM_ok r).bind fun b _ => OkM.ret _
theorem frzM_ok (v : AV) : OkM (frzM m w v) (frz m v) := by
  unfold frzM
  split
  · rename_i l
    have : frz m (.agg l) = (frzCells m l).bind fun l' => some (.agg l') := by simp only [frz]; cases frzCells m l <;> rfl
    rw [this]
    exact (frzCellsM_ok m w l).bind fun a _ => OkM.ret _
  · rename_i hne
    have : frz m v = frzCell m v := by
      unfold frz
      split
      · exact absurd rfl (hne _)
      · rfl
    rw [this]
    exact frzCellM_ok m w v
theorem frzLM_ok : ∀ l : List AV, OkM (frzLM m w l) (frzL m l)
  | [] => OkM.ret _
  | v :: r => by
    have : frzL m (v :: r) = (frz m v).bind fun a => (frzL m r).bind fun b => some (a :: b) := by
      simp only [frzL]
      cases frz m v <;> cases frzL m r <;> rfl
    rw [this]
    exact (frzM_ok m w v).bind fun a _ => (frzLM_ok r).bind fun b _ => OkM.ret _
def elemsSM (sz : Nat) : AV → WM (List AV)
  | .row id ver used off len => rowM ⟨[], m⟩ w id fun v s l _ _ => ifM ⟨[], m⟩ w (s = sz) (askM ⟨[], m⟩ w fun
      | .g l' => some (l', v = ver ∧ l.length = used ∧ (l.drop off).take len = l')
      | _ => none)
  | v => liftM ⟨[], m⟩ w (elemsS m sz v)
theorem elemsSM_ok (sz : Nat) (v : AV) : OkM (elemsSM m w sz v) (elemsS m sz v) := by
  unfold elemsSM
  split
  · rename_i id ver used off len
    refine rowM_ok fun v s l wr ap hm => ifM_ok fun hs => OkM.ask fun sc a p hq hp => ?_
    cases sc <;> simp only [Option.some.injEq, Prod.mk.injEq, reduceCtorEq] at hq
    obtain ⟨rfl, rfl⟩ := hq
    simp only at hm
    simp only [elemsS, hm]
    rw [if_pos ⟨hp.1, hp.2.1, hs⟩, hp.2.2]
  · exact OkM.lift _ _ _
def bsElsM (fr : List (Nat × AV)) (sz : Nat) : List AV → List (Nat × Operand) → WM (List AV)
  | l, [] => retM l
  | l, (i, x) :: r => bindM (frzM m w (evA fr x)) fun v => ifM ⟨fr, m⟩ w (v.cells.length = sz ∧ i < l.length) (bsElsM fr sz (l.set i v) r)
theorem bsElsM_ok (fr : List (Nat × AV)) (sz : Nat) : ∀ (ps : List (Nat × Operand)) (l : List AV), OkM (bsElsM m w fr sz l ps) (bsEls fr m sz l ps)
  | [], l => OkM.ret _
  | (i, x) :: r, l => by
    have : bsEls fr m sz l ((i, x) :: r) = (frz m (evA fr x)).bind fun v => if v.cells.length = sz ∧ i < l.length then bsEls fr m sz (l.set i v) r else none := by
      simp only [bsEls]
      cases frz m (evA fr x) <;> rfl
    rw [this]
    refine (frzM_ok m w _).bind fun a _ => ifM_ok fun hc => ?_
    rw [if_pos hc]
    exact bsElsM_ok fr sz r _
end

section
variable (call : CallF) (loop : LoopF)
/-- slots whose truth value is known -/
def findK : List (Nat × Bool) → Nat → Option Bool
  | [], _ => none
  | (k, x) :: r, s => if k = s then some x else findK r s
def lessK (d : Option Nat) : List (Nat × Bool) → List (Nat × Bool)
  | [] => []
  | (k, x) :: r => if some k = d then lessK d r else (k, x) :: lessK d r
def KOk (fr : List (Nat × AV)) (K : List (Nat × Bool)) : Prop := ∀ s x, findK K s = some x → look fr s = .val (.bool x)
theorem lessK_find {d : Option Nat} : ∀ {K : List (Nat × Bool)} {s : Nat} {x : Bool}, findK (lessK d K) s = some x → findK K s = some x ∧ some s ≠ d
  | [], s, x, h => by simp [lessK, findK] at h
  | (k, y) :: r, s, x, h => by
    unfold lessK at h
    split at h
    · rename_i hk
      have := lessK_find h
      refine ⟨?_, this.2⟩
      unfold findK
      rw [if_neg (fun e => this.2 (by rw [← e, hk]))]
      exact this.1
    · rename_i hk
      unfold findK at h
      split at h
      · rename_i hs
        subst hs
        exact ⟨by simp [findK, h], hk⟩
      · rename_i hs
        have := lessK_find h
        exact ⟨by simp [findK, hs, this.1], this.2⟩
theorem KOk.put {fr : List (Nat × AV)} {K : List (Nat × Bool)} (h : KOk fr K) (d : Option Nat) (v : AV) : KOk (putf d v fr) (lessK d K) := by
  intro s x hs
  have := lessK_find hs
  cases d with
  | none => exact h s x this.1
  | some d =>
    have hne : ¬ d = s := fun e => this.2 (by rw [e])
    show look (setf d v fr) s = _
    rw [look_setf, if_neg hne]
    exact h s x this.1
theorem stepOp_fr {st st' : St} {d : Option Nat} {o : AOp} (h : stepOp call st d o = some st') : ∃ v, st'.fr = putf d v st.fr := by
  by_cases he : o.isEff = false
  · rw [step_pure he] at h
    simp only [Option.map_eq_some_iff] at h
    obtain ⟨v, _, rfl⟩ := h
    exact ⟨v, rfl⟩
  · cases o <;> first | exact absurd rfl he | (simp only [stepOp] at h; repeat' split at h) <;> first | cases h; exact ⟨_, rfl⟩ | (simp only [Option.map_eq_some_iff] at h; obtain ⟨v, _, rfl⟩ := h; exact ⟨_, rfl⟩) | cases h
def newK (K : List (Nat × Bool)) (w : Bool) : Option (Nat × Bool) → List (Nat × Bool)
  | none => K
  | some (s, b') => match findK K s with
    | some _ => K
    | none => (s, w == b') :: K
def guardM (fr : List (Nat × AV)) (m : List MObj) (w : AOp) (K : List (Nat × Bool)) : Option (Nat × Bool) → WM (Bool × List (Nat × Bool))
  | none => retM (true, K)
  | some (s, b) => match findK K s with
    | some x => retM (x == b, K)
    | none => match look fr s with
      | .val (.bool c) => bindM (boolM ⟨fr, m⟩ (.mov (.tmp s)) c) fun x => retM (x == b, (s, x) :: K)
      | _ => stopM ⟨fr, m⟩ w
theorem guardM_ok {fr : List (Nat × AV)} {K : List (Nat × Bool)} (hK : KOk fr K) (m : List MObj) (w : AOp) (g : Option (Nat × Bool)) : OkM (guardM fr m w K g) ((wantedA fr g).map fun b => (b, newK K b g)) := by
  unfold guardM wantedA
  split
  · exact OkM.ret _
  · rename_i s b
    split
    · rename_i x hx
      simp only [hK s x hx, hx, newK, Option.map_some]
      exact OkM.ret _
    · rename_i hn
      split
      · rename_i c hc
        refine OkM.bind' (boolM_ok _ _ _) fun x hx => ?_
        cases hx
        simp only [hc, hn, newK, Option.map_some]
        have : ((c == b) == b) = c := by cases c <;> cases b <;> rfl
        rw [this]
        exact OkM.ret _
      · exact OkM.stop _ _ _
theorem guardK_ok {fr : List (Nat × AV)} {K : List (Nat × Bool)} (hK : KOk fr K) {g : Option (Nat × Bool)} {w : Bool} (h : wantedA fr g = some w) : KOk fr (newK K w g) := by
  cases g with
  | none => exact hK
  | some p =>
    obtain ⟨s, b⟩ := p
    simp only [newK]
    split
    · exact hK
    · intro s' x hs
      unfold findK at hs
      split at hs
      · rename_i e
        subst e
        unfold wantedA at h
        simp only at h
        split at h
        · rename_i c hc
          cases h
          cases hs
          rw [hc]
          cases c <;> cases b <;> rfl
        · cases h
      · exact hK _ _ hs

def stepM (st : St) (d : Option Nat) (o : AOp) : WM St :=
  match o with
  | .store n a v => (match evA st.fr a with
    | .elt id ver used i fo => ifM st o (((evA st.fr v).cells.length = n) ∧ ((evA st.fr v).cells.all AV.isCell) = true) (
      match ((evA st.fr v).cells.foldl shutCell st.m)[id]? with
      | some (.row vv s l true ap) => bindM (askM st o fun
          | .v x => some (x, vv = ver ∧ l.length = used ∧ l[i]? = some x)
          | _ => none) fun x => bindM (frzCellsM st.m o (evA st.fr v).cells) fun gs => liftM st o ((setEl x fo gs).map fun x' => ⟨putf d .any st.fr, ((evA st.fr v).cells.foldl shutCell st.m).set id (.row vv s (l.set i x') true ap)⟩)
      | _ => stopM st o)
    | _ => liftM st o (stepOp call st d o))
  | .app sz bytes x y => bindM (elemsSM st.m o sz (evA st.fr y)) fun ly => (match evA st.fr x with
    | .val (.slice none 0 0) => askM st o fun
        | .n u => some (⟨putf d (.row st.m.length 0 u 0 u) st.fr, st.m ++ [.row 0 sz ly true true]⟩, ly.length = u ∧ u * bytes ≤ 140737488355328 ∧ u ≤ maxLen)
        | _ => none
    | .row id ver used off len => rowM st o id fun v s l wr ap => ifM st o (s = sz ∧ ap = true) (askM st o fun
        | .n u => some (⟨putf d (.row id ver u 0 u) st.fr, st.m.set id (.row v s (l ++ ly) wr ap)⟩, v = ver ∧ l.length = used ∧ off = 0 ∧ len = used ∧ used + ly.length = u ∧ u * bytes ≤ 140737488355328 ∧ u ≤ maxLen)
        | _ => none)
    | _ => stopM st o)
  | .mks sz zero ag bytes l c => (match evA st.fr l, evA st.fr c with
    | .val (.int _ a), .val (.int _ b) => askM st o fun
        | .n k => some (⟨putf d (.row st.m.length 0 k 0 k) st.fr, st.m ++ [.row 0 sz (List.replicate k (zeroEl zero ag)) true true]⟩, a = (k : Int) ∧ b = (k : Int) ∧ k ≤ maxLen ∧ bytes * k ≤ 281474976710656)
        | _ => none
    | _, _ => stopM st o)
  | .bslice sz own zero ag cnt parts => bindM (bsElsM st.m o st.fr sz (List.replicate cnt (zeroEl zero ag)) parts) fun l => retM (if own then ⟨putf d (.row st.m.length 0 cnt 0 cnt) st.fr, (parts.foldl (fun m p => shutV m (evA st.fr p.2)) st.m) ++ [.row 0 sz l true true]⟩ else ⟨putf d (.slice sz l) st.fr, parts.foldl (fun m p => shutV m (evA st.fr p.2)) st.m⟩)
  | .call f args => bindM (frzLM st.m o (args.map (evA st.fr))) fun vs => bindM (askM st o fun
        | .v r => some (r, call f vs = some r)
        | _ => none) fun r => retM ⟨putf d r st.fr, if r.flatT then st.m else (args.map (evA st.fr)).foldl shutV st.m⟩
  | .nilrow sz => liftM st o (stepOp call st d o)
  | .alloc zero => liftM st o (stepOp call st d o)
  | .s2b x => liftM st o (stepOp call st d o)
  | o => bindM (pureM st.m st.fr o) fun v => retM ⟨putf d v st.fr, st.m⟩
theorem stepM_pure (st : St) (d : Option Nat) {o : AOp} (h : o.isEff = false) : OkM (bindM (pureM st.m st.fr o) fun v => retM ⟨putf d v st.fr, st.m⟩) (stepOp call st d o) := by
  have : stepOp call st d o = (pureOp st.m st.fr o).bind fun v => some ⟨putf d v st.fr, st.m⟩ := by
    rw [step_pure h]; cases pureOp st.m st.fr o <;> rfl
  rw [this]
  exact (pureM_ok _ _ _).bind fun a _ => OkM.ret _
theorem stepM_ok (st : St) (d : Option Nat) (o : AOp) : OkM (stepM call st d o) (stepOp call st d o) := by
  unfold stepM
  split
  · rename_i n a v
    split
    · rename_i id ver used i fo ha
      refine ifM_ok fun hc => ?_
      split
      · rename_i vv s l ap hm
        refine OkM.bind' (o := if vv = ver ∧ l.length = used then l[i]? else none) (OkM.ask fun sc b p hq hp => ?_) fun x hx => ?_
        · cases sc <;> simp only [Option.some.injEq, Prod.mk.injEq, reduceCtorEq] at hq
          obtain ⟨rfl, rfl⟩ := hq
          rw [if_pos ⟨hp.1, hp.2.1⟩, hp.2.2]
        · split at hx
          · rename_i hv
            refine OkM.bind' (frzCellsM_ok st.m _ _) fun gs hg => ?_
            have : stepOp call st d (.store n a v) = (setEl x fo gs).map fun x' => ⟨putf d .any st.fr, ((evA st.fr v).cells.foldl shutCell st.m).set id (.row vv s (l.set i x') true ap)⟩ := by
              simp only [stepOp, ha, if_pos hc, hm, if_pos hv, hg, hx]
            rw [this]
            exact OkM.lift _ _ _
          · cases hx
      · exact OkM.stop _ _ _
    · exact OkM.lift _ _ _
  · rename_i sz bytes x y
    refine OkM.bind' (elemsSM_ok _ _ _ _) fun ly hy => ?_
    split
    · rename_i hx
      refine OkM.ask fun sc a p hq hp => ?_
      cases sc <;> simp only [Option.some.injEq, Prod.mk.injEq, reduceCtorEq] at hq
      obtain ⟨rfl, rfl⟩ := hq
      obtain ⟨rfl, h2, h3⟩ := hp
      simp only [stepOp, hy, hx]
      rw [if_pos ⟨h2, h3⟩]
    · rename_i id ver used off len hx
      refine rowM_ok fun v s l wr ap hm => ifM_ok fun hs => OkM.ask fun sc a p hq hp => ?_
      cases sc <;> simp only [Option.some.injEq, Prod.mk.injEq, reduceCtorEq] at hq
      obtain ⟨rfl, rfl⟩ := hq
      obtain ⟨h1, h2, h3, h4, rfl, h6, h7⟩ := hp
      simp only [stepOp, hy, hx, hm]
      rw [if_pos ⟨h1, h2, h3, h4, hs.1, hs.2, h6, h7⟩]
    · exact OkM.stop _ _ _
  · rename_i sz zero ag bytes l c
    split
    · rename_i k a k' b hl hc
      refine OkM.ask fun sc a p hq hp => ?_
      cases sc <;> simp only [Option.some.injEq, Prod.mk.injEq, reduceCtorEq] at hq
      obtain ⟨rfl, rfl⟩ := hq
      obtain ⟨h1, h2, h3, h4⟩ := hp
      simp only [stepOp, hl, hc, toN_of h1, toN_of h2]
      rw [if_pos ⟨trivial, h3, h4⟩]
    · exact OkM.stop _ _ _
  · rename_i sz own zero ag cnt parts
    refine OkM.bind' (bsElsM_ok _ _ _ _ _ _) fun l hl => ?_
    simp only [stepOp, hl]
    cases own <;> exact OkM.ret _
  · rename_i f args
    refine OkM.bind' (frzLM_ok _ _ _) fun vs hv => OkM.bind' (o := call f vs) (OkM.ask fun sc a p hq hp => ?_) fun r hr => ?_
    · cases sc <;> simp only [Option.some.injEq, Prod.mk.injEq, reduceCtorEq] at hq
      obtain ⟨rfl, rfl⟩ := hq
      exact hp
    · simp only [stepOp, hv, hr]
      exact OkM.ret _
  · exact OkM.lift _ _ _
  · exact OkM.lift _ _ _
  · exact OkM.lift _ _ _
  · cases o <;> first | exact stepM_pure call st d rfl | (rename_i h1 h2 h3 h4 h5 h6 h7 h8; first | exact absurd rfl (h1 _ _ _) | exact absurd rfl (h2 _ _ _ _) | exact absurd rfl (h3 _ _ _ _ _ _) | exact absurd rfl (h4 _ _ _ _ _ _) | exact absurd rfl (h5 _ _) | exact absurd rfl (h6 _) | exact absurd rfl (h7 _) | exact absurd rfl (h8 _))

def quietM (m : List MObj) (fr : List (Nat × AV)) (o : AOp) : WM AV := match o with
  | .call f args => bindM (frzLM m o (args.map (evA fr))) fun vs => bindM (askM ⟨fr, m⟩ o fun
        | .v r => some (r, call f vs = some r)
        | _ => none) fun r => liftM ⟨fr, m⟩ o (if r.toVal.isSome then some r else none)
  | o => pureM m fr o
theorem quietM_ok (m : List MObj) (fr : List (Nat × AV)) (o : AOp) : OkM (quietM call m fr o) (quietOp call m fr o) := by
  unfold quietM
  split
  · rename_i f args
    refine OkM.bind' (frzLM_ok _ _ _) fun vs hv => OkM.bind' (o := call f vs) (OkM.ask fun sc a p hq hp => ?_) fun r hr => ?_
    · cases sc <;> simp only [Option.some.injEq, Prod.mk.injEq, reduceCtorEq] at hq
      obtain ⟨rfl, rfl⟩ := hq
      exact hp
    · simp only [quietOp, hv, hr]
      exact OkM.lift _ _ _
  · rename_i hne
    have : quietOp call m fr o = pureOp m fr o := qo_pure (by cases o <;> first | rfl | exact absurd rfl (hne _ _))
    rw [this]
    exact pureM_ok _ _ _
/-- a choice whose condition is known -/
def knownOp (K : List (Nat × Bool)) : AOp → AOp
  | .pick (.tmp s) a b => (match findK K s with
    | some x => .mov (if x then a else b)
    | none => .pick (.tmp s) a b)
  | o => o
theorem knownOp_pure {fr : List (Nat × AV)} {K : List (Nat × Bool)} (hK : KOk fr K) (m : List MObj) (s : Nat) (a b : Operand) {x : Bool} (hx : findK K s = some x) : pureOp m fr (.pick (.tmp s) a b) = pureOp m fr (.mov (if x then a else b)) := by
  simp only [pureOp, evA, hK s x hx]
  cases x <;> rfl
theorem knownOp_step {st : St} {K : List (Nat × Bool)} (hK : KOk st.fr K) (d : Option Nat) (o : AOp) : stepOp call st d (knownOp K o) = stepOp call st d o := by
  unfold knownOp
  split
  · rename_i s a b
    split
    · rename_i x hx
      rw [step_pure rfl, step_pure rfl, knownOp_pure hK st.m s a b hx]
    · rfl
  · rfl
theorem knownOp_quiet {fr : List (Nat × AV)} {K : List (Nat × Bool)} (hK : KOk fr K) (m : List MObj) (o : AOp) : quietOp call m fr (knownOp K o) = quietOp call m fr o := by
  unfold knownOp
  split
  · rename_i s a b
    split
    · rename_i x hx
      rw [qo_pure rfl, qo_pure rfl, knownOp_pure hK m s a b hx]
    · rfl
  · rfl
def opsM : List AOper → List (Nat × Bool) → St → WM St
  | [], _, st => retM st
  | o :: r, K, st => bindM (guardM st.fr st.m o.op K o.guard) fun w => if w.1 then bindM (stepM call st o.dst (knownOp w.2 o.op)) fun st' => opsM r (lessK o.dst w.2) st' else opsM r (lessK o.dst w.2) ⟨putf o.dst (.val undef) st.fr, st.m⟩
theorem opsM_ok : ∀ (l : List AOper) (K : List (Nat × Bool)) (st : St), KOk st.fr K → OkM (opsM call l K st) (runOps call l st)
  | [], K, st, _ => OkM.ret _
  | o :: r, K, st, hK => by
    unfold opsM runOps
    refine OkM.bind' (guardM_ok hK _ _ _) fun w hw => ?_
    simp only [Option.map_eq_some_iff] at hw
    obtain ⟨b, hw, rfl⟩ := hw
    have hK' := guardK_ok hK hw
    rw [hw]
    cases b with
    | true =>
      simp only [if_true]
      refine OkM.bind' (stepM_ok call _ _ _) fun st' hs => ?_
      rw [knownOp_step call hK'] at hs
      obtain ⟨v, hv⟩ := stepOp_fr call hs
      rw [hs]
      exact opsM_ok r _ st' (hv ▸ hK'.put _ v)
    | false => exact opsM_ok r _ _ (hK'.put _ _)
def quietsM (m : List MObj) : List AOper → List (Nat × Bool) → List (Nat × AV) → WM (List (Nat × AV))
  | [], _, fr => retM fr
  | o :: r, K, fr => bindM (guardM fr m o.op K o.guard) fun w => if w.1 then bindM (quietM call m fr (knownOp w.2 o.op)) fun v => quietsM m r (lessK o.dst w.2) (putf o.dst v fr) else quietsM m r (lessK o.dst w.2) (putf o.dst (.val undef) fr)
theorem quietsM_ok (m : List MObj) : ∀ (l : List AOper) (K : List (Nat × Bool)) (fr : List (Nat × AV)), KOk fr K → OkM (quietsM call m l K fr) (runQ call m l fr)
  | [], K, fr, _ => OkM.ret _
  | o :: r, K, fr, hK => by
    unfold quietsM runQ
    refine OkM.bind' (guardM_ok hK _ _ _) fun w hw => ?_
    simp only [Option.map_eq_some_iff] at hw
    obtain ⟨b, hw, rfl⟩ := hw
    have hK' := guardK_ok hK hw
    rw [hw]
    cases b with
    | true =>
      simp only [if_true]
      refine OkM.bind' (quietM_ok call _ _ _) fun v hs => ?_
      rw [knownOp_quiet call hK'] at hs
      rw [hs]
      exact quietsM_ok m r _ _ (hK'.put _ _)
    | false => exact quietsM_ok m r _ _ (hK'.put _ _)
theorem KOk.nil (fr : List (Nat × AV)) : KOk fr [] := fun s x h => by simp [findK] at h
def codeM : ACode → St → WM (AExit × St)
  | .skip, st => retM (.normal, st)
  | .region ops ds, st => bindM (opsM call ops [] st) fun st' => retM (.normal, ⟨dropF ds st'.fr, st'.m⟩)
  | .dregion ops tail ds, st => bindM (quietsM call st.m ops [] st.fr) fun fr => bindM (opsM call tail [] ⟨fr, st.m⟩) fun st' => retM (.normal, ⟨dropF ds st'.fr, st'.m⟩)
  | .seq a b, st => bindM (codeM a st) fun r => match r with
    | (.normal, st') => codeM b st'
    | r => retM r
  | .cond c a b, st => match evA st.fr c with
    | .val (.bool t) => bindM (boolM st (.mov c) t) fun t => if t then codeM a st else codeM b st
    | _ => stopM st (.mov c)
  | .block id c, st => bindM (codeM c st) fun r => match r with
    | (.exit i, st') => retM (if i = id then (.normal, st') else (.exit i, st'))
    | r => retM r
  | .loop c k, st => askM st (.mks 0 [] false 0 (.tmp 0) (.tmp 0)) fun
    | .l ex st' => some ((ex, st'), loop c k (normSt k st) = some (ex, st'))
    | _ => none
  | .exit id, st => retM (.exit id, st)
  | .ret, st => retM (.ret, st)
theorem codeM_ok : ∀ (c : ACode) (st : St), OkM (codeM call loop c st) (aexec call loop c st)
  | .skip, st => OkM.ret _
  | .region ops ds, st => by
    unfold codeM aexec
    refine OkM.bind' (opsM_ok call _ _ _ (KOk.nil _)) fun st' h => ?_
    rw [h]
    exact OkM.ret _
  | .dregion ops tail ds, st => by
    unfold codeM aexec
    refine OkM.bind' (quietsM_ok call _ _ _ _ (KOk.nil _)) fun fr h => ?_
    rw [h]
    refine OkM.bind' (opsM_ok call _ _ _ (KOk.nil _)) fun st' h' => ?_
    simp only [h']
    exact OkM.ret _
  | .seq a b, st => by
    unfold codeM aexec
    refine OkM.bind' (codeM_ok a st) fun r h => ?_
    rw [h]
    obtain ⟨ex, st'⟩ := r
    cases ex with
    | normal => exact codeM_ok b st'
    | exit i => exact OkM.ret _
    | ret => exact OkM.ret _
  | .cond c a b, st => by
    unfold codeM aexec
    split
    · rename_i t hc
      refine OkM.bind' (boolM_ok _ _ _) fun t' ht => ?_
      cases ht
      rw [hc]
      cases t with
      | true => exact codeM_ok a st
      | false => exact codeM_ok b st
    · exact OkM.stop _ _ _
  | .block id c, st => by
    unfold codeM aexec
    refine OkM.bind' (codeM_ok c st) fun r h => ?_
    rw [h]
    obtain ⟨ex, st'⟩ := r
    cases ex with
    | normal => exact OkM.ret _
    | exit i =>
      simp only
      split <;> exact OkM.ret _
    | ret => exact OkM.ret _
  | .loop c k, st => by
    unfold codeM aexec
    refine OkM.ask fun sc a p hq hp => ?_
    cases sc <;> simp only [Option.some.injEq, Prod.mk.injEq, reduceCtorEq] at hq
    obtain ⟨rfl, rfl⟩ := hq
    exact hp
  | .exit id, st => OkM.ret _
  | .ret, st => OkM.ret _
def resM (st : St) : ARes → WM AV
  | .tmp t => frzM st.m (.mov (.tmp t)) (look st.fr t)
  | .cell t n ag => bindM (liftM st (.mov (.tmp t)) ((cellsAt st.m (look st.fr t)).bind (mkV n ag))) fun v => frzM st.m (.mov (.tmp t)) v
theorem resM_ok (st : St) (x : ARes) : OkM (resM st x) (resOf st x) := by
  cases x with
  | tmp t => exact frzM_ok _ _ _
  | cell t n ag => exact OkM.bind (OkM.lift _ _ _) fun v _ => frzM_ok _ _ _
def resLM (st : St) : List ARes → WM (List AV)
  | [] => retM []
  | x :: r => bindM (resM st x) fun a => bindM (resLM st r) fun b => retM (a :: b)
theorem resLM_ok (st : St) : ∀ l : List ARes, OkM (resLM st l) (resL st l)
  | [] => OkM.ret _
  | x :: r => by
    have : resL st (x :: r) = (resOf st x).bind fun a => (resL st r).bind fun b => some (a :: b) := by
      simp only [resL]
      cases resOf st x <;> cases resL st r <;> rfl
    rw [this]
    exact (resM_ok st x).bind fun a _ => (resLM_ok st r).bind fun b _ => OkM.ret _
def bodyM (fn : AFunc) (args : List AV) : WM AV := ifM ⟨[], []⟩ (.call 0 []) (args.length = fn.params) (bindM (codeM call loop fn.body ⟨enterF fn.params 0 args, []⟩) fun r => match r with
  | (.exit _, st) => stopM st (.call 0 [])
  | (_, st) => bindM (resLM st fn.results) fun l => retM (mkRes l))
theorem bodyM_ok (fn : AFunc) (args : List AV) : OkM (bodyM call loop fn args) (runBody call loop fn args) := by
  unfold bodyM runBody
  refine ifM_ok fun h => ?_
  rw [if_pos h]
  refine OkM.bind' (codeM_ok call loop _ _) fun r hr => ?_
  obtain ⟨ex, st⟩ := r
  rw [hr]
  cases ex with
  | normal =>
    refine OkM.bind' (resLM_ok st _) fun l hl => ?_
    simp only [hl]
    exact OkM.ret _
  | exit i => exact OkM.stop _ _ _
  | ret =>
    refine OkM.bind' (resLM_ok st _) fun l hl => ?_
    simp only [hl]
    exact OkM.ret _
end

/-! ### facts -/
structure Item where
  sc : Sc
  q : Prop
  h : q
def scs : List Item → List Sc
  | [] => []
  | i :: r => i.sc :: scs r
def qs : List Item → List Prop
  | [] => []
  | i :: r => i.q :: qs r
theorem AllT_qs : ∀ l : List Item, AllT (qs l)
  | [] => trivial
  | i :: r => ⟨i.h, AllT_qs r⟩
section
variable {F : FuncId → Option AFunc} {X : CallF}
theorem R_it (its : List Item) {f : FuncId} {fn : AFunc} {vs : List AV} {r : AV} (hf : F f = some fn) (h : bodyM (R F X) (Lp F X) fn vs (scs its) = .ok r [] (qs its)) : R F X f vs = some r :=
  R_body hf (bodyM_ok _ _ _ _ _ _ _ _ h (AllT_qs its))
theorem aexec_it (its : List Item) {c : ACode} {st : St} {r : AExit × St} (h : codeM (R F X) (Lp F X) c st (scs its) = .ok r [] (qs its)) : aexec (R F X) (Lp F X) c st = some r :=
  codeM_ok _ _ _ _ _ _ _ _ h (AllT_qs its)
def roundM (call : CallF) (loop : LoopF) (c : ACode) (k : List Nat) (st : St) : WM St := bindM (codeM call loop c st) fun r => match r with
  | (.normal, st') => retM (normSt k st')
  | (_, st') => stopM st' (.call 0 [])
/-- one round of a loop -/
theorem Lp_round (its : List Item) {c : ACode} {k : List Nat} {st st' : St} {r : AExit × St} (h : roundM (R F X) (Lp F X) c k st (scs its) = .ok st' [] (qs its)) (h' : Lp F X c k st' = some r) : Lp F X c k st = some r := by
  have : OkM (roundM (R F X) (Lp F X) c k st) ((aexec (R F X) (Lp F X) c st).bind fun r => match r with | (.normal, st') => some (normSt k st') | _ => none) := by
    refine (codeM_ok _ _ _ _).bind fun r _ => ?_
    obtain ⟨ex, st1⟩ := r
    cases ex with
    | normal => exact OkM.ret _
    | exit i => exact OkM.stop _ _ _
    | ret => exact OkM.stop _ _ _
  have h2 := this _ _ _ _ h (AllT_qs its)
  rcases hx : aexec (R F X) (Lp F X) c st with _ | ⟨ex, st1⟩
  · rw [hx] at h2; cases h2
  · rw [hx] at h2
    cases ex with
    | normal =>
      simp only [Option.bind_some, Option.some.injEq] at h2
      subst h2
      exact Lp_step hx h'
    | exit i => cases h2
    | ret => cases h2
theorem Lp_out (its : List Item) {c : ACode} {k : List Nat} {st st' : St} {i : Nat} (h : codeM (R F X) (Lp F X) c st (scs its) = .ok (.exit i, st') [] (qs its)) : Lp F X c k st = some (.exit i, st') :=
  Lp_exit (aexec_it its h)
theorem Lp_back (its : List Item) {c : ACode} {k : List Nat} {st st' : St} (h : codeM (R F X) (Lp F X) c st (scs its) = .ok (.ret, st') [] (qs its)) : Lp F X c k st = some (.ret, st') :=
  Lp_ret (aexec_it its h)
end

/-- a truth value -/
def iB {t x : Bool} (h : t = x) : Item := ⟨.b x, t = x, h⟩
def iT {p : Prop} [Decidable p] (h : p) : Item := ⟨.b true, decide p = true, decide_eq_true h⟩
def iF {p : Prop} [Decidable p] (h : ¬ p) : Item := ⟨.b false, decide p = false, decide_eq_false h⟩
def iNT {p : Prop} [Decidable p] (h : p) : Item := ⟨.b false, (!decide p) = false, by simp [h]⟩
def iNF {p : Prop} [Decidable p] (h : ¬ p) : Item := ⟨.b true, (!decide p) = true, by simp [h]⟩
def i1 : Item := ⟨.b true, true = true, rfl⟩
def i0 : Item := ⟨.b false, false = false, rfl⟩
/-- what a call answers -/
def iC {o : Option AV} {r : AV} (h : o = some r) : Item := ⟨.v r, o = some r, h⟩
/-- what a loop comes to -/
def iL {o : Option (AExit × St)} {ex : AExit} {st : St} (h : o = some (ex, st)) : Item := ⟨.l ex st, o = some (ex, st), h⟩
/-- an int -/
def iZ {a n : Int} (h : a = n) : Item := ⟨.z n, a = n, h⟩
def iW {n : Int} (h : -9223372036854775808 ≤ n ∧ n ≤ 9223372036854775807) : Item := ⟨.z n, IntKind.i64.wrap n = n, wrap64_id h.1 h.2⟩
def iQ {a b n : Int} (hb : b ≠ 0) (h : a = n) : Item := ⟨.z n, b ≠ 0 ∧ a = n, hb, h⟩
/-- an element of a slice -/
def iX {l : List AV} {k : Nat} {e : AV} (h : l[k]? = some e) : Item := ⟨.ix k e, (k : Int) = (k : Int) ∧ l[k]? = some e, rfl, h⟩
def iXn {l : List AV} {n : Int} {k : Nat} {e : AV} (hn : n = (k : Int)) (h : l[k]? = some e) : Item := ⟨.ix k e, n = (k : Int) ∧ l[k]? = some e, hn, h⟩
/-- the length of a slice -/
def iLn {l : List AV} {k : Nat} (h : l.length = k) : Item := ⟨.n k, l.length = k, h⟩
def iLm {α : Type} (f : α → AV) (a : List α) : Item := ⟨.n a.length, (a.map f).length = a.length, List.length_map _⟩
/-- a byte of a string -/
def iY {s : ByteArray} {k : Nat} {c : UInt8} (h : s[k]? = some c) : Item := ⟨.y k c, (k : Int) = (k : Int) ∧ s[k]? = some c, rfl, h⟩
def iYn {s : ByteArray} {n : Int} {k : Nat} {c : UInt8} (hn : n = (k : Int)) (h : s[k]? = some c) : Item := ⟨.y k c, n = (k : Int) ∧ s[k]? = some c, hn, h⟩
/-- rows: the address of an element, what lies there, the whole, its length -/
def iR {l : List AV} {k len : Nat} (h : k < len) : Item := ⟨.n k, 0 = 0 ∧ l.length = l.length ∧ (k : Int) = (k : Int) ∧ k < len, rfl, rfl, rfl, h⟩
def iRn {l : List AV} {n : Int} {k len : Nat} (hn : n = (k : Int)) (h : k < len) : Item := ⟨.n k, 0 = 0 ∧ l.length = l.length ∧ n = (k : Int) ∧ k < len, rfl, rfl, hn, h⟩
def iE {l : List AV} {i : Nat} {x : AV} (h : l[i]? = some x) : Item := ⟨.v x, 0 = 0 ∧ l.length = l.length ∧ l[i]? = some x, rfl, rfl, h⟩
def iG (l : List AV) : Item := ⟨.g l, 0 = 0 ∧ l.length = l.length ∧ (l.drop 0).take l.length = l, rfl, rfl, by simp⟩
def iN (l : List AV) : Item := ⟨.n l.length, 0 = 0 ∧ l.length = l.length ∧ ((l.drop 0).take l.length).length = l.length, rfl, rfl, by simp⟩
/-- what is put behind a row -/
def iA {l ly : List AV} {u bytes : Nat} (h : l.length + ly.length = u) (hb : u * bytes ≤ 140737488355328) (hm : u ≤ maxLen) : Item :=
  ⟨.n u, 0 = 0 ∧ l.length = l.length ∧ 0 = 0 ∧ l.length = l.length ∧ l.length + ly.length = u ∧ u * bytes ≤ 140737488355328 ∧ u ≤ maxLen, rfl, rfl, rfl, rfl, h, hb, hm⟩
def iA0 {ly : List AV} {u bytes : Nat} (h : ly.length = u) (hb : u * bytes ≤ 140737488355328) (hm : u ≤ maxLen) : Item :=
  ⟨.n u, ly.length = u ∧ u * bytes ≤ 140737488355328 ∧ u ≤ maxLen, h, hb, hm⟩
def iM {a b : Int} {k bytes : Nat} (ha : a = (k : Int)) (hb : b = (k : Int)) (hm : k ≤ maxLen) (h : bytes * k ≤ 281474976710656) : Item :=
  ⟨.n k, a = (k : Int) ∧ b = (k : Int) ∧ k ≤ maxLen ∧ bytes * k ≤ 281474976710656, ha, hb, hm, h⟩
/-- strings put together -/
def iS {a b s : ByteArray} (h : a.size + b.size ≤ 9223372036854775807) (hs : a ++ b = s) : Item := ⟨.s s, a.size + b.size ≤ 9223372036854775807 ∧ a ++ b = s, h, hs⟩
end Go.Proofs.Ytejajmmacmcijaa
