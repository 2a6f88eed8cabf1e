/- The abstract machine: what is to be shown of a run: steps, code, loops, functions. -/
import Derived.Test.YtgjdmlhgapmflaaDoorAmW1
namespace Go.Proofs.YtgjdmlhgapmflaaDoor
set_option linter.unusedVariables false
set_option linter.unusedSimpArgs false

section
variable (m : List MObj) (w : AOp)
def frzCellW : AV → W AV
  | .row id ver used off len => rowW m w id fun v s l _ _ => ifW w (v = ver) (askW (.g l off len) fun T Q => match T with
      | .g l' r => l.length = used ∧ (l.drop off).take len = l' ∧ Q (.slice s l') r
      | _ => False)
  | v => liftW w (frzCell m v)
def frzCellsW : List AV → W (List AV)
  | [] => retW []
  | v :: r => bindW (frzCellW m w v) fun a => bindW (frzCellsW r) fun b => retW (a :: b)
def frzW : AV → W AV
  | .agg l => bindW (frzCellsW m w l) fun l' => retW (.agg l')
  | v => frzCellW m w v
def frzLW : List AV → W (List AV)
  | [] => retW []
  | v :: r => bindW (frzW m w v) fun a => bindW (frzLW r) fun b => retW (a :: b)
theorem frzCellW_ok (v : AV) : SoundW (frzCellW m w v) (frzCell m v) := by
  unfold frzCellW
  split
  · refine rowW_ok fun v s l wr ap hm => .ite fun hv => .ask fun T Q h => ?_
    split at h
    · obtain ⟨h1, h2, h3⟩ := h
      exact ⟨_, _, by simp only [frzCell, hm]; rw [if_pos ⟨hv, h1⟩, h2], h3⟩
    · exact h.elim
  · exact .lift _ _
theorem frzCellsW_ok : ∀ l : List AV, SoundW (frzCellsW m w l) (frzCells m l)
  | [] => .ret _
  | v :: r => by
    have : frzCells m (v :: r) = (frzCell m v).bind fun a => (frzCells m r).bind fun b => some (a :: b) := by
      simp only [frzCells]
      cases frzCell m v <;> cases frzCells m r <;> rfl
    rw [this]
    exact (frzCellW_ok m w v).bind fun a _ => (frzCellsW_ok r).bind fun b _ => .ret _
theorem frzW_ok (v : AV) : SoundW (frzW m w v) (frz m v) := by
  unfold frzW
  split
  · rename_i l
    have : frz m (.agg l) = (frzCells m l).bind fun l' => some (.agg l') := by simp only [frz]; cases frzCells m l <;> rfl
    rw [this]
    exact (frzCellsW_ok m w l).bind fun a _ => .ret _
  · rename_i hne
    have : frz m v = frzCell m v := by
      unfold frz
      split
      · exact absurd rfl (hne _)
      · rfl
    rw [this]
    exact frzCellW_ok m w v
theorem frzLW_ok : ∀ l : List AV, SoundW (frzLW m w l) (frzL m l)
  | [] => .ret _
  | v :: r => by
    have : frzL m (v :: r) = (frz m v).bind fun a => (frzL m r).bind fun b => some (a :: b) := by
      simp only [frzL]
      cases frz m v <;> cases frzL m r <;> rfl
    rw [this]
    exact (frzW_ok m w v).bind fun a _ => (frzLW_ok r).bind fun b _ => .ret _
def elemsSW (sz : Nat) : AV → W (List AV)
  | .row id ver used off len => rowW m w id fun v s l _ _ => ifW w (s = sz ∧ v = ver) (askW (.g l off len) fun T Q => match T with
      | .g l' r => l.length = used ∧ (l.drop off).take len = l' ∧ Q l' r
      | _ => False)
  | v => liftW w (elemsS m sz v)
theorem elemsSW_ok (sz : Nat) (v : AV) : SoundW (elemsSW m w sz v) (elemsS m sz v) := by
  unfold elemsSW
  split
  · refine rowW_ok fun v s l wr ap hm => .ite fun hs => .ask fun T Q h => ?_
    split at h
    · obtain ⟨h1, h2, h3⟩ := h
      exact ⟨_, _, by simp only [elemsS, hm]; rw [if_pos ⟨hs.2, h1, hs.1⟩, h2], h3⟩
    · exact h.elim
  · exact .lift _ _
def bsElsW (fr : List (Nat × AV)) (sz : Nat) : List AV → List (Nat × Operand) → W (List AV)
  | l, [] => retW l
  | l, (i, x) :: r => bindW (frzW m w (evA fr x)) fun v => ifW w (v.cells.length = sz ∧ i < l.length) (bsElsW fr sz (l.set i v) r)
theorem bsElsW_ok (fr : List (Nat × AV)) (sz : Nat) : ∀ (ps : List (Nat × Operand)) (l : List AV), SoundW (bsElsW m w fr sz l ps) (bsEls fr m sz l ps)
  | [], l => .ret _
  | (i, x) :: r, l => by
    have : bsEls fr m sz l ((i, x) :: r) = (frz m (evA fr x)).bind fun v => if v.cells.length = sz ∧ i < l.length then bsEls fr m sz (l.set i v) r else none := by
      simp only [bsEls]
      cases frz m (evA fr x) <;> rfl
    rw [this]
    refine (frzW_ok m w _).bind fun a _ => .ite fun hc => ?_
    rw [if_pos hc]
    exact bsElsW_ok fr sz r _
end

/-- a call in the caller's memory, entered in place -/
abbrev InlW := FuncId → List AV → List MObj → W (AV × List MObj)
def InlOk (call : CallF) (inl : InlW) : Prop := ∀ f vs m, SoundW (inl f vs m) (call.m f vs m)

section
variable (call : CallF) (inl : InlW)
def callMW (f : FuncId) (vs : List AV) (m : List MObj) : W (AV × List MObj) := askW (.callM f vs m) fun T Q => match T with
  | .cm v m' r => call.m f vs m = some (v, m') ∧ Q (v, m') r
  | .inl r => inl f vs m r Q
  | _ => False
theorem callMW_ok (hi : InlOk call inl) (f : FuncId) (vs : List AV) (m : List MObj) : SoundW (callMW call inl f vs m) (call.m f vs m) := .ask fun T Q h => by
  split at h
  · exact ⟨_, _, h.1, h.2⟩
  · exact hi f vs m _ _ h
  · exact h.elim
def step2W (st : St) (d : Option Nat) (o : AOp2) : W St := match o with
  | .callM f args => bindW (callMW call inl f (args.map (evA st.fr)) st.m) fun r => retW ⟨putf d r.1 st.fr, r.2⟩
  | .callV x args => (match fnOf (evA st.fr x) with
    | some (f, first, caps) => bindW (callMW call inl f (first ++ args.map (evA st.fr) ++ caps) st.m) fun r => retW ⟨putf d r.1 st.fr, r.2⟩
    | none => stopW (.x o))
  | .mset x k v => (match evA st.fr x, evA st.fr k with
    | .mp id, .val (.string k) => bindW (frzW st.m (.x o) (evA st.fr v)) fun g => (match (shutV st.m (evA st.fr v))[id]? with
      | some (.mp es) => ifW (.x o) (g.ground = true) (askW (.ms es (.string k) g) fun T Q => match T with
        | .ms es' r => setKey es (.string k) g = some es' ∧ Q ⟨putf d .any st.fr, (shutV st.m (evA st.fr v)).set id (.mp es')⟩ r
        | _ => False)
      | _ => stopW (.x o))
    | _, _ => stopW (.x o))
  | .mdel x k => (match evA st.fr x, evA st.fr k with
    | .mp id, .val (.string k) => (match st.m[id]? with
      | some (.mp es) => askW (.ms es (.string k) .any) fun T Q => match T with
        | .ms es' r => delKey es (.string k) = some es' ∧ Q ⟨putf d .any st.fr, st.m.set id (.mp es')⟩ r
        | _ => False
      | _ => stopW (.x o))
    | _, _ => stopW (.x o))
  | .cpy sz x y => (match evA st.fr x with
    | .row id ver used off len => bindW (elemsSW st.m (.x o) sz (evA st.fr y)) fun ly => (match st.m[id]? with
      | some (.row v s l true ap) => ifW (.x o) (v = ver ∧ s = sz) (askW (.n ly.length len) fun T Q => match T with
        | .k k r => l.length = used ∧ min ly.length len = k ∧ Q ⟨putf d (intA k) st.fr, st.m.set id (.row v s (setAt l off (ly.take k)) true ap)⟩ r
        | _ => False)
      | _ => stopW (.x o))
    | _ => stopW (.x o))
  | .appS x y => (match evA st.fr y with
    | .val (.string s) => (match evA st.fr x with
      | .val (.slice none 0 0) => askW (.app [] ((toL s).map u8A) 0) fun T Q => match T with
        | .k u r => (toL s).length = u ∧ u ≤ 140737488355328 ∧ u ≤ maxLen ∧ Q ⟨putf d (.row st.m.length 0 u 0 u) st.fr, st.m ++ [.row 0 1 ((toL s).map u8A) true true]⟩ r
        | _ => False
      | .row id ver used off len => rowW st.m (.x o) id fun v sz l wr ap => ifW (.x o) (sz = 1 ∧ ap = true ∧ v = ver) (askW (.app l ((toL s).map u8A) used) fun T Q => match T with
        | .k u r => l.length = used ∧ off = 0 ∧ len = used ∧ used + (toL s).length = u ∧ u ≤ 140737488355328 ∧ u ≤ maxLen ∧ Q ⟨putf d (.row id ver u 0 u) st.fr, st.m.set id (.row v sz (l ++ (toL s).map u8A) wr ap)⟩ r
        | _ => False)
      | _ => stopW (.x o))
    | _ => stopW (.x o))
  | .bx _ _ | .mkmap | .allocR _ _ | .storeR _ _ _ _ => liftW (.x o) (stepOp2 call st d o)
  | o => bindW (pure2W st.m st.fr o) fun v => retW ⟨putf d v st.fr, st.m⟩
theorem step2W_ok (hi : InlOk call inl) (st : St) (d : Option Nat) (o : AOp2) : SoundW (step2W call inl st d o) (stepOp2 call st d o) := by
  have pure : stepOp2 call st d o = (pure2 st.m st.fr o).map (fun v => ⟨putf d v st.fr, st.m⟩) → SoundW (bindW (pure2W st.m st.fr o) fun v => retW ⟨putf d v st.fr, st.m⟩) (stepOp2 call st d o) := by
    intro e
    have : stepOp2 call st d o = (pure2 st.m st.fr o).bind fun v => some ⟨putf d v st.fr, st.m⟩ := by rw [e]; cases pure2 st.m st.fr o <;> rfl
    rw [this]
    exact (pure2W_ok _ _ _).bind fun a _ => .ret _
  unfold step2W
  split
  · rename_i f args
    refine .bind' (callMW_ok call inl hi _ _ _) fun r hr => .ret' ?_
    simp only [stepOp2, hr, Option.map_some]
  · rename_i x args
    split
    · rename_i f first caps hf
      refine .bind' (callMW_ok call inl hi _ _ _) fun r hr => .ret' ?_
      simp only [stepOp2, hf, hr, Option.map_some]
    · exact .stop _ _
  · rename_i x k v
    split
    · rename_i id k hx hk
      refine .bind' (frzW_ok _ _ _) fun g hg => ?_
      split
      · rename_i es hm
        refine .ite fun hgr => .ask fun T Q h => ?_
        split at h
        · exact ⟨_, _, by simp only [stepOp2, hx, hk, hg, hm, if_pos hgr, h.1, Option.map_some], h.2⟩
        · exact h.elim
      · exact .stop _ _
    · exact .stop _ _
  · rename_i x k
    split
    · rename_i id k hx hk
      split
      · rename_i es hm
        refine .ask fun T Q h => ?_
        split at h
        · exact ⟨_, _, by simp only [stepOp2, hx, hk, hm, h.1, Option.map_some], h.2⟩
        · exact h.elim
      · exact .stop _ _
    · exact .stop _ _
  · rename_i sz x y
    split
    · rename_i id ver used off len hx
      refine .bind' (elemsSW_ok _ _ _ _) fun ly hly => ?_
      split
      · rename_i v s l ap hm
        refine .ite fun hs => .ask fun T Q h => ?_
        split at h
        · obtain ⟨h1, h2, h3⟩ := h
          exact ⟨_, _, by simp only [stepOp2, hx, hly, hm]; rw [if_pos ⟨hs.1, h1, hs.2⟩, h2]; rfl, h3⟩
        · exact h.elim
      · exact .stop _ _
    · exact .stop _ _
  · rename_i x y
    split
    · rename_i s hy
      split
      · rename_i hx
        refine .ask fun T Q h => ?_
        split at h
        · obtain ⟨rfl, h2, h3, h4⟩ := h
          have h2' : s.size ≤ 140737488355328 := h2
          have h3' : s.size ≤ maxLen := h3
          exact ⟨_, _, by simp only [stepOp2, hy, hx]; rw [if_pos ⟨h2', h3'⟩]; rfl, h4⟩
        · exact h.elim
      · rename_i id ver used off len hx
        refine rowW_ok fun v sz l wr ap hm => .ite fun hs => .ask fun T Q h => ?_
        split at h
        · obtain ⟨h2, h3, h4, rfl, h6, h7, h8⟩ := h
          have h6' : used + s.size ≤ 140737488355328 := h6
          have h7' : used + s.size ≤ maxLen := h7
          exact ⟨_, _, by simp only [stepOp2, hy, hx, hm]; rw [if_pos ⟨hs.2.2, h2, h3, h4, hs.1, hs.2.1, h6', h7'⟩]; rfl, h8⟩
        · exact h.elim
      · exact .stop _ _
    · exact .stop _ _
  · exact .lift _ _
  · exact .lift _ _
  · exact .lift _ _
  · exact .lift _ _
  · cases o <;> first | exact pure rfl | (rename_i h1 h2 h3 h4 h5 hS h6 h7 h8 h9; first | exact absurd rfl (hS _ _) | exact absurd rfl (h1 _ _) | exact absurd rfl (h2 _ _) | exact absurd rfl (h3 _ _ _) | exact absurd rfl (h4 _ _) | exact absurd rfl (h5 _ _ _) | exact absurd rfl (h6 _ _) | exact absurd rfl h7 | exact absurd rfl (h8 _ _) | exact absurd rfl (h9 _ _ _ _))

def stepW (st : St) (d : Option Nat) (o : AOp) : W St := match o with
  | .x o => step2W call inl st d o
  | .store n a v => (match evA st.fr a with
    | .elt id ver used i fo => ifW o (((evA st.fr v).cells.length = n) ∧ ((evA st.fr v).cells.all AV.isCell) = true) (
      match ((evA st.fr v).cells.foldl shutCell st.m)[id]? with
      | some (.row vv s l true ap) => ifW o (vv = ver) (bindW (askW (.ld l i) fun T Q => match T with
          | .ix f a k r => l = a.map f ∧ l.length = used ∧ i = k ∧ k < a.length ∧ ∀ x, a[k]? = some x → Q (f x) (r x)
          | _ => False) fun x => bindW (frzCellsW st.m o (evA st.fr v).cells) fun gs => liftW o ((setEl x fo gs).map fun x' => ⟨putf d .any st.fr, ((evA st.fr v).cells.foldl shutCell st.m).set id (.row vv s (l.set i x') true ap)⟩))
      | _ => stopW o)
    | _ => liftW o (stepOp call st d o))
  | .app sz bytes x y => bindW (elemsSW st.m o sz (evA st.fr y)) fun ly => (match evA st.fr x with
    | .val (.slice none 0 0) => askW (.app [] ly 0) fun T Q => match T with
        | .k u r => ly.length = u ∧ u * bytes ≤ 140737488355328 ∧ u ≤ maxLen ∧ Q ⟨putf d (.row st.m.length 0 u 0 u) st.fr, st.m ++ [.row 0 sz ly true true]⟩ r
        | _ => False
    | .row id ver used off len => rowW st.m o id fun v s l wr ap => ifW o (s = sz ∧ ap = true ∧ v = ver) (askW (.app l ly used) fun T Q => match T with
        | .k u r => l.length = used ∧ off = 0 ∧ len = used ∧ used + ly.length = u ∧ u * bytes ≤ 140737488355328 ∧ u ≤ maxLen ∧ Q ⟨putf d (.row id ver u 0 u) st.fr, st.m.set id (.row v s (l ++ ly) wr ap)⟩ r
        | _ => False)
    | _ => stopW o)
  | .mks sz zero ag bytes l c => (match asI (evA st.fr l), asI (evA st.fr c) with
    | some a, some b => askW (.n a b) fun T Q => match T with
        | .k k r => a = (k : Int) ∧ b = (k : Int) ∧ k ≤ maxLen ∧ bytes * k ≤ 281474976710656 ∧ Q ⟨putf d (.row st.m.length 0 k 0 k) st.fr, st.m ++ [.row 0 sz (List.replicate k (zeroEl zero ag)) true true]⟩ r
        | _ => False
    | _, _ => stopW o)
  | .bslice sz own zero ag cnt parts => bindW (bsElsW st.m o st.fr sz (List.replicate cnt (zeroEl zero ag)) parts) fun l => retW (if own then ⟨putf d (.row st.m.length 0 cnt 0 cnt) st.fr, (parts.foldl (fun m p => shutV m (evA st.fr p.2)) st.m) ++ [.row 0 sz l true true]⟩ else ⟨putf d (.slice sz l) st.fr, parts.foldl (fun m p => shutV m (evA st.fr p.2)) st.m⟩)
  | .call f args => bindW (frzLW st.m o (args.map (evA st.fr))) fun vs => bindW (askW (.call f vs) fun T Q => match T with
        | .c v r => call.f f vs = some v ∧ Q v r
        | _ => False) fun r => retW ⟨putf d r st.fr, if r.flatT then st.m else (args.map (evA st.fr)).foldl shutV st.m⟩
  | .s2b x => (match evA st.fr x with
    | .val (.string s) => retW ⟨putf d (.row st.m.length 0 (toL s).length 0 (toL s).length) st.fr, st.m ++ [.row 0 1 ((toL s).map u8A) true false]⟩
    | _ => stopW o)
  | .nilrow _ | .alloc _ => liftW o (stepOp call st d o)
  | o => bindW (pureW st.m st.fr o) fun v => retW ⟨putf d v st.fr, st.m⟩
theorem stepW_pure (st : St) (d : Option Nat) {o : AOp} (h : o.isEff = false) : SoundW (bindW (pureW st.m st.fr o) fun v => retW ⟨putf d v st.fr, st.m⟩) (stepOp call st d o) := by
  have : stepOp call st d o = (pureOp st.m st.fr o).bind fun v => some ⟨putf d v st.fr, st.m⟩ := by
    rw [step_pure h]; cases pureOp st.m st.fr o <;> rfl
  rw [this]
  exact (pureW_ok _ _ _).bind fun a _ => .ret _
theorem stepW_ok (hi : InlOk call inl) (st : St) (d : Option Nat) (o : AOp) : SoundW (stepW call inl st d o) (stepOp call st d o) := by
  unfold stepW
  split
  · exact step2W_ok call inl hi st d _
  · rename_i n a v
    split
    · rename_i id ver used i fo ha
      refine .ite fun hc => ?_
      split
      · rename_i vv s l ap hm
        refine .ite fun hv => .bind' (o := if vv = ver ∧ l.length = used then l[i]? else none) (.ask fun T Q h => ?_) fun x hx => ?_
        · split at h
          · rename_i f b k r
            obtain ⟨e, hu, rfl, hk, h1⟩ := h
            refine ⟨_, _, ?_, h1 _ (List.getElem?_eq_getElem hk)⟩
            rw [if_pos ⟨hv, hu⟩, e, List.getElem?_map, List.getElem?_eq_getElem hk]; rfl
          · exact h.elim
        · split at hx
          · rename_i hv
            refine .bind' (frzCellsW_ok st.m _ _) fun gs hg => ?_
            have : stepOp call st d (.store n a v) = (setEl x fo gs).map fun x' => ⟨putf d .any st.fr, ((evA st.fr v).cells.foldl shutCell st.m).set id (.row vv s (l.set i x') true ap)⟩ := by
              simp only [stepOp, ha, if_pos hc, hm, if_pos hv, hg, hx]
            rw [this]
            exact .lift _ _
          · cases hx
      · exact .stop _ _
    · exact .lift _ _
  · rename_i sz bytes x y
    refine .bind' (elemsSW_ok _ _ _ _) fun ly hy => ?_
    split
    · rename_i hx
      refine .ask fun T Q h => ?_
      split at h
      · obtain ⟨rfl, h2, h3, h4⟩ := h
        exact ⟨_, _, by simp only [stepOp, hy, hx]; rw [if_pos ⟨h2, h3⟩], h4⟩
      · exact h.elim
    · rename_i id ver used off len hx
      refine rowW_ok fun v s l wr ap hm => .ite fun hs => .ask fun T Q h => ?_
      split at h
      · obtain ⟨h2, h3, h4, rfl, h6, h7, h8⟩ := h
        exact ⟨_, _, by simp only [stepOp, hy, hx, hm]; rw [if_pos ⟨hs.2.2, h2, h3, h4, hs.1, hs.2.1, h6, h7⟩], h8⟩
      · exact h.elim
    · exact .stop _ _
  · rename_i sz zero ag bytes l c
    split
    · rename_i a b hl hc
      refine .ask fun T Q h => ?_
      split at h
      · obtain ⟨h1, h2, h3, h4, h5⟩ := h
        exact ⟨_, _, by simp only [stepOp, asI_toN hl h1, asI_toN hc h2]; rw [if_pos ⟨trivial, h3, h4⟩], h5⟩
      · exact h.elim
    · exact .stop _ _
  · rename_i sz own zero ag cnt parts
    refine .bind' (bsElsW_ok _ _ _ _ _ _) fun l hl => ?_
    simp only [stepOp, hl]
    cases own <;> exact .ret _
  · rename_i f args
    refine .bind' (frzLW_ok _ _ _) fun vs hv => .bind' (o := call.f f vs) (.ask fun T Q h => ?_) fun r hr => ?_
    · split at h
      · exact ⟨_, _, h.1, h.2⟩
      · exact h.elim
    · exact .ret' (by simp only [stepOp, hv, hr])
  · rename_i x
    split
    · rename_i s hx
      exact .ret' (by simp only [stepOp, hx]; rfl)
    · exact .stop _ _
  · exact .lift _ _
  · exact .lift _ _
  · cases o <;> first | exact stepW_pure call st d rfl | (rename_i h0 h1 h2 h3 h4 h5 h6 h7 h8; first | exact absurd rfl (h0 _) | exact absurd rfl (h1 _ _ _) | exact absurd rfl (h2 _ _ _ _) | exact absurd rfl (h3 _ _ _ _ _ _) | exact absurd rfl (h4 _ _ _ _ _ _) | exact absurd rfl (h5 _ _) | exact absurd rfl (h6 _) | exact absurd rfl (h7 _) | exact absurd rfl (h8 _))

def quietW (m : List MObj) (fr : List (Nat × AV)) (o : AOp) : W AV := match o with
  | .call f args => bindW (frzLW m o (args.map (evA fr))) fun vs => bindW (askW (.call f vs) fun T Q => match T with
        | .c v r => call.f f vs = some v ∧ Q v r
        | _ => False) fun r => liftW o (if r.toVal.isSome then some r else none)
  | o => pureW m fr o
theorem quietW_ok (m : List MObj) (fr : List (Nat × AV)) (o : AOp) : SoundW (quietW call m fr o) (quietOp call m fr o) := by
  unfold quietW
  split
  · rename_i f args
    refine .bind' (frzLW_ok _ _ _) fun vs hv => .bind' (o := call.f f vs) (.ask fun T Q h => ?_) fun r hr => ?_
    · split at h
      · exact ⟨_, _, h.1, h.2⟩
      · exact h.elim
    · simp only [quietOp, hv, hr]
      exact .lift _ _
  · rename_i hne
    have : quietOp call m fr o = pureOp m fr o := quietOp_pure (by cases o <;> first | rfl | exact absurd rfl (hne _ _))
    rw [this]
    exact pureW_ok _ _ _

/-- slots whose truth value is known -/
def findK : List (Nat × Bool) → Nat → Option Bool
  | [], _ => none
  | (k, x) :: r, s => if k = s then some x else findK r s
def lessK (d : Option Nat) : List (Nat × Bool) → List (Nat × Bool)
  | [] => []
  | (k, x) :: r => if some k = d then lessK d r else (k, x) :: lessK d r
def KOk (fr : List (Nat × AV)) (K : List (Nat × Bool)) : Prop := ∀ s x, findK K s = some x → look fr s = .val (.bool x)
theorem lessK_find {d : Option Nat} : ∀ {K : List (Nat × Bool)} {s : Nat} {x : Bool}, findK (lessK d K) s = some x → findK K s = some x ∧ some s ≠ d
  | [], s, x, h => by simp [lessK, findK] at h
  | (k, y) :: r, s, x, h => by
    unfold lessK at h
    split at h
    · rename_i hk
      have := lessK_find h
      refine ⟨?_, this.2⟩
      unfold findK
      rw [if_neg (fun e => this.2 (by rw [← e, hk]))]
      exact this.1
    · rename_i hk
      unfold findK at h
      split at h
      · rename_i hs
        subst hs
        exact ⟨by simp [findK, h], hk⟩
      · rename_i hs
        have := lessK_find h
        exact ⟨by simp [findK, hs, this.1], this.2⟩
theorem KOk.put {fr : List (Nat × AV)} {K : List (Nat × Bool)} (h : KOk fr K) (d : Option Nat) (v : AV) : KOk (putf d v fr) (lessK d K) := by
  intro s x hs
  have := lessK_find hs
  cases d with
  | none => exact h s x this.1
  | some d =>
    have hne : ¬ d = s := fun e => this.2 (by rw [e])
    show look (setf d v fr) s = _
    rw [look_setf, if_neg hne]
    exact h s x this.1
theorem KOk.nil (fr : List (Nat × AV)) : KOk fr [] := fun s x h => by simp [findK] at h
theorem stepOp2_fr {st st' : St} {d : Option Nat} {o : AOp2} (h : stepOp2 call st d o = some st') : ∃ v, st'.fr = putf d v st.fr := by
  have pure : (pure2 st.m st.fr o).map (fun v => (⟨putf d v st.fr, st.m⟩ : St)) = some st' → ∃ v, st'.fr = putf d v st.fr := by
    intro h
    simp only [Option.map_eq_some_iff] at h
    obtain ⟨v, _, rfl⟩ := h
    exact ⟨v, rfl⟩
  cases o <;> first | exact pure h | (simp only [stepOp2, Option.map_eq_some_iff] at h; first | (obtain ⟨r, _, rfl⟩ := h; exact ⟨_, rfl⟩) | ((repeat' split at h) <;> first | (injection h with h; subst h; exact ⟨_, rfl⟩) | (simp only [Option.map_eq_some_iff] at h; obtain ⟨r, _, rfl⟩ := h; exact ⟨_, rfl⟩) | cases h))
theorem stepOp_fr {st st' : St} {d : Option Nat} {o : AOp} (h : stepOp call st d o = some st') : ∃ v, st'.fr = putf d v st.fr := by
  by_cases he : o.isEff = false
  · rw [step_pure he] at h
    simp only [Option.map_eq_some_iff] at h
    obtain ⟨v, _, rfl⟩ := h
    exact ⟨v, rfl⟩
  · cases o <;> first | exact absurd rfl he | exact stepOp2_fr call h | (simp only [stepOp] at h; repeat' split at h) <;> first | cases h; exact ⟨_, rfl⟩ | (simp only [Option.map_eq_some_iff] at h; obtain ⟨v, _, rfl⟩ := h; exact ⟨_, rfl⟩) | cases h
def newK (fr : List (Nat × AV)) (K : List (Nat × Bool)) : Option (Nat × Bool) → List (Nat × Bool)
  | none => K
  | some (s, _) => match findK K s with
    | some _ => K
    | none => match look fr s with
      | .val (.bool c) => (s, c) :: K
      | _ => K
def guardW (fr : List (Nat × AV)) (w : AOp) (K : List (Nat × Bool)) : Option (Nat × Bool) → W (Bool × List (Nat × Bool))
  | none => retW (true, K)
  | some (s, b) => match findK K s with
    | some x => retW (x == b, K)
    | none => match look fr s with
      | .val (.bool c) => bindW (boolW c) fun x => retW (x == b, (s, x) :: K)
      | .val (.tuple _) => retW (false, K)
      | _ => stopW w
theorem guardW_ok {fr : List (Nat × AV)} {K : List (Nat × Bool)} (hK : KOk fr K) (w : AOp) (g : Option (Nat × Bool)) : SoundW (guardW fr w K g) ((wantedA fr g).map fun b => (b, newK fr K g)) := by
  unfold guardW wantedA
  split
  · exact .ret _
  · rename_i s b
    split
    · rename_i x hx
      simp only [hK s x hx, hx, newK, Option.map_some]
      exact .ret _
    · rename_i hn
      split
      · rename_i c hc
        refine .bind' (boolW_ok _) fun x hx => ?_
        cases hx
        simp only [hc, hn, newK, Option.map_some]
        exact .ret _
      · rename_i l hc
        simp only [hc, hn, newK, Option.map_some]
        exact .ret _
      · exact .stop _ _
theorem guardK_ok {fr : List (Nat × AV)} {K : List (Nat × Bool)} (hK : KOk fr K) (g : Option (Nat × Bool)) : KOk fr (newK fr K g) := by
  cases g with
  | none => exact hK
  | some p =>
    obtain ⟨s, b⟩ := p
    simp only [newK]
    split
    · exact hK
    · split
      · rename_i c hc
        intro s' x hs
        unfold findK at hs
        split at hs
        · rename_i e
          subst e
          cases hs
          exact hc
        · exact hK _ _ hs
      · exact hK
/-- a choice whose condition is known -/
def knownOp (K : List (Nat × Bool)) : AOp → AOp
  | .pick (.tmp s) a b => (match findK K s with
    | some x => .mov (if x then a else b)
    | none => .pick (.tmp s) a b)
  | o => o
theorem knownOp_pure {fr : List (Nat × AV)} {K : List (Nat × Bool)} (hK : KOk fr K) (m : List MObj) (s : Nat) (a b : Operand) {x : Bool} (hx : findK K s = some x) : pureOp m fr (.pick (.tmp s) a b) = pureOp m fr (.mov (if x then a else b)) := by
  simp only [pureOp, evA, hK s x hx]
  cases x <;> rfl
theorem knownOp_step {st : St} {K : List (Nat × Bool)} (hK : KOk st.fr K) (d : Option Nat) (o : AOp) : stepOp call st d (knownOp K o) = stepOp call st d o := by
  unfold knownOp
  split
  · rename_i s a b
    split
    · rename_i x hx
      rw [step_pure rfl, step_pure rfl, knownOp_pure hK st.m s a b hx]
    · rfl
  · rfl
theorem knownOp_quiet {fr : List (Nat × AV)} {K : List (Nat × Bool)} (hK : KOk fr K) (m : List MObj) (o : AOp) : quietOp call m fr (knownOp K o) = quietOp call m fr o := by
  unfold knownOp
  split
  · rename_i s a b
    split
    · rename_i x hx
      rw [quietOp_pure rfl, quietOp_pure rfl, knownOp_pure hK m s a b hx]
    · rfl
  · rfl
def opsW : List AOper → List (Nat × Bool) → St → W St
  | [], _, st => retW st
  | o :: r, K, st => bindW (guardW st.fr o.op K o.guard) fun w => if w.1 then bindW (stepW call inl st o.dst (knownOp w.2 o.op)) fun st' => opsW r (lessK o.dst w.2) st' else opsW r (lessK o.dst w.2) ⟨putf o.dst (.val undef) st.fr, st.m⟩
theorem opsW_ok (hi : InlOk call inl) : ∀ (l : List AOper) (K : List (Nat × Bool)) (st : St), KOk st.fr K → SoundW (opsW call inl l K st) (runOps call l st)
  | [], K, st, _ => .ret _
  | o :: r, K, st, hK => by
    unfold opsW runOps
    refine .bind' (guardW_ok hK _ _) fun w hw => ?_
    simp only [Option.map_eq_some_iff] at hw
    obtain ⟨b, hw, rfl⟩ := hw
    have hK' := guardK_ok hK o.guard
    rw [hw]
    cases b with
    | true =>
      simp only [if_true]
      refine .bind' (stepW_ok call inl hi _ _ _) fun st' hs => ?_
      rw [knownOp_step call hK'] at hs
      obtain ⟨v, hv⟩ := stepOp_fr call hs
      rw [hs]
      exact opsW_ok hi r _ st' (hv ▸ hK'.put _ v)
    | false => exact opsW_ok hi r _ _ (hK'.put _ _)
def extW (m : List MObj) (fr : List (Nat × AV)) (o : AOp) : W AV := match o with
  | .call f args => ifW o ((args.map (evA fr)).all AV.noRow = true) (bindW (frzLW m o (args.map (evA fr))) fun vs => askW (.call f vs) fun T Q => match T with
        | .c v r => call.f f vs = some v ∧ Q v r
        | _ => False)
  | .bslice sz false zero ag cnt parts => ifW o (parts.all (fun p => (evA fr p.2).noRow) = true) (bindW (bsElsW m o fr sz (List.replicate cnt (zeroEl zero ag)) parts) fun l => retW (.slice sz l))
  | .x o2 => pureW m fr (.x o2)
  | o => if o.isEff then stopW o else pureW m fr o
theorem extW_ok (m : List MObj) (fr : List (Nat × AV)) (o : AOp) : SoundW (extW call m fr o) (extOp call m fr o) := by
  unfold extW
  split
  · rename_i f args
    refine .ite fun hc => ?_
    simp only [extOp]
    rw [if_pos hc]
    refine .bind (frzLW_ok _ _ _) fun vs hv => .ask fun T Q h => ?_
    split at h
    · exact ⟨_, _, h.1, h.2⟩
    · exact h.elim
  · rename_i sz zero ag cnt parts
    refine .ite fun hc => ?_
    simp only [extOp]
    rw [if_pos hc]
    refine .bind' (bsElsW_ok _ _ _ _ _ _) fun l hl => ?_
    rw [hl]; exact .ret _
  · exact pureW_ok _ _ _
  · rename_i h1 h2 h3
    split
    · exact .stop _ _
    · rename_i he
      have : extOp call m fr o = pureOp m fr o := by
        cases o with
        | call f args => exact absurd rfl (h1 _ _)
        | bslice sz own z ag c p => cases own <;> first | exact absurd rfl (h2 _ _ _ _ _) | exact absurd rfl he
        | x o2 => exact absurd rfl (h3 _)
        | _ => first | rfl | exact absurd rfl he
      rw [this]
      exact pureW_ok _ _ _
theorem look_keepF (fr : List (Nat × AV)) (s : Nat) : ∀ {ks : List Nat}, s ∈ ks → look (keepF fr ks) s = look fr s
  | [], h => by cases h
  | k :: r, h => by
    simp only [keepF, look]
    split
    · rename_i e; rw [e]
    · rename_i e
      rcases List.mem_cons.1 h with h | h
      · exact absurd h.symm e
      · exact look_keepF fr s h
theorem knownOp_ext {fr : List (Nat × AV)} {K : List (Nat × Bool)} (hK : KOk fr K) (m : List MObj) (o : AOp) {ks : List Nat} (hu : ∀ s ∈ o.uses, s ∈ ks) : extOp call m (keepF fr ks) (knownOp K o) = extOp call m (keepF fr ks) o := by
  unfold knownOp
  split
  · rename_i s a b
    split
    · rename_i x hx
      have h1 : look (keepF fr ks) s = .val (.bool x) := by rw [look_keepF fr s (hu s (by simp [AOp.uses, opsT, opT]))]; exact hK s x hx
      simp only [extOp, AOp.isEff, pureOp, evA, h1]
      cases x <;> rfl
    · rfl
  · rfl
def extsW (m : List MObj) : List AOper → List (Nat × Bool) → List (Nat × AV) → W (List (Nat × AV))
  | [], _, fr => retW fr
  | o :: r, K, fr => bindW (guardW fr o.op K o.guard) fun w => if w.1 then bindW (extW call m (keepF fr o.uses) (knownOp w.2 o.op)) fun v => extsW m r (lessK o.dst w.2) (putf o.dst v fr) else extsW m r (lessK o.dst w.2) (putf o.dst (.val undef) fr)
theorem wanted_keep (fr : List (Nat × AV)) (o : AOper) : wantedA (keepF fr o.uses) o.guard = wantedA fr o.guard := by
  cases hg : o.guard with
  | none => rfl
  | some p =>
    obtain ⟨s, b⟩ := p
    simp only [wantedA]
    rw [look_keepF fr s (by simp [AOper.uses, hg])]
theorem extsW_ok (m : List MObj) : ∀ (l : List AOper) (K : List (Nat × Bool)) (fr : List (Nat × AV)), KOk fr K → SoundW (extsW call m l K fr) (runX call m l fr)
  | [], K, fr, _ => .ret _
  | o :: r, K, fr, hK => by
    unfold extsW runX
    refine .bind' (guardW_ok hK _ _) fun w hw => ?_
    simp only [Option.map_eq_some_iff] at hw
    obtain ⟨b, hw, rfl⟩ := hw
    have hK' := guardK_ok hK o.guard
    rw [oneX, wanted_keep, hw]
    cases b with
    | true =>
      simp only [if_true]
      refine .bind' (extW_ok call m _ _) fun v hs => ?_
      rw [knownOp_ext call hK' m o.op (ks := o.uses) (fun s hs => by unfold AOper.uses; exact List.mem_append_right _ hs)] at hs
      rw [hs]
      exact extsW_ok m r _ _ (hK'.put _ _)
    | false => exact extsW_ok m r _ _ (hK'.put _ _)
end
end Go.Proofs.YtgjdmlhgapmflaaDoor
