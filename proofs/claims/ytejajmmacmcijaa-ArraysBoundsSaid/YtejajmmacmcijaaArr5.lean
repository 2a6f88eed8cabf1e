import Derived.Test.YtejajmmacmcijaaArr4
namespace Go.Proofs.Ytejajmmacmcijaa
open Go.RowKit Go.MapKept Go.ChangeMaps

/-- a call, as the statements have it -/
structure Cl where
  kind : Int
  name : ByteArray
  key : ByteArray
  val : Va
def Cl.cells (c : Cl) : Array Value := #[.int .u8 c.kind, .string c.name, .string c.key, .int .i64 c.val.kind, .int .i64 c.val.num, .string c.val.str]

def stepV (lim : Int) (D : Dat) (c : Cl) : Va := if c.kind % 6 = 0 then getV lim D c.name c.key else Va.zero
def stepR (lim : Int) (D : Dat) (c : Cl) : Int := if c.kind % 6 = 0 then roomR lim D c.name c.key else if c.kind % 6 = 1 then roomR lim D c.name c.key else 0
def stepD (lim : Int) (D : Dat) (c : Cl) : Dat :=
  if c.kind % 6 = 0 then roomD lim D c.name c.key else if c.kind % 6 = 1 then setD lim D c.name c.key c.val
  else if c.kind % 6 = 2 then delD D c.name c.key else if c.kind % 6 = 3 then mdel D c.name else D

theorem ArrPost.close3 {w w0 w1 w2 : World} {p m : Nat} {T T' : Tbl} {lim : Int} {v : Value} {D' : Dat} (h : ArrT w p m T lim) (h0 : Fr (fun _ => False) w w0) (hT' : ArrT w1 p m T' lim) (hd : datOf T' = D') (hf : Fr (foot p m T) w0 w1)
    (hfoot : ∀ k, foot p m T' k → foot p m T k ∨ w0.heap.size ≤ k) (h2 : Fr (fun k => w.heap.size ≤ k ∧ k < w0.heap.size) w1 w2) : ArrPost w p m T lim v D' (.returned v) w2 := by
  have hs := h0.size
  refine ⟨rfl, T', hT'.fr h2 ?_, hd, ?_, fun k hk => (hfoot k hk).imp id (fun q => by omega)⟩
  · intro k hk e
    rcases hfoot _ hk with q | q
    · have := h.lt q; omega
    · omega
  · exact ((h0.mono (L' := foot p m T) fun _ _ q => q.elim).trans hf fun k hk => .inl hk).trans h2 fun k hk => .inr hk.1

set_option maxHeartbeats 800000 in
set_option maxRecDepth 100000 in
theorem step_any {w : World} {p m : Nat} {T : Tbl} {lim : Int} (h : ArrT w p m T lim) (c : Cl) (hk0 : 0 ≤ c.kind) (hk1 : c.kind ≤ 255) :
    Calls Try.prog 15 #[.pointer (some ⟨p, 0, none⟩), .agg c.cells] w
      (ArrPost w p m T lim (.tuple #[(stepV lim (datOf T) c).enc, .int .i64 (stepR lim (datOf T) c)]) (stepD lim (datOf T) c)) := by
  obtain ⟨kind, name, key, val⟩ := c
  obtain ⟨vk, vn, vs⟩ := val
  simp only at hk0 hk1
  unfold Cl.cells
  have h0 : ∀ x y, Fr (fun _ => False) w ((w.alloc x).alloc y) := fun x y => ((Fr.refl _ _).alloc x).alloc y
  have hsz : ∀ x y, ((w.alloc x).alloc y).heap.size = w.heap.size + 2 := fun x y => by simp
  have HNF : Hid (∀ k, w.heap.size ≤ k → ¬ foot p m T k) := Lib.hid fun k hk q => absurd (h.lt q) (by omega)
  have H := Lib.hid h
  rcases (show kind % 6 = 0 ∨ kind % 6 = 1 ∨ kind % 6 = 2 ∨ kind % 6 = 3 ∨ kind % 6 = 4 ∨ kind % 6 = 5 from by omega) with hc | hc | hc | hc | hc | hc
  · have hg : ∀ x y, Calls Try.prog 17 #[.pointer (some ⟨p, 0, none⟩), .string name, .string key] ((w.alloc x).alloc y) _ := fun x y => Get_any (h.fr0 (h0 x y)) name key
    have e0 : (kind % 6 == 0) = true := by simpa using hc
    simp only [stepV, stepR, stepD, hc, if_true]
    generalize getV lim (datOf T) name key = g at *
    obtain ⟨gk, gn, gs⟩ := g
    unfold Va.enc at hg ⊢
    clear hc h
    go_enter Try.func15, Try.ntmps15
    go_wp2_with fail
    refine (hg _ _).mono ?_
    rintro e w1 ⟨rfl, T', hT', hd, hf, hfoot⟩
    have HD := Lib.hid hd
    have HF := Lib.hid hfoot
    have HT := Lib.hid hT'
    have N1 := hf.new (HNF.out _ (by simp))
    rw [World.size_alloc] at N1
    have f0 := free_of_heap N1 0
    have f1 := free_of_heap N1 1
    have f2 := free_of_heap N1 2
    have c0 := cell_of_heap N1 0
    have c1 := cell_of_heap N1 1
    have c2 := cell_of_heap N1 2
    simp only [List.getElem?_toArray, List.getElem?_cons_zero, List.getElem?_cons_succ] at c0 c1 c2
    clear hT' hd hfoot hg N1 hsz h0
    go_wp2
    refine bodyPost_ret (v := .tuple #[.agg #[.int .i64 gk, .int .i64 gn, .string gs], .int .i64 (roomR lim (datOf T) name key)]) (by simp [results, Try.results15, go_sem, c0, c1, c2]) rfl ?_
    exact ArrPost.close3 H.out (((Fr.refl _ _).alloc _).alloc _) HT.out HD.out hf HF.out ((setCell3 _ _ _ _ _).mono fun x _ hx => by rw [hx]; simp)
  · have hg : ∀ x y, Calls Try.prog 41 #[.pointer (some ⟨p, 0, none⟩), .string name, .string key, (Va.mk vk vn vs).enc] ((w.alloc x).alloc y) _ := fun x y => Set_any (h.fr0 (h0 x y)) name key ⟨vk, vn, vs⟩
    have e0 : (kind % 6 == 0) = false := by simp; omega
    have e1 : (kind % 6 == 1) = true := by simpa using hc
    simp only [stepV, stepR, stepD, hc, show (1 : Int) ≠ 0 from by decide, if_true, if_false]
    unfold Va.enc at hg
    clear hc h
    go_enter Try.func15, Try.ntmps15
    go_wp2_with fail
    refine (hg _ _).mono ?_
    rintro e w1 ⟨rfl, T', hT', hd, hf, hfoot⟩
    have HD := Lib.hid hd
    have HF := Lib.hid hfoot
    have HT := Lib.hid hT'
    have N1 := hf.new (HNF.out _ (by simp))
    rw [World.size_alloc] at N1
    have f0 := free_of_heap N1 0
    have f1 := free_of_heap N1 1
    have f2 := free_of_heap N1 2
    have c0 := cell_of_heap N1 0
    have c1 := cell_of_heap N1 1
    have c2 := cell_of_heap N1 2
    simp only [List.getElem?_toArray, List.getElem?_cons_zero, List.getElem?_cons_succ] at c0 c1 c2
    clear hT' hd hfoot hg N1 hsz h0
    go_wp2
    refine bodyPost_ret (v := .tuple #[.agg #[.int .i64 0, .int .i64 0, .string ⟨#[]⟩], .int .i64 (roomR lim (datOf T) name key)]) (by simp [results, Try.results15, go_sem, c0, c1, c2]) rfl ?_
    exact ArrPost.close3 H.out (((Fr.refl _ _).alloc _).alloc _) HT.out HD.out hf HF.out ((setCell3 _ _ _ _ _).mono fun x _ hx => by rw [hx]; simp)
  · have hg : ∀ x y, Calls Try.prog 42 #[.pointer (some ⟨p, 0, none⟩), .string name, .string key] ((w.alloc x).alloc y) _ := fun x y => Delete_any (h.fr0 (h0 x y)) name key
    have e0 : (kind % 6 == 0) = false := by simp; omega
    have e1 : (kind % 6 == 1) = false := by simp; omega
    have e2 : (kind % 6 == 2) = true := by simpa using hc
    simp only [stepV, stepR, stepD, hc, show (2 : Int) ≠ 0 from by decide, show (2 : Int) ≠ 1 from by decide, if_true, if_false]
    clear hc h
    go_enter Try.func15, Try.ntmps15
    go_wp2_with fail
    refine (hg _ _).mono ?_
    rintro e w1 ⟨rfl, T', hT', hd, hf, hfoot⟩
    have HD := Lib.hid hd
    have HF := Lib.hid hfoot
    have HT := Lib.hid hT'
    have N1 := hf.new (HNF.out _ (by simp))
    rw [World.size_alloc] at N1
    have f0 := free_of_heap N1 0
    have f1 := free_of_heap N1 1
    have f2 := free_of_heap N1 2
    have c0 := cell_of_heap N1 0
    have c1 := cell_of_heap N1 1
    have c2 := cell_of_heap N1 2
    simp only [List.getElem?_toArray, List.getElem?_cons_zero, List.getElem?_cons_succ] at c0 c1 c2
    clear hT' hd hfoot hg N1 hsz h0
    go_wp2
    refine bodyPost_ret (v := .tuple #[.agg #[.int .i64 0, .int .i64 0, .string ⟨#[]⟩], .int .i64 0]) (by simp [results, Try.results15, go_sem, c0, c1, c2]) rfl ?_
    exact ArrPost.close3 H.out (((Fr.refl _ _).alloc _).alloc _) HT.out HD.out hf HF.out ((setCell3 _ _ _ _ _).mono fun x _ hx => by rw [hx]; simp)
  · have hg : ∀ x y, Calls Try.prog 43 #[.pointer (some ⟨p, 0, none⟩), .string name] ((w.alloc x).alloc y) _ := fun x y => Clear_any (h.fr0 (h0 x y)) name
    have e0 : (kind % 6 == 0) = false := by simp; omega
    have e1 : (kind % 6 == 1) = false := by simp; omega
    have e2 : (kind % 6 == 2) = false := by simp; omega
    have e3 : (kind % 6 == 3) = true := by simpa using hc
    simp only [stepV, stepR, stepD, hc, show (3 : Int) ≠ 0 from by decide, show (3 : Int) ≠ 1 from by decide, show (3 : Int) ≠ 2 from by decide, if_true, if_false]
    clear hc h
    go_enter Try.func15, Try.ntmps15
    go_wp2_with fail
    refine (hg _ _).mono ?_
    rintro e w1 ⟨rfl, T', hT', hd, hf, hfoot⟩
    have HD := Lib.hid hd
    have HF := Lib.hid hfoot
    have HT := Lib.hid hT'
    have N1 := hf.new (HNF.out _ (by simp))
    rw [World.size_alloc] at N1
    have f0 := free_of_heap N1 0
    have f1 := free_of_heap N1 1
    have f2 := free_of_heap N1 2
    have c0 := cell_of_heap N1 0
    have c1 := cell_of_heap N1 1
    have c2 := cell_of_heap N1 2
    simp only [List.getElem?_toArray, List.getElem?_cons_zero, List.getElem?_cons_succ] at c0 c1 c2
    clear hT' hd hfoot hg N1 hsz h0
    go_wp2
    refine bodyPost_ret (v := .tuple #[.agg #[.int .i64 0, .int .i64 0, .string ⟨#[]⟩], .int .i64 0]) (by simp [results, Try.results15, go_sem, c0, c1, c2]) rfl ?_
    exact ArrPost.close3 H.out (((Fr.refl _ _).alloc _).alloc _) HT.out HD.out hf HF.out ((setCell3 _ _ _ _ _).mono fun x _ hx => by rw [hx]; simp)
  all_goals
    have e0 : (kind % 6 == 0) = false := by simp; omega
    have e1 : (kind % 6 == 1) = false := by simp; omega
    have e2 : (kind % 6 == 2) = false := by simp; omega
    have e3 : (kind % 6 == 3) = false := by simp; omega
    have hV : stepV lim (datOf T) ⟨kind, name, key, ⟨vk, vn, vs⟩⟩ = Va.zero := by simp only [stepV]; rw [if_neg (by omega)]
    have hR : stepR lim (datOf T) ⟨kind, name, key, ⟨vk, vn, vs⟩⟩ = 0 := by simp only [stepR]; rw [if_neg (by omega), if_neg (by omega)]
    have hD : stepD lim (datOf T) ⟨kind, name, key, ⟨vk, vn, vs⟩⟩ = datOf T := by simp only [stepD]; rw [if_neg (by omega), if_neg (by omega), if_neg (by omega), if_neg (by omega)]
    rw [hV, hR, hD]
    clear hc h hV hR hD hsz h0
    go_enter Try.func15, Try.ntmps15
    go_wp2
    refine bodyPost_ret (v := .tuple #[.agg #[.int .i64 0, .int .i64 0, .string ⟨#[]⟩], .int .i64 0]) (by simp [results, Try.results15, go_sem]) rfl ?_
    exact ⟨rfl, T, H.out.fr0 (((Fr.refl _ _).alloc _).alloc _), rfl, ((Fr.refl _ _).alloc _).alloc _, fun x hx => .inl hx⟩
end Go.Proofs.Ytejajmmacmcijaa
