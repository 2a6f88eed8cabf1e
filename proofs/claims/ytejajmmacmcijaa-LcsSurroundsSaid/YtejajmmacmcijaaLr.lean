/- Lines put before or after both lists leave the distance as it is. -/
import Derived.Test.YtejajmmacmcijaaLm
import Derived.Test.YtejajmmacmcijaaAm24
namespace Go.Proofs.Ytejajmmacmcijaa
set_option maxRecDepth 100000
theorem surrounds_run (a b w : List ByteArray) : R FT XL 10 [strs a, strs b, strs w] = some (boolA true) := by
  have fa := few_run (X := XL) a 30
  have fb := few_run (X := XL) b 30
  have fw := few_run (X := XL) w 30
  have aw := awake_run
  by_cases ha : (a.length : Int) ≤ 30
  · by_cases hb : (b.length : Int) ≤ 30
    · by_cases hc : (w.length : Int) ≤ 30
      · have d1 := dist_run a b (by omega) (by omega)
        have e1 : dist (w ++ a ++ w) (w ++ b ++ w) = dist a b := by rw [dist_suffix, dist_prefix]
        have e2 : dist (a ++ w) (b ++ w) = dist a b := dist_suffix _ _ _
        have d2 := dist_run (w ++ a ++ w) (w ++ b ++ w) (by simp; omega) (by simp; omega)
        have d3 := dist_run (a ++ w) (b ++ w) (by simp; omega) (by simp; omega)
        have t1 : ((dist a b : Nat) : Int) == ((dist a b : Nat) : Int) := by simp
        rw [e1] at d2
        rw [e2] at d3
        have mx : 1000 ≤ maxLen := by decide +kernel
        have g1 : ∀ c : List ByteArray, (([] ++ w.map strV ++ c.map strV ++ w.map strV : List AV).drop 0).take (w.length + c.length + w.length) = (w ++ c ++ w).map strV := fun c => by rw [List.drop_zero, List.take_of_length_le (by simp; omega)]; simp
        have g2 : ∀ c : List ByteArray, (([] ++ w.map strV ++ c.map strV ++ w.map strV : List AV).drop (0 + w.length)).take (w.length + c.length + w.length - w.length) = (c ++ w).map strV := fun c => by
          rw [List.take_of_length_le (by simp; omega)]; simp [List.drop_append]
        have h0 : ([] : List AV).length = 0 := rfl
        have h1 : ([] ++ w.map strV : List AV).length = w.length := by simp
        have h2 : ∀ c : List ByteArray, ([] ++ w.map strV ++ c.map strV : List AV).length = w.length + c.length := fun c => by simp
        have h3 : ∀ c : List ByteArray, ([] ++ w.map strV ++ c.map strV ++ w.map strV : List AV).length = w.length + c.length + w.length := fun c => by simp; omega
        have p1 : 0 + (w.map strV).length = w.length := by simp
        have p2 : ∀ c : List ByteArray, w.length + (c.map strV).length = w.length + c.length := fun c => by simp
        have p3 : ∀ c : List ByteArray, w.length + c.length + (w.map strV).length = w.length + c.length + w.length := fun c => by simp
        refine R_it [iC fa, iNT ha, iC fb, iNT hb, iC fw, iNT hc, iC d1, iAu (bytes := 16) h0 p1 (by omega) (by omega), iAu (bytes := 16) h1 (p2 a) (by omega) (by omega), iAu (bytes := 16) (h2 a) (p3 a) (by omega) (by omega),
          iAu (bytes := 16) h0 p1 (by omega) (by omega), iAu (bytes := 16) h1 (p2 b) (by omega) (by omega), iAu (bytes := 16) (h2 b) (p3 b) (by omega) (by omega), iGu (h3 a) (g1 a), iGu (h3 b) (g1 b), iC d2, iB t1,
          iLm strV w, iSr (a := w.length) (b := w.length + a.length + w.length) (h3 a) (toN_int _) rfl (by omega) (Nat.le_refl _), iLm strV w, iSr (a := w.length) (b := w.length + b.length + w.length) (h3 b) (toN_int _) rfl (by omega) (Nat.le_refl _), iGu (h3 a) (g2 a), iGu (h3 b) (g2 b), iC d3, iB t1, iC aw] (F := FT) rfl ?_
        kernel_rfl
      · refine R_it [iC fa, iNT ha, iC fb, iNT hb, iC fw, iNF hc, iC aw] (F := FT) rfl ?_
        kernel_rfl
    · refine R_it [iC fa, iNT ha, iC fb, iNF hb, i1, iC aw] (F := FT) rfl ?_
      kernel_rfl
  · refine R_it [iC fa, iNF ha, i1, i1, iC aw] (F := FT) rfl ?_
    kernel_rfl
end Go.Proofs.Ytejajmmacmcijaa
