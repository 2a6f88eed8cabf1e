/- The abstract machine: more facts for the walk. -/
import Derived.Test.YtejajmmacmcijaaAm23
namespace Go.Proofs.Ytejajmmacmcijaa

/-- rows whose length is known by another name -/
def iAu {l ly : List AV} {used u bytes : Nat} (hu : l.length = used) (h : used + ly.length = u) (hb : u * bytes ≤ 140737488355328) (hm : u ≤ maxLen) : Item :=
  ⟨.n u, 0 = 0 ∧ l.length = used ∧ 0 = 0 ∧ used = used ∧ used + ly.length = u ∧ u * bytes ≤ 140737488355328 ∧ u ≤ maxLen, rfl, hu, rfl, rfl, h, hb, hm⟩
def iGu {l l' : List AV} {used off len : Nat} (hu : l.length = used) (h : (l.drop off).take len = l') : Item := ⟨.g l', 0 = 0 ∧ l.length = used ∧ (l.drop off).take len = l', rfl, hu, h⟩
def iNu {l : List AV} {used off len k : Nat} (hu : l.length = used) (h : ((l.drop off).take len).length = k) : Item := ⟨.n k, 0 = 0 ∧ l.length = used ∧ ((l.drop off).take len).length = k, rfl, hu, h⟩
/-- a part of a row -/
def iSr {l : List AV} {used len a b : Nat} {lo hi : Option Nat} (hu : l.length = used) (hlo : lo = some a) (hhi : hi = some b) (h : a ≤ b) (h' : b ≤ len) : Item :=
  ⟨.sl a b [], 0 = 0 ∧ l.length = used ∧ lo = some a ∧ hi = some b ∧ a ≤ b ∧ b ≤ len, rfl, hu, hlo, hhi, h, h'⟩
/-- a part of a slice -/
def iSs {l l' : List AV} {a b : Nat} {lo hi : Option Nat} (hlo : lo = some a) (hhi : hi = some b) (h : a ≤ b) (h' : b ≤ l.length) (hl : (l.take b).drop a = l') : Item :=
  ⟨.sl a b l', lo = some a ∧ hi = some b ∧ a ≤ b ∧ b ≤ l.length ∧ (l.take b).drop a = l', hlo, hhi, h, h', hl⟩
/-- a part of a string -/
def iSt {s s' : ByteArray} {a b : Nat} {lo hi : Option Nat} (hlo : lo = some a) (hhi : hi = some b) (h : a ≤ b) (h' : b ≤ s.size) (hl : s.extract a b = s') : Item :=
  ⟨.ss a b s', lo = some a ∧ hi = some b ∧ a ≤ b ∧ b ≤ s.size ∧ s.extract a b = s', hlo, hhi, h, h', hl⟩
theorem toN_int (n : Nat) : (intA n).toN = some n := toN_nat .i64 n
end Go.Proofs.Ytejajmmacmcijaa
