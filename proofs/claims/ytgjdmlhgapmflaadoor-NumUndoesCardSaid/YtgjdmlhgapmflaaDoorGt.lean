/- The package variables that the machine reads: the table of powers of ten, and two errors. -/
import Derived.Test.YtgjdmlhgapmflaaDoorAm1
namespace Go.Proofs.YtgjdmlhgapmflaaDoor
def ints64 (l : List Nat) : List AV := l.map fun (n : Nat) => .val (.int .u64 (n : Int))
def pow10L : List Nat := [1, 10, 100, 1000, 10000, 100000, 1000000, 10000000, 100000000, 1000000000, 10000000000, 100000000000, 1000000000000, 10000000000000, 100000000000000, 1000000000000000, 10000000000000000, 100000000000000000, 1000000000000000000, 10000000000000000000]
def GT (g : Nat) : Option (List AV) :=
  if g = 3 then some (ints64 pow10L) else
  if g = 2 then some [.nif] else
  if g = 1 then some [.nif] else
  none
end Go.Proofs.YtgjdmlhgapmflaaDoor
