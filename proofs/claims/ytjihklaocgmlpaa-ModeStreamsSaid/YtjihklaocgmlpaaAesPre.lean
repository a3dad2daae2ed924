/- What the laws over keys share. -/
import Derived.Test.YtjihklaocgmlpaaAes6
import Derived.Test.YtjihklaocgmlpaaCip5
import Derived.Test.YtjihklaocgmlpaaCalm
namespace Go.Proofs.Ytjihklaocgmlpaa
open Go.ChangeShapes Go.WideShapes Go.ChangeAt Go.RowKit
theorem convK {w : World} {B : Nat} {A : Option Addr} {l : List UInt8} {c : Nat} (h : Rd w B A (bytesV l)) : (convert 25 9 (.slice A l.length c)).run Try.prog w = .ok (.string ⟨l.toArray⟩) w :=
  conv_rd Try.underlying25 Try.underlying5 Try.underlying9 h
/-- A slice of bytes below the heap's end. -/
def RdB (w : World) (A : Option Addr) (l : List UInt8) : Prop := Rd w w.heap.size A (bytesV l)
theorem RdB.mk {w : World} {A : Option Addr} {l : List UInt8} (h : Rd w w.heap.size A (bytesV l)) : RdB w A l := h
theorem RdB.step {w w' : World} {A : Option Addr} {l : List UInt8} (h : RdB w A l) (hb : Below w.heap.size w w') : Rd w' w'.heap.size A (bytesV l) := (Rd.below h hb).more hb.size
end Go.Proofs.Ytjihklaocgmlpaa
