/- The end of a function whose result is an array or a struct that was just stored. No program is named here. -/
import Derived.Test.YtakooljbkjnilaaMem2
import Derived.Test.YtakooljbkjnilaaArr8
namespace Go.Proofs.Ytakooljbkjnilaa
open Go Go.RowKit
theorem ret_stored {P : Program} {fn : Func} {R : Ending → World → Prop} {a : Act} {w : World} {p : Tmp} {ty : TypeId} {g n : Nat} {d : TypeDesc} {c : Array Value} (h : fn.results = #[.cell p ty])
    (hu : P.underlying ty = some d) (hd : (match d with | .struct _ | .array _ _ => true | _ => false) = true) (hi : (P.info? ty).map (·.size) = some n)
    (hp : a.tmps.getD p undef = .pointer (some ⟨g, 0, none⟩)) (hr : Row w g n) (hc : c.size = n) (hf : a.defers = []) (hR : R (.returned (.agg c)) (w.setRow g c)) : bodyPost P fn R .ret a (w.setRow g c) := by
  refine ret_row h hu hd hi hp ((row_setRow_same rfl hr).2 hc) hf ?_
  rw [rowAt_setRow_same hr]
  exact hR
end Go.Proofs.Ytakooljbkjnilaa
