/- The end of a function with two results, the first an array or a struct that was just stored. No program is named here. -/
import Derived.Test.YtakooljbkjnilaaRet
namespace Go.Proofs.Ytakooljbkjnilaa
open Go Go.RowKit
theorem results_row_tmp {P : Program} {fn : Func} {p q : Tmp} {ty : TypeId} (h : fn.results = #[.cell p ty, .tmp q]) (tmps : Array Value) (w : World) (g : Nat) (t : TypeId) (cs : Array Value) (fr : Nat × Nat) (d : TypeDesc)
    (hp : tmps.getD p undef = .pointer (some ⟨g, 0, none⟩)) (hg : w.heap[g]? = some (.cells cs t fr))
    (hu : P.underlying ty = some d) (hd : (match d with | .struct _ | .array _ _ => true | _ => false) = true) (hi : (P.info? ty).map (·.size) = some cs.size) :
    (results fn tmps).run P w = .ok (.tuple #[.agg cs, tmps.getD q undef]) w := by
  have hp' : tmps[p]?.getD undef = .pointer (some ⟨g, 0, none⟩) := by simpa using hp
  simp [results, h, hp', asAddr, run_loadVar_row w g t ty cs fr d hg hu hd hi]
/-- The same, with a second result. -/
theorem ret_stored2 {P : Program} {fn : Func} {R : Ending → World → Prop} {a : Act} {w : World} {p q : Tmp} {ty : TypeId} {g n : Nat} {d : TypeDesc} {c : Array Value} (h : fn.results = #[.cell p ty, .tmp q])
    (hu : P.underlying ty = some d) (hd : (match d with | .struct _ | .array _ _ => true | _ => false) = true) (hi : (P.info? ty).map (·.size) = some n)
    (hp : a.tmps.getD p undef = .pointer (some ⟨g, 0, none⟩)) (hr : Row w g n) (hc : c.size = n) (hf : a.defers = []) (hR : R (.returned (.tuple #[.agg c, a.tmps.getD q undef])) (w.setRow g c)) : bodyPost P fn R .ret a (w.setRow g c) := by
  have hr2 : Row (w.setRow g c) g n := (row_setRow_same rfl hr).2 hc
  have e2 : rowAt (w.setRow g c) g = c := rowAt_setRow_same hr
  obtain ⟨cs, t, hg, hs⟩ := hr2
  have e : rowAt (w.setRow g c) g = cs := by simp [rowAt, hg]
  rw [e] at e2
  subst e2
  exact bodyPost_ret (results_row_tmp h _ _ g t cs (0, 0) d hp hg hu hd (by rw [hi, hs])) hf hR
end Go.Proofs.Ytakooljbkjnilaa
