/- The end of a function with three results, the first two arrays or structs in blocks of their own. No program is named here. -/
import Derived.Test.YtdlmamnnamlleaaDoorRet2
namespace Go.Proofs.YtdlmamnnamlleaaDoor
open Go Go.RowKit
theorem ret_cct {P : Program} {fn : Func} {R : Ending → World → Prop} {a : Act} {w : World} {p q s : Tmp} {ty ty2 : TypeId} {g n g2 n2 : Nat} {d d2 : TypeDesc} (h : fn.results = #[.cell p ty, .cell q ty2, .tmp s])
    (hu : P.underlying ty = some d) (hd : (match d with | .struct _ | .array _ _ => true | _ => false) = true) (hi : (P.info? ty).map (·.size) = some n)
    (hu2 : P.underlying ty2 = some d2) (hd2 : (match d2 with | .struct _ | .array _ _ => true | _ => false) = true) (hi2 : (P.info? ty2).map (·.size) = some n2)
    (hp : a.tmps.getD p undef = .pointer (some ⟨g, 0, none⟩)) (hq : a.tmps.getD q undef = .pointer (some ⟨g2, 0, none⟩)) (hr : Row w g n) (hr2 : Row w g2 n2) (hf : a.defers = [])
    (hR : R (.returned (.tuple #[.agg (rowAt w g), .agg (rowAt w g2), a.tmps.getD s undef])) w) : bodyPost P fn R .ret a w := by
  obtain ⟨cs, t, hg, hs⟩ := hr
  obtain ⟨cs2, t2, hg2, hs2⟩ := hr2
  have e : rowAt w g = cs := by simp [rowAt, hg]
  have e2 : rowAt w g2 = cs2 := by simp [rowAt, hg2]
  rw [e, e2] at hR
  refine bodyPost_ret ?_ hf hR
  have hp' : a.tmps[p]?.getD undef = .pointer (some ⟨g, 0, none⟩) := by simpa using hp
  have hq' : a.tmps[q]?.getD undef = .pointer (some ⟨g2, 0, none⟩) := by simpa using hq
  simp [results, h, hp', hq', asAddr, run_loadVar_row w g t ty cs (0, 0) d hg hu hd (by rw [hi, hs]), run_loadVar_row w g2 t2 ty2 cs2 (0, 0) d2 hg2 hu2 hd2 (by rw [hi2, hs2])]
end Go.Proofs.YtdlmamnnamlleaaDoor
