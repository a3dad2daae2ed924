/- MacTells: the law's function returns true. -/
import Derived.Test.YtdlmamnnamlleaaDoorMac4
import Derived.Test.YtdlmamnnamlleaaDoorMac5
import Derived.Test.YtdlmamnnamlleaaDoorCalm
namespace Go.Proofs.YtdlmamnnamlleaaDoor
open Go.ChangeShapes Go.WideShapes Go.ChangeAt Go.RowKit
set_option maxHeartbeats 2000000
set_option maxRecDepth 100000
theorem mac_StMark (K : Nat → W32) (key m : List UInt8) (w : World) (hT : Tabs K w) : Calls Tryd.prog 62 #[.agg (macA K (keyL K key) m)] w fun e w' => e = .returned (.agg (dgA (markL K key m))) ∧ Below w.heap.size w w' := mac_StSum K (keyL K key) m w hT
theorem guard32 : Tryd.prog.eqGuardType Tryd.prog.depth 57 = false := by kernel_rfl
theorem wp_eql {P : Program} {dst : Option Tmp} {t t2 tt : TypeId} {x y : Operand} {pos : String} {af : Array Edge} {gd : Option (Nat × Bool)} {a : Act} {w : World} {K : Act → World → Prop} {Q : Exit → Act → World → Prop} {v u : Array Value} {r : Value}
    (hm : P.eqGuardType P.depth t = false) (hx : a.eval x = .agg v) (hy : a.eval y = .agg u) (h : (binOp .eql t (.agg v) (.agg u)).run P w = .ok r w) (hK : K (a.put dst r) w) : Oper.wp P ⟨dst, .binOp .eql t x y t2, tt, pos, af, gd⟩ a w K Q := by
  have hg := run_eqGuard_agg (P := P) (w := w) .eql t x y v u hm
  unfold Oper.wp execOp
  simp only [hx, hy, Sem.run_bind, Sem.run_pure, hg, h, Result.andThen_ok]
  exact hK
theorem eval_tmp {a : Act} {t : Tmp} {v : Value} (h : a.tmps[t]?.getD undef = v) : a.eval (.tmp t) = v := by
  rw [← h]; simp [Act.eval]
theorem eqlD_same (l : List UInt8) (W : World) : (binOp .eql 57 (.agg (dgA l)) (.agg (dgA l))).run Tryd.prog W = .ok (.bool true) W := by
  unfold dgA
  rw [run_eql_arrK Tryd.underlying57 Tryd.underlying5 (by kernel_rfl)]; simp
attribute [local irreducible] arrV dgA sha macA macZ b64A markL
attribute [local go_sem ↓] load_mac store_mac
attribute [local go_sem] isHead_mk isPart_mk offOf_mk blkOf_mk isAgg_mk cellsV_mk row_drew rowAt_drew row_new_cells row_old rowAt_new rowAt_old setRow_new zero_mac bs_app
end Go.Proofs.YtdlmamnnamlleaaDoor
