/- Contract of package field's P. -/
import Derived.Test.YtdlmamnnamlleaaDoorFdP
import Derived.Test.YtdlmamnnamlleaaDoorLimb4
import Derived.Deep.DeepCutAuto
import Derived.Laws.Tables
namespace Go.Proofs.YtdlmamnnamlleaaDoor
open Go.ChangeShapes Go.WideShapes Go.ChangeAt Go.RowKit
set_option maxHeartbeats 2000000
set_option maxRecDepth 100000
attribute [local go_sem ↓] load_num store_num execl_num execs_num
attribute [local go_sem] isHead_mk blkOf_mk isAgg_mk cellsV_mk row_drew rowAt_drew row_new_cells row_old rowAt_new rowAt_old setRow_new zeroNum
section
variable {P : Program} {ops : Array Oper} {rest : List Oper} {o : Oper} {a : Act} {w : World} {Q : Exit → Act → World → Prop} {t : TypeId} {u v0 v1 v2 v3 : Value} {x0 x1 x2 x3 : Operand}
theorem wpList_bld4 (hgd : o.guard = none) (ho : o.op = .build t #[(0, x0), (1, x1), (2, x2), (3, x3)]) (h0 : a.eval x0 = v0) (h1 : a.eval x1 = v1) (h2 : a.eval x2 = v2) (h3 : a.eval x3 = v3)
    (hr : (Instr.build t #[(0, v0), (1, v1), (2, v2), (3, v3)]).run P w = .ok u w) (h : wpList P ops Q rest (a.put o.dst u) w) : wpList P ops Q (o :: rest) a w :=
  wpList_step fun K hK => by
    have hw : Region.wanted o (yielded ops a.tmps) = true := by simp [Region.wanted, hgd]
    rw [if_pos hw]
    subst h0 h1 h2 h3
    obtain ⟨dst, op, tt, pos, af, gd⟩ := o
    subst ho
    unfold Oper.wp execOp
    simp only [List.map_toArray, List.map_cons, List.map_nil, Sem.run_bind, hr, Result.andThen_ok]
    exact hK _ _ h
end
theorem buildP (w : World) : (Instr.build 41 #[(0, Value.int IntKind.u64 18446744073709551597), (1, Value.int IntKind.u64 18446744073709551615), (2, Value.int IntKind.u64 18446744073709551615), (3, Value.int IntKind.u64 9223372036854775807)]).run Tryd.prog w = .ok (.agg (arrK .u64 4 (wd fP))) w :=
  run_build w _ _ _ (by kernel_rfl)
theorem litP : #[Value.int IntKind.u64 18446744073709551597, Value.int IntKind.u64 18446744073709551615, Value.int IntKind.u64 18446744073709551615, Value.int IntKind.u64 9223372036854775807] = arrK .u64 4 (wd fP) := by kernel_rfl
end Go.Proofs.YtdlmamnnamlleaaDoor
