/- Contract of package limb: High. -/
import Derived.Test.YtgdiokklfihfoaaLimb
namespace Go.Proofs.Ytgdiokklfihfoaa
open Go.ChangeShapes Go.WideShapes Go.ChangeAt Go.RowKit
set_option maxHeartbeats 1000000
set_option maxRecDepth 100000
attribute [local go_sem ↓] load_num store_num execl_num execs_num load_wide store_wide execl_wide execs_wide load_b32 store_b32 execl_b32 execs_b32
attribute [local go_sem] isHead_mk blkOf_mk isAgg_mk cellsV_mk row_drew row_new_cells row_old rowAt_new rowAt_old

theorem limb_High (n : Nat) (w : World) :
    Calls Try.prog 94 #[wideV n] w fun e w' => e = .returned (numV (n / 2 ^ 256)) ∧ Below w.heap.size w w' := by
  unfold wideV
  have e0 := arrK_at (k := .u64) (f := wd n) (show 4 < 8 by omega)
  have e1 := arrK_at (k := .u64) (f := wd n) (show 5 < 8 by omega)
  have e2 := arrK_at (k := .u64) (f := wd n) (show 6 < 8 by omega)
  have e3 := arrK_at (k := .u64) (f := wd n) (show 7 < 8 by omega)
  have hRn : Row ((w.alloc (Obj.cells (arrK .u64 8 (wd n)) 50)).alloc (Obj.cells #[Value.int .u64 0, Value.int .u64 0, Value.int .u64 0, Value.int .u64 0] 27)) (w.heap.size + 1) 4 := (row_new (by simp)).2 rfl
  have hL : Below w.heap.size w ((w.alloc (Obj.cells (arrK .u64 8 (wd n)) 50)).alloc (Obj.cells #[Value.int .u64 0, Value.int .u64 0, Value.int .u64 0, Value.int .u64 0] 27)) := by go_grown
  have hcs : Cells #[Value.int IntKind.u64 (wd n 4 : Nat), Value.int IntKind.u64 (wd n 5 : Nat), Value.int IntKind.u64 (wd n 6 : Nat), Value.int IntKind.u64 (wd n 7 : Nat)] 4 := ⟨rfl, by simp [Value.oneCell']⟩
  go_enter Try.func94, Try.ntmps94
  go_wp2
  refine ret_row rfl Try.underlying27 rfl (by kernel_rfl) rfl ((row_setRow_same rfl hRn).2 hcs.1) rfl ?_
  rw [rowAt_setRow_same hRn]
  refine ⟨?_, below_setRow hL (by simp)⟩
  rw [arrK4 .u64 (fun j => wd n (4 + j))]
  unfold numV
  exact congrArg (fun c => Ending.returned (.agg c)) (arrK_congr fun i hi => wd_div n i)

end Go.Proofs.Ytgdiokklfihfoaa
