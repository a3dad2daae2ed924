/- Contract of package limb: Low. -/
import Derived.Test.YtdlmamnnamlleaaLimb
namespace Go.Proofs.Ytdlmamnnamlleaa
open Go.ChangeShapes Go.WideShapes Go.ChangeAt Go.RowKit
set_option maxHeartbeats 1000000
set_option maxRecDepth 100000
attribute [local go_sem ↓] load_num store_num execl_num execs_num load_wide store_wide execl_wide execs_wide load_b32 store_b32 execl_b32 execs_b32
attribute [local go_sem] isHead_mk blkOf_mk isAgg_mk cellsV_mk row_drew row_new_cells row_old rowAt_new rowAt_old

theorem limb_Low (n : Nat) (w : World) :
    Calls Try.prog 147 #[wideV n] w fun e w' => e = .returned (numV (n % 2 ^ 256)) ∧ Below w.heap.size w w' := by
  unfold wideV
  have e0 := arrK_at (k := .u64) (f := wd n) (show 0 < 8 by omega)
  have e1 := arrK_at (k := .u64) (f := wd n) (show 1 < 8 by omega)
  have e2 := arrK_at (k := .u64) (f := wd n) (show 2 < 8 by omega)
  have e3 := arrK_at (k := .u64) (f := wd n) (show 3 < 8 by omega)
  have hRn : Row ((w.alloc (Obj.cells (arrK .u64 8 (wd n)) 175)).alloc (Obj.cells #[Value.int .u64 0, Value.int .u64 0, Value.int .u64 0, Value.int .u64 0] 27)) (w.heap.size + 1) 4 := (row_new (by simp)).2 rfl
  have hL : Below w.heap.size w ((w.alloc (Obj.cells (arrK .u64 8 (wd n)) 175)).alloc (Obj.cells #[Value.int .u64 0, Value.int .u64 0, Value.int .u64 0, Value.int .u64 0] 27)) := by go_grown
  have hcs : Cells #[Value.int IntKind.u64 (wd n 0 : Nat), Value.int IntKind.u64 (wd n 1 : Nat), Value.int IntKind.u64 (wd n 2 : Nat), Value.int IntKind.u64 (wd n 3 : Nat)] 4 := ⟨rfl, by simp [Value.oneCell']⟩
  go_enter Try.func147, Try.ntmps147
  go_wp2
  refine ret_row rfl Try.underlying27 rfl (by kernel_rfl) rfl ((row_setRow_same rfl hRn).2 hcs.1) rfl ?_
  rw [rowAt_setRow_same hRn]
  refine ⟨?_, below_setRow hL (by simp)⟩
  rw [arrK4 .u64 (fun j => wd n (0 + j))]
  unfold numV
  exact congrArg (fun c => Ending.returned (.agg c)) (arrK_congr fun i hi => wd_mod hi)
end Go.Proofs.Ytdlmamnnamlleaa
