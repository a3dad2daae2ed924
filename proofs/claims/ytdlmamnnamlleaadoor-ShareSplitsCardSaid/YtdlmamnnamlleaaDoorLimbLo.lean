/- Contract of package limb: Low. -/
import Derived.Test.YtdlmamnnamlleaaDoorLimb
namespace Go.Proofs.YtdlmamnnamlleaaDoor
open Go.ChangeShapes Go.WideShapes Go.ChangeAt Go.RowKit
set_option maxHeartbeats 1000000
set_option maxRecDepth 100000
attribute [local go_sem ↓] load_num store_num execl_num execs_num load_wide store_wide execl_wide execs_wide load_b32 store_b32 execl_b32 execs_b32
attribute [local go_sem] isHead_mk blkOf_mk isAgg_mk cellsV_mk row_drew row_new_cells row_old rowAt_new rowAt_old

end Go.Proofs.YtdlmamnnamlleaaDoor
