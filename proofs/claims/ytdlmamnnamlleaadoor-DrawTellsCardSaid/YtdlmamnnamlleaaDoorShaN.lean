/- Contracts of package hash: New. -/
import Derived.Test.YtdlmamnnamlleaaDoorShaX
namespace Go.Proofs.YtdlmamnnamlleaaDoor
open Go.ChangeShapes Go.WideShapes Go.ChangeAt Go.RowKit
set_option maxHeartbeats 2000000
set_option maxRecDepth 100000
attribute [local go_sem ↓] load_state store_state
attribute [local go_sem] isHead_mk isPart_mk offOf_mk blkOf_mk isAgg_mk cellsV_mk row_drew rowAt_drew row_new_cells row_old rowAt_new rowAt_old setRow_new zero_state zero_cellsS

def ivN : Nat → Nat
  | 0 => 0x6a09e667
  | 1 => 0xbb67ae85
  | 2 => 0x3c6ef372
  | 3 => 0xa54ff53a
  | 4 => 0x510e527f
  | 5 => 0x9b05688c
  | 6 => 0x1f83d9ab
  | _ => 0x5be0cd19
def iv (i : Nat) : W32 := BitVec.ofNat 32 (ivN i)
theorem iv_w (i : Nat) : w2n (iv i) = ivN i := w2n_of (by unfold ivN; split <;> omega)
def newC : Array Value := arrV 73 (stNV ivN 0 fun _ => 0)
theorem newC_st : newC = stC iv 0 fun _ => 0 := by
  unfold newC stC
  refine arrV_congr fun i _ => ?_
  unfold stNV stV
  by_cases e : i < 8
  · rw [if_pos e, if_pos e]
    show Value.int .u32 _ = Value.int .u32 _
    rw [iv_w]
  · rw [if_neg e, if_neg e]
theorem hash_new (w : World) : Calls Tryd.prog 74 #[] w fun e w' => e = .returned (.agg (stC iv 0 fun _ => 0)) ∧ Below w.heap.size w w' := by
  have hcz := stZ_cells
  go_enter Tryd.func74, Tryd.ntmps74
  have hset : ((((((((stZ.setIfInBounds 0 (Value.int IntKind.u32 1779033703)).setIfInBounds 1 (Value.int IntKind.u32 3144134277)).setIfInBounds 2 (Value.int IntKind.u32 1013904242)).setIfInBounds 3 (Value.int IntKind.u32 2773480762)).setIfInBounds 4 (Value.int IntKind.u32 1359893119)).setIfInBounds 5 (Value.int IntKind.u32 2600822924)).setIfInBounds 6 (Value.int IntKind.u32 528734635)).setIfInBounds 7 (Value.int IntKind.u32 1541459225)) = newC := by kernel_rfl
  have hcn : Cells newC 73 := by rw [newC_st]; exact stC_cells _ _ _
  have hRz : Row (w.alloc (Obj.cells stZ 99)) w.heap.size 73 := (row_new rfl).2 hcz.1
  go_wp2
  refine ret_row rfl Tryd.underlying99 rfl (by kernel_rfl) rfl ((row_new (n := 73) rfl).2 hcn.1) rfl ?_
  rw [rowAt_new rfl, newC_st]
  exact ⟨rfl, below_alloc _ _⟩
end Go.Proofs.YtdlmamnnamlleaaDoor
