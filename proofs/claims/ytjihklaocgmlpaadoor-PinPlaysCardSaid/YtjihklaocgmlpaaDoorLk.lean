/- A lock by value: its cells, its parts; what is built, what is compared. -/
import Derived.Test.YtjihklaocgmlpaaDoorPin
import Derived.Test.YtjihklaocgmlpaaDoorPart
import Derived.Laws.Tables
namespace Go.Proofs.YtjihklaocgmlpaaDoor
open Go Go.ChangeShapes Go.WideShapes Go.ChangeAt Go.RowKit
set_option maxRecDepth 100000
/-- A lock as it is kept: a mark of 32 bytes, the tries left. -/
def lkA (d : List UInt8) (n : Int) : Array Value := arrV 33 fun i => if i < 32 then .int .u8 (bytesF d i : Nat) else .int .i64 n
/-- A lock: the salt ahead of it. -/
def lockA (v : Value) (d : List UInt8) (n : Int) : Array Value := arrV 34 fun i => if i = 0 then v else if i < 33 then .int .u8 (bytesF d (i - 1) : Nat) else .int .i64 n
section
variable {v : Value} {d d' : List UInt8} {n n' : Int}
theorem lkA_cells (d : List UInt8) (n : Int) : Cells (lkA d n) 33 := arrV_cells fun i _ => by split <;> rfl
theorem lockA_cells (hv : v.oneCell' = true) (d : List UInt8) (n : Int) : Cells (lockA v d n) 34 := arrV_cells fun i _ => by
  split
  · exact hv
  · split <;> rfl
theorem lockA_lk : (lockA v d n).extract 1 (1 + 33) = lkA d n := by
  unfold lockA
  rw [arrV_extract (by omega)]
  refine arrV_congr fun i hi => ?_
  rw [if_neg (by omega), Nat.add_sub_cancel_left]
  by_cases h : i < 32
  · rw [if_pos (by omega), if_pos h]
  · rw [if_neg (by omega), if_neg h]
theorem lkA_dg : (lkA d n).extract 0 (0 + 32) = dgA d := by
  unfold lkA
  rw [arrV_extract (by omega)]
  show _ = arrV 32 fun i => Value.int .u8 (bytesF d i : Nat)
  refine arrV_congr fun i hi => ?_
  rw [Nat.zero_add, if_pos hi]
theorem lockA_set : (lockA v d n).setIfInBounds 33 (.int .i64 n') = lockA v d n' := by
  unfold lockA
  rw [arrV_set]
  refine arrV_congr fun i hi => ?_
  by_cases h : i = 33
  · subst h; rfl
  · rw [if_neg h]
    by_cases h0 : i = 0
    · rw [if_pos h0, if_pos h0]
    · rw [if_neg h0, if_neg h0, if_pos (by omega), if_pos (by omega)]
theorem lkA_set : (lkA d n).setIfInBounds 32 (.int .i64 n') = lkA d n' := by
  unfold lkA
  rw [arrV_set]
  refine arrV_congr fun i hi => ?_
  by_cases h : i = 32
  · subst h; rfl
  · rw [if_neg h, if_pos (by omega), if_pos (by omega)]
theorem lockA_put : putAt (lockA v d n) 1 (lkA d' n').toList = lockA v d' n' := by
  unfold lockA
  rw [putAt_arrV]
  refine arrV_congr fun i hi => ?_
  by_cases h0 : i = 0
  · subst h0; rfl
  · rw [if_pos (by omega), if_neg h0, if_neg h0, Array.getElem?_toList]
    unfold lkA
    rw [arrV_at (by omega), Option.getD_some]
    by_cases h : i < 33
    · rw [if_pos (by omega), if_pos h]
    · rw [if_neg (by omega), if_neg h]
theorem lockA_0 : (lockA v d n)[0]? = some v := arrV_at (by omega)
theorem lockA_33 : (lockA v d n)[33]? = some (.int .i64 n) := arrV_at (by omega)
theorem lkA_32 : (lkA d n)[32]? = some (.int .i64 n) := arrV_at (by omega)
end
theorem build_pin (A : Option Addr) (m c : Nat) (d : List UInt8) (n : Int) (w : World) : (Instr.build 72 #[(0, .slice A m c), (1, .agg (lkA d n))]).run Tryd.prog w = .ok (.agg (lockA (.slice A m c) d n)) w :=
  run_build w _ _ _ (by kernel_rfl)
theorem build_pin0 (A : Option Addr) (m c : Nat) (w : World) : (Instr.build 72 #[(0, .slice A m c)]).run Tryd.prog w = .ok (.agg (lockA (.slice A m c) [] 0)) w :=
  run_build w _ _ _ (by kernel_rfl)
theorem build_lk (d : List UInt8) (n : Int) (w : World) : (Instr.build 44 #[(0, .agg (dgA d)), (1, .int .i64 n)]).run Tryd.prog w = .ok (.agg (lkA d n)) w :=
  run_build w _ _ _ (by kernel_rfl)
theorem zero_lk (w : World) : (zeroValue 44).run Tryd.prog w = .ok (.agg (lkA [] 0)) w := (zero_of_info (n := 33) (by kernel_rfl)).1 w
end Go.Proofs.YtjihklaocgmlpaaDoor
