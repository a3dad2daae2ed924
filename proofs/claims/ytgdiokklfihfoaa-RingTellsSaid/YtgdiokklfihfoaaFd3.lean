/- Contracts of package field: Add, Sub. -/
import Derived.Test.YtgdiokklfihfoaaFd2
import Derived.Test.YtgdiokklfihfoaaOneW
namespace Go.Proofs.Ytgdiokklfihfoaa
open Go.ChangeShapes Go.WideShapes Go.ChangeAt Go.RowKit
set_option maxHeartbeats 2000000
set_option maxRecDepth 100000
attribute [local go_sem ↓] load_num store_num execl_num execs_num
attribute [local go_sem] isHead_mk blkOf_mk isAgg_mk cellsV_mk row_drew rowAt_drew row_new_cells row_old rowAt_new rowAt_old setRow_new zeroNum
theorem sub_facts (x y : Nat) (hx : x < fP) (hy : y < fP) : (x < y → addN (subN x y) fP = (x + (fP - y)) % fP) ∧ (¬ x < y → subN x y = (x + (fP - y)) % fP) := by
  have h3 := P_lt
  unfold addN subN
  generalize (2 : Nat) ^ 256 = Q at *
  generalize fP = P at *
  constructor
  · intro h
    rw [Nat.mod_eq_of_lt (a := x + (P - y)) (by omega), Nat.mod_eq_of_lt (a := x + Q - y) (by omega), show x + Q - y + P = Q + (x + (P - y)) by omega, Nat.add_mod_left, Nat.mod_eq_of_lt (by omega)]
  · intro h
    rw [show x + (P - y) = P + (x - y) by omega, Nat.add_mod_left, Nat.mod_eq_of_lt (a := x - y) (by omega), show x + Q - y = Q + (x - y) by omega, Nat.add_mod_left, Nat.mod_eq_of_lt (by omega)]
/-- The difference. -/
def difP (a b : Nat) : Nat := (a % fP + (fP - b % fP)) % fP
end Go.Proofs.Ytgdiokklfihfoaa
