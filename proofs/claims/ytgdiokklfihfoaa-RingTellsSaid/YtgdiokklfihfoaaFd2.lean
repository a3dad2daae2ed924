/- Contract of package field's Low. -/
import Derived.Test.YtgdiokklfihfoaaFd1
import Derived.Test.YtgdiokklfihfoaaFresh
namespace Go.Proofs.Ytgdiokklfihfoaa
open Go.ChangeShapes Go.WideShapes Go.ChangeAt Go.RowKit
set_option maxHeartbeats 2000000
set_option maxRecDepth 100000
attribute [local go_sem ↓] load_num store_num execl_num execs_num
attribute [local go_sem] isHead_mk blkOf_mk isAgg_mk cellsV_mk row_drew rowAt_drew row_new_cells row_old rowAt_new rowAt_old setRow_new zeroNum
def lowI : Nat → Nat → Nat
  | 0, c => c
  | k + 1, c => lowI k (lowA c)
theorem sub_at {c : Nat} (h : c < 2 ^ 256) (h2 : lessN c fP = 0) : subN c fP = lowA c ∧ lowA c < 2 ^ 256 := by
  unfold lessN at h2
  unfold subN lowA
  have h3 := P_lt
  generalize (2 : Nat) ^ 256 = Q at *
  generalize fP = P at *
  by_cases h4 : c < P
  · rw [if_pos h4] at h2; cases h2
  · rw [if_pos (by omega), show c + Q - P = Q + (c - P) by omega, Nat.add_mod_left, Nat.mod_eq_of_lt (by omega)]
    exact ⟨rfl, by omega⟩
theorem sub_no {c : Nat} (h2 : lessN c fP ≠ 0) : lowA c = c := by
  unfold lessN at h2
  unfold lowA
  by_cases h4 : c < fP
  · rw [if_neg (by omega)]
  · rw [if_neg h4] at h2; exact absurd rfl h2
end Go.Proofs.Ytgdiokklfihfoaa
