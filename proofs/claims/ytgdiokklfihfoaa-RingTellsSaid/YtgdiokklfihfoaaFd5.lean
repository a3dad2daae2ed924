/- Contracts of package field's pow and Inv. -/
import Derived.Test.YtgdiokklfihfoaaFd4
import Derived.Test.YtgdiokklfihfoaaLimb5
namespace Go.Proofs.Ytgdiokklfihfoaa
open Go.ChangeShapes Go.WideShapes Go.ChangeAt Go.RowKit
set_option maxHeartbeats 2000000
set_option maxRecDepth 100000
attribute [local go_sem ↓] load_num store_num execl_num execs_num
attribute [local go_sem] isHead_mk blkOf_mk isAgg_mk cellsV_mk row_drew rowAt_drew row_new_cells row_old rowAt_new rowAt_old setRow_new zeroNum
/-- What pow holds while s bits are still to come. -/
def powS (a n s : Nat) : Nat := a ^ (n / 2 ^ s) % fP
theorem powS_start {a n s : Nat} (h : n < 2 ^ s) : powS a n s = 1 := by
  unfold powS
  rw [Nat.div_eq_of_lt h, Nat.pow_zero]
  decide +kernel
theorem powS_end (a n : Nat) : powS a n 0 = a ^ n % fP := by unfold powS; rw [Nat.pow_zero, Nat.div_one]
theorem powS_lt (a n s : Nat) : powS a n s < 2 ^ 256 := Nat.lt_trans lt_P P_lt
theorem powS_zero {a n s : Nat} (h : abit n s = 0) : powS a n (s + 1) * powS a n (s + 1) % fP = powS a n s := by
  unfold powS
  unfold abit at h
  rw [← Nat.mul_mod, ← Nat.pow_add]
  have e : n / 2 ^ (s + 1) + n / 2 ^ (s + 1) = n / 2 ^ s := by
    rw [Nat.pow_succ, ← Nat.div_div_eq_div_mul]; omega
  rw [e]
theorem powS_one {a n s : Nat} (h : abit n s = 1) : (powS a n (s + 1) * powS a n (s + 1) % fP) * a % fP = powS a n s := by
  unfold powS
  unfold abit at h
  rw [← Nat.mul_mod, ← Nat.pow_add, Nat.mod_mul_mod, ← Nat.pow_succ, Nat.succ_eq_add_one]
  have e : n / 2 ^ (s + 1) + n / 2 ^ (s + 1) + 1 = n / 2 ^ s := by
    rw [Nat.pow_succ, ← Nat.div_div_eq_div_mul]; omega
  rw [e]
theorem len_le {n r : Nat} (hn : n < 2 ^ 256) (h : IsLen n r) : r ≤ 256 := by
  rcases h.2 with h | h
  · omega
  · have := Nat.lt_of_le_of_lt h hn
    have := (Nat.pow_lt_pow_iff_right (by omega : 1 < 2)).1 this
    omega
theorem bitC (n i : Nat) (hi : i < 256) (w : World) : Calls Try.prog 96 #[.agg (arrK .u64 4 (wd n)), .int .i64 (i : Int)] w fun e w' => e = .returned (.int .u64 (abit n i : Nat)) ∧ Below w.heap.size w w' := by
  refine (limb_Bit n i w).mono ?_
  rintro e w' ⟨rfl, hb⟩
  rw [if_pos ⟨by omega, by omega⟩]
  exact ⟨rfl, hb⟩
theorem abit_or (n i : Nat) : abit n i = 0 ∨ abit n i = 1 := by unfold abit; omega
theorem two_less : subN fP 2 = fP - 2 := by
  have h1 := P_lt
  have h2 := fP_pos
  unfold subN
  generalize (2 : Nat) ^ 256 = Q at *
  generalize fP = P at *
  rw [show P + Q - 2 = P - 2 + Q by omega, Nat.add_mod_right, Nat.mod_eq_of_lt (by omega)]
end Go.Proofs.Ytgdiokklfihfoaa
