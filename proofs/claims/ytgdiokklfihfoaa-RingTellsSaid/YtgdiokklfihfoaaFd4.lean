/- Contract of package field's Mul. -/
import Derived.Test.YtgdiokklfihfoaaFd3
import Derived.Test.YtgdiokklfihfoaaLimb4
import Derived.Test.YtgdiokklfihfoaaBld
namespace Go.Proofs.Ytgdiokklfihfoaa
/-- The carry ahead of word k of the folded product; word k. -/
def mcar (f : Nat → Nat) : Nat → Nat
  | 0 => 0
  | k + 1 => (f (k + 4) * 38 + f k + mcar f k) / 18446744073709551616
def mout (f : Nat → Nat) (k : Nat) : Nat := (f (k + 4) * 38 + f k + mcar f k) % 18446744073709551616
theorem mcar_le {f : Nat → Nat} (hf : ∀ i, f i < 18446744073709551616) (k : Nat) : mcar f k ≤ 38 := by
  induction k with
  | zero => simp [mcar]
  | succ k ih => have h1 := hf k; have h2 := hf (k + 4); unfold mcar; omega
theorem mout_lt (f : Nat → Nat) (k : Nat) : mout f k < 18446744073709551616 := Nat.mod_lt _ (by omega)
theorem mout_wval (f : Nat → Nat) (n : Nat) : wval (mout f) n + 2 ^ (64 * n) * mcar f n = wval f n + 38 * wval (fun j => f (j + 4)) n := by
  induction n with
  | zero => simp [wval, mcar]
  | succ n ih =>
    have h5 : mout f n + 18446744073709551616 * mcar f (n + 1) = f (n + 4) * 38 + f n + mcar f n := by unfold mout; rw [show mcar f (n + 1) = (f (n + 4) * 38 + f n + mcar f n) / 18446744073709551616 from rfl]; omega
    simp only [wval]
    rw [show 64 * (n + 1) = 64 * n + 64 by omega, Nat.pow_add]
    generalize 2 ^ (64 * n) = P at *
    have h6 : P * (mout f n + 18446744073709551616 * mcar f (n + 1)) = P * (f (n + 4) * 38 + f n + mcar f n) := by rw [h5]
    rw [Nat.mul_add, Nat.mul_add, Nat.mul_add, ← Nat.mul_assoc P _ 38, Nat.mul_comm _ 38] at h6
    rw [Nat.mul_assoc, show (2 : Nat) ^ 64 = 18446744073709551616 from rfl, Nat.mul_add]
    omega
/-- The product, folded once: what is left, and what runs over. -/
theorem mul_fold {a b : Nat} (ha : a < 2 ^ 256) (hb : b < 2 ^ 256) (V C : Nat) (hV : wval (mout (wd (a * b))) 4 = V) (hC : mcar (wd (a * b)) 4 = C) : V < 2 ^ 256 ∧ C ≤ 38 ∧ (V + 2 ^ 256 * C) % fP = a * b % fP := by
  have h := mout_wval (wd (a * b)) 4
  have h2 : wval (fun j => wd (a * b) (j + 4)) 4 = a * b / 2 ^ 256 := by
    have e : (fun j => wd (a * b) (j + 4)) = fun j => wd (a * b / 2 ^ 256) j := funext fun j => by rw [Nat.add_comm, wd_div]
    rw [e, show (fun j => wd (a * b / 2 ^ 256) j) = wd (a * b / 2 ^ 256) from rfl, wval_wd, Nat.mod_eq_of_lt]
    rw [show 64 * 4 = 256 from rfl]
    have h3 : a * b < 2 ^ 256 * 2 ^ 256 := Nat.mul_lt_mul'' ha hb
    exact Nat.div_lt_of_lt_mul h3
  rw [h2, wval_wd, hV, hC, show 64 * 4 = 256 from rfl] at h
  refine ⟨hV ▸ wval_lt (k := 4) fun i _ => mout_lt _ _, hC ▸ mcar_le (wd_lt _) 4, ?_⟩
  rw [h, ← fold_P, Nat.mod_add_div]
theorem fold_add {V C : Nat} (hV : V < 2 ^ 256) (hC : C ≤ 38) : foldA V C = (if overN V (38 * C) = 1 then addN (addN V (38 * C)) 38 else addN V (38 * C)) := by
  unfold foldA overN addN
  have h3 : 10000 < 2 ^ 256 := by decide +kernel
  generalize (2 : Nat) ^ 256 = Q at *
  by_cases h : V + 38 * C < Q
  · rw [if_neg (by omega), if_pos h, if_neg (by omega), Nat.mod_eq_of_lt h]
  · rw [if_pos (by omega), if_neg h, if_pos rfl, show (V + 38 * C) % Q = V + 38 * C - Q by rw [Nat.mod_eq_sub_mod (by omega), Nat.mod_eq_of_lt (by omega)], Nat.mod_eq_of_lt (a := V + 38 * C - Q + 38) (by omega)]
theorem num1 {x : Nat} (hx : x < 18446744073709551616) : #[Value.int IntKind.u64 (x : Int), Value.int IntKind.u64 0, Value.int IntKind.u64 0, Value.int IntKind.u64 0] = arrK .u64 4 (wd x) := by
  refine Eq.trans ?_ (arrK4 .u64 (wd x))
  rw [wd_ge (n := x) (i := 1) (by omega), wd_ge (n := x) (i := 2) (by omega), wd_ge (n := x) (i := 3) (by omega), show wd x 0 = x by unfold wd; omega]
  rfl
open Go.ChangeShapes Go.WideShapes Go.ChangeAt Go.RowKit
set_option maxHeartbeats 2000000
set_option maxRecDepth 100000
attribute [local go_sem ↓] load_num store_num execl_num execs_num load_wide store_wide execl_wide execs_wide
attribute [local go_sem] isHead_mk blkOf_mk isAgg_mk cellsV_mk row_drew rowAt_drew row_new_cells row_old rowAt_new rowAt_old setRow_new zeroNum zeroWide
end Go.Proofs.Ytgdiokklfihfoaa
