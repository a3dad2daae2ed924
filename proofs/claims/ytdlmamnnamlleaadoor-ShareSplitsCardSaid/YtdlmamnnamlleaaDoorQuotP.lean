/- Plain law of shifts, quotients by bits, and the greatest common divisor by halves. No program is named here. -/
import Derived.Test.YtdlmamnnamlleaaDoorLimb
namespace Go.Proofs.YtdlmamnnamlleaaDoor
open Go

theorem or_mid {x y i : Nat} (h : x < 2 ^ i) : x ||| 2 ^ i * y = x + 2 ^ i * y := or_low h
/-- A word that is made of two neighbours. -/
theorem sh_mid (X k : Nat) (hk : k ≤ 64) : X / 2 ^ k % 2 ^ 64 = (X % 2 ^ 64) / 2 ^ k ||| (X / 2 ^ 64 % 2 ^ 64) * 2 ^ (64 - k) % 2 ^ 64 := by
  have hp : (2 : Nat) ^ 64 = 2 ^ (64 - k) * 2 ^ k := by rw [← Nat.pow_add]; congr 1; omega
  have hp' : (2 : Nat) ^ 64 = 2 ^ k * 2 ^ (64 - k) := by rw [← Nat.pow_add]; congr 1; omega
  have hX : X = X % 2 ^ 64 + 2 ^ k * (2 ^ (64 - k) * (X / 2 ^ 64)) := by rw [← Nat.mul_assoc, ← hp']; exact (Nat.mod_add_div X (2 ^ 64)).symm
  have hlt : X % 2 ^ 64 / 2 ^ k < 2 ^ (64 - k) := by
    rw [Nat.div_lt_iff_lt_mul (Nat.pow_pos (by omega)), ← hp]; exact Nat.mod_lt _ (Nat.pow_pos (by omega))
  have h1 : X / 2 ^ k = X % 2 ^ 64 / 2 ^ k + 2 ^ (64 - k) * (X / 2 ^ 64) := by
    conv => lhs; rw [hX]
    rw [Nat.add_mul_div_left _ _ (Nat.pow_pos (by omega))]
  have key : ∀ Y, 2 ^ (64 - k) * Y % 2 ^ 64 = 2 ^ (64 - k) * (Y % 2 ^ k) := fun Y => by rw [hp, Nat.mul_mod_mul_left]
  have h2 := key (X / 2 ^ 64)
  have h3 : (X / 2 ^ 64 % 2 ^ 64) * 2 ^ (64 - k) % 2 ^ 64 = 2 ^ (64 - k) * (X / 2 ^ 64 % 2 ^ k) := by
    rw [Nat.mul_comm, key, Nat.mod_mod_of_dvd _ (Nat.pow_dvd_pow 2 hk)]
  rw [h3, or_mid hlt, h1, Nat.add_mod, h2]
  have h4 : X % 2 ^ 64 / 2 ^ k % 2 ^ 64 = X % 2 ^ 64 / 2 ^ k := Nat.mod_eq_of_lt (Nat.lt_of_lt_of_le hlt (Nat.pow_le_pow_right (by omega) (by omega)))
  rw [h4]
  apply Nat.mod_eq_of_lt
  have h5 : X / 2 ^ 64 % 2 ^ k < 2 ^ k := Nat.mod_lt _ (Nat.pow_pos (by omega))
  have h6 : 2 ^ (64 - k) * (X / 2 ^ 64 % 2 ^ k + 1) ≤ 2 ^ (64 - k) * 2 ^ k := Nat.mul_le_mul_left _ h5
  rw [← hp, Nat.mul_add] at h6
  omega
/-- Words of a number shifted to the right by 64 v + k. -/
theorem wd_shr (a v k t : Nat) (hk : k < 64) : wd (a / 2 ^ (64 * v + k)) t = wd a (v + t) / 2 ^ k ||| wd a (v + t + 1) * 2 ^ (64 - k) % 2 ^ 64 := by
  have h := sh_mid (a / 2 ^ (64 * (v + t))) k (by omega)
  unfold wd
  rw [show a / 2 ^ (64 * v + k) / 2 ^ (64 * t) = a / 2 ^ (64 * (v + t)) / 2 ^ k by
    rw [Nat.div_div_eq_div_mul, Nat.div_div_eq_div_mul, ← Nat.pow_add, ← Nat.pow_add]; congr 2; omega, h]
  rw [show a / 2 ^ (64 * (v + t)) / 2 ^ 64 = a / 2 ^ (64 * (v + t + 1)) by rw [Nat.div_div_eq_div_mul, ← Nat.pow_add]; rfl]
/-- Words of a number shifted to the left. -/
theorem wd_shl_lt (a v k j : Nat) (hj : j < v) : wd (a * 2 ^ (64 * v + k)) j = 0 := by
  unfold wd
  have e : 2 ^ (64 * v + k) = 2 ^ (64 * j) * (2 ^ 64 * 2 ^ (64 * (v - j - 1) + k)) := by
    rw [← Nat.pow_add, ← Nat.pow_add]; congr 1; omega
  rw [e, Nat.mul_left_comm a, Nat.mul_left_comm a]
  rw [Nat.mul_div_cancel_left _ (Nat.pow_pos (by omega)), Nat.mul_mod_right]
theorem wd_shl_eq (a v k : Nat) : wd (a * 2 ^ (64 * v + k)) v = wd a 0 * 2 ^ k % 2 ^ 64 := by
  unfold wd
  rw [show a * 2 ^ (64 * v + k) = 2 ^ (64 * v) * (a * 2 ^ k) by rw [Nat.mul_left_comm, ← Nat.pow_add], Nat.mul_div_cancel_left _ (Nat.pow_pos (by omega)), Nat.mul_zero, Nat.pow_zero, Nat.div_one, Nat.mod_mul_mod]
theorem wd_shl_gt (a v k t : Nat) (hk : k < 64) : wd (a * 2 ^ (64 * v + k)) (v + (t + 1)) = wd a (t + 1) * 2 ^ k % 2 ^ 64 ||| wd a t / 2 ^ (64 - k) := by
  have h := sh_mid (a / 2 ^ (64 * t)) (64 - k) (by omega)
  unfold wd
  have e : a * 2 ^ (64 * v + k) / 2 ^ (64 * (v + (t + 1))) = a / 2 ^ (64 * t) / 2 ^ (64 - k) := by
    rw [show 64 * (v + (t + 1)) = 64 * v + k + (64 * t + (64 - k)) by omega, Nat.pow_add 2 (64 * v + k), ← Nat.div_div_eq_div_mul, Nat.mul_div_cancel _ (Nat.pow_pos (by omega)), Nat.pow_add, Nat.div_div_eq_div_mul]
  rw [e, h, show 64 - (64 - k) = k by omega, Nat.or_comm]
  rw [show a / 2 ^ (64 * t) / 2 ^ 64 = a / 2 ^ (64 * (t + 1)) by rw [Nat.div_div_eq_div_mul, ← Nat.pow_add]; rfl]

/-! One bit more. -/
theorem wd_or (a b i : Nat) : wd (a ||| b) i = wd a i ||| wd b i := by
  unfold wd
  rw [← Nat.shiftRight_eq_div_pow, ← Nat.shiftRight_eq_div_pow, ← Nat.shiftRight_eq_div_pow, Nat.shiftRight_or_distrib, Nat.or_mod_two_pow]
theorem wd_bit (i p : Nat) : wd (2 ^ i) p = if p = i / 64 then 2 ^ (i % 64) else 0 := by
  unfold wd
  split
  · rename_i h
    subst h
    rw [show (2 : Nat) ^ i = 2 ^ (64 * (i / 64)) * 2 ^ (i % 64) by rw [← Nat.pow_add]; congr 1; omega, Nat.mul_div_cancel_left _ (Nat.pow_pos (by omega))]
    exact Nat.mod_eq_of_lt (Nat.pow_lt_pow_right (by omega) (by omega))
  · rename_i h
    rcases Nat.lt_or_ge p (i / 64) with h1 | h1
    · rw [show (2 : Nat) ^ i = 2 ^ (64 * p) * (2 ^ 64 * 2 ^ (i - 64 * p - 64)) by rw [← Nat.pow_add, ← Nat.pow_add]; congr 1; omega, Nat.mul_div_cancel_left _ (Nat.pow_pos (by omega)), Nat.mul_mod_right]
    · rw [Nat.div_eq_of_lt (Nat.pow_lt_pow_right (by omega) (by omega))]
/-- What DivMod has ahead of bit i - 1. -/
def dmQ (a m i : Nat) : Nat := a / 2 ^ i / m * 2 ^ i
def dmR (a m i : Nat) : Nat := a / 2 ^ i % m
def abit (a i : Nat) : Nat := a / 2 ^ i % 2
theorem half_up (a i : Nat) : a / 2 ^ i = 2 * (a / 2 ^ (i + 1)) + abit a i := by
  unfold abit
  rw [Nat.pow_succ, ← Nat.div_div_eq_div_mul]; omega
theorem dm_mod {A m b : Nat} (hm : 0 < m) (hb : b ≤ 1) : (2 * A + b) / m = 2 * (A / m) + (if m ≤ 2 * (A % m) + b then 1 else 0) ∧ (2 * A + b) % m = if m ≤ 2 * (A % m) + b then 2 * (A % m) + b - m else 2 * (A % m) + b := by
  have hr := Nat.mod_lt A hm
  have hA := Nat.mod_add_div A m
  generalize A % m = r at *
  generalize A / m = q at *
  have e : 2 * A + b = (2 * r + b) + m * (2 * q) := by rw [← hA, Nat.mul_add, Nat.mul_left_comm]; omega
  rw [e, Nat.add_mul_div_left _ _ hm, Nat.add_mul_mod_self_left]
  split
  · rename_i h
    have h1 : 2 * r + b = (2 * r + b - m) + m * 1 := by omega
    rw [h1, Nat.add_mul_div_left _ _ hm, Nat.add_mul_mod_self_left, Nat.div_eq_of_lt (by omega), Nat.mod_eq_of_lt (by omega)]
    omega
  · rename_i h
    rw [Nat.div_eq_of_lt (by omega), Nat.mod_eq_of_lt (by omega)]
    omega
theorem dm_round {a m i : Nat} (hm : 0 < m) : (m ≤ 2 * dmR a m (i + 1) + abit a i → dmR a m i = 2 * dmR a m (i + 1) + abit a i - m ∧ dmQ a m i = dmQ a m (i + 1) ||| 2 ^ i) ∧
    (¬ m ≤ 2 * dmR a m (i + 1) + abit a i → dmR a m i = 2 * dmR a m (i + 1) + abit a i ∧ dmQ a m i = dmQ a m (i + 1)) := by
  have hb : abit a i ≤ 1 := by unfold abit; omega
  have h := dm_mod (A := a / 2 ^ (i + 1)) (m := m) (b := abit a i) hm hb
  rw [← half_up] at h
  have hQ : dmQ a m (i + 1) = 2 ^ (i + 1) * (a / 2 ^ (i + 1) / m) := by unfold dmQ; rw [Nat.mul_comm]
  refine ⟨fun hl => ?_, fun hl => ?_⟩
  · unfold dmR at hl ⊢
    simp only [hl, if_true] at h
    refine ⟨h.2, ?_⟩
    rw [hQ, ← Nat.two_pow_add_eq_or_of_lt (Nat.pow_lt_pow_right (by omega) (by omega))]
    unfold dmQ
    rw [h.1, Nat.pow_succ, Nat.add_mul, Nat.one_mul, Nat.mul_comm (2 ^ i) 2, Nat.mul_assoc, Nat.mul_assoc]
    congr 2
    rw [Nat.mul_comm]
  · unfold dmR at hl ⊢
    simp only [hl, if_false] at h
    refine ⟨h.2, ?_⟩
    unfold dmQ
    rw [h.1, Nat.add_zero, Nat.pow_succ, Nat.mul_comm (2 ^ i) 2, ← Nat.mul_assoc, Nat.mul_comm _ 2]
theorem dm_start {a m n : Nat} (ha : a < 2 ^ n) : dmQ a m n = 0 ∧ dmR a m n = 0 := by
  have h : a / 2 ^ n = 0 := Nat.div_eq_of_lt ha
  unfold dmQ dmR
  rw [h]; simp
theorem dm_end (a m : Nat) : dmQ a m 0 = a / m ∧ dmR a m 0 = a % m := by simp [dmQ, dmR]

/-! Halves -/
theorem gcd_both {a b : Nat} (ha : a % 2 = 0) (hb : b % 2 = 0) : Nat.gcd a b = 2 * Nat.gcd (a / 2) (b / 2) := by
  rw [← Nat.gcd_mul_left, show 2 * (a / 2) = a by omega, show 2 * (b / 2) = b by omega]
theorem gcd_one {a b : Nat} (ha : a % 2 = 0) (hb : b % 2 = 1) : Nat.gcd a b = Nat.gcd (a / 2) b := by
  have hc : Nat.Coprime 2 b := by
    have h1 : Nat.gcd 2 b ∣ 2 := Nat.gcd_dvd_left _ _
    have h2 : Nat.gcd 2 b ∣ b := Nat.gcd_dvd_right _ _
    have h3 : Nat.gcd 2 b ≤ 2 := Nat.le_of_dvd (by omega) h1
    have h4 : Nat.gcd 2 b ≠ 0 := fun h => by rw [h] at h1; have := Nat.eq_zero_of_zero_dvd h1; omega
    have h5 : Nat.gcd 2 b ≠ 2 := fun h => by rw [h] at h2; omega
    show Nat.gcd 2 b = 1
    omega
  have e : a = 2 * (a / 2) := by omega
  conv => lhs; rw [e]
  exact Nat.Coprime.gcd_mul_left_cancel _ hc
theorem gcd_sub {a b : Nat} (h : b ≤ a) : Nat.gcd (a - b) b = Nat.gcd a b := by
  conv => rhs; rw [show a = (a - b) + b by omega]
  rw [Nat.gcd_add_self_left]
end Go.Proofs.YtdlmamnnamlleaaDoor
