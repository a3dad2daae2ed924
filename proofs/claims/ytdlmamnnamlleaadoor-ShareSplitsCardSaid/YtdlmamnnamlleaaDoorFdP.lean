/- Numbers modulo 2^255 - 19, in plain Lean: what package field computes out of numbers of 256 bits. No program is named here. -/
import Derived.Test.YtdlmamnnamlleaaDoorAt
namespace Go.Proofs.YtdlmamnnamlleaaDoor
/-- The modulus. -/
def fP : Nat := 2 ^ 255 - 19
theorem fP_two : 2 ^ 256 = 2 * fP + 38 := by decide +kernel
theorem fP_pos : 1000 < fP := by decide +kernel
/-- One subtraction, if it goes. -/
def lowA (a : Nat) : Nat := if fP ≤ a then a - fP else a
theorem low_two {a : Nat} (h : a < 2 ^ 256) : lowA (lowA a) = a % fP := by
  rw [fP_two] at h
  have hp := fP_pos
  unfold lowA
  generalize fP = P at *
  by_cases h1 : P ≤ a
  · rw [if_pos h1]
    by_cases h2 : P ≤ a - P
    · rw [if_pos h2, Nat.mod_eq_sub_mod h1, Nat.mod_eq_sub_mod h2, Nat.mod_eq_of_lt (by omega)]
    · rw [if_neg h2, Nat.mod_eq_sub_mod h1, Nat.mod_eq_of_lt (by omega)]
  · rw [if_neg h1, if_neg h1, Nat.mod_eq_of_lt (by omega)]
theorem lt_P {a : Nat} : a % fP < fP := Nat.mod_lt _ (Nat.lt_trans (by omega) fP_pos)
theorem P_lt : fP < 2 ^ 256 := by rw [fP_two]; omega
/-- A sum of two that are low stays below 2^256. -/
theorem add_lt (a b : Nat) : a % fP + b % fP < 2 ^ 256 := by
  have h1 := lt_P (a := a)
  have h2 := lt_P (a := b)
  rw [fP_two]; omega
theorem add_low (a b : Nat) : (a % fP + b % fP) % fP = (a + b) % fP := (Nat.add_mod a b fP).symm
/-- A difference, as the program makes it: modulo 2^256, and the modulus added where it borrowed. -/
def subA (x y : Nat) : Nat := if x < y then (x + 2 ^ 256 - y + fP) % 2 ^ 256 else x - y
theorem sub_low (a b : Nat) : subA (a % fP) (b % fP) = (a % fP + (fP - b % fP)) % fP := by
  have h1 := lt_P (a := a)
  have h2 := lt_P (a := b)
  have h3 := P_lt
  unfold subA
  generalize a % fP = x at *
  generalize b % fP = y at *
  generalize (2 : Nat) ^ 256 = Q at *
  generalize fP = P at *
  by_cases h : x < y
  · rw [if_pos h, Nat.mod_eq_of_lt (a := x + (P - y)) (by omega), show x + Q - y + P = Q + (x + (P - y)) by omega, Nat.add_mod_left, Nat.mod_eq_of_lt (by omega)]
  · rw [if_neg h, show x + (P - y) = P + (x - y) by omega, Nat.add_mod_left, Nat.mod_eq_of_lt (by omega)]
/-- 2^256 counts 38 times. -/
theorem fold_P (lo hi : Nat) : (lo + 2 ^ 256 * hi) % fP = (lo + 38 * hi) % fP := by
  rw [fP_two, Nat.add_mul, Nat.mul_assoc, show lo + (2 * (fP * hi) + 38 * hi) = (lo + 38 * hi) + fP * (2 * hi) by rw [Nat.mul_left_comm]; omega, Nat.add_mul_mod_self_left]
/-- What stands behind 2^256 is put in 38 times, and once more where that runs over. -/
def foldA (lo hi : Nat) : Nat := if 2 ^ 256 ≤ lo + 38 * hi then (lo + 38 * hi) % 2 ^ 256 + 38 else lo + 38 * hi
theorem foldA_is {lo hi : Nat} (h1 : lo < 2 ^ 256) (h2 : hi < 64) : foldA lo hi < 2 ^ 256 ∧ foldA lo hi % fP = (lo + 2 ^ 256 * hi) % fP := by
  have hQ : 10000 < 2 ^ 256 := by decide +kernel
  have h3 := fold_P lo hi
  unfold foldA
  by_cases h : 2 ^ 256 ≤ lo + 38 * hi
  · rw [if_pos h]
    have h4 := fold_P (lo + 38 * hi - 2 ^ 256) 1
    have e : (lo + 38 * hi) % 2 ^ 256 = lo + 38 * hi - 2 ^ 256 := by
      generalize (2 : Nat) ^ 256 = Q at *
      rw [Nat.mod_eq_sub_mod h, Nat.mod_eq_of_lt (by omega)]
    rw [e]
    refine ⟨by generalize (2 : Nat) ^ 256 = Q at *; omega, ?_⟩
    rw [h3]
    rw [Nat.mul_one, Nat.mul_one, Nat.sub_add_cancel h] at h4
    exact h4.symm
  · rw [if_neg h]
    exact ⟨by omega, h3.symm⟩
/-- One over it. -/
def invP (a : Nat) : Nat := a ^ (fP - 2) % fP
theorem pow_mod_P (a n : Nat) : (a % fP) ^ n % fP = a ^ n % fP := (Nat.pow_mod a n fP).symm
end Go.Proofs.YtdlmamnnamlleaaDoor
