/- Package ring: the plain laws of In, Mul, Pow and New. -/
import Derived.Test.YtgdiokklfihfoaaRg4
namespace Go.Proofs.Ytgdiokklfihfoaa
def nwt (m x : Nat) : Nat := ((x : Int) * (2 - (m : Int) * x) % 18446744073709551616).toNat
theorem nwt_int (m x : Nat) : ((nwt m x : Nat) : Int) = (x : Int) * (2 - (m : Int) * x) % 18446744073709551616 := by
  unfold nwt
  rw [Int.toNat_of_nonneg (Int.emod_nonneg _ (by omega))]
theorem nwt_lt (m x : Nat) : nwt m x < 18446744073709551616 := by
  have := nwt_int m x
  have := Int.emod_lt_of_pos ((x : Int) * (2 - (m : Int) * x)) (show (0 : Int) < 18446744073709551616 by omega)
  omega
/-- x is 1 / m modulo d. -/
def Nwt (m d x : Nat) : Prop := ∃ q : Int, (m : Int) * x - 1 = d * q
theorem Nwt.step {m d x : Nat} (h : Nwt m d x) (e k : Nat) (he : 18446744073709551616 = e * k) {c : Nat} (hd : d * d = e * c) : Nwt m e (nwt m x) := by
  obtain ⟨q, hq⟩ := h
  have h1 := nwt_int m x
  have h2 := Int.mul_ediv_add_emod ((x : Int) * (2 - (m : Int) * x)) 18446744073709551616
  rw [← h1] at h2
  generalize (x : Int) * (2 - (m : Int) * x) / 18446744073709551616 = t at *
  have he' : (18446744073709551616 : Int) = (e : Int) * k := by rw [← Int.natCast_mul, ← he]; rfl
  have hd' : (d : Int) * d = (e : Int) * c := by rw [← Int.natCast_mul, ← Int.natCast_mul, hd]
  refine ⟨- c * q * q - m * k * t, ?_⟩
  rw [he'] at h2
  have h3 : (nwt m x : Int) = (x : Int) * (2 - (m : Int) * x) - e * k * t := by omega
  rw [h3]
  clear h3 h2 h1
  grind
theorem nwt_start {m : Nat} (h : m % 2 = 1) : Nwt m 8 m := by
  refine ⟨((m / 2 : Nat) : Int) * ((m / 2 : Nat) + 1) / 2, ?_⟩
  have hp : (((m / 2 : Nat) : Int) * ((m / 2 : Nat) + 1)) % 2 = 0 := by
    rw [Int.mul_emod]
    have : ((m / 2 : Nat) : Int) % 2 = 0 ∨ ((m / 2 : Nat) : Int) % 2 = 1 := by omega
    rcases this with e | e
    · rw [e]; simp
    · rw [show (((m / 2 : Nat) : Int) + 1) % 2 = 0 by omega]; simp
  generalize hk : m / 2 = k at *
  have hm : (m : Int) = 2 * k + 1 := by omega
  rw [hm]
  have h4 : ((k : Int) * (k + 1)) / 2 * 2 = (k : Int) * (k + 1) := by omega
  have h5 : (8 : Int) * (((k : Int) * (k + 1)) / 2) = 4 * (((k : Int) * (k + 1)) / 2 * 2) := by omega
  show _ = ((8 : Nat) : Int) * _
  rw [show ((8 : Nat) : Int) = 8 from rfl, h5, h4]
  grind
def nwt5 (m : Nat) : Nat := nwt m (nwt m (nwt m (nwt m (nwt m m))))
theorem nwt5_is {m : Nat} (h : m % 2 = 1) : Nwt m 18446744073709551616 (nwt5 m) := by
  have h1 := (nwt_start h).step 64 288230376151711744 rfl (c := 1) rfl
  have h2 := h1.step 4096 4503599627370496 rfl (c := 1) rfl
  have h3 := h2.step 16777216 1099511627776 rfl (c := 1) rfl
  have h4 := h3.step 281474976710656 65536 rfl (c := 1) rfl
  exact h4.step 18446744073709551616 1 rfl (c := 4294967296) rfl
def negW (x : Nat) : Nat := (18446744073709551616 - x) % 18446744073709551616
theorem neg_inv {M m x : Nat} (hx : x < 18446744073709551616) (h : Nwt m 18446744073709551616 x) (hm : M % 18446744073709551616 = m) : (negW x * M + 1) % 18446744073709551616 = 0 := by
  obtain ⟨q, hq⟩ := h
  have h1 : M = 18446744073709551616 * (M / 18446744073709551616) + m := by omega
  generalize M / 18446744073709551616 = t at *
  have h2 : ∃ s : Int, (negW x : Int) = 18446744073709551616 * s - x := by
    unfold negW
    by_cases e : x = 0
    · subst e; exact ⟨0, by omega⟩
    · exact ⟨1, by omega⟩
  obtain ⟨s, hs⟩ := h2
  have h3 : ((negW x * M + 1 : Nat) : Int) = 18446744073709551616 * (s * M - x * t - q) := by
    have h4 : (M : Int) = 18446744073709551616 * t + m := by omega
    have h5 : ((negW x * M + 1 : Nat) : Int) = (negW x : Int) * M + 1 := by push_cast; rfl
    rw [h5, hs, h4]
    have hq' : (m : Int) * x - 1 = 18446744073709551616 * q := hq
    grind
  generalize negW x * M + 1 = z at *
  omega
theorem out_of {m T x : Nat} (hm : m % 2 = 1) (h : T % m = x * 2 ^ 256 % m) : outN m T = x % m := by
  unfold outN
  generalize hh : (m + 1) / 2 = t
  have h2 : 2 * t = m + 1 := by omega
  have h3 : (2 * t) ^ 256 % m = 1 % m := by rw [Nat.pow_mod, h2, Nat.add_mod_left, ← Nat.pow_mod, Nat.one_pow]
  rw [Nat.mul_mod, h, ← Nat.mul_mod, Nat.mul_assoc, ← Nat.mul_pow, Nat.mul_mod, h3, ← Nat.mul_mod, Nat.mul_one]
theorem out_back {m T : Nat} (hm : m % 2 = 1) : outN m T * 2 ^ 256 % m = T % m := by
  unfold outN
  generalize hh : (m + 1) / 2 = t
  have h2 : 2 * t = m + 1 := by omega
  have h3 : (2 * t) ^ 256 % m = 1 % m := by rw [Nat.pow_mod, h2, Nat.add_mod_left, ← Nat.pow_mod, Nat.one_pow]
  rw [Nat.mod_mul_mod, Nat.mul_assoc, Nat.mul_comm (t ^ 256), ← Nat.mul_pow, Nat.mul_mod, h3, ← Nat.mul_mod, Nat.mul_one]
theorem out_lt {m T : Nat} (hm : m % 2 = 1) : outN m T < m := Nat.mod_lt _ (by omega)
theorem in_is {m a o s : Nat} (hm : m % 2 = 1) (ho : o = 2 ^ 256 % m) (hs : s = o * o % m) : outN m (a * s) = a * 2 ^ 256 % m := by
  refine out_of hm ?_
  rw [hs, ho]
  generalize (2 : Nat) ^ 256 = P
  rw [Nat.mul_mod, Nat.mod_mod, ← Nat.mul_mod P P, ← Nat.mul_mod, Nat.mul_assoc]
theorem mul_is {m a b o s : Nat} (hm : m % 2 = 1) (ho : o = 2 ^ 256 % m) (hs : s = o * o % m) : outN m (outN m (a * s) * b) = a * b % m := by
  refine out_of hm ?_
  rw [in_is hm ho hs]
  generalize (2 : Nat) ^ 256 = P
  rw [Nat.mod_mul_mod, Nat.mul_assoc, Nat.mul_comm P b, ← Nat.mul_assoc]
/-- p is x in the ring, times 2 ^ 256. -/
def Mo (m p x : Nat) : Prop := p = x * 2 ^ 256 % m
theorem Mo.mul {m p q x y : Nat} (hm : m % 2 = 1) (h : Mo m p x) (k : Mo m q y) : Mo m (outN m (p * q)) (x * y) := by
  unfold Mo at *
  refine out_of hm ?_
  rw [h, k]
  generalize (2 : Nat) ^ 256 = P
  rw [← Nat.mul_mod, Nat.mul_assoc x y P, Nat.mul_assoc x, Nat.mul_assoc x (y * P) P]
  rw [Nat.mul_comm P (y * P)]
theorem Mo.out {m p x : Nat} (hm : m % 2 = 1) (h : Mo m p x) : outN m p = x % m := out_of hm (by rw [h, Nat.mod_mod])
theorem Mo.one {m o : Nat} (ho : o = 2 ^ 256 % m) : Mo m o 1 := by unfold Mo; rw [ho, Nat.one_mul]
theorem Mo.congr {m p x y : Nat} (h : Mo m p x) (e : x = y) : Mo m p y := e ▸ h
/-- A step of Pow: the bit at i. -/
theorem pow_up (a n i : Nat) : a ^ (n / 2 ^ i) = a ^ (n / 2 ^ (i + 1)) * a ^ (n / 2 ^ (i + 1)) * a ^ (n / 2 ^ i % 2) := by
  have h : n / 2 ^ i = n / 2 ^ (i + 1) + n / 2 ^ (i + 1) + n / 2 ^ i % 2 := by
    rw [Nat.pow_succ, ← Nat.div_div_eq_div_mul]; omega
  rw [← Nat.pow_add, ← Nat.pow_add]; exact congrArg _ h
end Go.Proofs.Ytgdiokklfihfoaa
