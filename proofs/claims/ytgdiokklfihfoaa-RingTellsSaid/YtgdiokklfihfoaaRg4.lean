/- Package ring, Out: the plain law. -/
import Derived.Test.YtgdiokklfihfoaaRg1
import Derived.Test.YtgdiokklfihfoaaLimb4
namespace Go.Proofs.Ytgdiokklfihfoaa
theorem two_pow (a b c : Nat) (h : c = a + b) : (2 : Nat) ^ c = 2 ^ a * 2 ^ b := by rw [h, Nat.pow_add]
/-- What Out has in row i behind k steps: the wide number, the carry. B: the wide number before the row. -/
structure OutI (m i k q B : Nat) (f : Nat → Nat) (c : Nat) : Prop where
  lt : ∀ j, f j < 18446744073709551616
  cl : c < 18446744073709551616
  eq : wval f 8 + 2 ^ (64 * (i + k)) * c = B + 2 ^ (64 * i) * q * (m % 2 ^ (64 * k))
theorem OutI.start (m i q : Nat) {f : Nat → Nat} (h : ∀ j, f j < 18446744073709551616) : OutI m i 0 q (wval f 8) f 0 := ⟨h, by omega, by simp only [Nat.mul_zero, Nat.pow_zero, Nat.mod_one]⟩
theorem OutI.step {m i k q B c : Nat} {f : Nat → Nat} (h : OutI m i k q B f c) (hq : q < 18446744073709551616) (hk : k < 4) (hi : i < 4) :
    OutI m i (k + 1) q B (upd f (i + k) ((q * wd m k + f (i + k) + c) % 18446744073709551616)) ((q * wd m k + f (i + k) + c) / 18446744073709551616) := by
  have hb := step_bound hq (wd_lt m k) (h.lt (i + k)) h.cl
  refine ⟨fun j => ?_, by omega, ?_⟩
  · unfold upd; split
    · omega
    · exact h.lt j
  · have h1 := upd_wval f (i + k) ((q * wd m k + f (i + k) + c) % 18446744073709551616) 8 (by omega)
    have h2 := h.eq
    have h3 : (q * wd m k + f (i + k) + c) % 18446744073709551616 + 18446744073709551616 * ((q * wd m k + f (i + k) + c) / 18446744073709551616) = q * wd m k + f (i + k) + c := Nat.mod_add_div _ _
    rw [mod_up, show 64 * (i + (k + 1)) = 64 * (i + k) + 64 by omega, Nat.pow_add, Nat.mul_assoc, show (2 : Nat) ^ 64 = 18446744073709551616 from rfl, Nat.mul_add (2 ^ (64 * i) * q)]
    have h4 : 2 ^ (64 * i) * q * (2 ^ (64 * k) * wd m k) = 2 ^ (64 * (i + k)) * (q * wd m k) := by
      rw [Nat.mul_add 64, Nat.pow_add]; ac_rfl
    rw [h4]
    generalize 2 ^ (64 * (i + k)) = P at *
    generalize q * wd m k = p at *
    generalize (p + f (i + k) + c) % 18446744073709551616 = lo at *
    generalize (p + f (i + k) + c) / 18446744073709551616 = hi' at *
    have h5 : P * (lo + 18446744073709551616 * hi') = P * (p + f (i + k) + c) := by rw [h3]
    rw [Nat.mul_add, Nat.mul_add, Nat.mul_add] at h5
    omega
/-- What Out has behind a row's four steps, the carry led on to word k. -/
structure OutC (m i k q B : Nat) (f : Nat → Nat) (c : Nat) : Prop where
  lt : ∀ j, f j < 18446744073709551616
  cl : c < 18446744073709551616
  eq : wval f 8 + 2 ^ (64 * k) * c = B + 2 ^ (64 * i) * q * m
theorem OutI.led {m i q B c : Nat} {f : Nat → Nat} (h : OutI m i 4 q B f c) (hm : m < 2 ^ 256) : OutC m i (i + 4) q B f c := by
  refine ⟨h.lt, h.cl, ?_⟩
  have h2 := h.eq
  rwa [show 64 * 4 = 256 from rfl, Nat.mod_eq_of_lt hm] at h2
theorem OutC.step {m i k q B c : Nat} {f : Nat → Nat} (h : OutC m i k q B f c) (hk : k < 8) :
    OutC m i (k + 1) q B (upd f k ((f k + c) % 18446744073709551616)) ((f k + c) / 18446744073709551616) := by
  have h0 := h.lt k
  have h9 := h.cl
  refine ⟨fun j => ?_, by omega, ?_⟩
  · unfold upd; split
    · omega
    · exact h.lt j
  · have h1 := upd_wval f k ((f k + c) % 18446744073709551616) 8 hk
    have h2 := h.eq
    have h3 : (f k + c) % 18446744073709551616 + 18446744073709551616 * ((f k + c) / 18446744073709551616) = f k + c := Nat.mod_add_div _ _
    rw [show 64 * (k + 1) = 64 * k + 64 by omega, Nat.pow_add, Nat.mul_assoc, show (2 : Nat) ^ 64 = 18446744073709551616 from rfl]
    generalize 2 ^ (64 * k) = P at *
    generalize (f k + c) % 18446744073709551616 = lo at *
    generalize (f k + c) / 18446744073709551616 = hi' at *
    have h5 : P * (lo + 18446744073709551616 * hi') = P * (f k + c) := by rw [h3]
    rw [Nat.mul_add, Nat.mul_add] at h5
    omega
/-- What Out has behind i rows: the wide number, over. -/
structure OutR (m T i : Nat) (f : Nat → Nat) (o : Nat) : Prop where
  lt : ∀ j, f j < 18446744073709551616
  low : wval f 8 % 2 ^ (64 * i) = 0
  eq : ∃ Q, Q < 2 ^ (64 * i) ∧ wval f 8 + 2 ^ 256 * 2 ^ 256 * o = T + m * Q
theorem OutR.step {m T i q o c v : Nat} {f f1 : Nat → Nat} (h : OutR m T i f o) (hi : i < 4) (hv : (v * m + 1) % 18446744073709551616 = 0) (hq : q = f i * v % 18446744073709551616) (hc : OutC m i 8 q (wval f 8) f1 c) : OutR m T (i + 1) f1 (o + c) := by
  obtain ⟨Q, hQ, hE⟩ := h.eq
  have hqlt : q < 18446744073709551616 := by omega
  have e := hc.eq
  refine ⟨hc.lt, ?_, Q + 2 ^ (64 * i) * q, ?_, ?_⟩
  · have hw : wd (wval f 8) i = f i := wd_wval (fun j _ => h.lt j) i (by omega)
    have hd : wval f 8 = 2 ^ (64 * i) * (wval f 8 / 2 ^ (64 * i)) := by
      have := Nat.mod_add_div (wval f 8) (2 ^ (64 * i)); rw [h.low] at this; omega
    have hw2 : wval f 8 / 2 ^ (64 * i) % 18446744073709551616 = f i := hw
    have e2 : (wval f1 8 + 2 ^ (64 * 8) * c) % 2 ^ (64 * (i + 1)) = 0 := by
      rw [e, hd, Nat.mul_assoc, ← Nat.mul_add, show 64 * (i + 1) = 64 * i + 64 by omega, Nat.pow_add, Nat.mul_mod_mul_left, show (2 : Nat) ^ 64 = 18446744073709551616 from rfl, Nat.add_mod, hw2, hq]
      rw [Nat.mod_mul_mod, show f i * v * m = f i * (v * m) from Nat.mul_assoc _ _ _]
      rw [Nat.add_mod_mod, show f i + f i * (v * m) = f i * (v * m + 1) by rw [Nat.mul_add, Nat.mul_one, Nat.add_comm], Nat.mul_mod, hv, Nat.mul_zero, Nat.zero_mod, Nat.mul_zero]
    rw [show 64 * 8 = 64 * (i + 1) + 64 * (7 - i) by omega, Nat.pow_add, Nat.mul_assoc, Nat.add_mul_mod_self_left] at e2
    exact e2
  · have h1 : 2 ^ (64 * i) * q + 2 ^ (64 * i) ≤ 2 ^ (64 * i) * 18446744073709551616 := by
      rw [← Nat.mul_succ]; exact Nat.mul_le_mul_left _ hqlt
    rw [show 64 * (i + 1) = 64 * i + 64 by omega, Nat.pow_add]
    omega
  · rw [two_pow 256 256 (64 * 8) rfl] at e
    have h1 : 2 ^ (64 * i) * q * m = m * (2 ^ (64 * i) * q) := Nat.mul_comm _ _
    rw [Nat.mul_add, Nat.mul_add]
    omega
/-- What Out answers: t / 2 ^ 256 in the ring. -/
def outN (m T : Nat) : Nat := T * ((m + 1) / 2) ^ 256 % m
theorem out_mod {m T R Q : Nat} (hm : m % 2 = 1) (h : 2 ^ 256 * R = T + m * Q) : R % m = outN m T := by
  unfold outN
  generalize hh : (m + 1) / 2 = t
  have h2 : 2 * t = m + 1 := by omega
  have h3 : (2 * t) ^ 256 % m = 1 % m := by rw [Nat.pow_mod, h2, Nat.add_mod_left, ← Nat.pow_mod, Nat.one_pow]
  have h4 : R % m = R * (2 * t) ^ 256 % m := by rw [Nat.mul_mod, h3, ← Nat.mul_mod, Nat.mul_one]
  rw [h4, Nat.mul_pow, ← Nat.mul_assoc, Nat.mul_comm R, h, Nat.add_mul, Nat.mul_assoc m, Nat.add_mul_mod_self_left]
theorem OutR.done {m T o : Nat} {f : Nat → Nat} (h : OutR m T 4 f o) (hT : T < 2 ^ 256 * 2 ^ 256) (hm : m < 2 ^ 256) (hm2 : m % 2 = 1) :
    (o = 0 ∧ (wval f 8 / 2 ^ 256) % m = outN m T) ∨ (o = 1 ∧ subN (wval f 8 / 2 ^ 256) m % m = outN m T) := by
  obtain ⟨Q, hQ, hE⟩ := h.eq
  have hl := h.low
  have hw := wval_lt (f := f) (k := 8) fun i _ => h.lt i
  rw [two_pow 256 256 (64 * 8) rfl] at hw
  rw [show 64 * 4 = 256 from rfl] at hQ hl
  unfold subN
  have key := @out_mod m T (wval f 8 / 2 ^ 256 + 2 ^ 256 * o) Q hm2
  have hP : 0 < (2 : Nat) ^ 256 := Nat.pow_pos (by omega)
  generalize (2 : Nat) ^ 256 = P at *
  have hd := Nat.mod_add_div (wval f 8) P
  rw [hl, Nat.zero_add] at hd
  generalize wval f 8 / P = z at *
  rw [← hd] at hw hE
  have hz : z < P := Nat.lt_of_mul_lt_mul_left hw
  have hE2 : P * (z + P * o) = T + m * Q := by rw [Nat.mul_add, ← Nat.mul_assoc]; exact hE
  have hk := key hE2
  have hmQ : m * Q ≤ m * P := Nat.mul_le_mul_left _ (Nat.le_of_lt hQ)
  have hlt : P * (z + P * o) < P * (P + m) := by rw [hE2, Nat.mul_add P P m, Nat.mul_comm P m]; omega
  have hr : z + P * o < P + m := Nat.lt_of_mul_lt_mul_left hlt
  match o, hk, hr with
  | 0, hk, _ => exact .inl ⟨rfl, by rwa [Nat.mul_zero, Nat.add_zero] at hk⟩
  | 1, hk, hr =>
    rw [Nat.mul_one] at hk hr
    refine .inr ⟨rfl, ?_⟩
    rw [Nat.mod_eq_of_lt (show z + P - m < P by omega), ← hk]
    exact (Nat.mod_eq_sub_mod (show z + P ≥ m by omega)).symm
  | o + 2, _, hr => rw [Nat.mul_add] at hr; omega
end Go.Proofs.Ytgdiokklfihfoaa
