/- The document's numbers modulo 2^255 - 19, in plain Lean: sixteen digits, base 65536. No program is named here. -/
import Derived.Test.YtdlmamnnamlleaaDoorFdP
namespace Go.Proofs.YtdlmamnnamlleaaDoor
/-- The value of the first n digits. -/
def dval (f : Nat → Nat) : Nat → Nat
  | 0 => 0
  | n + 1 => dval f n + 65536 ^ n * f n
/-- Digit i. -/
def dgt (n i : Nat) : Nat := n / 65536 ^ i % 65536
theorem dgt_lt (n i : Nat) : dgt n i < 65536 := Nat.mod_lt _ (by omega)
theorem dval_dgt (n k : Nat) : dval (dgt n) k = n % 65536 ^ k := by
  induction k with
  | zero => simp [dval, Nat.mod_one]
  | succ k ih => rw [dval, ih, Nat.pow_succ, Nat.mod_mul]; rfl
theorem dval_lt {f : Nat → Nat} {k : Nat} (h : ∀ i < k, f i < 65536) : dval f k < 65536 ^ k := by
  induction k with
  | zero => simp [dval]
  | succ k ih =>
    have h1 := ih fun i hi => h i (by omega)
    have h2 := h k (by omega)
    rw [dval, Nat.pow_succ]
    have h3 : 65536 ^ k * f k ≤ 65536 ^ k * 65535 := Nat.mul_le_mul_left _ (by omega)
    generalize 65536 ^ k = P at *
    omega
theorem dval_congr {f g : Nat → Nat} {k : Nat} (h : ∀ i < k, f i = g i) : dval f k = dval g k := by
  induction k with
  | zero => rfl
  | succ k ih => rw [dval, dval, ih fun i hi => h i (by omega), h k (by omega)]
theorem dgt_dval {f : Nat → Nat} {k : Nat} (h : ∀ i < k, f i < 65536) : ∀ i < k, dgt (dval f k) i = f i := by
  induction k with
  | zero => intro i hi; omega
  | succ k ih =>
    intro i hi
    have h1 := dval_lt (f := f) (k := k) fun j hj => h j (by omega)
    unfold dgt
    rw [dval]
    by_cases e : i = k
    · subst e
      rw [Nat.add_mul_div_left _ _ (Nat.pow_pos (by omega)), Nat.div_eq_of_lt h1, Nat.zero_add, Nat.mod_eq_of_lt (h i hi)]
    · have hik : i < k := by omega
      have h2 := ih (fun j hj => h j (by omega)) i hik
      unfold dgt at h2
      rw [← h2]
      obtain ⟨m, rfl⟩ : ∃ m, k = i + 1 + m := ⟨k - i - 1, by omega⟩
      rw [show 65536 ^ (i + 1 + m) * f (i + 1 + m) = 65536 ^ i * (65536 * (65536 ^ m * f (i + 1 + m))) by rw [Nat.pow_add, Nat.pow_succ, Nat.mul_assoc, Nat.mul_assoc], Nat.add_mul_div_left _ _ (Nat.pow_pos (by omega)), Nat.add_mul_mod_self_left]
theorem dval_le {f : Nat → Nat} {k B : Nat} (h : ∀ i < k, f i ≤ B) : dval f k ≤ B * 65536 ^ k := by
  induction k with
  | zero => simp [dval]
  | succ k ih =>
    have h1 := ih fun i hi => h i (by omega)
    have h3 : 65536 ^ k * f k ≤ 65536 ^ k * B := Nat.mul_le_mul_left _ (h k (by omega))
    rw [dval, Nat.pow_succ, ← Nat.mul_assoc]
    rw [Nat.mul_comm _ B] at h3
    generalize B * 65536 ^ k = P at *
    omega
theorem p16 : (65536 : Nat) ^ 16 = 2 ^ 256 := by decide +kernel

/-! A pass over the digits with a carry. -/
def lcar (f : Nat → Nat) (c : Nat) : Nat → Nat
  | 0 => c
  | k + 1 => (lcar f c k + f k) / 65536
def lout (f : Nat → Nat) (c k : Nat) : Nat := (lcar f c k + f k) % 65536
theorem lout_lt (f : Nat → Nat) (c k : Nat) : lout f c k < 65536 := Nat.mod_lt _ (by omega)
theorem lout_dval (f : Nat → Nat) (c n : Nat) : dval (lout f c) n + 65536 ^ n * lcar f c n = dval f n + c := by
  induction n with
  | zero => simp [dval, lcar]
  | succ n ih =>
    have h5 : lout f c n + 65536 * lcar f c (n + 1) = lcar f c n + f n := by unfold lout; rw [show lcar f c (n + 1) = (lcar f c n + f n) / 65536 from rfl]; omega
    simp only [dval]
    rw [Nat.pow_succ]
    generalize 65536 ^ n = P at *
    have h6 : P * (lout f c n + 65536 * lcar f c (n + 1)) = P * (lcar f c n + f n) := by rw [h5]
    rw [Nat.mul_add, Nat.mul_add] at h6
    rw [Nat.mul_assoc]
    omega
/-- Small enough that nothing runs over. -/
def Tame (f : Nat → Nat) : Prop := ∀ i < 17, f i < 36028797018963968
theorem lcar_le {f : Nat → Nat} {c : Nat} (h : Tame f) (hc : c ≤ 1369094286720630784) : ∀ k ≤ 17, lcar f c k ≤ 1369094286720630784
  | 0, _ => hc
  | k + 1, hk => by
    have h1 := lcar_le h hc k (by omega)
    have h2 := h k (by omega)
    unfold lcar; omega
/-- One pass of least. -/
def lpass (f : Nat → Nat) (i : Nat) : Nat := if i < 16 then lout f (f 16 * 38) i else lcar f (f 16 * 38) 16
def lpassN (f : Nat → Nat) : Nat → Nat → Nat
  | 0 => f
  | k + 1 => lpass (lpassN f k)
theorem lpass_tame {f : Nat → Nat} (h : Tame f) : Tame (lpass f) := by
  intro i hi
  unfold lpass
  split
  · exact Nat.lt_trans (lout_lt _ _ _) (by omega)
  · have h16 := h 16 (by omega)
    have h1 := lcar_le (c := f 16 * 38) h (by omega) 15 (by omega)
    have h2 := h 15 (by omega)
    show (lcar f (f 16 * 38) 15 + f 15) / 65536 < _
    omega
theorem lpassN_tame {f : Nat → Nat} (h : Tame f) : ∀ k, Tame (lpassN f k)
  | 0 => h
  | k + 1 => lpass_tame (lpassN_tame h k)
/-- What a pass does to the value. -/
theorem lpass_val (f : Nat → Nat) : dval (lpass f) 16 + 2 ^ 256 * lpass f 16 = dval f 16 + 38 * f 16 := by
  have h := lout_dval f (f 16 * 38) 16
  rw [p16] at h
  rw [dval_congr (f := lpass f) (g := lout f (f 16 * 38)) (k := 16) fun i hi => by unfold lpass; rw [if_pos hi], show lpass f 16 = lcar f (f 16 * 38) 16 from rfl]
  omega
theorem lpass_low (f : Nat → Nat) : dval (lpass f) 16 < 2 ^ 256 := by
  rw [← p16]
  exact dval_lt fun i hi => by unfold lpass; rw [if_pos hi]; exact lout_lt _ _ _
theorem lpass_mod (f : Nat → Nat) : (dval (lpass f) 16 + 2 ^ 256 * lpass f 16) % fP = (dval f 16 + 2 ^ 256 * f 16) % fP := by rw [lpass_val, fold_P]
theorem lpass_three {f : Nat → Nat} (h : Tame f) : lpassN f 3 16 = 0 ∧ dval (lpassN f 3) 16 % fP = (dval f 16 + 2 ^ 256 * f 16) % fP := by
  have t1 := lpassN_tame h 1
  have m1 := lpass_mod f
  have m2 := lpass_mod (lpassN f 1)
  have m3 := lpass_mod (lpassN f 2)
  have v2 := lpass_val (lpassN f 1)
  have v3 := lpass_val (lpassN f 2)
  have l1 := lpass_low f
  have l2 := lpass_low (lpassN f 1)
  have l3 := lpass_low (lpassN f 2)
  have b1 := t1 16 (by omega)
  rw [show lpass f = lpassN f 1 from rfl] at m1 l1
  rw [show lpass (lpassN f 1) = lpassN f 2 from rfl] at m2 v2 l2
  rw [show lpass (lpassN f 2) = lpassN f 3 from rfl] at m3 v3 l3
  have hQ : 100 * 36028797018963968 < 2 ^ 256 := by decide +kernel
  have hz : lpassN f 3 16 = 0 := by
    generalize lpassN f 3 16 = c3 at *
    generalize lpassN f 2 16 = c2 at *
    generalize lpassN f 1 16 = c1 at *
    generalize (2 : Nat) ^ 256 = Q at *
    have h2 : c2 = 0 ∨ c2 = 1 := by
      rcases Nat.lt_or_ge c2 2 with h | h
      · omega
      · have : Q * 2 ≤ Q * c2 := Nat.mul_le_mul_left _ h
        omega
    rcases Nat.eq_zero_or_pos c3 with h3 | h3
    · exact h3
    · have : Q * 1 ≤ Q * c3 := Nat.mul_le_mul_left _ h3
      rcases h2 with rfl | rfl <;> omega
  refine ⟨hz, ?_⟩
  rw [hz, Nat.mul_zero, Nat.add_zero] at m3
  rw [m3, m2, m1]

/-! Subtraction with a borrow. -/
def dbor (f g : Nat → Nat) : Nat → Nat
  | 0 => 0
  | k + 1 => if f k < g k + dbor f g k then 1 else 0
def ddif (f g : Nat → Nat) (k : Nat) : Nat := if f k < g k + dbor f g k then f k + 65536 - g k - dbor f g k else f k - g k - dbor f g k
theorem dbor_le (f g : Nat → Nat) (k : Nat) : dbor f g k ≤ 1 := by
  cases k with
  | zero => simp [dbor]
  | succ k => unfold dbor; split <;> omega
theorem ddif_lt {f g : Nat → Nat} {k : Nat} (hf : f k < 65536) (hg : g k < 65536) : ddif f g k < 65536 := by
  have := dbor_le f g k
  unfold ddif
  split <;> omega
theorem ddif_dval {f g : Nat → Nat} {n : Nat} (hf : ∀ i < n, f i < 65536) (hg : ∀ i < n, g i < 65536) : dval (ddif f g) n + dval g n = dval f n + 65536 ^ n * dbor f g n := by
  induction n with
  | zero => simp [dval, dbor]
  | succ n ih =>
    have ih := ih (fun i hi => hf i (by omega)) (fun i hi => hg i (by omega))
    have h1 := hf n (by omega)
    have h2 := hg n (by omega)
    have hb := dbor_le f g n
    have h5 : ddif f g n + g n + dbor f g n = f n + 65536 * dbor f g (n + 1) := by
      rw [show dbor f g (n + 1) = if f n < g n + dbor f g n then 1 else 0 from rfl]
      unfold ddif
      split <;> omega
    simp only [dval]
    rw [Nat.pow_succ]
    generalize 65536 ^ n = P at *
    have h6 : P * (ddif f g n + g n + dbor f g n) = P * (f n + 65536 * dbor f g (n + 1)) := by rw [h5]
    rw [Nat.mul_add, Nat.mul_add, Nat.mul_add] at h6
    rw [Nat.mul_assoc]
    omega
/-- The modulus, digit by digit. -/
def pdig (i : Nat) : Nat := if i = 0 then 65517 else if i = 15 then 32767 else 65535
theorem pdig_lt (i : Nat) : pdig i < 65536 := by unfold pdig; split <;> (try split) <;> omega
theorem pdig_val : dval pdig 16 = fP := by decide +kernel
theorem less_P {v : Nat} (hv : v < 2 ^ 256) : (v < fP → dbor (dgt v) pdig 16 = 1) ∧ (fP ≤ v → dbor (dgt v) pdig 16 = 0 ∧ dval (ddif (dgt v) pdig) 16 = v - fP) := by
  have h := ddif_dval (f := dgt v) (g := pdig) (n := 16) (fun i _ => dgt_lt v i) (fun i _ => pdig_lt i)
  have hl := dval_lt (f := ddif (dgt v) pdig) (k := 16) (fun i _ => ddif_lt (dgt_lt v i) (pdig_lt i))
  rw [dval_dgt, pdig_val, p16, Nat.mod_eq_of_lt hv] at h
  rw [p16] at hl
  have hb := dbor_le (dgt v) pdig 16
  have hp := P_lt
  generalize dbor (dgt v) pdig 16 = b at *
  generalize (2 : Nat) ^ 256 = Q at *
  generalize fP = P at *
  have : b = 0 ∨ b = 1 := by omega
  rcases this with rfl | rfl
  · exact ⟨fun h => by omega, fun _ => ⟨rfl, by omega⟩⟩
  · exact ⟨fun _ => rfl, fun h => by omega⟩
end Go.Proofs.YtdlmamnnamlleaaDoor
