/- Prime numbers: Fermat's law, Pocklington's law, and two primes. No program is named here. -/
import Derived.Test.YtdlmamnnamlleaaDoorFdP
namespace Go.Proofs.YtdlmamnnamlleaaDoor
/-- A prime number. -/
def Pr (p : Nat) : Prop := 1 < p ∧ ∀ d, d ∣ p → d = 1 ∨ d = p
theorem Pr.cop {p n : Nat} (h : Pr p) (hn : ¬ p ∣ n) : Nat.Coprime p n := by
  rcases h.2 _ (Nat.gcd_dvd_left p n) with h1 | h1
  · exact h1
  · exact absurd (h1 ▸ Nat.gcd_dvd_right p n) hn
theorem Pr.dvd {p m n : Nat} (h : Pr p) (hd : p ∣ m * n) : p ∣ m ∨ p ∣ n := by
  by_cases hm : p ∣ m
  · exact .inl hm
  · exact .inr ((h.cop hm).dvd_of_dvd_mul_left hd)
/-! Binomials. -/
def ch : Nat → Nat → Nat
  | _, 0 => 1
  | 0, _ + 1 => 0
  | n + 1, k + 1 => ch n k + ch n (k + 1)
theorem ch_zero (n : Nat) : ch n 0 = 1 := by cases n <;> rfl
theorem ch_over : ∀ n k, n < k → ch n k = 0
  | 0, k + 1, _ => rfl
  | n + 1, k + 1, h => by rw [ch, ch_over n k (by omega), ch_over n (k + 1) (by omega)]
theorem ch_self : ∀ n, ch n n = 1
  | 0 => rfl
  | n + 1 => by rw [ch, ch_self n, ch_over n (n + 1) (by omega)]
theorem ch_mul : ∀ n k, (k + 1) * ch (n + 1) (k + 1) = (n + 1) * ch n k
  | 0, 0 => rfl
  | 0, k + 1 => by simp [ch]
  | n + 1, 0 => by
    have h := ch_mul n 0
    have e : ch (n + 1 + 1) (0 + 1) = ch (n + 1) 0 + ch (n + 1) (0 + 1) := rfl
    rw [e, ch_zero]
    rw [ch_zero] at h
    omega
  | n + 1, j + 1 => by
    have h1 := ch_mul n j
    have h2 := ch_mul n (j + 1)
    have e1 : ch (n + 1) (j + 1) = ch n j + ch n (j + 1) := rfl
    have e2 : ch (n + 1 + 1) (j + 1 + 1) = ch (n + 1) (j + 1) + ch (n + 1) (j + 1 + 1) := rfl
    rw [e2]
    generalize ch (n + 1) (j + 1 + 1) = x at *
    generalize ch (n + 1) (j + 1) = y at *
    generalize ch n j = z at *
    generalize ch n (j + 1) = t at *
    grind
def bs (n a : Nat) : Nat → Nat
  | 0 => 0
  | k + 1 => bs n a k + ch n k * a ^ k
theorem bs_succ (n a : Nat) : ∀ k, bs (n + 1) a (k + 1) = a * bs n a k + bs n a (k + 1)
  | 0 => by simp [bs, ch_zero]
  | k + 1 => by
    have ih := bs_succ n a k
    have e1 : bs (n + 1) a (k + 1 + 1) = bs (n + 1) a (k + 1) + ch (n + 1) (k + 1) * a ^ (k + 1) := rfl
    have e2 : bs n a (k + 1 + 1) = bs n a (k + 1) + ch n (k + 1) * a ^ (k + 1) := rfl
    have e3 : bs n a (k + 1) = bs n a k + ch n k * a ^ k := rfl
    have e4 : ch (n + 1) (k + 1) = ch n k + ch n (k + 1) := rfl
    rw [e1, ih, e2, e4, Nat.pow_succ]
    generalize ch n k = x at *
    generalize ch n (k + 1) = y at *
    generalize a ^ k = z at *
    generalize bs n a (k + 1) = s at *
    generalize bs n a k = t at *
    grind
theorem binom (a : Nat) : ∀ n, (a + 1) ^ n = bs n a (n + 1)
  | 0 => by simp [bs, ch]
  | n + 1 => by
    rw [Nat.pow_succ, binom a n, bs_succ]
    have e : bs n a (n + 1 + 1) = bs n a (n + 1) + ch n (n + 1) * a ^ (n + 1) := rfl
    rw [e, ch_over n (n + 1) (by omega), Nat.zero_mul, Nat.mul_add, Nat.mul_one, Nat.mul_comm]
    rfl
theorem ch_dvd {p k : Nat} (h : Pr p) (h0 : 0 < k) (hk : k < p) : p ∣ ch p k := by
  obtain ⟨n, rfl⟩ : ∃ n, p = n + 1 := ⟨p - 1, by omega⟩
  obtain ⟨j, rfl⟩ : ∃ j, k = j + 1 := ⟨k - 1, by omega⟩
  have h1 := ch_mul n j
  have h2 : n + 1 ∣ (j + 1) * ch (n + 1) (j + 1) := ⟨_, h1⟩
  rcases h.dvd h2 with h3 | h3
  · exact absurd (Nat.le_of_dvd (by omega) h3) (by omega)
  · exact h3
theorem bs_mod {p : Nat} (h : Pr p) (a : Nat) : ∀ k, k < p → ∃ m, bs p a (k + 1) = 1 + p * m
  | 0, _ => ⟨0, by simp [bs, ch_zero]⟩
  | k + 1, hk => by
    obtain ⟨m, hm⟩ := bs_mod h a k (by omega)
    obtain ⟨c, hc⟩ := ch_dvd h (k := k + 1) (by omega) hk
    refine ⟨m + c * a ^ (k + 1), ?_⟩
    have e : bs p a (k + 1 + 1) = bs p a (k + 1) + ch p (k + 1) * a ^ (k + 1) := rfl
    rw [e, hm, hc, Nat.mul_add, Nat.mul_assoc, Nat.add_assoc]
/-- Fermat's law. -/
theorem fermat {p : Nat} (h : Pr p) : ∀ a, a ^ p % p = a % p
  | 0 => by rw [Nat.zero_pow (by have := h.1; omega)]
  | a + 1 => by
    have hp := h.1
    obtain ⟨m, hm⟩ := bs_mod h a (p - 1) (by omega)
    have e : bs p a (p + 1) = bs p a p + ch p p * a ^ p := rfl
    rw [show p - 1 + 1 = p by omega] at hm
    rw [binom, e, hm, ch_self, Nat.one_mul, Nat.add_right_comm, Nat.add_mul_mod_self_left, Nat.add_mod, fermat h a, ← Nat.add_mod, Nat.add_comm]
theorem fermat1 {p a : Nat} (h : Pr p) (ha : ¬ p ∣ a) : a ^ (p - 1) % p = 1 := by
  have hp := h.1
  have h1 := fermat h a
  have hpos : 0 < a := by
    rcases Nat.eq_zero_or_pos a with h0 | h0
    · exact absurd (h0 ▸ Nat.dvd_zero p) ha
    · exact h0
  have h2 : a ^ p = a * a ^ (p - 1) := by
    conv => lhs; rw [show p = p - 1 + 1 by omega, Nat.pow_succ]
    exact Nat.mul_comm _ _
  have h3 : 0 < a ^ (p - 1) := Nat.pow_pos hpos
  have h4 : p ∣ a * (a ^ (p - 1) - 1) := by
    rw [Nat.mul_sub, Nat.mul_one, ← h2]
    exact Nat.dvd_of_mod_eq_zero (Nat.sub_mod_eq_zero_of_mod_eq h1)
  have h5 : p ∣ a ^ (p - 1) - 1 := (h.cop ha).dvd_of_dvd_mul_left h4
  obtain ⟨k, hk⟩ := h5
  rw [show a ^ (p - 1) = 1 + p * k by omega, Nat.add_mul_mod_self_left, Nat.mod_eq_of_lt hp]
/-! Pocklington's law. -/
theorem pow_gcd (p c m n : Nat) : c ^ m % p = 1 % p → c ^ n % p = 1 % p → c ^ Nat.gcd m n % p = 1 % p := by
  induction m, n using Nat.gcd.induction with
  | H0 n => intro _ h; rwa [Nat.gcd_zero_left]
  | H1 m n hm ih =>
    intro h1 h2
    rw [Nat.gcd_rec]
    refine ih ?_ h1
    have h3 : c ^ (m * (n / m)) % p = 1 % p := by rw [Nat.pow_mul, Nat.pow_mod, h1, ← Nat.pow_mod, Nat.one_pow]
    have h4 : c ^ n = c ^ (m * (n / m)) * c ^ (n % m) := by rw [← Nat.pow_add, Nat.div_add_mod]
    rw [h4, Nat.mul_mod, h3, ← Nat.mul_mod, Nat.one_mul] at h2
    exact h2
theorem pock1 {N s m a p : Nat} (hs : Pr s) (hN : N - 1 = s * m) (hN1 : 1 < N) (h1 : a ^ (N - 1) % N = 1) (h2 : Nat.gcd (a ^ m % N + N - 1) N = 1) (hp : Pr p) (hd : p ∣ N) : s ∣ p - 1 := by
  have hp1 := hp.1
  refine Classical.byContradiction fun hn => ?_
  have hg := hs.cop hn
  have e1 : (a ^ m) ^ s % p = 1 % p := by
    rw [← Nat.pow_mul, Nat.mul_comm, ← hN, ← Nat.mod_mod_of_dvd _ hd, h1]
  have hc : ¬ p ∣ a ^ m := fun hc => by
    have h3 : p ∣ (a ^ m) ^ s := Nat.dvd_trans hc ⟨(a ^ m) ^ (s - 1), by rw [Nat.mul_comm, ← Nat.pow_succ]; congr 1; have := hs.1; omega⟩
    rw [Nat.mod_eq_zero_of_dvd h3, Nat.mod_eq_of_lt hp1] at e1
    omega
  have e2 : (a ^ m) ^ (p - 1) % p = 1 % p := by rw [fermat1 hp hc, Nat.mod_eq_of_lt hp1]
  have e3 := pow_gcd p (a ^ m) s (p - 1) e1 e2
  rw [hg, Nat.pow_one] at e3
  have h3 : p ∣ a ^ m % N + N - 1 := by
    obtain ⟨k, hk⟩ := hd
    have h4 : (a ^ m % N) % p = 1 % p := by rw [Nat.mod_mod_of_dvd _ ⟨k, hk⟩, e3]
    rw [Nat.mod_eq_of_lt hp1] at h4
    refine Nat.dvd_of_mod_eq_zero ?_
    have h5 := Nat.mod_add_div (a ^ m % N) p
    rw [h4] at h5
    rw [show a ^ m % N + N - 1 = p * (a ^ m % N / p) + p * k by omega, ← Nat.mul_add, Nat.mul_mod_right]
  have h4 := Nat.dvd_gcd h3 hd
  rw [h2] at h4
  have := Nat.le_of_dvd (by omega) h4
  omega
theorem exists_pr : ∀ n, 1 < n → ∃ p, Pr p ∧ p ∣ n := fun n => by
  induction n using Nat.strongRecOn with
  | ind n ih =>
    intro hn
    by_cases h : ∃ d, d ∣ n ∧ d ≠ 1 ∧ d ≠ n
    · obtain ⟨d, hd, h1, h2⟩ := h
      have hle := Nat.le_of_dvd (by omega) hd
      have h0 : d ≠ 0 := fun h0 => by subst h0; have := Nat.eq_zero_of_zero_dvd hd; omega
      obtain ⟨p, hp, hpd⟩ := ih d (by omega) (by omega)
      exact ⟨p, hp, Nat.dvd_trans hpd hd⟩
    · refine ⟨n, ⟨hn, fun d hd => ?_⟩, Nat.dvd_refl n⟩
      refine Classical.byContradiction fun hc => h ⟨d, hd, fun h => hc (.inl h), fun h => hc (.inr h)⟩
theorem pr_of {N F : Nat} (hN : 1 < N) (hF : N < (F + 1) * (F + 1)) (h : ∀ p, Pr p → p ∣ N → F < p) : Pr N := by
  refine ⟨hN, fun d hd => ?_⟩
  refine Classical.byContradiction fun hc => ?_
  have hd1 : d ≠ 1 := fun h => hc (.inl h)
  have hdN : d ≠ N := fun h => hc (.inr h)
  obtain ⟨e, he⟩ := hd
  have hd0 : d ≠ 0 := fun h0 => by subst h0; rw [Nat.zero_mul] at he; omega
  have he1 : e ≠ 1 := fun h1 => by subst h1; rw [Nat.mul_one] at he; exact hdN he.symm
  have he0 : e ≠ 0 := fun h0 => by subst h0; rw [Nat.mul_zero] at he; omega
  obtain ⟨p, hp, hpd⟩ := exists_pr d (by omega)
  obtain ⟨q, hq, hqe⟩ := exists_pr e (by omega)
  have l1 := h p hp (he ▸ Nat.dvd_trans hpd (Nat.dvd_mul_right d e))
  have l2 := h q hq (he ▸ Nat.dvd_trans hqe (Nat.dvd_mul_left e d))
  have l3 := Nat.le_of_dvd (by omega) hpd
  have l4 := Nat.le_of_dvd (by omega) hqe
  have l5 : (F + 1) * (F + 1) ≤ d * e := Nat.mul_le_mul (by omega) (by omega)
  omega
theorem pr_small {N k : Nat} (hN : 1 < N) (hk : N < (k + 1) * (k + 1)) (h : (List.range (k + 1)).all (fun d => decide (d ≤ 1) || N % d != 0) = true) : Pr N := by
  refine pr_of hN hk fun p hp hd => ?_
  refine Classical.byContradiction fun hc => ?_
  have h1 := List.all_eq_true.1 h p (List.mem_range.2 (by omega))
  have hp1 := hp.1
  rw [decide_eq_false (by omega), Bool.false_or, bne_iff_ne] at h1
  exact h1 (Nat.mod_eq_zero_of_dvd hd)
/-! Powers, by squaring. -/
def pwm (N a : Nat) : Nat → Nat → Nat
  | 0, _ => 1
  | f + 1, n => if n % 2 = 0 then (pwm N a f (n / 2)) ^ 2 % N else ((pwm N a f (n / 2)) ^ 2 % N) * a % N
theorem pwm_is (N a : Nat) : ∀ f n, n < 2 ^ f → pwm N a f n % N = a ^ n % N
  | 0, n, h => by
    have : n = 0 := by rw [Nat.pow_zero] at h; omega
    subst this; rfl
  | f + 1, n, h => by
    have ih := pwm_is N a f (n / 2) (by rw [Nat.pow_succ] at h; omega)
    unfold pwm
    split
    · rename_i h0
      rw [Nat.mod_mod, Nat.pow_mod, ih, ← Nat.pow_mod, ← Nat.pow_mul, show n / 2 * 2 = n by omega]
    · rename_i h0
      rw [Nat.mod_mod, Nat.mod_mul_mod, Nat.mul_mod, Nat.pow_mod, ih, ← Nat.pow_mod, ← Nat.mul_mod, ← Nat.pow_mul, ← Nat.pow_succ, show (n / 2 * 2).succ = n by omega]
theorem pock_of {N s m p : Nat} (a : Nat) (hs : Pr s) (hN : (N - 1 == s * m && decide (1 < N) && decide (N < 2 ^ 256) && pwm N a 256 (N - 1) % N == 1 && Nat.gcd (pwm N a 256 m % N + N - 1) N == 1 && decide (m < 2 ^ 256)) = true) (hp : Pr p) (hd : p ∣ N) : s ∣ p - 1 := by
  simp only [Bool.and_eq_true, beq_iff_eq, decide_eq_true_eq] at hN
  obtain ⟨⟨⟨⟨⟨h1, h2⟩, h3⟩, h4⟩, h5⟩, h6⟩ := hN
  rw [pwm_is N a 256 (N - 1) (by omega)] at h4
  rw [pwm_is N a 256 m h6] at h5
  exact pock1 hs h1 h2 h4 h5 hp hd
theorem pr_one {N s : Nat} (hN : 1 < N) (hF : N < (s + 1) * (s + 1)) (h : ∀ p, Pr p → p ∣ N → s ∣ p - 1) : Pr N := pr_of hN hF fun p hp hd => by
  have := hp.1
  have := Nat.le_of_dvd (by omega) (h p hp hd)
  omega
theorem pr_two {N s t : Nat} (hN : 1 < N) (hc : Nat.gcd s t = 1) (hF : N < (s * t + 1) * (s * t + 1)) (h1 : ∀ p, Pr p → p ∣ N → s ∣ p - 1) (h2 : ∀ p, Pr p → p ∣ N → t ∣ p - 1) : Pr N := pr_of hN hF fun p hp hd => by
  have := hp.1
  have := Nat.le_of_dvd (by omega) (Nat.Coprime.mul_dvd_of_dvd_of_dvd hc (h1 p hp hd) (h2 p hp hd))
  omega
theorem pr_991 : Pr 991 := pr_small (k := 31) (by decide) (by decide) (by decide +kernel)
theorem pr_103 : Pr 103 := pr_small (k := 10) (by decide) (by decide) (by decide +kernel)
theorem pr_8574133 : Pr 8574133 := pr_two (s := 991) (t := 103) (by decide +kernel) (by decide +kernel) (by decide +kernel) (fun _ hp hd => pock_of (s := 991) (m := 8652) 2 pr_991 (by decide +kernel) hp hd) (fun _ hp hd => pock_of (s := 103) (m := 83244) 2 pr_103 (by decide +kernel) hp hd)
theorem pr_127 : Pr 127 := pr_small (k := 11) (by decide) (by decide) (by decide +kernel)
theorem pr_1919519569386763 : Pr 1919519569386763 := pr_two (s := 8574133) (t := 127) (by decide +kernel) (by decide +kernel) (by decide +kernel) (fun _ hp hd => pock_of (s := 8574133) (m := 223873314) 2 pr_8574133 (by decide +kernel) hp hd) (fun _ hp hd => pock_of (s := 127) (m := 15114327318006) 2 pr_127 (by decide +kernel) hp hd)
theorem pr_569003 : Pr 569003 := pr_small (k := 754) (by decide) (by decide) (by decide +kernel)
theorem pr_2773320623 : Pr 2773320623 := pr_one (s := 569003) (by decide +kernel) (by decide +kernel) (fun _ hp hd => pock_of (s := 569003) (m := 4874) 2 pr_569003 (by decide +kernel) hp hd)
theorem pr_72106336199 : Pr 72106336199 := pr_one (s := 2773320623) (by decide +kernel) (by decide +kernel) (fun _ hp hd => pock_of (s := 2773320623) (m := 26) 2 pr_2773320623 (by decide +kernel) hp hd)
theorem prb_543864801 : Pr 75445702479781427272750846543864801 := pr_two (s := 1919519569386763) (t := 72106336199) (by decide +kernel) (by decide +kernel) (by decide +kernel) (fun _ hp hd => pock_of (s := 1919519569386763) (m := 39304471641247389600) 2 pr_1919519569386763 (by decide +kernel) hp hd) (fun _ hp hd => pock_of (s := 72106336199) (m := 1046311689884858398375200) 2 pr_72106336199 (by decide +kernel) hp hd)
theorem pr_430751 : Pr 430751 := pr_small (k := 656) (by decide) (by decide) (by decide +kernel)
theorem pr_4153 : Pr 4153 := pr_small (k := 64) (by decide) (by decide) (by decide +kernel)
theorem pr_31757755568855353 : Pr 31757755568855353 := pr_two (s := 430751) (t := 4153) (by decide +kernel) (by decide +kernel) (by decide +kernel) (fun _ hp hd => pock_of (s := 430751) (m := 73726481352) 2 pr_430751 (by decide +kernel) hp hd) (fun _ hp hd => pock_of (s := 4153) (m := 7646943310584) 2 pr_4153 (by decide +kernel) hp hd)
theorem prb_754340907 : Pr 74058212732561358302231226437062788676166966415465897661863160754340907 := pr_two (s := 75445702479781427272750846543864801) (t := 31757755568855353) (by decide +kernel) (by decide +kernel) (by decide +kernel) (fun _ hp hd => pock_of (s := 75445702479781427272750846543864801) (m := 981609426360740691344999861639072106) 2 prb_543864801 (by decide +kernel) hp hd) (fun _ hp hd => pock_of (s := 31757755568855353) (m := 2331972502653487852620185443007392165117953542933313402) 2 pr_31757755568855353 (by decide +kernel) hp hd)
theorem prb_564819949 : Pr 57896044618658097711785492504343953926634992332820282019728792003956564819949 := pr_one (s := 74058212732561358302231226437062788676166966415465897661863160754340907) (by decide +kernel) (by decide +kernel) (fun _ hp hd => pock_of (s := 74058212732561358302231226437062788676166966415465897661863160754340907) (m := 781764) 2 prb_754340907 (by decide +kernel) hp hd)
theorem fP_pr : Pr fP := (show fP = 57896044618658097711785492504343953926634992332820282019728792003956564819949 by decide +kernel) ▸ prb_564819949
/-- The order of the group. -/
def fL : Nat := 2 ^ 252 + 27742317777372353535851937790883648493
theorem pr_2551 : Pr 2551 := pr_small (k := 50) (by decide) (by decide) (by decide +kernel)
theorem pr_1224481 : Pr 1224481 := pr_one (s := 2551) (by decide +kernel) (by decide +kernel) (fun _ hp hd => pock_of (s := 2551) (m := 480) 2 pr_2551 (by decide +kernel) hp hd)
theorem pr_531581 : Pr 531581 := pr_small (k := 729) (by decide) (by decide) (by decide +kernel)
theorem pr_1257559732178653 : Pr 1257559732178653 := pr_two (s := 1224481) (t := 531581) (by decide +kernel) (by decide +kernel) (by decide +kernel) (fun _ hp hd => pock_of (s := 1224481) (m := 1027014492) 2 pr_1224481 (by decide +kernel) hp hd) (fun _ hp hd => pock_of (s := 531581) (m := 2365697292) 2 pr_531581 (by decide +kernel) hp hd)
theorem pr_4434155615661930479 : Pr 4434155615661930479 := pr_one (s := 1257559732178653) (by decide +kernel) (by decide +kernel) (fun _ hp hd => pock_of (s := 1257559732178653) (m := 3526) 2 pr_1257559732178653 (by decide +kernel) hp hd)
theorem prb_258510691 : Pr 172054593956031949258510691 := pr_one (s := 4434155615661930479) (by decide +kernel) (by decide +kernel) (fun _ hp hd => pock_of (s := 4434155615661930479) (m := 38802110) 2 pr_4434155615661930479 (by decide +kernel) hp hd)
theorem prb_130476339 : Pr 19757330305831588566944191468367130476339 := pr_one (s := 172054593956031949258510691) (by decide +kernel) (by decide +kernel) (fun _ hp hd => pock_of (s := 172054593956031949258510691) (m := 114831751082918) 2 prb_258510691 (by decide +kernel) hp hd)
theorem prb_826668747 : Pr 276602624281642239937218680557139826668747 := pr_one (s := 19757330305831588566944191468367130476339) (by decide +kernel) (by decide +kernel) (fun _ hp hd => pock_of (s := 19757330305831588566944191468367130476339) (m := 14) 2 prb_130476339 (by decide +kernel) hp hd)
theorem prb_454250989 : Pr 7237005577332262213973186563042994240857116359379907606001950938285454250989 := pr_one (s := 276602624281642239937218680557139826668747) (by decide +kernel) (by decide +kernel) (fun _ hp hd => pock_of (s := 276602624281642239937218680557139826668747) (m := 26163907866482859529727157400808004) 2 prb_826668747 (by decide +kernel) hp hd)
theorem fL_pr : Pr fL := (show fL = 7237005577332262213973186563042994240857116359379907606001950938285454250989 by decide +kernel) ▸ prb_454250989
theorem pow_P {u : Nat} (h : u % fP ≠ 0) : u ^ (fP - 1) % fP = 1 := fermat1 fP_pr fun hd => h (Nat.mod_eq_zero_of_dvd hd)
end Go.Proofs.YtdlmamnnamlleaaDoor
