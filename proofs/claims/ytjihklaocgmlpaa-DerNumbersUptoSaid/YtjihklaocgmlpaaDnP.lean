/- Numbers as bytes and as signs, in plain Lean: the two ways to write them, the two ways to read them, are alike. No program is named here. -/
import Derived.Test.YtjihklaocgmlpaaLimb5
namespace Go.Proofs.Ytjihklaocgmlpaa
/-- The last n bytes of a number, the highest first. -/
def beB (a : Nat) : Nat → List UInt8
  | 0 => []
  | n + 1 => UInt8.ofNat (byt a n) :: beB a n
theorem beB_len (a : Nat) : ∀ n, (beB a n).length = n
  | 0 => rfl
  | n + 1 => by simp [beB, beB_len a n]
theorem beB_at (a : Nat) : ∀ (n i : Nat), i < n → (beB a n)[i]? = some (UInt8.ofNat (byt a (n - 1 - i)))
  | n + 1, 0, _ => by simp [beB]
  | n + 1, i + 1, h => by
    show (UInt8.ofNat (byt a n) :: beB a n)[i + 1]? = _
    rw [List.getElem?_cons_succ, beB_at a n i (by omega), show n + 1 - 1 - (i + 1) = n - 1 - i by omega]
/-- What the document writes out of the last bytes. -/
def padT (s : List UInt8) : List UInt8 := match s with
  | [] => [0]
  | x :: r => if 128 ≤ x.toNat then 0 :: x :: r else x :: r
theorem byt_zero {a n : Nat} (h : a < 256 ^ n) : byt a n = 0 := by unfold byt; rw [Nat.div_eq_of_lt h]
theorem numT_eq {a len j : Nat} (hl : IsLen a len) (h1 : a < 256 ^ j) (h2 : j = 0 ∨ 256 ^ (j - 1) ≤ a) : beB a (len / 8 + 1) = padT (beB a j) := by
  obtain ⟨k1, k2⟩ := hl
  have e : ∀ n, 256 ^ n = 2 ^ (8 * n) := fun n => by rw [Nat.pow_mul]
  cases j with
  | zero =>
    have ha : a = 0 := by simpa using h1
    subst ha
    have hlen : len = 0 := by
      rcases k2 with k2 | k2
      · exact k2
      · have := Nat.pow_pos (a := 2) (n := len - 1) (by omega); omega
    subst hlen
    rfl
  | succ j =>
    rcases h2 with h2 | h2
    · omega
    rw [Nat.add_sub_cancel] at h2
    rw [e] at h1 h2
    have hpos : 0 < 2 ^ (8 * j) := Nat.pow_pos (by omega)
    have hl1 : 8 * j < len := by
      rcases Nat.lt_or_ge (8 * j) len with h | h
      · exact h
      · have := Nat.pow_le_pow_right (n := 2) (by omega) h; omega
    have hlen0 : len ≠ 0 := by omega
    have k3 : 2 ^ (len - 1) ≤ a := by rcases k2 with k2 | k2; exact absurd k2 hlen0; exact k2
    have hl2 : len ≤ 8 * (j + 1) := by
      rcases Nat.lt_or_ge (8 * (j + 1)) len with h | h
      · have := Nat.pow_le_pow_right (n := 2) (by omega) (show 8 * (j + 1) ≤ len - 1 by omega); omega
      · exact h
    have htop : byt a j = a / 2 ^ (8 * j) := by
      unfold byt
      rw [e, Nat.mod_eq_of_lt]
      rw [Nat.div_lt_iff_lt_mul hpos, Nat.mul_comm]
      rw [show 8 * (j + 1) = 8 * j + 8 by omega, Nat.pow_add] at h1
      exact h1
    have hb : byt a j < 256 := byt_lt a j
    show _ = padT (UInt8.ofNat (byt a j) :: beB a j)
    have hto : (UInt8.ofNat (byt a j)).toNat = byt a j := by rw [UInt8.toNat_ofNat']; omega
    unfold padT
    simp only [hto]
    by_cases hc : 128 ≤ byt a j
    · rw [if_pos hc]
      have hge : 2 ^ (8 * j + 7) ≤ a := by
        rw [Nat.pow_add]
        have := (Nat.le_div_iff_mul_le hpos).1 (htop ▸ hc)
        rw [Nat.mul_comm]; exact this
      have : len = 8 * (j + 1) := by
        rcases Nat.lt_or_ge len (8 * (j + 1)) with h | h
        · have := Nat.pow_le_pow_right (n := 2) (by omega) (show len ≤ 8 * j + 7 by omega); omega
        · omega
      have e2 : len / 8 + 1 = (j + 1) + 1 := by omega
      rw [e2]
      show UInt8.ofNat (byt a (j + 1)) :: UInt8.ofNat (byt a j) :: beB a j = _
      rw [byt_zero (by rw [e]; exact h1)]; rfl
    · rw [if_neg hc]
      have hlt : a < 2 ^ (8 * j + 7) := by
        rw [Nat.pow_add, Nat.mul_comm]
        have := (Nat.div_lt_iff_lt_mul hpos).1 (htop ▸ (show byt a j < 128 by omega))
        exact this
      have hlen : len ≤ 8 * j + 7 := by
        rcases Nat.lt_or_ge (8 * j + 7) len with h | h
        · have := Nat.pow_le_pow_right (n := 2) (by omega) (show 8 * j + 7 ≤ len - 1 by omega); omega
        · exact h
      have e2 : len / 8 + 1 = j + 1 := by omega
      rw [e2]; rfl
/-- The number that bytes write, the highest first. -/
def beW : List UInt8 → Nat
  | [] => 0
  | x :: r => x.toNat * 256 ^ r.length + beW r
theorem beW_lt : ∀ l, beW l < 256 ^ l.length
  | [] => by simp [beW]
  | x :: r => by
    have h1 := beW_lt r
    have h2 := UInt8.toNat_lt x
    have h3 : (x.toNat + 1) * 256 ^ r.length ≤ 256 * 256 ^ r.length := Nat.mul_le_mul_right _ (by omega)
    rw [Nat.add_mul] at h3
    simp only [beW, List.length_cons, Nat.pow_succ]; omega
theorem beW_snoc : ∀ (l : List UInt8) (x : UInt8), beW (l ++ [x]) = beW l * 256 + x.toNat
  | [], x => by simp [beW]
  | y :: r, x => by
    show y.toNat * 256 ^ (r ++ [x]).length + beW (r ++ [x]) = (y.toNat * 256 ^ r.length + beW r) * 256 + x.toNat
    rw [beW_snoc r x, List.length_append, List.length_singleton, Nat.pow_succ, Nat.add_mul, Nat.mul_assoc]; omega
/-- The k-th byte from the end. -/
def fromEnd (b : List UInt8) (k : Nat) : Nat := if k < b.length then (b[b.length - 1 - k]?.getD 0).toNat else 0
theorem bval_fromEnd : ∀ (n : Nat) (b : List UInt8), bval (fromEnd b) n = beW (b.drop (b.length - n))
  | 0, b => by simp [bval, beW]
  | n + 1, b => by
    show bval (fromEnd b) n + 256 ^ n * fromEnd b n = _
    rw [bval_fromEnd n b]
    by_cases h : n < b.length
    · have hi : b.length - (n + 1) < b.length := by omega
      rw [List.drop_eq_getElem_cons hi, show b.length - (n + 1) + 1 = b.length - n by omega]
      show _ = b[b.length - (n + 1)].toNat * 256 ^ (b.drop (b.length - n)).length + beW (b.drop (b.length - n))
      unfold fromEnd
      rw [if_pos h, List.length_drop, show b.length - (b.length - n) = n by omega, show b.length - 1 - n = b.length - (n + 1) by omega, List.getElem?_eq_getElem hi, Option.getD_some, Nat.mul_comm, Nat.add_comm]
    · unfold fromEnd
      rw [if_neg h, show b.length - (n + 1) = 0 by omega, show b.length - n = 0 by omega]; simp
theorem bval_be {b : List UInt8} (h : b.length ≤ 32 ∨ (b.length = 33 ∧ b[0]? = some 0)) : bval (fromEnd b) 32 = beW b := by
  rw [bval_fromEnd]
  rcases h with h | ⟨h, h0⟩
  · rw [show b.length - 32 = 0 by omega, List.drop_zero]
  · rw [h]
    match b, h0 with
    | x :: r, h0 =>
      have : x = 0 := by simpa using h0
      subst this
      show beW r = 0 * 256 ^ r.length + beW r
      omega
/-- What a number that is read from bytes is, and the errno. -/
def rnum (b : List UInt8) : Nat × Int :=
  if b.length = 0 then (0, 3)
  else if 128 ≤ (b[0]?.getD 0).toNat ∨ (1 < b.length ∧ (b[0]?.getD 0).toNat = 0 ∧ (b[1]?.getD 0).toNat < 128) then (0, 4)
  else if 33 < b.length ∨ (b.length = 33 ∧ (b[0]?.getD 0).toNat ≠ 0) then (0, 2)
  else (beW b, 0)
theorem beW_big {b : List UInt8} (h : b.length = 33) : 2 ^ 256 ≤ beW b ↔ (b[0]?.getD 0).toNat ≠ 0 := by
  match b, h with
  | x :: r, h =>
    have hr : r.length = 32 := by simpa using h
    have h1 := beW_lt r
    have hP : (256 : Nat) ^ 32 = 2 ^ 256 := by rw [show (256 : Nat) = 2 ^ 8 from rfl, ← Nat.pow_mul]
    rw [hr, hP] at h1
    have e1 : beW (x :: r) = x.toNat * 2 ^ 256 + beW r := by rw [← hP, ← hr]; rfl
    have e2 : (((x :: r)[0]?).getD 0).toNat = x.toNat := rfl
    rw [e1, e2]
    clear e1 e2 hP
    generalize (2 : Nat) ^ 256 = P at *
    constructor
    · intro h2 h3
      rw [h3] at h2
      omega
    · intro h2
      have : 1 * P ≤ x.toNat * P := Nat.mul_le_mul_right _ (by omega)
      omega
/-- A digit's sign. -/
def sgn (d : Nat) : UInt8 := if d < 10 then UInt8.ofNat (48 + d) else UInt8.ofNat (87 + d)
def hexT : List UInt8 → List UInt8
  | [] => []
  | x :: r => sgn (x.toNat / 16) :: sgn (x.toNat % 16) :: hexT r
theorem hexT_snoc : ∀ (l : List UInt8) (x : UInt8), hexT (l ++ [x]) = hexT l ++ [sgn (x.toNat / 16), sgn (x.toNat % 16)]
  | [], x => rfl
  | y :: r, x => by
    show sgn (y.toNat / 16) :: sgn (y.toNat % 16) :: hexT (r ++ [x]) = _
    rw [hexT_snoc r x]; rfl
theorem hexT_len : ∀ l, (hexT l).length = 2 * l.length
  | [] => rfl
  | x :: r => by simp [hexT, hexT_len r]; omega
/-- A sign's digit, or -1. -/
def dgt (c : UInt8) : Int := if 48 ≤ c.toNat ∧ c.toNat ≤ 57 then (c.toNat : Int) - 48 else if 97 ≤ c.toNat ∧ c.toNat ≤ 102 then (c.toNat : Int) - 87 else -1
/-- The bytes that signs write, in twos; none where a sign is none. -/
def rhex : List UInt8 → Option (List UInt8)
  | a :: b :: r => if dgt a < 0 ∨ dgt b < 0 then none else (rhex r).map fun l => UInt8.ofNat ((dgt a * 16 + dgt b).toNat) :: l
  | _ => some []
end Go.Proofs.Ytjihklaocgmlpaa
