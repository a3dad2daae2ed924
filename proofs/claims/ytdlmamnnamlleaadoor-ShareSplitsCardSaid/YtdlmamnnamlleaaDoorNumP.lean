/- Numbers by their digits, in plain Lean: base 65536, the least first. No program is named here. -/
import Derived.WalkKit
namespace Go.Proofs.YtdlmamnnamlleaaDoor
open Go

/-- The value of digits. -/
def val : List Nat → Nat
  | [] => 0
  | d :: l => d + 65536 * val l
/-- Digits that are digits. -/
def Sm (l : List Nat) : Prop := ∀ d ∈ l, d < 65536
/-- Digits of n. -/
structure Dv (l : List Nat) (n : Nat) : Prop where
  sm : Sm l
  val : val l = n
/-- Digits of n, none of them 0 at the end. -/
structure Dg (l : List Nat) (n : Nat) : Prop extends Dv l n where
  top : l.getLast? ≠ some 0

theorem Sm.nil : Sm [] := fun d h => by simp at h
theorem Sm.append {a b : List Nat} (ha : Sm a) (hb : Sm b) : Sm (a ++ b) := fun d h => by
  rcases List.mem_append.1 h with h | h
  · exact ha d h
  · exact hb d h
theorem Sm.one {d : Nat} (h : d < 65536) : Sm [d] := fun x hx => by simp at hx; omega
theorem Sm.take {a : List Nat} (ha : Sm a) (k : Nat) : Sm (a.take k) := fun d h => ha d (List.mem_of_mem_take h)
theorem Sm.drop {a : List Nat} (ha : Sm a) (k : Nat) : Sm (a.drop k) := fun d h => ha d (List.mem_of_mem_drop h)
theorem Sm.at_ {a : List Nat} (ha : Sm a) (k : Nat) : a[k]?.getD 0 < 65536 := by
  cases h : a[k]? with
  | none => simp
  | some d => exact ha d (List.mem_of_getElem? h)
theorem Sm.set {a : List Nat} (ha : Sm a) (k : Nat) {d : Nat} (hd : d < 65536) : Sm (a.set k d) := fun x hx => by
  rcases List.mem_or_eq_of_mem_set hx with h | h
  · exact ha x h
  · omega

theorem val_append (a b : List Nat) : val (a ++ b) = val a + 65536 ^ a.length * val b := by
  induction a with
  | nil => simp [val]
  | cons d a ih =>
    simp only [List.cons_append, val, ih, List.length_cons, Nat.pow_succ]
    rw [Nat.mul_add, Nat.add_assoc, ← Nat.mul_assoc, Nat.mul_comm 65536 (65536 ^ a.length)]
theorem val_one (d : Nat) : val [d] = d := by simp [val]
theorem val_snoc (a : List Nat) (d : Nat) : val (a ++ [d]) = val a + 65536 ^ a.length * d := by rw [val_append, val_one]
theorem val_lt {l : List Nat} (h : Sm l) : val l < 65536 ^ l.length := by
  induction l with
  | nil => simp [val]
  | cons d l ih =>
    have h1 := h d (by simp)
    have h2 := ih fun x hx => h x (by simp [hx])
    simp only [val, List.length_cons, Nat.pow_succ]
    omega
theorem val_take_drop (l : List Nat) (k : Nat) (hk : k ≤ l.length) : val l = val (l.take k) + 65536 ^ k * val (l.drop k) := by
  conv => lhs; rw [← List.take_append_drop k l]
  rw [val_append, List.length_take, Nat.min_eq_left hk]
theorem val_at {l : List Nat} (h : Sm l) : ∀ i, l[i]?.getD 0 = val l / 65536 ^ i % 65536 := by
  induction l with
  | nil => intro i; simp [val]
  | cons d l ih =>
    intro i
    have h1 := h d (by simp)
    have h2 := ih (fun x hx => h x (by simp [hx]))
    cases i with
    | zero => simp [val]; omega
    | succ i =>
      simp only [List.getElem?_cons_succ, h2, val, Nat.pow_succ, Nat.mul_comm (65536 ^ i), ← Nat.div_div_eq_div_mul]
      rw [show (d + 65536 * val l) / 65536 = val l by omega]
theorem val_take {l : List Nat} (h : Sm l) (k : Nat) : val (l.take k) = val l % 65536 ^ k := by
  rcases Nat.lt_or_ge l.length k with hk | hk
  · have h1 := val_lt h
    have h2 : 65536 ^ l.length ≤ 65536 ^ k := Nat.pow_le_pow_right (by omega) (by omega)
    rw [List.take_of_length_le (by omega), Nat.mod_eq_of_lt (by omega)]
  · have h1 := val_take_drop l k hk
    have h2 := val_lt (h.take k)
    rw [List.length_take, Nat.min_eq_left hk] at h2
    rw [h1, Nat.add_mul_mod_self_left, Nat.mod_eq_of_lt h2]
theorem val_drop {l : List Nat} (h : Sm l) (k : Nat) : val (l.drop k) = val l / 65536 ^ k := by
  rcases Nat.lt_or_ge l.length k with hk | hk
  · have h1 := val_lt h
    have h2 : 65536 ^ l.length ≤ 65536 ^ k := Nat.pow_le_pow_right (by omega) (by omega)
    rw [List.drop_of_length_le (by omega), Nat.div_eq_of_lt (by omega)]; rfl
  · have h1 := val_take_drop l k hk
    have h2 := val_lt (h.take k)
    rw [List.length_take, Nat.min_eq_left hk] at h2
    rw [h1, Nat.add_mul_div_left _ _ (Nat.pow_pos (by omega)), Nat.div_eq_of_lt h2, Nat.zero_add]
theorem val_inj {a b : List Nat} (ha : Sm a) (hb : Sm b) (hl : a.length = b.length) (h : val a = val b) : a = b := by
  apply List.ext_getElem? ; intro i
  have h1 := val_at ha i
  have h2 := val_at hb i
  rw [h] at h1
  rcases Nat.lt_or_ge i a.length with hi | hi
  · rw [List.getElem?_eq_getElem hi] at h1 ⊢
    rw [List.getElem?_eq_getElem (by omega)] at h2 ⊢
    simp at h1 h2; rw [h1, h2]
  · rw [List.getElem?_eq_none hi, List.getElem?_eq_none (by omega)]

theorem Dg.len {l : List Nat} {n k : Nat} (h : Dg l n) (hn : n < 65536 ^ k) : l.length ≤ k := by
  rcases Nat.lt_or_ge k l.length with hk | hk
  · exfalso
    have h1 := val_take_drop l (l.length - 1) (by omega)
    have h2 : l.drop (l.length - 1) = [l[l.length - 1]] := by
      rw [List.drop_eq_getElem_cons (by omega), List.drop_of_length_le (by omega)]
    have h3 : l.getLast? = some l[l.length - 1] := by
      rw [List.getLast?_eq_getElem?, List.getElem?_eq_getElem (by omega)]
    have h4 := h.top
    rw [h3] at h4
    have h5 : l[l.length - 1] ≠ 0 := fun e => h4 (by rw [e])
    rw [h2, val_one, h.val] at h1
    have h6 : 65536 ^ k ≤ 65536 ^ (l.length - 1) := Nat.pow_le_pow_right (by omega) (by omega)
    have h7 : 65536 ^ (l.length - 1) * 1 ≤ 65536 ^ (l.length - 1) * l[l.length - 1] := Nat.mul_le_mul_left _ (by omega)
    omega
  · exact hk
theorem Dg.only {a b : List Nat} {n : Nat} (ha : Dg a n) (hb : Dg b n) : a = b := by
  have h1 := hb.len (k := a.length) (by have := val_lt ha.sm; rw [ha.val] at this; exact this)
  have h2 := ha.len (k := b.length) (by have := val_lt hb.sm; rw [hb.val] at this; exact this)
  exact val_inj ha.sm hb.sm (by omega) (by rw [ha.val, hb.val])
theorem Dg.nil : Dg [] 0 := ⟨⟨Sm.nil, rfl⟩, by simp⟩
theorem Dg.zero {l : List Nat} (h : Dg l 0) : l = [] := List.eq_nil_of_length_eq_zero (by have := h.len (k := 0) (by simp); omega)
theorem Dg.pos {l : List Nat} {n : Nat} (h : Dg l n) (hn : n ≠ 0) : 0 < l.length := by
  rcases Nat.eq_zero_or_pos l.length with h0 | h0
  · have := List.eq_nil_of_length_eq_zero h0
    subst this
    exact absurd h.val.symm hn
  · exact h0
theorem Dv.lt {l : List Nat} {n : Nat} (h : Dv l n) : n < 65536 ^ l.length := h.val ▸ val_lt h.sm
theorem Dv.at_ {l : List Nat} {n : Nat} (h : Dv l n) (i : Nat) : l[i]?.getD 0 = n / 65536 ^ i % 65536 := h.val ▸ val_at h.sm i
theorem Dv.mk' {l : List Nat} (h : Sm l) : Dv l (Go.Proofs.YtdlmamnnamlleaaDoor.val l) := ⟨h, rfl⟩

/-! trim -/
theorem trim_step {l : List Nat} {k : Nat} (hk : k < l.length) (h0 : l[k] = 0) : val (l.take (k + 1)) = val (l.take k) := by
  rw [List.take_succ_eq_append_getElem hk, val_snoc, h0]; simp
theorem trim_end {l : List Nat} {n k : Nat} (hs : Sm l) (hv : val (l.take k) = n) (hk : k ≤ l.length) (h : k = 0 ∨ l[k - 1]? ≠ some 0) : Dg (l.take k) n := by
  refine ⟨⟨hs.take k, hv⟩, ?_⟩
  rcases h with rfl | h
  · simp
  · rw [List.getLast?_eq_getElem?, List.length_take, Nat.min_eq_left hk]
    rcases Nat.eq_zero_or_pos k with rfl | hp
    · simp
    · rwa [List.getElem?_take_of_lt (by omega)]

/-! Order: the highest digit that differs. -/
def order (a b : Nat) : Int := if a < b then -1 else if b < a then 1 else 0
theorem order_step {a b i : Nat} (hlt : a / 65536 ^ (i + 1) = b / 65536 ^ (i + 1)) :
    (a / 65536 ^ i % 65536 < b / 65536 ^ i % 65536 → a < b) ∧ (b / 65536 ^ i % 65536 < a / 65536 ^ i % 65536 → b < a) ∧ (a / 65536 ^ i % 65536 = b / 65536 ^ i % 65536 → a / 65536 ^ i = b / 65536 ^ i) := by
  have h1 : ∀ x, x / 65536 ^ (i + 1) = x / 65536 ^ i / 65536 := fun x => by rw [Nat.pow_succ, Nat.div_div_eq_div_mul]
  rw [h1, h1] at hlt
  refine ⟨fun h => ?_, fun h => ?_, fun h => by omega⟩
  · have h2 : a / 65536 ^ i < b / 65536 ^ i := by omega
    exact Nat.lt_of_not_le fun h3 => by have := Nat.div_le_div_right (c := 65536 ^ i) h3; omega
  · have h2 : b / 65536 ^ i < a / 65536 ^ i := by omega
    exact Nat.lt_of_not_le fun h3 => by have := Nat.div_le_div_right (c := 65536 ^ i) h3; omega

/-! Words of 64 bits. -/
def wd (n i : Nat) : Nat := n / 2 ^ (64 * i) % 2 ^ 64
theorem wd_lt (n i : Nat) : wd n i < 18446744073709551616 := Nat.mod_lt _ (by decide)
/-- The value of words. -/
def wval (f : Nat → Nat) : Nat → Nat
  | 0 => 0
  | k + 1 => wval f k + 2 ^ (64 * k) * f k
theorem wval_lt {f : Nat → Nat} {k : Nat} (h : ∀ i < k, f i < 18446744073709551616) : wval f k < 2 ^ (64 * k) := by
  induction k with
  | zero => simp [wval]
  | succ k ih =>
    have h1 := ih fun i hi => h i (by omega)
    have h2 := h k (by omega)
    have h3 : 2 ^ (64 * k) * (f k + 1) ≤ 2 ^ (64 * k) * 2 ^ 64 := Nat.mul_le_mul_left _ (by omega)
    rw [Nat.mul_add] at h3
    simp only [wval]
    rw [show 64 * (k + 1) = 64 * k + 64 by omega, Nat.pow_add]
    omega
theorem wval_congr {f g : Nat → Nat} {k : Nat} (h : ∀ i < k, f i = g i) : wval f k = wval g k := by
  induction k with
  | zero => rfl
  | succ k ih => simp only [wval]; rw [ih fun i hi => h i (by omega), h k (by omega)]
theorem wval_wd (n k : Nat) : wval (wd n) k = n % 2 ^ (64 * k) := by
  induction k with
  | zero => simp [wval, Nat.mod_one]
  | succ k ih =>
    simp only [wval, ih, wd]
    rw [show 64 * (k + 1) = 64 * k + 64 by omega, Nat.pow_add, Nat.mod_mul]
theorem wd_wval {f : Nat → Nat} {k : Nat} (h : ∀ i < k, f i < 18446744073709551616) : ∀ i < k, wd (wval f k) i = f i := by
  induction k with
  | zero => intro i hi; omega
  | succ k ih =>
    intro i hi
    have hlt := wval_lt (f := f) (k := k) fun i hi => h i (by omega)
    unfold wd
    simp only [wval]
    rcases Nat.lt_or_ge i k with hik | hik
    · have h1 := ih (fun i hi => h i (by omega)) i hik
      unfold wd at h1
      rw [show 64 * k = 64 * i + 64 + 64 * (k - i - 1) by omega, Nat.pow_add, Nat.pow_add, Nat.mul_assoc, Nat.mul_assoc, Nat.add_mul_div_left _ _ (Nat.pow_pos (by omega)), Nat.add_mul_mod_self_left]
      exact h1
    · obtain rfl : i = k := by omega
      rw [Nat.add_mul_div_left _ _ (Nat.pow_pos (by omega)), Nat.div_eq_of_lt hlt, Nat.zero_add, Nat.mod_eq_of_lt (h i (by omega))]
theorem wd_zero (i : Nat) : wd 0 i = 0 := by simp [wd]
theorem wd_inj {a b k : Nat} (ha : a < 2 ^ (64 * k)) (hb : b < 2 ^ (64 * k)) (h : ∀ i < k, wd a i = wd b i) : a = b := by
  have h1 := wval_wd a k
  have h2 := wval_wd b k
  rw [Nat.mod_eq_of_lt ha] at h1
  rw [Nat.mod_eq_of_lt hb] at h2
  rw [← h1, ← h2, wval_congr h]
end Go.Proofs.YtdlmamnnamlleaaDoor
