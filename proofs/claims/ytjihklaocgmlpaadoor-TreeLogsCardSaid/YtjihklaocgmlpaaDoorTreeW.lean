/- Peaks of a log, in plain Lean: by floors, from the top down, leaf by leaf; the root out of the peaks. No program is named here. -/
import Derived.Test.YtjihklaocgmlpaaDoorTreeQ
namespace Go.Proofs.YtjihklaocgmlpaaDoor
section
variable {α : Type} (node : α → α → α)
/-- Peaks by floors; the fuel is the length. -/
def pkPF : Nat → List α → List α
  | 0, _ => []
  | f + 1, l => if l.length = 0 then [] else if l.length % 2 = 0 then pkPF f (floorL node l) else pkPF f (floorL node l.dropLast) ++ (match l.getLast? with | some d => [d] | none => [])
def pkP (l : List α) : List α := pkPF node l.length l
/-- One leaf more. -/
def addP : Nat → Nat → List α → α → List α
  | 0, _, p, d => p ++ [d]
  | f + 1, n, p, d => if n % 2 = 1 then (match p.getLast? with | some a => addP f (n / 2) p.dropLast (node a d) | none => []) else p ++ [d]
/-- From the top down. -/
def topP (e : α) : Nat → List α → List α
  | 0, _ => []
  | j + 1, l => if 2 ^ j ≤ l.length then root node e (l.take (2 ^ j)) :: topP e j (l.drop (2 ^ j)) else topP e j l
/-- The root out of the peaks: from the end. -/
def foldP (d : α) (p : List α) : α := p.foldr node d
end
section
variable {α : Type} {node : α → α → α} {e : α}
theorem pkPF_fuel : ∀ (f g : Nat) (l : List α), l.length ≤ f → l.length ≤ g → pkPF node f l = pkPF node g l
  | 0, g, l, h, _ => by
    obtain rfl : l = [] := List.eq_nil_of_length_eq_zero (by omega)
    cases g <;> simp [pkPF]
  | f + 1, 0, l, _, h => by
    obtain rfl : l = [] := List.eq_nil_of_length_eq_zero (by omega)
    simp [pkPF]
  | f + 1, g + 1, l, h1, h2 => by
    unfold pkPF
    by_cases h0 : l.length = 0
    · rw [if_pos h0, if_pos h0]
    · rw [if_neg h0, if_neg h0, pkPF_fuel f g (floorL node l.dropLast) (by rw [floorL_len, List.length_dropLast]; omega) (by rw [floorL_len, List.length_dropLast]; omega)]
      by_cases hp : l.length % 2 = 0
      · rw [if_pos hp, if_pos hp, pkPF_fuel f g (floorL node l) (by rw [floorL_len]; omega) (by rw [floorL_len]; omega)]
      · rw [if_neg hp, if_neg hp]
theorem pkP_nil : pkP node ([] : List α) = [] := rfl
theorem pkP_even {l : List α} (h : l.length % 2 = 0) : pkP node l = pkP node (floorL node l) := by
  by_cases h0 : l.length = 0
  · obtain rfl : l = [] := List.eq_nil_of_length_eq_zero h0
    rfl
  · obtain ⟨f, hf⟩ : ∃ f, l.length = f + 1 := ⟨l.length - 1, by omega⟩
    unfold pkP
    rw [hf]
    conv => lhs; unfold pkPF
    rw [if_neg h0, if_pos h]
    exact pkPF_fuel _ _ _ (by rw [floorL_len]; omega) (Nat.le_refl _)
theorem pkP_odd {l : List α} {x : α} (h : l.length % 2 = 0) : pkP node (l ++ [x]) = pkP node (floorL node l) ++ [x] := by
  unfold pkP
  rw [List.length_append]
  show pkPF node (l.length + 1) (l ++ [x]) = _
  conv => lhs; unfold pkPF
  rw [if_neg (by simp), if_neg (by simp; omega), List.dropLast_concat, List.getLast?_concat]
  show pkPF node l.length (floorL node l) ++ [x] = _
  rw [pkPF_fuel l.length _ (floorL node l) (by rw [floorL_len]; omega) (Nat.le_refl _)]
theorem floorL_two {l : List α} {x y : α} (h : l.length % 2 = 0) : floorL node (l ++ [x] ++ [y]) = floorL node l ++ [node x y] := by
  rw [List.append_assoc, floorL_app _ _ h]; rfl
theorem floorL_one {l : List α} {x : α} (h : l.length % 2 = 0) : floorL node (l ++ [x]) = floorL node l ++ [x] := by
  rw [floorL_app _ _ h]; rfl
/-- One leaf more: as the loop has it. -/
theorem addP_pk : ∀ (f : Nat) (l : List α) (x : α), l.length ≤ f → addP node f l.length (pkP node l) x = pkP node (l ++ [x])
  | 0, l, x, h => by
    obtain rfl : l = [] := List.eq_nil_of_length_eq_zero (by omega)
    rfl
  | f + 1, l, x, h => by
    unfold addP
    by_cases hp : l.length % 2 = 1
    · rw [if_pos hp]
      obtain ⟨m, y, rfl⟩ : ∃ m y, l = m ++ [y] := ⟨l.dropLast, l.getLast (by intro h0; subst h0; simp at hp), (List.dropLast_concat_getLast _).symm⟩
      have hm : m.length % 2 = 0 := by simp at hp; omega
      rw [pkP_odd hm, List.getLast?_concat, List.dropLast_concat]
      show addP node f ((m ++ [y]).length / 2) (pkP node (floorL node m)) (node y x) = _
      have hl : (m ++ [y]).length / 2 = (floorL node m).length := by rw [floorL_len]; simp
      rw [hl, addP_pk f (floorL node m) (node y x) (by rw [floorL_len]; simp at h; omega), pkP_even (l := m ++ [y] ++ [x]) (by simp; omega), floorL_two hm]
    · rw [if_neg hp, pkP_odd (by omega), pkP_even (by omega)]
/-- The root out of the peaks. -/
theorem foldP_pk : ∀ (f : Nat) (l : List α) (d : α), l.length ≤ f → foldP node d (pkP node l) = root node e (l ++ [d])
  | 0, l, d, h => by
    obtain rfl : l = [] := List.eq_nil_of_length_eq_zero (by omega)
    rfl
  | f + 1, l, d, h => by
    by_cases h0 : l.length = 0
    · obtain rfl : l = [] := List.eq_nil_of_length_eq_zero h0
      rfl
    by_cases hp : l.length % 2 = 1
    · obtain ⟨m, y, rfl⟩ : ∃ m y, l = m ++ [y] := ⟨l.dropLast, l.getLast (by intro h0; subst h0; simp at hp), (List.dropLast_concat_getLast _).symm⟩
      have hm : m.length % 2 = 0 := by simp at hp; omega
      rw [pkP_odd hm, root_up', floorL_two hm, ← foldP_pk f (floorL node m) (node y d) (by rw [floorL_len]; simp at h; omega)]
      unfold foldP
      rw [List.foldr_append]; rfl
    · rw [pkP_even (by omega), root_up', floorL_one (by omega), ← foldP_pk f (floorL node l) d (by rw [floorL_len]; omega)]
theorem floorL_take {l : List α} {k : Nat} (hk : 2 * k ≤ l.length) : (floorL node l).take k = floorL node (l.take (2 * k)) ∧ (floorL node l).drop k = floorL node (l.drop (2 * k)) := by
  have hs := floorL_app (node := node) (l.take (2 * k)) (l.drop (2 * k)) (by rw [List.length_take, Nat.min_eq_left hk]; omega)
  rw [List.take_append_drop] at hs
  have ht : (floorL node (l.take (2 * k))).length = k := by rw [floorL_len, List.length_take, Nat.min_eq_left hk]; omega
  rw [hs]
  exact ⟨by rw [List.take_append_of_le_length (by omega), List.take_of_length_le (by omega)], by rw [List.drop_append_of_le_length (by omega), List.drop_of_length_le (by omega), List.nil_append]⟩
theorem top_even : ∀ (j : Nat) (l : List α), l.length < 2 ^ (j + 1) → l.length % 2 = 0 → topP node e (j + 1) l = topP node e j (floorL node l)
  | 0, l, h, hp => by
    obtain rfl : l = [] := List.eq_nil_of_length_eq_zero (by simp at h; omega)
    rfl
  | j + 1, l, h, hp => by
    have h2 : 2 ^ (j + 1) = 2 * 2 ^ j := by rw [Nat.pow_succ]; omega
    have h3 : 2 ^ (j + 1 + 1) = 2 * 2 ^ (j + 1) := by rw [Nat.pow_succ]; omega
    have hl : (floorL node l).length = l.length / 2 := by rw [floorL_len]; omega
    conv => lhs; unfold topP
    conv => rhs; unfold topP
    by_cases hc : 2 ^ (j + 1) ≤ l.length
    · obtain ⟨e1, e2⟩ := floorL_take (node := node) (l := l) (k := 2 ^ j) (by omega)
      rw [if_pos hc, if_pos (by rw [hl]; omega), e1, e2, ← h2, ← root_up', top_even j (l.drop (2 ^ (j + 1))) (by rw [List.length_drop]; omega) (by rw [List.length_drop]; omega)]
    · rw [if_neg hc, if_neg (by rw [hl]; omega), top_even j l (by omega) hp]
theorem top_odd : ∀ (j : Nat) (l : List α) (x : α), l.length + 1 < 2 ^ (j + 1) → l.length % 2 = 0 → topP node e (j + 1) (l ++ [x]) = topP node e j (floorL node l) ++ [x]
  | 0, l, x, h, hp => by
    obtain rfl : l = [] := List.eq_nil_of_length_eq_zero (by have h9 : (2 : Nat) ^ (0 + 1) = 2 := rfl; omega)
    rfl
  | j + 1, l, x, h, hp => by
    have h2 : 2 ^ (j + 1) = 2 * 2 ^ j := by rw [Nat.pow_succ]; omega
    have h3 : 2 ^ (j + 1 + 1) = 2 * 2 ^ (j + 1) := by rw [Nat.pow_succ]; omega
    have hl : (floorL node l).length = l.length / 2 := by rw [floorL_len]; omega
    have hp0 : 0 < 2 ^ j := Nat.pow_pos (by omega)
    conv => lhs; unfold topP
    conv => rhs; unfold topP
    by_cases hc : 2 ^ (j + 1) ≤ l.length
    · obtain ⟨e1, e2⟩ := floorL_take (node := node) (l := l) (k := 2 ^ j) (by omega)
      rw [if_pos (by simp; omega), if_pos (by rw [hl]; omega), e1, e2, ← h2, List.take_append_of_le_length hc, List.drop_append_of_le_length hc, ← root_up', top_odd j (l.drop (2 ^ (j + 1))) x (by rw [List.length_drop]; omega) (by rw [List.length_drop]; omega)]
      rfl
    · rw [if_neg (by simp; omega), if_neg (by rw [hl]; omega), top_odd j l x (by omega) hp]
theorem top_pk : ∀ (j : Nat) (l : List α), l.length < 2 ^ j → topP node e j l = pkP node l
  | 0, l, h => by
    obtain rfl : l = [] := List.eq_nil_of_length_eq_zero (by have h9 : (2 : Nat) ^ 0 = 1 := rfl; omega)
    rfl
  | j + 1, l, h => by
    have h2 : 2 ^ (j + 1) = 2 * 2 ^ j := by rw [Nat.pow_succ]; omega
    by_cases hp : l.length % 2 = 0
    · rw [top_even j l h hp, top_pk j _ (by rw [floorL_len]; omega), ← pkP_even hp]
    · obtain ⟨m, y, rfl⟩ : ∃ m y, l = m ++ [y] := ⟨l.dropLast, l.getLast (by intro h0; subst h0; simp at hp), (List.dropLast_concat_getLast _).symm⟩
      have hm : m.length % 2 = 0 := by simp at hp; omega
      rw [List.length_append] at h
      have h : m.length + 1 < 2 ^ (j + 1) := h
      rw [pkP_odd hm, ← top_pk j (floorL node m) (by rw [floorL_len]; omega), top_odd j m y h hm]
end
end Go.Proofs.YtjihklaocgmlpaaDoor
