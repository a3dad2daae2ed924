/- Roots and paths of a tree, in plain Lean: by halves, and floor by floor. No program is named here. -/
import Derived.Test.YtjihklaocgmlpaaDoorTreeP
namespace Go.Proofs.YtjihklaocgmlpaaDoor
section
variable {α : Type} (node : α → α → α)
/-- The floor above. -/
def floorL : List α → List α
  | a :: b :: r => node a b :: floorL r
  | l => l
/-- Floor by floor, till one is left. -/
def rootF (e : α) : Nat → List α → α
  | 0, _ => e
  | f + 1, l => match l with
    | [] => e
    | [d] => d
    | a :: b :: r => rootF e f (floorL node (a :: b :: r))
/-- The path of a leaf, floor by floor. -/
def pathF : Nat → List α → Nat → List α
  | 0, _, _ => []
  | f + 1, l, i => if l.length ≤ 1 then [] else (match l[beside i]? with | some x => [x] | none => []) ++ pathF f (floorL node l) (i / 2)
end
section
variable {α : Type} {node : α → α → α} {half : Nat → Nat} {e : α}
theorem floorL_len : ∀ (l : List α), (floorL node l).length = (l.length + 1) / 2
  | [] => by simp [floorL]
  | [a] => by simp [floorL]
  | a :: b :: r => by
    show (floorL node r).length + 1 = (r.length + 1 + 1 + 1) / 2
    rw [floorL_len r]; omega
theorem floorL_app : ∀ (l r : List α), l.length % 2 = 0 → floorL node (l ++ r) = floorL node l ++ floorL node r
  | [], r, _ => rfl
  | [a], r, h => by simp at h
  | a :: b :: l, r, h => by
    show node a b :: floorL node (l ++ r) = node a b :: floorL node l ++ floorL node r
    rw [floorL_app l r (by simp at h; omega)]
    rfl
theorem rootF_fuel : ∀ (f g : Nat) (l : List α), l.length ≤ f → l.length ≤ g → rootF node e f l = rootF node e g l
  | 0, g, l, h, _ => by
    have : l = [] := List.eq_nil_of_length_eq_zero (by omega)
    subst this
    cases g <;> rfl
  | f + 1, 0, l, _, h => by
    have : l = [] := List.eq_nil_of_length_eq_zero (by omega)
    subst this
    rfl
  | f + 1, g + 1, [], _, _ => rfl
  | f + 1, g + 1, [d], _, _ => rfl
  | f + 1, g + 1, a :: b :: r, h1, h2 => by
    refine rootF_fuel f g (floorL node (a :: b :: r)) ?_ ?_ <;> rw [floorL_len] <;> simp at h1 h2 ⊢ <;> omega
theorem rootF_up (l : List α) (h : 2 ≤ l.length) : rootF node e l.length l = rootF node e (floorL node l).length (floorL node l) := by
  match l, h with
  | a :: b :: r, _ =>
    show rootF node e (r.length + 1) (floorL node (a :: b :: r)) = _
    refine rootF_fuel _ _ _ ?_ (Nat.le_refl _)
    rw [floorL_len]; simp; omega
theorem rootF_one (d : α) : rootF node e [d].length [d] = d := rfl
/-- The root of the floors, whatever the fuel. -/
def root (node : α → α → α) (e : α) (l : List α) : α := rootF node e l.length l
theorem root_up {l : List α} (h : 2 ≤ l.length) : root node e l = root node e (floorL node l) := rootF_up l h
theorem root_single {l : List α} (h : l.length ≤ 1) : floorL node l = l := by
  match l, h with
  | [], _ => rfl
  | [a], _ => rfl
  | a :: b :: r, h => simp at h
theorem root_up' (l : List α) : root node e l = root node e (floorL node l) := by
  rcases Nat.lt_or_ge l.length 2 with h | h
  · rw [root_single (by omega)]
  · exact root_up h
theorem root_split (H : Halves half) : ∀ (n : Nat) (l : List α), l.length = n → 2 ≤ n → root node e l = node (root node e (l.take (half n))) (root node e (l.drop (half n))) := by
  intro n
  induction n using Nat.strongRecOn with
  | _ n ih =>
    intro l hl hn
    have h1 := H.lt n hn
    have h2 := H.le n hn
    by_cases h3 : n = 2
    · subst h3
      rw [H.two]
      match l, hl with
      | [a, b], _ => rfl
    · have he := H.even n (by omega)
      have hu := H.up n (by omega)
      have hlen : (floorL node l).length = (n + 1) / 2 := by rw [floorL_len, hl]
      have hs := floorL_app (node := node) (l.take (half n)) (l.drop (half n)) (by rw [List.length_take, hl, Nat.min_eq_left (by omega)]; exact he)
      rw [List.take_append_drop] at hs
      have ht : (floorL node (l.take (half n))).length = half n / 2 := by rw [floorL_len, List.length_take, hl, Nat.min_eq_left (by omega)]; omega
      rw [root_up' l, ih ((n + 1) / 2) (by omega) (floorL node l) hlen (by omega), hu, hs, List.take_append_of_le_length (by omega), List.take_of_length_le (by omega),
        List.drop_append_of_le_length (by omega), List.drop_of_length_le (by omega), List.nil_append, ← root_up', ← root_up']
/-- The path, whatever the fuel. -/
def path (node : α → α → α) (l : List α) (i : Nat) : List α := pathF node l.length l i
theorem pathF_fuel : ∀ (f g : Nat) (l : List α) (i : Nat), l.length ≤ f → l.length ≤ g → pathF node f l i = pathF node g l i
  | 0, g, l, i, h, _ => by
    have : l = [] := List.eq_nil_of_length_eq_zero (by omega)
    subst this
    cases g <;> rfl
  | f + 1, 0, l, i, _, h => by
    have : l = [] := List.eq_nil_of_length_eq_zero (by omega)
    subst this
    rfl
  | f + 1, g + 1, l, i, h1, h2 => by
    unfold pathF
    by_cases h : l.length ≤ 1
    · rw [if_pos h, if_pos h]
    · rw [if_neg h, if_neg h]
      congr 1
      refine pathF_fuel f g _ _ ?_ ?_ <;> rw [floorL_len] <;> omega
theorem path_one {l : List α} (h : l.length ≤ 1) (i : Nat) : path node l i = [] := by
  unfold path
  match l, h with
  | [], _ => rfl
  | [a], _ => rfl
  | a :: b :: r, h => simp at h
/-- Who stands beside. -/
def sib (l : List α) (i : Nat) : List α := match l[beside i]? with | some x => [x] | none => []
theorem path_up {l : List α} (h : 2 ≤ l.length) (i : Nat) : path node l i = sib l i ++ path node (floorL node l) (i / 2) := by
  obtain ⟨f, hf⟩ : ∃ f, l.length = f + 1 := ⟨l.length - 1, by omega⟩
  unfold path
  rw [hf]
  show (if l.length ≤ 1 then [] else sib l i ++ pathF node f (floorL node l) (i / 2)) = _
  rw [if_neg (by omega)]
  congr 1
  refine pathF_fuel _ _ _ _ ?_ (Nat.le_refl _)
  rw [floorL_len]; omega
theorem path_split (H : Halves half) : ∀ (n : Nat) (l : List α) (i : Nat), l.length = n → 2 ≤ n → i < n →
    path node l i = if i < half n then path node (l.take (half n)) i ++ [root node e (l.drop (half n))] else path node (l.drop (half n)) (i - half n) ++ [root node e (l.take (half n))] := by
  intro n
  induction n using Nat.strongRecOn with
  | _ n ih =>
    intro l i hl hn hi
    have h1 := H.lt n hn
    have h2 := H.le n hn
    by_cases h3 : n = 2
    · subst h3
      rw [H.two]
      match l, hl, i, hi with
      | [a, b], _, 0, _ => rfl
      | [a, b], _, 1, _ => rfl
    · have he := H.even n (by omega)
      have hu := H.up n (by omega)
      have hlen : (floorL node l).length = (n + 1) / 2 := by rw [floorL_len, hl]
      have hs := floorL_app (node := node) (l.take (half n)) (l.drop (half n)) (by rw [List.length_take, hl, Nat.min_eq_left (by omega)]; exact he)
      rw [List.take_append_drop] at hs
      have ht : (floorL node (l.take (half n))).length = half n / 2 := by rw [floorL_len, List.length_take, hl, Nat.min_eq_left (by omega)]; omega
      have hT : (floorL node l).take (half n / 2) = floorL node (l.take (half n)) := by rw [hs, List.take_append_of_le_length (by omega), List.take_of_length_le (by omega)]
      have hD : (floorL node l).drop (half n / 2) = floorL node (l.drop (half n)) := by rw [hs, List.drop_append_of_le_length (by omega), List.drop_of_length_le (by omega), List.nil_append]
      rw [path_up (by omega) i, ih ((n + 1) / 2) (by omega) (floorL node l) (i / 2) hlen (by omega) (by omega), hu, hT, hD, ← root_up', ← root_up']
      have hlt : (l.take (half n)).length = half n := by rw [List.length_take, hl, Nat.min_eq_left (by omega)]
      have hld : (l.drop (half n)).length = n - half n := by rw [List.length_drop, hl]
      by_cases hih : i < half n
      · rw [if_pos hih, if_pos (by omega), path_up (l := l.take (half n)) (by omega) i, List.append_assoc]
        congr 1
        unfold sib
        rw [List.getElem?_take_of_lt (by unfold beside; split <;> omega)]
      · rw [if_neg hih, if_neg (by omega)]
        by_cases hone : n - half n = 1
        · have hb : sib l i = [] := by
            unfold sib
            rw [List.getElem?_eq_none (by unfold beside; split <;> omega)]
          rw [hb, root_single (node := node) (l := l.drop (half n)) (by omega), path_one (by omega), path_one (by omega)]
          rfl
        · rw [path_up (l := l.drop (half n)) (by omega) (i - half n), List.append_assoc, show (i - half n) / 2 = i / 2 - half n / 2 by omega]
          congr 1
          unfold sib
          rw [List.getElem?_drop, show half n + beside (i - half n) = beside i by unfold beside; split <;> split <;> omega]
/-- By halves. -/
def rootR (node : α → α → α) (half : Nat → Nat) (e : α) : Nat → List α → α
  | 0, _ => e
  | f + 1, l => if l.length = 0 then e else if l.length = 1 then l.head?.getD e else node (rootR node half e f (l.take (half l.length))) (rootR node half e f (l.drop (half l.length)))
theorem rootR_root (H : Halves half) : ∀ (f : Nat) (l : List α), l.length ≤ f → rootR node half e f l = root node e l
  | 0, l, h => by
    have : l = [] := List.eq_nil_of_length_eq_zero (by omega)
    subst this; rfl
  | f + 1, l, h => by
    unfold rootR
    by_cases h0 : l.length = 0
    · have : l = [] := List.eq_nil_of_length_eq_zero h0
      subst this; rfl
    · rw [if_neg h0]
      by_cases h1 : l.length = 1
      · rw [if_pos h1]
        match l, h1 with
        | [a], _ => rfl
      · rw [if_neg h1]
        have hlt := H.lt l.length (by omega)
        have hle := H.le l.length (by omega)
        rw [rootR_root H f _ (by rw [List.length_take]; omega), rootR_root H f _ (by rw [List.length_drop]; omega), ← root_split (node := node) (e := e) H l.length l rfl (by omega)]
end
end Go.Proofs.YtjihklaocgmlpaaDoor
