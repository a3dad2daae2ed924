/- Paths in a tree, in plain Lean: from the top down, and floor by floor. No program is named here. -/
import Derived.WalkKit
namespace Go.Proofs.YtjihklaocgmlpaaDoor
section
variable {α : Type} (node : α → α → α) (half : Nat → Nat)

/-- From the top down, along the path from its end (the path is handed in reversed); of i leaves .. the fuel is n. -/
def climbR : Nat → Nat → Nat → α → List α → α × Bool
  | 0, _, _, d, _ => (d, false)
  | f + 1, n, i, d, r =>
    if n = 1 then (d, r.isEmpty) else
    match r with
    | [] => (d, false)
    | last :: r =>
      if i < half n then (node (climbR f (half n) i d r).1 last, (climbR f (half n) i d r).2)
      else (node last (climbR f (n - half n) (i - half n) d r).1, (climbR f (n - half n) (i - half n) d r).2)
/-- The one beside. -/
def beside (i : Nat) : Nat := if i % 2 = 0 then i + 1 else i - 1
/-- Floor by floor: what is left of the path, if all went well; the fuel is n. -/
def floors : Nat → Nat → Nat → α → List α → Option (α × List α)
  | 0, _, _, _, _ => none
  | f + 1, n, i, d, p =>
    if n = 1 then some (d, p) else
    if beside i < n then
      match p with
      | [] => none
      | x :: p => floors f ((n + 1) / 2) (i / 2) (if i % 2 = 0 then node d x else node x d) p
    else floors f ((n + 1) / 2) (i / 2) d p
end

section
variable {α : Type} {node : α → α → α} {half : Nat → Nat}
/-- What is asked of 'half'. -/
structure Halves (half : Nat → Nat) : Prop where
  lt : ∀ n, 2 ≤ n → half n < n
  le : ∀ n, 2 ≤ n → n ≤ 2 * half n
  even : ∀ n, 3 ≤ n → half n % 2 = 0
  up : ∀ n, 3 ≤ n → half ((n + 1) / 2) = half n / 2
theorem Halves.two (h : Halves half) : half 2 = 1 := by have := h.lt 2 (by omega); have := h.le 2 (by omega); omega

theorem floors_fuel : ∀ (f g n i : Nat) (d : α) (p : List α), n ≤ f → n ≤ g → 1 ≤ n → floors node f n i d p = floors node g n i d p
  | 0, g, n, i, d, p, h, _, h1 => by omega
  | f + 1, 0, n, i, d, p, _, h, h1 => by omega
  | f + 1, g + 1, n, i, d, p, h, h', h1 => by
      unfold floors
      by_cases e : n = 1
      · rw [if_pos e, if_pos e]
      · rw [if_neg e, if_neg e]
        split
        · cases p with
          | nil => rfl
          | cons x p => exact floors_fuel f g _ _ _ _ (by omega) (by omega) (by omega)
        · exact floors_fuel f g _ _ _ _ (by omega) (by omega) (by omega)
/-- One floor more. -/
theorem floors_step {n i : Nat} {d : α} {p : List α} (h : 2 ≤ n) : floors node n n i d p =
    (if beside i < n then match p with | [] => none | x :: p => floors node ((n + 1) / 2) ((n + 1) / 2) (i / 2) (if i % 2 = 0 then node d x else node x d) p
     else floors node ((n + 1) / 2) ((n + 1) / 2) (i / 2) d p) := by
  obtain ⟨m, rfl⟩ : ∃ m, n = m + 1 := ⟨n - 1, by omega⟩
  conv => lhs; unfold floors
  rw [if_neg (by omega)]
  split
  · cases p with
    | nil => rfl
    | cons x p => exact floors_fuel _ _ _ _ _ _ (by omega) (by omega) (by omega)
  · exact floors_fuel _ _ _ _ _ _ (by omega) (by omega) (by omega)
theorem floors_one {i : Nat} {d : α} {p : List α} : floors node 1 1 i d p = some (d, p) := rfl
/-- The whole path is eaten. -/
def whole (r : Option (α × List α)) : Option α := match r with | some (d, []) => some d | _ => none
def topped (f : α → α) (r : Option α) : Option α := r.map f
theorem floors_nil : ∀ (n i : Nat) (d : α), 2 ≤ n → i < n → whole (floors node n n i d []) = none := by
  intro n
  induction n using Nat.strongRecOn with
  | _ n ih =>
    intro i d h2 hi
    rw [floors_step h2]
    split
    · rfl
    · rename_i hb
      have h3 : 3 ≤ n := by
        rcases Nat.lt_or_ge n 3 with h3 | h3
        · exfalso
          have : n = 2 := by omega
          subst this
          unfold beside at hb
          split at hb <;> omega
        · exact h3
      exact ih ((n + 1) / 2) (by omega) (i / 2) d (by omega) (by omega)
theorem floors_split (h : Halves half) : ∀ (n i : Nat) (d last : α) (p : List α), 2 ≤ n → i < n →
    whole (floors node n n i d (p ++ [last])) =
      if i < half n then topped (fun x => node x last) (whole (floors node (half n) (half n) i d p)) else topped (fun x => node last x) (whole (floors node (n - half n) (n - half n) (i - half n) d p)) := by
  intro n
  induction n using Nat.strongRecOn with
  | _ n ih =>
    intro i d last p h2 hi
    have hlt := h.lt n h2
    have hle := h.le n h2
    rcases Nat.lt_or_ge n 3 with h3 | h3
    · have : n = 2 := by omega
      subst this
      have h1 := h.two
      rw [floors_step h2, h1]
      have hb : beside i < 2 := by unfold beside; split <;> omega
      rw [if_pos hb]
      simp only [show (2 + 1) / 2 = 1 from rfl, floors_one, show 2 - 1 = 1 from rfl]
      rcases (show i = 0 ∨ i = 1 by omega) with rfl | rfl
      · cases p with
        | nil => rfl
        | cons x p => cases p <;> rfl
      · cases p with
        | nil => rfl
        | cons x p => cases p <;> rfl
    · have hev := h.even n h3
      have hup := h.up n h3
      have IH := fun d p => ih ((n + 1) / 2) (by omega) (i / 2) d last p (by omega) (by omega)
      rw [hup] at IH
      rw [floors_step h2]
      by_cases hik : i < half n
      · have hbk : beside i < half n := by unfold beside; split <;> omega
        rw [if_pos (by omega)]
        have hI : i / 2 < half n / 2 := by omega
        simp only [if_pos hI] at IH
        rw [if_pos hik, floors_step (by omega), if_pos hbk, show (half n + 1) / 2 = half n / 2 by omega]
        cases p with
        | nil =>
          show whole (floors node _ _ _ _ []) = topped _ (whole none)
          rw [floors_nil _ _ _ (by omega) (by omega)]
          rfl
        | cons x p => exact IH _ p
      · have hI : ¬ i / 2 < half n / 2 := by omega
        simp only [if_neg hI] at IH
        rw [if_neg hik]
        have hbe : beside (i - half n) = beside i - half n := by unfold beside; split <;> split <;> omega
        have hge : half n ≤ beside i := by unfold beside; split <;> omega
        have e1 : (n - half n + 1) / 2 = (n + 1) / 2 - half n / 2 := by omega
        have e2 : (i - half n) / 2 = i / 2 - half n / 2 := by omega
        have e3 : (i - half n) % 2 = i % 2 := by omega
        by_cases hm : n - half n = 1
        · have hi1 : i = half n := by omega
          have hbn : ¬ beside i < n := by unfold beside; split <;> omega
          rw [if_neg hbn, IH]
          have e4 : (n + 1) / 2 - half n / 2 = 1 := by omega
          rw [e4, hm, show i / 2 - half n / 2 = 0 by omega, show i - half n = 0 by omega]
        · rw [floors_step (show 2 ≤ n - half n by omega), hbe, e1, e2, e3]
          by_cases hb : beside i < n
          · rw [if_pos hb, if_pos (by omega)]
            cases p with
            | nil =>
              show whole (floors node _ _ _ _ []) = topped _ (whole none)
              rw [floors_nil _ _ _ (by omega) (by omega)]
              rfl
            | cons x p => exact IH _ p
          · rw [if_neg hb, if_neg (by omega), IH]
/-- The two ways agree. -/
theorem climb_floors (h : Halves half) : ∀ (f n i : Nat) (d : α) (r : List α), n ≤ f → 1 ≤ n → i < n →
    (if (climbR node half f n i d r).2 = true then some (climbR node half f n i d r).1 else none) = whole (floors node n n i d r.reverse)
  | 0, n, i, d, r, hf, h1, _ => by omega
  | f + 1, n, i, d, r, hf, h1, hi => by
      unfold climbR
      by_cases e : n = 1
      · subst e
        rw [if_pos rfl, floors_one]
        cases r with
        | nil => rfl
        | cons x r =>
          have : (x :: r).reverse ≠ [] := by simp
          cases hr : (x :: r).reverse with
          | nil => exact absurd hr this
          | cons y l => simp [whole]
      · rw [if_neg e]
        have h2 : 2 ≤ n := by omega
        cases r with
        | nil =>
          show none = _
          rw [List.reverse_nil, floors_nil n i d h2 hi]
        | cons last r =>
          have hlt := h.lt n h2
          have hle := h.le n h2
          rw [List.reverse_cons, floors_split h n i d last r.reverse h2 hi]
          by_cases hik : i < half n
          · rw [if_pos hik, ← climb_floors h f (half n) i d r (by omega) (by omega) hik]
            simp only [hik, if_true]
            split <;> rfl
          · rw [if_neg hik, ← climb_floors h f (n - half n) (i - half n) d r (by omega) (by omega) (by omega)]
            simp only [hik, if_false]
            split <;> rfl
end
end Go.Proofs.YtjihklaocgmlpaaDoor
