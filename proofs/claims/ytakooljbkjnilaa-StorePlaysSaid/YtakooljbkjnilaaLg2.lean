/- Package login: State, Close, CloseAll, New. -/
import Derived.Test.YtakooljbkjnilaaLg1
namespace Go.Proofs.Ytakooljbkjnilaa
open Go.ChangeShapes Go.WideShapes Go.ChangeAt Go.RowKit
set_option maxHeartbeats 1000000
set_option maxRecDepth 100000

theorem seat_look (l : List (Int × Bool)) (k : Int) : lookM (sesM l) k = (seat l k).map sesV := by
  rw [lookM_ses]; unfold seat
  cases l.find? fun p => p.1 == k <;> rfl
def stateP (l : List (Int × Bool)) (who k : Int) : Int × Int :=
  match seat l k with
  | none => (0, 6)
  | some true => (3 + who, 0)
  | some false => (1 + who, 0)
/-- Close. -/
def delS (l : List (Int × Bool)) (k : Int) : List (Int × Bool) := l.filter fun p => p.1 != k
theorem del_ses (l : List (Int × Bool)) (k : Int) : delM (sesM l) k = sesM (delS l k) := by
  unfold delM delS sesM
  induction l with
  | nil => rfl
  | cons p r ih =>
    simp only [List.map_cons, List.filter_cons]
    cases h : (p.1 != k)
    · exact ih
    · simp only [if_true, List.map_cons, ih]
theorem del_none (l : List (Int × Bool)) (k : Int) (h : (seat l k).isSome = false) : delS l k = l := by
  unfold delS
  rw [List.filter_eq_self]
  intro p hp
  unfold seat at h
  rw [Option.isSome_map] at h
  cases hpk : (p.1 == k) with
  | false => simpa using hpk
  | true =>
    have h2 := (List.find?_isSome (p := fun p : Int × Bool => p.1 == k) (xs := l)).2 ⟨p, hp, hpk⟩
    rw [h] at h2; cases h2
def closeZ (l : List (Int × Bool)) (k : Int) : Int := if (seat l k).isSome = false then 6 else 0
def CloseR (g bm : Nat) (most last who : Int) (l : List (Int × Bool)) (k : Int) (w : World) (e : Ending) (w' : World) : Prop :=
  e = .returned (.int .i64 (closeZ l k)) ∧ DeskAt w' g bm most last (if (seat l k).isSome = true ∧ (delS l k).length = 0 then 0 else who) (delS l k) ∧ But g bm w w'
end Go.Proofs.Ytakooljbkjnilaa
