/- Package rule's Kinds, classOf, sized. -/
import Derived.Test.YtakooljbkjnilaaRu10
namespace Go.Proofs.Ytakooljbkjnilaa
open Go.ChangeShapes Go.WideShapes Go.ChangeAt Go.RowKit
set_option maxHeartbeats 1000000
set_option maxRecDepth 100000
attribute [local go_sem] kp_refl kp_alloc kp_setCell kp_drew kp_drewN row_new row_old rowAt_new rowAt_old

theorem SInt : SlT Try.prog 56 3 1 8 := SlT.mk' Try.underlying56 (by kernel_rfl) (by omega)
def upK (n : Nat) : List Nat := (List.range n).map (· + 1)
theorem upK_succ (n : Nat) : upK (n + 1) = upK n ++ [n + 1] := by simp [upK, List.range_succ]
theorem upK_len (n : Nat) : (upK n).length = n := by simp [upK]
/-- The kinds of a class. -/
def kindsN (c : Nat) : List Nat := if c = 1 then upK 7 else if c = 2 then upK 17 else if c = 3 then upK 7 ++ [14] else if c = 4 then upK 13 ++ [18] else []
def kndV (l : List Nat) : List Value := l.map fun k : Nat => Value.int .i64 (k : Int)
theorem kndV_len (l : List Nat) : (kndV l).length = l.length := by simp [kndV]
theorem kindsN_len (c : Nat) : (kindsN c).length ≤ 17 := by
  unfold kindsN upK
  repeat' split
  all_goals simp
/-- A slice of numbers that a call has made. -/
def IntsR (s : List Nat) (w : World) (v : Value) (w' : World) : Prop := ∃ A c, v = .slice A s.length c ∧ s.length ≤ c ∧ c ≤ 9223372036854775807 ∧ Rd w' w'.heap.size A (kndV s) ∧ Below w.heap.size w w'
theorem intsR_of {w W : World} {v : Value} {s : List Nat} (h : Own w w.heap.size 3 v (kndV s) W) : IntsR s w v W := by
  obtain ⟨A, c, rfl, h1, h2⟩ := h.form
  rw [kndV_len] at h1
  rw [kndV_len] at h ⊢
  exact ⟨A, c, rfl, h1, h2, h.rd, h.bel⟩

/-! classOf, sized -/
def clsL (l : List KV) : Nat := match lookK l 1 with | some [b] => b.toNat | _ => 0
def sizedP (c : Nat) (n : Int) : Bool := if c = 2 then (n == 16 || (n == 24 || n == 32)) else if c = 3 ∨ c = 4 then n == 32 else true
end Go.Proofs.Ytakooljbkjnilaa
