/- Package rule's sound; slices.ContainsFunc and Contains over ints. -/
import Derived.Test.YtakooljbkjnilaaRu11
namespace Go.Proofs.Ytakooljbkjnilaa
open Go.ChangeShapes Go.WideShapes Go.ChangeAt Go.RowKit
set_option maxHeartbeats 1000000
set_option maxRecDepth 100000
attribute [local go_sem] kp_refl kp_alloc kp_setCell kp_drew kp_drewN row_new row_old rowAt_new rowAt_old

def anyOne (l : List At) (ks : List Nat) : Bool := ks.any fun k : Nat => lookOne l (k : Int)
/-- The first number of which it is so, or -1. -/
def fstOne (l : List At) (ks : List Nat) : Int := match ks.findIdx? fun k : Nat => lookOne l (k : Int) with | some i => (i : Int) | none => -1
theorem fstOne_some {l : List At} {ks : List Nat} {i : Nat} (hi : i < ks.length) (h : lookOne l (ks[i] : Nat) = true) (hn : ∀ j (hj : j < i), lookOne l ((ks[j]'(by omega) : Nat) : Int) = false) : fstOne l ks = i := by
  unfold fstOne
  rw [List.findIdx?_eq_some_iff_getElem.2 ⟨hi, h, fun j hj => by simpa using hn j hj⟩]
theorem fstOne_none {l : List At} {ks : List Nat} (hn : ∀ j (hj : j < ks.length), lookOne l (ks[j] : Nat) = false) : fstOne l ks = -1 := by
  unfold fstOne
  rw [List.findIdx?_eq_none_iff.2 fun x hx => by obtain ⟨j, hj, rfl⟩ := List.getElem_of_mem hx; simpa using hn j hj]
theorem fstOne_any (l : List At) (ks : List Nat) : decide (0 ≤ fstOne l ks) = anyOne l ks := by
  unfold fstOne anyOne
  cases h : ks.findIdx? fun k : Nat => lookOne l (k : Int) with
  | none =>
    have h2 := List.findIdx?_eq_none_iff.1 h
    symm
    simp only [show ¬ (0 : Int) ≤ -1 by omega, decide_false]
    rw [List.any_eq_false]
    intro x hx
    simpa using h2 x hx
  | some i =>
    obtain ⟨hi, h2, -⟩ := List.findIdx?_eq_some_iff_getElem.1 h
    symm
    simp only [show (0 : Int) ≤ (i : Int) by omega, decide_true]
    rw [List.any_eq_true]
    exact ⟨_, List.getElem_mem hi, h2⟩
theorem kndV_at {ks : List Nat} {j : Nat} (h : j < ks.length) : (kndV ks)[j]'(by rw [kndV_len]; exact h) = .int .i64 (ks[j] : Nat) := by simp [kndV]

section
variable (A : Option Addr) (l : List At) (c : Nat) (g : Nat) (K : Option Addr) (ks : List Nat) (kc : Nat) (w : World) (h : Ats w w.heap.size A l) (hl : l.length ≤ 9223372036854775807) (hg : w.cell? ⟨g, 0, none⟩ = some (.slice A l.length c)) (hgl : g < w.heap.size)
  (hk : Rd w w.heap.size K (kndV ks)) (hkl : ks.length ≤ 100)
include h hl hg hgl hk hkl
end

def soundP (l : List At) : Bool := if (lookOne l 10 && !lookOne l 8) || (lookOne l 11 && lookOne l 9) then false else !(lookOne l 16 || lookOne l 17) || !(lookOne l 13 || (lookOne l 14 || lookOne l 15))
end Go.Proofs.Ytakooljbkjnilaa
