/- Cards of attributes: Upon. -/
import Derived.Test.YtakooljbkjnilaaRu6
import Derived.Deep.QuietTactic
namespace Go.Proofs.Ytakooljbkjnilaa
open Go.ChangeShapes Go.WideShapes Go.ChangeAt Go.RowKit
set_option maxHeartbeats 1000000
set_option maxRecDepth 100000
attribute [local go_sem] kp_refl kp_alloc kp_setCell kp_drew kp_drewN row_new row_old rowAt_new rowAt_old

/-! Upon -/

attribute [local go_sem] isHead_mk blkOf_mk isAgg_mk cellsV_mk row_drew rowAt_drew row_new_cells setRow_new
def Crd.uponTo (c d : Crd) (n : Nat) : Crd := ⟨fun k => if k < n ∧ d.has k = true then true else c.has k, fun k => if k < n ∧ d.has k = true then d.v k else c.v k⟩
def Crd.upon (c d : Crd) : Crd := c.uponTo d 19
theorem uponTo_zero (c d : Crd) : c.uponTo d 0 = c := by
  unfold Crd.uponTo
  simp
theorem uponTo_no {c d : Crd} {n : Nat} (h : d.has n = false) : c.uponTo d (n + 1) = c.uponTo d n := by
  have key : ∀ k, (k < n + 1 ∧ d.has k = true) ↔ (k < n ∧ d.has k = true) := fun k => by
    constructor
    · rintro ⟨h1, h2⟩
      refine ⟨?_, h2⟩
      rcases Nat.lt_or_ge k n with h3 | h3
      · exact h3
      · obtain rfl : k = n := by omega
        rw [h] at h2; cases h2
    · rintro ⟨h1, h2⟩; exact ⟨by omega, h2⟩
  unfold Crd.uponTo
  congr 1
  · funext k; simp only [key k]
  · funext k; simp only [key k]
theorem uponTo_yes {c d : Crd} {n : Nat} (h : d.has n = true) : c.uponTo d (n + 1) = ⟨updH (c.uponTo d n).has n, updB (c.uponTo d n).v n (d.v n)⟩ := by
  unfold Crd.uponTo updH updB
  congr 1
  · funext k
    by_cases e : k = n
    · subst e; simp [h]
    · simp only [if_neg e]
      by_cases h2 : k < n
      · simp [h2, show k < n + 1 by omega]
      · simp [h2, show ¬ k < n + 1 by omega]
  · funext k
    by_cases e : k = n
    · subst e; simp [h]
    · simp only [if_neg e]
      by_cases h2 : k < n
      · simp [h2, show k < n + 1 by omega]
      · simp [h2, show ¬ k < n + 1 by omega]
end Go.Proofs.Ytakooljbkjnilaa
