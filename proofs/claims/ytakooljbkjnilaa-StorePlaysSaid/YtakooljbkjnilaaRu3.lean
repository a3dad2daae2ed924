/- Contract of the document's AttrsFault. -/
import Derived.Test.YtakooljbkjnilaaRu2
namespace Go.Proofs.Ytakooljbkjnilaa
open Go.ChangeShapes Go.WideShapes Go.ChangeAt Go.RowKit
set_option maxHeartbeats 1000000
set_option maxRecDepth 100000
attribute [local go_sem] kp_refl kp_alloc kp_setCell kp_drew kp_drewN row_new row_old rowAt_new rowAt_old

theorem seenK_at {l : List At} {i j : Nat} (hi : i < j) (hj : j ≤ l.length) {k : Int} (h : l[i].kind = k) : seenK ((l.map At.kv).take j) k = true := by
  unfold seenK
  rw [List.any_eq_true]
  refine ⟨l[i].kv, ?_, by simp [At.kv, h]⟩
  rw [List.mem_take_iff_getElem]
  exact ⟨i, by simp; omega, by simp⟩
theorem seenK_none {l : List At} {j : Nat} (hj : j ≤ l.length) {k : Int} (h : ∀ i (h : i < j), l[i].kind ≠ k) : seenK ((l.map At.kv).take j) k = false := by
  unfold seenK
  rw [List.any_eq_false]
  intro x hx
  rw [List.mem_take_iff_getElem] at hx
  obtain ⟨i, hi, rfl⟩ := hx
  simp at hi
  simpa [At.kv] using h i (by omega)

end Go.Proofs.Ytakooljbkjnilaa
