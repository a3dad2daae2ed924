/- Contracts of the document's Leaf and Node, and of package tree's half. -/
import Derived.Test.YtdlmamnnamlleaaDoorTree
namespace Go.Proofs.YtdlmamnnamlleaaDoor
open Go.ChangeShapes Go.WideShapes Go.ChangeAt Go.RowKit
set_option maxHeartbeats 400000
set_option maxRecDepth 100000
attribute [local irreducible] arrV dgA sha
attribute [local go_sem ↓] load_o32 store_o32 execl_o32 execs_o32
attribute [local go_sem] isHead_mk isPart_mk offOf_mk blkOf_mk isAgg_mk cellsV_mk row_drew rowAt_drew row_new_cells row_old rowAt_new rowAt_old setRow_new bs_app

theorem conv32 {w : World} {A : Option Addr} {l : List UInt8} {c : Nat} (h : Bs w A l c) (hl : l.length = 32) : (convert 22 9 (.slice A 32 c)).run Tryd.prog w = .ok (strV l) w := by rw [← hl]; exact h.conv
/-! half -/
def halfN (n : Nat) : Nat := 2 ^ Nat.log2 (n - 1)
theorem halfN_lt {n : Nat} (h : 2 ≤ n) : halfN n < n := by
  have := Nat.log2_self_le (n := n - 1) (by omega)
  unfold halfN; omega
theorem halfN_le {n : Nat} (h : 2 ≤ n) : n ≤ 2 * halfN n := by
  have := Nat.lt_log2_self (n := n - 1)
  unfold halfN
  rw [Nat.pow_succ] at this
  omega
theorem halfN_of {n j : Nat} (h1 : 2 ^ j < n) (h2 : n ≤ 2 * 2 ^ j) : halfN n = 2 ^ j := by
  unfold halfN
  congr 1
  have h3 := Nat.log2_self_le (n := n - 1) (by have := Nat.pow_pos (n := j) (show 0 < 2 by omega); omega)
  have h4 := Nat.lt_log2_self (n := n - 1)
  rcases Nat.lt_trichotomy (n - 1).log2 j with h | h | h
  · have := Nat.pow_le_pow_right (show 0 < 2 by omega) (show (n - 1).log2 + 1 ≤ j by omega)
    omega
  · exact h
  · have := Nat.pow_le_pow_right (show 0 < 2 by omega) (show j + 1 ≤ (n - 1).log2 by omega)
    rw [Nat.pow_succ] at this
    omega
end Go.Proofs.YtdlmamnnamlleaaDoor
