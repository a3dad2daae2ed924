/- Contracts of package tree's Check, and of the document's. -/
import Derived.Test.YtjihklaocgmlpaaDoorTree3
import Derived.Test.YtjihklaocgmlpaaDoorBitsI
namespace Go.Proofs.YtjihklaocgmlpaaDoor
open Go.ChangeShapes Go.WideShapes Go.ChangeAt Go.RowKit
set_option maxHeartbeats 1000000
set_option maxRecDepth 100000
attribute [local irreducible] arrV dgA sha
attribute [local go_sem ↓] load_o32 store_o32 execl_o32 execs_o32 load_e32 execl_e32
attribute [local go_sem] isHead_mk isPart_mk offOf_mk blkOf_mk isAgg_mk cellsV_mk row_drew rowAt_drew row_new_cells row_old rowAt_new rowAt_old zeroD ldOk_drew ldC_drew

theorem xor_one (a : Nat) : a ^^^ 1 = beside a := by
  have h1 : (a ^^^ 1) / 2 = a / 2 ^^^ 1 / 2 := Nat.xor_div_two
  have h2 : (a ^^^ 1) % 2 = 1 ↔ ¬ (a % 2 = 1 ↔ 1 % 2 = 1) := Nat.xor_mod_two_eq_one
  rw [show 1 / 2 = 0 from rfl, Nat.xor_zero] at h1
  unfold beside
  split <;> omega
/-- What is asked of a path. -/
def pathOk (K : Nat → W32) (root : List UInt8) (n i : Nat) (p : List UInt8) (P : List (List UInt8)) : Bool := decide (whole (floors (nodeL K) n n i (leafL K p) P) = some root)
/-- A number of leaves, and a place among them, that may be asked. -/
def placeOk (n i : Int) : Prop := 1 ≤ n ∧ n ≤ 65536 ∧ 0 ≤ i ∧ i < n
end Go.Proofs.YtjihklaocgmlpaaDoor
