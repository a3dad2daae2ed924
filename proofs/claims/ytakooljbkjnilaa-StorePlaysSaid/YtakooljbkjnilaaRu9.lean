/- Cards of attributes: Object, Valid. -/
import Derived.Test.YtakooljbkjnilaaRu7
import Derived.Test.YtakooljbkjnilaaRu8
import Derived.Deep.RegionLaw
namespace Go.Proofs.Ytakooljbkjnilaa
open Go.ChangeShapes Go.WideShapes Go.ChangeAt Go.RowKit
set_option maxHeartbeats 1000000
set_option maxRecDepth 100000
attribute [local go_sem] kp_refl kp_alloc kp_setCell kp_drew kp_drewN row_new row_old rowAt_new rowAt_old

attribute [local go_sem] isHead_mk blkOf_mk isAgg_mk cellsV_mk row_drew rowAt_drew row_new_cells setRow_new

def Crd.fitsK (c : Crd) : Bool := (List.range 18).all fun k => c.has (k + 1) == belongs c.cls ((k + 1 : Nat) : Int)
def Crd.tied (c : Crd) : Bool := (!c.one 10 || c.one 8) && (!c.one 11 || !c.one 9) && !((c.one 16 || c.one 17) && (c.one 13 || c.one 14 || c.one 15))
def Crd.object (c : Crd) : Bool := c.fitsK && (c.has 1 && (sizedR c.cls (c.v 4).length && c.tied))
theorem fitsK_no {c : Crd} {n : Nat} (h1 : 1 ≤ n) (h2 : n ≤ 18) (h : c.has n ≠ belongs c.cls (n : Int)) : c.object = false := by
  have : c.fitsK = false := by
    unfold Crd.fitsK
    rw [List.all_eq_false]
    refine ⟨n - 1, by simp; omega, ?_⟩
    rw [show n - 1 + 1 = n by omega]
    simpa using h
  simp [Crd.object, this]
theorem fitsK_yes {c : Crd} (h : ∀ n, 1 ≤ n → n < 19 → c.has n = belongs c.cls (n : Int)) : c.fitsK = true := by
  unfold Crd.fitsK
  rw [List.all_eq_true]
  intro k hk
  simp at hk
  rw [h (k + 1) (by omega) (by omega)]
  simp
theorem CrdAt.step {w w' : World} {g : Nat} {c : Crd} (h : CrdAt w g c) (hb : Below w.heap.size w w') : CrdAt w' g c := Fa.step h hb

end Go.Proofs.Ytakooljbkjnilaa
