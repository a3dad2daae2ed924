/- Package rule's Valid. -/
import Derived.Test.YtakooljbkjnilaaRu12
namespace Go.Proofs.Ytakooljbkjnilaa
open Go.ChangeShapes Go.WideShapes Go.ChangeAt Go.RowKit
set_option maxHeartbeats 1000000
set_option maxRecDepth 100000
attribute [local go_sem] kp_refl kp_alloc kp_setCell kp_drew kp_drewN row_new row_old rowAt_new rowAt_old

def kindsAre (l : List At) : Bool := decide (l.map At.kind = (kindsN (clsL (l.map At.kv))).map fun k : Nat => (k : Int))
def validP (l : List At) : Bool := fault (l.map At.kv) == 0 && (decide (l.length = (kindsN (clsL (l.map At.kv))).length) && (decide (l.length ≠ 0) && (kindsAre l && (sizedP (clsL (l.map At.kv)) ((look l 4).getD []).length && soundP l))))
theorem clsL_lt (l : List KV) : clsL l < 256 := by
  unfold clsL
  split
  · rename_i b _; exact b.toNat_lt
  · omega
theorem kindsAre_no {l : List At} {j : Nat} (hj : j < l.length) (hj2 : j < (kindsN (clsL (l.map At.kv))).length) (h : l[j].kind ≠ ((kindsN (clsL (l.map At.kv)))[j] : Nat)) : kindsAre l = false := by
  simp only [kindsAre, decide_eq_false_iff_not]
  intro e
  have h1 : (l.map At.kind)[j]? = ((kindsN (clsL (l.map At.kv))).map fun k : Nat => (k : Int))[j]? := by rw [e]
  simp [hj, hj2] at h1
  exact h h1
theorem kindsAre_yes {l : List At} (hlen : l.length = (kindsN (clsL (l.map At.kv))).length) (h : ∀ j (hj : j < l.length) (hj2 : j < (kindsN (clsL (l.map At.kv))).length), l[j].kind = ((kindsN (clsL (l.map At.kv)))[j] : Nat)) : kindsAre l = true := by
  simp only [kindsAre, decide_eq_true_eq]
  apply List.ext_getElem
  · simpa using hlen
  · intro j h1 h2
    simp at h1 h2
    simp only [List.getElem_map]
    exact h j h1 h2

end Go.Proofs.Ytakooljbkjnilaa
