/- Contracts of attr.Check and of the document's AttrsFault. -/
import Derived.Test.YtakooljbkjnilaaRu1
import Derived.Test.YtakooljbkjnilaaFa
namespace Go.Proofs.Ytakooljbkjnilaa
open Go.ChangeShapes Go.WideShapes Go.ChangeAt Go.RowKit
set_option maxHeartbeats 1000000
set_option maxRecDepth 100000
attribute [local go_sem] kp_refl kp_alloc kp_setCell kp_drew kp_drewN row_new row_old rowAt_new rowAt_old

theorem faultAt_kind {pre : List KV} {x : KV} (h : x.1 < 1 ∨ 18 < x.1) : faultAt pre x = 13 := by unfold faultAt; rw [if_pos h]
theorem faultAt_form {pre : List KV} {x : KV} (h : ¬ (x.1 < 1 ∨ 18 < x.1)) (hf : fitsB x = false) : faultAt pre x = 4 := by unfold faultAt; rw [if_neg h, if_pos hf]
theorem faultAt_arg {pre : List KV} {x : KV} (h : ¬ (x.1 < 1 ∨ 18 < x.1)) (hf : fitsB x = true) (hs : seenK pre x.1 = true) : faultAt pre x = 1 := by unfold faultAt; rw [if_neg h, if_neg (by simp [hf]), if_pos hs]
theorem faultAt_ok {pre : List KV} {x : KV} (h : ¬ (x.1 < 1 ∨ 18 < x.1)) (hf : fitsB x = true) (hs : seenK pre x.1 = false) : faultAt pre x = 0 := by unfold faultAt; rw [if_neg h, if_neg (by simp [hf]), if_neg (by simp [hs])]

theorem take_snoc (l : List At) {j : Nat} (h : j < l.length) : (l.map At.kv).take (j + 1) = (l.map At.kv).take j ++ [l[j].kv] := by
  rw [List.take_succ_eq_append_getElem (by simpa using h)]; simp

theorem goodL_all (l : List At) (h : goodTo (l.map At.kv) l.length) (hl : l.length ≤ 24) : fault (l.map At.kv) = 0 := by
  have h' : goodTo (l.map At.kv) (l.map At.kv).length := by rw [List.length_map]; exact h
  exact h'.all (by rw [List.length_map]; exact hl)
theorem goodL_stop {l : List At} {j : Nat} (h : goodTo (l.map At.kv) j) (hl : l.length ≤ 24) (hj : j < l.length) {z : Int} (hz : z ≠ 0) (hx : faultAt ((l.map At.kv).take j) l[j].kv = z) : fault (l.map At.kv) = z :=
  h.stop (by rw [List.length_map]; exact hl) (by rw [List.length_map]; exact hj) hz (by rw [List.getElem_map]; exact hx)
theorem goodL_step {l : List At} {j : Nat} (h : goodTo (l.map At.kv) j) (hj : j < l.length) (hx : faultAt ((l.map At.kv).take j) l[j].kv = 0) : goodTo (l.map At.kv) (j + 1) :=
  h.step (by rw [List.length_map]; exact hj) (by rw [List.getElem_map]; exact hx)

/-- The marks of Check. -/
def marks (pre : List KV) (k : Nat) : Value := .bool (seenK pre k)
theorem marks0 : (#[.bool false, .bool false, .bool false, .bool false, .bool false, .bool false, .bool false, .bool false, .bool false, .bool false, .bool false, .bool false, .bool false, .bool false, .bool false, .bool false, .bool false, .bool false, .bool false] : Array Value) = fnA 19 (marks []) := by kernel_rfl
theorem marks_step (pre : List KV) (x : KV) (n : Nat) (h : x.1 = n) : updV (marks pre) n (.bool true) = marks (pre ++ [x]) := by
  funext k
  unfold updV marks
  rw [seenK_snoc, h]
  by_cases e : k = n
  · subst e; simp
  · have e2 : ((n : Int) == (k : Int)) = false := by simp; omega
    rw [if_neg e, e2, Bool.or_false]

end Go.Proofs.Ytakooljbkjnilaa
