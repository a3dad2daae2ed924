/- The document's Valid; package rule's Kinds, classOf, sized. -/
import Derived.Test.YtakooljbkjnilaaRu9
namespace Go.Proofs.Ytakooljbkjnilaa
open Go.ChangeShapes Go.WideShapes Go.ChangeAt Go.RowKit
set_option maxHeartbeats 1000000
set_option maxRecDepth 100000
attribute [local go_sem] kp_refl kp_alloc kp_setCell kp_drew kp_drewN row_new row_old rowAt_new rowAt_old

attribute [local go_sem] isHead_mk blkOf_mk isAgg_mk cellsV_mk row_drew rowAt_drew row_new_cells setRow_new

theorem cardOf_v_len (l : List At) {w : World} {B : Nat} {A : Option Addr} (h : Ats w B A l) (k : Nat) : ((cardOf (l.map At.kv)).v k).length ≤ 140737488351232 := by
  unfold cardOf
  simp only
  split
  · cases hl : lookK (l.map At.kv) (k : Int) with
    | none => simp
    | some b =>
      unfold lookK at hl
      obtain ⟨x, hx, rfl⟩ := Option.map_eq_some_iff.1 hl
      have hm := List.mem_of_find?_eq_some hx
      obtain ⟨y, hy, rfl⟩ := List.mem_map.1 hm
      exact (h.body y hy).2.2.2
  · simp
def validR (l : List KV) : Bool := fault l == 0 && (decide (l = (cardOf l).attrs) && (cardOf l).object)
end Go.Proofs.Ytakooljbkjnilaa
