/- Contracts of package tree and of the document's: Leaf, Node, half. -/
import Derived.Test.YtdlmamnnamlleaaDoorDig
import Derived.Deep.RegionLaw
import Derived.Deep.RegionHeld3
namespace Go.Proofs.YtdlmamnnamlleaaDoor
open Go.ChangeShapes Go.WideShapes Go.ChangeAt Go.RowKit
set_option maxHeartbeats 400000
set_option maxRecDepth 100000
attribute [local irreducible] arrV dgA sha
attribute [local go_sem ↓] load_o32 store_o32 execl_o32 execs_o32
attribute [local go_sem] isHead_mk isPart_mk offOf_mk blkOf_mk isAgg_mk cellsV_mk row_drew rowAt_drew row_new_cells row_old rowAt_new rowAt_old setRow_new bs_app

def leafL (K : Nat → W32) (p : List UInt8) : List UInt8 := sha K (0 :: p)
def nodeL (K : Nat → W32) (a b : List UInt8) : List UInt8 := sha K (1 :: (a ++ b))
theorem leaf_len (K : Nat → W32) (p : List UInt8) : (leafL K p).length = 32 := sha_len _ _
theorem node_len (K : Nat → W32) (a b : List UInt8) : (nodeL K a b).length = 32 := sha_len _ _
/-- A literal of one byte. -/
theorem bs_lit (w : World) (b : UInt8) (t : TypeId) : Bs (w.alloc (.cells #[.int .u8 (b.toNat : Int)] t)) (some ⟨w.heap.size, 0, none⟩) [b] 1 :=
  ⟨Rd.of_blk (cs := #[.int .u8 (b.toNat : Int)]) (push_new _ _) (B := (w.alloc (.cells #[.int .u8 (b.toNat : Int)] t)).heap.size) (by simp), by simp, by omega⟩
theorem bs_lit0 (w : World) (t : TypeId) : Bs (w.alloc (.cells #[.int .u8 0] t)) (some ⟨w.heap.size, 0, none⟩) [0] 1 := bs_lit w 0 t
theorem bs_lit1 (w : World) (t : TypeId) : Bs (w.alloc (.cells #[.int .u8 1] t)) (some ⟨w.heap.size, 0, none⟩) [1] 1 := bs_lit w 1 t
theorem bs_lit1d (w : World) (t : TypeId) : Bs ((w.alloc (.cells #[.int .u8 1] t)).drew) (some ⟨w.heap.size, 0, none⟩) [1] 1 := Bs.step (Below.refl _ _).drew (bs_lit1 w t)
theorem writeN {K : Nat → W32} {w : World} {A : Option Addr} {l : List UInt8} {n c : Nat} (hT : Tabs K w) (m m' : List UInt8) (h : Bs w A l c) (hn : l.length = n) (hm : m ++ l = m') : Calls Tryd.prog 75 #[.agg (stL K m).cells, .slice A n c] w fun e w' => e = .returned (.agg (stL K m').cells) ∧ Below w.heap.size w w' := by
  subst hn hm
  exact writeC hT m h
theorem below_al {a w : World} (h : Below a.heap.size a w) (o : Obj) : Below a.heap.size a (w.alloc o) := h.alloc h.size o
section
variable {K : Nat → W32} {w : World} {A : Option Addr} {a b : List UInt8} {c : Nat}
theorem nodeW1 (hT : Tabs K w) (h : Bs w A [1] c) : Calls Tryd.prog 75 #[.agg (stL K []).cells, .slice A 1 c] w fun e w' => e = .returned (.agg (stL K [1]).cells) ∧ Below w.heap.size w w' := writeN hT [] [1] h rfl rfl
theorem nodeW2 (hl : a.length = 32) (hT : Tabs K w) (h : Bs w A a c) : Calls Tryd.prog 75 #[.agg (stL K [1]).cells, .slice A 32 c] w fun e w' => e = .returned (.agg (stL K (1 :: a)).cells) ∧ Below w.heap.size w w' := writeN hT [1] (1 :: a) h hl rfl
theorem nodeW3 (hl : b.length = 32) (hT : Tabs K w) (h : Bs w A b c) : Calls Tryd.prog 75 #[.agg (stL K (1 :: a)).cells, .slice A 32 c] w fun e w' => e = .returned (.agg (stL K (1 :: (a ++ b))).cells) ∧ Below w.heap.size w w' := writeN hT (1 :: a) (1 :: (a ++ b)) h hl rfl
end
end Go.Proofs.YtdlmamnnamlleaaDoor
