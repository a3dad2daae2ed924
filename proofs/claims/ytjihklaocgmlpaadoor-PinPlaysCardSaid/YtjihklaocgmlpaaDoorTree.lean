/- Contracts of package tree and of the document's: Leaf, Node, half. -/
import Derived.Test.YtjihklaocgmlpaaDoorDig
import Derived.Deep.RegionLaw
import Derived.Deep.RegionHeld3
namespace Go.Proofs.YtjihklaocgmlpaaDoor
open Go.ChangeShapes Go.WideShapes Go.ChangeAt Go.RowKit
set_option maxHeartbeats 400000
set_option maxRecDepth 100000
attribute [local irreducible] arrV dgA sha
attribute [local go_sem ↓] load_o32 store_o32 execl_o32 execs_o32
attribute [local go_sem] isHead_mk isPart_mk offOf_mk blkOf_mk isAgg_mk cellsV_mk row_drew rowAt_drew row_new_cells row_old rowAt_new rowAt_old setRow_new bs_app

def leafL (K : Nat → W32) (p : List UInt8) : List UInt8 := sha K (0 :: p)
def nodeL (K : Nat → W32) (a b : List UInt8) : List UInt8 := sha K (1 :: (a ++ b))
theorem leaf_len (K : Nat → W32) (p : List UInt8) : (leafL K p).length = 32 := sha_len _ _
theorem node_len (K : Nat → W32) (a b : List UInt8) : (nodeL K a b).length = 32 := sha_len _ _
/-- A literal of one byte. -/
theorem bs_lit (w : World) (b : UInt8) (t : TypeId) : Bs (w.alloc (.cells #[.int .u8 (b.toNat : Int)] t)) (some ⟨w.heap.size, 0, none⟩) [b] 1 :=
  ⟨Rd.of_blk (cs := #[.int .u8 (b.toNat : Int)]) (push_new _ _) (B := (w.alloc (.cells #[.int .u8 (b.toNat : Int)] t)).heap.size) (by simp), by simp, by omega⟩
theorem bs_lit0 (w : World) (t : TypeId) : Bs (w.alloc (.cells #[.int .u8 0] t)) (some ⟨w.heap.size, 0, none⟩) [0] 1 := bs_lit w 0 t
theorem bs_lit1 (w : World) (t : TypeId) : Bs (w.alloc (.cells #[.int .u8 1] t)) (some ⟨w.heap.size, 0, none⟩) [1] 1 := bs_lit w 1 t
theorem bs_lit1d (w : World) (t : TypeId) : Bs ((w.alloc (.cells #[.int .u8 1] t)).drew) (some ⟨w.heap.size, 0, none⟩) [1] 1 := Bs.step (Below.refl _ _).drew (bs_lit1 w t)
theorem writeN {K : Nat → W32} {w : World} {A : Option Addr} {l : List UInt8} {n c : Nat} (hT : Tabs K w) (m m' : List UInt8) (h : Bs w A l c) (hn : l.length = n) (hm : m ++ l = m') : Calls Tryd.prog 37 #[.agg (stL K m).cells, .slice A n c] w fun e w' => e = .returned (.agg (stL K m').cells) ∧ Below w.heap.size w w' := by
  subst hn hm
  exact writeC hT m h
theorem below_al {a w : World} (h : Below a.heap.size a w) (o : Obj) : Below a.heap.size a (w.alloc o) := h.alloc h.size o
theorem tree_Leaf (K : Nat → W32) (A : Option Addr) (p : List UInt8) (c : Nat) (w : World) (hT : Tabs K w) (hp : Bs w A p c) :
    Calls Tryd.prog 16 #[.slice A p.length c] w fun e w' => e = .returned (.agg (dgA (leafL K p))) ∧ Below w.heap.size w w' := by
  unfold leafL
  have hcz := dgA_cells []
  have hL0 := below_alloc w (Obj.cells (dgA []) 28)
  have hR0 : Row (w.alloc (Obj.cells (dgA []) 28)) w.heap.size 32 := (row_new rfl).2 hcz.1
  have hT0 := Lib.hid (hT.step hL0)
  have hp0 := Lib.hid (hp.step hL0)
  clear hT hp
  go_enter Tryd.func16, Tryd.ntmps16
  go_wp2_with fail
  rw [zeroD]
  generalize w.alloc (Obj.cells (dgA []) 28) = W0 at *
  refine (newC0 (K := K) _).mono ?_
  rintro e w1 ⟨rfl, hb1⟩
  have hL1 := below_step hb1 hL0 (Nat.le_refl _)
  have hR1 := row_below hR0 hb1 hR0.lt
  have hT1 := Lib.hid (hT0.out.step hb1)
  have hp1 := Lib.hid (hp0.out.step hb1)
  clear hb1 hL0 hR0 hT0 hp0
  go_wp2_with fail
  have ha := below_alloc w1 (Obj.cells #[Value.int .u8 0] 5)
  have hbl := Lib.hid (bs_lit0 w1 5)
  have hL2 := below_step ha hL1 (Nat.le_refl _)
  have hR2 := row_below hR1 ha hR1.lt
  have hT2 := Lib.hid (hT1.out.step ha)
  have hp2 := Lib.hid (hp1.out.step ha)
  clear ha hL1 hR1 hT1 hp1
  refine (writeN (K := K) hT2.out [] [0] hbl.out rfl rfl).mono ?_
  rintro e w3 ⟨rfl, hb3⟩
  have hL3 := below_step hb3 hL2 (Nat.le_refl _)
  have hR3 := row_below hR2 hb3 hR2.lt
  have hT3 := Lib.hid (hT2.out.step hb3)
  have hp3 := Lib.hid (hp2.out.step hb3)
  clear hb3 hL2 hR2 hT2 hp2 hbl
  go_wp2_with fail
  refine (writeN (K := K) hT3.out [0] (0 :: p) hp3.out rfl rfl).mono ?_
  rintro e w4 ⟨rfl, hb4⟩
  have hL4 := below_step hb4 hL3 (Nat.le_refl _)
  have hR4 := row_below hR3 hb4 hR3.lt
  have hT4 := Lib.hid (hT3.out.step hb4)
  clear hb4 hL3 hR3 hT3 hp3
  go_wp2_with fail
  refine (stSumD (K := K) hT4.out _).mono ?_
  rintro e w5 ⟨rfl, hb5⟩
  have hL5 := below_step hb5 hL4 (Nat.le_refl _)
  have hR5 := row_below hR4 hb5 hR4.lt
  have hco := dgA_cells (sha K (0 :: p))
  clear hb5 hL4 hR4 hT4
  go_wp2
  exact ret_stored (p := 2) (ty := 28) (g := w.heap.size) (n := 32) (c := dgA (sha K (0 :: p))) rfl Tryd.underlying28 rfl (by kernel_rfl) rfl hR5 hco.1 rfl ⟨rfl, below_setRow hL5 (Nat.le_refl _)⟩
section
variable {K : Nat → W32} {w : World} {A : Option Addr} {a b : List UInt8} {c : Nat}
theorem nodeW1 (hT : Tabs K w) (h : Bs w A [1] c) : Calls Tryd.prog 37 #[.agg (stL K []).cells, .slice A 1 c] w fun e w' => e = .returned (.agg (stL K [1]).cells) ∧ Below w.heap.size w w' := writeN hT [] [1] h rfl rfl
theorem nodeW2 (hl : a.length = 32) (hT : Tabs K w) (h : Bs w A a c) : Calls Tryd.prog 37 #[.agg (stL K [1]).cells, .slice A 32 c] w fun e w' => e = .returned (.agg (stL K (1 :: a)).cells) ∧ Below w.heap.size w w' := writeN hT [1] (1 :: a) h hl rfl
theorem nodeW3 (hl : b.length = 32) (hT : Tabs K w) (h : Bs w A b c) : Calls Tryd.prog 37 #[.agg (stL K (1 :: a)).cells, .slice A 32 c] w fun e w' => e = .returned (.agg (stL K (1 :: (a ++ b))).cells) ∧ Below w.heap.size w w' := writeN hT (1 :: a) (1 :: (a ++ b)) h hl rfl
end
theorem tree_Node (K : Nat → W32) (a b : List UInt8) (w : World) (hT : Tabs K w) (hla : a.length = 32) (hlb : b.length = 32) :
    Calls Tryd.prog 18 #[.agg (dgA a), .agg (dgA b)] w fun e w' => e = .returned (.agg (dgA (nodeL K a b))) ∧ Below w.heap.size w w' := by
  unfold nodeL
  have hca := dgA_cells a
  have hcb := dgA_cells b
  have hcz := dgA_cells []
  have hL0 : Below w.heap.size w (((w.alloc (Obj.cells (dgA a) 28)).alloc (Obj.cells (dgA b) 28)).alloc (Obj.cells (dgA []) 28)) := by go_grown
  have hA0 : Row (((w.alloc (Obj.cells (dgA a) 28)).alloc (Obj.cells (dgA b) 28)).alloc (Obj.cells (dgA []) 28)) w.heap.size 32 := by go_simp
  have ha0 : rowAt (((w.alloc (Obj.cells (dgA a) 28)).alloc (Obj.cells (dgA b) 28)).alloc (Obj.cells (dgA []) 28)) w.heap.size = dgA a := by go_simp
  have hB0 : Row (((w.alloc (Obj.cells (dgA a) 28)).alloc (Obj.cells (dgA b) 28)).alloc (Obj.cells (dgA []) 28)) (w.heap.size + 1) 32 := by go_simp
  have hb0 : rowAt (((w.alloc (Obj.cells (dgA a) 28)).alloc (Obj.cells (dgA b) 28)).alloc (Obj.cells (dgA []) 28)) (w.heap.size + 1) = dgA b := by go_simp
  have hR0 : Row (((w.alloc (Obj.cells (dgA a) 28)).alloc (Obj.cells (dgA b) 28)).alloc (Obj.cells (dgA []) 28)) (w.heap.size + 1 + 1) 32 := by go_simp
  have hT0 := Lib.hid (hT.below hL0 (Nat.le_refl _))
  clear hT
  go_enter Tryd.func18, Tryd.ntmps18
  go_wp2_with fail
  rw [zeroD]
  generalize (((w.alloc (Obj.cells (dgA a) 28)).alloc (Obj.cells (dgA b) 28)).alloc (Obj.cells (dgA []) 28)) = W0 at *
  have hAb := Lib.hid (rd_of_row hla hA0 ha0)
  have hBb := Lib.hid (rd_of_row hlb hB0 hb0)
  have hZ := hR0.lt
  clear hA0 ha0 hB0 hb0
  have hco := dgA_cells (sha K (1 :: (a ++ b)))
  have hs2 : ∀ V : World, Below W0.heap.size W0 V → Tabs K V ∧ Bs V (some ⟨w.heap.size, 0, none⟩) a 32 ∧ Bs V (some ⟨w.heap.size + 1, 0, none⟩) b 32 ∧ Row V (w.heap.size + 1 + 1) 32 := fun V hV =>
    ⟨hT0.out.step hV, hAb.out.step hV, hBb.out.step hV, row_below hR0 hV hR0.lt⟩
  have hS := Lib.hid hs2
  clear hs2 hT0 hAb hBb hR0
  go_region_law (first
    | (go_simp; go_at_call 36; (with_reducible refine (newC0 (K := K) _).mono ?_); rintro e w1 ⟨rfl, hb1⟩)
    | (go_simp; go_at_call 37; (with_reducible refine Calls.mono (nodeW1 (K := K) ?_ ?_) ?_); (focus (refine (hS.out _ ?_).1; repeat (first | assumption | exact Below.refl _ _ | refine Below.drew ?_ | refine below_al ?_ _ | refine below_step (by assumption) ?_ (Nat.le_refl _)))); (focus (first | exact bs_lit1 _ _ | exact Bs.step (by assumption) (bs_lit1d _ _) | exact Bs.step (by assumption) (bs_lit1 _ _))); rintro e w2 ⟨rfl, hb2⟩)
    | (go_simp; go_at_call 37; (with_reducible refine Calls.mono (nodeW2 (K := K) (a := a) hla ?_ ?_) ?_); (focus (refine (hS.out _ ?_).1; repeat (first | assumption | exact Below.refl _ _ | refine Below.drew ?_ | refine below_al ?_ _ | refine below_step (by assumption) ?_ (Nat.le_refl _)))); (focus (refine (hS.out _ ?_).2.1; repeat (first | assumption | exact Below.refl _ _ | refine Below.drew ?_ | refine below_al ?_ _ | refine below_step (by assumption) ?_ (Nat.le_refl _)))); rintro e w3 ⟨rfl, hb3⟩)
    | (go_simp; go_at_call 37; (with_reducible refine Calls.mono (nodeW3 (K := K) (a := a) (b := b) hlb ?_ ?_) ?_); (focus (refine (hS.out _ ?_).1; repeat (first | assumption | exact Below.refl _ _ | refine Below.drew ?_ | refine below_al ?_ _ | refine below_step (by assumption) ?_ (Nat.le_refl _)))); (focus (refine (hS.out _ ?_).2.2.1; repeat (first | assumption | exact Below.refl _ _ | refine Below.drew ?_ | refine below_al ?_ _ | refine below_step (by assumption) ?_ (Nat.le_refl _)))); rintro e w4 ⟨rfl, hb4⟩)
    | (go_simp; go_at_call 38; (with_reducible refine Calls.mono (stSumD (K := K) ?_ _) ?_); (focus (refine (hS.out _ ?_).1; repeat (first | assumption | exact Below.refl _ _ | refine Below.drew ?_ | refine below_al ?_ _ | refine below_step (by assumption) ?_ (Nat.le_refl _)))); rintro e w5 ⟨rfl, hb5⟩; have hW5 : Below W0.heap.size W0 w5 := (by repeat (first | assumption | exact Below.refl _ _ | refine Below.drew ?_ | refine below_al ?_ _ | refine below_step (by assumption) ?_ (Nat.le_refl _))); have hR5 := (hS.out _ hW5).2.2.2))
  all_goals go_wp2
  all_goals exact ret_stored (p := 4) (ty := 28) (g := w.heap.size + 1 + 1) (n := 32) (c := dgA (sha K (1 :: (a ++ b)))) rfl Tryd.underlying28 rfl (by kernel_rfl) rfl hR5 hco.1 rfl ⟨rfl, below_setRow (hL0.trans (hW5.mono (by omega))) (by omega)⟩
end Go.Proofs.YtjihklaocgmlpaaDoor
