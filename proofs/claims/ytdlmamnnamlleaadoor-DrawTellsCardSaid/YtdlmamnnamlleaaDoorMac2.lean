/- Contracts of package mac: Write and Sum of a state. -/
import Derived.Test.YtdlmamnnamlleaaDoorMac
namespace Go.Proofs.YtdlmamnnamlleaaDoor
open Go.ChangeShapes Go.WideShapes Go.ChangeAt Go.RowKit
set_option maxHeartbeats 1000000
set_option maxRecDepth 100000
def macA (K : Nat → W32) (k m : List UInt8) : Array Value := pairA (stL K (padB k 54 ++ m)).cells (stL K (padB k 92)).cells
theorem stL_cells (K : Nat → W32) (l : List UInt8) : Cells (stL K l).cells 73 := stC_cells _ _ _
theorem macA_cells (K : Nat → W32) (k m : List UInt8) : Cells (macA K k m) 146 := pairA_cells (stL_cells K _) (stL_cells K _)
def macZ : Array Value := pairA stZ stZ
theorem macZ_cells : Cells macZ 146 := pairA_cells stZ_cells stZ_cells
theorem zero_cellsM : Tryd.zeroCells101 = macZ := by kernel_rfl
theorem zero_mac (w : World) : (zeroValue 101).run Tryd.prog w = .ok (.agg macZ) w := (zero_of_info (n := 146) (by kernel_rfl)).1 w
section
variable {w : World} {dst : Option Tmp} {x y : Operand} {tt : TypeId} {pos : String} {af : Array Edge} {gd : Option (Nat × Bool)} {a : Act} {K : Act → World → Prop} {Q : Exit → Act → World → Prop}
theorem load_mac (hv : IsHead (a.eval x)) (h : Row w (blkOf (a.eval x)) 146) : Oper.wp Tryd.prog ⟨dst, .load 101 x, tt, pos, af, gd⟩ a w K Q ↔ K (a.put dst (.agg (rowAt w (blkOf (a.eval x))))) w :=
  wp_load_whole Tryd.underlying101 rfl (by kernel_rfl) hv h
theorem store_mac (hv : IsHead (a.eval x)) (h : Row w (blkOf (a.eval x)) 146) (hx : IsAgg (a.eval y) 146) : Oper.wp Tryd.prog ⟨dst, .store 101 x y, tt, pos, af, gd⟩ a w K Q ↔ K (a.put dst undef) (w.setRow (blkOf (a.eval x)) (cellsV (a.eval y))) :=
  wp_store_whole (by kernel_rfl) hv h hx
theorem load_half (hv : IsPart (a.eval x)) (h : Row w (blkOf (a.eval x)) 146) (ho : offOf (a.eval x) + 73 ≤ 146) :
    Oper.wp Tryd.prog ⟨dst, .load 99 x, tt, pos, af, gd⟩ a w K Q ↔ K (a.put dst (.agg ((rowAt w (blkOf (a.eval x))).extract (offOf (a.eval x)) (offOf (a.eval x) + 73)))) w :=
  wp_load_part Tryd.underlying99 rfl (by kernel_rfl) hv h ho
theorem store_half (hv : IsPart (a.eval x)) (h : Row w (blkOf (a.eval x)) 146) (ho : offOf (a.eval x) + 73 ≤ 146) (hx : IsAgg (a.eval y) 73) :
    Oper.wp Tryd.prog ⟨dst, .store 99 x y, tt, pos, af, gd⟩ a w K Q ↔ K (a.put dst undef) (w.setRow (blkOf (a.eval x)) (putAt (rowAt w (blkOf (a.eval x))) (offOf (a.eval x)) (cellsV (a.eval y)).toList)) :=
  wp_store_part (by kernel_rfl) hv h ho hx
end
attribute [local irreducible] arrV dgA sha macA macZ
attribute [local go_sem ↓] load_mac store_mac load_half store_half load_o32 store_o32
attribute [local go_sem] isHead_mk isPart_mk offOf_mk blkOf_mk isAgg_mk cellsV_mk row_drew rowAt_drew row_new_cells row_old rowAt_new rowAt_old zero_mac zero_cellsM zeroD
theorem mac_Write (K : Nat → W32) (k m : List UInt8) (A : Option Addr) (p : List UInt8) (c : Nat) (w : World) (hT : Tabs K w) (hp : Bs w A p c) :
    Calls Tryd.prog 61 #[.agg (macA K k m), .slice A p.length c] w fun e w' => e = .returned (.agg (macA K k (m ++ p))) ∧ Below w.heap.size w w' := by
  have hcm := macA_cells K k m
  have hcz := macZ_cells
  have hL0 : Below w.heap.size w ((w.alloc (Obj.cells (macA K k m) 101)).alloc (Obj.cells macZ 101)) := by go_grown
  have hS0 : Row ((w.alloc (Obj.cells (macA K k m) 101)).alloc (Obj.cells macZ 101)) w.heap.size 146 := by go_simp
  have hs0 : rowAt ((w.alloc (Obj.cells (macA K k m) 101)).alloc (Obj.cells macZ 101)) w.heap.size = macA K k m := by go_simp
  have hR0 : Row ((w.alloc (Obj.cells (macA K k m) 101)).alloc (Obj.cells macZ 101)) (w.heap.size + 1) 146 := by go_simp
  have hT0 := Lib.hid (hT.below hL0 (Nat.le_refl _))
  have hp0 := Lib.hid (show Bs ((w.alloc (Obj.cells (macA K k m) 101)).alloc (Obj.cells macZ 101)) A p c from hp.step hL0)
  have he1 : (macA K k m).extract 0 73 = (stL K (padB k 54 ++ m)).cells := by unfold macA; exact pairA_fst (stL_cells K _).1
  have he2 : putAt (macA K k m) 0 (stL K (padB k 54 ++ (m ++ p))).cells.toList = macA K k (m ++ p) := by unfold macA; exact pairA_put (stL_cells K _).1 (stL_cells K _).1 (stL_cells K _).1
  have hcn := stL_cells K (padB k 54 ++ (m ++ p))
  have hco := macA_cells K k (m ++ p)
  have hcon := Lib.hid (fun V (h : Tabs K V) (h' : Bs V A p c) => writeC (K := K) h (padB k 54 ++ m) h')
  simp only [List.append_assoc] at hcon
  clear hT hp
  go_enter Tryd.func61, Tryd.ntmps61
  go_wp2_with fail
  generalize ((w.alloc (Obj.cells (macA K k m) 101)).alloc (Obj.cells macZ 101)) = W0 at *
  refine (hcon.out _ hT0.out hp0.out).mono ?_
  rintro e w1 ⟨rfl, hb1⟩
  have hL1 := below_step hb1 hL0 (Nat.le_refl _)
  have hS1 := row_below hS0 hb1 hS0.lt
  have hs1 := (rowAt_below hb1 hS0.lt).trans hs0
  have hR1 := row_below hR0 hb1 hR0.lt
  have hS2 : Row (w1.setRow w.heap.size (macA K k (m ++ p))) w.heap.size 146 := (row_setRow_same rfl hS1).2 hco.1
  have hs2 : rowAt (w1.setRow w.heap.size (macA K k (m ++ p))) w.heap.size = macA K k (m ++ p) := rowAt_setRow_same hS1
  have hR2 : Row (w1.setRow w.heap.size (macA K k (m ++ p))) (w.heap.size + 1) 146 := (row_setRow_far (by omega)).2 hR1
  have hL2 : Below w.heap.size w (w1.setRow w.heap.size (macA K k (m ++ p))) := below_setRow hL1 (Nat.le_refl _)
  clear hb1 hL0 hS0 hs0 hR0 hT0 hp0 hcon hL1 hR1
  go_wp2
  exact ret_stored (p := 4) (ty := 101) (g := w.heap.size + 1) (n := 146) (c := macA K k (m ++ p)) rfl Tryd.underlying101 rfl (by kernel_rfl) rfl hR2 hco.1 rfl ⟨rfl, below_setRow hL2 (by omega)⟩
theorem mac_StSum (K : Nat → W32) (k m : List UInt8) (w : World) (hT : Tabs K w) :
    Calls Tryd.prog 62 #[.agg (macA K k m)] w fun e w' => e = .returned (.agg (dgA (sha K (padB k 92 ++ sha K (padB k 54 ++ m))))) ∧ Below w.heap.size w w' := by
  have hcm := macA_cells K k m
  have hcz := dgA_cells []
  have hL0 : Below w.heap.size w ((w.alloc (Obj.cells (macA K k m) 101)).alloc (Obj.cells (dgA []) 57)) := by go_grown
  have hS0 : Row ((w.alloc (Obj.cells (macA K k m) 101)).alloc (Obj.cells (dgA []) 57)) w.heap.size 146 := by go_simp
  have hs0 : rowAt ((w.alloc (Obj.cells (macA K k m) 101)).alloc (Obj.cells (dgA []) 57)) w.heap.size = macA K k m := by go_simp
  have hR0 : Row ((w.alloc (Obj.cells (macA K k m) 101)).alloc (Obj.cells (dgA []) 57)) (w.heap.size + 1) 32 := by go_simp
  have hT0 := Lib.hid (hT.below hL0 (Nat.le_refl _))
  have he1 : (macA K k m).extract 0 73 = (stL K (padB k 54 ++ m)).cells := by unfold macA; exact pairA_fst (stL_cells K _).1
  have he2 : (macA K k m).extract 73 146 = (stL K (padB k 92)).cells := by unfold macA; exact pairA_snd (stL_cells K _).1 (stL_cells K _).1
  have hxl := sha_len K (padB k 54 ++ m)
  have hcx := dgA_cells (sha K (padB k 54 ++ m))
  have hc1 := Lib.hid (fun V (h : Tabs K V) => stSumD (K := K) h (padB k 54 ++ m))
  generalize sha K (padB k 54 ++ m) = x at *
  have hc2 := Lib.hid (fun V (B : Option Addr) (c : Nat) (h : Tabs K V) (h' : Bs V B x c) => writeC (K := K) h (padB k 92) h')
  rw [hxl] at hc2
  have hc3 := Lib.hid (fun V (h : Tabs K V) => stSumD (K := K) h (padB k 92 ++ x))
  have hco := dgA_cells (sha K (padB k 92 ++ x))
  clear hT
  go_enter Tryd.func62, Tryd.ntmps62
  go_wp2_with fail
  generalize ((w.alloc (Obj.cells (macA K k m) 101)).alloc (Obj.cells (dgA []) 57)) = W0 at *
  refine (hc1.out _ hT0.out).mono ?_
  rintro e w1 ⟨rfl, hb1⟩
  have hL1 := below_step hb1 hL0 (Nat.le_refl _)
  have hS1 := row_below hS0 hb1 hS0.lt
  have hs1 := (rowAt_below hb1 hS0.lt).trans hs0
  have hR1 := row_below hR0 hb1 hR0.lt
  have hT1 := Lib.hid (hT0.out.step hb1)
  have hzz : Row (w1.alloc (Obj.cells (dgA []) 57)) w1.heap.size 32 := (row_new rfl).2 hcz.1
  have hst : (w1.alloc (Obj.cells (dgA []) 57)).setRow w1.heap.size (dgA x) = w1.alloc (Obj.cells (dgA x) 57) := setRow_new rfl
  have ha := below_alloc w1 (Obj.cells (dgA x) 57)
  have hX2 : Row (w1.alloc (Obj.cells (dgA x) 57)) w1.heap.size 32 := (row_new rfl).2 hcx.1
  have hx2 : rowAt (w1.alloc (Obj.cells (dgA x) 57)) w1.heap.size = dgA x := rowAt_new rfl
  have hS2 := row_below hS1 ha hS1.lt
  have hs2 := (rowAt_below ha hS1.lt).trans hs1
  have hR2 := row_below hR1 ha hR1.lt
  have hT2 := Lib.hid (hT1.out.step ha)
  have hL2 := below_step ha hL1 (Nat.le_refl _)
  have hB2 := Lib.hid (rd_of_row hxl hX2 hx2)
  clear hb1 hL0 hS0 hs0 hR0 hT0 hc1 hL1 hR1 hT1 ha hX2 hx2 hS1 hs1
  go_wp2
  clear hst hzz
  generalize (w1.alloc (Obj.cells (dgA x) 57)) = W2 at *
  generalize w1.heap.size = g at *
  go_outline
  go_region_law (first
    | (go_simp; go_at_call 75; (refine Calls.mono (hc2.out _ _ _ (hT2.out.step (Below.refl _ _).drew) (hB2.out.step (Below.refl _ _).drew)) ?_); rintro e w3 ⟨rfl, hb3⟩; have hT3 := Lib.hid ((hT2.out.step (Below.refl _ _).drew).step hb3))
    | (go_simp; go_at_call 76; (refine Calls.mono (hc3.out _ hT3.out) ?_); rintro e w4 ⟨rfl, hb4⟩; have hb43 := below_step hb4 hb3 (Nat.le_refl _); have hR4 := row_below (row_drew.2 hR2) hb43 hR2.lt; have hL4 := below_step hb43 hL2.drew (Nat.le_refl _)))
  all_goals go_wp2
  all_goals exact ret_stored (p := 2) (ty := 57) (g := w.heap.size + 1) (n := 32) (c := dgA (sha K (padB k 92 ++ x))) rfl Tryd.underlying57 rfl (by kernel_rfl) rfl hR4 hco.1 rfl ⟨rfl, below_setRow hL4 (by omega)⟩
end Go.Proofs.YtdlmamnnamlleaaDoor
