/- GfTells: the law's function returns true. -/
import Derived.Test.YtjfiokicnacbfaaGfU
import Derived.Test.YtjfiokicnacbfaaArrK
import Derived.Lib.Hide
import Derived.Handy
import Derived.Outline
import Derived.Deep.RegionHeld3
import Derived.Deep.DrawnRows
namespace Go.Proofs.Ytjfiokicnacbfaa
open Go.ChangeShapes Go.WideShapes Go.ChangeAt Go.RowKit
set_option maxHeartbeats 2000000
set_option maxRecDepth 100000
theorem exec_4 {w : World} {dst : Option Tmp} {x : Operand} {tt : TypeId} {pos : String} {af : Array Edge} {gd : Option (Nat × Bool)} {ρ : Operand → Value} (hv : IsHead (ρ x)) (h : Row w (blkOf (ρ x)) 4) :
    (execOp ρ ⟨dst, .load 58 x, tt, pos, af, gd⟩).run Try.prog w = .ok (.value (.agg (rowAt w (blkOf (ρ x))))) w :=
  exec_load_whole Try.underlying58 rfl (by kernel_rfl) hv h
attribute [local go_sem ↓] exec_4 load_255 load_256 store_256 load_4 store_4
attribute [local go_sem] isHead_mk blkOf_mk isAgg_mk cellsV_mk row_new_cells row_old rowAt_new rowAt_old row_drew rowAt_drew setRow_new
attribute [local go_sem ↓] Go.wp_at_zero Go.wp_at_succ

theorem ref_ColMix (c : Nat → Nat) (w : World) (hc : ∀ i < 4, c i < 256) :
    Calls Try.prog 41 #[.agg (arr8 4 c), .agg #[.int .u8 2, .int .u8 3, .int .u8 1, .int .u8 1]] w fun e w' => e = .returned (.agg (arr8 4 (col c mixB))) ∧ Below w.heap.size w w' := by
  rw [mixB_eq]; exact ref_Column c mixB w hc mixB_lt
theorem ref_ColUnmix (c : Nat → Nat) (w : World) (hc : ∀ i < 4, c i < 256) :
    Calls Try.prog 41 #[.agg (arr8 4 c), .agg #[.int .u8 14, .int .u8 11, .int .u8 13, .int .u8 9]] w fun e w' => e = .returned (.agg (arr8 4 (col c unmixB))) ∧ Below w.heap.size w w' := by
  rw [unmixB_eq]; exact ref_Column c unmixB w hc unmixB_lt

theorem gfTells (a b n : Nat) (c : Nat → Nat) (w : World) (ha : a < 256) (hb : b < 256) (hn : n < 18446744073709551616) (hc : ∀ i < 4, c i < 256) :
    Calls Try.prog 7 #[.int .u8 a, .int .u8 b, .int .u64 n, .agg (arr8 4 c)] w fun e w' => e = .returned (.bool true) ∧ Below w.heap.size w w' := by
  have hcc := arr8_cells 4 c
  have hsub := arr8_cells 256 gsub
  have hgd : Try.prog.eqGuardType Try.prog.depth 58 = false := by kernel_rfl
  have hq1 : ∀ W : World, (binOp .eql 58 (.agg (arr8 4 (col c mixB))) (.agg (arr8 4 (col c mixB)))).run Try.prog W = .ok (.bool true) W := fun W => by
    rw [arr8_arrK, run_eql_arrK Try.underlying58 Try.underlying5 (by kernel_rfl)]; simp
  have hq2 : ∀ W : World, (binOp .eql 58 (.agg (arr8 4 (col c unmixB))) (.agg (arr8 4 (col c unmixB)))).run Try.prog W = .ok (.bool true) W := fun W => by
    rw [arr8_arrK, run_eql_arrK Try.underlying58 Try.underlying5 (by kernel_rfl)]; simp
  have hix : ∀ W : World, (Instr.index 59 (.agg (arr8 256 gunsub)) (.int .u8 a)).run Try.prog W = .ok (.int .u8 (gunsub a : Nat)) W := fun W => by
    rw [arr8_arrK]; exact index_arrK Try.underlying59 Try.underlying5 (by kernel_rfl) ha .u8 W
  go_enter Try.func7, Try.ntmps7
  go_wp2_with fail
  refine (ref_Box _).mono ?_
  rintro e w1 ⟨rfl, hb1⟩
  have hR0 : Row w1 w.heap.size 4 := row_below ((row_new (by simp)).2 hcc.1) hb1 (by simp)
  have hr0 : rowAt w1 w.heap.size = arr8 4 c := (rowAt_below hb1 (by simp)).trans (rowAt_new (by simp))
  have hL1 : Below w.heap.size w w1 := ((Below.refl _ _).alloc (Nat.le_refl _) _).trans (hb1.mono (by simp))
  have hz1 : w.heap.size + 1 ≤ w1.heap.size := by have := hb1.size; simpa using this
  have hRz : Row (w1.alloc (Obj.cells Try.zeroCells59 59)) w1.heap.size 256 := (row_new rfl).2 (by rw [zero256]; exact (arr8_cells 256 _).1)
  go_wp2_with fail
  have hB : w1.heap.size + 1 ≤ (w1.alloc (Obj.cells (arr8 256 gsub) 59)).heap.size := by simp
  have hS : ∀ w', Below (w1.heap.size + 1) (w1.alloc (Obj.cells (arr8 256 gsub) 59)) w' → Row w' w.heap.size 4 ∧ rowAt w' w.heap.size = arr8 4 c ∧ Row w' w1.heap.size 256 ∧ rowAt w' w1.heap.size = arr8 256 gsub ∧
      w'.cell? ⟨w1.heap.size, a, none⟩ = some (.int .u8 (gsub a)) ∧ w'.rangeAt w1.heap.size 0 (arr8 256 gsub).toList ∧ Below (w1.heap.size + 1) (w1.alloc (Obj.cells (arr8 256 gsub) 59)) w' := fun w' h => by
    have r0 : Row w' w.heap.size 4 := row_below ((row_old (by omega)).2 hR0) h (by omega)
    have e0 : rowAt w' w.heap.size = arr8 4 c := (rowAt_below h (by omega)).trans ((rowAt_old (by omega)).trans hr0)
    have r1 : Row w' w1.heap.size 256 := row_below ((row_new rfl).2 hsub.1) h (by omega)
    have e1 : rowAt w' w1.heap.size = arr8 256 gsub := (rowAt_below h (by omega)).trans (rowAt_new rfl)
    exact ⟨r0, e0, r1, e1, by rw [r1.cell, e1, arr8_at ha], fun j v hv => by rw [r1.cell, e1, Nat.zero_add, ← Array.getElem?_toList]; exact hv, h⟩
  have hL2 : Below w.heap.size w (w1.alloc (Obj.cells (arr8 256 gsub) 59)) := hL1.alloc (by omega) _
  have hS' := Lib.hid hS
  have ha1 : (0 : Int) ≤ a := by omega
  have ha2 : (a : Int) < 256 := by omega
  have hu59 := Try.underlying59
  have hi59 : (Try.prog.info? 59).map (·.size) = some (arr8 256 gsub).toList.length := by rw [Array.length_toList, arr8_size]; kernel_rfl
  clear hS hR0 hr0 hRz hb1
  go_region_held3 (fun w' => Row w' w.heap.size 4 ∧ rowAt w' w.heap.size = arr8 4 c ∧ Row w' w1.heap.size 256 ∧ rowAt w' w1.heap.size = arr8 256 gsub ∧
      w'.cell? ⟨w1.heap.size, a, none⟩ = some (.int .u8 (gsub a)) ∧ w'.rangeAt w1.heap.size 0 (arr8 256 gsub).toList ∧ Below (w1.heap.size + 1) (w1.alloc (Obj.cells (arr8 256 gsub) 59)) w')
    ((go_split_ands; first | exact hS'.out _ (Below.refl _ _).drew | exact hS'.out _ (below_step (by assumption) (Below.refl _ _).drew hB) | exact hS'.out _ (below_step (by assumption) (by assumption) hB)))
    (first
      | (go_at_call 31; (with_reducible refine (gf_Mul a b _ ha hb).mono ?_); rintro e w' ⟨rfl, rfl⟩)
      | (go_at_call 32; (with_reducible refine (ref_Gf a b _ ha hb).mono ?_); rintro e w' ⟨rfl, rfl⟩)
      | (go_at_call 33; (with_reducible refine (gf_Pow a n _ ha hn).mono ?_); rintro e w' ⟨rfl, rfl⟩)
      | (go_at_call 34; (with_reducible refine (ref_GfPow a n _ ha hn).mono ?_); rintro e w' ⟨rfl, rfl⟩)
      | (go_at_call 35; (with_reducible refine (gf_Inv a _ ha).mono ?_); rintro e w' ⟨rfl, rfl⟩)
      | (go_at_call 36; (with_reducible refine (ref_GfInv a _ ha).mono ?_); rintro e w' ⟨rfl, rfl⟩)
      | (go_at_call 37; (with_reducible refine (gf_Sub a _ ha).mono ?_); rintro e w' ⟨rfl, rfl⟩)
      | (go_at_call 38; (with_reducible refine (gf_Unsub a _ ha).mono ?_); rintro e w' ⟨rfl, rfl⟩)
      | (go_at_call 39; (with_reducible refine (ref_Unbox _).mono ?_); rintro e w' ⟨rfl, hb'⟩)
      | (go_at_call 40; (with_reducible refine (gf_Mix c _ hc).mono ?_); rintro e w' ⟨rfl, hb'⟩)
      | (go_at_call 42; (with_reducible refine (gf_Unmix c _ hc).mono ?_); rintro e w' ⟨rfl, hb'⟩)
      | (go_at_call 41; (first
          | with_reducible refine (ref_ColMix c _ hc).mono ?_
          | with_reducible refine (ref_ColUnmix c _ hc).mono ?_); rintro e w' ⟨rfl, hb'⟩))
  all_goals go_split_ands
  all_goals go_wp2
  all_goals go_ret
  all_goals exact ⟨rfl, hL2.trans (Below.mono (B := w1.heap.size + 1) (by assumption) (by omega))⟩
end Go.Proofs.Ytjfiokicnacbfaa
