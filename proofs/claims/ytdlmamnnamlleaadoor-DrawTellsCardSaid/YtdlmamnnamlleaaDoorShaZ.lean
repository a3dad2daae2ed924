/- Contract of package hash's Resume. -/
import Derived.Test.YtdlmamnnamlleaaDoorShaS
import Derived.Test.YtdlmamnnamlleaaDoorRet2
namespace Go.Proofs.YtdlmamnnamlleaaDoor
open Go.ChangeShapes Go.WideShapes Go.ChangeAt Go.RowKit
set_option maxHeartbeats 2000000
set_option maxRecDepth 100000
attribute [local irreducible] arrV
attribute [local go_sem ↓] load_state store_state
attribute [local go_sem] isHead_mk isPart_mk offOf_mk blkOf_mk isAgg_mk cellsV_mk row_drew rowAt_drew row_new_cells row_old rowAt_new rowAt_old setRow_new zero_state zero_cellsS

def rsH (f : Nat → Nat) (k : Nat) : Nat → W32 := fun i => if i < k then be32 f (4 * i) else iv i
theorem stC_set_h (h h' : Nat → W32) (m : Nat) (f : Nat → Nat) {j : Nat} (hj : j < 8) (he : ∀ i < 8, (if i = j then h' j else h i) = h' i) : (stC h m f).setIfInBounds j (u32v (h' j)) = stC h' m f := by
  unfold stC
  rw [arrV_set]
  refine arrV_congr fun i _ => ?_
  unfold stV
  by_cases e : i < 8
  · rw [if_pos e, if_pos e]
    have := he i e
    by_cases e2 : i = j
    · subst e2; rw [if_pos rfl]
    · rw [if_neg e2] at this ⊢
      rw [this]
  · rw [if_neg (show ¬i = j by omega), if_neg e, if_neg e]
theorem stC_congr {h h' : Nat → W32} {m : Nat} {f : Nat → Nat} (he : ∀ i < 8, h i = h' i) : stC h m f = stC h' m f := by
  unfold stC
  refine arrV_congr fun i _ => ?_
  unfold stV
  by_cases e : i < 8
  · rw [if_pos e, if_pos e, he i e]
  · rw [if_neg e, if_neg e]
theorem stC_at_h {h : Nat → W32} {m : Nat} {f : Nat → Nat} {j : Nat} (hj : j < 8) : (stC h m f)[j]? = some (u32v (h j)) := by
  unfold stC
  rw [arrV_at (by omega)]
  unfold stV
  rw [if_pos hj]
theorem rd_row {w : World} {g n : Nat} {c : Array Value} (hR : Row w g n) (hr : rowAt w g = c) : Rd w w.heap.size (some ⟨g, 0, none⟩) c.toList := by
  obtain ⟨cs, t, hh, hl⟩ := id hR
  have e : cs = c := by rw [← hr]; simp [rowAt, hh]
  have := Rd.of_blk (B := w.heap.size) hh hR.lt
  rw [e] at this
  exact this
end Go.Proofs.YtdlmamnnamlleaaDoor
