/- A source of bytes: its block; what keeps it; what it tells. -/
import Derived.Test.YtdlmamnnamlleaaDoorMacL
import Derived.Test.YtdlmamnnamlleaaDoorPart
import Derived.Test.YtdlmamnnamlleaaDoorOwn
import Derived.Laws.Tables
namespace Go.Proofs.YtdlmamnnamlleaaDoor
open Go Go.ChangeShapes Go.WideShapes Go.ChangeAt Go.RowKit
set_option maxRecDepth 100000
/-- A source's cells: the key's state, the place, the block of bytes, whether it was made. -/
def srcB (b : Array Value) (p : Nat) (d : List UInt8) (m : Bool) : Array Value := arrV 180 fun i => if i < 146 then (b[i]?).getD undef else if i = 146 then .int .u64 (p : Nat) else if i < 179 then .int .u8 (bytesF d (i - 147) : Nat) else .bool m
section
variable {b b' : Array Value} {p p' : Nat} {d d' : List UInt8} {m m' : Bool}
theorem srcB_size : (srcB b p d m).size = 180 := arrV_size _ _
theorem srcB_cells (hb : Cells b 146) (p : Nat) (d : List UInt8) (m : Bool) : Cells (srcB b p d m) 180 := arrV_cells fun i hi => by
  by_cases h : i < 146
  · rw [if_pos h]
    have hbi : b[i]? = some (b[i]'(by rw [hb.1]; exact h)) := Array.getElem?_eq_getElem _
    rw [hbi]
    exact (Array.all_eq_true'.1 hb.2) _ (Array.getElem_mem _)
  · rw [if_neg h]
    by_cases h2 : i = 146
    · rw [if_pos h2]; rfl
    · rw [if_neg h2]
      by_cases h3 : i < 179
      · rw [if_pos h3]; rfl
      · rw [if_neg h3]; rfl
theorem srcB_146 : (srcB b p d m)[146]? = some (.int .u64 (p : Nat)) := arrV_at (by omega)
theorem srcB_byte {j : Nat} (h : j < 32) : (srcB b p d m)[147 + j]? = some (.int .u8 (bytesF d j : Nat)) := by
  unfold srcB
  rw [arrV_at (by omega), if_neg (by omega), if_neg (by omega), if_pos (by omega), Nat.add_sub_cancel_left]
theorem srcB_179 : (srcB b p d m)[179]? = some (.bool m) := arrV_at (by omega)
theorem srcB_key (hb : b.size = 146) : (srcB b p d m).extract 0 (0 + 146) = b := by
  unfold srcB
  rw [arrV_extract (by omega)]
  symm
  refine arrV_of hb fun i hi => ?_
  rw [Nat.zero_add, if_pos hi, Array.getElem?_eq_getElem (by omega)]; rfl
theorem srcB_set146 : (srcB b p d m).setIfInBounds 146 (.int .u64 (p' : Nat)) = srcB b p' d m := by
  unfold srcB
  rw [arrV_set]
  refine arrV_congr fun i hi => ?_
  by_cases h : i = 146
  · subst h; rfl
  · rw [if_neg h]
    by_cases h0 : i < 146
    · rw [if_pos h0, if_pos h0]
    · rw [if_neg h0, if_neg h0, if_neg h, if_neg h]
theorem srcB_set179 : (srcB b p d m).setIfInBounds 179 (.bool m') = srcB b p d m' := by
  unfold srcB
  rw [arrV_set]
  refine arrV_congr fun i hi => ?_
  by_cases h : i = 179
  · subst h; rfl
  · rw [if_neg h]
    by_cases h0 : i < 146
    · rw [if_pos h0, if_pos h0]
    · rw [if_neg h0, if_neg h0]
      by_cases h1 : i = 146
      · rw [if_pos h1, if_pos h1]
      · rw [if_neg h1, if_neg h1, if_pos (by omega), if_pos (by omega)]
theorem srcB_put : putAt (srcB b p d m) 147 (dgA d').toList = srcB b p d' m := by
  unfold srcB
  rw [putAt_arrV]
  refine arrV_congr fun i hi => ?_
  by_cases h0 : 147 ≤ i
  · rw [if_pos h0, Array.getElem?_toList]
    have n1 : ¬ i < 146 := by omega
    have n2 : ¬ i = 146 := by omega
    simp only [if_neg n1, if_neg n2]
    by_cases h : i < 179
    · show ((arrK .u8 32 (bytesF d'))[i - 147]?).getD _ = _
      rw [arrK_at (by omega), Option.getD_some, if_pos h]
    · rw [if_neg h, if_neg h]
      show ((arrK .u8 32 (bytesF d'))[i - 147]?).getD _ = _
      rw [Array.getElem?_eq_none (by rw [arrK_size]; omega), Option.getD_none]
  · rw [if_neg h0]
    by_cases h1 : i < 146
    · rw [if_pos h1, if_pos h1]
    · rw [if_neg h1, if_neg h1, if_pos (by omega), if_pos (by omega)]
theorem srcB_putKey (hb : b'.size = 146) : putAt (srcB b p d m) 0 b'.toList = srcB b' p d m := by
  unfold srcB
  rw [putAt_arrV]
  refine arrV_congr fun i hi => ?_
  rw [if_pos (Nat.zero_le _), Nat.sub_zero, Array.getElem?_toList]
  by_cases h : i < 146
  · have e : b'[i]? = some (b'[i]'(by omega)) := Array.getElem?_eq_getElem _
    rw [e, if_pos h, Option.getD_some, Option.getD_some, if_pos h]
  · rw [Array.getElem?_eq_none (by omega), Option.getD_none, if_neg h, if_neg h]
end
/-- Eight bytes of a number, the greatest first. -/
def be8 (n : Nat) : List UInt8 := (List.range 8).map fun i => UInt8.ofNat (n / 2 ^ (56 - 8 * i))
theorem be8_len (n : Nat) : (be8 n).length = 8 := by simp [be8]
/-- The block of 32 bytes that a place lies in. -/
def blkL (K : Nat → W32) (seed : List UInt8) (p : Nat) : List UInt8 := markL K seed (be8 (p / 32))
theorem blkL_len (K : Nat → W32) (seed : List UInt8) (p : Nat) : (blkL K seed p).length = 32 := mark_len _ _ _
/-- The byte at a place. -/
def dwB (K : Nat → W32) (seed : List UInt8) (p : Nat) : Nat := bytesF (blkL K seed p) (p % 32)
theorem dwB_lt (K : Nat → W32) (seed : List UInt8) (p : Nat) : dwB K seed p < 256 := bytesF_lt _ _
/-- The place behind n bytes. -/
def plc (p n : Nat) : Nat := (p + n) % 18446744073709551616
theorem plc_lt (p n : Nat) : plc p n < 18446744073709551616 := Nat.mod_lt _ (by omega)
theorem plc_plc (p a b : Nat) : plc (plc p a) b = plc p (a + b) := by unfold plc; omega
/-- A source in the block that was laid first behind w0; below it the world is as w0 was. -/
structure SrcAt (K : Nat → W32) (w0 : World) (seed : List UInt8) (p : Nat) (m : Bool) (d : List UInt8) (W : World) : Prop where
  row : Row W w0.heap.size 180
  eq : rowAt W w0.heap.size = srcB (macA K (keyL K seed) []) p d m
  pl : p < 18446744073709551616
  inv : m = true → p % 32 ≠ 0 → d = blkL K seed p
  bel : Below w0.heap.size w0 W
section
variable {K : Nat → W32} {w0 W W' : World} {seed d d' : List UInt8} {p p' : Nat} {m m' : Bool}
theorem SrcAt.step (h : SrcAt K w0 seed p m d W) (hb : Below W.heap.size W W') : SrcAt K w0 seed p m d W' :=
  ⟨row_below h.row hb h.row.lt, (rowAt_below hb h.row.lt).trans h.eq, h.pl, h.inv, h.bel.trans (hb.mono h.bel.size)⟩
theorem SrcAt.cP (h : SrcAt K w0 seed p m d W) : W.cell? ⟨w0.heap.size, 146, none⟩ = some (.int .u64 (p : Nat)) := by rw [h.row.cell, h.eq, srcB_146]
theorem SrcAt.cM (h : SrcAt K w0 seed p m d W) : W.cell? ⟨w0.heap.size, 179, none⟩ = some (.bool m) := by rw [h.row.cell, h.eq, srcB_179]
theorem SrcAt.cB (h : SrcAt K w0 seed p m d W) {j : Nat} (hj : j < 32) : W.cell? ⟨w0.heap.size, 147 + j, none⟩ = some (.int .u8 (bytesF d j : Nat)) := by rw [h.row.cell, h.eq, srcB_byte hj]
theorem SrcAt.setP (h : SrcAt K w0 seed p m d W) {p' : Nat} (hl : p' < 18446744073709551616) (hi : m = true → p' % 32 ≠ 0 → d = blkL K seed p') : SrcAt K w0 seed p' m d (W.setCell ⟨w0.heap.size, 146, none⟩ (.int .u64 (p' : Nat))) :=
  ⟨row_setCell.2 h.row, by rw [rowAt_setCell_same, h.eq, srcB_set146], hl, hi, h.bel.setCell (Nat.le_refl _) _⟩
theorem SrcAt.setM (h : SrcAt K w0 seed p m d W) (m' : Bool) (hi : m' = true → p % 32 ≠ 0 → d = blkL K seed p) : SrcAt K w0 seed p m' d (W.setCell ⟨w0.heap.size, 179, none⟩ (.bool m')) :=
  ⟨row_setCell.2 h.row, by rw [rowAt_setCell_same, h.eq, srcB_set179], h.pl, hi, h.bel.setCell (Nat.le_refl _) _⟩
theorem SrcAt.setD (h : SrcAt K w0 seed p m d W) (hi : m = true → p % 32 ≠ 0 → d' = blkL K seed p) : SrcAt K w0 seed p m d' (W.setRow w0.heap.size (srcB (macA K (keyL K seed) []) p d' m)) :=
  ⟨(row_setRow_same rfl h.row).2 srcB_size, rowAt_setRow_same h.row, h.pl, hi, below_setRow h.bel (Nat.le_refl _)⟩
/-- Writes elsewhere leave it. -/
theorem SrcAt.far (h : SrcAt K w0 seed p m d W) {g : Nat} {c : Array Value} (hg : w0.heap.size < g) : SrcAt K w0 seed p m d (W.setRow g c) :=
  ⟨(row_setRow_far (by omega)).2 h.row, (rowAt_setRow_far (by omega)).trans h.eq, h.pl, h.inv, below_setRow h.bel (Nat.le_of_lt hg)⟩
theorem SrcAt.farC (h : SrcAt K w0 seed p m d W) {g i : Nat} {v : Value} (hg : w0.heap.size < g) : SrcAt K w0 seed p m d (W.setCell ⟨g, i, none⟩ v) :=
  ⟨row_setCell.2 h.row, (rowAt_setCell_far (show w0.heap.size ≠ g by omega)).trans h.eq, h.pl, h.inv, h.bel.setCell (p := ⟨g, i, none⟩) (Nat.le_of_lt hg) _⟩
end
/-- What lay there lies there still, but for block g. -/
structure KbG (g : Nat) (w w' : World) : Prop where
  size : w.heap.size ≤ w'.heap.size
  block : ∀ k, k < w.heap.size → k ≠ g → w'.heap[k]? = w.heap[k]?
theorem KbG.refl (g : Nat) (w : World) : KbG g w w := ⟨Nat.le_refl _, fun _ _ _ => rfl⟩
theorem KbG.of {g : Nat} {w w' : World} (h : Below w.heap.size w w') : KbG g w w' := ⟨h.size, fun k hk _ => h.block k hk⟩
theorem KbG.trans {g : Nat} {w w1 w2 : World} (h : KbG g w w1) (h2 : KbG g w1 w2) : KbG g w w2 := ⟨Nat.le_trans h.size h2.size, fun k hk hg => (h2.block k (Nat.lt_of_lt_of_le hk h.size) hg).trans (h.block k hk hg)⟩
theorem KbG.setCell {g i : Nat} {w w1 : World} (h : KbG g w w1) (v : Value) : KbG g w (w1.setCell ⟨g, i, none⟩ v) := ⟨by simpa using h.size, fun k hk hg => (Below.heap_setCell w1 _ _ k hg).trans (h.block k hk hg)⟩
theorem KbG.setRow {g : Nat} {w w1 : World} (h : KbG g w w1) (c : Array Value) : KbG g w (w1.setRow g c) := ⟨by simpa [World.setRow] using h.size, fun k hk hg => (setRow_other w1 g k c hg).trans (h.block k hk hg)⟩
theorem KbG.row {g k n : Nat} {w w' : World} (h : KbG g w w') (hr : Row w k n) (hk : k ≠ g) : Row w' k n ∧ rowAt w' k = rowAt w k := by
  have e := h.block k hr.lt hk
  refine ⟨?_, by unfold rowAt; rw [e]⟩
  obtain ⟨cs, t, h1, h2⟩ := hr
  exact ⟨cs, t, e.trans h1, h2⟩
end Go.Proofs.YtdlmamnnamlleaaDoor
