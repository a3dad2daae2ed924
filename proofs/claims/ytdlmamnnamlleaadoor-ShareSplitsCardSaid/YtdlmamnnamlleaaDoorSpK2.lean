/- Several texts one behind the other: MacL Dw1 Tail2 Dw2 TailW Dw3 Buf Dw4 Dw5 Dw6 Nb Dw7 Dw8 Dw9 Sp1. -/
import Derived.Test.YtdlmamnnamlleaaDoorSpK1
import Derived.Test.YtdlmamnnamlleaaDoorCalm
import Derived.Test.YtdlmamnnamlleaaDoorPart
import Derived.Test.YtdlmamnnamlleaaDoorOwn
import Derived.Laws.Tables
import Derived.Test.YtdlmamnnamlleaaDoorTail
import Derived.Test.YtdlmamnnamlleaaDoorRet
import Derived.Test.YtdlmamnnamlleaaDoorAt
import Derived.Test.YtdlmamnnamlleaaDoorLimb5
import Derived.Test.YtdlmamnnamlleaaDoorBld
import Derived.Test.YtdlmamnnamlleaaDoorCalmS
import Derived.Test.YtdlmamnnamlleaaDoorNumN
import Derived.Test.YtdlmamnnamlleaaDoorLimb
import Derived.Deep.DeepCutAuto
import Derived.Test.YtdlmamnnamlleaaDoorRet3
import Derived.Test.YtdlmamnnamlleaaDoorSh1
import Derived.Lib.SmallJoins
namespace Go.Proofs.YtdlmamnnamlleaaDoor
open Go.ChangeShapes Go.WideShapes Go.ChangeAt Go.RowKit
set_option maxHeartbeats 2000000
set_option maxRecDepth 100000
theorem mac_StMark (K : Nat → W32) (key m : List UInt8) (w : World) (hT : Tabs K w) : Calls Tryd.prog 62 #[.agg (macA K (keyL K key) m)] w fun e w' => e = .returned (.agg (dgA (markL K key m))) ∧ Below w.heap.size w w' := mac_StSum K (keyL K key) m w hT
theorem guard32 : Tryd.prog.eqGuardType Tryd.prog.depth 57 = false := by kernel_rfl
theorem wp_eql {P : Program} {dst : Option Tmp} {t t2 tt : TypeId} {x y : Operand} {pos : String} {af : Array Edge} {gd : Option (Nat × Bool)} {a : Act} {w : World} {K : Act → World → Prop} {Q : Exit → Act → World → Prop} {v u : Array Value} {r : Value}
    (hm : P.eqGuardType P.depth t = false) (hx : a.eval x = .agg v) (hy : a.eval y = .agg u) (h : (binOp .eql t (.agg v) (.agg u)).run P w = .ok r w) (hK : K (a.put dst r) w) : Oper.wp P ⟨dst, .binOp .eql t x y t2, tt, pos, af, gd⟩ a w K Q := by
  have hg := run_eqGuard_agg (P := P) (w := w) .eql t x y v u hm
  unfold Oper.wp execOp
  simp only [hx, hy, Sem.run_bind, Sem.run_pure, hg, h, Result.andThen_ok]
  exact hK
theorem eval_tmp {a : Act} {t : Tmp} {v : Value} (h : a.tmps[t]?.getD undef = v) : a.eval (.tmp t) = v := by
  rw [← h]; simp [Act.eval]
theorem eqlD_same (l : List UInt8) (W : World) : (binOp .eql 57 (.agg (dgA l)) (.agg (dgA l))).run Tryd.prog W = .ok (.bool true) W := by
  unfold dgA
  rw [run_eql_arrK Tryd.underlying57 Tryd.underlying5 (by kernel_rfl)]; simp
attribute [local irreducible] arrV dgA sha macA macZ b64A markL
attribute [local go_sem ↓] load_mac store_mac
attribute [local go_sem] isHead_mk isPart_mk offOf_mk blkOf_mk isAgg_mk cellsV_mk row_drew rowAt_drew row_new_cells row_old rowAt_new rowAt_old setRow_new zero_mac bs_app
end Go.Proofs.YtdlmamnnamlleaaDoor
namespace Go.Proofs.YtdlmamnnamlleaaDoor
open Go Go.ChangeShapes Go.WideShapes Go.ChangeAt Go.RowKit
set_option maxRecDepth 100000
/-- A source's cells: the key's state, the place, the block of bytes, whether it was made. -/
def srcB (b : Array Value) (p : Nat) (d : List UInt8) (m : Bool) : Array Value := arrV 180 fun i => if i < 146 then (b[i]?).getD undef else if i = 146 then .int .u64 (p : Nat) else if i < 179 then .int .u8 (bytesF d (i - 147) : Nat) else .bool m
section
variable {b b' : Array Value} {p p' : Nat} {d d' : List UInt8} {m m' : Bool}
theorem srcB_size : (srcB b p d m).size = 180 := arrV_size _ _
theorem srcB_cells (hb : Cells b 146) (p : Nat) (d : List UInt8) (m : Bool) : Cells (srcB b p d m) 180 := arrV_cells fun i hi => by
  by_cases h : i < 146
  · rw [if_pos h]
    have hbi : b[i]? = some (b[i]'(by rw [hb.1]; exact h)) := Array.getElem?_eq_getElem _
    rw [hbi]
    exact (Array.all_eq_true'.1 hb.2) _ (Array.getElem_mem _)
  · rw [if_neg h]
    by_cases h2 : i = 146
    · rw [if_pos h2]; rfl
    · rw [if_neg h2]
      by_cases h3 : i < 179
      · rw [if_pos h3]; rfl
      · rw [if_neg h3]; rfl
theorem srcB_146 : (srcB b p d m)[146]? = some (.int .u64 (p : Nat)) := arrV_at (by omega)
theorem srcB_byte {j : Nat} (h : j < 32) : (srcB b p d m)[147 + j]? = some (.int .u8 (bytesF d j : Nat)) := by
  unfold srcB
  rw [arrV_at (by omega), if_neg (by omega), if_neg (by omega), if_pos (by omega), Nat.add_sub_cancel_left]
theorem srcB_179 : (srcB b p d m)[179]? = some (.bool m) := arrV_at (by omega)
theorem srcB_key (hb : b.size = 146) : (srcB b p d m).extract 0 (0 + 146) = b := by
  unfold srcB
  rw [arrV_extract (by omega)]
  symm
  refine arrV_of hb fun i hi => ?_
  rw [Nat.zero_add, if_pos hi, Array.getElem?_eq_getElem (by omega)]; rfl
theorem srcB_set146 : (srcB b p d m).setIfInBounds 146 (.int .u64 (p' : Nat)) = srcB b p' d m := by
  unfold srcB
  rw [arrV_set]
  refine arrV_congr fun i hi => ?_
  by_cases h : i = 146
  · subst h; rfl
  · rw [if_neg h]
    by_cases h0 : i < 146
    · rw [if_pos h0, if_pos h0]
    · rw [if_neg h0, if_neg h0, if_neg h, if_neg h]
theorem srcB_set179 : (srcB b p d m).setIfInBounds 179 (.bool m') = srcB b p d m' := by
  unfold srcB
  rw [arrV_set]
  refine arrV_congr fun i hi => ?_
  by_cases h : i = 179
  · subst h; rfl
  · rw [if_neg h]
    by_cases h0 : i < 146
    · rw [if_pos h0, if_pos h0]
    · rw [if_neg h0, if_neg h0]
      by_cases h1 : i = 146
      · rw [if_pos h1, if_pos h1]
      · rw [if_neg h1, if_neg h1, if_pos (by omega), if_pos (by omega)]
theorem srcB_put : putAt (srcB b p d m) 147 (dgA d').toList = srcB b p d' m := by
  unfold srcB
  rw [putAt_arrV]
  refine arrV_congr fun i hi => ?_
  by_cases h0 : 147 ≤ i
  · rw [if_pos h0, Array.getElem?_toList]
    have n1 : ¬ i < 146 := by omega
    have n2 : ¬ i = 146 := by omega
    simp only [if_neg n1, if_neg n2]
    by_cases h : i < 179
    · show ((arrK .u8 32 (bytesF d'))[i - 147]?).getD _ = _
      rw [arrK_at (by omega), Option.getD_some, if_pos h]
    · rw [if_neg h, if_neg h]
      show ((arrK .u8 32 (bytesF d'))[i - 147]?).getD _ = _
      rw [Array.getElem?_eq_none (by rw [arrK_size]; omega), Option.getD_none]
  · rw [if_neg h0]
    by_cases h1 : i < 146
    · rw [if_pos h1, if_pos h1]
    · rw [if_neg h1, if_neg h1, if_pos (by omega), if_pos (by omega)]
theorem srcB_putKey (hb : b'.size = 146) : putAt (srcB b p d m) 0 b'.toList = srcB b' p d m := by
  unfold srcB
  rw [putAt_arrV]
  refine arrV_congr fun i hi => ?_
  rw [if_pos (Nat.zero_le _), Nat.sub_zero, Array.getElem?_toList]
  by_cases h : i < 146
  · have e : b'[i]? = some (b'[i]'(by omega)) := Array.getElem?_eq_getElem _
    rw [e, if_pos h, Option.getD_some, Option.getD_some, if_pos h]
  · rw [Array.getElem?_eq_none (by omega), Option.getD_none, if_neg h, if_neg h]
end
/-- Eight bytes of a number, the greatest first. -/
def be8 (n : Nat) : List UInt8 := (List.range 8).map fun i => UInt8.ofNat (n / 2 ^ (56 - 8 * i))
theorem be8_len (n : Nat) : (be8 n).length = 8 := by simp [be8]
/-- The block of 32 bytes that a place lies in. -/
def blkL (K : Nat → W32) (seed : List UInt8) (p : Nat) : List UInt8 := markL K seed (be8 (p / 32))
theorem blkL_len (K : Nat → W32) (seed : List UInt8) (p : Nat) : (blkL K seed p).length = 32 := mark_len _ _ _
/-- The byte at a place. -/
def dwB (K : Nat → W32) (seed : List UInt8) (p : Nat) : Nat := bytesF (blkL K seed p) (p % 32)
theorem dwB_lt (K : Nat → W32) (seed : List UInt8) (p : Nat) : dwB K seed p < 256 := bytesF_lt _ _
/-- The place behind n bytes. -/
def plc (p n : Nat) : Nat := (p + n) % 18446744073709551616
theorem plc_lt (p n : Nat) : plc p n < 18446744073709551616 := Nat.mod_lt _ (by omega)
theorem plc_plc (p a b : Nat) : plc (plc p a) b = plc p (a + b) := by unfold plc; omega
/-- A source in the block that was laid first behind w0; below it the world is as w0 was. -/
structure SrcAt (K : Nat → W32) (w0 : World) (seed : List UInt8) (p : Nat) (m : Bool) (d : List UInt8) (W : World) : Prop where
  row : Row W w0.heap.size 180
  eq : rowAt W w0.heap.size = srcB (macA K (keyL K seed) []) p d m
  pl : p < 18446744073709551616
  inv : m = true → p % 32 ≠ 0 → d = blkL K seed p
  bel : Below w0.heap.size w0 W
section
variable {K : Nat → W32} {w0 W W' : World} {seed d d' : List UInt8} {p p' : Nat} {m m' : Bool}
theorem SrcAt.step (h : SrcAt K w0 seed p m d W) (hb : Below W.heap.size W W') : SrcAt K w0 seed p m d W' :=
  ⟨row_below h.row hb h.row.lt, (rowAt_below hb h.row.lt).trans h.eq, h.pl, h.inv, h.bel.trans (hb.mono h.bel.size)⟩
theorem SrcAt.cP (h : SrcAt K w0 seed p m d W) : W.cell? ⟨w0.heap.size, 146, none⟩ = some (.int .u64 (p : Nat)) := by rw [h.row.cell, h.eq, srcB_146]
theorem SrcAt.cM (h : SrcAt K w0 seed p m d W) : W.cell? ⟨w0.heap.size, 179, none⟩ = some (.bool m) := by rw [h.row.cell, h.eq, srcB_179]
theorem SrcAt.cB (h : SrcAt K w0 seed p m d W) {j : Nat} (hj : j < 32) : W.cell? ⟨w0.heap.size, 147 + j, none⟩ = some (.int .u8 (bytesF d j : Nat)) := by rw [h.row.cell, h.eq, srcB_byte hj]
theorem SrcAt.setP (h : SrcAt K w0 seed p m d W) {p' : Nat} (hl : p' < 18446744073709551616) (hi : m = true → p' % 32 ≠ 0 → d = blkL K seed p') : SrcAt K w0 seed p' m d (W.setCell ⟨w0.heap.size, 146, none⟩ (.int .u64 (p' : Nat))) :=
  ⟨row_setCell.2 h.row, by rw [rowAt_setCell_same, h.eq, srcB_set146], hl, hi, h.bel.setCell (Nat.le_refl _) _⟩
theorem SrcAt.setM (h : SrcAt K w0 seed p m d W) (m' : Bool) (hi : m' = true → p % 32 ≠ 0 → d = blkL K seed p) : SrcAt K w0 seed p m' d (W.setCell ⟨w0.heap.size, 179, none⟩ (.bool m')) :=
  ⟨row_setCell.2 h.row, by rw [rowAt_setCell_same, h.eq, srcB_set179], h.pl, hi, h.bel.setCell (Nat.le_refl _) _⟩
theorem SrcAt.setD (h : SrcAt K w0 seed p m d W) (hi : m = true → p % 32 ≠ 0 → d' = blkL K seed p) : SrcAt K w0 seed p m d' (W.setRow w0.heap.size (srcB (macA K (keyL K seed) []) p d' m)) :=
  ⟨(row_setRow_same rfl h.row).2 srcB_size, rowAt_setRow_same h.row, h.pl, hi, below_setRow h.bel (Nat.le_refl _)⟩
/-- Writes elsewhere leave it. -/
theorem SrcAt.far (h : SrcAt K w0 seed p m d W) {g : Nat} {c : Array Value} (hg : w0.heap.size < g) : SrcAt K w0 seed p m d (W.setRow g c) :=
  ⟨(row_setRow_far (by omega)).2 h.row, (rowAt_setRow_far (by omega)).trans h.eq, h.pl, h.inv, below_setRow h.bel (Nat.le_of_lt hg)⟩
theorem SrcAt.farC (h : SrcAt K w0 seed p m d W) {g i : Nat} {v : Value} (hg : w0.heap.size < g) : SrcAt K w0 seed p m d (W.setCell ⟨g, i, none⟩ v) :=
  ⟨row_setCell.2 h.row, (rowAt_setCell_far (show w0.heap.size ≠ g by omega)).trans h.eq, h.pl, h.inv, h.bel.setCell (p := ⟨g, i, none⟩) (Nat.le_of_lt hg) _⟩
end
/-- What lay there lies there still, but for block g. -/
structure KbG (g : Nat) (w w' : World) : Prop where
  size : w.heap.size ≤ w'.heap.size
  block : ∀ k, k < w.heap.size → k ≠ g → w'.heap[k]? = w.heap[k]?
theorem KbG.refl (g : Nat) (w : World) : KbG g w w := ⟨Nat.le_refl _, fun _ _ _ => rfl⟩
theorem KbG.of {g : Nat} {w w' : World} (h : Below w.heap.size w w') : KbG g w w' := ⟨h.size, fun k hk _ => h.block k hk⟩
theorem KbG.trans {g : Nat} {w w1 w2 : World} (h : KbG g w w1) (h2 : KbG g w1 w2) : KbG g w w2 := ⟨Nat.le_trans h.size h2.size, fun k hk hg => (h2.block k (Nat.lt_of_lt_of_le hk h.size) hg).trans (h.block k hk hg)⟩
theorem KbG.setCell {g i : Nat} {w w1 : World} (h : KbG g w w1) (v : Value) : KbG g w (w1.setCell ⟨g, i, none⟩ v) := ⟨by simpa using h.size, fun k hk hg => (Below.heap_setCell w1 _ _ k hg).trans (h.block k hk hg)⟩
theorem KbG.setRow {g : Nat} {w w1 : World} (h : KbG g w w1) (c : Array Value) : KbG g w (w1.setRow g c) := ⟨by simpa [World.setRow] using h.size, fun k hk hg => (setRow_other w1 g k c hg).trans (h.block k hk hg)⟩
theorem KbG.row {g k n : Nat} {w w' : World} (h : KbG g w w') (hr : Row w k n) (hk : k ≠ g) : Row w' k n ∧ rowAt w' k = rowAt w k := by
  have e := h.block k hr.lt hk
  refine ⟨?_, by unfold rowAt; rw [e]⟩
  obtain ⟨cs, t, h1, h2⟩ := hr
  exact ⟨cs, t, e.trans h1, h2⟩
end Go.Proofs.YtdlmamnnamlleaaDoor
namespace Go.Proofs.YtdlmamnnamlleaaDoor
open Go Go.RowKit

section
variable {P : Program} {ops : Array Oper} {Q : Exit → Act → World → Prop}
def tEdgesL (ops : Array Oper) (q : Nat) : Bool := ((List.range q).all fun j => pathB ops ops.size q j) && (List.range ops.size).all fun i => decide (i ≤ q) || pathB ops ops.size i (i - 1)
/-- The slots that no operation before q writes read as at first. -/
def UntouchedL (ops : Array Oper) (q : Nat) (a0 a : Act) : Prop := ∀ s, ((List.range ops.size).all fun i => decide (q ≤ i) || dstAt ops i != some s) = true → a.tmps[s]?.getD undef = a0.tmps[s]?.getD undef
def StepOkL (P : Program) (ops : Array Oper) (Q : Exit → Act → World → Prop) (R : Nat → SRel) (a0 : Act) (w0 : World) (q i : Nat) (o : Oper) : Prop :=
  ∀ (a : Act) (w : World) (K : Act → World → Prop), Below w0.heap.size w0 w → UntouchedL ops q a0 a → Came ops R o a w →
    (∀ v w', (R i).p v w' → Below w.heap.size w w' → K (a.put o.dst v) w') → if Region.wanted o (yielded ops a.tmps) = true then Oper.wp P o a w K Q else K (a.put o.dst undef) w
theorem calmL_step {R : Nat → SRel} {a0 : Act} {w0 : World} {q i : Nat} {o : Oper} (hg : o.guard = none)
    (h : ∀ (a : Act) (w : World) (K : Act → World → Prop), Below w0.heap.size w0 w → UntouchedL ops q a0 a → Came ops R o a w → (∀ v w', (R i).p v w' → Below w.heap.size w w' → K (a.put o.dst v) w') → Oper.wp P o a w K Q) : StepOkL P ops Q R a0 w0 q i o := by
  intro a w K hb hu hc hK
  rw [if_pos (by simp [Region.wanted, hg])]
  exact h a w K hb hu hc hK
theorem calmL_step_guard {R : Nat → SRel} {a0 : Act} {w0 : World} {q i g : Nat} {b : Bool} {d : Tmp} {o : Oper} (hg : o.guard = some (g, b)) (hd : dstAt ops g = some d)
    (hv : ∀ (a : Act) (w : World), Came ops R o a w → a.tmps[d]?.getD undef = .bool b)
    (h : ∀ (a : Act) (w : World) (K : Act → World → Prop), Below w0.heap.size w0 w → UntouchedL ops q a0 a → Came ops R o a w → (∀ v w', (R i).p v w' → Below w.heap.size w w' → K (a.put o.dst v) w') → Oper.wp P o a w K Q) : StepOkL P ops Q R a0 w0 q i o := by
  intro a w K hb hu hc hK
  have hy : yielded ops a.tmps g = some b := by
    have h1 := hv a w hc
    unfold dstAt at hd
    unfold yielded
    rw [hd, Option.bind_some]
    cases h2 : a.tmps[d]? with
    | none => rw [h2] at h1; cases h1
    | some v => rw [h2] at h1; have : v = .bool b := h1; rw [this]
  rw [if_pos (by simp [Region.wanted, hg, hy])]
  exact h a w K hb hu hc hK
/-- The frame before the q-th operation, written out. -/
def dstL (ops : Array Oper) (q s : Nat) : Bool := (List.range ops.size).any fun i => !decide (q ≤ i) && dstAt ops i == some s
theorem act_patchL {a0 a : Act} {n : Nat} (q : Nat) (bs : List Bool) (hn : a0.tmps.size = n) (hbs : bs = (List.range n).map (fun j => dstL ops q (0 + j))) (hu : UntouchedL ops q a0 a) (hsz : a.tmps.size = a0.tmps.size) (hdf : a.defers = a0.defers) :
    a = ⟨(patch a 0 a0.tmps.toList bs).toArray, a0.defers⟩ := by
  rw [patch_eq a (dstL ops q) a0.tmps.toList 0 bs (by rw [hbs, Array.length_toList, hn])]
  obtain ⟨t, d⟩ := a
  simp only at hsz hdf hu ⊢
  subst hdf
  congr 1
  apply Array.ext
  · simp [hsz]
  · intro i h1 h2
    simp only [List.getElem_toArray, List.getElem_map, List.getElem_range, Nat.zero_add]
    cases hD : dstL ops q i with
    | true => simp [h1]
    | false =>
      have h3 := hu i (by
        rw [List.all_eq_true]
        intro j hj
        unfold dstL at hD
        have h4 := List.any_eq_false.1 hD j hj
        cases hjq : decide (q ≤ j) with
        | true => rfl
        | false =>
          rw [hjq] at h4
          simp at h4 ⊢
          exact h4)
      simp [h1] at h3
      rw [cond_false, h3]
      have h5 : i < a0.tmps.size := by omega
      simp [h5]
/-- What is asked of the operations from q on. -/
def LastOkL (P : Program) (ops : Array Oper) (Q : Exit → Act → World → Prop) (R : Nat → SRel) (a0 : Act) (w0 : World) (q : Nat) : Prop :=
  ∀ (a : Act) (w : World), Below w0.heap.size w0 w → UntouchedL ops q a0 a → a.tmps.size = a0.tmps.size → a.defers = a0.defers → (∀ j d, j < q → dstAt ops j = some d → (R j).p (a.tmps[d]?.getD undef) w) →
    wpList P ops Q (ops.toList.drop q) a w
def StepsL (P : Program) (ops : Array Oper) (Q : Exit → Act → World → Prop) (R : Nat → SRel) (a0 : Act) (w0 : World) (q : Nat) : Nat → List Oper → Prop
  | _, [] => True
  | i, o :: l => StepOkL P ops Q R a0 w0 q i o ∧ StepsL P ops Q R a0 w0 q (i + 1) l
theorem stepsL_at {R : Nat → SRel} {a0 : Act} {w0 : World} {q : Nat} : ∀ (l : List Oper) (n i : Nat) (o : Oper), StepsL P ops Q R a0 w0 q n l → l[i]? = some o → StepOkL P ops Q R a0 w0 q (n + i) o
  | [], n, i, o, _, h => by simp at h
  | x :: l, n, 0, o, h1, h => by
      have : x = o := by simpa using h
      subst this
      exact h1.1
  | x :: l, n, i + 1, o, h1, h => by
      have := stepsL_at l (n + 1) i o h1.2 (by simpa using h)
      rw [show n + (i + 1) = n + 1 + i by omega]
      exact this
theorem wp_region_tailL {id : Nat} {a0 : Act} {w0 : World} (R : Nat → SRel) (q : Nat) (hm : P.follows .mixedOrders = true) (he : edgesOk ops = true) (hd : dstsOk ops = true) (hz : slotsOk ops a0.tmps.size = true) (hX : tEdgesL ops q = true)
    (hqn : q < ops.size) (hstep : StepsL P ops Q R a0 w0 q 0 (ops.toList.take q)) (hlast : LastOkL P ops Q R a0 w0 q) : (Code.region id ops true).wp P Q a0 w0 := by
  refine wp_region_any hm ?_
  have hlt : ∀ i d, dstAt ops i = some d → i < ops.size := fun i d h => by
    unfold dstAt at h
    rcases Nat.lt_or_ge i ops.size with h1 | h1
    · exact h1
    · rw [Array.getElem?_eq_none h1] at h; cases h
  have hdst : ∀ i j d e, i ≠ j → dstAt ops i = some d → dstAt ops j = some e → d ≠ e := by
    intro i j d e hij h1 h2
    have := List.all_eq_true.1 (List.all_eq_true.1 hd i (by simpa using hlt i d h1)) j (by simpa using hlt j e h2)
    rw [h1, h2] at this
    simpa [hij] using this
  have hslot : ∀ i d, dstAt ops i = some d → d < a0.tmps.size := by
    intro i d h1
    have := List.all_eq_true.1 hz i (by simpa using hlt i d h1)
    rw [h1] at this
    simpa using this
  unfold tEdgesL at hX
  rw [Bool.and_eq_true] at hX
  have hsz0 : ∃ f, ops.size = f + 1 := ⟨ops.size - 1, by omega⟩
  -- an operation that may run now waits for none that is not listed
  have hpath : ∀ (listed : Array Bool) (i j : Nat) (o : Oper), (∀ k o, listed.getD k false = true → ops[k]? = some o → ∀ e ∈ o.after, Region.binds .any e = true → listed.getD e.on false = true) →
      ops[i]? = some o → (∀ e ∈ o.after, Region.binds .any e = true → listed.getD e.on false = true) → pathB ops ops.size i j = true → listed.getD j false = true := by
    intro listed i j o hcl ho h2 hp
    obtain ⟨f, hf⟩ := hsz0
    rw [hf] at hp
    obtain ⟨o', ho', e, he, hb', h6⟩ := path_on hp
    rw [ho] at ho'
    cases ho'
    have hl := h2 e he hb'
    rcases h6 with h6 | h6
    · rw [← h6]; exact hl
    · exact path_listed hcl f e.on j hl h6
  have hcl' : ∀ (listed : Array Bool) (i : Nat) (o : Oper), listed.size = ops.size → i < ops.size → (∀ k o, listed.getD k false = true → ops[k]? = some o → ∀ e ∈ o.after, Region.binds .any e = true → listed.getD e.on false = true) →
      ops[i]? = some o → (∀ e ∈ o.after, Region.binds .any e = true → listed.getD e.on false = true) →
      (∀ k o, (listed.setIfInBounds i true).getD k false = true → ops[k]? = some o → ∀ e ∈ o.after, Region.binds .any e = true → (listed.setIfInBounds i true).getD e.on false = true) := by
    intro listed i o hs hi hcl ho h2 k o' hk ho' e he1 he2
    have hil : i < listed.size := by omega
    have hle : listed.getD e.on false = true := by
      by_cases hki : k = i
      · subst hki
        rw [ho] at ho'
        cases ho'
        exact h2 e he1 he2
      · have hk' : listed.getD k false = true := by simpa [Array.getElem?_setIfInBounds_ne (Ne.symm hki)] using hk
        exact hcl k o' hk' ho' e he1 he2
    by_cases hei : e.on = i
    · rw [hei]; simp [hil]
    · simpa [Array.getElem?_setIfInBounds_ne (Ne.symm hei)] using hle
  -- the r-th of those from q on
  have hrun : ∀ (listed : Array Bool) (r : Nat) (a : Act) (w : World) (K : Act → World → Prop), r < ops.size → wpList P ops Q (ops.toList.drop r) a w → (∀ a' w', wpList P ops Q (ops.toList.drop (r + 1)) a' w' → K a' w') → wpOp P ops Q r K a w := by
    intro listed r a w K hr h hK
    rw [List.drop_eq_getElem_cons (by simpa using hr)] at h
    refine wpOp_mono hK ?_
    unfold wpOp
    rw [Array.getElem?_eq_getElem hr]
    simp only [Array.getElem_toList] at h
    exact h
  refine wpAny_inv he (fun listed a w => (∀ k o, listed.getD k false = true → ops[k]? = some o → ∀ e ∈ o.after, Region.binds .any e = true → listed.getD e.on false = true) ∧ (((∀ k, q ≤ k → listed.getD k false = false) ∧ Below w0.drew.heap.size w0.drew w ∧ UntouchedL ops q a0 a ∧ a.tmps.size = a0.tmps.size ∧ a.defers = a0.defers ∧ ∀ j d, listed.getD j false = true → dstAt ops j = some d → (R j).p (a.tmps[d]?.getD undef) w) ∨ (∃ r, q ≤ r ∧ r ≤ ops.size ∧ (∀ k, r ≤ k → listed.getD k false = false) ∧ (∀ k, k < r → listed.getD k false = true) ∧ wpList P ops Q (ops.toList.drop r) a w))) ?_ ?_ _ _ _ _ (by simp) ?_ ?_
  · rintro listed a w i o hs ⟨hcl, hI⟩ hi h1 ho h2
    have hil : i < listed.size := by omega
    have hc2 := hcl' listed i o hs hi hcl ho h2
    have hafter : ∀ r, q ≤ r → r ≤ i → (∀ k, r ≤ k → listed.getD k false = false) → i = r := by
      intro r hqr hri hun
      rcases Nat.eq_or_lt_of_le hri with h3 | h3
      · exact h3.symm
      · have h4 := List.all_eq_true.1 hX.2 i (by simpa using hi)
        rw [Bool.or_eq_true, decide_eq_true_eq] at h4
        rcases h4 with h4 | h4
        · omega
        · have := hpath listed i (i - 1) o hcl ho h2 h4
          rw [hun (i - 1) (by omega)] at this
          cases this
    have hset : ∀ r, i = r → (∀ k, r ≤ k → listed.getD k false = false) → ∀ k, r + 1 ≤ k → (listed.setIfInBounds i true).getD k false = false := by
      intro r hir hun k hk
      have := hun k (by omega)
      simpa [Array.getElem?_setIfInBounds_ne (show i ≠ k by omega)] using this
    have hset2 : ∀ _ : Nat, (∀ k, k < i → listed.getD k false = true) → ∀ k, k < i + 1 → (listed.setIfInBounds i true).getD k false = true := by
      intro r hli k hk
      by_cases hki : k = i
      · rw [hki]; simp [hil]
      · have := hli k (by omega)
        simpa [Array.getElem?_setIfInBounds_ne (Ne.symm hki)] using this
    rcases hI with ⟨hun, hb, hu, hsz, hdf, hR⟩ | ⟨r, hqr, hrn, hun, hli, hW⟩
    · rcases Nat.lt_or_ge i q with hiq | hiq
      · have hst := stepsL_at (ops.toList.take q) 0 i o hstep (by rw [List.getElem?_take_of_lt hiq, Array.getElem?_toList]; exact ho)
        rw [Nat.zero_add] at hst
        refine wpOp_step ho fun K hK => hst a w K (below_step hb (Below.refl _ _).drew (Nat.le_refl _)) hu (fun j d hj hjd => ?_) fun v w' hv hb' => hK _ _ ⟨hc2, .inl ⟨?_, below_step hb' hb (Nat.le_refl _), ?_, ?_, ?_, ?_⟩⟩
        · obtain ⟨e, he1, he2⟩ := List.any_eq_true.1 hj
          have he1 : e ∈ o.after := Array.mem_toList_iff.1 he1
          simp only [Bool.and_eq_true, beq_iff_eq] at he2
          refine hR j d ?_ hjd
          rw [← he2.1]
          exact h2 e he1 he2.2
        · intro k hk
          have := hun k hk
          simpa [Array.getElem?_setIfInBounds_ne (show i ≠ k by omega)] using this
        · intro s hs'
          have hns : o.dst ≠ some s := by
            have h6 := List.all_eq_true.1 hs' i (by simpa using hi)
            rw [Bool.or_eq_true, decide_eq_true_eq] at h6
            rcases h6 with h6 | h6
            · omega
            · unfold dstAt at h6
              rw [ho] at h6
              simpa using h6
          rw [← hu s hs']
          cases hd' : o.dst with
          | none => rfl
          | some d =>
            have hne : d ≠ s := fun e => hns (by rw [hd', e])
            simp [Act.put, Array.getElem?_setIfInBounds_ne hne]
        · cases hd' : o.dst <;> simp [Act.put, hsz]
        · cases hd' : o.dst <;> simp [Act.put, hdf]
        · intro j d hj hjd
          by_cases hij : i = j
          · subst hij
            have hd1 := hslot i d hjd
            have hod : o.dst = some d := by unfold dstAt at hjd; rw [ho] at hjd; exact hjd
            rw [hod]
            rw [← hsz] at hd1
            simp [Act.put, hd1]
            exact hv
          · have hlj : listed.getD j false = true := by
              simpa [Array.getElem?_setIfInBounds_ne hij] using hj
            have h3 := (R j).st _ _ _ hb' (hR j d hlj hjd)
            cases hd' : o.dst with
            | none => simpa [Act.put] using h3
            | some d' =>
              have hne : d' ≠ d := hdst i j d' d hij (by unfold dstAt; rw [ho]; exact hd') hjd
              simpa [Act.put, Array.getElem?_setIfInBounds_ne hne] using h3
      · have hiq' := hafter q (Nat.le_refl _) hiq hun
        have hallj : ∀ j, j < q → listed.getD j false = true := fun j hj => hpath listed i j o hcl ho h2 (by rw [hiq']; exact List.all_eq_true.1 hX.1 j (by simpa using hj))
        refine hrun listed i a w _ hi ?_ fun a' w' hK => ⟨hc2, .inr ⟨i + 1, by omega, by omega, hset i rfl (hiq' ▸ hun), hset2 i (fun k hk => hallj k (by omega)), hK⟩⟩
        rw [hiq']
        exact hlast a w (below_step hb (Below.refl _ _).drew (Nat.le_refl _)) hu hsz hdf fun j d hj hjd => hR j d (hallj j hj) hjd
    · have hir : r ≤ i := by
        rcases Nat.lt_or_ge i r with h3 | h3
        · exfalso
          have h4 := hli i h3
          rw [Array.getD_eq_getD_getElem?] at h4
          simp [hil] at h1 h4
          rw [h1] at h4
          cases h4
        · exact h3
      have hiq' := hafter r hqr hir hun
      exact hrun listed i a w _ hi (hiq' ▸ hW) fun a' w' hK => ⟨hc2, .inr ⟨i + 1, by omega, by omega, hset i rfl (hiq' ▸ hun), hset2 i (fun k hk => hli k (by omega)), hK⟩⟩
  · rintro listed a w ⟨-, ⟨hun, -⟩ | ⟨r, hqr, hrn, hun, hli, hW⟩⟩ hall
    · have := hall q hqn
      rw [hun q (Nat.le_refl _)] at this
      cases this
    · have hr : r = ops.size := by
        rcases Nat.eq_or_lt_of_le hrn with h | h
        · exact h
        · have := hall r h
          rw [hun r (Nat.le_refl _)] at this
          cases this
      rw [hr, ← Array.length_toList, List.drop_length] at hW
      exact hW
  · unfold left
    rw [Array.toList_replicate]
    exact Nat.le_trans (List.length_filter_le _ _) (by simp)
  · have h0 : ∀ j, (Array.replicate ops.size false).getD j false = false := fun j => by
      rw [Array.getD_eq_getD_getElem?, Array.getElem?_replicate]
      split <;> simp
    exact ⟨fun k o hk => absurd hk (by rw [h0]; simp), .inl ⟨fun k _ => h0 k, Below.refl _ _, fun _ _ => rfl, rfl, rfl, fun j d hj => absurd hj (by rw [h0]; simp)⟩⟩
end
end Go.Proofs.YtdlmamnnamlleaaDoor
namespace Go.Proofs.YtdlmamnnamlleaaDoor
open Go.ChangeShapes Go.WideShapes Go.ChangeAt Go.RowKit
set_option maxHeartbeats 1000000
set_option maxRecDepth 100000
theorem built_src (b : Array Value) (p : Nat) : Tryd.prog.built 103 [(0, .agg b), (1, .int .u64 (p : Nat))] = Instr.fill (fun i => ([(0, 146), (146, 1), (147, 32), (179, 1)] : List (Nat × Nat)).toArray[i]?) (srcB macZ 0 [] false) [(0, .agg b), (1, .int .u64 (p : Nat))] := by kernel_rfl
theorem build_src (b : Array Value) (hb : b.size = 146) (p : Nat) (w : World) : (Instr.build 103 #[(0, .agg b), (1, .int .u64 (p : Nat))]).run Tryd.prog w = .ok (.agg (srcB b p [] false)) w := by
  refine run_build w _ _ _ ?_
  rw [show (#[(0, Value.agg b), (1, Value.int .u64 (p : Nat))] : Array (Nat × Value)).toList = [(0, .agg b), (1, .int .u64 (p : Nat))] from rfl, built_src]
  have h1 : putAt (srcB macZ 0 [] false) 0 b.toList = srcB b 0 [] false := srcB_putKey hb
  rw [← foldl_arr0 hb] at h1
  have h2 := srcB_set146 (b := b) (p := 0) (p' := p) (d := []) (m := false)
  have hs := srcB_size (b := b) (p := 0) (d := []) (m := false)
  have hs0 := srcB_size (b := macZ) (p := 0) (d := []) (m := false)
  simp [Instr.fill, Value.cells, hb, hs, hs0, h1, h2]
section
variable {P : Program} {ops : Array Oper} {rest : List Oper} {o : Oper} {a : Act} {w : World} {K : Act → World → Prop} {Q : Exit → Act → World → Prop} {t : TypeId} {i j : Nat} {x y : Operand} {u vx vy : Value}
theorem wpList_opT (hw : Region.wanted o (yielded ops a.tmps) = true) (h : ∀ K : Act → World → Prop, (∀ a' w', wpList P ops Q rest a' w' → K a' w') → Oper.wp P o a w K Q) : wpList P ops Q (o :: rest) a w :=
  wpList_step fun K hK => by rw [if_pos hw]; exact h K hK
theorem wp_bldTwo (ho : o.op = .build t #[(i, x), (j, y)]) (hx : a.eval x = vx) (hy : a.eval y = vy) (hr : (Instr.build t #[(i, vx), (j, vy)]).run P w = .ok u w) (h : K (a.put o.dst u) w) : Oper.wp P o a w K Q := by
  subst hx hy
  obtain ⟨dst, op, tt, pos, af, gd⟩ := o
  subst ho
  unfold Oper.wp execOp
  simp only [List.map_toArray, List.map_cons, List.map_nil, Sem.run_bind, hr, Result.andThen_ok]
  exact h
end
attribute [local irreducible] arrV dgA sha macA macZ srcB
theorem SrcAt.made (K : Nat → W32) (seed : List UInt8) (p : Nat) (hp : p < 18446744073709551616) (w : World) : SrcAt K w seed p false [] (w.alloc (Obj.cells (srcB (macA K (keyL K seed) []) p [] false) 103)) :=
  ⟨(row_new rfl).2 srcB_size, rowAt_new rfl, hp, fun h => (by cases h), below_alloc _ _⟩
def NewR (K : Nat → W32) (seed : List UInt8) (p : Nat) (w : World) (e : Ending) (w' : World) : Prop := ∃ w0, e = .returned (.pointer (some ⟨w0.heap.size, 0, none⟩)) ∧ SrcAt K w0 seed p false [] w' ∧ Below w.heap.size w w0
theorem draw_At (K : Nat → W32) (A : Option Addr) (seed : List UInt8) (c p : Nat) (w : World) (hT : Tabs K w) (hs : Bs w A seed c) (hp : p < 18446744073709551616) :
    Calls Tryd.prog 32 #[.slice A seed.length c, .int .u64 (p : Nat)] w (NewR K seed p w) := by
  have kN := Lib.hid (mac_New K A seed c w hT hs)
  have hsz := (macA_cells K (keyL K seed) []).1
  have hcs := srcB_cells (macA_cells K (keyL K seed) []) p [] false
  have hbl := Lib.hid (fun V => build_src (macA K (keyL K seed) []) hsz p V)
  have hmd := Lib.hid (fun V => SrcAt.made K seed p hp V)
  obtain ⟨b, hb⟩ : ∃ b, macA K (keyL K seed) [] = b := ⟨_, rfl⟩
  rw [hb] at kN hsz hcs hbl hmd
  clear hT hs hb
  go_enter Tryd.func32, Tryd.ntmps32
  go_upto_region 1 with (fail)
  go_wp2_with fail
  refine kN.out.mono ?_
  rintro e w1 ⟨rfl, hb1⟩
  have hL := Lib.hid hb1
  have hm := Lib.hid (hmd.out w1)
  clear hb1 kN hmd
  go_wp2_with (refine wpList_opT (by go_simp) (fun K9 hK => wp_bldTwo rfl (vx := .agg b) (vy := .int .u64 (p : Nat)) (by go_simp) (by go_simp) (hbl.out _) (hK _ _ ?_)))
  go_ret
  exact ⟨w1, rfl, hm.out, hL.out⟩
theorem draw_New (K : Nat → W32) (A : Option Addr) (seed : List UInt8) (c : Nat) (w : World) (hT : Tabs K w) (hs : Bs w A seed c) :
    Calls Tryd.prog 12 #[.slice A seed.length c] w (NewR K seed 0 w) := by
  have kA := Lib.hid (draw_At K A seed c 0 w hT hs (by omega))
  clear hT hs
  go_enter Tryd.func12, Tryd.ntmps12
  go_upto_region 1 with (fail)
  go_wp2_with fail
  refine kA.out.mono ?_
  rintro e w1 ⟨w0, rfl, h1, h2⟩
  have hF := Lib.hid (And.intro h1 h2)
  clear h1 h2 kA
  go_wp2_with fail
  go_ret
  exact ⟨w0, rfl, hF.out.1, hF.out.2⟩
theorem draw_Place (K : Nat → W32) (w0 : World) (seed : List UInt8) (p : Nat) (m : Bool) (d : List UInt8) (w : World) (h : SrcAt K w0 seed p m d w) :
    Calls Tryd.prog 15 #[.pointer (some ⟨w0.heap.size, 0, none⟩)] w fun e w' => e = .returned (.int .u64 (p : Nat)) ∧ w = w' := by
  have c := h.cP
  clear h
  go_enter Tryd.func15, Tryd.ntmps15
  go_wp2_with fail
  go_ret
  exact ⟨rfl, rfl⟩
def fitE (n : Int) : Int := if n < 0 then 1 else if 4096 < n then 2 else 0
theorem draw_fits (n : Int) (w : World) : Calls Tryd.prog 46 #[.int .i64 n] w fun e w' => e = .returned (.int .i64 (fitE n)) ∧ w = w' := by
  unfold fitE
  by_cases h0 : n < 0
  · rw [if_pos h0]
    have d1 : decide (n < 0) = true := by simpa using h0
    go_enter Tryd.func46, Tryd.ntmps46
    go_wp2_with fail
    go_ret
    exact ⟨rfl, rfl⟩
  · rw [if_neg h0]
    have d1 : decide (n < 0) = false := by simpa using h0
    by_cases h1 : 4096 < n
    · rw [if_pos h1]
      have d2 : decide (n > 4096) = true := by simpa using h1
      go_enter Tryd.func46, Tryd.ntmps46
      go_wp2_with fail
      go_ret
      exact ⟨rfl, rfl⟩
    · rw [if_neg h1]
      have d2 : decide (n > 4096) = false := by simpa using h1
      go_enter Tryd.func46, Tryd.ntmps46
      go_wp2_with fail
      go_ret
      exact ⟨rfl, rfl⟩
end Go.Proofs.YtdlmamnnamlleaaDoor
namespace Go.Proofs.YtdlmamnnamlleaaDoor
open Go Go.RowKit

section
variable {P : Program} {ops : Array Oper} {Q : Exit → Act → World → Prop}
def mixR (V : Nat → Option Value) (S : Nat → SRel) (i : Nat) : SRel := match V i with | some c => SRel.is c | none => S i
theorem mixR_some {V : Nat → Option Value} {S : Nat → SRel} {i : Nat} {c v : Value} {w : World} (h : V i = some c) : (mixR V S i).p v w ↔ v = c := by
  unfold mixR; rw [h]; exact Iff.rfl
/-- The one that writes. -/
def WriteOkW (P : Program) (ops : Array Oper) (Q : Exit → Act → World → Prop) (R : Nat → SRel) (a0 : Act) (w0 : World) (z : Nat) (Φ : Value → World → Prop) (o : Oper) : Prop :=
  ∀ (a : Act) (w : World) (K : Act → World → Prop), Below w0.heap.size w0 w → UntouchedT ops z a0 a → Came ops R o a w → (∀ v w', Φ v w' → K (a.put o.dst v) w') → if Region.wanted o (yielded ops a.tmps) = true then Oper.wp P o a w K Q else K (a.put o.dst undef) w
theorem write_of {R : Nat → SRel} {a0 : Act} {w0 : World} {z : Nat} {Φ : Value → World → Prop} {o : Oper} (hg : o.guard = none)
    (h : ∀ (a : Act) (w : World) (K : Act → World → Prop), Below w0.heap.size w0 w → UntouchedT ops z a0 a → Came ops R o a w → (∀ v w', Φ v w' → K (a.put o.dst v) w') → Oper.wp P o a w K Q) : WriteOkW P ops Q R a0 w0 z Φ o := by
  intro a w K hb hu hc hK
  rw [if_pos (by simp [Region.wanted, hg])]
  exact h a w K hb hu hc hK
/-- One that may run on either side of the write. -/
def PureOk (P : Program) (ops : Array Oper) (Q : Exit → Act → World → Prop) (V : Nat → Option Value) (a0 : Act) (z i : Nat) (o : Oper) : Prop :=
  ∃ c, V i = some c ∧ ∀ (a : Act) (w : World) (K : Act → World → Prop), UntouchedT ops z a0 a → Came ops (fun j => match V j with | some c => SRel.is c | none => SRel.any) o a w → K (a.put o.dst c) w → if Region.wanted o (yielded ops a.tmps) = true then Oper.wp P o a w K Q else K (a.put o.dst undef) w
theorem pure_of {V : Nat → Option Value} {a0 : Act} {z i : Nat} {o : Oper} {c : Value} (hg : o.guard = none) (hV : V i = some c)
    (h : ∀ (a : Act) (w : World) (K : Act → World → Prop), UntouchedT ops z a0 a → Came ops (fun j => match V j with | some c => SRel.is c | none => SRel.any) o a w → K (a.put o.dst c) w → Oper.wp P o a w K Q) : PureOk P ops Q V a0 z i o := by
  refine ⟨c, hV, fun a w K hu hc hK => ?_⟩
  rw [if_pos (by simp [Region.wanted, hg])]
  exact h a w K hu hc hK
/-- The last one. -/
def EndOk (P : Program) (ops : Array Oper) (Q : Exit → Act → World → Prop) (V : Nat → Option Value) (a0 : Act) (q z : Nat) (Φ : Value → World → Prop) (o : Oper) : Prop :=
  ∀ (a : Act) (w : World), UntouchedT ops z a0 a → a.tmps.size = a0.tmps.size → a.defers = a0.defers → (∀ j d c, j ≠ z → V j = some c → dstAt ops j = some d → a.tmps[d]?.getD undef = c) → (∃ v, Φ v w ∧ ∀ d, dstAt ops q = some d → a.tmps[d]?.getD undef = v) →
    if Region.wanted o (yielded ops a.tmps) = true then Oper.wp P o a w (fun a' w' => Q .normal a' w') Q else Q .normal (a.put o.dst undef) w
theorem end_of {V : Nat → Option Value} {a0 : Act} {q z : Nat} {Φ : Value → World → Prop} {o : Oper} (hg : o.guard = none)
    (h : ∀ (a : Act) (w : World), UntouchedT ops z a0 a → a.tmps.size = a0.tmps.size → a.defers = a0.defers → (∀ j d c, j ≠ z → V j = some c → dstAt ops j = some d → a.tmps[d]?.getD undef = c) → (∃ v, Φ v w ∧ ∀ d, dstAt ops q = some d → a.tmps[d]?.getD undef = v) → Oper.wp P o a w (fun a' w' => Q .normal a' w') Q) : EndOk P ops Q V a0 q z Φ o := by
  intro a w hu hsz hdf hc hf
  rw [if_pos (by simp [Region.wanted, hg])]
  exact h a w hu hsz hdf hc hf
def StepsW (P : Program) (ops : Array Oper) (Q : Exit → Act → World → Prop) (V : Nat → Option Value) (S : Nat → SRel) (a0 : Act) (w0 : World) (q z : Nat) (Φ : Value → World → Prop) : Nat → List Oper → Prop
  | _, [] => True
  | i, o :: l => (if i = q then WriteOkW P ops Q (mixR V S) a0 w0 z Φ o else if i = z then EndOk P ops Q V a0 q z Φ o else if pathB ops ops.size q i = true then StepOkT P ops Q (mixR V S) a0 w0 z i o else PureOk P ops Q V a0 z i o) ∧ StepsW P ops Q V S a0 w0 q z Φ (i + 1) l
theorem stepsW_at {V : Nat → Option Value} {S : Nat → SRel} {a0 : Act} {w0 : World} {q z : Nat} {Φ : Value → World → Prop} : ∀ (l : List Oper) (n i : Nat) (o : Oper), StepsW P ops Q V S a0 w0 q z Φ n l → l[i]? = some o →
    if n + i = q then WriteOkW P ops Q (mixR V S) a0 w0 z Φ o else if n + i = z then EndOk P ops Q V a0 q z Φ o else if pathB ops ops.size q (n + i) = true then StepOkT P ops Q (mixR V S) a0 w0 z (n + i) o else PureOk P ops Q V a0 z (n + i) o
  | [], n, i, o, _, h => by simp at h
  | x :: l, n, 0, o, h1, h => by
      have : x = o := by simpa using h
      subst this
      exact h1.1
  | x :: l, n, i + 1, o, h1, h => by
      have := stepsW_at l (n + 1) i o h1.2 (by simpa using h)
      rw [show n + (i + 1) = n + 1 + i by omega]
      exact this
theorem wp_region_write {id : Nat} {a0 : Act} {w0 : World} (V : Nat → Option Value) (S : Nat → SRel) (q z : Nat) (Φ : Value → World → Prop) (hm : P.follows .mixedOrders = true) (he : edgesOk ops = true) (hd : dstsOk ops = true) (hz : slotsOk ops a0.tmps.size = true) (hX : tEdges ops z = true)
    (hqz : q ≠ z) (hqV : V q = none) (hqn : q < ops.size) (hzn : z < ops.size) (hstep : StepsW P ops Q V S a0 w0 q z Φ 0 ops.toList) : (Code.region id ops true).wp P Q a0 w0 := by
  refine wp_region_any hm ?_
  have hlt : ∀ i d, dstAt ops i = some d → i < ops.size := fun i d h => by
    unfold dstAt at h
    rcases Nat.lt_or_ge i ops.size with h1 | h1
    · exact h1
    · rw [Array.getElem?_eq_none h1] at h; cases h
  have hdst : ∀ i j d e, i ≠ j → dstAt ops i = some d → dstAt ops j = some e → d ≠ e := by
    intro i j d e hij h1 h2
    have := List.all_eq_true.1 (List.all_eq_true.1 hd i (by simpa using hlt i d h1)) j (by simpa using hlt j e h2)
    rw [h1, h2] at this
    simpa [hij] using this
  have hslot : ∀ i d, dstAt ops i = some d → d < a0.tmps.size := by
    intro i d h1
    have := List.all_eq_true.1 hz i (by simpa using hlt i d h1)
    rw [h1] at this
    simpa using this
  obtain ⟨f, hf⟩ : ∃ f, ops.size = f + 1 := ⟨ops.size - 1, by omega⟩
  have hcl2 : ∀ (listed : Array Bool) (i : Nat) (o : Oper), i < listed.size → (∀ k o, listed.getD k false = true → ops[k]? = some o → ∀ e ∈ o.after, Region.binds .any e = true → listed.getD e.on false = true) → ops[i]? = some o → (∀ e ∈ o.after, Region.binds .any e = true → listed.getD e.on false = true) →
      (∀ k o, (listed.setIfInBounds i true).getD k false = true → ops[k]? = some o → ∀ e ∈ o.after, Region.binds .any e = true → (listed.setIfInBounds i true).getD e.on false = true) := by
    intro listed i o hil hcl ho h2 k o' hk ho' e he1 he2
    have hle : listed.getD e.on false = true := by
      by_cases hki : k = i
      · subst hki
        rw [ho] at ho'
        cases ho'
        exact h2 e he1 he2
      · have hk' : listed.getD k false = true := by simpa [Array.getElem?_setIfInBounds_ne (Ne.symm hki)] using hk
        exact hcl k o' hk' ho' e he1 he2
    by_cases hei : e.on = i
    · rw [hei]; simp [hil]
    · simpa [Array.getElem?_setIfInBounds_ne (Ne.symm hei)] using hle
  have hpath : ∀ (listed : Array Bool) (i j : Nat) (o : Oper), (∀ k o, listed.getD k false = true → ops[k]? = some o → ∀ e ∈ o.after, Region.binds .any e = true → listed.getD e.on false = true) →
      ops[i]? = some o → (∀ e ∈ o.after, Region.binds .any e = true → listed.getD e.on false = true) → pathB ops ops.size i j = true → listed.getD j false = true := by
    intro listed i j o hcl ho h2 hp
    rw [hf] at hp
    obtain ⟨o', ho', e, he, hb', h6⟩ := path_on hp
    rw [ho] at ho'
    cases ho'
    have hl := h2 e he hb'
    rcases h6 with h6 | h6
    · rw [← h6]; exact hl
    · exact path_listed hcl f e.on j hl h6
  have hunt : ∀ (a : Act) (i : Nat) (o : Oper) (v : Value), i ≠ z → ops[i]? = some o → i < ops.size → UntouchedT ops z a0 a → UntouchedT ops z a0 (a.put o.dst v) := by
    intro a i o v hiz ho hi hu s hs'
    have hns : o.dst ≠ some s := by
      have h6 := List.all_eq_true.1 hs' i (by simpa using hi)
      rw [Bool.or_eq_true] at h6
      rcases h6 with h6 | h6
      · exact absurd (by simpa using h6) hiz
      · unfold dstAt at h6
        rw [ho] at h6
        simpa using h6
    rw [← hu s hs']
    cases hd' : o.dst with
    | none => rfl
    | some d =>
      have hne : d ≠ s := fun e => hns (by rw [hd', e])
      simp [Act.put, Array.getElem?_setIfInBounds_ne hne]
  have hput : ∀ (a : Act) (i : Nat) (o : Oper) (v : Value) (d : Tmp), ops[i]? = some o → dstAt ops i = some d → a.tmps.size = a0.tmps.size → (a.put o.dst v).tmps[d]?.getD undef = v := by
    intro a i o v d ho hjd hsz
    have hd1 := hslot i d hjd
    have hod : o.dst = some d := by unfold dstAt at hjd; rw [ho] at hjd; exact hjd
    rw [hod]
    rw [← hsz] at hd1
    simp [Act.put, hd1]
  have hoth : ∀ (a : Act) (i j : Nat) (o : Oper) (v : Value) (d : Tmp), i ≠ j → ops[i]? = some o → dstAt ops j = some d → (a.put o.dst v).tmps[d]?.getD undef = a.tmps[d]?.getD undef := by
    intro a i j o v d hij ho hjd
    cases hd' : o.dst with
    | none => rfl
    | some d' =>
      have hne : d' ≠ d := hdst i j d' d hij (by unfold dstAt; rw [ho]; exact hd') hjd
      simp [Act.put, Array.getElem?_setIfInBounds_ne hne]
  have hsz2 : ∀ (a : Act) (o : Oper) (v : Value), (a.put o.dst v).tmps.size = a.tmps.size := by
    intro a o v; cases hd' : o.dst <;> simp [Act.put]
  have hdf2 : ∀ (a : Act) (o : Oper) (v : Value), (a.put o.dst v).defers = a.defers := by
    intro a o v; cases hd' : o.dst <;> simp [Act.put]
  have hset : ∀ (listed : Array Bool) (i j : Nat), i ≠ j → (listed.setIfInBounds i true).getD j false = listed.getD j false := by
    intro listed i j hij; simp [Array.getElem?_setIfInBounds_ne hij]
  refine wpAny_inv he (fun listed a w => ((∀ k o, listed.getD k false = true → ops[k]? = some o → ∀ e ∈ o.after, Region.binds .any e = true → listed.getD e.on false = true) ∧ listed.getD z false = false ∧ UntouchedT ops z a0 a ∧ a.tmps.size = a0.tmps.size ∧ a.defers = a0.defers ∧
      (∀ j d c, listed.getD j false = true → V j = some c → dstAt ops j = some d → a.tmps[d]?.getD undef = c) ∧
      ((listed.getD q false = false ∧ Below w0.drew.heap.size w0.drew w ∧ ∀ j d, listed.getD j false = true → dstAt ops j = some d → (mixR V S j).p (a.tmps[d]?.getD undef) w) ∨ (listed.getD q false = true ∧ ∃ v, Φ v w ∧ ∀ d, dstAt ops q = some d → a.tmps[d]?.getD undef = v))) ∨ ((∀ j, j < ops.size → listed.getD j false = true) ∧ Q .normal a w)) ?_ ?_ _ _ _ _ (by simp) ?_ ?_
  · rintro listed a w i o hs (⟨hcl, hzl, hu, hsz, hdf, hV, hI⟩ | ⟨hall, -⟩) hi h1 ho h2
    · have hil : i < listed.size := by omega
      have hst := stepsW_at ops.toList 0 i o hstep (by rw [Array.getElem?_toList]; exact ho)
      rw [Nat.zero_add] at hst
      have hcl' := hcl2 listed i o hil hcl ho h2
      have h1' : listed.getD i false = false := by
        rw [Array.getD_eq_getD_getElem?] at h1 ⊢
        simp [hil] at h1 ⊢
        exact h1
      have hcame : ∀ j, (o.after.toList.any fun e => e.on == j && Region.binds .any e) = true → listed.getD j false = true := by
        intro j hj
        obtain ⟨e, he1, he2⟩ := List.any_eq_true.1 hj
        have he1 : e ∈ o.after := Array.mem_toList_iff.1 he1
        simp only [Bool.and_eq_true, beq_iff_eq] at he2
        rw [← he2.1]
        exact h2 e he1 he2.2
      by_cases hiq : i = q
      · -- the write
        subst hiq
        rw [if_pos rfl] at hst
        rcases hI with ⟨hql, hb, hR⟩ | ⟨hql, -⟩
        · refine wpOp_step ho fun K hK => hst a w K (below_step hb (Below.refl _ _).drew (Nat.le_refl _)) hu (fun j d hj hjd => hR j d (hcame j hj) hjd) fun v w' hv => hK _ _ (.inl ⟨hcl', by rw [hset _ _ _ hqz]; exact hzl, hunt a i o v hqz ho hi hu, by rw [hsz2]; exact hsz, by rw [hdf2]; exact hdf, fun j d c hj hVj hjd => ?_, .inr ⟨by simp [hil], v, hv, fun d hd' => hput a i o v d ho hd' hsz⟩⟩)
          by_cases hij : i = j
          · subst hij; rw [hqV] at hVj; cases hVj
          · rw [hset _ _ _ hij] at hj
            rw [hoth a i j o v d hij ho hjd]
            exact hV j d c hj hVj hjd
        · rw [h1'] at hql; cases hql
      · rw [if_neg hiq] at hst
        by_cases hiz : i = z
        · -- the last
          subst hiz
          rw [if_pos rfl] at hst
          have hallj : ∀ j, j < ops.size → j ≠ i → listed.getD j false = true := by
            intro j hj hji
            have h5 := List.all_eq_true.1 hX j (by simpa using hj)
            rw [Bool.or_eq_true] at h5
            rcases h5 with h5 | h5
            · exact absurd (by simpa using h5) hji
            · exact hpath listed i j o hcl ho h2 h5
          have hql := hallj q hqn (Ne.symm hiq)
          have hF : ∃ v, Φ v w ∧ ∀ d, dstAt ops q = some d → a.tmps[d]?.getD undef = v := by
            rcases hI with ⟨hq2, -⟩ | ⟨-, hF⟩
            · rw [hql] at hq2; cases hq2
            · exact hF
          have hL := hst a w hu hsz hdf (fun j d c hj hVj hjd => hV j d c (hallj j (hlt j d hjd) hj) hVj hjd) hF
          refine wpOp_step ho fun K hK => ?_
          have hk : ∀ a' w', Q .normal a' w' → K a' w' := fun a' w' h => hK a' w' (.inr ⟨fun j hj => by
            by_cases hji : j = i
            · subst hji; simp [hil]
            · rw [hset _ _ _ (Ne.symm hji)]; exact hallj j hj hji, h⟩)
          by_cases hw : Region.wanted o (yielded ops a.tmps) = true
          · rw [if_pos hw] at hL ⊢
            exact Oper.wp_mono (fun a' w' h => hk a' w' h) hL
          · rw [if_neg hw] at hL ⊢
            exact hk _ _ hL
        · rw [if_neg hiz] at hst
          by_cases hp : pathB ops ops.size q i = true
          · -- ahead of the write
            rw [if_pos hp] at hst
            rcases hI with ⟨hql, hb, hR⟩ | ⟨hql, -⟩
            · refine wpOp_step ho fun K hK => hst a w K (below_step hb (Below.refl _ _).drew (Nat.le_refl _)) hu (fun j d hj hjd => hR j d (hcame j hj) hjd) fun v w' hv hb' => hK _ _ (.inl ⟨hcl', by rw [hset _ _ _ hiz]; exact hzl, hunt a i o v hiz ho hi hu, by rw [hsz2]; exact hsz, by rw [hdf2]; exact hdf, fun j d c hj hVj hjd => ?_, .inl ⟨by rw [hset _ _ _ hiq]; exact hql, below_step hb' hb (Nat.le_refl _), fun j d hj hjd => ?_⟩⟩)
              · by_cases hij : i = j
                · subst hij
                  rw [hput a i o v d ho hjd hsz]
                  exact (mixR_some hVj).1 hv
                · rw [hset _ _ _ hij] at hj
                  rw [hoth a i j o v d hij ho hjd]
                  exact hV j d c hj hVj hjd
              · by_cases hij : i = j
                · subst hij
                  rw [hput a i o v d ho hjd hsz]
                  exact hv
                · rw [hset _ _ _ hij] at hj
                  rw [hoth a i j o v d hij ho hjd]
                  exact (mixR V S j).st _ _ _ hb' (hR j d hj hjd)
            · have hqo : ∃ oq, ops[q]? = some oq := ⟨ops[q], Array.getElem?_eq_getElem hqn⟩
              obtain ⟨oq, hoq⟩ := hqo
              rw [hpath listed q i oq hcl hoq (fun e he1 he2 => hcl q oq hql hoq e he1 he2) hp] at h1'
              cases h1'
          · -- on either side
            rw [if_neg hp] at hst
            obtain ⟨c, hc, hst⟩ := hst
            refine wpOp_step ho fun K hK => hst a w K hu (fun j d hj hjd => ?_) (hK _ _ (.inl ⟨hcl', by rw [hset _ _ _ hiz]; exact hzl, hunt a i o c hiz ho hi hu, by rw [hsz2]; exact hsz, by rw [hdf2]; exact hdf, fun j d c' hj hVj hjd => ?_, ?_⟩))
            · show (match V j with | some c => SRel.is c | none => SRel.any).p _ _
              cases hVj : V j with
              | none => trivial
              | some cj => exact hV j d cj (hcame j hj) hVj hjd
            · by_cases hij : i = j
              · subst hij
                rw [hput a i o c d ho hjd hsz]
                rw [hc] at hVj
                cases hVj
                rfl
              · rw [hset _ _ _ hij] at hj
                rw [hoth a i j o c d hij ho hjd]
                exact hV j d c' hj hVj hjd
            · rcases hI with ⟨hql, hb, hR⟩ | ⟨hql, hF⟩
              · refine .inl ⟨by rw [hset _ _ _ hiq]; exact hql, hb, fun j d hj hjd => ?_⟩
                by_cases hij : i = j
                · subst hij
                  rw [hput a i o c d ho hjd hsz]
                  exact (mixR_some hc).2 rfl
                · rw [hset _ _ _ hij] at hj
                  rw [hoth a i j o c d hij ho hjd]
                  exact hR j d hj hjd
              · obtain ⟨v, hv1, hv2⟩ := hF
                exact .inr ⟨by rw [hset _ _ _ hiq]; exact hql, v, hv1, fun d hd' => by rw [hoth a i q o c d hiq ho hd']; exact hv2 d hd'⟩
    · have h3 := hall i hi
      rw [Array.getD_eq_getD_getElem?] at h3
      have hil : i < listed.size := by omega
      simp [hil] at h1 h3
      rw [h1] at h3
      cases h3
  · rintro listed a w (⟨-, hq, -⟩ | ⟨-, h⟩) hall
    · have := hall z hzn
      rw [hq] at this
      cases this
    · exact h
  · unfold left
    rw [Array.toList_replicate]
    exact Nat.le_trans (List.length_filter_le _ _) (by simp)
  · have h0 : ∀ j, (Array.replicate ops.size false).getD j false = false := fun j => by
      rw [Array.getD_eq_getD_getElem?, Array.getElem?_replicate]
      split <;> simp
    exact .inl ⟨fun k o hk => absurd hk (by rw [h0]; simp), h0 z, fun _ _ => rfl, rfl, rfl, fun j d c hj => absurd hj (by rw [h0]; simp), .inl ⟨h0 q, Below.refl _ _, fun j d hj => absurd hj (by rw [h0]; simp)⟩⟩
end
end Go.Proofs.YtdlmamnnamlleaaDoor
namespace Go.Proofs.YtdlmamnnamlleaaDoor
open Go.ChangeShapes Go.WideShapes Go.ChangeAt Go.RowKit
set_option maxHeartbeats 2000000
set_option maxRecDepth 100000
attribute [local irreducible] arrV dgA sha macA macZ srcB
attribute [local go_sem] isHead_mk isPart_mk offOf_mk blkOf_mk isAgg_mk cellsV_mk row_drew rowAt_drew row_new_cells row_old rowAt_new rowAt_old setRow_new zeroD
theorem zero8b : #[Value.int IntKind.u8 0, Value.int IntKind.u8 0, Value.int IntKind.u8 0, Value.int IntKind.u8 0, Value.int IntKind.u8 0, Value.int IntKind.u8 0, Value.int IntKind.u8 0, Value.int IntKind.u8 0] = arrK .u8 8 fun _ => 0 := by kernel_rfl
/-- The first k of eight bytes. -/
def b8F (q k : Nat) : Nat → Nat := fun i => if i < k then q / 2 ^ (56 - 8 * i) % 256 else 0
theorem b8F_succ (q k : Nat) : ∀ i < 8, upd (b8F q k) k (q / 2 ^ (56 - 8 * k) % 256) i = b8F q (k + 1) i := fun i _ => by
  unfold upd b8F
  by_cases h : i = k
  · subst h; rw [if_pos rfl, if_pos (by omega)]
  · rw [if_neg h]
    by_cases h2 : i < k
    · rw [if_pos h2, if_pos (by omega)]
    · rw [if_neg h2, if_neg (by omega)]
theorem bytesV_be8 (q : Nat) : (arrK .u8 8 (b8F q 8)).toList = bytesV (be8 q) := by
  apply List.ext_getElem?
  intro i
  by_cases hi : i < 8
  · rw [Array.getElem?_toList, arrK_at hi]
    unfold b8F be8 bytesV u8v
    rw [if_pos hi]
    simp [hi]
  · rw [List.getElem?_eq_none (by rw [Array.length_toList, arrK_size]; omega), List.getElem?_eq_none (by rw [bytesV_length, be8_len]; omega)]
theorem bs_be8 {w : World} {g q : Nat} (h : At w g .u8 8 (b8F q 8)) : Bs w (some ⟨g, 0, none⟩) (be8 q) 8 := by
  obtain ⟨cs, t, hg, -⟩ := h.row
  have e : cs = arrK .u8 8 (b8F q 8) := by rw [← h.eq]; simp [rowAt, hg]
  exact ⟨by rw [← bytesV_be8, ← e]; exact Rd.of_blk hg h.lt, by rw [be8_len]; exact Nat.le_refl _, by omega⟩
section
variable {w : World} {dst : Option Tmp} {x y : Operand} {tt : TypeId} {pos : String} {af : Array Edge} {gd : Option (Nat × Bool)} {a : Act} {K : Act → World → Prop} {Q : Exit → Act → World → Prop}
theorem load_skey (hv : IsPart (a.eval x)) (h : Row w (blkOf (a.eval x)) 180) (ho : offOf (a.eval x) + 146 ≤ 180) :
    Oper.wp Tryd.prog ⟨dst, .load 101 x, tt, pos, af, gd⟩ a w K Q ↔ K (a.put dst (.agg ((rowAt w (blkOf (a.eval x))).extract (offOf (a.eval x)) (offOf (a.eval x) + 146)))) w :=
  wp_load_part Tryd.underlying101 rfl (by kernel_rfl) hv h ho
theorem store_sblk (hv : IsPart (a.eval x)) (h : Row w (blkOf (a.eval x)) 180) (ho : offOf (a.eval x) + 32 ≤ 180) (hx : IsAgg (a.eval y) 32) :
    Oper.wp Tryd.prog ⟨dst, .store 57 x y, tt, pos, af, gd⟩ a w K Q ↔ K (a.put dst undef) (w.setRow (blkOf (a.eval x)) (putAt (rowAt w (blkOf (a.eval x))) (offOf (a.eval x)) (cellsV (a.eval y)).toList)) :=
  wp_store_part (by kernel_rfl) hv h ho hx
end
attribute [local go_sem ↓] load_skey store_sblk
attribute [local go_sem] srcB_put
def DwPhi (K : Nat → W32) (w0 : World) (seed : List UInt8) (p : Nat) (m : Bool) (bl : List UInt8) (W : World) (_ : Value) (w' : World) : Prop := SrcAt K w0 seed p m bl w' ∧ KbG w0.heap.size W w'
theorem src_inv {K : Nat → W32} {seed d : List UInt8} {p : Nat} (h : d = blkL K seed p) (hp : p < 18446744073709551616) : true = true → plc p 1 % 32 ≠ 0 → d = blkL K seed (plc p 1) := fun _ h2 => by
  rw [h]
  unfold blkL
  have : plc p 1 / 32 = p / 32 := by unfold plc at *; omega
  rw [this]
def NextR (K : Nat → W32) (w0 : World) (seed : List UInt8) (p : Nat) (W : World) (e : Ending) (w' : World) : Prop :=
  e = .returned (.int .u8 (dwB K seed p : Nat)) ∧ (∃ d, SrcAt K w0 seed (plc p 1) true d w') ∧ KbG w0.heap.size W w'
theorem src_next (K : Nat → W32) (w0 : World) (seed : List UInt8) (p : Nat) (m : Bool) (d : List UInt8) (w : World) (h : SrcAt K w0 seed p m d w) (hT : Tabs K w0) :
    Calls Tryd.prog 35 #[.pointer (some ⟨w0.heap.size, 0, none⟩)] w (NextR K w0 seed p w) := by
  have c0 := h.cP
  have c1 := h.cM
  have hpl := h.pl
  have hlt := Lib.hid h.row.lt
  have hh := Lib.hid h
  have hTh := Lib.hid hT
  have hrem : Int.tmod (p : Int) 32 = ((p % 32 : Nat) : Int) := by rw [Int.tmod_eq_emod_of_nonneg (by omega)]; omega
  have hquo : Int.tdiv (p : Int) 32 = ((p / 32 : Nat) : Int) := by rw [Int.tdiv_eq_ediv_of_nonneg (by omega)]; omega
  have hrh := Lib.hid (show p % 32 < 32 from Nat.mod_lt _ (by omega))
  have hqh := Lib.hid (show p / 32 < 576460752303423488 by omega)
  obtain ⟨r, hr⟩ : ∃ r, p % 32 = r := ⟨_, rfl⟩
  obtain ⟨q, hq⟩ : ∃ q, p / 32 = q := ⟨_, rfl⟩
  rw [hr] at hrem hrh
  rw [hq] at hquo hqh
  have hre := Lib.hid (And.intro hr hq)
  have hremh := Lib.hid hrem
  clear h hT hr hq
  go_enter Tryd.func35, Tryd.ntmps35
  by_cases hrec : r = 0 ∨ m = false
  · obtain ⟨bq, hbq⟩ : ∃ b, ((r : Int) == 0) = b := ⟨_, rfl⟩
    have hrc := Lib.hid hrec
    have hgo : bq = true ∨ (bq = false ∧ m = false) := by
      rcases hrec with e | e
      · subst e; left; rw [← hbq]; rfl
      · cases bq
        · exact .inr ⟨rfl, e⟩
        · exact .inl rfl
    clear hrec
    rcases hgo with rfl | ⟨rfl, rfl⟩
    all_goals
      go_upto_region 4 with (fail)
      rw [zero8b]
      have hL := Lib.hid (below_alloc w (Obj.cells (arrK .u8 8 fun _ => 0) 126))
      have hB := Lib.hid (show At (w.alloc (Obj.cells (arrK .u8 8 fun _ => 0) 126)) w.heap.size .u8 8 (b8F q 0) from At.new _ rfl)
      replace hh := Lib.hid (hh.out.step hL.out)
      clear c0 c1 hrem
      generalize w.alloc _ = W1 at *
      go_loopw [19] (fun iv wr => ∃ k : Nat, iv = .int .i64 k ∧ k ≤ 8 ∧ Hid (At wr w.heap.size .u8 8 (b8F q k)) ∧ Hid (SrcAt K w0 seed p _ d wr) ∧ Hid (Below w.heap.size w wr)) (fun iv _ => 8 - (intOf iv).toNat)
      case atStart => exact ⟨0, rfl, Nat.zero_le _, hB, hh, hL⟩
      case round =>
        clear hB hh hL
        obtain ⟨k, rfl, hk, hB, hh, hL⟩ := hrel
        by_cases hk8 : k = 8
        · subst hk8
          have d1 : decide (((8 : Nat) : Int) < 8) = false := by decide
          have hbs := Lib.hid (bs_be8 hB.out)
          obtain ⟨mm, hh⟩ : ∃ mm, Hid (SrcAt K w0 seed p mm d wr) := ⟨_, hh⟩
          have hTr := Lib.hid (hTh.out.step hh.out.bel)
          have kW := Lib.hid (fun V (hb : Below wr.heap.size wr V) => by have := mac_Write K (keyL K seed) [] (some ⟨w.heap.size, 0, none⟩) (be8 q) 8 V (hTr.out.step hb) (hbs.out.step hb); rwa [be8_len, List.nil_append] at this)
          have kS := Lib.hid (fun V (hb : Below wr.heap.size wr V) => mac_StMark K seed (be8 q) V (hTr.out.step hb))
          have hKw := Lib.hid (KbG.of (g := w0.heap.size) hL.out)
          have hbe := Lib.hid (show markL K seed (be8 q) = blkL K seed p by unfold blkL; rw [hre.out.2])
          obtain ⟨bl, hbl⟩ : ∃ b, markL K seed (be8 q) = b := ⟨_, rfl⟩
          rw [hbl] at kS hbe
          clear hbl
          rw [show ((8 : Nat) : Int) = (8 : Int) from rfl] at *
          go_upto_region 8 with (fail)
          generalize ha0 : Act.mk _ _ = a0
          have e0 : a0.tmps[0]?.getD undef = .pointer (some ⟨w0.heap.size, 0, none⟩) := by rw [← ha0]; rfl
          have e3 : a0.tmps[3]?.getD undef = .pointer (some ⟨w.heap.size, 0, none⟩) := by rw [← ha0]; rfl
          have hz0 : a0.tmps.size = 67 := by rw [← ha0]; rfl
          have hha0 := Lib.hid ha0
          clear ha0
          refine wp_region_write (fun jx_ => match jx_ with | 0 => some (.pointer (some ⟨w0.heap.size, 0, none⟩)) | 1 => some (.pointer (some ⟨w0.heap.size, 0, none⟩)) | 2 => some (.pointer (some ⟨w0.heap.size, 0, none⟩)) | 3 => some (.pointer (some ⟨w0.heap.size, 0, none⟩)) | 4 => some (.pointer (some ⟨w0.heap.size, 0, none⟩)) | 5 => some (.agg (macA K (keyL K seed) [])) | 6 => some (.slice (some ⟨w.heap.size, 0, none⟩) 8 8) | 7 => some (.agg (macA K (keyL K seed) (be8 q))) | 8 => some (.agg (dgA bl)) | 9 => some (.pointer (some ⟨w0.heap.size, 0, none⟩)) | 10 => some (.pointer (some ⟨w0.heap.size, 147, none⟩)) | 12 => some (.pointer (some ⟨w0.heap.size, 0, none⟩)) | 13 => some (.pointer (some ⟨w0.heap.size, 179, none⟩)) | _ => none) (fun jx_ => match jx_ with | 11 => SRel.any | 14 => SRel.any | _ => SRel.any) 11 14 (DwPhi K w0 seed p mm bl w) (by kernel_rfl) (by kernel_rfl) (by kernel_rfl) (slotsOk_of hz0 (by kernel_rfl)) (by kernel_rfl) (by decide) rfl (of_decide_eq_true (by kernel_rfl)) (of_decide_eq_true (by kernel_rfl)) ⟨?_, ?_, ?_, ?_, ?_, ?_, ?_, ?_, ?_, ?_, ?_, ?_, ?_, ?_, ?_, trivial⟩
          · rw [if_neg (by decide), if_neg (by decide), if_pos (by kernel_rfl)]
            refine calmT_step rfl fun a ω κ hb hu hc hK => ?_
            have h0 : a.tmps[0]?.getD undef = .pointer (some ⟨w0.heap.size, 0, none⟩) := (hu 0 rfl).trans e0
            have hk := Lib.hid (fun w1 (h : Below ω.heap.size ω w1) => hK (.pointer (some ⟨w0.heap.size, 0, none⟩)) w1 rfl h)
            clear hK hu hc
            go_simp
            exact hk.out _ (Below.refl _ _)
          · rw [if_neg (by decide), if_neg (by decide), if_neg (by rw [show pathB _ _ _ _ = false from by kernel_rfl]; decide)]
            refine pure_of rfl rfl fun a ω κ hu hc hK => ?_
            have h0 : a.tmps[0]?.getD undef = .pointer (some ⟨w0.heap.size, 0, none⟩) := (hu 0 rfl).trans e0
            have hk := Lib.hid hK
            clear hK hu hc
            go_simp
            exact hk.out
          · rw [if_neg (by decide), if_neg (by decide), if_pos (by kernel_rfl)]
            refine calmT_step rfl fun a ω κ hb hu hc hK => ?_
            have h0 : a.tmps[0]?.getD undef = .pointer (some ⟨w0.heap.size, 0, none⟩) := (hu 0 rfl).trans e0
            have hk := Lib.hid (fun w1 (h : Below ω.heap.size ω w1) => hK (.pointer (some ⟨w0.heap.size, 0, none⟩)) w1 rfl h)
            clear hK hu hc
            go_simp
            exact hk.out _ (Below.refl _ _)
          · rw [if_neg (by decide), if_neg (by decide), if_pos (by kernel_rfl)]
            refine calmT_step rfl fun a ω κ hb hu hc hK => ?_
            have h38 : a.tmps[38]?.getD undef = .pointer (some ⟨w0.heap.size, 0, none⟩) := hc 2 38 rfl rfl
            have hk := Lib.hid (fun w1 (h : Below ω.heap.size ω w1) => hK (.pointer (some ⟨w0.heap.size, 0, none⟩)) w1 rfl h)
            clear hK hu hc
            go_simp
            exact hk.out _ (Below.refl _ _)
          · rw [if_neg (by decide), if_neg (by decide), if_pos (by kernel_rfl)]
            refine calmT_step rfl fun a ω κ hb hu hc hK => ?_
            have h39 : a.tmps[39]?.getD undef = .pointer (some ⟨w0.heap.size, 0, none⟩) := hc 3 39 rfl rfl
            have hk := Lib.hid (fun w1 (h : Below ω.heap.size ω w1) => hK (.pointer (some ⟨w0.heap.size, 0, none⟩)) w1 rfl h)
            clear hK hu hc
            go_simp
            exact hk.out _ (Below.refl _ _)
          · rw [if_neg (by decide), if_neg (by decide), if_pos (by kernel_rfl)]
            refine calmT_step rfl fun a ω κ hb hu hc hK => ?_
            have h40 : a.tmps[40]?.getD undef = .pointer (some ⟨w0.heap.size, 0, none⟩) := hc 4 40 rfl rfl
            have hk := Lib.hid (fun w1 (h : Below ω.heap.size ω w1) => hK (.agg (macA K (keyL K seed) [])) w1 rfl h)
            clear hK hu hc
            have hr1 := (hh.out.step hb).row
            have hr2 := (hh.out.step hb).eq
            have hr3 := srcB_key (b := macA K (keyL K seed) []) (p := p) (d := d) (m := mm) (macA_cells K (keyL K seed) []).1
            go_simp
            exact hk.out _ (Below.refl _ _)
          · rw [if_neg (by decide), if_neg (by decide), if_pos (by kernel_rfl)]
            refine calmT_step rfl fun a ω κ hb hu hc hK => ?_
            have h3 : a.tmps[3]?.getD undef = .pointer (some ⟨w.heap.size, 0, none⟩) := (hu 3 rfl).trans e3
            have hk := Lib.hid (fun w1 (h : Below ω.heap.size ω w1) => hK (.slice (some ⟨w.heap.size, 0, none⟩) 8 8) w1 rfl h)
            clear hK hu hc
            go_simp
            exact hk.out _ (Below.refl _ _)
          · rw [if_neg (by decide), if_neg (by decide), if_pos (by kernel_rfl)]
            refine calmT_step rfl fun a ω κ hb hu hc hK => ?_
            have h41 : a.tmps[41]?.getD undef = .agg (macA K (keyL K seed) []) := hc 5 41 rfl rfl
            have h42 : a.tmps[42]?.getD undef = .slice (some ⟨w.heap.size, 0, none⟩) 8 8 := hc 6 42 rfl rfl
            have hk := Lib.hid (fun w1 (h : Below ω.heap.size ω w1) => hK (.agg (macA K (keyL K seed) (be8 q))) w1 rfl h)
            clear hK hu hc
            go_simp
            go_at_call 61
            refine (kW.out ω hb).mono ?_
            rintro e w1 ⟨rfl, hb1⟩
            exact hk.out _ hb1
          · rw [if_neg (by decide), if_neg (by decide), if_pos (by kernel_rfl)]
            refine calmT_step rfl fun a ω κ hb hu hc hK => ?_
            have h43 : a.tmps[43]?.getD undef = .agg (macA K (keyL K seed) (be8 q)) := hc 7 43 rfl rfl
            have hk := Lib.hid (fun w1 (h : Below ω.heap.size ω w1) => hK (.agg (dgA bl)) w1 rfl h)
            clear hK hu hc
            go_simp
            go_at_call 62
            refine (kS.out ω hb).mono ?_
            rintro e w1 ⟨rfl, hb1⟩
            exact hk.out _ hb1
          · rw [if_neg (by decide), if_neg (by decide), if_pos (by kernel_rfl)]
            refine calmT_step rfl fun a ω κ hb hu hc hK => ?_
            have h36 : a.tmps[36]?.getD undef = .pointer (some ⟨w0.heap.size, 0, none⟩) := hc 0 36 rfl rfl
            have hk := Lib.hid (fun w1 (h : Below ω.heap.size ω w1) => hK (.pointer (some ⟨w0.heap.size, 0, none⟩)) w1 rfl h)
            clear hK hu hc
            go_simp
            exact hk.out _ (Below.refl _ _)
          · rw [if_neg (by decide), if_neg (by decide), if_pos (by kernel_rfl)]
            refine calmT_step rfl fun a ω κ hb hu hc hK => ?_
            have h45 : a.tmps[45]?.getD undef = .pointer (some ⟨w0.heap.size, 0, none⟩) := hc 9 45 rfl rfl
            have hk := Lib.hid (fun w1 (h : Below ω.heap.size ω w1) => hK (.pointer (some ⟨w0.heap.size, 147, none⟩)) w1 rfl h)
            clear hK hu hc
            go_simp
            exact hk.out _ (Below.refl _ _)
          · rw [if_pos rfl]
            refine write_of rfl fun a ω κ hb hu hc hK => ?_
            have h46 : a.tmps[46]?.getD undef = .pointer (some ⟨w0.heap.size, 147, none⟩) := hc 10 46 rfl rfl
            have h44 : a.tmps[44]?.getD undef = .agg (dgA bl) := hc 8 44 rfl rfl
            have hk := Lib.hid (fun vz wz (hvz : (DwPhi K w0 seed p mm bl w) vz wz) => hK vz wz hvz)
            clear hK hu hc
            have hr1 := (hh.out.step hb).row
            have hr2 := (hh.out.step hb).eq
            have hcz := dgA_cells bl
            go_simp
            exact hk.out undef _ ⟨(hh.out.step hb).setD (fun _ _ => hbe.out), (hKw.out.trans (KbG.of hb)).setRow _⟩
          · rw [if_neg (by decide), if_neg (by decide), if_neg (by rw [show pathB _ _ _ _ = false from by kernel_rfl]; decide)]
            refine pure_of rfl rfl fun a ω κ hu hc hK => ?_
            have h37 : a.tmps[37]?.getD undef = .pointer (some ⟨w0.heap.size, 0, none⟩) := hc 1 37 rfl rfl
            have hk := Lib.hid hK
            clear hK hu hc
            go_simp
            exact hk.out
          · rw [if_neg (by decide), if_neg (by decide), if_neg (by rw [show pathB _ _ _ _ = false from by kernel_rfl]; decide)]
            refine pure_of rfl rfl fun a ω κ hu hc hK => ?_
            have h47 : a.tmps[47]?.getD undef = .pointer (some ⟨w0.heap.size, 0, none⟩) := hc 12 47 rfl rfl
            have hk := Lib.hid hK
            clear hK hu hc
            go_simp
            exact hk.out
          · rw [if_neg (by decide), if_pos rfl]
            refine end_of rfl fun aa ω hu hsz hdf hc hf => ?_
            have h36 : aa.tmps[36]?.getD undef = .pointer (some ⟨w0.heap.size, 0, none⟩) := hc 0 36 _ (by decide) rfl rfl
            have h37 : aa.tmps[37]?.getD undef = .pointer (some ⟨w0.heap.size, 0, none⟩) := hc 1 37 _ (by decide) rfl rfl
            have h38 : aa.tmps[38]?.getD undef = .pointer (some ⟨w0.heap.size, 0, none⟩) := hc 2 38 _ (by decide) rfl rfl
            have h39 : aa.tmps[39]?.getD undef = .pointer (some ⟨w0.heap.size, 0, none⟩) := hc 3 39 _ (by decide) rfl rfl
            have h40 : aa.tmps[40]?.getD undef = .pointer (some ⟨w0.heap.size, 0, none⟩) := hc 4 40 _ (by decide) rfl rfl
            have h41 : aa.tmps[41]?.getD undef = .agg (macA K (keyL K seed) []) := hc 5 41 _ (by decide) rfl rfl
            have h42 : aa.tmps[42]?.getD undef = .slice (some ⟨w.heap.size, 0, none⟩) 8 8 := hc 6 42 _ (by decide) rfl rfl
            have h43 : aa.tmps[43]?.getD undef = .agg (macA K (keyL K seed) (be8 q)) := hc 7 43 _ (by decide) rfl rfl
            have h44 : aa.tmps[44]?.getD undef = .agg (dgA bl) := hc 8 44 _ (by decide) rfl rfl
            have h45 : aa.tmps[45]?.getD undef = .pointer (some ⟨w0.heap.size, 0, none⟩) := hc 9 45 _ (by decide) rfl rfl
            have h46 : aa.tmps[46]?.getD undef = .pointer (some ⟨w0.heap.size, 147, none⟩) := hc 10 46 _ (by decide) rfl rfl
            have h47 : aa.tmps[47]?.getD undef = .pointer (some ⟨w0.heap.size, 0, none⟩) := hc 12 47 _ (by decide) rfl rfl
            have h48 : aa.tmps[48]?.getD undef = .pointer (some ⟨w0.heap.size, 179, none⟩) := hc 13 48 _ (by decide) rfl rfl
            obtain ⟨vz, hF, -⟩ := hf
            have hHz := Lib.hid (And.intro hu (And.intro hsz hdf))
            clear hc hu hsz hdf hz0
            obtain ⟨hS8, hK8⟩ := hF
            have cM := hS8.cM
            have fM := hS8.row.frozen 179
            have hS9 := Lib.hid (hS8.setM true (fun _ _ => hbe.out))
            have hK9 := Lib.hid (hK8.setCell (i := 179) (.bool true))
            clear hS8 hK8
            go_simp
            have ha0 := hha0.out
            subst ha0
            have he := act_patchT (n := 67) 14 [false, false, false, false, false, false, false, false, false, false, false, false, false, false, false, false, false, false, false, false, false, false, false, false, false, false, false, false, false, false, false, false, false, false, false, false, true, true, true, true, true, true, true, true, true, true, true, true, true, false, false, false, false, false, false, false, false, false, false, false, false, false, false, false, false, false, false] rfl (by kernel_rfl) hHz.out.1 hHz.out.2.1 hHz.out.2.2
            simp only [patch, cond_true, cond_false, Nat.reduceAdd] at he
            clear hHz hha0 e0 e3
            rw [he]
            clear he
            generalize aa.tmps[36]?.getD undef = x36 at *
            generalize aa.tmps[37]?.getD undef = x37 at *
            generalize aa.tmps[38]?.getD undef = x38 at *
            generalize aa.tmps[39]?.getD undef = x39 at *
            generalize aa.tmps[40]?.getD undef = x40 at *
            generalize aa.tmps[41]?.getD undef = x41 at *
            generalize aa.tmps[42]?.getD undef = x42 at *
            generalize aa.tmps[43]?.getD undef = x43 at *
            generalize aa.tmps[44]?.getD undef = x44 at *
            generalize aa.tmps[45]?.getD undef = x45 at *
            generalize aa.tmps[46]?.getD undef = x46 at *
            generalize aa.tmps[47]?.getD undef = x47 at *
            generalize aa.tmps[48]?.getD undef = x48 at *
            have hh := hS9
            have hKb := hK9
            have hdb := hbe
            clear hS9 hK9 cM fM kW kS hKw hbs hTr hB hL
            generalize ω.setCell _ _ = W9 at *
            have hrem := hremh.out
            have c0 := hh.out.cP
            have cB := hh.out.cB hrh.out
            have hri : (r : Int) < 32 := by have := hrh.out; omega
            have hri0 : (0 : Int) ≤ (r : Int) := by omega
            have hwr : IntKind.u64.wrap ((p : Int) + 1) = ((plc p 1 : Nat) : Int) := by rw [IntKind.wrap_u64]; unfold plc; omega
            have fP := hh.out.row.frozen 146
            have hN := Lib.hid ((hh.out.step (Below.refl _ _).drew).setP (plc_lt p 1) (src_inv hdb.out hpl))
            have hK2 := Lib.hid ((hKb.out.trans (KbG.of (Below.refl _ _).drew)).setCell (i := 146) (.int .u64 (plc p 1 : Nat)))
            have hval := Lib.hid (show dwB K seed p = bytesF bl r by unfold dwB; rw [← hdb.out, hre.out.1])
            go_upto_region 9 with (fail)
            go_region
            go_wp2_with fail
            go_ret
            exact ⟨by rw [hval.out] <;> rfl, ⟨_, hN.out⟩, hK2.out⟩
        · have d1 : decide ((k : Int) < 8) = true := by simp; omega
          have hkl : k < 8 := by omega
          have hki : (k : Int) < 8 := by omega
          have hk0 : (0 : Int) ≤ (k : Int) := by omega
          have c0 := hh.out.cP
          have cb := hB.out.cell hkl
          have fb := hB.out.row.frozen k
          have w1 : IntKind.i64.wrap (8 * (k : Int)) = 8 * (k : Int) := by rw [IntKind.wrap_i64]; omega
          have wq : IntKind.u64.wrap (q : Int) = (q : Int) := by rw [IntKind.wrap_u64]; have := hqh.out; omega
          have hv : (q : Int) / 2 ^ (56 - 8 * k) % 256 = ((q / 2 ^ (56 - 8 * k) % 256 : Nat) : Int) := by push_cast; rfl
          have hB2 := Lib.hid (show At (wr.setCell ⟨w.heap.size, k, none⟩ (.int .u8 ((q : Int) / 2 ^ (56 - 8 * k) % 256))) w.heap.size .u8 8 (b8F q (k + 1)) from by rw [hv]; exact (hB.out.set k (q / 2 ^ (56 - 8 * k) % 256)).congr (b8F_succ q k))
          have hh2 := Lib.hid (hh.out.farC (g := w.heap.size) (i := k) (v := .int .u8 ((q : Int) / 2 ^ (56 - 8 * k) % 256)) hlt.out)
          have hL2 := Lib.hid (hL.out.setCell (p := ⟨w.heap.size, k, none⟩) (Nat.le_refl _) (.int .u8 ((q : Int) / 2 ^ (56 - 8 * k) % 256)))
          clear hv
          clear hB hh hL
          have w2 : IntKind.i64.wrap (56 - 8 * (k : Int)) = 56 - 8 * (k : Int) := by rw [IntKind.wrap_i64]; omega
          go_wp2_with fail
          refine ⟨⟨k + 1, by go_num, hkl, ?_, ?_, ?_⟩, ?_⟩
          all_goals first | exact hB2 | exact hh2 | exact hL2 | (simp [intOf]; omega)
  · have hr0 : ((r : Int) == 0) = false := by simp; intro e; exact hrec (.inl e)
    have hmt : m = true := by
      cases m
      · exact absurd (.inr rfl) hrec
      · rfl
    subst hmt
    have hdb := Lib.hid (show d = blkL K seed p from hh.out.inv rfl (by rw [hre.out.1]; exact fun e => hrec (.inl e)))
    have hKb := Lib.hid (KbG.refl w0.heap.size w)
    clear hrec
    have hrem := hremh.out
    have c0 := hh.out.cP
    have cB := hh.out.cB hrh.out
    have hri : (r : Int) < 32 := by have := hrh.out; omega
    have hri0 : (0 : Int) ≤ (r : Int) := by omega
    have hwr : IntKind.u64.wrap ((p : Int) + 1) = ((plc p 1 : Nat) : Int) := by rw [IntKind.wrap_u64]; unfold plc; omega
    have fP := hh.out.row.frozen 146
    have hN := Lib.hid ((hh.out.step (Below.refl _ _).drew).setP (plc_lt p 1) (src_inv hdb.out hpl))
    have hK2 := Lib.hid ((hKb.out.trans (KbG.of (Below.refl _ _).drew)).setCell (i := 146) (.int .u64 (plc p 1 : Nat)))
    have hval := Lib.hid (show dwB K seed p = bytesF d r by unfold dwB; rw [← hdb.out, hre.out.1])
    go_upto_region 9 with (fail)
    go_region
    go_wp2_with fail
    go_ret
    exact ⟨by rw [hval.out] <;> rfl, ⟨_, hN.out⟩, hK2.out⟩
end Go.Proofs.YtdlmamnnamlleaaDoor
namespace Go.Proofs.YtdlmamnnamlleaaDoor
open Go Go.RowKit

/-- b over f, from o on, n places. -/
def cpF (f : Nat → Nat) (o n : Nat) (b : Nat → Nat) : Nat → Nat := fun p => if o ≤ p ∧ p < o + n then b (p - o) else f p
theorem putAt_arrK {k : IntKind} {N n : Nat} {b : Nat → Nat} : ∀ (m : Nat) (o s : Nat) (f : Nat → Nat), putAt (arrK k N f) o ((List.range' s m).map fun j => Value.int k (b j : Nat)) = arrK k N fun p => if o ≤ p ∧ p < o + m then b (p - o + s) else f p
  | 0, o, s, f => by
    show arrK k N f = _
    refine arrK_congr fun p _ => ?_
    rw [if_neg (by omega)]
  | m + 1, o, s, f => by
    rw [List.range'_succ, List.map_cons, putAt, arrK_set, putAt_arrK (n := n) m (o + 1) (s + 1)]
    refine arrK_congr fun p _ => ?_
    unfold upd
    by_cases h : o + 1 ≤ p ∧ p < o + 1 + m
    · rw [if_pos h, if_pos (by omega), show p - (o + 1) + (s + 1) = p - o + s by omega]
    · rw [if_neg h]
      by_cases h2 : p = o
      · subst h2
        rw [if_pos rfl, if_pos (by omega)]
        congr 1; omega
      · rw [if_neg h2, if_neg (by omega)]
theorem putAt_cpF {N n o : Nat} {f b : Nat → Nat} {k : IntKind} : putAt (arrK k N f) o ((List.range' 0 n).map fun j => Value.int k (b j : Nat)) = arrK k N (cpF f o n b) := by
  rw [putAt_arrK (n := 0)]
  rfl
theorem rng_at {n : Nat} {k : IntKind} {b : Nat → Nat} {j : Nat} {v : Value} (h : ((List.range' 0 n).map fun j => Value.int k (b j : Nat))[j]? = some v) : j < n ∧ v = .int k (b j : Nat) := by
  by_cases hj : j < n
  · rw [List.getElem?_map, List.getElem?_range' hj] at h
    simp only [Option.map_some, Option.some.injEq] at h
    exact ⟨hj, by rw [← h]; simp⟩
  · rw [List.getElem?_eq_none (by simp; omega)] at h
    cases h
section
variable {P : Program} {w : World} {g N : Nat} {f b : Nat → Nat} {k : IntKind} {e : TypeId}
theorem At.setCells (T : At w g k N f) (o n : Nat) : w.setCells g o ((List.range' 0 n).map fun j => Value.int k (b j : Nat)) = w.setRow g (arrK k N (cpF f o n b)) := by
  rw [setCells_row _ _ T.row, T.eq, putAt_cpF]
theorem At.has (T : At w g k N f) {i : Nat} (hi : i < N) : (w.cell? ⟨g, i, none⟩).isSome = true := by rw [T.cell hi]; rfl
theorem At.cp (T : At w g k N f) (o n : Nat) (b : Nat → Nat) : At (w.setRow g (arrK k N (cpF f o n b))) g k N (cpF f o n b) := At.put T.row
theorem run_copy_buf {dT sT ty : TypeId} (hu : P.underlying dT = some (.slice e)) (hs : (P.info? e).map (·.size) = some 1) (T : At w g k N f) {o n dl dc sl sc : Nat} {ad : Addr}
    (hb : ∀ j < n, w.cell? (ad.add j) = some (.int k (b j : Nat))) (hn : n = Nat.min sl dl) (ho : o + n ≤ N) :
    (Builtin.copy_ #[dT, sT] ty #[.slice (some ⟨g, o, none⟩) dl dc, .slice (some ad) sl sc]).run P w = .ok (.int .i64 (n : Nat)) (w.setRow g (arrK k N (cpF f o n b))) := by
  have h := run_copy_cells (P := P) w dT sT ty e g o dl dc ad sl sc ((List.range' 0 n).map fun j => Value.int k (b j : Nat)) hu hs (by simpa using hn)
    (fun j v hj => by obtain ⟨h1, h2⟩ := rng_at hj; rw [h2]; exact hb j h1) (fun j hj => T.has (by simp at hj; omega)) (fun j hj => T.row.frozen _)
    (fun v hv => by obtain ⟨j, -, rfl⟩ := List.mem_map.1 hv; rfl)
  rw [h, T.setCells]
  simp [goInt]
theorem run_app_buf {t ty : TypeId} {bytes : Nat} (S : SlT P t e 1 bytes) (T : At w g k N f) {n m c : Nat} {ad : Addr} (hb : ∀ j < m, w.cell? (ad.add j) = some (.int k (b j : Nat))) (hroom : n + m ≤ N) :
    (Builtin.append_ #[t, t] ty #[.slice (some ⟨g, 0, none⟩) n N, .slice (some ad) m c]).run P w = .ok (.slice (some ⟨g, 0, none⟩) (n + m) N) (w.setRow g (arrK k N (cpF f n m b))) := by
  obtain ⟨i, z, hi, -, hs, -⟩ := S.info
  have h := run_append_room_cells (P := P) w t ty e i S.under hi g 0 n N ad m c ((List.range' 0 m).map fun j => Value.int k (b j : Nat)) (by simp [hs])
    (fun j v hj => by obtain ⟨h1, h2⟩ := rng_at hj; rw [h2]; exact hb j h1) (fun v hv => by obtain ⟨j, -, rfl⟩ := List.mem_map.1 hv; rfl) hroom
    (fun j hj => by simp only [hs, Nat.zero_add, Nat.mul_one]; exact T.has (by simp at hj; omega)) (fun j hj => by simp only [hs, Nat.zero_add, Nat.mul_one]; exact T.row.frozen _)
  rw [h]
  simp only [hs, Nat.zero_add, Nat.mul_one]
  rw [T.setCells]
theorem run_app_none {t ty : TypeId} {bytes : Nat} (S : SlT P t e 1 bytes) {n c : Nat} (hA : n ≤ N) :
    (Builtin.append_ #[t, t] ty #[.slice (some ⟨g, 0, none⟩) n N, .slice none 0 c]).run P w = .ok (.slice (some ⟨g, 0, none⟩) n N) w := by
  obtain ⟨i, z, hi, -⟩ := S.info
  simp [Builtin.append_, run_underlying S.under, sizeOf, typeInfo, hi, Builtin.lenOf, Builtin.firstCells, hA, storeCells]
theorem wpList_appR {ops : Array Oper} {rest : List Oper} {o : Oper} {a : Act} {Q : Exit → Act → World → Prop} (hgd : o.guard = none) (s x : Operand) (t u : TypeId)
    (ho : o.op = .call { callee := .builtin .append, args := #[s, x], argTypes := #[t, u] }) {v1 v2 v : Value} {w' : World} (h1 : a.eval s = v1) (h2 : a.eval x = v2) (hrun : (Builtin.append_ #[t, u] o.type #[v1, v2]).run P w = .ok v w')
    (h : wpList P ops Q rest (a.put o.dst v) w') : wpList P ops Q (o :: rest) a w :=
  wpList_plain hgd fun _ hK => by
    unfold Oper.wp execOp
    simp only [ho, resolve, invoke, builtin, Sem.run_bind, Sem.run_pure, Result.andThen_ok, List.map_toArray, List.map_cons, List.map_nil, h1, h2, hrun]
    exact hK _ _ h
theorem wpList_copyR {ops : Array Oper} {rest : List Oper} {o : Oper} {a : Act} {Q : Exit → Act → World → Prop} (hgd : o.guard = none) (s x : Operand) (t u : TypeId)
    (ho : o.op = .call { callee := .builtin .copy, args := #[s, x], argTypes := #[t, u] }) {v1 v2 v : Value} {w' : World} (h1 : a.eval s = v1) (h2 : a.eval x = v2) (hrun : (Builtin.copy_ #[t, u] o.type #[v1, v2]).run P w = .ok v w')
    (h : wpList P ops Q rest (a.put o.dst v) w') : wpList P ops Q (o :: rest) a w :=
  wpList_plain hgd fun _ hK => by
    unfold Oper.wp execOp
    simp only [ho, resolve, invoke, builtin, Sem.run_bind, Sem.run_pure, Result.andThen_ok, List.map_toArray, List.map_cons, List.map_nil, h1, h2, hrun]
    exact hK _ _ h
end
/-- A slice of M bytes, those of f. -/
def BytesOk (f : Nat → Nat) (M : Nat) (w : World) (e : Ending) (w' : World) : Prop := ∃ g, e = .returned (.slice (some ⟨g, 0, none⟩) M M) ∧ At w' g .u8 M f ∧ Below w.heap.size w w'
def bLs (f : Nat → Nat) (n : Nat) : List UInt8 := (List.range n).map fun i => UInt8.ofNat (f i)
theorem bLs_len (f : Nat → Nat) (n : Nat) : (bLs f n).length = n := by simp [bLs]
theorem bLs_congr {f g : Nat → Nat} {n : Nat} (h : ∀ i < n, f i = g i) : bLs f n = bLs g n := by
  unfold bLs
  refine List.map_congr_left fun i hi => ?_
  rw [h i (by simpa using hi)]
theorem bLs_succ (f : Nat → Nat) (n : Nat) : bLs f (n + 1) = bLs f n ++ [UInt8.ofNat (f n)] := by simp [bLs, List.range_succ]
theorem bLs_add (f : Nat → Nat) (n m : Nat) : bLs f (n + m) = bLs f n ++ bLs (fun i => f (n + i)) m := by
  induction m with
  | zero => simp [bLs]
  | succ m ih => rw [← Nat.add_assoc, bLs_succ, ih, bLs_succ, List.append_assoc]
theorem bytesV_bLs {f : Nat → Nat} {n : Nat} (hf : ∀ i < n, f i < 256) : bytesV (bLs f n) = (arrK .u8 n f).toList := by
  refine List.ext_getElem? fun p => ?_
  by_cases hp : p < n
  · rw [Array.getElem?_toList (xs := arrK .u8 n f), arrK_at hp]
    have := hf p hp
    simp [bytesV, bLs, u8v, hp]
    omega
  · rw [Array.getElem?_toList (xs := arrK .u8 n f), Array.getElem?_eq_none (by rw [arrK_size]; omega), List.getElem?_eq_none (by rw [bytesV_length, bLs_len]; omega)]
theorem At.rdB {w : World} {g N n : Nat} {f : Nat → Nat} (T : At w g .u8 N f) (hn : n ≤ N) (hf : ∀ i < n, f i < 256) : Rd w (g + 1) (some ⟨g, 0, none⟩) (bytesV (bLs f n)) := fun j u hu => by
  rw [bytesV_bLs hf, Array.getElem?_toList] at hu
  have hj : j < n := by have := (Array.getElem?_eq_some_iff.1 hu).1; simpa [arrK_size] using this
  rw [arrK_at hj] at hu
  refine ⟨_, rfl, by simp, ?_⟩
  rw [show (Addr.mk g 0 none).add j = ⟨g, j, none⟩ by unfold Addr.add; split <;> simp_all, T.cell (by omega), ← hu]
theorem run_make_buf {P : Program} {t e : TypeId} (ht : P.underlying t = some (.slice e)) (hinfo : (P.info? e).map (fun i => (i.zero, i.size, i.bytes)) = some (some (.int .u8 0), 1, 1)) (kl kc : IntKind) {n M : Nat} (hn : n ≤ M) (hM : M ≤ 281474976710656) (w : World) :
    (Instr.makeSlice t (.int kl (n : Int)) (.int kc (M : Int))).run P w = .ok (.slice (some ⟨w.heap.size, 0, none⟩) n M) (w.alloc (.cells (arrK .u8 M fun _ => 0) e)) := by
  obtain ⟨i, hi, hzz⟩ := Option.map_eq_some_iff.1 hinfo
  simp only [Prod.mk.injEq] at hzz
  obtain ⟨hz, hs, hb⟩ := hzz
  have hr := run_make (P := P) w t e i (.int .u8 0) ht hi hz kl kc n M (by omega) (by omega) (by rw [hb]; omega) (by omega)
  simp only [Int.toNat_natCast, hs, Nat.mul_one] at hr
  rw [hr, ← made_arrK]
  rfl
theorem run_app_bytes {P : Program} {w : World} {g N : Nat} {f : Nat → Nat} {t ty e : TypeId} {bytes : Nat} (S : SlT P t e 1 bytes) (T : At w g .u8 N f) {B n c : Nat} {A : Option Addr} {l : List UInt8} (hA : Rd w B A (bytesV l)) (hroom : n + l.length ≤ N) :
    (Builtin.append_ #[t, t] ty #[.slice (some ⟨g, 0, none⟩) n N, .slice A l.length c]).run P w = .ok (.slice (some ⟨g, 0, none⟩) (n + l.length) N) (w.setRow g (arrK .u8 N (cpF f n l.length fun p => (l[p]?.getD 0).toNat))) := by
  cases A with
  | none =>
    have hl : l = [] := by
      cases l with
      | nil => rfl
      | cons x r => obtain ⟨ad, h, -⟩ := hA 0 (u8v x) rfl; cases h
    subst hl
    obtain ⟨cs, t', hg, -⟩ := T.row
    have e : cs = arrK .u8 N f := by rw [← T.eq]; simp [rowAt, hg]
    rw [show cpF f n ([] : List UInt8).length (fun p => (([] : List UInt8)[p]?.getD 0).toNat) = f by funext p; unfold cpF; rw [if_neg (by intro h; simp at h; omega)], ← e, setRow_self w g cs t' (0, 0) hg]
    exact run_app_none S (by simpa using hroom)
  | some ad =>
    refine run_app_buf S T (fun j hj => ?_) hroom
    exact hA.all (by simp [bytesV, u8v, hj])
theorem run_copy_bytes {P : Program} {w : World} {g N : Nat} {f : Nat → Nat} {e dT sT ty : TypeId} (hu : P.underlying dT = some (.slice e)) (hs : (P.info? e).map (·.size) = some 1) (T : At w g .u8 N f) {B n o dl dc sc : Nat} {A : Option Addr} {l : List UInt8} (hA : Rd w B A (bytesV l))
    (hn : n = Nat.min l.length dl) (hn0 : 0 < n) (ho : o + n ≤ N) :
    (Builtin.copy_ #[dT, sT] ty #[.slice (some ⟨g, o, none⟩) dl dc, .slice A l.length sc]).run P w = .ok (.int .i64 (n : Nat)) (w.setRow g (arrK .u8 N (cpF f o n fun p => (l[p]?.getD 0).toNat))) := by
  have hnl : n ≤ l.length := by rw [hn]; exact Nat.min_le_left _ _
  obtain ⟨ad, rfl, -, -⟩ := hA.at_ (k := 0) (by rw [bytesV_length]; omega)
  refine run_copy_buf hu hs T (fun j hj => ?_) hn ho
  exact hA.all (by rw [bytesV, List.getElem?_map, List.getElem?_eq_getElem (by omega)]; simp [u8v])
theorem bLs_byteAt (l : List UInt8) : bLs (fun p => (l[p]?.getD 0).toNat) l.length = l := by
  apply List.ext_getElem
  · exact bLs_len _ _
  · intro i h1 h2
    simp [bLs, h2]
theorem add0 (g j : Nat) (o : Nat) : (Addr.mk g o none).add j = ⟨g, o + j, none⟩ := by unfold Addr.add; split <;> simp_all
end Go.Proofs.YtdlmamnnamlleaaDoor
namespace Go.Proofs.YtdlmamnnamlleaaDoor
open Go.ChangeShapes Go.WideShapes Go.ChangeAt Go.RowKit
set_option maxHeartbeats 2000000
set_option maxRecDepth 100000
attribute [local irreducible] arrV dgA sha macA macZ srcB
attribute [local go_sem] isHead_mk isPart_mk offOf_mk blkOf_mk isAgg_mk cellsV_mk row_drew rowAt_drew row_new_cells row_old rowAt_new rowAt_old setRow_new zeroD
theorem At.kb {w w' : World} {g g0 m : Nat} {k : IntKind} {f : Nat → Nat} (h : At w g k m f) (hk : KbG g0 w w') (hne : g ≠ g0) : At w' g k m f := ⟨(hk.row h.row hne).1, (hk.row h.row hne).2.trans h.eq⟩
/-- A source at a place. -/
def Src (K : Nat → W32) (w0 : World) (seed : List UInt8) (p : Nat) (W : World) : Prop := ∃ m d, SrcAt K w0 seed p m d W
theorem Src.step {K : Nat → W32} {w0 W W' : World} {seed : List UInt8} {p : Nat} (h : Src K w0 seed p W) (hb : Below W.heap.size W W') : Src K w0 seed p W' := by
  obtain ⟨m, d, h⟩ := h; exact ⟨m, d, h.step hb⟩
theorem Src.farC {K : Nat → W32} {w0 W : World} {seed : List UInt8} {p g i : Nat} {v : Value} (h : Src K w0 seed p W) (hg : w0.heap.size < g) : Src K w0 seed p (W.setCell ⟨g, i, none⟩ v) := by
  obtain ⟨m, d, h⟩ := h; exact ⟨m, d, h.farC hg⟩
theorem Src.far {K : Nat → W32} {w0 W : World} {seed : List UInt8} {p g : Nat} {c : Array Value} (h : Src K w0 seed p W) (hg : w0.heap.size < g) : Src K w0 seed p (W.setRow g c) := by
  obtain ⟨m, d, h⟩ := h; exact ⟨m, d, h.far hg⟩
theorem Src.lt {K : Nat → W32} {w0 W : World} {seed : List UInt8} {p : Nat} (h : Src K w0 seed p W) : w0.heap.size < W.heap.size := by
  obtain ⟨m, d, h⟩ := h; exact h.row.lt
theorem Src.bel {K : Nat → W32} {w0 W : World} {seed : List UInt8} {p : Nat} (h : Src K w0 seed p W) : Below w0.heap.size w0 W := by
  obtain ⟨m, d, h⟩ := h; exact h.bel
theorem Src.pl {K : Nat → W32} {w0 W : World} {seed : List UInt8} {p : Nat} (h : Src K w0 seed p W) : p < 18446744073709551616 := by
  obtain ⟨m, d, h⟩ := h; exact h.pl
theorem plc_zero {p : Nat} (h : p < 18446744073709551616) : plc p 0 = p := by unfold plc; omega
theorem next_c (K : Nat → W32) (w0 : World) (seed : List UInt8) (p : Nat) (w : World) (h : Src K w0 seed p w) (hT : Tabs K w0) :
    Calls Tryd.prog 35 #[.pointer (some ⟨w0.heap.size, 0, none⟩)] w fun e w' => e = .returned (.int .u8 (dwB K seed p : Nat)) ∧ Src K w0 seed (plc p 1) w' ∧ KbG w0.heap.size w w' := by
  obtain ⟨m, d, h⟩ := h
  exact (src_next K w0 seed p m d w h hT).mono fun e w' ⟨h1, ⟨d', h2⟩, h3⟩ => ⟨h1, ⟨true, d', h2⟩, h3⟩
/-- The first k of the bytes from a place on. -/
def dwF (K : Nat → W32) (seed : List UInt8) (p k : Nat) : Nat → Nat := fun i => if i < k then dwB K seed (plc p i) else 0
theorem dwF_succ (K : Nat → W32) (seed : List UInt8) (p k N : Nat) : ∀ i < N, upd (dwF K seed p k) k (dwB K seed (plc p k)) i = dwF K seed p (k + 1) i := fun i _ => by
  unfold upd dwF
  by_cases h : i = k
  · subst h; rw [if_pos rfl, if_pos (by omega)]
  · rw [if_neg h]
    by_cases h2 : i < k
    · rw [if_pos h2, if_pos (by omega)]
    · rw [if_neg h2, if_neg (by omega)]
def BytR (K : Nat → W32) (w0 : World) (seed : List UInt8) (p N : Nat) (w : World) (e : Ending) (w' : World) : Prop :=
  ∃ gb, e = .returned (.tuple #[.slice (some ⟨gb, 0, none⟩) N N, .int .i64 0]) ∧ At w' gb .u8 N (dwF K seed p N) ∧ Src K w0 seed (plc p N) w' ∧ KbG w0.heap.size w w'
theorem src_BytesBad (w0 : World) (n : Int) (w : World) (hf : fitE n ≠ 0) :
    Calls Tryd.prog 17 #[.pointer (some ⟨w0.heap.size, 0, none⟩), .int .i64 n] w fun e w' => e = .returned (.tuple #[.slice none 0 0, .int .i64 (fitE n)]) ∧ w = w' := by
  have kF := Lib.hid (draw_fits n w)
  obtain ⟨z, hz⟩ : ∃ z, fitE n = z := ⟨_, rfl⟩
  rw [hz] at kF hf ⊢
  have hz1 : (z != 0) = true := by simpa using hf
  clear hz hf
  go_enter Tryd.func17, Tryd.ntmps17
  go_upto_region 1 with (fail)
  go_wp2_with fail
  refine kF.out.mono ?_
  rintro e w1 ⟨rfl, rfl⟩
  clear kF
  go_wp2_with fail
  go_ret2
  exact ⟨rfl, rfl⟩
theorem src_Bytes (K : Nat → W32) (w0 : World) (seed : List UInt8) (p N : Nat) (w : World) (h : Src K w0 seed p w) (hT : Tabs K w0) (hN : N ≤ 4096) :
    Calls Tryd.prog 17 #[.pointer (some ⟨w0.heap.size, 0, none⟩), .int .i64 (N : Nat)] w (BytR K w0 seed p N w) := by
  have kF0 := draw_fits (N : Int) w
  rw [show fitE (N : Int) = 0 by unfold fitE; rw [if_neg (by omega), if_neg (by omega)]] at kF0
  have kF := Lib.hid kF0
  have hm := fun V => run_make_buf (P := Tryd.prog) (t := 22) Tryd.underlying22 (by kernel_rfl) .i64 .i64 (Nat.le_refl N) (by omega) V
  have hh := Lib.hid h
  have hTh := Lib.hid hT
  clear h hT kF0
  go_enter Tryd.func17, Tryd.ntmps17
  go_upto_region 1 with (fail)
  go_wp2_with fail
  refine kF.out.mono ?_
  rintro e w1 ⟨rfl, rfl⟩
  clear kF
  go_upto_region 6 with (fail)
  have hL := Lib.hid (below_alloc w (Obj.cells (arrK .u8 N fun _ => 0) 5))
  have hB := Lib.hid (show At (w.alloc (Obj.cells (arrK .u8 N fun _ => 0) 5)) w.heap.size .u8 N (dwF K seed p 0) from At.new _ rfl)
  have hlt := Lib.hid hh.out.lt
  have hpl := Lib.hid hh.out.pl
  replace hh := Lib.hid (hh.out.step hL.out)
  have hK := Lib.hid (KbG.of (g := w0.heap.size) hL.out)
  clear hm hL
  generalize w.alloc _ = W1 at *
  go_loopw [18] (fun iv wr => ∃ k : Nat, iv = .int .i64 k ∧ k ≤ N ∧ Hid (At wr w.heap.size .u8 N (dwF K seed p k)) ∧ Hid (Src K w0 seed (plc p k) wr) ∧ Hid (KbG w0.heap.size w wr)) (fun iv _ => N - (intOf iv).toNat)
  case atStart => exact ⟨0, rfl, Nat.zero_le _, hB, by rw [plc_zero hpl.out]; exact hh, hK⟩
  case round =>
    clear hB hh hK
    obtain ⟨k, rfl, hk, hB, hh, hK⟩ := hrel
    by_cases hkN : k = N
    · subst hkN
      have d1 : decide ((k : Int) < (k : Int)) = false := by simp
      go_wp2_with fail
      go_ret2
      exact ⟨_, rfl, hB.out, hh.out, hK.out⟩
    · have d1 : decide ((k : Int) < (N : Int)) = true := by simp; omega
      have hkl : k < N := by omega
      have hki : (k : Int) < (N : Int) := by omega
      have hk0 : (0 : Int) ≤ (k : Int) := by omega
      have kN := Lib.hid (next_c K w0 seed (plc p k) wr hh.out hTh.out)
      go_upto_region 8 with (fail)
      go_wp2_with fail
      refine kN.out.mono ?_
      rintro e w1 ⟨rfl, hS1, hK1⟩
      have hne : w.heap.size ≠ w0.heap.size := by have := hlt.out; omega
      have hB1 := hB.out.kb hK1 hne
      have cb := hB1.cell hkl
      have fb := hB1.row.frozen k
      rw [plc_plc] at hS1
      obtain ⟨bv, hbv⟩ : ∃ b, dwB K seed (plc p k) = b := ⟨_, rfl⟩
      have hB2 := Lib.hid ((hB1.set k bv).congr (f' := dwF K seed p (k + 1)) (by rw [← hbv]; exact dwF_succ K seed p k N))
      have hS2 := Lib.hid (hS1.farC (g := w.heap.size) (i := k) (v := .int .u8 (bv : Nat)) hlt.out)
      have hK2 := Lib.hid (show KbG w0.heap.size w (w1.setCell ⟨w.heap.size, k, none⟩ (.int .u8 (bv : Nat))) from ⟨by have := (hK.out.trans hK1).size; simpa using this, fun j hj hg => (Below.heap_setCell w1 _ _ j (by simp; omega)).trans ((hK.out.trans hK1).block j hj hg)⟩)
      rw [hbv]
      clear hB hh hK kN hS1 hK1 hB1 hbv hne
      go_wp2_with fail
      refine ⟨⟨k + 1, by go_num, hkl, hB2, hS2, hK2⟩, ?_⟩
      simp [intOf]; omega
theorem src_SkipBad (w0 : World) (n : Int) (w : World) (hf : fitE n ≠ 0) :
    Calls Tryd.prog 16 #[.pointer (some ⟨w0.heap.size, 0, none⟩), .int .i64 n] w fun e w' => e = .returned (.int .i64 (fitE n)) ∧ w = w' := by
  have kF := Lib.hid (draw_fits n w)
  obtain ⟨z, hz⟩ : ∃ z, fitE n = z := ⟨_, rfl⟩
  rw [hz] at kF hf ⊢
  have hz1 : (z != 0) = true := by simpa using hf
  clear hz hf
  go_enter Tryd.func16, Tryd.ntmps16
  go_upto_region 1 with (fail)
  go_wp2_with fail
  refine kF.out.mono ?_
  rintro e w1 ⟨rfl, rfl⟩
  clear kF
  go_wp2_with fail
  go_ret
  exact ⟨rfl, rfl⟩
theorem src_Skip (K : Nat → W32) (w0 : World) (seed : List UInt8) (p N : Nat) (w : World) (h : Src K w0 seed p w) (hN : N ≤ 4096) :
    Calls Tryd.prog 16 #[.pointer (some ⟨w0.heap.size, 0, none⟩), .int .i64 (N : Nat)] w fun e w' => e = .returned (.int .i64 0) ∧ Src K w0 seed (plc p N) w' ∧ KbG w0.heap.size w w' := by
  have kF0 := draw_fits (N : Int) w
  rw [show fitE (N : Int) = 0 by unfold fitE; rw [if_neg (by omega), if_neg (by omega)]] at kF0
  have kF := Lib.hid kF0
  obtain ⟨m, d, h⟩ := h
  have c0 := h.cP
  have f0 := h.row.frozen 146
  have hpl := h.pl
  have hwn : IntKind.u64.wrap (N : Int) = (N : Int) := by rw [IntKind.wrap_u64]; omega
  have hwr : IntKind.u64.wrap ((p : Int) + (N : Int)) = ((plc p N : Nat) : Int) := by rw [IntKind.wrap_u64]; unfold plc; omega
  have h0 := h.setM false (fun e => by cases e)
  have h1 := h0.setP (plc_lt p N) (fun e => by cases e)
  have c1 : (w.setCell ⟨w0.heap.size, 146, none⟩ (.int .u64 (plc p N : Nat))).cell? ⟨w0.heap.size, 179, none⟩ = some (.bool m) := by
    rw [World.cell?_setCell_other _ _ _ _ (by simp)]; exact h.cM
  have f1 : (w.setCell ⟨w0.heap.size, 146, none⟩ (.int .u64 (plc p N : Nat))).frozen? ⟨w0.heap.size, 179, none⟩ = false := by rw [World.frozen?_setCell]; exact h.row.frozen 179
  have hfin := Lib.hid (show Src K w0 seed (plc p N) ((w.setCell ⟨w0.heap.size, 146, none⟩ (.int .u64 (plc p N : Nat))).setCell ⟨w0.heap.size, 179, none⟩ (.bool false)) ∧ KbG w0.heap.size w ((w.setCell ⟨w0.heap.size, 146, none⟩ (.int .u64 (plc p N : Nat))).setCell ⟨w0.heap.size, 179, none⟩ (.bool false)) from
    ⟨⟨false, d, ⟨row_setCell.2 (row_setCell.2 h.row), by rw [rowAt_setCell_same, rowAt_setCell_same, h.eq, srcB_set146, srcB_set179], plc_lt p N, fun e => (by cases e), (h.bel.setCell (Nat.le_refl _) _).setCell (Nat.le_refl _) _⟩⟩, ((KbG.refl _ w).setCell _).setCell _⟩)
  clear h h0 h1 kF0
  go_enter Tryd.func16, Tryd.ntmps16
  go_upto_region 1 with (fail)
  go_wp2_with fail
  refine kF.out.mono ?_
  rintro e w1 ⟨rfl, rfl⟩
  clear kF
  go_wp2_with fail
  go_ret
  exact ⟨rfl, hfin.out.1, hfin.out.2⟩
end Go.Proofs.YtdlmamnnamlleaaDoor
namespace Go.Proofs.YtdlmamnnamlleaaDoor
open Go.ChangeShapes Go.WideShapes Go.ChangeAt Go.RowKit
set_option maxHeartbeats 2000000
set_option maxRecDepth 100000
/-- The try-th number: the low L bits of 32 bytes. -/
def tryX (K : Nat → W32) (seed : List UInt8) (L p j : Nat) : Nat := bval (fun i => dwB K seed (plc p (32 * j + i))) 32 % 2 ^ L
/-- The first below m, and how many bytes were drawn. -/
def BelIs (K : Nat → W32) (seed : List UInt8) (m L p x n : Nat) (z : Int) : Prop :=
  (∃ j < 100, (∀ i < j, ¬ tryX K seed L p i < m) ∧ tryX K seed L p j < m ∧ x = tryX K seed L p j ∧ n = 32 * (j + 1) ∧ z = 0) ∨ ((∀ i < 100, ¬ tryX K seed L p i < m) ∧ x = 0 ∧ n = 3200 ∧ z = 6)
theorem BelIs.only {K : Nat → W32} {seed : List UInt8} {m L p x n x' n' : Nat} {z z' : Int} (h : BelIs K seed m L p x n z) (h' : BelIs K seed m L p x' n' z') : x = x' ∧ n = n' ∧ z = z' := by
  rcases h with ⟨j, hj, h1, h2, rfl, rfl, rfl⟩ | ⟨h1, rfl, rfl, rfl⟩ <;> rcases h' with ⟨i, hi, k1, k2, rfl, rfl, rfl⟩ | ⟨k1, rfl, rfl, rfl⟩
  · have : j = i := by
      rcases Nat.lt_trichotomy j i with e | e | e
      · exact absurd h2 (k1 j e)
      · exact e
      · exact absurd k2 (h1 i e)
    subst this
    exact ⟨rfl, rfl, rfl⟩
  · exact absurd h2 (k1 j hj)
  · exact absurd k2 (h1 i hi)
  · exact ⟨rfl, rfl, rfl⟩
theorem BelIs.lt {K : Nat → W32} {seed : List UInt8} {m L p x n : Nat} {z : Int} (h : BelIs K seed m L p x n z) (hm : 0 < m) : x < m := by
  rcases h with ⟨j, -, -, h2, rfl, -, -⟩ | ⟨-, rfl, -, -⟩
  · exact h2
  · exact hm
theorem sub_one {m : Nat} (h : m ≠ 0) (hm : m < 2 ^ 256) : subN m 1 = m - 1 := by
  unfold subN
  rw [show m + 2 ^ 256 - 1 = m - 1 + 2 ^ 256 by omega, Nat.add_mod_right, Nat.mod_eq_of_lt (by omega)]
/-- Shifted up and down again: the low bits. -/
theorem shift_two (x L : Nat) (hx : x < 2 ^ 256) (hL : L ≤ 256) : ∃ y, (∀ V, Calls Tryd.prog 36 #[numV x, .int .i64 ((256 - L : Nat) : Int)] V fun e w' => e = .returned (numV y) ∧ Below V.heap.size V w') ∧ (∀ V, Calls Tryd.prog 36 #[numV y, .int .i64 (-((256 - L : Nat) : Int))] V fun e w' => e = .returned (numV (x % 2 ^ L)) ∧ Below V.heap.size V w') := by
  obtain ⟨n, hn⟩ : ∃ n, 256 - L = n := ⟨_, rfl⟩
  rw [hn]
  rcases Nat.eq_zero_or_pos n with h0 | h0
  · have hLe : L = 256 := by omega
    subst h0 hLe
    exact ⟨x, fun V => limb_Shl x 0 x V (by omega) (by rw [Nat.pow_zero, Nat.mul_one, Nat.mod_eq_of_lt hx]), fun V => limb_Shl x 0 (x % 2 ^ 256) V (by omega) (by rw [Nat.pow_zero, Nat.mul_one])⟩
  · rcases Nat.lt_or_ge n 256 with h1 | h1
    · refine ⟨x * 2 ^ n % 2 ^ 256, fun V => limb_Shl x n _ V (by omega) rfl, fun V => limb_Shr _ n _ V (Nat.mod_lt _ (by decide +kernel)) (by omega) h0 ?_⟩
      rw [show (2 : Nat) ^ 256 = 2 ^ L * 2 ^ n from by rw [← Nat.pow_add]; congr 1; omega, Nat.mul_mod_mul_right, Nat.mul_div_cancel _ (Nat.pow_pos (by omega))]
    · have hLe : L = 0 := by omega
      subst hLe
      refine ⟨0, fun V => limb_Sh0 x _ V (.inr (by omega)), fun V => ?_⟩
      rw [Nat.pow_zero, Nat.mod_one]
      exact limb_Sh0 0 _ V (.inl (by omega))
theorem plc_plc_at {p j P : Nat} (h : plc p (32 * j) = P) : plc P 32 = plc p (32 * (j + 1)) := by rw [← h, plc_plc, Nat.mul_succ]
theorem dg0 (K : Nat → W32) (seed : List UInt8) (P : Nat) : dgA [] = arrK .u8 32 (dwF K seed P 0) := by
  unfold dgA
  exact arrK_congr fun i _ => by unfold dwF; rw [if_neg (by omega)]; rfl
attribute [local irreducible] arrV dgA sha macA macZ srcB
attribute [local go_sem ↓] load_num store_num execl_num execs_num load_o32 store_o32
attribute [local go_sem] isHead_mk isPart_mk offOf_mk blkOf_mk isAgg_mk cellsV_mk row_drew rowAt_drew row_new_cells row_old rowAt_new rowAt_old setRow_new zeroD zeroNum
def BelR (K : Nat → W32) (w0 : World) (seed : List UInt8) (m L p : Nat) (w : World) (e : Ending) (w' : World) : Prop :=
  ∃ (x n : Nat) (z : Int), e = .returned (.tuple #[numV x, .int .i64 z]) ∧ BelIs K seed m L p x n z ∧ Src K w0 seed (plc p n) w' ∧ KbG w0.heap.size w w'
theorem lit_one : #[Value.int IntKind.u64 1, Value.int IntKind.u64 0, Value.int IntKind.u64 0, Value.int IntKind.u64 0] = arrK .u64 4 (wd 1) := by kernel_rfl
theorem build_oneD (w : World) : (Instr.build 41 #[(0, Value.int IntKind.u64 (1 : Int))]).run Tryd.prog w = .ok (.agg (arrK .u64 4 (wd 1))) w := (run_build w _ _ _ (by kernel_rfl)).trans (by rw [← lit_one])
theorem src_BelowNone (w0 : World) (w : World) :
    Calls Tryd.prog 13 #[.pointer (some ⟨w0.heap.size, 0, none⟩), numV 0] w fun e w' => e = .returned (.tuple #[numV 0, .int .i64 1]) ∧ Below w.heap.size w w' := by
  unfold numV
  have hc0 := arrK_cells .u64 4 (wd 0)
  have hL0 : Below w.heap.size w (((w.alloc (Obj.cells (arrK .u64 4 (wd 0)) 41)).alloc (Obj.cells (arrK .u64 4 (wd 0)) 41)).alloc (Obj.cells (arrK .u64 4 (wd 0)) 41)) := by go_grown
  have kE := fun V => eqlNum (a := 0) (b := 0) (by decide +kernel) (by decide +kernel) V
  rw [decide_eq_true rfl] at kE
  have kEh := Lib.hid kE
  have hL := Lib.hid hL0
  have h3 : At (((w.alloc (Obj.cells (arrK .u64 4 (wd 0)) 41)).alloc (Obj.cells (arrK .u64 4 (wd 0)) 41)).alloc (Obj.cells (arrK .u64 4 (wd 0)) 41)) w.heap.size .u64 4 (wd 0) := ((At.new _ rfl).old _).old _
  have h4 : At (((w.alloc (Obj.cells (arrK .u64 4 (wd 0)) 41)).alloc (Obj.cells (arrK .u64 4 (wd 0)) 41)).alloc (Obj.cells (arrK .u64 4 (wd 0)) 41)) (w.heap.size + 1) .u64 4 (wd 0) := (At.new _ (by simp)).old _
  have h6 : At (((w.alloc (Obj.cells (arrK .u64 4 (wd 0)) 41)).alloc (Obj.cells (arrK .u64 4 (wd 0)) 41)).alloc (Obj.cells (arrK .u64 4 (wd 0)) 41)) (w.heap.size + 1 + 1) .u64 4 (wd 0) := At.new _ (by simp)
  clear kE hL0
  go_enter Tryd.func13, Tryd.ntmps13
  go_upto_region 2 with (fail)
  generalize ((w.alloc _).alloc _).alloc _ = W0 at *
  obtain ⟨r3, q3⟩ := h3
  obtain ⟨r4, q4⟩ := h4
  obtain ⟨r6, q6⟩ := h6
  go_wp2_with (refine wpList_opT (by go_simp) (fun K9 hK => wp_eqlA (.inr rfl) (by kernel_rfl) (v := arrK .u64 4 (wd 0)) (u := arrK .u64 4 (wd 0)) (by go_simp) (by go_simp) (kEh.out _) (hK _ _ ?_)))
  exact ret_stored2 (p := 4) (q := 5) (ty := 41) (g := w.heap.size + 1) (n := 4) (c := arrK .u64 4 (wd 0)) rfl Tryd.underlying41 rfl (by kernel_rfl) rfl r4 hc0.1 rfl ⟨rfl, below_setRow hL.out (by omega)⟩
theorem src_Below (K : Nat → W32) (w0 : World) (seed : List UInt8) (p m L : Nat) (w : World) (h : Src K w0 seed p w) (hT : Tabs K w0) (hm0 : m ≠ 0) (hm : m < 2 ^ 256) (hLen : IsLen (m - 1) L) :
    Calls Tryd.prog 13 #[.pointer (some ⟨w0.heap.size, 0, none⟩), numV m] w (BelR K w0 seed m L p w) := by
  have hL256 : L ≤ 256 := by
    rcases hLen.2 with e | e
    · omega
    · rcases Nat.lt_or_ge 256 L with h2 | h2
      · have := Nat.pow_le_pow_right (n := 2) (by omega) (show 256 ≤ L - 1 by omega)
        omega
      · exact h2
  have kS := Lib.hid (fun V => by have := limb_Sub m 1 V hm (by decide +kernel); rwa [sub_one hm0 hm] at this)
  have kLn := Lib.hid (fun V => limb_Len (m - 1) V (by omega))
  have kE := fun V => eqlNum (a := m) (b := 0) hm (by decide +kernel) V
  rw [decide_eq_false hm0] at kE
  have kEh := Lib.hid kE
  have hmh := Lib.hid (And.intro hm0 (And.intro hm hLen))
  have hLh := Lib.hid hL256
  unfold numV at kS kLn
  unfold numV
  have hc0 := arrK_cells .u64 4 (wd 0)
  have hcm := arrK_cells .u64 4 (wd m)
  obtain ⟨m1, hm1⟩ : ∃ x, m - 1 = x := ⟨_, rfl⟩
  rw [hm1] at kS kLn
  have hm1h := Lib.hid hm1
  have hc1 := arrK_cells .u64 4 (wd m1)
  have hL0 : Below w.heap.size w (((w.alloc (Obj.cells (arrK .u64 4 (wd m)) 41)).alloc (Obj.cells (arrK .u64 4 (wd 0)) 41)).alloc (Obj.cells (arrK .u64 4 (wd 0)) 41)) := by go_grown
  have hS := Lib.hid (h.step hL0)
  have hpl := Lib.hid h.pl
  have hlt := Lib.hid h.lt
  have hKb := Lib.hid (KbG.of (g := w0.heap.size) hL0)
  have hTh := Lib.hid hT
  have h3 := Lib.hid (show At (((w.alloc (Obj.cells (arrK .u64 4 (wd m)) 41)).alloc (Obj.cells (arrK .u64 4 (wd 0)) 41)).alloc (Obj.cells (arrK .u64 4 (wd 0)) 41)) w.heap.size .u64 4 (wd m) from ((At.new _ rfl).old _).old _)
  have h4 := Lib.hid (show At (((w.alloc (Obj.cells (arrK .u64 4 (wd m)) 41)).alloc (Obj.cells (arrK .u64 4 (wd 0)) 41)).alloc (Obj.cells (arrK .u64 4 (wd 0)) 41)) (w.heap.size + 1) .u64 4 (wd 0) from (At.new _ (by simp)).old _)
  have h6 := Lib.hid (show At (((w.alloc (Obj.cells (arrK .u64 4 (wd m)) 41)).alloc (Obj.cells (arrK .u64 4 (wd 0)) 41)).alloc (Obj.cells (arrK .u64 4 (wd 0)) 41)) (w.heap.size + 1 + 1) .u64 4 (wd 0) from At.new _ (by simp))
  clear kE hL0 h hT hm0 hm hLen hm1 hL256
  go_enter Tryd.func13, Tryd.ntmps13
  go_upto_region 2 with (fail)
  generalize ((w.alloc _).alloc _).alloc _ = W0 at *
  have r3 := h3.out.row
  have q3 := h3.out.eq
  have r6 := h6.out.row
  have q6 := h6.out.eq
  go_upto_region 4 with (refine wpList_opT (by go_simp) (fun K9 hK => wp_eqlA (.inr rfl) (by kernel_rfl) (v := arrK .u64 4 (wd m)) (u := arrK .u64 4 (wd 0)) (by go_simp) (by go_simp) (kEh.out _) (hK _ _ ?_)))
  go_wp2_with (refine wpList_opT (by go_simp) (fun K9 hK => wp_bldA rfl (vx := Value.int IntKind.u64 (1 : Int)) rfl (build_oneD _) (hK _ _ ?_)))
  refine (kS.out W0).mono ?_
  rintro e w1 ⟨rfl, hb⟩
  have hbA := below_step (below_alloc w1 (Obj.cells (arrK .u64 4 (wd m1)) 41)) hb (Nat.le_refl _)
  replace hS := Lib.hid (hS.out.step hbA)
  replace hKb := Lib.hid (hKb.out.trans (KbG.of hbA))
  replace h3 := Lib.hid (h3.out.step hbA)
  replace h4 := Lib.hid (h4.out.step hbA)
  replace h6 := Lib.hid (h6.out.step hbA)
  have h7 := Lib.hid (At.new (w := w1) (k := .u64) (m := 4) (f := wd m1) 41 rfl)
  clear hb hbA kS r3 q3 r6 q6 kEh
  dsimp only
  go_upto_region 5 with (fail)
  generalize w1.alloc _ = W1 at *
  generalize w1.heap.size = g7 at *
  have r7 := h7.out.row
  have q7 := h7.out.eq
  go_wp2_with fail
  refine (kLn.out W1).mono ?_
  rintro e w2 ⟨L2, rfl, hL2, hb⟩
  obtain rfl : L2 = L := hL2.only (hm1h.out ▸ hmh.out.2.2)
  replace hS := Lib.hid (hS.out.step hb)
  replace hKb := Lib.hid (hKb.out.trans (KbG.of hb))
  replace h3 := Lib.hid (h3.out.step hb)
  replace h4 := Lib.hid (h4.out.step hb)
  replace h6 := Lib.hid (h6.out.step hb)
  have hws : IntKind.i64.wrap ((L2 : Int) - 256) = (L2 : Int) - 256 := by rw [IntKind.wrap_i64]; have := hLh.out; omega
  clear hb hL2 kLn r7 q7 h7
  go_upto_region 7 with (fail)
  clear hws
  obtain ⟨oo, hoo⟩ : ∃ o : Int, (L2 : Int) - 256 = o := ⟨_, rfl⟩
  rw [hoo]
  have hng : IntKind.i64.wrap (-oo) = ((256 - L2 : Nat) : Int) := by rw [IntKind.wrap_i64]; have := hLh.out; omega
  have hoh := Lib.hid (show -((256 - L2 : Nat) : Int) = oo by have := hLh.out; omega)
  clear hoo
  go_loopw [26] (fun jv wr => ∃ j : Nat, jv = .int .i64 j ∧ j ≤ 100 ∧ Hid (∀ i < j, ¬ tryX K seed L2 p i < m) ∧ Hid (Src K w0 seed (plc p (32 * j)) wr) ∧ Hid (KbG w0.heap.size w wr) ∧ Hid (At wr w.heap.size .u64 4 (wd m)) ∧ Hid (At wr (w.heap.size + 1) .u64 4 (wd 0)) ∧ Hid (At wr (w.heap.size + 1 + 1) .u64 4 (wd 0))) (fun jv _ => 100 - (intOf jv).toNat)
  case atStart => exact ⟨0, rfl, by omega, Lib.hid (fun i hi => absurd hi (by omega)), by rw [Nat.mul_zero, plc_zero hpl.out]; exact hS, hKb, h3, h4, h6⟩
  case round =>
    clear hS hKb h3 h4 h6
    obtain ⟨j, rfl, hj, hNo, hS, hKb, h3, h4, h6⟩ := hrel
    by_cases hj1 : j = 100
    · subst hj1
      have d1 : decide (((100 : Nat) : Int) < 100) = false := by decide
      have r6 := h6.out.row
      have q6 := h6.out.eq
      have r4 := h4.out.row
      have hfin := Lib.hid (show Src K w0 seed (plc p 3200) (wr.setRow (w.heap.size + 1) (arrK .u64 4 (wd 0))) ∧ KbG w0.heap.size w (wr.setRow (w.heap.size + 1) (arrK .u64 4 (wd 0))) from
        ⟨hS.out.far (by have := hlt.out; omega), ⟨by simpa [World.setRow] using hKb.out.size, fun k hk hg => (setRow_other wr _ k _ (by omega)).trans (hKb.out.block k hk hg)⟩⟩)
      rw [show ((100 : Nat) : Int) = (100 : Int) from rfl] at *
      go_wp2_with fail
      exact ret_stored2 (p := 4) (q := 5) (ty := 41) (g := w.heap.size + 1) (n := 4) (c := arrK .u64 4 (wd 0)) rfl Tryd.underlying41 rfl (by kernel_rfl) rfl r4 hc0.1 rfl ⟨0, 3200, 6, rfl, .inr ⟨hNo.out, rfl, rfl, rfl⟩, hfin.out.1, hfin.out.2⟩
    · have hjl : j < 100 := by omega
      have d1 : decide ((j : Int) < 100) = true := by simp; omega
      have hji : (j : Int) < 100 := by omega
      have hj0 : (0 : Int) ≤ (j : Int) := by omega
      have hcz := dgA_cells []
      obtain ⟨P, hP⟩ : ∃ P, plc p (32 * j) = P := ⟨_, rfl⟩
      rw [hP] at hS
      have hPh := Lib.hid hP
      clear hP
      go_upto_region 10 with (fail)
      have hbA := below_alloc wr (Obj.cells (dgA []) 57)
      have hB := Lib.hid (show At (wr.alloc (Obj.cells (dgA []) 57)) wr.heap.size .u8 32 (dwF K seed P 0) from ⟨(row_new rfl).2 hcz.1, (rowAt_new rfl).trans (dg0 _ _ _)⟩)
      have hgl := Lib.hid (show w.heap.size + 1 + 1 < wr.heap.size from h6.out.lt)
      have hPl := Lib.hid hS.out.pl
      replace hS := Lib.hid (hS.out.step hbA)
      replace hKb := Lib.hid (hKb.out.trans (KbG.of hbA))
      replace h3 := Lib.hid (h3.out.step hbA)
      replace h4 := Lib.hid (h4.out.step hbA)
      replace h6 := Lib.hid (h6.out.step hbA)
      clear hbA
      generalize wr.alloc _ = W2 at *
      generalize wr.heap.size = gb at *
      go_loopw [28] (fun kv wx => ∃ k : Nat, kv = .int .i64 k ∧ k ≤ 32 ∧ Hid (At wx gb .u8 32 (dwF K seed P k)) ∧ Hid (Src K w0 seed (plc P k) wx) ∧ Hid (KbG w0.heap.size w wx) ∧ Hid (At wx w.heap.size .u64 4 (wd m)) ∧ Hid (At wx (w.heap.size + 1) .u64 4 (wd 0)) ∧ Hid (At wx (w.heap.size + 1 + 1) .u64 4 (wd 0))) (fun kv _ => 32 - (intOf kv).toNat)
      case atStart => exact ⟨0, rfl, by omega, hB, by rw [plc_zero hPl.out]; exact hS, hKb, h3, h4, h6⟩
      case round =>
        clear hB hS hKb h3 h4 h6
        obtain ⟨k, rfl, hk, hB, hS, hKb, h3, h4, h6⟩ := hrel
        by_cases hk32 : k = 32
        · subst hk32
          have e1 : decide (((32 : Nat) : Int) < 32) = false := by decide
          have hB2 := hB.out.congr (f' := fun i => dwB K seed (plc p (32 * j + i))) (fun i hi => by unfold dwF; rw [if_pos hi, ← hPh.out, plc_plc])
          obtain ⟨f, hf⟩ : ∃ f, (fun i => dwB K seed (plc p (32 * j + i))) = f := ⟨_, rfl⟩
          have hf256 : ∀ i < 32, f i < 256 := fun i _ => by rw [← hf]; exact dwB_lt _ _ _
          have htx : tryX K seed L2 p j = bval f 32 % 2 ^ L2 := by unfold tryX; rw [hf]
          rw [hf] at hB2
          have hx0 : bval f 32 < 2 ^ 256 := by
            have h9 := bval_lt hf256
            rwa [show 256 ^ 32 = 2 ^ 256 by decide +kernel] at h9
          have kO := Lib.hid (fun V => limb_Of f V hf256)
          obtain ⟨x0, hx0e⟩ : ∃ x, bval f 32 = x := ⟨_, rfl⟩
          rw [hx0e] at kO htx hx0
          obtain ⟨y, k1, k2⟩ := shift_two x0 L2 hx0 hLh.out
          have hxl : x0 % 2 ^ L2 < 2 ^ 256 := Nat.lt_of_le_of_lt (Nat.mod_le _ _) hx0
          obtain ⟨x, hx⟩ : ∃ x, x0 % 2 ^ L2 = x := ⟨_, rfl⟩
          rw [hx] at k2 htx hxl
          rw [hoh.out] at k2
          unfold numV at k1 k2 kO
          have kA := Lib.hid k1
          have kB := Lib.hid k2
          have kC := Lib.hid (fun V => limb_Cmp x m V hxl hmh.out.2.1)
          unfold numV at kC
          have htxh := Lib.hid htx
          have hcx := arrK_cells .u64 4 (wd x)
          have hBh := Lib.hid hB2
          rw [plc_plc_at hPh.out] at hS
          clear hB hB2 hf hf256 hx0 hx0e k1 k2 hxl hx htx
          have rb := hBh.out.row
          have qb := hBh.out.eq
          rw [show ((32 : Nat) : Int) = (32 : Int) from rfl] at *
          go_upto_region 14 with (fail)
          go_wp2_with fail
          refine (kO.out wr).mono ?_
          rintro e w3 ⟨rfl, hb1⟩
          clear rb qb
          go_wp2_with fail
          refine (kA.out w3).mono ?_
          rintro e w4 ⟨rfl, hb2⟩
          go_wp2_with fail
          refine (kB.out w4).mono ?_
          rintro e w5 ⟨rfl, hb3⟩
          have hbA := below_step (below_alloc w5 (Obj.cells (arrK .u64 4 (wd x)) 41)) (below_step hb3 (below_step hb2 hb1 (Nat.le_refl _)) (Nat.le_refl _)) (Nat.le_refl _)
          replace hS := Lib.hid (hS.out.step hbA)
          replace hKb := Lib.hid (hKb.out.trans (KbG.of hbA))
          replace h3 := Lib.hid (h3.out.step hbA)
          replace h4 := Lib.hid (h4.out.step hbA)
          replace h6 := Lib.hid (h6.out.step hbA)
          have hX := Lib.hid (At.new (w := w5) (k := .u64) (m := 4) (f := wd x) 41 rfl)
          clear hb1 hb2 hb3 hbA kO kA kB hBh hng hoh
          dsimp only
          go_upto_region 15 with (fail)
          generalize w5.alloc _ = W6 at *
          have hxg := Lib.hid hX.out.lt
          generalize w5.heap.size = gx at *
          have rx := hX.out.row
          have qx := hX.out.eq
          have r3 := h3.out.row
          have q3 := h3.out.eq
          go_wp2_with fail
          refine (kC.out W6).mono ?_
          rintro e w7 ⟨rfl, hb⟩
          replace hS := Lib.hid (hS.out.step hb)
          replace hKb := Lib.hid (hKb.out.trans (KbG.of hb))
          replace h3 := Lib.hid (h3.out.step hb)
          replace h4 := Lib.hid (h4.out.step hb)
          replace h6 := Lib.hid (h6.out.step hb)
          replace hX := Lib.hid (hX.out.step hb)
          clear hb kC rx qx r3 q3
          by_cases hxm : x < m
          · rw [show order x m = -1 by unfold order; rw [if_pos hxm]]
            have rx := hX.out.row
            have qx := hX.out.eq
            have r4 := h4.out.row
            have hfin := Lib.hid (show Src K w0 seed (plc p (32 * (j + 1))) (w7.setRow (w.heap.size + 1) (arrK .u64 4 (wd x))) ∧ KbG w0.heap.size w (w7.setRow (w.heap.size + 1) (arrK .u64 4 (wd x))) from
              ⟨hS.out.far (by have := hlt.out; omega), ⟨by simpa [World.setRow] using hKb.out.size, fun k hk hg => (setRow_other w7 _ k _ (by omega)).trans (hKb.out.block k hk hg)⟩⟩)
            have hxmh := Lib.hid hxm
            clear hxm
            go_wp2_with fail
            exact ret_stored2 (p := 4) (q := 5) (ty := 41) (g := w.heap.size + 1) (n := 4) (c := arrK .u64 4 (wd x)) rfl Tryd.underlying41 rfl (by kernel_rfl) rfl r4 hcx.1 rfl ⟨x, 32 * (j + 1), 0, rfl, .inl ⟨j, hjl, hNo.out, by rw [htxh.out]; exact hxmh.out, htxh.out.symm, rfl, rfl⟩, hfin.out.1, hfin.out.2⟩
          · have ho : order x m = 0 ∨ order x m = 1 := by
              unfold order
              rw [if_neg hxm]
              split
              · exact .inr rfl
              · exact .inl rfl
            have hNo2 := Lib.hid (show ∀ i < j + 1, ¬ tryX K seed L2 p i < m from fun i hi => by
              rcases Nat.lt_or_ge i j with h9 | h9
              · exact hNo.out i h9
              · obtain rfl : i = j := by omega
                rw [htxh.out]; exact hxm)
            clear hxm
            rcases ho with ho | ho
            all_goals
              rw [ho]
              clear ho
              go_wp2_with fail
              refine ⟨⟨j + 1, by go_num, by omega, hNo2, hS, hKb, h3, h4, h6⟩, ?_⟩
              simp [intOf]; omega
        · have e1 : decide ((k : Int) < 32) = true := by simp; omega
          have hkl : k < 32 := by omega
          have hki : (k : Int) < 32 := by omega
          have hk0 : (0 : Int) ≤ (k : Int) := by omega
          have kN := Lib.hid (next_c K w0 seed (plc P k) wr hS.out hTh.out)
          go_upto_region 12 with (fail)
          go_wp2_with fail
          refine kN.out.mono ?_
          rintro e w3 ⟨rfl, hS1, hK1⟩
          rw [plc_plc] at hS1
          have hne : ∀ g, w.heap.size ≤ g → g ≠ w0.heap.size := fun g hg => by have := hlt.out; omega
          have hB1 := hB.out.kb hK1 (hne gb (by have := hgl.out; omega))
          have cb := hB1.cell hkl
          have fb := hB1.row.frozen k
          obtain ⟨bv, hbv⟩ : ∃ b, dwB K seed (plc P k) = b := ⟨_, rfl⟩
          have hB2 := Lib.hid ((hB1.set k bv).congr (f' := dwF K seed P (k + 1)) (by rw [← hbv]; exact dwF_succ K seed P k 32))
          have hS2 := Lib.hid (hS1.farC (g := gb) (i := k) (v := .int .u8 (bv : Nat)) (by have := hgl.out; have := hlt.out; omega))
          have hK2 := Lib.hid (show KbG w0.heap.size w (w3.setCell ⟨gb, k, none⟩ (.int .u8 (bv : Nat))) from ⟨by have := (hKb.out.trans hK1).size; simpa using this, fun i hi hg => (Below.heap_setCell w3 _ _ i (by simp; have := hgl.out; omega)).trans ((hKb.out.trans hK1).block i hi hg)⟩)
          have h32 := Lib.hid ((h3.out.kb hK1 (hne _ (by omega))).farC (a := ⟨gb, k, none⟩) (v := .int .u8 (bv : Nat)) (by simp; have := hgl.out; omega))
          have h42 := Lib.hid ((h4.out.kb hK1 (hne _ (by omega))).farC (a := ⟨gb, k, none⟩) (v := .int .u8 (bv : Nat)) (by simp; have := hgl.out; omega))
          have h62 := Lib.hid ((h6.out.kb hK1 (hne _ (by omega))).farC (a := ⟨gb, k, none⟩) (v := .int .u8 (bv : Nat)) (by simp; have := hgl.out; omega))
          rw [hbv]
          clear hB hS hKb h3 h4 h6 kN hS1 hK1 hB1 hbv hne
          go_wp2_with fail
          refine ⟨⟨k + 1, by go_num, hkl, hB2, hS2, hK2, h32, h42, h62⟩, ?_⟩
          simp [intOf]; omega
end Go.Proofs.YtdlmamnnamlleaaDoor
namespace Go.Proofs.YtdlmamnnamlleaaDoor
open Go.ChangeShapes Go.WideShapes Go.ChangeAt Go.RowKit
set_option maxHeartbeats 2000000
set_option maxRecDepth 100000
theorem conv_oneZ (z : Int) (b : UInt8) (hz : z = (b.toNat : Int)) (W : World) : (convert 22 9 (.slice (some ⟨W.heap.size, 0, none⟩) 1 1)).run Tryd.prog (W.alloc (.cells #[.int .u8 z] 5)) = .ok (strV [b]) (W.alloc (.cells #[.int .u8 z] 5)) := by
  subst hz
  exact conv_rd (B := W.heap.size + 1) (l := [b]) Tryd.underlying22 Tryd.underlying5 Tryd.underlying9 (Rd.of_blk (cs := #[.int .u8 (b.toNat : Int)]) (push_new _ _) (by omega))
theorem conv_oneOf {w : World} {g : Nat} {d : List UInt8} (hR : Row w g 32) (hE : rowAt w g = dgA d) {r : Nat} (hr : r < 32) (c : Nat) : (convert 22 9 (.slice (some ⟨g, r, none⟩) 1 c)).run Tryd.prog w = .ok (strV [UInt8.ofNat (bytesF d r)]) w := by
  refine conv_rd (B := w.heap.size) (l := [UInt8.ofNat (bytesF d r)]) Tryd.underlying22 Tryd.underlying5 Tryd.underlying9 (fun j u hu => ?_)
  have hj : j < 1 := by have := (List.getElem?_eq_some_iff.1 hu).1; simpa [bytesV] using this
  obtain rfl : j = 0 := by omega
  refine ⟨_, rfl, hR.lt, ?_⟩
  rw [show (Addr.mk g r none).add 0 = ⟨g, r, none⟩ by simp [Addr.add], hR.cell, hE]
  show (arrK .u8 32 (bytesF d))[r]? = _
  rw [arrK_at hr, ← hu]
  simp [bytesV, u8v, Nat.mod_eq_of_lt (bytesF_lt d r)]
theorem sl_at1 (g r : Nat) (hr : r < 32) (W : World) : (Instr.sliceAt 57 (.pointer (some ⟨g, 0, none⟩)) (some (.int .u64 (r : Int))) (some (.int .u64 ((r : Int) + 1))) none).run Tryd.prog W = .ok (.slice (some ⟨g, r, none⟩) 1 (32 - r)) W := by
  have hu : Tryd.prog.underlying 57 = some (.array (Tryd.prog.arrayLen 57) (Tryd.prog.elem 57)) := by kernel_rfl
  have hn : Tryd.prog.arrayLen 57 = 32 := by kernel_rfl
  have hs : (sizeOf (Tryd.prog.elem 57)).run Tryd.prog W = .ok 1 W := by kernel_rfl
  rw [run_sliceAt_array_lh W _ _ hu .u64 .u64 (r : Int) ((r : Int) + 1) (by omega) (by omega) (by rw [hn]; omega), hs, hn]
  have e1 : ((r : Int)).toNat = r := by simp
  have e2 : ((r : Int) + 1).toNat = r + 1 := by omega
  rw [e1, e2]
  unfold slicedAt
  simp only [Result.andThen_ok]
  rw [if_neg (by omega), Nat.add_sub_cancel_left]
  simp [Addr.add]
  exact fun e => e.symm
theorem be8_take (q x : Nat) (h : x < 8) : (be8 q).take (x + 1) = (be8 q).take x ++ [UInt8.ofNat (q / 2 ^ (56 - 8 * x))] := by
  rw [List.take_succ_eq_append_getElem (by rw [be8_len]; exact h)]
  congr 2
  unfold be8
  simp
theorem be8_all (q : Nat) : (be8 q).take 8 = be8 q := List.take_of_length_le (Nat.le_of_eq (be8_len q))
attribute [local irreducible] arrV dgA sha macA macZ srcB be8
attribute [local go_sem ↓] load_o32 store_o32
attribute [local go_sem] isHead_mk isPart_mk offOf_mk blkOf_mk isAgg_mk cellsV_mk row_drew rowAt_drew row_new_cells row_old rowAt_new rowAt_old setRow_new zeroD bs_app
theorem ref_Drawn (K : Nat → W32) (seed : List UInt8) (p N : Nat) (w : World) (hT : Tabs K w) (hN : N ≤ 4096) (hsl : seed.length ≤ 576460752303423488) :
    Calls Tryd.prog 18 #[strV seed, .int .u64 (p : Nat), .int .i64 (N : Nat)] w fun e w' => e = .returned (strV (bLs (fun i => dwB K seed (plc p i)) N)) ∧ Below w.heap.size w w' := by
  have hTh := Lib.hid hT
  have hcz := dgA_cells []
  clear hT
  go_enter Tryd.func18, Tryd.ntmps18
  go_upto_region 5 with (fail)
  have hL := Lib.hid (below_alloc w (Obj.cells (dgA []) 57))
  have hD := Lib.hid (show Row (w.alloc (Obj.cells (dgA []) 57)) w.heap.size 32 ∧ rowAt (w.alloc (Obj.cells (dgA []) 57)) w.heap.size = dgA [] from ⟨(row_new rfl).2 hcz.1, rowAt_new rfl⟩)
  generalize w.alloc _ = W0 at *
  go_loopw [7, 8, 16] (fun sv hv kv wr => ∃ (k have_ : Nat) (d : List UInt8), kv = .int .i64 k ∧ sv = strV (bLs (fun i => dwB K seed (plc p i)) k) ∧ hv = .int .u64 have_ ∧ k ≤ N ∧ Hid (Row wr w.heap.size 32 ∧ rowAt wr w.heap.size = dgA d) ∧ Hid (0 < k → have_ = plc p (k - 1) / 32 ∧ d = blkL K seed (plc p (k - 1))) ∧ Hid (Below w.heap.size w wr)) (fun _ _ kv _ => N - (intOf kv).toNat)
  case atStart => exact ⟨0, 0, [], rfl, rfl, rfl, Nat.zero_le _, hD, Lib.hid (fun h => absurd h (by omega)), hL⟩
  case round =>
    clear hD hL
    obtain ⟨k, have_, d, rfl, rfl, rfl, hk, hD, hH, hL⟩ := hrel
    by_cases hkN : k = N
    · subst hkN
      have d1 : decide ((k : Int) < (k : Int)) = false := by simp
      go_wp2_with fail
      go_ret
      exact ⟨rfl, hL.out⟩
    · have d1 : decide ((k : Int) < (N : Int)) = true := by simp; omega
      have hkl : k < N := by omega
      have hki : (k : Int) < (N : Int) := by omega
      have hk0 : (0 : Int) ≤ (k : Int) := by omega
      have hwk : IntKind.u64.wrap (k : Int) = (k : Int) := by rw [IntKind.wrap_u64]; omega
      have hwp : IntKind.u64.wrap ((p : Int) + (k : Int)) = ((plc p k : Nat) : Int) := by rw [IntKind.wrap_u64]; unfold plc; omega
      obtain ⟨place, hpl⟩ : ∃ x, plc p k = x := ⟨_, rfl⟩
      have hpl6 := Lib.hid (show place < 18446744073709551616 by rw [← hpl]; exact plc_lt _ _)
      rw [hpl] at hwp
      have hquo : Int.tdiv (place : Int) 32 = ((place / 32 : Nat) : Int) := by rw [Int.tdiv_eq_ediv_of_nonneg (by omega)]; omega
      obtain ⟨q, hq⟩ : ∃ q, place / 32 = q := ⟨_, rfl⟩
      rw [hq] at hquo
      have hqh := Lib.hid (show q < 576460752303423488 by have := hpl6.out; omega)
      have hwq : IntKind.u64.wrap (q : Int) = (q : Int) := by rw [IntKind.wrap_u64]; have := hqh.out; omega
      have hpe := Lib.hid hpl
      have hqe := Lib.hid hq
      clear hpl hq
      by_cases hrec : k = 0 ∨ q ≠ have_
      · have hgo : (((k : Int) == 0) = true) ∨ (((k : Int) == 0) = false ∧ ((q : Int) != (have_ : Int)) = true) := by
          by_cases hk00 : k = 0
          · subst hk00; exact .inl rfl
          · refine .inr ⟨by simp; omega, ?_⟩
            rcases hrec with e | e
            · exact absurd e hk00
            · simp; omega
        clear hrec hH
        rcases hgo with g1 | ⟨g1, g2⟩
        all_goals
          go_upto_region 13 with (fail)
          go_loopw [13, 33] (fun bv xv wx => ∃ x : Nat, xv = .int .i64 x ∧ bv = strV ((be8 q).take x) ∧ x ≤ 8 ∧ Hid (Row wx w.heap.size 32 ∧ rowAt wx w.heap.size = dgA d) ∧ Hid (Below w.heap.size w wx)) (fun _ xv _ => 8 - (intOf xv).toNat)
          case atStart => exact ⟨0, rfl, rfl, by omega, hD, hL⟩
          case round =>
            clear hD hL
            obtain ⟨x, rfl, rfl, hx, hD, hL⟩ := hrel
            by_cases hx8 : x = 8
            · subst hx8
              have e1 : decide (((8 : Nat) : Int) < 8) = false := by decide
              rw [be8_all]
              have kM := Lib.hid (ref_Mark K seed (be8 q) wr (hTh.out.below hL.out (Nat.le_refl _)) hsl (by rw [be8_len]; omega))
              have hbe := Lib.hid (show markL K seed (be8 q) = blkL K seed place by unfold blkL; rw [hqe.out])
              have hml := mark_len K seed (be8 q)
              obtain ⟨m, hm⟩ : ∃ m, markL K seed (be8 q) = m := ⟨_, rfl⟩
              rw [hm] at kM hbe hml
              have hcm := dgA_cells m
              clear hm
              rw [show ((8 : Nat) : Int) = (8 : Int) from rfl] at *
              go_upto_region 17 with (fail)
              go_wp2_with fail
              refine kM.out.mono ?_
              rintro e w3 ⟨rfl, hb⟩
              have hr0 := row_below hD.out.1 hb hD.out.1.lt
              have hL2 := Lib.hid (below_setRow (g := w.heap.size) (c := dgA m) (below_step hb hL.out (Nat.le_refl _)) (Nat.le_refl _))
              have hD2 := Lib.hid (show Row (w3.setRow w.heap.size (dgA m)) w.heap.size 32 ∧ rowAt (w3.setRow w.heap.size (dgA m)) w.heap.size = dgA m from ⟨(row_setRow_same rfl hr0).2 hcm.1, rowAt_setRow_same hr0⟩)
              clear hb hD hL kM hml
              go_upto_region 18 with (fail)
              generalize w3.setRow _ _ = W9 at *
              have hD := hD2
              have hL := hL2
              have hdv := hbe
              have hhv := Lib.hid (show q = plc p k / 32 by rw [hpe.out]; exact hqe.out.symm)
              clear hD2 hL2 hbe hr0 hquo hwq hwp hwk
              have hdb := hdv.out
              have hrl := Lib.hid (show place % 32 < 32 from Nat.mod_lt _ (by omega))
              obtain ⟨r, hr⟩ : ∃ r, place % 32 = r := ⟨_, rfl⟩
              rw [hr] at hrl
              have hrem : Int.tmod (place : Int) 32 = ((r : Nat) : Int) := by rw [Int.tmod_eq_emod_of_nonneg (by omega)]; omega
              have hr1 : IntKind.u64.wrap ((r : Int) + 1) = (r : Int) + 1 := by rw [IntKind.wrap_u64]; have := hrl.out; omega
              have hsa := fun W => sl_at1 w.heap.size r hrl.out W
              have hcv := conv_oneOf hD.out.1 hD.out.2 hrl.out (32 - r)
              have hval : bytesF m r = dwB K seed (plc p k) := by unfold dwB; rw [hpe.out, hr, hdb]
              rw [hval] at hcv
              have hss := Lib.hid (bLs_succ (fun i => dwB K seed (plc p i)) k)
              obtain ⟨bv, hbv⟩ : ∃ b, dwB K seed (plc p k) = b := ⟨_, rfl⟩
              rw [hbv] at hcv hss
              have hsl := Lib.hid (show (bLs (fun i => dwB K seed (plc p i)) k).length = k from bLs_len _ _)
              obtain ⟨s, hs⟩ : ∃ s, bLs (fun i => dwB K seed (plc p i)) k = s := ⟨_, rfl⟩
              rw [hs] at hss hsl ⊢
              have hadd : s.length + [UInt8.ofNat bv].length ≤ 9223372036854775807 := by rw [hsl.out]; simp; omega
              have hadd1 : s.length + 1 ≤ 9223372036854775807 := by rw [hsl.out]; omega
              have hnew := Lib.hid (show q = (plc p k) / 32 ∧ m = blkL K seed (plc p k) from ⟨hhv.out, by rw [hpe.out]; exact hdb⟩)
              clear hval hr hbv hs hdb hdv hhv
              go_upto_region 18 with (fail)
              go_wp2_with fail
              refine ⟨⟨k + 1, q, m, by go_num, by rw [hss.out], rfl, hkl, hD, Lib.hid (fun _ => by rw [Nat.add_sub_cancel]; exact hnew.out), hL⟩, ?_⟩
              simp [intOf]; omega
            · have e1 : decide ((x : Int) < 8) = true := by simp; omega
              have hxl : x < 8 := by omega
              have hxi : (x : Int) < 8 := by omega
              have hx0 : (0 : Int) ≤ (x : Int) := by omega
              have v1 : IntKind.i64.wrap (8 * (x : Int)) = 8 * (x : Int) := by rw [IntKind.wrap_i64]; omega
              have v2 : IntKind.i64.wrap (56 - 8 * (x : Int)) = 56 - 8 * (x : Int) := by rw [IntKind.wrap_i64]; omega
              have v3 : (0 : Int) ≤ 56 - 8 * (x : Int) := by omega
              have v4 : ¬ (56 - 8 * (x : Int) < 0) := by omega
              have hcv := fun W => conv_oneZ ((q : Int) / 2 ^ (56 - 8 * x) % 256) (UInt8.ofNat (q / 2 ^ (56 - 8 * x))) (by push_cast; simp) W
              have htk := Lib.hid (be8_take q x hxl)
              obtain ⟨bb, hbb⟩ : ∃ b, UInt8.ofNat (q / 2 ^ (56 - 8 * x)) = b := ⟨_, rfl⟩
              rw [hbb] at hcv htk
              have htl := Lib.hid (show ((be8 q).take x).length ≤ 8 by rw [List.length_take]; omega)
              obtain ⟨bs, hbs⟩ : ∃ b, (be8 q).take x = b := ⟨_, rfl⟩
              rw [hbs] at htk htl ⊢
              have hadd : bs.length + 1 ≤ 9223372036854775807 := by have := htl.out; omega
              have hadd2 : bs.length + [bb].length ≤ 9223372036854775807 := by have := htl.out; simp; omega
              clear hbb hbs
              go_wp2_with fail
              refine ⟨⟨x + 1, by go_num, by rw [htk.out], hxl, Lib.hid ⟨(row_old hD.out.1.lt).2 hD.out.1, (rowAt_old hD.out.1.lt).trans hD.out.2⟩, Lib.hid (hL.out.alloc hL.out.size _)⟩, ?_⟩
              simp [intOf]; omega
      · have hk1 : k ≠ 0 := fun e => hrec (.inl e)
        have hqh2 : q = have_ := by
          by_cases e : q = have_
          · exact e
          · exact absurd (.inr e) hrec
        subst hqh2
        have hk11 : ((k : Int) == 0) = false := by simp; omega
        have hdv := Lib.hid (show d = blkL K seed place by
          obtain ⟨h1, h2⟩ := hH.out (by omega)
          rw [h2]
          unfold blkL
          rw [hqe.out, h1])
        have hhv := Lib.hid (show q = plc p k / 32 by rw [hpe.out]; exact hqe.out.symm)
        clear hrec hH
        have hdb := hdv.out
        have hrl := Lib.hid (show place % 32 < 32 from Nat.mod_lt _ (by omega))
        obtain ⟨r, hr⟩ : ∃ r, place % 32 = r := ⟨_, rfl⟩
        rw [hr] at hrl
        have hrem : Int.tmod (place : Int) 32 = ((r : Nat) : Int) := by rw [Int.tmod_eq_emod_of_nonneg (by omega)]; omega
        have hr1 : IntKind.u64.wrap ((r : Int) + 1) = (r : Int) + 1 := by rw [IntKind.wrap_u64]; have := hrl.out; omega
        have hsa := fun W => sl_at1 w.heap.size r hrl.out W
        have hcv := conv_oneOf hD.out.1 hD.out.2 hrl.out (32 - r)
        have hval : bytesF d r = dwB K seed (plc p k) := by unfold dwB; rw [hpe.out, hr, hdb]
        rw [hval] at hcv
        have hss := Lib.hid (bLs_succ (fun i => dwB K seed (plc p i)) k)
        obtain ⟨bv, hbv⟩ : ∃ b, dwB K seed (plc p k) = b := ⟨_, rfl⟩
        rw [hbv] at hcv hss
        have hsl := Lib.hid (show (bLs (fun i => dwB K seed (plc p i)) k).length = k from bLs_len _ _)
        obtain ⟨s, hs⟩ : ∃ s, bLs (fun i => dwB K seed (plc p i)) k = s := ⟨_, rfl⟩
        rw [hs] at hss hsl ⊢
        have hadd : s.length + [UInt8.ofNat bv].length ≤ 9223372036854775807 := by rw [hsl.out]; simp; omega
        have hadd1 : s.length + 1 ≤ 9223372036854775807 := by rw [hsl.out]; omega
        have hnew := Lib.hid (show q = (plc p k) / 32 ∧ d = blkL K seed (plc p k) from ⟨hhv.out, by rw [hpe.out]; exact hdb⟩)
        clear hval hr hbv hs hdb hdv hhv
        go_upto_region 18 with (fail)
        go_wp2_with fail
        refine ⟨⟨k + 1, q, d, by go_num, by rw [hss.out], rfl, hkl, hD, Lib.hid (fun _ => by rw [Nat.add_sub_cancel]; exact hnew.out), hL⟩, ?_⟩
        simp [intOf]; omega
end Go.Proofs.YtdlmamnnamlleaaDoor
namespace Go.Proofs.YtdlmamnnamlleaaDoor
open Go.ChangeShapes Go.WideShapes Go.ChangeAt Go.RowKit
set_option maxHeartbeats 2000000
set_option maxRecDepth 100000
def SRel.bV (m : Nat) : SRel := ⟨fun v w => IsV w v m, fun _ _ _ hb h => h.step hb⟩
def SRel.bN (m : Nat) : SRel := ⟨fun v w => IsN w v m, fun _ _ _ hb h => h.step hb⟩
/-- Bytes from i on, the least first. -/
def hvB (f : Nat → Nat) (i : Nat) : Nat → Nat
  | 0 => 0
  | k + 1 => f i + 256 * hvB f (i + 1) k
theorem hvB_bval (f : Nat → Nat) : ∀ k i, bval f i + 256 ^ i * hvB f i k = bval f (i + k)
  | 0, i => by simp [hvB]
  | k + 1, i => by
    have ih := hvB_bval f k (i + 1)
    rw [show i + (k + 1) = i + 1 + k by omega, ← ih]
    show bval f i + 256 ^ i * (f i + 256 * hvB f (i + 1) k) = bval f i + 256 ^ i * f i + 256 ^ (i + 1) * hvB f (i + 1) k
    rw [Nat.pow_succ]
    generalize hvB f (i + 1) k = x
    grind
theorem hvB_zero (f : Nat → Nat) (n : Nat) : hvB f 0 n = bval f n := by
  have h := hvB_bval f n 0
  rw [Nat.zero_add, Nat.pow_zero, Nat.one_mul] at h
  rw [← h]
  simp [bval]
theorem hvB_lt {f : Nat → Nat} : ∀ k i, (∀ j < i + k, f j < 256) → hvB f i k < 2 ^ (8 * k)
  | 0, i, _ => by simp [hvB]
  | k + 1, i, h => by
    have h1 := hvB_lt k (i + 1) (fun j hj => h j (by omega))
    have h2 := h i (by omega)
    show f i + 256 * hvB f (i + 1) k < 2 ^ (8 * (k + 1))
    rw [show 8 * (k + 1) = 8 * k + 8 by omega, Nat.pow_add]
    omega
end Go.Proofs.YtdlmamnnamlleaaDoor
namespace Go.Proofs.YtdlmamnnamlleaaDoor
open Go.ChangeShapes Go.WideShapes Go.ChangeAt Go.RowKit
set_option maxHeartbeats 2000000
set_option maxRecDepth 100000
attribute [local irreducible] arrV dgA sha macA macZ srcB be8
attribute [local go_sem ↓] load_num store_num execl_num execs_num
attribute [local go_sem] isHead_mk isPart_mk offOf_mk blkOf_mk isAgg_mk cellsV_mk row_drew rowAt_drew row_new_cells row_old rowAt_new rowAt_old setRow_new zeroNum
theorem results_row_tmp2 {P : Program} {fn : Func} {p q s : Tmp} {ty : TypeId} (h : fn.results = #[.cell p ty, .tmp q, .tmp s]) (tmps : Array Value) (w : World) (g : Nat) (t : TypeId) (cs : Array Value) (fr : Nat × Nat) (d : TypeDesc)
    (hp : tmps.getD p undef = .pointer (some ⟨g, 0, none⟩)) (hg : w.heap[g]? = some (.cells cs t fr))
    (hu : P.underlying ty = some d) (hd : (match d with | .struct _ | .array _ _ => true | _ => false) = true) (hi : (P.info? ty).map (·.size) = some cs.size) :
    (results fn tmps).run P w = .ok (.tuple #[.agg cs, tmps.getD q undef, tmps.getD s undef]) w := by
  have hp' : tmps[p]?.getD undef = .pointer (some ⟨g, 0, none⟩) := by simpa using hp
  simp [results, h, hp', asAddr, run_loadVar_row w g t ty cs fr d hg hu hd hi]
theorem ret_stored12 {P : Program} {fn : Func} {R : Ending → World → Prop} {a : Act} {w : World} {p q s : Tmp} {ty : TypeId} {g n : Nat} {d : TypeDesc} {c : Array Value} (h : fn.results = #[.cell p ty, .tmp q, .tmp s])
    (hu : P.underlying ty = some d) (hd : (match d with | .struct _ | .array _ _ => true | _ => false) = true) (hi : (P.info? ty).map (·.size) = some n)
    (hp : a.tmps.getD p undef = .pointer (some ⟨g, 0, none⟩)) (hr : Row w g n) (hc : c.size = n) (hf : a.defers = []) (hR : R (.returned (.tuple #[.agg c, a.tmps.getD q undef, a.tmps.getD s undef])) (w.setRow g c)) : bodyPost P fn R .ret a (w.setRow g c) := by
  have hr2 : Row (w.setRow g c) g n := (row_setRow_same rfl hr).2 hc
  have e2 : rowAt (w.setRow g c) g = c := rowAt_setRow_same hr
  obtain ⟨cs, t, hg, hs⟩ := hr2
  have e : rowAt (w.setRow g c) g = cs := by simp [rowAt, hg]
  rw [e] at e2
  subst e2
  exact bodyPost_ret (results_row_tmp2 h _ _ g t cs (0, 0) d hp hg hu hd (by rw [hi, hs])) hf hR
theorem build_noneD (w : World) : (Instr.build 41 #[]).run Tryd.prog w = .ok (.agg (arrK .u64 4 (wd 0))) w := (run_build w _ _ _ (by kernel_rfl)).trans (by rw [← zeroNum])
theorem wp_bldNil {P : Program} {Q : Exit → Act → World → Prop} {o : Oper} {a : Act} {w : World} {K : Act → World → Prop} {t : TypeId} {u : Value} (ho : o.op = .build t #[]) (hr : (Instr.build t #[]).run P w = .ok u w) (h : K (a.put o.dst u) w) : Oper.wp P o a w K Q := by
  obtain ⟨dst, op, tt, pos, af, gd⟩ := o
  subst ho
  unfold Oper.wp execOp
  simp only [List.map_toArray, List.map_nil, Sem.run_bind, hr, Result.andThen_ok]
  exact h
theorem ref_DrawnBelowNone (seed : List UInt8) (p : Nat) (w : World) :
    Calls Tryd.prog 14 #[strV seed, .int .u64 (p : Nat), numV 0] w fun e w' => e = .returned (.tuple #[numV 0, .int .i64 0, .int .i64 1]) ∧ Below w.heap.size w w' := by
  have kO := Lib.hid (fun V => ref_OfNum 0 V (by decide +kernel))
  unfold numV at kO
  unfold numV
  have hc0 := arrK_cells .u64 4 (wd 0)
  have kB := Lib.hid (fun V => build_noneD V)
  have hL0 : Below w.heap.size w ((w.alloc (Obj.cells (arrK .u64 4 (wd 0)) 41)).alloc (Obj.cells (arrK .u64 4 (wd 0)) 41)) := by go_grown
  have h5 : At ((w.alloc (Obj.cells (arrK .u64 4 (wd 0)) 41)).alloc (Obj.cells (arrK .u64 4 (wd 0)) 41)) w.heap.size .u64 4 (wd 0) := (At.new _ rfl).old _
  have h6 := Lib.hid (show At ((w.alloc (Obj.cells (arrK .u64 4 (wd 0)) 41)).alloc (Obj.cells (arrK .u64 4 (wd 0)) 41)) (w.heap.size + 1) .u64 4 (wd 0) from At.new _ (by simp))
  have hL := Lib.hid hL0
  clear hL0
  go_enter Tryd.func14, Tryd.ntmps14
  go_upto_region 1 with (fail)
  generalize (w.alloc _).alloc _ = W0 at *
  obtain ⟨r5, q5⟩ := h5
  go_wp2_with fail
  refine (kO.out W0).mono ?_
  rintro e w1 ⟨u, rfl, hu, hb⟩
  obtain ⟨A, k, c, rfl, -, -, hk⟩ := hu.form
  obtain rfl : k = 0 := hk.2 rfl
  replace h6 := Lib.hid (h6.out.step hb)
  replace hL := Lib.hid (below_step hb hL.out (Nat.le_refl _))
  have r6 := h6.out.row
  clear hb hu kO r5 q5
  go_wp2_with (refine wpList_opT (by go_simp) (fun K9 hK => wp_bldNil rfl (kB.out _) (hK _ _ ?_)))
  exact ret_stored12 (p := 6) (q := 7) (s := 8) (ty := 41) (g := w.heap.size + 1) (n := 4) (c := arrK .u64 4 (wd 0)) rfl Tryd.underlying41 rfl (by kernel_rfl) rfl r6 hc0.1 rfl ⟨rfl, below_setRow hL.out (by omega)⟩
def DBelR (K : Nat → W32) (seed : List UInt8) (m L p : Nat) (w : World) (e : Ending) (w' : World) : Prop :=
  ∃ (x n : Nat) (z : Int), e = .returned (.tuple #[numV x, .int .i64 (n : Nat), .int .i64 z]) ∧ BelIs K seed m L p x n z ∧ Below w.heap.size w w'
theorem ref_DrawnBelow (K : Nat → W32) (seed : List UInt8) (p m L : Nat) (w : World) (hT : Tabs K w) (hsl : seed.length ≤ 576460752303423488) (hp : p < 18446744073709551616) (hm0 : m ≠ 0) (hm : m < 2 ^ 256) (hLen : IsLen (m - 1) L) :
    Calls Tryd.prog 14 #[strV seed, .int .u64 (p : Nat), numV m] w (DBelR K seed m L p w) := by
  have kO := Lib.hid (fun V => ref_OfNum m V hm)
  unfold numV at kO
  unfold numV
  have hc0 := arrK_cells .u64 4 (wd 0)
  have hcm := arrK_cells .u64 4 (wd m)
  have kB := Lib.hid (fun V => build_noneD V)
  have hL0 : Below w.heap.size w ((w.alloc (Obj.cells (arrK .u64 4 (wd m)) 41)).alloc (Obj.cells (arrK .u64 4 (wd 0)) 41)) := by go_grown
  have h5 : At ((w.alloc (Obj.cells (arrK .u64 4 (wd m)) 41)).alloc (Obj.cells (arrK .u64 4 (wd 0)) 41)) w.heap.size .u64 4 (wd m) := (At.new _ rfl).old _
  have h6 := Lib.hid (show At ((w.alloc (Obj.cells (arrK .u64 4 (wd m)) 41)).alloc (Obj.cells (arrK .u64 4 (wd 0)) 41)) (w.heap.size + 1) .u64 4 (wd 0) from At.new _ (by simp))
  have hL := Lib.hid hL0
  have hTh := Lib.hid hT
  have hmh := Lib.hid (And.intro hm0 (And.intro hm hLen))
  have hph := Lib.hid hp
  clear hL0 hT hm0 hm hLen hp
  go_enter Tryd.func14, Tryd.ntmps14
  go_upto_region 1 with (fail)
  generalize (w.alloc _).alloc _ = W0 at *
  obtain ⟨r5, q5⟩ := h5
  go_wp2_with fail
  refine (kO.out W0).mono ?_
  rintro e w1 ⟨u, rfl, hu, hb⟩
  obtain ⟨uA, uk, uc, rfl, -, -, hk⟩ := hu.form
  have hk0 : ((uk : Int) == 0) = false := by simp; intro e; exact hmh.out.1 (hk.1 e)
  replace h6 := Lib.hid (h6.out.step hb)
  replace hL := Lib.hid (below_step hb hL.out (Nat.le_refl _))
  have hN := Lib.hid hu
  clear hb hu kO r5 q5 hk
  go_upto_region 5 with (fail)
  go_loopw [10] (fun nv wr => ∃ n : Nat, nv = .int .i64 n ∧ Hid (∀ i < n, 2 ^ i < m) ∧ Hid (IsN wr (.slice uA uk uc) m) ∧ Hid (At wr (w.heap.size + 1) .u64 4 (wd 0)) ∧ Hid (Below w.heap.size w wr)) (fun nv _ => 257 - (intOf nv).toNat)
  case atStart => exact ⟨0, rfl, Lib.hid (fun i hi => absurd hi (by omega)), hN, h6, hL⟩
  case round =>
    clear hN h6 hL hk0
    obtain ⟨n, rfl, hLo, hN, h6, hL⟩ := hrel
    have hn256 : n ≤ 256 := by
      rcases Nat.lt_or_ge 256 n with e | e
      · have h9 := hLo.out 256 e
        exact absurd hmh.out.2.1 (by omega)
      · exact e
    have hpl : 2 ^ n < big := lt_big (k := n + 1) (Nat.pow_lt_pow_right (by omega) (by omega)) (by omega)
    have hml : m < big := lt_big hmh.out.2.1 (by omega)
    have kT := Lib.hid (ref_TwoTo n wr (by omega))
    obtain ⟨q, hq⟩ : ∃ q, 2 ^ n = q := ⟨_, rfl⟩
    rw [hq] at kT hpl
    have kOr := Lib.hid (fun V v (h1 : IsN V v q) (h2 : IsN V (.slice uA uk uc) m) => orderN V (h1.toV hpl) (h2.toV hml))
    have hqh := Lib.hid hq
    clear hq hpl hml
    go_upto_region 5 with (fail)
    go_wp2_with fail
    refine kT.out.mono ?_
    rintro e w2 ⟨v, rfl, hv, hb⟩
    obtain ⟨vA, vk, vc, rfl, -, -, -⟩ := hv.form
    have hN2 := hN.out.step hb
    go_wp2_with fail
    refine (kOr.out w2 _ hv hN2).mono ?_
    rintro e w3 ⟨rfl, rfl⟩
    replace h6 := Lib.hid (h6.out.step hb)
    replace hL := Lib.hid (below_step hb hL.out (Nat.le_refl _))
    replace hN := Lib.hid hN2
    clear hb hv hN2 kT kOr
    by_cases hqm : q < m
    · rw [show order q m = -1 by unfold order; rw [if_pos hqm]]
      have hLo2 := Lib.hid (show ∀ i < n + 1, 2 ^ i < m from fun i hi => by
        rcases Nat.lt_or_ge i n with h9 | h9
        · exact hLo.out i h9
        · obtain rfl : i = n := by omega
          rw [hqh.out]; exact hqm)
      have hwn : IntKind.i64.wrap ((n : Int) + 1) = (n : Int) + 1 := by rw [IntKind.wrap_i64]; omega
      clear hqm
      go_wp2_with fail
      refine ⟨⟨n + 1, by go_num, hLo2, hN, h6, hL⟩, ?_⟩
      simp [intOf]; omega
    · have ho : order q m = 0 ∨ order q m = 1 := by
        unfold order
        rw [if_neg hqm]
        split
        · exact .inr rfl
        · exact .inl rfl
      have hnL : n = L := by
        refine IsLen.only (a := m - 1) ⟨by rw [hqh.out]; have := hmh.out.1; omega, ?_⟩ hmh.out.2.2
        rcases Nat.eq_zero_or_pos n with h9 | h9
        · exact .inl h9
        · have := hLo.out (n - 1) (by omega)
          exact .inr (by omega)
      subst hnL
      obtain ⟨oo, hoo, hoz⟩ : ∃ o : Int, order q m = o ∧ decide (o < 0) = false := by
        rcases ho with ho | ho
        · exact ⟨0, ho, by decide⟩
        · exact ⟨1, ho, by decide⟩
      have hoz2 : ¬ oo < 0 := by simpa using hoz
      rw [hoo]
      clear ho hoo hqm hLo
      go_upto_region 8 with (fail)
      clear hoz hoz2
      go_loopw [28] (fun jv wr => ∃ j : Nat, jv = .int .i64 j ∧ j ≤ 100 ∧ Hid (∀ i < j, ¬ tryX K seed n p i < m) ∧ Hid (IsN wr (.slice uA uk uc) m) ∧ Hid (At wr (w.heap.size + 1) .u64 4 (wd 0)) ∧ Hid (Below w.heap.size w wr)) (fun jv _ => 100 - (intOf jv).toNat)
      case atStart => exact ⟨0, rfl, by omega, Lib.hid (fun i hi => absurd hi (by omega)), hN, h6, hL⟩
      case round =>
        clear hN h6 hL
        obtain ⟨j, rfl, hj, hNo, hN, h6, hL⟩ := hrel
        by_cases hj1 : j = 100
        · subst hj1
          have d1 : decide (((100 : Nat) : Int) < 100) = false := by decide
          have r6 := h6.out.row
          rw [show ((100 : Nat) : Int) = (100 : Int) from rfl] at *
          go_wp2_with (refine wpList_opT (by go_simp) (fun K9 hK => wp_bldNil rfl (kB.out _) (hK _ _ ?_)))
          exact ret_stored12 (p := 6) (q := 7) (s := 8) (ty := 41) (g := w.heap.size + 1) (n := 4) (c := arrK .u64 4 (wd 0)) rfl Tryd.underlying41 rfl (by kernel_rfl) rfl r6 hc0.1 rfl ⟨0, 3200, 6, rfl, .inr ⟨hNo.out, rfl, rfl, rfl⟩, below_setRow hL.out (by omega)⟩
        · have hjl : j < 100 := by omega
          have d1 : decide ((j : Int) < 100) = true := by simp; omega
          have hji : (j : Int) < 100 := by omega
          have hj0 : (0 : Int) ≤ (j : Int) := by omega
          have w1 : IntKind.u64.wrap (j : Int) = (j : Int) := by rw [IntKind.wrap_u64]; omega
          have w2 : IntKind.u64.wrap (32 * (j : Int)) = 32 * (j : Int) := by rw [IntKind.wrap_u64]; omega
          have w3 : IntKind.u64.wrap ((p : Int) + 32 * (j : Int)) = ((plc p (32 * j) : Nat) : Int) := by rw [IntKind.wrap_u64]; unfold plc; omega
          have kD := ref_Drawn K seed (plc p (32 * j)) 32 wr (hTh.out.below hL.out (Nat.le_refl _)) (by omega) hsl
          obtain ⟨f, hf⟩ : ∃ f, (fun i => dwB K seed (plc p (32 * j + i))) = f := ⟨_, rfl⟩
          have hff : (fun i => dwB K seed (plc (plc p (32 * j)) i)) = f := by rw [← hf]; funext i; rw [plc_plc]
          have hf256 : ∀ i, f i < 256 := fun i => by rw [← hf]; exact dwB_lt _ _ _
          have htx := Lib.hid (show tryX K seed n p j = bval f 32 % 2 ^ n by unfold tryX; rw [hf])
          rw [hff] at kD
          have kDh := Lib.hid kD
          have hl32 := bLs_len f 32
          have hix := Lib.hid (fun i (hi : i < 32) V => by
            have h9 := str_ix (P := Tryd.prog) (t := 9) Tryd.underlying9 (l := bLs f 32) (i := i) (by rw [hl32]; exact hi) .i64 V
            rwa [show bytesF (bLs f 32) i = f i from bytesF_bL hi (hf256 i)] at h9)
          obtain ⟨P, hP⟩ : ∃ P, plc p (32 * j) = P := ⟨_, rfl⟩
          rw [hP] at w3 kDh
          obtain ⟨ss, hss⟩ : ∃ s, bLs f 32 = s := ⟨_, rfl⟩
          rw [hss] at kDh hix
          clear hf hff kD hl32 hP hss
          go_upto_region 10 with (fail)
          go_wp2_with fail
          refine kDh.out.mono ?_
          rintro e w4 ⟨rfl, hb⟩
          replace h6 := Lib.hid (h6.out.step hb)
          replace hL := Lib.hid (below_step hb hL.out (Nat.le_refl _))
          replace hN := Lib.hid (hN.out.step hb)
          clear hb kDh w1 w2 w3
          go_upto_region 13 with (fail)
          go_loopw [13, 14] (fun v iv wr => ∃ s : Nat, iv = .int .i64 ((s : Int) - 1) ∧ s ≤ 32 ∧ Hid (IsN wr v (hvB f s (32 - s))) ∧ Hid (IsN wr (.slice uA uk uc) m) ∧ Hid (At wr (w.heap.size + 1) .u64 4 (wd 0)) ∧ Hid (Below w.heap.size w wr)) (fun _ iv _ => (intOf iv + 1).toNat)
          case atStart => exact ⟨32, rfl, Nat.le_refl _, Lib.hid (IsN.nil _), hN, h6, hL⟩
          case round =>
            clear hN h6 hL
            obtain ⟨s, rfl, hs, hX, hN, h6, hL⟩ := hrel
            obtain ⟨vA2, vm, vc2, rfl, -, -, -⟩ := IsN.form hX.out
            rcases Nat.eq_zero_or_pos s with rfl | hs0
            · have hX0 := hX.out
              rw [Nat.sub_zero, hvB_zero] at hX0
              have hx0 : bval f 32 < 2 ^ 256 := by
                have h9 := bval_lt (f := f) (n := 32) (fun i _ => hf256 i)
                rwa [show 256 ^ 32 = 2 ^ 256 by decide +kernel] at h9
              have hpn : (0 : Nat) < 2 ^ n := Nat.pow_pos (by omega)
              have hpl : 2 ^ n < big := lt_big (k := n + 1) (Nat.pow_lt_pow_right (by omega) (by omega)) (by omega)
              have hpb : 65536 * 2 ^ n < big := by
                have h9 : 65536 * 2 ^ n = 2 ^ (16 + n) := by rw [Nat.pow_add]
                rw [h9]
                exact lt_big (k := 16 + n + 1) (Nat.pow_lt_pow_right (by omega) (by omega)) (by omega)
              have hml : m < big := lt_big hmh.out.2.1 (by omega)
              have hxl : bval f 32 % 2 ^ n < 2 ^ 256 := Nat.lt_of_le_of_lt (Nat.mod_le _ _) hx0
              have kT := Lib.hid (fun V => ref_TwoTo n V (by omega))
              have kR := Lib.hid (fun V u v (h1 : IsN V u (bval f 32)) (h2 : IsN V v (2 ^ n)) => restN V h1 hx0 (by omega) (h2.toV hpl) hpn hpb)
              have htx2 := htx.out
              obtain ⟨x, hx⟩ : ∃ x, bval f 32 % 2 ^ n = x := ⟨_, rfl⟩
              rw [hx] at kR htx2 hxl
              have htxh := Lib.hid htx2
              have kOr := Lib.hid (fun V u v (h1 : IsN V u x) (h2 : IsN V v m) => orderN V (h1.toV (lt_big hxl (by omega))) (h2.toV hml))
              have kN := Lib.hid (fun V u (h1 : IsN V u x) => toNumN V (h1.toV (lt_big hxl (by omega))))
              unfold numV at kN
              obtain ⟨x0, hx0e⟩ : ∃ x, bval f 32 = x := ⟨_, rfl⟩
              obtain ⟨q2, hq2⟩ : ∃ x, 2 ^ n = x := ⟨_, rfl⟩
              rw [hx0e, hq2] at kR
              rw [hx0e] at hX0
              rw [hq2] at kT
              have hXh := Lib.hid hX0
              have hcx := arrK_cells .u64 4 (wd x)
              have w7 : IntKind.i64.wrap ((j : Int) + 1) = (j : Int) + 1 := by rw [IntKind.wrap_i64]; omega
              have w8 : IntKind.i64.wrap (32 * ((j : Int) + 1)) = 32 * ((j : Int) + 1) := by rw [IntKind.wrap_i64]; omega
              rw [show (((0 : Nat) : Int) - 1) = (-1 : Int) from rfl]
              clear hX hX0 hx0 hpn hpl hpb hml hxl htx htx2 hx hx0e hq2 hix hs
              go_upto_region 16 with (fail)
              go_wp2_with fail
              refine (kT.out wr).mono ?_
              rintro e w5 ⟨v2, rfl, hv2, hb5⟩
              obtain ⟨A5, k5, c5, rfl, -, -, -⟩ := hv2.form
              have hX5 := hXh.out.step hb5
              go_wp2_with fail
              refine (kR.out w5 _ _ hX5 hv2).mono ?_
              rintro e w6 ⟨v3, rfl, hv3, hb6⟩
              obtain ⟨A6, k6, c6, rfl, -, -, -⟩ := hv3.form
              have hb56 := below_step hb6 hb5 (Nat.le_refl _)
              replace h6 := Lib.hid (h6.out.step hb56)
              replace hL := Lib.hid (below_step hb56 hL.out (Nat.le_refl _))
              replace hN := Lib.hid (hN.out.step hb56)
              have hx3 := Lib.hid hv3
              clear hb56 hb5 hb6 hv2 hX5 hXh kT kR hv3
              go_upto_region 17 with (fail)
              go_wp2_with fail
              refine (kOr.out w6 _ _ hx3.out hN.out).mono ?_
              rintro e w7' ⟨rfl, rfl⟩
              clear kOr
              by_cases hxm : x < m
              · rw [show order x m = -1 by unfold order; rw [if_pos hxm]]
                have hxmh := Lib.hid hxm
                clear hxm
                go_upto_region 18 with (fail)
                go_wp2_with fail
                refine (kN.out _ _ hx3.out).mono ?_
                rintro e w8' ⟨rfl, hb8⟩
                have r6 := (h6.out.step hb8).row
                have hL8 := Lib.hid (below_step hb8 hL.out (Nat.le_refl _))
                have hnj := Lib.hid (show (32 : Int) * ((j : Int) + 1) = ((32 * (j + 1) : Nat) : Int) by omega)
                clear hb8 kN hx3 h6 hL
                go_wp2_with fail
                refine ret_stored12 (p := 6) (q := 7) (s := 8) (ty := 41) (g := w.heap.size + 1) (n := 4) (c := arrK .u64 4 (wd x)) rfl Tryd.underlying41 rfl (by kernel_rfl) rfl r6 hcx.1 rfl ?_
                exact ⟨x, 32 * (j + 1), 0, by rw [← hnj.out] <;> rfl, .inl ⟨j, hjl, hNo.out, by rw [htxh.out]; exact hxmh.out, htxh.out.symm, rfl, rfl⟩, below_setRow hL8.out (by omega)⟩
              · have ho : order x m = 0 ∨ order x m = 1 := by
                  unfold order
                  rw [if_neg hxm]
                  split
                  · exact .inr rfl
                  · exact .inl rfl
                have hNo2 := Lib.hid (show ∀ i < j + 1, ¬ tryX K seed n p i < m from fun i hi => by
                  rcases Nat.lt_or_ge i j with h9 | h9
                  · exact hNo.out i h9
                  · obtain rfl : i = j := by omega
                    rw [htxh.out]; exact hxm)
                clear hxm w7 w8
                rcases ho with ho | ho
                all_goals
                  rw [ho]
                  clear ho
                  go_wp2_with fail
                  refine ⟨⟨j + 1, by go_num, by omega, hNo2, hN, h6, hL⟩, ?_⟩
                  simp [intOf]; omega
            · obtain ⟨i, rfl⟩ : ∃ i, s = i + 1 := ⟨s - 1, by omega⟩
              rw [show (((i + 1 : Nat) : Int) - 1) = (i : Int) by omega]
              have hin : i < 32 := by omega
              have hfi := hf256 i
              have hlt := hvB_lt (f := f) (32 - (i + 1)) (i + 1) (fun j _ => hf256 j)
              have hHst := Lib.hid (show hvB f (i + 1) (32 - (i + 1)) * 256 + f i = hvB f i (32 - i) by
                rw [show 32 - i = (32 - (i + 1)) + 1 by omega]; show _ = f i + 256 * _; omega)
              have hb1 : hvB f (i + 1) (32 - (i + 1)) < big := lt_big hlt (by omega)
              have hb2 : hvB f (i + 1) (32 - (i + 1)) * 256 < big := by
                refine lt_big (k := 8 * (32 - (i + 1)) + 8) ?_ (by omega)
                rw [Nat.pow_add]
                exact Nat.mul_lt_mul_of_pos_right hlt (by omega)
              have hb3 := Lib.hid hb2
              have hV := Lib.hid (fun V (h : Below wr.heap.size wr V) => (hX.out.step h).toV hb1)
              have hixi := fun V => hix.out i hin V
              have d2 : decide ((i : Int) ≥ 0) = true := by simp
              have d3 : (0 : Int) ≤ (i : Int) := by omega
              have d4 : (i : Int) < 32 := by omega
              clear hlt hb1 hb2 hX hs hs0
              generalize hvB f (i + 1) (32 - (i + 1)) = M at *
              generalize f i = x at *
              have hwx : IntKind.i64.wrap (x : Int) = (x : Int) := by rw [IntKind.wrap_i64]; omega
              have w3 : IntKind.i64.wrap ((i : Int) - 1) = (i : Int) - 1 := by rw [IntKind.wrap_i64]; omega
              go_upto_region 15 with (fail)
              generalize ha0 : Act.mk _ _ = a0
              have e12 : a0.tmps[12]?.getD undef = strV ss := by rw [← ha0]; rfl
              have e13 : a0.tmps[13]?.getD undef = .slice vA2 vm vc2 := by rw [← ha0]; rfl
              have e14 : a0.tmps[14]?.getD undef = .int .i64 (i : Nat) := by rw [← ha0]; rfl
              have hz0 : a0.tmps.size = 66 := by rw [← ha0]; rfl
              have hha0 := Lib.hid ha0
              clear ha0
              refine wp_region_tailL (fun jx_ => match jx_ with | 0 => SRel.is (.slice vA2 vm vc2) | 1 => SRel.bV 256 | 2 => SRel.bN (M * 256) | 3 => SRel.is (strV ss) | 4 => SRel.is (.int .i64 (i : Nat)) | 5 => SRel.is (.int .u8 (x : Nat)) | 6 => SRel.is (.int .i64 (x : Nat)) | 7 => SRel.bV x | 8 => SRel.bN (M * 256 + x) | 9 => SRel.any | _ => SRel.any) 9 (by kernel_rfl) (by kernel_rfl) (by kernel_rfl) (slotsOk_of hz0 (by kernel_rfl)) (by kernel_rfl) (of_decide_eq_true (by kernel_rfl)) ⟨?_, ?_, ?_, ?_, ?_, ?_, ?_, ?_, ?_, trivial⟩ ?_
              · refine calmL_step rfl fun a ω κ hb hu hc hK => ?_
                have h13 : a.tmps[13]?.getD undef = .slice vA2 vm vc2 := (hu 13 rfl).trans e13
                have hk := Lib.hid (fun w1 (h : Below ω.heap.size ω w1) => hK (.slice vA2 vm vc2) w1 rfl h)
                clear hK hu hc
                go_simp
                exact hk.out _ (Below.refl _ _)
              · refine calmL_step rfl fun a ω κ hb hu hc hK => ?_
                have hk := Lib.hid (fun v w1 (hv : (SRel.bV 256).p v w1) (h : Below ω.heap.size ω w1) => hK v w1 hv h)
                clear hK hu hc
                go_simp
                exact hk.out _ _ (IsV.lit256 ω 3) (below_alloc _ _)
              · refine calmL_step rfl fun a ω κ hb hu hc hK => ?_
                have h42 : a.tmps[42]?.getD undef = .slice vA2 vm vc2 := hc 0 42 rfl rfl
                have h43 : (SRel.bV 256).p (a.tmps[43]?.getD undef) ω := hc 1 43 rfl rfl
                have hk := Lib.hid (fun v w1 (hv : (SRel.bN (M * 256)).p v w1) (h : Below ω.heap.size ω w1) => hK v w1 hv h)
                clear hK hu hc
                go_simp
                go_at_call 43
                refine (timesN (m := M) (n := 256) ω (hV.out ω hb) h43).mono ?_
                rintro e w1 ⟨v, rfl, hv, hb1⟩
                exact hk.out _ _ hv hb1
              · refine calmL_step rfl fun a ω κ hb hu hc hK => ?_
                have h12 : a.tmps[12]?.getD undef = strV ss := (hu 12 rfl).trans e12
                have hk := Lib.hid (fun w1 (h : Below ω.heap.size ω w1) => hK (strV ss) w1 rfl h)
                clear hK hu hc
                go_simp
                exact hk.out _ (Below.refl _ _)
              · refine calmL_step rfl fun a ω κ hb hu hc hK => ?_
                have h14 : a.tmps[14]?.getD undef = .int .i64 (i : Nat) := (hu 14 rfl).trans e14
                have hk := Lib.hid (fun w1 (h : Below ω.heap.size ω w1) => hK (.int .i64 (i : Nat)) w1 rfl h)
                clear hK hu hc
                go_simp
                exact hk.out _ (Below.refl _ _)
              · refine calmL_step rfl fun a ω κ hb hu hc hK => ?_
                have h45 : a.tmps[45]?.getD undef = strV ss := hc 3 45 rfl rfl
                have h46 : a.tmps[46]?.getD undef = .int .i64 (i : Nat) := hc 4 46 rfl rfl
                have hk := Lib.hid (fun w1 (h : Below ω.heap.size ω w1) => hK (.int .u8 (x : Nat)) w1 rfl h)
                clear hK hu hc
                have q1 := hixi ω
                go_simp
                exact hk.out _ (Below.refl _ _)
              · refine calmL_step rfl fun a ω κ hb hu hc hK => ?_
                have h47 : a.tmps[47]?.getD undef = .int .u8 (x : Nat) := hc 5 47 rfl rfl
                have hk := Lib.hid (fun w1 (h : Below ω.heap.size ω w1) => hK (.int .i64 (x : Nat)) w1 rfl h)
                clear hK hu hc
                go_simp
                exact hk.out _ (Below.refl _ _)
              · refine calmL_step rfl fun a ω κ hb hu hc hK => ?_
                have h48 : a.tmps[48]?.getD undef = .int .i64 (x : Nat) := hc 6 48 rfl rfl
                have hk := Lib.hid (fun v w1 (hv : (SRel.bV x).p v w1) (h : Below ω.heap.size ω w1) => hK v w1 hv h)
                clear hK hu hc
                go_simp
                exact hk.out _ _ (IsV.lit ω 3 (by omega)) (below_alloc _ _)
              · refine calmL_step rfl fun a ω κ hb hu hc hK => ?_
                have h44 : (SRel.bN (M * 256)).p (a.tmps[44]?.getD undef) ω := hc 2 44 rfl rfl
                have h49 : (SRel.bV x).p (a.tmps[49]?.getD undef) ω := hc 7 49 rfl rfl
                have hk := Lib.hid (fun v w1 (hv : (SRel.bN (M * 256 + x)).p v w1) (h : Below ω.heap.size ω w1) => hK v w1 hv h)
                clear hK hu hc
                go_simp
                go_at_call 42
                refine (plusN (m := M * 256) (n := x) ω (IsN.toV h44 hb3.out) h49).mono ?_
                rintro e w1 ⟨v, rfl, hv, hb1⟩
                exact hk.out _ _ hv hb1
              · intro aa ω hb hu hsz hdf hc
                have h42 : aa.tmps[42]?.getD undef = .slice vA2 vm vc2 := hc 0 42 (by decide) rfl
                have h45 : aa.tmps[45]?.getD undef = strV ss := hc 3 45 (by decide) rfl
                have h46 : aa.tmps[46]?.getD undef = .int .i64 (i : Nat) := hc 4 46 (by decide) rfl
                have h47 : aa.tmps[47]?.getD undef = .int .u8 (x : Nat) := hc 5 47 (by decide) rfl
                have h48 : aa.tmps[48]?.getD undef = .int .i64 (x : Nat) := hc 6 48 (by decide) rfl
                have h50 : (SRel.bN (M * 256 + x)).p (aa.tmps[50]?.getD undef) ω := hc 8 50 (by decide) rfl
                have ha0 := hha0.out
                subst ha0
                have he := act_patchL (n := 66) 9 [false, false, false, false, false, false, false, false, false, false, false, false, false, false, false, false, false, false, false, false, false, false, false, false, false, false, false, false, false, false, false, false, false, false, false, false, false, false, false, false, false, false, true, true, true, true, true, true, true, true, true, false, false, false, false, false, false, false, false, false, false, false, false, false, false, false] rfl (by kernel_rfl) hu hsz hdf
                simp only [patch, cond_true, cond_false, Nat.reduceAdd] at he
                clear hu hsz hdf hc hha0 e12 e13 e14 hz0
                rw [he]
                clear he
                generalize aa.tmps[42]?.getD undef = x42 at *
                generalize aa.tmps[43]?.getD undef = x43 at *
                generalize aa.tmps[44]?.getD undef = x44 at *
                generalize aa.tmps[45]?.getD undef = x45 at *
                generalize aa.tmps[46]?.getD undef = x46 at *
                generalize aa.tmps[47]?.getD undef = x47 at *
                generalize aa.tmps[48]?.getD undef = x48 at *
                generalize aa.tmps[49]?.getD undef = x49 at *
                generalize aa.tmps[50]?.getD undef = x50 at *
                subst h42 h45 h46 h47 h48
                replace h6 := Lib.hid (h6.out.step hb)
                replace hL := Lib.hid (below_step hb hL.out (Nat.le_refl _))
                replace hN := Lib.hid (hN.out.step hb)
                obtain ⟨xA, xm, xc, rfl, -, -, -⟩ := IsN.form h50
                have hXn := Lib.hid (show IsN ω (.slice xA xm xc) (hvB f i (32 - i)) from hHst.out ▸ h50)
                clear hV hb3 hixi hb h50
                go_wp2_with fail
                refine ⟨⟨i, by go_num, by omega, hXn, hN, h6, hL⟩, ?_⟩
                simp [intOf]
end Go.Proofs.YtdlmamnnamlleaaDoor
namespace Go.Proofs.YtdlmamnnamlleaaDoor
open Go Go.RowKit Go.ChangeShapes Go.WideShapes Go.ChangeAt Go.Deep
set_option maxHeartbeats 1000000
set_option maxRecDepth 100000
section
variable {w : World} {dst : Option Tmp} {x y : Operand} {tt : TypeId} {pos : String} {af : Array Edge} {gd : Option (Nat × Bool)} {a : Act} {K : Act → World → Prop} {Q : Exit → Act → World → Prop}
theorem store_dw (hv : IsHead (a.eval x)) (h : Row w (blkOf (a.eval x)) 7) (hx : IsAgg (a.eval y) 7) : Oper.wp Tryd.prog ⟨dst, .store 43 x y, tt, pos, af, gd⟩ a w K Q ↔ K (a.put dst undef) (w.setRow (blkOf (a.eval x)) (cellsV (a.eval y))) :=
  wp_store_whole (by kernel_rfl) hv h hx
theorem load_dwE (h : LdOk w 7 (a.eval x)) : Oper.wp Tryd.prog ⟨dst, .load 43 x, tt, pos, af, gd⟩ a w K Q ↔ K (a.put dst (.agg (ldC w 7 (a.eval x)))) w := wp_load_el Tryd.underlying43 rfl (by kernel_rfl) h
theorem load_fldD (h : LdOk w 4 (a.eval x)) : Oper.wp Tryd.prog ⟨dst, .load 41 x, tt, pos, af, gd⟩ a w K Q ↔ K (a.put dst (.agg (ldC w 4 (a.eval x)))) w := wp_load_el Tryd.underlying41 rfl (by kernel_rfl) h
end
/-- A drawing's cells. -/
def dwA (s b : Bool) (n : Int) (m : Nat) : Array Value := arrV 7 fun i => if i = 0 then .bool s else if i = 1 then .bool b else if i = 2 then .int .i64 n else .int .u64 (wd m (i - 3) : Nat)
theorem dwA_cells (s b : Bool) (n : Int) (m : Nat) : Cells (dwA s b n m) 7 := arrV_cells fun i _ => by
  split
  · rfl
  · split
    · rfl
    · split <;> rfl
theorem dwA_0 (s b : Bool) (n : Int) (m : Nat) : (dwA s b n m)[0]? = some (.bool s) := arrV_at (by omega)
theorem dwA_1 (s b : Bool) (n : Int) (m : Nat) : (dwA s b n m)[1]? = some (.bool b) := arrV_at (by omega)
theorem dwA_2 (s b : Bool) (n : Int) (m : Nat) : (dwA s b n m)[2]? = some (.int .i64 n) := arrV_at (by omega)
theorem dwA_3 (s b : Bool) (n : Int) (m : Nat) : (dwA s b n m).extract 3 (3 + 4) = arrK .u64 4 (wd m) := by
  unfold dwA
  rw [arrV_extract (by omega), arrK_V .u64 4]
  exact arrV_congr fun i hi => by rw [if_neg (by omega), if_neg (by omega), if_neg (by omega), Nat.add_sub_cancel_left]
theorem dwA_some (s b : Bool) (n : Int) (m : Nat) : ∀ i < 7, ((dwA s b n m)[i]?).isSome = true := fun i hi => by unfold dwA; rw [arrV_at hi]; rfl
theorem zeroDw : #[Value.bool false, Value.bool false, Value.int IntKind.i64 0, Value.int IntKind.u64 0, Value.int IntKind.u64 0, Value.int IntKind.u64 0, Value.int IntKind.u64 0] = dwA false false 0 0 := by kernel_rfl
/-- A drawing. -/
structure Dr where
  skip : Bool
  below : Bool
  n : Int
  m : Nat
def Dr.cells (x : Dr) : Array Value := dwA x.skip x.below x.n x.m
/-- n drawings at A. -/
structure Drs (w : World) (A : Option Addr) (l : List Dr) : Prop where
  at_ : ∀ i (h : i < l.length), ∃ ad, A = some ad ∧ ad.block < w.heap.size ∧ ∀ k < 7, w.cell? ((ad.add (i * 7)).add k) = (l[i].cells)[k]?
theorem Drs.step {w w' : World} {A : Option Addr} {l : List Dr} (h : Drs w A l) (hb : Below w.heap.size w w') : Drs w' A l := ⟨fun i hi => by
  obtain ⟨ad, e, hl, hc⟩ := h.at_ i hi
  refine ⟨ad, e, Nat.lt_of_lt_of_le hl hb.size, fun k hk => ?_⟩
  rw [← hc k hk]
  have hbl : ((ad.add (i * 7)).add k).block < w.heap.size := by rw [addr_block, addr_block]; exact hl
  exact hb.cell hbl⟩
section
variable {H : Type} {enc : TypeId × Value → H} {w : World} {base : Nat} {spare : Nat → Bool} {held : Bool}
theorem open_drawings {fuel : Nat} {v : Value} {x : DataW H × List MemPlace} (h : DataW.trod enc Tryd.prog w base spare held fuel 36 [v] = some x) :
    ∃ (A : Option Addr) (l : List Dr) (c : Nat), v = .slice A l.length c ∧ Drs w A l ∧ l.length ≤ c ∧ c ≤ maxLen ∧ ∀ x ∈ l, x.m < 2 ^ 256 ∧ -9223372036854775808 ≤ x.n ∧ x.n < 9223372036854775808 := by
  have c7 : Tryd.prog.cellsOf 43 = 7 := by kernel_rfl
  have c1 : Tryd.prog.cellsOf 3 = 1 := by kernel_rfl
  have cb : Tryd.prog.cellsOf 4 = 1 := by kernel_rfl
  have c4 : Tryd.prog.cellsOf 41 = 4 := by kernel_rfl
  rcases open_slice Tryd.underlying36 h with ⟨hcs, -⟩ | ⟨a, len, cap, m, n, D, Pl, hcs, -, hl, hm, hmm, -, hi⟩
  · injection hcs with hv
    exact ⟨none, [], 0, hv, ⟨fun i hi => absurd hi (by simp)⟩, Nat.le_refl _, by simp [maxLen], fun x hx => by simp at hx⟩
  · injection hcs with hv
    obtain ⟨P, hP, hp⟩ := list_of len (fun i (q : Dr) => (q.m < 2 ^ 256 ∧ -9223372036854775808 ≤ q.n ∧ q.n < 9223372036854775808) ∧ a.block < w.heap.size ∧ ∀ k < 7, w.cell? ((a.add (i * 7)).add k) = (q.cells)[k]?) (by
      intro i hil
      have him : i < m := by rw [hmm]; split <;> omega
      obtain ⟨cs', hc, ht'⟩ := hi i him
      rw [c7] at hc
      obtain ⟨y0, y1, y2, y3, n', -, hyl, h0, h1, h2, h3⟩ := Go.Joins.trod_struct4 Tryd.underlying43 ht'
      obtain ⟨-, hcl, hat⟩ := World.cells?_some hc
      dsimp only at h0 h1 h2 h3
      rw [cb] at h0 h1
      rw [c1] at h2
      rw [c4] at h3
      obtain ⟨s, e0, -⟩ := DataW.trod_bool Tryd.underlying4 h0
      obtain ⟨b, e1, -⟩ := DataW.trod_bool Tryd.underlying4 h1
      obtain ⟨z, e2, -, hw⟩ := DataW.trod_int Tryd.underlying3 h2
      obtain ⟨y, hy, e3⟩ := num_of_trod h3
      have hz : -9223372036854775808 ≤ z ∧ z < 9223372036854775808 := by
        simp only [Lit.wf, Bool.and_eq_true, decide_eq_true_eq] at hw
        exact has_i64 hw
      have hat' : ∀ k < 7, w.cell? ((a.add (i * 7)).add k) = (dwA s b z y)[k]? := fun k hk => by
        rw [hat k hk]
        unfold dwA
        rw [arrV_at hk]
        match k, hk with
        | 0, _ =>
          have h4 : ((cs'.drop 0).take 1)[0]? = some (.bool s) := by rw [e0]; rfl
          rwa [List.getElem?_take_of_lt (by omega), List.getElem?_drop, Nat.add_zero] at h4
        | 1, _ =>
          have h4 : ((cs'.drop 1).take 1)[0]? = some (.bool b) := by rw [e1]; rfl
          rwa [List.getElem?_take_of_lt (by omega), List.getElem?_drop, Nat.add_zero] at h4
        | 2, _ =>
          have h4 : ((cs'.drop 2).take 1)[0]? = some (.int .i64 z) := by rw [e2]; rfl
          rwa [List.getElem?_take_of_lt (by omega), List.getElem?_drop, Nat.add_zero] at h4
        | k + 3, hk =>
          have h4 : ((cs'.drop 3).take 4)[k]? = some (.int .u64 (wd y k : Nat)) := by
            rw [e3]
            have := arrK_at (k := .u64) (f := wd y) (show k < 4 by omega)
            rwa [← Array.getElem?_toList] at this
          rw [List.getElem?_take_of_lt (by omega), List.getElem?_drop] at h4
          rw [if_neg (by omega), if_neg (by omega), if_neg (by omega), show k + 3 - 3 = k by omega, show k + 3 = 3 + k by omega, h4]
      have hb := cell_lt ((hat' 0 (by omega)).trans (dwA_0 s b z y))
      rw [addr_block, addr_block] at hb
      exact ⟨⟨s, b, z, y⟩, ⟨hy, hz⟩, hb, hat'⟩)
    refine ⟨some a, P, cap, by rw [hP]; exact hv, ⟨fun i hi => ⟨a, rfl, ?_⟩⟩, by omega, hm, fun x hx => ?_⟩
    · exact (hp i hi).2
    · obtain ⟨i, hi, rfl⟩ := List.getElem_of_mem hx
      exact (hp i hi).1
end
theorem isLen_ex (a : Nat) : ∃ L, a < 2 ^ L ∧ (L = 0 ∨ 2 ^ (L - 1) ≤ a) := by
  rcases Nat.eq_zero_or_pos a with h | h
  · exact ⟨0, by omega, .inl rfl⟩
  · exact ⟨a.log2 + 1, Nat.lt_log2_self, .inr (by rw [Nat.add_sub_cancel]; exact Nat.log2_self_le (by omega))⟩
end Go.Proofs.YtdlmamnnamlleaaDoor
namespace Go.Proofs.YtdlmamnnamlleaaDoor
open Go.ChangeShapes Go.WideShapes Go.ChangeAt Go.RowKit
set_option maxHeartbeats 4000000
set_option maxRecDepth 100000
theorem belIs_ex (K : Nat → W32) (seed : List UInt8) (m L p : Nat) : ∃ (x n : Nat) (z : Int), BelIs K seed m L p x n z ∧ n ≤ 3200 := by
  have h : ∀ k ≤ 100, (∀ i < k, ¬ tryX K seed L p i < m) ∨ ∃ j < k, (∀ i < j, ¬ tryX K seed L p i < m) ∧ tryX K seed L p j < m := by
    intro k
    induction k with
    | zero => exact fun _ => .inl fun i hi => absurd hi (by omega)
    | succ k ih =>
      intro hk
      rcases ih (by omega) with h | ⟨j, hj, h⟩
      · by_cases hx : tryX K seed L p k < m
        · exact .inr ⟨k, by omega, h, hx⟩
        · refine .inl fun i hi => ?_
          rcases Nat.lt_or_ge i k with h2 | h2
          · exact h i h2
          · obtain rfl : i = k := by omega
            exact hx
      · exact .inr ⟨j, by omega, h⟩
  rcases h 100 (Nat.le_refl _) with h | ⟨j, hj, h1, h2⟩
  · exact ⟨0, 3200, 6, .inr ⟨h, rfl, rfl, rfl⟩, Nat.le_refl _⟩
  · exact ⟨_, 32 * (j + 1), 0, .inl ⟨j, hj, h1, h2, rfl, rfl, rfl⟩, by omega⟩
/-- Both ways of drawing a number below m, at once. -/
theorem below_bothD (K : Nat → W32) (w0 : World) (seed : List UInt8) (p m : Nat) (hT0 : Tabs K w0) (hsl : seed.length ≤ 576460752303423488) (hp : p < 18446744073709551616) (hm : m < 2 ^ 256) : ∃ (x n : Nat) (z : Int), n ≤ 3200 ∧ x < 2 ^ 256 ∧
    (∀ V, Src K w0 seed p V → Calls Tryd.prog 13 #[.pointer (some ⟨w0.heap.size, 0, none⟩), numV m] V fun e w' => e = .returned (.tuple #[numV x, .int .i64 z]) ∧ Src K w0 seed (plc p n) w' ∧ KbG w0.heap.size V w') ∧
    (∀ V, Tabs K V → Calls Tryd.prog 14 #[strV seed, .int .u64 (p : Nat), numV m] V fun e w' => e = .returned (.tuple #[numV x, .int .i64 (n : Nat), .int .i64 z]) ∧ Below V.heap.size V w') := by
  by_cases hm0 : m = 0
  · subst hm0
    refine ⟨0, 0, 1, by omega, by decide +kernel, fun V hS => (src_BelowNone w0 V).mono fun e w' ⟨h1, h2⟩ => ⟨h1, by rw [plc_zero hp]; exact hS.step h2, KbG.of h2⟩, fun V _ => ref_DrawnBelowNone seed p V⟩
  · obtain ⟨L, hL⟩ := isLen_ex (m - 1)
    obtain ⟨x, n, z, hB, hn⟩ := belIs_ex K seed m L p
    refine ⟨x, n, z, hn, Nat.lt_trans (hB.lt (by omega)) hm, fun V hS => (src_Below K w0 seed p m L V hS hT0 hm0 hm hL).mono fun e w' ⟨x', n', z', h1, h2, h3, h4⟩ => ?_, fun V hT => (ref_DrawnBelow K seed p m L V hT hsl hp hm0 hm hL).mono fun e w' ⟨x', n', z', h1, h2, h3⟩ => ?_⟩
    · obtain ⟨rfl, rfl, rfl⟩ := h2.only hB
      exact ⟨h1, h3, h4⟩
    · obtain ⟨rfl, rfl, rfl⟩ := h2.only hB
      exact ⟨h1, h3⟩
theorem place_c (K : Nat → W32) (w0 : World) (seed : List UInt8) (p : Nat) (w : World) (h : Src K w0 seed p w) :
    Calls Tryd.prog 15 #[.pointer (some ⟨w0.heap.size, 0, none⟩)] w fun e w' => e = .returned (.int .u64 (p : Nat)) ∧ w = w' := by
  obtain ⟨m, d, h⟩ := h
  exact draw_Place K w0 seed p m d w h
theorem Bw.kb {w w' : World} {g g0 n : Nat} {c : Array Value} (h : Bw w g n c) (hk : KbG g0 w w') (hne : g ≠ g0) : Bw w' g n c := ⟨(hk.row h.row hne).1, (hk.row h.row hne).2.trans h.eq⟩
theorem conv_dw {K : Nat → W32} {seed : List UInt8} {w : World} {g p k : Nat} (h : At w g .u8 k (dwF K seed p k)) : (convert 22 9 (.slice (some ⟨g, 0, none⟩) k k)).run Tryd.prog w = .ok (strV (bLs (fun i => dwB K seed (plc p i)) k)) w := by
  have hf : ∀ i < k, dwF K seed p k i = dwB K seed (plc p i) := fun i hi => by unfold dwF; rw [if_pos hi]
  have h2 := (h.congr hf).rdB (Nat.le_refl k) (fun i _ => dwB_lt K seed _)
  have h3 := conv_rd (P := Tryd.prog) (c := k) Tryd.underlying22 Tryd.underlying5 Tryd.underlying9 h2
  rwa [bLs_len] at h3
theorem extract_allD {a : Array Value} {n : Nat} (h : a.size = n) : a.extract 0 n = a := by subst h; exact Array.extract_size
theorem neqN4d (f : Nat → Nat) (w : World) : (binOp .neq 41 (.agg (arrK .u64 4 f)) (.agg (arrK .u64 4 f))).run Tryd.prog w = .ok (.bool false) w := by
  rw [run_neq_arrK Tryd.underlying41 Tryd.underlying39 (by kernel_rfl)]
  simp
attribute [local irreducible] arrV dgA sha macA macZ srcB be8 dwA
attribute [local go_sem ↓] load_dwE store_dw load_fldD store_num load_num
attribute [local go_sem] isHead_mk isPart_mk offOf_mk blkOf_mk isAgg_mk cellsV_mk row_drew rowAt_drew row_new_cells row_old rowAt_new rowAt_old setRow_new zeroNum zeroDw
theorem drawTells_true (K : Nat → W32) (A : Option Addr) (seed : List UInt8) (c : Nat) (B : Option Addr) (l : List Dr) (n d : Nat) (w : World) (hT : Tabs K w) (hs : Bs w A seed c) (hsl : seed.length ≤ 140737488351232) (hD : Drs w B l) (hn : l.length = n) (hnc : n ≤ d) (hx : ∀ x ∈ l, x.m < 2 ^ 256 ∧ -9223372036854775808 ≤ x.n ∧ x.n < 9223372036854775808) :
    Calls Tryd.prog 4 #[.slice A seed.length c, .slice B n d] w fun e w' => e = .returned (.bool true) ∧ Below w.heap.size w w' := by
  by_cases h20 : 20 < n
  · have d1 : decide ((n : Int) > 20) = true := by simp; omega
    have d2 : (20 : Int) < (n : Int) := by omega
    clear hT hs hD hx hn h20
    go_enter Tryd.func4, Tryd.ntmps4
    go_wp2_with fail
    exact ret_tmp (p := 4) (v := .bool true) rfl (by simp) rfl ⟨rfl, Below.refl _ _⟩
  · have d1 : decide ((n : Int) > 20) = false := by simp; omega
    have d2 : ¬ (20 : Int) < (n : Int) := by omega
    have hn20 : n ≤ 20 := by omega
    have kN := Lib.hid (draw_New K A seed c w hT hs)
    have hTh := Lib.hid hT
    have hsh := Lib.hid hs
    have hDh := Lib.hid hD
    have hnh := Lib.hid (And.intro hn hx)
    have hsl2 := Lib.hid hsl
    clear hT hs hD hx hn h20 hsl
    go_enter Tryd.func4, Tryd.ntmps4
    go_upto_region 3 with (fail)
    go_wp2_with fail
    refine kN.out.mono ?_
    rintro e w1 ⟨w0, rfl, hS0, hb0⟩
    replace hTh := Lib.hid (hTh.out.step hb0)
    replace hsh := Lib.hid (hsh.out.step hb0)
    replace hDh := Lib.hid (hDh.out.step hb0)
    have hL0 := Lib.hid hb0
    have hS := Lib.hid (show Src K w0 seed 0 w1 from ⟨_, _, hS0⟩)
    clear kN hS0 hb0 d1 d2
    go_upto_region 6 with (fail)
    rw [show (Value.int IntKind.u64 0) = Value.int IntKind.u64 ((0 : Nat) : Int) from rfl]
    go_loopw [6, 24] (fun pv iv wr => ∃ i p : Nat, iv = .int .i64 i ∧ pv = .int .u64 p ∧ i ≤ n ∧ Hid (Src K w0 seed p wr)) (fun _ iv _ => n - (intOf iv).toNat)
    case atStart => exact ⟨0, 0, rfl, rfl, Nat.zero_le _, hS⟩
    case round =>
      clear hS
      obtain ⟨i, p, rfl, rfl, hi, hS⟩ := hrel
      by_cases hin : i = n
      · subst hin
        have d1 : decide ((i : Int) < (i : Int)) = false := by simp
        go_wp2_with fail
        exact ret_tmp (p := 4) (v := .bool true) rfl (by simp) rfl ⟨rfl, below_step hS.out.bel hL0.out (Nat.le_refl _)⟩
      · have d1 : decide ((i : Int) < (n : Int)) = true := by simp; omega
        have hil : i < n := by omega
        have hii : (i : Int) < (n : Int) := by omega
        have hi0 : (0 : Int) ≤ (i : Int) := by omega
        have hir : i < l.length := by rw [hnh.out.1]; exact hil
        obtain ⟨ad, hA, hal, hac⟩ := (hDh.out.step hS.out.bel).at_ i hir
        have hxi := hnh.out.2 l[i] (List.getElem_mem hir)
        obtain ⟨xx, hxx⟩ : ∃ x, l[i] = x := ⟨_, rfl⟩
        rw [hxx] at hac hxi
        obtain ⟨sk, be, N, M⟩ := xx
        unfold Dr.cells at hac
        dsimp only at hac hxi
        have hl := pl_ldC (dwA_cells sk be N M).1 (dwA_some sk be N M) hac
        have hl1 := hl.1
        have hl2 := hl.2
        subst hA
        have hcs := dwA_cells sk be N M
        have hcz := dwA_cells false false 0 0
        have hxh := Lib.hid hxi
        clear hl hac hal hxx hxi
        go_upto_region 8 with (fail)
        have hbA := below_alloc wr (Obj.cells (dwA sk be N M) 43)
        have hG := Lib.hid (Bw.new (w := wr) 43 hcs.1)
        have hg8 := Lib.hid hS.out.lt
        have hpl := Lib.hid hS.out.pl
        replace hS := Lib.hid (hS.out.step hbA)
        clear hbA hl1 hl2 hcs hcz
        generalize wr.alloc _ = W8 at *
        generalize wr.heap.size = g8 at *
        have c0 := hG.out.cell (dwA_0 _ _ _ _)
        have c1 := hG.out.cell (dwA_1 _ _ _ _)
        have c2 := hG.out.cell (dwA_2 _ _ _ _)
        cases be
        · by_cases hf : fitE N = 0
          · obtain ⟨k, hk, hk4⟩ : ∃ k : Nat, N = (k : Int) ∧ k ≤ 4096 := by
              unfold fitE at hf
              by_cases q1 : N < 0
              · rw [if_pos q1] at hf; cases hf
              · rw [if_neg q1] at hf
                by_cases q2 : 4096 < N
                · rw [if_pos q2] at hf; cases hf
                · exact ⟨N.toNat, by omega, by omega⟩
            subst hk
            have f1 : decide ((k : Int) < 0) = false := by simp
            have f2 : decide ((k : Int) > 4096) = false := by simp; omega
            have f3 : ¬ (k : Int) < 0 := by omega
            have f4 : ¬ (4096 : Int) < (k : Int) := by omega
            have w1 : IntKind.u64.wrap (k : Int) = (k : Int) := by rw [IntKind.wrap_u64]; omega
            have w2 : IntKind.u64.wrap ((p : Int) + (k : Int)) = ((plc p k : Nat) : Int) := by rw [IntKind.wrap_u64]; unfold plc; omega
            clear hf
            cases sk
            · -- bytes
              have kB := Lib.hid (src_Bytes K w0 seed p k W8 hS.out hTh.out hk4)
              go_upto_region 23 with (fail)
              go_wp2_with fail
              refine kB.out.mono ?_
              rintro e w5 ⟨gb, rfl, hAb, hS5, hK5⟩
              have hG5 := Lib.hid (hG.out.kb hK5 (by have := hg8.out; omega))
              have hAbh := Lib.hid hAb
              replace hS := Lib.hid hS5
              have c02 := hG5.out.cell (dwA_0 _ _ _ _)
              have c22 := hG5.out.cell (dwA_2 _ _ _ _)
              clear hAb hS5 hK5 kB c0 c1 c2 hG
              go_upto_region 27 with (fail)
              generalize ha0 : Act.mk _ _ = a0
              have e0 : a0.tmps[0]?.getD undef = .slice A seed.length c := by rw [← ha0]; rfl
              have e6 : a0.tmps[6]?.getD undef = .int .u64 (p : Nat) := by rw [← ha0]; rfl
              have e8 : a0.tmps[8]?.getD undef = .pointer (some ⟨g8, 0, none⟩) := by rw [← ha0]; rfl
              have e15 : a0.tmps[15]?.getD undef = .slice (some ⟨gb, 0, none⟩) k k := by rw [← ha0]; rfl
              have hz0 : a0.tmps.size = 122 := by rw [← ha0]; rfl
              have hha0 := Lib.hid ha0
              clear ha0
              refine wp_region_calm (fun jx_ => match jx_ with | 0 => SRel.is (.pointer (some ⟨g8, 0, none⟩)) | 1 => SRel.is (.bool false) | 2 => SRel.is (.bool true) | 3 => SRel.is (.bool true) | 4 => SRel.is (.slice (some ⟨gb, 0, none⟩) k k) | 5 => SRel.is (strV (bLs (fun i => dwB K seed (plc p i)) k)) | 6 => SRel.is (.slice A seed.length c) | 7 => SRel.is (strV seed) | 8 => SRel.is (.int .u64 (p : Nat)) | 9 => SRel.is (.pointer (some ⟨g8, 2, none⟩)) | 10 => SRel.is (.int .i64 (k : Nat)) | 11 => SRel.is (strV (bLs (fun i => dwB K seed (plc p i)) k)) | 12 => SRel.is (.bool false) | 13 => SRel.is (.bool false) | _ => SRel.any) (by kernel_rfl) (by kernel_rfl) (by kernel_rfl) (slotsOk_of hz0 (by kernel_rfl)) ⟨?_, ?_, ?_, ?_, ?_, ?_, ?_, ?_, ?_, ?_, ?_, ?_, ?_, ?_, trivial⟩ ?_
              · refine calm_step rfl fun a ω κ hb hu hc hK => ?_
                have h8 : a.tmps[8]?.getD undef = .pointer (some ⟨g8, 0, none⟩) := (hu 8 rfl).trans e8
                have hk := Lib.hid (fun w1 (h : Below ω.heap.size ω w1) => hK (.pointer (some ⟨g8, 0, none⟩)) w1 rfl h)
                clear hK hu hc
                go_simp
                exact hk.out _ (Below.refl _ _)
              · refine calm_step rfl fun a ω κ hb hu hc hK => ?_
                have h98 : a.tmps[98]?.getD undef = .pointer (some ⟨g8, 0, none⟩) := hc 0 98 rfl rfl
                have hk := Lib.hid (fun w1 (h : Below ω.heap.size ω w1) => hK (.bool false) w1 rfl h)
                clear hK hu hc
                have q1 := (hG5.out.step hb).cell (dwA_0 _ _ _ _)
                go_simp
                exact hk.out _ (Below.refl _ _)
              · refine calm_step rfl fun a ω κ hb hu hc hK => ?_
                have h99 : a.tmps[99]?.getD undef = .bool false := hc 1 99 rfl rfl
                have hk := Lib.hid (fun w1 (h : Below ω.heap.size ω w1) => hK (.bool true) w1 rfl h)
                clear hK hu hc
                go_simp
                exact hk.out _ (Below.refl _ _)
              · refine calm_step rfl fun a ω κ hb hu hc hK => ?_
                have h100 : a.tmps[100]?.getD undef = .bool true := hc 2 100 rfl rfl
                have hk := Lib.hid (fun w1 (h : Below ω.heap.size ω w1) => hK (.bool true) w1 rfl h)
                clear hK hu hc
                go_simp
                exact hk.out _ (Below.refl _ _)
              · refine calm_step_guard (g := 3) (b := true) (d := 101) rfl rfl (fun a w hc => hc 3 101 rfl rfl) fun a ω κ hb hu hc hK => ?_
                have h15 : a.tmps[15]?.getD undef = .slice (some ⟨gb, 0, none⟩) k k := (hu 15 rfl).trans e15
                have hk := Lib.hid (fun w1 (h : Below ω.heap.size ω w1) => hK (.slice (some ⟨gb, 0, none⟩) k k) w1 rfl h)
                clear hK hu hc
                go_simp
                exact hk.out _ (Below.refl _ _)
              · refine calm_step_guard (g := 3) (b := true) (d := 101) rfl rfl (fun a w hc => hc 3 101 rfl rfl) fun a ω κ hb hu hc hK => ?_
                have h102 : a.tmps[102]?.getD undef = .slice (some ⟨gb, 0, none⟩) k k := hc 4 102 rfl rfl
                have hk := Lib.hid (fun w1 (h : Below ω.heap.size ω w1) => hK (strV (bLs (fun i => dwB K seed (plc p i)) k)) w1 rfl h)
                clear hK hu hc
                have q1 := conv_dw (hAbh.out.step hb)
                go_simp
                exact hk.out _ (Below.refl _ _)
              · refine calm_step_guard (g := 3) (b := true) (d := 101) rfl rfl (fun a w hc => hc 3 101 rfl rfl) fun a ω κ hb hu hc hK => ?_
                have h0 : a.tmps[0]?.getD undef = .slice A seed.length c := (hu 0 rfl).trans e0
                have hk := Lib.hid (fun w1 (h : Below ω.heap.size ω w1) => hK (.slice A seed.length c) w1 rfl h)
                clear hK hu hc
                go_simp
                exact hk.out _ (Below.refl _ _)
              · refine calm_step_guard (g := 3) (b := true) (d := 101) rfl rfl (fun a w hc => hc 3 101 rfl rfl) fun a ω κ hb hu hc hK => ?_
                have h104 : a.tmps[104]?.getD undef = .slice A seed.length c := hc 6 104 rfl rfl
                have hk := Lib.hid (fun w1 (h : Below ω.heap.size ω w1) => hK (strV seed) w1 rfl h)
                clear hK hu hc
                have q1 := ((hsh.out.step hS.out.bel).step hb).conv
                go_simp
                exact hk.out _ (Below.refl _ _)
              · refine calm_step_guard (g := 3) (b := true) (d := 101) rfl rfl (fun a w hc => hc 3 101 rfl rfl) fun a ω κ hb hu hc hK => ?_
                have h6 : a.tmps[6]?.getD undef = .int .u64 (p : Nat) := (hu 6 rfl).trans e6
                have hk := Lib.hid (fun w1 (h : Below ω.heap.size ω w1) => hK (.int .u64 (p : Nat)) w1 rfl h)
                clear hK hu hc
                go_simp
                exact hk.out _ (Below.refl _ _)
              · refine calm_step_guard (g := 3) (b := true) (d := 101) rfl rfl (fun a w hc => hc 3 101 rfl rfl) fun a ω κ hb hu hc hK => ?_
                have h8 : a.tmps[8]?.getD undef = .pointer (some ⟨g8, 0, none⟩) := (hu 8 rfl).trans e8
                have hk := Lib.hid (fun w1 (h : Below ω.heap.size ω w1) => hK (.pointer (some ⟨g8, 2, none⟩)) w1 rfl h)
                clear hK hu hc
                go_simp
                exact hk.out _ (Below.refl _ _)
              · refine calm_step_guard (g := 3) (b := true) (d := 101) rfl rfl (fun a w hc => hc 3 101 rfl rfl) fun a ω κ hb hu hc hK => ?_
                have h107 : a.tmps[107]?.getD undef = .pointer (some ⟨g8, 2, none⟩) := hc 9 107 rfl rfl
                have hk := Lib.hid (fun w1 (h : Below ω.heap.size ω w1) => hK (.int .i64 (k : Nat)) w1 rfl h)
                clear hK hu hc
                have q1 := (hG5.out.step hb).cell (dwA_2 _ _ _ _)
                go_simp
                exact hk.out _ (Below.refl _ _)
              · refine calm_step_guard (g := 3) (b := true) (d := 101) rfl rfl (fun a w hc => hc 3 101 rfl rfl) fun a ω κ hb hu hc hK => ?_
                have h105 : a.tmps[105]?.getD undef = strV seed := hc 7 105 rfl rfl
                have h106 : a.tmps[106]?.getD undef = .int .u64 (p : Nat) := hc 8 106 rfl rfl
                have h108 : a.tmps[108]?.getD undef = .int .i64 (k : Nat) := hc 10 108 rfl rfl
                have hk := Lib.hid (fun w1 (h : Below ω.heap.size ω w1) => hK (strV (bLs (fun i => dwB K seed (plc p i)) k)) w1 rfl h)
                clear hK hu hc
                go_simp
                go_at_call 18
                refine (ref_Drawn K seed p k ω ((hTh.out.step hS.out.bel).step hb) hk4 (by have := hsl2.out; omega)).mono ?_
                rintro e w1 ⟨rfl, hb1⟩
                exact hk.out _ hb1
              · refine calm_step_guard (g := 3) (b := true) (d := 101) rfl rfl (fun a w hc => hc 3 101 rfl rfl) fun a ω κ hb hu hc hK => ?_
                have h103 : a.tmps[103]?.getD undef = strV (bLs (fun i => dwB K seed (plc p i)) k) := hc 5 103 rfl rfl
                have h109 : a.tmps[109]?.getD undef = strV (bLs (fun i => dwB K seed (plc p i)) k) := hc 11 109 rfl rfl
                have hk := Lib.hid (fun w1 (h : Below ω.heap.size ω w1) => hK (.bool false) w1 rfl h)
                clear hK hu hc
                go_simp
                exact hk.out _ (Below.refl _ _)
              · refine calm_step rfl fun a ω κ hb hu hc hK => ?_
                have h101 : a.tmps[101]?.getD undef = .bool true := hc 3 101 rfl rfl
                have h110 : a.tmps[110]?.getD undef = .bool false := hc 12 110 rfl rfl
                have hk := Lib.hid (fun w1 (h : Below ω.heap.size ω w1) => hK (.bool false) w1 rfl h)
                clear hK hu hc
                go_simp
                exact hk.out _ (Below.refl _ _)
              · intro a1 w1 hb1 hu1 hsz1 hdf1 hc1
                have ha0 := hha0.out
                subst ha0
                have he := act_patch (n := 122) [false, false, false, false, false, false, false, false, false, false, false, false, false, false, false, false, false, false, false, false, false, false, false, false, false, false, false, false, false, false, false, false, false, false, false, false, false, false, false, false, false, false, false, false, false, false, false, false, false, false, false, false, false, false, false, false, false, false, false, false, false, false, false, false, false, false, false, false, false, false, false, false, false, false, false, false, false, false, false, false, false, false, false, false, false, false, false, false, false, false, false, false, false, false, false, false, false, false, true, true, true, true, true, true, true, true, true, true, true, true, true, true, false, false, false, false, false, false, false, false, false, false] rfl (by kernel_rfl) hu1 hsz1 hdf1
                simp only [patch, cond_true, cond_false, Nat.reduceAdd] at he
                have hkn111 : a1.tmps[111]?.getD undef = .bool false := hc1 13 111 rfl
                replace hS := Lib.hid (hS.out.step hb1)
                replace hG5 := Lib.hid (hG5.out.step hb1)
                clear c02 c22
                clear hb1 hu1 hsz1 hdf1 hc1 hz0 hha0 e0 e6 e8 e15
                rw [he]
                clear he
                rw [hkn111]
                clear hkn111
                generalize a1.tmps[98]?.getD undef = x98 at *
                generalize a1.tmps[99]?.getD undef = x99 at *
                generalize a1.tmps[100]?.getD undef = x100 at *
                generalize a1.tmps[101]?.getD undef = x101 at *
                generalize a1.tmps[102]?.getD undef = x102 at *
                generalize a1.tmps[103]?.getD undef = x103 at *
                generalize a1.tmps[104]?.getD undef = x104 at *
                generalize a1.tmps[105]?.getD undef = x105 at *
                generalize a1.tmps[106]?.getD undef = x106 at *
                generalize a1.tmps[107]?.getD undef = x107 at *
                generalize a1.tmps[108]?.getD undef = x108 at *
                generalize a1.tmps[109]?.getD undef = x109 at *
                generalize a1.tmps[110]?.getD undef = x110 at *
                go_upto_region 29 with (fail)
                have c23 := hG5.out.cell (dwA_2 _ _ _ _)
                go_upto_region 30 with (fail)
                have kP := Lib.hid (place_c K w0 seed (plc p k) w1 hS.out)
                go_upto_region 30 with (fail)
                go_wp2_with fail
                refine kP.out.mono ?_
                rintro e w9' ⟨rfl, rfl⟩
                clear kP
                go_wp2_with fail
                refine ⟨⟨i + 1, (plc p k), by go_num, rfl, hil, hS⟩, ?_⟩
                simp [intOf]; omega
            · -- skip
              have kB := Lib.hid (src_Skip K w0 seed p k W8 hS.out hk4)
              go_upto_region 22 with (fail)
              go_wp2_with fail
              refine kB.out.mono ?_
              rintro e w5 ⟨rfl, hS5, hK5⟩
              have hG5 := Lib.hid (hG.out.kb hK5 (by have := hg8.out; omega))
              replace hS := Lib.hid hS5
              have c02 := hG5.out.cell (dwA_0 _ _ _ _)
              have c22 := hG5.out.cell (dwA_2 _ _ _ _)
              clear hS5 hK5 kB c0 c1 c2 hG
              go_upto_region 27 with (fail)
              generalize ha0 : Act.mk _ _ = a0
              have e0 : a0.tmps[0]?.getD undef = .slice A seed.length c := by rw [← ha0]; rfl
              have e6 : a0.tmps[6]?.getD undef = .int .u64 (p : Nat) := by rw [← ha0]; rfl
              have e8 : a0.tmps[8]?.getD undef = .pointer (some ⟨g8, 0, none⟩) := by rw [← ha0]; rfl
              have e15 : a0.tmps[15]?.getD undef = .slice none 0 0 := by rw [← ha0]; rfl
              have hz0 : a0.tmps.size = 122 := by rw [← ha0]; rfl
              have hha0 := Lib.hid ha0
              clear ha0
              refine wp_region_calm (fun jx_ => match jx_ with | 0 => SRel.is (.pointer (some ⟨g8, 0, none⟩)) | 1 => SRel.is (.bool true) | 2 => SRel.is (.bool false) | 3 => SRel.is (.bool false) | 4 => SRel.any | 5 => SRel.any | 6 => SRel.any | 7 => SRel.any | 8 => SRel.any | 9 => SRel.any | 10 => SRel.any | 11 => SRel.any | 12 => SRel.any | 13 => SRel.is (.bool false) | _ => SRel.any) (by kernel_rfl) (by kernel_rfl) (by kernel_rfl) (slotsOk_of hz0 (by kernel_rfl)) ⟨?_, ?_, ?_, ?_, ?_, ?_, ?_, ?_, ?_, ?_, ?_, ?_, ?_, ?_, trivial⟩ ?_
              · refine calm_step rfl fun a ω κ hb hu hc hK => ?_
                have h8 : a.tmps[8]?.getD undef = .pointer (some ⟨g8, 0, none⟩) := (hu 8 rfl).trans e8
                have hk := Lib.hid (fun w1 (h : Below ω.heap.size ω w1) => hK (.pointer (some ⟨g8, 0, none⟩)) w1 rfl h)
                clear hK hu hc
                go_simp
                exact hk.out _ (Below.refl _ _)
              · refine calm_step rfl fun a ω κ hb hu hc hK => ?_
                have h98 : a.tmps[98]?.getD undef = .pointer (some ⟨g8, 0, none⟩) := hc 0 98 rfl rfl
                have hk := Lib.hid (fun w1 (h : Below ω.heap.size ω w1) => hK (.bool true) w1 rfl h)
                clear hK hu hc
                have q1 := (hG5.out.step hb).cell (dwA_0 _ _ _ _)
                go_simp
                exact hk.out _ (Below.refl _ _)
              · refine calm_step rfl fun a ω κ hb hu hc hK => ?_
                have h99 : a.tmps[99]?.getD undef = .bool true := hc 1 99 rfl rfl
                have hk := Lib.hid (fun w1 (h : Below ω.heap.size ω w1) => hK (.bool false) w1 rfl h)
                clear hK hu hc
                go_simp
                exact hk.out _ (Below.refl _ _)
              · refine calm_step rfl fun a ω κ hb hu hc hK => ?_
                have h100 : a.tmps[100]?.getD undef = .bool false := hc 2 100 rfl rfl
                have hk := Lib.hid (fun w1 (h : Below ω.heap.size ω w1) => hK (.bool false) w1 rfl h)
                clear hK hu hc
                go_simp
                exact hk.out _ (Below.refl _ _)
              · exact calm_step_skip (g := 3) (b := true) (d := 101) rfl rfl (fun a w hc => hc 3 101 rfl rfl) (fun _ => trivial)
              · exact calm_step_skip (g := 3) (b := true) (d := 101) rfl rfl (fun a w hc => hc 3 101 rfl rfl) (fun _ => trivial)
              · exact calm_step_skip (g := 3) (b := true) (d := 101) rfl rfl (fun a w hc => hc 3 101 rfl rfl) (fun _ => trivial)
              · exact calm_step_skip (g := 3) (b := true) (d := 101) rfl rfl (fun a w hc => hc 3 101 rfl rfl) (fun _ => trivial)
              · exact calm_step_skip (g := 3) (b := true) (d := 101) rfl rfl (fun a w hc => hc 3 101 rfl rfl) (fun _ => trivial)
              · exact calm_step_skip (g := 3) (b := true) (d := 101) rfl rfl (fun a w hc => hc 3 101 rfl rfl) (fun _ => trivial)
              · exact calm_step_skip (g := 3) (b := true) (d := 101) rfl rfl (fun a w hc => hc 3 101 rfl rfl) (fun _ => trivial)
              · exact calm_step_skip (g := 3) (b := true) (d := 101) rfl rfl (fun a w hc => hc 3 101 rfl rfl) (fun _ => trivial)
              · exact calm_step_skip (g := 3) (b := true) (d := 101) rfl rfl (fun a w hc => hc 3 101 rfl rfl) (fun _ => trivial)
              · refine calm_step rfl fun a ω κ hb hu hc hK => ?_
                have h101 : a.tmps[101]?.getD undef = .bool false := hc 3 101 rfl rfl
                have h110 : (SRel.any).p (a.tmps[110]?.getD undef) ω := hc 12 110 rfl rfl
                have hk := Lib.hid (fun w1 (h : Below ω.heap.size ω w1) => hK (.bool false) w1 rfl h)
                clear hK hu hc
                go_simp
                exact hk.out _ (Below.refl _ _)
              · intro a1 w1 hb1 hu1 hsz1 hdf1 hc1
                have ha0 := hha0.out
                subst ha0
                have he := act_patch (n := 122) [false, false, false, false, false, false, false, false, false, false, false, false, false, false, false, false, false, false, false, false, false, false, false, false, false, false, false, false, false, false, false, false, false, false, false, false, false, false, false, false, false, false, false, false, false, false, false, false, false, false, false, false, false, false, false, false, false, false, false, false, false, false, false, false, false, false, false, false, false, false, false, false, false, false, false, false, false, false, false, false, false, false, false, false, false, false, false, false, false, false, false, false, false, false, false, false, false, false, true, true, true, true, true, true, true, true, true, true, true, true, true, true, false, false, false, false, false, false, false, false, false, false] rfl (by kernel_rfl) hu1 hsz1 hdf1
                simp only [patch, cond_true, cond_false, Nat.reduceAdd] at he
                have hkn111 : a1.tmps[111]?.getD undef = .bool false := hc1 13 111 rfl
                replace hS := Lib.hid (hS.out.step hb1)
                replace hG5 := Lib.hid (hG5.out.step hb1)
                clear c02 c22
                clear hb1 hu1 hsz1 hdf1 hc1 hz0 hha0 e0 e6 e8 e15
                rw [he]
                clear he
                rw [hkn111]
                clear hkn111
                generalize a1.tmps[98]?.getD undef = x98 at *
                generalize a1.tmps[99]?.getD undef = x99 at *
                generalize a1.tmps[100]?.getD undef = x100 at *
                generalize a1.tmps[101]?.getD undef = x101 at *
                generalize a1.tmps[102]?.getD undef = x102 at *
                generalize a1.tmps[103]?.getD undef = x103 at *
                generalize a1.tmps[104]?.getD undef = x104 at *
                generalize a1.tmps[105]?.getD undef = x105 at *
                generalize a1.tmps[106]?.getD undef = x106 at *
                generalize a1.tmps[107]?.getD undef = x107 at *
                generalize a1.tmps[108]?.getD undef = x108 at *
                generalize a1.tmps[109]?.getD undef = x109 at *
                generalize a1.tmps[110]?.getD undef = x110 at *
                go_upto_region 29 with (fail)
                have c23 := hG5.out.cell (dwA_2 _ _ _ _)
                go_upto_region 30 with (fail)
                have kP := Lib.hid (place_c K w0 seed (plc p k) w1 hS.out)
                go_upto_region 30 with (fail)
                go_wp2_with fail
                refine kP.out.mono ?_
                rintro e w9' ⟨rfl, rfl⟩
                clear kP
                go_wp2_with fail
                refine ⟨⟨i + 1, (plc p k), by go_num, rfl, hil, hS⟩, ?_⟩
                simp [intOf]; omega
          · obtain ⟨z, hz⟩ : ∃ z, fitE N = z := ⟨_, rfl⟩
            have hzz : (z != 0) = true ∧ (z == 0) = false := by rw [← hz]; exact ⟨by simpa using hf, by simpa using hf⟩
            obtain ⟨hz1, hz2⟩ := hzz
            have kK := Lib.hid (src_SkipBad w0 N W8 hf)
            have kB := Lib.hid (src_BytesBad w0 N W8 hf)
            rw [hz] at kK kB
            have hzs : (N < 0 ∧ z = 1) ∨ (¬ N < 0 ∧ 4096 < N ∧ z = 2) := by
              unfold fitE at hz
              by_cases q1 : N < 0
              · rw [if_pos q1] at hz; exact .inl ⟨q1, hz.symm⟩
              · rw [if_neg q1] at hz
                by_cases q2 : 4096 < N
                · rw [if_pos q2] at hz; exact .inr ⟨q1, q2, hz.symm⟩
                · rw [if_neg q2] at hz; rw [← hz] at hz1; cases hz1
            clear hf hz hz1 hz2
            rcases hzs with ⟨q1, rfl⟩ | ⟨q1, q2, rfl⟩
            · have f1 : decide (N < 0) = true := by simpa using q1
              clear q1
              cases sk
              · go_upto_region 23 with (fail)
                go_wp2_with fail
                refine kB.out.mono ?_
                rintro e w5 ⟨rfl, rfl⟩
                clear kB kK
                have kP := Lib.hid (place_c K w0 seed p W8 hS.out)
                go_upto_region 30 with (fail)
                go_wp2_with fail
                refine kP.out.mono ?_
                rintro e w9' ⟨rfl, rfl⟩
                clear kP
                go_wp2_with fail
                refine ⟨⟨i + 1, p, by go_num, rfl, hil, hS⟩, ?_⟩
                simp [intOf]; omega
              · go_upto_region 22 with (fail)
                go_wp2_with fail
                refine kK.out.mono ?_
                rintro e w5 ⟨rfl, rfl⟩
                clear kB kK
                have kP := Lib.hid (place_c K w0 seed p W8 hS.out)
                go_upto_region 30 with (fail)
                go_wp2_with fail
                refine kP.out.mono ?_
                rintro e w9' ⟨rfl, rfl⟩
                clear kP
                go_wp2_with fail
                refine ⟨⟨i + 1, p, by go_num, rfl, hil, hS⟩, ?_⟩
                simp [intOf]; omega
            · have f1 : decide (N < 0) = false := by simpa using q1
              have f2 : decide (N > 4096) = true := by simpa using q2
              clear q1 q2
              cases sk
              · go_upto_region 23 with (fail)
                go_wp2_with fail
                refine kB.out.mono ?_
                rintro e w5 ⟨rfl, rfl⟩
                clear kB kK
                have kP := Lib.hid (place_c K w0 seed p W8 hS.out)
                go_upto_region 30 with (fail)
                go_wp2_with fail
                refine kP.out.mono ?_
                rintro e w9' ⟨rfl, rfl⟩
                clear kP
                go_wp2_with fail
                refine ⟨⟨i + 1, p, by go_num, rfl, hil, hS⟩, ?_⟩
                simp [intOf]; omega
              · go_upto_region 22 with (fail)
                go_wp2_with fail
                refine kK.out.mono ?_
                rintro e w5 ⟨rfl, rfl⟩
                clear kB kK
                have kP := Lib.hid (place_c K w0 seed p W8 hS.out)
                go_upto_region 30 with (fail)
                go_wp2_with fail
                refine kP.out.mono ?_
                rintro e w9' ⟨rfl, rfl⟩
                clear kP
                go_wp2_with fail
                refine ⟨⟨i + 1, p, by go_num, rfl, hil, hS⟩, ?_⟩
                simp [intOf]; omega
        · obtain ⟨x, n', z, hn3, hx2, kB0, kD0⟩ := below_bothD K w0 seed p M hTh.out (by have := hsl2.out; omega) hpl.out hxh.out.1
          have kB := Lib.hid (kB0 W8 hS.out)
          have kD := Lib.hid kD0
          unfold numV at kB kD
          have hcx := arrK_cells .u64 4 (wd x)
          have hc0 := arrK_cells .u64 4 (wd 0)
          have hl := pl_ld (o := 3) (n := 4) hG.out.row hG.out.eq (dwA_3 _ _ _ _) (arrK_size _ _ _) pl_some
          have hl1 := hl.1
          have hl2 := hl.2
          have w1 : IntKind.u64.wrap (n' : Int) = (n' : Int) := by rw [IntKind.wrap_u64]; omega
          have w2 : IntKind.u64.wrap ((p : Int) + (n' : Int)) = ((plc p n' : Nat) : Int) := by rw [IntKind.wrap_u64]; unfold plc; omega
          clear hl kB0 kD0 hn3 hx2
          go_upto_region 9 with (fail)
          go_wp2_with fail
          refine kB.out.mono ?_
          rintro e w5 ⟨rfl, hS5, hK5⟩
          have hbA := below_alloc w5 (Obj.cells (arrK .u64 4 (wd x)) 41)
          have hG5 := (hG.out.kb hK5 (by have := hg8.out; omega)).step hbA
          have hX9 := Lib.hid (At.new (w := w5) (k := .u64) (m := 4) (f := wd x) 41 rfl)
          replace hS := Lib.hid (hS5.step hbA)
          have hl := pl_ld (o := 3) (n := 4) hG5.row hG5.eq (dwA_3 _ _ _ _) (arrK_size _ _ _) pl_some
          have hl3 := hl.1
          have hl4 := hl.2
          have hcv := (hsh.out.step hS.out.bel).conv
          have hTW := Lib.hid (hTh.out.step hS.out.bel)
          clear hbA hS5 hK5 kB c0 c1 c2 hG hl1 hl2 hl hG5
          dsimp only
          go_upto_region 10 with (fail)
          generalize w5.alloc _ = W9 at *
          generalize w5.heap.size = g9 at *
          go_wp2_with fail
          refine (kD.out W9 hTW.out).mono ?_
          rintro e w6 ⟨rfl, hb6⟩
          have hbA := below_step (below_alloc w6 (Obj.cells (arrK .u64 4 (wd x)) 41)) hb6 (Nat.le_refl _)
          replace hS := Lib.hid (hS.out.step hbA)
          replace hX9 := Lib.hid (hX9.out.step hbA)
          have hX11 := Lib.hid (At.new (w := w6) (k := .u64) (m := 4) (f := wd x) 41 rfl)
          clear hbA hb6 kD hTW hcv hl3 hl4
          dsimp only
          go_upto_region 11 with (fail)
          generalize w6.alloc _ = W11 at *
          generalize w6.heap.size = g11 at *
          have r9 := hX9.out.row
          have q9 := hX9.out.eq
          have r11 := hX11.out.row
          have q11 := hX11.out.eq
          have hl9 := pl_ld (o := 0) (n := 4) r9 q9 (by rw [Nat.zero_add]; exact extract_allD (arrK_size _ _ _)) (arrK_size _ _ _) pl_some
          have hl11 := pl_ld (o := 0) (n := 4) r11 q11 (by rw [Nat.zero_add]; exact extract_allD (arrK_size _ _ _)) (arrK_size _ _ _) pl_some
          obtain ⟨m1, m2⟩ := hl9
          obtain ⟨m3, m4⟩ := hl11
          have kE := Lib.hid (fun V => neqN4d (wd x) V)
          have kP := Lib.hid (place_c K w0 seed (plc p n') W11 hS.out)
          go_wp2_with (refine wpList_opT (by go_simp) (fun K9 hK => wp_eqlA (.inl rfl) (by kernel_rfl) (v := arrK .u64 4 (wd x)) (u := arrK .u64 4 (wd x)) (by go_simp) (by go_simp) (kE.out _) (hK _ _ ?_)))
          refine kP.out.mono ?_
          rintro e w9' ⟨rfl, rfl⟩
          clear kP kE m1 m2 m3 m4 r9 q9 r11 q11
          go_wp2_with fail
          refine ⟨⟨i + 1, plc p n', by go_num, rfl, hil, hS⟩, ?_⟩
          simp [intOf]; omega
end Go.Proofs.YtdlmamnnamlleaaDoor
namespace Go.Proofs.YtdlmamnnamlleaaDoor
open Go Go.RowKit Go.ChangeShapes Go.WideShapes Go.ChangeAt Go.Deep
set_option maxHeartbeats 2000000
set_option maxRecDepth 100000
/-! ### Numbers, appended -/
/-- A number's cells. -/
def numC (y : Nat) : List Value := (arrK .u64 4 (wd y)).toList
theorem numC_len (y : Nat) : (numC y).length = 4 := by unfold numC; rw [Array.length_toList, arrK_size]
theorem numC_one (y : Nat) : ∀ u ∈ numC y, u.oneCell' = true := fun u hu => by
  have h := (arrK_cells .u64 4 (wd y)).2
  rw [Array.all_eq_true_iff_forall_mem] at h
  exact h u (by unfold numC at hu; simpa using hu)
theorem SNum : SlT Tryd.prog 110 41 4 32 := SlT.mk' Tryd.underlying110 (by kernel_rfl) (by omega)
theorem numsC_len : ∀ l : List Nat, (l.flatMap numC).length = l.length * 4
  | [] => rfl
  | y :: r => by rw [List.flatMap_cons, List.length_append, numC_len, numsC_len r, List.length_cons]; omega
theorem numsC_at : ∀ (l : List Nat) (i k : Nat), i < l.length → k < 4 → (l.flatMap numC)[4 * i + k]? = (numC (l[i]?.getD 0))[k]?
  | [], i, k, h, _ => by simp at h
  | y :: r, 0, k, _, hk => by rw [List.flatMap_cons, List.getElem?_append_left (by rw [numC_len]; omega)]; simp
  | y :: r, i + 1, k, h, hk => by
    rw [List.flatMap_cons, List.getElem?_append_right (by rw [numC_len]; omega), numC_len, show 4 * (i + 1) + k - 4 = 4 * i + k by omega, numsC_at r i k (by simpa using h) hk]
    simp
theorem own_baseS {w : World} {B B' size : Nat} {e : TypeId} {v : Value} {n : Nat} {xs : List Value} (h : w.ownsRow B e size v n xs) (hB : B' ≤ B) : w.ownsRow B' e size v n xs := by
  refine ⟨h.1, ?_⟩
  rcases h.2 with h1 | ⟨g, cap, cur, h1, h2, h3⟩
  · exact .inl h1
  · exact .inr ⟨g, cap, cur, h1, Nat.le_trans hB h2, h3⟩
/-- Numbers of the call's own, off block g. -/
structure NumsO (B g : Nat) (W : World) (v : Value) (l : List Nat) : Prop where
  own : W.ownsRow B 41 4 v l.length (l.flatMap numC)
  off : ∀ b, v.ownBlock = some b → g < b ∨ (b ≠ g ∧ ∃ a, v = .slice a l.length l.length)
section
variable {B g : Nat} {W W' : World} {v : Value} {l : List Nat}
theorem NumsO.kept (h : NumsO B g W v l) (hb : ∀ j, j < W.heap.size → j ≠ g → W'.heap[j]? = W.heap[j]?) : NumsO B g W' v l := by
  refine ⟨⟨h.own.1, ?_⟩, h.off⟩
  rcases h.own.2 with h1 | ⟨b, cap, cur, h1, h2, h3, h4⟩
  · exact .inl h1
  · refine .inr ⟨b, cap, cur, h1, h2, (hb b (h.own.lt b (by rw [h1]; rfl)).2 ?_).trans h3, h4⟩
    rcases h.off b (by rw [h1]; rfl) with h5 | ⟨h5, -⟩
    · omega
    · exact h5
theorem NumsO.step (h : NumsO B g W v l) (hb : Below W.heap.size W W') : NumsO B g W' v l := h.kept fun j hj _ => hb.block j hj
theorem NumsO.kb (h : NumsO B g W v l) (hb : KbG g W W') : NumsO B g W' v l := h.kept fun j hj hg => hb.block j hj hg
theorem NumsO.form (h : NumsO B g W v l) : ∃ A c, v = .slice A l.length c ∧ l.length ≤ c ∧ c ≤ maxLen := by
  rcases h.own.2 with ⟨h1, h2⟩ | ⟨g, cap, cur, h1, _, _, h2, h3, _⟩
  · exact ⟨_, 0, by rw [h1, h2], by omega, by unfold maxLen; omega⟩
  · exact ⟨_, _, h1, h2, h3⟩
theorem NumsO.start {g B : Nat} (w : World) (y : Nat) (hB : B ≤ w.heap.size) (hg : w.heap.size ≠ g) : NumsO B g (w.alloc (.cells (arrK .u64 4 (wd y)) 41)) (.slice (some ⟨w.heap.size, 0, none⟩) 1 1) [y] := by
  refine ⟨⟨numsC_len [y], .inr ⟨w.heap.size, 1, arrK .u64 4 (wd y), rfl, hB, heap_alloc_new _ _, by simp, by unfold maxLen; omega, by rw [arrK_size], ?_⟩⟩, fun b hb => .inr ⟨?_, some ⟨w.heap.size, 0, none⟩, rfl⟩⟩
  · rw [List.take_of_length_le (by rw [Array.length_toList, arrK_size]; simp)]
    simp [numC]
  · have hb2 : w.heap.size = b := by simpa [Value.ownBlock] using hb
    omega
/-- Number i, as it lies. -/
theorem NumsO.at {A : Option Addr} {n c : Nat} (h : NumsO B g W (.slice A n c) l) {i : Nat} (hi : i < l.length) : ∃ ad, A = some ad ∧ LdOk W 4 (.pointer (some (ad.add (i * 4)))) ∧ ldC W 4 (.pointer (some (ad.add (i * 4)))) = arrK .u64 4 (wd (l[i]?.getD 0)) := by
  obtain ⟨A', c', e1, -, -⟩ := h.form
  injection e1 with e1 e2 e3
  subst e1 e2 e3
  have hr := Rd.of_own h.own
  obtain ⟨ad, rfl, -, -⟩ := hr (4 * i + 0) _ (by rw [numsC_at l i 0 hi (by omega)]; exact List.getElem?_eq_getElem (by rw [numC_len]; omega))
  refine ⟨ad, rfl, pl_ldC (arrK_size _ _ _) pl_some fun j hj => ?_⟩
  have h3 : (l.flatMap numC)[4 * i + j]? = (arrK .u64 4 (wd (l[i]?.getD 0)))[j]? := by rw [numsC_at l i j hi hj]; unfold numC; rw [Array.getElem?_toList]
  have h4 : (arrK .u64 4 (wd (l[i]?.getD 0)))[j]? = some (.int .u64 (wd (l[i]?.getD 0) j : Nat)) := arrK_at hj
  rw [h4] at h3 ⊢
  have h5 := hr.all h3
  rw [← h5]
  rw [addr_add, Nat.mul_comm i 4]
end
theorem wp_numsO {B g : Nat} {W : World} {v : Value} {l : List Nat} {o : Oper} {a : Act} {K : Act → World → Prop} {Q : Exit → Act → World → Prop} (s x : Operand)
    (ho : o.op = .call { callee := .builtin .append, args := #[s, x], argTypes := #[110, 110] }) {y : Nat} (hs : a.eval s = v) (hO : NumsO B g W v l) (hB : B ≤ W.heap.size) (hg : g < W.heap.size)
    {ad : Addr} {B' : Nat} (hx : a.eval x = .slice (some ad) 1 1) (hr : Rd W B' (some ad) (numC y)) (hl : l.length ≤ 1000000)
    (h : ∀ v' w', NumsO B g w' v' (l ++ [y]) → Below (g + 1) W w' → K (a.put o.dst v') w') : Oper.wp Tryd.prog o a W K Q := by
  have hfl : (l ++ [y]).flatMap numC = l.flatMap numC ++ numC y := by simp
  by_cases hb : ∃ b, v.ownBlock = some b ∧ ¬ g < b
  · obtain ⟨b, hvb, hgb⟩ := hb
    rcases hO.off b hvb with h1 | ⟨hne, A, rfl⟩
    · exact absurd h1 hgb
    · rcases hO.own.2 with ⟨h1, -⟩ | ⟨b', cap, cur, h1, h2, h3, h4, -⟩
      · rw [h1] at hvb; cases hvb
      · injection h1 with e1 e2 e3
        subst e1 e3
        obtain ⟨i, z, hi, hz, hsz, hby, hzs⟩ := SNum.info
        obtain ⟨v', w', hrun, r1, r2⟩ := run_append_arg_grows (P := Tryd.prog) W 110 o.type 41 i z 4 32 SNum.under hi hz hsz hby hzs (by omega) ⟨b', 0, none⟩ l.length l.length (l.flatMap numC) (numsC_len l) (fun j u hj => (Rd.of_own hO.own).all hj) ad 1 1 (numC y) (by rw [numC_len]) (fun j u hj => hr.all hj) (by omega) (by unfold maxLen; omega) (by omega)
        have hbw := (Below.refl (g + 1) W).grown r2 (by omega) (fun k hk => by cases hk)
        unfold Oper.wp
        simp [execOp, ho, resolve, invoke, builtin, hs, hx, hrun, Result.andThen]
        refine h v' w' ⟨?_, fun b2 hb2 => .inl (by have := (r1.lt b2 hb2).1; omega)⟩ hbw
        rw [hfl, List.length_append]
        exact own_baseS r1 hB
  · refine wp_app s x 110 ho SNum hs hO.own hx (by rw [numC_len]) hr (numC_one y) (by unfold maxLen; omega) (by omega) hB fun v' w' h2 h3 h4 => h v' w' ⟨?_, fun b2 hb2 => .inl ?_⟩ ?_
    · rw [hfl, List.length_append]; exact h2
    · rcases h4 with h4 | h4
      · exact Nat.lt_of_not_le fun hle => hb ⟨b2, h4.symm.trans hb2, by omega⟩
      · rw [h4] at hb2
        injection hb2 with hb2
        omega
    · exact (Below.refl (g + 1) W).grown h3 (by omega) fun k hk => Nat.lt_of_not_le fun hle => hb ⟨k, hk, by omega⟩
/-- A source stays where blocks behind its own are written. -/
theorem Src.to {K : Nat → W32} {w0 W W' : World} {seed : List UInt8} {p : Nat} (h : Src K w0 seed p W) (hb : Below (w0.heap.size + 1) W W') : Src K w0 seed p W' := by
  obtain ⟨m, d, h⟩ := h
  exact ⟨m, d, row_below h.row hb (by omega), (rowAt_below hb (by omega)).trans h.eq, h.pl, h.inv, h.bel.trans (hb.mono (by omega))⟩
/-! ### Digits in fresh memory -/
theorem ref_DigitsF (A : Option Addr) (m c : Nat) (f : Nat → Nat) (w : World) (h : Rd w w.heap.size A (arrK .u64 m f).toList) (hm : m ≤ 1000000) (hmc : m ≤ c) (hc : c ≤ 9223372036854775807) (hf : ∀ i < m, f i < 18446744073709551616) :
    Calls Tryd.prog 65 #[.slice A m c] w (RetNF (wval f m) w) := by
  go_enter Tryd.func65, Tryd.ntmps65
  go_wp2
  go_loopw [3, 8] (fun v i wr => ∃ (k : Nat) (L : List Nat), k ≤ m ∧ i = .int .i64 k ∧ Own w w.heap.size 3 v (digV L) wr ∧ L.length ≤ 4 * k ∧ 4 * k ≤ L.length ∧ Hid (Sm L ∧ val L = wval f k)) (fun _ i _ => m - (intOf i).toNat)
  case atStart => exact ⟨0, [], by omega, rfl, Own.start _ _, by simp, by simp, Sm.nil, rfl⟩
  case round =>
    obtain ⟨k, L, hk, rfl, hO, hl1, hl2, hH⟩ := hrel
    by_cases hlt : k < m
    · obtain ⟨ad, rfl, hb, hcl⟩ := arrK_rd (h.kp (kp_of_below hO.bel)) hlt
      have hfk := hf k hlt
      go_wp2
      obtain ⟨wo, rfl⟩ : ∃ wo : World, wo = wr := ⟨_, rfl⟩
      go_loopw [3, 5, 12] (fun v x i wr => ∃ (j : Nat) (L : List Nat) (x' : Nat), j ≤ 4 ∧ i = .int .i64 j ∧ x = .int .u64 x' ∧ x' < 18446744073709551616 ∧ Own w w.heap.size 3 v (digV L) wr ∧ L.length ≤ 4 * k + j ∧ 4 * k + j ≤ L.length ∧ Hid (x' = f k / 65536 ^ j ∧ Sm L ∧ val L = wval f k + 2 ^ (64 * k) * (f k % 65536 ^ j))) (fun _ _ i _ => 4 - (intOf i).toNat)
      case atStart => exact ⟨0, L, f k, by omega, rfl, rfl, hfk, hO, by omega, by omega, by simp, hH.out.1, by rw [hH.out.2]; simp [Nat.mod_one]⟩
      case round =>
        obtain ⟨j, L, x, hj, rfl, rfl, hx, hO, hl1, hl2, hH⟩ := hrel
        by_cases hj4 : j = 4
        · subst hj4
          go_wp2
          go_roundw
          case rel => exact ⟨k + 1, L, by omega, by go_num, hO, by omega, by omega, hH.out.2.1, dig_end hfk hH.out.2.2⟩
          case measure => simp [intOf]; omega
        · go_wp2_with (at_builtin; refine wpList_own1 (o := ⟨some 19, _, _, _, _, _⟩) rfl (.tmp 14) (.tmp 18) 89 rfl SI rfl hO (.int .i64 ((x : Int) % 65536)) rfl rfl (by rw [digV_len]; unfold maxLen; omega) (by rw [digV_len]; omega) ?_; intro v1 w1 hO1 hg1 hat1; clear hg1 hat1)
          go_roundw
          case rel => exact ⟨j + 1, L ++ [x % 65536], x / 65536, by omega, by go_num, by go_num, by omega, by rw [digV_snoc]; exact hO1, by simp; omega, by simp; omega, by rw [hH.out.1, Nat.div_div_eq_div_mul, Nat.pow_succ], hH.out.2.1.append (Sm.one (Nat.mod_lt _ (by omega))), dig_step (by omega) hH.out.2.2 hH.out.1⟩
          case measure => simp [intOf]; omega
    · obtain rfl : k = m := by omega
      obtain ⟨A', c', rfl, -, -⟩ := hO.form
      obtain ⟨hn, hD⟩ := ds_own hO hH.out.1
      have hO9 := Lib.hid hO
      have hb := hO.bel
      rw [hn]
      go_wp2_with (go_at_call 67; refine (ref_trim A' L c' _ hD).mono ?_; rintro e w' ⟨q, hq, rfl, hg, rfl⟩)
      go_ret
      exact ⟨_, rfl, hH.out.2 ▸ isNF_trim hO9.out hH.out.1 hq hg, hb⟩


theorem ref_OfNumF (n : Nat) (w : World) (hn : n < 2 ^ 256) :
    Calls Tryd.prog 39 #[numV n] w (RetNF n w) := by
  have hb := arrK_cells .u64 4 (wd n)
  have hc : ∀ i < 4, (w.alloc (Obj.cells (arrK .u64 4 (wd n)) 41)).cell? ⟨w.heap.size, i, none⟩ = some (.int .u64 (wd n i)) := fun i hi => by
    have hR : Row (w.alloc (Obj.cells (arrK .u64 4 (wd n)) 41)) w.heap.size 4 := (row_new rfl).2 hb.1
    rw [hR.cell, rowAt_new rfl, arrK_at hi]
  have h0 := hc 0 (by omega)
  have h1 := hc 1 (by omega)
  have h2 := hc 2 (by omega)
  have h3 := hc 3 (by omega)
  have hr : Rd ((w.alloc (Obj.cells (arrK .u64 4 (wd n)) 41)).alloc (Obj.cells #[Value.int IntKind.u64 (wd n 0 : Nat), Value.int IntKind.u64 (wd n 1 : Nat), Value.int IntKind.u64 (wd n 2 : Nat), Value.int IntKind.u64 (wd n 3 : Nat)] 39)) ((w.alloc (Obj.cells (arrK .u64 4 (wd n)) 41)).alloc (Obj.cells #[Value.int IntKind.u64 (wd n 0 : Nat), Value.int IntKind.u64 (wd n 1 : Nat), Value.int IntKind.u64 (wd n 2 : Nat), Value.int IntKind.u64 (wd n 3 : Nat)] 39)).heap.size (some ⟨w.heap.size + 1, 0, none⟩) (arrK .u64 4 (wd n)).toList := by
    rw [← arrK4]; exact Rd.of_blk (blk_new _ _ (by simp)) (by simp)
  have hB : Below w.heap.size w ((w.alloc (Obj.cells (arrK .u64 4 (wd n)) 41)).alloc (Obj.cells #[Value.int IntKind.u64 (wd n 0 : Nat), Value.int IntKind.u64 (wd n 1 : Nat), Value.int IntKind.u64 (wd n 2 : Nat), Value.int IntKind.u64 (wd n 3 : Nat)] 39)) := by go_grown
  have hv : wval (wd n) 4 = n := by rw [wval_wd]; exact Nat.mod_eq_of_lt hn
  have hHv := Lib.hid hv
  clear hc hv
  unfold numV
  go_enter Tryd.func39, Tryd.ntmps39
  go_wp2_with fail
  refine (ref_DigitsF _ 4 4 (wd n) _ hr (by omega) (by omega) (by omega) (fun i _ => wd_lt n i)).mono ?_
  rintro e w' ⟨v, rfl, hN, hb'⟩
  rw [hHv.out] at hN
  have hB' := hB.trans (hb'.mono (by simp; omega))
  clear hb' hB hr
  go_wp2
  go_ret
  exact ⟨v, rfl, hN.mono (by simp; omega), hB'⟩

/-! ### What Split answers -/
/-- Where the next number is drawn. -/
def plN (N : Nat → Nat) : Nat → Nat
  | 0 => 0
  | j + 1 => plc (plN N j) (N (plN N j))
theorem plN_lt (N : Nat → Nat) : ∀ j, plN N j < 18446744073709551616
  | 0 => by show 0 < _; omega
  | _ + 1 => plc_lt _ _
/-- The polynomial's numbers. -/
def coF (X N : Nat → Nat) (s : Nat) : Nat → Nat
  | 0 => s
  | j + 1 => X (plN N j)
def smP (c : Nat → Nat) (x : Nat) : Nat → Nat
  | 0 => 0
  | j + 1 => smP c x j + c j * x ^ j
theorem smP_front (c : Nat → Nat) (x : Nat) : ∀ k, smP c x (k + 1) = smP (fun i => c (i + 1)) x k * x + c 0
  | 0 => by simp [smP]
  | k + 1 => by
    have e : c (k + 1) * x ^ k * x = c (k + 1) * x ^ (k + 1) := by rw [Nat.pow_succ, Nat.mul_assoc]
    rw [smP, smP_front c x k, smP, Nat.add_mul, e]
    omega
theorem smP_congr {c d : Nat → Nat} {x : Nat} : ∀ {k : Nat}, (∀ i < k, c i = d i) → smP c x k = smP d x k
  | 0, _ => rfl
  | k + 1, h => by rw [smP, smP, smP_congr (k := k) (fun i hi => h i (by omega)), h k (by omega)]
/-- Horner's way, from the highest number down. -/
def hrn (c : Nat → Nat) (k x : Nat) : Nat → Nat
  | 0 => c (k - 1)
  | t + 1 => (hrn c k x t * x % fL + c (k - 2 - t)) % fL
theorem hrn_mod (c : Nat → Nat) (k x : Nat) : ∀ t, t < k → hrn c k x t % fL = smP (fun i => c (k - 1 - t + i)) x (t + 1) % fL
  | 0, _ => by simp [hrn, smP]
  | t + 1, ht => by
    have h := hrn_mod c k x t (by omega)
    rw [smP_front, hrn, Nat.mod_mod, Nat.add_mod, Nat.mod_mod, Nat.mul_mod, h, ← Nat.mul_mod, ← Nat.add_mod, show k - 1 - (t + 1) + 0 = k - 2 - t by omega]
    congr 3
    exact smP_congr fun i hi => by rw [show k - 1 - (t + 1) + (i + 1) = k - 1 - t + i by omega]
/-- The share at x. -/
def shY (X N : Nat → Nat) (s k x : Nat) : Nat := smP (coF X N s) x k % fL
theorem hrn_end {c : Nat → Nat} {k x : Nat} (hk : 1 ≤ k) (h0 : c 0 < fL) : hrn c k x (k - 1) = smP c x k % fL := by
  have h := hrn_mod c k x (k - 1) (by omega)
  rw [show k - 1 + 1 = k by omega] at h
  rw [show smP c x k = smP (fun i => c (k - 1 - (k - 1) + i)) x k from smP_congr fun i _ => by rw [Nat.sub_self, Nat.zero_add], ← h]
  obtain rfl | ⟨t, rfl⟩ : k = 1 ∨ ∃ t, k = t + 2 := by
    rcases Nat.lt_or_ge k 2 with h | h
    · exact .inl (by omega)
    · exact .inr ⟨k - 2, by omega⟩
  · exact (Nat.mod_eq_of_lt h0).symm
  · rw [show t + 2 - 1 = t + 1 by omega, hrn, Nat.mod_mod]
def BadSp (k n : Int) (s : Nat) : Prop := k < 1 ∨ n < k ∨ 20 < n ∨ fL ≤ s
/-- m shares and the errno z. -/
def SpIs (N : Nat → Nat) (Z : Nat → Int) (s : Nat) (k n : Int) (m : Nat) (z : Int) : Prop :=
  (BadSp k n s ∧ m = 0 ∧ z = 1) ∨ (¬ BadSp k n s ∧ ∃ i : Nat, (i : Int) < k - 1 ∧ Z (plN N i) ≠ 0 ∧ (∀ j < i, Z (plN N j) = 0) ∧ m = 0 ∧ z = Z (plN N i)) ∨ (¬ BadSp k n s ∧ (∀ i : Nat, (i : Int) < k - 1 → Z (plN N i) = 0) ∧ (m : Int) = n ∧ z = 0)
theorem SpIs.only {N : Nat → Nat} {Z : Nat → Int} {s : Nat} {k n : Int} {m m' : Nat} {z z' : Int} (h : SpIs N Z s k n m z) (h' : SpIs N Z s k n m' z') : m = m' ∧ z = z' := by
  rcases h with ⟨b, rfl, rfl⟩ | ⟨b, i, hi, hz, hj, rfl, rfl⟩ | ⟨b, ha, hm, rfl⟩ <;> rcases h' with ⟨b', rfl, rfl⟩ | ⟨b', i', hi', hz', hj', rfl, rfl⟩ | ⟨b', ha', hm', rfl⟩
  · exact ⟨rfl, rfl⟩
  · exact absurd b b'
  · exact absurd b b'
  · exact absurd b' b
  · have : i = i' := by
      rcases Nat.lt_trichotomy i i' with h | h | h
      · exact absurd (hj' i h) hz
      · exact h
      · exact absurd (hj i' h) hz'
    subst this
    exact ⟨rfl, rfl⟩
  · exact absurd (ha' i hi) hz
  · exact absurd b' b
  · exact absurd (ha i' hi') hz'
  · exact ⟨by omega, rfl⟩
def SpR (X N : Nat → Nat) (Z : Nat → Int) (s : Nat) (k n : Int) (w : World) (e : Ending) (w' : World) : Prop :=
  ∃ (A : Option Addr) (c m : Nat) (z : Int), e = .returned (.tuple #[.slice A m c, .int .i64 z]) ∧ m ≤ c ∧ c ≤ maxLen ∧ Shs w' A m (fun i => ((i + 1 : Nat) : Int)) (fun i => shY X N s k.toNat (i + 1)) ∧ SpIs N Z s k n m z ∧ Below w.heap.size w w'
/-- What is drawn, place by place, in both ways. -/
structure Orc (K : Nat → W32) (seed : List UInt8) (X N : Nat → Nat) (Z : Nat → Int) : Prop where
  sm : ∀ p, N p ≤ 3200 ∧ X p < 2 ^ 256
  code : ∀ p w0 V, Tabs K w0 → Src K w0 seed p V → Calls Tryd.prog 13 #[.pointer (some ⟨w0.heap.size, 0, none⟩), numV fL] V fun e w' => e = .returned (.tuple #[numV (X p), .int .i64 (Z p)]) ∧ Src K w0 seed (plc p (N p)) w' ∧ KbG w0.heap.size V w'
  doc : ∀ (p : Nat) V, p < 18446744073709551616 → Tabs K V → Calls Tryd.prog 14 #[strV seed, .int .u64 (p : Nat), numV fL] V fun e w' => e = .returned (.tuple #[numV (X p), .int .i64 (N p : Nat), .int .i64 (Z p)]) ∧ Below V.heap.size V w'
theorem fL_256 : fL < 2 ^ 256 := by decide +kernel
theorem orc_ex (K : Nat → W32) (seed : List UInt8) (hsl : seed.length ≤ 576460752303423488) : ∃ X N Z, Orc K seed X N Z := by
  obtain ⟨L, hL⟩ := isLen_ex (fL - 1)
  have h0 : fL ≠ 0 := by decide +kernel
  have h := fun p => belIs_ex K seed fL L p
  have h1 := fun p => Classical.choose_spec (h p)
  have h2 := fun p => Classical.choose_spec (h1 p)
  have h3 := fun p => Classical.choose_spec (h2 p)
  refine ⟨fun p => Classical.choose (h p), fun p => Classical.choose (h1 p), fun p => Classical.choose (h2 p), ⟨fun p => ⟨(h3 p).2, Nat.lt_trans ((h3 p).1.lt (by omega)) fL_256⟩, fun p w0 V hT hS => (src_Below K w0 seed p fL L V hS hT h0 fL_256 hL).mono fun e w' ⟨x', n', z', g1, g2, g3, g4⟩ => ?_, fun p V hp hT => (ref_DrawnBelow K seed p fL L V hT hsl hp h0 fL_256 hL).mono fun e w' ⟨x', n', z', g1, g2, g3⟩ => ?_⟩⟩
  · obtain ⟨rfl, rfl, rfl⟩ := g2.only (h3 p).1
    exact ⟨g1, g3, g4⟩
  · obtain ⟨rfl, rfl, rfl⟩ := g2.only (h3 p).1
    exact ⟨g1, g3⟩
end Go.Proofs.YtdlmamnnamlleaaDoor
