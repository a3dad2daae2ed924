/- A block that is a row of integers, under one word; numbers of four and of eight words. -/
import Derived.Test.YtdlmamnnamlleaaDoorNum2
namespace Go.Proofs.YtdlmamnnamlleaaDoor
open Go Go.RowKit

/-- Block g is a row of m integers f. -/
structure At (w : World) (g : Nat) (k : IntKind) (m : Nat) (f : Nat → Nat) : Prop where
  row : Row w g m
  eq : rowAt w g = arrK k m f
section
variable {w w' : World} {g m : Nat} {k : IntKind} {f f' : Nat → Nat}
theorem At.below {B : Nat} (h : At w g k m f) (hb : Below B w w') (hg : g < B) : At w' g k m f := ⟨row_below h.row hb hg, (rowAt_below hb hg).trans h.eq⟩
theorem At.step (h : At w g k m f) (hb : Below w.heap.size w w') : At w' g k m f := h.below hb h.row.lt
theorem At.cell (h : At w g k m f) {i : Nat} (hi : i < m) : w.cell? ⟨g, i, none⟩ = some (.int k (f i : Nat)) := by rw [h.row.cell, h.eq, arrK_at hi]
theorem At.new (t : TypeId) (hg : g = w.heap.size) : At (w.alloc (.cells (arrK k m f) t)) g k m f := ⟨(row_new hg).2 (arrK_size _ _ _), rowAt_new hg⟩
theorem At.old (h : At w g k m f) (o : Obj) : At (w.alloc o) g k m f := ⟨(row_old h.row.lt).2 h.row, (rowAt_old h.row.lt).trans h.eq⟩
theorem At.drew (h : At w g k m f) : At w.drew g k m f := ⟨h.row, h.eq⟩
theorem At.put (h : Row w g m) : At (w.setRow g (arrK k m f)) g k m f := ⟨(row_setRow_same rfl h).2 (arrK_size _ _ _), rowAt_setRow_same h⟩
theorem At.far (h : At w g k m f) {g' : Nat} {c : Array Value} (hg : g ≠ g') : At (w.setRow g' c) g k m f := ⟨(row_setRow_far hg).2 h.row, (rowAt_setRow_far hg).trans h.eq⟩
theorem At.farC (h : At w g k m f) {a : Addr} {v : Value} (hg : g ≠ a.block) : At (w.setCell a v) g k m f := ⟨row_setCell.2 h.row, (rowAt_setCell_far hg).trans h.eq⟩
theorem At.set (h : At w g k m f) (i v : Nat) : At (w.setCell ⟨g, i, none⟩ (.int k (v : Int))) g k m (upd f i v) := ⟨row_setCell.2 h.row, by rw [rowAt_setCell_same, h.eq, arrK_set]⟩
theorem At.congr (h : At w g k m f) (e : ∀ i < m, f i = f' i) : At w g k m f' := ⟨h.row, h.eq.trans (arrK_congr e)⟩
theorem At.lt (h : At w g k m f) : g < w.heap.size := h.row.lt
end
/-- Block g is the number n: of four words, of eight words. -/
abbrev NumAt (w : World) (g n : Nat) : Prop := At w g .u64 4 (wd n)
abbrev WideAt (w : World) (g n : Nat) : Prop := At w g .u64 8 (wd n)

theorem num_inj {a b : Nat} (ha : a < 2 ^ (64 * 4)) (hb : b < 2 ^ (64 * 4)) : (∀ i < 4, wd a i = wd b i) ↔ a = b := ⟨wd_inj ha hb, fun h _ _ => by rw [h]⟩
theorem eqlNum {a b : Nat} (ha : a < 2 ^ 256) (hb : b < 2 ^ 256) (W : World) : (binOp .eql 41 (.agg (arrK .u64 4 (wd a))) (.agg (arrK .u64 4 (wd b)))).run Tryd.prog W = .ok (.bool (decide (a = b))) W := by
  rw [run_eql_arrK Tryd.underlying41 Tryd.underlying39 (by kernel_rfl)]
  congr 2
  exact decide_eq_decide.2 (num_inj ha hb)
theorem neqNum {a b : Nat} (ha : a < 2 ^ 256) (hb : b < 2 ^ 256) (W : World) : (binOp .neq 41 (.agg (arrK .u64 4 (wd a))) (.agg (arrK .u64 4 (wd b)))).run Tryd.prog W = .ok (.bool (!decide (a = b))) W := by
  rw [run_neq_arrK Tryd.underlying41 Tryd.underlying39 (by kernel_rfl)]
  congr 3
  exact decide_eq_decide.2 (num_inj ha hb)
theorem zeroNum : #[Value.int IntKind.u64 0, Value.int IntKind.u64 0, Value.int IntKind.u64 0, Value.int IntKind.u64 0] = arrK .u64 4 (wd 0) := (arrK4 .u64 fun _ => 0).trans (arrK_congr fun i _ => (wd_zero i).symm)
theorem zeroWide : #[Value.int IntKind.u64 0, Value.int IntKind.u64 0, Value.int IntKind.u64 0, Value.int IntKind.u64 0, Value.int IntKind.u64 0, Value.int IntKind.u64 0, Value.int IntKind.u64 0, Value.int IntKind.u64 0] = arrK .u64 8 (wd 0) := (arrK8 .u64 fun _ => 0).trans (arrK_congr fun i _ => (wd_zero i).symm)
end Go.Proofs.YtdlmamnnamlleaaDoor
