/- Keys and blocks in memory: rules of the walk, facts that stay. -/
import Derived.Test.YtjihklaocgmlpaaAesP
import Derived.Test.YtjihklaocgmlpaaAt
import Derived.Test.YtjihklaocgmlpaaFresh
import Derived.Test.YtjihklaocgmlpaaRet2
import Derived.Deep.RegionWith
namespace Go.Proofs.Ytjihklaocgmlpaa
open Go.ChangeShapes Go.WideShapes Go.ChangeAt Go.RowKit
set_option maxHeartbeats 4000000
set_option maxRecDepth 100000
theorem load_a4 {w : World} {dst : Option Tmp} {x : Operand} {tt : TypeId} {pos : String} {af : Array Edge} {gd : Option (Nat × Bool)} {a : Act} {K : Act → World → Prop} {Q : Exit → Act → World → Prop}
    (hv : IsHead (a.eval x)) (h : Row w (blkOf (a.eval x)) 4) : Oper.wp Try.prog ⟨dst, .load 39 x, tt, pos, af, gd⟩ a w K Q ↔ K (a.put dst (.agg (rowAt w (blkOf (a.eval x))))) w :=
  wp_load_whole Try.underlying39 rfl (by kernel_rfl) hv h
theorem store_a4 {w : World} {dst : Option Tmp} {x y : Operand} {tt : TypeId} {pos : String} {af : Array Edge} {gd : Option (Nat × Bool)} {a : Act} {K : Act → World → Prop} {Q : Exit → Act → World → Prop}
    (hv : IsHead (a.eval x)) (h : Row w (blkOf (a.eval x)) 4) (hx : IsAgg (a.eval y) 4) : Oper.wp Try.prog ⟨dst, .store 39 x y, tt, pos, af, gd⟩ a w K Q ↔ K (a.put dst undef) (w.setRow (blkOf (a.eval x)) (cellsV (a.eval y))) :=
  wp_store_whole (by kernel_rfl) hv h hx
theorem execl_a4 {w : World} {dst : Option Tmp} {x : Operand} {tt : TypeId} {pos : String} {af : Array Edge} {gd : Option (Nat × Bool)} {ρ : Operand → Value}
    (hv : IsHead (ρ x)) (h : Row w (blkOf (ρ x)) 4) : (execOp ρ ⟨dst, .load 39 x, tt, pos, af, gd⟩).run Try.prog w = .ok (.value (.agg (rowAt w (blkOf (ρ x))))) w :=
  exec_load_whole Try.underlying39 rfl (by kernel_rfl) hv h
theorem execs_a4 {w : World} {dst : Option Tmp} {x y : Operand} {tt : TypeId} {pos : String} {af : Array Edge} {gd : Option (Nat × Bool)} {ρ : Operand → Value}
    (hv : IsHead (ρ x)) (h : Row w (blkOf (ρ x)) 4) (hx : IsAgg (ρ y) 4) : (execOp ρ ⟨dst, .store 39 x y, tt, pos, af, gd⟩).run Try.prog w = .ok .skip (w.setRow (blkOf (ρ x)) (cellsV (ρ y))) :=
  exec_store_whole (by kernel_rfl) hv h hx
theorem load_a16 {w : World} {dst : Option Tmp} {x : Operand} {tt : TypeId} {pos : String} {af : Array Edge} {gd : Option (Nat × Bool)} {a : Act} {K : Act → World → Prop} {Q : Exit → Act → World → Prop}
    (hv : IsHead (a.eval x)) (h : Row w (blkOf (a.eval x)) 16) : Oper.wp Try.prog ⟨dst, .load 38 x, tt, pos, af, gd⟩ a w K Q ↔ K (a.put dst (.agg (rowAt w (blkOf (a.eval x))))) w :=
  wp_load_whole Try.underlying38 rfl (by kernel_rfl) hv h
theorem store_a16 {w : World} {dst : Option Tmp} {x y : Operand} {tt : TypeId} {pos : String} {af : Array Edge} {gd : Option (Nat × Bool)} {a : Act} {K : Act → World → Prop} {Q : Exit → Act → World → Prop}
    (hv : IsHead (a.eval x)) (h : Row w (blkOf (a.eval x)) 16) (hx : IsAgg (a.eval y) 16) : Oper.wp Try.prog ⟨dst, .store 38 x y, tt, pos, af, gd⟩ a w K Q ↔ K (a.put dst undef) (w.setRow (blkOf (a.eval x)) (cellsV (a.eval y))) :=
  wp_store_whole (by kernel_rfl) hv h hx
theorem execl_a16 {w : World} {dst : Option Tmp} {x : Operand} {tt : TypeId} {pos : String} {af : Array Edge} {gd : Option (Nat × Bool)} {ρ : Operand → Value}
    (hv : IsHead (ρ x)) (h : Row w (blkOf (ρ x)) 16) : (execOp ρ ⟨dst, .load 38 x, tt, pos, af, gd⟩).run Try.prog w = .ok (.value (.agg (rowAt w (blkOf (ρ x))))) w :=
  exec_load_whole Try.underlying38 rfl (by kernel_rfl) hv h
theorem execs_a16 {w : World} {dst : Option Tmp} {x y : Operand} {tt : TypeId} {pos : String} {af : Array Edge} {gd : Option (Nat × Bool)} {ρ : Operand → Value}
    (hv : IsHead (ρ x)) (h : Row w (blkOf (ρ x)) 16) (hx : IsAgg (ρ y) 16) : (execOp ρ ⟨dst, .store 38 x y, tt, pos, af, gd⟩).run Try.prog w = .ok .skip (w.setRow (blkOf (ρ x)) (cellsV (ρ y))) :=
  exec_store_whole (by kernel_rfl) hv h hx
theorem load_akey {w : World} {dst : Option Tmp} {x : Operand} {tt : TypeId} {pos : String} {af : Array Edge} {gd : Option (Nat × Bool)} {a : Act} {K : Act → World → Prop} {Q : Exit → Act → World → Prop}
    (hv : IsHead (a.eval x)) (h : Row w (blkOf (a.eval x)) 241) : Oper.wp Try.prog ⟨dst, .load 42 x, tt, pos, af, gd⟩ a w K Q ↔ K (a.put dst (.agg (rowAt w (blkOf (a.eval x))))) w :=
  wp_load_whole Try.underlying42 rfl (by kernel_rfl) hv h
theorem store_akey {w : World} {dst : Option Tmp} {x y : Operand} {tt : TypeId} {pos : String} {af : Array Edge} {gd : Option (Nat × Bool)} {a : Act} {K : Act → World → Prop} {Q : Exit → Act → World → Prop}
    (hv : IsHead (a.eval x)) (h : Row w (blkOf (a.eval x)) 241) (hx : IsAgg (a.eval y) 241) : Oper.wp Try.prog ⟨dst, .store 42 x y, tt, pos, af, gd⟩ a w K Q ↔ K (a.put dst undef) (w.setRow (blkOf (a.eval x)) (cellsV (a.eval y))) :=
  wp_store_whole (by kernel_rfl) hv h hx
theorem execl_akey {w : World} {dst : Option Tmp} {x : Operand} {tt : TypeId} {pos : String} {af : Array Edge} {gd : Option (Nat × Bool)} {ρ : Operand → Value}
    (hv : IsHead (ρ x)) (h : Row w (blkOf (ρ x)) 241) : (execOp ρ ⟨dst, .load 42 x, tt, pos, af, gd⟩).run Try.prog w = .ok (.value (.agg (rowAt w (blkOf (ρ x))))) w :=
  exec_load_whole Try.underlying42 rfl (by kernel_rfl) hv h
theorem execs_akey {w : World} {dst : Option Tmp} {x y : Operand} {tt : TypeId} {pos : String} {af : Array Edge} {gd : Option (Nat × Bool)} {ρ : Operand → Value}
    (hv : IsHead (ρ x)) (h : Row w (blkOf (ρ x)) 241) (hx : IsAgg (ρ y) 241) : (execOp ρ ⟨dst, .store 42 x y, tt, pos, af, gd⟩).run Try.prog w = .ok .skip (w.setRow (blkOf (ρ x)) (cellsV (ρ y))) :=
  exec_store_whole (by kernel_rfl) hv h hx
/-- The first i by f, the others by g. -/
def upTo (i : Nat) (f g : Nat → Nat) : Nat → Nat := fun j => if j < i then f j else g j
theorem upTo_zero (f g : Nat → Nat) : upTo 0 f g = g := by funext j; unfold upTo; simp
theorem upTo_step (i : Nat) (f g : Nat → Nat) : upd (upTo i f g) i (f i) = upTo (i + 1) f g := by
  funext j
  unfold upTo upd
  by_cases h : j = i
  · subst h; simp
  · by_cases h2 : j < i
    · simp [h, h2, show j < i + 1 by omega]
    · simp [h, h2, show ¬ j < i + 1 by omega]
theorem upTo_at (i : Nat) (f g : Nat → Nat) : upTo i f g i = g i := by unfold upTo; simp
theorem upTo_ge {i p : Nat} (f g : Nat → Nat) (h : i ≤ p) : upTo i f g p = g p := if_neg (by omega)
theorem upTo_lt {i p : Nat} (f g : Nat → Nat) (h : p < i) : upTo i f g p = f p := if_pos h
theorem upTo_end {n : Nat} (f g : Nat → Nat) : ∀ i < n, upTo n f g i = f i := fun i hi => by unfold upTo; simp [hi]

/-- A key by value: words, rounds. -/
def keyV (F : Nat → Nat) (R : Nat) : Array Value := (arrK .u8 240 F).push (.int .i64 (R : Nat))
theorem keyV_cells (F : Nat → Nat) (R : Nat) : Cells (keyV F R) 241 := by
  refine ⟨by simp [keyV, arrK_size], ?_⟩
  unfold keyV
  rw [Array.all_push, (arrK_cells .u8 240 F).2]
  rfl
structure KeyAt (w : World) (g : Nat) (F : Nat → Nat) (R : Nat) : Prop where
  row : Row w g 241
  eq : rowAt w g = keyV F R
section
variable {w w' : World} {g R : Nat} {F : Nat → Nat}
theorem KeyAt.below {B : Nat} (h : KeyAt w g F R) (hb : Below B w w') (hg : g < B) : KeyAt w' g F R := ⟨row_below h.row hb hg, (rowAt_below hb hg).trans h.eq⟩
theorem KeyAt.step (h : KeyAt w g F R) (hb : Below w.heap.size w w') : KeyAt w' g F R := h.below hb h.row.lt
theorem KeyAt.byte (h : KeyAt w g F R) {i : Nat} (hi : i < 240) : w.cell? ⟨g, i, none⟩ = some (.int .u8 (F i : Nat)) := by
  rw [h.row.cell, h.eq, keyV, Array.getElem?_push, if_neg (by rw [arrK_size]; omega), arrK_at hi]
theorem KeyAt.rounds (h : KeyAt w g F R) : w.cell? ⟨g, 240, none⟩ = some (.int .i64 (R : Nat)) := by
  rw [h.row.cell, h.eq, keyV, Array.getElem?_push, if_pos (by rw [arrK_size])]
theorem KeyAt.new (t : TypeId) (hg : g = w.heap.size) : KeyAt (w.alloc (.cells (keyV F R) t)) g F R := ⟨(row_new hg).2 (keyV_cells F R).1, rowAt_new hg⟩
theorem KeyAt.old (h : KeyAt w g F R) (o : Obj) : KeyAt (w.alloc o) g F R := ⟨(row_old h.row.lt).2 h.row, (rowAt_old h.row.lt).trans h.eq⟩
theorem KeyAt.drew (h : KeyAt w g F R) : KeyAt w.drew g F R := ⟨h.row, h.eq⟩
theorem KeyAt.far (h : KeyAt w g F R) {g' : Nat} {c : Array Value} (hg : g ≠ g') : KeyAt (w.setRow g' c) g F R := ⟨(row_setRow_far hg).2 h.row, (rowAt_setRow_far hg).trans h.eq⟩
theorem KeyAt.farC (h : KeyAt w g F R) {a : Addr} {v : Value} (hg : g ≠ a.block) : KeyAt (w.setCell a v) g F R := ⟨row_setCell.2 h.row, (rowAt_setCell_far hg).trans h.eq⟩
theorem KeyAt.lt (h : KeyAt w g F R) : g < w.heap.size := h.row.lt
end
theorem zeroA16 : #[Value.int IntKind.u8 0, Value.int IntKind.u8 0, Value.int IntKind.u8 0, Value.int IntKind.u8 0, Value.int IntKind.u8 0, Value.int IntKind.u8 0, Value.int IntKind.u8 0, Value.int IntKind.u8 0, Value.int IntKind.u8 0, Value.int IntKind.u8 0, Value.int IntKind.u8 0, Value.int IntKind.u8 0, Value.int IntKind.u8 0, Value.int IntKind.u8 0, Value.int IntKind.u8 0, Value.int IntKind.u8 0] = arrK .u8 16 fun _ => 0 := by kernel_rfl
end Go.Proofs.Ytjihklaocgmlpaa
