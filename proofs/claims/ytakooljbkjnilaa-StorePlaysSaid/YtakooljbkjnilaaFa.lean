/- A block of memory that is a row of m cells, told by a function. No program is named here. -/
import Derived.Test.YtakooljbkjnilaaMem2
namespace Go.Proofs.Ytakooljbkjnilaa
open Go Go.RowKit

def fnA (m : Nat) (f : Nat → Value) : Array Value := Array.ofFn fun i : Fin m => f i
theorem fnA_size (m : Nat) (f : Nat → Value) : (fnA m f).size = m := by simp [fnA]
theorem fnA_at {m : Nat} {f : Nat → Value} {i : Nat} (h : i < m) : (fnA m f)[i]? = some (f i) := by simp [fnA, h]
theorem fnA_ext {c : Array Value} {m : Nat} {f : Nat → Value} (hs : c.size = m) (h : ∀ i, i < m → c[i]? = some (f i)) : c = fnA m f := by
  apply Array.ext
  · rw [hs, fnA_size]
  · intro i h1 h2
    have h3 := h i (by omega)
    have h4 := fnA_at (f := f) (show i < m by omega)
    rw [Array.getElem?_eq_getElem h1] at h3
    rw [Array.getElem?_eq_getElem h2] at h4
    rw [← h4] at h3
    exact Option.some.inj h3
theorem fnA_congr {m : Nat} {f g : Nat → Value} (h : ∀ i, i < m → f i = g i) : fnA m f = fnA m g := fnA_ext (fnA_size _ _) fun i hi => by rw [fnA_at hi, h i hi]
def updV (f : Nat → Value) (i : Nat) (v : Value) : Nat → Value := fun k => if k = i then v else f k
theorem fnA_set (m : Nat) (f : Nat → Value) (i : Nat) (v : Value) : (fnA m f).setIfInBounds i v = fnA m (updV f i v) := by
  refine fnA_ext (by rw [Array.size_setIfInBounds, fnA_size]) fun k hk => ?_
  rw [Array.getElem?_setIfInBounds, fnA_size]
  by_cases h : i = k
  · subst h; simp [hk, updV]
  · have h2 : ¬ k = i := fun e => h e.symm
    rw [if_neg h, fnA_at hk]; unfold updV; rw [if_neg h2]

structure Fa (w : World) (g m : Nat) (f : Nat → Value) : Prop where
  row : Row w g m
  eq : rowAt w g = fnA m f
section
variable {w w' : World} {g m : Nat} {f : Nat → Value}
theorem Fa.lt (h : Fa w g m f) : g < w.heap.size := h.row.lt
theorem Fa.below {B : Nat} (h : Fa w g m f) (hb : Below B w w') (hg : g < B) : Fa w' g m f := ⟨row_below h.row hb hg, (rowAt_below hb hg).trans h.eq⟩
theorem Fa.step (h : Fa w g m f) (hb : Below w.heap.size w w') : Fa w' g m f := h.below hb h.row.lt
theorem Fa.cell (h : Fa w g m f) {i : Nat} (hi : i < m) : w.cell? ⟨g, i, none⟩ = some (f i) := by rw [h.row.cell, h.eq, fnA_at hi]
theorem Fa.frozen (h : Fa w g m f) (i : Nat) : w.frozen? ⟨g, i, none⟩ = false := h.row.frozen i
theorem Fa.new (t : TypeId) (hg : g = w.heap.size) : Fa (w.alloc (.cells (fnA m f) t)) g m f := ⟨(row_new hg).2 (fnA_size _ _), rowAt_new hg⟩
theorem Fa.newOf (t : TypeId) (hg : g = w.heap.size) {c : Array Value} (hc : c = fnA m f) : Fa (w.alloc (.cells c t)) g m f := by subst hc; exact Fa.new t hg
theorem Fa.old (h : Fa w g m f) (o : Obj) : Fa (w.alloc o) g m f := ⟨(row_old h.row.lt).2 h.row, (rowAt_old h.row.lt).trans h.eq⟩
theorem Fa.drew (h : Fa w g m f) : Fa w.drew g m f := ⟨h.row, h.eq⟩
theorem Fa.put (h : Row w g m) : Fa (w.setRow g (fnA m f)) g m f := ⟨(row_setRow_same rfl h).2 (fnA_size _ _), rowAt_setRow_same h⟩
theorem Fa.far (h : Fa w g m f) {g' : Nat} {c : Array Value} (hg : g ≠ g') : Fa (w.setRow g' c) g m f := ⟨(row_setRow_far hg).2 h.row, (rowAt_setRow_far hg).trans h.eq⟩
theorem Fa.farC (h : Fa w g m f) {a : Addr} {v : Value} (hg : g ≠ a.block) : Fa (w.setCell a v) g m f := ⟨row_setCell.2 h.row, (rowAt_setCell_far hg).trans h.eq⟩
theorem Fa.set (h : Fa w g m f) (i : Nat) (v : Value) : Fa (w.setCell ⟨g, i, none⟩ v) g m (updV f i v) := ⟨row_setCell.2 h.row, by rw [rowAt_setCell_same, h.eq, fnA_set]⟩
theorem Fa.congr {f' : Nat → Value} (h : Fa w g m f) (he : ∀ i, i < m → f i = f' i) : Fa w g m f' := ⟨h.row, by rw [h.eq, fnA_congr he]⟩
end
end Go.Proofs.Ytakooljbkjnilaa
