/- A part of a block, loaded as a whole array; a block's cells under one word. No program is named here. -/
import Derived.Test.YtdlmamnnamlleaaDoorEl
import Derived.Test.YtdlmamnnamlleaaDoorAt
namespace Go.Proofs.YtdlmamnnamlleaaDoor
open Go Go.RowKit
theorem pl_ext {c d : Array Value} {o n : Nat} (h : c.extract o (o + n) = d) (hd : d.size = n) {i : Nat} (hi : i < n) : c[o + i]? = d[i]? := by
  rw [← h, Array.getElem?_extract]
  have h2 : c.size ≥ o + n := by
    have := congrArg Array.size h
    rw [Array.size_extract, hd] at this
    omega
  rw [if_pos (by omega)]
theorem pl_add (g o j : Nat) : (⟨g, o, none⟩ : Addr).add j = ⟨g, o + j, none⟩ := by
  by_cases e : j = 0
  · subst e; simp [Addr.add]
  · simp [Addr.add, e]
theorem pl_ldC {w : World} {n : Nat} {ad : Addr} {d : Array Value} (hd : d.size = n) (hv : ∀ i < n, (d[i]?).isSome = true) (hc : ∀ j, j < n → w.cell? (ad.add j) = d[j]?) : LdOk w n (.pointer (some ad)) ∧ ldC w n (.pointer (some ad)) = d := by
  refine ⟨fun j hj => by rw [hc j hj]; exact hv j hj, ?_⟩
  show arrV n (fun j => (w.cell? (ad.add j)).getD undef) = d
  apply Array.ext_getElem?
  intro j
  by_cases hj : j < n
  · rw [arrV_at hj, hc j hj]
    obtain ⟨u, hu⟩ := Option.isSome_iff_exists.1 (hv j hj)
    rw [hu]; rfl
  · rw [Array.getElem?_eq_none (by rw [arrV_size]; omega), Array.getElem?_eq_none (by omega)]
/-- A part of a block. -/
theorem pl_ld {w : World} {g N o n : Nat} {c d : Array Value} (hR : Row w g N) (hr : rowAt w g = c) (he : c.extract o (o + n) = d) (hd : d.size = n) (hv : ∀ i < n, (d[i]?).isSome = true) : LdOk w n (.pointer (some ⟨g, o, none⟩)) ∧ ldC w n (.pointer (some ⟨g, o, none⟩)) = d :=
  pl_ldC hd hv fun j hj => by
    have h1 := hR.cell (o + j)
    rw [hr, pl_ext he hd hj] at h1
    rw [pl_add]; exact h1
theorem pl_some {k : IntKind} {n : Nat} {f : Nat → Nat} : ∀ i < n, ((arrK k n f)[i]?).isSome = true := fun i hi => by rw [arrK_at hi]; rfl
/-- A block's cells. -/
structure Bw (w : World) (g N : Nat) (c : Array Value) : Prop where
  row : Row w g N
  eq : rowAt w g = c
section
variable {w w' : World} {g N : Nat} {c : Array Value}
theorem Bw.step (h : Bw w g N c) (hb : Below w.heap.size w w') : Bw w' g N c := ⟨row_below h.row hb h.row.lt, (rowAt_below hb h.row.lt).trans h.eq⟩
theorem Bw.new (t : TypeId) (h : c.size = N) : Bw (w.alloc (Obj.cells c t)) w.heap.size N c := ⟨(row_new rfl).2 h, rowAt_new rfl⟩
theorem Bw.far (h : Bw w g N c) {g' : Nat} {c' : Array Value} (hg : g ≠ g') : Bw (w.setRow g' c') g N c := ⟨(row_setRow_far hg).2 h.row, (rowAt_setRow_far hg).trans h.eq⟩
theorem Bw.farC (h : Bw w g N c) {a : Addr} {v : Value} (hg : g ≠ a.block) : Bw (w.setCell a v) g N c := ⟨row_setCell.2 h.row, (rowAt_setCell_far hg).trans h.eq⟩
theorem Bw.lt (h : Bw w g N c) : g < w.heap.size := h.row.lt
theorem Bw.cell (h : Bw w g N c) {i : Nat} {v : Value} (hi : c[i]? = some v) : w.cell? ⟨g, i, none⟩ = some v := by rw [h.row.cell, h.eq]; exact hi
end
end Go.Proofs.YtdlmamnnamlleaaDoor
