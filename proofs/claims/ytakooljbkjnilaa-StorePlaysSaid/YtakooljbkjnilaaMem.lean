/- Rules of the walk for whole arrays and structs by value: a block that is one row, loaded and stored whole, its cells whatever. No program is named here. -/
import Derived.WalkKit
import Derived.Deep.Draws
namespace Go.Proofs.Ytakooljbkjnilaa
open Go Go.RowKit

/-- An array of cells of a known number, each of one cell. -/
def Cells (c : Array Value) (n : Nat) : Prop := c.size = n ∧ c.all (·.oneCell') = true
/-- Block g is one row of n cells, none frozen. -/
def Row (w : World) (g n : Nat) : Prop := ∃ cs t, w.heap[g]? = some (.cells cs t (0, 0)) ∧ cs.size = n
/-- The cells of block g. -/
def rowAt (w : World) (g : Nat) : Array Value := match w.heap[g]? with | some (.cells c _ _) => c | _ => #[]

section
variable {w : World} {g n : Nat} {c : Array Value} {t : TypeId} {o : Obj} {v : Value} {a : Addr}

theorem push_new (w : World) (o : Obj) : (w.alloc o).heap[w.heap.size]? = some o := by
  show (w.heap.push o)[w.heap.size]? = some o
  simp
theorem push_old (h : g < w.heap.size) : (w.alloc o).heap[g]? = w.heap[g]? := Below.heap_alloc w o g h

theorem Row.lt (h : Row w g n) : g < w.heap.size := by
  obtain ⟨cs, t, h, _⟩ := h
  rcases Nat.lt_or_ge g w.heap.size with hlt | hge
  · exact hlt
  · rw [Array.getElem?_eq_none hge] at h; cases h
theorem Row.of_heap {w' : World} (h : w'.heap[g]? = w.heap[g]?) : Row w' g n ↔ Row w g n := by simp only [Row, h]

theorem row_new (hg : g = w.heap.size) : Row (w.alloc (.cells c t)) g n ↔ c.size = n := by
  subst hg
  constructor
  · rintro ⟨cs, t, h, hc⟩
    rw [push_new] at h
    injection h with h
    injection h with h1
    subst h1; exact hc
  · exact fun hc => ⟨c, t, push_new _ _, hc⟩
theorem row_new_cells (hg : g = w.heap.size) (hc : Cells c n) : Row (w.alloc (.cells c t)) g n ↔ True := iff_true_intro ((row_new hg).2 hc.1)
theorem row_old (hg : g < w.heap.size) : Row (w.alloc o) g n ↔ Row w g n := Row.of_heap (push_old hg)
theorem row_drew : Row w.drew g n ↔ Row w g n := Iff.rfl
theorem row_drewN (k : Nat) : Row (w.drewN k) g n ↔ Row w g n := Iff.rfl
theorem row_setCell : Row (w.setCell a v) g n ↔ Row w g n := by
  by_cases hb : g = a.block
  · subst hb
    unfold Row
    simp only [World.setCell, Array.getElem?_modify, if_true]
    cases h : w.heap[a.block]? with
    | none => simp
    | some o =>
      cases o with
      | cells cs t fr =>
        simp only [Option.map_some, Option.some.injEq, Obj.cells.injEq]
        constructor
        · rintro ⟨cs', t', ⟨h1, h2, h3⟩, h4⟩
          refine ⟨cs, t, ⟨rfl, rfl, h3⟩, ?_⟩
          rw [← h4, ← h1]; split <;> simp
        · rintro ⟨cs', t', ⟨h1, h2, h3⟩, h4⟩
          subst h1
          refine ⟨_, t, ⟨rfl, rfl, h3⟩, ?_⟩
          rw [← h4]; split <;> simp
      | _ => simp
  · exact Row.of_heap (Below.heap_setCell w a v g hb)
theorem row_setRow_same {g' : Nat} {c' : Array Value} (hb : g = g') (h : Row w g n) : Row (w.setRow g' c') g n ↔ c'.size = n := by
  subst hb
  obtain ⟨cs, t, h, hs⟩ := h
  have h1 := setRow_heap w g cs c' t _ h
  constructor
  · rintro ⟨x, y, h2, h3⟩
    rw [h1] at h2
    injection h2 with h2
    injection h2 with h4
    subst h4; exact h3
  · exact fun hc => ⟨c', t, h1, hc⟩
theorem row_setRow_far {g' : Nat} {c' : Array Value} (hb : g ≠ g') : Row (w.setRow g' c') g n ↔ Row w g n := Row.of_heap (setRow_other w g' g c' hb)
theorem row_below {w' : World} {B : Nat} (h : Row w g n) (hb : Below B w w') (hg : g < B) : Row w' g n := (Row.of_heap (hb.block g hg)).2 h

theorem rowAt_new (hg : g = w.heap.size) : rowAt (w.alloc (.cells c t)) g = c := by subst hg; simp only [rowAt, push_new]
theorem rowAt_old (hg : g < w.heap.size) : rowAt (w.alloc o) g = rowAt w g := by simp [rowAt, push_old hg]
theorem rowAt_drew : rowAt w.drew g = rowAt w g := rfl
theorem rowAt_drewN (k : Nat) : rowAt (w.drewN k) g = rowAt w g := rfl
theorem rowAt_setCell_far (h : g ≠ a.block) : rowAt (w.setCell a v) g = rowAt w g := by simp only [rowAt]; rw [Below.heap_setCell w a v g h]
theorem rowAt_setCell_same {i : Nat} : rowAt (w.setCell ⟨g, i, none⟩ v) g = (rowAt w g).setIfInBounds i v := by
  simp only [rowAt, World.setCell, Array.getElem?_modify]
  cases h : w.heap[g]? with
  | none => simp
  | some o => cases o <;> simp
theorem rowAt_setRow_far {g' : Nat} {c' : Array Value} (h : g ≠ g') : rowAt (w.setRow g' c') g = rowAt w g := by simp only [rowAt]; rw [setRow_other w g' g c' h]
theorem rowAt_setRow_same (h : Row w g n) : rowAt (w.setRow g c) g = c := by
  obtain ⟨cs, t, h, _⟩ := h
  simp only [rowAt]; rw [setRow_heap w g cs c t _ h]
theorem rowAt_below {w' : World} {B : Nat} (hb : Below B w w') (hg : g < B) : rowAt w' g = rowAt w g := by simp only [rowAt]; rw [hb.block g hg]
theorem Row.size (h : Row w g n) : (rowAt w g).size = n := by
  obtain ⟨cs, t, h, hs⟩ := h
  simpa [rowAt, h] using hs
theorem Row.cell (h : Row w g n) (i : Nat) : w.cell? ⟨g, i, none⟩ = (rowAt w g)[i]? := by
  obtain ⟨cs, t, h, hs⟩ := h
  simp [rowAt, h, World.cell?]
theorem Row.frozen (h : Row w g n) (i : Nat) : w.frozen? ⟨g, i, none⟩ = false := by
  obtain ⟨cs, t, h, hs⟩ := h
  simp [World.frozen?, h]

theorem cell_setRow (h : Row w g n) (i : Nat) : (w.setRow g c).cell? ⟨g, i, none⟩ = c[i]? := by
  obtain ⟨cs, t, h, _⟩ := h
  exact cell_setRow_same w g i cs c t _ h
theorem cell_setRow_far {g' i : Nat} (h : g' ≠ g) : (w.setRow g c).cell? ⟨g', i, none⟩ = w.cell? ⟨g', i, none⟩ := cell_setRow_other w g c _ h
theorem frozen_setRow {g' i : Nat} : (w.setRow g c).frozen? ⟨g', i, none⟩ = w.frozen? ⟨g', i, none⟩ := by
  by_cases h : g' = g
  · subst h
    simp only [World.frozen?, World.setRow, Array.getElem?_modify]
    cases h : w.heap[g']? with
    | none => simp
    | some o => cases o <;> simp
  · simp only [World.frozen?]
    rw [setRow_other w g g' c h]
theorem setRow_new {c' : Array Value} (hg : g = w.heap.size) : (w.alloc (.cells c t)).setRow g c' = w.alloc (.cells c' t) := by
  subst hg
  have h : (w.alloc (.cells c t)).setRow w.heap.size c' = w.alloc (.cells c' t) := by
    simp only [World.setRow, World.alloc]
    congr 1
    apply Array.ext
    · simp
    · intro i h1 h2
      simp only [Array.getElem_modify]
      split
      · rename_i he; subst he; simp
      · rename_i he
        rw [Array.getElem_push, Array.getElem_push]
        split
        · rfl
        · simp at h2; omega
  exact h
theorem setRow_old {c' : Array Value} (hg : g < w.heap.size) : (w.alloc o).setRow g c' = (w.setRow g c').alloc o := by
  simp only [World.setRow, World.alloc]
  congr 1
  apply Array.ext
  · simp
  · intro i h1 h2
    simp only [Array.getElem_modify, Array.getElem_push]
    by_cases hi : i < w.heap.size
    · simp [hi]
    · have : i = w.heap.size := by simp at h2; omega
      subst this
      simp; omega
theorem setRow_drew : w.drew.setRow g c = (w.setRow g c).drew := rfl
theorem setRow_drewN (k : Nat) : (w.drewN k).setRow g c = (w.setRow g c).drewN k := rfl

theorem below_setRow {B : Nat} {u : World} (h : Below B u w) (hg : B ≤ g) : Below B u (w.setRow g c) :=
  h.trans ⟨rfl, rfl, rfl, by simp, fun k hk => setRow_other w g k c (by omega)⟩

/-- One call more: what stood at W still stands. -/
theorem below_step {B : Nat} {W w1 w2 : World} (hb : Below w1.heap.size w1 w2) (h : Below B W w1) (hB : B ≤ W.heap.size) : Below B W w2 :=
  h.trans (hb.mono (Nat.le_trans hB h.size))

theorem cells_set {i : Nat} (hc : Cells c n) (hv : v.oneCell' = true) : Cells (c.setIfInBounds i v) n := by
  refine ⟨by simp [hc.1], ?_⟩
  rw [Array.all_eq_true_iff_forall_mem]
  intro x hx
  rcases Array.mem_or_eq_of_mem_setIfInBounds hx with h1 | h1
  · exact Array.all_eq_true_iff_forall_mem.1 hc.2 x h1
  · rw [h1]; exact hv
end

section
variable {P : Program} {w : World} {g n : Nat} {c : Array Value}
/-- A pointer to a block's head; which block. -/
def IsHead : Value → Prop
  | .pointer (some ⟨_, 0, none⟩) => True
  | _ => False
def blkOf : Value → Nat
  | .pointer (some ⟨g, _, _⟩) => g
  | _ => 0
def isRowV : Value → Prop
  | .agg _ => True
  | _ => False
theorem isHead_mk (g : Nat) : IsHead (.pointer (some ⟨g, 0, none⟩)) = True := rfl
theorem blkOf_mk (g o : Nat) (s : Option Nat) : blkOf (.pointer (some ⟨g, o, s⟩)) = g := rfl
def cellsV : Value → Array Value
  | .agg c => c
  | _ => #[]
def IsAgg : Value → Nat → Prop
  | .agg c, n => Cells c n
  | _, _ => False
theorem isAgg_mk (c : Array Value) (n : Nat) : IsAgg (.agg c) n = Cells c n := rfl
theorem cellsV_mk (c : Array Value) : cellsV (.agg c) = c := rfl
theorem IsHead.eq {v : Value} (h : IsHead v) : v = .pointer (some ⟨blkOf v, 0, none⟩) := by
  unfold IsHead at h
  split at h
  · rfl
  · exact h.elim
theorem IsAgg.eq {v : Value} (h : IsAgg v n) : v = .agg (cellsV v) ∧ Cells (cellsV v) n := by
  unfold IsAgg at h
  split at h
  · exact ⟨rfl, h⟩
  · exact h.elim

/-- A row is loaded whole. -/
theorem run_load_row {ty : TypeId} {d : TypeDesc} (hu : P.underlying ty = some d) (hd : (match d with | .struct _ | .array _ _ => true | _ => false) = true) (hi : (P.info? ty).map (·.size) = some n)
    {v : Value} (hv : IsHead v) (h : Row w (blkOf v) n) : (Instr.loadAt ty v).run P w = .ok (.agg (rowAt w (blkOf v))) w := by
  generalize hg' : blkOf v = g at h
  have e := hv.eq
  rw [hg'] at e
  subst e
  obtain ⟨cs, t, hg, hs⟩ := h
  have hr : rowAt w g = cs := by simp [rowAt, hg]
  simp only [Instr.loadAt, Instr.sureAddr, Sem.run_bind, Sem.run_pure, Result.andThen_ok, run_loadVar_row w g t ty cs (0, 0) d hg hu hd (by rw [hi, hs]), hr]
/-- A row is stored whole. -/
theorem run_store_row {ty : TypeId} (hi : (P.info? ty).map (·.size) = some n) {v x : Value} (hv : IsHead v) (h : Row w (blkOf v) n) (hx : IsAgg x n) :
    (Instr.storeAt ty v x).run P w = .ok () (w.setRow (blkOf v) (cellsV x)) := by
  generalize hg' : blkOf v = g at h
  have e := hv.eq
  rw [hg'] at e
  subst e
  obtain ⟨e, hc⟩ := hx.eq
  generalize cellsV x = c at e hc
  subst e
  obtain ⟨cs, t, hg, hs⟩ := h
  simp only [Instr.storeAt, Instr.sureAddr, Sem.run_bind, Sem.run_pure, Result.andThen_ok, run_storeVar_row w g t ty cs c hg (by rw [hi, hc.1]) (by rw [hs, hc.1]) hc.2]

/-- The operations, as the walk's simp meets them at once: 'attribute [local go_sem ↓]' of an instance at a type's number. -/
theorem wp_load_whole {ty : TypeId} {d : TypeDesc} (hu : P.underlying ty = some d) (hd : (match d with | .struct _ | .array _ _ => true | _ => false) = true) (hi : (P.info? ty).map (·.size) = some n)
    {dst : Option Tmp} {x : Operand} {tt : TypeId} {pos : String} {af : Array Edge} {gd : Option (Nat × Bool)} {a : Act} {K : Act → World → Prop} {Q : Exit → Act → World → Prop}
    (hv : IsHead (a.eval x)) (h : Row w (blkOf (a.eval x)) n) :
    Oper.wp P ⟨dst, .load ty x, tt, pos, af, gd⟩ a w K Q ↔ K (a.put dst (.agg (rowAt w (blkOf (a.eval x))))) w := by
  have h1 := run_load_row (P := P) (w := w) hu hd hi hv h
  unfold Oper.wp execOp
  simp only [Sem.run_bind, Sem.run_pure, h1, Result.andThen_ok]
  exact Iff.rfl
theorem wp_store_whole {ty : TypeId} (hi : (P.info? ty).map (·.size) = some n)
    {dst : Option Tmp} {x y : Operand} {tt : TypeId} {pos : String} {af : Array Edge} {gd : Option (Nat × Bool)} {a : Act} {K : Act → World → Prop} {Q : Exit → Act → World → Prop}
    (hv : IsHead (a.eval x)) (h : Row w (blkOf (a.eval x)) n) (hx : IsAgg (a.eval y) n) :
    Oper.wp P ⟨dst, .store ty x y, tt, pos, af, gd⟩ a w K Q ↔ K (a.put dst undef) (w.setRow (blkOf (a.eval x)) (cellsV (a.eval y))) := by
  have h1 := run_store_row (P := P) (w := w) hi hv h hx
  unfold Oper.wp execOp
  simp only [Sem.run_bind, Sem.run_pure, h1, Result.andThen_ok]
  exact Iff.rfl
/-- The same, as a region that draws its order asks it. -/
theorem exec_load_whole {ty : TypeId} {d : TypeDesc} (hu : P.underlying ty = some d) (hd : (match d with | .struct _ | .array _ _ => true | _ => false) = true) (hi : (P.info? ty).map (·.size) = some n)
    {dst : Option Tmp} {x : Operand} {tt : TypeId} {pos : String} {af : Array Edge} {gd : Option (Nat × Bool)} {ρ : Operand → Value}
    (hv : IsHead (ρ x)) (h : Row w (blkOf (ρ x)) n) :
    (execOp ρ ⟨dst, .load ty x, tt, pos, af, gd⟩).run P w = .ok (.value (.agg (rowAt w (blkOf (ρ x))))) w := by
  have h1 := run_load_row (P := P) (w := w) hu hd hi hv h
  unfold execOp
  simp only [Sem.run_bind, Sem.run_pure, h1, Result.andThen_ok]
end

end Go.Proofs.Ytakooljbkjnilaa
