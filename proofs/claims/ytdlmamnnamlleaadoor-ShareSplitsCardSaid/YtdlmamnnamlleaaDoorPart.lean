/- Rules of the walk for a part of a row: an array that lies in the middle of a struct's block, loaded and stored by value. No program is named here. -/
import Derived.Test.YtdlmamnnamlleaaDoorMem
import Derived.Test.YtdlmamnnamlleaaDoorMem2
import Derived.Test.YtdlmamnnamlleaaDoorArrK
import Derived.Deep.MidRow
namespace Go.Proofs.YtdlmamnnamlleaaDoor
open Go Go.RowKit

/-- A row of cells told by its index. -/
def arrV (n : Nat) (f : Nat → Value) : Array Value := Array.ofFn fun i : Fin n => f i
section
variable {n m o i : Nat} {f g : Nat → Value} {v : Value}
theorem arrK_V (k : IntKind) (n : Nat) (f : Nat → Nat) : arrK k n f = arrV n fun i => .int k (f i) := rfl
theorem arrV_size (n : Nat) (f : Nat → Value) : (arrV n f).size = n := by simp [arrV]
theorem arrV_at (h : i < n) : (arrV n f)[i]? = some (f i) := by simp [arrV, h]
theorem arrV_of {c : Array Value} (hs : c.size = n) (h : ∀ i < n, c[i]? = some (f i)) : c = arrV n f := by
  apply Array.ext_getElem?
  intro i
  rcases Nat.lt_or_ge i n with hi | hi
  · rw [h i hi, arrV_at hi]
  · rw [Array.getElem?_eq_none (by omega), Array.getElem?_eq_none (by rw [arrV_size]; exact hi)]
theorem arrV_congr (h : ∀ i < n, f i = g i) : arrV n f = arrV n g := arrV_of (arrV_size _ _) fun i hi => by rw [arrV_at hi, h i hi]
theorem arrV_set : (arrV n f).setIfInBounds i v = arrV n fun j => if j = i then v else f j := by
  refine arrV_of (by simp [arrV_size]) fun j hj => ?_
  rw [Array.getElem?_setIfInBounds]
  by_cases e : i = j
  · subst e; simp [arrV_size, hj]
  · rw [if_neg e, arrV_at hj, if_neg (fun h => e h.symm)]
theorem arrV_extract (h : o + m ≤ n) : (arrV n f).extract o (o + m) = arrV m fun i => f (o + i) := by
  refine arrV_of (by simp [arrV_size]; omega) fun i hi => ?_
  rw [Array.getElem?_extract, if_pos (by rw [arrV_size]; omega), arrV_at (by omega)]
theorem arrV_cells (h : ∀ i < n, (f i).oneCell' = true) : Cells (arrV n f) n := by
  refine ⟨arrV_size _ _, ?_⟩
  rw [Array.all_eq_true_iff_forall_mem]
  intro x hx
  obtain ⟨i, hi, rfl⟩ := Array.mem_iff_getElem.1 hx
  rw [arrV_size] at hi
  simpa [arrV] using h i hi
end

/-- Cells set one by one. -/
def putAt (c : Array Value) (o : Nat) : List Value → Array Value
  | [] => c
  | v :: r => putAt (c.setIfInBounds o v) (o + 1) r
theorem putAt_arrV {n : Nat} : ∀ (l : List Value) (f : Nat → Value) (o : Nat), putAt (arrV n f) o l = arrV n fun i => if o ≤ i then (l[i - o]?).getD (f i) else f i
  | [], f, o => arrV_congr fun i _ => by simp
  | v :: r, f, o => by
      rw [putAt, arrV_set, putAt_arrV r]
      refine arrV_congr fun i _ => ?_
      by_cases h1 : o + 1 ≤ i
      · rw [if_pos h1, if_pos (show o ≤ i by omega), show i - o = (i - (o + 1)) + 1 by omega, List.getElem?_cons_succ, if_neg (show ¬i = o by omega)]
      · rw [if_neg h1]
        by_cases h2 : i = o
        · subst h2; simp
        · rw [if_neg h2, if_neg (by omega)]
theorem putAt_size : ∀ (l : List Value) (c : Array Value) (o : Nat), (putAt c o l).size = c.size
  | [], _, _ => rfl
  | v :: r, c, o => by rw [putAt, putAt_size r]; simp

section
variable {w : World} {g n : Nat} {c : Array Value}
theorem setCell_row (h : Row w g n) (o : Nat) (v : Value) : w.setCell ⟨g, o, none⟩ v = w.setRow g ((rowAt w g).setIfInBounds o v) := by
  obtain ⟨cs, t, hg, hs⟩ := h
  have hlt : g < w.heap.size := by
    rcases Nat.lt_or_ge g w.heap.size with hlt | hge
    · exact hlt
    · rw [Array.getElem?_eq_none hge] at hg; cases hg
  have hr : rowAt w g = cs := by simp [rowAt, hg]
  simp only [World.setCell, World.setRow, hr]
  congr 1
  apply Array.ext_getElem?
  intro i
  simp only [Array.getElem?_modify]
  by_cases e : g = i
  · subst e
    simp [hg]
  · simp [e]
theorem setRow_setRow (c d : Array Value) : (w.setRow g c).setRow g d = w.setRow g d := by
  simp only [World.setRow]
  congr 1
  apply Array.ext_getElem?
  intro i
  simp only [Array.getElem?_modify]
  by_cases e : g = i
  · subst e
    cases h : w.heap[g]? with
    | none => simp
    | some o => cases o <;> simp
  · simp [e]
theorem setRow_id (h : Row w g n) : w.setRow g (rowAt w g) = w := by
  obtain ⟨cs, t, hg, hs⟩ := h
  have hr : rowAt w g = cs := by simp [rowAt, hg]
  simp only [World.setRow, hr]
  congr 1
  apply Array.ext_getElem?
  intro i
  simp only [Array.getElem?_modify]
  by_cases e : g = i
  · subst e
    simp [hg]
  · simp [e]
theorem setCells_row : ∀ (vs : List Value) (o : Nat) {w : World}, Row w g n → w.setCells g o vs = w.setRow g (putAt (rowAt w g) o vs)
  | [], o, w, h => (setRow_id h).symm
  | v :: r, o, w, h => by
      rw [World.setCells, setCells_row r (o + 1) (row_setCell.2 h), rowAt_setCell_same, setCell_row h, setRow_setRow, putAt]
end

def IsPart : Value → Prop
  | .pointer (some ⟨_, _, none⟩) => True
  | _ => False
def offOf : Value → Nat
  | .pointer (some ⟨_, o, _⟩) => o
  | _ => 0
theorem isPart_mk (g o : Nat) : IsPart (.pointer (some ⟨g, o, none⟩)) = True := rfl
theorem offOf_mk (g o : Nat) (s : Option Nat) : offOf (.pointer (some ⟨g, o, s⟩)) = o := rfl
theorem IsPart.eq {v : Value} (h : IsPart v) : v = .pointer (some ⟨blkOf v, offOf v, none⟩) := by
  unfold IsPart at h
  split at h
  · rfl
  · exact h.elim

section
variable {P : Program} {w : World} {n m : Nat}
theorem run_load_part {ty : TypeId} {d : TypeDesc} (hu : P.underlying ty = some d) (hd : d.isRow = true) (hi : (P.info? ty).map (·.size) = some m)
    {v : Value} (hv : IsPart v) (h : Row w (blkOf v) n) (ho : offOf v + m ≤ n) : (Instr.loadAt ty v).run P w = .ok (.agg ((rowAt w (blkOf v)).extract (offOf v) (offOf v + m))) w := by
  have e := hv.eq
  generalize blkOf v = g at *
  generalize offOf v = o at *
  subst e
  have hs := h.size
  rw [run_loadAt_mid w g o ty ((rowAt w g).extract o (o + m)).toList d (fun j u hj => ?_) hu hd (by rw [hi]; simp; omega)]
  rw [h.cell]
  rw [Array.getElem?_toList, Array.getElem?_extract] at hj
  split at hj
  · exact hj
  · cases hj
theorem run_store_part {ty : TypeId} (hi : (P.info? ty).map (·.size) = some m) {v x : Value} (hv : IsPart v) (h : Row w (blkOf v) n) (ho : offOf v + m ≤ n) (hx : IsAgg x m) :
    (Instr.storeAt ty v x).run P w = .ok () (w.setRow (blkOf v) (putAt (rowAt w (blkOf v)) (offOf v) (cellsV x).toList)) := by
  have e := hv.eq
  generalize blkOf v = g at *
  generalize offOf v = o at *
  subst e
  obtain ⟨e, hc⟩ := hx.eq
  generalize cellsV x = c at e hc
  subst e
  have hs := h.size
  rw [run_storeAt_mid w g o ty c (fun j hj => ⟨?_, h.frozen _⟩) (by rw [hi, hc.1]) hc.2, setCells_row _ _ h]
  rw [h.cell, Array.getElem?_eq_getElem (by have := hc.1; omega)]
  rfl
variable {dst : Option Tmp} {x y : Operand} {tt : TypeId} {pos : String} {af : Array Edge} {gd : Option (Nat × Bool)} {a : Act} {K : Act → World → Prop} {Q : Exit → Act → World → Prop}
theorem wp_load_part {ty : TypeId} {d : TypeDesc} (hu : P.underlying ty = some d) (hd : d.isRow = true) (hi : (P.info? ty).map (·.size) = some m)
    (hv : IsPart (a.eval x)) (h : Row w (blkOf (a.eval x)) n) (ho : offOf (a.eval x) + m ≤ n) :
    Oper.wp P ⟨dst, .load ty x, tt, pos, af, gd⟩ a w K Q ↔ K (a.put dst (.agg ((rowAt w (blkOf (a.eval x))).extract (offOf (a.eval x)) (offOf (a.eval x) + m)))) w := by
  have h1 := run_load_part (P := P) (w := w) hu hd hi hv h ho
  unfold Oper.wp execOp
  simp only [Sem.run_bind, Sem.run_pure, h1, Result.andThen_ok]
  exact Iff.rfl
theorem wp_store_part {ty : TypeId} (hi : (P.info? ty).map (·.size) = some m)
    (hv : IsPart (a.eval x)) (h : Row w (blkOf (a.eval x)) n) (ho : offOf (a.eval x) + m ≤ n) (hx : IsAgg (a.eval y) m) :
    Oper.wp P ⟨dst, .store ty x y, tt, pos, af, gd⟩ a w K Q ↔ K (a.put dst undef) (w.setRow (blkOf (a.eval x)) (putAt (rowAt w (blkOf (a.eval x))) (offOf (a.eval x)) (cellsV (a.eval y)).toList)) := by
  have h1 := run_store_part (P := P) (w := w) hi hv h ho hx
  unfold Oper.wp execOp
  simp only [Sem.run_bind, Sem.run_pure, h1, Result.andThen_ok]
  exact Iff.rfl
end
end Go.Proofs.YtdlmamnnamlleaaDoor
