/- Arrays of bytes by value, and a function's result that is an array or a struct in a cell. -/
import Derived.Test.YtakooljbkjnilaaFrame
import Derived.Test.YtakooljbkjnilaaMem
import Derived.Laws.Entries
import Derived.Laws.Rows
namespace Go.Proofs.Ytakooljbkjnilaa
open Go.ChangeShapes Go.WideShapes Go.ChangeAt Go.RowKit

/-- An array of bytes by value. -/
def arr8 (n : Nat) (f : Nat → Nat) : Array Value := Array.ofFn fun i : Fin n => .int .u8 (f i)
def upd (f : Nat → Nat) (i v : Nat) : Nat → Nat := fun j => if j = i then v else f j

theorem arr8_size (n : Nat) (f : Nat → Nat) : (arr8 n f).size = n := by simp [arr8]
theorem arr8_at {n i : Nat} {f : Nat → Nat} (h : i < n) : (arr8 n f)[i]? = some (.int .u8 (f i)) := by simp [arr8, h]
theorem arr8_congr {n : Nat} {f g : Nat → Nat} (h : ∀ i < n, f i = g i) : arr8 n f = arr8 n g := by
  apply Array.ext
  · simp [arr8]
  · intro i h1 h2
    simp [arr8, h i (by simpa [arr8] using h1)]
theorem arr8_set {n i v : Nat} {f : Nat → Nat} : (arr8 n f).setIfInBounds i (.int .u8 v) = arr8 n (upd f i v) := by
  apply Array.ext_getElem?
  intro j
  rw [Array.getElem?_setIfInBounds, arr8_size]
  by_cases hj : j < n
  · rw [arr8_at hj, arr8_at hj]
    unfold upd
    by_cases h : i = j
    · subst h; simp [hj]
    · rw [if_neg h, if_neg (fun h' => h h'.symm)]
  · have e : ∀ g : Nat → Nat, (arr8 n g)[j]? = none := fun g => by rw [Array.getElem?_eq_none]; rw [arr8_size]; omega
    rw [e, e]
    split <;> first | rfl | (split <;> first | rfl | omega)
theorem arr8_cells (n : Nat) (f : Nat → Nat) : Cells (arr8 n f) n := by
  refine ⟨arr8_size n f, ?_⟩
  rw [Array.all_eq_true]
  intro i h
  simp [arr8, Value.oneCell']

theorem ret_row {P : Program} {fn : Func} {R : Ending → World → Prop} {a : Act} {w : World} {p : Tmp} {ty : TypeId} {g n : Nat} {d : TypeDesc} (h : fn.results = #[.cell p ty])
    (hu : P.underlying ty = some d) (hd : (match d with | .struct _ | .array _ _ => true | _ => false) = true) (hi : (P.info? ty).map (·.size) = some n)
    (hp : a.tmps.getD p undef = .pointer (some ⟨g, 0, none⟩)) (hr : Row w g n) (hf : a.defers = []) (hR : R (.returned (.agg (rowAt w g))) w) : bodyPost P fn R .ret a w := by
  obtain ⟨cs, t, hg, hs⟩ := hr
  have e : rowAt w g = cs := by simp [rowAt, hg]
  rw [e] at hR
  exact bodyPost_ret (results_cell_row h _ w g t cs (0, 0) d hp hg hu hd (by rw [hi, hs])) hf hR

theorem index_arr8 {n : Nat} {ty : TypeId} {f : Nat → Nat} (hu : Try.prog.underlying ty = some (.array n 5)) {k : Nat} (hk : k < n) (w : World) :
    (Instr.index ty (.agg (arr8 n f)) (.int .i64 k)).run Try.prog w = .ok (.int .u8 (f k)) w := by
  have h1 : (0 : Int) ≤ k ∧ (k : Int) < n := by omega
  have h2 := arr8_at (f := f) hk
  have h4 := Try.underlying5
  have r1 := run_underlying hu w
  have r2 : (sizeOf 5).run Try.prog w = .ok 1 w := by kernel_rfl
  have r3 : (isAgg 5).run Try.prog w = .ok false w := by kernel_rfl
  unfold Instr.index part
  simp only [Sem.run_bind, asIntOf, Sem.run_pure, Result.andThen_ok, r1, h1, r2, r3, and_self, if_true, Int.toNat_natCast, Nat.mul_one, h2, Bool.false_eq_true, if_false]
end Go.Proofs.Ytakooljbkjnilaa
