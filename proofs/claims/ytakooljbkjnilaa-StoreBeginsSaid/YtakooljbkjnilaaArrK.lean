/- Arrays of integers by value: of any kind; one index, equality. -/
import Derived.Test.YtakooljbkjnilaaArr8
import Derived.Laws.StructEq
namespace Go.Proofs.Ytakooljbkjnilaa
open Go.ChangeShapes Go.WideShapes Go.ChangeAt Go.RowKit

/-- An array of integers by value. -/
def arrK (k : IntKind) (n : Nat) (f : Nat → Nat) : Array Value := Array.ofFn fun i : Fin n => .int k (f i)
theorem arr8_arrK (n : Nat) (f : Nat → Nat) : arr8 n f = arrK .u8 n f := rfl

section
variable {k : IntKind} {n : Nat} {f g : Nat → Nat}
theorem arrK_size (k : IntKind) (n : Nat) (f : Nat → Nat) : (arrK k n f).size = n := by simp [arrK]
theorem arrK_at {i : Nat} (h : i < n) : (arrK k n f)[i]? = some (.int k (f i)) := by simp [arrK, h]
theorem arrK_congr (h : ∀ i < n, f i = g i) : arrK k n f = arrK k n g := by
  apply Array.ext
  · simp [arrK]
  · intro i h1 h2
    simp [arrK, h i (by simpa [arrK] using h1)]
theorem arrK_set {i v : Nat} : (arrK k n f).setIfInBounds i (.int k v) = arrK k n (upd f i v) := by
  apply Array.ext_getElem?
  intro j
  rw [Array.getElem?_setIfInBounds, arrK_size]
  by_cases hj : j < n
  · rw [arrK_at hj, arrK_at hj]
    unfold upd
    by_cases h : i = j
    · subst h; simp [hj]
    · rw [if_neg h, if_neg (fun h' => h h'.symm)]
  · have e : ∀ g : Nat → Nat, (arrK k n g)[j]? = none := fun g => by rw [Array.getElem?_eq_none]; rw [arrK_size]; omega
    rw [e, e]
    split <;> first | rfl | (split <;> first | rfl | omega)
theorem arrK_cells (k : IntKind) (n : Nat) (f : Nat → Nat) : Cells (arrK k n f) n := by
  refine ⟨arrK_size k n f, ?_⟩
  rw [Array.all_eq_true]
  intro i h
  simp [arrK, Value.oneCell']
/-- An array whose cells are known. -/
theorem arrK_of {c : Array Value} (hs : c.size = n) (h : ∀ i < n, c[i]? = some (.int k (f i))) : c = arrK k n f := by
  apply Array.ext_getElem?
  intro j
  by_cases hj : j < n
  · rw [h j hj, arrK_at hj]
  · rw [Array.getElem?_eq_none (by omega), Array.getElem?_eq_none (by rw [arrK_size]; omega)]
end

section
variable {P : Program} {k : IntKind} {n : Nat} {ty e : TypeId} {f g : Nat → Nat}
theorem size_one (hs : (P.info? e).map (·.size) = some 1) (w : World) : (sizeOf e).run P w = .ok 1 w := by
  cases hi : P.info? e with
  | none => simp [hi] at hs
  | some i => simp [hi] at hs; simp [sizeOf, typeInfo, hi, hs]
theorem part_one (he : P.underlying e = some (.int k)) {xs : Array Value} {i : Nat} {v : Value} (h : xs[i]? = some v) (w : World) : (part e xs i).run P w = .ok v w := by
  have r3 : (isAgg e).run P w = .ok false w := by simp [isAgg, run_underlying he]
  unfold part
  simp only [Sem.run_bind, Sem.run_pure, r3, Result.andThen_ok, h, Bool.false_eq_true, if_false]
theorem index_arrK (hu : P.underlying ty = some (.array n e)) (he : P.underlying e = some (.int k)) (hs : (P.info? e).map (·.size) = some 1) {j : Nat} (hj : j < n) (κ : IntKind) (w : World) :
    (Instr.index ty (.agg (arrK k n f)) (.int κ j)).run P w = .ok (.int k (f j)) w := by
  have h1 : (0 : Int) ≤ j ∧ (j : Int) < n := by omega
  have h2 := arrK_at (k := k) (f := f) hj
  unfold Instr.index
  simp only [Sem.run_bind, asIntOf, Sem.run_pure, Result.andThen_ok, run_underlying hu w, h1, size_one hs w, and_self, if_true, Int.toNat_natCast, Nat.mul_one, part_one he h2]

theorem eq_loop (he : P.underlying e = some (.int k)) (d : Nat) (w : World) (l : List Nat) (hl : ∀ i ∈ l, i < n) :
    (forIn l (none, ()) fun i (_ : Option Bool × Unit) => (do
      let a ← part e (arrK k n f) (i * 1)
      let b ← part e (arrK k n g) (i * 1)
      let r ← Op.equalIn (d + 1) e a b
      if (!r) = true then pure (ForInStep.done (some false, ())) else pure (ForInStep.yield (none, ())) : Sem (ForInStep (Option Bool × Unit)))).run P w =
      .ok (if ∀ i ∈ l, f i = g i then (none, ()) else (some false, ())) w := by
  induction l with
  | nil => simp
  | cons i l ih =>
    have hi := hl i (by simp)
    have h1 := part_one (P := P) he (xs := arrK k n f) (i := i * 1) (v := .int k (f i)) (by rw [Nat.mul_one, arrK_at hi]) w
    have h2 := part_one (P := P) he (xs := arrK k n g) (i := i * 1) (v := .int k (g i)) (by rw [Nat.mul_one, arrK_at hi]) w
    simp only [List.forIn_cons, Sem.run_bind, h1, h2, Result.andThen_ok, run_equalIn_int w d e k k (f i) (g i) he, List.forall_mem_cons]
    by_cases h : f i = g i
    · simp only [h, beq_self_eq_true, Bool.not_true, Bool.false_eq_true, if_false, Sem.run_pure, Result.andThen_ok, true_and]
      exact ih fun i hi => hl i (by simp [hi])
    · have h3 : (((f i : Nat) : Int) == ((g i : Nat) : Int)) = false := by simpa using (show ¬ ((f i : Nat) : Int) = ((g i : Nat) : Int) by omega)
      simp [h, h3]
theorem run_equalIn_arrK (hu : P.underlying ty = some (.array n e)) (he : P.underlying e = some (.int k)) (hs : (P.info? e).map (·.size) = some 1) (d : Nat) (w : World) :
    (Op.equalIn (d + 2) ty (.agg (arrK k n f)) (.agg (arrK k n g))).run P w = .ok (decide (∀ i < n, f i = g i)) w := by
  rw [show d + 2 = (d + 1) + 1 from rfl, Op.equalIn.eq_2]
  simp only [Sem.run_bind, run_underlying hu, Result.andThen_ok, size_one hs]
  rw [Std.Legacy.Range.forIn_eq_forIn_range']
  rw [eq_loop he d w _ (fun i hi => by simpa [Std.Legacy.Range.size] using hi)]
  by_cases h : ∀ i < n, f i = g i
  · rw [if_pos (fun i hi => h i (by simpa [Std.Legacy.Range.size] using hi))]
    simp; exact h
  · rw [if_neg (fun h' => h fun i hi => h' i (by simpa [Std.Legacy.Range.size] using hi))]
    simp; simpa using h
theorem run_eql_arrK (hu : P.underlying ty = some (.array n e)) (he : P.underlying e = some (.int k)) (hs : (P.info? e).map (·.size) = some 1) (w : World) :
    (binOp .eql ty (.agg (arrK k n f)) (.agg (arrK k n g))).run P w = .ok (.bool (decide (∀ i < n, f i = g i))) w := by
  rw [run_eql_struct, run_equalIn_arrK hu he hs]; rfl
theorem run_neq_arrK (hu : P.underlying ty = some (.array n e)) (he : P.underlying e = some (.int k)) (hs : (P.info? e).map (·.size) = some 1) (w : World) :
    (binOp .neq ty (.agg (arrK k n f)) (.agg (arrK k n g))).run P w = .ok (.bool (!decide (∀ i < n, f i = g i))) w := by
  rw [run_neq_struct, run_equalIn_arrK hu he hs]; rfl
end
end Go.Proofs.Ytakooljbkjnilaa
