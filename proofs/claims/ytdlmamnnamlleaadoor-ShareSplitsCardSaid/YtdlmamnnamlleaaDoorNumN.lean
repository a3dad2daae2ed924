/- The document's numbers as values: what each of its operations answers, by the numbers alone. -/
import Derived.Test.YtdlmamnnamlleaaDoorNum2
import Derived.Test.YtdlmamnnamlleaaDoorNum3
namespace Go.Proofs.YtdlmamnnamlleaaDoor
open Go.ChangeShapes Go.WideShapes Go.ChangeAt Go.RowKit

/-- No number of ours is as great. -/
def bigK : Nat := 10000
def big : Nat := 65536 ^ bigK
theorem lt_big {n k : Nat} (h : n < 2 ^ k) (hk : k ≤ 160000) : n < big := by
  refine Nat.lt_of_lt_of_le h ?_
  unfold big
  rw [show (65536 : Nat) = 2 ^ 16 from rfl, ← Nat.pow_mul]
  exact Nat.pow_le_pow_right (by omega) (by unfold bigK; omega)

theorem wide_big {a b m : Nat} (ha : a < 2 ^ m) (hb : b < 2 ^ m) (h : m + m ≤ 160000) : a + b * 2 ^ m < big := by
  refine lt_big (k := m + m) ?_ h
  have h1 : (b + 1) * 2 ^ m ≤ 2 ^ m * 2 ^ m := Nat.mul_le_mul_right _ hb
  rw [Nat.add_mul, Nat.one_mul] at h1
  rw [Nat.pow_add]
  omega
theorem mul_big {a b m n : Nat} (ha : a < 2 ^ m) (hb : b < 2 ^ n) (h : m + n ≤ 160000) : a * b < big :=
  lt_big (k := m + n) (by rw [Nat.pow_add]; exact Nat.mul_lt_mul'' ha hb) h
theorem add_big {a b k : Nat} (ha : a < 2 ^ k) (hb : b < 2 ^ k) (h : k + 1 ≤ 160000) : a + b < big :=
  lt_big (k := k + 1) (by rw [Nat.pow_succ]; omega) h

/-- A slice of digits of n, whatever stands at its end. -/
def IsV (w : World) (v : Value) (n : Nat) : Prop := ∃ A l c, v = .slice A l.length c ∧ Ds w A l c ∧ val l = n ∧ l.length ≤ 1000000

section
variable {w w' : World} {v : Value} {n : Nat}
theorem IsN.toV (h : IsN w v n) (hn : n < big) : IsV w v n := by
  obtain ⟨A, l, c, e, hD, hG⟩ := h
  exact ⟨A, l, c, e, hD, hG.val, Nat.le_trans (hG.len hn) (by unfold bigK; omega)⟩
theorem IsV.step (hb : Below w.heap.size w w') (h : IsV w v n) : IsV w' v n := by
  obtain ⟨A, l, c, e, hD, h1, h2⟩ := h
  exact ⟨A, l, c, e, hD.below hb (Nat.le_refl _), h1, h2⟩
theorem IsN.step (hb : Below w.heap.size w w') (h : IsN w v n) : IsN w' v n := by
  obtain ⟨A, l, c, e, hD, h1⟩ := h
  exact ⟨A, l, c, e, hD.below hb (Nat.le_refl _), h1⟩
theorem IsV.alloc (h : IsV w v n) (o : Obj) : IsV (w.alloc o) v n := h.step (below_alloc w o)
theorem IsN.alloc (h : IsN w v n) (o : Obj) : IsN (w.alloc o) v n := h.step (below_alloc w o)
theorem IsV.drew (h : IsV w v n) : IsV w.drew v n := h.step (Below.refl _ _).drew
theorem IsN.drew (h : IsN w v n) : IsN w.drew v n := h.step (Below.refl _ _).drew
theorem IsN.nil (w : World) : IsN w (.slice none 0 0) 0 := ⟨none, [], 0, rfl, ⟨Rd.nil, Sm.nil, by simp, by omega⟩, Dg.nil⟩
/-- '[]int{d}'. -/
theorem IsV.lit (w : World) (t : TypeId) {d : Nat} (hd : d < 65536) : IsV (w.alloc (.cells #[.int .i64 (d : Int)] t)) (.slice (some ⟨w.heap.size, 0, none⟩) 1 1) d :=
  ⟨some ⟨w.heap.size, 0, none⟩, [d], 1, rfl, ⟨Rd.of_blk (cs := #[.int .i64 (d : Int)]) (push_new _ _) (by simp), Sm.one hd, by simp, by omega⟩, val_one d, by simp⟩
theorem IsV.lit256 (w : World) (t : TypeId) : IsV (w.alloc (.cells #[.int .i64 256] t)) (.slice (some ⟨w.heap.size, 0, none⟩) 1 1) 256 := IsV.lit w t (d := 256) (by omega)
theorem IsV.lit' (w : World) (t : TypeId) {d g : Nat} (hg : g = w.heap.size) (hd : d < 65536) : IsV (w.alloc (.cells #[.int .i64 (d : Int)] t)) (.slice (some ⟨g, 0, none⟩) 1 1) d := by subst hg; exact IsV.lit w t hd
theorem IsV.lit256' (w : World) (t : TypeId) {g : Nat} (hg : g = w.heap.size) : IsV (w.alloc (.cells #[.int .i64 256] t)) (.slice (some ⟨g, 0, none⟩) 1 1) 256 := by subst hg; exact IsV.lit256 w t
theorem IsN.form (h : IsN w v n) : ∃ A m c, v = .slice A m c ∧ m ≤ c ∧ c ≤ 9223372036854775807 ∧ (m = 0 ↔ n = 0) := by
  obtain ⟨A, l, c, rfl, hD, hG⟩ := h
  refine ⟨A, l.length, c, rfl, hD.le, hD.mx, fun h0 => ?_, fun h0 => ?_⟩
  · rw [← hG.val, List.eq_nil_of_length_eq_zero h0]; rfl
  · subst h0; rw [hG.zero]; rfl

theorem plusN {u v : Value} {m n : Nat} (w : World) (hu : IsV w u m) (hv : IsV w v n) : Calls Tryd.prog 42 #[u, v] w (RetN (m + n) w) := by
  obtain ⟨A, l, c, rfl, hD, rfl, hl⟩ := hu
  obtain ⟨B, k, d, rfl, hE, rfl, hk⟩ := hv
  exact ref_Plus A l c B k d w hD hE hl hk
theorem timesN {u v : Value} {m n : Nat} (w : World) (hu : IsV w u m) (hv : IsV w v n) : Calls Tryd.prog 43 #[u, v] w (RetN (m * n) w) := by
  obtain ⟨A, l, c, rfl, hD, rfl, hl⟩ := hu
  obtain ⟨B, k, d, rfl, hE, rfl, hk⟩ := hv
  exact ref_Times A l c B k d w hD hE hl hk
theorem toNumN {u : Value} {m : Nat} (w : World) (hu : IsV w u m) : Calls Tryd.prog 45 #[u] w fun e w' => e = .returned (numV m) ∧ Below w.heap.size w w' := by
  obtain ⟨A, l, c, rfl, hD, rfl, hl⟩ := hu
  exact ref_ToNum A l c w hD
end
end Go.Proofs.YtdlmamnnamlleaaDoor
