/- What came in as a slice of attributes. -/
import Derived.Test.YtdlmamnnamlleaaAttr3
import Derived.Test.YtdlmamnnamlleaaArgs
import Derived.Test.YtdlmamnnamlleaaArgs2
namespace Go.Proofs.Ytdlmamnnamlleaa
open Go.ChangeShapes Go.WideShapes Go.ChangeAt Go.RowKit

set_option maxRecDepth 100000 in
theorem open_attrsC {H : Type} {enc : TypeId × Value → H} {w : World} {base b0 : Nat} {held : Bool} {r : Reach} {v : Value} {d : DataW H} {p : List MemPlace}
    (hv : Value.okWide Try.prog w r b0 32 v) (h : DataW.Trod enc Try.prog w base (fun _ => true) held 32 v d p) (hw : Wt Try.prog 32 d) :
    ∃ (A : Option Addr) (l : List At) (c : Nat), v = .slice A l.length c ∧ Ats w w.heap.size A l ∧ l.length ≤ 9223372036854775807 ∧ l.length ≤ c ∧ c ≤ 9223372036854775807 := by
  obtain ⟨fuel, hf⟩ := h
  obtain ⟨a0, n0, c0, rfl⟩ := okWide_slice Try.underlying32 hv
  obtain ⟨A, n, c, hv, hnc, hcm, -, hi⟩ := open_rows_wt Try.underlying32 Try.underlying120 (by kernel_rfl) (by kernel_rfl) hf hw
  obtain ⟨l, hl, hp⟩ := list_of n (fun i (x : At) => (∃ a, A = some a ∧ a.block < w.heap.size ∧ w.cell? (a.add (i * 2)) = some (.int .i64 x.kind) ∧ w.cell? (a.add (i * 2 + 1)) = some (.slice x.A x.body.length x.cap)) ∧
      Rd w w.heap.size x.A (bytesV x.body) ∧ x.body.length ≤ x.cap ∧ (x.cap ≤ 9223372036854775807 ∧ x.body.length ≤ 140737488351232)) (by
    intro i hin
    obtain ⟨a, rfl, hf⟩ := hi i hin
    obtain ⟨u0, y0, m0, c0, t0, -⟩ := hf 0 _ rfl
    obtain ⟨u1, y1, m1, c1, t1, w1⟩ := hf 1 _ rfl
    obtain ⟨z, hz, -, -⟩ := DataW.trod_int Try.underlying3 t0
    injection hz with hz
    subst hz
    obtain ⟨A', l', c', rfl, hr, h1, h2⟩ := open_bytes_wt Try.underlying59 Try.underlying5 (by kernel_rfl) (by kernel_rfl) t1 w1
    have hlt := cell_lt c0
    rw [addr_block] at hlt
    exact ⟨⟨z, A', c', l'⟩, ⟨a, rfl, hlt, c0, c1⟩, hr, h1, Nat.le_trans h2 (by omega), Nat.le_trans h1 h2⟩)
  refine ⟨A, l, c, by rw [hl]; exact hv, ⟨fun j u hu => ?_, fun x hx => ?_⟩, by unfold maxLen at hcm; omega, by omega, by unfold maxLen at hcm; omega⟩
  · have hj : j / 2 < l.length := by
      rcases Nat.lt_or_ge (j / 2) l.length with h | h
      · exact h
      · exfalso
        obtain ⟨f1, f2⟩ := at_cells l (j / 2)
        rw [List.getElem?_eq_none h] at f1 f2
        rcases Nat.mod_two_eq_zero_or_one j with hm | hm
        · rw [show j = j / 2 * 2 by omega, f1] at hu; cases hu
        · rw [show j = j / 2 * 2 + 1 by omega, f2] at hu; cases hu
    obtain ⟨⟨a, e1, e2, e3, e4⟩, -⟩ := hp (j / 2) hj
    obtain ⟨f1, f2⟩ := at_cells l (j / 2)
    rw [List.getElem?_eq_getElem hj] at f1 f2
    refine ⟨a, e1, e2, ?_⟩
    rcases Nat.mod_two_eq_zero_or_one j with hm | hm
    · have e : j = j / 2 * 2 := by omega
      rw [e] at hu ⊢
      rw [f1] at hu
      rw [e3, ← hu]; rfl
    · have e : j = j / 2 * 2 + 1 := by omega
      rw [e] at hu ⊢
      rw [f2] at hu
      rw [e4, ← hu]; rfl
  · obtain ⟨i, hi', rfl⟩ := List.getElem_of_mem hx
    exact (hp i hi').2

end Go.Proofs.Ytdlmamnnamlleaa
