/- LoginPlays: what is handed in, opened; the law's function joined. -/
import Derived.Test.YtdlmamnnamlleaaLg12
import Derived.Test.YtdlmamnnamlleaaArgs
import Derived.Test.YtdlmamnnamlleaaArgs2
namespace Go.Proofs.Ytdlmamnnamlleaa
open Go.ChangeShapes Go.WideShapes Go.ChangeAt Go.RowKit
set_option maxHeartbeats 1000000
set_option maxRecDepth 100000

theorem flat_st_len (l : List (Int × Int × Int)) : (l.flatMap stC).length = l.length * 3 := by
  induction l with
  | nil => rfl
  | cons x r ih => rw [List.flatMap_cons, List.length_append, ih]; simp [stC]; omega
theorem open_steps {H : Type} {enc : TypeId × Value → H} {w : World} {base b0 : Nat} {held : Bool} {r : Reach} {v : Value} {d : DataW H} {p : List MemPlace}
    (hv : Value.okWide Try.prog w r b0 66 v) (h : DataW.Trod enc Try.prog w base (fun _ => true) held 66 v d p) :
    ∃ (A : Option Addr) (l : List (Int × Int × Int)) (c : Nat), v = .slice A l.length c ∧ Rd w w.heap.size A (l.flatMap stC) ∧ (∀ p ∈ l, (Lit.int .i64 p.2.1).wf = true) ∧ l.length ≤ 9223372036854775807 := by
  obtain ⟨fuel, hf⟩ := h
  obtain ⟨a0, n0, c0, rfl⟩ := okWide_slice Try.underlying66 hv
  obtain ⟨A, n, c, hv, hnc, hcm, hi⟩ := open_rows Try.underlying66 Try.underlying81 (by kernel_rfl) (by kernel_rfl) hf
  obtain ⟨l, hl, hp⟩ := list_of n (fun i (x : Int × Int × Int) => (∃ a, A = some a ∧ a.block < w.heap.size ∧ w.cell? (a.add (i * 3)) = some (.int .i64 x.1) ∧ w.cell? (a.add (i * 3 + 1)) = some (.int .i64 x.2.1) ∧ w.cell? (a.add (i * 3 + 2)) = some (.int .i64 x.2.2)) ∧ (Lit.int .i64 x.2.1).wf = true) (by
    intro i hin
    obtain ⟨a, rfl, hf⟩ := hi i hin
    obtain ⟨u0, y0, m0, c0, t0⟩ := hf 0 _ rfl
    obtain ⟨u1, y1, m1, c1, t1⟩ := hf 1 _ rfl
    obtain ⟨u2, y2, m2, c2, t2⟩ := hf 2 _ rfl
    obtain ⟨z0, hz0, -, -⟩ := DataW.trod_int Try.underlying3 t0
    obtain ⟨z1, hz1, -, hw1⟩ := DataW.trod_int Try.underlying3 t1
    obtain ⟨z2, hz2, -, -⟩ := DataW.trod_int Try.underlying3 t2
    injection hz0 with hz0
    injection hz1 with hz1
    injection hz2 with hz2
    subst hz0 hz1 hz2
    have hlt := cell_lt c0
    rw [addr_block] at hlt
    exact ⟨⟨z0, z1, z2⟩, ⟨a, rfl, hlt, c0, c1, c2⟩, hw1⟩)
  refine ⟨A, l, c, by rw [hl]; exact hv, fun j u hu => ?_, fun x hx => ?_, by unfold maxLen at hcm; omega⟩
  · have hj : j / 3 < l.length := by
      rcases Nat.lt_or_ge (j / 3) l.length with h | h
      · exact h
      · exfalso
        have hlen := flat_st_len l
        have := (List.getElem?_eq_some_iff.1 hu).1
        omega
    obtain ⟨⟨a, rfl, hb, d0, d1, d2⟩, -⟩ := hp (j / 3) hj
    obtain ⟨f0, f1, f2⟩ := st_cells l (j / 3)
    rw [List.getElem?_eq_getElem hj] at f0 f1 f2
    refine ⟨a, rfl, hb, ?_⟩
    rcases (show j = j / 3 * 3 ∨ j = j / 3 * 3 + 1 ∨ j = j / 3 * 3 + 2 by omega) with e | e | e
    · rw [e, f0] at hu; injection hu with hu; rw [e, d0, ← hu]
    · rw [e, f1] at hu; injection hu with hu; rw [e, d1, ← hu]
    · rw [e, f2] at hu; injection hu with hu; rw [e, d2, ← hu]
  · obtain ⟨i, hi2, rfl⟩ := List.getElem_of_mem hx
    exact (hp i hi2).2
set_option maxHeartbeats 8000000 in
theorem loginPlays_far (most : Int) (S : Option Addr) (st : List (Int × Int × Int)) (c : Nat) (w : World) (hs : 60 < st.length) :
    Calls Try.prog 7 #[.int .i64 most, .slice S st.length c] w fun e w' => e = .returned (.bool true) ∧ Below w.heap.size w w' := by
  have hs1 : (60 : Int) < (st.length : Int) := by omega
  have hbr := Lib.hid (Below.refl w.heap.size w)
  go_enter Try.func7, Try.ntmps7
  go_wp2
  go_ret
  exact ⟨ret_bool (by simp), hbr.out⟩
theorem loginPlays_all (most : Int) (S : Option Addr) (st : List (Int × Int × Int)) (c : Nat) (w : World) (hS : Rd w w.heap.size S (st.flatMap stC)) (hwf : ∀ p ∈ st, (Lit.int .i64 p.2.1).wf = true) :
    Calls Try.prog 7 #[.int .i64 most, .slice S st.length c] w fun e w' => e = .returned (.bool true) ∧ Below w.heap.size w w' := by
  rcases Nat.lt_or_ge 60 st.length with h | h
  · exact loginPlays_far most S st c w h
  · by_cases hm : most < 1 ∨ 16 < most
    · exact loginPlays_out most S st c w h hm
    · exact loginPlays_in most S st c w hS hwf h (by omega)
end Go.Proofs.Ytdlmamnnamlleaa
