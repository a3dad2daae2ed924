/- The law's function sits: at any other step. -/
import Derived.Test.YtdlmamnnamlleaaLg8
namespace Go.Proofs.Ytdlmamnnamlleaa
open Go.ChangeShapes Go.WideShapes Go.ChangeAt Go.RowKit
set_option maxHeartbeats 1000000
set_option maxRecDepth 100000

set_option maxHeartbeats 8000000 in
theorem sits_6 (B g bm gt : Nat) (most last who k id n : Int) (l : List (Int × Bool)) (v : Value) (w : World) (h : SitAt w B g bm gt most last who l v) (hk : k ≠ 1 ∧ k ≠ 2 ∧ k ≠ 3 ∧ k ≠ 4 ∧ k ≠ 5) (_hid : (Lit.int .i64 id).wf = true) (hll : l.length ≤ 1000) (_hla : last < 1000000) :
    Calls Try.prog 38 #[.pointer (some ⟨g, 0, none⟩), .pointer (some ⟨gt, 0, none⟩), .int .i64 most, .agg #[.int .i64 k, .int .i64 id, .int .i64 n]] w (SitsR B g bm gt most last l w) := by
  obtain ⟨q1', q2', q3', q4', q5'⟩ := hk
  have q1 : (k == 1) = false := by rw [beq_eq_false_iff_ne]; exact q1'
  have q2 : (k == 2) = false := by rw [beq_eq_false_iff_ne]; exact q2'
  have q3 : (k == 3) = false := by rw [beq_eq_false_iff_ne]; exact q3'
  have q4 : (k == 4) = false := by rw [beq_eq_false_iff_ne]; exact q4'
  have q5 : (k == 5) = false := by rw [beq_eq_false_iff_ne]; exact q5'
  clear q1' q2' q3' q4' q5'
  obtain ⟨A, c, hv⟩ := own_formI h.own
  subst hv
  have hb0 := below_alloc' w (.cells #[.int .i64 k, .int .i64 id, .int .i64 n] 81)
  have h0 := h.step hb0
  have hB0 : B ≤ w.heap.size := Nat.le_trans h.b3 (Nat.le_of_lt h.tok.lt)
  have hx0 : (w.alloc (.cells #[.int .i64 k, .int .i64 id, .int .i64 n] 81)).cell? ⟨w.heap.size, 0, none⟩ = some (.int .i64 k) := by rw [World.cell?_alloc_at _ _ _ _ rfl]; rfl
  have hx1 : (w.alloc (.cells #[.int .i64 k, .int .i64 id, .int .i64 n] 81)).cell? ⟨w.heap.size, 1, none⟩ = some (.int .i64 id) := by rw [World.cell?_alloc_at _ _ _ _ rfl]; rfl
  have hx2 : (w.alloc (.cells #[.int .i64 k, .int .i64 id, .int .i64 n] 81)).cell? ⟨w.heap.size, 2, none⟩ = some (.int .i64 n) := by rw [World.cell?_alloc_at _ _ _ _ rfl]; rfl
  have hg7 : w.heap.size < (w.alloc (.cells #[.int .i64 k, .int .i64 id, .int .i64 n] 81)).heap.size := by simp
  have k1 := h0.tok.c1
  have klt := h.tok.lt
  have hrd := Rd.of_own h0.own
  have hspec := Lib.hid (at_spec (asc_ses h.desk.mp.asc) id)
  have hal := Lib.hid (alone_spec l)
  have h0H := Lib.hid h0
  have n7 : gt ≠ w.heap.size := by omega
  clear h h0
  go_enter Try.func38, Try.ntmps38
  go_wp2
  refine st_loop _ A l c w.heap.size id _ _ _ _ _ _ _ _ _ _ _ _ _ _ _ _ _ _ _ _ _ _ _ _ _ _ _ _ _ _ _ _ _ _ _ _ _ _ _ _ _ _ _ _ _ _ _ _ _ _ _ _ _ _ _ _ _ _ _ _ _ _ _ _ _ _ _ _ _ _ _ _ _ _ _ _ _ _ _ _ _ _ _ _ _ _ _ _ _ _ _ _ _ _ _ _ _ _ _ _ _ _ _ _ _ _ _ _ _ _ _ _ _ _ _ _ _ _ _ _ _ _ _ _ _ _ _ _ _ _ _ _ _ _ _ _ _ _ _ _ _ _ _ _ _ _ _ _ _ _ _ _ _ _ _ _ _ _ _ _ _ _ _ _ _ _ _ _ _ _ _ _ _ _ _ _ _ _ _ _ _ _ _ _ _ _ _ _ _ _ _ _ _ _ _ _ _ _ _ _ _ _ _ _ _ _ _ _ _ _ _ _ _ _ _ _ _ _ _ _ _ _ _ _ _ _ _ _ _ _ _ _ _ _ _ _ _ _ _ _ _ _ _ _ _ _ _ _ _ _ _ _ _ _ _ _ _ _ _ _ _ _ _ _ _ _ _ _ _ _ _ _ _ _ _ _ _ hx1 hg7 hrd (by omega) ?_
  intro t11 t12 t25 t26 t27 t28 t29 t30 t31 t32 t33 t34 t35 t36 t37 t38 t39 t40 t41 w2 hb2
  have y0 := (hb2.cell (p := ⟨w.heap.size, 0, none⟩) hg7).trans hx0
  have y1 := (hb2.cell (p := ⟨w.heap.size, 1, none⟩) hg7).trans hx1
  have y2 := (hb2.cell (p := ⟨w.heap.size, 2, none⟩) hg7).trans hx2
  have h2 := h0H.out.step hb2
  have hL2 := below_step hb2 (hb0.mono hB0) hB0
  have hg72 : w.heap.size < w2.heap.size := Nat.lt_of_lt_of_le hg7 hb2.size
  rw [hal.out]
  clear hx0 hx1 hx2 k1 hrd hb0 hb2 h0H hg7 klt
  generalize hG7 : w.heap.size = g7 at *
  obtain ⟨z0, z1, z2, zf, zlt⟩ := h2.tok
  have h2H := Lib.hid h2
  rcases hspec.out with ⟨e1, e2⟩ | ⟨i, hi, e1, e2, e3⟩
  · rw [e1]
    have hz : Hid (stateP l who id = (0, 6)) := by show _ = _; unfold stateP; rw [e2]
    have hlo := Lib.hid (desk_State g bm most last who id l _ h2.desk _hid h2H.out.hw)
    rw [hz.out] at hlo
    clear e1 e2 h2
    go_wp2_with fail
    refine hlo.out.mono ?_
    rintro e w4 ⟨rfl, hb4⟩
    have hs4 := h2H.out.step hb4
    have hL4 := below_step hb4 hL2 (Nat.le_trans hB0 (by omega))
    go_wp2
    go_ret
    exact ⟨ret_bool (by simp), last, who, l, _, hs4, by omega, by omega, hL4⟩
  · rw [e1]
    have hwh := h2H.out.hw
    have hw3 : IntKind.i64.wrap (3 + who) = 3 + who := by rw [IntKind.wrap_i64]; omega
    have hw1 : IntKind.i64.wrap (1 + who) = 1 + who := by rw [IntKind.wrap_i64]; omega
    have hi0 : decide ((i : Int) < 0) = false := by simp
    clear hwh
    cases hu : l[i].2
    all_goals
      rw [hu] at e2
      have hlo := Lib.hid (desk_State g bm most last who id l _ h2.desk _hid h2H.out.hw)
    · have hz : Hid (stateP l who id = (1 + who, 0)) := by show _ = _; unfold stateP; rw [e2]
      rw [hz.out] at hlo
      clear e1 e2 h2
      go_wp2_with fail
      refine hlo.out.mono ?_
      rintro e w4 ⟨rfl, hb4⟩
      have hs4 := h2H.out.step hb4
      have hL4 := below_step hb4 hL2 (Nat.le_trans hB0 (by omega))
      have hs4H := Lib.hid hs4
      obtain ⟨u0, u1, u2, uf, ult⟩ := hs4.tok
      obtain ⟨ad, rfl, hbl, a1, a2, a3⟩ := seat_at (Rd.of_own hs4.own) hi
      rw [hu] at a2
      clear hs4
      have hil : (i : Int) < (l.length : Int) := by omega
      go_wp2
      go_ret
      exact ⟨ret_bool (by simp), last, who, l, _, hs4H.out, by omega, by omega, hL4⟩
    · have hz : Hid (stateP l who id = (3 + who, 0)) := by show _ = _; unfold stateP; rw [e2]
      rw [hz.out] at hlo
      clear e1 e2 h2
      go_wp2_with fail
      refine hlo.out.mono ?_
      rintro e w4 ⟨rfl, hb4⟩
      have hs4 := h2H.out.step hb4
      have hL4 := below_step hb4 hL2 (Nat.le_trans hB0 (by omega))
      have hs4H := Lib.hid hs4
      obtain ⟨u0, u1, u2, uf, ult⟩ := hs4.tok
      obtain ⟨ad, rfl, hbl, a1, a2, a3⟩ := seat_at (Rd.of_own hs4.own) hi
      rw [hu] at a2
      clear hs4
      have hil : (i : Int) < (l.length : Int) := by omega
      go_wp2
      go_ret
      exact ⟨ret_bool (by simp), last, who, l, _, hs4H.out, by omega, by omega, hL4⟩
end Go.Proofs.Ytdlmamnnamlleaa
