/- Contracts of the document's Fe: small, feOf, Modulus, Field, Num, To, Over. -/
import Derived.Test.YtodcjeaannfbnaaFe3
import Derived.Test.YtodcjeaannfbnaaNum5
import Derived.Test.YtodcjeaannfbnaaTail
import Derived.Test.YtodcjeaannfbnaaBld
namespace Go.Proofs.Ytodcjeaannfbnaa
open Go.ChangeShapes Go.WideShapes Go.ChangeAt Go.RowKit
set_option maxHeartbeats 2000000
set_option maxRecDepth 100000
attribute [local go_sem ↓] load_fe store_fe execl_fe execs_fe load_num store_num execl_num execs_num
attribute [local go_sem] isHead_mk blkOf_mk isAgg_mk cellsV_mk row_drew rowAt_drew row_new_cells row_old rowAt_new rowAt_old setRow_new zeroFe zeroNum
theorem dgt_zero (i : Nat) : dgt 0 i = 0 := by unfold dgt; rw [Nat.zero_div]
theorem fe1 {n : Nat} (hn : n < 65536) : #[Value.int IntKind.i64 (n : Int), Value.int IntKind.i64 0, Value.int IntKind.i64 0, Value.int IntKind.i64 0, Value.int IntKind.i64 0, Value.int IntKind.i64 0, Value.int IntKind.i64 0, Value.int IntKind.i64 0, Value.int IntKind.i64 0, Value.int IntKind.i64 0, Value.int IntKind.i64 0, Value.int IntKind.i64 0, Value.int IntKind.i64 0, Value.int IntKind.i64 0, Value.int IntKind.i64 0, Value.int IntKind.i64 0] = arrK .i64 16 (dgt n) := by
  have h : #[Value.int IntKind.i64 (n : Int), Value.int IntKind.i64 0, Value.int IntKind.i64 0, Value.int IntKind.i64 0, Value.int IntKind.i64 0, Value.int IntKind.i64 0, Value.int IntKind.i64 0, Value.int IntKind.i64 0, Value.int IntKind.i64 0, Value.int IntKind.i64 0, Value.int IntKind.i64 0, Value.int IntKind.i64 0, Value.int IntKind.i64 0, Value.int IntKind.i64 0, Value.int IntKind.i64 0, Value.int IntKind.i64 0] = arrK .i64 16 fun i => if i = 0 then n else 0 := by kernel_rfl
  rw [h]
  refine arrK_congr fun i hi => ?_
  unfold dgt
  by_cases e : i = 0
  · subst e; rw [if_pos rfl]; omega
  · rw [if_neg e, Nat.div_eq_of_lt]
    obtain ⟨j, rfl⟩ : ∃ j, i = j + 1 := ⟨i - 1, by omega⟩
    rw [Nat.pow_succ]
    have : 0 < 65536 ^ j := Nat.pow_pos (by omega)
    exact Nat.lt_of_lt_of_le hn (Nat.le_mul_of_pos_left _ this)
theorem build_fe {n : Nat} (hn : n < 65536) (w : World) : (Instr.build 26 #[(0, Value.int IntKind.i64 (n : Int))]).run Try.prog w = .ok (.agg (arrK .i64 16 (dgt n))) w := (run_build w _ _ _ (by kernel_rfl)).trans (by rw [← fe1 hn])
theorem ref_small (n : Nat) (w : World) (hn : n < 65536) : Calls Try.prog 89 #[.int .i64 n] w fun e w' => e = .returned (feV n) ∧ Below w.heap.size w w' := by
  unfold feV
  have hb := Lib.hid (fun V => build_fe hn V)
  clear hn
  have hcz := arrK_cells .i64 16 fun _ => 0
  have hcp := arrK_cells .i64 16 (dgt n)
  have hL0 := below_alloc w (Obj.cells (arrK .i64 16 fun _ => 0) 26)
  have hR0 : Row (w.alloc (Obj.cells (arrK .i64 16 fun _ => 0) 26)) w.heap.size 16 := (row_new rfl).2 hcz.1
  go_enter Try.func89, Try.ntmps89
  go_upto_region 1 with (fail)
  generalize w.alloc _ = W0 at *
  go_wp2_with (refine wpList_bldA (vx := Value.int IntKind.i64 (n : Int)) rfl rfl (by go_simp) (hb.out _) ?_)
  exact ret_stored (p := 2) (ty := 26) (g := w.heap.size) (n := 16) (c := arrK .i64 16 (dgt n)) rfl Try.underlying26 rfl (by kernel_rfl) rfl hR0 hcp.1 rfl ⟨rfl, below_setRow hL0 (Nat.le_refl _)⟩
theorem digN {u : Value} {m : Nat} (i : Nat) (w : World) (hu : IsV w u m) : Calls Try.prog 145 #[u, .int .i64 (i : Int)] w fun e w' => e = .returned (.int .i64 (dgt m i : Nat)) ∧ w = w' := by
  obtain ⟨A, l, c, rfl, hD, rfl, hl⟩ := hu
  refine (ref_digit A l c i w hD).mono ?_
  rintro e w' ⟨rfl, rfl⟩
  rw [digZ_nat, Dv.at_ (Dv.mk' hD.sm)]
  exact ⟨rfl, rfl⟩
theorem ref_feOf {u : Value} {n : Nat} (w : World) (hu : IsV w u n) : Calls Try.prog 85 #[u] w fun e w' => e = .returned (feV n) ∧ Below w.heap.size w w' := by
  unfold feV
  have hcz := arrK_cells .i64 16 fun _ => 0
  have hL0 : Below w.heap.size w ((w.alloc (Obj.cells (arrK .i64 16 fun _ => 0) 26)).alloc (Obj.cells (arrK .i64 16 fun _ => 0) 26)) := by go_grown
  have hR0 : Row ((w.alloc (Obj.cells (arrK .i64 16 fun _ => 0) 26)).alloc (Obj.cells (arrK .i64 16 fun _ => 0) 26)) w.heap.size 16 := ((At.new (k := .i64) (f := fun _ => 0) _ rfl).old _).row
  have hX0 : At ((w.alloc (Obj.cells (arrK .i64 16 fun _ => 0) 26)).alloc (Obj.cells (arrK .i64 16 fun _ => 0) 26)) (w.heap.size + 1) .i64 16 (mixD (dgt n) 0) := (At.new _ (by simp)).congr fun i _ => by simp [mixD]
  have hU0 : IsV ((w.alloc (Obj.cells (arrK .i64 16 fun _ => 0) 26)).alloc (Obj.cells (arrK .i64 16 fun _ => 0) 26)) u n := (hu.alloc _).alloc _
  have hL := Lib.hid hL0
  have hR := Lib.hid hR0
  have hX := Lib.hid hX0
  have hU := Lib.hid hu
  clear hL0 hR0 hX0 hU0 hu
  go_enter Try.func85, Try.ntmps85
  go_wp2_with fail
  generalize (w.alloc _).alloc _ = W0 at *
  go_loopw [5] (fun i wr => ∃ s : Nat, i = .int .i64 s ∧ s ≤ 16 ∧ Hid (Row wr w.heap.size 16) ∧ Hid (At wr (w.heap.size + 1) .i64 16 (mixD (dgt n) s)) ∧ Hid (Below w.heap.size w wr)) (fun i _ => 16 - (intOf i).toNat)
  case atStart => exact ⟨0, rfl, by omega, hR, hX, hL⟩
  case round =>
    clear hR hX hL
    obtain ⟨s, rfl, hs, hR, hX, hL⟩ := hrel
    by_cases h16 : s = 16
    · subst h16
      rw [show ((16 : Nat) : Int) = 16 from rfl]
      have hX2 := hX.out.congr (f' := dgt n) fun i hi => by unfold mixD; rw [if_pos hi]
      have hr1 := hX2.row
      have hr2 := hX2.eq
      have hr3 := hR.out
      have hcv := arrK_cells .i64 16 (dgt n)
      clear hX hU hX2
      go_wp2_with fail
      exact ret_stored (p := 2) (ty := 26) (g := w.heap.size) (n := 16) (c := arrK .i64 16 (dgt n)) rfl Try.underlying26 rfl (by kernel_rfl) rfl hr3 hcv.1 rfl ⟨rfl, below_setRow hL.out (by omega)⟩
    · have hs16 : (s : Int) < 16 := by omega
      have hc := Lib.hid (digN s wr (hU.out.step hL.out))
      have cx := hX.out.cell (i := s) (by omega)
      have fx := hX.out.row.frozen s
      have hX2 := Lib.hid ((hX.out.set s (dgt n s)).congr fun p _ => mixD_step (dgt n) s p)
      have hR2 : Hid (Row (wr.setCell ⟨w.heap.size + 1, s, none⟩ (.int .i64 (dgt n s : Nat))) w.heap.size 16) := Lib.hid (row_setCell.2 hR.out)
      have hL2 := Lib.hid (show Below w.heap.size w (wr.setCell ⟨w.heap.size + 1, s, none⟩ (.int .i64 (dgt n s : Nat))) from hL.out.setCell (by simp <;> omega) _)
      clear hX hR hL
      generalize mixD (dgt n) s s = yy at *
      generalize dgt n s = d at *
      go_wp2_with fail
      refine hc.out.mono ?_
      rintro e w' ⟨rfl, rfl⟩
      dsimp only
      go_wp2_with fail
      go_roundw
      case rel => exact ⟨s + 1, by go_num, by omega, hR2, hX2, hL2⟩
      case measure => simp [intOf]; omega
theorem ref_Modulus (w : World) : Calls Try.prog 17 #[] w (RetN fP w) := by
  have h0 := Lib.hid (fun V => ref_TwoTo 255 V (by omega))
  have hbg := Lib.hid (show 2 ^ 255 < big from lt_big (k := 256) (Nat.pow_lt_pow_right (by omega) (by omega)) (by omega))
  have hle := Lib.hid (show 19 ≤ 2 ^ 255 by decide +kernel)
  rw [show fP = 2 ^ 255 - 19 from rfl]
  obtain ⟨Q, hQ⟩ : ∃ Q, 2 ^ 255 = Q := ⟨_, rfl⟩
  rw [hQ] at h0 hbg hle ⊢
  clear hQ
  go_enter Try.func17, Try.ntmps17
  go_wp2_with fail
  refine (h0.out _).mono ?_
  rintro e w2 ⟨v, rfl, hv, hb2⟩
  have hV := Lib.hid ((hv.toV hbg.out).alloc (.cells #[.int .i64 19] 3))
  have hN := Lib.hid (IsV.lit w2 3 (d := 19) (by omega))
  have hL := Lib.hid (Below.trans hb2 ((below_alloc w2 (.cells #[.int .i64 19] 3)).mono hb2.size))
  clear hv hb2
  dsimp only
  go_wp2_with fail
  refine (minusN _ hV.out hN.out hle.out).mono ?_
  rintro e w3 ⟨v3, rfl, hv3, hb3⟩
  have hv4 := Lib.hid hv3
  have hL3 := Lib.hid (below_step hb3 hL.out (Nat.le_refl _))
  clear hv3 hb3
  dsimp only
  go_wp2_with fail
  go_ret
  exact ⟨v3, rfl, hv4.out.toN, hL3.out⟩
end Go.Proofs.Ytodcjeaannfbnaa
