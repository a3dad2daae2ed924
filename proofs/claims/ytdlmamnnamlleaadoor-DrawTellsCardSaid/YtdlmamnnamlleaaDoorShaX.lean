/- Contracts of package hash's states: New, Write. -/
import Derived.Test.YtdlmamnnamlleaaDoorShaW
import Derived.Deep.WholeRow
namespace Go.Proofs.YtdlmamnnamlleaaDoor
open Go.ChangeShapes Go.WideShapes Go.ChangeAt Go.RowKit
set_option maxHeartbeats 2000000
set_option maxRecDepth 100000
attribute [local irreducible] arrV
attribute [local go_sem ↓] load_state store_state load_words load_left store_words
attribute [local go_sem] isHead_mk isPart_mk offOf_mk blkOf_mk isAgg_mk cellsV_mk row_drew rowAt_drew row_new_cells row_old rowAt_new rowAt_old setRow_new stC_words stC_left
attribute [local go_sem ↓] Go.wp_at_zero Go.wp_at_succ

theorem zero_state (w : World) : (zeroValue 99).run Tryd.prog w = .ok (.agg stZ) w := (zero_of_info (n := 73) (by kernel_rfl)).1 w
theorem zero_cellsS : Tryd.zeroCells99 = stZ := by kernel_rfl
attribute [local go_sem] zero_state zero_cellsS

theorem hash_write (K : Nat → W32) (A : Option Addr) (l : List UInt8) (c : Nat) (s : St) (w : World) (hs : s.ok) (hrd : Rd w w.heap.size A (bytesV l)) (hlc : l.length ≤ c) (hcm : c ≤ maxLen)
    (hK : ∀ i < 64, w.cell? ⟨1, i, none⟩ = some (u32v (K i))) (hKl : 1 < w.heap.size) :
    Calls Tryd.prog 75 #[.agg s.cells, .slice A l.length c] w fun e w' => e = .returned (.agg (s.write K l).cells) ∧ Below w.heap.size w w' := by
  have hlm : l.length ≤ 9223372036854775807 := by unfold maxLen at hcm; omega
  have hch := stC_cells s.h s.m s.f
  have hcz := stZ_cells
  go_enter Tryd.func75, Tryd.ntmps75
  go_wp2
  have hL0 : Below w.heap.size w ((w.alloc (Obj.cells s.cells 99)).alloc (Obj.cells stZ 99)) := by go_grown
  have hR0 : Row ((w.alloc (Obj.cells s.cells 99)).alloc (Obj.cells stZ 99)) w.heap.size 73 := (row_old (by simp)).2 ((row_new rfl).2 hch.1)
  have hr0 : rowAt ((w.alloc (Obj.cells s.cells 99)).alloc (Obj.cells stZ 99)) w.heap.size = (s.write K (l.take 0)).cells := (rowAt_old (by simp)).trans (rowAt_new rfl)
  have hR1 : Row ((w.alloc (Obj.cells s.cells 99)).alloc (Obj.cells stZ 99)) (w.heap.size + 1) 73 := (row_new (by simp)).2 hcz.1
  generalize ((w.alloc (Obj.cells s.cells 99)).alloc (Obj.cells stZ 99)) = W0 at *
  go_loopw [9] (fun i wr => ∃ k : Nat, i = .int .i64 k ∧ k ≤ l.length ∧ Row wr w.heap.size 73 ∧ rowAt wr w.heap.size = (s.write K (l.take k)).cells ∧ Row wr (w.heap.size + 1) 73 ∧ Below w.heap.size w wr) (fun i _ => l.length - (intOf i).toNat)
  case atStart => exact ⟨0, rfl, by omega, hR0, hr0, hR1, hL0⟩
  case round =>
    clear hR0 hr0 hR1 hL0
    obtain ⟨k, rfl, hk, hR, hr, hRo, hL⟩ := hrel
    by_cases hkl : k = l.length
    · subst hkl
      rw [List.take_length] at hr
      have hcs := stC_cells (s.write K l).h (s.write K l).m (s.write K l).f
      obtain ⟨s1, hs1⟩ : ∃ s1, s1 = s.write K l := ⟨_, rfl⟩
      rw [← hs1] at hr hcs
      have hHs1 := Lib.hid hs1
      clear hs1
      go_wp2
      refine ret_row rfl Tryd.underlying99 rfl (by kernel_rfl) rfl ((row_setRow_same rfl hRo).2 hcs.1) rfl ?_
      rw [rowAt_setRow_same hRo]
      rw [← hHs1.out]
      exact ⟨rfl, below_setRow hL (by omega)⟩
    · have hkl2 : k < l.length := by omega
      obtain ⟨ad, rfl, hlt, hc⟩ := hrd k (u8v l[k]) (by simp [bytesV, hkl2])
      have hc' := (hL.cell (p := ad.add k) (by rw [addr_block]; exact hlt)).trans hc
      have hok := St.write_ok (K := K) (l.take k) hs
      have hst := St.write_take (K := K) (s := s) hkl2
      generalize s.write K (l.take k) = s1 at *
      have hc8 : wr.cell? ⟨w.heap.size, 8, none⟩ = some (.int .u64 (s1.m : Int)) := by rw [hR.cell, hr, stC_m]
      have hf8 := hR.frozen 8
      have hj : s1.m % 64 < 64 := by omega
      obtain ⟨j, hjj⟩ : ∃ j, j = s1.m % 64 := ⟨_, rfl⟩
      have hjm : (s1.m : Int) % 64 = j := by omega
      rw [← hjj] at hj
      have hfj := hR.frozen (9 + j)
      have hcj : wr.cell? ⟨w.heap.size, 9 + j, none⟩ = some (.int .u8 (s1.f j : Int)) := by rw [hR.cell, hr, stC_at_left _ _ _ hj]
      have hnm : IntKind.u64.wrap ((s1.m : Int) + 1) = (nextM s1.m : Int) := by rw [IntKind.wrap_u64]; unfold nextM; omega
      have hne : (8 = 9 + j) = False := by simp; omega
      have hj0 : (0 : Int) ≤ (j : Int) := by omega
      have hj64 : (j : Int) < 64 := by omega
      have hHr := Lib.hid hr
      have hHst := Lib.hid hst
      have hHj := Lib.hid hjj
      obtain ⟨W1, hW1⟩ : ∃ W1, W1 = (wr.setCell ⟨w.heap.size, 9 + j, none⟩ (.int .u8 (l[k].toNat : Int))).setCell ⟨w.heap.size, 8, none⟩ (.int .u64 (nextM s1.m : Int)) := ⟨_, rfl⟩
      have hR1 : Row W1 w.heap.size 73 := by rw [hW1]; exact row_setCell.2 (row_setCell.2 hR)
      have hRo1 : Row W1 (w.heap.size + 1) 73 := by rw [hW1]; exact row_setCell.2 (row_setCell.2 hRo)
      have hr1 : rowAt W1 w.heap.size = stC s1.h (nextM s1.m) (upd s1.f j l[k].toNat) := by rw [hW1, rowAt_setCell_same, rowAt_setCell_same, hr, stC_set_left _ _ _ hj, stC_set_m]
      have hL1 : Below w.heap.size w W1 := by rw [hW1]; exact (hL.setCell (Nat.le_refl _) _).setCell (Nat.le_refl _) _
      have hb1 := upd_lt (j := j) (b := l[k]) hok.2
      have hK1 : ∀ i < 64, W1.cell? ⟨1, i, none⟩ = some (u32v (K i)) := fun i hi => ((bcell hL1).1 _ _ hKl).trans (hK i hi)
      have hlt1 : w.heap.size + 1 < W1.heap.size := hRo1.lt
      by_cases hz : nextM s1.m % 64 = 0
      · have hzb : ((nextM s1.m : Int) % 64 == 0) = true := by simp; omega
        have hstep : s.write K (l.take (k + 1)) = ⟨prs K s1.h fun i => be32 (upd s1.f j l[k].toNat) (4 * i), nextM s1.m, upd s1.f j l[k].toNat⟩ := by rw [hst, hjj]; unfold St.put; rw [if_pos hz]
        have hcon := hash_press s1.h (upd s1.f j l[k].toNat) K W1 hb1 hK1 (by omega)
        generalize (upd s1.f j l[k].toNat) = f1 at *
        generalize (prs K s1.h fun i => be32 f1 (4 * i)) = h1 at *
        rw [hW1] at hcon hR1 hr1 hRo1 hL1 hlt1
        have hHcon := Lib.hid hcon
        have hHstep := Lib.hid hstep
        clear hr hst hjj hrd hcon hstep hch hcz
        have hHW1 := Lib.hid hW1
        clear hW1
        go_wp2_with (go_at_call 103; refine hHcon.out.mono ?_; rintro e w2 ⟨rfl, hB2⟩; have hR2 := row_below hR1 hB2 hR1.lt; have hr2 := (rowAt_below hB2 hR1.lt).trans hr1; have hc8' := h8_cells h1)
        go_round
        case rel =>
          rw [stC_put]
          have hR3 := (row_setRow_same (c' := stC h1 (nextM s1.m) f1) rfl hR2).2 (stC_size _ _ _)
          exact ⟨k + 1, by go_num, by omega, hR3, (rowAt_setRow_same hR2).trans (by rw [hHstep.out]), (row_setRow_far (by omega)).2 (row_below hRo1 hB2 hlt1), below_setRow (hL1.trans (hB2.mono (by omega))) (by omega)⟩
        case measure => simp [intOf]; omega
      · have hzb : ((nextM s1.m : Int) % 64 == 0) = false := by simp; omega
        have hstep : s.write K (l.take (k + 1)) = ⟨s1.h, nextM s1.m, upd s1.f j l[k].toNat⟩ := by rw [hst, hjj]; unfold St.put; rw [if_neg hz]
        have hHr1 := Lib.hid hr1
        have hHstep := Lib.hid hstep
        have hHW1 := Lib.hid hW1
        clear hr hst hjj hrd hstep hch hcz hr1 hW1
        go_wp2
        go_round
        case rel =>
          rw [← hHW1.out]
          exact ⟨k + 1, by go_num, by omega, hR1, hHr1.out.trans (by rw [hHstep.out]), hRo1, hL1⟩
        case measure => simp [intOf]; omega
end Go.Proofs.YtdlmamnnamlleaaDoor
