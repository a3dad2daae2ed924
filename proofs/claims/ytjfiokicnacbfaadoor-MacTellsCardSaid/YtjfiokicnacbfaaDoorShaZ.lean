/- Contract of package hash's Resume. -/
import Derived.Test.YtjfiokicnacbfaaDoorShaS
import Derived.Test.YtjfiokicnacbfaaDoorRet2
namespace Go.Proofs.YtjfiokicnacbfaaDoor
open Go.ChangeShapes Go.WideShapes Go.ChangeAt Go.RowKit
set_option maxHeartbeats 2000000
set_option maxRecDepth 100000
attribute [local irreducible] arrV
attribute [local go_sem ↓] load_state store_state
attribute [local go_sem] isHead_mk isPart_mk offOf_mk blkOf_mk isAgg_mk cellsV_mk row_drew rowAt_drew row_new_cells row_old rowAt_new rowAt_old setRow_new zero_state

def rsH (f : Nat → Nat) (k : Nat) : Nat → W32 := fun i => if i < k then be32 f (4 * i) else iv i
theorem stC_set_h (h h' : Nat → W32) (m : Nat) (f : Nat → Nat) {j : Nat} (hj : j < 8) (he : ∀ i < 8, (if i = j then h' j else h i) = h' i) : (stC h m f).setIfInBounds j (u32v (h' j)) = stC h' m f := by
  unfold stC
  rw [arrV_set]
  refine arrV_congr fun i _ => ?_
  unfold stV
  by_cases e : i < 8
  · rw [if_pos e, if_pos e]
    have := he i e
    by_cases e2 : i = j
    · subst e2; rw [if_pos rfl]
    · rw [if_neg e2] at this ⊢
      rw [this]
  · rw [if_neg (show ¬i = j by omega), if_neg e, if_neg e]
theorem stC_congr {h h' : Nat → W32} {m : Nat} {f : Nat → Nat} (he : ∀ i < 8, h i = h' i) : stC h m f = stC h' m f := by
  unfold stC
  refine arrV_congr fun i _ => ?_
  unfold stV
  by_cases e : i < 8
  · rw [if_pos e, if_pos e, he i e]
  · rw [if_neg e, if_neg e]
theorem stC_at_h {h : Nat → W32} {m : Nat} {f : Nat → Nat} {j : Nat} (hj : j < 8) : (stC h m f)[j]? = some (u32v (h j)) := by
  unfold stC
  rw [arrV_at (by omega)]
  unfold stV
  rw [if_pos hj]
theorem rd_row {w : World} {g n : Nat} {c : Array Value} (hR : Row w g n) (hr : rowAt w g = c) : Rd w w.heap.size (some ⟨g, 0, none⟩) c.toList := by
  obtain ⟨cs, t, hh, hl⟩ := id hR
  have e : cs = c := by rw [← hr]; simp [rowAt, hh]
  have := Rd.of_blk (B := w.heap.size) hh hR.lt
  rw [e] at this
  exact this
/-- What is handed back: a state, and an error's number. -/
theorem hash_Resume_no (f : Nat → Nat) (n : Nat) (w : World) (hn64 : n % 64 ≠ 0) :
    Calls Tryd.prog 14 #[.agg (arrK .u8 32 f), .int .u64 n] w fun e w' => e = .returned (.tuple #[.agg (stC iv 0 fun _ => 0), .int .i64 1]) ∧ Below w.heap.size w w' := by
  have hcz := stZ_cells
  have hcf := arrK_cells .u8 32 f
  have hcn := stC_cells iv 0 fun _ => 0
  have hb : ((n : Int) % 64 != 0) = true := by rw [bne_iff_ne]; omega
  go_enter Tryd.func14, Tryd.ntmps14
  have hL0 : Below w.heap.size w ((w.alloc (Obj.cells (arrK .u8 32 f) 31)).alloc (Obj.cells stZ 28)) := by go_grown
  have hR0 : Row ((w.alloc (Obj.cells (arrK .u8 32 f) 31)).alloc (Obj.cells stZ 28)) (w.heap.size + 1) 73 := (row_new (by simp)).2 hcz.1
  go_wp2_with fail
  generalize ((w.alloc (Obj.cells (arrK .u8 32 f) 31)).alloc (Obj.cells stZ 28)) = W0 at *
  refine (hash_new _).mono ?_
  rintro e w1 ⟨rfl, hb1⟩
  have hL1 := below_step hb1 hL0 (Nat.le_refl _)
  have hR1 := row_below hR0 hb1 hR0.lt
  have hlt := hR1.lt
  clear hb1 hL0 hR0
  have hRz : Row (w1.alloc (Obj.cells stZ 28)) w1.heap.size 73 := (row_new rfl).2 hcz.1
  go_wp2
  exact ret_stored2 (p := 4) (q := 5) (ty := 28) (g := w.heap.size + 1) (n := 73) (c := stC iv 0 fun _ => 0) rfl Tryd.underlying28 rfl (by kernel_rfl) rfl ((row_old hlt).2 hR1) hcn.1 rfl ⟨rfl, below_setRow (hL1.alloc hL1.size _) (by omega)⟩
theorem hash_Resume (f : Nat → Nat) (n : Nat) (w : World) (hn64 : n % 64 = 0) (hf : ∀ i < 32, f i < 256) :
    Calls Tryd.prog 14 #[.agg (arrK .u8 32 f), .int .u64 n] w fun e w' => e = .returned (.tuple #[.agg (stC (fun i => be32 f (4 * i)) n fun _ => 0), .int .i64 0]) ∧ Below w.heap.size w w' := by
  have hcz := stZ_cells
  have hcf := arrK_cells .u8 32 f
  have hcn := stC_cells iv 0 fun _ => 0
  have hb : ((n : Int) % 64 != 0) = false := by rw [bne_eq_false_iff_eq]; omega
  go_enter Tryd.func14, Tryd.ntmps14
  have hL0 : Below w.heap.size w ((w.alloc (Obj.cells (arrK .u8 32 f) 31)).alloc (Obj.cells stZ 28)) := by go_grown
  have hR0 : Row ((w.alloc (Obj.cells (arrK .u8 32 f) 31)).alloc (Obj.cells stZ 28)) (w.heap.size + 1) 73 := (row_new (by simp)).2 hcz.1
  have hF0 : Row ((w.alloc (Obj.cells (arrK .u8 32 f) 31)).alloc (Obj.cells stZ 28)) w.heap.size 32 := (row_old (by simp)).2 ((row_new rfl).2 hcf.1)
  have hf0 : rowAt ((w.alloc (Obj.cells (arrK .u8 32 f) 31)).alloc (Obj.cells stZ 28)) w.heap.size = arrK .u8 32 f := (rowAt_old (by simp)).trans (rowAt_new rfl)
  go_wp2_with fail
  generalize ((w.alloc (Obj.cells (arrK .u8 32 f) 31)).alloc (Obj.cells stZ 28)) = W0 at *
  refine (hash_new _).mono ?_
  rintro e w1 ⟨rfl, hb1⟩
  have hL1 := below_step hb1 hL0 (Nat.le_refl _)
  have hR1 := row_below hR0 hb1 hR0.lt
  have hF1 := row_below hF0 hb1 hF0.lt
  have hf1 := (rowAt_below hb1 hF0.lt).trans hf0
  have hlt := hR1.lt
  clear hb1 hL0 hR0 hF0 hf0
  have hRz : Row (w1.alloc (Obj.cells stZ 28)) w1.heap.size 73 := (row_new rfl).2 hcz.1
  have hc8 : (stC iv 0 fun _ => 0)[8]? = some (.int .u64 0) := stC_m iv 0 fun _ => 0
  have hRn : Row (w1.alloc (Obj.cells (stC iv 0 fun _ => 0) 28)) w1.heap.size 73 := (row_new rfl).2 hcn.1
  have hcx : (w1.alloc (Obj.cells (stC iv 0 fun _ => 0) 28)).cell? ⟨w1.heap.size, 8, none⟩ = some (.int .u64 0) := by rw [hRn.cell, rowAt_new rfl, hc8]
  have hfx := hRn.frozen 8
  have hset : (stC iv 0 fun _ => 0).setIfInBounds 8 (.int .u64 (n : Int)) = stC (rsH f 0) n fun _ => 0 := by
    rw [stC_set_m]
    exact stC_congr fun i _ => by simp [rsH]
  have hRs : Row (w1.alloc (Obj.cells (stC (rsH f 0) n fun _ => 0) 28)) w1.heap.size 73 := (row_new rfl).2 (stC_cells _ _ _).1
  have hRsr : rowAt (w1.alloc (Obj.cells (stC (rsH f 0) n fun _ => 0) 28)) w1.heap.size = stC (rsH f 0) n fun _ => 0 := rowAt_new rfl
  have hRsf : Row (w1.alloc (Obj.cells (stC (rsH f 0) n fun _ => 0) 28)) w.heap.size 32 := (row_old (by omega)).2 hF1
  have hRsfr : rowAt (w1.alloc (Obj.cells (stC (rsH f 0) n fun _ => 0) 28)) w.heap.size = arrK .u8 32 f := (rowAt_old (by omega)).trans hf1
  have hRso : Row (w1.alloc (Obj.cells (stC (rsH f 0) n fun _ => 0) 28)) (w.heap.size + 1) 73 := (row_old hlt).2 hR1
  have hLs : Below w.heap.size w (w1.alloc (Obj.cells (stC (rsH f 0) n fun _ => 0) 28)) := hL1.alloc hL1.size _
  have hzs : w1.heap.size < (w1.alloc (Obj.cells (stC (rsH f 0) n fun _ => 0) 28)).heap.size := by simp
  go_wp2
  clear hset hRz hRn hcx hfx hc8 hF1 hf1 hL1 hR1 hb
  generalize (w1.alloc (Obj.cells (stC (rsH f 0) n fun _ => 0) 28)) = W1 at *
  generalize w1.heap.size = g at *
  go_loopw [7, 15] (fun _ i wr => ∃ k : Nat, i = .int .i64 k ∧ k ≤ 8 ∧ Row wr g 73 ∧ rowAt wr g = stC (rsH f k) n (fun _ => 0) ∧ Row wr (w.heap.size + 1) 73 ∧ Row wr w.heap.size 32 ∧ rowAt wr w.heap.size = arrK .u8 32 f ∧ Below w.heap.size w wr) (fun _ i _ => 8 - (intOf i).toNat)
  case atStart => exact ⟨0, rfl, by omega, hRs, hRsr, hRso, hRsf, hRsfr, hLs⟩
  case round =>
    clear hRs hRsr hRso hRsf hRsfr hLs
    obtain ⟨k, rfl, hk, hR, hr, hRo, hF, hfr, hL⟩ := hrel
    by_cases h8k : k = 8
    · subst h8k
      have e : (stC (rsH f 8) n fun _ => 0) = stC (fun i => be32 f (4 * i)) n fun _ => 0 := stC_congr fun i hi => by simp [rsH, hi]
      have hr2 := hr.trans e
      have hco := stC_cells (fun i => be32 f (4 * i)) n fun _ => 0
      clear e hr hfr
      go_wp2
      exact ret_stored2 (p := 4) (q := 5) (ty := 28) (g := w.heap.size + 1) (n := 73) (c := stC (fun i => be32 f (4 * i)) n fun _ => 0) rfl Tryd.underlying28 rfl (by kernel_rfl) rfl hRo hco.1 rfl ⟨rfl, below_setRow hL (by omega)⟩
    · have hrd : Rd wr wr.heap.size (some ⟨w.heap.size, 0, none⟩) (arrK .u8 32 f).toList := rd_row hF hfr
      have hcon := hash_word (some ⟨w.heap.size, 0, none⟩) 32 32 f (4 * k) wr hrd hf (by omega) (by omega)
      push_cast at hcon
      have hHcon := Lib.hid hcon
      have ck := hR.cell k
      rw [hr, stC_at_h (by omega)] at ck
      have fk := hR.frozen k
      have hHr := Lib.hid hr
      have hst := Lib.hid (stC_set_h (rsH f k) (rsH f (k + 1)) n (fun _ => 0) (j := k) (by omega) fun i hi => by
        unfold rsH
        by_cases e : i = k
        · subst e; rw [if_pos rfl]
        · rw [if_neg e]
          by_cases e2 : i < k
          · rw [if_pos e2, if_pos (by omega)]
          · rw [if_neg e2, if_neg (by omega)])
      have hrs : rsH f (k + 1) k = be32 f (4 * k) := by unfold rsH; rw [if_pos (by omega)]
      rw [hrs] at hst
      have hHfr := Lib.hid hfr
      have hgw : w.heap.size ≠ g := by omega
      clear hcon hrd hr hrs hfr
      go_wp2_with (go_at_call 28; refine hHcon.out.mono ?_; rintro e w' ⟨rfl, rfl⟩)
      go_round
      case rel =>
        refine ⟨k + 1, by go_num, by omega, row_setCell.2 hR, ?_, row_setCell.2 hRo, row_setCell.2 hF, ?_, (hL.drew.setCell (p := ⟨g, _, none⟩) (show w.heap.size ≤ g by omega) _)⟩
        · rw [rowAt_drew, rowAt_setCell_same, hHr.out, hst.out]
        · exact (rowAt_setCell_far hgw).trans hHfr.out
      case measure => simp [intOf]; omega
end Go.Proofs.YtjfiokicnacbfaaDoor
