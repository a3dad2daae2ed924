/- Contracts of package aes: subbed, by, each, Encrypt, Decrypt. -/
import Derived.Test.YtjihklaocgmlpaaAesK
namespace Go.Proofs.Ytjihklaocgmlpaa
open Go.ChangeShapes Go.WideShapes Go.ChangeAt Go.RowKit
set_option maxHeartbeats 4000000
set_option maxRecDepth 100000
attribute [local go_sem ↓] load_a4 store_a4 execl_a4 execs_a4 load_a16 store_a16 execl_a16 execs_a16 load_akey store_akey execl_akey execs_akey
attribute [local go_sem] isHead_mk blkOf_mk isAgg_mk cellsV_mk row_drew rowAt_drew row_new_cells row_old rowAt_new rowAt_old setRow_new

theorem gf_SubC (a : Nat) (w : World) (ha : a < 256) : Calls Try.prog 79 #[.int .u8 a] w fun e w' => e = .returned (.int .u8 (gsub a : Nat)) ∧ w = w' := gf_Sub a w ha
theorem zeroA4 : #[Value.int IntKind.u8 0, Value.int IntKind.u8 0, Value.int IntKind.u8 0, Value.int IntKind.u8 0] = arrK .u8 4 fun _ => 0 := arrK4 .u8 fun _ => 0
theorem aes_subbed (t : Nat → Nat) (w : World) (ht : ∀ i < 4, t i < 256) :
    Calls Try.prog 65 #[.agg (arrK .u8 4 t)] w fun e w' => e = .returned (.agg (arrK .u8 4 fun j => gsub (t j))) ∧ Below w.heap.size w w' := by
  have T0 : At ((w.alloc (Obj.cells (arrK .u8 4 t) 39)).alloc (Obj.cells (arrK .u8 4 fun _ => 0) 39)) w.heap.size .u8 4 t := (At.new _ rfl).old _
  have O0 : At ((w.alloc (Obj.cells (arrK .u8 4 t) 39)).alloc (Obj.cells (arrK .u8 4 fun _ => 0) 39)) (w.heap.size + 1) .u8 4 fun _ => 0 := At.new _ (by simp)
  have hL0 : Below w.heap.size w ((w.alloc (Obj.cells (arrK .u8 4 t) 39)).alloc (Obj.cells (arrK .u8 4 fun _ => 0) 39)) := by go_grown
  go_enter Try.func65, Try.ntmps65
  go_wp2_with fail
  rw [zeroA4]
  generalize (w.alloc (Obj.cells (arrK .u8 4 t) 39)).alloc (Obj.cells (arrK .u8 4 fun _ => 0) 39) = W0 at *
  go_loopw [4] (fun x wr => ∃ i : Nat, x = .int .i64 i ∧ i ≤ 4 ∧ At wr w.heap.size .u8 4 (upTo i (fun j => gsub (t j)) t) ∧ Row wr (w.heap.size + 1) 4 ∧ Below w.heap.size w wr) (fun x _ => 4 - (intOf x).toNat)
  case atStart => exact ⟨0, rfl, by omega, by rw [upTo_zero]; exact T0, O0.row, hL0⟩
  case round =>
    obtain ⟨i, rfl, hi, T, O, hL⟩ := hrel
    have hRt := T.row
    have hrt := T.eq
    by_cases h4 : i = 4
    · subst h4
      rw [arrK_congr (upTo_end _ _)] at hrt
      have hcs := arrK_cells .u8 4 fun j => gsub (t j)
      clear T T0 O0 hL0
      go_wp2_with fail
      refine ret_row rfl Try.underlying39 rfl (by kernel_rfl) rfl ((row_setRow_same rfl O).2 hcs.1) rfl ?_
      rw [rowAt_setRow_same O]
      exact ⟨rfl, below_setRow hL (by omega)⟩
    · have hd : decide ((i : Int) < 4) = true := by simp; omega
      have hc1 := T.cell (i := i) (by omega)
      rw [upTo_at] at hc1
      have hti := ht i (by omega)
      have hfr := hRt.frozen i
      clear T0 O0 hL0
      go_wp2_with fail
      refine (gf_SubC _ _ hti).mono ?_
      rintro e w' ⟨rfl, rfl⟩
      go_wp2_with fail
      go_round
      case rel => exact ⟨i + 1, by go_num, by omega, by rw [← upTo_step]; exact T.set i _, row_setCell.2 O, hL.setCell (by simp) _⟩
      case measure => simp [intOf]; omega

theorem aes_by (b : Nat → Nat) (F : Nat → Nat) (K R r : Nat) (w : World) (hK : KeyAt w K F R) (hF : ∀ p, F p < 256) (hb : ∀ i < 16, b i < 256) (hr : r ≤ 14) :
    Calls Try.prog 78 #[.pointer (some ⟨K, 0, none⟩), .agg (arrK .u8 16 b), .int .i64 r] w fun e w' => e = .returned (.agg (arrK .u8 16 (ark F r b))) ∧ Below w.heap.size w w' := by
  have T0 : At ((w.alloc (Obj.cells (arrK .u8 16 b) 38)).alloc (Obj.cells (arrK .u8 16 fun _ => 0) 38)) w.heap.size .u8 16 b := (At.new _ rfl).old _
  have O0 : At ((w.alloc (Obj.cells (arrK .u8 16 b) 38)).alloc (Obj.cells (arrK .u8 16 fun _ => 0) 38)) (w.heap.size + 1) .u8 16 fun _ => 0 := At.new _ (by simp)
  have hL0 : Below w.heap.size w ((w.alloc (Obj.cells (arrK .u8 16 b) 38)).alloc (Obj.cells (arrK .u8 16 fun _ => 0) 38)) := by go_grown
  have hKl := hK.lt
  go_enter Try.func78, Try.ntmps78
  go_wp2_with fail
  rw [zeroA16]
  generalize (w.alloc (Obj.cells (arrK .u8 16 b) 38)).alloc (Obj.cells (arrK .u8 16 fun _ => 0) 38) = W0 at *
  go_loopw [8] (fun x wr => ∃ i : Nat, x = .int .i64 i ∧ i ≤ 16 ∧ At wr w.heap.size .u8 16 (upTo i (ark F r b) b) ∧ Row wr (w.heap.size + 1) 16 ∧ Below w.heap.size w wr) (fun x _ => 16 - (intOf x).toNat)
  case atStart => exact ⟨0, rfl, by omega, by rw [upTo_zero]; exact T0, O0.row, hL0⟩
  case round =>
    obtain ⟨i, rfl, hi, T, O, hL⟩ := hrel
    have hRt := T.row
    have hrt := T.eq
    by_cases h4 : i = 16
    · subst h4
      rw [arrK_congr (upTo_end _ _)] at hrt
      have hcs := arrK_cells .u8 16 (ark F r b)
      clear T T0 O0 hL0
      go_wp2_with fail
      refine ret_row rfl Try.underlying38 rfl (by kernel_rfl) rfl ((row_setRow_same rfl O).2 hcs.1) rfl ?_
      rw [rowAt_setRow_same O]
      exact ⟨rfl, below_setRow hL (by omega)⟩
    · have hd : decide ((i : Int) < 16) = true := by simp; omega
      have hc1 := T.cell (i := i) (by omega)
      rw [upTo_at] at hc1
      have hc2 := (hK.below hL hKl).byte (i := 16 * r + i) (by omega)
      have hfr := hRt.frozen i
      have hx := xor_8 (hb i (by omega)) (hF (16 * r + i))
      obtain ⟨q, hq⟩ : ∃ q, q = i / 4 := ⟨_, rfl⟩
      obtain ⟨m, hm⟩ : ∃ m, m = i % 4 := ⟨_, rfl⟩
      have hsum1 : IntKind.i64.wrap (4 * (r : Int)) = ((4 * r : Nat) : Int) := by rw [IntKind.wrap_i64]; omega
      have hsum2 : IntKind.i64.wrap (((4 * r : Nat) : Int) + (q : Int)) = ((4 * r + q : Nat) : Int) := by rw [IntKind.wrap_i64]; omega
      have htd : Int.tdiv (i : Int) 4 = (q : Int) := by rw [Int.tdiv_eq_ediv_of_nonneg (by omega)]; omega
      have htm : Int.tmod (i : Int) 4 = (m : Int) := by rw [Int.tmod_eq_emod_of_nonneg (by omega)]; omega
      have hwq : IntKind.i64.wrap (q : Int) = (q : Int) := by rw [IntKind.wrap_i64]; omega
      rw [show (⟨K, 16 * r + i, none⟩ : Addr) = ⟨K, (4 * r + q) * 4 + m, none⟩ by rw [show 16 * r + i = (4 * r + q) * 4 + m by omega]] at hc2
      have hb1 : (0 : Int) ≤ ((4 * r + q : Nat) : Int) := by omega
      have hb2 : ((4 * r + q : Nat) : Int) < 60 := by omega
      have hb3 : (0 : Int) ≤ (m : Int) := by omega
      have hb4 : (m : Int) < 4 := by omega
      have hHq := Lib.hid hq
      have hHm := Lib.hid hm
      have hT := Lib.hid T
      clear T T0 O0 hL0 hK hq hm hRt hrt
      go_wp2_with fail
      go_region
      all_goals
        go_wp2_with fail
        go_round
        case rel => exact ⟨i + 1, by go_num, by omega, by rw [← upTo_step]; exact (hT.out.set i _).drew, row_setCell.2 O, (hL.setCell (by simp) _).drew⟩
        case measure => simp [intOf]; omega
theorem gf_MixK (c : Nat → Nat) (w : World) (hc : ∀ i < 4, c i < 256) : Calls Try.prog 81 #[.agg (arrK .u8 4 c)] w fun e w' => e = .returned (.agg (arrK .u8 4 (col c mixB))) ∧ Below w.heap.size w w' := gf_Mix c w hc
theorem gf_UnmixK (c : Nat → Nat) (w : World) (hc : ∀ i < 4, c i < 256) : Calls Try.prog 87 #[.agg (arrK .u8 4 c)] w fun e w' => e = .returned (.agg (arrK .u8 4 (col c unmixB))) ∧ Below w.heap.size w w' := gf_Unmix c w hc
end Go.Proofs.Ytjihklaocgmlpaa
