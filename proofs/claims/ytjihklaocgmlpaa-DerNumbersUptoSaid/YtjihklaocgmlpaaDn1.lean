/- Contract of der.Number. -/
import Derived.Test.YtjihklaocgmlpaaDnP
import Derived.Test.YtjihklaocgmlpaaBuf
namespace Go.Proofs.Ytjihklaocgmlpaa
open Go.ChangeShapes Go.WideShapes Go.ChangeAt Go.RowKit
set_option maxHeartbeats 2000000
set_option maxRecDepth 100000
section
variable {w : World} {dst : Option Tmp} {x y : Operand} {tt : TypeId} {pos : String} {af : Array Edge} {gd : Option (Nat × Bool)} {a : Act} {K : Act → World → Prop} {Q : Exit → Act → World → Prop}
theorem load_n4 (hv : IsHead (a.eval x)) (h : Row w (blkOf (a.eval x)) 4) : Oper.wp Try.prog ⟨dst, .load 24 x, tt, pos, af, gd⟩ a w K Q ↔ K (a.put dst (.agg (rowAt w (blkOf (a.eval x))))) w :=
  wp_load_whole Try.underlying24 rfl (by kernel_rfl) hv h
theorem store_n4 (hv : IsHead (a.eval x)) (h : Row w (blkOf (a.eval x)) 4) (hx : IsAgg (a.eval y) 4) : Oper.wp Try.prog ⟨dst, .store 24 x y, tt, pos, af, gd⟩ a w K Q ↔ K (a.put dst undef) (w.setRow (blkOf (a.eval x)) (cellsV (a.eval y))) :=
  wp_store_whole (by kernel_rfl) hv h hx
end
attribute [local go_sem ↓] load_n4 store_n4 load_b32 store_b32
attribute [local go_sem] isHead_mk blkOf_mk isAgg_mk cellsV_mk row_drew rowAt_drew row_new_cells row_old rowAt_new rowAt_old setRow_new zero32
theorem len_le {a len : Nat} (h : IsLen a len) (ha : a < 2 ^ 256) : len ≤ 256 := by
  rcases h.2 with h2 | h2
  · omega
  · rcases Nat.lt_or_ge 256 len with h3 | h3
    · have := Nat.pow_le_pow_right (n := 2) (by omega) (show 256 ≤ len - 1 by omega); omega
    · exact h3
set_option maxHeartbeats 4000000 in
theorem der_Number (a : Nat) (w : World) (ha : a < 2 ^ 256) :
    Calls Try.prog 14 #[numV a] w fun e w' => ∃ len, IsLen a len ∧ BytesOk (fun i => byt a (len / 8 - i)) (len / 8 + 1) w e w' := by
  have hHa := Lib.hid ha
  unfold numV
  have hcn := arrK_cells .u64 4 (wd a)
  have hcb := arrK_cells .u8 32 (byt a)
  have hcz := arrK_cells .u8 32 fun _ => 0
  have hL0 := below_alloc w (Obj.cells (arrK .u64 4 (wd a)) 24)
  have hN0 : At (w.alloc (Obj.cells (arrK .u64 4 (wd a)) 24)) w.heap.size .u64 4 (wd a) := At.new _ rfl
  have r0 := hN0.row
  have e0 := hN0.eq
  clear ha
  go_enter Try.func14, Try.ntmps14
  go_wp2_with fail
  generalize w.alloc (Obj.cells (arrK .u64 4 (wd a)) 24) = W0 at *
  refine (limb_Len a W0 hHa.out).mono ?_
  rintro e w1 ⟨len, rfl, hlen, hb1⟩
  have hl256 := len_le hlen hHa.out
  have hHlen := Lib.hid hlen
  have hN1 := hN0.step hb1
  have r1 := hN1.row
  have e1 := hN1.eq
  have hL1 := below_step hb1 hL0 (Nat.le_refl _)
  have q1 : Int.tdiv (len : Int) 8 = ((len / 8 : Nat) : Int) := by rw [Int.tdiv_eq_ediv_of_nonneg (by omega)]; omega
  have q2 : IntKind.i64.wrap ((len / 8 : Nat) : Int) = ((len / 8 : Nat) : Int) := by rw [IntKind.wrap_i64]; omega
  have q3 : IntKind.i64.wrap (((len / 8 : Nat) : Int) + 1) = ((len / 8 : Nat) : Int) + 1 := by rw [IntKind.wrap_i64]; omega
  have hm : len / 8 ≤ 32 := by omega
  clear hlen hb1 r0 e0 hN0 hL0 hl256
  obtain ⟨m, hm8⟩ : ∃ m, len / 8 = m := ⟨_, rfl⟩
  rw [hm8] at q1 q2 q3 hm
  have hH8 := Lib.hid hm8
  clear hm8
  go_wp2_with fail
  refine (limb_Bytes a w1).mono ?_
  rintro e w2 ⟨rfl, hb2⟩
  have hL2 := below_step hb2 hL1 (Nat.le_refl _)
  have hmk : ∀ W : World, (Instr.makeSlice 25 (.int .i64 ((m : Int) + 1)) (.int .i64 ((m : Int) + 1))).run Try.prog W = .ok (.slice (some ⟨W.heap.size, 0, none⟩) (m + 1) (m + 1)) (W.alloc (.cells (arrK .u8 (m + 1) fun _ => 0) 5)) := fun W =>
    run_make_buf Try.underlying25 (by kernel_rfl) .i64 .i64 (n := m + 1) (M := m + 1) (Nat.le_refl _) (by omega) W
  clear hb2 r1 e1 hN1 hL1 q1 q2 q3
  have hD1 : At (w2.alloc (Obj.cells (arrK .u8 32 (byt a)) 88)) w2.heap.size .u8 32 (byt a) := At.new _ rfl
  have hL3 := below_step (below_alloc w2 (Obj.cells (arrK .u8 32 (byt a)) 88)) hL2 (Nat.le_refl _)
  go_wp2_with fail
  have hO2 : At ((w2.alloc (Obj.cells (arrK .u8 32 (byt a)) 88)).alloc (Obj.cells (arrK .u8 (m + 1) fun _ => 0) 5)) (w2.heap.size + 1) .u8 (m + 1) (fun _ => 0) := At.new _ (by simp)
  have hD2 := hD1.step (below_alloc (w2.alloc (Obj.cells (arrK .u8 32 (byt a)) 88)) (Obj.cells (arrK .u8 (m + 1) fun _ => 0) 5))
  have hL4 := Lib.hid (below_step (below_alloc (w2.alloc (Obj.cells (arrK .u8 32 (byt a)) 88)) (Obj.cells (arrK .u8 (m + 1) fun _ => 0) 5)) hL3 (Nat.le_refl _))
  have hsz2 : w.heap.size ≤ w2.heap.size := hL2.size
  generalize (w2.alloc (Obj.cells (arrK .u8 32 (byt a)) 88)).alloc (Obj.cells (arrK .u8 (m + 1) fun _ => 0) 5) = W3 at *
  generalize w2.heap.size = D at *
  clear hD1 hL3 hL2 hmk hcn hcb hcz
  go_loopw [18] (fun vi wr => ∃ (i : Nat), vi = .int .i64 (i : Nat) ∧ i ≤ m + 1 ∧ Hid (At wr (D + 1) .u8 (m + 1) (fun p => if p < i then byt a (m - p) else 0)) ∧ Hid (At wr D .u8 32 (byt a)) ∧ Hid (Below w.heap.size w wr)) (fun vi _ => m + 1 - (intOf vi).toNat)
  case atStart => exact ⟨0, rfl, by omega, Lib.hid (hO2.congr fun p hp => rfl), Lib.hid hD2, hL4⟩
  case round =>
    obtain ⟨i, rfl, hi, hO, hD, hL⟩ := hrel
    clear hO2 hD2 hL4
    by_cases hc : i < m + 1
    · have d1 : decide ((i : Int) < (m : Int) + 1) = true := by simp; omega
      have w1 : IntKind.i64.wrap (m : Int) = (m : Int) := by rw [IntKind.wrap_i64]; omega
      have w2 : IntKind.i64.wrap ((m : Int) - (i : Int)) = ((m - i : Nat) : Int) := by rw [IntKind.wrap_i64]; omega
      have w3 : IntKind.i64.wrap ((i : Int) + 1) = (i : Int) + 1 := by rw [IntKind.wrap_i64]; omega
      have z1 : (0 : Int) ≤ ((m - i : Nat) : Int) := by omega
      have z2 : (0 : Int) ≤ (i : Int) := by omega
      have z3 : (i : Int) < (m : Int) + 1 := by omega
      have c1 := hO.out.cell (i := i) hc
      have f1 := hO.out.row.frozen i
      obtain ⟨k, hk⟩ : ∃ k, m - i = k := ⟨_, rfl⟩
      rw [hk] at w2 z1
      have hHk := Lib.hid hk
      by_cases h32 : k < 32
      · have d2 : decide ((k : Int) < (32 : Int)) = true := by simp; omega
        have z4 : (k : Int) < 32 := by omega
        have c2 := hD.out.cell (i := k) h32
        clear hk
        go_wp2_with fail
        go_roundw
        case rel => exact ⟨i + 1, rfl, by omega, Lib.hid ((hO.out.set i (byt a k)).congr fun p hp => by
            unfold upd
            show (if p = i then byt a k else if p < i then byt a (m - p) else 0) = if p < i + 1 then byt a (m - p) else 0
            by_cases hp2 : p = i
            · rw [if_pos hp2, if_pos (by omega), hp2, hHk.out]
            · rw [if_neg hp2]
              by_cases hp3 : p < i
              · rw [if_pos hp3, if_pos (by omega)]
              · rw [if_neg hp3, if_neg (by omega)]), Lib.hid (hD.out.farC (by simp)), Lib.hid (hL.out.setCell (by simp; omega) _)⟩
        case measure => simp [intOf]; omega
      · have d2 : decide ((k : Int) < (32 : Int)) = false := by simp; omega
        have hb0 : byt a k = 0 := byt_zero (Nat.lt_of_lt_of_le hHa.out (by rw [show (2 : Nat) ^ 256 = 256 ^ 32 by rw [show (256 : Nat) = 2 ^ 8 from rfl, ← Nat.pow_mul]]; exact Nat.pow_le_pow_right (by omega) (by omega)))
        have hHb := Lib.hid hb0
        clear hk hb0
        go_wp2_with fail
        go_roundw
        case rel => exact ⟨i + 1, rfl, by omega, Lib.hid (hO.out.congr fun p hp => by
            show (if p < i then byt a (m - p) else 0) = if p < i + 1 then byt a (m - p) else 0
            by_cases hp2 : p = i
            · rw [if_neg (by omega), if_pos (by omega), hp2, hHk.out, hHb.out]
            · by_cases hp3 : p < i
              · rw [if_pos hp3, if_pos (by omega)]
              · rw [if_neg hp3, if_neg (by omega)]), hD, hL⟩
        case measure => simp [intOf]; omega
    · have d1 : decide ((i : Int) < (m : Int) + 1) = false := by simp; omega
      go_wp2_with fail
      go_ret
      exact ⟨len, hHlen.out, by rw [hH8.out]; exact ⟨D + 1, rfl, hO.out.congr fun p hp => if_pos (by omega), hL.out⟩⟩
end Go.Proofs.Ytjihklaocgmlpaa
