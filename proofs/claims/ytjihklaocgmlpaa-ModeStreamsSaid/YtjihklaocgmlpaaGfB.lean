/- Contracts of the document's Box and Unbox. -/
import Derived.Test.YtjihklaocgmlpaaGf
import Derived.Test.YtjihklaocgmlpaaArr8
namespace Go.Proofs.Ytjihklaocgmlpaa
open Go.ChangeShapes Go.WideShapes Go.ChangeAt Go.RowKit
set_option maxHeartbeats 4000000
set_option maxRecDepth 100000

/-- The four arrays of Box. -/
structure BoxAt (w : World) (s : Nat) (f1 f2 f3 : Nat → Nat) : Prop where
  r0 : Row w s 256
  r1 : Row w (s + 1) 256
  e1 : rowAt w (s + 1) = arr8 256 f1
  r2 : Row w (s + 1 + 1) 256
  e2 : rowAt w (s + 1 + 1) = arr8 256 f2
  r3 : Row w (s + 1 + 1 + 1) 255
  e3 : rowAt w (s + 1 + 1 + 1) = arr8 255 f3

theorem BoxAt.alloc {w : World} {s : Nat} {f1 f2 f3 : Nat → Nat} (h : BoxAt w s f1 f2 f3) (o : Obj) : BoxAt (w.alloc o) s f1 f2 f3 :=
  ⟨(row_old h.r0.lt).2 h.r0, (row_old h.r1.lt).2 h.r1, (rowAt_old h.r1.lt).trans h.e1, (row_old h.r2.lt).2 h.r2, (rowAt_old h.r2.lt).trans h.e2, (row_old h.r3.lt).2 h.r3, (rowAt_old h.r3.lt).trans h.e3⟩
theorem BoxAt.set1 {w : World} {s : Nat} {f1 f2 f3 : Nat → Nat} (h : BoxAt w s f1 f2 f3) (i v : Nat) : BoxAt (w.setCell ⟨s + 1, i, none⟩ (.int .u8 v)) s (upd f1 i v) f2 f3 :=
  ⟨row_setCell.2 h.r0, row_setCell.2 h.r1, by rw [rowAt_setCell_same, h.e1, arr8_set], row_setCell.2 h.r2, (rowAt_setCell_far (by simp <;> omega)).trans h.e2, row_setCell.2 h.r3, (rowAt_setCell_far (by simp <;> omega)).trans h.e3⟩
theorem BoxAt.set2 {w : World} {s : Nat} {f1 f2 f3 : Nat → Nat} (h : BoxAt w s f1 f2 f3) (i v : Nat) : BoxAt (w.setCell ⟨s + 1 + 1, i, none⟩ (.int .u8 v)) s f1 (upd f2 i v) f3 :=
  ⟨row_setCell.2 h.r0, row_setCell.2 h.r1, (rowAt_setCell_far (by simp <;> omega)).trans h.e1, row_setCell.2 h.r2, by rw [rowAt_setCell_same, h.e2, arr8_set], row_setCell.2 h.r3, (rowAt_setCell_far (by simp <;> omega)).trans h.e3⟩
theorem BoxAt.set3 {w : World} {s : Nat} {f1 f2 f3 : Nat → Nat} (h : BoxAt w s f1 f2 f3) (i v : Nat) : BoxAt (w.setCell ⟨s + 1 + 1 + 1, i, none⟩ (.int .u8 v)) s f1 f2 (upd f3 i v) :=
  ⟨row_setCell.2 h.r0, row_setCell.2 h.r1, (rowAt_setCell_far (by simp <;> omega)).trans h.e1, row_setCell.2 h.r2, (rowAt_setCell_far (by simp <;> omega)).trans h.e2, row_setCell.2 h.r3, by rw [rowAt_setCell_same, h.e3, arr8_set]⟩
theorem BoxAt.congr {w : World} {s : Nat} {f1 f2 f3 g1 g2 g3 : Nat → Nat} (h : BoxAt w s f1 f2 f3) (h1 : ∀ i < 256, f1 i = g1 i) (h2 : ∀ i < 256, f2 i = g2 i) (h3 : ∀ i < 255, f3 i = g3 i) : BoxAt w s g1 g2 g3 :=
  ⟨h.r0, h.r1, h.e1.trans (arr8_congr h1), h.r2, h.e2.trans (arr8_congr h2), h.r3, h.e3.trans (arr8_congr h3)⟩

/-! What Box reckons. -/
def powK (k : Nat) : Nat → Nat := fun i => if i < k then ge i else 0
def invK (k : Nat) : Nat → Nat := fun a => if a ≠ 0 ∧ lg a < k then ge ((255 - lg a) % 255) else 0
def outK (k : Nat) : Nat → Nat := fun a => if a < k then gsub a else 0
theorem powK_step (k : Nat) : upd (powK k) k (ge k) = powK (k + 1) := by
  funext j; unfold upd powK
  by_cases h : j = k
  · subst h; simp
  · by_cases h2 : j < k
    · simp [h, h2, show j < k + 1 by omega]
    · simp [h, h2, show ¬ j < k + 1 by omega]
theorem invK_step {k a : Nat} (hk : k < 255) (ha : a < 256) : upd (invK k) (ge k) (ge ((255 - k) % 255)) a = invK (k + 1) a := by
  unfold upd invK
  by_cases h : a = ge k
  · subst h; simp [ge_ne, lg_ge hk]
  · by_cases h0 : a = 0
    · rw [if_neg h]; simp [h0]
    · have hl : lg a ≠ k := fun e => h (by rw [← e]; exact (ge_lg ha h0).1.symm)
      by_cases h2 : lg a < k
      · simp [h, h0, h2, show lg a < k + 1 by omega]
      · simp [h, h0, h2, show ¬ lg a < k + 1 by omega]
theorem invK_end {a : Nat} (ha : a < 256) : invK 255 a = ginv a := by
  unfold invK
  by_cases h0 : a = 0
  · subst h0; simp [ginv_zero]
  · have h := (ge_lg ha h0).2
    rw [if_pos ⟨h0, h⟩]
    unfold ginv gp
    rw [if_neg h0, ← ge_mod (lg a * 254)]
    apply congrArg ge
    omega
theorem outK_step (k : Nat) : upd (outK k) k (gsub k) = outK (k + 1) := by
  funext j; unfold upd outK
  by_cases h : j = k
  · subst h; simp
  · by_cases h2 : j < k
    · simp [h, h2, show j < k + 1 by omega]
    · simp [h, h2, show ¬ j < k + 1 by omega]
def turnsL : List Nat := [0, 4, 5, 6, 7]
def bn (b i : Nat) : Nat → Nat
  | 0 => 99 / 2 ^ i % 2
  | j + 1 => bn b i j + b / 2 ^ ((i + turnsL[j]?.getD 0) % 8) % 2
def bx (b : Nat) : Nat → Nat
  | 0 => 0
  | i + 1 => bx b i + bn b i 5 % 2 * 2 ^ i
theorem bn_le (b i : Nat) : ∀ j, bn b i j ≤ 1 + j
  | 0 => by unfold bn; omega
  | j + 1 => by have := bn_le b i j; unfold bn; omega
theorem bx_lt (b : Nat) : ∀ i, bx b i < 2 ^ i
  | 0 => by simp [bx]
  | i + 1 => by
      have h := bx_lt b i
      have h2 : bn b i 5 % 2 * 2 ^ i ≤ 1 * 2 ^ i := Nat.mul_le_mul_right _ (by omega)
      rw [Nat.pow_succ]; unfold bx; omega
theorem turns_le (q : Nat) : turnsL[q]?.getD 0 ≤ 7 := by
  rcases Nat.lt_or_ge q 5 with h | h
  · rcases (by omega : q = 0 ∨ q = 1 ∨ q = 2 ∨ q = 3 ∨ q = 4) with rfl | rfl | rfl | rfl | rfl <;> decide
  · rw [List.getElem?_eq_none (by simpa [turnsL] using h)]; decide
theorem bx_tbl : (List.range 256).all (fun b => bx b 8 == gsubB b) = true := by decide +kernel
theorem bx_eq {b : Nat} (h : b < 256) : bx b 8 = gsubB b := by
  have := List.all_eq_true.1 bx_tbl b (List.mem_range.2 h)
  simpa using this

theorem zero256 : Try.zeroCells74 = arr8 256 fun _ => 0 := by kernel_rfl
theorem zero255 : Try.zeroCells137 = arr8 255 fun _ => 0 := by kernel_rfl

attribute [local go_sem] row_new_cells row_old rowAt_new rowAt_old
theorem box_start (w : World) : BoxAt ((((w.alloc (Obj.cells Try.zeroCells74 74)).alloc (Obj.cells Try.zeroCells74 74)).alloc (Obj.cells Try.zeroCells74 74)).alloc (Obj.cells Try.zeroCells137 137)) w.heap.size (fun _ => 0) (fun _ => 0) (fun _ => 0) := by
  rw [zero256, zero255]
  have h2 := arr8_cells 256 fun _ => 0
  have h5 := arr8_cells 255 fun _ => 0
  refine ⟨?_, ?_, ?_, ?_, ?_, ?_, ?_⟩ <;> go_simp

theorem load_255 {w : World} {dst : Option Tmp} {x : Operand} {tt : TypeId} {pos : String} {af : Array Edge} {gd : Option (Nat × Bool)} {a : Act} {K : Act → World → Prop} {Q : Exit → Act → World → Prop}
    (hv : IsHead (a.eval x)) (h : Row w (blkOf (a.eval x)) 255) : Oper.wp Try.prog ⟨dst, .load 137 x, tt, pos, af, gd⟩ a w K Q ↔ K (a.put dst (.agg (rowAt w (blkOf (a.eval x))))) w :=
  wp_load_whole Try.underlying137 rfl (by kernel_rfl) hv h
theorem load_256 {w : World} {dst : Option Tmp} {x : Operand} {tt : TypeId} {pos : String} {af : Array Edge} {gd : Option (Nat × Bool)} {a : Act} {K : Act → World → Prop} {Q : Exit → Act → World → Prop}
    (hv : IsHead (a.eval x)) (h : Row w (blkOf (a.eval x)) 256) : Oper.wp Try.prog ⟨dst, .load 74 x, tt, pos, af, gd⟩ a w K Q ↔ K (a.put dst (.agg (rowAt w (blkOf (a.eval x))))) w :=
  wp_load_whole Try.underlying74 rfl (by kernel_rfl) hv h
theorem store_256 {w : World} {dst : Option Tmp} {x y : Operand} {tt : TypeId} {pos : String} {af : Array Edge} {gd : Option (Nat × Bool)} {a : Act} {K : Act → World → Prop} {Q : Exit → Act → World → Prop}
    (hv : IsHead (a.eval x)) (h : Row w (blkOf (a.eval x)) 256) (hx : IsAgg (a.eval y) 256) : Oper.wp Try.prog ⟨dst, .store 74 x y, tt, pos, af, gd⟩ a w K Q ↔ K (a.put dst undef) (w.setRow (blkOf (a.eval x)) (cellsV (a.eval y))) :=
  wp_store_whole (by kernel_rfl) hv h hx
attribute [local go_sem ↓] load_255 load_256 store_256
attribute [local go_sem] isHead_mk blkOf_mk isAgg_mk cellsV_mk

theorem ref_Box (w : World) :
    Calls Try.prog 67 #[] w fun e w' => e = .returned (.agg (arr8 256 gsub)) ∧ Below w.heap.size w w' := by
  go_enter Try.func67, Try.ntmps67
  have hB0 := box_start w
  have hL0 : Below w.heap.size w ((((w.alloc (Obj.cells Try.zeroCells74 74)).alloc (Obj.cells Try.zeroCells74 74)).alloc (Obj.cells Try.zeroCells74 74)).alloc (Obj.cells Try.zeroCells137 137)) := by go_grown
  go_wp2
  generalize ((((w.alloc (Obj.cells Try.zeroCells74 74)).alloc (Obj.cells Try.zeroCells74 74)).alloc (Obj.cells Try.zeroCells74 74)).alloc (Obj.cells Try.zeroCells137 137)) = W0 at *
  go_loopw [3, 15] (fun x i wr => ∃ k : Nat, x = .int .u8 (ge k : Nat) ∧ i = .int .i64 k ∧ k ≤ 255 ∧ BoxAt wr w.heap.size (fun _ => 0) (fun _ => 0) (powK k) ∧ Below w.heap.size w wr) (fun _ i _ => 255 - (intOf i).toNat)
  case atStart => exact ⟨0, rfl, rfl, by omega, hB0.congr (fun _ _ => rfl) (fun _ _ => rfl) (fun i _ => by simp [powK]), hL0⟩
  case round =>
    obtain ⟨k, rfl, rfl, hk, hB, hL⟩ := hrel
    have hf := hB.r3.frozen k
    have hc := hB.r3.cell k
    by_cases h5 : k = 255
    · subst h5
      have hr3 := hB.r3
      have he3 := hB.e3
      go_wp2
      have hBs := hB.congr (g1 := fun _ => 0) (g2 := invK 0) (g3 := powK 255) (fun _ _ => rfl) (fun i _ => by simp [invK]) (fun _ _ => rfl)
      clear hc hf hr3 he3 hB
      go_loopw [25] (fun i wr => ∃ k : Nat, i = .int .i64 k ∧ k ≤ 255 ∧ BoxAt wr w.heap.size (fun _ => 0) (invK k) (powK 255) ∧ Below w.heap.size w wr) (fun i _ => 255 - (intOf i).toNat)
      case atStart => exact ⟨0, rfl, by omega, hBs, hL⟩
      case round =>
        obtain ⟨k, rfl, hk, hB, hL⟩ := hrel
        by_cases h5 : k = 255
        · subst h5
          go_wp2
          have hBs := hB.congr (g1 := outK 0) (g2 := ginv) (g3 := powK 255) (fun _ _ => by simp [outK]) (fun i h => invK_end h) (fun _ _ => rfl)
          clear hB
          go_loopw [37] (fun i wr => ∃ k : Nat, i = .int .i64 k ∧ k ≤ 256 ∧ BoxAt wr w.heap.size (outK k) ginv (powK 255) ∧ Below w.heap.size w wr) (fun i _ => 256 - (intOf i).toNat)
          case atStart => exact ⟨0, rfl, by omega, hBs, hL⟩
          case round =>
            obtain ⟨k, rfl, hk, hB, hL⟩ := hrel
            by_cases h6 : k = 256
            · subst h6
              have hr0 := hB.r0
              have hr1 := hB.r1
              have he1 := hB.e1.trans (arr8_congr (g := gsub) fun a ha => by simp [outK, ha])
              have hcc := arr8_cells 256 gsub
              go_wp2
              refine ret_row rfl Try.underlying74 rfl (by kernel_rfl) rfl ((row_setRow_same rfl hr0).2 hcc.1) rfl ?_
              rw [rowAt_setRow_same hr0]
              exact ⟨rfl, hL.trans (below_setRow (Below.refl _ _) (Nat.le_refl _))⟩
            · have hc := hB.r2.cell k
              rw [hB.e2, arr8_at (by omega)] at hc
              have hgk := ginv_lt k
              have hw : wrap64 ((ginv k : Nat) : Int) = ((ginv k : Nat) : Int) := wrap64_eq (by omega) (by omega)
              have hd : decide ((k : Int) < 256) = true := by simp; omega
              go_wp2
              go_loopw [10, 44] (fun x i wr => ∃ j : Nat, x = .int .i64 (bx (ginv k) j : Nat) ∧ i = .int .i64 j ∧ j ≤ 8 ∧ BoxAt wr w.heap.size (outK k) ginv (powK 255) ∧ Below w.heap.size w wr) (fun _ i _ => 8 - (intOf i).toNat)
              case atStart => exact ⟨0, rfl, rfl, by omega, hB, hL⟩
              case round =>
                obtain ⟨j, rfl, rfl, hj, hB, hL⟩ := hrel
                by_cases h8 : j = 8
                · subst h8
                  have hf := hB.r1.frozen k
                  have hc0 := hB.r1.cell k
                  rw [hB.e1, arr8_at (by omega)] at hc0
                  have hg8 := bx_eq hgk
                  have hgl := gsub_lt k
                  have hst := outK_step k
                  have hgs : gsub k = gsubB (ginv k) := rfl
                  rw [← hgs] at hg8
                  rw [hg8]
                  have hB3 := hB.set1 k (gsub k)
                  rw [hst] at hB3
                  clear hst hg8 hgs
                  go_wp2
                  go_round
                  case rel => exact ⟨k + 1, by go_num, by omega, hB3, hL.setCell (by simp) _⟩
                  case measure => simp [intOf]; omega
                · have h99 : bits .and .i64 ((99 : Int) / 2 ^ j) 1 = ((bn (ginv k) j 0 : Nat) : Int) := by
                    have h1 : 99 / 2 ^ j ≤ 99 := Nat.div_le_self _ _
                    rw [show (99 : Int) / 2 ^ j = ((99 / 2 ^ j : Nat) : Int) by simp, i64_and1 (by omega)]; rfl
                  have hd8 : decide ((j : Int) < 8) = true := by simp; omega
                  have hcl : ∀ q < 5, (wr.alloc (Obj.cells #[Value.int IntKind.i64 0, Value.int IntKind.i64 4, Value.int IntKind.i64 5, Value.int IntKind.i64 6, Value.int IntKind.i64 7] 3)).cell? ⟨wr.heap.size, q, none⟩ = some (.int .i64 (turnsL[q]?.getD 0 : Nat)) := by
                    intro q hq
                    rcases (by omega : q = 0 ∨ q = 1 ∨ q = 2 ∨ q = 3 ∨ q = 4) with rfl | rfl | rfl | rfl | rfl <;> exact cell_of_row _ _ _ _ _ _ (push_new _ _)
                  have hB5 := hB.alloc (Obj.cells #[Value.int IntKind.i64 0, Value.int IntKind.i64 4, Value.int IntKind.i64 5, Value.int IntKind.i64 6, Value.int IntKind.i64 7] 3)
                  have hL5 := hL.alloc (Nat.le_of_lt (Nat.lt_of_lt_of_le hB.r0.lt (Nat.le_refl _))) (Obj.cells #[Value.int IntKind.i64 0, Value.int IntKind.i64 4, Value.int IntKind.i64 5, Value.int IntKind.i64 6, Value.int IntKind.i64 7] 3)
                  go_wp2
                  generalize (wr.alloc (Obj.cells #[Value.int IntKind.i64 0, Value.int IntKind.i64 4, Value.int IntKind.i64 5, Value.int IntKind.i64 6, Value.int IntKind.i64 7] 3)) = W5 at *
                  go_loop [12, 52] (fun x i => ∃ q : Nat, x = .int .i64 (bn (ginv k) j q : Nat) ∧ i = .int .i64 q ∧ q ≤ 5) (fun _ i => 5 - (intOf i).toNat)
                  case atStart => exact ⟨0, rfl, rfl, by omega⟩
                  case round =>
                    obtain ⟨q, rfl, rfl, hq⟩ := hrel
                    by_cases hq5 : q = 5
                    · subst hq5
                      have hbn := bn_le (ginv k) j 5
                      have hbx := bx_lt (ginv k) j
                      have hstep : bx (ginv k) (j + 1) = bx (ginv k) j + bn (ginv k) j 5 % 2 * 2 ^ j := rfl
                      generalize bn (ginv k) j 5 = n5 at *
                      have hHstep := Lib.hid hstep
                      clear hstep
                      go_wp2
                      go_round
                      case rel =>
                        refine ⟨j + 1, ?_, by go_num, by omega, hB5, hL5⟩
                        rw [hHstep.out]
                        have h2 : 2 ^ j ≤ 2 ^ 7 := Nat.pow_le_pow_right (by omega) (by omega)
                        have h3 : n5 % 2 * 2 ^ j ≤ 1 * 2 ^ j := Nat.mul_le_mul_right _ (by omega)
                        rw [show ((n5 : Int) % 2 * 2 ^ j : Int) = ((n5 % 2 * 2 ^ j : Nat) : Int) by simp, wrap64_eq (n := ((n5 % 2 * 2 ^ j : Nat) : Int)) (by omega) (by omega), wrap64_eq (by omega) (by omega)]
                        simp
                      case measure => simp [intOf]; omega
                    · have hcq := hcl q (by omega)
                      have hstep : bn (ginv k) j (q + 1) = bn (ginv k) j q + ginv k / 2 ^ ((j + turnsL[q]?.getD 0) % 8) % 2 := rfl
                      have ht := turns_le q
                      have hbn := bn_le (ginv k) j q
                      generalize turnsL[q]?.getD 0 = t at *
                      obtain ⟨m, hm⟩ : ∃ m, m = (j + t) % 8 := ⟨_, rfl⟩
                      rw [← hm] at hstep
                      have hmi : ((j : Int) + t) % 8 = m := by omega
                      have hm8 : m < 8 := by omega
                      have hgm : ginv k / 2 ^ m ≤ ginv k := Nat.div_le_self _ _
                      have h1 : bits .and .i64 ((ginv k : Int) / 2 ^ m) 1 = ((ginv k / 2 ^ m % 2 : Nat) : Int) := by
                        rw [show ((ginv k : Int) / 2 ^ m) = ((ginv k / 2 ^ m : Nat) : Int) by simp, i64_and1 (by omega)]
                      have hHstep := Lib.hid hstep
                      clear hstep hm
                      have hg1 : ginv k / 2 ^ m % 2 < 2 := Nat.mod_lt _ (by omega)
                      generalize ginv k / 2 ^ m % 2 = g1 at *
                      generalize bn (ginv k) j q = n5 at *
                      go_wp2
                      go_round
                      case rel => exact ⟨q + 1, by rw [hHstep.out]; go_num, by go_num, by omega⟩
                      case measure => simp [intOf]; omega
        · have hix : ∀ W : World, (Instr.index 137 (.agg (arr8 255 (powK 255))) (.int .i64 k)).run Try.prog W = .ok (.int .u8 (ge k : Nat)) W := fun W => by
            rw [index_arr8 Try.underlying137 (by omega) W]; simp [powK, show k < 255 by omega]
          obtain ⟨m, hm⟩ : ∃ m, m = (255 - k) % 255 := ⟨_, rfl⟩
          have hmi : (255 - (k : Int)) % 255 = m := by omega
          have hm5 : m < 255 := by omega
          have hst : ∀ a < 256, upd (invK k) (ge k) (ge m) a = invK (k + 1) a := fun a ha => by rw [hm]; exact invK_step (by omega) ha
          clear hm
          have hg := ge_lt k
          have hf := hB.r2.frozen (ge k)
          have hc := hB.r2.cell (ge k)
          rw [hB.e2, arr8_at hg] at hc
          have hp := hB.r3.cell m
          rw [hB.e3, arr8_at hm5, show powK 255 m = ge m by simp [powK, hm5]] at hp
          have hB3 := (hB.set2 (ge k) (ge m)).congr (fun _ _ => rfl) hst (fun _ _ => rfl)
          go_wp2
          go_round
          case rel => exact ⟨k + 1, by go_num, by omega, hB3, hL.setCell (by simp; omega) _⟩
          case measure => simp [intOf]; omega
    · rw [hB.e3, arr8_at (by omega)] at hc
      have hg := ge_lt k
      go_wp2_with (go_at_call 69; refine (ref_Gf (ge k) 3 _ hg (by omega)).mono ?_; rintro e w' ⟨rfl, rfl⟩)
      go_round
      case rel => exact ⟨k + 1, rfl, by go_num, by omega, powK_step k ▸ hB.set3 k (ge k), hL.setCell (by simp; omega) _⟩
      case measure => simp [intOf]; omega
end Go.Proofs.Ytjihklaocgmlpaa
