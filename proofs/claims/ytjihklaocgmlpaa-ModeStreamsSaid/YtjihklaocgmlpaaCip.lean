/- The document's cipher in memory; contracts of its grid, ungrid, rounds, add. -/
import Derived.Test.YtjihklaocgmlpaaAesK
import Derived.Deep.RegionWith
namespace Go.Proofs.Ytjihklaocgmlpaa
open Go.ChangeShapes Go.WideShapes Go.ChangeAt Go.RowKit
set_option maxHeartbeats 4000000
set_option maxRecDepth 100000
theorem load_g44 {w : World} {dst : Option Tmp} {x : Operand} {tt : TypeId} {pos : String} {af : Array Edge} {gd : Option (Nat × Bool)} {a : Act} {K : Act → World → Prop} {Q : Exit → Act → World → Prop}
    (hv : IsHead (a.eval x)) (h : Row w (blkOf (a.eval x)) 16) : Oper.wp Try.prog ⟨dst, .load 120 x, tt, pos, af, gd⟩ a w K Q ↔ K (a.put dst (.agg (rowAt w (blkOf (a.eval x))))) w :=
  wp_load_whole Try.underlying120 rfl (by kernel_rfl) hv h
theorem store_g44 {w : World} {dst : Option Tmp} {x y : Operand} {tt : TypeId} {pos : String} {af : Array Edge} {gd : Option (Nat × Bool)} {a : Act} {K : Act → World → Prop} {Q : Exit → Act → World → Prop}
    (hv : IsHead (a.eval x)) (h : Row w (blkOf (a.eval x)) 16) (hx : IsAgg (a.eval y) 16) : Oper.wp Try.prog ⟨dst, .store 120 x y, tt, pos, af, gd⟩ a w K Q ↔ K (a.put dst undef) (w.setRow (blkOf (a.eval x)) (cellsV (a.eval y))) :=
  wp_store_whole (by kernel_rfl) hv h hx
theorem execl_g44 {w : World} {dst : Option Tmp} {x : Operand} {tt : TypeId} {pos : String} {af : Array Edge} {gd : Option (Nat × Bool)} {ρ : Operand → Value}
    (hv : IsHead (ρ x)) (h : Row w (blkOf (ρ x)) 16) : (execOp ρ ⟨dst, .load 120 x, tt, pos, af, gd⟩).run Try.prog w = .ok (.value (.agg (rowAt w (blkOf (ρ x))))) w :=
  exec_load_whole Try.underlying120 rfl (by kernel_rfl) hv h
theorem execs_g44 {w : World} {dst : Option Tmp} {x y : Operand} {tt : TypeId} {pos : String} {af : Array Edge} {gd : Option (Nat × Bool)} {ρ : Operand → Value}
    (hv : IsHead (ρ x)) (h : Row w (blkOf (ρ x)) 16) (hx : IsAgg (ρ y) 16) : (execOp ρ ⟨dst, .store 120 x y, tt, pos, af, gd⟩).run Try.prog w = .ok .skip (w.setRow (blkOf (ρ x)) (cellsV (ρ y))) :=
  exec_store_whole (by kernel_rfl) hv h hx
attribute [local go_sem ↓] load_a4 store_a4 execl_a4 execs_a4 load_a16 store_a16 execl_a16 execs_a16 load_g44 store_g44 execl_g44 execs_g44
attribute [local go_sem] isHead_mk blkOf_mk isAgg_mk cellsV_mk row_drew rowAt_drew row_new_cells row_old rowAt_new rowAt_old setRow_new
/-- The document's cipher: its words, its boxes. -/
structure CipAt (w : World) (C g cap N : Nat) (F : Nat → Nat) : Prop where
  wsl : w.cell? ⟨C, 0, none⟩ = some (.slice (some ⟨g, 0, none⟩) N cap)
  byte : ∀ p < 4 * N, w.cell? ⟨g, p, none⟩ = some (.int .u8 (F p : Nat))
  box : ∀ x < 256, w.cell? ⟨C, 1 + x, none⟩ = some (.int .u8 (gsub x : Nat))
  unb : ∀ x < 256, w.cell? ⟨C, 257 + x, none⟩ = some (.int .u8 (gunsub x : Nat))
  ltC : C < w.heap.size
  ltg : g < w.heap.size
  ncap : N ≤ cap
section
variable {w w' : World} {C g cap N : Nat} {F : Nat → Nat}
theorem CipAt.below {B : Nat} (h : CipAt w C g cap N F) (hb : Below B w w') (h1 : C < B) (h2 : g < B) : CipAt w' C g cap N F :=
  ⟨(hb.cell (p := ⟨C, 0, none⟩) h1).trans h.wsl, fun p hp => (hb.cell (p := ⟨g, p, none⟩) h2).trans (h.byte p hp), fun x hx => (hb.cell (p := ⟨C, 1 + x, none⟩) h1).trans (h.box x hx), fun x hx => (hb.cell (p := ⟨C, 257 + x, none⟩) h1).trans (h.unb x hx),
    Nat.lt_of_lt_of_le h.ltC hb.size, Nat.lt_of_lt_of_le h.ltg hb.size, h.ncap⟩
theorem CipAt.step (h : CipAt w C g cap N F) (hb : Below w.heap.size w w') : CipAt w' C g cap N F := h.below hb h.ltC h.ltg
end
theorem zeroG : #[Value.int IntKind.u8 0, Value.int IntKind.u8 0, Value.int IntKind.u8 0, Value.int IntKind.u8 0, Value.int IntKind.u8 0, Value.int IntKind.u8 0, Value.int IntKind.u8 0, Value.int IntKind.u8 0, Value.int IntKind.u8 0, Value.int IntKind.u8 0, Value.int IntKind.u8 0, Value.int IntKind.u8 0, Value.int IntKind.u8 0, Value.int IntKind.u8 0, Value.int IntKind.u8 0, Value.int IntKind.u8 0] = arrK .u8 16 fun _ => 0 := zeroA16
theorem ref_rounds (C g cap N : Nat) (F : Nat → Nat) (R : Nat) (w : World) (hC : CipAt w C g cap N F) (hN : N = 4 * (R + 1)) (hR : R ≤ 14) :
    Calls Try.prog 84 #[.pointer (some ⟨C, 0, none⟩)] w fun e w' => e = .returned (.int .i64 (R : Nat)) ∧ Below w.heap.size w w' := by
  have hc := hC.wsl
  have hq : (N : Int) / 4 = (R : Int) + 1 := by omega
  have hL := Below.refl w.heap.size w
  clear hC hN
  go_enter Try.func84, Try.ntmps84
  go_wp2_with fail
  go_ret
  exact ⟨rfl, hL⟩
/-- The first i bytes laid into rows of columns. -/
def gTo (i : Nat) (b : Nat → Nat) : Nat → Nat := fun p => if 4 * (p % 4) + p / 4 < i then b (4 * (p % 4) + p / 4) else 0
theorem gTo_step {i m : Nat} (b : Nat → Nat) (hi : i < 16) (hm : m = i % 4 * 4 + i / 4) : ∀ p < 16, upd (gTo i b) m (b i) p = gTo (i + 1) b p := fun p hp => by
  unfold upd gTo
  by_cases h : p = m
  · have e : 4 * (p % 4) + p / 4 = i := by omega
    rw [if_pos h, e, if_pos (by omega)]
  · have e : 4 * (p % 4) + p / 4 ≠ i := by omega
    rw [if_neg h]
    by_cases h2 : 4 * (p % 4) + p / 4 < i
    · rw [if_pos h2, if_pos (by omega)]
    · rw [if_neg h2, if_neg (by omega)]
theorem gTo_end (b : Nat → Nat) : ∀ p < 16, gTo 16 b p = tr b p := fun p _ => if_pos (by omega)
theorem ref_grid (b : Nat → Nat) (w : World) :
    Calls Try.prog 83 #[.agg (arrK .u8 16 b)] w fun e w' => e = .returned (.agg (arrK .u8 16 (tr b))) ∧ Below w.heap.size w w' := by
  have T0 : At (((w.alloc (Obj.cells (arrK .u8 16 b) 38)).alloc (Obj.cells (arrK .u8 16 fun _ => 0) 120)).alloc (Obj.cells (arrK .u8 16 fun _ => 0) 120)) w.heap.size .u8 16 b := ((At.new _ rfl).old _).old _
  have O0 : At (((w.alloc (Obj.cells (arrK .u8 16 b) 38)).alloc (Obj.cells (arrK .u8 16 fun _ => 0) 120)).alloc (Obj.cells (arrK .u8 16 fun _ => 0) 120)) (w.heap.size + 1) .u8 16 fun _ => 0 := (At.new _ (by simp)).old _
  have G0 : At (((w.alloc (Obj.cells (arrK .u8 16 b) 38)).alloc (Obj.cells (arrK .u8 16 fun _ => 0) 120)).alloc (Obj.cells (arrK .u8 16 fun _ => 0) 120)) (w.heap.size + 1 + 1) .u8 16 fun _ => 0 := At.new _ (by simp)
  have hL0 : Below w.heap.size w (((w.alloc (Obj.cells (arrK .u8 16 b) 38)).alloc (Obj.cells (arrK .u8 16 fun _ => 0) 120)).alloc (Obj.cells (arrK .u8 16 fun _ => 0) 120)) := by go_grown
  have hR0 := T0.row
  have hr0 := T0.eq
  rw [← zeroA16] at hR0 hr0
  go_enter Try.func83, Try.ntmps83
  go_wp2_with fail
  rw [zeroA16]
  generalize ((w.alloc (Obj.cells (arrK .u8 16 b) 38)).alloc (Obj.cells (arrK .u8 16 fun _ => 0) 120)).alloc (Obj.cells (arrK .u8 16 fun _ => 0) 120) = W0 at *
  clear hR0 hr0
  go_loopw [7] (fun x wr => ∃ i : Nat, x = .int .i64 i ∧ i ≤ 16 ∧ At wr (w.heap.size + 1 + 1) .u8 16 (gTo i b) ∧ Row wr (w.heap.size + 1) 16 ∧ Below w.heap.size w wr) (fun x _ => 16 - (intOf x).toNat)
  case atStart => exact ⟨0, rfl, by omega, G0.congr fun p _ => by simp [gTo], O0.row, hL0⟩
  case round =>
    clear T0 O0 G0 hL0
    obtain ⟨i, rfl, hi, G, O, hL⟩ := hrel
    by_cases h16 : i = 16
    · subst h16
      have G2 := G.congr (gTo_end b)
      have hRg := G2.row
      have hrg := G2.eq
      have hsc := arrK_cells .u8 16 (tr b)
      clear G G2
      go_wp2_with fail
      refine ret_row rfl Try.underlying120 rfl (by kernel_rfl) rfl ((row_setRow_same rfl O).2 hsc.1) rfl ?_
      rw [rowAt_setRow_same O]
      exact ⟨rfl, below_setRow hL (by omega)⟩
    · have hdi : decide ((i : Int) < 16) = true := by simp; omega
      have hix : ∀ W : World, (Instr.index 38 (.agg (arrK .u8 16 b)) (.int .i64 i)).run Try.prog W = .ok (.int .u8 (b i)) W := fun W => index_arr8 Try.underlying38 (by omega) W
      obtain ⟨m, hm⟩ : ∃ m, m = i % 4 := ⟨_, rfl⟩
      obtain ⟨q, hq⟩ : ∃ q, q = i / 4 := ⟨_, rfl⟩
      have hst := Lib.hid (gTo_step b (i := i) (m := m * 4 + q) (by omega) (by omega))
      have htm : Int.tmod (i : Int) 4 = (m : Int) := by rw [Int.tmod_eq_emod_of_nonneg (by omega)]; omega
      have htd : (i : Int) / 4 = (q : Int) := by omega
      have hc2 := G.cell (i := m * 4 + q) (by omega)
      have hfr := G.row.frozen (m * 4 + q)
      have b1 : (m : Int) < 4 := by omega
      have b2 : (q : Int) < 4 := by omega
      have hGh := Lib.hid G
      clear G hm hq
      go_wp2_with fail
      go_round
      case rel => exact ⟨i + 1, by go_num, by omega, (hGh.out.set _ _).congr hst.out, row_setCell.2 O, hL.setCell (by simp; omega) _⟩
      case measure => simp [intOf]; omega
theorem ref_ungrid (g : Nat → Nat) (w : World) :
    Calls Try.prog 86 #[.agg (arrK .u8 16 g)] w fun e w' => e = .returned (.agg (arrK .u8 16 (tr g))) ∧ Below w.heap.size w w' := by
  have T0 : At (((w.alloc (Obj.cells (arrK .u8 16 g) 120)).alloc (Obj.cells (arrK .u8 16 fun _ => 0) 38)).alloc (Obj.cells (arrK .u8 16 fun _ => 0) 38)) w.heap.size .u8 16 g := ((At.new _ rfl).old _).old _
  have O0 : At (((w.alloc (Obj.cells (arrK .u8 16 g) 120)).alloc (Obj.cells (arrK .u8 16 fun _ => 0) 38)).alloc (Obj.cells (arrK .u8 16 fun _ => 0) 38)) (w.heap.size + 1) .u8 16 fun _ => 0 := (At.new _ (by simp)).old _
  have G0 : At (((w.alloc (Obj.cells (arrK .u8 16 g) 120)).alloc (Obj.cells (arrK .u8 16 fun _ => 0) 38)).alloc (Obj.cells (arrK .u8 16 fun _ => 0) 38)) (w.heap.size + 1 + 1) .u8 16 fun _ => 0 := At.new _ (by simp)
  have hL0 : Below w.heap.size w (((w.alloc (Obj.cells (arrK .u8 16 g) 120)).alloc (Obj.cells (arrK .u8 16 fun _ => 0) 38)).alloc (Obj.cells (arrK .u8 16 fun _ => 0) 38)) := by go_grown
  go_enter Try.func86, Try.ntmps86
  go_wp2_with fail
  rw [zeroA16]
  generalize ((w.alloc (Obj.cells (arrK .u8 16 g) 120)).alloc (Obj.cells (arrK .u8 16 fun _ => 0) 38)).alloc (Obj.cells (arrK .u8 16 fun _ => 0) 38) = W0 at *
  go_loopw [5] (fun x wr => ∃ i : Nat, x = .int .i64 i ∧ i ≤ 16 ∧ At wr (w.heap.size + 1 + 1) .u8 16 (upTo i (tr g) fun _ => 0) ∧ At wr w.heap.size .u8 16 g ∧ Row wr (w.heap.size + 1) 16 ∧ Below w.heap.size w wr) (fun x _ => 16 - (intOf x).toNat)
  case atStart => exact ⟨0, rfl, by omega, by rw [upTo_zero]; exact G0, T0, O0.row, hL0⟩
  case round =>
    clear T0 O0 G0 hL0
    obtain ⟨i, rfl, hi, G, T, O, hL⟩ := hrel
    by_cases h16 : i = 16
    · subst h16
      have G2 := G.congr (upTo_end _ _)
      have hRg := G2.row
      have hrg := G2.eq
      have hsc := arrK_cells .u8 16 (tr g)
      clear G G2 T
      go_wp2_with fail
      refine ret_row rfl Try.underlying38 rfl (by kernel_rfl) rfl ((row_setRow_same rfl O).2 hsc.1) rfl ?_
      rw [rowAt_setRow_same O]
      exact ⟨rfl, below_setRow hL (by omega)⟩
    · have hdi : decide ((i : Int) < 16) = true := by simp; omega
      obtain ⟨m, hm⟩ : ∃ m, m = i % 4 := ⟨_, rfl⟩
      obtain ⟨q, hq⟩ : ∃ q, q = i / 4 := ⟨_, rfl⟩
      have htm : Int.tmod (i : Int) 4 = (m : Int) := by rw [Int.tmod_eq_emod_of_nonneg (by omega)]; omega
      have htd : (i : Int) / 4 = (q : Int) := by omega
      have hc1 := T.cell (i := m * 4 + q) (by omega)
      rw [show g (m * 4 + q) = tr g i by unfold tr; congr 1; omega] at hc1
      have hc2 := G.cell (i := i) (by omega)
      have hfr := G.row.frozen i
      have b1 : (m : Int) < 4 := by omega
      have b2 : (q : Int) < 4 := by omega
      have hGh := Lib.hid G
      have hTh := Lib.hid T
      clear G T hm hq
      go_wp2_with fail
      go_round
      case rel => exact ⟨i + 1, by go_num, by omega, by rw [← upTo_step]; exact hGh.out.set _ _, hTh.out.farC (by simp; omega), row_setCell.2 O, hL.setCell (by simp; omega) _⟩
      case measure => simp [intOf]; omega
/-- Words added to rows of columns. -/
def arkT (F : Nat → Nat) (r : Nat) (g : Nat → Nat) : Nat → Nat := fun p => g p ^^^ F (16 * r + (4 * (p % 4) + p / 4))
theorem arkT_tr (F : Nat → Nat) (r : Nat) (s : Nat → Nat) : arkT F r (tr s) = tr (ark F r s) := rfl
theorem ref_add (C gw cap N : Nat) (F : Nat → Nat) (g : Nat → Nat) (r : Nat) (w : World) (hC : CipAt w C gw cap N F) (hr : 4 * r + 4 ≤ N) (hN : N ≤ 60) (hg : ∀ p < 16, g p < 256) (hF : ∀ p, F p < 256) :
    Calls Try.prog 82 #[.pointer (some ⟨C, 0, none⟩), .agg (arrK .u8 16 g), .int .i64 r] w fun e w' => e = .returned (.agg (arrK .u8 16 (arkT F r g))) ∧ Below w.heap.size w w' := by
  have T0 : At ((w.alloc (Obj.cells (arrK .u8 16 g) 120)).alloc (Obj.cells (arrK .u8 16 fun _ => 0) 120)) w.heap.size .u8 16 g := (At.new _ rfl).old _
  have O0 : At ((w.alloc (Obj.cells (arrK .u8 16 g) 120)).alloc (Obj.cells (arrK .u8 16 fun _ => 0) 120)) (w.heap.size + 1) .u8 16 fun _ => 0 := At.new _ (by simp)
  have hL0 : Below w.heap.size w ((w.alloc (Obj.cells (arrK .u8 16 g) 120)).alloc (Obj.cells (arrK .u8 16 fun _ => 0) 120)) := by go_grown
  have hC1 := hC.ltC
  have hC2 := hC.ltg
  have hHC := Lib.hid hC
  clear hC
  go_enter Try.func82, Try.ntmps82
  go_wp2_with fail
  rw [zeroA16]
  generalize (w.alloc (Obj.cells (arrK .u8 16 g) 120)).alloc (Obj.cells (arrK .u8 16 fun _ => 0) 120) = W0 at *
  go_loopw [9] (fun x wr => ∃ i : Nat, x = .int .i64 i ∧ i ≤ 4 ∧ At wr w.heap.size .u8 16 (upTo (4 * i) (arkT F r g) g) ∧ Row wr (w.heap.size + 1) 16 ∧ Below w.heap.size w wr) (fun x _ => 4 - (intOf x).toNat)
  case atStart => exact ⟨0, rfl, by omega, by rw [upTo_zero]; exact T0, O0.row, hL0⟩
  case round =>
    clear T0 O0 hL0
    obtain ⟨i, rfl, hi, T, O, hL⟩ := hrel
    by_cases h4 : i = 4
    · subst h4
      have T2 := T.congr (upTo_end _ _)
      have hRt := T2.row
      have hrt := T2.eq
      have hsc := arrK_cells .u8 16 (arkT F r g)
      clear T T2
      go_wp2_with fail
      refine ret_row rfl Try.underlying120 rfl (by kernel_rfl) rfl ((row_setRow_same rfl O).2 hsc.1) rfl ?_
      rw [rowAt_setRow_same O]
      exact ⟨rfl, below_setRow hL (by omega)⟩
    · have hd : decide ((i : Int) < 4) = true := by simp; omega
      go_wp2_with fail
      go_loopw [12] (fun x wr => ∃ k : Nat, x = .int .i64 k ∧ k ≤ 4 ∧ At wr w.heap.size .u8 16 (upTo (4 * i + k) (arkT F r g) g) ∧ Row wr (w.heap.size + 1) 16 ∧ Below w.heap.size w wr) (fun x _ => 4 - (intOf x).toNat)
      case atStart => exact ⟨0, rfl, by omega, T, O, hL⟩
      case round =>
        clear T O hL
        obtain ⟨k, rfl, hk, T, O, hL⟩ := hrel
        by_cases hk4 : k = 4
        · subst hk4
          go_wp2_with fail
          go_round
          case rel => exact ⟨i + 1, by go_num, by omega, T, O, hL⟩
          case measure => simp [intOf]; omega
        · have hdk : decide ((k : Int) < 4) = true := by simp; omega
          have hCr := hHC.out.below hL hC1 hC2
          have c0 := hCr.wsl
          have c1 := hCr.byte ((4 * r + k) * 4 + i) (by omega)
          have c2 := T.cell (i := i * 4 + k) (by omega)
          rw [upTo_ge _ _ (by omega)] at c2
          have c3 := T.row.frozen (i * 4 + k)
          obtain ⟨v, hv⟩ : ∃ v, v = F ((4 * r + k) * 4 + i) := ⟨_, rfl⟩
          rw [← hv] at c1
          have hx := xor_8 (hg (i * 4 + k) (by omega)) (show v < 256 by rw [hv]; exact hF _)
          have hnew := Lib.hid (show g (i * 4 + k) ^^^ v = arkT F r g (4 * i + k) by rw [hv, Nat.mul_comm i 4]; unfold arkT; congr 2; omega)
          have b0 : 4 * r + k < N := by omega
          have b3 : (0 : Int) ≤ (i : Int) := by omega
          have b4 : (i : Int) < 4 := by omega
          have b5 : (0 : Int) ≤ (k : Int) := by omega
          have b6 : (k : Int) < 4 := by omega
          have hT := Lib.hid T
          clear T hCr hv
          go_wp2_with fail
          go_region
          all_goals
            go_wp2_with fail
            go_round
            case rel =>
              refine ⟨k + 1, by go_num, by omega, ?_, row_setCell.2 O, (hL.setCell (by simp) _).drew⟩
              have ht := (hT.out.set (i * 4 + k) (g (i * 4 + k) ^^^ v)).drew
              rw [hnew.out, Nat.mul_comm i 4, upTo_step, ← hnew.out] at ht
              rw [Nat.mul_comm i 4]
              rw [Nat.mul_comm i 4] at ht
              exact ht
            case measure => simp [intOf]; omega
end Go.Proofs.Ytjihklaocgmlpaa
