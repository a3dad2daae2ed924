/- The document's Sixteen and xor; the plain law of sealing. -/
import Derived.Test.YtjihklaocgmlpaaCip5
import Derived.Test.YtjihklaocgmlpaaBuf
namespace Go.Proofs.Ytjihklaocgmlpaa
open Go.ChangeShapes Go.WideShapes Go.ChangeAt Go.RowKit
set_option maxHeartbeats 4000000
set_option maxRecDepth 100000
attribute [local go_sem ↓] load_a16 store_a16 execl_a16 execs_a16
attribute [local go_sem] isHead_mk blkOf_mk isAgg_mk cellsV_mk row_drew rowAt_drew row_new_cells row_old rowAt_new rowAt_old setRow_new

/-- The first n bytes stand, the others are 0. -/
def firstF (n : Nat) (f : Nat → Nat) : Nat → Nat := fun p => if p < n then f p else 0
theorem firstF_step (n : Nat) (f : Nat → Nat) : upd (firstF n f) n (f n) = firstF (n + 1) f := by
  funext p
  unfold upd firstF
  by_cases h : p = n
  · subst h; rw [if_pos rfl, if_pos (by omega)]
  · rw [if_neg h]
    by_cases h2 : p < n
    · rw [if_pos h2, if_pos (by omega)]
    · rw [if_neg h2, if_neg (by omega)]
theorem ref_Sixteen (l : List UInt8) (w : World) (hl : 16 ≤ l.length) :
    Calls Try.prog 93 #[.string ⟨l.toArray⟩] w fun e w' => e = .returned (.agg (arrK .u8 16 (byteAt l))) ∧ Below w.heap.size w w' := by
  have O0 : At ((w.alloc (Obj.cells (arrK .u8 16 fun _ => 0) 38)).alloc (Obj.cells (arrK .u8 16 fun _ => 0) 38)) w.heap.size .u8 16 fun _ => 0 := (At.new _ rfl).old _
  have T0 : At ((w.alloc (Obj.cells (arrK .u8 16 fun _ => 0) 38)).alloc (Obj.cells (arrK .u8 16 fun _ => 0) 38)) (w.heap.size + 1) .u8 16 fun _ => 0 := At.new _ (by simp)
  have hL0 : Below w.heap.size w ((w.alloc (Obj.cells (arrK .u8 16 fun _ => 0) 38)).alloc (Obj.cells (arrK .u8 16 fun _ => 0) 38)) := by go_grown
  go_enter Try.func93, Try.ntmps93
  go_wp2_with fail
  rw [zeroA16]
  generalize (w.alloc (Obj.cells (arrK .u8 16 fun _ => 0) 38)).alloc (Obj.cells (arrK .u8 16 fun _ => 0) 38) = W0 at *
  go_loopw [5] (fun x wr => ∃ i : Nat, x = .int .i64 i ∧ i ≤ 16 ∧ At wr (w.heap.size + 1) .u8 16 (firstF i (byteAt l)) ∧ Row wr w.heap.size 16 ∧ Below w.heap.size w wr) (fun x _ => 16 - (intOf x).toNat)
  case atStart => exact ⟨0, rfl, by omega, T0, O0.row, hL0⟩
  case round =>
    obtain ⟨i, rfl, hi, T, O, hL⟩ := hrel
    have hRt := T.row
    have hrt := T.eq
    by_cases h4 : i = 16
    · subst h4
      rw [arrK_congr (f := firstF 16 (byteAt l)) (g := byteAt l) (fun p hp => if_pos hp)] at hrt
      have hcs := arrK_cells .u8 16 (byteAt l)
      clear T T0 O0 hL0
      go_wp2_with fail
      refine ret_row rfl Try.underlying38 rfl (by kernel_rfl) rfl ((row_setRow_same rfl O).2 hcs.1) rfl ?_
      rw [rowAt_setRow_same O]
      exact ⟨rfl, below_setRow hL (by omega)⟩
    · have hd : decide ((i : Int) < 16) = true := by simp; omega
      have hix := str_index l i (i : Int) rfl (by omega)
      have hc1 := T.cell (i := i) (by omega)
      have hfr := hRt.frozen i
      clear T0 O0 hL0
      go_wp2_with fail
      go_round
      case rel => exact ⟨i + 1, by go_num, by omega, by rw [← firstF_step]; exact T.set i _, row_setCell.2 O, hL.setCell (by simp) _⟩
      case measure => simp [intOf]; omega
def xorF (a b : Nat → Nat) : Nat → Nat := fun p => a p ^^^ b p
theorem ref_xor16 (a b : Nat → Nat) (w : World) (ha : ∀ i < 16, a i < 256) (hb : ∀ i < 16, b i < 256) :
    Calls Try.prog 94 #[.agg (arrK .u8 16 a), .agg (arrK .u8 16 b)] w fun e w' => e = .returned (.agg (arrK .u8 16 (xorF a b))) ∧ Below w.heap.size w w' := by
  have T0 : At (((w.alloc (Obj.cells (arrK .u8 16 a) 38)).alloc (Obj.cells (arrK .u8 16 b) 38)).alloc (Obj.cells (arrK .u8 16 fun _ => 0) 38)) w.heap.size .u8 16 a := ((At.new _ rfl).old _).old _
  have S0 : At (((w.alloc (Obj.cells (arrK .u8 16 a) 38)).alloc (Obj.cells (arrK .u8 16 b) 38)).alloc (Obj.cells (arrK .u8 16 fun _ => 0) 38)) (w.heap.size + 1) .u8 16 b := (At.new _ (by simp)).old _
  have O0 : At (((w.alloc (Obj.cells (arrK .u8 16 a) 38)).alloc (Obj.cells (arrK .u8 16 b) 38)).alloc (Obj.cells (arrK .u8 16 fun _ => 0) 38)) (w.heap.size + 2) .u8 16 fun _ => 0 := At.new _ (by simp)
  have hL0 : Below w.heap.size w (((w.alloc (Obj.cells (arrK .u8 16 a) 38)).alloc (Obj.cells (arrK .u8 16 b) 38)).alloc (Obj.cells (arrK .u8 16 fun _ => 0) 38)) := by go_grown
  go_enter Try.func94, Try.ntmps94
  go_wp2_with fail
  rw [zeroA16]
  generalize ((w.alloc (Obj.cells (arrK .u8 16 a) 38)).alloc (Obj.cells (arrK .u8 16 b) 38)).alloc (Obj.cells (arrK .u8 16 fun _ => 0) 38) = W0 at *
  go_loopw [6] (fun x wr => ∃ i : Nat, x = .int .i64 i ∧ i ≤ 16 ∧ At wr w.heap.size .u8 16 (upTo i (xorF a b) a) ∧ At wr (w.heap.size + 1) .u8 16 b ∧ Row wr (w.heap.size + 2) 16 ∧ Below w.heap.size w wr) (fun x _ => 16 - (intOf x).toNat)
  case atStart => exact ⟨0, rfl, by omega, by rw [upTo_zero]; exact T0, S0, O0.row, hL0⟩
  case round =>
    obtain ⟨i, rfl, hi, T, S, O, hL⟩ := hrel
    have hRt := T.row
    have hrt := T.eq
    by_cases h4 : i = 16
    · subst h4
      rw [arrK_congr (upTo_end _ _)] at hrt
      have hcs := arrK_cells .u8 16 (xorF a b)
      clear T S T0 S0 O0 hL0
      go_wp2_with fail
      refine ret_row rfl Try.underlying38 rfl (by kernel_rfl) rfl ((row_setRow_same rfl O).2 hcs.1) rfl ?_
      rw [rowAt_setRow_same O]
      exact ⟨rfl, below_setRow hL (by omega)⟩
    · have hd : decide ((i : Int) < 16) = true := by simp; omega
      have hz : (0 : Int) ≤ (i : Int) := by omega
      have hz16 : (i : Int) < 16 := by omega
      have hc1 := T.cell (i := i) (by omega)
      rw [upTo_at] at hc1
      have hc2 := S.cell (i := i) (by omega)
      have hfr := hRt.frozen i
      have hx := xor_8 (ha i (by omega)) (hb i (by omega))
      have hT := Lib.hid T
      have hS := Lib.hid S
      clear T S T0 S0 O0 hL0 hRt hrt
      go_wp2_with fail
      go_region
      all_goals
        go_wp2_with fail
        go_round
        case rel => exact ⟨i + 1, by go_num, by omega, by rw [← upTo_step]; exact (hT.out.set i _).drew, (hS.out.farC (by simp)).drew, row_setCell.2 O, (hL.setCell (by simp) _).drew⟩
        case measure => simp [intOf]; omega

/-! Sealing: block for block, each upon the one before. -/
/-- The block that comes of the first k blocks of q. -/
def ivs (F : Nat → Nat) (R : Nat) (iv q : Nat → Nat) : Nat → Nat → Nat
  | 0 => iv
  | k + 1 => encB F R (xorF (ivs F R iv q k) fun i => q (16 * k + i))
/-- What is sealed, at p. -/
def sealF (F : Nat → Nat) (R : Nat) (iv q : Nat → Nat) : Nat → Nat := fun p => ivs F R iv q (p / 16 + 1) (p % 16)
theorem encB_lt {F : Nat → Nat} {R : Nat} {b : Nat → Nat} (hF : ∀ p, F p < 256) (hb : ∀ i < 16, b i < 256) : ∀ i < 16, encB F R b i < 256 := encS_lt hF hb R
theorem decB_lt {F : Nat → Nat} {R : Nat} {b : Nat → Nat} (hF : ∀ p, F p < 256) (hb : ∀ i < 16, b i < 256) : ∀ i < 16, decB F R b i < 256 := ark_lt hF 0 (decS_lt hb R)
theorem ivs_lt {F : Nat → Nat} {R : Nat} {iv q : Nat → Nat} (hF : ∀ p, F p < 256) (hv : ∀ i < 16, iv i < 256) (hq : ∀ p, q p < 256) : ∀ k, ∀ i < 16, ivs F R iv q k i < 256
  | 0 => hv
  | k + 1 => encB_lt hF fun i hi => xor_lt8 (ivs_lt hF hv hq k i hi) (hq _)
theorem sealF_lt {F : Nat → Nat} {R : Nat} {iv q : Nat → Nat} (hF : ∀ p, F p < 256) (hv : ∀ i < 16, iv i < 256) (hq : ∀ p, q p < 256) (p : Nat) : sealF F R iv q p < 256 := ivs_lt hF hv hq _ _ (by omega)
/-- The text with what is put behind it: n times n. -/
def padF (l : List UInt8) (n : Nat) : Nat → Nat := fun p => if p < l.length then byteAt l p else n
theorem padF_lt {l : List UInt8} {n : Nat} (hn : n < 256) (p : Nat) : padF l n p < 256 := by
  unfold padF
  split
  · exact byteAt_lt _ _
  · exact hn
end Go.Proofs.Ytjihklaocgmlpaa
