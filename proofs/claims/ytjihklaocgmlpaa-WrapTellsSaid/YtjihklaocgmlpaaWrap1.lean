/- The document's eight and counted; the plain law of wrapping. -/
import Derived.Test.YtjihklaocgmlpaaMode3
namespace Go.Proofs.Ytjihklaocgmlpaa
open Go.ChangeShapes Go.WideShapes Go.ChangeAt Go.RowKit
set_option maxHeartbeats 4000000
set_option maxRecDepth 100000
theorem load_b8 {w : World} {dst : Option Tmp} {x : Operand} {tt : TypeId} {pos : String} {af : Array Edge} {gd : Option (Nat × Bool)} {a : Act} {K : Act → World → Prop} {Q : Exit → Act → World → Prop}
    (hv : IsHead (a.eval x)) (h : Row w (blkOf (a.eval x)) 8) : Oper.wp Try.prog ⟨dst, .load 132 x, tt, pos, af, gd⟩ a w K Q ↔ K (a.put dst (.agg (rowAt w (blkOf (a.eval x))))) w :=
  wp_load_whole Try.underlying132 rfl (by kernel_rfl) hv h
theorem store_b8 {w : World} {dst : Option Tmp} {x y : Operand} {tt : TypeId} {pos : String} {af : Array Edge} {gd : Option (Nat × Bool)} {a : Act} {K : Act → World → Prop} {Q : Exit → Act → World → Prop}
    (hv : IsHead (a.eval x)) (h : Row w (blkOf (a.eval x)) 8) (hx : IsAgg (a.eval y) 8) : Oper.wp Try.prog ⟨dst, .store 132 x y, tt, pos, af, gd⟩ a w K Q ↔ K (a.put dst undef) (w.setRow (blkOf (a.eval x)) (cellsV (a.eval y))) :=
  wp_store_whole (by kernel_rfl) hv h hx
attribute [local go_sem ↓] load_b8 store_b8
attribute [local go_sem] isHead_mk blkOf_mk isAgg_mk cellsV_mk row_drew rowAt_drew row_new_cells row_old rowAt_new rowAt_old setRow_new

theorem zeroB8 : #[Value.int IntKind.u8 0, Value.int IntKind.u8 0, Value.int IntKind.u8 0, Value.int IntKind.u8 0, Value.int IntKind.u8 0, Value.int IntKind.u8 0, Value.int IntKind.u8 0, Value.int IntKind.u8 0] = arrK .u8 8 fun _ => 0 := by kernel_rfl
theorem ref_eight (l : List UInt8) (f : Nat → Nat) (w : World) (hl : 8 ≤ l.length) (hf : ∀ i < 8, byteAt l i = f i) :
    Calls Try.prog 96 #[.string ⟨l.toArray⟩] w fun e w' => e = .returned (.agg (arrK .u8 8 f)) ∧ Below w.heap.size w w' := by
  have O0 : At ((w.alloc (Obj.cells (arrK .u8 8 fun _ => 0) 132)).alloc (Obj.cells (arrK .u8 8 fun _ => 0) 132)) w.heap.size .u8 8 fun _ => 0 := (At.new _ rfl).old _
  have T0 : At ((w.alloc (Obj.cells (arrK .u8 8 fun _ => 0) 132)).alloc (Obj.cells (arrK .u8 8 fun _ => 0) 132)) (w.heap.size + 1) .u8 8 fun _ => 0 := At.new _ (by simp)
  have hL0 : Below w.heap.size w ((w.alloc (Obj.cells (arrK .u8 8 fun _ => 0) 132)).alloc (Obj.cells (arrK .u8 8 fun _ => 0) 132)) := by go_grown
  go_enter Try.func96, Try.ntmps96
  go_wp2_with fail
  rw [zeroB8]
  generalize (w.alloc (Obj.cells (arrK .u8 8 fun _ => 0) 132)).alloc (Obj.cells (arrK .u8 8 fun _ => 0) 132) = W0 at *
  go_loopw [5] (fun x wr => ∃ i : Nat, x = .int .i64 i ∧ i ≤ 8 ∧ At wr (w.heap.size + 1) .u8 8 (firstF i f) ∧ Row wr w.heap.size 8 ∧ Below w.heap.size w wr) (fun x _ => 8 - (intOf x).toNat)
  case atStart => exact ⟨0, rfl, by omega, T0, O0.row, hL0⟩
  case round =>
    obtain ⟨i, rfl, hi, T, O, hL⟩ := hrel
    have hRt := T.row
    have hrt := T.eq
    by_cases h4 : i = 8
    · subst h4
      rw [arrK_congr (f := firstF 8 f) (g := f) (fun p hp => if_pos hp)] at hrt
      have hcs := arrK_cells .u8 8 f
      clear T T0 O0 hL0
      go_wp2_with fail
      refine ret_row rfl Try.underlying132 rfl (by kernel_rfl) rfl ((row_setRow_same rfl O).2 hcs.1) rfl ?_
      rw [rowAt_setRow_same O]
      exact ⟨rfl, below_setRow hL (by omega)⟩
    · have hd : decide ((i : Int) < 8) = true := by simp; omega
      have hix := str_index l i (i : Int) rfl (by omega)
      rw [hf i (by omega)] at hix
      have hc1 := T.cell (i := i) (by omega)
      have hfr := hRt.frozen i
      clear T0 O0 hL0
      go_wp2_with fail
      go_round
      case rel => exact ⟨i + 1, by go_num, by omega, by rw [← firstF_step]; exact T.set i _, row_setCell.2 O, hL.setCell (by simp) _⟩
      case measure => simp [intOf]; omega
/-- The count upon the last byte. -/
def cntF (f : Nat → Nat) (t : Nat) : Nat → Nat := fun p => if p = 7 then f 7 ^^^ t else f p
theorem ref_counted (f : Nat → Nat) (t : Nat) (w : World) (hf : ∀ i < 8, f i < 256) (ht : t < 256) :
    Calls Try.prog 95 #[.agg (arrK .u8 8 f), .int .i64 t] w fun e w' => e = .returned (.agg (arrK .u8 8 (cntF f t))) ∧ Below w.heap.size w w' := by
  have T0 : At ((w.alloc (Obj.cells (arrK .u8 8 f) 132)).alloc (Obj.cells (arrK .u8 8 fun _ => 0) 132)) w.heap.size .u8 8 f := (At.new _ rfl).old _
  have O0 : At ((w.alloc (Obj.cells (arrK .u8 8 f) 132)).alloc (Obj.cells (arrK .u8 8 fun _ => 0) 132)) (w.heap.size + 1) .u8 8 fun _ => 0 := At.new _ (by simp)
  have hL0 : Below w.heap.size w ((w.alloc (Obj.cells (arrK .u8 8 f) 132)).alloc (Obj.cells (arrK .u8 8 fun _ => 0) 132)) := by go_grown
  go_enter Try.func95, Try.ntmps95
  go_wp2_with fail
  rw [zeroB8]
  generalize (w.alloc (Obj.cells (arrK .u8 8 f) 132)).alloc (Obj.cells (arrK .u8 8 fun _ => 0) 132) = W0 at *
  go_loopw [1, 5] (fun n x wr => ∃ s q : Nat, x = .int .i64 ((s : Int) - 1) ∧ n = .int .i64 q ∧ s ≤ 8 ∧ ((s = 8 ∧ q = t ∧ At wr w.heap.size .u8 8 f) ∨ (s < 8 ∧ q = 0 ∧ At wr w.heap.size .u8 8 (cntF f t))) ∧ Row wr (w.heap.size + 1) 8 ∧ Below w.heap.size w wr) (fun _ x _ => (intOf x + 1).toNat)
  case atStart => exact ⟨8, t, rfl, rfl, by omega, .inl ⟨rfl, rfl, T0⟩, O0.row, hL0⟩
  case round =>
    clear T0 O0 hL0
    obtain ⟨s, q, rfl, rfl, hs, hor, O, hL⟩ := hrel
    rcases Nat.eq_zero_or_pos s with rfl | hs0
    · rcases hor with ⟨h, -⟩ | ⟨-, rfl, T⟩
      · omega
      · have hRt := T.row
        have hrt := T.eq
        have hcs := arrK_cells .u8 8 (cntF f t)
        clear T
        go_wp2_with fail
        refine ret_row rfl Try.underlying132 rfl (by kernel_rfl) rfl ((row_setRow_same rfl O).2 hcs.1) rfl ?_
        rw [rowAt_setRow_same O]
        exact ⟨rfl, below_setRow hL (by omega)⟩
    · obtain ⟨i, rfl⟩ : ∃ i, s = i + 1 := ⟨s - 1, by omega⟩
      rw [show (((i + 1 : Nat) : Int) - 1) = (i : Int) by omega]
      have hd : (0 : Int) ≤ (i : Int) := by omega
      have hi8 : (i : Int) < 8 := by omega
      obtain ⟨F, hF⟩ : ∃ F, At wr w.heap.size .u8 8 F ∧ (∀ j < 8, F j < 256) ∧ (∀ p < 8, upd F i (F i ^^^ q) p = cntF f t p) := by
        rcases hor with ⟨h1, rfl, T⟩ | ⟨h1, rfl, T⟩
        · refine ⟨f, T, hf, fun p hp => ?_⟩
          have : i = 7 := by omega
          subst this
          rfl
        · refine ⟨cntF f t, T, fun j hj => ?_, fun p hp => ?_⟩
          · unfold cntF
            split
            · exact xor_lt8 (hf 7 (by omega)) ht
            · exact hf j hj
          · unfold upd
            split
            · rename_i e; rw [e, Nat.xor_zero]
            · rfl
      obtain ⟨T, hFl, hFc⟩ := hF
      have hq : q < 256 := by rcases hor with ⟨-, h, -⟩ | ⟨-, h, -⟩ <;> omega
      have hc1 := T.cell (i := i) (by omega)
      have hfr := T.row.frozen i
      have hx := xor_8 (hFl i (by omega)) hq
      have hqr : (q : Int) % 256 = (q : Int) := by omega
      have hqt : Int.tmod (q : Int) 256 = (q : Int) := by rw [Int.tmod_eq_emod_of_nonneg (by omega)]; omega
      have hq0 : (q : Int) / 256 = 0 := by omega
      have hqd : Int.tdiv (q : Int) 256 = 0 := by rw [Int.tdiv_eq_ediv_of_nonneg (by omega)]; omega
      have hcy : IntKind.u8.wrap (q : Int) = (q : Int) := by rw [IntKind.wrap_u8]; omega
      have hT := Lib.hid T
      have hFc := Lib.hid hFc
      clear T hor
      go_wp2_with fail
      go_round
      case rel => exact ⟨i, 0, by go_num, rfl, by omega, .inr ⟨by omega, rfl, (hT.out.set i _).congr hFc.out⟩, row_setCell.2 O, hL.setCell (by simp) _⟩
      case measure => simp [intOf] <;> omega

/-! Wrapping: a row of bytes, eight of them and n blocks of eight behind. -/
/-- The block that is enciphered. -/
def wblk (f : Nat → Nat) (p : Nat) : Nat → Nat := fun i => if i < 8 then f i else f (p + (i - 8))
/-- What becomes of the row. -/
def wput (f e : Nat → Nat) (p : Nat) : Nat → Nat := fun q => if q < 8 then e q else if p ≤ q ∧ q < p + 8 then e (8 + (q - p)) else f q
def wst (F : Nat → Nat) (R t p : Nat) (f : Nat → Nat) : Nat → Nat := wput f (cntF (encB F R (wblk f p)) t) p
def wrapS (F : Nat → Nat) (R n : Nat) (f : Nat → Nat) : Nat → Nat → Nat
  | 0 => f
  | t + 1 => wst F R (t + 1) (8 * (t % n + 1)) (wrapS F R n f t)
def ust (F : Nat → Nat) (R t p : Nat) (f : Nat → Nat) : Nat → Nat := wput f (decB F R (cntF (wblk f p) t)) p
/-- After c steps of unwrapping. -/
def unwrapS (F : Nat → Nat) (R n : Nat) (f : Nat → Nat) : Nat → Nat → Nat
  | 0 => f
  | c + 1 => ust F R (6 * n - c) (8 * ((6 * n - c - 1) % n + 1)) (unwrapS F R n f c)
section
variable {F f e : Nat → Nat} {R n t p : Nat}
theorem wblk_lt (hf : ∀ q, f q < 256) (p i : Nat) : wblk f p i < 256 := by
  unfold wblk
  split
  · exact hf _
  · exact hf _
theorem wput_lt (hf : ∀ q, f q < 256) (he : ∀ i < 16, e i < 256) (p q : Nat) : wput f e p q < 256 := by
  unfold wput
  split
  · exact he _ (by omega)
  · split
    · exact he _ (by omega)
    · exact hf _
theorem cntF_lt (hf : ∀ i < 16, f i < 256) (ht : t < 256) : ∀ i < 16, cntF f t i < 256 := fun i hi => by
  unfold cntF
  split
  · exact xor_lt8 (hf 7 (by omega)) ht
  · exact hf i hi
theorem wst_lt (hF : ∀ q, F q < 256) (hf : ∀ q, f q < 256) (ht : t < 256) (q : Nat) : wst F R t p f q < 256 :=
  wput_lt hf (cntF_lt (encB_lt hF fun i _ => wblk_lt hf p i) ht) p q
theorem ust_lt (hF : ∀ q, F q < 256) (hf : ∀ q, f q < 256) (ht : t < 256) (q : Nat) : ust F R t p f q < 256 :=
  wput_lt hf (decB_lt hF (cntF_lt (fun i _ => wblk_lt hf p i) ht)) p q
theorem wrapS_lt (hF : ∀ q, F q < 256) (hf : ∀ q, f q < 256) : ∀ t, t < 256 → ∀ q, wrapS F R n f t q < 256
  | 0, _ => hf
  | t + 1, h => wst_lt hF (wrapS_lt hF hf t (by omega)) h
theorem unwrapS_lt (hF : ∀ q, F q < 256) (hf : ∀ q, f q < 256) (hn : 6 * n < 256) : ∀ c, ∀ q, unwrapS F R n f c q < 256
  | 0 => hf
  | c + 1 => ust_lt hF (unwrapS_lt hF hf hn c) (by omega)
end
end Go.Proofs.Ytjihklaocgmlpaa
