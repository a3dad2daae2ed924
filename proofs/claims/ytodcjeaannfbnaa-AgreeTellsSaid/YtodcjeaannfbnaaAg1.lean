/- Contracts of package agree: Clamp, and the document's Clamped. -/
import Derived.Test.YtodcjeaannfbnaaNb
import Derived.Test.YtodcjeaannfbnaaNc
import Derived.Test.YtodcjeaannfbnaaNum6
namespace Go.Proofs.Ytodcjeaannfbnaa
open Go.ChangeShapes Go.WideShapes Go.ChangeAt Go.RowKit
set_option maxHeartbeats 2000000
set_option maxRecDepth 100000
attribute [local go_sem ↓] load_num store_num execl_num execs_num load_b32 store_b32 execl_b32 execs_b32
attribute [local go_sem] isHead_mk blkOf_mk isAgg_mk cellsV_mk row_drew rowAt_drew row_new_cells row_old rowAt_new rowAt_old setRow_new zeroNum zero32
/-- The bytes of a secret, clamped. -/
def clF (f : Nat → Nat) : Nat → Nat := upd (upd f 0 (f 0 / 8 * 8)) 31 (f 31 % 64 + 64)
theorem and_not7 (x : Nat) (hx : x < 256) : bits .andNot .u8 (x : Int) 7 = ((x / 8 * 8 : Nat) : Int) := by
  have h : ∀ y : Fin 256, bits .andNot .u8 ((y.val : Nat) : Int) 7 = ((y.val / 8 * 8 : Nat) : Int) := by decide +kernel
  exact h ⟨x, hx⟩
theorem and_127 (x : Nat) (hx : x < 256) : bits .and .u8 (x : Int) 127 = ((x % 128 : Nat) : Int) := by
  have h : ∀ y : Fin 256, bits .and .u8 ((y.val : Nat) : Int) 127 = ((y.val % 128 : Nat) : Int) := by decide +kernel
  exact h ⟨x, hx⟩
theorem or_64 (x : Nat) (hx : x < 256) : bits .or .u8 ((x % 128 : Nat) : Int) 64 = ((x % 64 + 64 : Nat) : Int) := by
  have h : ∀ y : Fin 256, bits .or .u8 ((y.val % 128 : Nat) : Int) 64 = ((y.val % 64 + 64 : Nat) : Int) := by decide +kernel
  exact h ⟨x, hx⟩
theorem agree_Clamp (f : Nat → Nat) (w : World) (hf : ∀ i < 32, f i < 256) : Calls Try.prog 49 #[.agg (arrK .u8 32 f)] w fun e w' => e = .returned (numV (bval (clF f) 32)) ∧ Below w.heap.size w w' := by
  have hcl : ∀ i < 32, clF f i < 256 := fun i hi => by
    have := hf i hi
    have h0 := hf 0 (by omega)
    unfold clF upd
    split <;> (try split) <;> omega
  have hO := Lib.hid (fun V => limb_Of (clF f) V hcl)
  obtain ⟨n, hn⟩ : ∃ n, bval (clF f) 32 = n := ⟨_, rfl⟩
  rw [hn] at hO ⊢
  clear hn hcl
  have hF := Lib.hid (show clF f = upd (upd f 0 (f 0 / 8 * 8)) 31 (f 31 % 64 + 64) from rfl)
  unfold numV at hO ⊢
  have hcz := arrK_cells .u64 4 (wd 0)
  have hcn := arrK_cells .u64 4 (wd n)
  have hL0 : Below w.heap.size w ((w.alloc (Obj.cells (arrK .u8 32 f) 67)).alloc (Obj.cells (arrK .u64 4 (wd 0)) 24)) := by go_grown
  have hA0 : At ((w.alloc (Obj.cells (arrK .u8 32 f) 67)).alloc (Obj.cells (arrK .u64 4 (wd 0)) 24)) w.heap.size .u8 32 f := (At.new _ rfl).old _
  have hR0 : Row ((w.alloc (Obj.cells (arrK .u8 32 f) 67)).alloc (Obj.cells (arrK .u64 4 (wd 0)) 24)) (w.heap.size + 1) 4 := (At.new (k := .u64) (f := wd 0) _ (by simp)).row
  have hL := Lib.hid hL0
  have hA := Lib.hid hA0
  have hR := Lib.hid hR0
  clear hL0 hA0 hR0
  go_enter Try.func49, Try.ntmps49
  go_upto_region 1 with (fail)
  generalize (w.alloc _).alloc _ = W0 at *
  have h0 := hf 0 (by omega)
  have h31 := hf 31 (by omega)
  have c0 := hA.out.cell (i := 0) (by omega)
  have f0 := hA.out.row.frozen 0
  have b0 := and_not7 (f 0) h0
  obtain ⟨x0, hx0⟩ : ∃ v, f 0 / 8 * 8 = v := ⟨_, rfl⟩
  rw [hx0] at b0 hF
  clear hx0 hf
  go_upto_region 2 with (fail)
  have hA2 := Lib.hid (hA.out.set 0 x0)
  have hL2 := Lib.hid (hL.out.setCell (p := ⟨w.heap.size, 0, none⟩) (Nat.le_refl _) (.int .u8 (x0 : Nat)))
  have hR2 := Lib.hid (row_setCell (a := ⟨w.heap.size, 0, none⟩) (v := .int .u8 (x0 : Nat)) |>.2 hR.out)
  clear hA hL hR c0 f0 b0 h0
  generalize W0.setCell _ _ = W1 at *
  have c1 := hA2.out.cell (i := 31) (by omega)
  have f1 := hA2.out.row.frozen 31
  rw [show upd f 0 x0 31 = f 31 from rfl] at c1
  have b1 := and_127 (f 31) h31
  have b2 := or_64 (f 31) h31
  obtain ⟨y, hy⟩ : ∃ v, f 31 % 128 = v := ⟨_, rfl⟩
  rw [hy] at b1 b2
  obtain ⟨z, hz⟩ : ∃ v, f 31 % 64 + 64 = v := ⟨_, rfl⟩
  rw [hz] at b2 hF
  clear hz hy
  go_upto_region 3 with (fail)
  have hA3 := Lib.hid (show At _ w.heap.size .u8 32 (clF f) from hF.out ▸ hA2.out.set 31 z)
  have hL3 := Lib.hid (hL2.out.setCell (p := ⟨w.heap.size, 31, none⟩) (Nat.le_refl _) (.int .u8 (z : Nat)))
  have hR3 := Lib.hid (row_setCell (a := ⟨w.heap.size, 31, none⟩) (v := .int .u8 (z : Nat)) |>.2 hR2.out)
  clear hA2 hL2 hR2 c1 f1 b1 b2 h31 hF
  generalize W1.setCell _ _ = W2 at *
  have hr1 := hA3.out.row
  have hr2 := hA3.out.eq
  go_wp2_with fail
  refine (hO.out _).mono ?_
  rintro e w2 ⟨rfl, hb⟩
  have hR4 := row_below hR3.out hb hR3.out.lt
  have hL4 := below_step hb hL3.out (Nat.le_refl _)
  clear hr1 hr2 hA3
  dsimp only
  go_wp2_with fail
  refine ret_row (p := 2) (ty := 24) (g := w.heap.size + 1) rfl Try.underlying24 rfl (by kernel_rfl) rfl ((row_setRow_same rfl hR4).2 hcn.1) rfl ?_
  rw [rowAt_setRow_same hR4]
  exact ⟨rfl, below_setRow hL4 (by omega)⟩
/-- The bits of a clamped secret. -/
def clB (N : Nat) : Nat → Nat := upd (upd (upd (upd (upd (fun i => N / 2 ^ i % 2) 0 0) 1 0) 2 0) 254 1) 255 0
theorem clB_lt (N i : Nat) : clB N i < 2 := by
  unfold clB upd
  have := Nat.mod_lt (N / 2 ^ i) (show 0 < 2 by omega)
  repeat' split
  all_goals omega
theorem bitsV_of (N : Nat) : ∀ k i, bitsV (fun i => N / 2 ^ i % 2) i k = N / 2 ^ i % 2 ^ k
  | 0, i => by rw [Nat.pow_zero, Nat.mod_one]; rfl
  | k + 1, i => by
    show N / 2 ^ i % 2 + 2 * bitsV (fun i => N / 2 ^ i % 2) (i + 1) k = _
    rw [bitsV_of N k (i + 1), Nat.pow_succ 2 i, ← Nat.div_div_eq_div_mul, Nat.pow_succ, Nat.mul_comm (2 ^ k) 2, Nat.mod_mul]
theorem bitsV_congr {f h : Nat → Nat} : ∀ k i, (∀ j, i ≤ j → j < i + k → f j = h j) → bitsV f i k = bitsV h i k
  | 0, _, _ => rfl
  | k + 1, i, e => by
    show f i + 2 * bitsV f (i + 1) k = h i + 2 * bitsV h (i + 1) k
    rw [e i (Nat.le_refl _) (by omega), bitsV_congr k (i + 1) (fun j h1 h2 => e j (by omega) (by omega))]
theorem bitsV_add (f : Nat → Nat) : ∀ a b i, bitsV f i (a + b) = bitsV f i a + 2 ^ a * bitsV f (i + a) b
  | 0, b, i => by simp [bitsV]
  | a + 1, b, i => by
    rw [show a + 1 + b = a + b + 1 by omega]
    show f i + 2 * bitsV f (i + 1) (a + b) = f i + 2 * bitsV f (i + 1) a + 2 ^ (a + 1) * bitsV f (i + (a + 1)) b
    rw [bitsV_add f a b (i + 1), show i + 1 + a = i + (a + 1) by omega, Nat.pow_succ]
    grind
theorem hvB_congr {f h : Nat → Nat} : ∀ k i, (∀ j, i ≤ j → j < i + k → f j = h j) → hvB f i k = hvB h i k
  | 0, _, _ => rfl
  | k + 1, i, e => by
    show f i + 256 * hvB f (i + 1) k = h i + 256 * hvB h (i + 1) k
    rw [e i (Nat.le_refl _) (by omega), hvB_congr k (i + 1) (fun j h1 h2 => e j (by omega) (by omega))]
theorem hvB_add (f : Nat → Nat) : ∀ a b i, hvB f i (a + b) = hvB f i a + 256 ^ a * hvB f (i + a) b
  | 0, b, i => by simp [hvB]
  | a + 1, b, i => by
    rw [show a + 1 + b = a + b + 1 by omega]
    show f i + 256 * hvB f (i + 1) (a + b) = f i + 256 * hvB f (i + 1) a + 256 ^ (a + 1) * hvB f (i + (a + 1)) b
    rw [hvB_add f a b (i + 1), show i + 1 + a = i + (a + 1) by omega, Nat.pow_succ]
    grind
theorem pow_256 (n : Nat) : (256 : Nat) ^ n = 2 ^ (8 * n) := by rw [show (256 : Nat) = 2 ^ 8 from rfl, ← Nat.pow_mul]
/-- The clamped secret: its bytes changed, or its bits. -/
theorem clamp_same (f : Nat → Nat) (hf : ∀ i < 32, f i < 256) : bval (clF f) 32 = bitsV (clB (bval f 32)) 0 256 := by
  have hN : bval f 32 = f 0 + 256 * (hvB f 1 30 + 256 ^ 30 * f 31) := by
    rw [← hvB_zero, show (32 : Nat) = 31 + 1 from rfl]
    show f 0 + 256 * hvB f 1 31 = _
    rw [show (31 : Nat) = 30 + 1 from rfl, hvB_add f 30 1 1]
    simp [hvB]
  have hC : bval (clF f) 32 = f 0 / 8 * 8 + 256 * (hvB f 1 30 + 256 ^ 30 * (f 31 % 64 + 64)) := by
    rw [← hvB_zero, show (32 : Nat) = 31 + 1 from rfl]
    show clF f 0 + 256 * hvB (clF f) 1 31 = _
    have e0 : clF f 0 = f 0 / 8 * 8 := rfl
    have e1 : hvB (clF f) 1 31 = hvB f 1 30 + 256 ^ 30 * (f 31 % 64 + 64) := by
      rw [show (31 : Nat) = 30 + 1 from rfl, hvB_add (clF f) 30 1 1, hvB_congr (f := clF f) (h := f) 30 1 (fun j h1 h2 => by
        unfold clF upd
        rw [if_neg (by omega), if_neg (by omega)])]
      rfl
    rw [e0, e1]
  have hM : hvB f 1 30 < 256 ^ 30 := by rw [pow_256]; exact hvB_lt 30 1 (fun j hj => hf j (by omega))
  have h0 := hf 0 (by omega)
  have h31 := hf 31 (by omega)
  generalize bval f 32 = N at *
  rw [hC]
  have hB : bitsV (clB N) 0 256 = 8 * (N / 8 % 2 ^ 251) + 2 ^ 254 := by
    rw [show (256 : Nat) = 3 + (251 + 2) from rfl, bitsV_add, bitsV_add]
    have a1 : bitsV (clB N) 0 3 = 0 := rfl
    have a2 : bitsV (clB N) (0 + 3 + 251) 2 = 1 := rfl
    have a3 : bitsV (clB N) (0 + 3) 251 = N / 2 ^ 3 % 2 ^ 251 := by
      rw [← bitsV_of N 251 3]
      refine bitsV_congr 251 3 fun j h1 h2 => ?_
      unfold clB upd
      rw [if_neg (by omega), if_neg (by omega), if_neg (by omega), if_neg (by omega), if_neg (by omega)]
    rw [a1, a2, a3, Nat.mul_one, Nat.zero_add, Nat.mul_add]
  rw [hB, hN]
  generalize hvB f 1 30 = M at *
  generalize f 0 = x at *
  generalize f 31 = y at *
  have hP : (2 : Nat) ^ 251 = 2048 * 256 ^ 30 := by rw [pow_256, show (2048 : Nat) = 2 ^ 11 from rfl, ← Nat.pow_add]
  have hQ : (2 : Nat) ^ 254 = 16384 * 256 ^ 30 := by rw [pow_256, show (16384 : Nat) = 2 ^ 14 from rfl, ← Nat.pow_add]
  rw [hP, hQ]
  clear hB hC hN hP hQ
  generalize (256 : Nat) ^ 30 = K at *
  have e1 : (x + 256 * (M + K * y)) / 8 = x / 8 + 32 * M + 32 * (K * y) := by omega
  rw [e1]
  have e2 : x / 8 + 32 * M + 32 * (K * y) = x / 8 + 32 * M + 32 * (K * (y % 64)) + 2048 * K * (y / 64) := by
    have h1 : K * y = K * (y % 64) + K * (64 * (y / 64)) := by rw [← Nat.mul_add, Nat.mod_add_div]
    rw [h1]
    generalize y / 64 = q
    grind
  have e3 : x / 8 + 32 * M + 32 * (K * (y % 64)) < 2048 * K := by
    have h1 : K * (y % 64) ≤ K * 63 := Nat.mul_le_mul_left _ (by omega)
    omega
  rw [e2, Nat.add_mul_mod_self_left, Nat.mod_eq_of_lt e3]
  generalize y % 64 = z
  generalize x / 8 = t
  grind
theorem ref_Clamped (f : Nat → Nat) (w : World) (hf : ∀ i < 32, f i < 256) : Calls Try.prog 50 #[.agg (arrK .u8 32 f)] w fun e w' => e = .returned (numV (bval (clF f) 32)) ∧ Below w.heap.size w w' := by
  rw [clamp_same f hf]
  have hN := bval_lt (n := 32) hf
  rw [show (256 : Nat) ^ 32 = 2 ^ 256 from by rw [pow_256]] at hN
  have kN := Lib.hid (fun V (hA : At V w.heap.size .u8 32 f) => ref_number f w.heap.size 32 32 V hA.lt (fun i hi => hA.cell hi) hf (by omega) (by omega) (by omega))
  obtain ⟨N, hNe⟩ : ∃ n, bval f 32 = n := ⟨_, rfl⟩
  rw [hNe] at kN hN ⊢
  have kB := Lib.hid (fun V v (hv : IsN V v N) => bitsN 256 V (by omega) (hv.toV (lt_big hN (by omega))))
  have kO := Lib.hid (fun V g (hg : At V g .i64 256 (clB N)) => ref_OfBits (clB N) g 256 V hg (clB_lt N) (by omega))
  have hbl := bitsV_lt (clB_lt N) 256 0
  have hC := Lib.hid (show clB N = upd (upd (upd (upd (upd (fun i => N / 2 ^ i % 2) 0 0) 1 0) 2 0) 254 1) 255 0 from rfl)
  obtain ⟨m, hm⟩ : ∃ n, bitsV (clB N) 0 256 = n := ⟨_, rfl⟩
  rw [hm] at kO hbl ⊢
  have kT := Lib.hid (fun V v (hv : IsN V v m) => toNumN V (hv.toV (lt_big hbl (by omega))))
  clear hm hNe hN hbl hf
  unfold numV at kT ⊢
  have hcz := arrK_cells .u64 4 (wd 0)
  have hcn := arrK_cells .u64 4 (wd m)
  have hL0 : Below w.heap.size w ((w.alloc (Obj.cells (arrK .u8 32 f) 67)).alloc (Obj.cells (arrK .u64 4 (wd 0)) 24)) := by go_grown
  have hA0 : At ((w.alloc (Obj.cells (arrK .u8 32 f) 67)).alloc (Obj.cells (arrK .u64 4 (wd 0)) 24)) w.heap.size .u8 32 f := (At.new _ rfl).old _
  have hR0 : Row ((w.alloc (Obj.cells (arrK .u8 32 f) 67)).alloc (Obj.cells (arrK .u64 4 (wd 0)) 24)) (w.heap.size + 1) 4 := (At.new (k := .u64) (f := wd 0) _ (by simp)).row
  have hL := Lib.hid hL0
  have hA := Lib.hid hA0
  have hR := Lib.hid hR0
  clear hL0 hA0 hR0
  go_enter Try.func50, Try.ntmps50
  go_upto_region 1 with (fail)
  generalize (w.alloc _).alloc _ = W0 at *
  go_wp2_with fail
  refine (kN.out _ hA.out).mono ?_
  rintro e w2 ⟨v, rfl, hv, hb⟩
  replace hR := Lib.hid (row_below hR.out hb hR.out.lt)
  replace hL := Lib.hid (below_step hb hL.out (Nat.le_refl _))
  have hV := Lib.hid hv
  clear hb kN hA hv
  dsimp only
  go_wp2_with fail
  refine (show Calls _ _ #[_, Value.int IntKind.i64 256] w2 _ from kB.out _ _ hV.out).mono ?_
  rintro e w3 ⟨g, rfl, hgR, hgE, hgs, hb⟩
  have hG := Lib.hid (show At w3 g .i64 256 (fun i => N / 2 ^ i % 2) from ⟨hgR, hgE⟩)
  have hgl := Lib.hid (show w.heap.size + 1 < g from Nat.lt_of_lt_of_le hR.out.lt hgs)
  replace hR := Lib.hid (row_below hR.out hb hR.out.lt)
  replace hL := Lib.hid (below_step hb hL.out (Nat.le_refl _))
  have f0 := hgR.frozen 0
  have f1 := hgR.frozen 1
  have f2 := hgR.frozen 2
  have f3 := hgR.frozen 254
  have f4 := hgR.frozen 255
  have c0 := hG.out.cell (i := 0) (by omega)
  have c1 := hG.out.cell (i := 1) (by omega)
  have c2 := hG.out.cell (i := 2) (by omega)
  have c3 := hG.out.cell (i := 254) (by omega)
  have c4 := hG.out.cell (i := 255) (by omega)
  clear hgR hgE hgs hb kB hV
  dsimp only
  go_upto_region 3 with (fail)
  have hG2 := Lib.hid (show At _ g .i64 256 (clB N) from hC.out ▸ ((((hG.out.set 0 0).set 1 0).set 2 0).set 254 1).set 255 0)
  replace hL := Lib.hid (((((hL.out.setCell (p := ⟨g, 0, none⟩) (by have := hgl.out; simp; omega) (.int .i64 0)).setCell (p := ⟨g, 1, none⟩) (by have := hgl.out; simp; omega) (.int .i64 0)).setCell (p := ⟨g, 2, none⟩) (by have := hgl.out; simp; omega) (.int .i64 0)).setCell (p := ⟨g, 254, none⟩) (by have := hgl.out; simp; omega) (.int .i64 1)).setCell (p := ⟨g, 255, none⟩) (by have := hgl.out; simp; omega) (.int .i64 0))
  replace hR := Lib.hid (row_setCell (a := ⟨g, 255, none⟩) (v := .int .i64 0) |>.2 (row_setCell (a := ⟨g, 254, none⟩) (v := .int .i64 1) |>.2 (row_setCell (a := ⟨g, 2, none⟩) (v := .int .i64 0) |>.2 (row_setCell (a := ⟨g, 1, none⟩) (v := .int .i64 0) |>.2 (row_setCell (a := ⟨g, 0, none⟩) (v := .int .i64 0) |>.2 hR.out)))))
  clear hG c0 c1 c2 c3 c4 f0 f1 f2 f3 f4
  rw [show (Value.int IntKind.i64 ((0 : Nat) : Int)) = .int .i64 0 from rfl, show (Value.int IntKind.i64 ((1 : Nat) : Int)) = .int .i64 1 from rfl] at hG2
  generalize World.setCell _ ⟨g, 255, none⟩ _ = W2 at *
  go_wp2_with fail
  refine (show Calls _ _ #[_] W2 _ from kO.out _ _ hG2.out).mono ?_
  rintro e w4 ⟨u, rfl, hu, hb⟩
  replace hR := Lib.hid (row_below hR.out hb hR.out.lt)
  replace hL := Lib.hid (below_step hb hL.out (Nat.le_refl _))
  have hU := Lib.hid hu
  clear hb kO hG2 hu hgl hC
  dsimp only
  go_wp2_with fail
  refine (kT.out _ _ hU.out).mono ?_
  rintro e w5 ⟨rfl, hb⟩
  have hR5 := row_below hR.out hb hR.out.lt
  have hL5 := below_step hb hL.out (Nat.le_refl _)
  clear hU kT hR hL
  dsimp only
  go_wp2_with fail
  refine ret_row (p := 2) (ty := 24) (g := w.heap.size + 1) rfl Try.underlying24 rfl (by kernel_rfl) rfl ((row_setRow_same rfl hR5).2 hcn.1) rfl ?_
  rw [rowAt_setRow_same hR5]
  exact ⟨rfl, below_setRow hL5 (by omega)⟩
end Go.Proofs.Ytodcjeaannfbnaa
