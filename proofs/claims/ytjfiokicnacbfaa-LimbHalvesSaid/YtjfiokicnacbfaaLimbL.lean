/- LimbHalves: the law's function returns true. -/
import Derived.Test.YtjfiokicnacbfaaNumN
import Derived.Test.YtjfiokicnacbfaaLimb
import Derived.Deep.RegionHeld3
import Derived.Deep.DrawnRows
namespace Go.Proofs.Ytjfiokicnacbfaa
open Go.ChangeShapes Go.WideShapes Go.ChangeAt Go.RowKit
set_option maxHeartbeats 2000000
set_option maxRecDepth 100000
attribute [local go_sem ↓] load_num store_num execl_num execs_num load_wide store_wide execl_wide execs_wide load_b32 store_b32 execl_b32 execs_b32
attribute [local go_sem] isHead_mk blkOf_mk isAgg_mk cellsV_mk row_drew rowAt_drew row_new_cells row_old rowAt_new rowAt_old setRow_new
attribute [local go_sem ↓] Go.wp_at_zero Go.wp_at_succ

/-- The type of 32 bytes, under a letter: so that a load of it is not taken for a long array's by the tactic (which can take but one such load in a theorem). -/
def IsB32 (T : TypeId) : Prop := T = 43
theorem execl_T {T : TypeId} {w : World} {dst : Option Tmp} {x : Operand} {tt : TypeId} {pos : String} {af : Array Edge} {gd : Option (Nat × Bool)} {ρ : Operand → Value}
    (hT : IsB32 T) (hv : IsHead (ρ x)) (h : Row w (blkOf (ρ x)) 32) : (execOp ρ ⟨dst, .load T x, tt, pos, af, gd⟩).run Try.prog w = .ok (.value (.agg (rowAt w (blkOf (ρ x))))) w := by
  obtain rfl : T = 43 := hT
  exact execl_b32 hv h
attribute [local go_sem ↓] execl_T

/-- What the law has gathered of the bits, the first s. -/
def wantK (a s : Nat) : Nat → Nat := fun j => byt (a % 2 ^ s) j
theorem wantK_end {a : Nat} (ha : a < 2 ^ 256) (j : Nat) : wantK a 256 j = byt a j := by unfold wantK; rw [Nat.mod_eq_of_lt ha]
theorem wantK_zero (a j : Nat) : wantK a 0 j = 0 := by simp [wantK, byt, Nat.mod_one]
theorem wantK_step (a s p : Nat) : upd (wantK a s) (s / 8) (wantK a s (s / 8) + a / 2 ^ s % 2 * 2 ^ (s % 8)) p = wantK a (s + 1) p ∧ wantK a s (s / 8) + a / 2 ^ s % 2 * 2 ^ (s % 8) < 256 := by
  have e1 : 2 ^ s = 256 ^ (s / 8) * 2 ^ (s % 8) := by
    rw [show (256 : Nat) = 2 ^ 8 from rfl, ← Nat.pow_mul, ← Nat.pow_add]; congr 1; omega
  have hm : a % 2 ^ (s + 1) = a % 2 ^ s + 2 ^ s * (a / 2 ^ s % 2) := by rw [Nat.pow_succ, Nat.mod_mul]
  have hlt : a % 2 ^ s < 2 ^ s := Nat.mod_lt _ (Nat.pow_pos (by omega))
  have h2 : 2 ^ (s % 8) ≤ 2 ^ 7 := Nat.pow_le_pow_right (by omega) (by omega)
  have hlow : a % 2 ^ s / 256 ^ (s / 8) < 2 ^ (s % 8) := by
    rw [Nat.div_lt_iff_lt_mul (Nat.pow_pos (by omega)), Nat.mul_comm, ← e1]; exact hlt
  have hw : wantK a s (s / 8) = a % 2 ^ s / 256 ^ (s / 8) := by unfold wantK byt; exact Nat.mod_eq_of_lt (by omega)
  have hbit : a / 2 ^ s % 2 * 2 ^ (s % 8) ≤ 1 * 2 ^ (s % 8) := Nat.mul_le_mul_right _ (by omega)
  have h3 : 2 ^ (s % 8) + 2 ^ (s % 8) ≤ 256 := by
    have : 2 ^ (s % 8 + 1) ≤ 2 ^ 8 := Nat.pow_le_pow_right (by omega) (by omega)
    rw [Nat.pow_succ] at this; omega
  refine ⟨?_, by omega⟩
  unfold upd
  by_cases hp : p = s / 8
  · rw [if_pos hp, hp, hw]
    unfold wantK byt
    rw [hm, e1, Nat.mul_assoc, Nat.add_mul_div_left _ _ (Nat.pow_pos (by omega)), Nat.mul_comm (2 ^ (s % 8)), Nat.mod_eq_of_lt (a := _ + _) (by rw [← e1]; omega)]
  · rw [if_neg hp]
    unfold wantK byt
    rcases Nat.lt_or_ge p (s / 8) with h | h
    · rw [hm, e1, show 256 ^ (s / 8) = 256 ^ p * 256 * 256 ^ (s / 8 - p - 1) by rw [← Nat.pow_succ, ← Nat.pow_add]; congr 1; omega]
      simp only [Nat.mul_assoc]
      rw [Nat.add_mul_div_left _ _ (Nat.pow_pos (by omega)), Nat.add_mul_mod_self_left]
    · have h4 : 2 ^ (s + 1) ≤ 256 ^ p := by
        rw [show (256 : Nat) = 2 ^ 8 from rfl, ← Nat.pow_mul]
        exact Nat.pow_le_pow_right (by omega) (by omega)
      have h5 : 2 ^ s ≤ 2 ^ (s + 1) := Nat.pow_le_pow_right (by omega) (by omega)
      have h6 : a % 2 ^ (s + 1) < 2 ^ (s + 1) := Nat.mod_lt _ (Nat.pow_pos (by omega))
      rw [Nat.div_eq_of_lt (by omega), Nat.div_eq_of_lt (by omega)]

/-- Bytes from place i on. -/
def bvs (f : Nat → Nat) (i : Nat) : Nat → Nat
  | 0 => 0
  | n + 1 => f i + 256 * bvs f (i + 1) n
theorem bvs_snoc (f : Nat → Nat) : ∀ n i, bvs f i (n + 1) = bvs f i n + 256 ^ n * f (i + n)
  | 0, i => by simp [bvs]
  | n + 1, i => by
      have h := bvs_snoc f n (i + 1)
      show f i + 256 * bvs f (i + 1) (n + 1) = f i + 256 * bvs f (i + 1) n + _
      rw [h, show i + 1 + n = i + (n + 1) by omega, Nat.mul_add, Nat.pow_succ, ← Nat.add_assoc, Nat.mul_comm (256 ^ n) 256, Nat.mul_assoc]
theorem bvs_bval (f : Nat → Nat) : ∀ n, bvs f 0 n = bval f n
  | 0 => rfl
  | n + 1 => by rw [bvs_snoc, bvs_bval f n, Nat.zero_add]; rfl
theorem bvs_lt {f : Nat → Nat} (h : ∀ i < 32, f i < 256) : ∀ n i, i + n ≤ 32 → bvs f i n < 256 ^ n
  | 0, _, _ => by simp [bvs]
  | n + 1, i, hi => by
      have h1 := bvs_lt h n (i + 1) (by omega)
      have h2 := h i (by omega)
      show f i + 256 * bvs f (i + 1) n < 256 ^ (n + 1)
      rw [Nat.pow_succ]; omega
theorem bvs_big {f : Nat → Nat} (h : ∀ i < 32, f i < 256) {n i : Nat} (hi : i + n ≤ 32) : bvs f i n < big := by
  have h1 := bvs_lt h n i hi
  refine lt_big (k := 8 * n) ?_ (by omega)
  rw [Nat.pow_mul]; exact h1

/-- The law's three arguments, in blocks of their own. -/
structure LhAt (w : World) (h : Nat) (a b : Nat) (f : Nat → Nat) : Prop where
  Ra : Row w h 4
  ra : rowAt w h = arrK .u64 4 (wd a)
  Rb : Row w (h + 1) 4
  rb : rowAt w (h + 1) = arrK .u64 4 (wd b)
  Rf : Row w (h + 1 + 1) 32
  rf : rowAt w (h + 1 + 1) = arrK .u8 32 f
theorem LhAt.below {w w' : World} {h a b B : Nat} {f : Nat → Nat} (k : LhAt w h a b f) (hb : Below B w w') (hB : h + 3 ≤ B) : LhAt w' h a b f :=
  ⟨row_below k.Ra hb (by omega), (rowAt_below hb (by omega)).trans k.ra, row_below k.Rb hb (by omega), (rowAt_below hb (by omega)).trans k.rb, row_below k.Rf hb (by omega), (rowAt_below hb (by omega)).trans k.rf⟩
theorem lh_start (w : World) (a b : Nat) (f : Nat → Nat) : LhAt (((w.alloc (Obj.cells (arrK .u64 4 (wd a)) 42)).alloc (Obj.cells (arrK .u64 4 (wd b)) 42)).alloc (Obj.cells (arrK .u8 32 f) 43)) w.heap.size a b f := by
  have hca := arrK_cells .u64 4 (wd a)
  have hcb := arrK_cells .u64 4 (wd b)
  have hcf := arrK_cells .u8 32 f
  refine ⟨?_, ?_, ?_, ?_, ?_, ?_⟩ <;> go_simp

theorem wideC (a b : Nat) (w : World) (ha : a < 2 ^ 256) : Calls Try.prog 22 #[.agg (arrK .u64 4 (wd a)), .agg (arrK .u64 4 (wd b))] w fun e w' => e = .returned (.agg (arrK .u64 8 (wd (a + 2 ^ 256 * b)))) ∧ Below w.heap.size w w' := limb_Wide a b w ha
theorem bytesC (a : Nat) (w : World) : Calls Try.prog 23 #[.agg (arrK .u64 4 (wd a))] w fun e w' => e = .returned (.agg (arrK .u8 32 (byt a))) ∧ Below w.heap.size w w' := limb_Bytes a w
theorem ofC (f : Nat → Nat) (w : World) (hf : ∀ i < 32, f i < 256) : Calls Try.prog 24 #[.agg (arrK .u8 32 f)] w fun e w' => e = .returned (.agg (arrK .u64 4 (wd (bval f 32)))) ∧ Below w.heap.size w w' := limb_Of f w hf
theorem ofNumC (n : Nat) (w : World) (hn : n < 2 ^ 256) : Calls Try.prog 19 #[.agg (arrK .u64 4 (wd n))] w (RetN n w) := ref_OfNum n w hn
theorem toNumC {u : Value} {m : Nat} (w : World) (hu : IsV w u m) : Calls Try.prog 25 #[u] w fun e w' => e = .returned (.agg (arrK .u64 4 (wd m))) ∧ Below w.heap.size w w' := toNumN w hu
theorem toWideC {u : Value} {m n : Nat} (w : World) (e : m = n) (hu : IsV w u m) : Calls Try.prog 26 #[u] w fun e w' => e = .returned (.agg (arrK .u64 8 (wd n))) ∧ Below w.heap.size w w' := by subst e; exact toWideN w hu
theorem twoC (w : World) : Calls Try.prog 27 #[.int .i64 256] w (RetN (2 ^ 256) w) := ref_TwoTo 256 w (by omega)
theorem lowC (a b : Nat) (w : World) (ha : a < 2 ^ 256) : Calls Try.prog 28 #[.agg (arrK .u64 8 (wd (a + 2 ^ 256 * b)))] w fun e w' => e = .returned (.agg (arrK .u64 4 (wd a))) ∧ Below w.heap.size w w' := by
  have h := limb_Low (a + 2 ^ 256 * b) w
  rw [Nat.add_mul_mod_self_left, Nat.mod_eq_of_lt ha] at h
  exact h
theorem highC (a b : Nat) (w : World) (ha : a < 2 ^ 256) : Calls Try.prog 29 #[.agg (arrK .u64 8 (wd (a + 2 ^ 256 * b)))] w fun e w' => e = .returned (.agg (arrK .u64 4 (wd b))) ∧ Below w.heap.size w w' := by
  have h := limb_High (a + 2 ^ 256 * b) w
  rw [Nat.add_mul_div_left _ _ (Nat.pow_pos (by omega)), Nat.div_eq_of_lt ha, Nat.zero_add] at h
  exact h

theorem limbHalves (a b : Nat) (f : Nat → Nat) (w : World) (ha : a < 2 ^ 256) (hb : b < 2 ^ 256) (hf : ∀ i < 32, f i < 256) :
    Calls Try.prog 6 #[numV a, numV b, .agg (arrK .u8 32 f)] w fun e w' => e = .returned (.bool true) ∧ Below w.heap.size w w' := by
  have h0 := lh_start w a b f
  have hcz := arrK_cells .u8 32 fun _ => 0
  have h1 := h0.below ((Below.refl (w.heap.size + 3) _).alloc (by simp) (Obj.cells (arrK .u8 32 fun _ => 0) 43)) (by omega)
  have hRw : Row ((((w.alloc (Obj.cells (arrK .u64 4 (wd a)) 42)).alloc (Obj.cells (arrK .u64 4 (wd b)) 42)).alloc (Obj.cells (arrK .u8 32 f) 43)).alloc (Obj.cells (arrK .u8 32 fun _ => 0) 43)) (w.heap.size + 1 + 1 + 1) 32 := (row_new (by simp)).2 hcz.1
  have hrw : rowAt ((((w.alloc (Obj.cells (arrK .u64 4 (wd a)) 42)).alloc (Obj.cells (arrK .u64 4 (wd b)) 42)).alloc (Obj.cells (arrK .u8 32 f) 43)).alloc (Obj.cells (arrK .u8 32 fun _ => 0) 43)) (w.heap.size + 1 + 1 + 1) = arrK .u8 32 (wantK a 0) := by
    rw [rowAt_new (by simp)]; exact arrK_congr fun i _ => (wantK_zero a i).symm
  have hL : Below w.heap.size w ((((w.alloc (Obj.cells (arrK .u64 4 (wd a)) 42)).alloc (Obj.cells (arrK .u64 4 (wd b)) 42)).alloc (Obj.cells (arrK .u8 32 f) 43)).alloc (Obj.cells (arrK .u8 32 fun _ => 0) 43)) := by go_grown
  have hz : w.heap.size + 4 ≤ ((((w.alloc (Obj.cells (arrK .u64 4 (wd a)) 42)).alloc (Obj.cells (arrK .u64 4 (wd b)) 42)).alloc (Obj.cells (arrK .u8 32 f) 43)).alloc (Obj.cells (arrK .u8 32 fun _ => 0) 43)).heap.size := by simp
  have hRa := h1.Ra
  have hra := h1.ra
  rw [← zero32] at hRa hra
  clear h0
  unfold numV
  go_enter Try.func6, Try.ntmps6
  go_wp2_with fail
  rw [zero32] at *
  clear hRa hra
  generalize ((((w.alloc (Obj.cells (arrK .u64 4 (wd a)) 42)).alloc (Obj.cells (arrK .u64 4 (wd b)) 42)).alloc (Obj.cells (arrK .u8 32 f) 43)).alloc (Obj.cells (arrK .u8 32 fun _ => 0) 43)) = W0 at *
  refine (ref_OfNum a _ ha).mono ?_
  rintro e W1 ⟨v, rfl, hN, hb1⟩
  have hV := hN.toV (lt_big (k := 256) ha (by omega))
  go_wp2_with fail
  refine (bitsN 256 _ (by omega) hV).mono ?_
  rintro e W2 ⟨g, rfl, hRg, hrg, hg, hb2⟩
  have hbb := hb1.trans (hb2.mono hb1.size)
  have h2 := h1.below hbb (by omega)
  have hRw2 := row_below hRw hbb (by omega)
  have hrw2 := (rowAt_below hbb (by omega)).trans hrw
  have hL2 := hL.trans (hbb.mono (by omega))
  have hgz : w.heap.size + 4 ≤ g := by have := hb1.size; omega
  have hglt := hRg.lt
  clear hb1 hb2 hV hN h1 hRw hrw hL hbb
  go_wp2
  go_loopw [17] (fun i wr => ∃ s : Nat, i = .int .i64 s ∧ s ≤ 256 ∧ LhAt wr w.heap.size a b f ∧ Row wr (w.heap.size + 1 + 1 + 1) 32 ∧ rowAt wr (w.heap.size + 1 + 1 + 1) = arrK .u8 32 (wantK a s) ∧ Row wr g 256 ∧ rowAt wr g = arrK .i64 256 (fun i => a / 2 ^ i % 2) ∧ Below w.heap.size w wr ∧ w.heap.size + 4 ≤ wr.heap.size) (fun i _ => 256 - (intOf i).toNat)
  case atStart => exact ⟨0, rfl, by omega, h2, hRw2, hrw2, hRg, hrg, hL2, by omega⟩
  case round =>
    clear h2 hRw2 hrw2 hRg hrg hL2 hglt hg
    obtain ⟨s, rfl, hs, hM, hRw, hrw, hRg, hrg, hL, hsz⟩ := hrel
    by_cases h256 : s = 256
    · subst h256
      have e : arrK .u8 32 (wantK a 256) = arrK .u8 32 (byt a) := arrK_congr fun i _ => wantK_end ha i
      rw [e] at hrw
      clear hRg hrg e
      go_wp2
      rw [show ((256 : Nat) : Int) = (256 : Int) from rfl]
      go_loopw [10, 11] (fun l i wr => ∃ s : Nat, i = .int .i64 ((s : Int) - 1) ∧ s ≤ 32 ∧ IsN wr l (bvs f s (32 - s)) ∧ LhAt wr w.heap.size a b f ∧ Row wr (w.heap.size + 1 + 1 + 1) 32 ∧ rowAt wr (w.heap.size + 1 + 1 + 1) = arrK .u8 32 (byt a) ∧ Below w.heap.size w wr ∧ w.heap.size + 4 ≤ wr.heap.size) (fun _ i _ => (intOf i + 1).toNat)
      case atStart => exact ⟨32, rfl, by omega, IsN.nil _, hM, hRw, hrw, hL, hsz⟩
      case round =>
        clear hM hRw hrw hL hsz
        obtain ⟨s, rfl, hs, hN, hM, hRw, hrw, hL, hsz⟩ := hrel
        rcases Nat.eq_zero_or_pos s with rfl | hs0
        · rw [bvs_bval] at hN
          have hRa := hM.Ra
          have hra := hM.ra
          have hRb := hM.Rb
          have hrb := hM.rb
          have hN : IsN wr _ (bval f 32) := hN
          have hbigf := bvs_big hf (n := 32) (i := 0) (by omega)
          rw [bvs_bval] at hbigf
          have hbiga := lt_big (k := 256) ha (by omega)
          have hbigb := lt_big (k := 256) hb (by omega)
          have hbig2 : 2 ^ 256 < big := lt_big (k := 256 + 1) (Nat.pow_lt_pow_right (by omega) (by omega)) (by omega)
          have hbig5 := wide_big ha hb (by omega)
          have hbig4 : b * 2 ^ 256 < big := Nat.lt_of_le_of_lt (Nat.le_add_left _ a) hbig5
          have hcomm : a + b * 2 ^ 256 = a + 2 ^ 256 * b := by rw [Nat.mul_comm]
          go_wp2_with fail
          refine (wideC a b _ ha).mono ?_
          rintro e W3 ⟨rfl, hb3⟩
          have hM3 := hM.below hb3 (by omega)
          have hRw3 := row_below hRw hb3 (by omega)
          have hrw3 := (rowAt_below hb3 (by omega)).trans hrw
          have hV0 := ((hN.toV hbigf).step hb3).alloc (Obj.cells (arrK .u64 8 (wd (a + 2 ^ 256 * b))) 48)
          have hL3 := hL.trans (hb3.mono (by omega))
          have hz3 := hb3.size
          have hcw := arrK_cells .u64 8 (wd (a + 2 ^ 256 * b))
          have hRx0 : Row (W3.alloc (Obj.cells (arrK .u64 8 fun _ => 0) 48)) W3.heap.size 8 := (row_new rfl).2 (arrK_size _ _ _)
          rw [← zero8] at hRx0
          have hRx : Row (W3.alloc (Obj.cells (arrK .u64 8 (wd (a + 2 ^ 256 * b))) 48)) W3.heap.size 8 := (row_new rfl).2 hcw.1
          have hrx : rowAt (W3.alloc (Obj.cells (arrK .u64 8 (wd (a + 2 ^ 256 * b))) 48)) W3.heap.size = arrK .u64 8 (wd (a + 2 ^ 256 * b)) := rowAt_new rfl
          have hba := (Below.refl (W3.heap.size) W3).alloc (Nat.le_refl _) (Obj.cells (arrK .u64 8 (wd (a + 2 ^ 256 * b))) 48)
          have hM4 := hM3.below hba (by omega)
          have hRw4 := row_below hRw3 hba (by omega)
          have hrw4 := (rowAt_below hba (by omega)).trans hrw3
          have hL4 := hL3.trans (hba.mono (by omega))
          have hz4 : W3.heap.size + 1 ≤ (W3.alloc (Obj.cells (arrK .u64 8 (wd (a + 2 ^ 256 * b))) 48)).heap.size := by simp
          clear hb3 hM hRw hrw hL hN hM3 hRw3 hrw3 hL3 hba hRa hra hRb hrb
          go_wp2_with fail
          generalize hW4 : W3.alloc (Obj.cells (arrK .u64 8 (wd (a + 2 ^ 256 * b))) 48) = W4 at *
          generalize W3.heap.size = x at *
          have hS : ∀ w', Below W4.heap.size W4 w' → Row w' w.heap.size 4 ∧ rowAt w' w.heap.size = arrK .u64 4 (wd a) ∧ Row w' (w.heap.size + 1) 4 ∧ rowAt w' (w.heap.size + 1) = arrK .u64 4 (wd b) ∧ Row w' (w.heap.size + 1 + 1) 32 ∧ rowAt w' (w.heap.size + 1 + 1) = arrK .u8 32 f ∧ Row w' (w.heap.size + 1 + 1 + 1) 32 ∧ rowAt w' (w.heap.size + 1 + 1 + 1) = arrK .u8 32 (byt a) ∧ Row w' x 8 ∧ rowAt w' x = arrK .u64 8 (wd (a + 2 ^ 256 * b)) ∧ Below W4.heap.size W4 w' := fun w' h => by
            have m := hM4.below h (by omega)
            have rw4 := row_below hRw4 h (by omega)
            have ew4 := (rowAt_below h (by omega)).trans hrw4
            have rx := row_below hRx h (by omega)
            have ex := (rowAt_below h (by omega)).trans hrx
            exact ⟨m.Ra, m.ra, m.Rb, m.rb, m.Rf, m.rf, rw4, ew4, rx, ex, h⟩
          have hS' := Lib.hid hS
          clear hS hM4 hRw4 hrw4 hRx hrx hW4 hRx0
          obtain ⟨T, hT⟩ : ∃ T : TypeId, IsB32 T := ⟨_, rfl⟩
          rw [show Op.load 43 (Operand.tmp 7) = Op.load T (Operand.tmp 7) by rw [show T = 43 from hT], show Op.load 43 (Operand.tmp 5) = Op.load T (Operand.tmp 5) by rw [show T = 43 from hT]]
          have hg1 : Try.prog.eqGuardType Try.prog.depth 42 = false := by kernel_rfl
          have hg2 : Try.prog.eqGuardType Try.prog.depth 43 = false := by kernel_rfl
          have hg3 : Try.prog.eqGuardType Try.prog.depth 48 = false := by kernel_rfl
          have hq1 : ∀ (W : World) (g : Nat → Nat), (binOp .eql 42 (.agg (arrK .u64 4 g)) (.agg (arrK .u64 4 g))).run Try.prog W = .ok (.bool true) W := fun W g => by
            rw [run_eql_arrK Try.underlying42 Try.underlying40 (by kernel_rfl)]; simp
          have hq2 : ∀ (W : World) (g : Nat → Nat), (binOp .eql 43 (.agg (arrK .u8 32 g)) (.agg (arrK .u8 32 g))).run Try.prog W = .ok (.bool true) W := fun W g => by
            rw [run_eql_arrK Try.underlying43 Try.underlying5 (by kernel_rfl)]; simp
          have hq3 : ∀ (W : World) (g : Nat → Nat), (binOp .eql 48 (.agg (arrK .u64 8 g)) (.agg (arrK .u64 8 g))).run Try.prog W = .ok (.bool true) W := fun W g => by
            rw [run_eql_arrK Try.underlying48 Try.underlying40 (by kernel_rfl)]; simp
          have hV4 : IsV W4 u10 (bval f 32) := hV0
          clear hV0
          go_region_held3 (fun w' => Row w' w.heap.size 4 ∧ rowAt w' w.heap.size = arrK .u64 4 (wd a) ∧ Row w' (w.heap.size + 1) 4 ∧ rowAt w' (w.heap.size + 1) = arrK .u64 4 (wd b) ∧ Row w' (w.heap.size + 1 + 1) 32 ∧ rowAt w' (w.heap.size + 1 + 1) = arrK .u8 32 f ∧ Row w' (w.heap.size + 1 + 1 + 1) 32 ∧ rowAt w' (w.heap.size + 1 + 1 + 1) = arrK .u8 32 (byt a) ∧ Row w' x 8 ∧ rowAt w' x = arrK .u64 8 (wd (a + 2 ^ 256 * b)) ∧ Below W4.heap.size W4 w')
            ((go_split_ands; first | exact hS'.out _ (Below.refl _ _).drew | exact hS'.out _ (below_step (by assumption) (Below.refl _ _).drew (Nat.le_refl _)) | exact hS'.out _ (below_step (by assumption) (by assumption) (Nat.le_refl _))))
            (first
              | (go_at_call 23; (with_reducible refine (bytesC a _).mono ?_); rintro e w' ⟨rfl, hbb⟩)
              | (go_at_call 24; (with_reducible refine (ofC f _ hf).mono ?_); rintro e w' ⟨rfl, hbo⟩)
              | (go_at_call 25; go_split_ands; refine (toNumC (m := bval f 32) _ (by repeat (first | exact hV4.step (by assumption) | exact hN1.toV hbiga | exact hN2.toV hbigb | exact hN3.toV hbig2 | exact hN4.toV hbig4 | exact hN5.toV hbig5 | refine IsV.drew ?_ | refine IsV.step hd1 ?_ | refine IsV.step hd2 ?_ | refine IsV.step hd3 ?_ | refine IsV.step hd4 ?_ | refine IsV.step hd5 ?_))).mono ?_; rintro e w' ⟨rfl, hbt⟩)
              | (go_at_call 19; (with_reducible refine (ofNumC a _ ha).mono ?_); rintro e w' ⟨v1, rfl, hN1, hd1⟩)
              | (go_at_call 19; (with_reducible refine (ofNumC b _ hb).mono ?_); rintro e w' ⟨v2, rfl, hN2, hd2⟩)
              | (go_at_call 27; (with_reducible refine (twoC _).mono ?_); rintro e w' ⟨v3, rfl, hN3, hd3⟩)
              | (go_at_call 21; refine (timesN (m := b) (n := 2 ^ 256) _ (by repeat (first | exact hV4.step (by assumption) | exact hN1.toV hbiga | exact hN2.toV hbigb | exact hN3.toV hbig2 | exact hN4.toV hbig4 | exact hN5.toV hbig5 | refine IsV.drew ?_ | refine IsV.step hd1 ?_ | refine IsV.step hd2 ?_ | refine IsV.step hd3 ?_ | refine IsV.step hd4 ?_ | refine IsV.step hd5 ?_)) (by repeat (first | exact hV4.step (by assumption) | exact hN1.toV hbiga | exact hN2.toV hbigb | exact hN3.toV hbig2 | exact hN4.toV hbig4 | exact hN5.toV hbig5 | refine IsV.drew ?_ | refine IsV.step hd1 ?_ | refine IsV.step hd2 ?_ | refine IsV.step hd3 ?_ | refine IsV.step hd4 ?_ | refine IsV.step hd5 ?_))).mono ?_; rintro e w' ⟨v4, rfl, hN4, hd4⟩)
              | (go_at_call 20; refine (plusN (m := a) (n := b * 2 ^ 256) _ (by repeat (first | exact hV4.step (by assumption) | exact hN1.toV hbiga | exact hN2.toV hbigb | exact hN3.toV hbig2 | exact hN4.toV hbig4 | exact hN5.toV hbig5 | refine IsV.drew ?_ | refine IsV.step hd1 ?_ | refine IsV.step hd2 ?_ | refine IsV.step hd3 ?_ | refine IsV.step hd4 ?_ | refine IsV.step hd5 ?_)) (by repeat (first | exact hV4.step (by assumption) | exact hN1.toV hbiga | exact hN2.toV hbigb | exact hN3.toV hbig2 | exact hN4.toV hbig4 | exact hN5.toV hbig5 | refine IsV.drew ?_ | refine IsV.step hd1 ?_ | refine IsV.step hd2 ?_ | refine IsV.step hd3 ?_ | refine IsV.step hd4 ?_ | refine IsV.step hd5 ?_))).mono ?_; rintro e w' ⟨v5, rfl, hN5, hd5⟩)
              | (go_at_call 26; refine (toWideC (m := a + b * 2 ^ 256) (n := a + 2 ^ 256 * b) _ hcomm (by repeat (first | exact hV4.step (by assumption) | exact hN1.toV hbiga | exact hN2.toV hbigb | exact hN3.toV hbig2 | exact hN4.toV hbig4 | exact hN5.toV hbig5 | refine IsV.drew ?_ | refine IsV.step hd1 ?_ | refine IsV.step hd2 ?_ | refine IsV.step hd3 ?_ | refine IsV.step hd4 ?_ | refine IsV.step hd5 ?_))).mono ?_; rintro e w' ⟨rfl, hbw⟩)
              | (go_at_call 28; (with_reducible refine (lowC a b _ ha).mono ?_); rintro e w' ⟨rfl, hbl⟩)
              | (go_at_call 29; (with_reducible refine (highC a b _ ha).mono ?_); rintro e w' ⟨rfl, hbh⟩))
          all_goals go_split_ands
          all_goals go_wp2
          all_goals go_ret
          all_goals exact ⟨rfl, hL4.trans (Below.mono (B := W4.heap.size) (by assumption) (by omega))⟩
        · obtain ⟨i, rfl⟩ : ∃ i, s = i + 1 := ⟨s - 1, by omega⟩
          rw [show (((i + 1 : Nat) : Int) - 1) = (i : Int) by omega]
          have hfi := hf i (by omega)
          have hV := hN.toV (bvs_big hf (by omega))
          have hcf : wr.cell? ⟨w.heap.size + 1 + 1, i, none⟩ = some (.int .u8 (f i)) := by rw [hM.Rf.cell, hM.rf, arrK_at (by omega)]
          have hS : ∀ w', Below wr.heap.size wr w' → w'.cell? ⟨w.heap.size + 1 + 1, i, none⟩ = some (.int .u8 (f i)) ∧ Below wr.heap.size wr w' := fun w' h => ⟨((bcell h).1 _ _ (by omega)).trans hcf, h⟩
          have hS' := Lib.hid hS
          have hst : bvs f (i + 1) (32 - (i + 1)) * 256 + f i = bvs f i (32 - i) := by
            rw [show 32 - i = (32 - (i + 1)) + 1 by omega]; show _ = f i + 256 * _; omega
          have hlt : bvs f (i + 1) (32 - (i + 1)) * 256 < big := by
            have h1 := bvs_lt hf (32 - (i + 1)) (i + 1) (by omega)
            refine lt_big (k := 8 * 32) ?_ (by omega)
            rw [Nat.pow_mul, show (2 : Nat) ^ 8 = 256 from rfl]
            have h2 : 256 ^ (32 - (i + 1)) * 256 ≤ 256 ^ 32 := by rw [← Nat.pow_succ]; exact Nat.pow_le_pow_right (by omega) (by omega)
            omega
          have hfd : f i < 65536 := by omega
          have hi1 : (0 : Int) ≤ i := by omega
          have hi2 : (i : Int) < 32 := by omega
          have hwf : IntKind.i64.wrap ((f i : Nat) : Int) = (f i : Nat) := by rw [IntKind.wrap_i64]; omega
          have hHst := Lib.hid hst
          clear hS hst hcf
          go_wp2
          go_region_held3 (fun w' => w'.cell? ⟨w.heap.size + 1 + 1, i, none⟩ = some (.int .u8 (f i)) ∧ Below wr.heap.size wr w')
            ((go_split_ands; first | exact hS'.out _ (Below.refl _ _).drew | exact hS'.out _ (Below.alloc (by assumption) (Below.size (by assumption)) _) | exact hS'.out _ (below_step (by assumption) (by assumption) (Nat.le_refl _))))
            (first
              | (go_at_call 21; go_split_ands; refine (timesN (m := bvs f (i + 1) (32 - (i + 1))) (n := 256) _ (by repeat (first | exact IsV.lit256' _ _ (by simp) | exact IsV.lit' _ _ (by simp) hfd | exact hV.step (by assumption) | exact hNt.toV hlt | refine IsV.drew ?_ | refine IsV.alloc ?_ _ | refine IsV.step hbt ?_)) (by repeat (first | exact IsV.lit256' _ _ (by simp) | exact IsV.lit' _ _ (by simp) hfd | exact hV.step (by assumption) | exact hNt.toV hlt | refine IsV.drew ?_ | refine IsV.alloc ?_ _ | refine IsV.step hbt ?_))).mono ?_; rintro e w' ⟨t, rfl, hNt, hbt⟩)
              | (go_at_call 20; go_split_ands; refine (plusN (m := bvs f (i + 1) (32 - (i + 1)) * 256) (n := f i) _ (by repeat (first | exact IsV.lit256' _ _ (by simp) | exact IsV.lit' _ _ (by simp) hfd | exact hV.step (by assumption) | exact hNt.toV hlt | refine IsV.drew ?_ | refine IsV.alloc ?_ _ | refine IsV.step hbt ?_)) (by repeat (first | exact IsV.lit256' _ _ (by simp) | exact IsV.lit' _ _ (by simp) hfd | exact hV.step (by assumption) | exact hNt.toV hlt | refine IsV.drew ?_ | refine IsV.alloc ?_ _ | refine IsV.step hbt ?_))).mono ?_; rintro e w'' ⟨t2, rfl, hNp, hbp⟩))
          all_goals go_split_ands
          all_goals
            have hbw : Below wr.heap.size wr w'' := by assumption
            go_wp2
            go_round
            case rel =>
              exact ⟨i, rfl, by omega, hHst.out ▸ hNp, hM.below hbw (by omega), row_below hRw hbw (by omega), (rowAt_below hbw (by omega)).trans hrw, hL.trans (hbw.mono (by omega)), Nat.le_trans hsz hbw.size⟩
            case measure => simp [intOf]
    · have hst := wantK_step a s
      have hst1 := arrK_congr (k := .u8) (n := 32) fun p _ => (hst p).1
      have hst2 := (hst 0).2
      obtain ⟨q, hq⟩ : ∃ q, q = s / 8 := ⟨_, rfl⟩
      obtain ⟨r, hr'⟩ : ∃ r, r = s % 8 := ⟨_, rfl⟩
      have hqi : (s : Int) / 8 = q := by omega
      have hri : (s : Int) % 8 = r := by omega
      have hqt : Int.tdiv (s : Int) 8 = q := by rw [Int.tdiv_eq_ediv_of_nonneg (by omega)]; omega
      have hrt : Int.tmod (s : Int) 8 = r := by rw [Int.tmod_eq_emod_of_nonneg (by omega)]; omega
      rw [← hq, ← hr'] at hst1 hst2
      have hq32 : q < 32 := by omega
      have hr8 : r < 8 := by omega
      have hc : wr.cell? ⟨w.heap.size + 1 + 1 + 1, q, none⟩ = some (.int .u8 (wantK a s q : Nat)) := by rw [hRw.cell, hrw, arrK_at hq32]
      have hfz := hRw.frozen q
      have hcg := hRg.cell s
      rw [hrg, arrK_at (by omega)] at hcg
      have hbit : a / 2 ^ s % 2 < 2 := Nat.mod_lt _ (by omega)
      have hHst := Lib.hid hst1
      have hHr := Lib.hid hrw
      clear hq hr' hst hst1 hrw
      generalize wantK a s q = X at *
      generalize a / 2 ^ s % 2 = v1 at *
      obtain ⟨m, hm⟩ : ∃ m, m = v1 * 2 ^ r := ⟨_, rfl⟩
      rw [← hm] at hst2 hHst
      have hmi : (v1 : Int) * 2 ^ r = (m : Int) := by rw [hm]; simp
      have hw1 : IntKind.i64.wrap (m : Int) = m := by rw [IntKind.wrap_i64]; omega
      have hw2 : IntKind.u8.wrap (m : Int) = m := by rw [IntKind.wrap_u8]; omega
      have hw3 : IntKind.u8.wrap ((X : Int) + m) = (X : Int) + m := by rw [IntKind.wrap_u8]; omega
      have hq0 : (0 : Int) ≤ q := by omega
      have hq1 : (q : Int) < 32 := by omega
      have hr0 : (0 : Int) ≤ r := by omega
      have hr1 : ((r : Int)).toNat = r := by omega
      clear hm
      go_wp2
      go_region
      go_wp2
      go_round
      case rel =>
        have hbs : Below (w.heap.size + 1 + 1 + 1) wr (wr.setCell ⟨w.heap.size + 1 + 1 + 1, q, none⟩ (.int .u8 ((X : Int) + m))).drew := ((Below.refl (w.heap.size + 1 + 1 + 1) wr).setCell (p := ⟨w.heap.size + 1 + 1 + 1, q, none⟩) (Nat.le_refl _) _).drew
        refine ⟨s + 1, by go_num, by omega, hM.below hbs (by omega), row_setCell.2 hRw, ?_, row_setCell.2 hRg, ?_, hL.trans (hbs.mono (by omega)), by simp; omega⟩
        · rw [rowAt_drew, rowAt_setCell_same, hHr.out, show ((X : Int) + m) = ((X + m : Nat) : Int) by simp, arrK_set, hHst.out]
        · rw [rowAt_drew, rowAt_setCell_far (by simp; omega)]; exact hrg
      case measure => simp [intOf]; omega
end Go.Proofs.Ytjfiokicnacbfaa
