/- Contract of quot.Gcd. -/
import Derived.Test.YtjfiokicnacbfaaQuot
namespace Go.Proofs.Ytjfiokicnacbfaa
open Go.ChangeShapes Go.WideShapes Go.ChangeAt Go.RowKit
set_option maxHeartbeats 1000000
set_option maxRecDepth 100000
attribute [local go_sem ↓] load_num store_num execl_num execs_num load_wide store_wide execl_wide execs_wide
attribute [local go_sem] isHead_mk blkOf_mk isAgg_mk cellsV_mk row_drew rowAt_drew row_new_cells row_old rowAt_new rowAt_old setRow_new

/-- Two numbers whose greatest common divisor is what is left of A's and B's, behind n halves. -/
structure GcI (A B n a b : Nat) : Prop where
  b0 : b ≠ 0
  odd : a % 2 = 1 ∨ b % 2 = 1
  eq : Nat.gcd A B = 2 ^ n * Nat.gcd a b
theorem GcI.halfA {A B n a b : Nat} (h : GcI A B n a b) (e : a % 2 = 0) : GcI A B n (a / 2) b := by
  have hb : b % 2 = 1 := by have := h.odd; omega
  exact ⟨h.b0, .inr hb, by rw [h.eq, gcd_one e hb]⟩
theorem GcI.halfB {A B n a b : Nat} (h : GcI A B n a b) (e : b % 2 = 0) : GcI A B n a (b / 2) := by
  have ha : a % 2 = 1 := by have := h.odd; omega
  have h0 := h.b0
  exact ⟨by omega, .inl ha, by rw [h.eq, Nat.gcd_comm, gcd_one e ha, Nat.gcd_comm]⟩
theorem GcI.swap {A B n a b : Nat} (h : GcI A B n a b) (ha : a ≠ 0) : GcI A B n b a := ⟨ha, h.odd.symm, by rw [h.eq, Nat.gcd_comm]⟩
theorem GcI.sub {A B n a b : Nat} (h : GcI A B n a b) (hb : b % 2 = 1) (hl : b ≤ a) : GcI A B n (a - b) b := ⟨h.b0, .inr hb, by rw [h.eq, gcd_sub hl]⟩
theorem GcI.start {A B n a b : Nat} (hA : A = 2 ^ n * a) (hB : B = 2 ^ n * b) (hb : b ≠ 0) (ho : a % 2 = 1 ∨ b % 2 = 1) : GcI A B n a b := ⟨hb, ho, by rw [hA, hB, Nat.gcd_mul_left]⟩
theorem wd_low (a : Nat) : wd a 0 % 2 = a % 2 := by
  unfold wd
  rw [Nat.mod_mod_of_dvd _ (show 2 ∣ 2 ^ 64 from Nat.pow_dvd_pow 2 (show 1 ≤ 64 by omega))]
  simp
theorem and_low (a : Nat) {r : Nat} (h : a % 2 = r) : bits .and .u64 (wd a 0 : Nat) 1 = (r : Int) := by rw [u64_and1 _ (wd_lt a 0), wd_low, h]
/-- The number in a block. -/
def numOf (w : World) (g : Nat) : Nat := wval (fun i => (intOf ((rowAt w g)[i]?.getD undef)).toNat) 4
theorem numOf_at {w : World} {g n : Nat} (h : NumAt w g n) (hn : n < 2 ^ 256) : numOf w g = n := by
  unfold numOf
  rw [h.eq, wval_congr (g := wd n) fun i hi => by rw [arrK_at hi]; simp [intOf], wval_wd]
  exact Nat.mod_eq_of_lt hn

structure GcAt (w : World) (h a b : Nat) : Prop where
  A : NumAt w h a
  B : NumAt w (h + 1) b
  O : Row w (h + 1 + 1) 4
  Z : NumAt w (h + 1 + 1 + 1) 0
theorem GcAt.below {w w' : World} {h a b B : Nat} (k : GcAt w h a b) (hb : Below B w w') (hB : h + 4 ≤ B) : GcAt w' h a b :=
  ⟨k.A.below hb (by omega), k.B.below hb (by omega), row_below k.O hb (by omega), k.Z.below hb (by omega)⟩
theorem GcAt.drew {w : World} {h a b : Nat} (k : GcAt w h a b) : GcAt w.drew h a b := ⟨k.A.drew, k.B.drew, k.O, k.Z.drew⟩
theorem GcAt.setA {w : World} {h a b a' : Nat} (k : GcAt w h a b) : GcAt (w.setRow h (arrK .u64 4 (wd a'))) h a' b :=
  ⟨At.put k.A.row, k.B.far (by omega), (row_setRow_far (by omega)).2 k.O, k.Z.far (by omega)⟩
theorem GcAt.setB {w : World} {h a b b' : Nat} (k : GcAt w h a b) : GcAt (w.setRow (h + 1) (arrK .u64 4 (wd b'))) h a b' :=
  ⟨k.A.far (by omega), At.put k.B.row, (row_setRow_far (by omega)).2 k.O, k.Z.far (by omega)⟩
theorem gc_start (w : World) (a b : Nat) : GcAt ((((w.alloc (Obj.cells (arrK .u64 4 (wd a)) 42)).alloc (Obj.cells (arrK .u64 4 (wd b)) 42)).alloc (Obj.cells (arrK .u64 4 (wd 0)) 42)).alloc (Obj.cells (arrK .u64 4 (wd 0)) 42)) w.heap.size a b := by
  refine ⟨?_, ?_, ?_, ?_⟩
  · exact (((At.new _ rfl).old _).old _).old _
  · exact ((At.new _ (by simp)).old _).old _
  · exact ((At.new (k := .u64) (m := 4) (f := wd 0) _ (by simp)).old _).row
  · exact At.new _ (by simp)

theorem limb_Half (a : Nat) (w : World) (ha : a < 2 ^ 256) : Calls Try.prog 71 #[.agg (arrK .u64 4 (wd a)), .int .i64 (-1)] w fun e w' => e = .returned (.agg (arrK .u64 4 (wd (a / 2)))) ∧ Below w.heap.size w w' :=
  limb_Shr a 1 (a / 2) w ha (by omega) (by omega) (by rw [Nat.pow_one])

theorem limb_Less (a b : Nat) (w : World) (ha : a < 2 ^ 256) (h : b ≤ a) : Calls Try.prog 72 #[.agg (arrK .u64 4 (wd a)), .agg (arrK .u64 4 (wd b))] w fun e w' => e = .returned (.tuple #[.agg (arrK .u64 4 (wd (a - b))), .int .u64 0]) ∧ Below w.heap.size w w' := by
  have hc := limb_Sub a b w ha (by omega)
  have e1 : subN a b = a - b := by
    unfold subN
    rw [show a + 2 ^ 256 - b = (a - b) + 2 ^ 256 by omega, Nat.add_mod_right, Nat.mod_eq_of_lt (by omega)]
  have e2 : lessN a b = 0 := if_neg (by omega)
  rw [e1, e2] at hc
  exact hc

theorem quot_Gcd (a b : Nat) (w : World) (ha : a < 2 ^ 256) (hb : b < 2 ^ 256) :
    Calls Try.prog 54 #[numV a, numV b] w fun e w' => e = .returned (numV (Nat.gcd a b)) ∧ Below w.heap.size w w' := by
  obtain ⟨G, hG⟩ : ∃ G, G = Nat.gcd a b := ⟨_, rfl⟩
  have hHG := Lib.hid hG
  rw [← hG]
  clear hG
  unfold numV
  have hD := gc_start w a b
  have hL : Below w.heap.size w ((((w.alloc (Obj.cells (arrK .u64 4 (wd a)) 42)).alloc (Obj.cells (arrK .u64 4 (wd b)) 42)).alloc (Obj.cells (arrK .u64 4 (wd 0)) 42)).alloc (Obj.cells (arrK .u64 4 (wd 0)) 42)) := by go_grown
  have hRa := hD.A.row
  have hra := hD.A.eq
  have hRb := hD.B.row
  have hrb := hD.B.eq
  have hO := hD.O
  have hRz := hD.Z.row
  have hrz := hD.Z.eq
  have hH := Lib.hid hD
  clear hD
  by_cases ha0 : a = 0
  · have heq := fun W => eqlNum ha (show 0 < 2 ^ 256 by omega) W
    rw [decide_eq_true ha0] at heq
    have e : b = G := by rw [hHG.out, ha0, Nat.gcd_zero_left]
    subst e
    have hcb := arrK_cells .u64 4 (wd b)
    clear ha0
    rw [← zeroNum] at *
    go_enter Try.func54, Try.ntmps54
    go_wp2
    exact ret_stored (p := 4) (ty := 42) (g := w.heap.size + 1 + 1) (n := 4) (c := arrK .u64 4 (wd b)) rfl Try.underlying42 rfl (by kernel_rfl) rfl hO hcb.1 rfl ⟨rfl, below_setRow hL (by omega)⟩
  have heq := fun W => eqlNum ha (show 0 < 2 ^ 256 by omega) W
  rw [decide_eq_false ha0] at heq
  by_cases hb0 : b = 0
  · have heq2 := fun W => eqlNum hb (show 0 < 2 ^ 256 by omega) W
    rw [decide_eq_true hb0] at heq2
    have e : a = G := by rw [hHG.out, hb0, Nat.gcd_zero_right]
    subst e
    have hca := arrK_cells .u64 4 (wd a)
    clear hb0
    rw [← zeroNum] at *
    go_enter Try.func54, Try.ntmps54
    go_wp2
    exact ret_stored (p := 4) (ty := 42) (g := w.heap.size + 1 + 1) (n := 4) (c := arrK .u64 4 (wd a)) rfl Try.underlying42 rfl (by kernel_rfl) rfl hO hca.1 rfl ⟨rfl, below_setRow hL (by omega)⟩
  have heq2 := fun W => eqlNum hb (show 0 < 2 ^ 256 by omega) W
  rw [decide_eq_false hb0] at heq2
  have hGlt : G < 2 ^ 256 := by rw [hHG.out]; exact Nat.lt_of_le_of_lt (Nat.gcd_le_left b (by omega)) ha
  rw [← zeroNum] at *
  go_enter Try.func54, Try.ntmps54
  go_wp2
  rw [zeroNum] at *
  clear hRa hra hRb hrb hO hRz hrz heq heq2
  generalize ((((w.alloc (Obj.cells (arrK .u64 4 (wd a)) 42)).alloc (Obj.cells (arrK .u64 4 (wd b)) 42)).alloc (Obj.cells (arrK .u64 4 (wd 0)) 42)).alloc (Obj.cells (arrK .u64 4 (wd 0)) 42)) = W0 at *
  go_loopw [6] (fun v wr => ∃ n x y : Nat, v = .int .i64 n ∧ GcAt wr w.heap.size x y ∧ Below w.heap.size w wr ∧ n ≤ 255 ∧ x ≠ 0 ∧ y ≠ 0 ∧ x < 2 ^ 256 ∧ y < 2 ^ 256 ∧ Hid (a = 2 ^ n * x ∧ b = 2 ^ n * y)) (fun v _ => 256 - (intOf v).toNat)
  case atStart => exact ⟨0, a, b, rfl, hH.out, hL, by omega, ha0, hb0, ha, hb, Lib.hid (by simp)⟩
  case round =>
    clear hH hL
    obtain ⟨n, x, y, rfl, hD, hL, hn, hx0, hy0, hx, hy, hE⟩ := hrel
    have hRa := hD.A.row
    have hra := hD.A.eq
    have hRb := hD.B.row
    have hrb := hD.B.eq
    have ca := hD.A.cell (i := 0) (by omega)
    have cb := hD.B.cell (i := 0) (by omega)
    by_cases hev : x % 2 = 0 ∧ y % 2 = 0
    · have hax := and_low x hev.1
      have hay := and_low y hev.2
      have hE' := hE.out
      have hn2 : n + 1 ≤ 255 := by
        rcases Nat.lt_or_ge 255 (n + 1) with h | h
        · exfalso
          have h1 : 2 ^ n * 2 ≤ 2 ^ n * x := Nat.mul_le_mul_left _ (by omega)
          rw [← Nat.pow_succ, ← hE'.1] at h1
          have h2 : 2 ^ 256 ≤ 2 ^ (n + 1) := Nat.pow_le_pow_right (by omega) (by omega)
          omega
        · exact h
      have hE2 : Hid (a = 2 ^ (n + 1) * (x / 2) ∧ b = 2 ^ (n + 1) * (y / 2)) := Lib.hid ⟨by rw [Nat.pow_succ, Nat.mul_assoc, show 2 * (x / 2) = x by omega]; exact hE'.1, by rw [Nat.pow_succ, Nat.mul_assoc, show 2 * (y / 2) = y by omega]; exact hE'.2⟩
      have hx2 : x / 2 ≠ 0 := by omega
      have hy2 : y / 2 ≠ 0 := by omega
      have hx3 : x / 2 < 2 ^ 256 := by omega
      have hy3 : y / 2 < 2 ^ 256 := by omega
      have hs1 := Lib.hid (fun W => limb_Half x W hx)
      have hs2 := Lib.hid (fun W => limb_Half y W hy)
      have hcx := arrK_cells .u64 4 (wd (x / 2))
      have hcy := arrK_cells .u64 4 (wd (y / 2))
      clear hev hE hE'
      go_wp2
      have hD := hD.drew
      have hL := hL.drew
      go_region_law (first
        | (go_simp; go_at_call 71; (first | (with_reducible refine Calls.mono (hs1.out _) ?_) | (with_reducible refine Calls.mono (hs2.out _) ?_)); rintro e w' ⟨rfl, hb'⟩; have hD := hD.below hb' (by have := hD.Z.lt; omega); have hL := below_step hb' hL (Nat.le_refl _); have hRa := hD.A.row; have hra := hD.A.eq; have hRb := hD.B.row; have hrb := hD.B.eq; have hq1 := fun c => (row_setRow_far (c' := c) (show w.heap.size + 1 ≠ w.heap.size by omega)).2 hRb; have hq2 := fun c => (row_setRow_far (c' := c) (show w.heap.size ≠ w.heap.size + 1 by omega)).2 hRa))
      all_goals
        go_wp2
        go_round
        case rel => exact ⟨n + 1, x / 2, y / 2, by go_num, by first | exact hD.setA.setB | exact hD.setB.setA, below_setRow (below_setRow hL (by omega)) (by omega), hn2, hx2, hy2, hx3, hy3, hE2⟩
        case measure => simp [intOf]; omega
    · have hI : Hid (GcI a b n x y) := Lib.hid (GcI.start hE.out.1 hE.out.2 hy0 (by omega))
      clear hE
      have hax : (∃ r, x % 2 = r ∧ r = 1) ∨ (x % 2 = 0 ∧ y % 2 = 1) := by
        by_cases h : x % 2 = 0
        · exact .inr ⟨h, by omega⟩
        · exact .inl ⟨1, by omega, rfl⟩
      clear hev
      rcases hax with ⟨r, hxr, hr⟩ | ⟨hx2, hy2⟩
      · have hand := and_low x hxr
        rw [hr] at hand
        clear hxr hr
        go_wp2
        go_loopw [] (fun wr => ∃ x y : Nat, GcAt wr w.heap.size x y ∧ Below w.heap.size w wr ∧ x < 2 ^ 256 ∧ y < 2 ^ 256 ∧ Hid (GcI a b n x y)) (fun wr => numOf wr w.heap.size + numOf wr (w.heap.size + 1))
        case atStart => exact ⟨x, y, hD, hL, hx, hy, hI⟩
        case round =>
          clear hD hL hx hy hI hRa hra hRb hrb ca cb hx0 hy0 hand
          obtain ⟨x, y, hD, hL, hx, hy, hI⟩ := hrel
          have hRa := hD.A.row
          have hra := hD.A.eq
          have hRb := hD.B.row
          have hrb := hD.B.eq
          have hRz := hD.Z.row
          have hrz := hD.Z.eq
          have hne := fun W => neqNum hx (show 0 < 2 ^ 256 by omega) W
          by_cases hx0 : x = 0
          · rw [decide_eq_true hx0] at hne
            have hO := hD.O
            have hyG : y * 2 ^ n % 2 ^ 256 = G := by
              have h := hI.out.eq
              rw [← hHG.out, hx0, Nat.gcd_zero_left] at h
              rw [Nat.mul_comm, ← h]; exact Nat.mod_eq_of_lt hGlt
            have hs := Lib.hid (fun W => limb_Shl y n G W hn hyG)
            have hcg := arrK_cells .u64 4 (wd G)
            clear hx0 hyG
            unfold numV at hs
            go_wp2_with fail
            refine (hs.out _).mono ?_
            rintro e w' ⟨rfl, hb'⟩
            have hO' := row_below hO hb' hO.lt
            have hL' := below_step hb' hL (Nat.le_refl _)
            clear hRa hra hRb hrb hRz hrz hb'
            go_wp2
            exact ret_stored (p := 4) (ty := 42) (g := w.heap.size + 1 + 1) (n := 4) (c := arrK .u64 4 (wd G)) rfl Try.underlying42 rfl (by kernel_rfl) rfl hO' hcg.1 rfl ⟨rfl, below_setRow hL' (by omega)⟩
          · rw [decide_eq_false hx0] at hne
            go_wp2
            clear hne hRa hra hRb hrb hRz hrz
            obtain ⟨wo, rfl⟩ : ∃ wo : World, wo = wr := ⟨_, rfl⟩
            have hmo : numOf wo w.heap.size + numOf wo (w.heap.size + 1) = x + y := by rw [numOf_at hD.A hx, numOf_at hD.B hy]
            have hHmo := Lib.hid hmo
            clear hmo
            go_loopw [] (fun wr => ∃ z : Nat, GcAt wr w.heap.size z y ∧ Below w.heap.size w wr ∧ z ≠ 0 ∧ z ≤ x ∧ Hid (GcI a b n z y)) (fun wr => numOf wr w.heap.size)
            case atStart => exact ⟨x, hD, hL, hx0, Nat.le_refl _, hI⟩
            case round =>
              clear hD hL hI
              obtain ⟨z, hD, hL, hz0, hzx, hI⟩ := hrel
              have hz : z < 2 ^ 256 := by omega
              have hRa := hD.A.row
              have hra := hD.A.eq
              have ca := hD.A.cell (i := 0) (by omega)
              by_cases hev : z % 2 = 0
              · have hand := and_low z hev
                have hs := Lib.hid (fun W => limb_Half z W hz)
                have hcz := arrK_cells .u64 4 (wd (z / 2))
                have hI2 := Lib.hid (hI.out.halfA hev)
                have hz2 : z / 2 ≠ 0 := by omega
                have hz3 : z / 2 ≤ x := by omega
                have hm1 := numOf_at hD.A hz
                have hHm1 := Lib.hid hm1
                clear hev hI hm1
                go_wp2_with fail
                refine (hs.out _).mono ?_
                rintro e w' ⟨rfl, hb'⟩
                have hD' := (hD.below hb' (by have := hD.Z.lt; omega)).setA (a' := z / 2)
                have hL' := below_setRow (c := arrK .u64 4 (wd (z / 2))) (below_step hb' hL (Nat.le_refl _)) (Nat.le_refl _)
                have hR' := row_below hRa hb' hRa.lt
                clear hRa hra ca hb'
                go_wp2
                go_roundw
                case rel => exact ⟨z / 2, hD', hL', hz2, hz3, hI2⟩
                case measure => rw [numOf_at hD'.A (by omega), hHm1.out]; omega
              · have hz1 : z % 2 = 1 := by omega
                have hand := and_low z hz1
                have hHz1 := Lib.hid hz1
                clear hev hz1
                go_wp2
                clear hRa hra ca hand
                obtain ⟨wp, rfl⟩ : ∃ wp : World, wp = wr := ⟨_, rfl⟩
                go_loopw [] (fun wr => ∃ v : Nat, GcAt wr w.heap.size z v ∧ Below w.heap.size w wr ∧ v ≤ y ∧ Hid (GcI a b n z v)) (fun wr => numOf wr (w.heap.size + 1))
                case atStart => exact ⟨y, hD, hL, Nat.le_refl _, hI⟩
                case round =>
                  clear hD hL hI
                  obtain ⟨v, hD, hL, hvy, hI⟩ := hrel
                  have hv : v < 2 ^ 256 := by omega
                  have hv0 := hI.out.b0
                  have hRb := hD.B.row
                  have hrb := hD.B.eq
                  have cb := hD.B.cell (i := 0) (by omega)
                  by_cases hev : v % 2 = 0
                  · have hand := and_low v hev
                    have hs := Lib.hid (fun W => limb_Half v W hv)
                    have hcz := arrK_cells .u64 4 (wd (v / 2))
                    have hI2 := Lib.hid (hI.out.halfB hev)
                    have hz3 : v / 2 ≤ y := by omega
                    have hz4 : v / 2 < v := by omega
                    have hm1 := numOf_at hD.B hv
                    have hHm1 := Lib.hid hm1
                    clear hev hI hm1
                    go_wp2_with fail
                    refine (hs.out _).mono ?_
                    rintro e w' ⟨rfl, hb'⟩
                    have hD' := (hD.below hb' (by have := hD.Z.lt; omega)).setB (b' := v / 2)
                    have hL' := below_setRow (c := arrK .u64 4 (wd (v / 2))) (below_step hb' hL (Nat.le_refl _)) (show w.heap.size ≤ w.heap.size + 1 by omega)
                    have hR' := row_below hRb hb' hRb.lt
                    clear hRb hrb cb hb'
                    go_wp2
                    go_roundw
                    case rel => exact ⟨v / 2, hD', hL', hz3, hI2⟩
                    case measure => rw [numOf_at hD'.B (by omega), hHm1.out]; exact hz4
                  · have hv1 : v % 2 = 1 := by omega
                    have hand := and_low v hv1
                    have hRa := hD.A.row
                    have hra := hD.A.eq
                    clear hev
                    have hc := Lib.hid (fun W => limb_Cmp z v W hz hv)
                    unfold numV at hc
                    by_cases hlt : z < v
                    · have hI2 := Lib.hid ((hI.out.swap hz0).sub hHz1.out (by omega))
                      rw [order_lt hlt] at hc
                      clear hI hv1 hHz1
                      go_wp2_with fail
                      refine (hc.out _).mono ?_
                      rintro e w' ⟨rfl, hb'⟩
                      have hD' := hD.below hb' (by have := hD.Z.lt; omega)
                      have hL' := below_step hb' hL (Nat.le_refl _)
                      clear hRa hra hRb hrb cb hD hL hb' hand
                      have hRa := hD'.A.row
                      have hra := hD'.A.eq
                      have hRb := hD'.B.row
                      have hrb := hD'.B.eq
                      have hq := (row_setRow_far (c' := arrK .u64 4 (wd v)) (show w.heap.size + 1 ≠ w.heap.size by omega)).2 hRb
                      have hD2 := (hD'.setA (a' := v)).setB (b' := z)
                      have hL2 := below_setRow (c := arrK .u64 4 (wd z)) (below_setRow (c := arrK .u64 4 (wd v)) hL' (Nat.le_refl _)) (show w.heap.size ≤ w.heap.size + 1 by omega)
                      have hRa2 := hD2.A.row
                      have hra2 := hD2.A.eq
                      have hRb2 := hD2.B.row
                      have hrb2 := hD2.B.eq
                      have hs := Lib.hid (fun W => limb_Less v z W hv (by omega))
                      have hcv := arrK_cells .u64 4 (wd v)
                      have hcz := arrK_cells .u64 4 (wd z)
                      clear hD' hL'
                      go_wp2_with fail
                      clear hRa hra hRb hrb hq
                      have hRa := hRa2
                      have hra := hra2
                      have hRb := hRb2
                      have hrb := hrb2
                      clear hRa2 hra2 hRb2 hrb2
                      refine (hs.out _).mono ?_
                      rintro e w'' ⟨rfl, hb''⟩
                      have hD3 := (hD2.below hb'' (by have := hD2.Z.lt; omega)).setA (a' := v - z)
                      have hL3 := below_setRow (c := arrK .u64 4 (wd (v - z))) (below_step hb'' hL2 (Nat.le_refl _)) (Nat.le_refl _)
                      have hR3 := row_below hRa hb'' hRa.lt
                      have hcd := arrK_cells .u64 4 (wd (v - z))
                      clear hRa hra hRb hrb hb'' hD2 hL2
                      go_wp2
                      go_roundw
                      case rel => exact ⟨v - z, z, hD3, hL3, by omega, by omega, hI2⟩
                      case measure => rw [numOf_at hD3.A (by omega), numOf_at hD3.B (by omega), hHmo.out]; omega
                    · have hI2 := Lib.hid (hI.out.sub hv1 (by omega))
                      have hge : ∃ o : Int, 0 ≤ o ∧ order z v = o := by
                        by_cases e : z = v
                        · exact ⟨0, by omega, by rw [e]; exact order_eq v⟩
                        · exact ⟨1, by omega, order_gt (by omega)⟩
                      obtain ⟨o, ho, hoe⟩ := hge
                      rw [hoe] at hc
                      clear hI hv1 hHz1 hoe
                      go_wp2_with fail
                      refine (hc.out _).mono ?_
                      rintro e w' ⟨rfl, hb'⟩
                      have hD2 := hD.below hb' (by have := hD.Z.lt; omega)
                      have hL2 := below_step hb' hL (Nat.le_refl _)
                      clear hRa hra hRb hrb cb hD hL hb' hand
                      have hRa := hD2.A.row
                      have hra := hD2.A.eq
                      have hRb := hD2.B.row
                      have hrb := hD2.B.eq
                      have hs := Lib.hid (fun W => limb_Less z v W hz (by omega))
                      have ho' : ¬ o < 0 := by omega
                      go_wp2_with fail
                      refine (hs.out _).mono ?_
                      rintro e w'' ⟨rfl, hb''⟩
                      have hD3 := (hD2.below hb'' (by have := hD2.Z.lt; omega)).setA (a' := z - v)
                      have hL3 := below_setRow (c := arrK .u64 4 (wd (z - v))) (below_step hb'' hL2 (Nat.le_refl _)) (Nat.le_refl _)
                      have hR3 := row_below hRa hb'' hRa.lt
                      have hcd := arrK_cells .u64 4 (wd (z - v))
                      clear hRa hra hRb hrb hb'' hD2 hL2
                      go_wp2
                      go_roundw
                      case rel => exact ⟨z - v, v, hD3, hL3, by omega, by omega, hI2⟩
                      case measure => rw [numOf_at hD3.A (by omega), numOf_at hD3.B (by omega), hHmo.out]; omega
      · have hand := and_low x hx2
        have hand2 := and_low y hy2
        clear hx2 hy2
        go_wp2
        go_loopw [] (fun wr => ∃ x y : Nat, GcAt wr w.heap.size x y ∧ Below w.heap.size w wr ∧ x < 2 ^ 256 ∧ y < 2 ^ 256 ∧ Hid (GcI a b n x y)) (fun wr => numOf wr w.heap.size + numOf wr (w.heap.size + 1))
        case atStart => exact ⟨x, y, hD, hL, hx, hy, hI⟩
        case round =>
          clear hD hL hx hy hI hRa hra hRb hrb ca cb hx0 hy0 hand
          obtain ⟨x, y, hD, hL, hx, hy, hI⟩ := hrel
          have hRa := hD.A.row
          have hra := hD.A.eq
          have hRb := hD.B.row
          have hrb := hD.B.eq
          have hRz := hD.Z.row
          have hrz := hD.Z.eq
          have hne := fun W => neqNum hx (show 0 < 2 ^ 256 by omega) W
          by_cases hx0 : x = 0
          · rw [decide_eq_true hx0] at hne
            have hO := hD.O
            have hyG : y * 2 ^ n % 2 ^ 256 = G := by
              have h := hI.out.eq
              rw [← hHG.out, hx0, Nat.gcd_zero_left] at h
              rw [Nat.mul_comm, ← h]; exact Nat.mod_eq_of_lt hGlt
            have hs := Lib.hid (fun W => limb_Shl y n G W hn hyG)
            have hcg := arrK_cells .u64 4 (wd G)
            clear hx0 hyG
            unfold numV at hs
            go_wp2_with fail
            refine (hs.out _).mono ?_
            rintro e w' ⟨rfl, hb'⟩
            have hO' := row_below hO hb' hO.lt
            have hL' := below_step hb' hL (Nat.le_refl _)
            clear hRa hra hRb hrb hRz hrz hb'
            go_wp2
            exact ret_stored (p := 4) (ty := 42) (g := w.heap.size + 1 + 1) (n := 4) (c := arrK .u64 4 (wd G)) rfl Try.underlying42 rfl (by kernel_rfl) rfl hO' hcg.1 rfl ⟨rfl, below_setRow hL' (by omega)⟩
          · rw [decide_eq_false hx0] at hne
            go_wp2
            clear hne hRa hra hRb hrb hRz hrz
            obtain ⟨wo, rfl⟩ : ∃ wo : World, wo = wr := ⟨_, rfl⟩
            have hmo : numOf wo w.heap.size + numOf wo (w.heap.size + 1) = x + y := by rw [numOf_at hD.A hx, numOf_at hD.B hy]
            have hHmo := Lib.hid hmo
            clear hmo
            go_loopw [] (fun wr => ∃ z : Nat, GcAt wr w.heap.size z y ∧ Below w.heap.size w wr ∧ z ≠ 0 ∧ z ≤ x ∧ Hid (GcI a b n z y)) (fun wr => numOf wr w.heap.size)
            case atStart => exact ⟨x, hD, hL, hx0, Nat.le_refl _, hI⟩
            case round =>
              clear hD hL hI
              obtain ⟨z, hD, hL, hz0, hzx, hI⟩ := hrel
              have hz : z < 2 ^ 256 := by omega
              have hRa := hD.A.row
              have hra := hD.A.eq
              have ca := hD.A.cell (i := 0) (by omega)
              by_cases hev : z % 2 = 0
              · have hand := and_low z hev
                have hs := Lib.hid (fun W => limb_Half z W hz)
                have hcz := arrK_cells .u64 4 (wd (z / 2))
                have hI2 := Lib.hid (hI.out.halfA hev)
                have hz2 : z / 2 ≠ 0 := by omega
                have hz3 : z / 2 ≤ x := by omega
                have hm1 := numOf_at hD.A hz
                have hHm1 := Lib.hid hm1
                clear hev hI hm1
                go_wp2_with fail
                refine (hs.out _).mono ?_
                rintro e w' ⟨rfl, hb'⟩
                have hD' := (hD.below hb' (by have := hD.Z.lt; omega)).setA (a' := z / 2)
                have hL' := below_setRow (c := arrK .u64 4 (wd (z / 2))) (below_step hb' hL (Nat.le_refl _)) (Nat.le_refl _)
                have hR' := row_below hRa hb' hRa.lt
                clear hRa hra ca hb'
                go_wp2
                go_roundw
                case rel => exact ⟨z / 2, hD', hL', hz2, hz3, hI2⟩
                case measure => rw [numOf_at hD'.A (by omega), hHm1.out]; omega
              · have hz1 : z % 2 = 1 := by omega
                have hand := and_low z hz1
                have hHz1 := Lib.hid hz1
                clear hev hz1
                go_wp2
                clear hRa hra ca hand
                obtain ⟨wp, rfl⟩ : ∃ wp : World, wp = wr := ⟨_, rfl⟩
                go_loopw [] (fun wr => ∃ v : Nat, GcAt wr w.heap.size z v ∧ Below w.heap.size w wr ∧ v ≤ y ∧ Hid (GcI a b n z v)) (fun wr => numOf wr (w.heap.size + 1))
                case atStart => exact ⟨y, hD, hL, Nat.le_refl _, hI⟩
                case round =>
                  clear hD hL hI
                  obtain ⟨v, hD, hL, hvy, hI⟩ := hrel
                  have hv : v < 2 ^ 256 := by omega
                  have hv0 := hI.out.b0
                  have hRb := hD.B.row
                  have hrb := hD.B.eq
                  have cb := hD.B.cell (i := 0) (by omega)
                  by_cases hev : v % 2 = 0
                  · have hand := and_low v hev
                    have hs := Lib.hid (fun W => limb_Half v W hv)
                    have hcz := arrK_cells .u64 4 (wd (v / 2))
                    have hI2 := Lib.hid (hI.out.halfB hev)
                    have hz3 : v / 2 ≤ y := by omega
                    have hz4 : v / 2 < v := by omega
                    have hm1 := numOf_at hD.B hv
                    have hHm1 := Lib.hid hm1
                    clear hev hI hm1
                    go_wp2_with fail
                    refine (hs.out _).mono ?_
                    rintro e w' ⟨rfl, hb'⟩
                    have hD' := (hD.below hb' (by have := hD.Z.lt; omega)).setB (b' := v / 2)
                    have hL' := below_setRow (c := arrK .u64 4 (wd (v / 2))) (below_step hb' hL (Nat.le_refl _)) (show w.heap.size ≤ w.heap.size + 1 by omega)
                    have hR' := row_below hRb hb' hRb.lt
                    clear hRb hrb cb hb'
                    go_wp2
                    go_roundw
                    case rel => exact ⟨v / 2, hD', hL', hz3, hI2⟩
                    case measure => rw [numOf_at hD'.B (by omega), hHm1.out]; exact hz4
                  · have hv1 : v % 2 = 1 := by omega
                    have hand := and_low v hv1
                    have hRa := hD.A.row
                    have hra := hD.A.eq
                    clear hev
                    have hc := Lib.hid (fun W => limb_Cmp z v W hz hv)
                    unfold numV at hc
                    by_cases hlt : z < v
                    · have hI2 := Lib.hid ((hI.out.swap hz0).sub hHz1.out (by omega))
                      rw [order_lt hlt] at hc
                      clear hI hv1 hHz1
                      go_wp2_with fail
                      refine (hc.out _).mono ?_
                      rintro e w' ⟨rfl, hb'⟩
                      have hD' := hD.below hb' (by have := hD.Z.lt; omega)
                      have hL' := below_step hb' hL (Nat.le_refl _)
                      clear hRa hra hRb hrb cb hD hL hb' hand
                      have hRa := hD'.A.row
                      have hra := hD'.A.eq
                      have hRb := hD'.B.row
                      have hrb := hD'.B.eq
                      have hq := (row_setRow_far (c' := arrK .u64 4 (wd v)) (show w.heap.size + 1 ≠ w.heap.size by omega)).2 hRb
                      have hD2 := (hD'.setA (a' := v)).setB (b' := z)
                      have hL2 := below_setRow (c := arrK .u64 4 (wd z)) (below_setRow (c := arrK .u64 4 (wd v)) hL' (Nat.le_refl _)) (show w.heap.size ≤ w.heap.size + 1 by omega)
                      have hRa2 := hD2.A.row
                      have hra2 := hD2.A.eq
                      have hRb2 := hD2.B.row
                      have hrb2 := hD2.B.eq
                      have hs := Lib.hid (fun W => limb_Less v z W hv (by omega))
                      have hcv := arrK_cells .u64 4 (wd v)
                      have hcz := arrK_cells .u64 4 (wd z)
                      clear hD' hL'
                      go_wp2_with fail
                      clear hRa hra hRb hrb hq
                      have hRa := hRa2
                      have hra := hra2
                      have hRb := hRb2
                      have hrb := hrb2
                      clear hRa2 hra2 hRb2 hrb2
                      refine (hs.out _).mono ?_
                      rintro e w'' ⟨rfl, hb''⟩
                      have hD3 := (hD2.below hb'' (by have := hD2.Z.lt; omega)).setA (a' := v - z)
                      have hL3 := below_setRow (c := arrK .u64 4 (wd (v - z))) (below_step hb'' hL2 (Nat.le_refl _)) (Nat.le_refl _)
                      have hR3 := row_below hRa hb'' hRa.lt
                      have hcd := arrK_cells .u64 4 (wd (v - z))
                      clear hRa hra hRb hrb hb'' hD2 hL2
                      go_wp2
                      go_roundw
                      case rel => exact ⟨v - z, z, hD3, hL3, by omega, by omega, hI2⟩
                      case measure => rw [numOf_at hD3.A (by omega), numOf_at hD3.B (by omega), hHmo.out]; omega
                    · have hI2 := Lib.hid (hI.out.sub hv1 (by omega))
                      have hge : ∃ o : Int, 0 ≤ o ∧ order z v = o := by
                        by_cases e : z = v
                        · exact ⟨0, by omega, by rw [e]; exact order_eq v⟩
                        · exact ⟨1, by omega, order_gt (by omega)⟩
                      obtain ⟨o, ho, hoe⟩ := hge
                      rw [hoe] at hc
                      clear hI hv1 hHz1 hoe
                      go_wp2_with fail
                      refine (hc.out _).mono ?_
                      rintro e w' ⟨rfl, hb'⟩
                      have hD2 := hD.below hb' (by have := hD.Z.lt; omega)
                      have hL2 := below_step hb' hL (Nat.le_refl _)
                      clear hRa hra hRb hrb cb hD hL hb' hand
                      have hRa := hD2.A.row
                      have hra := hD2.A.eq
                      have hRb := hD2.B.row
                      have hrb := hD2.B.eq
                      have hs := Lib.hid (fun W => limb_Less z v W hz (by omega))
                      have ho' : ¬ o < 0 := by omega
                      go_wp2_with fail
                      refine (hs.out _).mono ?_
                      rintro e w'' ⟨rfl, hb''⟩
                      have hD3 := (hD2.below hb'' (by have := hD2.Z.lt; omega)).setA (a' := z - v)
                      have hL3 := below_setRow (c := arrK .u64 4 (wd (z - v))) (below_step hb'' hL2 (Nat.le_refl _)) (Nat.le_refl _)
                      have hR3 := row_below hRa hb'' hRa.lt
                      have hcd := arrK_cells .u64 4 (wd (z - v))
                      clear hRa hra hRb hrb hb'' hD2 hL2
                      go_wp2
                      go_roundw
                      case rel => exact ⟨z - v, v, hD3, hL3, by omega, by omega, hI2⟩
                      case measure => rw [numOf_at hD3.A (by omega), numOf_at hD3.B (by omega), hHmo.out]; omega
end Go.Proofs.Ytjfiokicnacbfaa
