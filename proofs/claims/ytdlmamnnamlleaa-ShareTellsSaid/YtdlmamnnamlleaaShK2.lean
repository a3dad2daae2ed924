/- Several texts one behind the other: Sh8 Sh5 ShL. -/
import Derived.Test.YtdlmamnnamlleaaShK1
import Derived.Test.YtdlmamnnamlleaaNum
import Derived.Test.YtdlmamnnamlleaaOneW
namespace Go.Proofs.Ytdlmamnnamlleaa
open Go.ChangeShapes Go.WideShapes Go.ChangeAt Go.RowKit
set_option maxHeartbeats 2000000
set_option maxRecDepth 100000
attribute [local irreducible] arrV shA
attribute [local go_sem ↓] load_shE load_fld load_num store_num execl_num execs_num load_sh store_sh execl_sh execs_sh
attribute [local go_sem] isHead_mk blkOf_mk isAgg_mk cellsV_mk row_drew rowAt_drew row_new_cells row_old rowAt_new rowAt_old setRow_new zeroNum zeroSh
theorem made_sl (n : Nat) : madeCells #[Value.slice none 0 0] n = arrV n fun _ => .slice none 0 0 := by
  refine arrV_of ?_ fun i hi => ?_
  · simp [madeCells]
  · simp [madeCells, hi]
    rw [Nat.mod_one]; rfl
/-- Newton's table, as numbers. -/
def tbN (X : Nat → Int) (Y : Nat → Nat) (k j : Nat) : Nat := (tbl ivL (XL X) (YL Y) k j).val
theorem tbN_lt (X : Nat → Int) (Y : Nat → Nat) (k j : Nat) : tbN X Y k j < fL := Fin.isLt _
theorem tbN_zero {X : Nat → Int} {Y : Nat → Nat} {j : Nat} (h : Y j < fL) : tbN X Y 0 j = Y j := by
  unfold tbN; rw [tbl_zero ivL_mul oneL]; exact fiL_val h
theorem tbN_low {X : Nat → Int} {Y : Nat → Nat} {k j : Nat} (h : j ≤ k) : tbN X Y (k + 1) j = tbN X Y k j := by unfold tbN; rw [tbl_low h]
theorem tbN_step {X : Nat → Int} {Y : Nat → Nat} {n k j : Nat} (hX : Apart (XL X) n) (hj : j < n) (hk : k + 1 ≤ j) : (fi fL (tbN X Y k j) - fi fL (tbN X Y k (j - 1))).val * invL (XL X j - XL X (j - (k + 1))).val % fL = tbN X Y (k + 1) j := by
  unfold tbN
  rw [fi_self, fi_self, ivL_val, mulL, tbl_step ivL_mul oneL hX hj hk]
/-- Horner's step, as numbers. -/
theorem hornL (y h d : Fin fL) : (y.val * h.val + d.val) % fL = (y * h + d).val := by
  rw [← addL, ← mulL, Nat.mod_add_mod]
theorem mul_wideS {a b k j m : Nat} (ha : a < 2 ^ k) (hb : b < 2 ^ j) (e : k + j = m) : a * b < 2 ^ m := by subst e; rw [Nat.pow_add]; exact Nat.mul_lt_mul'' ha hb
theorem addz (b : Addr) : b.add 0 = b := by cases b; simp [Addr.add]
def SRel.s1 (n : Nat) : SRel := ⟨fun v w => ∃ g, v = .slice (some ⟨g, 0, none⟩) 1 1 ∧ At w g .u64 1 (fun _ => n), fun _ _ _ hb ⟨g, h1, h2⟩ => ⟨g, h1, h2.step hb⟩⟩
theorem digitsOne {v : Value} {n : Nat} (w : World) (hn : n < 18446744073709551616) (h : (SRel.s1 n).p v w) : Calls Try.prog 64 #[v] w (RetN n w) := by
  obtain ⟨g, rfl, hA⟩ := h
  have hR := hA.row
  obtain ⟨cs, t, hg, hs⟩ := hR
  have hcs : cs = arrK .u64 1 fun _ => n := by rw [← hA.eq]; simp [rowAt, hg]
  have h := ref_Digits (some ⟨g, 0, none⟩) 1 1 (fun _ => n) w (by rw [← hcs]; exact Rd.of_blk hg hA.lt) (by omega) (by omega) (by omega) (fun _ _ => hn)
  have hv : wval (fun _ => n) 1 = n := by show 0 + 2 ^ (64 * 0) * n = n; rw [Nat.mul_zero, Nat.pow_zero, Nat.one_mul, Nat.zero_add]
  rw [hv] at h
  exact h
theorem ref_SharesAt (A : Option Addr) (n c : Nat) (X : Nat → Int) (Y : Nat → Nat) (xn : Nat) (w : World) (hS : Shs w A n X Y) (hn20 : n ≤ 20) (hn0 : 0 < n) (hx : xn ≤ 255) (hok : ∀ i < n, ShOk X Y i) : Calls Try.prog 13 #[.slice A n c, .int .i64 (xn : Nat)] w fun e w' => e = .returned (numV (shAt X Y xn n)) ∧ Below w.heap.size w w' := by
  have hmk := run_make_row' (P := Try.prog) 113 33 (.slice none 0 0) 24 Try.underlying113 (by kernel_rfl) rfl .i64 .i64 n (by omega) (by omega)
  rw [made_sl] at hmk
  have hlg := Lib.hid (show shAt X Y xn n = (lag ivL (XL X) (YL Y) (fi fL xn) n).val from rfl)
  obtain ⟨R, hRe⟩ : ∃ r, shAt X Y xn n = r := ⟨_, rfl⟩
  rw [hRe] at hlg ⊢
  unfold numV
  have hc0 := arrK_cells .u64 4 (wd 0)
  have hcR := arrK_cells .u64 4 (wd R)
  have hL0 := below_alloc w (Obj.cells (arrK .u64 4 (wd 0)) 27)
  have hR := Lib.hid (show Row (w.alloc (Obj.cells (arrK .u64 4 (wd 0)) 27)) w.heap.size 4 from (row_new rfl).2 hc0.1)
  have hSh := Lib.hid hS
  have hL := Lib.hid hL0
  have hnh := Lib.hid (And.intro hn20 (And.intro hx (And.intro hok hn0)))
  have hAp := Lib.hid (apartL hok)
  have hYl := Lib.hid (fun i (hi : i < n) => Nat.lt_trans (hok i hi).y fL_lt')
  clear hRe hS hL0 hn20 hx hok hn0
  go_enter Try.func13, Try.ntmps13
  go_upto_region 1 with (fail)
  generalize w.alloc _ = W0 at *
  go_upto_region 3 with (fail)
  have hb := below_alloc W0 (Obj.cells (arrV n fun _ => .slice none 0 0) 33)
  have hg := Lib.hid hR.out.lt
  have hD := Lib.hid (show DsAt (W0.alloc (Obj.cells (arrV n fun _ => .slice none 0 0) 33)) W0.heap.size n (fun _ => .slice none 0 0) (fun _ => 0) from ⟨(row_new rfl).2 (arrV_size _ _), rowAt_new rfl, fun j _ => IsN.nil _⟩)
  replace hR := Lib.hid (row_below hR.out hb hR.out.lt)
  replace hL := Lib.hid (below_step hb hL.out (Nat.le_refl _))
  clear hb hmk
  generalize W0.alloc _ = W1 at *
  generalize W0.heap.size = g5 at *
  go_loopw [19] (fun iv wr => ∃ (i : Nat) (D : Nat → Value), iv = .int .i64 i ∧ i ≤ n ∧ Hid (DsAt wr g5 n D fun j => if j < i then Y j else 0) ∧ Hid (Row wr w.heap.size 4) ∧ Hid (Below w.heap.size w wr)) (fun iv _ => n - (intOf iv).toNat)
  case atStart => exact ⟨0, fun _ => .slice none 0 0, rfl, by omega, Lib.hid (hD.out.congr fun j _ => by rw [if_neg (by omega)]), hR, hL⟩
  case round =>
    clear hD hR hL
    obtain ⟨i, D, rfl, hi, hD, hR, hL⟩ := hrel
    by_cases hin : i = n
    · have hin2 := hin.symm
      subst hin2
      have hd : decide ((n : Int) < (n : Int)) = false := by simp
      replace hD := Lib.hid (hD.out.congr (T' := tbN X Y 0) fun j hj => by rw [if_pos hj, tbN_zero (hnh.out.2.2.1 j hj).y])
      go_upto_region 8 with (fail)
      have h20i : (n : Int) ≤ 20 := by have := hnh.out.1; omega
      go_loopw [8] (fun kv wr => ∃ (k : Nat) (D : Nat → Value), kv = .int .i64 k ∧ 1 ≤ k ∧ k ≤ n ∧ Hid (DsAt wr g5 n D (tbN X Y (k - 1))) ∧ Hid (Row wr w.heap.size 4) ∧ Hid (Below w.heap.size w wr)) (fun kv _ => n + 1 - (intOf kv).toNat)
      case atStart => exact ⟨1, D, rfl, by omega, hnh.out.2.2.2, hD, hR, hL⟩
      case round =>
        clear hD hR hL hd
        obtain ⟨k, D2, rfl, hk1, hkn, hD, hR, hL⟩ := hrel
        by_cases hke : k = n
        · have hke2 := hke.symm
          subst hke2
          have hd : decide ((n : Int) < (n : Int)) = false := by simp
          have hn1 : IntKind.i64.wrap ((n : Int) - 1) = (n : Int) - 1 := by rw [IntKind.wrap_i64]; omega
          obtain ⟨DN, hDN⟩ : ∃ d : Nat → Fin fL, dd ivL (XL X) (YL Y) = d := ⟨_, rfl⟩
          obtain ⟨HN, hHN⟩ : ∃ h : Nat → Fin fL, (fun j => fi fL xn - XL X j) = h := ⟨_, rfl⟩
          replace hD := Lib.hid (hD.out.congr (T' := fun j => (DN j).val) fun j hj => by
            show tbN X Y (n - 1) j = (DN j).val
            unfold tbN; rw [tbl_end hj, hDN])
          have hNw := newton ivL_mul oneL (x := fi fL xn) (Y := YL Y) hAp.out n (Nat.le_refl n)
          rw [hHN, hDN] at hNw
          obtain ⟨LG, hLG⟩ : ∃ l, lag ivL (XL X) (YL Y) (fi fL xn) n = l := ⟨_, rfl⟩
          rw [hLG] at hNw
          have hlg2 := hlg.out
          rw [hLG] at hlg2
          have hlh := Lib.hid hlg2
          have hSt := Lib.hid (show sm (fun k => DN k * pr HN k) n + 0 * pr HN n = LG from by rw [hNw, Fin.zero_mul, Fin.add_zero])
          have hHh := Lib.hid (show ∀ j, fi fL xn - XL X j = HN j from fun j => by rw [← hHN])
          have hxh := Lib.hid hnh.out.2.1
          clear hNw hLG hlg hlg2 hDN hHN
          go_upto_region 18 with (fail)
          go_loopw [12, 13] (fun yv iv wr => ∃ (i : Nat) (z : Int) (y : Fin fL), iv = .int .i64 z ∧ z = (i : Int) - 1 ∧ i ≤ n ∧ Hid (IsN wr yv y.val) ∧ Hid (sm (fun k => DN k * pr HN k) i + y * pr HN i = LG) ∧ Hid (DsAt wr g5 n D2 fun j => (DN j).val) ∧ Hid (Row wr w.heap.size 4) ∧ Hid (Below w.heap.size w wr)) (fun _ iv _ => (intOf iv + 1).toNat)
          case atStart => exact ⟨n, (n : Int) - 1, 0, rfl, rfl, Nat.le_refl _, Lib.hid (IsN.nil _), hSt, hD, hR, hL⟩
          case round =>
            clear hD hR hL hSt hd
            obtain ⟨i, z, y, rfl, hz, hi, hY, hSt, hD, hR, hL⟩ := hrel
            obtain ⟨yA, ym, yc, rfl, -, -, -⟩ := IsN.form hY.out
            by_cases hi0 : i = 0
            · subst hi0
              have hd3 : decide (z ≥ 0) = false := by simp; omega
              have hd4 : ¬ (0 : Int) ≤ z := by omega
              clear hz
              have hyR : y.val = R := by
                have h1 := hSt.out
                rw [hlh.out, ← h1]
                show y.val = (0 + y * 1 : Fin fL).val
                rw [Fin.zero_add, Fin.mul_one]
              have hYR := hY.out
              rw [hyR] at hYR
              have hRl : R < 2 ^ 256 := hyR ▸ Nat.lt_trans y.isLt fL_lt'
              have kTn := Lib.hid (toNumN wr (hYR.toV (lt_big hRl (by omega))))
              unfold numV at kTn
              clear hyR hYR hRl hY hSt hD hlh
              go_wp2_with fail
              refine kTn.out.mono ?_
              rintro e w1 ⟨rfl, hb⟩
              replace hR := Lib.hid (row_below hR.out hb hR.out.lt)
              replace hL := Lib.hid (below_step hb hL.out (Nat.le_refl _))
              clear hb kTn
              have hr3 := hR.out
              dsimp only
              go_wp2_with fail
              exact ret_stored (p := 4) (ty := 27) (g := w.heap.size) (n := 4) (c := arrK .u64 4 (wd R)) rfl Try.underlying27 rfl (by kernel_rfl) rfl hR.out hcR.1 rfl ⟨rfl, below_setRow hL.out (Nat.le_refl _)⟩
            · obtain ⟨m, rfl⟩ : ∃ m, i = m + 1 := ⟨i - 1, by omega⟩
              obtain rfl : z = (m : Int) := by omega
              clear hz hi0
              have hd2 : decide ((m : Int) ≥ 0) = true := by simp
              have hmn : m < n := hi
              have hS := Lib.hid (hSh.out.step hL.out)
              obtain ⟨ad, hA, -, hac⟩ := hS.out.at_ m hmn
              subst hA
              have hok0 := hnh.out.2.2.1 m hmn
              obtain ⟨p, hp⟩ : ∃ p : Nat, X m = (p : Int) := ⟨(X m).toNat, by have := hok0.lo; omega⟩
              have hp8 : p ≤ 255 := by have := hok0.hi; omega
              have hXp : XL X m = fi fL p := by unfold XL; rw [hp]; rfl
              have h2L : 255 < fL := by decide +kernel
              have hx8 := hxh.out
              have hl0 := fL_lt'
              have kDx := Lib.hid (fun V v (h : (SRel.s1 xn).p v V) => digitsOne V (by omega) h)
              have kDp := Lib.hid (fun V v (h : (SRel.s1 p).p v V) => digitsOne V (by omega) h)
              have kMl := Lib.hid (fun V u v (h1 : IsN V u xn) (h2 : IsN V v p) => ref_modLess u v xn p V h1 h2 (Nat.lt_of_le_of_lt hx8 h2L) (Nat.lt_of_le_of_lt hp8 h2L))
              rw [← hXp, hHh.out m] at kMl
              have hst := hSt.out
              rw [horner] at hst
              have hnd := hD.out.num m hmn
              have hY' := hY.out
              obtain ⟨hm, hhm⟩ : ∃ h, HN m = h := ⟨_, rfl⟩
              obtain ⟨dm, hdm⟩ : ∃ d, DN m = d := ⟨_, rfl⟩
              rw [hhm, hdm] at hst
              rw [hhm] at kMl
              rw [hdm] at hnd
              have hz2 := hornL y hm dm
              obtain ⟨y2, hy2⟩ : ∃ y2, y * hm + dm = y2 := ⟨_, rfl⟩
              rw [hy2] at hz2 hst
              have yl : y.val < 2 ^ 256 := Nat.lt_trans y.isLt hl0
              have hml : hm.val < 2 ^ 256 := Nat.lt_trans hm.isLt hl0
              have dml : dm.val < 2 ^ 256 := Nat.lt_trans dm.isLt hl0
              obtain ⟨k5, hk5⟩ : ∃ k, 256 + 256 = k := ⟨_, rfl⟩
              have tl : y.val * hm.val < 2 ^ k5 := mul_wideS yl hml hk5
              have tl2 : y.val * hm.val + dm.val < 2 ^ (k5 + 1) := sum_wide tl (Nat.lt_of_lt_of_le dml (Nat.pow_le_pow_right (by omega) (by omega))) (by omega)
              have kT := Lib.hid (fun V u v (h1 : IsN V u y.val) (h2 : IsN V v hm.val) => timesN V (h1.toV (lt_big yl (by omega))) (h2.toV (lt_big hml (by omega))))
              have kP := Lib.hid (fun V u v (h1 : IsN V u (y.val * hm.val)) (h2 : IsN V v dm.val) => plusN V (h1.toV (lt_big tl (by omega))) (h2.toV (lt_big dml (by omega))))
              have kL := Lib.hid (fun V => ref_Prime V)
              have kR := Lib.hid (fun V u v (h1 : IsN V u (y.val * hm.val + dm.val)) (h2 : IsN V v fL) => restN V h1 tl2 (by omega) (h2.toV (lt_big hl0 (by omega))) (Nat.lt_trans (by omega) h2L) (mul_big (m := 17) (n := 256) (by omega) hl0 (by omega)))
              rw [hz2] at kR
              have hYY := Lib.hid hY'
              have hNd := Lib.hid hnd
              have hSn := Lib.hid hst
              have hCh := Lib.hid (show ∀ V, Below wr.heap.size wr V → V.cell? (ad.add (m * 5)) = some (.int .i64 (p : Nat)) ∧ V.cell? ⟨g5, m, none⟩ = some (D2 m) from fun V h => by
                obtain ⟨a1, e1, -, k1⟩ := (hS.out.step h).at_ m hmn
                cases e1
                have m1 := (k1 0 (by omega)).trans (shA_0 _ _)
                rw [hp, addz] at m1
                exact ⟨m1, (hD.out.step h).cell hmn⟩)
              have hki : (m : Int) < (n : Int) := by omega
              have hk0 : (0 : Int) ≤ (m : Int) := by omega
              have hwx : IntKind.u64.wrap (xn : Int) = (xn : Int) := by rw [IntKind.wrap_u64]; omega
              have hwp : IntKind.u64.wrap (p : Int) = (p : Int) := by rw [IntKind.wrap_u64]; omega
              have hwm : IntKind.i64.wrap ((m : Int) - 1) = (m : Int) - 1 := by rw [IntKind.wrap_i64]; omega
              clear hac hok0 hp hp8 hXp h2L hx8 hl0 hst hnd hY' hhm hdm hz2 hy2 yl hml dml hk5 tl tl2 hSt hY hS
              go_upto_region 20 with (fail)
              generalize ha0 : Act.mk _ _ = a0
              have e0 : a0.tmps[0]?.getD undef = .slice (some ad) n c := by rw [← ha0]; rfl
              have e1 : a0.tmps[1]?.getD undef = .int .i64 (xn : Nat) := by rw [← ha0]; rfl
              have e5 : a0.tmps[5]?.getD undef = .slice (some ⟨g5, 0, none⟩) n n := by rw [← ha0]; rfl
              have e12 : a0.tmps[12]?.getD undef = .slice yA ym yc := by rw [← ha0]; rfl
              have e13 : a0.tmps[13]?.getD undef = .int .i64 (m : Nat) := by rw [← ha0]; rfl
              have hz0 : a0.tmps.size = 118 := by rw [← ha0]; rfl
              have hha0 := Lib.hid ha0
              clear ha0
              refine wp_region_tailL (fun jx_ => match jx_ with | 0 => SRel.is (.slice yA ym yc) | 1 => SRel.is (.int .i64 (xn : Nat)) | 2 => SRel.is (.int .u64 (xn : Nat)) | 3 => SRel.s1 xn | 4 => SRel.bN xn | 5 => SRel.is (.slice (some ad) n c) | 6 => SRel.is (.int .i64 (m : Nat)) | 7 => SRel.is (.pointer (some (ad.add (m * 5)))) | 8 => SRel.is (.pointer (some (ad.add (m * 5)))) | 9 => SRel.is (.int .i64 (p : Nat)) | 10 => SRel.is (.int .u64 (p : Nat)) | 11 => SRel.s1 p | 12 => SRel.bN p | 13 => SRel.bN hm.val | 14 => SRel.bN (y.val * hm.val) | 15 => SRel.is (.slice (some ⟨g5, 0, none⟩) n n) | 16 => SRel.is (.int .i64 (m : Nat)) | 17 => SRel.is (.pointer (some ⟨g5, m, none⟩)) | 18 => SRel.is (D2 m) | 19 => SRel.bN (y.val * hm.val + dm.val) | 20 => SRel.bN fL | 21 => SRel.bN y2.val | 22 => SRel.any | _ => SRel.any) 22 (by kernel_rfl) (by kernel_rfl) (by kernel_rfl) (slotsOk_of hz0 (by kernel_rfl)) (by kernel_rfl) (of_decide_eq_true (by kernel_rfl)) ⟨?_, ?_, ?_, ?_, ?_, ?_, ?_, ?_, ?_, ?_, ?_, ?_, ?_, ?_, ?_, ?_, ?_, ?_, ?_, ?_, ?_, ?_, trivial⟩ ?_
              · refine calmL_step rfl fun a ω κ hb hu hc hK => ?_
                have h12 : a.tmps[12]?.getD undef = .slice yA ym yc := (hu 12 rfl).trans e12
                have hk := Lib.hid (fun w1 (h : Below ω.heap.size ω w1) => hK (.slice yA ym yc) w1 rfl h)
                clear hK hu hc
                go_simp
                exact hk.out _ (Below.refl _ _)
              · refine calmL_step rfl fun a ω κ hb hu hc hK => ?_
                have h1 : a.tmps[1]?.getD undef = .int .i64 (xn : Nat) := (hu 1 rfl).trans e1
                have hk := Lib.hid (fun w1 (h : Below ω.heap.size ω w1) => hK (.int .i64 (xn : Nat)) w1 rfl h)
                clear hK hu hc
                go_simp
                exact hk.out _ (Below.refl _ _)
              · refine calmL_step rfl fun a ω κ hb hu hc hK => ?_
                have h95 : a.tmps[95]?.getD undef = .int .i64 (xn : Nat) := hc 1 95 rfl rfl
                have hk := Lib.hid (fun w1 (h : Below ω.heap.size ω w1) => hK (.int .u64 (xn : Nat)) w1 rfl h)
                clear hK hu hc
                go_simp
                exact hk.out _ (Below.refl _ _)
              · refine calmL_step rfl fun a ω κ hb hu hc hK => ?_
                have h96 : a.tmps[96]?.getD undef = .int .u64 (xn : Nat) := hc 2 96 rfl rfl
                have hk := Lib.hid (fun v w1 (hv : (SRel.s1 xn).p v w1) (h : Below ω.heap.size ω w1) => hK v w1 hv h)
                clear hK hu hc
                go_simp
                exact hk.out _ _ ⟨_, rfl, At.new (k := .u64) (m := 1) (f := fun _ => xn) _ rfl⟩ (below_alloc _ _)
              · refine calmL_step rfl fun a ω κ hb hu hc hK => ?_
                have h97 : (SRel.s1 xn).p (a.tmps[97]?.getD undef) ω := hc 3 97 rfl rfl
                have hk := Lib.hid (fun v w1 (hv : (SRel.bN xn).p v w1) (h : Below ω.heap.size ω w1) => hK v w1 hv h)
                clear hK hu hc
                go_simp
                go_at_call 64
                refine (kDx.out ω _ h97).mono ?_
                rintro e w1 ⟨v, rfl, hv, hb1⟩
                exact hk.out _ _ hv hb1
              · refine calmL_step rfl fun a ω κ hb hu hc hK => ?_
                have h0 : a.tmps[0]?.getD undef = .slice (some ad) n c := (hu 0 rfl).trans e0
                have hk := Lib.hid (fun w1 (h : Below ω.heap.size ω w1) => hK (.slice (some ad) n c) w1 rfl h)
                clear hK hu hc
                go_simp
                exact hk.out _ (Below.refl _ _)
              · refine calmL_step rfl fun a ω κ hb hu hc hK => ?_
                have h13 : a.tmps[13]?.getD undef = .int .i64 (m : Nat) := (hu 13 rfl).trans e13
                have hk := Lib.hid (fun w1 (h : Below ω.heap.size ω w1) => hK (.int .i64 (m : Nat)) w1 rfl h)
                clear hK hu hc
                go_simp
                exact hk.out _ (Below.refl _ _)
              · refine calmL_step rfl fun a ω κ hb hu hc hK => ?_
                have h99 : a.tmps[99]?.getD undef = .slice (some ad) n c := hc 5 99 rfl rfl
                have h100 : a.tmps[100]?.getD undef = .int .i64 (m : Nat) := hc 6 100 rfl rfl
                have hk := Lib.hid (fun w1 (h : Below ω.heap.size ω w1) => hK (.pointer (some (ad.add (m * 5)))) w1 rfl h)
                clear hK hu hc
                go_simp
                exact hk.out _ (Below.refl _ _)
              · refine calmL_step rfl fun a ω κ hb hu hc hK => ?_
                have h101 : a.tmps[101]?.getD undef = .pointer (some (ad.add (m * 5))) := hc 7 101 rfl rfl
                have hk := Lib.hid (fun w1 (h : Below ω.heap.size ω w1) => hK (.pointer (some (ad.add (m * 5)))) w1 rfl h)
                clear hK hu hc
                go_simp
                exact hk.out _ (Below.refl _ _)
              · refine calmL_step rfl fun a ω κ hb hu hc hK => ?_
                have h102 : a.tmps[102]?.getD undef = .pointer (some (ad.add (m * 5))) := hc 8 102 rfl rfl
                have hk := Lib.hid (fun w1 (h : Below ω.heap.size ω w1) => hK (.int .i64 (p : Nat)) w1 rfl h)
                clear hK hu hc
                have c := (hCh.out ω hb).1
                go_simp
                exact hk.out _ (Below.refl _ _)
              · refine calmL_step rfl fun a ω κ hb hu hc hK => ?_
                have h103 : a.tmps[103]?.getD undef = .int .i64 (p : Nat) := hc 9 103 rfl rfl
                have hk := Lib.hid (fun w1 (h : Below ω.heap.size ω w1) => hK (.int .u64 (p : Nat)) w1 rfl h)
                clear hK hu hc
                go_simp
                exact hk.out _ (Below.refl _ _)
              · refine calmL_step rfl fun a ω κ hb hu hc hK => ?_
                have h104 : a.tmps[104]?.getD undef = .int .u64 (p : Nat) := hc 10 104 rfl rfl
                have hk := Lib.hid (fun v w1 (hv : (SRel.s1 p).p v w1) (h : Below ω.heap.size ω w1) => hK v w1 hv h)
                clear hK hu hc
                go_simp
                exact hk.out _ _ ⟨_, rfl, At.new (k := .u64) (m := 1) (f := fun _ => p) _ rfl⟩ (below_alloc _ _)
              · refine calmL_step rfl fun a ω κ hb hu hc hK => ?_
                have h105 : (SRel.s1 p).p (a.tmps[105]?.getD undef) ω := hc 11 105 rfl rfl
                have hk := Lib.hid (fun v w1 (hv : (SRel.bN p).p v w1) (h : Below ω.heap.size ω w1) => hK v w1 hv h)
                clear hK hu hc
                go_simp
                go_at_call 64
                refine (kDp.out ω _ h105).mono ?_
                rintro e w1 ⟨v, rfl, hv, hb1⟩
                exact hk.out _ _ hv hb1
              · refine calmL_step rfl fun a ω κ hb hu hc hK => ?_
                have h98 : (SRel.bN xn).p (a.tmps[98]?.getD undef) ω := hc 4 98 rfl rfl
                have h106 : (SRel.bN p).p (a.tmps[106]?.getD undef) ω := hc 12 106 rfl rfl
                have hk := Lib.hid (fun v w1 (hv : (SRel.bN hm.val).p v w1) (h : Below ω.heap.size ω w1) => hK v w1 hv h)
                clear hK hu hc
                go_simp
                go_at_call 63
                refine (kMl.out ω _ _ h98 h106).mono ?_
                rintro e w1 ⟨v, rfl, hv, hb1⟩
                exact hk.out _ _ hv hb1
              · refine calmL_step rfl fun a ω κ hb hu hc hK => ?_
                have h94 : a.tmps[94]?.getD undef = .slice yA ym yc := hc 0 94 rfl rfl
                have h107 : (SRel.bN hm.val).p (a.tmps[107]?.getD undef) ω := hc 13 107 rfl rfl
                have hk := Lib.hid (fun v w1 (hv : (SRel.bN (y.val * hm.val)).p v w1) (h : Below ω.heap.size ω w1) => hK v w1 hv h)
                clear hK hu hc
                go_simp
                go_at_call 68
                refine (kT.out ω _ _ (hYY.out.step hb) h107).mono ?_
                rintro e w1 ⟨v, rfl, hv, hb1⟩
                exact hk.out _ _ hv hb1
              · refine calmL_step rfl fun a ω κ hb hu hc hK => ?_
                have h5 : a.tmps[5]?.getD undef = .slice (some ⟨g5, 0, none⟩) n n := (hu 5 rfl).trans e5
                have hk := Lib.hid (fun w1 (h : Below ω.heap.size ω w1) => hK (.slice (some ⟨g5, 0, none⟩) n n) w1 rfl h)
                clear hK hu hc
                go_simp
                exact hk.out _ (Below.refl _ _)
              · refine calmL_step rfl fun a ω κ hb hu hc hK => ?_
                have h13 : a.tmps[13]?.getD undef = .int .i64 (m : Nat) := (hu 13 rfl).trans e13
                have hk := Lib.hid (fun w1 (h : Below ω.heap.size ω w1) => hK (.int .i64 (m : Nat)) w1 rfl h)
                clear hK hu hc
                go_simp
                exact hk.out _ (Below.refl _ _)
              · refine calmL_step rfl fun a ω κ hb hu hc hK => ?_
                have h109 : a.tmps[109]?.getD undef = .slice (some ⟨g5, 0, none⟩) n n := hc 15 109 rfl rfl
                have h110 : a.tmps[110]?.getD undef = .int .i64 (m : Nat) := hc 16 110 rfl rfl
                have hk := Lib.hid (fun w1 (h : Below ω.heap.size ω w1) => hK (.pointer (some ⟨g5, m, none⟩)) w1 rfl h)
                clear hK hu hc
                go_simp
                exact hk.out _ (Below.refl _ _)
              · refine calmL_step rfl fun a ω κ hb hu hc hK => ?_
                have h111 : a.tmps[111]?.getD undef = .pointer (some ⟨g5, m, none⟩) := hc 17 111 rfl rfl
                have hk := Lib.hid (fun w1 (h : Below ω.heap.size ω w1) => hK (D2 m) w1 rfl h)
                clear hK hu hc
                have c := (hCh.out ω hb).2
                go_simp
                exact hk.out _ (Below.refl _ _)
              · refine calmL_step rfl fun a ω κ hb hu hc hK => ?_
                have h108 : (SRel.bN (y.val * hm.val)).p (a.tmps[108]?.getD undef) ω := hc 14 108 rfl rfl
                have h112 : a.tmps[112]?.getD undef = D2 m := hc 18 112 rfl rfl
                have hk := Lib.hid (fun v w1 (hv : (SRel.bN (y.val * hm.val + dm.val)).p v w1) (h : Below ω.heap.size ω w1) => hK v w1 hv h)
                clear hK hu hc
                go_simp
                go_at_call 69
                refine (kP.out ω _ _ h108 (hNd.out.step hb)).mono ?_
                rintro e w1 ⟨v, rfl, hv, hb1⟩
                exact hk.out _ _ hv hb1
              · refine calmL_step rfl fun a ω κ hb hu hc hK => ?_
                have hk := Lib.hid (fun v w1 (hv : (SRel.bN fL).p v w1) (h : Below ω.heap.size ω w1) => hK v w1 hv h)
                clear hK hu hc
                go_simp
                go_at_call 56
                refine (kL.out ω).mono ?_
                rintro e w1 ⟨v, rfl, hv, hb1⟩
                exact hk.out _ _ hv hb1
              · refine calmL_step rfl fun a ω κ hb hu hc hK => ?_
                have h113 : (SRel.bN (y.val * hm.val + dm.val)).p (a.tmps[113]?.getD undef) ω := hc 19 113 rfl rfl
                have h114 : (SRel.bN fL).p (a.tmps[114]?.getD undef) ω := hc 20 114 rfl rfl
                have hk := Lib.hid (fun v w1 (hv : (SRel.bN y2.val).p v w1) (h : Below ω.heap.size ω w1) => hK v w1 hv h)
                clear hK hu hc
                go_simp
                go_at_call 67
                refine (kR.out ω _ _ h113 h114).mono ?_
                rintro e w1 ⟨v, rfl, hv, hb1⟩
                exact hk.out _ _ hv hb1
              · intro aa ω hb hu hsz hdf hc
                have h94 : aa.tmps[94]?.getD undef = .slice yA ym yc := hc 0 94 (by decide) rfl
                have h95 : aa.tmps[95]?.getD undef = .int .i64 (xn : Nat) := hc 1 95 (by decide) rfl
                have h96 : aa.tmps[96]?.getD undef = .int .u64 (xn : Nat) := hc 2 96 (by decide) rfl
                have h99 : aa.tmps[99]?.getD undef = .slice (some ad) n c := hc 5 99 (by decide) rfl
                have h100 : aa.tmps[100]?.getD undef = .int .i64 (m : Nat) := hc 6 100 (by decide) rfl
                have h101 : aa.tmps[101]?.getD undef = .pointer (some (ad.add (m * 5))) := hc 7 101 (by decide) rfl
                have h102 : aa.tmps[102]?.getD undef = .pointer (some (ad.add (m * 5))) := hc 8 102 (by decide) rfl
                have h103 : aa.tmps[103]?.getD undef = .int .i64 (p : Nat) := hc 9 103 (by decide) rfl
                have h104 : aa.tmps[104]?.getD undef = .int .u64 (p : Nat) := hc 10 104 (by decide) rfl
                have h109 : aa.tmps[109]?.getD undef = .slice (some ⟨g5, 0, none⟩) n n := hc 15 109 (by decide) rfl
                have h110 : aa.tmps[110]?.getD undef = .int .i64 (m : Nat) := hc 16 110 (by decide) rfl
                have h111 : aa.tmps[111]?.getD undef = .pointer (some ⟨g5, m, none⟩) := hc 17 111 (by decide) rfl
                have h112 : aa.tmps[112]?.getD undef = D2 m := hc 18 112 (by decide) rfl
                have h115 : (SRel.bN y2.val).p (aa.tmps[115]?.getD undef) ω := hc 21 115 (by decide) rfl
                have ha0 := hha0.out
                subst ha0
                have he := act_patchL (n := 118) 22 [false, false, false, false, false, false, false, false, false, false, false, false, false, false, false, false, false, false, false, false, false, false, false, false, false, false, false, false, false, false, false, false, false, false, false, false, false, false, false, false, false, false, false, false, false, false, false, false, false, false, false, false, false, false, false, false, false, false, false, false, false, false, false, false, false, false, false, false, false, false, false, false, false, false, false, false, false, false, false, false, false, false, false, false, false, false, false, false, false, false, false, false, false, false, true, true, true, true, true, true, true, true, true, true, true, true, true, true, true, true, true, true, true, true, true, true, false, false] rfl (by kernel_rfl) hu hsz hdf
                simp only [patch, cond_true, cond_false, Nat.reduceAdd] at he
                clear hu hsz hdf hc hha0 e0 e1 e5 e12 e13 hz0
                rw [he]
                clear he
                generalize aa.tmps[94]?.getD undef = x94 at *
                generalize aa.tmps[95]?.getD undef = x95 at *
                generalize aa.tmps[96]?.getD undef = x96 at *
                generalize aa.tmps[97]?.getD undef = x97 at *
                generalize aa.tmps[98]?.getD undef = x98 at *
                generalize aa.tmps[99]?.getD undef = x99 at *
                generalize aa.tmps[100]?.getD undef = x100 at *
                generalize aa.tmps[101]?.getD undef = x101 at *
                generalize aa.tmps[102]?.getD undef = x102 at *
                generalize aa.tmps[103]?.getD undef = x103 at *
                generalize aa.tmps[104]?.getD undef = x104 at *
                generalize aa.tmps[105]?.getD undef = x105 at *
                generalize aa.tmps[106]?.getD undef = x106 at *
                generalize aa.tmps[107]?.getD undef = x107 at *
                generalize aa.tmps[108]?.getD undef = x108 at *
                generalize aa.tmps[109]?.getD undef = x109 at *
                generalize aa.tmps[110]?.getD undef = x110 at *
                generalize aa.tmps[111]?.getD undef = x111 at *
                generalize aa.tmps[112]?.getD undef = x112 at *
                generalize aa.tmps[113]?.getD undef = x113 at *
                generalize aa.tmps[114]?.getD undef = x114 at *
                generalize aa.tmps[115]?.getD undef = x115 at *
                subst h94 h95 h96 h99 h100 h101 h102 h103 h104 h109 h110 h111 h112
                obtain ⟨uA, um, uc, rfl, -, -, -⟩ := IsN.form h115
                have hYn := Lib.hid (show IsN ω (.slice uA um uc) y2.val from h115)
                replace hD := Lib.hid (hD.out.step hb)
                replace hR := Lib.hid (row_below hR.out hb hR.out.lt)
                replace hL := Lib.hid (below_step hb hL.out (Nat.le_refl _))
                clear hCh kDx kDp kMl kT kP kL kR hYY hNd h115 hki hk0 hwx hwp hb
                go_wp2_with fail
                refine ⟨⟨m, (m : Int) - 1, y2, by go_num, rfl, by omega, hYn, hSn, hD, hR, hL⟩, ?_⟩
                simp [intOf]
        · have hkl : k < n := by omega
          have hd : decide ((k : Int) < (n : Int)) = true := by simp; omega
          have hn1 : IntKind.i64.wrap ((n : Int) - 1) = ((n - 1 : Nat) : Int) := by rw [IntKind.wrap_i64]; omega
          go_upto_region 11 with (fail)
          go_loopw [9] (fun iv wr => ∃ (i : Nat) (D : Nat → Value), iv = .int .i64 (i : Nat) ∧ k ≤ i + 1 ∧ i < n ∧ Hid (DsAt wr g5 n D (fun j => if i < j then tbN X Y k j else tbN X Y (k - 1) j)) ∧ Hid (Row wr w.heap.size 4) ∧ Hid (Below w.heap.size w wr)) (fun iv _ => (intOf iv).toNat + 1 - k)
          case atStart => exact ⟨n - 1, D2, rfl, by omega, by omega, Lib.hid (hD.out.congr fun j hj => by rw [if_neg (by omega)]), hR, hL⟩
          case round =>
            clear hD hR hL hd
            obtain ⟨i, D3, rfl, hi1, hin, hD, hR, hL⟩ := hrel
            by_cases hik : i < k
            · have hd : decide ((i : Int) ≥ (k : Int)) = false := by simp; omega
              have hd2 : ¬ (k : Int) ≤ (i : Int) := by omega
              have hii : IntKind.i64.wrap ((k : Int) + 1) = (k : Int) + 1 := by rw [IntKind.wrap_i64]; omega
              replace hD := Lib.hid (hD.out.congr (T' := tbN X Y (k + 1 - 1)) fun j hj => by
                rw [Nat.add_sub_cancel]
                by_cases e : i < j
                · rw [if_pos e]
                · rw [if_neg e, ← tbN_low (X := X) (Y := Y) (k := k - 1) (j := j) (by omega), Nat.sub_add_cancel hk1])
              go_wp2_with fail
              refine ⟨⟨k + 1, _, by go_num, by omega, by omega, hD, hR, hL⟩, ?_⟩
              simp [intOf]; omega
            · have hd : decide ((i : Int) ≥ (k : Int)) = true := by simp; omega
              have hd2 : (k : Int) ≤ (i : Int) := by omega
              have hS := Lib.hid (hSh.out.step hL.out)
              obtain ⟨ad, hA, hal, hac⟩ := hS.out.at_ i hin
              obtain ⟨ad2, hA2, -, hac2⟩ := hS.out.at_ (i - k) (by omega)
              subst hA
              cases hA2
              obtain ⟨j, hj⟩ : ∃ j, i - k = j := ⟨_, rfl⟩
              rw [hj] at hac2
              have c0 := (hac 0 (by omega)).trans (shA_0 _ _)
              have c1 := (hac2 0 (by omega)).trans (shA_0 _ _)
              have hok0 := hnh.out.2.2.1 i hin
              have hok1 := hnh.out.2.2.1 j (by omega)
              obtain ⟨p, hp⟩ : ∃ p : Nat, X i = (p : Int) := ⟨(X i).toNat, by have := hok0.lo; omega⟩
              obtain ⟨q, hq⟩ : ∃ q : Nat, X j = (q : Int) := ⟨(X j).toNat, by have := hok1.lo; omega⟩
              have hp8 : p ≤ 255 := by have := hok0.hi; omega
              have hq8 : q ≤ 255 := by have := hok1.hi; omega
              rw [hp] at c0
              rw [hq] at c1
              have hXp : XL X i = fi fL p := by unfold XL; rw [hp]; rfl
              have hXq : XL X j = fi fL q := by unfold XL; rw [hq]; rfl
              have h2L : 255 < fL := by decide +kernel
              have kDp := Lib.hid (fun V v (h : (SRel.s1 p).p v V) => digitsOne V (by omega) h)
              have kDq := Lib.hid (fun V v (h : (SRel.s1 q).p v V) => digitsOne V (by omega) h)
              have kMl := Lib.hid (fun V u v (h1 : IsN V u p) (h2 : IsN V v q) => ref_modLess u v p q V h1 h2 (Nat.lt_of_le_of_lt hp8 h2L) (Nat.lt_of_le_of_lt hq8 h2L))
              rw [← hXp, ← hXq] at kMl
              obtain ⟨dx, hdx⟩ : ∃ d, XL X i - XL X j = d := ⟨_, rfl⟩
              rw [hdx] at kMl
              have hdh := Lib.hid hdx
              have hjh := Lib.hid hj
              have hC := Lib.hid (fun V (h : Below wr.heap.size wr V) => And.intro (((hS.out.step h).at_ i hin)) ((hS.out.step h).at_ j (by omega)))
              have hC2 : ∀ V, Below wr.heap.size wr V → V.cell? (ad.add (i * 5)) = some (.int .i64 (p : Nat)) ∧ V.cell? (ad.add (j * 5)) = some (.int .i64 (q : Nat)) := fun V h => by
                obtain ⟨⟨a1, e1, -, k1⟩, a2, e2, -, k2⟩ := hC.out V h
                cases e1; cases e2
                have m1 := (k1 0 (by omega)).trans (shA_0 _ _)
                have m2 := (k2 0 (by omega)).trans (shA_0 _ _)
                rw [hp] at m1
                rw [hq] at m2
                rw [addz] at m1 m2
                exact ⟨m1, m2⟩
              have hCh := Lib.hid hC2
              have hki : (i : Int) < (n : Int) := by omega
              have hk0 : (0 : Int) ≤ (i : Int) := by omega
              have hkj : (j : Int) < (n : Int) := by omega
              have hkj0 : (0 : Int) ≤ (j : Int) := by omega
              have hwj : IntKind.i64.wrap ((i : Int) - (k : Int)) = (j : Int) := by rw [IntKind.wrap_i64]; omega
              have hwp : IntKind.u64.wrap (p : Int) = (p : Int) := by rw [IntKind.wrap_u64]; omega
              have hwq : IntKind.u64.wrap (q : Int) = (q : Int) := by rw [IntKind.wrap_u64]; omega
              clear hac hac2 c0 c1 hok0 hok1 hp hq hp8 hq8 hXp hXq h2L hdx hj hC hC2 hal hS
              go_upto_region 13 with (fail)
              generalize ha0 : Act.mk _ _ = a0
              have e0 : a0.tmps[0]?.getD undef = .slice (some ad) n c := by rw [← ha0]; rfl
              have e8 : a0.tmps[8]?.getD undef = .int .i64 (k : Nat) := by rw [← ha0]; rfl
              have e9 : a0.tmps[9]?.getD undef = .int .i64 (i : Nat) := by rw [← ha0]; rfl
              have hz0 : a0.tmps.size = 118 := by rw [← ha0]; rfl
              have hha0 := Lib.hid ha0
              clear ha0
              refine wp_region_calm (fun jx_ => match jx_ with | 0 => SRel.is (.slice (some ad) n c) | 1 => SRel.is (.int .i64 (i : Nat)) | 2 => SRel.is (.pointer (some (ad.add (i * 5)))) | 3 => SRel.is (.pointer (some (ad.add (i * 5)))) | 4 => SRel.is (.int .i64 (p : Nat)) | 5 => SRel.is (.int .u64 (p : Nat)) | 6 => SRel.s1 p | 7 => SRel.bN p | 8 => SRel.is (.slice (some ad) n c) | 9 => SRel.is (.int .i64 (i : Nat)) | 10 => SRel.is (.int .i64 (k : Nat)) | 11 => SRel.is (.int .i64 (j : Nat)) | 12 => SRel.is (.pointer (some (ad.add (j * 5)))) | 13 => SRel.is (.pointer (some (ad.add (j * 5)))) | 14 => SRel.is (.int .i64 (q : Nat)) | 15 => SRel.is (.int .u64 (q : Nat)) | 16 => SRel.s1 q | 17 => SRel.bN q | 18 => SRel.bN dx.val | 19 => SRel.bN dx.val | _ => SRel.any) (by kernel_rfl) (by kernel_rfl) (by kernel_rfl) (slotsOk_of hz0 (by kernel_rfl)) ⟨?_, ?_, ?_, ?_, ?_, ?_, ?_, ?_, ?_, ?_, ?_, ?_, ?_, ?_, ?_, ?_, ?_, ?_, ?_, ?_, trivial⟩ ?_
              · refine calm_step rfl fun a ω κ hb hu hc hK => ?_
                have h0 : a.tmps[0]?.getD undef = .slice (some ad) n c := (hu 0 rfl).trans e0
                have hk := Lib.hid (fun w1 (h : Below ω.heap.size ω w1) => hK (.slice (some ad) n c) w1 rfl h)
                clear hK hu hc
                go_simp
                exact hk.out _ (Below.refl _ _)
              · refine calm_step rfl fun a ω κ hb hu hc hK => ?_
                have h9 : a.tmps[9]?.getD undef = .int .i64 (i : Nat) := (hu 9 rfl).trans e9
                have hk := Lib.hid (fun w1 (h : Below ω.heap.size ω w1) => hK (.int .i64 (i : Nat)) w1 rfl h)
                clear hK hu hc
                go_simp
                exact hk.out _ (Below.refl _ _)
              · refine calm_step rfl fun a ω κ hb hu hc hK => ?_
                have h45 : a.tmps[45]?.getD undef = .slice (some ad) n c := hc 0 45 rfl rfl
                have h46 : a.tmps[46]?.getD undef = .int .i64 (i : Nat) := hc 1 46 rfl rfl
                have hk := Lib.hid (fun w1 (h : Below ω.heap.size ω w1) => hK (.pointer (some (ad.add (i * 5)))) w1 rfl h)
                clear hK hu hc
                go_simp
                exact hk.out _ (Below.refl _ _)
              · refine calm_step rfl fun a ω κ hb hu hc hK => ?_
                have h47 : a.tmps[47]?.getD undef = .pointer (some (ad.add (i * 5))) := hc 2 47 rfl rfl
                have hk := Lib.hid (fun w1 (h : Below ω.heap.size ω w1) => hK (.pointer (some (ad.add (i * 5)))) w1 rfl h)
                clear hK hu hc
                go_simp
                exact hk.out _ (Below.refl _ _)
              · refine calm_step rfl fun a ω κ hb hu hc hK => ?_
                have h48 : a.tmps[48]?.getD undef = .pointer (some (ad.add (i * 5))) := hc 3 48 rfl rfl
                have hk := Lib.hid (fun w1 (h : Below ω.heap.size ω w1) => hK (.int .i64 (p : Nat)) w1 rfl h)
                clear hK hu hc
                have c := (hCh.out ω hb).1
                go_simp
                exact hk.out _ (Below.refl _ _)
              · refine calm_step rfl fun a ω κ hb hu hc hK => ?_
                have h49 : a.tmps[49]?.getD undef = .int .i64 (p : Nat) := hc 4 49 rfl rfl
                have hk := Lib.hid (fun w1 (h : Below ω.heap.size ω w1) => hK (.int .u64 (p : Nat)) w1 rfl h)
                clear hK hu hc
                go_simp
                exact hk.out _ (Below.refl _ _)
              · refine calm_step rfl fun a ω κ hb hu hc hK => ?_
                have h50 : a.tmps[50]?.getD undef = .int .u64 (p : Nat) := hc 5 50 rfl rfl
                have hk := Lib.hid (fun v w1 (hv : (SRel.s1 p).p v w1) (h : Below ω.heap.size ω w1) => hK v w1 hv h)
                clear hK hu hc
                go_simp
                exact hk.out _ _ ⟨_, rfl, At.new (k := .u64) (m := 1) (f := fun _ => p) _ rfl⟩ (below_alloc _ _)
              · refine calm_step rfl fun a ω κ hb hu hc hK => ?_
                have h51 : (SRel.s1 p).p (a.tmps[51]?.getD undef) ω := hc 6 51 rfl rfl
                have hk := Lib.hid (fun v w1 (hv : (SRel.bN p).p v w1) (h : Below ω.heap.size ω w1) => hK v w1 hv h)
                clear hK hu hc
                clear hki hk0 hkj hkj0
                go_simp
                go_at_call 64
                refine (kDp.out ω _ h51).mono ?_
                rintro e w1 ⟨v, rfl, hv, hb1⟩
                exact hk.out _ _ hv hb1
              · refine calm_step rfl fun a ω κ hb hu hc hK => ?_
                have h0 : a.tmps[0]?.getD undef = .slice (some ad) n c := (hu 0 rfl).trans e0
                have hk := Lib.hid (fun w1 (h : Below ω.heap.size ω w1) => hK (.slice (some ad) n c) w1 rfl h)
                clear hK hu hc
                go_simp
                exact hk.out _ (Below.refl _ _)
              · refine calm_step rfl fun a ω κ hb hu hc hK => ?_
                have h9 : a.tmps[9]?.getD undef = .int .i64 (i : Nat) := (hu 9 rfl).trans e9
                have hk := Lib.hid (fun w1 (h : Below ω.heap.size ω w1) => hK (.int .i64 (i : Nat)) w1 rfl h)
                clear hK hu hc
                go_simp
                exact hk.out _ (Below.refl _ _)
              · refine calm_step rfl fun a ω κ hb hu hc hK => ?_
                have h8 : a.tmps[8]?.getD undef = .int .i64 (k : Nat) := (hu 8 rfl).trans e8
                have hk := Lib.hid (fun w1 (h : Below ω.heap.size ω w1) => hK (.int .i64 (k : Nat)) w1 rfl h)
                clear hK hu hc
                go_simp
                exact hk.out _ (Below.refl _ _)
              · refine calm_step rfl fun a ω κ hb hu hc hK => ?_
                have h54 : a.tmps[54]?.getD undef = .int .i64 (i : Nat) := hc 9 54 rfl rfl
                have h55 : a.tmps[55]?.getD undef = .int .i64 (k : Nat) := hc 10 55 rfl rfl
                have hk := Lib.hid (fun w1 (h : Below ω.heap.size ω w1) => hK (.int .i64 (j : Nat)) w1 rfl h)
                clear hK hu hc
                go_simp
                exact hk.out _ (Below.refl _ _)
              · refine calm_step rfl fun a ω κ hb hu hc hK => ?_
                have h53 : a.tmps[53]?.getD undef = .slice (some ad) n c := hc 8 53 rfl rfl
                have h56 : a.tmps[56]?.getD undef = .int .i64 (j : Nat) := hc 11 56 rfl rfl
                have hk := Lib.hid (fun w1 (h : Below ω.heap.size ω w1) => hK (.pointer (some (ad.add (j * 5)))) w1 rfl h)
                clear hK hu hc
                go_simp
                exact hk.out _ (Below.refl _ _)
              · refine calm_step rfl fun a ω κ hb hu hc hK => ?_
                have h57 : a.tmps[57]?.getD undef = .pointer (some (ad.add (j * 5))) := hc 12 57 rfl rfl
                have hk := Lib.hid (fun w1 (h : Below ω.heap.size ω w1) => hK (.pointer (some (ad.add (j * 5)))) w1 rfl h)
                clear hK hu hc
                go_simp
                exact hk.out _ (Below.refl _ _)
              · refine calm_step rfl fun a ω κ hb hu hc hK => ?_
                have h58 : a.tmps[58]?.getD undef = .pointer (some (ad.add (j * 5))) := hc 13 58 rfl rfl
                have hk := Lib.hid (fun w1 (h : Below ω.heap.size ω w1) => hK (.int .i64 (q : Nat)) w1 rfl h)
                clear hK hu hc
                have c := (hCh.out ω hb).2
                go_simp
                exact hk.out _ (Below.refl _ _)
              · refine calm_step rfl fun a ω κ hb hu hc hK => ?_
                have h59 : a.tmps[59]?.getD undef = .int .i64 (q : Nat) := hc 14 59 rfl rfl
                have hk := Lib.hid (fun w1 (h : Below ω.heap.size ω w1) => hK (.int .u64 (q : Nat)) w1 rfl h)
                clear hK hu hc
                go_simp
                exact hk.out _ (Below.refl _ _)
              · refine calm_step rfl fun a ω κ hb hu hc hK => ?_
                have h60 : a.tmps[60]?.getD undef = .int .u64 (q : Nat) := hc 15 60 rfl rfl
                have hk := Lib.hid (fun v w1 (hv : (SRel.s1 q).p v w1) (h : Below ω.heap.size ω w1) => hK v w1 hv h)
                clear hK hu hc
                go_simp
                exact hk.out _ _ ⟨_, rfl, At.new (k := .u64) (m := 1) (f := fun _ => q) _ rfl⟩ (below_alloc _ _)
              · refine calm_step rfl fun a ω κ hb hu hc hK => ?_
                have h61 : (SRel.s1 q).p (a.tmps[61]?.getD undef) ω := hc 16 61 rfl rfl
                have hk := Lib.hid (fun v w1 (hv : (SRel.bN q).p v w1) (h : Below ω.heap.size ω w1) => hK v w1 hv h)
                clear hK hu hc
                clear hki hk0 hkj hkj0
                go_simp
                go_at_call 64
                refine (kDq.out ω _ h61).mono ?_
                rintro e w1 ⟨v, rfl, hv, hb1⟩
                exact hk.out _ _ hv hb1
              · refine calm_step rfl fun a ω κ hb hu hc hK => ?_
                have h52 : (SRel.bN p).p (a.tmps[52]?.getD undef) ω := hc 7 52 rfl rfl
                have h62 : (SRel.bN q).p (a.tmps[62]?.getD undef) ω := hc 17 62 rfl rfl
                have hk := Lib.hid (fun v w1 (hv : (SRel.bN dx.val).p v w1) (h : Below ω.heap.size ω w1) => hK v w1 hv h)
                clear hK hu hc
                go_simp
                go_at_call 63
                refine (kMl.out ω _ _ h52 h62).mono ?_
                rintro e w1 ⟨v, rfl, hv, hb1⟩
                exact hk.out _ _ hv hb1
              · refine calm_step rfl fun a ω κ hb hu hc hK => ?_
                have h63 : (SRel.bN dx.val).p (a.tmps[63]?.getD undef) ω := hc 18 63 rfl rfl
                have hk := Lib.hid (fun v w1 (hv : (SRel.bN dx.val).p v w1) (h : Below ω.heap.size ω w1) => hK v w1 hv h)
                clear hK hu hc
                go_simp
                exact hk.out _ _ h63 (Below.refl _ _)
              · intro a1 w1 hb1 hu1 hsz1 hdf1 hc1
                have ha0 := hha0.out
                subst ha0
                have he := act_patch (n := 118) [false, false, false, false, false, false, false, false, false, false, true, false, false, false, false, false, false, false, false, false, false, false, false, false, false, false, false, false, false, false, false, false, false, false, false, false, false, false, false, false, false, false, false, false, false, true, true, true, true, true, true, true, true, true, true, true, true, true, true, true, true, true, true, true, false, false, false, false, false, false, false, false, false, false, false, false, false, false, false, false, false, false, false, false, false, false, false, false, false, false, false, false, false, false, false, false, false, false, false, false, false, false, false, false, false, false, false, false, false, false, false, false, false, false, false, false, false, false] rfl (by kernel_rfl) hu1 hsz1 hdf1
                simp only [patch, cond_true, cond_false, Nat.reduceAdd] at he
                replace hD := Lib.hid (hD.out.step hb1)
                replace hR := Lib.hid (row_below hR.out hb1 hR.out.lt)
                replace hL := Lib.hid (below_step hb1 hL.out (Nat.le_refl _))
                have h10 : (SRel.bN dx.val).p (a1.tmps[10]?.getD undef) w1 := hc1 19 10 rfl
                clear hb1 hu1 hsz1 hdf1 hc1 hz0 hha0 e0 e8 e9
                rw [he]
                clear he
                generalize a1.tmps[10]?.getD undef = x10 at *
                generalize a1.tmps[45]?.getD undef = x45 at *
                generalize a1.tmps[46]?.getD undef = x46 at *
                generalize a1.tmps[47]?.getD undef = x47 at *
                generalize a1.tmps[48]?.getD undef = x48 at *
                generalize a1.tmps[49]?.getD undef = x49 at *
                generalize a1.tmps[50]?.getD undef = x50 at *
                generalize a1.tmps[51]?.getD undef = x51 at *
                generalize a1.tmps[52]?.getD undef = x52 at *
                generalize a1.tmps[53]?.getD undef = x53 at *
                generalize a1.tmps[54]?.getD undef = x54 at *
                generalize a1.tmps[55]?.getD undef = x55 at *
                generalize a1.tmps[56]?.getD undef = x56 at *
                generalize a1.tmps[57]?.getD undef = x57 at *
                generalize a1.tmps[58]?.getD undef = x58 at *
                generalize a1.tmps[59]?.getD undef = x59 at *
                generalize a1.tmps[60]?.getD undef = x60 at *
                generalize a1.tmps[61]?.getD undef = x61 at *
                generalize a1.tmps[62]?.getD undef = x62 at *
                generalize a1.tmps[63]?.getD undef = x63 at *
                clear kMl hCh kDp kDq hki hk0 hkj hkj0 hwj hwp hwq
                obtain ⟨xA, xm, xc, rfl, -, -, -⟩ := IsN.form h10
                have hX := Lib.hid (show IsN w1 (.slice xA xm xc) dx.val from h10)
                have hpq := fL_pos
                have hp0 : 0 < fL := Nat.lt_trans (by omega) hpq
                have hl0 := fL_lt'
                have kL := Lib.hid (fun V => ref_Prime V)
                have kM := Lib.hid (fun V u v (h1 : IsN V u fL) (h2 : IsV V v 2) => minusN V (h1.toV (lt_big hl0 (by omega))) h2 (Nat.le_of_lt (Nat.lt_trans (by omega) hpq)))
                have kPw := Lib.hid (fun V u v x (h1 : IsN V u dx.val) (h2 : IsN V v (fL - 2)) (h3 : IsN V x fL) => show Calls Try.prog 65 #[u, v, x] V (RetN (invL dx.val) V) from powerN V h1 (Nat.lt_trans dx.isLt hl0) (by omega) h2 (Nat.lt_of_le_of_lt (Nat.sub_le _ _) (lt_big hl0 (by omega))) (h3.toV (lt_big hl0 (by omega))) hp0 hl0 (by omega))
                clear h10
                go_wp2_with fail
                refine (kL.out _).mono ?_
                rintro e w2 ⟨u, rfl, hu, hb⟩
                obtain ⟨lA, lm, lc, rfl, -, -, -⟩ := hu.form
                have hU := Lib.hid hu
                replace hD := Lib.hid (hD.out.step hb)
                replace hR := Lib.hid (row_below hR.out hb hR.out.lt)
                replace hL := Lib.hid (below_step hb hL.out (Nat.le_refl _))
                replace hX := Lib.hid (hX.out.step hb)
                clear hu hb
                dsimp only
                go_wp2_with fail
                refine (kM.out _ _ _ (hU.out.step (below_alloc _ _)) (IsV.lit _ _ (by omega))).mono ?_
                rintro e w3 ⟨u, rfl, hu, hb⟩
                have hu2 := hu.toN
                obtain ⟨tA, tm, tc, rfl, -, -, -⟩ := hu2.form
                have hTw := Lib.hid hu2
                have hb := (below_alloc _ _).trans (hb.mono (by simp))
                replace hD := Lib.hid (hD.out.step hb)
                replace hR := Lib.hid (row_below hR.out hb hR.out.lt)
                replace hL := Lib.hid (below_step hb hL.out (Nat.le_refl _))
                replace hX := Lib.hid (hX.out.step hb)
                clear hu hu2 hb hU kM
                dsimp only
                go_wp2_with fail
                refine (kL.out _).mono ?_
                rintro e w4 ⟨u, rfl, hu, hb⟩
                obtain ⟨mA, mm, mc, rfl, -, -, -⟩ := hu.form
                have hU := Lib.hid hu
                replace hD := Lib.hid (hD.out.step hb)
                replace hR := Lib.hid (row_below hR.out hb hR.out.lt)
                replace hL := Lib.hid (below_step hb hL.out (Nat.le_refl _))
                replace hX := Lib.hid (hX.out.step hb)
                replace hTw := Lib.hid (hTw.out.step hb)
                clear hu hb
                dsimp only
                go_wp2_with fail
                refine (kPw.out _ _ _ _ hX.out hTw.out hU.out).mono ?_
                rintro e w5 ⟨u, rfl, hu, hb⟩
                obtain ⟨vA, vm, vc, rfl, -, -, -⟩ := hu.form
                have hV := Lib.hid hu
                replace hD := Lib.hid (hD.out.step hb)
                replace hR := Lib.hid (row_below hR.out hb hR.out.lt)
                replace hL := Lib.hid (below_step hb hL.out (Nat.le_refl _))
                clear hu hb kPw hTw hU hX
                obtain ⟨m, hm⟩ : ∃ m, i - 1 = m := ⟨_, rfl⟩
                have hT := tbN_step (X := X) (Y := Y) (k := k - 1) hAp.out hin (by omega)
                rw [Nat.sub_add_cancel hk1, hjh.out, hdh.out, hm] at hT
                have hn0 := hD.out.num i hin
                have hn2 := hD.out.num m (by omega)
                rw [if_neg (by omega)] at hn0 hn2
                have kM2 := Lib.hid (fun V u v (h1 : IsN V u (tbN X Y (k - 1) i)) (h2 : IsN V v (tbN X Y (k - 1) m)) => ref_modLess u v _ _ V h1 h2 (tbN_lt _ _ _ _) (tbN_lt _ _ _ _))
                obtain ⟨dv, hdv⟩ : ∃ d, fi fL (tbN X Y (k - 1) i) - fi fL (tbN X Y (k - 1) m) = d := ⟨_, rfl⟩
                rw [hdv] at kM2 hT
                have hdl : dv.val < 2 ^ 256 := Nat.lt_trans dv.isLt hl0
                have hvl : invL dx.val < 2 ^ 256 := invL_lt _
                obtain ⟨iv, hiv⟩ : ∃ v, invL dx.val = v := ⟨_, rfl⟩
                rw [hiv] at hV hT hvl
                have kT := Lib.hid (fun V u v (h1 : IsN V u dv.val) (h2 : IsN V v iv) => timesN V (h1.toV (lt_big hdl (by omega))) (h2.toV (lt_big hvl (by omega))))
                have kR := Lib.hid (fun V u v (h1 : IsN V u (dv.val * iv)) (h2 : IsN V v fL) => restN V h1 (k := 256 + 256) (mul_wideS hdl hvl rfl) (by omega) (h2.toV (lt_big hl0 (by omega))) hp0 (mul_big (m := 17) (n := 256) (by omega) hl0 (by omega)))
                rw [hT] at kR
                have hN0 := Lib.hid hn0
                have hN2 := Lib.hid hn2
                have hC := Lib.hid (fun V (h : Below w5.heap.size w5 V) => And.intro ((hD.out.step h).cell hin) ((hD.out.step h).cell (show m < n by omega)))
                have hki : (i : Int) < (n : Int) := by omega
                have hk0 : (0 : Int) ≤ (i : Int) := by omega
                have hkm : (m : Int) < (n : Int) := by omega
                have hkm0 : (0 : Int) ≤ (m : Int) := by omega
                have hwm : IntKind.i64.wrap ((i : Int) - 1) = (m : Int) := by rw [IntKind.wrap_i64]; omega
                have hmh := Lib.hid hm
                clear hT hdv hiv hdl hvl hn0 hn2 hp0 hpq hl0 hdh hjh hm
                go_upto_region 15 with (fail)
                generalize ha0 : Act.mk _ _ = a0
                have e5 : a0.tmps[5]?.getD undef = .slice (some ⟨g5, 0, none⟩) n n := by rw [← ha0]; rfl
                have e9 : a0.tmps[9]?.getD undef = .int .i64 (i : Nat) := by rw [← ha0]; rfl
                have e11 : a0.tmps[11]?.getD undef = .slice vA vm vc := by rw [← ha0]; rfl
                have hz0 : a0.tmps.size = 118 := by rw [← ha0]; rfl
                have hha0 := Lib.hid ha0
                clear ha0
                refine wp_region_tailL (fun jx_ => match jx_ with | 0 => SRel.is (.slice (some ⟨g5, 0, none⟩) n n) | 1 => SRel.is (.int .i64 (i : Nat)) | 2 => SRel.is (.slice (some ⟨g5, 0, none⟩) n n) | 3 => SRel.is (.int .i64 (i : Nat)) | 4 => SRel.is (.pointer (some ⟨g5, i, none⟩)) | 5 => SRel.is (D3 i) | 6 => SRel.is (.slice (some ⟨g5, 0, none⟩) n n) | 7 => SRel.is (.int .i64 (i : Nat)) | 8 => SRel.is (.int .i64 (m : Nat)) | 9 => SRel.is (.pointer (some ⟨g5, m, none⟩)) | 10 => SRel.is (D3 m) | 11 => SRel.bN dv.val | 12 => SRel.is (.slice vA vm vc) | 13 => SRel.bN (dv.val * iv) | 14 => SRel.bN fL | 15 => SRel.bN (tbN X Y k i) | 16 => SRel.is (.pointer (some ⟨g5, i, none⟩)) | 17 => SRel.any | _ => SRel.any) 17 (by kernel_rfl) (by kernel_rfl) (by kernel_rfl) (slotsOk_of hz0 (by kernel_rfl)) (by kernel_rfl) (of_decide_eq_true (by kernel_rfl)) ⟨?_, ?_, ?_, ?_, ?_, ?_, ?_, ?_, ?_, ?_, ?_, ?_, ?_, ?_, ?_, ?_, ?_, trivial⟩ ?_
                · refine calmL_step rfl fun a ω κ hb hu hc hK => ?_
                  have h5 : a.tmps[5]?.getD undef = .slice (some ⟨g5, 0, none⟩) n n := (hu 5 rfl).trans e5
                  have hk := Lib.hid (fun w1 (h : Below ω.heap.size ω w1) => hK (.slice (some ⟨g5, 0, none⟩) n n) w1 rfl h)
                  clear hK hu hc
                  go_simp
                  exact hk.out _ (Below.refl _ _)
                · refine calmL_step rfl fun a ω κ hb hu hc hK => ?_
                  have h9 : a.tmps[9]?.getD undef = .int .i64 (i : Nat) := (hu 9 rfl).trans e9
                  have hk := Lib.hid (fun w1 (h : Below ω.heap.size ω w1) => hK (.int .i64 (i : Nat)) w1 rfl h)
                  clear hK hu hc
                  go_simp
                  exact hk.out _ (Below.refl _ _)
                · refine calmL_step rfl fun a ω κ hb hu hc hK => ?_
                  have h5 : a.tmps[5]?.getD undef = .slice (some ⟨g5, 0, none⟩) n n := (hu 5 rfl).trans e5
                  have hk := Lib.hid (fun w1 (h : Below ω.heap.size ω w1) => hK (.slice (some ⟨g5, 0, none⟩) n n) w1 rfl h)
                  clear hK hu hc
                  go_simp
                  exact hk.out _ (Below.refl _ _)
                · refine calmL_step rfl fun a ω κ hb hu hc hK => ?_
                  have h9 : a.tmps[9]?.getD undef = .int .i64 (i : Nat) := (hu 9 rfl).trans e9
                  have hk := Lib.hid (fun w1 (h : Below ω.heap.size ω w1) => hK (.int .i64 (i : Nat)) w1 rfl h)
                  clear hK hu hc
                  go_simp
                  exact hk.out _ (Below.refl _ _)
                · refine calmL_step rfl fun a ω κ hb hu hc hK => ?_
                  have h72 : a.tmps[72]?.getD undef = .slice (some ⟨g5, 0, none⟩) n n := hc 2 72 rfl rfl
                  have h73 : a.tmps[73]?.getD undef = .int .i64 (i : Nat) := hc 3 73 rfl rfl
                  have hk := Lib.hid (fun w1 (h : Below ω.heap.size ω w1) => hK (.pointer (some ⟨g5, i, none⟩)) w1 rfl h)
                  clear hK hu hc
                  go_simp
                  exact hk.out _ (Below.refl _ _)
                · refine calmL_step rfl fun a ω κ hb hu hc hK => ?_
                  have h74 : a.tmps[74]?.getD undef = .pointer (some ⟨g5, i, none⟩) := hc 4 74 rfl rfl
                  have hk := Lib.hid (fun w1 (h : Below ω.heap.size ω w1) => hK (D3 i) w1 rfl h)
                  clear hK hu hc
                  have c := (hC.out ω hb).1
                  go_simp
                  exact hk.out _ (Below.refl _ _)
                · refine calmL_step rfl fun a ω κ hb hu hc hK => ?_
                  have h5 : a.tmps[5]?.getD undef = .slice (some ⟨g5, 0, none⟩) n n := (hu 5 rfl).trans e5
                  have hk := Lib.hid (fun w1 (h : Below ω.heap.size ω w1) => hK (.slice (some ⟨g5, 0, none⟩) n n) w1 rfl h)
                  clear hK hu hc
                  go_simp
                  exact hk.out _ (Below.refl _ _)
                · refine calmL_step rfl fun a ω κ hb hu hc hK => ?_
                  have h9 : a.tmps[9]?.getD undef = .int .i64 (i : Nat) := (hu 9 rfl).trans e9
                  have hk := Lib.hid (fun w1 (h : Below ω.heap.size ω w1) => hK (.int .i64 (i : Nat)) w1 rfl h)
                  clear hK hu hc
                  go_simp
                  exact hk.out _ (Below.refl _ _)
                · refine calmL_step rfl fun a ω κ hb hu hc hK => ?_
                  have h77 : a.tmps[77]?.getD undef = .int .i64 (i : Nat) := hc 7 77 rfl rfl
                  have hk := Lib.hid (fun w1 (h : Below ω.heap.size ω w1) => hK (.int .i64 (m : Nat)) w1 rfl h)
                  clear hK hu hc
                  go_simp
                  exact hk.out _ (Below.refl _ _)
                · refine calmL_step rfl fun a ω κ hb hu hc hK => ?_
                  have h76 : a.tmps[76]?.getD undef = .slice (some ⟨g5, 0, none⟩) n n := hc 6 76 rfl rfl
                  have h78 : a.tmps[78]?.getD undef = .int .i64 (m : Nat) := hc 8 78 rfl rfl
                  have hk := Lib.hid (fun w1 (h : Below ω.heap.size ω w1) => hK (.pointer (some ⟨g5, m, none⟩)) w1 rfl h)
                  clear hK hu hc
                  go_simp
                  exact hk.out _ (Below.refl _ _)
                · refine calmL_step rfl fun a ω κ hb hu hc hK => ?_
                  have h79 : a.tmps[79]?.getD undef = .pointer (some ⟨g5, m, none⟩) := hc 9 79 rfl rfl
                  have hk := Lib.hid (fun w1 (h : Below ω.heap.size ω w1) => hK (D3 m) w1 rfl h)
                  clear hK hu hc
                  have c := (hC.out ω hb).2
                  go_simp
                  exact hk.out _ (Below.refl _ _)
                · refine calmL_step rfl fun a ω κ hb hu hc hK => ?_
                  have h75 : a.tmps[75]?.getD undef = D3 i := hc 5 75 rfl rfl
                  have h80 : a.tmps[80]?.getD undef = D3 m := hc 10 80 rfl rfl
                  have hk := Lib.hid (fun v w1 (hv : (SRel.bN dv.val).p v w1) (h : Below ω.heap.size ω w1) => hK v w1 hv h)
                  clear hK hu hc
                  go_simp
                  go_at_call 63
                  refine (kM2.out ω _ _ (hN0.out.step hb) (hN2.out.step hb)).mono ?_
                  rintro e w1 ⟨v, rfl, hv, hb1⟩
                  exact hk.out _ _ hv hb1
                · refine calmL_step rfl fun a ω κ hb hu hc hK => ?_
                  have h11 : a.tmps[11]?.getD undef = .slice vA vm vc := (hu 11 rfl).trans e11
                  have hk := Lib.hid (fun w1 (h : Below ω.heap.size ω w1) => hK (.slice vA vm vc) w1 rfl h)
                  clear hK hu hc
                  go_simp
                  exact hk.out _ (Below.refl _ _)
                · refine calmL_step rfl fun a ω κ hb hu hc hK => ?_
                  have h81 : (SRel.bN dv.val).p (a.tmps[81]?.getD undef) ω := hc 11 81 rfl rfl
                  have h82 : a.tmps[82]?.getD undef = .slice vA vm vc := hc 12 82 rfl rfl
                  have hk := Lib.hid (fun v w1 (hv : (SRel.bN (dv.val * iv)).p v w1) (h : Below ω.heap.size ω w1) => hK v w1 hv h)
                  clear hK hu hc
                  go_simp
                  go_at_call 68
                  refine (kT.out ω _ _ h81 (hV.out.step hb)).mono ?_
                  rintro e w1 ⟨v, rfl, hv, hb1⟩
                  exact hk.out _ _ hv hb1
                · refine calmL_step rfl fun a ω κ hb hu hc hK => ?_
                  have hk := Lib.hid (fun v w1 (hv : (SRel.bN fL).p v w1) (h : Below ω.heap.size ω w1) => hK v w1 hv h)
                  clear hK hu hc
                  go_simp
                  go_at_call 56
                  refine (kL.out ω).mono ?_
                  rintro e w1 ⟨v, rfl, hv, hb1⟩
                  exact hk.out _ _ hv hb1
                · refine calmL_step rfl fun a ω κ hb hu hc hK => ?_
                  have h83 : (SRel.bN (dv.val * iv)).p (a.tmps[83]?.getD undef) ω := hc 13 83 rfl rfl
                  have h84 : (SRel.bN fL).p (a.tmps[84]?.getD undef) ω := hc 14 84 rfl rfl
                  have hk := Lib.hid (fun v w1 (hv : (SRel.bN (tbN X Y k i)).p v w1) (h : Below ω.heap.size ω w1) => hK v w1 hv h)
                  clear hK hu hc
                  go_simp
                  go_at_call 67
                  refine (kR.out ω _ _ h83 h84).mono ?_
                  rintro e w1 ⟨v, rfl, hv, hb1⟩
                  exact hk.out _ _ hv hb1
                · refine calmL_step rfl fun a ω κ hb hu hc hK => ?_
                  have h70 : a.tmps[70]?.getD undef = .slice (some ⟨g5, 0, none⟩) n n := hc 0 70 rfl rfl
                  have h71 : a.tmps[71]?.getD undef = .int .i64 (i : Nat) := hc 1 71 rfl rfl
                  have hk := Lib.hid (fun w1 (h : Below ω.heap.size ω w1) => hK (.pointer (some ⟨g5, i, none⟩)) w1 rfl h)
                  clear hK hu hc
                  go_simp
                  exact hk.out _ (Below.refl _ _)
                · intro aa ω hb hu hsz hdf hc
                  have h70 : aa.tmps[70]?.getD undef = .slice (some ⟨g5, 0, none⟩) n n := hc 0 70 (by decide) rfl
                  have h71 : aa.tmps[71]?.getD undef = .int .i64 (i : Nat) := hc 1 71 (by decide) rfl
                  have h72 : aa.tmps[72]?.getD undef = .slice (some ⟨g5, 0, none⟩) n n := hc 2 72 (by decide) rfl
                  have h73 : aa.tmps[73]?.getD undef = .int .i64 (i : Nat) := hc 3 73 (by decide) rfl
                  have h74 : aa.tmps[74]?.getD undef = .pointer (some ⟨g5, i, none⟩) := hc 4 74 (by decide) rfl
                  have h75 : aa.tmps[75]?.getD undef = D3 i := hc 5 75 (by decide) rfl
                  have h76 : aa.tmps[76]?.getD undef = .slice (some ⟨g5, 0, none⟩) n n := hc 6 76 (by decide) rfl
                  have h77 : aa.tmps[77]?.getD undef = .int .i64 (i : Nat) := hc 7 77 (by decide) rfl
                  have h78 : aa.tmps[78]?.getD undef = .int .i64 (m : Nat) := hc 8 78 (by decide) rfl
                  have h79 : aa.tmps[79]?.getD undef = .pointer (some ⟨g5, m, none⟩) := hc 9 79 (by decide) rfl
                  have h80 : aa.tmps[80]?.getD undef = D3 m := hc 10 80 (by decide) rfl
                  have h82 : aa.tmps[82]?.getD undef = .slice vA vm vc := hc 12 82 (by decide) rfl
                  have h85 : (SRel.bN (tbN X Y k i)).p (aa.tmps[85]?.getD undef) ω := hc 15 85 (by decide) rfl
                  have h86 : aa.tmps[86]?.getD undef = .pointer (some ⟨g5, i, none⟩) := hc 16 86 (by decide) rfl
                  have ha0 := hha0.out
                  subst ha0
                  have he := act_patchL (n := 118) 17 [false, false, false, false, false, false, false, false, false, false, false, false, false, false, false, false, false, false, false, false, false, false, false, false, false, false, false, false, false, false, false, false, false, false, false, false, false, false, false, false, false, false, false, false, false, false, false, false, false, false, false, false, false, false, false, false, false, false, false, false, false, false, false, false, false, false, false, false, false, false, true, true, true, true, true, true, true, true, true, true, true, true, true, true, true, true, true, false, false, false, false, false, false, false, false, false, false, false, false, false, false, false, false, false, false, false, false, false, false, false, false, false, false, false, false, false, false, false] rfl (by kernel_rfl) hu hsz hdf
                  simp only [patch, cond_true, cond_false, Nat.reduceAdd] at he
                  clear hu hsz hdf hc hha0 e5 e9 e11 hz0
                  rw [he]
                  clear he
                  generalize aa.tmps[70]?.getD undef = x70 at *
                  generalize aa.tmps[71]?.getD undef = x71 at *
                  generalize aa.tmps[72]?.getD undef = x72 at *
                  generalize aa.tmps[73]?.getD undef = x73 at *
                  generalize aa.tmps[74]?.getD undef = x74 at *
                  generalize aa.tmps[75]?.getD undef = x75 at *
                  generalize aa.tmps[76]?.getD undef = x76 at *
                  generalize aa.tmps[77]?.getD undef = x77 at *
                  generalize aa.tmps[78]?.getD undef = x78 at *
                  generalize aa.tmps[79]?.getD undef = x79 at *
                  generalize aa.tmps[80]?.getD undef = x80 at *
                  generalize aa.tmps[81]?.getD undef = x81 at *
                  generalize aa.tmps[82]?.getD undef = x82 at *
                  generalize aa.tmps[83]?.getD undef = x83 at *
                  generalize aa.tmps[84]?.getD undef = x84 at *
                  generalize aa.tmps[85]?.getD undef = x85 at *
                  generalize aa.tmps[86]?.getD undef = x86 at *
                  subst h70 h71 h72 h73 h74 h75 h76 h77 h78 h79 h80 h82 h86
                  obtain ⟨uA, um, uc, rfl, -, -, -⟩ := IsN.form h85
                  have hu : IsN ω (.slice uA um uc) (tbN X Y k i) := h85
                  replace hD := Lib.hid (hD.out.step hb)
                  replace hR := Lib.hid (row_below hR.out hb hR.out.lt)
                  replace hL := Lib.hid (below_step hb hL.out (Nat.le_refl _))
                  have hD2 := Lib.hid ((hD.out.set hin hu).congr (T' := fun jj => if m < jj then tbN X Y k jj else tbN X Y (k - 1) jj) fun jj hjj => by
                    have := hmh.out
                    by_cases e : jj = i
                    · subst e; rw [if_pos rfl, if_pos (by omega)]
                    · rw [if_neg e]
                      by_cases e2 : i < jj
                      · rw [if_pos e2, if_pos (by omega)]
                      · rw [if_neg e2, if_neg (by omega)])
                  have hR2 := Lib.hid ((row_setCell (w := ω) (a := ⟨g5, i, none⟩) (v := .slice uA um uc)).2 hR.out)
                  have hL2 := Lib.hid (hL.out.setCell (p := ⟨g5, i, none⟩) (Nat.le_of_lt hg.out) (.slice uA um uc))
                  have co := hD.out.cell hin
                  have fo := hD.out.row.frozen i
                  have hm := hmh.out
                  clear hu h85 hb hD hR hL hC hN0 hN2 kM2 kT kR kL hV
                  dsimp only
                  go_wp2_with fail
                  refine ⟨⟨m, _, by go_num, by omega, by omega, hD2, hR2, hL2⟩, ?_⟩
                  simp [intOf]; omega
    · have hil : i < n := by omega
      have hd : decide ((i : Int) < (n : Int)) = true := by simp; omega
      have hki : (i : Int) < (n : Int) := by omega
      have hk0 : (0 : Int) ≤ (i : Int) := by omega
      have hS := hSh.out.step hL.out
      obtain ⟨ad, hA, hal, hac⟩ := hS.at_ i hil
      have hl := pl_ldC (shA_cells (X i) (Y i)).1 (shA_some (X i) (Y i)) hac
      have hl1 := hl.1
      have hl2 := hl.2
      subst hA
      have hcs := shA_cells (X i) (Y i)
      have hcz := shA_cells 0 0
      clear hl hac hal hS
      go_upto_region 5 with (fail)
      have hb := below_alloc wr (Obj.cells (shA (X i) (Y i)) 107)
      have hG := Lib.hid (Bw.new (w := wr) 107 hcs.1)
      replace hD := Lib.hid (hD.out.step hb)
      replace hR := Lib.hid (row_below hR.out hb hR.out.lt)
      replace hL := Lib.hid (below_step hb hL.out (Nat.le_refl _))
      clear hb hl1 hl2 hd
      generalize wr.alloc _ = W2 at *
      generalize wr.heap.size = g7 at *
      have hl := pl_ld (o := 1) (n := 4) hG.out.row hG.out.eq (shA_1 _ _) (arrK_size _ _ _) pl_some
      have hl1 := hl.1
      have hl2 := hl.2
      have kO := Lib.hid (fun V => ref_OfNum (Y i) V (hYl.out i hil))
      unfold numV at kO
      clear hl
      go_wp2_with fail
      refine (kO.out _).mono ?_
      rintro e w3 ⟨u, rfl, hu, hb⟩
      obtain ⟨uA, um, uc, rfl, -, -, -⟩ := hu.form
      replace hD := Lib.hid (hD.out.step hb)
      replace hR := Lib.hid (row_below hR.out hb hR.out.lt)
      replace hL := Lib.hid (below_step hb hL.out (Nat.le_refl _))
      have hD2 := Lib.hid ((hD.out.set hil hu).congr (T' := fun j => if j < i + 1 then Y j else 0) fun j hj => by
        by_cases e : j = i
        · subst e; rw [if_pos rfl, if_pos (by omega)]
        · rw [if_neg e]
          by_cases e2 : j < i
          · rw [if_pos e2, if_pos (by omega)]
          · rw [if_neg e2, if_neg (by omega)])
      have hR2 := Lib.hid ((row_setCell (w := w3) (a := ⟨g5, i, none⟩) (v := .slice uA um uc)).2 hR.out)
      have hL2 := Lib.hid (hL.out.setCell (p := ⟨g5, i, none⟩) (Nat.le_of_lt hg.out) (.slice uA um uc))
      have co := hD.out.cell hil
      have fo := hD.out.row.frozen i
      have hii : IntKind.i64.wrap ((i : Int) + 1) = (i : Int) + 1 := by rw [IntKind.wrap_i64]; have := hnh.out.1; omega
      clear hl1 hl2 hG hu hb kO hD hR hL
      dsimp only
      go_wp2_with fail
      refine ⟨⟨i + 1, _, by go_num, by omega, hD2, hR2, hL2⟩, ?_⟩
      simp [intOf]; omega
end Go.Proofs.Ytdlmamnnamlleaa
namespace Go.Proofs.Ytdlmamnnamlleaa
open Go.ChangeShapes Go.WideShapes Go.ChangeAt Go.RowKit
set_option maxHeartbeats 2000000
set_option maxRecDepth 100000
attribute [local irreducible] arrV shA
attribute [local go_sem ↓] load_shE load_fld load_num store_num execl_num execs_num load_sh store_sh execl_sh execs_sh
attribute [local go_sem] isHead_mk blkOf_mk isAgg_mk cellsV_mk row_drew rowAt_drew row_new_cells row_old rowAt_new rowAt_old setRow_new zeroNum zeroSh
theorem share_At_bad (A : Option Addr) (n c : Nat) (X : Nat → Int) (Y : Nat → Nat) (x f : Int) (w : World) (hS : Shs w A n X Y) (hnc : n ≤ c) (hY : ∀ i < n, Y i < 2 ^ 256) (hX : ∀ i < n, -9223372036854775808 ≤ X i ∧ X i < 9223372036854775808) (hf : FaultIs n X Y x f) (hf0 : f ≠ 0) : Calls Try.prog 12 #[.slice A n c, .int .i64 x] w fun e w' => e = .returned (.tuple #[numV 0, .int .i64 f]) ∧ Below w.heap.size w w' := by
  have hL0 := below_alloc w (Obj.cells (arrK .u64 4 (wd 0)) 27)
  have kC := Lib.hid (fun V (h : Shs V A n X Y) => share_check A n c X Y x V h hnc hY hX)
  have hfo := Lib.hid (fun g (h : FaultIs n X Y x g) => h.only hf)
  unfold numV
  have hc0 := arrK_cells .u64 4 (wd 0)
  have hR := Lib.hid (show Row (w.alloc (Obj.cells (arrK .u64 4 (wd 0)) 27)) w.heap.size 4 from (row_new rfl).2 hc0.1)
  have hSh := Lib.hid (hS.step hL0)
  have hL := Lib.hid hL0
  have hb1 : (f != 0) = true := by rw [bne_iff_ne]; exact hf0
  clear hS hX hY hf hL0
  go_enter Try.func12, Try.ntmps12
  go_upto_region 1 with (fail)
  generalize w.alloc _ = W0 at *
  go_wp2_with fail
  refine (kC.out _ hSh.out).mono ?_
  rintro e w1 ⟨⟨g, rfl, hg⟩, hb⟩
  obtain rfl := hfo.out g hg
  have hR2 := row_below hR.out hb hR.out.lt
  have hL2 := below_step hb hL.out (Nat.le_refl _)
  clear hg hb kC hfo hSh hR hL
  dsimp only
  go_wp2_with fail
  exact ret_stored2 (p := 4) (q := 5) (ty := 27) (g := w.heap.size) (n := 4) (c := arrK .u64 4 (wd 0)) rfl Try.underlying27 rfl (by kernel_rfl) rfl hR2 hc0.1 rfl ⟨rfl, below_setRow hL2 (by omega)⟩
/-- The numbers that At holds: the sum, the tops, the bottoms. -/
structure ShW (n : Nat) (X : Nat → Int) (Y : Nat → Nat) (xn R : Nat) (SU : Nat → Nat) (UP DN : Nat → Nat → Nat) : Prop where
  s0 : SU 0 = 0
  sn : SU n = R
  ss : ∀ i < n, (SU i + Y i * (UP i n * invL (DN i n) % fL) % fL) % fL = SU (i + 1)
  u0 : ∀ i, UP i 0 = 1
  d0 : ∀ i, DN i 0 = 1
  us : ∀ i j, i ≠ j → UP i j * ((xn + (fL - (X j).toNat % fL) % fL) % fL) % fL = UP i (j + 1)
  ds : ∀ i j, i ≠ j → DN i j * (((X i).toNat + (fL - (X j).toNat % fL) % fL) % fL) % fL = DN i (j + 1)
  ui : ∀ i, UP i i = UP i (i + 1)
  di : ∀ i, DN i i = DN i (i + 1)
  sl : ∀ i, SU i < 2 ^ 256
  ul : ∀ i j, UP i j < 2 ^ 256
  dl : ∀ i j, DN i j < 2 ^ 256
theorem oneL_val : (1 : Fin fL).val = 1 := by
  have := fL_pos
  show 1 % fL = 1
  exact Nat.mod_eq_of_lt (by omega)
theorem shW {n : Nat} {X : Nat → Int} {Y : Nat → Nat} (xn R : Nat) (hR : R = (lag ivL (XL X) (YL Y) (fi fL xn) n).val) (hY : ∀ i < n, Y i < fL) : ∃ SU UP DN, ShW n X Y xn R SU UP DN := by
  refine ⟨fun i => (sm (fun m => YL Y m * (prs (fun j => fi fL xn - XL X j) m n * ivL (dn (XL X) n m))) i).val, fun i j => (prs (fun t => fi fL xn - XL X t) i j).val, fun i j => (prs (fun t => XL X i - XL X t) i j).val, ?_⟩
  refine ⟨rfl, hR.symm, fun i hi => ?_, fun i => oneL_val, fun i => oneL_val, fun i j hn => ?_, fun i j hn => ?_, fun i => ?_, fun i => ?_, fun i => Nat.lt_trans (Fin.isLt _) fL_lt', fun i j => Nat.lt_trans (Fin.isLt _) fL_lt', fun i j => Nat.lt_trans (Fin.isLt _) fL_lt'⟩
  · rw [ivL_val, mulL]
    have e : Y i = (YL Y i).val := (fiL_val (hY i hi)).symm
    rw [e, mulL, addL]
    rfl
  · rw [subL, mulL, prs_last _ hn]; rfl
  · rw [subL, mulL, prs_last _ hn]; rfl
  · show _ = (prs _ i (i + 1)).val; rw [prs_own, prs_far _ i (Nat.le_refl _)]
  · show _ = (prs _ i (i + 1)).val; rw [prs_own, prs_far _ i (Nat.le_refl _)]
theorem share_At_ok (A : Option Addr) (n c : Nat) (X : Nat → Int) (Y : Nat → Nat) (xn : Nat) (w : World) (hS : Shs w A n X Y) (hnc : n ≤ c) (hY : ∀ i < n, Y i < 2 ^ 256) (hX : ∀ i < n, -9223372036854775808 ≤ X i ∧ X i < 9223372036854775808) (hf : FaultIs n X Y (xn : Int) 0) : Calls Try.prog 12 #[.slice A n c, .int .i64 (xn : Nat)] w fun e w' => e = .returned (.tuple #[numV (shAt X Y xn n), .int .i64 0]) ∧ Below w.heap.size w w' := by
  have hn20 : n ≤ 20 := by
    rcases hf with ⟨_, h⟩ | ⟨h, _⟩ | ⟨h, _⟩
    · cases h
    · exact h
    · exact h
  have hx255 : xn ≤ 255 := by
    rcases hf with ⟨_, h⟩ | ⟨_, _, h⟩ | ⟨_, h, _⟩
    · cases h
    · cases h
    · omega
  have hok : ∀ i < n, ShOk X Y i := by
    rcases hf with ⟨_, h⟩ | ⟨_, _, h⟩ | ⟨_, _, ⟨_, h⟩ | ⟨h, _⟩⟩
    · cases h
    · cases h
    · cases h
    · exact h
  have hL0 := below_alloc w (Obj.cells (arrK .u64 4 (wd 0)) 27)
  have kC := Lib.hid (fun V (h : Shs V A n X Y) => share_check A n c X Y (xn : Int) V h hnc hY hX)
  have hfo := Lib.hid (fun g (h : FaultIs n X Y (xn : Int) g) => h.only hf)
  have hlg := Lib.hid (show shAt X Y xn n = (lag ivL (XL X) (YL Y) (fi fL xn) n).val from rfl)
  obtain ⟨R, hRe⟩ : ∃ r, shAt X Y xn n = r := ⟨_, rfl⟩
  rw [hRe] at hlg ⊢
  unfold numV
  have hc0 := arrK_cells .u64 4 (wd 0)
  have hcR := arrK_cells .u64 4 (wd R)
  have hR := Lib.hid (show Row (w.alloc (Obj.cells (arrK .u64 4 (wd 0)) 27)) w.heap.size 4 from (row_new rfl).2 hc0.1)
  have hSh := Lib.hid hS
  have hS1 := Lib.hid (hS.step hL0)
  have hL := Lib.hid hL0
  have hnh := Lib.hid (And.intro hn20 (And.intro hx255 hok))
  have hYY := Lib.hid hY
  clear hRe hS hX hY hf hL0 hn20 hx255 hok
  go_enter Try.func12, Try.ntmps12
  go_upto_region 1 with (fail)
  generalize w.alloc _ = W0 at *
  go_wp2_with fail
  refine (kC.out _ hS1.out).mono ?_
  rintro e w1 ⟨⟨g, rfl, hg⟩, hb⟩
  obtain rfl := hfo.out g hg
  replace hR := Lib.hid (row_below hR.out hb hR.out.lt)
  replace hL := Lib.hid (below_step hb hL.out (Nat.le_refl _))
  clear hg hb kC hfo hS1
  dsimp only
  go_upto_region 6 with (fail)
  have hb := below_alloc w1 (Obj.cells (arrK .u64 4 (wd 0)) 27)
  have h7v := Lib.hid (At.new (w := w1) (k := .u64) (m := 4) (f := wd 0) 27 rfl)
  have hg7 := Lib.hid hR.out.lt
  replace hR := Lib.hid (row_below hR.out hb hR.out.lt)
  replace hL := Lib.hid (below_step hb hL.out (Nat.le_refl _))
  clear hb
  generalize w1.alloc _ = W1 at *
  generalize w1.heap.size = g7 at *
  obtain ⟨SU, UP, DN, hW⟩ := shW (X := X) (Y := Y) xn R hlg.out fun i hi => (hnh.out.2.2 i hi).y
  have hWh := Lib.hid hW
  rw [← hW.s0] at h7v
  clear hW hlg
  go_loopw [23] (fun iv wr => ∃ i : Nat, iv = .int .i64 i ∧ i ≤ n ∧ Hid (At wr g7 .u64 4 (wd (SU i))) ∧ Hid (Row wr w.heap.size 4) ∧ Hid (Below w.heap.size w wr)) (fun iv _ => n - (intOf iv).toNat)
  case atStart => exact ⟨0, rfl, by omega, h7v, hR, hL⟩
  case round =>
    clear h7v hR hL
    obtain ⟨i, rfl, hi, h7v, hR, hL⟩ := hrel
    by_cases hin : i = n
    · subst hin
      rw [hWh.out.sn] at h7v
      have hr1 := h7v.out.row
      have hr2 := h7v.out.eq
      have hr3 := hR.out
      have hd : decide ((i : Int) < (i : Int)) = false := by simp
      clear hi hnh hYY hSh
      go_wp2_with fail
      exact ret_stored2 (p := 4) (q := 5) (ty := 27) (g := w.heap.size) (n := 4) (c := arrK .u64 4 (wd R)) rfl Try.underlying27 rfl (by kernel_rfl) rfl hR.out hcR.1 rfl ⟨rfl, below_setRow hL.out (by omega)⟩
    · have hil : i < n := by omega
      have hd : decide ((i : Int) < (n : Int)) = true := by simp; omega
      have hki : (i : Int) < (n : Int) := by omega
      have hk0 : (0 : Int) ≤ (i : Int) := by omega
      have hS := hSh.out.step hL.out
      obtain ⟨ad, hA, hal, hac⟩ := hS.at_ i hil
      have hl := pl_ldC (shA_cells (X i) (Y i)).1 (shA_some (X i) (Y i)) hac
      have hl1 := hl.1
      have hl2 := hl.2
      subst hA
      have hcs := shA_cells (X i) (Y i)
      have hcz := shA_cells 0 0
      clear hl hac hal hS
      go_upto_region 8 with (fail)
      have hb := below_alloc wr (Obj.cells (shA (X i) (Y i)) 107)
      have hG := Lib.hid (Bw.new (w := wr) 107 hcs.1)
      have hg9 := Lib.hid h7v.out.lt
      replace h7v := Lib.hid (h7v.out.step hb)
      replace hR := Lib.hid (row_below hR.out hb hR.out.lt)
      replace hL := Lib.hid (below_step hb hL.out (Nat.le_refl _))
      clear hb hl1 hl2 hd hki hk0
      generalize wr.alloc _ = W2 at *
      generalize wr.heap.size = g9 at *
      have hc1 := arrK_cells .u64 4 (wd 1)
      have hq0 : Row ((W2.alloc (Obj.cells (arrK .u64 4 (wd 0)) 27)).alloc (Obj.cells (arrK .u64 4 (wd 0)) 27)) W2.heap.size 4 := (row_old (by simp)).2 ((row_new rfl).2 hc0.1)
      have hq1 : Row (((W2.alloc (Obj.cells (arrK .u64 4 (wd 0)) 27)).alloc (Obj.cells (arrK .u64 4 (wd 0)) 27)).setRow W2.heap.size (arrK .u64 4 (wd 1))) (W2.heap.size + 1) 4 := (row_setRow_far (by omega)).2 ((row_new (by simp)).2 hc0.1)
      go_upto_region 10 with (refine wpList_opW (by go_simp) (fun K hK => wp_bldA rfl (vx := Value.int IntKind.u64 (1 : Int)) rfl (build_one _) (hK _ _ ?_)))
      have hb : Below W2.heap.size W2 ((((W2.alloc (Obj.cells (arrK .u64 4 (wd 0)) 27)).alloc (Obj.cells (arrK .u64 4 (wd 0)) 27)).setRow W2.heap.size (arrK .u64 4 (wd 1))).setRow (W2.heap.size + 1) (arrK .u64 4 (wd 1))) := below_setRow (below_setRow ((below_alloc _ _).trans ((below_alloc _ _).mono (by simp))) (Nat.le_refl _)) (by omega)
      have hUp := Lib.hid ((At.put (k := .u64) (f := wd 1) hq0).far (g' := W2.heap.size + 1) (c := arrK .u64 4 (wd 1)) (by omega))
      have hDn := Lib.hid (At.put (k := .u64) (f := wd 1) hq1)
      have hg10 := Lib.hid hG.out.lt
      replace h7v := Lib.hid (h7v.out.step hb)
      replace hR := Lib.hid (row_below hR.out hb hR.out.lt)
      replace hL := Lib.hid (below_step hb hL.out (Nat.le_refl _))
      replace hG := Lib.hid (hG.out.step hb)
      clear hb hq0 hq1
      generalize ((W2.alloc _).alloc _).setRow _ _ = W3 at *
      generalize W3.setRow _ _ = W4 at *
      generalize W2.heap.size = g10 at *
      obtain ⟨g11, hge⟩ : ∃ g, g10 + 1 = g := ⟨_, rfl⟩
      rw [hge] at hDn ⊢
      have hg11 := Lib.hid (show g10 < g11 by omega)
      clear hge
      rw [← hWh.out.u0 i] at hUp
      rw [← hWh.out.d0 i] at hDn
      go_loopw [32] (fun jv wr => ∃ j : Nat, jv = .int .i64 j ∧ j ≤ n ∧ Hid (At wr g10 .u64 4 (wd (UP i j))) ∧ Hid (At wr g11 .u64 4 (wd (DN i j))) ∧ Hid (Bw wr g9 5 (shA (X i) (Y i))) ∧ Hid (At wr g7 .u64 4 (wd (SU i))) ∧ Hid (Row wr w.heap.size 4) ∧ Hid (Below w.heap.size w wr)) (fun jv _ => n - (intOf jv).toNat)
      case atStart => exact ⟨0, rfl, by omega, hUp, hDn, hG, h7v, hR, hL⟩
      case round =>
        clear hUp hDn hG h7v hR hL
        obtain ⟨j, rfl, hj, hUp, hDn, hG, h7v, hR, hL⟩ := hrel
        by_cases hjn : j = n
        · subst hjn
          have kI := Lib.hid (fun V => scalar_Inv (DN i j) V (hWh.out.dl _ _))
          have kM := Lib.hid (fun V => scalar_Mul (UP i j) (invL (DN i j)) V (hWh.out.ul _ _) (invL_lt _))
          have kN := Lib.hid (fun V => scalar_Mul (Y i) (UP i j * invL (DN i j) % fL) V (hYY.out i hil) mod_L)
          have kA := Lib.hid (fun V => scalar_Add (SU i) (Y i * (UP i j * invL (DN i j) % fL) % fL) V (hWh.out.sl _) mod_L)
          rw [hWh.out.ss i hil] at kA
          obtain ⟨iv, hiv⟩ : ∃ v, invL (DN i j) = v := ⟨_, rfl⟩
          rw [hiv] at kI kM kN kA
          obtain ⟨pv, hpv⟩ : ∃ v, UP i j * iv % fL = v := ⟨_, rfl⟩
          rw [hpv] at kM kN kA
          obtain ⟨tv, htv⟩ : ∃ v, Y i * pv % fL = v := ⟨_, rfl⟩
          rw [htv] at kN kA
          clear hiv hpv htv
          unfold numV at kI kM kN kA
          have hcsu := arrK_cells .u64 4 (wd (SU (i + 1)))
          have hd : decide ((j : Int) < (j : Int)) = false := by simp
          go_upto_region 16 with (fail)
          clear hd
          generalize ha0 : Act.mk _ _ = a0
          have e7 : a0.tmps[7]?.getD undef = .pointer (some ⟨g7, 0, none⟩) := by rw [← ha0]; rfl
          have e9 : a0.tmps[9]?.getD undef = .pointer (some ⟨g9, 0, none⟩) := by rw [← ha0]; rfl
          have e10 : a0.tmps[10]?.getD undef = .pointer (some ⟨g10, 0, none⟩) := by rw [← ha0]; rfl
          have e11 : a0.tmps[11]?.getD undef = .pointer (some ⟨g11, 0, none⟩) := by rw [← ha0]; rfl
          have hz0 : a0.tmps.size = 71 := by rw [← ha0]; rfl
          have hha0 := Lib.hid ha0
          clear ha0
          refine wp_region_one (fun jx_ => match jx_ with | 0 => some (.agg (arrK .u64 4 (wd (SU i)))) | 1 => some (.pointer (some ⟨g9, 1, none⟩)) | 2 => some (.agg (arrK .u64 4 (wd (Y i)))) | 3 => some (.agg (arrK .u64 4 (wd (UP i j)))) | 4 => some (.agg (arrK .u64 4 (wd (DN i j)))) | 5 => some (.agg (arrK .u64 4 (wd iv))) | 6 => some (.agg (arrK .u64 4 (wd pv))) | 7 => some (.agg (arrK .u64 4 (wd tv))) | 8 => some (.agg (arrK .u64 4 (wd (SU (i + 1))))) | _ => none) 9 (g7) 4 (arrK .u64 4 (wd (SU (i + 1)))) (by kernel_rfl) (by kernel_rfl) (by kernel_rfl) (slotsOk_of hz0 (by kernel_rfl)) (of_decide_eq_true (by kernel_rfl)) (Lib.hid h7v.out.row).out ⟨?_, ?_, ?_, ?_, ?_, ?_, ?_, ?_, ?_, ?_, trivial⟩ ?_
          · refine one_before (by decide) (by kernel_rfl) (calm_step rfl fun aa ω κ hb hu hc hK => ?_)
            have h7 : aa.tmps[7]?.getD undef = .pointer (some ⟨g7, 0, none⟩) := (hu 7 rfl).trans e7
            have hk := Lib.hid (fun w1 (h : Below ω.heap.size ω w1) => hK (.agg (arrK .u64 4 (wd (SU i)))) w1 rfl h)
            clear hK hu hc
            have hr1 := (h7v.out.step hb).row
            have hr2 := (h7v.out.step hb).eq
            go_simp
            exact hk.out _ (Below.refl _ _)
          · refine one_before (by decide) (by kernel_rfl) (calm_step rfl fun aa ω κ hb hu hc hK => ?_)
            have h9 : aa.tmps[9]?.getD undef = .pointer (some ⟨g9, 0, none⟩) := (hu 9 rfl).trans e9
            have hk := Lib.hid (fun w1 (h : Below ω.heap.size ω w1) => hK (.pointer (some ⟨g9, 1, none⟩)) w1 rfl h)
            clear hK hu hc
            go_simp
            exact hk.out _ (Below.refl _ _)
          · refine one_before (by decide) (by kernel_rfl) (calm_step rfl fun aa ω κ hb hu hc hK => ?_)
            have h61 : aa.tmps[61]?.getD undef = .pointer (some ⟨g9, 1, none⟩) := hc 1 61 rfl rfl
            have hk := Lib.hid (fun w1 (h : Below ω.heap.size ω w1) => hK (.agg (arrK .u64 4 (wd (Y i)))) w1 rfl h)
            clear hK hu hc
            have hl := pl_ld (o := 1) (n := 4) (hG.out.step hb).row (hG.out.step hb).eq (shA_1 _ _) (arrK_size _ _ _) pl_some
            have hl1 := hl.1
            have hl2 := hl.2
            clear hl
            go_simp
            exact hk.out _ (Below.refl _ _)
          · refine one_before (by decide) (by kernel_rfl) (calm_step rfl fun aa ω κ hb hu hc hK => ?_)
            have h10 : aa.tmps[10]?.getD undef = .pointer (some ⟨g10, 0, none⟩) := (hu 10 rfl).trans e10
            have hk := Lib.hid (fun w1 (h : Below ω.heap.size ω w1) => hK (.agg (arrK .u64 4 (wd (UP i j)))) w1 rfl h)
            clear hK hu hc
            have hr1 := (hUp.out.step hb).row
            have hr2 := (hUp.out.step hb).eq
            go_simp
            exact hk.out _ (Below.refl _ _)
          · refine one_before (by decide) (by kernel_rfl) (calm_step rfl fun aa ω κ hb hu hc hK => ?_)
            have h11 : aa.tmps[11]?.getD undef = .pointer (some ⟨g11, 0, none⟩) := (hu 11 rfl).trans e11
            have hk := Lib.hid (fun w1 (h : Below ω.heap.size ω w1) => hK (.agg (arrK .u64 4 (wd (DN i j)))) w1 rfl h)
            clear hK hu hc
            have hr1 := (hDn.out.step hb).row
            have hr2 := (hDn.out.step hb).eq
            go_simp
            exact hk.out _ (Below.refl _ _)
          · refine one_before (by decide) (by kernel_rfl) (calm_step rfl fun aa ω κ hb hu hc hK => ?_)
            have h64 : aa.tmps[64]?.getD undef = .agg (arrK .u64 4 (wd (DN i j))) := hc 4 64 rfl rfl
            have hk := Lib.hid (fun w1 (h : Below ω.heap.size ω w1) => hK (.agg (arrK .u64 4 (wd iv))) w1 rfl h)
            clear hK hu hc
            go_simp
            go_at_call 62
            refine (kI.out _).mono ?_
            rintro e w1 ⟨rfl, hb1⟩
            exact hk.out _ hb1
          · refine one_before (by decide) (by kernel_rfl) (calm_step rfl fun aa ω κ hb hu hc hK => ?_)
            have h63 : aa.tmps[63]?.getD undef = .agg (arrK .u64 4 (wd (UP i j))) := hc 3 63 rfl rfl
            have h65 : aa.tmps[65]?.getD undef = .agg (arrK .u64 4 (wd iv)) := hc 5 65 rfl rfl
            have hk := Lib.hid (fun w1 (h : Below ω.heap.size ω w1) => hK (.agg (arrK .u64 4 (wd pv))) w1 rfl h)
            clear hK hu hc
            go_simp
            go_at_call 58
            refine (kM.out _).mono ?_
            rintro e w1 ⟨rfl, hb1⟩
            exact hk.out _ hb1
          · refine one_before (by decide) (by kernel_rfl) (calm_step rfl fun aa ω κ hb hu hc hK => ?_)
            have h62 : aa.tmps[62]?.getD undef = .agg (arrK .u64 4 (wd (Y i))) := hc 2 62 rfl rfl
            have h66 : aa.tmps[66]?.getD undef = .agg (arrK .u64 4 (wd pv)) := hc 6 66 rfl rfl
            have hk := Lib.hid (fun w1 (h : Below ω.heap.size ω w1) => hK (.agg (arrK .u64 4 (wd tv))) w1 rfl h)
            clear hK hu hc
            go_simp
            go_at_call 58
            refine (kN.out _).mono ?_
            rintro e w1 ⟨rfl, hb1⟩
            exact hk.out _ hb1
          · refine one_before (by decide) (by kernel_rfl) (calm_step rfl fun aa ω κ hb hu hc hK => ?_)
            have h60 : aa.tmps[60]?.getD undef = .agg (arrK .u64 4 (wd (SU i))) := hc 0 60 rfl rfl
            have h67 : aa.tmps[67]?.getD undef = .agg (arrK .u64 4 (wd tv)) := hc 7 67 rfl rfl
            have hk := Lib.hid (fun w1 (h : Below ω.heap.size ω w1) => hK (.agg (arrK .u64 4 (wd (SU (i + 1))))) w1 rfl h)
            clear hK hu hc
            go_simp
            go_at_call 59
            refine (kA.out _).mono ?_
            rintro e w1 ⟨rfl, hb1⟩
            exact hk.out _ hb1
          · refine one_q (one_write rfl rfl fun aa ω κ hb hu hc hr hK => ?_)
            have h7 : aa.tmps[7]?.getD undef = .pointer (some ⟨g7, 0, none⟩) := (hu 7 rfl).trans e7
            have h68 : aa.tmps[68]?.getD undef = .agg (arrK .u64 4 (wd (SU (i + 1)))) := hc 8 68 rfl rfl
            have hk := Lib.hid hK
            clear hK hu hc
            have hcc := hcsu
            go_simp
            exact hk.out undef
          · intro a1 w1 hb1 hu1 hsz1 hdf1 hv1
            have ha0 := hha0.out
            subst ha0
            have he := act_patch (n := 71) [false, false, false, false, false, false, false, false, false, false, false, false, false, false, false, false, false, false, false, false, false, false, false, false, false, false, false, false, false, false, false, false, false, false, false, false, false, false, false, false, false, false, false, false, false, false, false, false, false, false, false, false, false, false, false, false, false, false, false, false, true, true, true, true, true, true, true, true, true, false, false] rfl (by kernel_rfl) hu1 hsz1 hdf1
            simp only [patch, cond_true, cond_false, Nat.reduceAdd] at he
            have hXz := Lib.hid ((At.put (k := .u64) (f := wd (SU (i + 1))) h7v.out.row).below hb1 (by simpa using h7v.out.row.lt))
            have hRz := Lib.hid (row_below ((row_setRow_far (c' := arrK .u64 4 (wd (SU (i + 1)))) (show w.heap.size ≠ g7 by have := hg7.out; have := hg9.out; have := hg10.out; have := hg11.out; omega)).2 hR.out) hb1 (by simpa using hR.out.lt))
            have hLz := Lib.hid (Below.trans (below_setRow (c := arrK .u64 4 (wd (SU (i + 1)))) hL.out (show w.heap.size ≤ g7 by have := hg7.out; have := hg9.out; have := hg10.out; have := hg11.out; omega)) (hb1.mono (by simpa using hL.out.size)))
            clear hR hL h7v hUp hDn hG kI kM kN kA
            clear hb1 hu1 hsz1 hdf1 hv1 hz0 hha0 e7 e9 e10 e11
            rw [he]
            clear he
            generalize a1.tmps[60]?.getD undef = x60 at *
            generalize a1.tmps[61]?.getD undef = x61 at *
            generalize a1.tmps[62]?.getD undef = x62 at *
            generalize a1.tmps[63]?.getD undef = x63 at *
            generalize a1.tmps[64]?.getD undef = x64 at *
            generalize a1.tmps[65]?.getD undef = x65 at *
            generalize a1.tmps[66]?.getD undef = x66 at *
            generalize a1.tmps[67]?.getD undef = x67 at *
            generalize a1.tmps[68]?.getD undef = x68 at *
            generalize w1 = W9 at *
            have hii : IntKind.i64.wrap ((i : Int) + 1) = (i : Int) + 1 := by rw [IntKind.wrap_i64]; have := hnh.out.1; omega
            go_wp2_with fail
            refine ⟨⟨i + 1, by go_num, by omega, hXz, hRz, hLz⟩, ?_⟩
            simp [intOf]; omega
        · have hjl : j < n := by omega
          have hd : decide ((j : Int) < (n : Int)) = true := by simp; omega
          have hkj : (j : Int) < (n : Int) := by omega
          have hk0 : (0 : Int) ≤ (j : Int) := by omega
          have hS := hSh.out.step hL.out
          obtain ⟨ad2, hA, hal, hac⟩ := hS.at_ j hjl
          cases hA
          have hl := pl_ldC (shA_cells (X j) (Y j)).1 (shA_some (X j) (Y j)) hac
          have hl1 := hl.1
          have hl2 := hl.2
          have hcs2 := shA_cells (X j) (Y j)
          have hcz := shA_cells 0 0
          clear hl hac hal hS
          go_upto_region 12 with (fail)
          have hb := below_alloc wr (Obj.cells (shA (X j) (Y j)) 107)
          have hH := Lib.hid (Bw.new (w := wr) 107 hcs2.1)
          have hg13 := Lib.hid hDn.out.lt
          replace h7v := Lib.hid (h7v.out.step hb)
          replace hUp := Lib.hid (hUp.out.step hb)
          replace hDn := Lib.hid (hDn.out.step hb)
          replace hG := Lib.hid (hG.out.step hb)
          replace hR := Lib.hid (row_below hR.out hb hR.out.lt)
          replace hL := Lib.hid (below_step hb hL.out (Nat.le_refl _))
          clear hb hl1 hl2 hd hkj hk0 hcs2 hcz
          generalize wr.alloc _ = W5 at *
          generalize wr.heap.size = g13 at *
          have hjj : IntKind.i64.wrap ((j : Int) + 1) = (j : Int) + 1 := by rw [IntKind.wrap_i64]; have := hnh.out.1; omega
          by_cases hij : i = j
          · have hne : ((i : Int) != (j : Int)) = false := by subst hij; simp
            have hu := hWh.out.ui j
            have hdn := hWh.out.di j
            subst hij
            rw [hu] at hUp
            rw [hdn] at hDn
            clear hu hdn
            go_wp2_with fail
            refine ⟨⟨i + 1, by go_num, by omega, hUp, hDn, hG, h7v, hR, hL⟩, ?_⟩
            simp [intOf]; omega
          · have hne : ((i : Int) != (j : Int)) = true := by rw [bne_iff_ne]; omega
            have hoi := hnh.out.2.2 i hil
            have hoj := hnh.out.2.2 j hjl
            have e1 := hWh.out.us i j hij
            have e2 := hWh.out.ds i j hij
            obtain ⟨qi, hqi⟩ : ∃ q : Nat, X i = (q : Int) := ⟨(X i).toNat, by have := hoi.lo; omega⟩
            obtain ⟨qj, hqj⟩ : ∃ q : Nat, X j = (q : Int) := ⟨(X j).toNat, by have := hoj.lo; omega⟩
            have hqil : qi ≤ 255 := by have := hoi.hi; omega
            have hqjl : qj ≤ 255 := by have := hoj.hi; omega
            rw [hqj, Int.toNat_natCast] at e1 e2
            rw [hqi, Int.toNat_natCast] at e2
            have hqih := Lib.hid hqi
            rw [hqi] at hG
            rw [hqj] at hH
            have hqq : ∀ q : Nat, q ≤ 255 → q < 2 ^ 256 := fun q h => Nat.lt_trans (show q < 256 by omega) (by decide +kernel)
            have hx255 := hnh.out.2.1
            have kX := Lib.hid (fun V => share_num xn V (by omega))
            have kJ := Lib.hid (fun V => share_num qj V (by omega))
            have kQ := Lib.hid (fun V => share_num qi V (by omega))
            have kNg := Lib.hid (fun V => scalar_Neg qj V (hqq qj hqjl))
            have kA1 := Lib.hid (fun V => scalar_Add xn ((fL - qj % fL) % fL) V (hqq xn hx255) mod_L)
            have kA2 := Lib.hid (fun V => scalar_Add qi ((fL - qj % fL) % fL) V (hqq qi hqil) mod_L)
            have kM1 := Lib.hid (fun V => scalar_Mul (UP i j) ((xn + (fL - qj % fL) % fL) % fL) V (hWh.out.ul _ _) mod_L)
            have kM2 := Lib.hid (fun V => scalar_Mul (DN i j) ((qi + (fL - qj % fL) % fL) % fL) V (hWh.out.dl _ _) mod_L)
            rw [e1] at kM1
            rw [e2] at kM2
            generalize (xn + (fL - qj % fL) % fL) % fL = v1 at *
            generalize (qi + (fL - qj % fL) % fL) % fL = v2 at *
            generalize (fL - qj % fL) % fL = nn at *
            unfold numV at kX kJ kQ kNg kA1 kA2 kM1 kM2
            have hcu := arrK_cells .u64 4 (wd (UP i (j + 1)))
            have hcd := arrK_cells .u64 4 (wd (DN i (j + 1)))
            have hijh := Lib.hid hij
            clear hoi hoj e1 e2 hqil hqjl hqq hx255 hqi hqj hij
            go_upto_region 13 with (fail)
            clear hne
            generalize ha0 : Act.mk _ _ = a0
            have e1 : a0.tmps[1]?.getD undef = .int .i64 (xn : Nat) := by rw [← ha0]; rfl
            have e10 : a0.tmps[10]?.getD undef = .pointer (some ⟨g10, 0, none⟩) := by rw [← ha0]; rfl
            have e13 : a0.tmps[13]?.getD undef = .pointer (some ⟨g13, 0, none⟩) := by rw [← ha0]; rfl
            have hz0 : a0.tmps.size = 71 := by rw [← ha0]; rfl
            have hha0 := Lib.hid ha0
            clear ha0
            refine wp_region_one (fun jx_ => match jx_ with | 0 => some (.agg (arrK .u64 4 (wd (UP i j)))) | 1 => some (.int .i64 (xn : Nat)) | 2 => some (.agg (arrK .u64 4 (wd xn))) | 3 => some (.pointer (some ⟨g13, 0, none⟩)) | 4 => some (.int .i64 (qj : Nat)) | 5 => some (.agg (arrK .u64 4 (wd qj))) | 6 => some (.agg (arrK .u64 4 (wd nn))) | 7 => some (.agg (arrK .u64 4 (wd v1))) | 8 => some (.agg (arrK .u64 4 (wd (UP i (j + 1))))) | _ => none) 9 (g10) 4 (arrK .u64 4 (wd (UP i (j + 1)))) (by kernel_rfl) (by kernel_rfl) (by kernel_rfl) (slotsOk_of hz0 (by kernel_rfl)) (of_decide_eq_true (by kernel_rfl)) (Lib.hid hUp.out.row).out ⟨?_, ?_, ?_, ?_, ?_, ?_, ?_, ?_, ?_, ?_, trivial⟩ ?_
            · refine one_before (by decide) (by kernel_rfl) (calm_step rfl fun aa ω κ hb hu hc hK => ?_)
              have h10 : aa.tmps[10]?.getD undef = .pointer (some ⟨g10, 0, none⟩) := (hu 10 rfl).trans e10
              have hk := Lib.hid (fun w1 (h : Below ω.heap.size ω w1) => hK (.agg (arrK .u64 4 (wd (UP i j)))) w1 rfl h)
              clear hK hu hc
              have hr1 := (hUp.out.step hb).row
              have hr2 := (hUp.out.step hb).eq
              go_simp
              exact hk.out _ (Below.refl _ _)
            · refine one_before (by decide) (by kernel_rfl) (calm_step rfl fun aa ω κ hb hu hc hK => ?_)
              have h1 : aa.tmps[1]?.getD undef = .int .i64 (xn : Nat) := (hu 1 rfl).trans e1
              have hk := Lib.hid (fun w1 (h : Below ω.heap.size ω w1) => hK (.int .i64 (xn : Nat)) w1 rfl h)
              clear hK hu hc
              go_simp
              exact hk.out _ (Below.refl _ _)
            · refine one_before (by decide) (by kernel_rfl) (calm_step rfl fun aa ω κ hb hu hc hK => ?_)
              have h41 : aa.tmps[41]?.getD undef = .int .i64 (xn : Nat) := hc 1 41 rfl rfl
              have hk := Lib.hid (fun w1 (h : Below ω.heap.size ω w1) => hK (.agg (arrK .u64 4 (wd xn))) w1 rfl h)
              clear hK hu hc
              go_simp
              go_at_call 60
              refine (kX.out _).mono ?_
              rintro e w1 ⟨rfl, hb1⟩
              exact hk.out _ hb1
            · refine one_before (by decide) (by kernel_rfl) (calm_step rfl fun aa ω κ hb hu hc hK => ?_)
              have h13 : aa.tmps[13]?.getD undef = .pointer (some ⟨g13, 0, none⟩) := (hu 13 rfl).trans e13
              have hk := Lib.hid (fun w1 (h : Below ω.heap.size ω w1) => hK (.pointer (some ⟨g13, 0, none⟩)) w1 rfl h)
              clear hK hu hc
              go_simp
              exact hk.out _ (Below.refl _ _)
            · refine one_before (by decide) (by kernel_rfl) (calm_step rfl fun aa ω κ hb hu hc hK => ?_)
              have h43 : aa.tmps[43]?.getD undef = .pointer (some ⟨g13, 0, none⟩) := hc 3 43 rfl rfl
              have hk := Lib.hid (fun w1 (h : Below ω.heap.size ω w1) => hK (.int .i64 (qj : Nat)) w1 rfl h)
              clear hK hu hc
              have c0 := (hH.out.step hb).cell (shA_0 _ _)
              go_simp
              exact hk.out _ (Below.refl _ _)
            · refine one_before (by decide) (by kernel_rfl) (calm_step rfl fun aa ω κ hb hu hc hK => ?_)
              have h44 : aa.tmps[44]?.getD undef = .int .i64 (qj : Nat) := hc 4 44 rfl rfl
              have hk := Lib.hid (fun w1 (h : Below ω.heap.size ω w1) => hK (.agg (arrK .u64 4 (wd qj))) w1 rfl h)
              clear hK hu hc
              go_simp
              go_at_call 60
              refine (kJ.out _).mono ?_
              rintro e w1 ⟨rfl, hb1⟩
              exact hk.out _ hb1
            · refine one_before (by decide) (by kernel_rfl) (calm_step rfl fun aa ω κ hb hu hc hK => ?_)
              have h45 : aa.tmps[45]?.getD undef = .agg (arrK .u64 4 (wd qj)) := hc 5 45 rfl rfl
              have hk := Lib.hid (fun w1 (h : Below ω.heap.size ω w1) => hK (.agg (arrK .u64 4 (wd nn))) w1 rfl h)
              clear hK hu hc
              go_simp
              go_at_call 61
              refine (kNg.out _).mono ?_
              rintro e w1 ⟨rfl, hb1⟩
              exact hk.out _ hb1
            · refine one_before (by decide) (by kernel_rfl) (calm_step rfl fun aa ω κ hb hu hc hK => ?_)
              have h42 : aa.tmps[42]?.getD undef = .agg (arrK .u64 4 (wd xn)) := hc 2 42 rfl rfl
              have h46 : aa.tmps[46]?.getD undef = .agg (arrK .u64 4 (wd nn)) := hc 6 46 rfl rfl
              have hk := Lib.hid (fun w1 (h : Below ω.heap.size ω w1) => hK (.agg (arrK .u64 4 (wd v1))) w1 rfl h)
              clear hK hu hc
              go_simp
              go_at_call 59
              refine (kA1.out _).mono ?_
              rintro e w1 ⟨rfl, hb1⟩
              exact hk.out _ hb1
            · refine one_before (by decide) (by kernel_rfl) (calm_step rfl fun aa ω κ hb hu hc hK => ?_)
              have h40 : aa.tmps[40]?.getD undef = .agg (arrK .u64 4 (wd (UP i j))) := hc 0 40 rfl rfl
              have h47 : aa.tmps[47]?.getD undef = .agg (arrK .u64 4 (wd v1)) := hc 7 47 rfl rfl
              have hk := Lib.hid (fun w1 (h : Below ω.heap.size ω w1) => hK (.agg (arrK .u64 4 (wd (UP i (j + 1))))) w1 rfl h)
              clear hK hu hc
              go_simp
              go_at_call 58
              refine (kM1.out _).mono ?_
              rintro e w1 ⟨rfl, hb1⟩
              exact hk.out _ hb1
            · refine one_q (one_write rfl rfl fun aa ω κ hb hu hc hr hK => ?_)
              have h10 : aa.tmps[10]?.getD undef = .pointer (some ⟨g10, 0, none⟩) := (hu 10 rfl).trans e10
              have h48 : aa.tmps[48]?.getD undef = .agg (arrK .u64 4 (wd (UP i (j + 1)))) := hc 8 48 rfl rfl
              have hk := Lib.hid hK
              clear hK hu hc
              have hcc := hcu
              go_simp
              exact hk.out undef
            · intro a1 w1 hb1 hu1 hsz1 hdf1 hv1
              have ha0 := hha0.out
              subst ha0
              have he := act_patch (n := 71) [false, false, false, false, false, false, false, false, false, false, false, false, false, false, false, false, false, false, false, false, false, false, false, false, false, false, false, false, false, false, false, false, false, false, false, false, false, false, false, false, true, true, true, true, true, true, true, true, true, false, false, false, false, false, false, false, false, false, false, false, false, false, false, false, false, false, false, false, false, false, false] rfl (by kernel_rfl) hu1 hsz1 hdf1
              simp only [patch, cond_true, cond_false, Nat.reduceAdd] at he
              have hXz := Lib.hid ((At.put (k := .u64) (f := wd (UP i (j + 1))) hUp.out.row).below hb1 (by simpa using hUp.out.row.lt))
              replace hDn := Lib.hid ((hDn.out.far (c := arrK .u64 4 (wd (UP i (j + 1)))) (show g11 ≠ g10 by have := hg13.out; have := hg7.out; have := hg9.out; have := hg10.out; have := hg11.out; omega)).below hb1 (by simpa using hDn.out.row.lt))
              replace h7v := Lib.hid ((h7v.out.far (c := arrK .u64 4 (wd (UP i (j + 1)))) (show g7 ≠ g10 by have := hg13.out; have := hg7.out; have := hg9.out; have := hg10.out; have := hg11.out; omega)).below hb1 (by simpa using h7v.out.row.lt))
              replace hG := Lib.hid ((hG.out.far (c' := arrK .u64 4 (wd (UP i (j + 1)))) (show g9 ≠ g10 by have := hg13.out; have := hg7.out; have := hg9.out; have := hg10.out; have := hg11.out; omega)).step (hb1.mono (by simp)))
              replace hH := Lib.hid ((hH.out.far (c' := arrK .u64 4 (wd (UP i (j + 1)))) (show g13 ≠ g10 by have := hg13.out; have := hg7.out; have := hg9.out; have := hg10.out; have := hg11.out; omega)).step (hb1.mono (by simp)))
              have hRz := Lib.hid (row_below ((row_setRow_far (c' := arrK .u64 4 (wd (UP i (j + 1)))) (show w.heap.size ≠ g10 by have := hg13.out; have := hg7.out; have := hg9.out; have := hg10.out; have := hg11.out; omega)).2 hR.out) hb1 (by simpa using hR.out.lt))
              have hLz := Lib.hid (Below.trans (below_setRow (c := arrK .u64 4 (wd (UP i (j + 1)))) hL.out (show w.heap.size ≤ g10 by have := hg13.out; have := hg7.out; have := hg9.out; have := hg10.out; have := hg11.out; omega)) (hb1.mono (by simpa using hL.out.size)))
              clear hR hL hUp kX kM1 kA1
              clear hb1 hu1 hsz1 hdf1 hv1 hz0 hha0 e1 e10 e13
              rw [he]
              clear he
              generalize a1.tmps[40]?.getD undef = x40 at *
              generalize a1.tmps[41]?.getD undef = x41 at *
              generalize a1.tmps[42]?.getD undef = x42 at *
              generalize a1.tmps[43]?.getD undef = x43 at *
              generalize a1.tmps[44]?.getD undef = x44 at *
              generalize a1.tmps[45]?.getD undef = x45 at *
              generalize a1.tmps[46]?.getD undef = x46 at *
              generalize a1.tmps[47]?.getD undef = x47 at *
              generalize a1.tmps[48]?.getD undef = x48 at *
              generalize w1 = W6 at *
              have hUp := hXz
              have hR := hRz
              have hL := hLz
              clear hXz hRz hLz
              go_upto_region 14 with (fail)
              generalize ha0 : Act.mk _ _ = a0
              have e9 : a0.tmps[9]?.getD undef = .pointer (some ⟨g9, 0, none⟩) := by rw [← ha0]; rfl
              have e11 : a0.tmps[11]?.getD undef = .pointer (some ⟨g11, 0, none⟩) := by rw [← ha0]; rfl
              have e13 : a0.tmps[13]?.getD undef = .pointer (some ⟨g13, 0, none⟩) := by rw [← ha0]; rfl
              have hz0 : a0.tmps.size = 71 := by rw [← ha0]; rfl
              have hha0 := Lib.hid ha0
              clear ha0
              refine wp_region_one (fun jx_ => match jx_ with | 0 => some (.agg (arrK .u64 4 (wd (DN i j)))) | 1 => some (.pointer (some ⟨g9, 0, none⟩)) | 2 => some (.int .i64 (qi : Nat)) | 3 => some (.agg (arrK .u64 4 (wd qi))) | 4 => some (.pointer (some ⟨g13, 0, none⟩)) | 5 => some (.int .i64 (qj : Nat)) | 6 => some (.agg (arrK .u64 4 (wd qj))) | 7 => some (.agg (arrK .u64 4 (wd nn))) | 8 => some (.agg (arrK .u64 4 (wd v2))) | 9 => some (.agg (arrK .u64 4 (wd (DN i (j + 1))))) | _ => none) 10 (g11) 4 (arrK .u64 4 (wd (DN i (j + 1)))) (by kernel_rfl) (by kernel_rfl) (by kernel_rfl) (slotsOk_of hz0 (by kernel_rfl)) (of_decide_eq_true (by kernel_rfl)) (Lib.hid hDn.out.row).out ⟨?_, ?_, ?_, ?_, ?_, ?_, ?_, ?_, ?_, ?_, ?_, trivial⟩ ?_
              · refine one_before (by decide) (by kernel_rfl) (calm_step rfl fun aa ω κ hb hu hc hK => ?_)
                have h11 : aa.tmps[11]?.getD undef = .pointer (some ⟨g11, 0, none⟩) := (hu 11 rfl).trans e11
                have hk := Lib.hid (fun w1 (h : Below ω.heap.size ω w1) => hK (.agg (arrK .u64 4 (wd (DN i j)))) w1 rfl h)
                clear hK hu hc
                have hr1 := (hDn.out.step hb).row
                have hr2 := (hDn.out.step hb).eq
                go_simp
                exact hk.out _ (Below.refl _ _)
              · refine one_before (by decide) (by kernel_rfl) (calm_step rfl fun aa ω κ hb hu hc hK => ?_)
                have h9 : aa.tmps[9]?.getD undef = .pointer (some ⟨g9, 0, none⟩) := (hu 9 rfl).trans e9
                have hk := Lib.hid (fun w1 (h : Below ω.heap.size ω w1) => hK (.pointer (some ⟨g9, 0, none⟩)) w1 rfl h)
                clear hK hu hc
                go_simp
                exact hk.out _ (Below.refl _ _)
              · refine one_before (by decide) (by kernel_rfl) (calm_step rfl fun aa ω κ hb hu hc hK => ?_)
                have h50 : aa.tmps[50]?.getD undef = .pointer (some ⟨g9, 0, none⟩) := hc 1 50 rfl rfl
                have hk := Lib.hid (fun w1 (h : Below ω.heap.size ω w1) => hK (.int .i64 (qi : Nat)) w1 rfl h)
                clear hK hu hc
                have c0 := (hG.out.step hb).cell (shA_0 _ _)
                go_simp
                exact hk.out _ (Below.refl _ _)
              · refine one_before (by decide) (by kernel_rfl) (calm_step rfl fun aa ω κ hb hu hc hK => ?_)
                have h51 : aa.tmps[51]?.getD undef = .int .i64 (qi : Nat) := hc 2 51 rfl rfl
                have hk := Lib.hid (fun w1 (h : Below ω.heap.size ω w1) => hK (.agg (arrK .u64 4 (wd qi))) w1 rfl h)
                clear hK hu hc
                go_simp
                go_at_call 60
                refine (kQ.out _).mono ?_
                rintro e w1 ⟨rfl, hb1⟩
                exact hk.out _ hb1
              · refine one_before (by decide) (by kernel_rfl) (calm_step rfl fun aa ω κ hb hu hc hK => ?_)
                have h13 : aa.tmps[13]?.getD undef = .pointer (some ⟨g13, 0, none⟩) := (hu 13 rfl).trans e13
                have hk := Lib.hid (fun w1 (h : Below ω.heap.size ω w1) => hK (.pointer (some ⟨g13, 0, none⟩)) w1 rfl h)
                clear hK hu hc
                go_simp
                exact hk.out _ (Below.refl _ _)
              · refine one_before (by decide) (by kernel_rfl) (calm_step rfl fun aa ω κ hb hu hc hK => ?_)
                have h53 : aa.tmps[53]?.getD undef = .pointer (some ⟨g13, 0, none⟩) := hc 4 53 rfl rfl
                have hk := Lib.hid (fun w1 (h : Below ω.heap.size ω w1) => hK (.int .i64 (qj : Nat)) w1 rfl h)
                clear hK hu hc
                have c0 := (hH.out.step hb).cell (shA_0 _ _)
                go_simp
                exact hk.out _ (Below.refl _ _)
              · refine one_before (by decide) (by kernel_rfl) (calm_step rfl fun aa ω κ hb hu hc hK => ?_)
                have h54 : aa.tmps[54]?.getD undef = .int .i64 (qj : Nat) := hc 5 54 rfl rfl
                have hk := Lib.hid (fun w1 (h : Below ω.heap.size ω w1) => hK (.agg (arrK .u64 4 (wd qj))) w1 rfl h)
                clear hK hu hc
                go_simp
                go_at_call 60
                refine (kJ.out _).mono ?_
                rintro e w1 ⟨rfl, hb1⟩
                exact hk.out _ hb1
              · refine one_before (by decide) (by kernel_rfl) (calm_step rfl fun aa ω κ hb hu hc hK => ?_)
                have h55 : aa.tmps[55]?.getD undef = .agg (arrK .u64 4 (wd qj)) := hc 6 55 rfl rfl
                have hk := Lib.hid (fun w1 (h : Below ω.heap.size ω w1) => hK (.agg (arrK .u64 4 (wd nn))) w1 rfl h)
                clear hK hu hc
                go_simp
                go_at_call 61
                refine (kNg.out _).mono ?_
                rintro e w1 ⟨rfl, hb1⟩
                exact hk.out _ hb1
              · refine one_before (by decide) (by kernel_rfl) (calm_step rfl fun aa ω κ hb hu hc hK => ?_)
                have h52 : aa.tmps[52]?.getD undef = .agg (arrK .u64 4 (wd qi)) := hc 3 52 rfl rfl
                have h56 : aa.tmps[56]?.getD undef = .agg (arrK .u64 4 (wd nn)) := hc 7 56 rfl rfl
                have hk := Lib.hid (fun w1 (h : Below ω.heap.size ω w1) => hK (.agg (arrK .u64 4 (wd v2))) w1 rfl h)
                clear hK hu hc
                go_simp
                go_at_call 59
                refine (kA2.out _).mono ?_
                rintro e w1 ⟨rfl, hb1⟩
                exact hk.out _ hb1
              · refine one_before (by decide) (by kernel_rfl) (calm_step rfl fun aa ω κ hb hu hc hK => ?_)
                have h49 : aa.tmps[49]?.getD undef = .agg (arrK .u64 4 (wd (DN i j))) := hc 0 49 rfl rfl
                have h57 : aa.tmps[57]?.getD undef = .agg (arrK .u64 4 (wd v2)) := hc 8 57 rfl rfl
                have hk := Lib.hid (fun w1 (h : Below ω.heap.size ω w1) => hK (.agg (arrK .u64 4 (wd (DN i (j + 1))))) w1 rfl h)
                clear hK hu hc
                go_simp
                go_at_call 58
                refine (kM2.out _).mono ?_
                rintro e w1 ⟨rfl, hb1⟩
                exact hk.out _ hb1
              · refine one_q (one_write rfl rfl fun aa ω κ hb hu hc hr hK => ?_)
                have h11 : aa.tmps[11]?.getD undef = .pointer (some ⟨g11, 0, none⟩) := (hu 11 rfl).trans e11
                have h58 : aa.tmps[58]?.getD undef = .agg (arrK .u64 4 (wd (DN i (j + 1)))) := hc 9 58 rfl rfl
                have hk := Lib.hid hK
                clear hK hu hc
                have hcc := hcd
                go_simp
                exact hk.out undef
              · intro a1 w1 hb1 hu1 hsz1 hdf1 hv1
                have ha0 := hha0.out
                subst ha0
                have he := act_patch (n := 71) [false, false, false, false, false, false, false, false, false, false, false, false, false, false, false, false, false, false, false, false, false, false, false, false, false, false, false, false, false, false, false, false, false, false, false, false, false, false, false, false, false, false, false, false, false, false, false, false, false, true, true, true, true, true, true, true, true, true, true, false, false, false, false, false, false, false, false, false, false, false, false] rfl (by kernel_rfl) hu1 hsz1 hdf1
                simp only [patch, cond_true, cond_false, Nat.reduceAdd] at he
                have hXz := Lib.hid ((At.put (k := .u64) (f := wd (DN i (j + 1))) hDn.out.row).below hb1 (by simpa using hDn.out.row.lt))
                replace hUp := Lib.hid ((hUp.out.far (c := arrK .u64 4 (wd (DN i (j + 1)))) (show g10 ≠ g11 by have := hg13.out; have := hg7.out; have := hg9.out; have := hg10.out; have := hg11.out; omega)).below hb1 (by simpa using hUp.out.row.lt))
                replace h7v := Lib.hid ((h7v.out.far (c := arrK .u64 4 (wd (DN i (j + 1)))) (show g7 ≠ g11 by have := hg13.out; have := hg7.out; have := hg9.out; have := hg10.out; have := hg11.out; omega)).below hb1 (by simpa using h7v.out.row.lt))
                replace hG := Lib.hid ((hG.out.far (c' := arrK .u64 4 (wd (DN i (j + 1)))) (show g9 ≠ g11 by have := hg13.out; have := hg7.out; have := hg9.out; have := hg10.out; have := hg11.out; omega)).step (hb1.mono (by simp)))
                have hRz := Lib.hid (row_below ((row_setRow_far (c' := arrK .u64 4 (wd (DN i (j + 1)))) (show w.heap.size ≠ g11 by have := hg13.out; have := hg7.out; have := hg9.out; have := hg10.out; have := hg11.out; omega)).2 hR.out) hb1 (by simpa using hR.out.lt))
                have hLz := Lib.hid (Below.trans (below_setRow (c := arrK .u64 4 (wd (DN i (j + 1)))) hL.out (show w.heap.size ≤ g11 by have := hg13.out; have := hg7.out; have := hg9.out; have := hg10.out; have := hg11.out; omega)) (hb1.mono (by simpa using hL.out.size)))
                clear hR hL hDn hH kQ kJ kM2 kA2 kNg
                clear hb1 hu1 hsz1 hdf1 hv1 hz0 hha0 e9 e11 e13
                rw [he]
                clear he
                generalize a1.tmps[49]?.getD undef = x49 at *
                generalize a1.tmps[50]?.getD undef = x50 at *
                generalize a1.tmps[51]?.getD undef = x51 at *
                generalize a1.tmps[52]?.getD undef = x52 at *
                generalize a1.tmps[53]?.getD undef = x53 at *
                generalize a1.tmps[54]?.getD undef = x54 at *
                generalize a1.tmps[55]?.getD undef = x55 at *
                generalize a1.tmps[56]?.getD undef = x56 at *
                generalize a1.tmps[57]?.getD undef = x57 at *
                generalize a1.tmps[58]?.getD undef = x58 at *
                generalize w1 = W7 at *
                go_wp2_with fail
                refine ⟨⟨j + 1, by go_num, by omega, hUp, hXz, Lib.hid (by rw [hqih.out]; exact hG.out), h7v, hRz, hLz⟩, ?_⟩
                simp [intOf]; omega
end Go.Proofs.Ytdlmamnnamlleaa
namespace Go.Proofs.Ytdlmamnnamlleaa
open Go.ChangeShapes Go.WideShapes Go.ChangeAt Go.RowKit
set_option maxHeartbeats 2000000
set_option maxRecDepth 100000
attribute [local irreducible] arrV shA
attribute [local go_sem ↓] load_shE load_fld load_num store_num execl_num execs_num load_sh store_sh execl_sh execs_sh
attribute [local go_sem] isHead_mk blkOf_mk isAgg_mk cellsV_mk row_drew rowAt_drew row_new_cells row_old rowAt_new rowAt_old setRow_new zeroNum zeroSh
theorem eqlN4h (f : Nat → Nat) (w : World) : (binOp .eql 27 (.agg (arrK .u64 4 f)) (.agg (arrK .u64 4 f))).run Try.prog w = .ok (.bool true) w := by
  rw [run_eql_arrK Try.underlying27 Try.underlying25 (by kernel_rfl)]
  simp
theorem build_none (w : World) : (Instr.build 27 #[]).run Try.prog w = .ok (.agg (arrK .u64 4 (wd 0))) w := (run_build w _ _ _ (by kernel_rfl)).trans (by rw [← zeroNum])
theorem wp_bld0 {P : Program} {Q : Exit → Act → World → Prop} {o : Oper} {a : Act} {w : World} {K : Act → World → Prop} {t : TypeId} {u : Value} (ho : o.op = .build t #[]) (hr : (Instr.build t #[]).run P w = .ok u w) (h : K (a.put o.dst u) w) : Oper.wp P o a w K Q := by
  obtain ⟨dst, op, tt, pos, af, gd⟩ := o
  subst ho
  unfold Oper.wp execOp
  simp only [List.map_toArray, List.map_nil, Sem.run_bind, hr, Result.andThen_ok]
  exact h
theorem shareTells_true (A : Option Addr) (n c : Nat) (X : Nat → Int) (Y : Nat → Nat) (x : Int) (w : World) (hS : Shs w A n X Y) (hnc : n ≤ c) (hY : ∀ i < n, Y i < 2 ^ 256) (hX : ∀ i < n, -9223372036854775808 ≤ X i ∧ X i < 9223372036854775808) : Calls Try.prog 3 #[.slice A n c, .int .i64 x] w fun e w' => e = .returned (.bool true) ∧ Below w.heap.size w w' := by
  have kF := Lib.hid (ref_SharesFault A n c X Y x w hS hnc hY hX)
  have hSh := Lib.hid hS
  have hbd := Lib.hid (And.intro hnc (And.intro hY hX))
  clear hS hnc hY hX
  go_enter Try.func3, Try.ntmps3
  go_upto_region 1 with (fail)
  go_wp2_with fail
  refine kF.out.mono ?_
  rintro e w1 ⟨⟨f, rfl, hf⟩, hb⟩
  have hL := Lib.hid hb
  replace hSh := Lib.hid (hSh.out.step hb)
  have hcz := arrK_cells .u64 4 (wd 0)
  clear hb kF
  dsimp only
  by_cases hf0 : f = 0
  · subst hf0
    obtain ⟨xn, rfl, hx8⟩ : ∃ xn : Nat, x = (xn : Int) ∧ xn ≤ 255 := by
      rcases hf with ⟨_, h⟩ | ⟨_, _, h⟩ | ⟨_, h, _⟩
      · cases h
      · cases h
      · exact ⟨x.toNat, by omega, by omega⟩
    have hgo : n ≤ 20 ∧ 0 < n ∧ ∀ i < n, ShOk X Y i := by
      rcases hf with ⟨_, h⟩ | ⟨_, _, h⟩ | ⟨h0, h, h2⟩
      · cases h
      · cases h
      · rcases h2 with ⟨_, h⟩ | ⟨h2, _⟩
        · cases h
        · exact ⟨h0, by omega, h2⟩
    have kA := Lib.hid (share_At_ok A n c X Y xn w1 hSh.out hbd.out.1 hbd.out.2.1 hbd.out.2.2 hf)
    have kR := Lib.hid (fun V (h : Shs V A n X Y) => ref_SharesAt A n c X Y xn V h hgo.1 hgo.2.1 hx8 hgo.2.2)
    obtain ⟨R, hRe⟩ : ∃ r, shAt X Y xn n = r := ⟨_, rfl⟩
    rw [hRe] at kA kR
    unfold numV at kA kR
    clear hRe hf hbd
    have hcR := arrK_cells .u64 4 (wd R)
    by_cases h6 : 6 < n
    · have d6 : decide ((n : Int) > 6) = true := by simp; omega
      have d6' : (6 : Int) < (n : Int) := by omega
      clear kA kR hSh hgo h6
      go_wp2_with fail
      exact ret_tmp (p := 4) (v := .bool true) rfl (by simp) rfl ⟨rfl, hL.out⟩
    · have d6 : decide ((n : Int) > 6) = false := by simp; omega
      have d6' : ¬ (6 : Int) < (n : Int) := by omega
      clear hgo h6
      go_upto_region 4 with (fail)
      go_wp2_with fail
      refine kA.out.mono ?_
      rintro e w2 ⟨rfl, hb⟩
      replace hL := Lib.hid (below_step hb hL.out (Nat.le_refl _))
      replace hSh := Lib.hid (hSh.out.step hb)
      clear hb kA d6 d6'
      replace hL := Lib.hid (Below.trans hL.out ((below_alloc w2 (Obj.cells (arrK .u64 4 (wd R)) 27)).mono hL.out.size))
      replace hSh := Lib.hid (hSh.out.step (below_alloc w2 (Obj.cells (arrK .u64 4 (wd R)) 27)))
      have hXz := Lib.hid (show Row (w2.alloc (Obj.cells (arrK .u64 4 (wd R)) 27)) w2.heap.size 4 ∧ rowAt (w2.alloc (Obj.cells (arrK .u64 4 (wd R)) 27)) w2.heap.size = arrK .u64 4 (wd R) from ⟨(row_new rfl).2 hcR.1, rowAt_new rfl⟩)
      dsimp only
      go_upto_region 7 with (fail)
      generalize w2.alloc _ = W3 at *
      generalize w2.heap.size = g6 at *
      generalize ha0 : Act.mk _ _ = a0
      have e0 : a0.tmps[0]?.getD undef = .slice A n c := by rw [← ha0]; rfl
      have e1 : a0.tmps[1]?.getD undef = .int .i64 (xn : Nat) := by rw [← ha0]; rfl
      have e6 : a0.tmps[6]?.getD undef = .pointer (some ⟨g6, 0, none⟩) := by rw [← ha0]; rfl
      have e7 : a0.tmps[7]?.getD undef = .int .i64 0 := by rw [← ha0]; rfl
      have hz0 : a0.tmps.size = 43 := by rw [← ha0]; rfl
      have hha0 := Lib.hid ha0
      clear ha0
      refine wp_region_calm (fun jx_ => match jx_ with | 0 => SRel.is (.int .i64 0) | 1 => SRel.is (.bool true) | 2 => SRel.is (.bool true) | 3 => SRel.is (.agg (arrK .u64 4 (wd R))) | 4 => SRel.is (.slice A n c) | 5 => SRel.is (.int .i64 (xn : Nat)) | 6 => SRel.is (.agg (arrK .u64 4 (wd R))) | 7 => SRel.is (.bool true) | 8 => SRel.is (.bool true) | 9 => SRel.is (.bool true) | _ => SRel.any) (by kernel_rfl) (by kernel_rfl) (by kernel_rfl) (slotsOk_of hz0 (by kernel_rfl)) ⟨?_, ?_, ?_, ?_, ?_, ?_, ?_, ?_, ?_, ?_, trivial⟩ ?_
      · refine calm_step rfl fun a ω κ hb hu hc hK => ?_
        have h7 : a.tmps[7]?.getD undef = .int .i64 0 := (hu 7 rfl).trans e7
        have hk := Lib.hid (fun w1 (h : Below ω.heap.size ω w1) => hK (.int .i64 0) w1 rfl h)
        clear hK hu hc
        go_simp
        exact hk.out _ (Below.refl _ _)
      · refine calm_step rfl fun a ω κ hb hu hc hK => ?_
        have h34 : a.tmps[34]?.getD undef = .int .i64 0 := hc 0 34 rfl rfl
        have hk := Lib.hid (fun w1 (h : Below ω.heap.size ω w1) => hK (.bool true) w1 rfl h)
        clear hK hu hc
        go_simp
        exact hk.out _ (Below.refl _ _)
      · refine calm_step rfl fun a ω κ hb hu hc hK => ?_
        have h35 : a.tmps[35]?.getD undef = .bool true := hc 1 35 rfl rfl
        have hk := Lib.hid (fun w1 (h : Below ω.heap.size ω w1) => hK (.bool true) w1 rfl h)
        clear hK hu hc
        go_simp
        exact hk.out _ (Below.refl _ _)
      · refine calm_step_guard (g := 2) (b := true) (d := 36) rfl rfl (fun a w hc => hc 2 36 rfl rfl) fun a ω κ hb hu hc hK => ?_
        have h6 : a.tmps[6]?.getD undef = .pointer (some ⟨g6, 0, none⟩) := (hu 6 rfl).trans e6
        have hk := Lib.hid (fun w1 (h : Below ω.heap.size ω w1) => hK (.agg (arrK .u64 4 (wd R))) w1 rfl h)
        clear hK hu hc
        have hr1 := row_below hXz.out.1 hb hXz.out.1.lt
        have hr2 := (rowAt_below hb hXz.out.1.lt).trans hXz.out.2
        go_simp
        exact hk.out _ (Below.refl _ _)
      · refine calm_step_guard (g := 2) (b := true) (d := 36) rfl rfl (fun a w hc => hc 2 36 rfl rfl) fun a ω κ hb hu hc hK => ?_
        have h0 : a.tmps[0]?.getD undef = .slice A n c := (hu 0 rfl).trans e0
        have hk := Lib.hid (fun w1 (h : Below ω.heap.size ω w1) => hK (.slice A n c) w1 rfl h)
        clear hK hu hc
        go_simp
        exact hk.out _ (Below.refl _ _)
      · refine calm_step_guard (g := 2) (b := true) (d := 36) rfl rfl (fun a w hc => hc 2 36 rfl rfl) fun a ω κ hb hu hc hK => ?_
        have h1 : a.tmps[1]?.getD undef = .int .i64 (xn : Nat) := (hu 1 rfl).trans e1
        have hk := Lib.hid (fun w1 (h : Below ω.heap.size ω w1) => hK (.int .i64 (xn : Nat)) w1 rfl h)
        clear hK hu hc
        go_simp
        exact hk.out _ (Below.refl _ _)
      · refine calm_step_guard (g := 2) (b := true) (d := 36) rfl rfl (fun a w hc => hc 2 36 rfl rfl) fun a ω κ hb hu hc hK => ?_
        have h38 : a.tmps[38]?.getD undef = .slice A n c := hc 4 38 rfl rfl
        have h39 : a.tmps[39]?.getD undef = .int .i64 (xn : Nat) := hc 5 39 rfl rfl
        have hk := Lib.hid (fun w1 (h : Below ω.heap.size ω w1) => hK (.agg (arrK .u64 4 (wd R))) w1 rfl h)
        clear hK hu hc
        go_simp
        go_at_call 13
        refine (kR.out _ (hSh.out.step hb)).mono ?_
        rintro e w1 ⟨rfl, hb1⟩
        exact hk.out _ hb1
      · refine calm_step_guard (g := 2) (b := true) (d := 36) rfl rfl (fun a w hc => hc 2 36 rfl rfl) fun a ω κ hb hu hc hK => ?_
        have h37 : a.tmps[37]?.getD undef = .agg (arrK .u64 4 (wd R)) := hc 3 37 rfl rfl
        have h40 : a.tmps[40]?.getD undef = .agg (arrK .u64 4 (wd R)) := hc 6 40 rfl rfl
        have hk := Lib.hid (fun w1 (h : Below ω.heap.size ω w1) => hK (.bool true) w1 rfl h)
        clear hK hu hc
        exact wp_eqlA (v := arrK .u64 4 (wd R)) (u := arrK .u64 4 (wd R)) (.inr rfl) (by kernel_rfl) (by go_simp) (by go_simp) (eqlN4h _ _) (hk.out _ (Below.refl _ _))
      · refine calm_step rfl fun a ω κ hb hu hc hK => ?_
        have h36 : a.tmps[36]?.getD undef = .bool true := hc 2 36 rfl rfl
        have h41 : a.tmps[41]?.getD undef = .bool true := hc 7 41 rfl rfl
        have hk := Lib.hid (fun w1 (h : Below ω.heap.size ω w1) => hK (.bool true) w1 rfl h)
        clear hK hu hc
        go_simp
        exact hk.out _ (Below.refl _ _)
      · refine calm_step rfl fun a ω κ hb hu hc hK => ?_
        have h42 : a.tmps[42]?.getD undef = .bool true := hc 8 42 rfl rfl
        have hk := Lib.hid (fun w1 (h : Below ω.heap.size ω w1) => hK (.bool true) w1 rfl h)
        clear hK hu hc
        go_simp
        exact hk.out _ (Below.refl _ _)
      · intro a1 w1 hb1 hu1 hsz1 hdf1 hc1
        have ha0 := hha0.out
        subst ha0
        have he := act_patch (n := 43) [false, false, false, false, true, false, false, false, false, false, false, false, false, false, false, false, false, false, false, false, false, false, false, false, false, false, false, false, false, false, false, false, false, false, true, true, true, true, true, true, true, true, true] rfl (by kernel_rfl) hu1 hsz1 hdf1
        simp only [patch, cond_true, cond_false, Nat.reduceAdd] at he
        have hkn4 : a1.tmps[4]?.getD undef = .bool true := hc1 9 4 rfl
        replace hL := Lib.hid (below_step hb1 hL.out (Nat.le_refl _))
        clear hb1 hu1 hsz1 hdf1 hc1 hz0 hha0 e0 e1 e6 e7
        rw [he]
        clear he
        rw [hkn4]
        clear hkn4
        generalize a1.tmps[34]?.getD undef = x34 at *
        generalize a1.tmps[35]?.getD undef = x35 at *
        generalize a1.tmps[36]?.getD undef = x36 at *
        generalize a1.tmps[37]?.getD undef = x37 at *
        generalize a1.tmps[38]?.getD undef = x38 at *
        generalize a1.tmps[39]?.getD undef = x39 at *
        generalize a1.tmps[40]?.getD undef = x40 at *
        generalize a1.tmps[41]?.getD undef = x41 at *
        generalize a1.tmps[42]?.getD undef = x42 at *
        go_wp2_with fail
        exact ret_tmp (p := 4) (v := .bool true) rfl (by simp) rfl ⟨rfl, hL.out⟩
  · have d0 : (f == 0) = false := by simpa using hf0
    have d1 : (f != 0) = true := by simpa using hf0
    have kA := Lib.hid (share_At_bad A n c X Y x f w1 hSh.out hbd.out.1 hbd.out.2.1 hbd.out.2.2 hf hf0)
    unfold numV at kA
    have kE := Lib.hid (eqlN4h (wd 0))
    have kB := Lib.hid (fun V => build_none V)
    clear hSh hbd hf hf0
    go_upto_region 4 with (fail)
    go_wp2_with fail
    refine kA.out.mono ?_
    rintro e w2 ⟨rfl, hb⟩
    replace hL := Lib.hid (below_step hb hL.out (Nat.le_refl _))
    clear hb kA
    replace hL := Lib.hid (Below.trans hL.out ((below_alloc w2 (Obj.cells (arrK .u64 4 (wd 0)) 27)).mono hL.out.size))
    have hXz := Lib.hid (show Row (w2.alloc (Obj.cells (arrK .u64 4 (wd 0)) 27)) w2.heap.size 4 ∧ rowAt (w2.alloc (Obj.cells (arrK .u64 4 (wd 0)) 27)) w2.heap.size = arrK .u64 4 (wd 0) from ⟨(row_new rfl).2 hcz.1, rowAt_new rfl⟩)
    dsimp only
    go_upto_region 6 with (fail)
    generalize w2.alloc _ = W3 at *
    generalize w2.heap.size = g6 at *
    obtain ⟨hr1, hr2⟩ := hXz.out
    go_wp2_with (first
      | refine wpList_opW (by go_simp) (fun K hK => wp_bld0 rfl (kB.out _) (hK _ _ ?_))
      | refine wpList_opW (by go_simp) (fun K hK => wp_eqlA (.inr rfl) (by kernel_rfl) (v := arrK .u64 4 (wd 0)) (u := arrK .u64 4 (wd 0)) (by go_simp) (by go_simp) (kE.out _) (hK _ _ ?_)))
    exact ret_tmp (p := 4) (v := .bool true) rfl (by simp) rfl ⟨rfl, hL.out⟩
end Go.Proofs.Ytdlmamnnamlleaa
