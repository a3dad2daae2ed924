/- Several texts one behind the other: Ld4 FreshR Ld6 CvE Ag2 Ag3 Open Args. -/
import Derived.Test.YtodcjeaannfbnaaAgK2
import Derived.Test.YtodcjeaannfbnaaTail
import Derived.Test.YtodcjeaannfbnaaFresh
import Derived.Test.YtodcjeaannfbnaaAg1
import Derived.Test.YtodcjeaannfbnaaAgK1
import Derived.Test.YtodcjeaannfbnaaMem
import Derived.ProofKit
import Derived.Test.YtodcjeaannfbnaaSl
import Derived.Deep.Slices
import Derived.Deep.Fields
import Derived.ChangeSame
import Derived.Test.YtodcjeaannfbnaaArrK
namespace Go.Proofs.Ytodcjeaannfbnaa
open Go.ChangeShapes Go.WideShapes Go.ChangeAt Go.RowKit
set_option maxHeartbeats 2000000
set_option maxRecDepth 100000
attribute [local go_sem ↓] load_fld load_feP load_num store_num load_fe store_fe load_pt store_pt load_f2 store_f2
attribute [local go_sem] isHead_mk blkOf_mk isAgg_mk cellsV_mk row_drew rowAt_drew row_new_cells row_old rowAt_new rowAt_old setRow_new zeroNum zeroPt zeroFe zeroF2 setRow_old
theorem dbC (x z : Nat) (w : World) (hx : x < 2 ^ 256) (hz : z < 2 ^ 256) : Calls Try.prog 154 #[f2V x z] w fun e w' => e = .returned (f2V (rdb x z).1 (rdb x z).2) ∧ Below w.heap.size w w' := ref_double _ _ _ _ _ _ _ _ _ _ _ _ w hx hz rfl rfl rfl rfl rfl rfl rfl rfl rfl rfl
theorem rstep_lt (c u : Nat) (s : Nat × Nat × Nat × Nat) : LtS (rstep c u s) := by
  unfold rstep
  split <;> exact ⟨low_lt, low_lt, low_lt, low_lt⟩
theorem rng_lt (u n : Nat) (hu : u < 2 ^ 256) : LtS (rng u n) := by
  by_cases h : n = 0
  · rw [h, rng_zero]; exact ⟨by show (1 : Nat) < _; decide +kernel, by show (0 : Nat) < _; decide +kernel, hu, by show (1 : Nat) < _; decide +kernel⟩
  · rw [rng_step u n h]; exact rstep_lt _ _ _
def RungsSay (u n : Nat) : Prop := ∀ (v : Value) (w : World), IsN w v n → Calls Try.prog 111 #[v, feV u] w fun e w' => e = .returned (.tuple #[f2V (rng u n).1 (rng u n).2.1, f2V (rng u n).2.2.1 (rng u n).2.2.2]) ∧ Below w.heap.size w w'
theorem rungs_zero (u : Nat) : RungsSay u 0 := by
  intro v w hv
  obtain ⟨A, m, c, rfl, hmc, hcm, hm0⟩ := hv.form
  obtain rfl : m = 0 := hm0.2 rfl
  rw [rng_zero]
  dsimp only
  have h1 := Lib.hid (fun V => ref_small 1 V (by omega))
  have h0 := Lib.hid (fun V => ref_small 0 V (by omega))
  clear hm0 hv
  unfold feV at h1 h0 ⊢
  rw [show ((1 : Nat) : Int) = 1 from rfl] at h1
  rw [show ((0 : Nat) : Int) = 0 from rfl] at h0
  unfold f2V
  have hcr := arrK_cells .i64 32 (cat2L (dgt 1) (dgt 0))
  have hcs := arrK_cells .i64 32 (cat2L (dgt u) (dgt 1))
  have hcz := arrK_cells .i64 32 (cat2L (fun _ => 0) (fun _ => 0))
  have hL0 : Below w.heap.size w (((w.alloc (Obj.cells (arrK .i64 16 (dgt u)) 26)).alloc (Obj.cells (arrK .i64 32 (cat2L (fun _ => 0) (fun _ => 0))) 135)).alloc (Obj.cells (arrK .i64 32 (cat2L (fun _ => 0) (fun _ => 0))) 135)) := by go_grown
  have hA0 : At (((w.alloc (Obj.cells (arrK .i64 16 (dgt u)) 26)).alloc (Obj.cells (arrK .i64 32 (cat2L (fun _ => 0) (fun _ => 0))) 135)).alloc (Obj.cells (arrK .i64 32 (cat2L (fun _ => 0) (fun _ => 0))) 135)) w.heap.size .i64 16 (dgt u) := (((At.new _ rfl)).old _).old _
  have hR0 : Row (((w.alloc (Obj.cells (arrK .i64 16 (dgt u)) 26)).alloc (Obj.cells (arrK .i64 32 (cat2L (fun _ => 0) (fun _ => 0))) 135)).alloc (Obj.cells (arrK .i64 32 (cat2L (fun _ => 0) (fun _ => 0))) 135)) (w.heap.size + 1) 32 := (((At.new (k := .i64) (f := (cat2L (fun _ => 0) (fun _ => 0))) _ (by simp))).old _).row
  have hQ0 : Row (((w.alloc (Obj.cells (arrK .i64 16 (dgt u)) 26)).alloc (Obj.cells (arrK .i64 32 (cat2L (fun _ => 0) (fun _ => 0))) 135)).alloc (Obj.cells (arrK .i64 32 (cat2L (fun _ => 0) (fun _ => 0))) 135)) (w.heap.size + 1 + 1) 32 := (At.new (k := .i64) (f := (cat2L (fun _ => 0) (fun _ => 0))) _ (by simp)).row
  have hL := Lib.hid hL0
  have hA := Lib.hid hA0
  have hR := Lib.hid hR0
  have hQ := Lib.hid hQ0
  clear hL0 hA0 hR0 hQ0
  go_enter Try.func111, Try.ntmps111
  go_upto_region 1 with (fail)
  generalize ((w.alloc _).alloc _).alloc _ = W0 at *
  go_upto_region 2 with (fail)
  generalize ha0 : Act.mk _ _ = a0
  have e3 : a0.tmps[3]?.getD undef = .pointer (some ⟨w.heap.size, 0, none⟩) := by rw [← ha0]; rfl
  have e4 : a0.tmps[4]?.getD undef = .pointer (some ⟨w.heap.size + 1, 0, none⟩) := by rw [← ha0]; rfl
  have e5 : a0.tmps[5]?.getD undef = .pointer (some ⟨w.heap.size + 1 + 1, 0, none⟩) := by rw [← ha0]; rfl
  have hz0 : a0.tmps.size = 82 := by rw [← ha0]; rfl
  have hha0 := Lib.hid ha0
  clear ha0
  refine wp_region_two (fun jx_ => match jx_ with | 0 => some (.agg (arrK .i64 16 (dgt 1))) | 1 => some (.agg (arrK .i64 16 (dgt 0))) | 2 => some (.agg (arrK .i64 32 (cat2L (dgt 1) (dgt 0)))) | 3 => some (.agg (arrK .i64 16 (dgt u))) | 4 => some (.agg (arrK .i64 16 (dgt 1))) | 5 => some (.agg (arrK .i64 32 (cat2L (dgt u) (dgt 1)))) | _ => none) 6 ((w.heap.size + 1)) 32 (arrK .i64 32 (cat2L (dgt 1) (dgt 0))) 7 ((w.heap.size + 1 + 1)) 32 (arrK .i64 32 (cat2L (dgt u) (dgt 1))) (by kernel_rfl) (by kernel_rfl) (by kernel_rfl) (slotsOk_of hz0 (by kernel_rfl)) (of_decide_eq_true (by kernel_rfl)) (of_decide_eq_true (by kernel_rfl)) (by decide) (by kernel_rfl) (by omega) hR.out hQ.out ⟨?_, ?_, ?_, ?_, ?_, ?_, ?_, ?_, trivial⟩ ?_
  · refine two_before (by decide) (by decide) (by kernel_rfl) (calm_step rfl fun aa ω κ hb hu hc hK => ?_)
    have hk := Lib.hid (fun w1 (h : Below ω.heap.size ω w1) => hK (.agg (arrK .i64 16 (dgt 1))) w1 rfl h)
    clear hK hu hc
    go_simp
    go_at_call 89
    refine (h1.out _).mono ?_
    rintro e w1 ⟨rfl, hb1⟩
    exact hk.out _ hb1
  · refine two_before (by decide) (by decide) (by kernel_rfl) (calm_step rfl fun aa ω κ hb hu hc hK => ?_)
    have hk := Lib.hid (fun w1 (h : Below ω.heap.size ω w1) => hK (.agg (arrK .i64 16 (dgt 0))) w1 rfl h)
    clear hK hu hc
    go_simp
    go_at_call 89
    refine (h0.out _).mono ?_
    rintro e w1 ⟨rfl, hb1⟩
    exact hk.out _ hb1
  · refine two_before (by decide) (by decide) (by kernel_rfl) (calm_step rfl fun aa ω κ hb hu hc hK => ?_)
    have h20 : aa.tmps[20]?.getD undef = .agg (arrK .i64 16 (dgt 1)) := hc 0 20 rfl rfl
    have h21 : aa.tmps[21]?.getD undef = .agg (arrK .i64 16 (dgt 0)) := hc 1 21 rfl rfl
    have hk := Lib.hid (fun w1 (h : Below ω.heap.size ω w1) => hK (.agg (arrK .i64 32 (cat2L (dgt 1) (dgt 0)))) w1 rfl h)
    clear hK hu hc
    exact wp_bldB (v0 := .agg (arrK .i64 16 (dgt 1))) (v1 := .agg (arrK .i64 16 (dgt 0))) rfl (by go_simp) (by go_simp) (build_f2 _ _ _) (hk.out _ (Below.refl _ _))
  · refine two_mid (by decide) (by decide) (by kernel_rfl) (by kernel_rfl) ?_ ?_
    · refine calm_step rfl fun aa ω κ hb hu hc hK => ?_
      have h3 : aa.tmps[3]?.getD undef = .pointer (some ⟨w.heap.size, 0, none⟩) := (hu 3 rfl).trans e3
      have hk := Lib.hid (fun w1 (h : Below ω.heap.size ω w1) => hK (.agg (arrK .i64 16 (dgt u))) w1 rfl h)
      clear hK hu hc
      have hr1 := (hA.out.step hb).row
      have hr2 := (hA.out.step hb).eq
      go_simp
      exact hk.out _ (Below.refl _ _)
    · refine calm_step rfl fun aa ω κ hb hu hc hK => ?_
      replace hA := Lib.hid (hA.out.far (c := arrK .i64 32 (cat2L (dgt 1) (dgt 0))) (show w.heap.size ≠ w.heap.size + 1 by omega))
      have h3 : aa.tmps[3]?.getD undef = .pointer (some ⟨w.heap.size, 0, none⟩) := (hu 3 rfl).trans e3
      have hk := Lib.hid (fun w1 (h : Below ω.heap.size ω w1) => hK (.agg (arrK .i64 16 (dgt u))) w1 rfl h)
      clear hK hu hc
      have hr1 := (hA.out.step hb).row
      have hr2 := (hA.out.step hb).eq
      go_simp
      exact hk.out _ (Below.refl _ _)
  · refine two_before (by decide) (by decide) (by kernel_rfl) (calm_step rfl fun aa ω κ hb hu hc hK => ?_)
    have hk := Lib.hid (fun w1 (h : Below ω.heap.size ω w1) => hK (.agg (arrK .i64 16 (dgt 1))) w1 rfl h)
    clear hK hu hc
    go_simp
    go_at_call 89
    refine (h1.out _).mono ?_
    rintro e w1 ⟨rfl, hb1⟩
    exact hk.out _ hb1
  · refine two_free (by decide) (by decide) fun W_ => calm_step rfl fun aa ω κ hb hu hc hK => ?_
    have h23 : aa.tmps[23]?.getD undef = .agg (arrK .i64 16 (dgt u)) := hc 3 23 rfl rfl
    have h24 : aa.tmps[24]?.getD undef = .agg (arrK .i64 16 (dgt 1)) := hc 4 24 rfl rfl
    have hk := Lib.hid (fun w1 (h : Below ω.heap.size ω w1) => hK (.agg (arrK .i64 32 (cat2L (dgt u) (dgt 1)))) w1 rfl h)
    clear hK hu hc
    exact wp_bldB (v0 := .agg (arrK .i64 16 (dgt u))) (v1 := .agg (arrK .i64 16 (dgt 1))) rfl (by go_simp) (by go_simp) (build_f2 _ _ _) (hk.out _ (Below.refl _ _))
  · refine two_q1 (one_write rfl rfl fun aa ω κ hb hu hc hr hK => ?_)
    have h4 : aa.tmps[4]?.getD undef = .pointer (some ⟨w.heap.size + 1, 0, none⟩) := (hu 4 rfl).trans e4
    have h22 : aa.tmps[22]?.getD undef = .agg (arrK .i64 32 (cat2L (dgt 1) (dgt 0))) := hc 2 22 rfl rfl
    have hk := Lib.hid hK
    clear hK hu hc
    have hcc := hcr
    go_simp
    exact hk.out undef
  · refine two_q2 (by decide) (one_write rfl rfl fun aa ω κ hb hu hc hr hK => ?_)
    have h5 : aa.tmps[5]?.getD undef = .pointer (some ⟨w.heap.size + 1 + 1, 0, none⟩) := (hu 5 rfl).trans e5
    have h25 : aa.tmps[25]?.getD undef = .agg (arrK .i64 32 (cat2L (dgt u) (dgt 1))) := hc 5 25 rfl rfl
    have hk := Lib.hid hK
    clear hK hu hc
    have hcc := hcs
    go_simp
    exact hk.out undef
  · intro a1 w1 hb1 hu1 hsz1 hdf1 hv1
    have ha0 := hha0.out
    subst ha0
    have he := act_patch (n := 82) [false, false, false, false, false, false, false, false, false, false, false, false, false, false, false, false, false, false, false, false, true, true, true, true, true, true, false, false, false, false, false, false, false, false, false, false, false, false, false, false, false, false, false, false, false, false, false, false, false, false, false, false, false, false, false, false, false, false, false, false, false, false, false, false, false, false, false, false, false, false, false, false, false, false, false, false, false, false, false, false, false, false] rfl (by kernel_rfl) hu1 hsz1 hdf1
    simp only [patch, cond_true, cond_false, Nat.reduceAdd] at he
    have hXz := ((At.put (k := .i64) (f := (cat2L (dgt 1) (dgt 0))) hR.out).far (c := arrK .i64 32 (cat2L (dgt u) (dgt 1))) (show w.heap.size + 1 ≠ w.heap.size + 1 + 1 by omega)).below hb1 (by simpa using hR.out.lt)
    have hYz := (At.put (w := W0.setRow (w.heap.size + 1) (arrK .i64 32 (cat2L (dgt 1) (dgt 0)))) (k := .i64) (f := (cat2L (dgt u) (dgt 1))) ((row_setRow_far (show w.heap.size + 1 + 1 ≠ w.heap.size + 1 by omega)).2 hQ.out)).below hb1 (by simpa using hQ.out.lt)
    have hLz := Lib.hid (Below.trans (below_setRow (c := arrK .i64 32 (cat2L (dgt u) (dgt 1))) (below_setRow (c := arrK .i64 32 (cat2L (dgt 1) (dgt 0))) hL.out (show w.heap.size ≤ w.heap.size + 1 by omega)) (show w.heap.size ≤ w.heap.size + 1 + 1 by omega)) (hb1.mono (by simpa using hL.out.size)))
    clear hR hQ hL hA h1 h0
    clear hb1 hu1 hsz1 hdf1 hv1 hz0 hha0 e3 e4 e5
    rw [he]
    clear he
    generalize a1.tmps[20]?.getD undef = x20 at *
    generalize a1.tmps[21]?.getD undef = x21 at *
    generalize a1.tmps[22]?.getD undef = x22 at *
    generalize a1.tmps[23]?.getD undef = x23 at *
    generalize a1.tmps[24]?.getD undef = x24 at *
    generalize a1.tmps[25]?.getD undef = x25 at *
    go_wp2_with fail
    refine ret_cc (p := 4) (q := 5) (ty := 135) (ty2 := 135) (g := w.heap.size + 1) (g2 := w.heap.size + 1 + 1) rfl Try.underlying135 rfl (by kernel_rfl) Try.underlying135 rfl (by kernel_rfl) rfl rfl hXz.row hYz.row rfl ?_
    rw [hXz.eq, hYz.eq]
    exact ⟨rfl, hLz.out⟩
set_option maxHeartbeats 20000000 in
theorem rungs_step (u n a b c d xv zw xw zv vs vt b1 tt b2 : Nat) (hn : n ≠ 0) (hnl : n < 2 ^ 256) (hu : u < 2 ^ 256) (ha : a < 2 ^ 256) (hb : b < 2 ^ 256) (hc : c < 2 ^ 256) (hd : d < 2 ^ 256) (hS : rng u (n / 2) = (a, b, c, d)) (hxv : a * c % fP = xv) (hzw : b * d % fP = zw) (hxw : a * d % fP = xw) (hzv : b * c % fP = zv) (hvs : lessM xv zw = vs) (hvt : lessM xw zv = vt) (hb1 : vs * vs % fP = b1) (htt : vt * vt % fP = tt) (hb2 : u * tt % fP = b2) (ih : RungsSay u (n / 2)) : RungsSay u n := by
  have lxv : xv < 2 ^ 256 := hxv ▸ low_lt
  have lzw : zw < 2 ^ 256 := hzw ▸ low_lt
  have lxw : xw < 2 ^ 256 := hxw ▸ low_lt
  have lzv : zv < 2 ^ 256 := hzv ▸ low_lt
  have lvs : vs < 2 ^ 256 := hvs ▸ less_low
  have lvt : vt < 2 ^ 256 := hvt ▸ less_low
  have lb1 : b1 < 2 ^ 256 := hb1 ▸ low_lt
  have ltt : tt < 2 ^ 256 := htt ▸ low_lt
  have lb2 : b2 < 2 ^ 256 := hb2 ▸ low_lt
  have kxv := Lib.hid (fun V => fe_By a c V ha hc)
  rw [hxv] at kxv
  have kzw := Lib.hid (fun V => fe_By b d V hb hd)
  rw [hzw] at kzw
  have kxw := Lib.hid (fun V => fe_By a d V ha hd)
  rw [hxw] at kxw
  have kzv := Lib.hid (fun V => fe_By b c V hb hc)
  rw [hzv] at kzv
  have kvs := Lib.hid (fun V => fe_Less xv zw V lxv lzw)
  rw [show (xv + 4 * fP - zw) % fP = vs from hvs] at kvs
  have kvt := Lib.hid (fun V => fe_Less xw zv V lxw lzv)
  rw [show (xw + 4 * fP - zv) % fP = vt from hvt] at kvt
  have kb1 := Lib.hid (fun V => fe_By vs vs V lvs lvs)
  rw [hb1] at kb1
  have ktt := Lib.hid (fun V => fe_By vt vt V lvt lvt)
  rw [htt] at ktt
  have kb2 := Lib.hid (fun V => fe_By u tt V hu ltt)
  rw [hb2] at kb2
  intro v w hv
  rw [rng_step u n hn, hS]
  have hb12 : rbo a b c d u = (b1, b2) := by
    unfold rbo
    rw [hxv, hzw, hxw, hzv]
    dsimp only
    rw [hvs, hvt, htt, hb1, hb2]
  unfold RungsSay at ih
  rw [hS] at ih
  dsimp only at ih
  replace ih := Lib.hid ih
  have kDq := Lib.hid (fun V => dbC a b V ha hb)
  have kDr := Lib.hid (fun V => dbC c d V hc hd)
  obtain ⟨⟨e1, e2⟩, hdq⟩ : ∃ s, rdb a b = s := ⟨_, rfl⟩
  obtain ⟨⟨f1, f2⟩, hdr⟩ : ∃ s, rdb c d = s := ⟨_, rfl⟩
  rw [hdq] at kDq
  rw [hdr] at kDr
  have kP := Lib.hid (fun (v2 : Value) V (hv : IsN V v n) (h2 : IsV V v2 2) => partsN (k := 256) V hv hnl (by omega) h2 (by omega) (mul_big (m := 17) (n := 2) (by omega) (by omega) (by omega)))
  have hfin0 : n % 2 = 0 → rstep (n % 2) u (a, b, c, d) = (e1, e2, b1, b2) := fun h => by unfold rstep; rw [if_pos h]; dsimp only; rw [hdq, hb12]
  have hfin1 : n % 2 ≠ 0 → rstep (n % 2) u (a, b, c, d) = (b1, b2, f1, f2) := fun h => by unfold rstep; rw [if_neg h]; dsimp only; rw [hdr, hb12]
  obtain ⟨A, m, cp, rfl, hmc, hcm, hm0⟩ := hv.form
  have hmne : ((m : Int) == 0) = false := by rw [beq_eq_false_iff_ne]; omega
  have hV := Lib.hid hv
  replace hfin0 := Lib.hid hfin0
  replace hfin1 := Lib.hid hfin1
  clear hv hm0 hb12 hdq hdr hS hn hnl hu ha hb hc hd hxv lxv hzw lzw hxw lxw hzv lzv hvs lvs hvt lvt hb1 lb1 htt ltt hb2 lb2
  unfold feV at ih kxv kzw kxw kzv kvs kvt kb1 ktt kb2
  unfold f2V at ih kDq kDr
  dsimp only at kDq kDr
  obtain ⟨⟨g1, g2, g3, g4⟩, hG⟩ : ∃ s, rstep (n % 2) u (a, b, c, d) = s := ⟨_, rfl⟩
  rw [hG]
  rw [hG] at hfin0 hfin1
  clear hG
  unfold feV f2V
  dsimp only
  have hcz := arrK_cells .i64 32 (cat2L (fun _ => 0) (fun _ => 0))
  have hc0 := arrK_cells .i64 16 fun _ => 0
  have hcq := arrK_cells .i64 32 (cat2L (dgt a) (dgt b))
  have hcrr := arrK_cells .i64 32 (cat2L (dgt c) (dgt d))
  have hcb := arrK_cells .i64 32 (cat2L (dgt b1) (dgt b2))
  have hcg := arrK_cells .i64 32 (cat2L (dgt g1) (dgt g2))
  have hch := arrK_cells .i64 32 (cat2L (dgt g3) (dgt g4))
  have hcxv := arrK_cells .i64 16 (dgt xv)
  have hczw := arrK_cells .i64 16 (dgt zw)
  have hcxw := arrK_cells .i64 16 (dgt xw)
  have hczv := arrK_cells .i64 16 (dgt zv)
  have hcvs := arrK_cells .i64 16 (dgt vs)
  have hcvt := arrK_cells .i64 16 (dgt vt)
  have hL0 : Below w.heap.size w (((w.alloc (Obj.cells (arrK .i64 16 (dgt u)) 26)).alloc (Obj.cells (arrK .i64 32 (cat2L (fun _ => 0) (fun _ => 0))) 135)).alloc (Obj.cells (arrK .i64 32 (cat2L (fun _ => 0) (fun _ => 0))) 135)) := by go_grown
  have hA0 : At (((w.alloc (Obj.cells (arrK .i64 16 (dgt u)) 26)).alloc (Obj.cells (arrK .i64 32 (cat2L (fun _ => 0) (fun _ => 0))) 135)).alloc (Obj.cells (arrK .i64 32 (cat2L (fun _ => 0) (fun _ => 0))) 135)) w.heap.size .i64 16 (dgt u) := (((At.new _ rfl)).old _).old _
  have hR0 : Row (((w.alloc (Obj.cells (arrK .i64 16 (dgt u)) 26)).alloc (Obj.cells (arrK .i64 32 (cat2L (fun _ => 0) (fun _ => 0))) 135)).alloc (Obj.cells (arrK .i64 32 (cat2L (fun _ => 0) (fun _ => 0))) 135)) (w.heap.size + 1) 32 := (((At.new (k := .i64) (f := (cat2L (fun _ => 0) (fun _ => 0))) _ (by simp))).old _).row
  have hQ0 : Row (((w.alloc (Obj.cells (arrK .i64 16 (dgt u)) 26)).alloc (Obj.cells (arrK .i64 32 (cat2L (fun _ => 0) (fun _ => 0))) 135)).alloc (Obj.cells (arrK .i64 32 (cat2L (fun _ => 0) (fun _ => 0))) 135)) (w.heap.size + 1 + 1) 32 := (At.new (k := .i64) (f := (cat2L (fun _ => 0) (fun _ => 0))) _ (by simp)).row
  have hV30 : IsN (((w.alloc (Obj.cells (arrK .i64 16 (dgt u)) 26)).alloc (Obj.cells (arrK .i64 32 (cat2L (fun _ => 0) (fun _ => 0))) 135)).alloc (Obj.cells (arrK .i64 32 (cat2L (fun _ => 0) (fun _ => 0))) 135)) (.slice A m cp) n := ((hV.out.alloc _).alloc _).alloc _
  have hL := Lib.hid hL0
  have hA := Lib.hid hA0
  have hR := Lib.hid hR0
  have hQ := Lib.hid hQ0
  have hV3 := Lib.hid hV30
  clear hV
  clear hL0 hA0 hR0 hQ0 hV30
  go_enter Try.func111, Try.ntmps111
  go_upto_region 1 with (fail)
  generalize ((w.alloc _).alloc _).alloc _ = W0 at *
  go_upto_region 3 with (fail)
  have hV4 := Lib.hid (hV3.out.alloc (.cells #[.int .i64 2] 3))
  have hTw := Lib.hid (IsV.lit W0 3 (d := 2) (by omega))
  replace hA := Lib.hid (hA.out.old (.cells #[.int .i64 2] 3))
  replace hR := Lib.hid ((row_old (o := .cells #[.int .i64 2] 3) hR.out.lt).2 hR.out)
  replace hQ := Lib.hid ((row_old (o := .cells #[.int .i64 2] 3) hQ.out.lt).2 hQ.out)
  replace hL := Lib.hid (Below.trans hL.out ((below_alloc W0 (.cells #[.int .i64 2] 3)).mono hL.out.size))
  clear hV3
  go_upto_region 4 with (fail)
  refine (kP.out _ _ hV4.out hTw.out).mono ?_
  rintro e w2 ⟨qv, rv, rfl, hqv, hrv, hb⟩
  have hQv := Lib.hid hqv
  obtain ⟨rA, rm, rc, rfl, hrmc, hrcm, hrm0⟩ := hrv.form
  replace hrm0 := Lib.hid hrm0
  replace hA := Lib.hid (hA.out.step hb)
  replace hR := Lib.hid (row_below hR.out hb hR.out.lt)
  replace hQ := Lib.hid (row_below hQ.out hb hQ.out.lt)
  replace hL := Lib.hid (below_step hb hL.out (Nat.le_refl _))
  clear hqv hrv hb kP hV4 hTw
  dsimp only
  have hr1 := hA.out.row
  have hr2 := hA.out.eq
  go_upto_region 5 with (fail)
  refine (ih.out _ _ hQv.out).mono ?_
  rintro e w3 ⟨rfl, hb⟩
  replace hA := Lib.hid (hA.out.step hb)
  replace hR := Lib.hid (row_below hR.out hb hR.out.lt)
  replace hQ := Lib.hid (row_below hQ.out hb hQ.out.lt)
  replace hL := Lib.hid (below_step hb hL.out (Nat.le_refl _))
  clear hr1 hr2 hb ih hQv
  have hltR := hR.out.lt
  have hltQ := hQ.out.lt
  replace hA := Lib.hid ((hA.out.old (Obj.cells (arrK .i64 32 (cat2L (dgt a) (dgt b))) 135)).old (Obj.cells (arrK .i64 32 (cat2L (dgt c) (dgt d))) 135))
  replace hR := Lib.hid ((row_old (w := w3.alloc (Obj.cells (arrK .i64 32 (cat2L (dgt a) (dgt b))) 135)) (o := (Obj.cells (arrK .i64 32 (cat2L (dgt c) (dgt d))) 135)) (by simp; omega)).2 ((row_old (o := (Obj.cells (arrK .i64 32 (cat2L (dgt a) (dgt b))) 135)) hltR).2 hR.out))
  replace hQ := Lib.hid ((row_old (w := w3.alloc (Obj.cells (arrK .i64 32 (cat2L (dgt a) (dgt b))) 135)) (o := (Obj.cells (arrK .i64 32 (cat2L (dgt c) (dgt d))) 135)) (by simp; omega)).2 ((row_old (o := (Obj.cells (arrK .i64 32 (cat2L (dgt a) (dgt b))) 135)) hltQ).2 hQ.out))
  replace hL := Lib.hid (Below.trans (Below.trans hL.out ((below_alloc w3 (Obj.cells (arrK .i64 32 (cat2L (dgt a) (dgt b))) 135)).mono hL.out.size)) ((below_alloc (w3.alloc (Obj.cells (arrK .i64 32 (cat2L (dgt a) (dgt b))) 135)) (Obj.cells (arrK .i64 32 (cat2L (dgt c) (dgt d))) 135)).mono (by simp; have := hL.out.size; omega)))
  have hX8 := Lib.hid ((At.new (w := w3) (k := .i64) (m := 32) (f := cat2L (dgt a) (dgt b)) 135 rfl).old (Obj.cells (arrK .i64 32 (cat2L (dgt c) (dgt d))) 135))
  have hX9 := Lib.hid (At.new (w := w3.alloc (Obj.cells (arrK .i64 32 (cat2L (dgt a) (dgt b))) 135)) (g := w3.heap.size + 1) (k := .i64) (m := 32) (f := cat2L (dgt c) (dgt d)) 135 (by simp))
  dsimp only
  go_upto_region 5 with (fail)
  obtain ⟨g8, hg⟩ : ∃ g, w3.heap.size = g := ⟨_, rfl⟩
  rw [hg] at hX8 hX9 hltR hltQ ⊢
  clear hg
  obtain ⟨g9, hg⟩ : ∃ g, g8 + 1 = g := ⟨_, rfl⟩
  rw [hg] at hX9 ⊢
  clear hg hltR hltQ
  generalize (w3.alloc _).alloc _ = W3 at *
  generalize ha0 : Act.mk _ _ = a0
  have e8 : a0.tmps[8]?.getD undef = .pointer (some ⟨g8, 0, none⟩) := by rw [← ha0]; rfl
  have e9 : a0.tmps[9]?.getD undef = .pointer (some ⟨g9, 0, none⟩) := by rw [← ha0]; rfl
  have hz0 : a0.tmps.size = 82 := by rw [← ha0]; rfl
  have hha0 := Lib.hid ha0
  clear ha0
  refine wp_region_fresh ⟨fun jx_ => match jx_ with | 0 => some (.pointer (some ⟨g8, 0, none⟩)) | 1 => some (.agg (arrK .i64 16 (dgt a))) | 2 => some (.pointer (some ⟨g9, 0, none⟩)) | 3 => some (.agg (arrK .i64 16 (dgt c))) | 4 => some (.agg (arrK .i64 16 (dgt xv))) | 5 => some (.pointer (some ⟨g8, 16, none⟩)) | 6 => some (.agg (arrK .i64 16 (dgt b))) | 7 => some (.pointer (some ⟨g9, 16, none⟩)) | 8 => some (.agg (arrK .i64 16 (dgt d))) | 9 => some (.agg (arrK .i64 16 (dgt zw))) | _ => none, fun jx_ => match jx_ with | 10 => some 16 | 11 => some 16 | _ => none, fun jx_ => match jx_ with | 12 => some 10 | 13 => some 11 | _ => none, fun jx_ => match jx_ with | 12 => arrK .i64 16 (dgt xv) | 13 => arrK .i64 16 (dgt zw) | _ => #[]⟩ (by kernel_rfl) (by kernel_rfl) (by kernel_rfl) (slotsOk_of hz0 (by kernel_rfl)) rfl ⟨?_, ?_, ?_, ?_, ?_, ?_, ?_, ?_, ?_, ?_, ?_, ?_, ?_, ?_, trivial⟩ ?_
  · refine fstep_val rfl rfl (calm_step rfl fun aa ω κ hb hu hc hK => ?_)
    have h8 : aa.tmps[8]?.getD undef = .pointer (some ⟨g8, 0, none⟩) := (hu 8 rfl).trans e8
    have hk := Lib.hid (fun w1 (h : Below ω.heap.size ω w1) => hK (.pointer (some ⟨g8, 0, none⟩)) w1 rfl h)
    clear hK hu hc
    go_simp
    exact hk.out _ (Below.refl _ _)
  · refine fstep_val rfl rfl (calm_step rfl fun aa ω κ hb hu hc hK => ?_)
    have h38 : aa.tmps[38]?.getD undef = .pointer (some ⟨g8, 0, none⟩) := hc 0 38 rfl rfl
    have hk := Lib.hid (fun w1 (h : Below ω.heap.size ω w1) => hK (.agg (arrK .i64 16 (dgt a))) w1 rfl h)
    clear hK hu hc
    have hl := f2_0 (hX8.out.step hb)
    have hl1 := hl.1
    have hl2 := hl.2
    go_simp
    exact hk.out _ (Below.refl _ _)
  · refine fstep_val rfl rfl (calm_step rfl fun aa ω κ hb hu hc hK => ?_)
    have h9 : aa.tmps[9]?.getD undef = .pointer (some ⟨g9, 0, none⟩) := (hu 9 rfl).trans e9
    have hk := Lib.hid (fun w1 (h : Below ω.heap.size ω w1) => hK (.pointer (some ⟨g9, 0, none⟩)) w1 rfl h)
    clear hK hu hc
    go_simp
    exact hk.out _ (Below.refl _ _)
  · refine fstep_val rfl rfl (calm_step rfl fun aa ω κ hb hu hc hK => ?_)
    have h40 : aa.tmps[40]?.getD undef = .pointer (some ⟨g9, 0, none⟩) := hc 2 40 rfl rfl
    have hk := Lib.hid (fun w1 (h : Below ω.heap.size ω w1) => hK (.agg (arrK .i64 16 (dgt c))) w1 rfl h)
    clear hK hu hc
    have hl := f2_0 (hX9.out.step hb)
    have hl1 := hl.1
    have hl2 := hl.2
    go_simp
    exact hk.out _ (Below.refl _ _)
  · refine fstep_val rfl rfl (calm_step rfl fun aa ω κ hb hu hc hK => ?_)
    have h39 : aa.tmps[39]?.getD undef = .agg (arrK .i64 16 (dgt a)) := hc 1 39 rfl rfl
    have h41 : aa.tmps[41]?.getD undef = .agg (arrK .i64 16 (dgt c)) := hc 3 41 rfl rfl
    have hk := Lib.hid (fun w1 (h : Below ω.heap.size ω w1) => hK (.agg (arrK .i64 16 (dgt xv))) w1 rfl h)
    clear hK hu hc
    go_simp
    go_at_call 25
    refine (kxv.out _).mono ?_
    rintro e w1 ⟨rfl, hb1⟩
    exact hk.out _ hb1
  · refine fstep_val rfl rfl (calm_step rfl fun aa ω κ hb hu hc hK => ?_)
    have h8 : aa.tmps[8]?.getD undef = .pointer (some ⟨g8, 0, none⟩) := (hu 8 rfl).trans e8
    have hk := Lib.hid (fun w1 (h : Below ω.heap.size ω w1) => hK (.pointer (some ⟨g8, 16, none⟩)) w1 rfl h)
    clear hK hu hc
    go_simp
    exact hk.out _ (Below.refl _ _)
  · refine fstep_val rfl rfl (calm_step rfl fun aa ω κ hb hu hc hK => ?_)
    have h43 : aa.tmps[43]?.getD undef = .pointer (some ⟨g8, 16, none⟩) := hc 5 43 rfl rfl
    have hk := Lib.hid (fun w1 (h : Below ω.heap.size ω w1) => hK (.agg (arrK .i64 16 (dgt b))) w1 rfl h)
    clear hK hu hc
    have hl := f2_1 (hX8.out.step hb)
    have hl1 := hl.1
    have hl2 := hl.2
    go_simp
    exact hk.out _ (Below.refl _ _)
  · refine fstep_val rfl rfl (calm_step rfl fun aa ω κ hb hu hc hK => ?_)
    have h9 : aa.tmps[9]?.getD undef = .pointer (some ⟨g9, 0, none⟩) := (hu 9 rfl).trans e9
    have hk := Lib.hid (fun w1 (h : Below ω.heap.size ω w1) => hK (.pointer (some ⟨g9, 16, none⟩)) w1 rfl h)
    clear hK hu hc
    go_simp
    exact hk.out _ (Below.refl _ _)
  · refine fstep_val rfl rfl (calm_step rfl fun aa ω κ hb hu hc hK => ?_)
    have h45 : aa.tmps[45]?.getD undef = .pointer (some ⟨g9, 16, none⟩) := hc 7 45 rfl rfl
    have hk := Lib.hid (fun w1 (h : Below ω.heap.size ω w1) => hK (.agg (arrK .i64 16 (dgt d))) w1 rfl h)
    clear hK hu hc
    have hl := f2_1 (hX9.out.step hb)
    have hl1 := hl.1
    have hl2 := hl.2
    go_simp
    exact hk.out _ (Below.refl _ _)
  · refine fstep_val rfl rfl (calm_step rfl fun aa ω κ hb hu hc hK => ?_)
    have h44 : aa.tmps[44]?.getD undef = .agg (arrK .i64 16 (dgt b)) := hc 6 44 rfl rfl
    have h46 : aa.tmps[46]?.getD undef = .agg (arrK .i64 16 (dgt d)) := hc 8 46 rfl rfl
    have hk := Lib.hid (fun w1 (h : Below ω.heap.size ω w1) => hK (.agg (arrK .i64 16 (dgt zw))) w1 rfl h)
    clear hK hu hc
    go_simp
    go_at_call 25
    refine (kzw.out _).mono ?_
    rintro e w1 ⟨rfl, hb1⟩
    exact hk.out _ hb1
  · refine fstep_al (n := 16) rfl rfl fun aa ω κ hK => ?_
    have hk := Lib.hid hK
    clear hK
    go_simp
    exact hk.out _ _ hc0
  · refine fstep_al (n := 16) rfl rfl fun aa ω κ hK => ?_
    have hk := Lib.hid hK
    clear hK
    go_simp
    exact hk.out _ _ hc0
  · refine fstep_st (j := 10) (n := 16) (d := 10) rfl rfl rfl rfl rfl hcxv.1 rfl rfl fun aa ω κ g hb hu hc hp hr hK => ?_
    have h42 : aa.tmps[42]?.getD undef = .agg (arrK .i64 16 (dgt xv)) := hc 4 42 rfl rfl
    have hk := Lib.hid hK
    clear hK hu hc
    have hcc := hcxv
    go_simp
    exact hk.out undef
  · refine fstep_st (j := 11) (n := 16) (d := 11) rfl rfl rfl rfl rfl hczw.1 rfl rfl fun aa ω κ g hb hu hc hp hr hK => ?_
    have h47 : aa.tmps[47]?.getD undef = .agg (arrK .i64 16 (dgt zw)) := hc 9 47 rfl rfl
    have hk := Lib.hid hK
    clear hK hu hc
    have hcc := hczw
    go_simp
    exact hk.out undef
  · intro a1 w1 G I
    have ha0 := hha0.out
    subst ha0
    have he := act_patch (n := 82) [false, false, false, false, false, false, false, false, false, false, true, true, false, false, false, false, false, false, false, false, false, false, false, false, false, false, false, false, false, false, false, false, false, false, false, false, false, false, true, true, true, true, true, true, true, true, true, true, false, false, false, false, false, false, false, false, false, false, false, false, false, false, false, false, false, false, false, false, false, false, false, false, false, false, false, false, false, false, false, false, false, false] rfl (by kernel_rfl) I.un I.sz I.df
    simp only [patch, cond_true, cond_false, Nat.reduceAdd] at he
    have hal10 := I.al 10 10 16 rfl rfl rfl
    have hal11 := I.al 11 11 16 rfl rfl rfl
    replace hA := Lib.hid (hA.out.step I.bel)
    replace hR := Lib.hid (row_below hR.out I.bel hR.out.lt)
    replace hQ := Lib.hid (row_below hQ.out I.bel hQ.out.lt)
    replace hL := Lib.hid (below_step I.bel hL.out (Nat.le_refl _))
    replace hX8 := Lib.hid (hX8.out.step I.bel)
    replace hX9 := Lib.hid (hX9.out.step I.bel)
    have hX10 := Lib.hid (show At w1 (G 10) .i64 16 (dgt xv) from ⟨(I.blk 10 16 rfl rfl).2, (I.row 12 10 rfl rfl).2.2⟩)
    have hX11 := Lib.hid (show At w1 (G 11) .i64 16 (dgt zw) from ⟨(I.blk 11 16 rfl rfl).2, (I.row 13 11 rfl rfl).2.2⟩)
    clear kxv kzw
    clear I hz0 hha0 e8 e9
    rw [he]
    clear he
    rw [hal10]
    rw [hal11]
    clear hal10 hal11
    generalize a1.tmps[38]?.getD undef = x38 at *
    generalize a1.tmps[39]?.getD undef = x39 at *
    generalize a1.tmps[40]?.getD undef = x40 at *
    generalize a1.tmps[41]?.getD undef = x41 at *
    generalize a1.tmps[42]?.getD undef = x42 at *
    generalize a1.tmps[43]?.getD undef = x43 at *
    generalize a1.tmps[44]?.getD undef = x44 at *
    generalize a1.tmps[45]?.getD undef = x45 at *
    generalize a1.tmps[46]?.getD undef = x46 at *
    generalize a1.tmps[47]?.getD undef = x47 at *
    obtain ⟨g10, hgz⟩ : ∃ g, G 10 = g := ⟨_, rfl⟩
    rw [hgz] at hX10 ⊢
    clear hgz
    obtain ⟨g11, hgz⟩ : ∃ g, G 11 = g := ⟨_, rfl⟩
    rw [hgz] at hX11 ⊢
    clear hgz
    generalize w1 = W5 at *
    go_upto_region 6 with (fail)
    generalize ha0 : Act.mk _ _ = a0
    have e8 : a0.tmps[8]?.getD undef = .pointer (some ⟨g8, 0, none⟩) := by rw [← ha0]; rfl
    have e9 : a0.tmps[9]?.getD undef = .pointer (some ⟨g9, 0, none⟩) := by rw [← ha0]; rfl
    have hz0 : a0.tmps.size = 82 := by rw [← ha0]; rfl
    have hha0 := Lib.hid ha0
    clear ha0
    refine wp_region_fresh ⟨fun jx_ => match jx_ with | 0 => some (.pointer (some ⟨g8, 0, none⟩)) | 1 => some (.agg (arrK .i64 16 (dgt a))) | 2 => some (.pointer (some ⟨g9, 16, none⟩)) | 3 => some (.agg (arrK .i64 16 (dgt d))) | 4 => some (.agg (arrK .i64 16 (dgt xw))) | 5 => some (.pointer (some ⟨g8, 16, none⟩)) | 6 => some (.agg (arrK .i64 16 (dgt b))) | 7 => some (.pointer (some ⟨g9, 0, none⟩)) | 8 => some (.agg (arrK .i64 16 (dgt c))) | 9 => some (.agg (arrK .i64 16 (dgt zv))) | _ => none, fun jx_ => match jx_ with | 10 => some 16 | 11 => some 16 | _ => none, fun jx_ => match jx_ with | 12 => some 10 | 13 => some 11 | _ => none, fun jx_ => match jx_ with | 12 => arrK .i64 16 (dgt xw) | 13 => arrK .i64 16 (dgt zv) | _ => #[]⟩ (by kernel_rfl) (by kernel_rfl) (by kernel_rfl) (slotsOk_of hz0 (by kernel_rfl)) rfl ⟨?_, ?_, ?_, ?_, ?_, ?_, ?_, ?_, ?_, ?_, ?_, ?_, ?_, ?_, trivial⟩ ?_
    · refine fstep_val rfl rfl (calm_step rfl fun aa ω κ hb hu hc hK => ?_)
      have h8 : aa.tmps[8]?.getD undef = .pointer (some ⟨g8, 0, none⟩) := (hu 8 rfl).trans e8
      have hk := Lib.hid (fun w1 (h : Below ω.heap.size ω w1) => hK (.pointer (some ⟨g8, 0, none⟩)) w1 rfl h)
      clear hK hu hc
      go_simp
      exact hk.out _ (Below.refl _ _)
    · refine fstep_val rfl rfl (calm_step rfl fun aa ω κ hb hu hc hK => ?_)
      have h48 : aa.tmps[48]?.getD undef = .pointer (some ⟨g8, 0, none⟩) := hc 0 48 rfl rfl
      have hk := Lib.hid (fun w1 (h : Below ω.heap.size ω w1) => hK (.agg (arrK .i64 16 (dgt a))) w1 rfl h)
      clear hK hu hc
      have hl := f2_0 (hX8.out.step hb)
      have hl1 := hl.1
      have hl2 := hl.2
      go_simp
      exact hk.out _ (Below.refl _ _)
    · refine fstep_val rfl rfl (calm_step rfl fun aa ω κ hb hu hc hK => ?_)
      have h9 : aa.tmps[9]?.getD undef = .pointer (some ⟨g9, 0, none⟩) := (hu 9 rfl).trans e9
      have hk := Lib.hid (fun w1 (h : Below ω.heap.size ω w1) => hK (.pointer (some ⟨g9, 16, none⟩)) w1 rfl h)
      clear hK hu hc
      go_simp
      exact hk.out _ (Below.refl _ _)
    · refine fstep_val rfl rfl (calm_step rfl fun aa ω κ hb hu hc hK => ?_)
      have h50 : aa.tmps[50]?.getD undef = .pointer (some ⟨g9, 16, none⟩) := hc 2 50 rfl rfl
      have hk := Lib.hid (fun w1 (h : Below ω.heap.size ω w1) => hK (.agg (arrK .i64 16 (dgt d))) w1 rfl h)
      clear hK hu hc
      have hl := f2_1 (hX9.out.step hb)
      have hl1 := hl.1
      have hl2 := hl.2
      go_simp
      exact hk.out _ (Below.refl _ _)
    · refine fstep_val rfl rfl (calm_step rfl fun aa ω κ hb hu hc hK => ?_)
      have h49 : aa.tmps[49]?.getD undef = .agg (arrK .i64 16 (dgt a)) := hc 1 49 rfl rfl
      have h51 : aa.tmps[51]?.getD undef = .agg (arrK .i64 16 (dgt d)) := hc 3 51 rfl rfl
      have hk := Lib.hid (fun w1 (h : Below ω.heap.size ω w1) => hK (.agg (arrK .i64 16 (dgt xw))) w1 rfl h)
      clear hK hu hc
      go_simp
      go_at_call 25
      refine (kxw.out _).mono ?_
      rintro e w1 ⟨rfl, hb1⟩
      exact hk.out _ hb1
    · refine fstep_val rfl rfl (calm_step rfl fun aa ω κ hb hu hc hK => ?_)
      have h8 : aa.tmps[8]?.getD undef = .pointer (some ⟨g8, 0, none⟩) := (hu 8 rfl).trans e8
      have hk := Lib.hid (fun w1 (h : Below ω.heap.size ω w1) => hK (.pointer (some ⟨g8, 16, none⟩)) w1 rfl h)
      clear hK hu hc
      go_simp
      exact hk.out _ (Below.refl _ _)
    · refine fstep_val rfl rfl (calm_step rfl fun aa ω κ hb hu hc hK => ?_)
      have h53 : aa.tmps[53]?.getD undef = .pointer (some ⟨g8, 16, none⟩) := hc 5 53 rfl rfl
      have hk := Lib.hid (fun w1 (h : Below ω.heap.size ω w1) => hK (.agg (arrK .i64 16 (dgt b))) w1 rfl h)
      clear hK hu hc
      have hl := f2_1 (hX8.out.step hb)
      have hl1 := hl.1
      have hl2 := hl.2
      go_simp
      exact hk.out _ (Below.refl _ _)
    · refine fstep_val rfl rfl (calm_step rfl fun aa ω κ hb hu hc hK => ?_)
      have h9 : aa.tmps[9]?.getD undef = .pointer (some ⟨g9, 0, none⟩) := (hu 9 rfl).trans e9
      have hk := Lib.hid (fun w1 (h : Below ω.heap.size ω w1) => hK (.pointer (some ⟨g9, 0, none⟩)) w1 rfl h)
      clear hK hu hc
      go_simp
      exact hk.out _ (Below.refl _ _)
    · refine fstep_val rfl rfl (calm_step rfl fun aa ω κ hb hu hc hK => ?_)
      have h55 : aa.tmps[55]?.getD undef = .pointer (some ⟨g9, 0, none⟩) := hc 7 55 rfl rfl
      have hk := Lib.hid (fun w1 (h : Below ω.heap.size ω w1) => hK (.agg (arrK .i64 16 (dgt c))) w1 rfl h)
      clear hK hu hc
      have hl := f2_0 (hX9.out.step hb)
      have hl1 := hl.1
      have hl2 := hl.2
      go_simp
      exact hk.out _ (Below.refl _ _)
    · refine fstep_val rfl rfl (calm_step rfl fun aa ω κ hb hu hc hK => ?_)
      have h54 : aa.tmps[54]?.getD undef = .agg (arrK .i64 16 (dgt b)) := hc 6 54 rfl rfl
      have h56 : aa.tmps[56]?.getD undef = .agg (arrK .i64 16 (dgt c)) := hc 8 56 rfl rfl
      have hk := Lib.hid (fun w1 (h : Below ω.heap.size ω w1) => hK (.agg (arrK .i64 16 (dgt zv))) w1 rfl h)
      clear hK hu hc
      go_simp
      go_at_call 25
      refine (kzv.out _).mono ?_
      rintro e w1 ⟨rfl, hb1⟩
      exact hk.out _ hb1
    · refine fstep_al (n := 16) rfl rfl fun aa ω κ hK => ?_
      have hk := Lib.hid hK
      clear hK
      go_simp
      exact hk.out _ _ hc0
    · refine fstep_al (n := 16) rfl rfl fun aa ω κ hK => ?_
      have hk := Lib.hid hK
      clear hK
      go_simp
      exact hk.out _ _ hc0
    · refine fstep_st (j := 10) (n := 16) (d := 12) rfl rfl rfl rfl rfl hcxw.1 rfl rfl fun aa ω κ g hb hu hc hp hr hK => ?_
      have h52 : aa.tmps[52]?.getD undef = .agg (arrK .i64 16 (dgt xw)) := hc 4 52 rfl rfl
      have hk := Lib.hid hK
      clear hK hu hc
      have hcc := hcxw
      go_simp
      exact hk.out undef
    · refine fstep_st (j := 11) (n := 16) (d := 13) rfl rfl rfl rfl rfl hczv.1 rfl rfl fun aa ω κ g hb hu hc hp hr hK => ?_
      have h57 : aa.tmps[57]?.getD undef = .agg (arrK .i64 16 (dgt zv)) := hc 9 57 rfl rfl
      have hk := Lib.hid hK
      clear hK hu hc
      have hcc := hczv
      go_simp
      exact hk.out undef
    · intro a1 w1 G I
      have ha0 := hha0.out
      subst ha0
      have he := act_patch (n := 82) [false, false, false, false, false, false, false, false, false, false, false, false, true, true, false, false, false, false, false, false, false, false, false, false, false, false, false, false, false, false, false, false, false, false, false, false, false, false, false, false, false, false, false, false, false, false, false, false, true, true, true, true, true, true, true, true, true, true, false, false, false, false, false, false, false, false, false, false, false, false, false, false, false, false, false, false, false, false, false, false, false, false] rfl (by kernel_rfl) I.un I.sz I.df
      simp only [patch, cond_true, cond_false, Nat.reduceAdd] at he
      have hal12 := I.al 10 12 16 rfl rfl rfl
      have hal13 := I.al 11 13 16 rfl rfl rfl
      replace hA := Lib.hid (hA.out.step I.bel)
      replace hR := Lib.hid (row_below hR.out I.bel hR.out.lt)
      replace hQ := Lib.hid (row_below hQ.out I.bel hQ.out.lt)
      replace hL := Lib.hid (below_step I.bel hL.out (Nat.le_refl _))
      replace hX8 := Lib.hid (hX8.out.step I.bel)
      replace hX9 := Lib.hid (hX9.out.step I.bel)
      replace hX10 := Lib.hid (hX10.out.step I.bel)
      replace hX11 := Lib.hid (hX11.out.step I.bel)
      have hX12 := Lib.hid (show At w1 (G 10) .i64 16 (dgt xw) from ⟨(I.blk 10 16 rfl rfl).2, (I.row 12 10 rfl rfl).2.2⟩)
      have hX13 := Lib.hid (show At w1 (G 11) .i64 16 (dgt zv) from ⟨(I.blk 11 16 rfl rfl).2, (I.row 13 11 rfl rfl).2.2⟩)
      clear kxw kzv
      clear I hz0 hha0 e8 e9
      rw [he]
      clear he
      rw [hal12]
      rw [hal13]
      clear hal12 hal13
      generalize a1.tmps[48]?.getD undef = x48 at *
      generalize a1.tmps[49]?.getD undef = x49 at *
      generalize a1.tmps[50]?.getD undef = x50 at *
      generalize a1.tmps[51]?.getD undef = x51 at *
      generalize a1.tmps[52]?.getD undef = x52 at *
      generalize a1.tmps[53]?.getD undef = x53 at *
      generalize a1.tmps[54]?.getD undef = x54 at *
      generalize a1.tmps[55]?.getD undef = x55 at *
      generalize a1.tmps[56]?.getD undef = x56 at *
      generalize a1.tmps[57]?.getD undef = x57 at *
      obtain ⟨g12, hgz⟩ : ∃ g, G 10 = g := ⟨_, rfl⟩
      rw [hgz] at hX12 ⊢
      clear hgz
      obtain ⟨g13, hgz⟩ : ∃ g, G 11 = g := ⟨_, rfl⟩
      rw [hgz] at hX13 ⊢
      clear hgz
      generalize w1 = W6 at *
      go_upto_region 7 with (fail)
      generalize ha0 : Act.mk _ _ = a0
      have e10 : a0.tmps[10]?.getD undef = .pointer (some ⟨g10, 0, none⟩) := by rw [← ha0]; rfl
      have e11 : a0.tmps[11]?.getD undef = .pointer (some ⟨g11, 0, none⟩) := by rw [← ha0]; rfl
      have e12 : a0.tmps[12]?.getD undef = .pointer (some ⟨g12, 0, none⟩) := by rw [← ha0]; rfl
      have e13 : a0.tmps[13]?.getD undef = .pointer (some ⟨g13, 0, none⟩) := by rw [← ha0]; rfl
      have hz0 : a0.tmps.size = 82 := by rw [← ha0]; rfl
      have hha0 := Lib.hid ha0
      clear ha0
      refine wp_region_fresh ⟨fun jx_ => match jx_ with | 0 => some (.agg (arrK .i64 16 (dgt xv))) | 1 => some (.agg (arrK .i64 16 (dgt zw))) | 2 => some (.agg (arrK .i64 16 (dgt vs))) | 3 => some (.agg (arrK .i64 16 (dgt xw))) | 4 => some (.agg (arrK .i64 16 (dgt zv))) | 5 => some (.agg (arrK .i64 16 (dgt vt))) | _ => none, fun jx_ => match jx_ with | 6 => some 16 | 7 => some 16 | _ => none, fun jx_ => match jx_ with | 8 => some 6 | 9 => some 7 | _ => none, fun jx_ => match jx_ with | 8 => arrK .i64 16 (dgt vs) | 9 => arrK .i64 16 (dgt vt) | _ => #[]⟩ (by kernel_rfl) (by kernel_rfl) (by kernel_rfl) (slotsOk_of hz0 (by kernel_rfl)) rfl ⟨?_, ?_, ?_, ?_, ?_, ?_, ?_, ?_, ?_, ?_, trivial⟩ ?_
      · refine fstep_val rfl rfl (calm_step rfl fun aa ω κ hb hu hc hK => ?_)
        have h10 : aa.tmps[10]?.getD undef = .pointer (some ⟨g10, 0, none⟩) := (hu 10 rfl).trans e10
        have hk := Lib.hid (fun w1 (h : Below ω.heap.size ω w1) => hK (.agg (arrK .i64 16 (dgt xv))) w1 rfl h)
        clear hK hu hc
        have hr1 := (hX10.out.step hb).row
        have hr2 := (hX10.out.step hb).eq
        go_simp
        exact hk.out _ (Below.refl _ _)
      · refine fstep_val rfl rfl (calm_step rfl fun aa ω κ hb hu hc hK => ?_)
        have h11 : aa.tmps[11]?.getD undef = .pointer (some ⟨g11, 0, none⟩) := (hu 11 rfl).trans e11
        have hk := Lib.hid (fun w1 (h : Below ω.heap.size ω w1) => hK (.agg (arrK .i64 16 (dgt zw))) w1 rfl h)
        clear hK hu hc
        have hr1 := (hX11.out.step hb).row
        have hr2 := (hX11.out.step hb).eq
        go_simp
        exact hk.out _ (Below.refl _ _)
      · refine fstep_val rfl rfl (calm_step rfl fun aa ω κ hb hu hc hK => ?_)
        have h58 : aa.tmps[58]?.getD undef = .agg (arrK .i64 16 (dgt xv)) := hc 0 58 rfl rfl
        have h59 : aa.tmps[59]?.getD undef = .agg (arrK .i64 16 (dgt zw)) := hc 1 59 rfl rfl
        have hk := Lib.hid (fun w1 (h : Below ω.heap.size ω w1) => hK (.agg (arrK .i64 16 (dgt vs))) w1 rfl h)
        clear hK hu hc
        go_simp
        go_at_call 23
        refine (kvs.out _).mono ?_
        rintro e w1 ⟨rfl, hb1⟩
        exact hk.out _ hb1
      · refine fstep_val rfl rfl (calm_step rfl fun aa ω κ hb hu hc hK => ?_)
        have h12 : aa.tmps[12]?.getD undef = .pointer (some ⟨g12, 0, none⟩) := (hu 12 rfl).trans e12
        have hk := Lib.hid (fun w1 (h : Below ω.heap.size ω w1) => hK (.agg (arrK .i64 16 (dgt xw))) w1 rfl h)
        clear hK hu hc
        have hr1 := (hX12.out.step hb).row
        have hr2 := (hX12.out.step hb).eq
        go_simp
        exact hk.out _ (Below.refl _ _)
      · refine fstep_val rfl rfl (calm_step rfl fun aa ω κ hb hu hc hK => ?_)
        have h13 : aa.tmps[13]?.getD undef = .pointer (some ⟨g13, 0, none⟩) := (hu 13 rfl).trans e13
        have hk := Lib.hid (fun w1 (h : Below ω.heap.size ω w1) => hK (.agg (arrK .i64 16 (dgt zv))) w1 rfl h)
        clear hK hu hc
        have hr1 := (hX13.out.step hb).row
        have hr2 := (hX13.out.step hb).eq
        go_simp
        exact hk.out _ (Below.refl _ _)
      · refine fstep_val rfl rfl (calm_step rfl fun aa ω κ hb hu hc hK => ?_)
        have h61 : aa.tmps[61]?.getD undef = .agg (arrK .i64 16 (dgt xw)) := hc 3 61 rfl rfl
        have h62 : aa.tmps[62]?.getD undef = .agg (arrK .i64 16 (dgt zv)) := hc 4 62 rfl rfl
        have hk := Lib.hid (fun w1 (h : Below ω.heap.size ω w1) => hK (.agg (arrK .i64 16 (dgt vt))) w1 rfl h)
        clear hK hu hc
        go_simp
        go_at_call 23
        refine (kvt.out _).mono ?_
        rintro e w1 ⟨rfl, hb1⟩
        exact hk.out _ hb1
      · refine fstep_al (n := 16) rfl rfl fun aa ω κ hK => ?_
        have hk := Lib.hid hK
        clear hK
        go_simp
        exact hk.out _ _ hc0
      · refine fstep_al (n := 16) rfl rfl fun aa ω κ hK => ?_
        have hk := Lib.hid hK
        clear hK
        go_simp
        exact hk.out _ _ hc0
      · refine fstep_st (j := 6) (n := 16) (d := 14) rfl rfl rfl rfl rfl hcvs.1 rfl rfl fun aa ω κ g hb hu hc hp hr hK => ?_
        have h60 : aa.tmps[60]?.getD undef = .agg (arrK .i64 16 (dgt vs)) := hc 2 60 rfl rfl
        have hk := Lib.hid hK
        clear hK hu hc
        have hcc := hcvs
        go_simp
        exact hk.out undef
      · refine fstep_st (j := 7) (n := 16) (d := 15) rfl rfl rfl rfl rfl hcvt.1 rfl rfl fun aa ω κ g hb hu hc hp hr hK => ?_
        have h63 : aa.tmps[63]?.getD undef = .agg (arrK .i64 16 (dgt vt)) := hc 5 63 rfl rfl
        have hk := Lib.hid hK
        clear hK hu hc
        have hcc := hcvt
        go_simp
        exact hk.out undef
      · intro a1 w1 G I
        have ha0 := hha0.out
        subst ha0
        have he := act_patch (n := 82) [false, false, false, false, false, false, false, false, false, false, false, false, false, false, true, true, false, false, false, false, false, false, false, false, false, false, false, false, false, false, false, false, false, false, false, false, false, false, false, false, false, false, false, false, false, false, false, false, false, false, false, false, false, false, false, false, false, false, true, true, true, true, true, true, false, false, false, false, false, false, false, false, false, false, false, false, false, false, false, false, false, false] rfl (by kernel_rfl) I.un I.sz I.df
        simp only [patch, cond_true, cond_false, Nat.reduceAdd] at he
        have hal14 := I.al 6 14 16 rfl rfl rfl
        have hal15 := I.al 7 15 16 rfl rfl rfl
        replace hA := Lib.hid (hA.out.step I.bel)
        replace hR := Lib.hid (row_below hR.out I.bel hR.out.lt)
        replace hQ := Lib.hid (row_below hQ.out I.bel hQ.out.lt)
        replace hL := Lib.hid (below_step I.bel hL.out (Nat.le_refl _))
        replace hX8 := Lib.hid (hX8.out.step I.bel)
        replace hX9 := Lib.hid (hX9.out.step I.bel)
        replace hX10 := Lib.hid (hX10.out.step I.bel)
        replace hX11 := Lib.hid (hX11.out.step I.bel)
        replace hX12 := Lib.hid (hX12.out.step I.bel)
        replace hX13 := Lib.hid (hX13.out.step I.bel)
        have hX14 := Lib.hid (show At w1 (G 6) .i64 16 (dgt vs) from ⟨(I.blk 6 16 rfl rfl).2, (I.row 8 6 rfl rfl).2.2⟩)
        have hX15 := Lib.hid (show At w1 (G 7) .i64 16 (dgt vt) from ⟨(I.blk 7 16 rfl rfl).2, (I.row 9 7 rfl rfl).2.2⟩)
        clear kvs kvt
        clear I hz0 hha0 e10 e11 e12 e13
        rw [he]
        clear he
        rw [hal14]
        rw [hal15]
        clear hal14 hal15
        generalize a1.tmps[58]?.getD undef = x58 at *
        generalize a1.tmps[59]?.getD undef = x59 at *
        generalize a1.tmps[60]?.getD undef = x60 at *
        generalize a1.tmps[61]?.getD undef = x61 at *
        generalize a1.tmps[62]?.getD undef = x62 at *
        generalize a1.tmps[63]?.getD undef = x63 at *
        obtain ⟨g14, hgz⟩ : ∃ g, G 6 = g := ⟨_, rfl⟩
        rw [hgz] at hX14 ⊢
        clear hgz
        obtain ⟨g15, hgz⟩ : ∃ g, G 7 = g := ⟨_, rfl⟩
        rw [hgz] at hX15 ⊢
        clear hgz
        generalize w1 = W7 at *
        go_upto_region 8 with (fail)
        generalize ha0 : Act.mk _ _ = a0
        have e3 : a0.tmps[3]?.getD undef = .pointer (some ⟨w.heap.size, 0, none⟩) := by rw [← ha0]; rfl
        have e14 : a0.tmps[14]?.getD undef = .pointer (some ⟨g14, 0, none⟩) := by rw [← ha0]; rfl
        have e15 : a0.tmps[15]?.getD undef = .pointer (some ⟨g15, 0, none⟩) := by rw [← ha0]; rfl
        have hz0 : a0.tmps.size = 82 := by rw [← ha0]; rfl
        have hha0 := Lib.hid ha0
        clear ha0
        refine wp_region_fresh ⟨fun jx_ => match jx_ with | 0 => some (.agg (arrK .i64 16 (dgt vs))) | 1 => some (.agg (arrK .i64 16 (dgt vs))) | 2 => some (.agg (arrK .i64 16 (dgt b1))) | 3 => some (.agg (arrK .i64 16 (dgt u))) | 4 => some (.agg (arrK .i64 16 (dgt vt))) | 5 => some (.agg (arrK .i64 16 (dgt vt))) | 6 => some (.agg (arrK .i64 16 (dgt tt))) | 7 => some (.agg (arrK .i64 16 (dgt b2))) | 8 => some (.agg (arrK .i64 32 (cat2L (dgt b1) (dgt b2)))) | _ => none, fun jx_ => match jx_ with | 9 => some 32 | _ => none, fun jx_ => match jx_ with | 10 => some 9 | _ => none, fun jx_ => match jx_ with | 10 => arrK .i64 32 (cat2L (dgt b1) (dgt b2)) | _ => #[]⟩ (by kernel_rfl) (by kernel_rfl) (by kernel_rfl) (slotsOk_of hz0 (by kernel_rfl)) rfl ⟨?_, ?_, ?_, ?_, ?_, ?_, ?_, ?_, ?_, ?_, ?_, trivial⟩ ?_
        · refine fstep_val rfl rfl (calm_step rfl fun aa ω κ hb hu hc hK => ?_)
          have h14 : aa.tmps[14]?.getD undef = .pointer (some ⟨g14, 0, none⟩) := (hu 14 rfl).trans e14
          have hk := Lib.hid (fun w1 (h : Below ω.heap.size ω w1) => hK (.agg (arrK .i64 16 (dgt vs))) w1 rfl h)
          clear hK hu hc
          have hr1 := (hX14.out.step hb).row
          have hr2 := (hX14.out.step hb).eq
          go_simp
          exact hk.out _ (Below.refl _ _)
        · refine fstep_val rfl rfl (calm_step rfl fun aa ω κ hb hu hc hK => ?_)
          have h14 : aa.tmps[14]?.getD undef = .pointer (some ⟨g14, 0, none⟩) := (hu 14 rfl).trans e14
          have hk := Lib.hid (fun w1 (h : Below ω.heap.size ω w1) => hK (.agg (arrK .i64 16 (dgt vs))) w1 rfl h)
          clear hK hu hc
          have hr1 := (hX14.out.step hb).row
          have hr2 := (hX14.out.step hb).eq
          go_simp
          exact hk.out _ (Below.refl _ _)
        · refine fstep_val rfl rfl (calm_step rfl fun aa ω κ hb hu hc hK => ?_)
          have h64 : aa.tmps[64]?.getD undef = .agg (arrK .i64 16 (dgt vs)) := hc 0 64 rfl rfl
          have h65 : aa.tmps[65]?.getD undef = .agg (arrK .i64 16 (dgt vs)) := hc 1 65 rfl rfl
          have hk := Lib.hid (fun w1 (h : Below ω.heap.size ω w1) => hK (.agg (arrK .i64 16 (dgt b1))) w1 rfl h)
          clear hK hu hc
          go_simp
          go_at_call 25
          refine (kb1.out _).mono ?_
          rintro e w1 ⟨rfl, hb1⟩
          exact hk.out _ hb1
        · refine fstep_val rfl rfl (calm_step rfl fun aa ω κ hb hu hc hK => ?_)
          have h3 : aa.tmps[3]?.getD undef = .pointer (some ⟨w.heap.size, 0, none⟩) := (hu 3 rfl).trans e3
          have hk := Lib.hid (fun w1 (h : Below ω.heap.size ω w1) => hK (.agg (arrK .i64 16 (dgt u))) w1 rfl h)
          clear hK hu hc
          have hr1 := (hA.out.step hb).row
          have hr2 := (hA.out.step hb).eq
          go_simp
          exact hk.out _ (Below.refl _ _)
        · refine fstep_val rfl rfl (calm_step rfl fun aa ω κ hb hu hc hK => ?_)
          have h15 : aa.tmps[15]?.getD undef = .pointer (some ⟨g15, 0, none⟩) := (hu 15 rfl).trans e15
          have hk := Lib.hid (fun w1 (h : Below ω.heap.size ω w1) => hK (.agg (arrK .i64 16 (dgt vt))) w1 rfl h)
          clear hK hu hc
          have hr1 := (hX15.out.step hb).row
          have hr2 := (hX15.out.step hb).eq
          go_simp
          exact hk.out _ (Below.refl _ _)
        · refine fstep_val rfl rfl (calm_step rfl fun aa ω κ hb hu hc hK => ?_)
          have h15 : aa.tmps[15]?.getD undef = .pointer (some ⟨g15, 0, none⟩) := (hu 15 rfl).trans e15
          have hk := Lib.hid (fun w1 (h : Below ω.heap.size ω w1) => hK (.agg (arrK .i64 16 (dgt vt))) w1 rfl h)
          clear hK hu hc
          have hr1 := (hX15.out.step hb).row
          have hr2 := (hX15.out.step hb).eq
          go_simp
          exact hk.out _ (Below.refl _ _)
        · refine fstep_val rfl rfl (calm_step rfl fun aa ω κ hb hu hc hK => ?_)
          have h68 : aa.tmps[68]?.getD undef = .agg (arrK .i64 16 (dgt vt)) := hc 4 68 rfl rfl
          have h69 : aa.tmps[69]?.getD undef = .agg (arrK .i64 16 (dgt vt)) := hc 5 69 rfl rfl
          have hk := Lib.hid (fun w1 (h : Below ω.heap.size ω w1) => hK (.agg (arrK .i64 16 (dgt tt))) w1 rfl h)
          clear hK hu hc
          go_simp
          go_at_call 25
          refine (ktt.out _).mono ?_
          rintro e w1 ⟨rfl, hb1⟩
          exact hk.out _ hb1
        · refine fstep_val rfl rfl (calm_step rfl fun aa ω κ hb hu hc hK => ?_)
          have h67 : aa.tmps[67]?.getD undef = .agg (arrK .i64 16 (dgt u)) := hc 3 67 rfl rfl
          have h70 : aa.tmps[70]?.getD undef = .agg (arrK .i64 16 (dgt tt)) := hc 6 70 rfl rfl
          have hk := Lib.hid (fun w1 (h : Below ω.heap.size ω w1) => hK (.agg (arrK .i64 16 (dgt b2))) w1 rfl h)
          clear hK hu hc
          go_simp
          go_at_call 25
          refine (kb2.out _).mono ?_
          rintro e w1 ⟨rfl, hb1⟩
          exact hk.out _ hb1
        · refine fstep_val rfl rfl (calm_step rfl fun aa ω κ hb hu hc hK => ?_)
          have h66 : aa.tmps[66]?.getD undef = .agg (arrK .i64 16 (dgt b1)) := hc 2 66 rfl rfl
          have h71 : aa.tmps[71]?.getD undef = .agg (arrK .i64 16 (dgt b2)) := hc 7 71 rfl rfl
          have hk := Lib.hid (fun w1 (h : Below ω.heap.size ω w1) => hK (.agg (arrK .i64 32 (cat2L (dgt b1) (dgt b2)))) w1 rfl h)
          clear hK hu hc
          exact wp_bldB (v0 := .agg (arrK .i64 16 (dgt b1))) (v1 := .agg (arrK .i64 16 (dgt b2))) rfl (by go_simp) (by go_simp) (build_f2 _ _ _) (hk.out _ (Below.refl _ _))
        · refine fstep_al (n := 32) rfl rfl fun aa ω κ hK => ?_
          have hk := Lib.hid hK
          clear hK
          go_simp
          exact hk.out _ _ hcz
        · refine fstep_st (j := 9) (n := 32) (d := 16) rfl rfl rfl rfl rfl hcb.1 rfl rfl fun aa ω κ g hb hu hc hp hr hK => ?_
          have h72 : aa.tmps[72]?.getD undef = .agg (arrK .i64 32 (cat2L (dgt b1) (dgt b2))) := hc 8 72 rfl rfl
          have hk := Lib.hid hK
          clear hK hu hc
          have hcc := hcb
          go_simp
          exact hk.out undef
        · intro a1 w1 G I
          have ha0 := hha0.out
          subst ha0
          have he := act_patch (n := 82) [false, false, false, false, false, false, false, false, false, false, false, false, false, false, false, false, true, false, false, false, false, false, false, false, false, false, false, false, false, false, false, false, false, false, false, false, false, false, false, false, false, false, false, false, false, false, false, false, false, false, false, false, false, false, false, false, false, false, false, false, false, false, false, false, true, true, true, true, true, true, true, true, true, false, false, false, false, false, false, false, false, false] rfl (by kernel_rfl) I.un I.sz I.df
          simp only [patch, cond_true, cond_false, Nat.reduceAdd] at he
          have hal16 := I.al 9 16 32 rfl rfl rfl
          have hlR := hR.out.lt
          replace hA := Lib.hid (hA.out.step I.bel)
          replace hR := Lib.hid (row_below hR.out I.bel hR.out.lt)
          replace hQ := Lib.hid (row_below hQ.out I.bel hQ.out.lt)
          replace hL := Lib.hid (below_step I.bel hL.out (Nat.le_refl _))
          replace hX8 := Lib.hid (hX8.out.step I.bel)
          replace hX9 := Lib.hid (hX9.out.step I.bel)
          replace hX10 := Lib.hid (hX10.out.step I.bel)
          replace hX11 := Lib.hid (hX11.out.step I.bel)
          replace hX12 := Lib.hid (hX12.out.step I.bel)
          replace hX13 := Lib.hid (hX13.out.step I.bel)
          replace hX14 := Lib.hid (hX14.out.step I.bel)
          replace hX15 := Lib.hid (hX15.out.step I.bel)
          have lt16 := Lib.hid (show w.heap.size + 1 < G 9 from Nat.lt_of_lt_of_le hlR (I.blk 9 32 rfl rfl).1)
          clear hlR
          have hX16 := Lib.hid (show At w1 (G 9) .i64 32 (cat2L (dgt b1) (dgt b2)) from ⟨(I.blk 9 32 rfl rfl).2, (I.row 10 9 rfl rfl).2.2⟩)
          clear kb1 ktt kb2 hA hX10 hX11 hX12 hX13 hX14 hX15
          clear I hz0 hha0 e3 e14 e15
          rw [he]
          clear he
          rw [hal16]
          clear hal16
          generalize a1.tmps[64]?.getD undef = x64 at *
          generalize a1.tmps[65]?.getD undef = x65 at *
          generalize a1.tmps[66]?.getD undef = x66 at *
          generalize a1.tmps[67]?.getD undef = x67 at *
          generalize a1.tmps[68]?.getD undef = x68 at *
          generalize a1.tmps[69]?.getD undef = x69 at *
          generalize a1.tmps[70]?.getD undef = x70 at *
          generalize a1.tmps[71]?.getD undef = x71 at *
          generalize a1.tmps[72]?.getD undef = x72 at *
          go_upto_region 9 with (fail)
          obtain ⟨g16, hg⟩ : ∃ g, G 9 = g := ⟨_, rfl⟩
          rw [hg] at hX16 lt16 ⊢
          clear hg
          generalize w1 = W8 at *
          by_cases hbit : n % 2 = 0
          · have hrm : ((rm : Int) == 0) = true := by rw [beq_iff_eq]; have := hrm0.out.2 hbit; omega
            have hgg := hfin0.out hbit
            injection hgg with i1 i2
            injection i2 with i2 i3
            injection i3 with i3 i4
            subst i1 i2 i3 i4
            clear hbit hrm0 hfin0 hfin1 kDr
            go_upto_region 10 with (fail)
            generalize ha0 : Act.mk _ _ = a0
            have e4 : a0.tmps[4]?.getD undef = .pointer (some ⟨w.heap.size + 1, 0, none⟩) := by rw [← ha0]; rfl
            have e5 : a0.tmps[5]?.getD undef = .pointer (some ⟨w.heap.size + 1 + 1, 0, none⟩) := by rw [← ha0]; rfl
            have e8 : a0.tmps[8]?.getD undef = .pointer (some ⟨g8, 0, none⟩) := by rw [← ha0]; rfl
            have e16 : a0.tmps[16]?.getD undef = .pointer (some ⟨g16, 0, none⟩) := by rw [← ha0]; rfl
            have hz0 : a0.tmps.size = 82 := by rw [← ha0]; rfl
            have hha0 := Lib.hid ha0
            clear ha0
            refine wp_region_two (fun jx_ => match jx_ with | 0 => some (.agg (arrK .i64 32 (cat2L (dgt a) (dgt b)))) | 1 => some (.agg (arrK .i64 32 (cat2L (dgt g1) (dgt g2)))) | 2 => some (.agg (arrK .i64 32 (cat2L (dgt g3) (dgt g4)))) | _ => none) 3 ((w.heap.size + 1)) 32 (arrK .i64 32 (cat2L (dgt g1) (dgt g2))) 4 ((w.heap.size + 1 + 1)) 32 (arrK .i64 32 (cat2L (dgt g3) (dgt g4))) (by kernel_rfl) (by kernel_rfl) (by kernel_rfl) (slotsOk_of hz0 (by kernel_rfl)) (of_decide_eq_true (by kernel_rfl)) (of_decide_eq_true (by kernel_rfl)) (by decide) (by kernel_rfl) (by omega) hR.out hQ.out ⟨?_, ?_, ?_, ?_, ?_, trivial⟩ ?_
            · refine two_before (by decide) (by decide) (by kernel_rfl) (calm_step rfl fun aa ω κ hb hu hc hK => ?_)
              have h8 : aa.tmps[8]?.getD undef = .pointer (some ⟨g8, 0, none⟩) := (hu 8 rfl).trans e8
              have hk := Lib.hid (fun w1 (h : Below ω.heap.size ω w1) => hK (.agg (arrK .i64 32 (cat2L (dgt a) (dgt b)))) w1 rfl h)
              clear hK hu hc
              have hr1 := (hX8.out.step hb).row
              have hr2 := (hX8.out.step hb).eq
              go_simp
              exact hk.out _ (Below.refl _ _)
            · refine two_before (by decide) (by decide) (by kernel_rfl) (calm_step rfl fun aa ω κ hb hu hc hK => ?_)
              have h76 : aa.tmps[76]?.getD undef = .agg (arrK .i64 32 (cat2L (dgt a) (dgt b))) := hc 0 76 rfl rfl
              have hk := Lib.hid (fun w1 (h : Below ω.heap.size ω w1) => hK (.agg (arrK .i64 32 (cat2L (dgt g1) (dgt g2)))) w1 rfl h)
              clear hK hu hc
              go_simp
              go_at_call 154
              refine (kDq.out _).mono ?_
              rintro e w1 ⟨rfl, hb1⟩
              exact hk.out _ hb1
            · refine two_mid (by decide) (by decide) (by kernel_rfl) (by kernel_rfl) ?_ ?_
              · refine calm_step rfl fun aa ω κ hb hu hc hK => ?_
                have h16 : aa.tmps[16]?.getD undef = .pointer (some ⟨g16, 0, none⟩) := (hu 16 rfl).trans e16
                have hk := Lib.hid (fun w1 (h : Below ω.heap.size ω w1) => hK (.agg (arrK .i64 32 (cat2L (dgt g3) (dgt g4)))) w1 rfl h)
                clear hK hu hc
                have hr1 := (hX16.out.step hb).row
                have hr2 := (hX16.out.step hb).eq
                go_simp
                exact hk.out _ (Below.refl _ _)
              · refine calm_step rfl fun aa ω κ hb hu hc hK => ?_
                replace hX16 := Lib.hid (hX16.out.far (c := arrK .i64 32 (cat2L (dgt g1) (dgt g2))) (show g16 ≠ w.heap.size + 1 by have := lt16.out; omega))
                have h16 : aa.tmps[16]?.getD undef = .pointer (some ⟨g16, 0, none⟩) := (hu 16 rfl).trans e16
                have hk := Lib.hid (fun w1 (h : Below ω.heap.size ω w1) => hK (.agg (arrK .i64 32 (cat2L (dgt g3) (dgt g4)))) w1 rfl h)
                clear hK hu hc
                have hr1 := (hX16.out.step hb).row
                have hr2 := (hX16.out.step hb).eq
                go_simp
                exact hk.out _ (Below.refl _ _)
            · refine two_q1 (one_write rfl rfl fun aa ω κ hb hu hc hr hK => ?_)
              have h4 : aa.tmps[4]?.getD undef = .pointer (some ⟨w.heap.size + 1, 0, none⟩) := (hu 4 rfl).trans e4
              have h77 : aa.tmps[77]?.getD undef = .agg (arrK .i64 32 (cat2L (dgt g1) (dgt g2))) := hc 1 77 rfl rfl
              have hk := Lib.hid hK
              clear hK hu hc
              have hcc := hcg
              go_simp
              exact hk.out undef
            · refine two_q2 (by decide) (one_write rfl rfl fun aa ω κ hb hu hc hr hK => ?_)
              have h5 : aa.tmps[5]?.getD undef = .pointer (some ⟨w.heap.size + 1 + 1, 0, none⟩) := (hu 5 rfl).trans e5
              have h78 : aa.tmps[78]?.getD undef = .agg (arrK .i64 32 (cat2L (dgt g3) (dgt g4))) := hc 2 78 rfl rfl
              have hk := Lib.hid hK
              clear hK hu hc
              have hcc := hch
              go_simp
              exact hk.out undef
            · intro a1 w1 hb1 hu1 hsz1 hdf1 hv1
              have ha0 := hha0.out
              subst ha0
              have he := act_patch (n := 82) [false, false, false, false, false, false, false, false, false, false, false, false, false, false, false, false, false, false, false, false, false, false, false, false, false, false, false, false, false, false, false, false, false, false, false, false, false, false, false, false, false, false, false, false, false, false, false, false, false, false, false, false, false, false, false, false, false, false, false, false, false, false, false, false, false, false, false, false, false, false, false, false, false, false, false, false, true, true, true, false, false, false] rfl (by kernel_rfl) hu1 hsz1 hdf1
              simp only [patch, cond_true, cond_false, Nat.reduceAdd] at he
              have hXz := ((At.put (k := .i64) (f := (cat2L (dgt g1) (dgt g2))) hR.out).far (c := arrK .i64 32 (cat2L (dgt g3) (dgt g4))) (show w.heap.size + 1 ≠ w.heap.size + 1 + 1 by omega)).below hb1 (by simpa using hR.out.lt)
              have hYz := (At.put (w := W8.setRow (w.heap.size + 1) (arrK .i64 32 (cat2L (dgt g1) (dgt g2)))) (k := .i64) (f := (cat2L (dgt g3) (dgt g4))) ((row_setRow_far (show w.heap.size + 1 + 1 ≠ w.heap.size + 1 by omega)).2 hQ.out)).below hb1 (by simpa using hQ.out.lt)
              have hLz := Lib.hid (Below.trans (below_setRow (c := arrK .i64 32 (cat2L (dgt g3) (dgt g4))) (below_setRow (c := arrK .i64 32 (cat2L (dgt g1) (dgt g2))) hL.out (show w.heap.size ≤ w.heap.size + 1 by omega)) (show w.heap.size ≤ w.heap.size + 1 + 1 by omega)) (hb1.mono (by simpa using hL.out.size)))
              clear hR hQ hL kDq hX8 hX9 hX16
              clear hb1 hu1 hsz1 hdf1 hv1 hz0 hha0 e4 e5 e8 e16
              rw [he]
              clear he
              generalize a1.tmps[76]?.getD undef = x76 at *
              generalize a1.tmps[77]?.getD undef = x77 at *
              generalize a1.tmps[78]?.getD undef = x78 at *
              go_wp2_with fail
              refine ret_cc (p := 4) (q := 5) (ty := 135) (ty2 := 135) (g := w.heap.size + 1) (g2 := w.heap.size + 1 + 1) rfl Try.underlying135 rfl (by kernel_rfl) Try.underlying135 rfl (by kernel_rfl) rfl rfl hXz.row hYz.row rfl ?_
              rw [hXz.eq, hYz.eq]
              exact ⟨rfl, hLz.out⟩
          · have hrm : ((rm : Int) == 0) = false := by rw [beq_eq_false_iff_ne]; have := hrm0.out.1; omega
            have hgg := hfin1.out hbit
            injection hgg with i1 i2
            injection i2 with i2 i3
            injection i3 with i3 i4
            subst i1 i2 i3 i4
            clear hbit hrm0 hfin0 hfin1 kDq
            go_upto_region 11 with (fail)
            generalize ha0 : Act.mk _ _ = a0
            have e4 : a0.tmps[4]?.getD undef = .pointer (some ⟨w.heap.size + 1, 0, none⟩) := by rw [← ha0]; rfl
            have e5 : a0.tmps[5]?.getD undef = .pointer (some ⟨w.heap.size + 1 + 1, 0, none⟩) := by rw [← ha0]; rfl
            have e9 : a0.tmps[9]?.getD undef = .pointer (some ⟨g9, 0, none⟩) := by rw [← ha0]; rfl
            have e16 : a0.tmps[16]?.getD undef = .pointer (some ⟨g16, 0, none⟩) := by rw [← ha0]; rfl
            have hz0 : a0.tmps.size = 82 := by rw [← ha0]; rfl
            have hha0 := Lib.hid ha0
            clear ha0
            refine wp_region_two (fun jx_ => match jx_ with | 0 => some (.agg (arrK .i64 32 (cat2L (dgt g1) (dgt g2)))) | 1 => some (.agg (arrK .i64 32 (cat2L (dgt c) (dgt d)))) | 2 => some (.agg (arrK .i64 32 (cat2L (dgt g3) (dgt g4)))) | _ => none) 3 ((w.heap.size + 1)) 32 (arrK .i64 32 (cat2L (dgt g1) (dgt g2))) 4 ((w.heap.size + 1 + 1)) 32 (arrK .i64 32 (cat2L (dgt g3) (dgt g4))) (by kernel_rfl) (by kernel_rfl) (by kernel_rfl) (slotsOk_of hz0 (by kernel_rfl)) (of_decide_eq_true (by kernel_rfl)) (of_decide_eq_true (by kernel_rfl)) (by decide) (by kernel_rfl) (by omega) hR.out hQ.out ⟨?_, ?_, ?_, ?_, ?_, trivial⟩ ?_
            · refine two_before (by decide) (by decide) (by kernel_rfl) (calm_step rfl fun aa ω κ hb hu hc hK => ?_)
              have h16 : aa.tmps[16]?.getD undef = .pointer (some ⟨g16, 0, none⟩) := (hu 16 rfl).trans e16
              have hk := Lib.hid (fun w1 (h : Below ω.heap.size ω w1) => hK (.agg (arrK .i64 32 (cat2L (dgt g1) (dgt g2)))) w1 rfl h)
              clear hK hu hc
              have hr1 := (hX16.out.step hb).row
              have hr2 := (hX16.out.step hb).eq
              go_simp
              exact hk.out _ (Below.refl _ _)
            · refine two_before (by decide) (by decide) (by kernel_rfl) (calm_step rfl fun aa ω κ hb hu hc hK => ?_)
              have h9 : aa.tmps[9]?.getD undef = .pointer (some ⟨g9, 0, none⟩) := (hu 9 rfl).trans e9
              have hk := Lib.hid (fun w1 (h : Below ω.heap.size ω w1) => hK (.agg (arrK .i64 32 (cat2L (dgt c) (dgt d)))) w1 rfl h)
              clear hK hu hc
              have hr1 := (hX9.out.step hb).row
              have hr2 := (hX9.out.step hb).eq
              go_simp
              exact hk.out _ (Below.refl _ _)
            · refine two_before (by decide) (by decide) (by kernel_rfl) (calm_step rfl fun aa ω κ hb hu hc hK => ?_)
              have h80 : aa.tmps[80]?.getD undef = .agg (arrK .i64 32 (cat2L (dgt c) (dgt d))) := hc 1 80 rfl rfl
              have hk := Lib.hid (fun w1 (h : Below ω.heap.size ω w1) => hK (.agg (arrK .i64 32 (cat2L (dgt g3) (dgt g4)))) w1 rfl h)
              clear hK hu hc
              go_simp
              go_at_call 154
              refine (kDr.out _).mono ?_
              rintro e w1 ⟨rfl, hb1⟩
              exact hk.out _ hb1
            · refine two_q1 (one_write rfl rfl fun aa ω κ hb hu hc hr hK => ?_)
              have h4 : aa.tmps[4]?.getD undef = .pointer (some ⟨w.heap.size + 1, 0, none⟩) := (hu 4 rfl).trans e4
              have h79 : aa.tmps[79]?.getD undef = .agg (arrK .i64 32 (cat2L (dgt g1) (dgt g2))) := hc 0 79 rfl rfl
              have hk := Lib.hid hK
              clear hK hu hc
              have hcc := hcg
              go_simp
              exact hk.out undef
            · refine two_q2 (by decide) (one_write rfl rfl fun aa ω κ hb hu hc hr hK => ?_)
              have h5 : aa.tmps[5]?.getD undef = .pointer (some ⟨w.heap.size + 1 + 1, 0, none⟩) := (hu 5 rfl).trans e5
              have h81 : aa.tmps[81]?.getD undef = .agg (arrK .i64 32 (cat2L (dgt g3) (dgt g4))) := hc 2 81 rfl rfl
              have hk := Lib.hid hK
              clear hK hu hc
              have hcc := hch
              go_simp
              exact hk.out undef
            · intro a1 w1 hb1 hu1 hsz1 hdf1 hv1
              have ha0 := hha0.out
              subst ha0
              have he := act_patch (n := 82) [false, false, false, false, false, false, false, false, false, false, false, false, false, false, false, false, false, false, false, false, false, false, false, false, false, false, false, false, false, false, false, false, false, false, false, false, false, false, false, false, false, false, false, false, false, false, false, false, false, false, false, false, false, false, false, false, false, false, false, false, false, false, false, false, false, false, false, false, false, false, false, false, false, false, false, false, false, false, false, true, true, true] rfl (by kernel_rfl) hu1 hsz1 hdf1
              simp only [patch, cond_true, cond_false, Nat.reduceAdd] at he
              have hXz := ((At.put (k := .i64) (f := (cat2L (dgt g1) (dgt g2))) hR.out).far (c := arrK .i64 32 (cat2L (dgt g3) (dgt g4))) (show w.heap.size + 1 ≠ w.heap.size + 1 + 1 by omega)).below hb1 (by simpa using hR.out.lt)
              have hYz := (At.put (w := W8.setRow (w.heap.size + 1) (arrK .i64 32 (cat2L (dgt g1) (dgt g2)))) (k := .i64) (f := (cat2L (dgt g3) (dgt g4))) ((row_setRow_far (show w.heap.size + 1 + 1 ≠ w.heap.size + 1 by omega)).2 hQ.out)).below hb1 (by simpa using hQ.out.lt)
              have hLz := Lib.hid (Below.trans (below_setRow (c := arrK .i64 32 (cat2L (dgt g3) (dgt g4))) (below_setRow (c := arrK .i64 32 (cat2L (dgt g1) (dgt g2))) hL.out (show w.heap.size ≤ w.heap.size + 1 by omega)) (show w.heap.size ≤ w.heap.size + 1 + 1 by omega)) (hb1.mono (by simpa using hL.out.size)))
              clear hR hQ hL kDr hX8 hX9 hX16
              clear hb1 hu1 hsz1 hdf1 hv1 hz0 hha0 e4 e5 e9 e16
              rw [he]
              clear he
              generalize a1.tmps[79]?.getD undef = x79 at *
              generalize a1.tmps[80]?.getD undef = x80 at *
              generalize a1.tmps[81]?.getD undef = x81 at *
              go_wp2_with fail
              refine ret_cc (p := 4) (q := 5) (ty := 135) (ty2 := 135) (g := w.heap.size + 1) (g2 := w.heap.size + 1 + 1) rfl Try.underlying135 rfl (by kernel_rfl) Try.underlying135 rfl (by kernel_rfl) rfl rfl hXz.row hYz.row rfl ?_
              rw [hXz.eq, hYz.eq]
              exact ⟨rfl, hLz.out⟩
theorem ref_rungs (u : Nat) (hu : u < 2 ^ 256) : ∀ n, n < 2 ^ 256 → RungsSay u n := fun n => by
  induction n using Nat.strongRecOn with
  | ind n ih =>
    intro hn
    by_cases h : n = 0
    · subst h; exact rungs_zero u
    · have hl := rng_lt u (n / 2) hu
      obtain ⟨⟨a, b, c, d⟩, hS⟩ : ∃ s, rng u (n / 2) = s := ⟨_, rfl⟩
      rw [hS] at hl
      exact rungs_step u n a b c d _ _ _ _ _ _ _ _ _ h hn hu hl.1 hl.2.1 hl.2.2.1 hl.2.2.2 hS rfl rfl rfl rfl rfl rfl rfl rfl rfl (ih (n / 2) (by omega) (by omega))
end Go.Proofs.Ytodcjeaannfbnaa
namespace Go.Proofs.Ytodcjeaannfbnaa
open Go Go.RowKit

section
variable {P : Program} {ops : Array Oper} {Q : Exit → Act → World → Prop}

/-- What is told of the operations: the plain value of one, the cells of one that lays a block, the layer whose block one writes, and what it writes. -/
structure FSpecR where
  val : Nat → Option Value
  al : Nat → Option Nat
  tg : Nat → Option Nat
  row : Nat → Array Value
  sr : Nat → Option SRel
def FSpecR.rel0 (F : FSpecR) (i : Nat) : SRel := match F.val i with | some c => SRel.is c | none => SRel.any
def FSpecR.rel (F : FSpecR) (i : Nat) : SRel := match F.sr i with | some r => r | none => F.rel0 i
/-- One that writes a block. -/
def WriteOkR (P : Program) (Q : Exit → Act → World → Prop) (ops : Array Oper) (F : FSpecR) (a0 : Act) (w0 : World) (j n : Nat) (c : Array Value) (o : Oper) : Prop :=
  o.dst = none ∧ (o.after.toList.any fun e => e.on == j && Region.binds .any e) = true ∧ c.size = n ∧
  ∀ (a : Act) (w : World) (K : Act → World → Prop) (g : Nat), Below w0.heap.size w0 w → Untouched ops a0 a → Came ops F.rel0 o a w → (∀ d, dstAt ops j = some d → a.tmps[d]?.getD undef = .pointer (some ⟨g, 0, none⟩)) → Row w g n → (∀ v, K (a.put none v) (w.setRow g c)) →
    if Region.wanted o (yielded ops a.tmps) = true then Oper.wp P o a w K Q else K (a.put o.dst undef) w
def FStepOkR (P : Program) (ops : Array Oper) (Q : Exit → Act → World → Prop) (F : FSpecR) (a0 : Act) (w0 : World) (i : Nat) (o : Oper) : Prop :=
  match F.al i, F.tg i with
  | some n, _ => AllocOk P Q ops n o
  | none, some j => ∃ n, F.al j = some n ∧ WriteOkR P Q ops F a0 w0 j n (F.row i) o
  | none, none => StepOk P ops Q F.rel a0 w0 i o
def FStepsOkR (P : Program) (ops : Array Oper) (Q : Exit → Act → World → Prop) (F : FSpecR) (a0 : Act) (w0 : World) : Nat → List Oper → Prop
  | _, [] => True
  | i, o :: l => FStepOkR P ops Q F a0 w0 i o ∧ FStepsOkR P ops Q F a0 w0 (i + 1) l
theorem fsteps_atR {F : FSpecR} {a0 : Act} {w0 : World} : ∀ (l : List Oper) (n i : Nat) (o : Oper), FStepsOkR P ops Q F a0 w0 n l → l[i]? = some o → FStepOkR P ops Q F a0 w0 (n + i) o
  | [], n, i, o, _, h => by simp at h
  | x :: l, n, 0, o, h1, h => by
      have : x = o := by simpa using h
      subst this
      exact h1.1
  | x :: l, n, i + 1, o, h1, h => by
      have := fsteps_atR l (n + 1) i o h1.2 (by simpa using h)
      rw [show n + (i + 1) = n + 1 + i by omega]
      exact this
/-- No operation is told of twice; no block is written twice. -/
def FSpecR.ok (F : FSpecR) (n : Nat) : Bool := (List.range n).all fun i => (List.range n).all fun j => (i == j || (F.tg i).isNone || F.tg i != F.tg j) && ((F.al i).isNone || ((F.tg i).isNone && (F.val i).isNone && (F.sr i).isNone)) && ((F.sr i).isNone || (F.val i).isNone)
/-- An operation that takes what holds only ahead of all writing is waited for by all that write. -/
def FSpecR.early (F : FSpecR) (ops : Array Oper) : Bool := (List.range ops.size).all fun i => match ops[i]? with
  | some o => (F.tg i).isSome || (o.after.toList.all fun e => !Region.binds .any e || (F.sr e.on).isNone) || ((List.range ops.size).all fun k => (F.tg k).isNone || pathB ops ops.size k i)
  | none => true
/-- Nothing has been written. -/
def Dry (F : FSpecR) (L : Nat → Bool) : Prop := ∀ k, L k = true → F.tg k = none
/-- What stands while the region runs. -/
structure FInvR (ops : Array Oper) (F : FSpecR) (a0 : Act) (w0 : World) (G : Nat → Nat) (L : Nat → Bool) (a : Act) (w : World) : Prop where
  bel : Below w0.heap.size w0 w
  un : Untouched ops a0 a
  sz : a.tmps.size = a0.tmps.size
  df : a.defers = a0.defers
  val : ∀ j d, L j = true → dstAt ops j = some d → (F.rel0 j).p (a.tmps[d]?.getD undef) w
  sr : Dry F L → ∀ j d, L j = true → dstAt ops j = some d → (F.rel j).p (a.tmps[d]?.getD undef) w
  al : ∀ j d n, L j = true → dstAt ops j = some d → F.al j = some n → a.tmps[d]?.getD undef = .pointer (some ⟨G j, 0, none⟩)
  blk : ∀ j n, L j = true → F.al j = some n → w0.heap.size ≤ G j ∧ Row w (G j) n
  ne : ∀ i j n m, L i = true → L j = true → F.al i = some n → F.al j = some m → i ≠ j → G i ≠ G j
  row : ∀ k j, L k = true → F.tg k = some j → L j = true ∧ (∃ n, F.al j = some n) ∧ rowAt w (G j) = F.row k
theorem rel_anyR {F : FSpecR} {i : Nat} {v : Value} {w w' : World} (h : (F.rel0 i).p v w) : (F.rel0 i).p v w' := by
  unfold FSpecR.rel0 at *
  cases h1 : F.val i with
  | none => trivial
  | some c => rw [h1] at h; exact h
theorem wp_region_freshR {id : Nat} {a0 : Act} {w0 : World} (F : FSpecR) (hm : P.follows .mixedOrders = true) (he : edgesOk ops = true) (hd : dstsOk ops = true) (hz : slotsOk ops a0.tmps.size = true) (hF : F.ok ops.size = true) (hE : F.early ops = true)
    (hstep : FStepsOkR P ops Q F a0 w0 0 ops.toList)
    (hend : ∀ (a : Act) (w : World) (G : Nat → Nat), FInvR ops F a0 w0 G (fun i => decide (i < ops.size)) a w → Q .normal a w) :
    (Code.region id ops true).wp P Q a0 w0 := by
  refine wp_region_any hm ?_
  have hlt : ∀ i d, dstAt ops i = some d → i < ops.size := fun i d h => by
    unfold dstAt at h
    rcases Nat.lt_or_ge i ops.size with h1 | h1
    · exact h1
    · rw [Array.getElem?_eq_none h1] at h; cases h
  have hdst : ∀ i j d e, i ≠ j → dstAt ops i = some d → dstAt ops j = some e → d ≠ e := by
    intro i j d e hij h1 h2
    have := List.all_eq_true.1 (List.all_eq_true.1 hd i (by simpa using hlt i d h1)) j (by simpa using hlt j e h2)
    rw [h1, h2] at this
    simpa [hij] using this
  have hslot : ∀ i d, dstAt ops i = some d → d < a0.tmps.size := by
    intro i d h1
    have := List.all_eq_true.1 hz i (by simpa using hlt i d h1)
    rw [h1] at this
    simpa using this
  refine wpAny_inv he (fun listed a w => (listed.size = ops.size ∧ ∀ k o, listed.getD k false = true → ops[k]? = some o → ∀ e ∈ o.after, Region.binds .any e = true → listed.getD e.on false = true) ∧ ∃ G, FInvR ops F a0 w0 G (fun i => listed.getD i false) a w) ?_ ?_ _ _ _ _ (by simp) ?_ ?_
  · rintro listed a w i o hs ⟨⟨-, hcl⟩, G, I⟩ hi h1 ho h2
    have hs0 : (listed.setIfInBounds i true).size = ops.size := by simpa using hs
    have hst := fsteps_atR ops.toList 0 i o hstep (by rw [Array.getElem?_toList]; exact ho)
    rw [Nat.zero_add] at hst
    have hil : i < listed.size := by omega
    have hli : listed.getD i false = false := by simpa [hil] using h1
    have hcl' : ∀ k o', (listed.setIfInBounds i true).getD k false = true → ops[k]? = some o' → ∀ e ∈ o'.after, Region.binds .any e = true → (listed.setIfInBounds i true).getD e.on false = true := by
      intro k o' hk ho' e he1 he2
      have hle : listed.getD e.on false = true := by
        by_cases hki : k = i
        · subst hki
          rw [ho] at ho'
          cases ho'
          exact h2 e he1 he2
        · have hk' : listed.getD k false = true := by simpa [Array.getElem?_setIfInBounds_ne (Ne.symm hki)] using hk
          exact hcl k o' hk' ho' e he1 he2
      by_cases hei : e.on = i
      · rw [hei]; simp [hil]
      · simpa [Array.getElem?_setIfInBounds_ne (Ne.symm hei)] using hle
    have hs' : (listed.setIfInBounds i true).size = ops.size ∧ _ := ⟨hs0, hcl'⟩
    have hL : ∀ j, (listed.setIfInBounds i true).getD j false = true → j = i ∨ listed.getD j false = true := by
      intro j hj
      by_cases hij : i = j
      · exact .inl hij.symm
      · exact .inr (by simpa [Array.getElem?_setIfInBounds_ne hij] using hj)
    have hLm : ∀ j, listed.getD j false = true → (listed.setIfInBounds i true).getD j false = true := by
      intro j hj
      by_cases hij : i = j
      · subst hij; simp [hil]
      · simpa [Array.getElem?_setIfInBounds_ne hij] using hj
    have hun : ∀ v, Untouched ops a0 (a.put o.dst v) := by
      intro v s hs'
      have hns : o.dst ≠ some s := by
        have := List.all_eq_true.1 hs' o (Array.mem_toList_iff.2 (Array.mem_of_getElem? ho))
        simpa using this
      rw [← I.un s hs']
      cases hd' : o.dst with
      | none => rfl
      | some d =>
        have hne : d ≠ s := fun e => hns (by rw [hd', e])
        simp [Act.put, Array.getElem?_setIfInBounds_ne hne]
    have hsz : ∀ v, (a.put o.dst v).tmps.size = a0.tmps.size := fun v => by cases hd' : o.dst <;> simp [Act.put, I.sz]
    have hdf : ∀ v, (a.put o.dst v).defers = a0.defers := fun v => by cases hd' : o.dst <;> simp [Act.put, I.df]
    have hother : ∀ v j d, listed.getD j false = true → dstAt ops j = some d → (a.put o.dst v).tmps[d]?.getD undef = a.tmps[d]?.getD undef := by
      intro v j d hj hjd
      have hij : i ≠ j := fun e => by rw [e, hj] at hli; cases hli
      cases hd' : o.dst with
      | none => rfl
      | some d' =>
        have hne : d' ≠ d := hdst i j d' d hij (by unfold dstAt; rw [ho]; exact hd') hjd
        simp [Act.put, Array.getElem?_setIfInBounds_ne hne]
    have hown : ∀ v d, dstAt ops i = some d → (a.put o.dst v).tmps[d]?.getD undef = v := by
      intro v d hid
      have hd1 := hslot i d hid
      have hod : o.dst = some d := by unfold dstAt at hid; rw [ho] at hid; exact hid
      rw [hod]
      rw [← I.sz] at hd1
      simp [Act.put, hd1]
    have hcame0 : Came ops F.rel0 o a w := by
      intro j d hj hjd
      obtain ⟨e, he1, he2⟩ := List.any_eq_true.1 hj
      have he1 : e ∈ o.after := Array.mem_toList_iff.1 he1
      simp only [Bool.and_eq_true, beq_iff_eq] at he2
      have hjl : listed.getD j false = true := by rw [← he2.1]; exact h2 e he1 he2.2
      exact I.val j d hjl hjd
    have hdry : (Dry F fun z => (listed.setIfInBounds i true).getD z false) → Dry F fun z => listed.getD z false := fun h k hk => h k (hLm k hk)
    have hcame : F.tg i = none → Came ops F.rel o a w := by
      intro htn j d hj hjd
      obtain ⟨e, he1, he2⟩ := List.any_eq_true.1 hj
      have he1 : e ∈ o.after := Array.mem_toList_iff.1 he1
      simp only [Bool.and_eq_true, beq_iff_eq] at he2
      have hjl : listed.getD j false = true := by rw [← he2.1]; exact h2 e he1 he2.2
      have hEi := List.all_eq_true.1 hE i (by simpa using hi)
      rw [ho, htn] at hEi
      simp only [Option.isSome_none, Bool.false_or, Bool.or_eq_true] at hEi
      rcases hEi with hEi | hEi
      · have h3 := List.all_eq_true.1 hEi e (Array.mem_toList_iff.2 he1)
        rw [he2.2, he2.1] at h3
        have h4 : F.sr j = none := by simpa using h3
        have h5 := I.val j d hjl hjd
        unfold FSpecR.rel
        rw [h4]
        exact h5
      · refine I.sr (fun k hk => ?_) j d hjl hjd
        have hkl : k < ops.size := by
          rcases Nat.lt_or_ge k ops.size with h | h
          · exact h
          · have hk : listed.getD k false = true := hk
            rw [Array.getD_eq_getD_getElem?, Array.getElem?_eq_none (by omega)] at hk; cases hk
        have h3 := List.all_eq_true.1 hEi k (by simpa using hkl)
        rw [Bool.or_eq_true] at h3
        rcases h3 with h3 | h3
        · simpa using h3
        · have h4 := path_listed hcl _ _ _ hk h3
          rw [hli] at h4
          cases h4
    have htg : ∀ k k' j, k < ops.size → k' < ops.size → F.tg k = some j → F.tg k' = some j → k = k' := by
      intro k k' j hk hk' h3 h4
      have := List.all_eq_true.1 (List.all_eq_true.1 hF k (by simpa using hk)) k' (by simpa using hk')
      rw [h3, h4, Bool.and_eq_true, Bool.and_eq_true] at this
      simpa using this.1.1
    have hal0 : ∀ n, F.al i = some n → F.tg i = none ∧ F.val i = none ∧ F.sr i = none := by
      intro n h3
      have := List.all_eq_true.1 (List.all_eq_true.1 hF i (by simpa using hi)) i (by simpa using hi)
      rw [h3] at this
      simp only [Option.isNone_some, Bool.false_or, Bool.and_eq_true] at this
      obtain ⟨⟨-, h4⟩, -⟩ := this
      simp only [Option.isNone_iff_eq_none] at h4
      exact ⟨h4.1.1, h4.1.2, h4.2⟩
    have hLs : ∀ j, listed.getD j false = true → j < ops.size := by
      intro j hj
      rcases Nat.lt_or_ge j ops.size with h | h
      · exact h
      · rw [Array.getD_eq_getD_getElem?, Array.getElem?_eq_none (by omega)] at hj; cases hj
    unfold FStepOkR at hst
    cases hal : F.al i with
    | some n =>
      rw [hal] at hst
      refine wpOp_step ho fun K hK => hst a w K fun c t hc => hK _ _ ⟨hs', fun j => if j = i then w.heap.size else G j, ?_⟩
      have hG : ∀ j, listed.getD j false = true → (if j = i then w.heap.size else G j) = G j := fun j hj => if_neg fun e => by rw [e, hli] at hj; cases hj
      refine ⟨I.bel.alloc I.bel.size _, hun _, hsz _, hdf _, ?_, ?_, ?_, ?_, ?_, ?_⟩
      · intro j d hj hjd
        rcases hL j hj with rfl | hj
        · unfold FSpecR.rel0; rw [(hal0 n hal).2.1]; trivial
        · rw [hother _ j d hj hjd]; exact rel_anyR (I.val j d hj hjd)
      · intro hdr j d hj hjd
        rcases hL j hj with rfl | hj
        · unfold FSpecR.rel FSpecR.rel0; rw [(hal0 n hal).2.2, (hal0 n hal).2.1]; trivial
        · rw [hother _ j d hj hjd]; exact (F.rel j).st _ _ _ (below_alloc w _) (I.sr (hdry hdr) j d hj hjd)
      · intro j d m hj hjd hm
        rcases hL j hj with rfl | hj
        · rw [hown _ d hjd, if_pos rfl]
        · rw [hother _ j d hj hjd, hG j hj]; exact I.al j d m hj hjd hm
      · intro j m hj hm
        rcases hL j hj with rfl | hj
        · rw [if_pos rfl]
          rw [hal] at hm
          cases hm
          exact ⟨I.bel.size, (row_new_cells rfl hc).2 trivial⟩
        · rw [hG j hj]
          have := I.blk j m hj hm
          exact ⟨this.1, (row_old this.2.lt).2 this.2⟩
      · intro j k m m' hj hk hm hm' hjk
        rcases hL j hj with rfl | hj'
        · rcases hL k hk with rfl | hk'
          · exact absurd rfl hjk
          · rw [if_pos rfl, hG k hk']
            have := (I.blk k m' hk' hm').2.lt
            omega
        · rcases hL k hk with rfl | hk'
          · rw [if_pos rfl, hG j hj']
            have := (I.blk j m hj' hm).2.lt
            omega
          · rw [hG j hj', hG k hk']; exact I.ne j k m m' hj' hk' hm hm' hjk
      · intro k j hk hkj
        rcases hL k hk with rfl | hk'
        · rw [(hal0 n hal).1] at hkj; cases hkj
        · obtain ⟨h3, ⟨n', h4⟩, h5⟩ := I.row k j hk' hkj
          refine ⟨hLm j h3, ⟨n', h4⟩, ?_⟩
          rw [hG j h3, rowAt_old (I.blk j n' h3 h4).2.lt]
          exact h5
    | none =>
      rw [hal] at hst
      cases htgi : F.tg i with
      | some j =>
        rw [htgi] at hst
        obtain ⟨n, hjn, hod, haf, hcs, hw⟩ := hst
        obtain ⟨e, he1, he2⟩ := List.any_eq_true.1 haf
        have he1 : e ∈ o.after := Array.mem_toList_iff.1 he1
        simp only [Bool.and_eq_true, beq_iff_eq] at he2
        have hjl : listed.getD j false = true := by rw [← he2.1]; exact h2 e he1 he2.2
        have hB := I.blk j n hjl hjn
        have hid : ∀ d, dstAt ops i ≠ some d := fun d h => by unfold dstAt at h; rw [ho] at h; exact absurd (hod.symm.trans h) (by simp)
        refine wpOp_step ho fun K hK => hw a w K (G j) I.bel I.un hcame0 (fun d hd => I.al j d n hjl hd hjn) hB.2 fun v => hod ▸ hK _ _ ⟨hs', G, ?_⟩
        refine ⟨below_setRow I.bel hB.1, hun _, hsz _, hdf _, ?_, fun hdr => absurd (hdr i (by simp [hil])) (by rw [htgi]; simp), ?_, ?_, ?_, ?_⟩
        · intro k d hk hkd
          rcases hL k hk with rfl | hk'
          · exact absurd hkd (hid d)
          · rw [hother _ k d hk' hkd]; exact rel_anyR (I.val k d hk' hkd)
        · intro k d m hk hkd hm
          rcases hL k hk with rfl | hk'
          · exact absurd hkd (hid d)
          · rw [hother _ k d hk' hkd]; exact I.al k d m hk' hkd hm
        · intro k m hk hm
          rcases hL k hk with rfl | hk'
          · rw [hal] at hm; cases hm
          · have h3 := I.blk k m hk' hm
            refine ⟨h3.1, ?_⟩
            by_cases hjk : k = j
            · subst hjk
              rw [hjn] at hm
              cases hm
              exact (row_setRow_same rfl h3.2).2 hcs
            · exact (row_setRow_far (I.ne k j m n hk' hjl hm hjn hjk)).2 h3.2
        · intro k l m m' hk hl hm hm' hkl
          rcases hL k hk with rfl | hk'
          · rw [hal] at hm; cases hm
          · rcases hL l hl with rfl | hl'
            · rw [hal] at hm'; cases hm'
            · exact I.ne k l m m' hk' hl' hm hm' hkl
        · intro k l hk hkl
          rcases hL k hk with rfl | hk'
          · rw [htgi] at hkl
            cases hkl
            exact ⟨hLm j hjl, ⟨n, hjn⟩, rowAt_setRow_same hB.2⟩
          · obtain ⟨h3, ⟨n', h4⟩, h5⟩ := I.row k l hk' hkl
            refine ⟨hLm l h3, ⟨n', h4⟩, ?_⟩
            have hlj : l ≠ j := fun e => by
              subst e
              have := htg k i l (hLs k hk') hi hkl htgi
              rw [this, hli] at hk'
              cases hk'
            rw [rowAt_setRow_far (I.ne l j n' n h3 hjl h4 hjn hlj)]
            exact h5
      | none =>
        rw [htgi] at hst
        refine wpOp_step ho fun K hK => hst a w K I.bel I.un (hcame htgi) fun v w' hv hb' => hK _ _ ⟨hs', G, ?_⟩
        have hv0 : (F.rel0 i).p v w' := by
          have h3 := List.all_eq_true.1 (List.all_eq_true.1 hF i (by simpa using hi)) i (by simpa using hi)
          rw [Bool.and_eq_true] at h3
          unfold FSpecR.rel at hv
          cases h4 : F.sr i with
          | none => rw [h4] at hv; exact hv
          | some r =>
            have h5 : F.val i = none := by
              have := h3.2
              rw [h4] at this
              simpa using this
            unfold FSpecR.rel0
            rw [h5]
            trivial
        refine ⟨below_step hb' I.bel (Nat.le_refl _), hun _, hsz _, hdf _, ?_, ?_, ?_, ?_, ?_, ?_⟩
        · intro k d hk hkd
          rcases hL k hk with rfl | hk'
          · rw [hown _ d hkd]; exact hv0
          · rw [hother _ k d hk' hkd]; exact rel_anyR (I.val k d hk' hkd)
        · intro hdr k d hk hkd
          rcases hL k hk with rfl | hk'
          · rw [hown _ d hkd]; exact hv
          · rw [hother _ k d hk' hkd]; exact (F.rel k).st _ _ _ hb' (I.sr (hdry hdr) k d hk' hkd)
        · intro k d m hk hkd hm
          rcases hL k hk with rfl | hk'
          · rw [hal] at hm; cases hm
          · rw [hother _ k d hk' hkd]; exact I.al k d m hk' hkd hm
        · intro k m hk hm
          rcases hL k hk with rfl | hk'
          · rw [hal] at hm; cases hm
          · have h3 := I.blk k m hk' hm
            exact ⟨h3.1, row_below h3.2 hb' h3.2.lt⟩
        · intro k l m m' hk hl hm hm' hkl
          rcases hL k hk with rfl | hk'
          · rw [hal] at hm; cases hm
          · rcases hL l hl with rfl | hl'
            · rw [hal] at hm'; cases hm'
            · exact I.ne k l m m' hk' hl' hm hm' hkl
        · intro k l hk hkl
          rcases hL k hk with rfl | hk'
          · rw [htgi] at hkl; cases hkl
          · obtain ⟨h3, ⟨n', h4⟩, h5⟩ := I.row k l hk' hkl
            exact ⟨hLm l h3, ⟨n', h4⟩, (rowAt_below hb' (I.blk l n' h3 h4).2.lt).trans h5⟩
  · rintro listed a w ⟨⟨hs, -⟩, G, I⟩ hall
    have hLs : ∀ j, decide (j < ops.size) = true → listed.getD j false = true := fun j hj => hall j (by simpa using hj)
    refine hend a w G ⟨I.bel, I.un, I.sz, I.df, fun j d hj => I.val j d (hLs j hj), fun hdr j d hj => I.sr (fun k hk => hdr k (by
      have : k < ops.size := by
        rcases Nat.lt_or_ge k ops.size with h | h
        · exact h
        · have hk : listed.getD k false = true := hk
          rw [Array.getD_eq_getD_getElem?, Array.getElem?_eq_none (by omega)] at hk; cases hk
      simpa using this)) j d (hLs j hj), fun j d n hj => I.al j d n (hLs j hj), fun j n hj => I.blk j n (hLs j hj), fun i j n m hi hj => I.ne i j n m (hLs i hi) (hLs j hj), fun k j hk hkj => ?_⟩
    have hks := I.row k j (hLs k hk) hkj
    refine ⟨?_, hks.2⟩
    have h3 := hks.1
    rcases Nat.lt_or_ge j ops.size with h | h
    · simpa using h
    · rw [Array.getD_eq_getD_getElem?, Array.getElem?_eq_none (by omega)] at h3; cases h3
  · unfold left
    rw [Array.toList_replicate]
    exact Nat.le_trans (List.length_filter_le _ _) (by simp)
  · have h0 : ∀ j, (Array.replicate ops.size false).getD j false ≠ true := fun j => by
      rw [Array.getD_eq_getD_getElem?, Array.getElem?_replicate]
      split <;> simp
    exact ⟨⟨by simp, fun k o hk => absurd hk (h0 k)⟩, fun _ => 0, (Below.refl _ _).drew, fun _ _ => rfl, rfl, rfl, fun j d hj => absurd hj (h0 j), fun _ j d hj => absurd hj (h0 j), fun j d n hj => absurd hj (h0 j), fun j n hj => absurd hj (h0 j), fun i j n m hi => absurd hi (h0 i), fun k j hk => absurd hk (h0 k)⟩
theorem fstep_valR {F : FSpecR} {a0 : Act} {w0 : World} {i : Nat} {o : Oper} (h1 : F.al i = none) (h2 : F.tg i = none) (h : StepOk P ops Q F.rel a0 w0 i o) : FStepOkR P ops Q F a0 w0 i o := by
  unfold FStepOkR
  rw [h1, h2]
  exact h
theorem fstep_alR {F : FSpecR} {a0 : Act} {w0 : World} {i n : Nat} {o : Oper} (h1 : F.al i = some n) (hg : o.guard = none)
    (h : ∀ (a : Act) (w : World) (K : Act → World → Prop), (∀ c t, Cells c n → K (a.put o.dst (.pointer (some ⟨w.heap.size, 0, none⟩))) (w.alloc (.cells c t))) → Oper.wp P o a w K Q) : FStepOkR P ops Q F a0 w0 i o := by
  unfold FStepOkR
  rw [h1]
  intro a w K hK
  rw [if_pos (by simp [Region.wanted, hg])]
  exact h a w K hK
theorem fstep_stR {F : FSpecR} {a0 : Act} {w0 : World} {i j n : Nat} {d : Tmp} {o : Oper} (h1 : F.al i = none) (h2 : F.tg i = some j) (h3 : F.al j = some n) (hod : o.dst = none) (haf : (o.after.toList.any fun e => e.on == j && Region.binds .any e) = true) (hcs : (F.row i).size = n) (hg : o.guard = none) (hdj : dstAt ops j = some d)
    (h : ∀ (a : Act) (w : World) (K : Act → World → Prop) (g : Nat), Below w0.heap.size w0 w → Untouched ops a0 a → Came ops F.rel0 o a w → a.tmps[d]?.getD undef = .pointer (some ⟨g, 0, none⟩) → Row w g n → (∀ v, K (a.put none v) (w.setRow g (F.row i))) → Oper.wp P o a w K Q) : FStepOkR P ops Q F a0 w0 i o := by
  unfold FStepOkR
  rw [h1, h2]
  refine ⟨n, h3, hod, haf, hcs, fun a w K g hb hu hc hp hr hK => ?_⟩
  rw [if_pos (by simp [Region.wanted, hg])]
  exact h a w K g hb hu hc (hp d hdj) hr hK
end
end Go.Proofs.Ytodcjeaannfbnaa
namespace Go.Proofs.Ytodcjeaannfbnaa
open Go.ChangeShapes Go.WideShapes Go.ChangeAt Go.RowKit
set_option maxHeartbeats 2000000
set_option maxRecDepth 100000
attribute [local go_sem ↓] load_fld load_feP load_num store_num load_fe store_fe load_pt store_pt load_f2 store_f2
attribute [local go_sem] isHead_mk blkOf_mk isAgg_mk cellsV_mk row_drew rowAt_drew row_new_cells row_old rowAt_new rowAt_old setRow_new zeroNum zeroPt zeroFe zeroF2 setRow_old
theorem ref_Ladder (k u x a b c d i m : Nat) (w : World) (hk : k < 2 ^ 256) (hu : u < 2 ^ 256) (hx : u % fP = x) (hS : rng x k = (a, b, c, d)) (hi : invP b = i) (hm : a * i % fP = m) : Calls Try.prog 43 #[numV k, numV u] w fun e w' => e = .returned (numV m) ∧ Below w.heap.size w w' := by
  have lx : x < 2 ^ 256 := hx ▸ low_lt
  have hl := rng_lt x k lx
  rw [hS] at hl
  have la := hl.1
  have lb := hl.2.1
  dsimp only at la lb
  have li : i < 2 ^ 256 := hi ▸ low_lt
  have lm : m < 2 ^ 256 := hm ▸ low_lt
  have kF := Lib.hid (fun V => ref_Field u V hu)
  rw [hx] at kF
  have kD := Lib.hid (fun V => ref_OfNum k V hk)
  have kR := Lib.hid (fun v V (hv : IsN V v k) => ref_rungs x lx k hk v V hv)
  rw [hS] at kR
  dsimp only at kR
  have kO := Lib.hid (fun V => fe_Over b V lb)
  rw [hi] at kO
  have kB := Lib.hid (fun V => fe_By a i V la li)
  rw [hm] at kB
  have kN := Lib.hid (fun V => fe_Num m V lm)
  clear lm li la lb hl hS hi hm hx lx hk hu
  unfold numV at kF kN ⊢
  try unfold numV at kD
  unfold feV at kF kR kO kB kN
  unfold f2V at kR
  have hc0 := arrK_cells .u64 4 (wd 0)
  have hcm := arrK_cells .u64 4 (wd m)
  have hcx := arrK_cells .i64 16 (dgt x)
  have hcf := arrK_cells .i64 16 fun _ => 0
  have hcz := arrK_cells .i64 32 (cat2L (fun _ => 0) (fun _ => 0))
  have hcq := arrK_cells .i64 32 (cat2L (dgt a) (dgt b))
  have hcr := arrK_cells .i64 32 (cat2L (dgt c) (dgt d))
  have hL0 : Below w.heap.size w (((w.alloc (Obj.cells (arrK .u64 4 (wd k)) 24)).alloc (Obj.cells (arrK .u64 4 (wd u)) 24)).alloc (Obj.cells (arrK .u64 4 (wd 0)) 24)) := by go_grown
  have hK0 : At (((w.alloc (Obj.cells (arrK .u64 4 (wd k)) 24)).alloc (Obj.cells (arrK .u64 4 (wd u)) 24)).alloc (Obj.cells (arrK .u64 4 (wd 0)) 24)) w.heap.size .u64 4 (wd k) := (((At.new _ rfl)).old _).old _
  have hU0 : At (((w.alloc (Obj.cells (arrK .u64 4 (wd k)) 24)).alloc (Obj.cells (arrK .u64 4 (wd u)) 24)).alloc (Obj.cells (arrK .u64 4 (wd 0)) 24)) (w.heap.size + 1) .u64 4 (wd u) := ((At.new _ (by simp))).old _
  have hR0 : Row (((w.alloc (Obj.cells (arrK .u64 4 (wd k)) 24)).alloc (Obj.cells (arrK .u64 4 (wd u)) 24)).alloc (Obj.cells (arrK .u64 4 (wd 0)) 24)) (w.heap.size + 1 + 1) 4 := (At.new (k := .u64) (f := wd 0) _ (by simp)).row
  have hL := Lib.hid hL0
  have hK := Lib.hid hK0
  have hU := Lib.hid hU0
  have hR := Lib.hid hR0
  clear hL0 hK0 hU0 hR0
  go_enter Try.func43, Try.ntmps43
  go_upto_region 1 with (fail)
  generalize ((w.alloc _).alloc _).alloc _ = W0 at *
  have hr1 := hU.out.row
  have hr2 := hU.out.eq
  go_upto_region 2 with (fail)
  refine (kF.out _).mono ?_
  rintro e w2 ⟨rfl, hb⟩
  replace hK := Lib.hid (hK.out.step hb)
  replace hU := Lib.hid (hU.out.step hb)
  replace hR := Lib.hid (row_below hR.out hb hR.out.lt)
  replace hL := Lib.hid (below_step hb hL.out (Nat.le_refl _))
  clear hr1 hr2 hb kF hU
  dsimp only
  have hltK := hK.out.lt
  have hltR := hR.out.lt
  have hX5 := Lib.hid (At.new (w := w2) (k := .i64) (m := 16) (f := dgt x) 26 rfl)
  replace hK := Lib.hid (hK.out.old (Obj.cells (arrK .i64 16 (dgt x)) 26))
  replace hR := Lib.hid ((row_old (o := Obj.cells (arrK .i64 16 (dgt x)) 26) hR.out.lt).2 hR.out)
  replace hL := Lib.hid (Below.trans hL.out ((below_alloc w2 (Obj.cells (arrK .i64 16 (dgt x)) 26)).mono hL.out.size))
  clear hltK hltR
  go_upto_region 2 with (fail)
  obtain ⟨g5, hg⟩ : ∃ g, w2.heap.size = g := ⟨_, rfl⟩
  rw [hg] at hX5 ⊢
  clear hg
  generalize w2.alloc _ = W2 at *
  generalize ha0 : Act.mk _ _ = a0
  have e2 : a0.tmps[2]?.getD undef = .pointer (some ⟨w.heap.size, 0, none⟩) := by rw [← ha0]; rfl
  have e5 : a0.tmps[5]?.getD undef = .pointer (some ⟨g5, 0, none⟩) := by rw [← ha0]; rfl
  have hz0 : a0.tmps.size = 24 := by rw [← ha0]; rfl
  have hha0 := Lib.hid ha0
  clear ha0
  refine wp_region_freshR ⟨fun jx_ => match jx_ with | 0 => some (.agg (arrK .u64 4 (wd k))) | 2 => some (.agg (arrK .i64 16 (dgt x))) | 3 => some (.tuple #[.agg (arrK .i64 32 (cat2L (dgt a) (dgt b))), .agg (arrK .i64 32 (cat2L (dgt c) (dgt d)))]) | 4 => some (.tuple #[.agg (arrK .i64 32 (cat2L (dgt a) (dgt b))), .agg (arrK .i64 32 (cat2L (dgt c) (dgt d)))]) | 5 => some (.agg (arrK .i64 32 (cat2L (dgt a) (dgt b)))) | 6 => some (.agg (arrK .i64 32 (cat2L (dgt c) (dgt d)))) | _ => none, fun jx_ => match jx_ with | 7 => some 32 | 8 => some 32 | _ => none, fun jx_ => match jx_ with | 9 => some 7 | 10 => some 8 | _ => none, fun jx_ => match jx_ with | 9 => arrK .i64 32 (cat2L (dgt a) (dgt b)) | 10 => arrK .i64 32 (cat2L (dgt c) (dgt d)) | _ => #[], fun jx_ => match jx_ with | 1 => some (SRel.fN k) | _ => none⟩ (by kernel_rfl) (by kernel_rfl) (by kernel_rfl) (slotsOk_of hz0 (by kernel_rfl)) rfl (by kernel_rfl) ⟨?_, ?_, ?_, ?_, ?_, ?_, ?_, ?_, ?_, ?_, ?_, trivial⟩ ?_
  · refine fstep_valR rfl rfl (calm_step rfl fun aa ω κ hb hu hc hK => ?_)
    have h2 : aa.tmps[2]?.getD undef = .pointer (some ⟨w.heap.size, 0, none⟩) := (hu 2 rfl).trans e2
    have hk := Lib.hid (fun w1 (h : Below ω.heap.size ω w1) => hK (.agg (arrK .u64 4 (wd k))) w1 rfl h)
    clear hK hu hc
    have hr1 := (hK.out.step hb).row
    have hr2 := (hK.out.step hb).eq
    go_simp
    exact hk.out _ (Below.refl _ _)
  · refine fstep_valR rfl rfl (calm_step rfl fun aa ω κ hb hu hc hK => ?_)
    have h11 : aa.tmps[11]?.getD undef = .agg (arrK .u64 4 (wd k)) := hc 0 11 rfl rfl
    have hk := Lib.hid (fun v w1 (hv : (SRel.fN k).p v w1) (h : Below ω.heap.size ω w1) => hK v w1 hv h)
    clear hK hu hc
    go_simp
    go_at_call 32
    refine (kD.out _).mono ?_
    rintro e w1 ⟨u, rfl, hu1, hb1⟩
    exact hk.out _ _ hu1 hb1
  · refine fstep_valR rfl rfl (calm_step rfl fun aa ω κ hb hu hc hK => ?_)
    have h5 : aa.tmps[5]?.getD undef = .pointer (some ⟨g5, 0, none⟩) := (hu 5 rfl).trans e5
    have hk := Lib.hid (fun w1 (h : Below ω.heap.size ω w1) => hK (.agg (arrK .i64 16 (dgt x))) w1 rfl h)
    clear hK hu hc
    have hr1 := (hX5.out.step hb).row
    have hr2 := (hX5.out.step hb).eq
    go_simp
    exact hk.out _ (Below.refl _ _)
  · refine fstep_valR rfl rfl (calm_step rfl fun aa ω κ hb hu hc hK => ?_)
    have h12 : (SRel.fN k).p (aa.tmps[12]?.getD undef) ω := hc 1 12 rfl rfl
    have h13 : aa.tmps[13]?.getD undef = .agg (arrK .i64 16 (dgt x)) := hc 2 13 rfl rfl
    have hk := Lib.hid (fun w1 (h : Below ω.heap.size ω w1) => hK (.tuple #[.agg (arrK .i64 32 (cat2L (dgt a) (dgt b))), .agg (arrK .i64 32 (cat2L (dgt c) (dgt d)))]) w1 rfl h)
    clear hK hu hc
    go_simp
    go_at_call 111
    refine (kR.out _ _ h12).mono ?_
    rintro e w1 ⟨rfl, hb1⟩
    exact hk.out _ hb1
  · refine fstep_valR rfl rfl (calm_step rfl fun aa ω κ hb hu hc hK => ?_)
    have h14 : aa.tmps[14]?.getD undef = .tuple #[.agg (arrK .i64 32 (cat2L (dgt a) (dgt b))), .agg (arrK .i64 32 (cat2L (dgt c) (dgt d)))] := hc 3 14 rfl rfl
    have hk := Lib.hid (fun w1 (h : Below ω.heap.size ω w1) => hK (.tuple #[.agg (arrK .i64 32 (cat2L (dgt a) (dgt b))), .agg (arrK .i64 32 (cat2L (dgt c) (dgt d)))]) w1 rfl h)
    clear hK hu hc
    go_simp
    exact hk.out _ (Below.refl _ _)
  · refine fstep_valR rfl rfl (calm_step rfl fun aa ω κ hb hu hc hK => ?_)
    have h10 : aa.tmps[10]?.getD undef = .tuple #[.agg (arrK .i64 32 (cat2L (dgt a) (dgt b))), .agg (arrK .i64 32 (cat2L (dgt c) (dgt d)))] := hc 4 10 rfl rfl
    have hk := Lib.hid (fun w1 (h : Below ω.heap.size ω w1) => hK (.agg (arrK .i64 32 (cat2L (dgt a) (dgt b)))) w1 rfl h)
    clear hK hu hc
    go_simp
    exact hk.out _ (Below.refl _ _)
  · refine fstep_valR rfl rfl (calm_step rfl fun aa ω κ hb hu hc hK => ?_)
    have h10 : aa.tmps[10]?.getD undef = .tuple #[.agg (arrK .i64 32 (cat2L (dgt a) (dgt b))), .agg (arrK .i64 32 (cat2L (dgt c) (dgt d)))] := hc 4 10 rfl rfl
    have hk := Lib.hid (fun w1 (h : Below ω.heap.size ω w1) => hK (.agg (arrK .i64 32 (cat2L (dgt c) (dgt d)))) w1 rfl h)
    clear hK hu hc
    go_simp
    exact hk.out _ (Below.refl _ _)
  · refine fstep_alR (n := 32) rfl rfl fun aa ω κ hK => ?_
    have hk := Lib.hid hK
    clear hK
    go_simp
    exact hk.out _ _ hcz
  · refine fstep_alR (n := 32) rfl rfl fun aa ω κ hK => ?_
    have hk := Lib.hid hK
    clear hK
    go_simp
    exact hk.out _ _ hcz
  · refine fstep_stR (j := 7) (n := 32) (d := 6) rfl rfl rfl rfl rfl hcq.1 rfl rfl fun aa ω κ g hb hu hc hp hr hK => ?_
    have h15 : aa.tmps[15]?.getD undef = .agg (arrK .i64 32 (cat2L (dgt a) (dgt b))) := hc 5 15 rfl rfl
    have hk := Lib.hid hK
    clear hK hu hc
    have hcc := hcq
    go_simp
    exact hk.out undef
  · refine fstep_stR (j := 8) (n := 32) (d := 7) rfl rfl rfl rfl rfl hcr.1 rfl rfl fun aa ω κ g hb hu hc hp hr hK => ?_
    have h16 : aa.tmps[16]?.getD undef = .agg (arrK .i64 32 (cat2L (dgt c) (dgt d))) := hc 6 16 rfl rfl
    have hk := Lib.hid hK
    clear hK hu hc
    have hcc := hcr
    go_simp
    exact hk.out undef
  · intro a1 w1 G I
    have ha0 := hha0.out
    subst ha0
    have he := act_patch (n := 24) [false, false, false, false, false, false, true, true, false, false, true, true, true, true, true, true, true, false, false, false, false, false, false, false] rfl (by kernel_rfl) I.un I.sz I.df
    simp only [patch, cond_true, cond_false, Nat.reduceAdd] at he
    have hal6 := I.al 7 6 32 rfl rfl rfl
    have hal7 := I.al 8 7 32 rfl rfl rfl
    replace hR := Lib.hid (row_below hR.out I.bel hR.out.lt)
    replace hL := Lib.hid (below_step I.bel hL.out (Nat.le_refl _))
    have hX6 := Lib.hid (show At w1 (G 7) .i64 32 (cat2L (dgt a) (dgt b)) from ⟨(I.blk 7 32 rfl rfl).2, (I.row 9 7 rfl rfl).2.2⟩)
    clear kR kD hK hX5
    clear I hz0 hha0 e2 e5
    rw [he]
    clear he
    rw [hal6]
    rw [hal7]
    clear hal6 hal7
    generalize a1.tmps[10]?.getD undef = x10 at *
    generalize a1.tmps[11]?.getD undef = x11 at *
    generalize a1.tmps[12]?.getD undef = x12 at *
    generalize a1.tmps[13]?.getD undef = x13 at *
    generalize a1.tmps[14]?.getD undef = x14 at *
    generalize a1.tmps[15]?.getD undef = x15 at *
    generalize a1.tmps[16]?.getD undef = x16 at *
    obtain ⟨g6, hg⟩ : ∃ g, G 7 = g := ⟨_, rfl⟩
    rw [hg] at hX6 ⊢
    clear hg
    obtain ⟨g7, hg⟩ : ∃ g, G 8 = g := ⟨_, rfl⟩
    rw [hg]
    clear hg
    generalize w1 = W3 at *
    go_upto_region 3 with (fail)
    generalize ha0 : Act.mk _ _ = a0
    have e4 : a0.tmps[4]?.getD undef = .pointer (some ⟨w.heap.size + 1 + 1, 0, none⟩) := by rw [← ha0]; rfl
    have e6 : a0.tmps[6]?.getD undef = .pointer (some ⟨g6, 0, none⟩) := by rw [← ha0]; rfl
    have hz0 : a0.tmps.size = 24 := by rw [← ha0]; rfl
    have hha0 := Lib.hid ha0
    clear ha0
    refine wp_region_one (fun jx_ => match jx_ with | 0 => some (.pointer (some ⟨g6, 0, none⟩)) | 1 => some (.agg (arrK .i64 16 (dgt a))) | 2 => some (.pointer (some ⟨g6, 16, none⟩)) | 3 => some (.agg (arrK .i64 16 (dgt b))) | 4 => some (.agg (arrK .i64 16 (dgt i))) | 5 => some (.agg (arrK .i64 16 (dgt m))) | 6 => some (.agg (arrK .u64 4 (wd m))) | _ => none) 7 ((w.heap.size + 1 + 1)) 4 (arrK .u64 4 (wd m)) (by kernel_rfl) (by kernel_rfl) (by kernel_rfl) (slotsOk_of hz0 (by kernel_rfl)) (of_decide_eq_true (by kernel_rfl)) hR.out ⟨?_, ?_, ?_, ?_, ?_, ?_, ?_, ?_, trivial⟩ ?_
    · refine one_before (by decide) (by kernel_rfl) (calm_step rfl fun aa ω κ hb hu hc hK => ?_)
      have h6 : aa.tmps[6]?.getD undef = .pointer (some ⟨g6, 0, none⟩) := (hu 6 rfl).trans e6
      have hk := Lib.hid (fun w1 (h : Below ω.heap.size ω w1) => hK (.pointer (some ⟨g6, 0, none⟩)) w1 rfl h)
      clear hK hu hc
      go_simp
      exact hk.out _ (Below.refl _ _)
    · refine one_before (by decide) (by kernel_rfl) (calm_step rfl fun aa ω κ hb hu hc hK => ?_)
      have h17 : aa.tmps[17]?.getD undef = .pointer (some ⟨g6, 0, none⟩) := hc 0 17 rfl rfl
      have hk := Lib.hid (fun w1 (h : Below ω.heap.size ω w1) => hK (.agg (arrK .i64 16 (dgt a))) w1 rfl h)
      clear hK hu hc
      have hl := f2_0 (hX6.out.step hb)
      have hl1 := hl.1
      have hl2 := hl.2
      go_simp
      exact hk.out _ (Below.refl _ _)
    · refine one_before (by decide) (by kernel_rfl) (calm_step rfl fun aa ω κ hb hu hc hK => ?_)
      have h6 : aa.tmps[6]?.getD undef = .pointer (some ⟨g6, 0, none⟩) := (hu 6 rfl).trans e6
      have hk := Lib.hid (fun w1 (h : Below ω.heap.size ω w1) => hK (.pointer (some ⟨g6, 16, none⟩)) w1 rfl h)
      clear hK hu hc
      go_simp
      exact hk.out _ (Below.refl _ _)
    · refine one_before (by decide) (by kernel_rfl) (calm_step rfl fun aa ω κ hb hu hc hK => ?_)
      have h19 : aa.tmps[19]?.getD undef = .pointer (some ⟨g6, 16, none⟩) := hc 2 19 rfl rfl
      have hk := Lib.hid (fun w1 (h : Below ω.heap.size ω w1) => hK (.agg (arrK .i64 16 (dgt b))) w1 rfl h)
      clear hK hu hc
      have hl := f2_1 (hX6.out.step hb)
      have hl1 := hl.1
      have hl2 := hl.2
      go_simp
      exact hk.out _ (Below.refl _ _)
    · refine one_before (by decide) (by kernel_rfl) (calm_step rfl fun aa ω κ hb hu hc hK => ?_)
      have h20 : aa.tmps[20]?.getD undef = .agg (arrK .i64 16 (dgt b)) := hc 3 20 rfl rfl
      have hk := Lib.hid (fun w1 (h : Below ω.heap.size ω w1) => hK (.agg (arrK .i64 16 (dgt i))) w1 rfl h)
      clear hK hu hc
      go_simp
      go_at_call 27
      refine (kO.out _).mono ?_
      rintro e w1 ⟨rfl, hb1⟩
      exact hk.out _ hb1
    · refine one_before (by decide) (by kernel_rfl) (calm_step rfl fun aa ω κ hb hu hc hK => ?_)
      have h18 : aa.tmps[18]?.getD undef = .agg (arrK .i64 16 (dgt a)) := hc 1 18 rfl rfl
      have h21 : aa.tmps[21]?.getD undef = .agg (arrK .i64 16 (dgt i)) := hc 4 21 rfl rfl
      have hk := Lib.hid (fun w1 (h : Below ω.heap.size ω w1) => hK (.agg (arrK .i64 16 (dgt m))) w1 rfl h)
      clear hK hu hc
      go_simp
      go_at_call 25
      refine (kB.out _).mono ?_
      rintro e w1 ⟨rfl, hb1⟩
      exact hk.out _ hb1
    · refine one_before (by decide) (by kernel_rfl) (calm_step rfl fun aa ω κ hb hu hc hK => ?_)
      have h22 : aa.tmps[22]?.getD undef = .agg (arrK .i64 16 (dgt m)) := hc 5 22 rfl rfl
      have hk := Lib.hid (fun w1 (h : Below ω.heap.size ω w1) => hK (.agg (arrK .u64 4 (wd m))) w1 rfl h)
      clear hK hu hc
      go_simp
      go_at_call 19
      refine (kN.out _).mono ?_
      rintro e w1 ⟨rfl, hb1⟩
      exact hk.out _ hb1
    · refine one_q (one_write rfl rfl fun aa ω κ hb hu hc hr hK => ?_)
      have h4 : aa.tmps[4]?.getD undef = .pointer (some ⟨w.heap.size + 1 + 1, 0, none⟩) := (hu 4 rfl).trans e4
      have h23 : aa.tmps[23]?.getD undef = .agg (arrK .u64 4 (wd m)) := hc 6 23 rfl rfl
      have hk := Lib.hid hK
      clear hK hu hc
      have hcc := hcm
      go_simp
      exact hk.out undef
    · intro a1 w1 hb1 hu1 hsz1 hdf1 hv1
      have ha0 := hha0.out
      subst ha0
      have he := act_patch (n := 24) [false, false, false, false, false, false, false, false, false, false, false, false, false, false, false, false, false, true, true, true, true, true, true, true] rfl (by kernel_rfl) hu1 hsz1 hdf1
      simp only [patch, cond_true, cond_false, Nat.reduceAdd] at he
      have hXz := (At.put (k := .u64) (f := (wd m)) hR.out).below hb1 (by simpa using hR.out.lt)
      have hLz := Lib.hid (Below.trans (below_setRow (c := arrK .u64 4 (wd m)) hL.out (by omega)) (hb1.mono (by simpa using hL.out.size)))
      clear hR hL hX6 kO kB kN
      clear hb1 hu1 hsz1 hdf1 hv1 hz0 hha0 e4 e6
      rw [he]
      clear he
      generalize a1.tmps[17]?.getD undef = x17 at *
      generalize a1.tmps[18]?.getD undef = x18 at *
      generalize a1.tmps[19]?.getD undef = x19 at *
      generalize a1.tmps[20]?.getD undef = x20 at *
      generalize a1.tmps[21]?.getD undef = x21 at *
      generalize a1.tmps[22]?.getD undef = x22 at *
      generalize a1.tmps[23]?.getD undef = x23 at *
      go_wp2_with fail
      refine ret_row (p := 4) (ty := 24) (g := w.heap.size + 1 + 1) rfl Try.underlying24 rfl (by kernel_rfl) rfl hXz.row rfl ?_
      rw [hXz.eq]
      exact ⟨rfl, hLz.out⟩
end Go.Proofs.Ytodcjeaannfbnaa
namespace Go.Proofs.Ytodcjeaannfbnaa
open Go Go.ChangeShapes Go.WideShapes Go.ChangeAt Go.RowKit
set_option maxRecDepth 100000
theorem part_4 (F f : Nat → Nat) (o : Nat) (ho : o + 4 ≤ 8) (h : ∀ i < 4, F (o + i) = f i) (w : World) : (part 24 (arrK .u64 8 F) o).run Try.prog w = .ok (.agg (arrK .u64 4 f)) w := by
  obtain ⟨i, hi, hs⟩ : ∃ i, Try.prog.info? 24 = some i ∧ i.size = 4 := by
    have h : (Try.prog.info? 24).map (·.size) = some 4 := by kernel_rfl
    cases hi : Try.prog.info? 24 with
    | none => rw [hi] at h; cases h
    | some i => rw [hi] at h; exact ⟨i, rfl, by simpa using h⟩
  have h2 : (arrK .u64 8 F).extract o (o + 4) = arrK .u64 4 f := by
    rw [arrK_V .u64 8, arrV_extract ho, arrK_V .u64 4]
    exact arrV_congr fun i hi => by rw [h i hi]
  simp [part, isAgg, run_underlying Try.underlying24, sizeOf, typeInfo, hi, hs, h2]
theorem equalIn_4 (f : Nat → Nat) (k : Nat) (w : World) : (Op.equalIn (k + 2) 24 (.agg (arrK .u64 4 f)) (.agg (arrK .u64 4 f))).run Try.prog w = .ok true w := by
  rw [run_equalIn_arrK Try.underlying24 Try.underlying22 (by kernel_rfl)]; simp
theorem eqlPt (f g : Nat → Nat) (w : World) : (Op.equalIn 10000 42 (.agg (arrK .u64 8 (cat2 f g))) (.agg (arrK .u64 8 (cat2 f g)))).run Try.prog w = .ok true w := by
  rw [show 10000 = 9999 + 1 from rfl, Op.equalIn.eq_2]
  simp only [Sem.run_bind, run_underlying Try.underlying42, Result.andThen_ok]
  have hst : Try.prog.stoodInHeld 42 = false := by kernel_rfl
  have h1 := part_4 (cat2 f g) f 0 (by omega) (fun i hi => by unfold cat2; rw [if_pos (by omega), Nat.zero_add]) w
  have h2 := part_4 (cat2 f g) g 4 (by omega) (fun i hi => by unfold cat2; rw [if_neg (by omega), Nat.add_sub_cancel_left]) w
  have hl := equalIn_4 f 9997 w
  have hm := equalIn_4 g 9997 w
  simp only [run_program, Result.andThen_ok, hst, Bool.false_eq_true, if_false, Sem.run_bind]
  simp [List.forIn_cons, h1, h2, hm, hl, Sem.run_bind]
theorem neqPt (f g : Nat → Nat) (w : World) : (binOp .neq 42 (.agg (arrK .u64 8 (cat2 f g))) (.agg (arrK .u64 8 (cat2 f g)))).run Try.prog w = .ok (.bool false) w := by rw [run_neq_struct, eqlPt]; rfl
theorem eqlPtB (f g : Nat → Nat) (w : World) : (binOp .eql 42 (.agg (arrK .u64 8 (cat2 f g))) (.agg (arrK .u64 8 (cat2 f g)))).run Try.prog w = .ok (.bool true) w := by rw [run_eql_struct, eqlPt]; rfl
section
variable {P : Program} {ops : Array Oper} {Q : Exit → Act → World → Prop}
theorem wpList_opW {rest : List Oper} {o : Oper} {a : Act} {w : World} (hw : Region.wanted o (yielded ops a.tmps) = true) (h : ∀ K : Act → World → Prop, (∀ a' w', wpList P ops Q rest a' w' → K a' w') → Oper.wp P o a w K Q) : wpList P ops Q (o :: rest) a w :=
  wpList_step fun K hK => by rw [if_pos hw]; exact h K hK
theorem calm_step_skipN {R : Nat → SRel} {a0 : Act} {w0 : World} {i g : Nat} {b : Bool} {d : Tmp} {o : Oper} (hg : o.guard = some (g, b)) (hd : dstAt ops g = some d)
    (hv : ∀ (a : Act) (w : World), Came ops R o a w → a.tmps[d]?.getD undef ≠ .bool b) (hR : ∀ w, (R i).p undef w) : StepOk P ops Q R a0 w0 i o := by
  intro a w K hb hu hc hK
  have hy : yielded ops a.tmps g ≠ some b := by
    intro hy
    have h1 := hv a w hc
    unfold dstAt at hd
    unfold yielded at hy
    rw [hd, Option.bind_some] at hy
    cases h2 : a.tmps[d]? with
    | none => rw [h2] at hy; cases hy
    | some v =>
      rw [h2] at hy h1
      cases v with
      | bool x =>
        have h3 : x = b := by simpa using hy
        subst h3
        exact h1 rfl
      | _ => cases hy
  rw [if_neg (by simp [Region.wanted, hg, hy])]
  exact hK undef w (hR w) (Below.refl _ _)
end
end Go.Proofs.Ytodcjeaannfbnaa
namespace Go.Proofs.Ytodcjeaannfbnaa
open Go.ChangeShapes Go.WideShapes Go.ChangeAt Go.RowKit
set_option maxHeartbeats 2000000
set_option maxRecDepth 100000
attribute [local go_sem ↓] load_num store_num execl_num execs_num load_b32 store_b32 execl_b32 execs_b32
attribute [local go_sem] isHead_mk blkOf_mk isAgg_mk cellsV_mk row_drew rowAt_drew row_new_cells row_old rowAt_new rowAt_old setRow_new zeroNum zero32
/-- What the ladder makes of k and u. -/
def lad (k u : Nat) : Nat := (lst k u 256).1 * invP (lst k u 256).2.1 % fP
theorem lad_lt (k u : Nat) : lad k u < 2 ^ 256 := low_lt
theorem ladC (k u : Nat) (w : World) (hu : u < 2 ^ 256) : Calls Try.prog 42 #[numV k, numV u] w fun e w' => e = .returned (numV (lad k u)) ∧ Below w.heap.size w w' := ladder_Ladder k u w hu
theorem ladR (k u : Nat) (w : World) (hk : k < 2 ^ 256) (hu : u < 2 ^ 256) : Calls Try.prog 43 #[numV k, numV u] w fun e w' => e = .returned (numV (lad k u)) ∧ Below w.heap.size w w' := by
  have h := ref_Ladder k u (u % fP) (rng (u % fP) k).1 (rng (u % fP) k).2.1 (rng (u % fP) k).2.2.1 (rng (u % fP) k).2.2.2 _ _ w hk hu rfl rfl rfl rfl
  rw [← ladder_same k u hk] at h
  exact h
theorem build_nine (w : World) : (Instr.build 24 #[(0, Value.int IntKind.u64 9)]).run Try.prog w = .ok (.agg (arrK .u64 4 (wd 9))) w := run_build w _ _ _ (by kernel_rfl)
theorem build_nmZ (w : World) : (Instr.build 24 #[]).run Try.prog w = .ok (.agg (arrK .u64 4 (wd 0))) w := run_build w _ _ _ (by kernel_rfl)
theorem build_b32Z (w : World) : (Instr.build 67 #[]).run Try.prog w = .ok (.agg (arrK .u8 32 fun _ => 0)) w := run_build w _ _ _ (by kernel_rfl)
theorem clv_lt {f : Nat → Nat} (hf : ∀ i < 32, f i < 256) : bval (clF f) 32 < 2 ^ 256 := by
  have hcl : ∀ i < 32, clF f i < 256 := fun i hi => by
    have := hf i hi
    have h0 := hf 0 (by omega)
    unfold clF upd
    split <;> (try split) <;> omega
  have h := bval_lt (n := 32) hcl
  rw [pow_256] at h
  exact h
/-- A public number's bytes without the last bit. -/
def puF (f : Nat → Nat) : Nat → Nat := upd f 31 (f 31 % 128)
theorem puF_val {f : Nat → Nat} (hf : ∀ i < 32, f i < 256) : bval (puF f) 32 = bval f 32 % 2 ^ 255 := by
  have h1 : bval (puF f) 32 = bval f 31 + 256 ^ 31 * (f 31 % 128) := by
    have : ∀ n, n ≤ 31 → bval (puF f) n = bval f n := fun n => by
      induction n with
      | zero => intro _; rfl
      | succ n ih =>
        intro hn
        show bval (puF f) n + 256 ^ n * puF f n = bval f n + 256 ^ n * f n
        rw [ih (by omega), show puF f n = f n by unfold puF upd; rw [if_neg (by omega)]]
    show bval (puF f) 31 + 256 ^ 31 * puF f 31 = _
    rw [this 31 (by omega)]
    rfl
  have h2 : bval f 32 = bval f 31 + 256 ^ 31 * f 31 := rfl
  have h3 : bval f 31 < 256 ^ 31 := bval_lt fun i hi => hf i (by omega)
  rw [h1, h2]
  have hP : (2 : Nat) ^ 255 = 128 * 256 ^ 31 := by rw [pow_256, show (128 : Nat) = 2 ^ 7 from rfl, ← Nat.pow_add]
  rw [hP]
  generalize bval f 31 = B at *
  generalize f 31 = y at *
  generalize (256 : Nat) ^ 31 = K at *
  have e2 : B + K * y = B + K * (y % 128) + 128 * K * (y / 128) := by
    have h1 : K * y = K * (y % 128) + K * (128 * (y / 128)) := by rw [← Nat.mul_add, Nat.mod_add_div]
    rw [h1]
    generalize y / 128 = q
    grind
  have e3 : B + K * (y % 128) < 128 * K := by
    have h1 : K * (y % 128) ≤ K * 127 := Nat.mul_le_mul_left _ (by omega)
    omega
  rw [e2, Nat.add_mul_mod_self_left, Nat.mod_eq_of_lt e3]
theorem puF_lt {f : Nat → Nat} (hf : ∀ i < 32, f i < 256) : ∀ i < 32, puF f i < 256 := fun i hi => by
  have := hf i hi
  unfold puF upd
  split <;> omega
theorem agree_Public (f : Nat → Nat) (w : World) (hf : ∀ i < 32, f i < 256) : Calls Try.prog 51 #[.agg (arrK .u8 32 f)] w fun e w' => e = .returned (.agg (arrK .u8 32 (byt (lad (bval (clF f) 32) 9)))) ∧ Below w.heap.size w w' := by
  have kC := Lib.hid (fun V => agree_Clamp f V hf)
  have hk := clv_lt hf
  obtain ⟨k, hke⟩ : ∃ k, bval (clF f) 32 = k := ⟨_, rfl⟩
  rw [hke] at kC hk ⊢
  have h9 : 9 < 2 ^ 256 := by decide +kernel
  have kL := Lib.hid (fun V => ladC k 9 V h9)
  have hv := lad_lt k 9
  obtain ⟨v, hve⟩ : ∃ v, lad k 9 = v := ⟨_, rfl⟩
  rw [hve] at kL hv ⊢
  have kB := Lib.hid (fun V => limb_Bytes v V)
  clear hve hv h9 hke hk hf
  unfold numV at kC kL kB
  have hcz := arrK_cells .u8 32 fun _ => 0
  have hcr := arrK_cells .u8 32 (byt v)
  have hL0 : Below w.heap.size w ((w.alloc (Obj.cells (arrK .u8 32 f) 67)).alloc (Obj.cells (arrK .u8 32 fun _ => 0) 67)) := by go_grown
  have hA0 : At ((w.alloc (Obj.cells (arrK .u8 32 f) 67)).alloc (Obj.cells (arrK .u8 32 fun _ => 0) 67)) w.heap.size .u8 32 f := (At.new _ rfl).old _
  have hR0 : Row ((w.alloc (Obj.cells (arrK .u8 32 f) 67)).alloc (Obj.cells (arrK .u8 32 fun _ => 0) 67)) (w.heap.size + 1) 32 := (At.new (k := .u8) (f := fun _ => 0) _ (by simp)).row
  have hL := Lib.hid hL0
  have hA := Lib.hid hA0
  have hR := Lib.hid hR0
  clear hL0 hA0 hR0
  go_enter Try.func51, Try.ntmps51
  go_upto_region 1 with (fail)
  generalize (w.alloc _).alloc _ = W0 at *
  have hr1 := hA.out.row
  have hr2 := hA.out.eq
  go_wp2_with fail
  refine (kC.out _).mono ?_
  rintro e w2 ⟨rfl, hb⟩
  replace hR := Lib.hid (row_below hR.out hb hR.out.lt)
  replace hL := Lib.hid (below_step hb hL.out (Nat.le_refl _))
  clear hr1 hr2 hA hb kC
  dsimp only
  go_wp2_with (first
    | refine wpList_opW (by go_simp) (fun K hK => wp_bldA rfl (vx := Value.int IntKind.u64 (9 : Int)) rfl (build_nine _) (hK _ _ ?_)))
  refine (kL.out _).mono ?_
  rintro e w3 ⟨rfl, hb⟩
  replace hR := Lib.hid (row_below hR.out hb hR.out.lt)
  replace hL := Lib.hid (below_step hb hL.out (Nat.le_refl _))
  clear hb kL
  dsimp only
  go_wp2_with fail
  refine (kB.out _).mono ?_
  rintro e w4 ⟨rfl, hb⟩
  have hR4 := row_below hR.out hb hR.out.lt
  have hL4 := below_step hb hL.out (Nat.le_refl _)
  clear hb kB hR hL
  dsimp only
  go_wp2_with fail
  refine ret_row (p := 2) (ty := 67) (g := w.heap.size + 1) rfl Try.underlying67 rfl (by kernel_rfl) rfl ((row_setRow_same rfl hR4).2 hcr.1) rfl ?_
  rw [rowAt_setRow_same hR4]
  exact ⟨rfl, below_setRow hL4 (by omega)⟩
theorem ref_PublicOf (f : Nat → Nat) (w : World) (hf : ∀ i < 32, f i < 256) : Calls Try.prog 52 #[.agg (arrK .u8 32 f)] w fun e w' => e = .returned (.agg (arrK .u8 32 (byt (lad (bval (clF f) 32) 9)))) ∧ Below w.heap.size w w' := by
  have kC := Lib.hid (fun V => ref_Clamped f V hf)
  have hk := clv_lt hf
  obtain ⟨k, hke⟩ : ∃ k, bval (clF f) 32 = k := ⟨_, rfl⟩
  rw [hke] at kC hk ⊢
  have h9 : 9 < 2 ^ 256 := by decide +kernel
  have kL := Lib.hid (fun V => ladR k 9 V hk h9)
  have hv := lad_lt k 9
  obtain ⟨v, hve⟩ : ∃ v, lad k 9 = v := ⟨_, rfl⟩
  rw [hve] at kL hv ⊢
  have kB := Lib.hid (fun V => ref_bytesOf v V hv)
  clear hve hv h9 hke hk hf
  unfold numV at kC kL kB
  have hcz := arrK_cells .u8 32 fun _ => 0
  have hcr := arrK_cells .u8 32 (byt v)
  have hL0 : Below w.heap.size w ((w.alloc (Obj.cells (arrK .u8 32 f) 67)).alloc (Obj.cells (arrK .u8 32 fun _ => 0) 67)) := by go_grown
  have hA0 : At ((w.alloc (Obj.cells (arrK .u8 32 f) 67)).alloc (Obj.cells (arrK .u8 32 fun _ => 0) 67)) w.heap.size .u8 32 f := (At.new _ rfl).old _
  have hR0 : Row ((w.alloc (Obj.cells (arrK .u8 32 f) 67)).alloc (Obj.cells (arrK .u8 32 fun _ => 0) 67)) (w.heap.size + 1) 32 := (At.new (k := .u8) (f := fun _ => 0) _ (by simp)).row
  have hL := Lib.hid hL0
  have hA := Lib.hid hA0
  have hR := Lib.hid hR0
  clear hL0 hA0 hR0
  go_enter Try.func52, Try.ntmps52
  go_upto_region 1 with (fail)
  generalize (w.alloc _).alloc _ = W0 at *
  have hr1 := hA.out.row
  have hr2 := hA.out.eq
  go_wp2_with fail
  refine (kC.out _).mono ?_
  rintro e w2 ⟨rfl, hb⟩
  replace hR := Lib.hid (row_below hR.out hb hR.out.lt)
  replace hL := Lib.hid (below_step hb hL.out (Nat.le_refl _))
  clear hr1 hr2 hA hb kC
  dsimp only
  go_wp2_with (first
    | refine wpList_opW (by go_simp) (fun K hK => wp_bldA rfl (vx := Value.int IntKind.u64 (9 : Int)) rfl (build_nine _) (hK _ _ ?_)))
  refine (kL.out _).mono ?_
  rintro e w3 ⟨rfl, hb⟩
  replace hR := Lib.hid (row_below hR.out hb hR.out.lt)
  replace hL := Lib.hid (below_step hb hL.out (Nat.le_refl _))
  clear hb kL
  dsimp only
  go_wp2_with fail
  refine (kB.out _).mono ?_
  rintro e w4 ⟨rfl, hb⟩
  have hR4 := row_below hR.out hb hR.out.lt
  have hL4 := below_step hb hL.out (Nat.le_refl _)
  clear hb kB hR hL
  dsimp only
  go_wp2_with fail
  refine ret_row (p := 2) (ty := 67) (g := w.heap.size + 1) rfl Try.underlying67 rfl (by kernel_rfl) rfl ((row_setRow_same rfl hR4).2 hcr.1) rfl ?_
  rw [rowAt_setRow_same hR4]
  exact ⟨rfl, below_setRow hL4 (by omega)⟩
section
variable {P : Program} {ops : Array Oper} {o : Oper} {a : Act} {w : World} {K : Act → World → Prop} {Q : Exit → Act → World → Prop} {t : TypeId} {u : Value}
theorem wp_bldE (ho : o.op = .build t #[]) (hr : (Instr.build t #[]).run P w = .ok u w) (h : K (a.put o.dst u) w) : Oper.wp P o a w K Q := by
  obtain ⟨dst, op, tt, pos, af, gd⟩ := o
  subst ho
  unfold Oper.wp execOp
  simp only [List.map_toArray, List.map_nil, Sem.run_bind, hr, Result.andThen_ok]
  exact h
end
theorem agree_Shared (f pb : Nat → Nat) (w : World) (hf : ∀ i < 32, f i < 256) (hh : ∀ i < 32, pb i < 256) : Calls Try.prog 47 #[.agg (arrK .u8 32 f), .agg (arrK .u8 32 pb)] w fun e w' => e = .returned (bif decide (lad (bval (clF f) 32) (bval pb 32 % 2 ^ 255) = 0) then .tuple #[.agg (arrK .u8 32 fun _ => 0), .int .i64 1] else .tuple #[.agg (arrK .u8 32 (byt (lad (bval (clF f) 32) (bval pb 32 % 2 ^ 255)))), .int .i64 0]) ∧ Below w.heap.size w w' := by
  have kC := Lib.hid (fun V => agree_Clamp f V hf)
  have hk := clv_lt hf
  obtain ⟨k, hke⟩ : ∃ k, bval (clF f) 32 = k := ⟨_, rfl⟩
  rw [hke] at kC hk ⊢
  rw [← puF_val hh]
  have kO := Lib.hid (fun V => limb_Of (puF pb) V (puF_lt hh))
  have hul := bval_lt (n := 32) (puF_lt hh)
  rw [pow_256, show 8 * 32 = 256 from rfl] at hul
  obtain ⟨u, hue⟩ : ∃ u, bval (puF pb) 32 = u := ⟨_, rfl⟩
  rw [hue] at kO hul ⊢
  have kL := Lib.hid (fun V => ladC k u V hul)
  have hv := lad_lt k u
  obtain ⟨v, hve⟩ : ∃ v, lad k u = v := ⟨_, rfl⟩
  rw [hve] at kL hv ⊢
  have kB := Lib.hid (fun V => limb_Bytes v V)
  have kE := Lib.hid (fun W => eqlNum hv (show 0 < 2 ^ 256 by decide +kernel) W)
  obtain ⟨z, hz0⟩ : ∃ z, decide (v = 0) = z := ⟨_, rfl⟩
  rw [hz0] at kE ⊢
  clear hz0
  have h31 := hh 31 (by omega)
  have b1 := and_127 (pb 31) h31
  have hF := Lib.hid (show puF pb = upd pb 31 (pb 31 % 128) from rfl)
  obtain ⟨y, hy⟩ : ∃ v, pb 31 % 128 = v := ⟨_, rfl⟩
  rw [hy] at b1 hF
  clear hve hv hue hul hy hke hk hf hh
  unfold numV at kC kO kL kB
  have hcz := arrK_cells .u8 32 fun _ => 0
  have hcr := arrK_cells .u8 32 (byt v)
  have hc0 := arrK_cells .u64 4 (wd 0)
  have hcv := arrK_cells .u64 4 (wd v)
  have hL0 : Below w.heap.size w (((w.alloc (Obj.cells (arrK .u8 32 f) 67)).alloc (Obj.cells (arrK .u8 32 pb) 67)).alloc (Obj.cells (arrK .u8 32 fun _ => 0) 67)) := by go_grown
  have hA0 : At (((w.alloc (Obj.cells (arrK .u8 32 f) 67)).alloc (Obj.cells (arrK .u8 32 pb) 67)).alloc (Obj.cells (arrK .u8 32 fun _ => 0) 67)) w.heap.size .u8 32 f := ((At.new _ rfl).old _).old _
  have hH0 : At (((w.alloc (Obj.cells (arrK .u8 32 f) 67)).alloc (Obj.cells (arrK .u8 32 pb) 67)).alloc (Obj.cells (arrK .u8 32 fun _ => 0) 67)) (w.heap.size + 1) .u8 32 pb := (At.new _ (by simp)).old _
  have hR0 : Row (((w.alloc (Obj.cells (arrK .u8 32 f) 67)).alloc (Obj.cells (arrK .u8 32 pb) 67)).alloc (Obj.cells (arrK .u8 32 fun _ => 0) 67)) (w.heap.size + 1 + 1) 32 := (At.new (k := .u8) (f := fun _ => 0) _ (by simp)).row
  have hL := Lib.hid hL0
  have hA := Lib.hid hA0
  have hH := Lib.hid hH0
  have hR := Lib.hid hR0
  clear hL0 hA0 hH0 hR0
  go_enter Try.func47, Try.ntmps47
  go_upto_region 1 with (fail)
  generalize ((w.alloc _).alloc _).alloc _ = W0 at *
  have c1 := hH.out.cell (i := 31) (by omega)
  have f1 := hH.out.row.frozen 31
  go_upto_region 2 with (fail)
  have hH3 := Lib.hid (show At _ (w.heap.size + 1) .u8 32 (puF pb) from hF.out ▸ hH.out.set 31 y)
  have hA3 := Lib.hid (hA.out.farC (a := ⟨w.heap.size + 1, 31, none⟩) (v := .int .u8 (y : Nat)) (by simp))
  have hL3 := Lib.hid (hL.out.setCell (p := ⟨w.heap.size + 1, 31, none⟩) (by simp) (.int .u8 (y : Nat)))
  have hR3 := Lib.hid (row_setCell (a := ⟨w.heap.size + 1, 31, none⟩) (v := .int .u8 (y : Nat)) |>.2 hR.out)
  clear hA hL hR hH c1 f1 b1 h31 hF
  have hA := hA3
  have hH := hH3
  have hR := hR3
  have hL := hL3
  clear hA3 hH3 hR3 hL3
  generalize W0.setCell _ _ = W2 at *
  generalize ha0 : Act.mk _ _ = a0
  have e2 : a0.tmps[2]?.getD undef = .pointer (some ⟨w.heap.size, 0, none⟩) := by rw [← ha0]; rfl
  have e3 : a0.tmps[3]?.getD undef = .pointer (some ⟨w.heap.size + 1, 0, none⟩) := by rw [← ha0]; rfl
  have hz0 : a0.tmps.size = 22 := by rw [← ha0]; rfl
  have hha0 := Lib.hid ha0
  clear ha0
  refine wp_region_fresh ⟨fun jx_ => match jx_ with | 0 => some (.agg (arrK .u8 32 f)) | 1 => some (.agg (arrK .u64 4 (wd k))) | 2 => some (.agg (arrK .u8 32 (puF pb))) | 3 => some (.agg (arrK .u64 4 (wd u))) | 4 => some (.agg (arrK .u64 4 (wd v))) | _ => none, fun jx_ => match jx_ with | 5 => some 4 | _ => none, fun jx_ => match jx_ with | 6 => some 5 | _ => none, fun jx_ => match jx_ with | 6 => arrK .u64 4 (wd v) | _ => #[]⟩ (by kernel_rfl) (by kernel_rfl) (by kernel_rfl) (slotsOk_of hz0 (by kernel_rfl)) rfl ⟨?_, ?_, ?_, ?_, ?_, ?_, ?_, trivial⟩ ?_
  · refine fstep_val rfl rfl (calm_step rfl fun aa ω κ hb hu hc hK => ?_)
    have h2 : aa.tmps[2]?.getD undef = .pointer (some ⟨w.heap.size, 0, none⟩) := (hu 2 rfl).trans e2
    have hk := Lib.hid (fun w1 (h : Below ω.heap.size ω w1) => hK (.agg (arrK .u8 32 f)) w1 rfl h)
    clear hK hu hc
    have hr1 := (hA.out.step hb).row
    have hr2 := (hA.out.step hb).eq
    go_simp
    exact hk.out _ (Below.refl _ _)
  · refine fstep_val rfl rfl (calm_step rfl fun aa ω κ hb hu hc hK => ?_)
    have h11 : aa.tmps[11]?.getD undef = .agg (arrK .u8 32 f) := hc 0 11 rfl rfl
    have hk := Lib.hid (fun w1 (h : Below ω.heap.size ω w1) => hK (.agg (arrK .u64 4 (wd k))) w1 rfl h)
    clear hK hu hc
    go_simp
    go_at_call 49
    refine (kC.out _).mono ?_
    rintro e w1 ⟨rfl, hb1⟩
    exact hk.out _ hb1
  · refine fstep_val rfl rfl (calm_step rfl fun aa ω κ hb hu hc hK => ?_)
    have h3 : aa.tmps[3]?.getD undef = .pointer (some ⟨w.heap.size + 1, 0, none⟩) := (hu 3 rfl).trans e3
    have hk := Lib.hid (fun w1 (h : Below ω.heap.size ω w1) => hK (.agg (arrK .u8 32 (puF pb))) w1 rfl h)
    clear hK hu hc
    have hr1 := (hH.out.step hb).row
    have hr2 := (hH.out.step hb).eq
    go_simp
    exact hk.out _ (Below.refl _ _)
  · refine fstep_val rfl rfl (calm_step rfl fun aa ω κ hb hu hc hK => ?_)
    have h13 : aa.tmps[13]?.getD undef = .agg (arrK .u8 32 (puF pb)) := hc 2 13 rfl rfl
    have hk := Lib.hid (fun w1 (h : Below ω.heap.size ω w1) => hK (.agg (arrK .u64 4 (wd u))) w1 rfl h)
    clear hK hu hc
    go_simp
    go_at_call 120
    refine (kO.out _).mono ?_
    rintro e w1 ⟨rfl, hb1⟩
    exact hk.out _ hb1
  · refine fstep_val rfl rfl (calm_step rfl fun aa ω κ hb hu hc hK => ?_)
    have h12 : aa.tmps[12]?.getD undef = .agg (arrK .u64 4 (wd k)) := hc 1 12 rfl rfl
    have h14 : aa.tmps[14]?.getD undef = .agg (arrK .u64 4 (wd u)) := hc 3 14 rfl rfl
    have hk := Lib.hid (fun w1 (h : Below ω.heap.size ω w1) => hK (.agg (arrK .u64 4 (wd v))) w1 rfl h)
    clear hK hu hc
    go_simp
    go_at_call 42
    refine (kL.out _).mono ?_
    rintro e w1 ⟨rfl, hb1⟩
    exact hk.out _ hb1
  · refine fstep_al (n := 4) rfl rfl fun aa ω κ hK => ?_
    have hk := Lib.hid hK
    clear hK
    go_simp
    exact hk.out _ _ hc0
  · refine fstep_st (j := 5) (n := 4) (d := 6) rfl rfl rfl rfl rfl hcv.1 rfl rfl fun aa ω κ g hb hu hc hp hr hK => ?_
    have h15 : aa.tmps[15]?.getD undef = .agg (arrK .u64 4 (wd v)) := hc 4 15 rfl rfl
    have hk := Lib.hid hK
    clear hK hu hc
    have hcc := hcv
    go_simp
    exact hk.out undef
  · intro a1 w1 G I
    have ha0 := hha0.out
    subst ha0
    have he := act_patch (n := 22) [false, false, false, false, false, false, true, false, false, false, false, true, true, true, true, true, false, false, false, false, false, false] rfl (by kernel_rfl) I.un I.sz I.df
    simp only [patch, cond_true, cond_false, Nat.reduceAdd] at he
    have hal6 := I.al 5 6 4 rfl rfl rfl
    replace hR := Lib.hid (row_below hR.out I.bel hR.out.lt)
    replace hL := Lib.hid (below_step I.bel hL.out (Nat.le_refl _))
    have hX := Lib.hid (show At w1 (G 5) .u64 4 (wd v) from ⟨(I.blk 5 4 rfl rfl).2, (I.row 6 5 rfl rfl).2.2⟩)
    clear kC kO kL hA hH
    clear I hz0 hha0 e2 e3
    rw [he]
    clear he
    rw [hal6]
    clear hal6
    generalize a1.tmps[11]?.getD undef = x11 at *
    generalize a1.tmps[12]?.getD undef = x12 at *
    generalize a1.tmps[13]?.getD undef = x13 at *
    generalize a1.tmps[14]?.getD undef = x14 at *
    generalize a1.tmps[15]?.getD undef = x15 at *
    obtain ⟨g6, hg⟩ : ∃ g, G 5 = g := ⟨_, rfl⟩
    rw [hg] at hX ⊢
    clear hg
    generalize w1 = W3 at *
    have hr1 := hX.out.row
    have hr2 := hX.out.eq
    cases z with
    | true =>
      have hr3 := hR.out
      go_upto_region 4 with (first
        | refine wpList_opW (by go_simp) (fun K hK => wp_bldE rfl (build_nmZ _) (hK _ _ ?_))
        | refine wpList_opW (by go_simp) (fun K hK => wp_eqlA (.inr rfl) (by kernel_rfl) (v := arrK .u64 4 (wd v)) (u := arrK .u64 4 (wd 0)) (by go_simp) (by go_simp) (kE.out _) (hK _ _ ?_)))
      go_wp2_with (first
        | refine wpList_opW (by go_simp) (fun K hK => wp_bldE rfl (build_b32Z _) (hK _ _ ?_)))
      exact ret_stored2 (p := 4) (q := 5) (ty := 67) (g := w.heap.size + 1 + 1) (n := 32) (c := arrK .u8 32 fun _ => 0) rfl Try.underlying67 rfl (by kernel_rfl) rfl hR.out hcz.1 rfl ⟨rfl, below_setRow hL.out (by omega)⟩
    | false =>
      go_upto_region 5 with (first
        | refine wpList_opW (by go_simp) (fun K hK => wp_bldE rfl (build_nmZ _) (hK _ _ ?_))
        | refine wpList_opW (by go_simp) (fun K hK => wp_eqlA (.inr rfl) (by kernel_rfl) (v := arrK .u64 4 (wd v)) (u := arrK .u64 4 (wd 0)) (by go_simp) (by go_simp) (kE.out _) (hK _ _ ?_)))
      clear hr1 hr2
      have hr1 := hX.out.row
      have hr2 := hX.out.eq
      go_wp2_with fail
      refine (kB.out _).mono ?_
      rintro e w9 ⟨rfl, hb⟩
      replace hR := Lib.hid (row_below hR.out hb hR.out.lt)
      replace hL := Lib.hid (below_step hb hL.out (Nat.le_refl _))
      clear hr1 hr2 hb kB hX
      dsimp only
      have hr3 := hR.out
      go_wp2_with fail
      exact ret_stored2 (p := 4) (q := 5) (ty := 67) (g := w.heap.size + 1 + 1) (n := 32) (c := arrK .u8 32 (byt v)) rfl Try.underlying67 rfl (by kernel_rfl) rfl hR.out hcr.1 rfl ⟨rfl, below_setRow hL.out (by omega)⟩
theorem ref_SharedOf (f pb : Nat → Nat) (w : World) (hf : ∀ i < 32, f i < 256) (hh : ∀ i < 32, pb i < 256) : Calls Try.prog 48 #[.agg (arrK .u8 32 f), .agg (arrK .u8 32 pb)] w fun e w' => e = .returned (bif decide (lad (bval (clF f) 32) (bval pb 32 % 2 ^ 255) = 0) then .tuple #[.agg (arrK .u8 32 fun _ => 0), .int .i64 1] else .tuple #[.agg (arrK .u8 32 (byt (lad (bval (clF f) 32) (bval pb 32 % 2 ^ 255)))), .int .i64 0]) ∧ Below w.heap.size w w' := by
  have kC := Lib.hid (fun V => ref_Clamped f V hf)
  have hk := clv_lt hf
  obtain ⟨k, hke⟩ : ∃ k, bval (clF f) 32 = k := ⟨_, rfl⟩
  rw [hke] at kC hk ⊢
  have hnl := bval_lt (n := 32) hh
  rw [pow_256, show 8 * 32 = 256 from rfl] at hnl
  have kN := Lib.hid (fun V (hA : At V (w.heap.size + 1) .u8 32 pb) => ref_number pb (w.heap.size + 1) 32 32 V hA.lt (fun i hi => hA.cell hi) hh (by omega) (by omega) (by omega))
  obtain ⟨n, hne⟩ : ∃ n, bval pb 32 = n := ⟨_, rfl⟩
  rw [hne] at kN hnl ⊢
  have hul : n % 2 ^ 255 < 2 ^ 256 := Nat.lt_of_le_of_lt (Nat.mod_le _ _) hnl
  have kW := Lib.hid (fun V => ref_TwoTo 255 V (by omega))
  have kR := Lib.hid (fun V v (hv : IsN V v n) v2 (hv2 : IsN V v2 (2 ^ 255)) => restN V hv hnl (by omega) (hv2.toV (lt_big (Nat.pow_lt_pow_right (by omega) (show 255 < 256 by omega)) (by omega))) (Nat.pow_pos (by omega)) (mul_big (m := 17) (n := 256) (by omega) (Nat.pow_lt_pow_right (by omega) (by omega)) (by omega)))
  obtain ⟨P, hP⟩ : ∃ P, (2 : Nat) ^ 255 = P := ⟨_, rfl⟩
  rw [hP] at kW kR hul ⊢
  obtain ⟨u, hue⟩ : ∃ u, n % P = u := ⟨_, rfl⟩
  rw [hue] at kR hul ⊢
  have kT := Lib.hid (fun V v (hv : IsN V v u) => toNumN V (hv.toV (lt_big hul (by omega))))
  have kL := Lib.hid (fun V => ladR k u V hk hul)
  have hv := lad_lt k u
  obtain ⟨v, hve⟩ : ∃ v, lad k u = v := ⟨_, rfl⟩
  rw [hve] at kL hv ⊢
  have kD := Lib.hid (fun V => ref_OfNum v V hv)
  obtain ⟨z, hz0⟩ : ∃ z, decide (v = 0) = z := ⟨_, rfl⟩
  rw [hz0]
  have hZ := Lib.hid hz0
  clear hz0
  have kB := Lib.hid (fun V => ref_bytesOf v V hv)
  clear hve hv hue hul hP hne hnl hke hk hf hh
  unfold numV at kC kT kL kB
  try unfold numV at kD
  have hcz := arrK_cells .u8 32 fun _ => 0
  have hcr := arrK_cells .u8 32 (byt v)
  have hc0 := arrK_cells .u64 4 (wd 0)
  have hcv := arrK_cells .u64 4 (wd v)
  have hL0 : Below w.heap.size w (((w.alloc (Obj.cells (arrK .u8 32 f) 67)).alloc (Obj.cells (arrK .u8 32 pb) 67)).alloc (Obj.cells (arrK .u8 32 fun _ => 0) 67)) := by go_grown
  have hA0 : At (((w.alloc (Obj.cells (arrK .u8 32 f) 67)).alloc (Obj.cells (arrK .u8 32 pb) 67)).alloc (Obj.cells (arrK .u8 32 fun _ => 0) 67)) w.heap.size .u8 32 f := ((At.new _ rfl).old _).old _
  have hH0 : At (((w.alloc (Obj.cells (arrK .u8 32 f) 67)).alloc (Obj.cells (arrK .u8 32 pb) 67)).alloc (Obj.cells (arrK .u8 32 fun _ => 0) 67)) (w.heap.size + 1) .u8 32 pb := (At.new _ (by simp)).old _
  have hR0 : Row (((w.alloc (Obj.cells (arrK .u8 32 f) 67)).alloc (Obj.cells (arrK .u8 32 pb) 67)).alloc (Obj.cells (arrK .u8 32 fun _ => 0) 67)) (w.heap.size + 1 + 1) 32 := (At.new (k := .u8) (f := fun _ => 0) _ (by simp)).row
  have hL := Lib.hid hL0
  have hA := Lib.hid hA0
  have hH := Lib.hid hH0
  have hR := Lib.hid hR0
  clear hL0 hA0 hH0 hR0
  go_enter Try.func48, Try.ntmps48
  go_upto_region 1 with (fail)
  generalize ((w.alloc _).alloc _).alloc _ = W0 at *
  go_wp2_with fail
  refine (kN.out _ hH.out).mono ?_
  rintro e w2 ⟨x, rfl, hx, hb⟩
  replace hA := Lib.hid (hA.out.step hb)
  replace hR := Lib.hid (row_below hR.out hb hR.out.lt)
  replace hL := Lib.hid (below_step hb hL.out (Nat.le_refl _))
  have hX := Lib.hid hx
  clear hb kN hH hx
  dsimp only
  go_wp2_with fail
  refine (show Calls _ _ #[Value.int IntKind.i64 255] w2 _ from kW.out _).mono ?_
  rintro e w3 ⟨x2, rfl, hx, hb⟩
  replace hA := Lib.hid (hA.out.step hb)
  replace hR := Lib.hid (row_below hR.out hb hR.out.lt)
  replace hL := Lib.hid (below_step hb hL.out (Nat.le_refl _))
  have hX2 := Lib.hid hx
  replace hX := Lib.hid (hX.out.step hb)
  clear hb kW hx
  dsimp only
  go_wp2_with fail
  refine (kR.out _ _ hX.out _ hX2.out).mono ?_
  rintro e w4 ⟨uv, rfl, hx, hb⟩
  replace hA := Lib.hid (hA.out.step hb)
  replace hR := Lib.hid (row_below hR.out hb hR.out.lt)
  replace hL := Lib.hid (below_step hb hL.out (Nat.le_refl _))
  have hU := Lib.hid (fun V (h : Below w4.heap.size w4 V) => hx.step h)
  clear hb kR hX hX2 hx
  dsimp only
  have hr1 := hA.out.row
  have hr2 := hA.out.eq
  go_wp2_with fail
  refine (kC.out _).mono ?_
  rintro e w5 ⟨rfl, hb⟩
  replace hR := Lib.hid (row_below hR.out hb hR.out.lt)
  replace hL := Lib.hid (below_step hb hL.out (Nat.le_refl _))
  have hU5 := Lib.hid (hU.out _ hb)
  clear hr1 hr2 hb kC hA hU
  dsimp only
  go_wp2_with fail
  refine (kT.out _ _ hU5.out).mono ?_
  rintro e w6 ⟨rfl, hb⟩
  replace hR := Lib.hid (row_below hR.out hb hR.out.lt)
  replace hL := Lib.hid (below_step hb hL.out (Nat.le_refl _))
  clear hb kT hU5
  dsimp only
  go_wp2_with fail
  refine (kL.out _).mono ?_
  rintro e w7 ⟨rfl, hb⟩
  replace hR := Lib.hid (row_below hR.out hb hR.out.lt)
  replace hL := Lib.hid (below_step hb hL.out (Nat.le_refl _))
  clear hb kL
  dsimp only
  have hX := Lib.hid (At.new (w := w7) (k := .u64) (m := 4) (f := wd v) 24 rfl)
  have hltR := hR.out.lt
  replace hR := Lib.hid ((row_old (o := Obj.cells (arrK .u64 4 (wd v)) 24) hltR).2 hR.out)
  replace hL := Lib.hid (Below.trans hL.out ((below_alloc w7 (Obj.cells (arrK .u64 4 (wd v)) 24)).mono hL.out.size))
  clear hltR
  go_upto_region 3 with (fail)
  obtain ⟨g7, hg⟩ : ∃ g, w7.heap.size = g := ⟨_, rfl⟩
  rw [hg] at hX ⊢
  clear hg
  generalize w7.alloc _ = W3 at *
  · have hr1 := hX.out.row
    have hr2 := hX.out.eq
    go_wp2_with fail
    refine (kD.out _).mono ?_
    rintro e w8 ⟨dv, rfl, hx, hb⟩
    obtain ⟨dA, dm, dc, rfl, -, -, hm0⟩ := hx.form
    replace hX := Lib.hid (hX.out.step hb)
    replace hR := Lib.hid (row_below hR.out hb hR.out.lt)
    replace hL := Lib.hid (below_step hb hL.out (Nat.le_refl _))
    clear hr1 hr2 hb kD hx
    dsimp only
    cases z with
    | true =>
      have hz := of_decide_eq_true hZ.out
      have hmz : ((dm : Int) == 0) = true := by rw [beq_iff_eq]; have := hm0.2 hz; omega
      clear hm0 hz hZ
      have hr3 := hR.out
      go_wp2_with (first
        | refine wpList_opW (by go_simp) (fun K hK => wp_bldE rfl (build_b32Z _) (hK _ _ ?_)))
      exact ret_stored2 (p := 4) (q := 5) (ty := 67) (g := w.heap.size + 1 + 1) (n := 32) (c := arrK .u8 32 fun _ => 0) rfl Try.underlying67 rfl (by kernel_rfl) rfl hR.out hcz.1 rfl ⟨rfl, below_setRow hL.out (by omega)⟩
    | false =>
      have hz := of_decide_eq_false hZ.out
      have hmz : ((dm : Int) == 0) = false := by rw [beq_eq_false_iff_ne]; intro h; exact hz (hm0.1 (by omega))
      clear hm0 hz hZ
      have hr1 := hX.out.row
      have hr2 := hX.out.eq
      go_wp2_with fail
      refine (kB.out _).mono ?_
      rintro e w9 ⟨rfl, hb⟩
      replace hR := Lib.hid (row_below hR.out hb hR.out.lt)
      replace hL := Lib.hid (below_step hb hL.out (Nat.le_refl _))
      clear hr1 hr2 hb kB hX
      dsimp only
      have hr3 := hR.out
      go_wp2_with fail
      exact ret_stored2 (p := 4) (q := 5) (ty := 67) (g := w.heap.size + 1 + 1) (n := 32) (c := arrK .u8 32 (byt v)) rfl Try.underlying67 rfl (by kernel_rfl) rfl hR.out hcr.1 rfl ⟨rfl, below_setRow hL.out (by omega)⟩
end Go.Proofs.Ytodcjeaannfbnaa
namespace Go.Proofs.Ytodcjeaannfbnaa
open Go.ChangeShapes Go.WideShapes Go.ChangeAt Go.RowKit
set_option maxHeartbeats 2000000
set_option maxRecDepth 100000
attribute [local go_sem ↓] load_num store_num execl_num execs_num load_b32 store_b32 execl_b32 execs_b32
attribute [local go_sem] isHead_mk blkOf_mk isAgg_mk cellsV_mk row_drew rowAt_drew row_new_cells row_old rowAt_new rowAt_old setRow_new zeroNum zero32
theorem eql32 (f : Nat → Nat) (w : World) : (binOp .eql 67 (.agg (arrK .u8 32 f)) (.agg (arrK .u8 32 f))).run Try.prog w = .ok (.bool true) w := by
  rw [run_eql_arrK Try.underlying67 Try.underlying5 (by kernel_rfl)]
  simp
theorem eqlN4 (f : Nat → Nat) (w : World) : (binOp .eql 24 (.agg (arrK .u64 4 f)) (.agg (arrK .u64 4 f))).run Try.prog w = .ok (.bool true) w := by rw [run_eql_struct, equalIn_4]; rfl
theorem agreeTells_true (f pb : Nat → Nat) (w : World) (hf : ∀ i < 32, f i < 256) (hh : ∀ i < 32, pb i < 256) : Calls Try.prog 8 #[.agg (arrK .u8 32 f), .agg (arrK .u8 32 pb)] w fun e w' => e = .returned (.bool true) ∧ Below w.heap.size w w' := by
  have kS := Lib.hid (fun V => agree_Shared f pb V hf hh)
  have kQ := Lib.hid (fun V => ref_SharedOf f pb V hf hh)
  obtain ⟨F, se, hS⟩ : ∃ (F : Nat → Nat) (se : Int), (bif decide (lad (bval (clF f) 32) (bval pb 32 % 2 ^ 255) = 0) then .tuple #[.agg (arrK .u8 32 fun _ => 0), .int .i64 1] else .tuple #[.agg (arrK .u8 32 (byt (lad (bval (clF f) 32) (bval pb 32 % 2 ^ 255)))), .int .i64 0] : Value) = .tuple #[.agg (arrK .u8 32 F), .int .i64 se] := by
    cases decide (lad (bval (clF f) 32) (bval pb 32 % 2 ^ 255) = 0)
    · exact ⟨_, 0, rfl⟩
    · exact ⟨_, 1, rfl⟩
  rw [hS] at kS kQ
  clear hS
  have kC := Lib.hid (fun V => agree_Clamp f V hf)
  have kD := Lib.hid (fun V => ref_Clamped f V hf)
  have kP := Lib.hid (fun V => agree_Public f V hf)
  have kR := Lib.hid (fun V => ref_PublicOf f V hf)
  obtain ⟨k, hk⟩ : ∃ v, bval (clF f) 32 = v := ⟨_, rfl⟩
  rw [hk] at kC kD kP kR
  obtain ⟨v, hv⟩ : ∃ v, lad k 9 = v := ⟨_, rfl⟩
  rw [hv] at kP kR
  clear hv hk hf hh
  unfold numV at kC kD
  have hcz := arrK_cells .u8 32 fun _ => 0
  have hcF := arrK_cells .u8 32 F
  have hL0 : Below w.heap.size w ((w.alloc (Obj.cells (arrK .u8 32 f) 67)).alloc (Obj.cells (arrK .u8 32 pb) 67)) := by go_grown
  have hA0 : At ((w.alloc (Obj.cells (arrK .u8 32 f) 67)).alloc (Obj.cells (arrK .u8 32 pb) 67)) w.heap.size .u8 32 f := (At.new _ rfl).old _
  have hH0 : At ((w.alloc (Obj.cells (arrK .u8 32 f) 67)).alloc (Obj.cells (arrK .u8 32 pb) 67)) (w.heap.size + 1) .u8 32 pb := At.new _ (by simp)
  have hL := Lib.hid hL0
  have hA := Lib.hid hA0
  have hH := Lib.hid hH0
  clear hL0 hA0 hH0
  go_enter Try.func8, Try.ntmps8
  go_upto_region 1 with (fail)
  generalize (w.alloc _).alloc _ = W0 at *
  have hr1 := hA.out.row
  have hr2 := hA.out.eq
  have hr3 := hH.out.row
  have hr4 := hH.out.eq
  go_upto_region 2 with (fail)
  refine (kS.out _).mono ?_
  rintro e w2 ⟨rfl, hb⟩
  replace hA := Lib.hid (hA.out.step hb)
  replace hH := Lib.hid (hH.out.step hb)
  replace hL := Lib.hid (below_step hb hL.out (Nat.le_refl _))
  clear hr1 hr2 hr3 hr4 hb kS
  dsimp only
  replace hA := Lib.hid (hA.out.old (Obj.cells (arrK .u8 32 F) 67))
  replace hH := Lib.hid (hH.out.old (Obj.cells (arrK .u8 32 F) 67))
  replace hL := Lib.hid (Below.trans hL.out ((below_alloc w2 (Obj.cells (arrK .u8 32 F) 67)).mono hL.out.size))
  have hX5 := Lib.hid (At.new (w := w2) (k := .u8) (m := 32) (f := F) 67 rfl)
  go_upto_region 2 with (fail)
  obtain ⟨g5, hg⟩ : ∃ g, w2.heap.size = g := ⟨_, rfl⟩
  rw [hg] at hX5 ⊢
  clear hg
  generalize w2.alloc _ = W5 at *
  have hr1 := hA.out.row
  have hr2 := hA.out.eq
  have hr3 := hH.out.row
  have hr4 := hH.out.eq
  go_upto_region 3 with (fail)
  refine (kQ.out _).mono ?_
  rintro e w3 ⟨rfl, hb⟩
  replace hA := Lib.hid (hA.out.step hb)
  replace hH := Lib.hid (hH.out.step hb)
  replace hX5 := Lib.hid (hX5.out.step hb)
  replace hL := Lib.hid (below_step hb hL.out (Nat.le_refl _))
  clear hr1 hr2 hr3 hr4 hb kQ
  dsimp only
  replace hA := Lib.hid (hA.out.old (Obj.cells (arrK .u8 32 F) 67))
  replace hH := Lib.hid (hH.out.old (Obj.cells (arrK .u8 32 F) 67))
  replace hX5 := Lib.hid (hX5.out.old (Obj.cells (arrK .u8 32 F) 67))
  replace hL := Lib.hid (Below.trans hL.out ((below_alloc w3 (Obj.cells (arrK .u8 32 F) 67)).mono hL.out.size))
  have hX7 := Lib.hid (At.new (w := w3) (k := .u8) (m := 32) (f := F) 67 rfl)
  go_upto_region 3 with (fail)
  obtain ⟨g7, hg⟩ : ∃ g, w3.heap.size = g := ⟨_, rfl⟩
  rw [hg] at hX7 ⊢
  clear hg
  generalize w3.alloc _ = W7 at *
  generalize ha0 : Act.mk _ _ = a0
  have e2 : a0.tmps[2]?.getD undef = .pointer (some ⟨w.heap.size, 0, none⟩) := by rw [← ha0]; rfl
  have e5 : a0.tmps[5]?.getD undef = .pointer (some ⟨g5, 0, none⟩) := by rw [← ha0]; rfl
  have e6 : a0.tmps[6]?.getD undef = .int .i64 se := by rw [← ha0]; rfl
  have e7 : a0.tmps[7]?.getD undef = .pointer (some ⟨g7, 0, none⟩) := by rw [← ha0]; rfl
  have e8 : a0.tmps[8]?.getD undef = .int .i64 se := by rw [← ha0]; rfl
  have hz0 : a0.tmps.size = 43 := by rw [← ha0]; rfl
  have hha0 := Lib.hid ha0
  clear ha0
  refine wp_region_calm (fun jx_ => match jx_ with | 0 => SRel.is (.agg (arrK .u8 32 f)) | 1 => SRel.is (.agg (arrK .u64 4 (wd k))) | 2 => SRel.is (.agg (arrK .u8 32 f)) | 3 => SRel.is (.agg (arrK .u64 4 (wd k))) | 4 => SRel.is (.bool true) | 5 => SRel.is (.bool true) | 6 => SRel.is (.agg (arrK .u8 32 f)) | 7 => SRel.is (.agg (arrK .u8 32 (byt v))) | 8 => SRel.is (.agg (arrK .u8 32 f)) | 9 => SRel.is (.agg (arrK .u8 32 (byt v))) | 10 => SRel.is (.bool true) | 11 => SRel.is (.bool true) | 12 => SRel.is (.bool true) | 13 => SRel.is (.agg (arrK .u8 32 F)) | 14 => SRel.is (.agg (arrK .u8 32 F)) | 15 => SRel.is (.bool true) | 16 => SRel.is (.bool true) | 17 => SRel.is (.bool true) | 18 => SRel.is (.int .i64 se) | 19 => SRel.is (.int .i64 se) | 20 => SRel.is (.bool true) | 21 => SRel.is (.bool true) | 22 => SRel.is (.bool true) | _ => SRel.any) (by kernel_rfl) (by kernel_rfl) (by kernel_rfl) (slotsOk_of hz0 (by kernel_rfl)) ⟨?_, ?_, ?_, ?_, ?_, ?_, ?_, ?_, ?_, ?_, ?_, ?_, ?_, ?_, ?_, ?_, ?_, ?_, ?_, ?_, ?_, ?_, ?_, trivial⟩ ?_
  · refine calm_step rfl fun a ω κ hb hu hc hK => ?_
    have h2 : a.tmps[2]?.getD undef = .pointer (some ⟨w.heap.size, 0, none⟩) := (hu 2 rfl).trans e2
    have hk := Lib.hid (fun w1 (h : Below ω.heap.size ω w1) => hK (.agg (arrK .u8 32 f)) w1 rfl h)
    clear hK hu hc
    have hr1 := (hA.out.step hb).row
    have hr2 := (hA.out.step hb).eq
    go_simp
    exact hk.out _ (Below.refl _ _)
  · refine calm_step rfl fun a ω κ hb hu hc hK => ?_
    have h21 : a.tmps[21]?.getD undef = .agg (arrK .u8 32 f) := hc 0 21 rfl rfl
    have hk := Lib.hid (fun w1 (h : Below ω.heap.size ω w1) => hK (.agg (arrK .u64 4 (wd k))) w1 rfl h)
    clear hK hu hc
    go_simp
    go_at_call 49
    refine (kC.out _).mono ?_
    rintro e w1 ⟨rfl, hb1⟩
    exact hk.out _ hb1
  · refine calm_step rfl fun a ω κ hb hu hc hK => ?_
    have h2 : a.tmps[2]?.getD undef = .pointer (some ⟨w.heap.size, 0, none⟩) := (hu 2 rfl).trans e2
    have hk := Lib.hid (fun w1 (h : Below ω.heap.size ω w1) => hK (.agg (arrK .u8 32 f)) w1 rfl h)
    clear hK hu hc
    have hr1 := (hA.out.step hb).row
    have hr2 := (hA.out.step hb).eq
    go_simp
    exact hk.out _ (Below.refl _ _)
  · refine calm_step rfl fun a ω κ hb hu hc hK => ?_
    have h23 : a.tmps[23]?.getD undef = .agg (arrK .u8 32 f) := hc 2 23 rfl rfl
    have hk := Lib.hid (fun w1 (h : Below ω.heap.size ω w1) => hK (.agg (arrK .u64 4 (wd k))) w1 rfl h)
    clear hK hu hc
    go_simp
    go_at_call 50
    refine (kD.out _).mono ?_
    rintro e w1 ⟨rfl, hb1⟩
    exact hk.out _ hb1
  · refine calm_step rfl fun a ω κ hb hu hc hK => ?_
    have h22 : a.tmps[22]?.getD undef = .agg (arrK .u64 4 (wd k)) := hc 1 22 rfl rfl
    have h24 : a.tmps[24]?.getD undef = .agg (arrK .u64 4 (wd k)) := hc 3 24 rfl rfl
    have hk := Lib.hid (fun w1 (h : Below ω.heap.size ω w1) => hK (.bool true) w1 rfl h)
    clear hK hu hc
    exact wp_eqlA (v := arrK .u64 4 (wd k)) (u := arrK .u64 4 (wd k)) (.inr rfl) (by kernel_rfl) (by go_simp) (by go_simp) (eqlN4 _ _) (hk.out _ (Below.refl _ _))
  · refine calm_step rfl fun a ω κ hb hu hc hK => ?_
    have h25 : a.tmps[25]?.getD undef = .bool true := hc 4 25 rfl rfl
    have hk := Lib.hid (fun w1 (h : Below ω.heap.size ω w1) => hK (.bool true) w1 rfl h)
    clear hK hu hc
    go_simp
    exact hk.out _ (Below.refl _ _)
  · refine calm_step_guard (g := 5) (b := true) (d := 26) rfl rfl (fun a w hc => hc 5 26 rfl rfl) fun a ω κ hb hu hc hK => ?_
    have h2 : a.tmps[2]?.getD undef = .pointer (some ⟨w.heap.size, 0, none⟩) := (hu 2 rfl).trans e2
    have hk := Lib.hid (fun w1 (h : Below ω.heap.size ω w1) => hK (.agg (arrK .u8 32 f)) w1 rfl h)
    clear hK hu hc
    have hr1 := (hA.out.step hb).row
    have hr2 := (hA.out.step hb).eq
    go_simp
    exact hk.out _ (Below.refl _ _)
  · refine calm_step_guard (g := 5) (b := true) (d := 26) rfl rfl (fun a w hc => hc 5 26 rfl rfl) fun a ω κ hb hu hc hK => ?_
    have h27 : a.tmps[27]?.getD undef = .agg (arrK .u8 32 f) := hc 6 27 rfl rfl
    have hk := Lib.hid (fun w1 (h : Below ω.heap.size ω w1) => hK (.agg (arrK .u8 32 (byt v))) w1 rfl h)
    clear hK hu hc
    go_simp
    go_at_call 51
    refine (kP.out _).mono ?_
    rintro e w1 ⟨rfl, hb1⟩
    exact hk.out _ hb1
  · refine calm_step_guard (g := 5) (b := true) (d := 26) rfl rfl (fun a w hc => hc 5 26 rfl rfl) fun a ω κ hb hu hc hK => ?_
    have h2 : a.tmps[2]?.getD undef = .pointer (some ⟨w.heap.size, 0, none⟩) := (hu 2 rfl).trans e2
    have hk := Lib.hid (fun w1 (h : Below ω.heap.size ω w1) => hK (.agg (arrK .u8 32 f)) w1 rfl h)
    clear hK hu hc
    have hr1 := (hA.out.step hb).row
    have hr2 := (hA.out.step hb).eq
    go_simp
    exact hk.out _ (Below.refl _ _)
  · refine calm_step_guard (g := 5) (b := true) (d := 26) rfl rfl (fun a w hc => hc 5 26 rfl rfl) fun a ω κ hb hu hc hK => ?_
    have h29 : a.tmps[29]?.getD undef = .agg (arrK .u8 32 f) := hc 8 29 rfl rfl
    have hk := Lib.hid (fun w1 (h : Below ω.heap.size ω w1) => hK (.agg (arrK .u8 32 (byt v))) w1 rfl h)
    clear hK hu hc
    go_simp
    go_at_call 52
    refine (kR.out _).mono ?_
    rintro e w1 ⟨rfl, hb1⟩
    exact hk.out _ hb1
  · refine calm_step_guard (g := 5) (b := true) (d := 26) rfl rfl (fun a w hc => hc 5 26 rfl rfl) fun a ω κ hb hu hc hK => ?_
    have h28 : a.tmps[28]?.getD undef = .agg (arrK .u8 32 (byt v)) := hc 7 28 rfl rfl
    have h30 : a.tmps[30]?.getD undef = .agg (arrK .u8 32 (byt v)) := hc 9 30 rfl rfl
    have hk := Lib.hid (fun w1 (h : Below ω.heap.size ω w1) => hK (.bool true) w1 rfl h)
    clear hK hu hc
    exact wp_eqlA (v := arrK .u8 32 (byt v)) (u := arrK .u8 32 (byt v)) (.inr rfl) (by kernel_rfl) (by go_simp) (by go_simp) (eql32 _ _) (hk.out _ (Below.refl _ _))
  · refine calm_step rfl fun a ω κ hb hu hc hK => ?_
    have h26 : a.tmps[26]?.getD undef = .bool true := hc 5 26 rfl rfl
    have h31 : a.tmps[31]?.getD undef = .bool true := hc 10 31 rfl rfl
    have hk := Lib.hid (fun w1 (h : Below ω.heap.size ω w1) => hK (.bool true) w1 rfl h)
    clear hK hu hc
    go_simp
    exact hk.out _ (Below.refl _ _)
  · refine calm_step rfl fun a ω κ hb hu hc hK => ?_
    have h32 : a.tmps[32]?.getD undef = .bool true := hc 11 32 rfl rfl
    have hk := Lib.hid (fun w1 (h : Below ω.heap.size ω w1) => hK (.bool true) w1 rfl h)
    clear hK hu hc
    go_simp
    exact hk.out _ (Below.refl _ _)
  · refine calm_step_guard (g := 12) (b := true) (d := 33) rfl rfl (fun a w hc => hc 12 33 rfl rfl) fun a ω κ hb hu hc hK => ?_
    have h5 : a.tmps[5]?.getD undef = .pointer (some ⟨g5, 0, none⟩) := (hu 5 rfl).trans e5
    have hk := Lib.hid (fun w1 (h : Below ω.heap.size ω w1) => hK (.agg (arrK .u8 32 F)) w1 rfl h)
    clear hK hu hc
    have hr1 := (hX5.out.step hb).row
    have hr2 := (hX5.out.step hb).eq
    go_simp
    exact hk.out _ (Below.refl _ _)
  · refine calm_step_guard (g := 12) (b := true) (d := 33) rfl rfl (fun a w hc => hc 12 33 rfl rfl) fun a ω κ hb hu hc hK => ?_
    have h7 : a.tmps[7]?.getD undef = .pointer (some ⟨g7, 0, none⟩) := (hu 7 rfl).trans e7
    have hk := Lib.hid (fun w1 (h : Below ω.heap.size ω w1) => hK (.agg (arrK .u8 32 F)) w1 rfl h)
    clear hK hu hc
    have hr1 := (hX7.out.step hb).row
    have hr2 := (hX7.out.step hb).eq
    go_simp
    exact hk.out _ (Below.refl _ _)
  · refine calm_step_guard (g := 12) (b := true) (d := 33) rfl rfl (fun a w hc => hc 12 33 rfl rfl) fun a ω κ hb hu hc hK => ?_
    have h34 : a.tmps[34]?.getD undef = .agg (arrK .u8 32 F) := hc 13 34 rfl rfl
    have h35 : a.tmps[35]?.getD undef = .agg (arrK .u8 32 F) := hc 14 35 rfl rfl
    have hk := Lib.hid (fun w1 (h : Below ω.heap.size ω w1) => hK (.bool true) w1 rfl h)
    clear hK hu hc
    exact wp_eqlA (v := arrK .u8 32 F) (u := arrK .u8 32 F) (.inr rfl) (by kernel_rfl) (by go_simp) (by go_simp) (eql32 _ _) (hk.out _ (Below.refl _ _))
  · refine calm_step rfl fun a ω κ hb hu hc hK => ?_
    have h33 : a.tmps[33]?.getD undef = .bool true := hc 12 33 rfl rfl
    have h36 : a.tmps[36]?.getD undef = .bool true := hc 15 36 rfl rfl
    have hk := Lib.hid (fun w1 (h : Below ω.heap.size ω w1) => hK (.bool true) w1 rfl h)
    clear hK hu hc
    go_simp
    exact hk.out _ (Below.refl _ _)
  · refine calm_step rfl fun a ω κ hb hu hc hK => ?_
    have h37 : a.tmps[37]?.getD undef = .bool true := hc 16 37 rfl rfl
    have hk := Lib.hid (fun w1 (h : Below ω.heap.size ω w1) => hK (.bool true) w1 rfl h)
    clear hK hu hc
    go_simp
    exact hk.out _ (Below.refl _ _)
  · refine calm_step_guard (g := 17) (b := true) (d := 38) rfl rfl (fun a w hc => hc 17 38 rfl rfl) fun a ω κ hb hu hc hK => ?_
    have h6 : a.tmps[6]?.getD undef = .int .i64 se := (hu 6 rfl).trans e6
    have hk := Lib.hid (fun w1 (h : Below ω.heap.size ω w1) => hK (.int .i64 se) w1 rfl h)
    clear hK hu hc
    go_simp
    exact hk.out _ (Below.refl _ _)
  · refine calm_step_guard (g := 17) (b := true) (d := 38) rfl rfl (fun a w hc => hc 17 38 rfl rfl) fun a ω κ hb hu hc hK => ?_
    have h8 : a.tmps[8]?.getD undef = .int .i64 se := (hu 8 rfl).trans e8
    have hk := Lib.hid (fun w1 (h : Below ω.heap.size ω w1) => hK (.int .i64 se) w1 rfl h)
    clear hK hu hc
    go_simp
    exact hk.out _ (Below.refl _ _)
  · refine calm_step_guard (g := 17) (b := true) (d := 38) rfl rfl (fun a w hc => hc 17 38 rfl rfl) fun a ω κ hb hu hc hK => ?_
    have h39 : a.tmps[39]?.getD undef = .int .i64 se := hc 18 39 rfl rfl
    have h40 : a.tmps[40]?.getD undef = .int .i64 se := hc 19 40 rfl rfl
    have hk := Lib.hid (fun w1 (h : Below ω.heap.size ω w1) => hK (.bool true) w1 rfl h)
    clear hK hu hc
    go_simp
    exact hk.out _ (Below.refl _ _)
  · refine calm_step rfl fun a ω κ hb hu hc hK => ?_
    have h38 : a.tmps[38]?.getD undef = .bool true := hc 17 38 rfl rfl
    have h41 : a.tmps[41]?.getD undef = .bool true := hc 20 41 rfl rfl
    have hk := Lib.hid (fun w1 (h : Below ω.heap.size ω w1) => hK (.bool true) w1 rfl h)
    clear hK hu hc
    go_simp
    exact hk.out _ (Below.refl _ _)
  · refine calm_step rfl fun a ω κ hb hu hc hK => ?_
    have h42 : a.tmps[42]?.getD undef = .bool true := hc 21 42 rfl rfl
    have hk := Lib.hid (fun w1 (h : Below ω.heap.size ω w1) => hK (.bool true) w1 rfl h)
    clear hK hu hc
    go_simp
    exact hk.out _ (Below.refl _ _)
  · intro a1 w1 hb1 hu1 hsz1 hdf1 hc1
    have ha0 := hha0.out
    subst ha0
    have he := act_patch (n := 43) [false, false, false, false, true, false, false, false, false, false, false, false, false, false, false, false, false, false, false, false, false, true, true, true, true, true, true, true, true, true, true, true, true, true, true, true, true, true, true, true, true, true, true] rfl (by kernel_rfl) hu1 hsz1 hdf1
    simp only [patch, cond_true, cond_false, Nat.reduceAdd] at he
    have hkn4 : a1.tmps[4]?.getD undef = .bool true := hc1 22 4 rfl
    replace hL := Lib.hid (below_step hb1 hL.out (Nat.le_refl _))
    clear hb1 hu1 hsz1 hdf1 hc1 hz0 hha0 e2 e5 e6 e7 e8
    rw [he]
    clear he
    rw [hkn4]
    clear hkn4
    generalize a1.tmps[21]?.getD undef = x21 at *
    generalize a1.tmps[22]?.getD undef = x22 at *
    generalize a1.tmps[23]?.getD undef = x23 at *
    generalize a1.tmps[24]?.getD undef = x24 at *
    generalize a1.tmps[25]?.getD undef = x25 at *
    generalize a1.tmps[26]?.getD undef = x26 at *
    generalize a1.tmps[27]?.getD undef = x27 at *
    generalize a1.tmps[28]?.getD undef = x28 at *
    generalize a1.tmps[29]?.getD undef = x29 at *
    generalize a1.tmps[30]?.getD undef = x30 at *
    generalize a1.tmps[31]?.getD undef = x31 at *
    generalize a1.tmps[32]?.getD undef = x32 at *
    generalize a1.tmps[33]?.getD undef = x33 at *
    generalize a1.tmps[34]?.getD undef = x34 at *
    generalize a1.tmps[35]?.getD undef = x35 at *
    generalize a1.tmps[36]?.getD undef = x36 at *
    generalize a1.tmps[37]?.getD undef = x37 at *
    generalize a1.tmps[38]?.getD undef = x38 at *
    generalize a1.tmps[39]?.getD undef = x39 at *
    generalize a1.tmps[40]?.getD undef = x40 at *
    generalize a1.tmps[41]?.getD undef = x41 at *
    generalize a1.tmps[42]?.getD undef = x42 at *
    go_wp2_with fail
    exact ret_tmp (p := 4) (v := .bool true) rfl (by simp) rfl ⟨rfl, hL.out⟩
end Go.Proofs.Ytodcjeaannfbnaa
namespace Go.Proofs.Ytodcjeaannfbnaa
open Go Go.RowKit Go.ChangeShapes Go.WideShapes Go.ChangeAt Go.Deep

section
variable {P : Program} {w : World} {r : Reach} {b0 : Nat} {t : TypeId} {v : Value}

theorem oneCell_of_okWide {u : TypeId} {x : Value} (h : Cell.okWide P w r b0 u x) : x.oneCell' = true := by
  cases x <;> first | rfl | (exfalso; unfold Cell.okWide Cell.ok at h; revert h; split <;> (try split) <;> simp_all)

/-- A struct or an array by value: its cells, each of its own type. -/
theorem open_cells {n : Nat} {ts : List TypeId} (hu : (match P.underlying t with | some (.struct _) | some (.array _ _) => true | _ => false) = true) (hts : P.cellTypes P.depth t = some ts) (hn : ts.length = n)
    (hC : P.cellsOf t = n) (h : Value.okWide P w r b0 t v) : ∃ c : Array Value, v = .agg c ∧ Cells c n ∧ ∀ (i : Nat) u, ts[i]? = some u → ∃ x, c[i]? = some x ∧ Cell.okWide P w r b0 u x := by
  have h' : ∃ cs, v = .agg cs ∧ cs.size = P.cellsOf t ∧ Row.okWide P w r b0 t cs := by
    unfold Value.okWide at h
    cases hd : P.underlying t with
    | none => simp [hd] at hu
    | some d => cases d <;> first | (simp [hd] at hu; done) | (simpa [hd] using h)
  obtain ⟨c, rfl, hs, ts', hts', -, hc⟩ := h'
  obtain rfl : ts = ts' := Option.some.inj (hts.symm.trans hts')
  rw [hC] at hs
  refine ⟨c, rfl, ⟨hs, ?_⟩, fun i u hi => ?_⟩
  · rw [Array.all_eq_true_iff_forall_mem]
    intro x hx
    obtain ⟨i, hi⟩ := Array.getElem?_of_mem hx
    obtain ⟨u, -, hk⟩ := hc i x hi
    exact oneCell_of_okWide hk
  · have hil : i < ts.length := (List.getElem?_eq_some_iff.1 hi).1
    have hi2 : i < c.size := by omega
    obtain ⟨u', h1, h2⟩ := hc i c[i] (Array.getElem?_eq_getElem hi2)
    rw [Nat.mod_eq_of_lt hil] at h1
    obtain rfl : u = u' := Option.some.inj (hi.symm.trans h1)
    exact ⟨_, Array.getElem?_eq_getElem hi2, h2⟩

theorem cell_int {u : TypeId} {k : IntKind} {x : Value} (hu : P.underlying u = some (.int k)) (h : Cell.okWide P w r b0 u x) : ∃ n, x = .int k n ∧ k.has n := by
  cases x <;> simp [Cell.okWide, Cell.ok, hu] at h
  obtain ⟨rfl, h⟩ := h
  exact ⟨_, rfl, h⟩
theorem cell_slice {u e : TypeId} {x : Value} (hu : P.underlying u = some (.slice e)) (h : Cell.okWide P w r b0 u x) : ∃ a n c, x = .slice a n c ∧ n ≤ c ∧ c ≤ 9223372036854775807 := by
  cases x with
  | slice a n c =>
    cases a with
    | none =>
      cases n <;> cases c <;> simp [Cell.okWide, Cell.ok, hu] at h
      exact ⟨_, _, _, rfl, by omega, by omega⟩
    | some a =>
      simp [Cell.okWide, Cell.ok, hu] at h
      exact ⟨_, _, _, rfl, h.1, by have h2 : (c : Int) ≤ 9223372036854775807 := h.2.1; omega⟩
  | _ => simp [Cell.okWide, Cell.ok, hu] at h
theorem has_u8 {n : Int} (h : IntKind.u8.has n) : 0 ≤ n ∧ n < 256 := by simp [IntKind.has, IntKind.min, IntKind.max, IntKind.bits, IntKind.signed] at h; omega
theorem has_u32 {n : Int} (h : IntKind.u32.has n) : 0 ≤ n ∧ n < 4294967296 := by simp [IntKind.has, IntKind.min, IntKind.max, IntKind.bits, IntKind.signed] at h; omega
theorem has_u64 {n : Int} (h : IntKind.u64.has n) : 0 ≤ n ∧ n < 18446744073709551616 := by simp [IntKind.has, IntKind.min, IntKind.max, IntKind.bits, IntKind.signed] at h; omega
theorem has_i64 {n : Int} (h : IntKind.i64.has n) : -9223372036854775808 ≤ n ∧ n < 9223372036854775808 := by simp [IntKind.has, IntKind.min, IntKind.max, IntKind.bits, IntKind.signed] at h; omega
end

theorem cell_lt {w : World} {a : Addr} {v : Value} (h : w.cell? a = some v) : a.block < w.heap.size := by
  rcases Nat.lt_or_ge a.block w.heap.size with hlt | hge
  · exact hlt
  · simp only [World.cell?, Array.getElem?_eq_none hge] at h; cases h

/-- One choice for each index, as a list. -/
theorem list_of {α : Type} (n : Nat) (p : Nat → α → Prop) (h : ∀ i, i < n → ∃ x, p i x) : ∃ l : List α, l.length = n ∧ ∀ i (hi : i < l.length), p i l[i] := by
  induction n with
  | zero => exact ⟨[], rfl, fun i hi => absurd hi (by simp)⟩
  | succ n ih =>
    obtain ⟨l, hl, hp⟩ := ih fun i hi => h i (by omega)
    obtain ⟨x, hx⟩ := h n (by omega)
    refine ⟨l ++ [x], by simp [hl], fun i hi => ?_⟩
    by_cases hlt : i < l.length
    · rw [List.getElem_append_left hlt]; exact hp i hlt
    · have : i = l.length := by simp at hi; omega
      subst this
      rw [List.getElem_append_right (Nat.le_refl _)]
      simpa [hl] using hx

section
variable {H : Type} {enc : TypeId × Value → H} {P : Program} {w : World} {base : Nat} {spare : Nat → Bool} {held : Bool}

theorem wf_u8 {z : Int} (h : (Lit.int .u8 z).wf = true) : 0 ≤ z ∧ z < 256 := by
  simp only [Lit.wf, Bool.and_eq_true, decide_eq_true_eq] at h
  exact has_u8 h

/-- A slice of bytes that came in, by its reading. -/
theorem open_bytes {t e : TypeId} {fuel : Nat} {v : Value} {x : DataW H × List MemPlace} (ht : P.underlying t = some (.slice e)) (he : P.underlying e = some (.int .u8)) (hc : P.cellsOf e = 1)
    (h : DataW.trod enc P w base spare held fuel t [v] = some x) : ∃ (A : Option Addr) (l : List UInt8) (c : Nat), v = .slice A l.length c ∧ Rd w w.heap.size A (bytesV l) ∧ l.length ≤ c ∧ c ≤ maxLen := by
  rcases open_ints ht he hc h with ⟨hcs, -⟩ | ⟨a, len, cap, zs, hcs, -, hl, hm, hz, -, hcell, hwz⟩
  · injection hcs with hv
    exact ⟨none, [], 0, hv, Rd.nil, by simp, by simp [maxLen]⟩
  · injection hcs with hv
    have hlz : len ≤ zs.length := by rw [hz]; split <;> omega
    have hmap : ((zs.take len).map fun z => UInt8.ofNat z.toNat).length = len := by simp; omega
    refine ⟨some a, (zs.take len).map fun z => UInt8.ofNat z.toNat, cap, by rw [hmap]; exact hv, fun j u hu => ?_, by rw [hmap]; exact hl, hm⟩
    have hj : j < len := by
      have := (List.getElem?_eq_some_iff.1 hu).1
      simp [bytesV] at this; omega
    have hjz : j < zs.length := by omega
    have hcj := hcell j hjz
    have hlt := cell_lt hcj
    rw [addr_block] at hlt
    refine ⟨a, rfl, hlt, ?_⟩
    rw [hcj, ← hu]
    have hw := wf_u8 (hwz zs[j] (List.getElem_mem hjz))
    simp [bytesV, hj, List.getElem?_eq_getElem hjz, UInt8.toNat_ofNat']
    omega

/-- A slice of structs of one-cell fields that came in: each field's cell, and its own reading. -/
theorem open_rows {t e : TypeId} {fs : Array Field} {fuel : Nat} {v : Value} {x : DataW H × List MemPlace} (ht : P.underlying t = some (.slice e)) (he : P.underlying e = some (.struct fs))
    (hone : oneCellFields P fs = true) (hC : P.cellsOf e = fs.size) (h : DataW.trod enc P w base spare held fuel t [v] = some x) :
    ∃ (A : Option Addr) (n c : Nat), v = .slice A n c ∧ n ≤ c ∧ c ≤ maxLen ∧ ∀ i, i < n → ∃ a, A = some a ∧
      ∀ (j : Nat) (f : Field), fs[j]? = some f → ∃ (u : Value) (y : DataW H × List MemPlace) (m : Nat), w.cell? (a.add (i * fs.size + j)) = some u ∧ DataW.trod enc P w base spare held m f.type [u] = some y := by
  rcases open_slice ht h with ⟨hcs, -⟩ | ⟨a, len, cap, m, n, D, Pl, hcs, -, hl, hm, hmm, -, hi⟩
  · injection hcs with hv
    exact ⟨none, 0, 0, hv, Nat.le_refl _, by simp [maxLen], fun i hi => absurd hi (by omega)⟩
  · injection hcs with hv
    refine ⟨some a, len, cap, hv, hl, hm, fun i hil => ⟨a, rfl, fun j f hj => ?_⟩⟩
    have him : i < m := by rw [hmm]; split <;> omega
    obtain ⟨cs', hc, ht'⟩ := hi i him
    rw [hC] at hc
    obtain ⟨ys, n', -, -, -, hyl, hf⟩ := DataW.trod_struct he ht'
    obtain ⟨_, hcl, hat⟩ := World.cells?_some hc
    obtain ⟨ho, hk⟩ := hone_of hone j f hj
    have hjl : j < fs.size := (Array.getElem?_eq_some_iff.1 hj).1
    have hcell := hat j hjl
    have hv : cs'[j]? = some (cs'[j]'(by omega)) := List.getElem?_eq_getElem (by omega)
    have h1 := hf j f hj
    rw [ho, hk] at h1
    have hone' : (cs'.drop j).take 1 = [cs'[j]'(by omega)] := by
      rw [List.drop_eq_getElem_cons (by omega)]
      rfl
    rw [hone'] at h1
    have hys : ys[j]? = some (ys[j]'(by omega)) := List.getElem?_eq_getElem (by omega)
    refine ⟨_, _, n', ?_, h1.trans hys⟩
    rw [← addr_add, hcell, hv]
end
end Go.Proofs.Ytodcjeaannfbnaa
namespace Go.Proofs.Ytodcjeaannfbnaa
open Go Go.RowKit Go.ChangeShapes Go.WideShapes Go.ChangeAt Go.Deep

section
variable {P : Program} {w : World} {r : Reach} {b0 : Nat} {t : TypeId} {v : Value}

theorem val_int {k : IntKind} (hu : P.underlying t = some (.int k)) (h : Value.okWide P w r b0 t v) : ∃ n, v = .int k n ∧ k.has n := by
  have h' : Cell.okWide P w r b0 t v := by
    unfold Value.okWide at h
    simpa [hu] using h
  exact cell_int hu h'
theorem val_u8 (hu : P.underlying t = some (.int .u8)) (h : Value.okWide P w r b0 t v) : ∃ n : Nat, v = .int .u8 n ∧ n < 256 := by
  obtain ⟨n, rfl, hn⟩ := val_int hu h
  have := has_u8 hn
  exact ⟨n.toNat, by rw [Int.toNat_of_nonneg this.1], by omega⟩
theorem val_u64 (hu : P.underlying t = some (.int .u64)) (h : Value.okWide P w r b0 t v) : ∃ n : Nat, v = .int .u64 n ∧ n < 18446744073709551616 := by
  obtain ⟨n, rfl, hn⟩ := val_int hu h
  have := has_u64 hn
  exact ⟨n.toNat, by rw [Int.toNat_of_nonneg this.1], by omega⟩
theorem val_i64 (hu : P.underlying t = some (.int .i64)) (h : Value.okWide P w r b0 t v) : ∃ n : Int, v = .int .i64 n ∧ -9223372036854775808 ≤ n ∧ n < 9223372036854775808 := by
  obtain ⟨n, rfl, hn⟩ := val_int hu h
  exact ⟨n, rfl, has_i64 hn⟩

/-- An array of unsigned integers by value. -/
theorem val_arr {k : IntKind} {e : TypeId} {n m : Nat} (hk : ∀ z, k.has z → 0 ≤ z ∧ z < m) (hu : P.underlying t = some (.array n e)) (he : P.underlying e = some (.int k)) (hts : P.cellTypes P.depth t = some (List.replicate n e))
    (hC : P.cellsOf t = n) (h : Value.okWide P w r b0 t v) : ∃ f : Nat → Nat, v = .agg (arrK k n f) ∧ ∀ i < n, f i < m := by
  obtain ⟨c, rfl, hc, hx⟩ := open_cells (by simp [hu]) hts (by simp) hC h
  have h1 : ∀ i, ∃ z : Nat, i < n → c[i]? = some (.int k z) ∧ z < m := fun i => by
    by_cases hi : i < n
    · obtain ⟨x, hx1, hx2⟩ := hx i e (by simp [hi])
      obtain ⟨z, rfl, hz⟩ := cell_int he hx2
      have := hk z hz
      exact ⟨z.toNat, fun _ => ⟨by rw [Int.toNat_of_nonneg this.1]; exact hx1, by omega⟩⟩
    · exact ⟨0, fun h => absurd h hi⟩
  refine ⟨fun i => (h1 i).choose, ?_, fun i hi => ((h1 i).choose_spec hi).2⟩
  exact congrArg Value.agg (arrK_of hc.1 fun i hi => ((h1 i).choose_spec hi).1)
end
end Go.Proofs.Ytodcjeaannfbnaa
