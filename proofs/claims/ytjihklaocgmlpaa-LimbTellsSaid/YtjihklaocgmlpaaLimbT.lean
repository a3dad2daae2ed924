/- LimbTells: the law's function returns true. -/
import Derived.Test.YtjihklaocgmlpaaLimbTP
namespace Go.Proofs.Ytjihklaocgmlpaa
open Go.ChangeShapes Go.WideShapes Go.ChangeAt Go.RowKit
set_option maxHeartbeats 4000000
set_option maxRecDepth 100000
attribute [local go_sem ↓] load_num store_num execl_num execs_num load_wide store_wide execl_wide execs_wide
attribute [local go_sem] isHead_mk blkOf_mk isAgg_mk cellsV_mk row_drew rowAt_drew row_new_cells row_old rowAt_new rowAt_old setRow_new setRow_old
theorem limbTells (x y : Nat) (i : Int) (c : Nat) (w : World) (hx : x < 2 ^ 256) (hy : y < 2 ^ 256) (hc : c < 18446744073709551616) (hi1 : -9223372036854775808 ≤ i) (hi2 : i ≤ 9223372036854775807) :
    Calls Try.prog 5 #[.agg (arrK .u64 4 (wd x)), .agg (arrK .u64 4 (wd y)), .int .i64 i, .int .u64 c] w fun e w' => e = .returned (.bool true) ∧ Below w.heap.size w w' := by
  have hL : Below w.heap.size w ((w.alloc (Obj.cells (arrK .u64 4 (wd x)) 24)).alloc (Obj.cells (arrK .u64 4 (wd y)) 24)) := by go_grown
  have hA : NumAt ((w.alloc (Obj.cells (arrK .u64 4 (wd x)) 24)).alloc (Obj.cells (arrK .u64 4 (wd y)) 24)) w.heap.size x := (At.new _ rfl).old _
  have hB : NumAt ((w.alloc (Obj.cells (arrK .u64 4 (wd x)) 24)).alloc (Obj.cells (arrK .u64 4 (wd y)) 24)) (w.heap.size + 1) y := At.new _ (by simp)
  go_enter Try.func5, Try.ntmps5
  go_wp2
  generalize ((w.alloc (Obj.cells (arrK .u64 4 (wd x)) 24)).alloc (Obj.cells (arrK .u64 4 (wd y)) 24)) = W at *
  have hWL := Lib.hid hL
  have hWA := Lib.hid hA
  have hWB := Lib.hid hB
  clear hL hA hB
  go_upto_region 1 with (fail)
  go_cut [9, 10] (fun u v wx => IsN wx u x ∧ IsN wx v y ∧ Below W.heap.size W wx)
  case first =>
    have hA := hWA.out.drew
    have hB := hWB.out.drew
    have hbw : Below W.heap.size W W.drew := (Below.refl _ _).drew
    have hRa := hA.row
    have hra := hA.eq
    have hRb := hB.row
    have hrb := hB.eq
    have hcx := Lib.hid (fun V => ofNumC' x V hx)
    have hcy := Lib.hid (fun V => ofNumC' y V hy)
    go_region_law (go_simp; go_at_call 22; first
      | ((with_reducible refine Calls.mono (hcx.out _) ?_); rintro e w1 ⟨u, rfl, hu, hb1⟩; (try have hv := hv.step hb1); have hbw := below_step hb1 hbw (Nat.le_refl _); have hA := hA.step hb1; have hB := hB.step hb1; have hRa := hA.row; have hra := hA.eq; have hRb := hB.row; have hrb := hB.eq)
      | ((with_reducible refine Calls.mono (hcy.out _) ?_); rintro e w1 ⟨v, rfl, hv, hb1⟩; (try have hu := hu.step hb1); have hbw := below_step hb1 hbw (Nat.le_refl _); have hA := hA.step hb1; have hB := hB.step hb1; have hRa := hA.row; have hra := hA.eq; have hRb := hB.row; have hrb := hB.eq))
    all_goals go_wp2_with fail
    all_goals go_meet
    all_goals exact ⟨hu, hv, hbw⟩
  case rest =>
    obtain ⟨hu, hv, hb0⟩ := hcut
    have hA := Lib.hid (hWA.out.step hb0)
    have hB := Lib.hid (hWB.out.step hb0)
    have hL := Lib.hid (below_step hb0 hWL.out (Nat.le_refl _))
    clear hWA hWB hWL hb0
    have hxb := lt_big hx (by omega)
    have hyb := lt_big hy (by omega)
    have hsb : x + y < big := add_big hx hy (by omega)
    have hpb : (2 : Nat) ^ 256 < big := lt_big (k := 256 + 1) (Nat.pow_lt_pow_right (by omega) (by omega)) (by omega)
    obtain ⟨o1, ho1, hoc⟩ : ∃ o : Int, order (x + y) (2 ^ 256) = o ∧ (0 ≤ o ↔ ¬ x + y < 2 ^ 256) := ⟨_, rfl, order_nn _ _⟩
    obtain ⟨o2, ho2, hoc2⟩ : ∃ o : Int, order x y = o ∧ (o < 0 ↔ x < y) := ⟨_, rfl, order_neg _ _⟩
    obtain ⟨ov, hov0⟩ : ∃ n, n = overN x y := ⟨_, rfl⟩
    obtain ⟨ls, hls0⟩ : ∃ n, n = lessN x y := ⟨_, rfl⟩
    obtain ⟨sN, hsN0⟩ : ∃ n, n = addN x y := ⟨_, rfl⟩
    obtain ⟨dN, hdN0⟩ : ∃ n, n = subN x y := ⟨_, rfl⟩
    have hadd := Lib.hid (fun V => addC x y V hx hy)
    have hsub := Lib.hid (fun V => subC x y V hx hy)
    rw [← hov0, ← hsN0] at hadd
    rw [← hls0, ← hdN0] at hsub
    have hsNe := Lib.hid (hsN0 ▸ addN_is x y)
    have hdNe := Lib.hid (hdN0 ▸ subN_is x y)
    have hov := Lib.hid hov0
    have hls := Lib.hid hls0
    clear hov0 hls0 hsN0 hdN0
    have hHo1 := Lib.hid ho1
    have hHo2 := Lib.hid ho2
    clear ho1 ho2
    go_wp2_with fail
    refine (plusN (m := x) (n := y) _ (hu.toV hxb) (hv.toV hyb)).mono ?_
    rintro e w1 ⟨s, rfl, hs, hb1⟩
    replace hu := hu.step hb1
    replace hv := hv.step hb1
    replace hA := Lib.hid (hA.out.step hb1)
    replace hB := Lib.hid (hB.out.step hb1)
    replace hL := Lib.hid (below_step hb1 hL.out (Nat.le_refl _))
    clear hb1
    go_wp2_with fail
    refine (twoC' _).mono ?_
    rintro e w2 ⟨p, rfl, hp, hb2⟩
    replace hu := hu.step hb2
    replace hv := hv.step hb2
    replace hs := hs.step hb2
    replace hA := Lib.hid (hA.out.step hb2)
    replace hB := Lib.hid (hB.out.step hb2)
    replace hL := Lib.hid (below_step hb2 hL.out (Nat.le_refl _))
    clear hb2
    go_wp2_with fail
    refine (orderN (m := x + y) (n := 2 ^ 256) _ (hs.toV hsb) (hp.toV hpb)).mono ?_
    rintro e w' ⟨rfl, rfl⟩
    rw [hHo1.out]
    go_upto_if 37 with (fail)
    go_cut [12] (fun v wx => v = .int .u64 (ov : Nat) ∧ w2 = wx)
    case first =>
      by_cases h : 0 ≤ o1
      · have hov1 := Lib.hid (show ov = 1 from hov.out.trans (if_neg (hoc.1 h)))
        have hd : decide (0 ≤ o1) = true := by simpa using h
        go_wp2_with fail
        go_meet
        exact ⟨by rw [hov1.out]; rfl, rfl⟩
      · have hov1 := Lib.hid (show ov = 0 from hov.out.trans (if_pos (by have := mt hoc.2 h; omega)))
        have hd : decide (0 ≤ o1) = false := by simpa using h
        go_wp2_with fail
        go_meet
        exact ⟨by rw [hov1.out]; rfl, rfl⟩
    case rest =>
    obtain ⟨rfl, rfl⟩ := hcut
    go_wp2_with fail
    refine (orderN (m := x) (n := y) _ (hu.toV hxb) (hv.toV hyb)).mono ?_
    rintro e w' ⟨rfl, rfl⟩
    rw [hHo2.out]
    go_upto_if 41 with (fail)
    go_cut [13] (fun v wx => v = .int .u64 (ls : Nat) ∧ w2 = wx)
    case first =>
      by_cases h : o2 < 0
      · have hov1 := Lib.hid (show ls = 1 from hls.out.trans (if_pos (hoc2.1 h)))
        have hd : decide (o2 < 0) = true := by simpa using h
        go_wp2_with fail
        go_meet
        exact ⟨by rw [hov1.out]; rfl, rfl⟩
      · have hov1 := Lib.hid (show ls = 0 from hls.out.trans (if_neg (mt hoc2.2 h)))
        have hd : decide (o2 < 0) = false := by simpa using h
        go_wp2_with fail
        go_meet
        exact ⟨by rw [hov1.out]; rfl, rfl⟩
    case rest =>
    obtain ⟨rfl, rfl⟩ := hcut
    have hz4 := cells4
    have hRa := hA.out.row
    have hra := hA.out.eq
    have hRb := hB.out.row
    have hrb := hB.out.eq
    go_wp2_with fail
    refine (hadd.out _).mono ?_
    rintro e w3 ⟨rfl, hb3⟩
    clear hRa hra hRb hrb
    replace hu := hu.step hb3
    replace hv := hv.step hb3
    replace hs := hs.step hb3
    replace hA := Lib.hid (hA.out.step hb3)
    replace hB := Lib.hid (hB.out.step hb3)
    replace hL := Lib.hid (below_step hb3 hL.out (Nat.le_refl _))
    clear hb3
    have hb4 := below_alloc w3 (Obj.cells (arrK .u64 4 (wd sN)) 24)
    have hS : Hid (NumAt (w3.alloc (Obj.cells (arrK .u64 4 (wd sN)) 24)) w3.heap.size sN) := Lib.hid (At.new _ rfl)
    have hcs := arrK_cells .u64 4 (wd sN)
    replace hu := hu.step hb4
    replace hv := hv.step hb4
    replace hs := hs.step hb4
    replace hA := Lib.hid (hA.out.step hb4)
    replace hB := Lib.hid (hB.out.step hb4)
    replace hL := Lib.hid (below_step hb4 hL.out (Nat.le_refl _))
    clear hb4
    have hRa := hA.out.row
    have hra := hA.out.eq
    have hRb := hB.out.row
    have hrb := hB.out.eq
    go_wp2_with fail
    generalize (w3.alloc (Obj.cells (arrK .u64 4 (wd sN)) 24)) = W3 at *
    generalize w3.heap.size = g14 at *
    refine (hsub.out _).mono ?_
    rintro e w5 ⟨rfl, hb5⟩
    clear hRa hra hRb hrb hcs
    replace hu := hu.step hb5
    replace hv := hv.step hb5
    replace hs := hs.step hb5
    replace hA := Lib.hid (hA.out.step hb5)
    replace hB := Lib.hid (hB.out.step hb5)
    replace hS := Lib.hid (hS.out.step hb5)
    replace hL := Lib.hid (below_step hb5 hL.out (Nat.le_refl _))
    clear hb5
    have hb6 := below_alloc w5 (Obj.cells (arrK .u64 4 (wd dN)) 24)
    have hD : Hid (NumAt (w5.alloc (Obj.cells (arrK .u64 4 (wd dN)) 24)) w5.heap.size dN) := Lib.hid (At.new _ rfl)
    have hcs := arrK_cells .u64 4 (wd dN)
    replace hu := hu.step hb6
    replace hv := hv.step hb6
    replace hs := hs.step hb6
    replace hA := Lib.hid (hA.out.step hb6)
    replace hB := Lib.hid (hB.out.step hb6)
    replace hS := Lib.hid (hS.out.step hb6)
    replace hL := Lib.hid (below_step hb6 hL.out (Nat.le_refl _))
    clear hb6
    go_upto_region 11 with (fail)
    generalize (w5.alloc (Obj.cells (arrK .u64 4 (wd dN)) 24)) = W5 at *
    generalize w5.heap.size = g16 at *
    clear hcs
    have hxpb : x + 2 ^ 256 < big := by rw [Nat.add_comm]; exact two_plus hx (by omega)
    have hle : y ≤ x + 2 ^ 256 := by omega
    go_cut [77] (fun v wx => v = .bool false ∧ Below W5.heap.size W5 wx)
    case first =>
      rename_i J1 K1 hJ1 hK1
      have hHJ1 := Lib.hid hJ1
      have hHK1 := Lib.hid hK1
      clear hJ1 hK1
      generalize ha0 : Act.mk _ _ = a0
      have e9 : a0.tmps[9]?.getD undef = u9 := by rw [← ha0]; rfl
      have e10 : a0.tmps[10]?.getD undef = u10 := by rw [← ha0]; rfl
      have e11 : a0.tmps[11]?.getD undef = s := by rw [← ha0]; rfl
      have e12 : a0.tmps[12]?.getD undef = .int .u64 (ov : Nat) := by rw [← ha0]; rfl
      have e13 : a0.tmps[13]?.getD undef = .int .u64 (ls : Nat) := by rw [← ha0]; rfl
      have e14 : a0.tmps[14]?.getD undef = .pointer (some ⟨g14, 0, none⟩) := by rw [← ha0]; rfl
      have e15 : a0.tmps[15]?.getD undef = .int .u64 (ov : Nat) := by rw [← ha0]; rfl
      have e16 : a0.tmps[16]?.getD undef = .pointer (some ⟨g16, 0, none⟩) := by rw [← ha0]; rfl
      have e17 : a0.tmps[17]?.getD undef = .int .u64 (ls : Nat) := by rw [← ha0]; rfl
      have hz0 : a0.tmps.size = 178 := by rw [← ha0]; rfl
      have hha0 := Lib.hid ha0
      clear ha0
      refine wp_region_calm (fun jx_ => match jx_ with | 0 => SRel.is (.agg (arrK .u64 4 (wd (sN)))) | 1 => SRel.is (s) | 2 => SRel.is (.agg (arrK .u64 4 (wd (sN)))) | 3 => SRel.is (.bool false) | 4 => SRel.is (.bool false) | 5 => SRel.is (.int .u64 (ov : Nat)) | 6 => SRel.is (.int .u64 (ov : Nat)) | 7 => SRel.is (.bool false) | 8 => SRel.is (.bool false) | 9 => SRel.is (.bool false) | 10 => SRel.is (.agg (arrK .u64 4 (wd (dN)))) | 11 => SRel.is (u9) | 12 => SRel.n (2 ^ 256) | 13 => SRel.n (x + 2 ^ 256) | 14 => SRel.is (u10) | 15 => SRel.n (x + 2 ^ 256 - y) | 16 => SRel.is (.agg (arrK .u64 4 (wd (dN)))) | 17 => SRel.is (.bool false) | 18 => SRel.is (.bool false) | 19 => SRel.is (.bool false) | 20 => SRel.is (.int .u64 (ls : Nat)) | 21 => SRel.is (.int .u64 (ls : Nat)) | 22 => SRel.is (.bool false) | 23 => SRel.is (.bool false) | _ => SRel.any) (by kernel_rfl) (by kernel_rfl) (by kernel_rfl) (slotsOk_of hz0 (by kernel_rfl)) ⟨?_, ?_, ?_, ?_, ?_, ?_, ?_, ?_, ?_, ?_, ?_, ?_, ?_, ?_, ?_, ?_, ?_, ?_, ?_, ?_, ?_, ?_, ?_, ?_, trivial⟩ ?_
      · refine calm_step rfl fun a ω κ hb hu hc hK => ?_
        have h14 : a.tmps[14]?.getD undef = .pointer (some ⟨g14, 0, none⟩) := (hu 14 rfl).trans e14
        have hk := Lib.hid (fun w1 (h : Below ω.heap.size ω w1) => hK (.agg (arrK .u64 4 (wd (sN)))) w1 rfl h)
        clear hK hu hc
        have hAt := hS.out.step hb
        have hr1 := hAt.row
        have hr2 := hAt.eq
        clear hAt
        go_simp
        exact hk.out _ (Below.refl _ _)
      · refine calm_step rfl fun a ω κ hb hu hc hK => ?_
        have h11 : a.tmps[11]?.getD undef = s := (hu 11 rfl).trans e11
        have hk := Lib.hid (fun w1 (h : Below ω.heap.size ω w1) => hK (s) w1 rfl h)
        clear hK hu hc
        go_simp
        exact hk.out _ (Below.refl _ _)
      · refine calm_step rfl fun a ω κ hb hu hc hK => ?_
        have h55 : a.tmps[55]?.getD undef = s := hc 1 55 rfl rfl
        have hk := Lib.hid (fun w1 (h : Below ω.heap.size ω w1) => hK (.agg (arrK .u64 4 (wd (sN)))) w1 rfl h)
        clear hK hu hc
        go_simp
        go_at_call 28
        refine (toNumM (N := sN) ω (hs.step hb) hsb hsNe.out).mono ?_
        rintro e w1 ⟨rfl, hb1⟩
        exact hk.out _ hb1
      · refine calm_step rfl fun a ω κ hb hu hc hK => ?_
        have h54 : a.tmps[54]?.getD undef = .agg (arrK .u64 4 (wd (sN))) := hc 0 54 rfl rfl
        have h56 : a.tmps[56]?.getD undef = .agg (arrK .u64 4 (wd (sN))) := hc 2 56 rfl rfl
        have hk := Lib.hid (fun w1 (h : Below ω.heap.size ω w1) => hK (.bool false) w1 rfl h)
        clear hK hu hc
        have hq := eqlSame4 (wd (sN)) ω
        go_simp
        exact hk.out _ (Below.refl _ _)
      · refine calm_step rfl fun a ω κ hb hu hc hK => ?_
        have h57 : a.tmps[57]?.getD undef = .bool false := hc 3 57 rfl rfl
        have hk := Lib.hid (fun w1 (h : Below ω.heap.size ω w1) => hK (.bool false) w1 rfl h)
        clear hK hu hc
        go_simp
        exact hk.out _ (Below.refl _ _)
      · refine calm_step_guard (g := 4) (b := false) (d := 58) rfl rfl (fun a w hc => hc 4 58 rfl rfl) fun a ω κ hb hu hc hK => ?_
        have h15 : a.tmps[15]?.getD undef = .int .u64 (ov : Nat) := (hu 15 rfl).trans e15
        have hk := Lib.hid (fun w1 (h : Below ω.heap.size ω w1) => hK (.int .u64 (ov : Nat)) w1 rfl h)
        clear hK hu hc
        go_simp
        exact hk.out _ (Below.refl _ _)
      · refine calm_step_guard (g := 4) (b := false) (d := 58) rfl rfl (fun a w hc => hc 4 58 rfl rfl) fun a ω κ hb hu hc hK => ?_
        have h12 : a.tmps[12]?.getD undef = .int .u64 (ov : Nat) := (hu 12 rfl).trans e12
        have hk := Lib.hid (fun w1 (h : Below ω.heap.size ω w1) => hK (.int .u64 (ov : Nat)) w1 rfl h)
        clear hK hu hc
        go_simp
        exact hk.out _ (Below.refl _ _)
      · refine calm_step_guard (g := 4) (b := false) (d := 58) rfl rfl (fun a w hc => hc 4 58 rfl rfl) fun a ω κ hb hu hc hK => ?_
        have h59 : a.tmps[59]?.getD undef = .int .u64 (ov : Nat) := hc 5 59 rfl rfl
        have h60 : a.tmps[60]?.getD undef = .int .u64 (ov : Nat) := hc 6 60 rfl rfl
        have hk := Lib.hid (fun w1 (h : Below ω.heap.size ω w1) => hK (.bool false) w1 rfl h)
        clear hK hu hc
        go_simp
        exact hk.out _ (Below.refl _ _)
      · refine calm_step rfl fun a ω κ hb hu hc hK => ?_
        have h58 : a.tmps[58]?.getD undef = .bool false := hc 4 58 rfl rfl
        have h61 : a.tmps[61]?.getD undef = .bool false := hc 7 61 rfl rfl
        have hk := Lib.hid (fun w1 (h : Below ω.heap.size ω w1) => hK (.bool false) w1 rfl h)
        clear hK hu hc
        go_simp
        exact hk.out _ (Below.refl _ _)
      · refine calm_step rfl fun a ω κ hb hu hc hK => ?_
        have h62 : a.tmps[62]?.getD undef = .bool false := hc 8 62 rfl rfl
        have hk := Lib.hid (fun w1 (h : Below ω.heap.size ω w1) => hK (.bool false) w1 rfl h)
        clear hK hu hc
        go_simp
        exact hk.out _ (Below.refl _ _)
      · refine calm_step_guard (g := 9) (b := false) (d := 63) rfl rfl (fun a w hc => hc 9 63 rfl rfl) fun a ω κ hb hu hc hK => ?_
        have h16 : a.tmps[16]?.getD undef = .pointer (some ⟨g16, 0, none⟩) := (hu 16 rfl).trans e16
        have hk := Lib.hid (fun w1 (h : Below ω.heap.size ω w1) => hK (.agg (arrK .u64 4 (wd (dN)))) w1 rfl h)
        clear hK hu hc
        have hAt := hD.out.step hb
        have hr1 := hAt.row
        have hr2 := hAt.eq
        clear hAt
        go_simp
        exact hk.out _ (Below.refl _ _)
      · refine calm_step_guard (g := 9) (b := false) (d := 63) rfl rfl (fun a w hc => hc 9 63 rfl rfl) fun a ω κ hb hu hc hK => ?_
        have h9 : a.tmps[9]?.getD undef = u9 := (hu 9 rfl).trans e9
        have hk := Lib.hid (fun w1 (h : Below ω.heap.size ω w1) => hK (u9) w1 rfl h)
        clear hK hu hc
        go_simp
        exact hk.out _ (Below.refl _ _)
      · refine calm_step_guard (g := 9) (b := false) (d := 63) rfl rfl (fun a w hc => hc 9 63 rfl rfl) fun a ω κ hb hu hc hK => ?_
        have hk := Lib.hid (fun v w1 (hv : (SRel.n (2 ^ 256)).p v w1) (h : Below ω.heap.size ω w1) => hK v w1 hv h)
        clear hK hu hc
        go_simp
        go_at_call 25
        refine (twoC' ω).mono ?_
        rintro e w1 ⟨u, rfl, hu1, hb1⟩
        exact hk.out _ _ hu1 hb1
      · refine calm_step_guard (g := 9) (b := false) (d := 63) rfl rfl (fun a w hc => hc 9 63 rfl rfl) fun a ω κ hb hu hc hK => ?_
        have h65 : a.tmps[65]?.getD undef = u9 := hc 11 65 rfl rfl
        have h66 : (SRel.n (2 ^ 256)).p (a.tmps[66]?.getD undef) ω := hc 12 66 rfl rfl
        have hk := Lib.hid (fun v w1 (hv : (SRel.n (x + 2 ^ 256)).p v w1) (h : Below ω.heap.size ω w1) => hK v w1 hv h)
        clear hK hu hc
        go_simp
        go_at_call 23
        refine (plusN (m := x) (n := 2 ^ 256) ω ((hu.step hb).toV hxb) (h66.toV hpb)).mono ?_
        rintro e w1 ⟨u, rfl, hu1, hb1⟩
        exact hk.out _ _ hu1 hb1
      · refine calm_step_guard (g := 9) (b := false) (d := 63) rfl rfl (fun a w hc => hc 9 63 rfl rfl) fun a ω κ hb hu hc hK => ?_
        have h10 : a.tmps[10]?.getD undef = u10 := (hu 10 rfl).trans e10
        have hk := Lib.hid (fun w1 (h : Below ω.heap.size ω w1) => hK (u10) w1 rfl h)
        clear hK hu hc
        go_simp
        exact hk.out _ (Below.refl _ _)
      · refine calm_step_guard (g := 9) (b := false) (d := 63) rfl rfl (fun a w hc => hc 9 63 rfl rfl) fun a ω κ hb hu hc hK => ?_
        have h67 : (SRel.n (x + 2 ^ 256)).p (a.tmps[67]?.getD undef) ω := hc 13 67 rfl rfl
        have h68 : a.tmps[68]?.getD undef = u10 := hc 14 68 rfl rfl
        have hk := Lib.hid (fun v w1 (hv : (SRel.n (x + 2 ^ 256 - y)).p v w1) (h : Below ω.heap.size ω w1) => hK v w1 hv h)
        clear hK hu hc
        go_simp
        go_at_call 29
        refine (minusN (m := x + 2 ^ 256) (n := y) ω (h67.toV hxpb) ((hv.step hb).toV hyb) hle).mono ?_
        rintro e w1 ⟨u, rfl, hu1, hb1⟩
        exact hk.out _ _ hu1.toN hb1
      · refine calm_step_guard (g := 9) (b := false) (d := 63) rfl rfl (fun a w hc => hc 9 63 rfl rfl) fun a ω κ hb hu hc hK => ?_
        have h69 : (SRel.n (x + 2 ^ 256 - y)).p (a.tmps[69]?.getD undef) ω := hc 15 69 rfl rfl
        have hk := Lib.hid (fun w1 (h : Below ω.heap.size ω w1) => hK (.agg (arrK .u64 4 (wd (dN)))) w1 rfl h)
        clear hK hu hc
        go_simp
        go_at_call 28
        refine (toNumM (N := dN) ω h69 (sub_big hxpb) hdNe.out).mono ?_
        rintro e w1 ⟨rfl, hb1⟩
        exact hk.out _ hb1
      · refine calm_step_guard (g := 9) (b := false) (d := 63) rfl rfl (fun a w hc => hc 9 63 rfl rfl) fun a ω κ hb hu hc hK => ?_
        have h64 : a.tmps[64]?.getD undef = .agg (arrK .u64 4 (wd (dN))) := hc 10 64 rfl rfl
        have h70 : a.tmps[70]?.getD undef = .agg (arrK .u64 4 (wd (dN))) := hc 16 70 rfl rfl
        have hk := Lib.hid (fun w1 (h : Below ω.heap.size ω w1) => hK (.bool false) w1 rfl h)
        clear hK hu hc
        have hq := eqlSame4 (wd (dN)) ω
        go_simp
        exact hk.out _ (Below.refl _ _)
      · refine calm_step rfl fun a ω κ hb hu hc hK => ?_
        have h63 : a.tmps[63]?.getD undef = .bool false := hc 9 63 rfl rfl
        have h71 : a.tmps[71]?.getD undef = .bool false := hc 17 71 rfl rfl
        have hk := Lib.hid (fun w1 (h : Below ω.heap.size ω w1) => hK (.bool false) w1 rfl h)
        clear hK hu hc
        go_simp
        exact hk.out _ (Below.refl _ _)
      · refine calm_step rfl fun a ω κ hb hu hc hK => ?_
        have h72 : a.tmps[72]?.getD undef = .bool false := hc 18 72 rfl rfl
        have hk := Lib.hid (fun w1 (h : Below ω.heap.size ω w1) => hK (.bool false) w1 rfl h)
        clear hK hu hc
        go_simp
        exact hk.out _ (Below.refl _ _)
      · refine calm_step_guard (g := 19) (b := false) (d := 73) rfl rfl (fun a w hc => hc 19 73 rfl rfl) fun a ω κ hb hu hc hK => ?_
        have h17 : a.tmps[17]?.getD undef = .int .u64 (ls : Nat) := (hu 17 rfl).trans e17
        have hk := Lib.hid (fun w1 (h : Below ω.heap.size ω w1) => hK (.int .u64 (ls : Nat)) w1 rfl h)
        clear hK hu hc
        go_simp
        exact hk.out _ (Below.refl _ _)
      · refine calm_step_guard (g := 19) (b := false) (d := 73) rfl rfl (fun a w hc => hc 19 73 rfl rfl) fun a ω κ hb hu hc hK => ?_
        have h13 : a.tmps[13]?.getD undef = .int .u64 (ls : Nat) := (hu 13 rfl).trans e13
        have hk := Lib.hid (fun w1 (h : Below ω.heap.size ω w1) => hK (.int .u64 (ls : Nat)) w1 rfl h)
        clear hK hu hc
        go_simp
        exact hk.out _ (Below.refl _ _)
      · refine calm_step_guard (g := 19) (b := false) (d := 73) rfl rfl (fun a w hc => hc 19 73 rfl rfl) fun a ω κ hb hu hc hK => ?_
        have h74 : a.tmps[74]?.getD undef = .int .u64 (ls : Nat) := hc 20 74 rfl rfl
        have h75 : a.tmps[75]?.getD undef = .int .u64 (ls : Nat) := hc 21 75 rfl rfl
        have hk := Lib.hid (fun w1 (h : Below ω.heap.size ω w1) => hK (.bool false) w1 rfl h)
        clear hK hu hc
        go_simp
        exact hk.out _ (Below.refl _ _)
      · refine calm_step rfl fun a ω κ hb hu hc hK => ?_
        have h73 : a.tmps[73]?.getD undef = .bool false := hc 19 73 rfl rfl
        have h76 : a.tmps[76]?.getD undef = .bool false := hc 22 76 rfl rfl
        have hk := Lib.hid (fun w1 (h : Below ω.heap.size ω w1) => hK (.bool false) w1 rfl h)
        clear hK hu hc
        go_simp
        exact hk.out _ (Below.refl _ _)
      · intro a w1 hb hu1 hsz hdf hc
        have hK1 := hHK1.out
        go_wp2_with fail
        refine Met.intro (hHJ1.out _ _ ?_)
        have ha0 := hha0.out
        subst ha0
        (repeat apply Exists.intro)
        refine ⟨?_, act_patch (n := 178) [false, false, false, false, false, false, false, false, false, false, false, false, false, false, false, false, false, false, false, false, false, false, false, false, false, false, false, false, false, false, false, false, false, false, false, false, false, false, false, false, false, false, false, false, false, false, false, false, false, false, false, false, false, false, true, true, true, true, true, true, true, true, true, true, true, true, true, true, true, true, true, true, true, true, true, true, true, true, false, false, false, false, false, false, false, false, false, false, false, false, false, false, false, false, false, false, false, false, false, false, false, false, false, false, false, false, false, false, false, false, false, false, false, false, false, false, false, false, false, false, false, false, false, false, false, false, false, false, false, false, false, false, false, false, false, false, false, false, false, false, false, false, false, false, false, false, false, false, false, false, false, false, false, false, false, false, false, false, false, false, false, false, false, false, false, false, false, false, false, false, false, false, false, false, false, false, false, false] rfl (by kernel_rfl) hu1 hsz hdf⟩
        exact ⟨hc 23 77 rfl, hb⟩
    case rest =>
    obtain ⟨rfl, hb7⟩ := hcut
    replace hu := hu.step hb7
    replace hv := hv.step hb7
    replace hs := hs.step hb7
    replace hA := Lib.hid (hA.out.step hb7)
    replace hB := Lib.hid (hB.out.step hb7)
    replace hL := Lib.hid (below_step hb7 hL.out (Nat.le_refl _))
    clear hb7
    obtain ⟨mN, hmN⟩ : ∃ n, n = x * y := ⟨_, rfl⟩
    have hmul := Lib.hid (fun V => mulC x y V hx hy)
    have hcmp := Lib.hid (fun V => cmpC x y V hx hy)
    rw [← hmN] at hmul
    rw [hHo2.out] at hcmp
    have hmNb : mN < big := by rw [hmN]; exact mul_big hx hy (by omega)
    have hHm := Lib.hid hmN
    clear hmN
    have hRa := hA.out.row
    have hra := hA.out.eq
    have hRb := hB.out.row
    have hrb := hB.out.eq
    go_wp2_with fail
    refine (hmul.out _).mono ?_
    rintro e w6 ⟨rfl, hb6⟩
    clear hRa hra hRb hrb
    replace hu := hu.step hb6
    replace hv := hv.step hb6
    replace hs := hs.step hb6
    replace hA := Lib.hid (hA.out.step hb6)
    replace hB := Lib.hid (hB.out.step hb6)
    replace hL := Lib.hid (below_step hb6 hL.out (Nat.le_refl _))
    clear hb6
    go_wp2_with fail
    refine (timesN (m := x) (n := y) _ (hu.toV hxb) (hv.toV hyb)).mono ?_
    rintro e w7 ⟨t, rfl, ht, hb6⟩
    rw [← hHm.out] at ht
    replace hu := hu.step hb6
    replace hv := hv.step hb6
    replace hs := hs.step hb6
    replace hA := Lib.hid (hA.out.step hb6)
    replace hB := Lib.hid (hB.out.step hb6)
    replace hL := Lib.hid (below_step hb6 hL.out (Nat.le_refl _))
    clear hb6
    go_wp2_with fail
    refine (toWideL _ ht hmNb).mono ?_
    rintro e w8 ⟨rfl, hb6⟩
    replace hu := hu.step hb6
    replace hv := hv.step hb6
    replace hs := hs.step hb6
    replace hA := Lib.hid (hA.out.step hb6)
    replace hB := Lib.hid (hB.out.step hb6)
    replace hL := Lib.hid (below_step hb6 hL.out (Nat.le_refl _))
    clear hb6
    have hq8 := fun V => eqlSame8 (wd mN) V
    have hRa := hA.out.row
    have hra := hA.out.eq
    have hRb := hB.out.row
    have hrb := hB.out.eq
    go_wp2_with fail
    clear hq8
    refine (hcmp.out _).mono ?_
    rintro e w9 ⟨rfl, hb6⟩
    clear hRa hra hRb hrb
    replace hu := hu.step hb6
    replace hv := hv.step hb6
    replace hs := hs.step hb6
    replace hA := Lib.hid (hA.out.step hb6)
    replace hB := Lib.hid (hB.out.step hb6)
    replace hL := Lib.hid (below_step hb6 hL.out (Nat.le_refl _))
    clear hb6
    go_wp2_with fail
    refine (orderN (m := x) (n := y) _ (hu.toV hxb) (hv.toV hyb)).mono ?_
    rintro e w' ⟨rfl, rfl⟩
    rw [hHo2.out]
    go_wp2_with fail
    refine (bitsN 256 _ (by omega) (hu.toV hxb)).mono ?_
    rintro e w10 ⟨g18, rfl, hRg, hrg, hg, hb6⟩
    replace hu := hu.step hb6
    replace hv := hv.step hb6
    replace hs := hs.step hb6
    replace hA := Lib.hid (hA.out.step hb6)
    replace hB := Lib.hid (hB.out.step hb6)
    replace hL := Lib.hid (below_step hb6 hL.out (Nat.le_refl _))
    clear hb6
    have hG : At w10 g18 .i64 256 (abit x) := ⟨hRg, hrg⟩
    clear hRg hrg hg hadd hsub hmul hcmp hoc hoc2 hS hD
    go_wp2_with fail
    clear hu hv hs
    go_loop [19, 20, 99] (fun b n k => ∃ (s m : Nat), k = .int .i64 s ∧ s ≤ 256 ∧ b = .int .i64 (bitI x i s : Nat) ∧ n = .int .i64 m ∧ Hid (IsLen (x % 2 ^ s) m)) (fun _ _ k => 256 - (intOf k).toNat)
    case atStart => exact ⟨0, 0, rfl, by omega, by rw [bitI_zero]; rfl, rfl, Lib.hid ⟨by simp [Nat.mod_one], .inl rfl⟩⟩
    case round =>
    obtain ⟨q, m, rfl, hq, rfl, rfl, hH⟩ := hrel
    by_cases h256 : q = 256
    case neg =>

      have cg := hG.cell (i := q) (by omega)
      have hql : (q : Int) < 256 := by omega
      by_cases hone : abit x q = 1
      · rw [hone] at cg
        have hH2 := Lib.hid (isLen_one hone)
        by_cases hk : (q : Int) = i
        · have hd : ((q : Int) == i) = true := by simpa using hk
          have hb2 := Lib.hid (show bitI x i (q + 1) = 1 by rw [← hk, bitI_eq, hone])
          clear hk hone hH hG
          go_wp2
          go_round
          case rel => exact ⟨q + 1, q + 1, by go_num, by omega, by rw [hb2.out]; rfl, by go_num, hH2⟩
          case measure => simp [intOf]; omega
        · have hd : ((q : Int) == i) = false := by simpa using hk
          have hb2 := Lib.hid (bitI_ne (a := x) hk)
          clear hk hone hH hG
          go_wp2
          go_round
          case rel => exact ⟨q + 1, q + 1, by go_num, by omega, by rw [hb2.out], by go_num, hH2⟩
          case measure => simp [intOf]; omega
      · have hzero : abit x q = 0 := by have := abit_lt x q; omega
        rw [hzero] at cg
        have hH2 := Lib.hid (isLen_no hzero hH.out)
        by_cases hk : (q : Int) = i
        · have hd : ((q : Int) == i) = true := by simpa using hk
          have hb2 := Lib.hid (show bitI x i (q + 1) = 0 by rw [← hk, bitI_eq, hzero])
          clear hk hone hzero hH hG
          go_wp2
          go_round
          case rel => exact ⟨q + 1, m, by go_num, by omega, by rw [hb2.out]; rfl, rfl, hH2⟩
          case measure => simp [intOf]; omega
        · have hd : ((q : Int) == i) = false := by simpa using hk
          have hb2 := Lib.hid (bitI_ne (a := x) hk)
          clear hk hone hzero hH hG
          go_wp2
          go_round
          case rel => exact ⟨q + 1, m, by go_num, by omega, by rw [hb2.out], rfl, hH2⟩
          case measure => simp [intOf]; omega
    case pos =>
    have hge : ¬ (q : Int) < 256 := by omega
    have hlen : IsLen x m := by have := hH.out; rw [h256, Nat.mod_eq_of_lt hx] at this; exact this
    have hcb := Lib.hid (fun V => bitC' x i V)
    rw [← h256] at hcb
    have hblt := bitI_lt x i q
    have hHl := Lib.hid hlen
    clear hH hlen h256 hq
    generalize bitI x i q = bb at *
    have hwb : IntKind.u64.wrap (bb : Int) = bb := by rw [IntKind.wrap_u64]; omega
    have hRa := hA.out.row
    have hra := hA.out.eq
    have hHG := Lib.hid hG
    clear hG
    go_wp2_with fail
    refine (hcb.out _).mono ?_
    rintro e w11 ⟨rfl, hb6⟩
    clear hRa hra
    replace hA := Lib.hid (hA.out.step hb6)
    replace hB := Lib.hid (hB.out.step hb6)
    replace hHG := Lib.hid (hHG.out.step hb6)
    replace hL := Lib.hid (below_step hb6 hL.out (Nat.le_refl _))
    clear hb6
    have hRa := hA.out.row
    have hra := hA.out.eq
    go_wp2_with fail
    refine (lenC x _ hx).mono ?_
    rintro e w12 ⟨m2, rfl, hl2, hb6⟩
    obtain rfl : m2 = m := hl2.only hHl.out
    clear hRa hra hl2 hHl hwb
    replace hA := Lib.hid (hA.out.step hb6)
    replace hB := Lib.hid (hB.out.step hb6)
    replace hHG := Lib.hid (hHG.out.step hb6)
    replace hL := Lib.hid (below_step hb6 hL.out (Nat.le_refl _))
    clear hb6
    have hmk := mk256
    have hb6 := below_alloc w12 (Obj.cells (arrK .i64 256 fun _ => 0) 3)
    have hne12 : g18 ≠ w12.heap.size := by have := hHG.out.lt; omega
    have hneA : w.heap.size ≠ w12.heap.size := by have := hA.out.lt; omega
    have hneB : w.heap.size + 1 ≠ w12.heap.size := by have := hB.out.lt; omega
    have hle23 : w.heap.size ≤ w12.heap.size := by have := hA.out.lt; omega
    have hF : Hid (At (w12.alloc (Obj.cells (arrK .i64 256 fun _ => 0) 3)) w12.heap.size .i64 256 (shF x i 0)) := Lib.hid ((At.new _ rfl).congr fun p _ => (shF_zero x i p).symm)
    replace hA := Lib.hid (hA.out.step hb6)
    replace hB := Lib.hid (hB.out.step hb6)
    replace hHG := Lib.hid (hHG.out.step hb6)
    replace hL := Lib.hid (below_step hb6 hL.out (Nat.le_refl _))
    clear hb6
    go_wp2_with fail
    clear hmk
    generalize (w12.alloc (Obj.cells (arrK .i64 256 fun _ => 0) 3)) = W12 at *
    generalize w12.heap.size = g23 at *
    have hgg := Lib.hid (show g18 ≠ g23 from hne12)
    go_loopw [128] (fun k wr => ∃ s : Nat, k = .int .i64 s ∧ s ≤ 256 ∧ Hid (At wr g23 .i64 256 (shF x i s)) ∧ Hid (NumAt wr w.heap.size x) ∧ Hid (NumAt wr (w.heap.size + 1) y) ∧ Hid (At wr g18 .i64 256 (abit x)) ∧ Hid (Below w.heap.size w wr)) (fun k _ => 256 - (intOf k).toNat)
    case atStart => exact ⟨0, rfl, by omega, hF, hA, hB, hHG, hL⟩
    case round =>
    clear hF hA hB hHG hL
    obtain ⟨q, rfl, hq, hF, hA, hB, hHG, hL⟩ := hrel
    by_cases h256 : q = 256
    case neg =>

      have hql : (q : Int) < 256 := by omega
      have cg := hHG.out.cell (i := q) (by omega)
      by_cases hin : -255 ≤ i ∧ i ≤ 255
      · have h1 := hin.1
        have h2 := hin.2
        by_cases hz : 0 ≤ (q : Int) + i ∧ (q : Int) + i < 256
        · obtain ⟨z, hz0⟩ := Int.eq_ofNat_of_zero_le hz.1
          have hup := Lib.hid (fun p => shF_in (a := x) h1 h2 hz0 p)
          have hz1 : (z : Int) < 256 := by omega
          have hw : IntKind.i64.wrap ((q : Int) + i) = (z : Int) := by rw [IntKind.wrap_i64]; omega
          have cz := hF.out.cell (i := z) (by omega)
          have fz := hF.out.row.frozen z
          have hF2 := Lib.hid (((hF.out.set z (abit x q)).congr fun p _ => hup.out p))
          have hA2 := Lib.hid (hA.out.farC (a := ⟨g23, z, none⟩) (v := .int .i64 (abit x q : Nat)) hneA)
          have hB2 := Lib.hid (hB.out.farC (a := ⟨g23, z, none⟩) (v := .int .i64 (abit x q : Nat)) hneB)
          have hG2 := Lib.hid (hHG.out.farC (a := ⟨g23, z, none⟩) (v := .int .i64 (abit x q : Nat)) hgg.out)
          have hL2 := Lib.hid (hL.out.setCell (p := ⟨g23, z, none⟩) hle23 (.int .i64 (abit x q : Nat)))
          clear hin hz hup hF hA hB hHG hL
          generalize abit x q = v at *
          go_wp2
          go_roundw
          case rel => exact ⟨q + 1, by go_num, by omega, hF2, hA2, hB2, hG2, hL2⟩
          case measure => simp [intOf]; omega
        · have hF2 := Lib.hid (hF.out.congr fun p hp => (shF_ne (a := x) (i := i) (s := q) (p := p) (by omega)).symm)
          have hw : IntKind.i64.wrap ((q : Int) + i) = (q : Int) + i := by rw [IntKind.wrap_i64]; omega
          by_cases hz0 : 0 ≤ (q : Int) + i
          · have hz1 : ¬ (q : Int) + i < 256 := by omega
            have hd0 : decide (0 ≤ (q : Int) + i) = true := by simpa using hz0
            have hd1 : decide ((q : Int) + i < 256) = false := by simpa using hz1
            clear hin hz hF
            generalize abit x q = v at *
            go_wp2
            go_roundw
            case rel => exact ⟨q + 1, by go_num, by omega, hF2, hA, hB, hHG, hL⟩
            case measure => simp [intOf]; omega
          · have hd0 : decide (0 ≤ (q : Int) + i) = false := by simpa using hz0
            clear hin hz hF
            generalize abit x q = v at *
            go_wp2
            go_roundw
            case rel => exact ⟨q + 1, by go_num, by omega, hF2, hA, hB, hHG, hL⟩
            case measure => simp [intOf]; omega
      · have hF2 := Lib.hid (hF.out.congr fun p _ => shF_out (a := x) hin q (q + 1) p)
        by_cases h1 : -255 ≤ i
        · have h2 : ¬ i ≤ 255 := by omega
          have hd1 : decide (-255 ≤ i) = true := by simpa using h1
          have hd2 : decide (i ≤ 255) = false := by simpa using h2
          clear hin hF
          generalize abit x q = v at *
          go_wp2
          go_roundw
          case rel => exact ⟨q + 1, by go_num, by omega, hF2, hA, hB, hHG, hL⟩
          case measure => simp [intOf]; omega
        · have hd1 : decide (-255 ≤ i) = false := by simpa using h1
          clear hin hF
          generalize abit x q = v at *
          go_wp2
          go_roundw
          case rel => exact ⟨q + 1, by go_num, by omega, hF2, hA, hB, hHG, hL⟩
          case measure => simp [intOf]; omega
    case pos =>
    have hge : ¬ (q : Int) < 256 := by omega
    rw [h256] at hF
    clear hHG hq h256
    obtain ⟨pN, hpN⟩ : ∃ n, n = if c % 2 = 1 then y else x := ⟨_, rfl⟩
    have hHp := Lib.hid hpN
    clear hpN
    have hcx := arrK_cells .u64 4 (wd x)
    have hcy := arrK_cells .u64 4 (wd y)
    have hb6 := below_alloc wr (Obj.cells (arrK .u64 4 (wd x)) 24)
    have hP : Hid (NumAt (wr.alloc (Obj.cells (arrK .u64 4 (wd x)) 24)) wr.heap.size x) := Lib.hid (At.new _ rfl)
    have hRa := hA.out.row
    have hra := hA.out.eq
    have hP5 : w.heap.size + 1 ≠ wr.heap.size := by have := hB.out.lt; omega
    have hP4 : w.heap.size ≠ wr.heap.size := by have := hA.out.lt; omega
    have hP23 : g23 ≠ wr.heap.size := by have := hF.out.lt; omega
    have hPle : w.heap.size ≤ wr.heap.size := by have := hA.out.lt; omega
    replace hA := Lib.hid (hA.out.step hb6)
    replace hB := Lib.hid (hB.out.step hb6)
    replace hF := Lib.hid (hF.out.step hb6)
    replace hL := Lib.hid (below_step hb6 hL.out (Nat.le_refl _))
    clear hb6
    go_upto_if 161 with (fail)
    clear hRa hra
    generalize (wr.alloc (Obj.cells (arrK .u64 4 (wd x)) 24)) = W13 at *
    generalize wr.heap.size = g26 at *
    go_cut [161] (fun _ wx => Hid (NumAt wx g26 pN) ∧ Hid (NumAt wx w.heap.size x) ∧ Hid (NumAt wx (w.heap.size + 1) y) ∧ Hid (At wx g23 .i64 256 (shF x i 256)) ∧ Hid (Below w.heap.size w wx))
    case first =>
      by_cases hodd : c % 2 = 1
      · have hd : (((c : Int) % 2) == 1) = true := by rw [beq_iff_eq]; omega
        have hRb := hB.out.row
        have hrb := hB.out.eq
        have hRp := hP.out.row
        have hP2 := Lib.hid (At.put (f := wd y) (k := .u64) hRp)
        have hA2 := Lib.hid (hA.out.far (c := arrK .u64 4 (wd y)) hP4)
        have hB2 := Lib.hid (hB.out.far (c := arrK .u64 4 (wd y)) hP5)
        have hF2 := Lib.hid (hF.out.far (c := arrK .u64 4 (wd y)) hP23)
        have hL2 := Lib.hid (below_setRow (c := arrK .u64 4 (wd y)) hL.out hPle)
        have hpy := Lib.hid (hHp.out.trans (if_pos hodd))
        clear hodd
        go_wp2_with fail
        go_meet
        exact ⟨hpy.out ▸ hP2, hA2, hB2, hF2, hL2⟩
      · have hd : (((c : Int) % 2) == 1) = false := by rw [beq_eq_false_iff_ne]; omega
        have hpy := Lib.hid (hHp.out.trans (if_neg hodd))
        clear hodd
        go_wp2_with fail
        go_meet
        exact ⟨hpy.out ▸ hP, hA, hB, hF, hL⟩
    case rest =>
    clear hP hA hB hF hL
    obtain ⟨hP, hA, hB, hF, hL⟩ := hcut
    obtain ⟨zN, hzN⟩ : ∃ n, n = shN x i := ⟨_, rfl⟩
    have hsh := Lib.hid (fun V => shiftC x i V hx)
    rw [← hzN] at hsh
    have hzlt : zN < 2 ^ 256 := by rw [hzN]; exact shN_lt i hx
    have hob := Lib.hid (fun V (h : At V g23 .i64 256 (shF x i 256)) => ref_OfBits (shF x i 256) g23 256 V h (shF_lt x i 256) (by omega))
    rw [shF_end i hx, ← hzN] at hob
    have hzb := lt_big hzlt (by omega)
    have hzm := Lib.hid (Nat.mod_eq_of_lt hzlt)
    clear hzN
    go_wp2_with fail
    have hLw := hL
    clear hL
    have hc1 := hc
    clear hc
    generalize ha0 : Act.mk _ _ = a0
    have e2 : a0.tmps[2]?.getD undef = .int .i64 i := by rw [← ha0]; rfl
    have e3 : a0.tmps[3]?.getD undef = .int .u64 c := by rw [← ha0]; rfl
    have e4 : a0.tmps[4]?.getD undef = .pointer (some ⟨w.heap.size, 0, none⟩) := by rw [← ha0]; rfl
    have e5 : a0.tmps[5]?.getD undef = .pointer (some ⟨w.heap.size + 1, 0, none⟩) := by rw [← ha0]; rfl
    have e23 : a0.tmps[23]?.getD undef = .slice (some ⟨g23, 0, none⟩) 256 256 := by rw [← ha0]; rfl
    have e26 : a0.tmps[26]?.getD undef = .pointer (some ⟨g26, 0, none⟩) := by rw [← ha0]; rfl
    have hz0 : a0.tmps.size = 178 := by rw [← ha0]; rfl
    have hha0 := Lib.hid ha0
    clear ha0
    refine wp_region_calm (fun jx_ => match jx_ with | 0 => SRel.is (.agg (arrK .u64 4 (wd (x)))) | 1 => SRel.is (.int .i64 i) | 2 => SRel.is (.agg (arrK .u64 4 (wd (zN)))) | 3 => SRel.is (.slice (some ⟨g23, 0, none⟩) 256 256) | 4 => SRel.n (zN) | 5 => SRel.is (.agg (arrK .u64 4 (wd (zN)))) | 6 => SRel.is (.bool true) | 7 => SRel.is (.bool true) | 8 => SRel.is (.int .u64 c) | 9 => SRel.is (.agg (arrK .u64 4 (wd (x)))) | 10 => SRel.is (.agg (arrK .u64 4 (wd (y)))) | 11 => SRel.is (.agg (arrK .u64 4 (wd (pN)))) | 12 => SRel.is (.agg (arrK .u64 4 (wd (pN)))) | 13 => SRel.is (.bool true) | 14 => SRel.is (.bool true) | 15 => SRel.is (.bool true) | _ => SRel.any) (by kernel_rfl) (by kernel_rfl) (by kernel_rfl) (slotsOk_of hz0 (by kernel_rfl)) ⟨?_, ?_, ?_, ?_, ?_, ?_, ?_, ?_, ?_, ?_, ?_, ?_, ?_, ?_, ?_, ?_, trivial⟩ ?_
    · refine calm_step rfl fun a ω κ hb hu hc hK => ?_
      have h4 : a.tmps[4]?.getD undef = .pointer (some ⟨w.heap.size, 0, none⟩) := (hu 4 rfl).trans e4
      have hk := Lib.hid (fun w1 (h : Below ω.heap.size ω w1) => hK (.agg (arrK .u64 4 (wd (x)))) w1 rfl h)
      clear hK hu hc
      have hAt := hA.out.step hb
      have hr1 := hAt.row
      have hr2 := hAt.eq
      clear hAt
      go_simp
      exact hk.out _ (Below.refl _ _)
    · refine calm_step rfl fun a ω κ hb hu hc hK => ?_
      have h2 : a.tmps[2]?.getD undef = .int .i64 i := (hu 2 rfl).trans e2
      have hk := Lib.hid (fun w1 (h : Below ω.heap.size ω w1) => hK (.int .i64 i) w1 rfl h)
      clear hK hu hc
      go_simp
      exact hk.out _ (Below.refl _ _)
    · refine calm_step rfl fun a ω κ hb hu hc hK => ?_
      have h163 : a.tmps[163]?.getD undef = .agg (arrK .u64 4 (wd (x))) := hc 0 163 rfl rfl
      have h164 : a.tmps[164]?.getD undef = .int .i64 i := hc 1 164 rfl rfl
      have hk := Lib.hid (fun w1 (h : Below ω.heap.size ω w1) => hK (.agg (arrK .u64 4 (wd (zN)))) w1 rfl h)
      clear hK hu hc
      go_simp
      go_at_call 37
      refine (hsh.out ω).mono ?_
      rintro e w1 ⟨rfl, hb1⟩
      exact hk.out _ hb1
    · refine calm_step rfl fun a ω κ hb hu hc hK => ?_
      have h23 : a.tmps[23]?.getD undef = .slice (some ⟨g23, 0, none⟩) 256 256 := (hu 23 rfl).trans e23
      have hk := Lib.hid (fun w1 (h : Below ω.heap.size ω w1) => hK (.slice (some ⟨g23, 0, none⟩) 256 256) w1 rfl h)
      clear hK hu hc
      go_simp
      exact hk.out _ (Below.refl _ _)
    · refine calm_step rfl fun a ω κ hb hu hc hK => ?_
      have h166 : a.tmps[166]?.getD undef = .slice (some ⟨g23, 0, none⟩) 256 256 := hc 3 166 rfl rfl
      have hk := Lib.hid (fun v w1 (hv : (SRel.n (zN)).p v w1) (h : Below ω.heap.size ω w1) => hK v w1 hv h)
      clear hK hu hc
      go_simp
      go_at_call 38
      refine (hob.out ω (hF.out.step hb)).mono ?_
      rintro e w1 ⟨u, rfl, hu1, hb1⟩
      exact hk.out _ _ hu1 hb1
    · refine calm_step rfl fun a ω κ hb hu hc hK => ?_
      have h167 : (SRel.n (zN)).p (a.tmps[167]?.getD undef) ω := hc 4 167 rfl rfl
      have hk := Lib.hid (fun w1 (h : Below ω.heap.size ω w1) => hK (.agg (arrK .u64 4 (wd (zN)))) w1 rfl h)
      clear hK hu hc
      go_simp
      go_at_call 28
      refine (toNumM (N := zN) ω h167 hzb hzm.out).mono ?_
      rintro e w1 ⟨rfl, hb1⟩
      exact hk.out _ hb1
    · refine calm_step rfl fun a ω κ hb hu hc hK => ?_
      have h165 : a.tmps[165]?.getD undef = .agg (arrK .u64 4 (wd (zN))) := hc 2 165 rfl rfl
      have h168 : a.tmps[168]?.getD undef = .agg (arrK .u64 4 (wd (zN))) := hc 5 168 rfl rfl
      have hk := Lib.hid (fun w1 (h : Below ω.heap.size ω w1) => hK (.bool true) w1 rfl h)
      clear hK hu hc
      have hq := eqlSame4 (wd (zN)) ω
      go_simp
      exact hk.out _ (Below.refl _ _)
    · refine calm_step rfl fun a ω κ hb hu hc hK => ?_
      have h169 : a.tmps[169]?.getD undef = .bool true := hc 6 169 rfl rfl
      have hk := Lib.hid (fun w1 (h : Below ω.heap.size ω w1) => hK (.bool true) w1 rfl h)
      clear hK hu hc
      go_simp
      exact hk.out _ (Below.refl _ _)
    · refine calm_step_guard (g := 7) (b := true) (d := 170) rfl rfl (fun a w hc => hc 7 170 rfl rfl) fun a ω κ hb hu hc hK => ?_
      have h3 : a.tmps[3]?.getD undef = .int .u64 c := (hu 3 rfl).trans e3
      have hk := Lib.hid (fun w1 (h : Below ω.heap.size ω w1) => hK (.int .u64 c) w1 rfl h)
      clear hK hu hc
      go_simp
      exact hk.out _ (Below.refl _ _)
    · refine calm_step_guard (g := 7) (b := true) (d := 170) rfl rfl (fun a w hc => hc 7 170 rfl rfl) fun a ω κ hb hu hc hK => ?_
      have h4 : a.tmps[4]?.getD undef = .pointer (some ⟨w.heap.size, 0, none⟩) := (hu 4 rfl).trans e4
      have hk := Lib.hid (fun w1 (h : Below ω.heap.size ω w1) => hK (.agg (arrK .u64 4 (wd (x)))) w1 rfl h)
      clear hK hu hc
      have hAt := hA.out.step hb
      have hr1 := hAt.row
      have hr2 := hAt.eq
      clear hAt
      go_simp
      exact hk.out _ (Below.refl _ _)
    · refine calm_step_guard (g := 7) (b := true) (d := 170) rfl rfl (fun a w hc => hc 7 170 rfl rfl) fun a ω κ hb hu hc hK => ?_
      have h5 : a.tmps[5]?.getD undef = .pointer (some ⟨w.heap.size + 1, 0, none⟩) := (hu 5 rfl).trans e5
      have hk := Lib.hid (fun w1 (h : Below ω.heap.size ω w1) => hK (.agg (arrK .u64 4 (wd (y)))) w1 rfl h)
      clear hK hu hc
      have hAt := hB.out.step hb
      have hr1 := hAt.row
      have hr2 := hAt.eq
      clear hAt
      go_simp
      exact hk.out _ (Below.refl _ _)
    · refine calm_step_guard (g := 7) (b := true) (d := 170) rfl rfl (fun a w hc => hc 7 170 rfl rfl) fun a ω κ hb hu hc hK => ?_
      have h171 : a.tmps[171]?.getD undef = .int .u64 c := hc 8 171 rfl rfl
      have h172 : a.tmps[172]?.getD undef = .agg (arrK .u64 4 (wd (x))) := hc 9 172 rfl rfl
      have h173 : a.tmps[173]?.getD undef = .agg (arrK .u64 4 (wd (y))) := hc 10 173 rfl rfl
      have hk := Lib.hid (fun w1 (h : Below ω.heap.size ω w1) => hK (.agg (arrK .u64 4 (wd (pN)))) w1 rfl h)
      clear hK hu hc
      go_simp
      go_at_call 39
      refine (pickC c x y pN ω hc1 hHp.out).mono ?_
      rintro e w1 ⟨rfl, hb1⟩
      exact hk.out _ hb1
    · refine calm_step_guard (g := 7) (b := true) (d := 170) rfl rfl (fun a w hc => hc 7 170 rfl rfl) fun a ω κ hb hu hc hK => ?_
      have h26 : a.tmps[26]?.getD undef = .pointer (some ⟨g26, 0, none⟩) := (hu 26 rfl).trans e26
      have hk := Lib.hid (fun w1 (h : Below ω.heap.size ω w1) => hK (.agg (arrK .u64 4 (wd (pN)))) w1 rfl h)
      clear hK hu hc
      have hAt := hP.out.step hb
      have hr1 := hAt.row
      have hr2 := hAt.eq
      clear hAt
      go_simp
      exact hk.out _ (Below.refl _ _)
    · refine calm_step_guard (g := 7) (b := true) (d := 170) rfl rfl (fun a w hc => hc 7 170 rfl rfl) fun a ω κ hb hu hc hK => ?_
      have h174 : a.tmps[174]?.getD undef = .agg (arrK .u64 4 (wd (pN))) := hc 11 174 rfl rfl
      have h175 : a.tmps[175]?.getD undef = .agg (arrK .u64 4 (wd (pN))) := hc 12 175 rfl rfl
      have hk := Lib.hid (fun w1 (h : Below ω.heap.size ω w1) => hK (.bool true) w1 rfl h)
      clear hK hu hc
      have hq := eqlSame4 (wd (pN)) ω
      go_simp
      exact hk.out _ (Below.refl _ _)
    · refine calm_step rfl fun a ω κ hb hu hc hK => ?_
      have h170 : a.tmps[170]?.getD undef = .bool true := hc 7 170 rfl rfl
      have h176 : a.tmps[176]?.getD undef = .bool true := hc 13 176 rfl rfl
      have hk := Lib.hid (fun w1 (h : Below ω.heap.size ω w1) => hK (.bool true) w1 rfl h)
      clear hK hu hc
      go_simp
      exact hk.out _ (Below.refl _ _)
    · refine calm_step rfl fun a ω κ hb hu hc hK => ?_
      have h177 : a.tmps[177]?.getD undef = .bool true := hc 14 177 rfl rfl
      have hk := Lib.hid (fun w1 (h : Below ω.heap.size ω w1) => hK (.bool true) w1 rfl h)
      clear hK hu hc
      go_simp
      exact hk.out _ (Below.refl _ _)
    · intro a w' hb hu hsz hdf hc
      have h6 : a.tmps[8]?.getD undef = .bool true := hc 15 8 rfl
      have ha0 := hha0.out
      subst ha0
      go_wp2
      exact ret_tmp rfl h6 hdf ⟨rfl, below_step hb hLw.out (Nat.le_refl _)⟩
end Go.Proofs.Ytjihklaocgmlpaa
