/- Contracts of package curve: quadOf, quad.point, d. -/
import Derived.Test.YtgdiokklfihfoaaDoorCvB
import Derived.Test.YtgdiokklfihfoaaDoorOneW
namespace Go.Proofs.YtgdiokklfihfoaaDoor
open Go.ChangeShapes Go.WideShapes Go.ChangeAt Go.RowKit
set_option maxHeartbeats 2000000
set_option maxRecDepth 100000
attribute [local go_sem ↓] load_fld load_num store_num execl_num execs_num load_pt store_pt execl_pt execs_pt load_qd store_qd execl_qd execs_qd
attribute [local go_sem] isHead_mk blkOf_mk isAgg_mk cellsV_mk row_drew rowAt_drew row_new_cells row_old rowAt_new rowAt_old setRow_new zeroNum zeroPt zeroQd
theorem curve_quadOf (x y : Nat) (w : World) (hx : x < 2 ^ 256) (hy : y < 2 ^ 256) : Calls Tryd.prog 144 #[ptV x y] w fun e w' => e = .returned (quadV x y 1 (x * y % fP)) ∧ Below w.heap.size w w' := by
  have hM := Lib.hid (fun V => field_Mul x y V hx hy)
  obtain ⟨m, hm⟩ : ∃ m, x * y % fP = m := ⟨_, rfl⟩
  rw [hm] at hM ⊢
  clear hm hx hy
  unfold numV at hM
  unfold ptV quadV
  have hcq := arrK_cells .u64 16 (cat4 (wd x) (wd y) (wd 1) (wd m))
  have hcz := arrK_cells .u64 16 (cat4 (wd 0) (wd 0) (wd 0) (wd 0))
  have hL0 : Below w.heap.size w ((w.alloc (Obj.cells (arrK .u64 8 (cat2 (wd x) (wd y))) 133)).alloc (Obj.cells (arrK .u64 16 (cat4 (wd 0) (wd 0) (wd 0) (wd 0))) 216)) := by go_grown
  have hA0 : At ((w.alloc (Obj.cells (arrK .u64 8 (cat2 (wd x) (wd y))) 133)).alloc (Obj.cells (arrK .u64 16 (cat4 (wd 0) (wd 0) (wd 0) (wd 0))) 216)) w.heap.size .u64 8 (cat2 (wd x) (wd y)) := (At.new _ rfl).old _
  have hR0 : Row ((w.alloc (Obj.cells (arrK .u64 8 (cat2 (wd x) (wd y))) 133)).alloc (Obj.cells (arrK .u64 16 (cat4 (wd 0) (wd 0) (wd 0) (wd 0))) 216)) (w.heap.size + 1) 16 := (At.new (k := .u64) (f := cat4 (wd 0) (wd 0) (wd 0) (wd 0)) _ (by simp)).row
  have hL := Lib.hid hL0
  have hR := Lib.hid hR0
  have hA := Lib.hid hA0
  clear hL0 hR0 hA0
  go_enter Tryd.func144, Tryd.ntmps144
  go_upto_region 1 with (fail)
  generalize (w.alloc _).alloc _ = W0 at *
  generalize ha0 : Act.mk _ _ = a0
  have e1 : a0.tmps[1]?.getD undef = .pointer (some ⟨w.heap.size, 0, none⟩) := by rw [← ha0]; rfl
  have e2 : a0.tmps[2]?.getD undef = .pointer (some ⟨w.heap.size + 1, 0, none⟩) := by rw [← ha0]; rfl
  have hz0 : a0.tmps.size = 14 := by rw [← ha0]; rfl
  have hha0 := Lib.hid ha0
  clear ha0
  refine wp_region_one (fun jx_ => match jx_ with | 0 => some (.pointer (some ⟨w.heap.size, 0, none⟩)) | 1 => some (.agg (arrK .u64 4 (wd x))) | 2 => some (.pointer (some ⟨w.heap.size, 4, none⟩)) | 3 => some (.agg (arrK .u64 4 (wd y))) | 4 => some (.agg (arrK .u64 4 (wd 1))) | 5 => some (.pointer (some ⟨w.heap.size, 0, none⟩)) | 6 => some (.agg (arrK .u64 4 (wd x))) | 7 => some (.pointer (some ⟨w.heap.size, 4, none⟩)) | 8 => some (.agg (arrK .u64 4 (wd y))) | 9 => some (.agg (arrK .u64 4 (wd m))) | 10 => some (.agg (arrK .u64 16 (cat4 (wd x) (wd y) (wd 1) (wd m)))) | _ => none) 11 ((w.heap.size + 1)) 16 (arrK .u64 16 (cat4 (wd x) (wd y) (wd 1) (wd m))) (by kernel_rfl) (by kernel_rfl) (by kernel_rfl) (slotsOk_of hz0 (by kernel_rfl)) (of_decide_eq_true (by kernel_rfl)) hR.out ⟨?_, ?_, ?_, ?_, ?_, ?_, ?_, ?_, ?_, ?_, ?_, ?_, trivial⟩ ?_
  · refine one_before (by decide) (by kernel_rfl) (calm_step rfl fun aa ω κ hb hu hc hK => ?_)
    have h1 : aa.tmps[1]?.getD undef = .pointer (some ⟨w.heap.size, 0, none⟩) := (hu 1 rfl).trans e1
    have hk := Lib.hid (fun w1 (h : Below ω.heap.size ω w1) => hK (.pointer (some ⟨w.heap.size, 0, none⟩)) w1 rfl h)
    clear hK hu hc
    go_simp
    exact hk.out _ (Below.refl _ _)
  · refine one_before (by decide) (by kernel_rfl) (calm_step rfl fun aa ω κ hb hu hc hK => ?_)
    have h3 : aa.tmps[3]?.getD undef = .pointer (some ⟨w.heap.size, 0, none⟩) := hc 0 3 rfl rfl
    have hk := Lib.hid (fun w1 (h : Below ω.heap.size ω w1) => hK (.agg (arrK .u64 4 (wd x))) w1 rfl h)
    clear hK hu hc
    have hl := pt_0 (hA.out.step hb)
    have hl1 := hl.1
    have hl2 := hl.2
    go_simp
    exact hk.out _ (Below.refl _ _)
  · refine one_before (by decide) (by kernel_rfl) (calm_step rfl fun aa ω κ hb hu hc hK => ?_)
    have h1 : aa.tmps[1]?.getD undef = .pointer (some ⟨w.heap.size, 0, none⟩) := (hu 1 rfl).trans e1
    have hk := Lib.hid (fun w1 (h : Below ω.heap.size ω w1) => hK (.pointer (some ⟨w.heap.size, 4, none⟩)) w1 rfl h)
    clear hK hu hc
    go_simp
    exact hk.out _ (Below.refl _ _)
  · refine one_before (by decide) (by kernel_rfl) (calm_step rfl fun aa ω κ hb hu hc hK => ?_)
    have h5 : aa.tmps[5]?.getD undef = .pointer (some ⟨w.heap.size, 4, none⟩) := hc 2 5 rfl rfl
    have hk := Lib.hid (fun w1 (h : Below ω.heap.size ω w1) => hK (.agg (arrK .u64 4 (wd y))) w1 rfl h)
    clear hK hu hc
    have hl := pt_1 (hA.out.step hb)
    have hl1 := hl.1
    have hl2 := hl.2
    go_simp
    exact hk.out _ (Below.refl _ _)
  · refine one_before (by decide) (by kernel_rfl) (calm_step rfl fun aa ω κ hb hu hc hK => ?_)
    have hk := Lib.hid (fun w1 (h : Below ω.heap.size ω w1) => hK (.agg (arrK .u64 4 (wd 1))) w1 rfl h)
    clear hK hu hc
    exact wp_bldA rfl rfl (build_one _) (hk.out _ (Below.refl _ _))
  · refine one_before (by decide) (by kernel_rfl) (calm_step rfl fun aa ω κ hb hu hc hK => ?_)
    have h1 : aa.tmps[1]?.getD undef = .pointer (some ⟨w.heap.size, 0, none⟩) := (hu 1 rfl).trans e1
    have hk := Lib.hid (fun w1 (h : Below ω.heap.size ω w1) => hK (.pointer (some ⟨w.heap.size, 0, none⟩)) w1 rfl h)
    clear hK hu hc
    go_simp
    exact hk.out _ (Below.refl _ _)
  · refine one_before (by decide) (by kernel_rfl) (calm_step rfl fun aa ω κ hb hu hc hK => ?_)
    have h8 : aa.tmps[8]?.getD undef = .pointer (some ⟨w.heap.size, 0, none⟩) := hc 5 8 rfl rfl
    have hk := Lib.hid (fun w1 (h : Below ω.heap.size ω w1) => hK (.agg (arrK .u64 4 (wd x))) w1 rfl h)
    clear hK hu hc
    have hl := pt_0 (hA.out.step hb)
    have hl1 := hl.1
    have hl2 := hl.2
    go_simp
    exact hk.out _ (Below.refl _ _)
  · refine one_before (by decide) (by kernel_rfl) (calm_step rfl fun aa ω κ hb hu hc hK => ?_)
    have h1 : aa.tmps[1]?.getD undef = .pointer (some ⟨w.heap.size, 0, none⟩) := (hu 1 rfl).trans e1
    have hk := Lib.hid (fun w1 (h : Below ω.heap.size ω w1) => hK (.pointer (some ⟨w.heap.size, 4, none⟩)) w1 rfl h)
    clear hK hu hc
    go_simp
    exact hk.out _ (Below.refl _ _)
  · refine one_before (by decide) (by kernel_rfl) (calm_step rfl fun aa ω κ hb hu hc hK => ?_)
    have h10 : aa.tmps[10]?.getD undef = .pointer (some ⟨w.heap.size, 4, none⟩) := hc 7 10 rfl rfl
    have hk := Lib.hid (fun w1 (h : Below ω.heap.size ω w1) => hK (.agg (arrK .u64 4 (wd y))) w1 rfl h)
    clear hK hu hc
    have hl := pt_1 (hA.out.step hb)
    have hl1 := hl.1
    have hl2 := hl.2
    go_simp
    exact hk.out _ (Below.refl _ _)
  · refine one_before (by decide) (by kernel_rfl) (calm_step rfl fun aa ω κ hb hu hc hK => ?_)
    have h9 : aa.tmps[9]?.getD undef = .agg (arrK .u64 4 (wd x)) := hc 6 9 rfl rfl
    have h11 : aa.tmps[11]?.getD undef = .agg (arrK .u64 4 (wd y)) := hc 8 11 rfl rfl
    have hk := Lib.hid (fun w1 (h : Below ω.heap.size ω w1) => hK (.agg (arrK .u64 4 (wd m))) w1 rfl h)
    clear hK hu hc
    go_simp
    go_at_call 165
    refine (hM.out _).mono ?_
    rintro e w1 ⟨rfl, hb1⟩
    exact hk.out _ hb1
  · refine one_before (by decide) (by kernel_rfl) (calm_step rfl fun aa ω κ hb hu hc hK => ?_)
    have h4 : aa.tmps[4]?.getD undef = .agg (arrK .u64 4 (wd x)) := hc 1 4 rfl rfl
    have h6 : aa.tmps[6]?.getD undef = .agg (arrK .u64 4 (wd y)) := hc 3 6 rfl rfl
    have h7 : aa.tmps[7]?.getD undef = .agg (arrK .u64 4 (wd 1)) := hc 4 7 rfl rfl
    have h12 : aa.tmps[12]?.getD undef = .agg (arrK .u64 4 (wd m)) := hc 9 12 rfl rfl
    have hk := Lib.hid (fun w1 (h : Below ω.heap.size ω w1) => hK (.agg (arrK .u64 16 (cat4 (wd x) (wd y) (wd 1) (wd m)))) w1 rfl h)
    clear hK hu hc
    exact wp_bldD (v0 := .agg (arrK .u64 4 (wd x))) (v1 := .agg (arrK .u64 4 (wd y))) (v2 := .agg (arrK .u64 4 (wd 1))) (v3 := .agg (arrK .u64 4 (wd m))) rfl (by go_simp) (by go_simp) (by go_simp) (by go_simp) (build_qd _ _ _ _ _) (hk.out _ (Below.refl _ _))
  · refine one_q (one_write rfl rfl fun aa ω κ hb hu hc hr hK => ?_)
    have h2 : aa.tmps[2]?.getD undef = .pointer (some ⟨w.heap.size + 1, 0, none⟩) := (hu 2 rfl).trans e2
    have h13 : aa.tmps[13]?.getD undef = .agg (arrK .u64 16 (cat4 (wd x) (wd y) (wd 1) (wd m))) := hc 10 13 rfl rfl
    have hk := Lib.hid hK
    clear hK hu hc
    have hcc := hcq
    go_simp
    exact hk.out undef
  · intro a1 w1 hb1 hu1 hsz1 hdf1 hv1
    have ha0 := hha0.out
    subst ha0
    have he := act_patch (n := 14) [false, false, false, true, true, true, true, true, true, true, true, true, true, true] rfl (by kernel_rfl) hu1 hsz1 hdf1
    simp only [patch, cond_true, cond_false, Nat.reduceAdd] at he
    have hXz := (At.put (k := .u64) (f := (cat4 (wd x) (wd y) (wd 1) (wd m))) hR.out).below hb1 (by simpa using hR.out.lt)
    have hLz := Lib.hid (Below.trans (below_setRow (c := arrK .u64 16 (cat4 (wd x) (wd y) (wd 1) (wd m))) hL.out (by omega)) (hb1.mono (by simpa using hL.out.size)))
    clear hR hL hA hM
    clear hb1 hu1 hsz1 hdf1 hv1 hz0 hha0 e1 e2
    rw [he]
    clear he
    generalize a1.tmps[3]?.getD undef = x3 at *
    generalize a1.tmps[4]?.getD undef = x4 at *
    generalize a1.tmps[5]?.getD undef = x5 at *
    generalize a1.tmps[6]?.getD undef = x6 at *
    generalize a1.tmps[7]?.getD undef = x7 at *
    generalize a1.tmps[8]?.getD undef = x8 at *
    generalize a1.tmps[9]?.getD undef = x9 at *
    generalize a1.tmps[10]?.getD undef = x10 at *
    generalize a1.tmps[11]?.getD undef = x11 at *
    generalize a1.tmps[12]?.getD undef = x12 at *
    generalize a1.tmps[13]?.getD undef = x13 at *
    go_wp2_with fail
    refine ret_row (p := 2) (ty := 216) (g := (w.heap.size + 1)) rfl Tryd.underlying216 rfl (by kernel_rfl) rfl hXz.row rfl ?_
    rw [hXz.eq]
    exact ⟨rfl, hLz.out⟩
theorem quad_point (x y z t : Nat) (w : World) (hx : x < 2 ^ 256) (hy : y < 2 ^ 256) (hz : z < 2 ^ 256) : Calls Tryd.prog 148 #[quadV x y z t] w fun e w' => e = .returned (ptV (x * invP z % fP) (y * invP z % fP)) ∧ Below w.heap.size w w' := by
  have hi : invP z < 2 ^ 256 := Nat.lt_trans lt_P P_lt
  have hI := Lib.hid (fun V => field_Inv z V hz)
  obtain ⟨i, hi'⟩ : ∃ i, invP z = i := ⟨_, rfl⟩
  rw [hi'] at hI hi ⊢
  have hM1 := Lib.hid (fun V => field_Mul x i V hx hi)
  have hM2 := Lib.hid (fun V => field_Mul y i V hy hi)
  obtain ⟨a, ha⟩ : ∃ m, x * i % fP = m := ⟨_, rfl⟩
  obtain ⟨b, hb⟩ : ∃ m, y * i % fP = m := ⟨_, rfl⟩
  rw [ha] at hM1 ⊢
  rw [hb] at hM2 ⊢
  clear ha hb hx hy hz hi' hi
  unfold numV at hM1 hM2 hI
  unfold ptV quadV
  have hcq := arrK_cells .u64 8 (cat2 (wd a) (wd b))
  have hci := arrK_cells .u64 4 (wd i)
  have hc0 := arrK_cells .u64 4 (wd 0)
  have hcz := arrK_cells .u64 8 (cat2 (wd 0) (wd 0))
  have hL0 : Below w.heap.size w ((w.alloc (Obj.cells (arrK .u64 16 (cat4 (wd x) (wd y) (wd z) (wd t))) 216)).alloc (Obj.cells (arrK .u64 8 (cat2 (wd 0) (wd 0))) 133)) := by go_grown
  have hA0 : At ((w.alloc (Obj.cells (arrK .u64 16 (cat4 (wd x) (wd y) (wd z) (wd t))) 216)).alloc (Obj.cells (arrK .u64 8 (cat2 (wd 0) (wd 0))) 133)) w.heap.size .u64 16 (cat4 (wd x) (wd y) (wd z) (wd t)) := (At.new _ rfl).old _
  have hR0 : Row ((w.alloc (Obj.cells (arrK .u64 16 (cat4 (wd x) (wd y) (wd z) (wd t))) 216)).alloc (Obj.cells (arrK .u64 8 (cat2 (wd 0) (wd 0))) 133)) (w.heap.size + 1) 8 := (At.new (k := .u64) (f := cat2 (wd 0) (wd 0)) _ (by simp)).row
  have hL := Lib.hid hL0
  have hR := Lib.hid hR0
  have hA := Lib.hid hA0
  clear hL0 hR0 hA0
  go_enter Tryd.func148, Tryd.ntmps148
  go_upto_region 1 with (fail)
  generalize (w.alloc _).alloc _ = W0 at *
  have hl1 := (qd_2 hA.out).1
  have hl2 := (qd_2 hA.out).2
  go_upto_region 2 with (fail)
  refine (hI.out _).mono ?_
  rintro e w2 ⟨rfl, hb2⟩
  have hA2 := hA.out.step hb2
  have hR2 := row_below hR.out hb2 hR.out.lt
  have hL2 := below_step hb2 hL.out (Nat.le_refl _)
  have hlt : w.heap.size + 1 < w2.heap.size := hR2.lt
  clear hl1 hl2 hA hR hL hb2 hI
  have hA := Lib.hid (hA2.old (Obj.cells (arrK .u64 4 (wd i)) 41))
  have hR := Lib.hid ((row_old (o := Obj.cells (arrK .u64 4 (wd i)) 41) hR2.lt).2 hR2)
  have hL := Lib.hid (Below.trans hL2 ((below_alloc w2 (Obj.cells (arrK .u64 4 (wd i)) 41)).mono hL2.size))
  have hX := Lib.hid (At.new (w := w2) (k := .u64) (m := 4) (f := wd i) 41 rfl)
  clear hA2 hR2 hL2
  dsimp only
  go_upto_region 2 with (fail)
  obtain ⟨g, hg⟩ : ∃ g, w2.heap.size = g := ⟨_, rfl⟩
  rw [hg] at hX hlt ⊢
  clear hg
  generalize w2.alloc _ = W1 at *
  generalize ha0 : Act.mk _ _ = a0
  have e1 : a0.tmps[1]?.getD undef = .pointer (some ⟨w.heap.size, 0, none⟩) := by rw [← ha0]; rfl
  have e2 : a0.tmps[2]?.getD undef = .pointer (some ⟨w.heap.size + 1, 0, none⟩) := by rw [← ha0]; rfl
  have e3 : a0.tmps[3]?.getD undef = .pointer (some ⟨g, 0, none⟩) := by rw [← ha0]; rfl
  have hz0 : a0.tmps.size = 16 := by rw [← ha0]; rfl
  have hha0 := Lib.hid ha0
  clear ha0
  refine wp_region_one (fun jx_ => match jx_ with | 0 => some (.pointer (some ⟨w.heap.size, 0, none⟩)) | 1 => some (.agg (arrK .u64 4 (wd x))) | 2 => some (.agg (arrK .u64 4 (wd i))) | 3 => some (.agg (arrK .u64 4 (wd a))) | 4 => some (.pointer (some ⟨w.heap.size, 4, none⟩)) | 5 => some (.agg (arrK .u64 4 (wd y))) | 6 => some (.agg (arrK .u64 4 (wd i))) | 7 => some (.agg (arrK .u64 4 (wd b))) | 8 => some (.agg (arrK .u64 8 (cat2 (wd a) (wd b)))) | _ => none) 9 ((w.heap.size + 1)) 8 (arrK .u64 8 (cat2 (wd a) (wd b))) (by kernel_rfl) (by kernel_rfl) (by kernel_rfl) (slotsOk_of hz0 (by kernel_rfl)) (of_decide_eq_true (by kernel_rfl)) hR.out ⟨?_, ?_, ?_, ?_, ?_, ?_, ?_, ?_, ?_, ?_, trivial⟩ ?_
  · refine one_before (by decide) (by kernel_rfl) (calm_step rfl fun aa ω κ hb hu hc hK => ?_)
    have h1 : aa.tmps[1]?.getD undef = .pointer (some ⟨w.heap.size, 0, none⟩) := (hu 1 rfl).trans e1
    have hk := Lib.hid (fun w1 (h : Below ω.heap.size ω w1) => hK (.pointer (some ⟨w.heap.size, 0, none⟩)) w1 rfl h)
    clear hK hu hc
    go_simp
    exact hk.out _ (Below.refl _ _)
  · refine one_before (by decide) (by kernel_rfl) (calm_step rfl fun aa ω κ hb hu hc hK => ?_)
    have h7 : aa.tmps[7]?.getD undef = .pointer (some ⟨w.heap.size, 0, none⟩) := hc 0 7 rfl rfl
    have hk := Lib.hid (fun w1 (h : Below ω.heap.size ω w1) => hK (.agg (arrK .u64 4 (wd x))) w1 rfl h)
    clear hK hu hc
    have hl := qd_0 (hA.out.step hb)
    have hl1 := hl.1
    have hl2 := hl.2
    go_simp
    exact hk.out _ (Below.refl _ _)
  · refine one_before (by decide) (by kernel_rfl) (calm_step rfl fun aa ω κ hb hu hc hK => ?_)
    have h3 : aa.tmps[3]?.getD undef = .pointer (some ⟨g, 0, none⟩) := (hu 3 rfl).trans e3
    have hk := Lib.hid (fun w1 (h : Below ω.heap.size ω w1) => hK (.agg (arrK .u64 4 (wd i))) w1 rfl h)
    clear hK hu hc
    have hr1 := (hX.out.step hb).row
    have hr2 := (hX.out.step hb).eq
    go_simp
    exact hk.out _ (Below.refl _ _)
  · refine one_before (by decide) (by kernel_rfl) (calm_step rfl fun aa ω κ hb hu hc hK => ?_)
    have h8 : aa.tmps[8]?.getD undef = .agg (arrK .u64 4 (wd x)) := hc 1 8 rfl rfl
    have h9 : aa.tmps[9]?.getD undef = .agg (arrK .u64 4 (wd i)) := hc 2 9 rfl rfl
    have hk := Lib.hid (fun w1 (h : Below ω.heap.size ω w1) => hK (.agg (arrK .u64 4 (wd a))) w1 rfl h)
    clear hK hu hc
    go_simp
    go_at_call 165
    refine (hM1.out _).mono ?_
    rintro e w1 ⟨rfl, hb1⟩
    exact hk.out _ hb1
  · refine one_before (by decide) (by kernel_rfl) (calm_step rfl fun aa ω κ hb hu hc hK => ?_)
    have h1 : aa.tmps[1]?.getD undef = .pointer (some ⟨w.heap.size, 0, none⟩) := (hu 1 rfl).trans e1
    have hk := Lib.hid (fun w1 (h : Below ω.heap.size ω w1) => hK (.pointer (some ⟨w.heap.size, 4, none⟩)) w1 rfl h)
    clear hK hu hc
    go_simp
    exact hk.out _ (Below.refl _ _)
  · refine one_before (by decide) (by kernel_rfl) (calm_step rfl fun aa ω κ hb hu hc hK => ?_)
    have h11 : aa.tmps[11]?.getD undef = .pointer (some ⟨w.heap.size, 4, none⟩) := hc 4 11 rfl rfl
    have hk := Lib.hid (fun w1 (h : Below ω.heap.size ω w1) => hK (.agg (arrK .u64 4 (wd y))) w1 rfl h)
    clear hK hu hc
    have hl := qd_1 (hA.out.step hb)
    have hl1 := hl.1
    have hl2 := hl.2
    go_simp
    exact hk.out _ (Below.refl _ _)
  · refine one_before (by decide) (by kernel_rfl) (calm_step rfl fun aa ω κ hb hu hc hK => ?_)
    have h3 : aa.tmps[3]?.getD undef = .pointer (some ⟨g, 0, none⟩) := (hu 3 rfl).trans e3
    have hk := Lib.hid (fun w1 (h : Below ω.heap.size ω w1) => hK (.agg (arrK .u64 4 (wd i))) w1 rfl h)
    clear hK hu hc
    have hr1 := (hX.out.step hb).row
    have hr2 := (hX.out.step hb).eq
    go_simp
    exact hk.out _ (Below.refl _ _)
  · refine one_before (by decide) (by kernel_rfl) (calm_step rfl fun aa ω κ hb hu hc hK => ?_)
    have h12 : aa.tmps[12]?.getD undef = .agg (arrK .u64 4 (wd y)) := hc 5 12 rfl rfl
    have h13 : aa.tmps[13]?.getD undef = .agg (arrK .u64 4 (wd i)) := hc 6 13 rfl rfl
    have hk := Lib.hid (fun w1 (h : Below ω.heap.size ω w1) => hK (.agg (arrK .u64 4 (wd b))) w1 rfl h)
    clear hK hu hc
    go_simp
    go_at_call 165
    refine (hM2.out _).mono ?_
    rintro e w1 ⟨rfl, hb1⟩
    exact hk.out _ hb1
  · refine one_before (by decide) (by kernel_rfl) (calm_step rfl fun aa ω κ hb hu hc hK => ?_)
    have h10 : aa.tmps[10]?.getD undef = .agg (arrK .u64 4 (wd a)) := hc 3 10 rfl rfl
    have h14 : aa.tmps[14]?.getD undef = .agg (arrK .u64 4 (wd b)) := hc 7 14 rfl rfl
    have hk := Lib.hid (fun w1 (h : Below ω.heap.size ω w1) => hK (.agg (arrK .u64 8 (cat2 (wd a) (wd b)))) w1 rfl h)
    clear hK hu hc
    exact wp_bldB (v0 := .agg (arrK .u64 4 (wd a))) (v1 := .agg (arrK .u64 4 (wd b))) rfl (by go_simp) (by go_simp) (build_pt _ _ _) (hk.out _ (Below.refl _ _))
  · refine one_q (one_write rfl rfl fun aa ω κ hb hu hc hr hK => ?_)
    have h2 : aa.tmps[2]?.getD undef = .pointer (some ⟨w.heap.size + 1, 0, none⟩) := (hu 2 rfl).trans e2
    have h15 : aa.tmps[15]?.getD undef = .agg (arrK .u64 8 (cat2 (wd a) (wd b))) := hc 8 15 rfl rfl
    have hk := Lib.hid hK
    clear hK hu hc
    have hcc := hcq
    go_simp
    exact hk.out undef
  · intro a1 w1 hb1 hu1 hsz1 hdf1 hv1
    have ha0 := hha0.out
    subst ha0
    have he := act_patch (n := 16) [false, false, false, false, false, false, false, true, true, true, true, true, true, true, true, true] rfl (by kernel_rfl) hu1 hsz1 hdf1
    simp only [patch, cond_true, cond_false, Nat.reduceAdd] at he
    have hXz := (At.put (k := .u64) (f := (cat2 (wd a) (wd b))) hR.out).below hb1 (by simpa using hR.out.lt)
    have hLz := Lib.hid (Below.trans (below_setRow (c := arrK .u64 8 (cat2 (wd a) (wd b))) hL.out (by omega)) (hb1.mono (by simpa using hL.out.size)))
    clear hR hL hA hM1 hM2 hX
    clear hb1 hu1 hsz1 hdf1 hv1 hz0 hha0 e1 e2 e3
    rw [he]
    clear he
    generalize a1.tmps[7]?.getD undef = x7 at *
    generalize a1.tmps[8]?.getD undef = x8 at *
    generalize a1.tmps[9]?.getD undef = x9 at *
    generalize a1.tmps[10]?.getD undef = x10 at *
    generalize a1.tmps[11]?.getD undef = x11 at *
    generalize a1.tmps[12]?.getD undef = x12 at *
    generalize a1.tmps[13]?.getD undef = x13 at *
    generalize a1.tmps[14]?.getD undef = x14 at *
    generalize a1.tmps[15]?.getD undef = x15 at *
    go_wp2_with fail
    refine ret_row (p := 2) (ty := 133) (g := (w.heap.size + 1)) rfl Tryd.underlying133 rfl (by kernel_rfl) rfl hXz.row rfl ?_
    rw [hXz.eq]
    exact ⟨rfl, hLz.out⟩
end Go.Proofs.YtgdiokklfihfoaaDoor
