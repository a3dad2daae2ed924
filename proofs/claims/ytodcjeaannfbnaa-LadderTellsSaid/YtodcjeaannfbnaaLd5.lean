/- Contract of package ladder: Of. -/
import Derived.Test.YtodcjeaannfbnaaLd2
namespace Go.Proofs.Ytodcjeaannfbnaa
open Go.ChangeShapes Go.WideShapes Go.ChangeAt Go.RowKit
set_option maxHeartbeats 2000000
set_option maxRecDepth 100000
attribute [local go_sem ↓] load_fld load_num store_num execl_num execs_num load_pr store_pr execl_pr execs_pr load_pt store_pt
attribute [local go_sem] isHead_mk blkOf_mk isAgg_mk cellsV_mk row_drew rowAt_drew row_new_cells row_old rowAt_new rowAt_old setRow_new zeroNum zeroPt
theorem ladder_Of (x y : Nat) (w : World) (hx : x < 2 ^ 256) (hy : y < 2 ^ 256) : Calls Try.prog 41 #[ptV x y] w fun e w' => e = .returned (bif onB x y then .tuple #[numV ((1 + y) % fP * invP (difP 1 y) % fP), .int .i64 0] else .tuple #[numV 0, .int .i64 1]) ∧ Below w.heap.size w w' := by
  have h1l : 1 < 2 ^ 256 := by decide +kernel
  have kO := Lib.hid (fun V => curve_On x y V hx hy)
  have kA := Lib.hid (fun V => field_Add 1 y V h1l hy)
  have kS := Lib.hid (fun V => field_Sub 1 y V h1l hy)
  have kI := Lib.hid (fun V => field_Inv (difP 1 y) V dif_low)
  have kM := Lib.hid (fun V => field_Mul ((1 + y) % fP) (invP (difP 1 y)) V low_lt low_lt)
  obtain ⟨b, hb⟩ : ∃ b, onB x y = b := ⟨_, rfl⟩
  rw [hb] at kO ⊢
  obtain ⟨s, hs⟩ : ∃ d, (1 + y) % fP = d := ⟨_, rfl⟩
  rw [hs] at kA kM ⊢
  obtain ⟨d, hd⟩ : ∃ d, difP 1 y = d := ⟨_, rfl⟩
  rw [hd] at kS kI kM ⊢
  obtain ⟨i, hi⟩ : ∃ v, invP d = v := ⟨_, rfl⟩
  rw [hi] at kI kM ⊢
  obtain ⟨r, hr⟩ : ∃ d, s * i % fP = d := ⟨_, rfl⟩
  rw [hr] at kM ⊢
  clear hr hi hd hs hb hx hy h1l
  unfold numV at kA kS kI kM ⊢
  unfold ptV at kO ⊢
  have hc0 := arrK_cells .u64 4 (wd 0)
  have hc1 := arrK_cells .u64 4 (wd 1)
  have hcr := arrK_cells .u64 4 (wd r)
  have hL0 : Below w.heap.size w ((w.alloc (Obj.cells (arrK .u64 8 (cat2 (wd x) (wd y))) 42)).alloc (Obj.cells (arrK .u64 4 (wd 0)) 24)) := by go_grown
  have hA0 : At ((w.alloc (Obj.cells (arrK .u64 8 (cat2 (wd x) (wd y))) 42)).alloc (Obj.cells (arrK .u64 4 (wd 0)) 24)) w.heap.size .u64 8 (cat2 (wd x) (wd y)) := (At.new _ rfl).old _
  have hR0 : Row ((w.alloc (Obj.cells (arrK .u64 8 (cat2 (wd x) (wd y))) 42)).alloc (Obj.cells (arrK .u64 4 (wd 0)) 24)) (w.heap.size + 1) 4 := (At.new (k := .u64) (f := wd 0) _ (by simp)).row
  have hL := Lib.hid hL0
  have hA := Lib.hid hA0
  have hR := Lib.hid hR0
  clear hL0 hA0 hR0
  go_enter Try.func41, Try.ntmps41
  go_upto_region 1 with (fail)
  generalize (w.alloc _).alloc _ = W0 at *
  have hr1 := hA.out.row
  have hr2 := hA.out.eq
  go_wp2_with fail
  refine (kO.out _).mono ?_
  rintro e w2 ⟨rfl, hbz⟩
  replace hA := Lib.hid (hA.out.step hbz)
  replace hR := Lib.hid (row_below hR.out hbz hR.out.lt)
  replace hL := Lib.hid (below_step hbz hL.out (Nat.le_refl _))
  clear hr1 hr2 hbz kO
  dsimp only
  cases b with
  | false =>
    have hrR := hR.out
    go_wp2_with fail
    exact ret_stored2 (p := 2) (q := 3) (ty := 24) (g := w.heap.size + 1) (n := 4) (c := arrK .u64 4 (wd 0)) rfl Try.underlying24 rfl (by kernel_rfl) rfl hrR hc0.1 rfl ⟨rfl, below_setRow hL.out (by omega)⟩
  | true =>
    have hlt := hR.out.lt
    have hA2 := Lib.hid (hA.out.old (Obj.cells (arrK .u64 4 (wd 1)) 24))
    have hR2 := Lib.hid ((row_old (o := Obj.cells (arrK .u64 4 (wd 1)) 24) hR.out.lt).2 hR.out)
    have hL2 := Lib.hid (Below.trans hL.out ((below_alloc w2 (Obj.cells (arrK .u64 4 (wd 1)) 24)).mono hL.out.size))
    have hX4 := Lib.hid (At.new (w := w2) (k := .u64) (m := 4) (f := wd 1) 24 rfl)
    clear hA hR hL
    have hA := hA2
    have hR := hR2
    have hL := hL2
    clear hA2 hR2 hL2
    go_upto_region 4 with (refine wpList_bldA (vx := Value.int IntKind.u64 (1 : Int)) rfl rfl rfl (build_one _) ?_)
    obtain ⟨g4, hg⟩ : ∃ g, w2.heap.size = g := ⟨_, rfl⟩
    rw [hg] at hX4 hlt ⊢
    clear hg
    generalize w2.alloc _ = W2 at *
    generalize ha0 : Act.mk _ _ = a0
    have e1 : a0.tmps[1]?.getD undef = .pointer (some ⟨w.heap.size, 0, none⟩) := by rw [← ha0]; rfl
    have e2 : a0.tmps[2]?.getD undef = .pointer (some ⟨w.heap.size + 1, 0, none⟩) := by rw [← ha0]; rfl
    have e4 : a0.tmps[4]?.getD undef = .pointer (some ⟨g4, 0, none⟩) := by rw [← ha0]; rfl
    have hz0 : a0.tmps.size = 20 := by rw [← ha0]; rfl
    have hha0 := Lib.hid ha0
    clear ha0
    refine wp_region_one (fun jx_ => match jx_ with | 0 => some (.agg (arrK .u64 4 (wd 1))) | 1 => some (.pointer (some ⟨w.heap.size, 4, none⟩)) | 2 => some (.agg (arrK .u64 4 (wd y))) | 3 => some (.agg (arrK .u64 4 (wd s))) | 4 => some (.agg (arrK .u64 4 (wd 1))) | 5 => some (.pointer (some ⟨w.heap.size, 4, none⟩)) | 6 => some (.agg (arrK .u64 4 (wd y))) | 7 => some (.agg (arrK .u64 4 (wd d))) | 8 => some (.agg (arrK .u64 4 (wd i))) | 9 => some (.agg (arrK .u64 4 (wd r))) | 11 => some ( (Value.int IntKind.i64 0)) | _ => none) 10 ((w.heap.size + 1)) 4 (arrK .u64 4 (wd r)) (by kernel_rfl) (by kernel_rfl) (by kernel_rfl) (slotsOk_of hz0 (by kernel_rfl)) (of_decide_eq_true (by kernel_rfl)) hR.out ⟨?_, ?_, ?_, ?_, ?_, ?_, ?_, ?_, ?_, ?_, ?_, ?_, trivial⟩ ?_
    · refine one_before (by decide) (by kernel_rfl) (calm_step rfl fun aa ω κ hb hu hc hK => ?_)
      have h4 : aa.tmps[4]?.getD undef = .pointer (some ⟨g4, 0, none⟩) := (hu 4 rfl).trans e4
      have hk := Lib.hid (fun w1 (h : Below ω.heap.size ω w1) => hK (.agg (arrK .u64 4 (wd 1))) w1 rfl h)
      clear hK hu hc
      have hr1 := (hX4.out.step hb).row
      have hr2 := (hX4.out.step hb).eq
      go_simp
      exact hk.out _ (Below.refl _ _)
    · refine one_before (by decide) (by kernel_rfl) (calm_step rfl fun aa ω κ hb hu hc hK => ?_)
      have h1 : aa.tmps[1]?.getD undef = .pointer (some ⟨w.heap.size, 0, none⟩) := (hu 1 rfl).trans e1
      have hk := Lib.hid (fun w1 (h : Below ω.heap.size ω w1) => hK (.pointer (some ⟨w.heap.size, 4, none⟩)) w1 rfl h)
      clear hK hu hc
      go_simp
      exact hk.out _ (Below.refl _ _)
    · refine one_before (by decide) (by kernel_rfl) (calm_step rfl fun aa ω κ hb hu hc hK => ?_)
      have h11 : aa.tmps[11]?.getD undef = .pointer (some ⟨w.heap.size, 4, none⟩) := hc 1 11 rfl rfl
      have hk := Lib.hid (fun w1 (h : Below ω.heap.size ω w1) => hK (.agg (arrK .u64 4 (wd y))) w1 rfl h)
      clear hK hu hc
      have hl := pt_1 (hA.out.step hb)
      have hl1 := hl.1
      have hl2 := hl.2
      go_simp
      exact hk.out _ (Below.refl _ _)
    · refine one_before (by decide) (by kernel_rfl) (calm_step rfl fun aa ω κ hb hu hc hK => ?_)
      have h10 : aa.tmps[10]?.getD undef = .agg (arrK .u64 4 (wd 1)) := hc 0 10 rfl rfl
      have h12 : aa.tmps[12]?.getD undef = .agg (arrK .u64 4 (wd y)) := hc 2 12 rfl rfl
      have hk := Lib.hid (fun w1 (h : Below ω.heap.size ω w1) => hK (.agg (arrK .u64 4 (wd s))) w1 rfl h)
      clear hK hu hc
      go_simp
      go_at_call 20
      refine (kA.out _).mono ?_
      rintro e w1 ⟨rfl, hb1⟩
      exact hk.out _ hb1
    · refine one_before (by decide) (by kernel_rfl) (calm_step rfl fun aa ω κ hb hu hc hK => ?_)
      have h4 : aa.tmps[4]?.getD undef = .pointer (some ⟨g4, 0, none⟩) := (hu 4 rfl).trans e4
      have hk := Lib.hid (fun w1 (h : Below ω.heap.size ω w1) => hK (.agg (arrK .u64 4 (wd 1))) w1 rfl h)
      clear hK hu hc
      have hr1 := (hX4.out.step hb).row
      have hr2 := (hX4.out.step hb).eq
      go_simp
      exact hk.out _ (Below.refl _ _)
    · refine one_before (by decide) (by kernel_rfl) (calm_step rfl fun aa ω κ hb hu hc hK => ?_)
      have h1 : aa.tmps[1]?.getD undef = .pointer (some ⟨w.heap.size, 0, none⟩) := (hu 1 rfl).trans e1
      have hk := Lib.hid (fun w1 (h : Below ω.heap.size ω w1) => hK (.pointer (some ⟨w.heap.size, 4, none⟩)) w1 rfl h)
      clear hK hu hc
      go_simp
      exact hk.out _ (Below.refl _ _)
    · refine one_before (by decide) (by kernel_rfl) (calm_step rfl fun aa ω κ hb hu hc hK => ?_)
      have h15 : aa.tmps[15]?.getD undef = .pointer (some ⟨w.heap.size, 4, none⟩) := hc 5 15 rfl rfl
      have hk := Lib.hid (fun w1 (h : Below ω.heap.size ω w1) => hK (.agg (arrK .u64 4 (wd y))) w1 rfl h)
      clear hK hu hc
      have hl := pt_1 (hA.out.step hb)
      have hl1 := hl.1
      have hl2 := hl.2
      go_simp
      exact hk.out _ (Below.refl _ _)
    · refine one_before (by decide) (by kernel_rfl) (calm_step rfl fun aa ω κ hb hu hc hK => ?_)
      have h14 : aa.tmps[14]?.getD undef = .agg (arrK .u64 4 (wd 1)) := hc 4 14 rfl rfl
      have h16 : aa.tmps[16]?.getD undef = .agg (arrK .u64 4 (wd y)) := hc 6 16 rfl rfl
      have hk := Lib.hid (fun w1 (h : Below ω.heap.size ω w1) => hK (.agg (arrK .u64 4 (wd d))) w1 rfl h)
      clear hK hu hc
      go_simp
      go_at_call 22
      refine (kS.out _).mono ?_
      rintro e w1 ⟨rfl, hb1⟩
      exact hk.out _ hb1
    · refine one_before (by decide) (by kernel_rfl) (calm_step rfl fun aa ω κ hb hu hc hK => ?_)
      have h17 : aa.tmps[17]?.getD undef = .agg (arrK .u64 4 (wd d)) := hc 7 17 rfl rfl
      have hk := Lib.hid (fun w1 (h : Below ω.heap.size ω w1) => hK (.agg (arrK .u64 4 (wd i))) w1 rfl h)
      clear hK hu hc
      go_simp
      go_at_call 26
      refine (kI.out _).mono ?_
      rintro e w1 ⟨rfl, hb1⟩
      exact hk.out _ hb1
    · refine one_before (by decide) (by kernel_rfl) (calm_step rfl fun aa ω κ hb hu hc hK => ?_)
      have h13 : aa.tmps[13]?.getD undef = .agg (arrK .u64 4 (wd s)) := hc 3 13 rfl rfl
      have h18 : aa.tmps[18]?.getD undef = .agg (arrK .u64 4 (wd i)) := hc 8 18 rfl rfl
      have hk := Lib.hid (fun w1 (h : Below ω.heap.size ω w1) => hK (.agg (arrK .u64 4 (wd r))) w1 rfl h)
      clear hK hu hc
      go_simp
      go_at_call 24
      refine (kM.out _).mono ?_
      rintro e w1 ⟨rfl, hb1⟩
      exact hk.out _ hb1
    · refine one_q (one_write rfl rfl fun aa ω κ hb hu hc hr hK => ?_)
      have h2 : aa.tmps[2]?.getD undef = .pointer (some ⟨w.heap.size + 1, 0, none⟩) := (hu 2 rfl).trans e2
      have h19 : aa.tmps[19]?.getD undef = .agg (arrK .u64 4 (wd r)) := hc 9 19 rfl rfl
      have hk := Lib.hid hK
      clear hK hu hc
      have hcc := hcr
      go_simp
      exact hk.out undef
    · refine one_free (by decide) fun W_ => calm_step rfl fun aa ω κ hb hu hc hK => ?_
      have hk := Lib.hid (fun w1 (h : Below ω.heap.size ω w1) => hK ( (Value.int IntKind.i64 0)) w1 rfl h)
      clear hK hu hc
      go_simp
      exact hk.out _ (Below.refl _ _)
    · intro a1 w1 hb1 hu1 hsz1 hdf1 hv1
      have ha0 := hha0.out
      subst ha0
      have he := act_patch (n := 20) [false, false, false, true, false, false, false, false, false, false, true, true, true, true, true, true, true, true, true, true] rfl (by kernel_rfl) hu1 hsz1 hdf1
      simp only [patch, cond_true, cond_false, Nat.reduceAdd] at he
      have hXz := (At.put (k := .u64) (f := (wd r)) hR.out).below hb1 (by simpa using hR.out.lt)
      have hLz := Lib.hid (Below.trans (below_setRow (c := arrK .u64 4 (wd r)) hL.out (by omega)) (hb1.mono (by simpa using hL.out.size)))
      clear hR hL hA hX4 kA kS kI kM
      have h3 : a1.tmps[3]?.getD undef = .int .i64 0 := hv1 11 3 (by decide) rfl
      clear hb1 hu1 hsz1 hdf1 hv1 hz0 hha0 e1 e2 e4
      rw [he]
      clear he
      generalize a1.tmps[3]?.getD undef = x3 at *
      generalize a1.tmps[10]?.getD undef = x10 at *
      generalize a1.tmps[11]?.getD undef = x11 at *
      generalize a1.tmps[12]?.getD undef = x12 at *
      generalize a1.tmps[13]?.getD undef = x13 at *
      generalize a1.tmps[14]?.getD undef = x14 at *
      generalize a1.tmps[15]?.getD undef = x15 at *
      generalize a1.tmps[16]?.getD undef = x16 at *
      generalize a1.tmps[17]?.getD undef = x17 at *
      generalize a1.tmps[18]?.getD undef = x18 at *
      generalize a1.tmps[19]?.getD undef = x19 at *
      have hx3 : x3 = .int .i64 0 := h3
      subst hx3
      go_wp2_with fail
      refine ret_row2c (p := 2) (q := 3) (ty := 24) (g := w.heap.size + 1) (n := 4) rfl Try.underlying24 rfl (by kernel_rfl) rfl hXz.row rfl ?_
      rw [hXz.eq]
      exact ⟨rfl, hLz.out⟩
end Go.Proofs.Ytodcjeaannfbnaa
