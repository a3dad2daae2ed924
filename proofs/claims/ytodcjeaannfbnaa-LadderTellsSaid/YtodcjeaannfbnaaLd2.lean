/- Contracts of package ladder: swapped, Ladder. -/
import Derived.Test.YtodcjeaannfbnaaLd1
namespace Go.Proofs.Ytodcjeaannfbnaa
open Go.ChangeShapes Go.WideShapes Go.ChangeAt Go.RowKit
set_option maxHeartbeats 2000000
set_option maxRecDepth 100000
attribute [local go_sem ↓] load_fld load_num store_num execl_num execs_num load_pr store_pr execl_pr execs_pr load_pt store_pt
attribute [local go_sem] isHead_mk blkOf_mk isAgg_mk cellsV_mk row_drew rowAt_drew row_new_cells row_old rowAt_new rowAt_old setRow_new zeroNum zeroPt
theorem ret_cc {P : Program} {fn : Func} {R : Ending → World → Prop} {a : Act} {w : World} {p q : Tmp} {ty ty2 : TypeId} {g n g2 n2 : Nat} {d d2 : TypeDesc} (h : fn.results = #[.cell p ty, .cell q ty2])
    (hu : P.underlying ty = some d) (hd : (match d with | .struct _ | .array _ _ => true | _ => false) = true) (hi : (P.info? ty).map (·.size) = some n)
    (hu2 : P.underlying ty2 = some d2) (hd2 : (match d2 with | .struct _ | .array _ _ => true | _ => false) = true) (hi2 : (P.info? ty2).map (·.size) = some n2)
    (hp : a.tmps.getD p undef = .pointer (some ⟨g, 0, none⟩)) (hq : a.tmps.getD q undef = .pointer (some ⟨g2, 0, none⟩)) (hr : Row w g n) (hr2 : Row w g2 n2) (hf : a.defers = [])
    (hR : R (.returned (.tuple #[.agg (rowAt w g), .agg (rowAt w g2)])) w) : bodyPost P fn R .ret a w := by
  obtain ⟨cs, t, hg, hs⟩ := hr
  obtain ⟨cs2, t2, hg2, hs2⟩ := hr2
  have e : rowAt w g = cs := by simp [rowAt, hg]
  have e2 : rowAt w g2 = cs2 := by simp [rowAt, hg2]
  rw [e, e2] at hR
  refine bodyPost_ret ?_ hf hR
  have hp' : a.tmps[p]?.getD undef = .pointer (some ⟨g, 0, none⟩) := by simpa using hp
  have hq' : a.tmps[q]?.getD undef = .pointer (some ⟨g2, 0, none⟩) := by simpa using hq
  simp [results, h, hp', hq', asAddr, run_loadVar_row w g t ty cs (0, 0) d hg hu hd (by rw [hi, hs]), run_loadVar_row w g2 t2 ty2 cs2 (0, 0) d2 hg2 hu2 hd2 (by rw [hi2, hs2])]
theorem ladder_swapped (c a b x y n m n2 m2 : Nat) (w : World) (hc : c < 18446744073709551616) (hn : n = if c % 2 = 1 then x else a) (hm : m = if c % 2 = 1 then y else b) (hn2 : n2 = if c % 2 = 1 then a else x) (hm2 : m2 = if c % 2 = 1 then b else y) :
    Calls Try.prog 108 #[.int .u64 c, ptV a b, ptV x y] w fun e w' => e = .returned (.tuple #[ptV n m, ptV n2 m2]) ∧ Below w.heap.size w w' := by
  have k1 := Lib.hid (fun V => limb_Pick c a x n V hc hn)
  have k2 := Lib.hid (fun V => limb_Pick c b y m V hc hm)
  have k3 := Lib.hid (fun V => limb_Pick c x a n2 V hc hn2)
  have k4 := Lib.hid (fun V => limb_Pick c y b m2 V hc hm2)
  clear hc hn hm hn2 hm2
  unfold numV at k1 k2 k3 k4
  unfold ptV
  have hcr := arrK_cells .u64 8 (cat2 (wd n) (wd m))
  have hcs := arrK_cells .u64 8 (cat2 (wd n2) (wd m2))
  have hcz := arrK_cells .u64 8 (cat2 (wd 0) (wd 0))
  have hL0 : Below w.heap.size w ((((w.alloc (Obj.cells (arrK .u64 8 (cat2 (wd a) (wd b))) 130)).alloc (Obj.cells (arrK .u64 8 (cat2 (wd x) (wd y))) 130)).alloc (Obj.cells (arrK .u64 8 (cat2 (wd 0) (wd 0))) 130)).alloc (Obj.cells (arrK .u64 8 (cat2 (wd 0) (wd 0))) 130)) := by go_grown
  have hA0 : At ((((w.alloc (Obj.cells (arrK .u64 8 (cat2 (wd a) (wd b))) 130)).alloc (Obj.cells (arrK .u64 8 (cat2 (wd x) (wd y))) 130)).alloc (Obj.cells (arrK .u64 8 (cat2 (wd 0) (wd 0))) 130)).alloc (Obj.cells (arrK .u64 8 (cat2 (wd 0) (wd 0))) 130)) w.heap.size .u64 8 (cat2 (wd a) (wd b)) := ((((At.new _ rfl)).old _).old _).old _
  have hB0 : At ((((w.alloc (Obj.cells (arrK .u64 8 (cat2 (wd a) (wd b))) 130)).alloc (Obj.cells (arrK .u64 8 (cat2 (wd x) (wd y))) 130)).alloc (Obj.cells (arrK .u64 8 (cat2 (wd 0) (wd 0))) 130)).alloc (Obj.cells (arrK .u64 8 (cat2 (wd 0) (wd 0))) 130)) (w.heap.size + 1) .u64 8 (cat2 (wd x) (wd y)) := (((At.new _ (by simp))).old _).old _
  have hR0 : Row ((((w.alloc (Obj.cells (arrK .u64 8 (cat2 (wd a) (wd b))) 130)).alloc (Obj.cells (arrK .u64 8 (cat2 (wd x) (wd y))) 130)).alloc (Obj.cells (arrK .u64 8 (cat2 (wd 0) (wd 0))) 130)).alloc (Obj.cells (arrK .u64 8 (cat2 (wd 0) (wd 0))) 130)) (w.heap.size + 1 + 1) 8 := (((At.new (k := .u64) (f := cat2 (wd 0) (wd 0)) _ (by simp))).old _).row
  have hQ0 : Row ((((w.alloc (Obj.cells (arrK .u64 8 (cat2 (wd a) (wd b))) 130)).alloc (Obj.cells (arrK .u64 8 (cat2 (wd x) (wd y))) 130)).alloc (Obj.cells (arrK .u64 8 (cat2 (wd 0) (wd 0))) 130)).alloc (Obj.cells (arrK .u64 8 (cat2 (wd 0) (wd 0))) 130)) (w.heap.size + 1 + 1 + 1) 8 := (At.new (k := .u64) (f := cat2 (wd 0) (wd 0)) _ (by simp)).row
  have hL := Lib.hid hL0
  have hA := Lib.hid hA0
  have hB := Lib.hid hB0
  have hR := Lib.hid hR0
  have hQ := Lib.hid hQ0
  clear hL0 hA0 hB0 hR0 hQ0
  go_enter Try.func108, Try.ntmps108
  go_upto_region 1 with (fail)
  generalize (((w.alloc _).alloc _).alloc _).alloc _ = W0 at *
  generalize ha0 : Act.mk _ _ = a0
  have e0 : a0.tmps[0]?.getD undef = .int .u64 (c : Nat) := by rw [← ha0]; rfl
  have e4 : a0.tmps[4]?.getD undef = .pointer (some ⟨w.heap.size, 0, none⟩) := by rw [← ha0]; rfl
  have e5 : a0.tmps[5]?.getD undef = .pointer (some ⟨w.heap.size + 1, 0, none⟩) := by rw [← ha0]; rfl
  have e6 : a0.tmps[6]?.getD undef = .pointer (some ⟨w.heap.size + 1 + 1, 0, none⟩) := by rw [← ha0]; rfl
  have e7 : a0.tmps[7]?.getD undef = .pointer (some ⟨w.heap.size + 1 + 1 + 1, 0, none⟩) := by rw [← ha0]; rfl
  have hz0 : a0.tmps.size = 34 := by rw [← ha0]; rfl
  have hha0 := Lib.hid ha0
  clear ha0
  refine wp_region_two (fun jx_ => match jx_ with | 0 => some (.int .u64 (c : Nat)) | 1 => some (.pointer (some ⟨w.heap.size, 0, none⟩)) | 2 => some (.agg (arrK .u64 4 (wd a))) | 3 => some (.pointer (some ⟨w.heap.size + 1, 0, none⟩)) | 4 => some (.agg (arrK .u64 4 (wd x))) | 5 => some (.agg (arrK .u64 4 (wd n))) | 6 => some (.int .u64 (c : Nat)) | 7 => some (.pointer (some ⟨w.heap.size, 4, none⟩)) | 8 => some (.agg (arrK .u64 4 (wd b))) | 9 => some (.pointer (some ⟨w.heap.size + 1, 4, none⟩)) | 10 => some (.agg (arrK .u64 4 (wd y))) | 11 => some (.agg (arrK .u64 4 (wd m))) | 12 => some (.agg (arrK .u64 8 (cat2 (wd n) (wd m)))) | 13 => some (.int .u64 (c : Nat)) | 14 => some (.pointer (some ⟨w.heap.size + 1, 0, none⟩)) | 15 => some (.agg (arrK .u64 4 (wd x))) | 16 => some (.pointer (some ⟨w.heap.size, 0, none⟩)) | 17 => some (.agg (arrK .u64 4 (wd a))) | 18 => some (.agg (arrK .u64 4 (wd n2))) | 19 => some (.int .u64 (c : Nat)) | 20 => some (.pointer (some ⟨w.heap.size + 1, 4, none⟩)) | 21 => some (.agg (arrK .u64 4 (wd y))) | 22 => some (.pointer (some ⟨w.heap.size, 4, none⟩)) | 23 => some (.agg (arrK .u64 4 (wd b))) | 24 => some (.agg (arrK .u64 4 (wd m2))) | 25 => some (.agg (arrK .u64 8 (cat2 (wd n2) (wd m2)))) | _ => none) 26 ((w.heap.size + 1 + 1)) 8 (arrK .u64 8 (cat2 (wd n) (wd m))) 27 ((w.heap.size + 1 + 1 + 1)) 8 (arrK .u64 8 (cat2 (wd n2) (wd m2))) (by kernel_rfl) (by kernel_rfl) (by kernel_rfl) (slotsOk_of hz0 (by kernel_rfl)) (of_decide_eq_true (by kernel_rfl)) (of_decide_eq_true (by kernel_rfl)) (by decide) (by kernel_rfl) (by omega) hR.out hQ.out ⟨?_, ?_, ?_, ?_, ?_, ?_, ?_, ?_, ?_, ?_, ?_, ?_, ?_, ?_, ?_, ?_, ?_, ?_, ?_, ?_, ?_, ?_, ?_, ?_, ?_, ?_, ?_, ?_, trivial⟩ ?_
  · refine two_before (by decide) (by decide) (by kernel_rfl) (calm_step rfl fun aa ω κ hb hu hc hK => ?_)
    have h0 : aa.tmps[0]?.getD undef = .int .u64 (c : Nat) := (hu 0 rfl).trans e0
    have hk := Lib.hid (fun w1 (h : Below ω.heap.size ω w1) => hK (.int .u64 (c : Nat)) w1 rfl h)
    clear hK hu hc
    go_simp
    exact hk.out _ (Below.refl _ _)
  · refine two_before (by decide) (by decide) (by kernel_rfl) (calm_step rfl fun aa ω κ hb hu hc hK => ?_)
    have h4 : aa.tmps[4]?.getD undef = .pointer (some ⟨w.heap.size, 0, none⟩) := (hu 4 rfl).trans e4
    have hk := Lib.hid (fun w1 (h : Below ω.heap.size ω w1) => hK (.pointer (some ⟨w.heap.size, 0, none⟩)) w1 rfl h)
    clear hK hu hc
    go_simp
    exact hk.out _ (Below.refl _ _)
  · refine two_before (by decide) (by decide) (by kernel_rfl) (calm_step rfl fun aa ω κ hb hu hc hK => ?_)
    have h9 : aa.tmps[9]?.getD undef = .pointer (some ⟨w.heap.size, 0, none⟩) := hc 1 9 rfl rfl
    have hk := Lib.hid (fun w1 (h : Below ω.heap.size ω w1) => hK (.agg (arrK .u64 4 (wd a))) w1 rfl h)
    clear hK hu hc
    have hl := pt_0 (hA.out.step hb)
    have hl1 := hl.1
    have hl2 := hl.2
    go_simp
    exact hk.out _ (Below.refl _ _)
  · refine two_before (by decide) (by decide) (by kernel_rfl) (calm_step rfl fun aa ω κ hb hu hc hK => ?_)
    have h5 : aa.tmps[5]?.getD undef = .pointer (some ⟨w.heap.size + 1, 0, none⟩) := (hu 5 rfl).trans e5
    have hk := Lib.hid (fun w1 (h : Below ω.heap.size ω w1) => hK (.pointer (some ⟨w.heap.size + 1, 0, none⟩)) w1 rfl h)
    clear hK hu hc
    go_simp
    exact hk.out _ (Below.refl _ _)
  · refine two_before (by decide) (by decide) (by kernel_rfl) (calm_step rfl fun aa ω κ hb hu hc hK => ?_)
    have h11 : aa.tmps[11]?.getD undef = .pointer (some ⟨w.heap.size + 1, 0, none⟩) := hc 3 11 rfl rfl
    have hk := Lib.hid (fun w1 (h : Below ω.heap.size ω w1) => hK (.agg (arrK .u64 4 (wd x))) w1 rfl h)
    clear hK hu hc
    have hl := pt_0 (hB.out.step hb)
    have hl1 := hl.1
    have hl2 := hl.2
    go_simp
    exact hk.out _ (Below.refl _ _)
  · refine two_before (by decide) (by decide) (by kernel_rfl) (calm_step rfl fun aa ω κ hb hu hc hK => ?_)
    have h8 : aa.tmps[8]?.getD undef = .int .u64 (c : Nat) := hc 0 8 rfl rfl
    have h10 : aa.tmps[10]?.getD undef = .agg (arrK .u64 4 (wd a)) := hc 2 10 rfl rfl
    have h12 : aa.tmps[12]?.getD undef = .agg (arrK .u64 4 (wd x)) := hc 4 12 rfl rfl
    have hk := Lib.hid (fun w1 (h : Below ω.heap.size ω w1) => hK (.agg (arrK .u64 4 (wd n))) w1 rfl h)
    clear hK hu hc
    go_simp
    go_at_call 152
    refine (k1.out _).mono ?_
    rintro e w1 ⟨rfl, hb1⟩
    exact hk.out _ hb1
  · refine two_before (by decide) (by decide) (by kernel_rfl) (calm_step rfl fun aa ω κ hb hu hc hK => ?_)
    have h0 : aa.tmps[0]?.getD undef = .int .u64 (c : Nat) := (hu 0 rfl).trans e0
    have hk := Lib.hid (fun w1 (h : Below ω.heap.size ω w1) => hK (.int .u64 (c : Nat)) w1 rfl h)
    clear hK hu hc
    go_simp
    exact hk.out _ (Below.refl _ _)
  · refine two_before (by decide) (by decide) (by kernel_rfl) (calm_step rfl fun aa ω κ hb hu hc hK => ?_)
    have h4 : aa.tmps[4]?.getD undef = .pointer (some ⟨w.heap.size, 0, none⟩) := (hu 4 rfl).trans e4
    have hk := Lib.hid (fun w1 (h : Below ω.heap.size ω w1) => hK (.pointer (some ⟨w.heap.size, 4, none⟩)) w1 rfl h)
    clear hK hu hc
    go_simp
    exact hk.out _ (Below.refl _ _)
  · refine two_before (by decide) (by decide) (by kernel_rfl) (calm_step rfl fun aa ω κ hb hu hc hK => ?_)
    have h15 : aa.tmps[15]?.getD undef = .pointer (some ⟨w.heap.size, 4, none⟩) := hc 7 15 rfl rfl
    have hk := Lib.hid (fun w1 (h : Below ω.heap.size ω w1) => hK (.agg (arrK .u64 4 (wd b))) w1 rfl h)
    clear hK hu hc
    have hl := pt_1 (hA.out.step hb)
    have hl1 := hl.1
    have hl2 := hl.2
    go_simp
    exact hk.out _ (Below.refl _ _)
  · refine two_before (by decide) (by decide) (by kernel_rfl) (calm_step rfl fun aa ω κ hb hu hc hK => ?_)
    have h5 : aa.tmps[5]?.getD undef = .pointer (some ⟨w.heap.size + 1, 0, none⟩) := (hu 5 rfl).trans e5
    have hk := Lib.hid (fun w1 (h : Below ω.heap.size ω w1) => hK (.pointer (some ⟨w.heap.size + 1, 4, none⟩)) w1 rfl h)
    clear hK hu hc
    go_simp
    exact hk.out _ (Below.refl _ _)
  · refine two_before (by decide) (by decide) (by kernel_rfl) (calm_step rfl fun aa ω κ hb hu hc hK => ?_)
    have h17 : aa.tmps[17]?.getD undef = .pointer (some ⟨w.heap.size + 1, 4, none⟩) := hc 9 17 rfl rfl
    have hk := Lib.hid (fun w1 (h : Below ω.heap.size ω w1) => hK (.agg (arrK .u64 4 (wd y))) w1 rfl h)
    clear hK hu hc
    have hl := pt_1 (hB.out.step hb)
    have hl1 := hl.1
    have hl2 := hl.2
    go_simp
    exact hk.out _ (Below.refl _ _)
  · refine two_before (by decide) (by decide) (by kernel_rfl) (calm_step rfl fun aa ω κ hb hu hc hK => ?_)
    have h14 : aa.tmps[14]?.getD undef = .int .u64 (c : Nat) := hc 6 14 rfl rfl
    have h16 : aa.tmps[16]?.getD undef = .agg (arrK .u64 4 (wd b)) := hc 8 16 rfl rfl
    have h18 : aa.tmps[18]?.getD undef = .agg (arrK .u64 4 (wd y)) := hc 10 18 rfl rfl
    have hk := Lib.hid (fun w1 (h : Below ω.heap.size ω w1) => hK (.agg (arrK .u64 4 (wd m))) w1 rfl h)
    clear hK hu hc
    go_simp
    go_at_call 152
    refine (k2.out _).mono ?_
    rintro e w1 ⟨rfl, hb1⟩
    exact hk.out _ hb1
  · refine two_before (by decide) (by decide) (by kernel_rfl) (calm_step rfl fun aa ω κ hb hu hc hK => ?_)
    have h13 : aa.tmps[13]?.getD undef = .agg (arrK .u64 4 (wd n)) := hc 5 13 rfl rfl
    have h19 : aa.tmps[19]?.getD undef = .agg (arrK .u64 4 (wd m)) := hc 11 19 rfl rfl
    have hk := Lib.hid (fun w1 (h : Below ω.heap.size ω w1) => hK (.agg (arrK .u64 8 (cat2 (wd n) (wd m)))) w1 rfl h)
    clear hK hu hc
    exact wp_bldB (v0 := .agg (arrK .u64 4 (wd n))) (v1 := .agg (arrK .u64 4 (wd m))) rfl (by go_simp) (by go_simp) (build_pr _ _ _) (hk.out _ (Below.refl _ _))
  · refine two_before (by decide) (by decide) (by kernel_rfl) (calm_step rfl fun aa ω κ hb hu hc hK => ?_)
    have h0 : aa.tmps[0]?.getD undef = .int .u64 (c : Nat) := (hu 0 rfl).trans e0
    have hk := Lib.hid (fun w1 (h : Below ω.heap.size ω w1) => hK (.int .u64 (c : Nat)) w1 rfl h)
    clear hK hu hc
    go_simp
    exact hk.out _ (Below.refl _ _)
  · refine two_before (by decide) (by decide) (by kernel_rfl) (calm_step rfl fun aa ω κ hb hu hc hK => ?_)
    have h5 : aa.tmps[5]?.getD undef = .pointer (some ⟨w.heap.size + 1, 0, none⟩) := (hu 5 rfl).trans e5
    have hk := Lib.hid (fun w1 (h : Below ω.heap.size ω w1) => hK (.pointer (some ⟨w.heap.size + 1, 0, none⟩)) w1 rfl h)
    clear hK hu hc
    go_simp
    exact hk.out _ (Below.refl _ _)
  · refine two_before (by decide) (by decide) (by kernel_rfl) (calm_step rfl fun aa ω κ hb hu hc hK => ?_)
    have h22 : aa.tmps[22]?.getD undef = .pointer (some ⟨w.heap.size + 1, 0, none⟩) := hc 14 22 rfl rfl
    have hk := Lib.hid (fun w1 (h : Below ω.heap.size ω w1) => hK (.agg (arrK .u64 4 (wd x))) w1 rfl h)
    clear hK hu hc
    have hl := pt_0 (hB.out.step hb)
    have hl1 := hl.1
    have hl2 := hl.2
    go_simp
    exact hk.out _ (Below.refl _ _)
  · refine two_before (by decide) (by decide) (by kernel_rfl) (calm_step rfl fun aa ω κ hb hu hc hK => ?_)
    have h4 : aa.tmps[4]?.getD undef = .pointer (some ⟨w.heap.size, 0, none⟩) := (hu 4 rfl).trans e4
    have hk := Lib.hid (fun w1 (h : Below ω.heap.size ω w1) => hK (.pointer (some ⟨w.heap.size, 0, none⟩)) w1 rfl h)
    clear hK hu hc
    go_simp
    exact hk.out _ (Below.refl _ _)
  · refine two_before (by decide) (by decide) (by kernel_rfl) (calm_step rfl fun aa ω κ hb hu hc hK => ?_)
    have h24 : aa.tmps[24]?.getD undef = .pointer (some ⟨w.heap.size, 0, none⟩) := hc 16 24 rfl rfl
    have hk := Lib.hid (fun w1 (h : Below ω.heap.size ω w1) => hK (.agg (arrK .u64 4 (wd a))) w1 rfl h)
    clear hK hu hc
    have hl := pt_0 (hA.out.step hb)
    have hl1 := hl.1
    have hl2 := hl.2
    go_simp
    exact hk.out _ (Below.refl _ _)
  · refine two_before (by decide) (by decide) (by kernel_rfl) (calm_step rfl fun aa ω κ hb hu hc hK => ?_)
    have h21 : aa.tmps[21]?.getD undef = .int .u64 (c : Nat) := hc 13 21 rfl rfl
    have h23 : aa.tmps[23]?.getD undef = .agg (arrK .u64 4 (wd x)) := hc 15 23 rfl rfl
    have h25 : aa.tmps[25]?.getD undef = .agg (arrK .u64 4 (wd a)) := hc 17 25 rfl rfl
    have hk := Lib.hid (fun w1 (h : Below ω.heap.size ω w1) => hK (.agg (arrK .u64 4 (wd n2))) w1 rfl h)
    clear hK hu hc
    go_simp
    go_at_call 152
    refine (k3.out _).mono ?_
    rintro e w1 ⟨rfl, hb1⟩
    exact hk.out _ hb1
  · refine two_before (by decide) (by decide) (by kernel_rfl) (calm_step rfl fun aa ω κ hb hu hc hK => ?_)
    have h0 : aa.tmps[0]?.getD undef = .int .u64 (c : Nat) := (hu 0 rfl).trans e0
    have hk := Lib.hid (fun w1 (h : Below ω.heap.size ω w1) => hK (.int .u64 (c : Nat)) w1 rfl h)
    clear hK hu hc
    go_simp
    exact hk.out _ (Below.refl _ _)
  · refine two_before (by decide) (by decide) (by kernel_rfl) (calm_step rfl fun aa ω κ hb hu hc hK => ?_)
    have h5 : aa.tmps[5]?.getD undef = .pointer (some ⟨w.heap.size + 1, 0, none⟩) := (hu 5 rfl).trans e5
    have hk := Lib.hid (fun w1 (h : Below ω.heap.size ω w1) => hK (.pointer (some ⟨w.heap.size + 1, 4, none⟩)) w1 rfl h)
    clear hK hu hc
    go_simp
    exact hk.out _ (Below.refl _ _)
  · refine two_before (by decide) (by decide) (by kernel_rfl) (calm_step rfl fun aa ω κ hb hu hc hK => ?_)
    have h28 : aa.tmps[28]?.getD undef = .pointer (some ⟨w.heap.size + 1, 4, none⟩) := hc 20 28 rfl rfl
    have hk := Lib.hid (fun w1 (h : Below ω.heap.size ω w1) => hK (.agg (arrK .u64 4 (wd y))) w1 rfl h)
    clear hK hu hc
    have hl := pt_1 (hB.out.step hb)
    have hl1 := hl.1
    have hl2 := hl.2
    go_simp
    exact hk.out _ (Below.refl _ _)
  · refine two_before (by decide) (by decide) (by kernel_rfl) (calm_step rfl fun aa ω κ hb hu hc hK => ?_)
    have h4 : aa.tmps[4]?.getD undef = .pointer (some ⟨w.heap.size, 0, none⟩) := (hu 4 rfl).trans e4
    have hk := Lib.hid (fun w1 (h : Below ω.heap.size ω w1) => hK (.pointer (some ⟨w.heap.size, 4, none⟩)) w1 rfl h)
    clear hK hu hc
    go_simp
    exact hk.out _ (Below.refl _ _)
  · refine two_before (by decide) (by decide) (by kernel_rfl) (calm_step rfl fun aa ω κ hb hu hc hK => ?_)
    have h30 : aa.tmps[30]?.getD undef = .pointer (some ⟨w.heap.size, 4, none⟩) := hc 22 30 rfl rfl
    have hk := Lib.hid (fun w1 (h : Below ω.heap.size ω w1) => hK (.agg (arrK .u64 4 (wd b))) w1 rfl h)
    clear hK hu hc
    have hl := pt_1 (hA.out.step hb)
    have hl1 := hl.1
    have hl2 := hl.2
    go_simp
    exact hk.out _ (Below.refl _ _)
  · refine two_before (by decide) (by decide) (by kernel_rfl) (calm_step rfl fun aa ω κ hb hu hc hK => ?_)
    have h27 : aa.tmps[27]?.getD undef = .int .u64 (c : Nat) := hc 19 27 rfl rfl
    have h29 : aa.tmps[29]?.getD undef = .agg (arrK .u64 4 (wd y)) := hc 21 29 rfl rfl
    have h31 : aa.tmps[31]?.getD undef = .agg (arrK .u64 4 (wd b)) := hc 23 31 rfl rfl
    have hk := Lib.hid (fun w1 (h : Below ω.heap.size ω w1) => hK (.agg (arrK .u64 4 (wd m2))) w1 rfl h)
    clear hK hu hc
    go_simp
    go_at_call 152
    refine (k4.out _).mono ?_
    rintro e w1 ⟨rfl, hb1⟩
    exact hk.out _ hb1
  · refine two_free (by decide) (by decide) fun W_ => calm_step rfl fun aa ω κ hb hu hc hK => ?_
    have h26 : aa.tmps[26]?.getD undef = .agg (arrK .u64 4 (wd n2)) := hc 18 26 rfl rfl
    have h32 : aa.tmps[32]?.getD undef = .agg (arrK .u64 4 (wd m2)) := hc 24 32 rfl rfl
    have hk := Lib.hid (fun w1 (h : Below ω.heap.size ω w1) => hK (.agg (arrK .u64 8 (cat2 (wd n2) (wd m2)))) w1 rfl h)
    clear hK hu hc
    exact wp_bldB (v0 := .agg (arrK .u64 4 (wd n2))) (v1 := .agg (arrK .u64 4 (wd m2))) rfl (by go_simp) (by go_simp) (build_pr _ _ _) (hk.out _ (Below.refl _ _))
  · refine two_q1 (one_write rfl rfl fun aa ω κ hb hu hc hr hK => ?_)
    have h6 : aa.tmps[6]?.getD undef = .pointer (some ⟨w.heap.size + 1 + 1, 0, none⟩) := (hu 6 rfl).trans e6
    have h20 : aa.tmps[20]?.getD undef = .agg (arrK .u64 8 (cat2 (wd n) (wd m))) := hc 12 20 rfl rfl
    have hk := Lib.hid hK
    clear hK hu hc
    have hcc := hcr
    go_simp
    exact hk.out undef
  · refine two_q2 (by decide) (one_write rfl rfl fun aa ω κ hb hu hc hr hK => ?_)
    have h7 : aa.tmps[7]?.getD undef = .pointer (some ⟨w.heap.size + 1 + 1 + 1, 0, none⟩) := (hu 7 rfl).trans e7
    have h33 : aa.tmps[33]?.getD undef = .agg (arrK .u64 8 (cat2 (wd n2) (wd m2))) := hc 25 33 rfl rfl
    have hk := Lib.hid hK
    clear hK hu hc
    have hcc := hcs
    go_simp
    exact hk.out undef
  · intro a1 w1 hb1 hu1 hsz1 hdf1 hv1
    have ha0 := hha0.out
    subst ha0
    have he := act_patch (n := 34) [false, false, false, false, false, false, false, false, true, true, true, true, true, true, true, true, true, true, true, true, true, true, true, true, true, true, true, true, true, true, true, true, true, true] rfl (by kernel_rfl) hu1 hsz1 hdf1
    simp only [patch, cond_true, cond_false, Nat.reduceAdd] at he
    have hXz := ((At.put (k := .u64) (f := cat2 (wd n) (wd m)) hR.out).far (c := arrK .u64 8 (cat2 (wd n2) (wd m2))) (show w.heap.size + 1 + 1 ≠ w.heap.size + 1 + 1 + 1 by omega)).below hb1 (by simpa using hR.out.lt)
    have hYz := (At.put (w := W0.setRow (w.heap.size + 1 + 1) (arrK .u64 8 (cat2 (wd n) (wd m)))) (k := .u64) (f := cat2 (wd n2) (wd m2)) ((row_setRow_far (show w.heap.size + 1 + 1 + 1 ≠ w.heap.size + 1 + 1 by omega)).2 hQ.out)).below hb1 (by simpa using hQ.out.lt)
    have hLz := Lib.hid (Below.trans (below_setRow (c := arrK .u64 8 (cat2 (wd n2) (wd m2))) (below_setRow (c := arrK .u64 8 (cat2 (wd n) (wd m))) hL.out (show w.heap.size ≤ w.heap.size + 1 + 1 by omega)) (show w.heap.size ≤ w.heap.size + 1 + 1 + 1 by omega)) (hb1.mono (by simpa using hL.out.size)))
    clear hR hQ hL hA hB k1 k2 k3 k4
    clear hb1 hu1 hsz1 hdf1 hv1 hz0 hha0 e0 e4 e5 e6 e7
    rw [he]
    clear he
    generalize a1.tmps[8]?.getD undef = x8 at *
    generalize a1.tmps[9]?.getD undef = x9 at *
    generalize a1.tmps[10]?.getD undef = x10 at *
    generalize a1.tmps[11]?.getD undef = x11 at *
    generalize a1.tmps[12]?.getD undef = x12 at *
    generalize a1.tmps[13]?.getD undef = x13 at *
    generalize a1.tmps[14]?.getD undef = x14 at *
    generalize a1.tmps[15]?.getD undef = x15 at *
    generalize a1.tmps[16]?.getD undef = x16 at *
    generalize a1.tmps[17]?.getD undef = x17 at *
    generalize a1.tmps[18]?.getD undef = x18 at *
    generalize a1.tmps[19]?.getD undef = x19 at *
    generalize a1.tmps[20]?.getD undef = x20 at *
    generalize a1.tmps[21]?.getD undef = x21 at *
    generalize a1.tmps[22]?.getD undef = x22 at *
    generalize a1.tmps[23]?.getD undef = x23 at *
    generalize a1.tmps[24]?.getD undef = x24 at *
    generalize a1.tmps[25]?.getD undef = x25 at *
    generalize a1.tmps[26]?.getD undef = x26 at *
    generalize a1.tmps[27]?.getD undef = x27 at *
    generalize a1.tmps[28]?.getD undef = x28 at *
    generalize a1.tmps[29]?.getD undef = x29 at *
    generalize a1.tmps[30]?.getD undef = x30 at *
    generalize a1.tmps[31]?.getD undef = x31 at *
    generalize a1.tmps[32]?.getD undef = x32 at *
    generalize a1.tmps[33]?.getD undef = x33 at *
    go_wp2_with fail
    refine ret_cc (p := 6) (q := 7) (ty := 130) (ty2 := 130) (g := w.heap.size + 1 + 1) (g2 := w.heap.size + 1 + 1 + 1) rfl Try.underlying130 rfl (by kernel_rfl) Try.underlying130 rfl (by kernel_rfl) rfl rfl hXz.row hYz.row rfl ?_
    rw [hXz.eq, hYz.eq]
    exact ⟨rfl, hLz.out⟩
/-- Twice a pair; two pairs joined; a step of the ladder; the ladder. -/
def twP (x z : Nat) : Nat × Nat :=
  let s0 := (x + z) % fP
  let s := s0 * s0 % fP
  let t0 := difP x z
  let t := t0 * t0 % fP
  let e := difP s t
  let m := 121665 * e % fP
  let a := (s + m) % fP
  (s * t % fP, e * a % fP)
def joP (px pz qx qz u : Nat) : Nat × Nat :=
  let a1 := (qx + qz) % fP
  let a2 := difP px pz
  let a := a1 * a2 % fP
  let b1 := difP qx qz
  let b2 := (px + pz) % fP
  let b := b1 * b2 % fP
  let c := (a + b) % fP
  let d := difP a b
  let e := d * d % fP
  (c * c % fP, u * e % fP)
def lstep (c u : Nat) (s : Nat × Nat × Nat × Nat) : Nat × Nat × Nat × Nat :=
  if c = 1 then
    ((joP s.2.2.1 s.2.2.2 s.1 s.2.1 u).1, (joP s.2.2.1 s.2.2.2 s.1 s.2.1 u).2, (twP s.2.2.1 s.2.2.2).1, (twP s.2.2.1 s.2.2.2).2)
  else
    ((twP s.1 s.2.1).1, (twP s.1 s.2.1).2, (joP s.1 s.2.1 s.2.2.1 s.2.2.2 u).1, (joP s.1 s.2.1 s.2.2.1 s.2.2.2 u).2)
def lst (k u : Nat) : Nat → Nat × Nat × Nat × Nat
  | 0 => (1, 0, u, 1)
  | j + 1 => lstep (abit k (255 - j)) u (lst k u j)
def LtS (s : Nat × Nat × Nat × Nat) : Prop := s.1 < 2 ^ 256 ∧ s.2.1 < 2 ^ 256 ∧ s.2.2.1 < 2 ^ 256 ∧ s.2.2.2 < 2 ^ 256
theorem lstep_lt (c u : Nat) (s : Nat × Nat × Nat × Nat) : LtS (lstep c u s) := by
  unfold lstep
  split <;> exact ⟨low_lt, low_lt, low_lt, low_lt⟩
theorem lst_lt (k u : Nat) (hu : u < 2 ^ 256) : ∀ j, LtS (lst k u j)
  | 0 => ⟨by show (1 : Nat) < _; decide +kernel, by show (0 : Nat) < _; decide +kernel, hu, by show (1 : Nat) < _; decide +kernel⟩
  | j + 1 => lstep_lt _ _ _
theorem twC (x z : Nat) (w : World) (hx : x < 2 ^ 256) (hz : z < 2 ^ 256) : Calls Try.prog 109 #[ptV x z] w fun e w' => e = .returned (ptV (twP x z).1 (twP x z).2) ∧ Below w.heap.size w w' := pair_twice _ _ _ _ _ _ _ _ _ _ _ w hx hz rfl rfl rfl rfl rfl rfl rfl rfl rfl
theorem joC (px pz qx qz u : Nat) (w : World) (h1 : px < 2 ^ 256) (h2 : pz < 2 ^ 256) (h3 : qx < 2 ^ 256) (h4 : qz < 2 ^ 256) (h5 : u < 2 ^ 256) : Calls Try.prog 110 #[ptV px pz, ptV qx qz, numV u] w fun e w' => e = .returned (ptV (joP px pz qx qz u).1 (joP px pz qx qz u).2) ∧ Below w.heap.size w w' := pair_joined _ _ _ _ _ _ _ _ _ _ _ _ _ _ _ _ w h1 h2 h3 h4 h5 rfl rfl rfl rfl rfl rfl rfl rfl rfl rfl rfl
/-- What a round of the ladder runs into. -/
theorem round_facts (c u : Nat) (s : Nat × Nat × Nat × Nat) (hc : c = 0 ∨ c = 1) (hu : u < 2 ^ 256) (hs : LtS s) : ∃ p1 p2 q1 q2 t1 t2 j1 j2 f1 f2 h1 h2 : Nat,
    (∀ V, Calls Try.prog 108 #[.int .u64 c, ptV s.1 s.2.1, ptV s.2.2.1 s.2.2.2] V fun e w' => e = .returned (.tuple #[ptV p1 p2, ptV q1 q2]) ∧ Below V.heap.size V w') ∧
    (∀ V, Calls Try.prog 109 #[ptV p1 p2] V fun e w' => e = .returned (ptV t1 t2) ∧ Below V.heap.size V w') ∧
    (∀ V, Calls Try.prog 110 #[ptV p1 p2, ptV q1 q2, numV u] V fun e w' => e = .returned (ptV j1 j2) ∧ Below V.heap.size V w') ∧
    (∀ V, Calls Try.prog 108 #[.int .u64 c, ptV t1 t2, ptV j1 j2] V fun e w' => e = .returned (.tuple #[ptV f1 f2, ptV h1 h2]) ∧ Below V.heap.size V w') ∧
    lstep c u s = (f1, f2, h1, h2) := by
  obtain ⟨a, b, x, y⟩ := s
  obtain ⟨l1, l2, l3, l4⟩ := hs
  rcases hc with rfl | rfl
  · exact ⟨a, b, x, y, _, _, _, _, _, _, _, _, fun V => ladder_swapped 0 a b x y _ _ _ _ V (by omega) rfl rfl rfl rfl, fun V => twC a b V l1 l2, fun V => joC a b x y u V l1 l2 l3 l4 hu, fun V => ladder_swapped 0 _ _ _ _ _ _ _ _ V (by omega) rfl rfl rfl rfl, rfl⟩
  · exact ⟨x, y, a, b, _, _, _, _, _, _, _, _, fun V => ladder_swapped 1 a b x y _ _ _ _ V (by omega) rfl rfl rfl rfl, fun V => twC x y V l3 l4, fun V => joC x y a b u V l3 l4 l1 l2 hu, fun V => ladder_swapped 1 _ _ _ _ _ _ _ _ V (by omega) rfl rfl rfl rfl, rfl⟩
theorem build_pr0 (f : Nat → Nat) (w : World) : (Instr.build 130 #[(0, .agg (arrK .u64 4 f))]).run Try.prog w = .ok (.agg (arrK .u64 8 (cat2 f (wd 0)))) w := run_build w _ _ _ (by kernel_rfl)
theorem ladder_Ladder (k u : Nat) (w : World) (hu : u < 2 ^ 256) : Calls Try.prog 42 #[numV k, numV u] w fun e w' => e = .returned (numV ((lst k u 256).1 * invP (lst k u 256).2.1 % fP)) ∧ Below w.heap.size w w' := by
  have hS := Lib.hid (lst_lt k u hu)
  have hRF := Lib.hid (fun c s (hc : c = 0 ∨ c = 1) (hs : LtS s) => round_facts c u s hc hu hs)
  have hbit := Lib.hid (fun i (hi : i < 256) V => bitC k i hi V)
  have hstp := Lib.hid (fun i (hi : i < 256) => show lst k u (256 - i) = lstep (abit k i) u (lst k u (256 - (i + 1))) by
    rw [show 256 - i = (256 - (i + 1)) + 1 by omega, lst, show 255 - (256 - (i + 1)) = i by omega])
  have hs0 := Lib.hid (show lst k u (256 - 256) = (1, 0, u, 1) from rfl)
  obtain ⟨fx, fz, gx, gz, hfin⟩ : ∃ fx fz gx gz, lst k u (256 - 0) = (fx, fz, gx, gz) := ⟨_, _, _, _, rfl⟩
  have hfl := hS.out (256 - 0)
  rw [show lst k u 256 = lst k u (256 - 0) from rfl, hfin]
  rw [hfin] at hfl
  dsimp only
  have kI := Lib.hid (fun V => field_Inv fz V hfl.2.1)
  have hil : invP fz < 2 ^ 256 := low_lt
  have kM := Lib.hid (fun V => field_Mul fx (invP fz) V hfl.1 hil)
  obtain ⟨iv, hiv⟩ : ∃ i, invP fz = i := ⟨_, rfl⟩
  rw [hiv] at kI kM ⊢
  obtain ⟨r, hr⟩ : ∃ i, fx * iv % fP = i := ⟨_, rfl⟩
  rw [hr] at kM ⊢
  obtain ⟨F, hF⟩ : ∃ F, (fun t => lst k u (256 - t)) = F := ⟨_, rfl⟩
  have hFi : ∀ t, lst k u (256 - t) = F t := fun t => by rw [← hF]
  rw [hFi] at hs0 hfin
  simp only [hFi] at hstp
  replace hS := Lib.hid (fun t => hFi t ▸ hS.out (256 - t))
  replace hfin := Lib.hid hfin
  clear hF hFi hr hiv hil hfl hu
  unfold numV at kI kM ⊢
  unfold numV ptV at hRF
  have hcr := arrK_cells .u64 4 (wd r)
  have hcz := arrK_cells .u64 4 (wd 0)
  have hc0 := arrK_cells .u64 8 (cat2 (wd 0) (wd 0))
  have hcq := arrK_cells .u64 8 (cat2 (wd 1) (wd 0))
  have hcu := arrK_cells .u64 8 (cat2 (wd u) (wd 1))
  have hL0 : Below w.heap.size w (((w.alloc (Obj.cells (arrK .u64 4 (wd k)) 24)).alloc (Obj.cells (arrK .u64 4 (wd u)) 24)).alloc (Obj.cells (arrK .u64 4 (wd 0)) 24)) := by go_grown
  have hA0 : At (((w.alloc (Obj.cells (arrK .u64 4 (wd k)) 24)).alloc (Obj.cells (arrK .u64 4 (wd u)) 24)).alloc (Obj.cells (arrK .u64 4 (wd 0)) 24)) w.heap.size .u64 4 (wd k) := (((At.new _ rfl)).old _).old _
  have hU0 : At (((w.alloc (Obj.cells (arrK .u64 4 (wd k)) 24)).alloc (Obj.cells (arrK .u64 4 (wd u)) 24)).alloc (Obj.cells (arrK .u64 4 (wd 0)) 24)) (w.heap.size + 1) .u64 4 (wd u) := ((At.new _ (by simp))).old _
  have hR0 : Row (((w.alloc (Obj.cells (arrK .u64 4 (wd k)) 24)).alloc (Obj.cells (arrK .u64 4 (wd u)) 24)).alloc (Obj.cells (arrK .u64 4 (wd 0)) 24)) (w.heap.size + 1 + 1) 4 := (At.new (k := .u64) (f := wd 0) _ (by simp)).row
  have hL := Lib.hid hL0
  have hA := Lib.hid hA0
  have hU := Lib.hid hU0
  have hR := Lib.hid hR0
  clear hL0 hA0 hU0 hR0
  go_enter Try.func42, Try.ntmps42
  go_upto_region 1 with (fail)
  generalize ((w.alloc _).alloc _).alloc _ = W0 at *
  generalize ha0 : Act.mk _ _ = a0
  have e3 : a0.tmps[3]?.getD undef = .pointer (some ⟨w.heap.size + 1, 0, none⟩) := by rw [← ha0]; rfl
  have hz0 : a0.tmps.size = 47 := by rw [← ha0]; rfl
  have hha0 := Lib.hid ha0
  clear ha0
  refine wp_region_fresh ⟨fun jx_ => match jx_ with | 0 => some (.agg (arrK .u64 4 (wd 1))) | 1 => some (.agg (arrK .u64 8 (cat2 (wd 1) (wd 0)))) | 2 => some (.agg (arrK .u64 4 (wd u))) | 3 => some (.agg (arrK .u64 4 (wd 1))) | 4 => some (.agg (arrK .u64 8 (cat2 (wd u) (wd 1)))) | _ => none, fun jx_ => match jx_ with | 5 => some 8 | 6 => some 8 | _ => none, fun jx_ => match jx_ with | 7 => some 5 | 8 => some 6 | _ => none, fun jx_ => match jx_ with | 7 => arrK .u64 8 (cat2 (wd 1) (wd 0)) | 8 => arrK .u64 8 (cat2 (wd u) (wd 1)) | _ => #[]⟩ (by kernel_rfl) (by kernel_rfl) (by kernel_rfl) (slotsOk_of hz0 (by kernel_rfl)) rfl ⟨?_, ?_, ?_, ?_, ?_, ?_, ?_, ?_, ?_, trivial⟩ ?_
  · refine fstep_val rfl rfl (calm_step rfl fun aa ω κ hb hu hc hK => ?_)
    have hk := Lib.hid (fun w1 (h : Below ω.heap.size ω w1) => hK (.agg (arrK .u64 4 (wd 1))) w1 rfl h)
    clear hK hu hc
    exact wp_bldA rfl rfl (build_one _) (hk.out _ (Below.refl _ _))
  · refine fstep_val rfl rfl (calm_step rfl fun aa ω κ hb hu hc hK => ?_)
    have h9 : aa.tmps[9]?.getD undef = .agg (arrK .u64 4 (wd 1)) := hc 0 9 rfl rfl
    have hk := Lib.hid (fun w1 (h : Below ω.heap.size ω w1) => hK (.agg (arrK .u64 8 (cat2 (wd 1) (wd 0)))) w1 rfl h)
    clear hK hu hc
    exact wp_bldA (vx := .agg (arrK .u64 4 (wd 1))) rfl (by go_simp) (build_pr0 _ _) (hk.out _ (Below.refl _ _))
  · refine fstep_val rfl rfl (calm_step rfl fun aa ω κ hb hu hc hK => ?_)
    have h3 : aa.tmps[3]?.getD undef = .pointer (some ⟨w.heap.size + 1, 0, none⟩) := (hu 3 rfl).trans e3
    have hk := Lib.hid (fun w1 (h : Below ω.heap.size ω w1) => hK (.agg (arrK .u64 4 (wd u))) w1 rfl h)
    clear hK hu hc
    have hr1 := (hU.out.step hb).row
    have hr2 := (hU.out.step hb).eq
    go_simp
    exact hk.out _ (Below.refl _ _)
  · refine fstep_val rfl rfl (calm_step rfl fun aa ω κ hb hu hc hK => ?_)
    have hk := Lib.hid (fun w1 (h : Below ω.heap.size ω w1) => hK (.agg (arrK .u64 4 (wd 1))) w1 rfl h)
    clear hK hu hc
    exact wp_bldA rfl rfl (build_one _) (hk.out _ (Below.refl _ _))
  · refine fstep_val rfl rfl (calm_step rfl fun aa ω κ hb hu hc hK => ?_)
    have h11 : aa.tmps[11]?.getD undef = .agg (arrK .u64 4 (wd u)) := hc 2 11 rfl rfl
    have h12 : aa.tmps[12]?.getD undef = .agg (arrK .u64 4 (wd 1)) := hc 3 12 rfl rfl
    have hk := Lib.hid (fun w1 (h : Below ω.heap.size ω w1) => hK (.agg (arrK .u64 8 (cat2 (wd u) (wd 1)))) w1 rfl h)
    clear hK hu hc
    exact wp_bldB (v0 := .agg (arrK .u64 4 (wd u))) (v1 := .agg (arrK .u64 4 (wd 1))) rfl (by go_simp) (by go_simp) (build_pr _ _ _) (hk.out _ (Below.refl _ _))
  · refine fstep_al (n := 8) rfl rfl fun aa ω κ hK => ?_
    have hk := Lib.hid hK
    clear hK
    go_simp
    exact hk.out _ _ hc0
  · refine fstep_al (n := 8) rfl rfl fun aa ω κ hK => ?_
    have hk := Lib.hid hK
    clear hK
    go_simp
    exact hk.out _ _ hc0
  · refine fstep_st (j := 5) (n := 8) (d := 5) rfl rfl rfl rfl rfl hcq.1 rfl rfl fun aa ω κ g hb hu hc hp hr hK => ?_
    have h10 : aa.tmps[10]?.getD undef = .agg (arrK .u64 8 (cat2 (wd 1) (wd 0))) := hc 1 10 rfl rfl
    have hk := Lib.hid hK
    clear hK hu hc
    have hcc := hcq
    go_simp
    exact hk.out undef
  · refine fstep_st (j := 6) (n := 8) (d := 6) rfl rfl rfl rfl rfl hcu.1 rfl rfl fun aa ω κ g hb hu hc hp hr hK => ?_
    have h13 : aa.tmps[13]?.getD undef = .agg (arrK .u64 8 (cat2 (wd u) (wd 1))) := hc 4 13 rfl rfl
    have hk := Lib.hid hK
    clear hK hu hc
    have hcc := hcu
    go_simp
    exact hk.out undef
  · intro a1 w1 G I
    have ha0 := hha0.out
    subst ha0
    have he := act_patch (n := 47) [false, false, false, false, false, true, true, false, false, true, true, true, true, true, false, false, false, false, false, false, false, false, false, false, false, false, false, false, false, false, false, false, false, false, false, false, false, false, false, false, false, false, false, false, false, false, false] rfl (by kernel_rfl) I.un I.sz I.df
    simp only [patch, cond_true, cond_false, Nat.reduceAdd] at he
    have hal5 := I.al 5 5 8 rfl rfl rfl
    have hal6 := I.al 6 6 8 rfl rfl rfl
    have hlR := hR.out.lt
    replace hA := Lib.hid (hA.out.step I.bel)
    replace hU := Lib.hid (hU.out.step I.bel)
    replace hR := Lib.hid (row_below hR.out I.bel hR.out.lt)
    replace hL := Lib.hid (below_step I.bel hL.out (Nat.le_refl _))
    have hX5 := Lib.hid (show At w1 (G 5) .u64 8 (cat2 (wd 1) (wd 0)) from ⟨(I.blk 5 8 rfl rfl).2, (I.row 7 5 rfl rfl).2.2⟩)
    have hX6 := Lib.hid (show At w1 (G 6) .u64 8 (cat2 (wd u) (wd 1)) from ⟨(I.blk 6 8 rfl rfl).2, (I.row 8 6 rfl rfl).2.2⟩)
    have hl5 : w.heap.size + 1 + 1 < G 5 := Nat.lt_of_lt_of_le hlR (I.blk 5 8 rfl rfl).1
    have hl6 : w.heap.size + 1 + 1 < G 6 := Nat.lt_of_lt_of_le hlR (I.blk 6 8 rfl rfl).1
    have hne : G 5 ≠ G 6 := I.ne 5 6 8 8 rfl rfl rfl rfl (by decide)
    clear hlR
    clear I hz0 hha0 e3
    rw [he]
    clear he
    rw [hal5]
    rw [hal6]
    clear hal5 hal6
    generalize a1.tmps[9]?.getD undef = x9 at *
    generalize a1.tmps[10]?.getD undef = x10 at *
    generalize a1.tmps[11]?.getD undef = x11 at *
    generalize a1.tmps[12]?.getD undef = x12 at *
    generalize a1.tmps[13]?.getD undef = x13 at *
    go_upto_region 2 with (fail)
    obtain ⟨g5, hg⟩ : ∃ g, G 5 = g := ⟨_, rfl⟩
    rw [hg] at hX5 hl5 hne ⊢
    clear hg
    obtain ⟨g6, hg⟩ : ∃ g, G 6 = g := ⟨_, rfl⟩
    rw [hg] at hX6 hl6 hne ⊢
    clear hg
    generalize w1 = W1 at *
    go_wp2_with fail
    have e1 : F 256 = (1, 0, u, 1) := hs0.out
    have hX5 := Lib.hid (show At W1 g5 .u64 8 (cat2 (wd (F 256).1) (wd (F 256).2.1)) from by rw [e1]; exact hX5.out)
    have hX6 := Lib.hid (show At W1 g6 .u64 8 (cat2 (wd (F 256).2.2.1) (wd (F 256).2.2.2)) from by rw [e1]; exact hX6.out)
    clear e1 hs0
    go_loopw [7] (fun i wr => ∃ t : Nat, i = .int .i64 ((t : Int) - 1) ∧ t ≤ 256 ∧ Hid (At wr w.heap.size .u64 4 (wd k)) ∧ Hid (At wr (w.heap.size + 1) .u64 4 (wd u)) ∧ Hid (Row wr (w.heap.size + 1 + 1) 4) ∧ Hid (Below w.heap.size w wr) ∧ Hid (At wr g5 .u64 8 (cat2 (wd (F t).1) (wd (F t).2.1))) ∧ Hid (At wr g6 .u64 8 (cat2 (wd (F t).2.2.1) (wd (F t).2.2.2)))) (fun i _ => (intOf i + 1).toNat)
    case atStart => exact ⟨256, rfl, by omega, hA, hU, hR, hL, hX5, hX6⟩
    case round =>
      clear hA hU hR hL hX5 hX6
      obtain ⟨t, rfl, ht, hA, hU, hR, hL, hX5, hX6⟩ := hrel
      rcases Nat.eq_zero_or_pos t with rfl | ht0
      · rw [hfin.out] at hX5
        dsimp only at hX5
        rw [show (((0 : Nat) : Int) - 1) = -1 from rfl]
        clear hRF hbit hstp hS hfin hX6 hA hU
        go_upto_region 9 with (fail)
        generalize ha0 : Act.mk _ _ = a0
        have e4 : a0.tmps[4]?.getD undef = .pointer (some ⟨w.heap.size + 1 + 1, 0, none⟩) := by rw [← ha0]; rfl
        have e5 : a0.tmps[5]?.getD undef = .pointer (some ⟨g5, 0, none⟩) := by rw [← ha0]; rfl
        have hz0 : a0.tmps.size = 47 := by rw [← ha0]; rfl
        have hha0 := Lib.hid ha0
        clear ha0
        refine wp_region_one (fun jx_ => match jx_ with | 0 => some (.pointer (some ⟨g5, 0, none⟩)) | 1 => some (.agg (arrK .u64 4 (wd fx))) | 2 => some (.pointer (some ⟨g5, 4, none⟩)) | 3 => some (.agg (arrK .u64 4 (wd fz))) | 4 => some (.agg (arrK .u64 4 (wd iv))) | 5 => some (.agg (arrK .u64 4 (wd r))) | _ => none) 6 ((w.heap.size + 1 + 1)) 4 (arrK .u64 4 (wd r)) (by kernel_rfl) (by kernel_rfl) (by kernel_rfl) (slotsOk_of hz0 (by kernel_rfl)) (of_decide_eq_true (by kernel_rfl)) hR.out ⟨?_, ?_, ?_, ?_, ?_, ?_, ?_, trivial⟩ ?_
        · refine one_before (by decide) (by kernel_rfl) (calm_step rfl fun aa ω κ hb hu hc hK => ?_)
          have h5 : aa.tmps[5]?.getD undef = .pointer (some ⟨g5, 0, none⟩) := (hu 5 rfl).trans e5
          have hk := Lib.hid (fun w1 (h : Below ω.heap.size ω w1) => hK (.pointer (some ⟨g5, 0, none⟩)) w1 rfl h)
          clear hK hu hc
          go_simp
          exact hk.out _ (Below.refl _ _)
        · refine one_before (by decide) (by kernel_rfl) (calm_step rfl fun aa ω κ hb hu hc hK => ?_)
          have h41 : aa.tmps[41]?.getD undef = .pointer (some ⟨g5, 0, none⟩) := hc 0 41 rfl rfl
          have hk := Lib.hid (fun w1 (h : Below ω.heap.size ω w1) => hK (.agg (arrK .u64 4 (wd fx))) w1 rfl h)
          clear hK hu hc
          have hl := pt_0 (hX5.out.step hb)
          have hl1 := hl.1
          have hl2 := hl.2
          go_simp
          exact hk.out _ (Below.refl _ _)
        · refine one_before (by decide) (by kernel_rfl) (calm_step rfl fun aa ω κ hb hu hc hK => ?_)
          have h5 : aa.tmps[5]?.getD undef = .pointer (some ⟨g5, 0, none⟩) := (hu 5 rfl).trans e5
          have hk := Lib.hid (fun w1 (h : Below ω.heap.size ω w1) => hK (.pointer (some ⟨g5, 4, none⟩)) w1 rfl h)
          clear hK hu hc
          go_simp
          exact hk.out _ (Below.refl _ _)
        · refine one_before (by decide) (by kernel_rfl) (calm_step rfl fun aa ω κ hb hu hc hK => ?_)
          have h43 : aa.tmps[43]?.getD undef = .pointer (some ⟨g5, 4, none⟩) := hc 2 43 rfl rfl
          have hk := Lib.hid (fun w1 (h : Below ω.heap.size ω w1) => hK (.agg (arrK .u64 4 (wd fz))) w1 rfl h)
          clear hK hu hc
          have hl := pt_1 (hX5.out.step hb)
          have hl1 := hl.1
          have hl2 := hl.2
          go_simp
          exact hk.out _ (Below.refl _ _)
        · refine one_before (by decide) (by kernel_rfl) (calm_step rfl fun aa ω κ hb hu hc hK => ?_)
          have h44 : aa.tmps[44]?.getD undef = .agg (arrK .u64 4 (wd fz)) := hc 3 44 rfl rfl
          have hk := Lib.hid (fun w1 (h : Below ω.heap.size ω w1) => hK (.agg (arrK .u64 4 (wd iv))) w1 rfl h)
          clear hK hu hc
          go_simp
          go_at_call 26
          refine (kI.out _).mono ?_
          rintro e w1 ⟨rfl, hb1⟩
          exact hk.out _ hb1
        · refine one_before (by decide) (by kernel_rfl) (calm_step rfl fun aa ω κ hb hu hc hK => ?_)
          have h42 : aa.tmps[42]?.getD undef = .agg (arrK .u64 4 (wd fx)) := hc 1 42 rfl rfl
          have h45 : aa.tmps[45]?.getD undef = .agg (arrK .u64 4 (wd iv)) := hc 4 45 rfl rfl
          have hk := Lib.hid (fun w1 (h : Below ω.heap.size ω w1) => hK (.agg (arrK .u64 4 (wd r))) w1 rfl h)
          clear hK hu hc
          go_simp
          go_at_call 24
          refine (kM.out _).mono ?_
          rintro e w1 ⟨rfl, hb1⟩
          exact hk.out _ hb1
        · refine one_q (one_write rfl rfl fun aa ω κ hb hu hc hr hK => ?_)
          have h4 : aa.tmps[4]?.getD undef = .pointer (some ⟨w.heap.size + 1 + 1, 0, none⟩) := (hu 4 rfl).trans e4
          have h46 : aa.tmps[46]?.getD undef = .agg (arrK .u64 4 (wd r)) := hc 5 46 rfl rfl
          have hk := Lib.hid hK
          clear hK hu hc
          have hcc := hcr
          go_simp
          exact hk.out undef
        · intro a1 w1 hb1 hu1 hsz1 hdf1 hv1
          have ha0 := hha0.out
          subst ha0
          have he := act_patch (n := 47) [false, false, false, false, false, false, false, false, false, false, false, false, false, false, false, false, false, false, false, false, false, false, false, false, false, false, false, false, false, false, false, false, false, false, false, false, false, false, false, false, false, true, true, true, true, true, true] rfl (by kernel_rfl) hu1 hsz1 hdf1
          simp only [patch, cond_true, cond_false, Nat.reduceAdd] at he
          have hXz := (At.put (k := .u64) (f := (wd r)) hR.out).below hb1 (by simpa using hR.out.lt)
          have hLz := Lib.hid (Below.trans (below_setRow (c := arrK .u64 4 (wd r)) hL.out (by omega)) (hb1.mono (by simpa using hL.out.size)))
          clear hR hL hX5 kI kM
          clear hb1 hu1 hsz1 hdf1 hv1 hz0 hha0 e4 e5
          rw [he]
          clear he
          generalize a1.tmps[41]?.getD undef = x41 at *
          generalize a1.tmps[42]?.getD undef = x42 at *
          generalize a1.tmps[43]?.getD undef = x43 at *
          generalize a1.tmps[44]?.getD undef = x44 at *
          generalize a1.tmps[45]?.getD undef = x45 at *
          generalize a1.tmps[46]?.getD undef = x46 at *
          go_wp2_with fail
          refine ret_row (p := 4) (ty := 24) (g := (w.heap.size + 1 + 1)) rfl Try.underlying24 rfl (by kernel_rfl) rfl hXz.row rfl ?_
          rw [hXz.eq]
          exact ⟨rfl, hLz.out⟩
      · obtain ⟨i, rfl⟩ : ∃ i, t = i + 1 := ⟨t - 1, by omega⟩
        rw [show (((i + 1 : Nat) : Int) - 1) = (i : Int) by omega]
        have hb1 := Lib.hid (fun V => hbit.out i (by omega) V)
        obtain ⟨p1, p2, q1, q2, t1, t2, j1, j2, f1, f2, h1, h2, kS1, kT, kJ, kS2, hnew⟩ := hRF.out (abit k i) (F (i + 1)) (abit_or k i) (hS.out _)
        have hnF := Lib.hid ((hstp.out i (by omega)).trans hnew)
        replace kS1 := Lib.hid kS1
        replace kT := Lib.hid kT
        replace kJ := Lib.hid kJ
        replace kS2 := Lib.hid kS2
        obtain ⟨c, hc⟩ : ∃ c, abit k i = c := ⟨_, rfl⟩
        rw [hc] at hb1 kS1 kS2
        generalize F (i + 1) = S at *
        obtain ⟨a, b, x, y⟩ := S
        dsimp only at kS1 hX5 hX6
        clear hc hnew hRF hbit hstp hS hfin
        have hcp := arrK_cells .u64 8 (cat2 (wd p1) (wd p2))
        have hcq2 := arrK_cells .u64 8 (cat2 (wd q1) (wd q2))
        have hct := arrK_cells .u64 8 (cat2 (wd t1) (wd t2))
        have hcj := arrK_cells .u64 8 (cat2 (wd j1) (wd j2))
        have hcf := arrK_cells .u64 8 (cat2 (wd f1) (wd f2))
        have hch := arrK_cells .u64 8 (cat2 (wd h1) (wd h2))
        have hr1 := hA.out.row
        have hr2 := hA.out.eq
        go_wp2_with fail
        refine (hb1.out _).mono ?_
        rintro e w2 ⟨rfl, hb⟩
        replace hA := Lib.hid (hA.out.step hb)
        replace hU := Lib.hid (hU.out.step hb)
        replace hR := Lib.hid (row_below hR.out hb hR.out.lt)
        replace hL := Lib.hid (below_step hb hL.out (Nat.le_refl _))
        replace hX5 := Lib.hid (hX5.out.step hb)
        replace hX6 := Lib.hid (hX6.out.step hb)
        clear hr1 hr2 hb hb1
        have hr1 := hX5.out.row
        have hr2 := hX5.out.eq
        have hr3 := hX6.out.row
        have hr4 := hX6.out.eq
        dsimp only
        go_wp2_with fail
        refine (kS1.out _).mono ?_
        rintro e w3 ⟨rfl, hb⟩
        replace hA := Lib.hid (hA.out.step hb)
        replace hU := Lib.hid (hU.out.step hb)
        replace hR := Lib.hid (row_below hR.out hb hR.out.lt)
        replace hL := Lib.hid (below_step hb hL.out (Nat.le_refl _))
        replace hX5 := Lib.hid (hX5.out.step hb)
        replace hX6 := Lib.hid (hX6.out.step hb)
        clear hr1 hr2 hr3 hr4 hb kS1
        have hrw1 := hX5.out.row
        have hrw2 := (row_setRow_far (w := w3) (c' := arrK .u64 8 (cat2 (wd p1) (wd p2))) (show g6 ≠ g5 by omega)).2 hX6.out.row
        replace hA := Lib.hid ((hA.out.far (c := arrK .u64 8 (cat2 (wd p1) (wd p2))) (show w.heap.size ≠ g5 by omega)).far (c := arrK .u64 8 (cat2 (wd q1) (wd q2))) (show w.heap.size ≠ g6 by omega))
        replace hU := Lib.hid ((hU.out.far (c := arrK .u64 8 (cat2 (wd p1) (wd p2))) (show w.heap.size + 1 ≠ g5 by omega)).far (c := arrK .u64 8 (cat2 (wd q1) (wd q2))) (show w.heap.size + 1 ≠ g6 by omega))
        replace hR := Lib.hid ((row_setRow_far (c' := arrK .u64 8 (cat2 (wd q1) (wd q2))) (show w.heap.size + 1 + 1 ≠ g6 by omega)).2 ((row_setRow_far (c' := arrK .u64 8 (cat2 (wd p1) (wd p2))) (show w.heap.size + 1 + 1 ≠ g5 by omega)).2 hR.out))
        replace hL := Lib.hid (below_setRow (c := arrK .u64 8 (cat2 (wd q1) (wd q2))) (below_setRow (c := arrK .u64 8 (cat2 (wd p1) (wd p2))) hL.out (show w.heap.size ≤ g5 by omega)) (show w.heap.size ≤ g6 by omega))
        replace hX5 := Lib.hid ((At.put (k := .u64) (f := cat2 (wd p1) (wd p2)) hrw1).far (c := arrK .u64 8 (cat2 (wd q1) (wd q2))) (show g5 ≠ g6 by omega))
        replace hX6 := Lib.hid (At.put (k := .u64) (f := cat2 (wd q1) (wd q2)) hrw2)
        dsimp only
        go_upto_region 7 with (fail)
        clear hrw1 hrw2
        generalize (w3.setRow _ _).setRow _ _ = W3 at *
        have hrx5 := Lib.hid hX5.out.row
        have hrx6 := Lib.hid hX6.out.row
        generalize ha0 : Act.mk _ _ = a0
        have e3 : a0.tmps[3]?.getD undef = .pointer (some ⟨w.heap.size + 1, 0, none⟩) := by rw [← ha0]; rfl
        have e5 : a0.tmps[5]?.getD undef = .pointer (some ⟨g5, 0, none⟩) := by rw [← ha0]; rfl
        have e6 : a0.tmps[6]?.getD undef = .pointer (some ⟨g6, 0, none⟩) := by rw [← ha0]; rfl
        have hz0 : a0.tmps.size = 47 := by rw [← ha0]; rfl
        have hha0 := Lib.hid ha0
        clear ha0
        refine wp_region_two (fun jx_ => match jx_ with | 0 => some (.agg (arrK .u64 8 (cat2 (wd p1) (wd p2)))) | 1 => some (.agg (arrK .u64 8 (cat2 (wd t1) (wd t2)))) | 2 => some (.agg (arrK .u64 8 (cat2 (wd p1) (wd p2)))) | 3 => some (.agg (arrK .u64 8 (cat2 (wd q1) (wd q2)))) | 4 => some (.agg (arrK .u64 4 (wd u))) | 5 => some (.agg (arrK .u64 8 (cat2 (wd j1) (wd j2)))) | _ => none) 6 (g5) 8 (arrK .u64 8 (cat2 (wd t1) (wd t2))) 7 (g6) 8 (arrK .u64 8 (cat2 (wd j1) (wd j2))) (by kernel_rfl) (by kernel_rfl) (by kernel_rfl) (slotsOk_of hz0 (by kernel_rfl)) (of_decide_eq_true (by kernel_rfl)) (of_decide_eq_true (by kernel_rfl)) (by decide) (by kernel_rfl) (by omega) hrx5.out hrx6.out ⟨?_, ?_, ?_, ?_, ?_, ?_, ?_, ?_, trivial⟩ ?_
        · refine two_before (by decide) (by decide) (by kernel_rfl) (calm_step rfl fun aa ω κ hb hu hc hK => ?_)
          have h5 : aa.tmps[5]?.getD undef = .pointer (some ⟨g5, 0, none⟩) := (hu 5 rfl).trans e5
          have hk := Lib.hid (fun w1 (h : Below ω.heap.size ω w1) => hK (.agg (arrK .u64 8 (cat2 (wd p1) (wd p2)))) w1 rfl h)
          clear hK hu hc
          have hr1 := (hX5.out.step hb).row
          have hr2 := (hX5.out.step hb).eq
          go_simp
          exact hk.out _ (Below.refl _ _)
        · refine two_before (by decide) (by decide) (by kernel_rfl) (calm_step rfl fun aa ω κ hb hu hc hK => ?_)
          have h28 : aa.tmps[28]?.getD undef = .agg (arrK .u64 8 (cat2 (wd p1) (wd p2))) := hc 0 28 rfl rfl
          have hk := Lib.hid (fun w1 (h : Below ω.heap.size ω w1) => hK (.agg (arrK .u64 8 (cat2 (wd t1) (wd t2)))) w1 rfl h)
          clear hK hu hc
          go_simp
          go_at_call 109
          refine (kT.out _).mono ?_
          rintro e w1 ⟨rfl, hb1⟩
          exact hk.out _ hb1
        · refine two_before (by decide) (by decide) (by kernel_rfl) (calm_step rfl fun aa ω κ hb hu hc hK => ?_)
          have h5 : aa.tmps[5]?.getD undef = .pointer (some ⟨g5, 0, none⟩) := (hu 5 rfl).trans e5
          have hk := Lib.hid (fun w1 (h : Below ω.heap.size ω w1) => hK (.agg (arrK .u64 8 (cat2 (wd p1) (wd p2)))) w1 rfl h)
          clear hK hu hc
          have hr1 := (hX5.out.step hb).row
          have hr2 := (hX5.out.step hb).eq
          go_simp
          exact hk.out _ (Below.refl _ _)
        · refine two_before (by decide) (by decide) (by kernel_rfl) (calm_step rfl fun aa ω κ hb hu hc hK => ?_)
          have h6 : aa.tmps[6]?.getD undef = .pointer (some ⟨g6, 0, none⟩) := (hu 6 rfl).trans e6
          have hk := Lib.hid (fun w1 (h : Below ω.heap.size ω w1) => hK (.agg (arrK .u64 8 (cat2 (wd q1) (wd q2)))) w1 rfl h)
          clear hK hu hc
          have hr1 := (hX6.out.step hb).row
          have hr2 := (hX6.out.step hb).eq
          go_simp
          exact hk.out _ (Below.refl _ _)
        · refine two_before (by decide) (by decide) (by kernel_rfl) (calm_step rfl fun aa ω κ hb hu hc hK => ?_)
          have h3 : aa.tmps[3]?.getD undef = .pointer (some ⟨w.heap.size + 1, 0, none⟩) := (hu 3 rfl).trans e3
          have hk := Lib.hid (fun w1 (h : Below ω.heap.size ω w1) => hK (.agg (arrK .u64 4 (wd u))) w1 rfl h)
          clear hK hu hc
          have hr1 := (hU.out.step hb).row
          have hr2 := (hU.out.step hb).eq
          go_simp
          exact hk.out _ (Below.refl _ _)
        · refine two_before (by decide) (by decide) (by kernel_rfl) (calm_step rfl fun aa ω κ hb hu hc hK => ?_)
          have h30 : aa.tmps[30]?.getD undef = .agg (arrK .u64 8 (cat2 (wd p1) (wd p2))) := hc 2 30 rfl rfl
          have h31 : aa.tmps[31]?.getD undef = .agg (arrK .u64 8 (cat2 (wd q1) (wd q2))) := hc 3 31 rfl rfl
          have h32 : aa.tmps[32]?.getD undef = .agg (arrK .u64 4 (wd u)) := hc 4 32 rfl rfl
          have hk := Lib.hid (fun w1 (h : Below ω.heap.size ω w1) => hK (.agg (arrK .u64 8 (cat2 (wd j1) (wd j2)))) w1 rfl h)
          clear hK hu hc
          go_simp
          go_at_call 110
          refine (kJ.out _).mono ?_
          rintro e w1 ⟨rfl, hb1⟩
          exact hk.out _ hb1
        · refine two_q1 (one_write rfl rfl fun aa ω κ hb hu hc hr hK => ?_)
          have h5 : aa.tmps[5]?.getD undef = .pointer (some ⟨g5, 0, none⟩) := (hu 5 rfl).trans e5
          have h29 : aa.tmps[29]?.getD undef = .agg (arrK .u64 8 (cat2 (wd t1) (wd t2))) := hc 1 29 rfl rfl
          have hk := Lib.hid hK
          clear hK hu hc
          have hcc := hct
          go_simp
          exact hk.out undef
        · refine two_q2 (by decide) (one_write rfl rfl fun aa ω κ hb hu hc hr hK => ?_)
          have h6 : aa.tmps[6]?.getD undef = .pointer (some ⟨g6, 0, none⟩) := (hu 6 rfl).trans e6
          have h33 : aa.tmps[33]?.getD undef = .agg (arrK .u64 8 (cat2 (wd j1) (wd j2))) := hc 5 33 rfl rfl
          have hk := Lib.hid hK
          clear hK hu hc
          have hcc := hcj
          go_simp
          exact hk.out undef
        · intro a1 w1 hb1 hu1 hsz1 hdf1 hv1
          have ha0 := hha0.out
          subst ha0
          have he := act_patch (n := 47) [false, false, false, false, false, false, false, false, false, false, false, false, false, false, false, false, false, false, false, false, false, false, false, false, false, false, false, false, true, true, true, true, true, true, false, false, false, false, false, false, false, false, false, false, false, false, false] rfl (by kernel_rfl) hu1 hsz1 hdf1
          simp only [patch, cond_true, cond_false, Nat.reduceAdd] at he
          have hrw6 := (row_setRow_far (w := W3) (c' := arrK .u64 8 (cat2 (wd t1) (wd t2))) (show g6 ≠ g5 by omega)).2 hX6.out.row
          replace hA := Lib.hid (((hA.out.far (c := arrK .u64 8 (cat2 (wd t1) (wd t2))) (show w.heap.size ≠ g5 by omega)).far (c := arrK .u64 8 (cat2 (wd j1) (wd j2))) (show w.heap.size ≠ g6 by omega)).below hb1 (by simpa using hA.out.lt))
          replace hU := Lib.hid (((hU.out.far (c := arrK .u64 8 (cat2 (wd t1) (wd t2))) (show w.heap.size + 1 ≠ g5 by omega)).far (c := arrK .u64 8 (cat2 (wd j1) (wd j2))) (show w.heap.size + 1 ≠ g6 by omega)).below hb1 (by simpa using hU.out.lt))
          replace hR := Lib.hid (row_below ((row_setRow_far (c' := arrK .u64 8 (cat2 (wd j1) (wd j2))) (show w.heap.size + 1 + 1 ≠ g6 by omega)).2 ((row_setRow_far (c' := arrK .u64 8 (cat2 (wd t1) (wd t2))) (show w.heap.size + 1 + 1 ≠ g5 by omega)).2 hR.out)) hb1 (by simpa using hR.out.lt))
          replace hL := Lib.hid (Below.trans (below_setRow (c := arrK .u64 8 (cat2 (wd j1) (wd j2))) (below_setRow (c := arrK .u64 8 (cat2 (wd t1) (wd t2))) hL.out (show w.heap.size ≤ g5 by omega)) (show w.heap.size ≤ g6 by omega)) (hb1.mono (by simpa using hL.out.size)))
          replace hX5 := Lib.hid (((At.put (k := .u64) (f := cat2 (wd t1) (wd t2)) hX5.out.row).far (c := arrK .u64 8 (cat2 (wd j1) (wd j2))) (show g5 ≠ g6 by omega)).below hb1 (by simpa using hX5.out.lt))
          replace hX6 := Lib.hid ((At.put (k := .u64) (f := cat2 (wd j1) (wd j2)) hrw6).below hb1 (by simpa using hX6.out.lt))
          clear kT kJ hrx5 hrx6 hrw6
          clear hb1 hu1 hsz1 hdf1 hv1 hz0 hha0 e3 e5 e6
          rw [he]
          clear he
          generalize a1.tmps[28]?.getD undef = x28 at *
          generalize a1.tmps[29]?.getD undef = x29 at *
          generalize a1.tmps[30]?.getD undef = x30 at *
          generalize a1.tmps[31]?.getD undef = x31 at *
          generalize a1.tmps[32]?.getD undef = x32 at *
          generalize a1.tmps[33]?.getD undef = x33 at *
          generalize w1 = W4 at *
          have hr1 := hX5.out.row
          have hr2 := hX5.out.eq
          have hr3 := hX6.out.row
          have hr4 := hX6.out.eq
          go_wp2_with fail
          refine (kS2.out _).mono ?_
          rintro e w5 ⟨rfl, hb⟩
          replace hA := Lib.hid (hA.out.step hb)
          replace hU := Lib.hid (hU.out.step hb)
          replace hR := Lib.hid (row_below hR.out hb hR.out.lt)
          replace hL := Lib.hid (below_step hb hL.out (Nat.le_refl _))
          replace hX5 := Lib.hid (hX5.out.step hb)
          replace hX6 := Lib.hid (hX6.out.step hb)
          clear hr1 hr2 hr3 hr4 hb kS2
          have hrw1 := hX5.out.row
          have hrw2 := (row_setRow_far (w := w5) (c' := arrK .u64 8 (cat2 (wd f1) (wd f2))) (show g6 ≠ g5 by omega)).2 hX6.out.row
          replace hA := Lib.hid ((hA.out.far (c := arrK .u64 8 (cat2 (wd f1) (wd f2))) (show w.heap.size ≠ g5 by omega)).far (c := arrK .u64 8 (cat2 (wd h1) (wd h2))) (show w.heap.size ≠ g6 by omega))
          replace hU := Lib.hid ((hU.out.far (c := arrK .u64 8 (cat2 (wd f1) (wd f2))) (show w.heap.size + 1 ≠ g5 by omega)).far (c := arrK .u64 8 (cat2 (wd h1) (wd h2))) (show w.heap.size + 1 ≠ g6 by omega))
          replace hR := Lib.hid ((row_setRow_far (c' := arrK .u64 8 (cat2 (wd h1) (wd h2))) (show w.heap.size + 1 + 1 ≠ g6 by omega)).2 ((row_setRow_far (c' := arrK .u64 8 (cat2 (wd f1) (wd f2))) (show w.heap.size + 1 + 1 ≠ g5 by omega)).2 hR.out))
          replace hL := Lib.hid (below_setRow (c := arrK .u64 8 (cat2 (wd h1) (wd h2))) (below_setRow (c := arrK .u64 8 (cat2 (wd f1) (wd f2))) hL.out (show w.heap.size ≤ g5 by omega)) (show w.heap.size ≤ g6 by omega))
          replace hX5 := Lib.hid ((At.put (k := .u64) (f := cat2 (wd f1) (wd f2)) hrw1).far (c := arrK .u64 8 (cat2 (wd h1) (wd h2))) (show g5 ≠ g6 by omega))
          replace hX6 := Lib.hid (At.put (k := .u64) (f := cat2 (wd h1) (wd h2)) hrw2)
          dsimp only
          go_wp2_with fail
          go_roundw
          case rel => exact ⟨i, rfl, by omega, hA, hU, hR, hL, by rw [hnF.out]; exact hX5, by rw [hnF.out]; exact hX6⟩
          case measure => simp [intOf]
end Go.Proofs.Ytodcjeaannfbnaa
