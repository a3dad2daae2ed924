/- Contracts of package curve: Neg, Add. -/
import Derived.Test.YtodcjeaannfbnaaCv3
import Derived.Test.YtodcjeaannfbnaaRet2
namespace Go.Proofs.Ytodcjeaannfbnaa
open Go.ChangeShapes Go.WideShapes Go.ChangeAt Go.RowKit
set_option maxHeartbeats 2000000
set_option maxRecDepth 100000
attribute [local go_sem ↓] load_fld load_num store_num execl_num execs_num load_pt store_pt execl_pt execs_pt load_qd store_qd execl_qd execs_qd
attribute [local go_sem] isHead_mk blkOf_mk isAgg_mk cellsV_mk row_drew rowAt_drew row_new_cells row_old rowAt_new rowAt_old setRow_new zeroNum zeroPt zeroQd
theorem ret_row2c {P : Program} {fn : Func} {R : Ending → World → Prop} {a : Act} {w : World} {p q : Tmp} {ty : TypeId} {g n : Nat} {d : TypeDesc} (h : fn.results = #[.cell p ty, .tmp q])
    (hu : P.underlying ty = some d) (hd : (match d with | .struct _ | .array _ _ => true | _ => false) = true) (hi : (P.info? ty).map (·.size) = some n)
    (hp : a.tmps.getD p undef = .pointer (some ⟨g, 0, none⟩)) (hr : Row w g n) (hf : a.defers = []) (hR : R (.returned (.tuple #[.agg (rowAt w g), a.tmps.getD q undef])) w) : bodyPost P fn R .ret a w := by
  obtain ⟨cs, t, hg, hs⟩ := hr
  have e : rowAt w g = cs := by simp [rowAt, hg]
  rw [e] at hR
  exact bodyPost_ret (results_row_tmp h _ _ g t cs (0, 0) d hp hg hu hd (by rw [hi, hs])) hf hR
theorem store_fldP {w : World} {dst : Option Tmp} {x y : Operand} {tt : TypeId} {pos : String} {af : Array Edge} {gd : Option (Nat × Bool)} {a : Act} {K : Act → World → Prop} {Q : Exit → Act → World → Prop} (hv : IsPart (a.eval x)) (h : Row w (blkOf (a.eval x)) 8) (ho : offOf (a.eval x) + 4 ≤ 8) (hx : IsAgg (a.eval y) 4) :
    Oper.wp Try.prog ⟨dst, .store 24 x y, tt, pos, af, gd⟩ a w K Q ↔ K (a.put dst undef) (w.setRow (blkOf (a.eval x)) (putAt (rowAt w (blkOf (a.eval x))) (offOf (a.eval x)) (cellsV (a.eval y)).toList)) := wp_store_part (by kernel_rfl) hv h ho hx
attribute [local go_sem ↓] store_fldP
attribute [local go_sem] isPart_mk offOf_mk
theorem put_x (f0 f1 f : Nat → Nat) : putAt (arrK .u64 8 (cat2 f0 f1)) 0 (arrK .u64 4 f).toList = arrK .u64 8 (cat2 f f1) := by
  rw [arrK_V .u64 8, putAt_arrV, arrK_V .u64 8]
  refine arrV_congr fun i hi => ?_
  rw [if_pos (Nat.zero_le _), Nat.sub_zero, Array.getElem?_toList]
  unfold cat2
  by_cases h : i < 4
  · rw [arrK_at h, if_pos h, if_pos h]; rfl
  · rw [Array.getElem?_eq_none (by rw [arrK_size]; omega), if_neg h, if_neg h]; rfl
theorem curve_Neg (x y : Nat) (w : World) (hx : x < 2 ^ 256) (hy : y < 2 ^ 256) : Calls Try.prog 35 #[ptV x y] w fun e w' => e = .returned (bif onB x y then .tuple #[ptV (difP 0 x) y, .int .i64 0] else .tuple #[ptV 0 0, .int .i64 1]) ∧ Below w.heap.size w w' := by
  have h0l : 0 < 2 ^ 256 := by decide +kernel
  have kO := Lib.hid (fun V => curve_On x y V hx hy)
  have kS := Lib.hid (fun V => field_Sub 0 x V h0l hx)
  obtain ⟨b, hb⟩ : ∃ b, onB x y = b := ⟨_, rfl⟩
  rw [hb] at kO ⊢
  obtain ⟨d, hd⟩ : ∃ d, difP 0 x = d := ⟨_, rfl⟩
  rw [hd] at kS ⊢
  clear hd hb hx hy h0l
  unfold numV at kS
  unfold ptV at kO ⊢
  have hcz := arrK_cells .u64 8 (cat2 (wd 0) (wd 0))
  have hcd := arrK_cells .u64 4 (wd d)
  have hcr := arrK_cells .u64 8 (cat2 (wd d) (wd y))
  have hL0 : Below w.heap.size w ((w.alloc (Obj.cells (arrK .u64 8 (cat2 (wd x) (wd y))) 42)).alloc (Obj.cells (arrK .u64 8 (cat2 (wd 0) (wd 0))) 42)) := by go_grown
  have hA0 : At ((w.alloc (Obj.cells (arrK .u64 8 (cat2 (wd x) (wd y))) 42)).alloc (Obj.cells (arrK .u64 8 (cat2 (wd 0) (wd 0))) 42)) w.heap.size .u64 8 (cat2 (wd x) (wd y)) := (At.new _ rfl).old _
  have hR0 : Row ((w.alloc (Obj.cells (arrK .u64 8 (cat2 (wd x) (wd y))) 42)).alloc (Obj.cells (arrK .u64 8 (cat2 (wd 0) (wd 0))) 42)) (w.heap.size + 1) 8 := (At.new (k := .u64) (f := cat2 (wd 0) (wd 0)) _ (by simp)).row
  have hL := Lib.hid hL0
  have hR := Lib.hid hR0
  have hA := Lib.hid hA0
  clear hL0 hR0 hA0
  go_enter Try.func35, Try.ntmps35
  go_upto_region 1 with (fail)
  generalize (w.alloc _).alloc _ = W0 at *
  have hr1 := hA.out.row
  have hr2 := hA.out.eq
  go_wp2_with fail
  refine (kO.out _).mono ?_
  rintro e w2 ⟨rfl, hbz⟩
  replace hA := Lib.hid (hA.out.step hbz)
  replace hR := Lib.hid (row_below hR.out hbz hR.out.lt)
  replace hL := Lib.hid (below_step hbz hL.out (Nat.le_refl _))
  clear hr1 hr2 hbz kO
  dsimp only
  cases b with
  | false =>
    have hrR := hR.out
    go_wp2_with fail
    exact ret_stored2 (p := 2) (q := 3) (ty := 42) (g := w.heap.size + 1) (n := 8) (c := arrK .u64 8 (cat2 (wd 0) (wd 0))) rfl Try.underlying42 rfl (by kernel_rfl) rfl hrR hcz.1 rfl ⟨rfl, below_setRow hL.out (by omega)⟩
  | true =>
    have hl := pt_0 hA.out
    have hl1 := hl.1
    have hl2 := hl.2
    clear hl
    go_wp2_with fail
    refine (kS.out _).mono ?_
    rintro e w3 ⟨rfl, hbz⟩
    replace hA := Lib.hid (hA.out.step hbz)
    replace hR := Lib.hid (row_below hR.out hbz hR.out.lt)
    replace hL := Lib.hid (below_step hbz hL.out (Nat.le_refl _))
    clear hl1 hl2 hbz kS
    have hr1 := hA.out.row
    have hr2 := hA.out.eq
    have hpx := put_x (wd x) (wd y) (wd d)
    dsimp only
    go_upto_region 4 with (fail)
    have hA2 := Lib.hid (At.put (k := .u64) (f := cat2 (wd d) (wd y)) hr1)
    have hR2 := Lib.hid ((row_setRow_far (c' := arrK .u64 8 (cat2 (wd d) (wd y))) (show w.heap.size + 1 ≠ w.heap.size by omega)).2 hR.out)
    have hL2 := Lib.hid (below_setRow (c := arrK .u64 8 (cat2 (wd d) (wd y))) hL.out (Nat.le_refl _))
    clear hr1 hr2 hA hR hL
    generalize w3.setRow _ _ = W3 at *
    have hr1 := hA2.out.row
    have hr2 := hA2.out.eq
    have hrR := hR2.out
    go_wp2_with fail
    exact ret_stored2 (p := 2) (q := 3) (ty := 42) (g := w.heap.size + 1) (n := 8) (c := arrK .u64 8 (cat2 (wd d) (wd y))) rfl Try.underlying42 rfl (by kernel_rfl) rfl hrR hcr.1 rfl ⟨rfl, below_setRow hL2.out (by omega)⟩
/-- What plus makes of two quads. -/
def qplus (x1 y1 z1 t1 x2 y2 z2 t2 : Nat) : Nat × Nat × Nat × Nat :=
  let a := difP y1 x1 * difP y2 x2 % fP
  let b := ((y1 + x1) % fP) * ((y2 + x2) % fP) % fP
  let c0 := (t1 * t2 % fP) * dN % fP
  let c := (c0 + c0) % fP
  let z0 := z1 * z2 % fP
  let z := (z0 + z0) % fP
  let e := difP b a
  let f := difP z c
  let g := (z + c) % fP
  let h := (b + a) % fP
  (e * f % fP, g * h % fP, f * g % fP, e * h % fP)
/-- The sum of two points, as the program makes it. -/
def addPt (x1 y1 x2 y2 : Nat) : Nat × Nat :=
  let r := qplus x1 y1 1 (x1 * y1 % fP) x2 y2 1 (x2 * y2 % fP)
  (r.1 * invP r.2.2.1 % fP, r.2.1 * invP r.2.2.1 % fP)
theorem quad_plusQ (x1 y1 z1 t1 x2 y2 z2 t2 : Nat) (w : World) (hx1 : x1 < 2 ^ 256) (hy1 : y1 < 2 ^ 256) (hz1 : z1 < 2 ^ 256) (ht1 : t1 < 2 ^ 256) (hx2 : x2 < 2 ^ 256) (hy2 : y2 < 2 ^ 256) (hz2 : z2 < 2 ^ 256) (ht2 : t2 < 2 ^ 256) (r : Nat × Nat × Nat × Nat) (hr : qplus x1 y1 z1 t1 x2 y2 z2 t2 = r) :
    Calls Try.prog 102 #[quadV x1 y1 z1 t1, quadV x2 y2 z2 t2] w fun e w' => e = .returned (quadV r.1 r.2.1 r.2.2.1 r.2.2.2) ∧ Below w.heap.size w w' := by
  subst hr
  exact quad_plus _ _ _ _ _ _ _ _ _ _ _ _ _ _ _ _ _ _ _ _ _ _ _ _ _ _ _ w hx1 hy1 hz1 ht1 hx2 hy2 hz2 ht2 rfl rfl rfl rfl rfl rfl rfl rfl rfl rfl rfl rfl rfl rfl rfl rfl rfl rfl rfl
theorem qplus_lt (x1 y1 z1 t1 x2 y2 z2 t2 : Nat) (r : Nat × Nat × Nat × Nat) (hr : qplus x1 y1 z1 t1 x2 y2 z2 t2 = r) : r.1 < 2 ^ 256 ∧ r.2.1 < 2 ^ 256 ∧ r.2.2.1 < 2 ^ 256 := by
  subst hr
  exact ⟨low_lt, low_lt, low_lt⟩
theorem curve_Add (x1 y1 x2 y2 : Nat) (w : World) (hx1 : x1 < 2 ^ 256) (hy1 : y1 < 2 ^ 256) (hx2 : x2 < 2 ^ 256) (hy2 : y2 < 2 ^ 256) : Calls Try.prog 34 #[ptV x1 y1, ptV x2 y2] w fun e w' => e = .returned (bif onB x1 y1 && onB x2 y2 then .tuple #[ptV (addPt x1 y1 x2 y2).1 (addPt x1 y1 x2 y2).2, .int .i64 0] else .tuple #[ptV 0 0, .int .i64 1]) ∧ Below w.heap.size w w' := by
  have h1l : 1 < 2 ^ 256 := by decide +kernel
  have kO1 := Lib.hid (fun V => curve_On x1 y1 V hx1 hy1)
  have kO2 := Lib.hid (fun V => curve_On x2 y2 V hx2 hy2)
  have kQ1 := Lib.hid (fun V => curve_quadOf x1 y1 V hx1 hy1)
  have kQ2 := Lib.hid (fun V => curve_quadOf x2 y2 V hx2 hy2)
  unfold addPt
  obtain ⟨m1, hm1⟩ : ∃ m, x1 * y1 % fP = m := ⟨_, rfl⟩
  obtain ⟨m2, hm2⟩ : ∃ m, x2 * y2 % fP = m := ⟨_, rfl⟩
  have lm1 : m1 < 2 ^ 256 := hm1 ▸ low_lt
  have lm2 : m2 < 2 ^ 256 := hm2 ▸ low_lt
  rw [hm1] at kQ1 ⊢
  rw [hm2] at kQ2 ⊢
  obtain ⟨r, hr⟩ : ∃ r, qplus x1 y1 1 m1 x2 y2 1 m2 = r := ⟨_, rfl⟩
  have kPl := Lib.hid (fun V => quad_plusQ x1 y1 1 m1 x2 y2 1 m2 V hx1 hy1 h1l lm1 hx2 hy2 h1l lm2 r hr)
  have hrl := qplus_lt x1 y1 1 m1 x2 y2 1 m2 r hr
  rw [hr]
  obtain ⟨r1, r2, r3, r4⟩ := r
  dsimp only at kPl hrl ⊢
  have kPt := Lib.hid (fun V => quad_point r1 r2 r3 r4 V hrl.1 hrl.2.1 hrl.2.2)
  obtain ⟨X, hX⟩ : ∃ m, r1 * invP r3 % fP = m := ⟨_, rfl⟩
  obtain ⟨Y, hY⟩ : ∃ m, r2 * invP r3 % fP = m := ⟨_, rfl⟩
  rw [hX, hY] at kPt ⊢
  obtain ⟨b1, hb1⟩ : ∃ b, onB x1 y1 = b := ⟨_, rfl⟩
  obtain ⟨b2, hb2⟩ : ∃ b, onB x2 y2 = b := ⟨_, rfl⟩
  rw [hb1] at kO1 ⊢
  rw [hb2] at kO2 ⊢
  clear hb1 hb2 hX hY hrl hr lm1 lm2 hm1 hm2 h1l hx1 hy1 hx2 hy2
  unfold ptV quadV at kQ1 kQ2
  unfold quadV at kPl kPt
  unfold ptV at kPt kO1 kO2 ⊢
  have hcz := arrK_cells .u64 8 (cat2 (wd 0) (wd 0))
  have hcr := arrK_cells .u64 8 (cat2 (wd X) (wd Y))
  have hL0 : Below w.heap.size w (((w.alloc (Obj.cells (arrK .u64 8 (cat2 (wd x1) (wd y1))) 42)).alloc (Obj.cells (arrK .u64 8 (cat2 (wd x2) (wd y2))) 42)).alloc (Obj.cells (arrK .u64 8 (cat2 (wd 0) (wd 0))) 42)) := by go_grown
  have hA0 : At (((w.alloc (Obj.cells (arrK .u64 8 (cat2 (wd x1) (wd y1))) 42)).alloc (Obj.cells (arrK .u64 8 (cat2 (wd x2) (wd y2))) 42)).alloc (Obj.cells (arrK .u64 8 (cat2 (wd 0) (wd 0))) 42)) w.heap.size .u64 8 (cat2 (wd x1) (wd y1)) := ((At.new _ rfl).old _).old _
  have hB0 : At (((w.alloc (Obj.cells (arrK .u64 8 (cat2 (wd x1) (wd y1))) 42)).alloc (Obj.cells (arrK .u64 8 (cat2 (wd x2) (wd y2))) 42)).alloc (Obj.cells (arrK .u64 8 (cat2 (wd 0) (wd 0))) 42)) (w.heap.size + 1) .u64 8 (cat2 (wd x2) (wd y2)) := (At.new _ (by simp)).old _
  have hR0 : Row (((w.alloc (Obj.cells (arrK .u64 8 (cat2 (wd x1) (wd y1))) 42)).alloc (Obj.cells (arrK .u64 8 (cat2 (wd x2) (wd y2))) 42)).alloc (Obj.cells (arrK .u64 8 (cat2 (wd 0) (wd 0))) 42)) (w.heap.size + 1 + 1) 8 := (At.new (k := .u64) (f := cat2 (wd 0) (wd 0)) _ (by simp)).row
  have hL := Lib.hid hL0
  have hR := Lib.hid hR0
  have hA := Lib.hid hA0
  have hB := Lib.hid hB0
  clear hL0 hR0 hA0 hB0
  go_enter Try.func34, Try.ntmps34
  go_upto_region 1 with (fail)
  generalize ((w.alloc _).alloc _).alloc _ = W0 at *
  have hr1 := hA.out.row
  have hr2 := hA.out.eq
  go_wp2_with fail
  refine (kO1.out _).mono ?_
  rintro e w2 ⟨rfl, hbz⟩
  replace hA := Lib.hid (hA.out.step hbz)
  replace hB := Lib.hid (hB.out.step hbz)
  replace hR := Lib.hid (row_below hR.out hbz hR.out.lt)
  replace hL := Lib.hid (below_step hbz hL.out (Nat.le_refl _))
  clear hr1 hr2 hbz kO1
  dsimp only
  cases b1 with
  | false =>
    have hrR := hR.out
    go_wp2_with fail
    exact ret_stored2 (p := 4) (q := 5) (ty := 42) (g := w.heap.size + 1 + 1) (n := 8) (c := arrK .u64 8 (cat2 (wd 0) (wd 0))) rfl Try.underlying42 rfl (by kernel_rfl) rfl hrR hcz.1 rfl ⟨rfl, below_setRow hL.out (by omega)⟩
  | true =>
    have hr1 := hB.out.row
    have hr2 := hB.out.eq
    go_wp2_with fail
    refine (kO2.out _).mono ?_
    rintro e w3 ⟨rfl, hbz⟩
    replace hA := Lib.hid (hA.out.step hbz)
    replace hB := Lib.hid (hB.out.step hbz)
    replace hR := Lib.hid (row_below hR.out hbz hR.out.lt)
    replace hL := Lib.hid (below_step hbz hL.out (Nat.le_refl _))
    clear hr1 hr2 hbz kO2
    dsimp only
    cases b2 with
    | false =>
      have hrR := hR.out
      go_wp2_with fail
      exact ret_stored2 (p := 4) (q := 5) (ty := 42) (g := w.heap.size + 1 + 1) (n := 8) (c := arrK .u64 8 (cat2 (wd 0) (wd 0))) rfl Try.underlying42 rfl (by kernel_rfl) rfl hrR hcz.1 rfl ⟨rfl, below_setRow hL.out (by omega)⟩
    | true =>
      go_upto_region 3 with (fail)
      generalize ha0 : Act.mk _ _ = a0
      have e2 : a0.tmps[2]?.getD undef = .pointer (some ⟨w.heap.size, 0, none⟩) := by rw [← ha0]; rfl
      have e3 : a0.tmps[3]?.getD undef = .pointer (some ⟨w.heap.size + 1, 0, none⟩) := by rw [← ha0]; rfl
      have e4 : a0.tmps[4]?.getD undef = .pointer (some ⟨w.heap.size + 1 + 1, 0, none⟩) := by rw [← ha0]; rfl
      have hz0 : a0.tmps.size = 21 := by rw [← ha0]; rfl
      have hha0 := Lib.hid ha0
      clear ha0
      refine wp_region_one (fun jx_ => match jx_ with | 0 => some (.agg (arrK .u64 8 (cat2 (wd x1) (wd y1)))) | 1 => some (.agg (arrK .u64 16 (cat4 (wd x1) (wd y1) (wd 1) (wd m1)))) | 2 => some (.agg (arrK .u64 8 (cat2 (wd x2) (wd y2)))) | 3 => some (.agg (arrK .u64 16 (cat4 (wd x2) (wd y2) (wd 1) (wd m2)))) | 4 => some (.agg (arrK .u64 16 (cat4 (wd r1) (wd r2) (wd r3) (wd r4)))) | 5 => some (.agg (arrK .u64 8 (cat2 (wd X) (wd Y)))) | 7 => some ( (Value.int IntKind.i64 0)) | _ => none) 6 ((w.heap.size + 1 + 1)) 8 (arrK .u64 8 (cat2 (wd X) (wd Y))) (by kernel_rfl) (by kernel_rfl) (by kernel_rfl) (slotsOk_of hz0 (by kernel_rfl)) (of_decide_eq_true (by kernel_rfl)) hR.out ⟨?_, ?_, ?_, ?_, ?_, ?_, ?_, ?_, trivial⟩ ?_
      · refine one_before (by decide) (by kernel_rfl) (calm_step rfl fun aa ω κ hb hu hc hK => ?_)
        have h2 : aa.tmps[2]?.getD undef = .pointer (some ⟨w.heap.size, 0, none⟩) := (hu 2 rfl).trans e2
        have hk := Lib.hid (fun w1 (h : Below ω.heap.size ω w1) => hK (.agg (arrK .u64 8 (cat2 (wd x1) (wd y1)))) w1 rfl h)
        clear hK hu hc
        have hr1 := (hA.out.step hb).row
        have hr2 := (hA.out.step hb).eq
        go_simp
        exact hk.out _ (Below.refl _ _)
      · refine one_before (by decide) (by kernel_rfl) (calm_step rfl fun aa ω κ hb hu hc hK => ?_)
        have h15 : aa.tmps[15]?.getD undef = .agg (arrK .u64 8 (cat2 (wd x1) (wd y1))) := hc 0 15 rfl rfl
        have hk := Lib.hid (fun w1 (h : Below ω.heap.size ω w1) => hK (.agg (arrK .u64 16 (cat4 (wd x1) (wd y1) (wd 1) (wd m1)))) w1 rfl h)
        clear hK hu hc
        go_simp
        go_at_call 100
        refine (kQ1.out _).mono ?_
        rintro e w1 ⟨rfl, hb1⟩
        exact hk.out _ hb1
      · refine one_before (by decide) (by kernel_rfl) (calm_step rfl fun aa ω κ hb hu hc hK => ?_)
        have h3 : aa.tmps[3]?.getD undef = .pointer (some ⟨w.heap.size + 1, 0, none⟩) := (hu 3 rfl).trans e3
        have hk := Lib.hid (fun w1 (h : Below ω.heap.size ω w1) => hK (.agg (arrK .u64 8 (cat2 (wd x2) (wd y2)))) w1 rfl h)
        clear hK hu hc
        have hr1 := (hB.out.step hb).row
        have hr2 := (hB.out.step hb).eq
        go_simp
        exact hk.out _ (Below.refl _ _)
      · refine one_before (by decide) (by kernel_rfl) (calm_step rfl fun aa ω κ hb hu hc hK => ?_)
        have h17 : aa.tmps[17]?.getD undef = .agg (arrK .u64 8 (cat2 (wd x2) (wd y2))) := hc 2 17 rfl rfl
        have hk := Lib.hid (fun w1 (h : Below ω.heap.size ω w1) => hK (.agg (arrK .u64 16 (cat4 (wd x2) (wd y2) (wd 1) (wd m2)))) w1 rfl h)
        clear hK hu hc
        go_simp
        go_at_call 100
        refine (kQ2.out _).mono ?_
        rintro e w1 ⟨rfl, hb1⟩
        exact hk.out _ hb1
      · refine one_before (by decide) (by kernel_rfl) (calm_step rfl fun aa ω κ hb hu hc hK => ?_)
        have h16 : aa.tmps[16]?.getD undef = .agg (arrK .u64 16 (cat4 (wd x1) (wd y1) (wd 1) (wd m1))) := hc 1 16 rfl rfl
        have h18 : aa.tmps[18]?.getD undef = .agg (arrK .u64 16 (cat4 (wd x2) (wd y2) (wd 1) (wd m2))) := hc 3 18 rfl rfl
        have hk := Lib.hid (fun w1 (h : Below ω.heap.size ω w1) => hK (.agg (arrK .u64 16 (cat4 (wd r1) (wd r2) (wd r3) (wd r4)))) w1 rfl h)
        clear hK hu hc
        go_simp
        go_at_call 102
        refine (kPl.out _).mono ?_
        rintro e w1 ⟨rfl, hb1⟩
        exact hk.out _ hb1
      · refine one_before (by decide) (by kernel_rfl) (calm_step rfl fun aa ω κ hb hu hc hK => ?_)
        have h19 : aa.tmps[19]?.getD undef = .agg (arrK .u64 16 (cat4 (wd r1) (wd r2) (wd r3) (wd r4))) := hc 4 19 rfl rfl
        have hk := Lib.hid (fun w1 (h : Below ω.heap.size ω w1) => hK (.agg (arrK .u64 8 (cat2 (wd X) (wd Y)))) w1 rfl h)
        clear hK hu hc
        go_simp
        go_at_call 104
        refine (kPt.out _).mono ?_
        rintro e w1 ⟨rfl, hb1⟩
        exact hk.out _ hb1
      · refine one_q (one_write rfl rfl fun aa ω κ hb hu hc hr hK => ?_)
        have h4 : aa.tmps[4]?.getD undef = .pointer (some ⟨w.heap.size + 1 + 1, 0, none⟩) := (hu 4 rfl).trans e4
        have h20 : aa.tmps[20]?.getD undef = .agg (arrK .u64 8 (cat2 (wd X) (wd Y))) := hc 5 20 rfl rfl
        have hk := Lib.hid hK
        clear hK hu hc
        have hcc := hcr
        go_simp
        exact hk.out undef
      · refine one_free (by decide) fun W_ => calm_step rfl fun aa ω κ hb hu hc hK => ?_
        have hk := Lib.hid (fun w1 (h : Below ω.heap.size ω w1) => hK ( (Value.int IntKind.i64 0)) w1 rfl h)
        clear hK hu hc
        go_simp
        exact hk.out _ (Below.refl _ _)
      · intro a1 w1 hb1 hu1 hsz1 hdf1 hv1
        have ha0 := hha0.out
        subst ha0
        have he := act_patch (n := 21) [false, false, false, false, false, true, false, false, false, false, false, false, false, false, false, true, true, true, true, true, true] rfl (by kernel_rfl) hu1 hsz1 hdf1
        simp only [patch, cond_true, cond_false, Nat.reduceAdd] at he
        have hXz := (At.put (k := .u64) (f := (cat2 (wd X) (wd Y))) hR.out).below hb1 (by simpa using hR.out.lt)
        have hLz := Lib.hid (Below.trans (below_setRow (c := arrK .u64 8 (cat2 (wd X) (wd Y))) hL.out (by omega)) (hb1.mono (by simpa using hL.out.size)))
        clear hR hL hA hB kQ1 kQ2 kPl kPt
        have h5 : a1.tmps[5]?.getD undef = .int .i64 0 := hv1 7 5 (by decide) rfl
        clear hb1 hu1 hsz1 hdf1 hv1 hz0 hha0 e2 e3 e4
        rw [he]
        clear he
        generalize a1.tmps[5]?.getD undef = x5 at *
        generalize a1.tmps[15]?.getD undef = x15 at *
        generalize a1.tmps[16]?.getD undef = x16 at *
        generalize a1.tmps[17]?.getD undef = x17 at *
        generalize a1.tmps[18]?.getD undef = x18 at *
        generalize a1.tmps[19]?.getD undef = x19 at *
        generalize a1.tmps[20]?.getD undef = x20 at *
        have hx5 : x5 = .int .i64 0 := h5
        subst hx5
        go_wp2_with fail
        refine ret_row2c (p := 4) (q := 5) (ty := 42) (g := w.heap.size + 1 + 1) (n := 8) rfl Try.underlying42 rfl (by kernel_rfl) rfl hXz.row rfl ?_
        rw [hXz.eq]
        exact ⟨rfl, hLz.out⟩
end Go.Proofs.Ytodcjeaannfbnaa
