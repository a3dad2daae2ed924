/- Contracts of package scalar: L, Low, Reduce, Add, Neg, Mul, Inv. -/
import Derived.Test.YtdlmamnnamlleaaDoorInv
import Derived.Test.YtdlmamnnamlleaaDoorPrm
import Derived.Test.YtdlmamnnamlleaaDoorOneW
import Derived.Test.YtdlmamnnamlleaaDoorBld
import Derived.Test.YtdlmamnnamlleaaDoorLimb5
namespace Go.Proofs.YtdlmamnnamlleaaDoor
open Go.ChangeShapes Go.WideShapes Go.ChangeAt Go.RowKit
set_option maxHeartbeats 2000000
set_option maxRecDepth 100000
attribute [local go_sem ↓] load_num store_num execl_num execs_num load_wide store_wide execl_wide execs_wide
attribute [local go_sem] isHead_mk blkOf_mk isAgg_mk cellsV_mk row_drew rowAt_drew row_new_cells row_old rowAt_new rowAt_old setRow_new zeroNum zeroWide
theorem fL_lt : fL < 2 ^ 253 := by decide +kernel
theorem fL_lt' : fL < 2 ^ 256 := by decide +kernel
theorem fL_pos : 1000 < fL := by decide +kernel
theorem lt_L {a : Nat} : a % fL < fL := Nat.mod_lt _ (Nat.lt_trans (by omega) fL_pos)
theorem mod_L {a : Nat} : a % fL < 2 ^ 256 := Nat.lt_trans lt_L fL_lt'
theorem build_L (w : World) : (Instr.build 41 #[(0, Value.int IntKind.u64 6346243789798364141), (1, Value.int IntKind.u64 1503914060200516822), (2, Value.int IntKind.u64 0), (3, Value.int IntKind.u64 1152921504606846976)]).run Tryd.prog w = .ok (.agg (arrK .u64 4 (wd fL))) w := run_build w _ _ _ (by kernel_rfl)
theorem build_nz (w : World) : (Instr.build 41 #[]).run Tryd.prog w = .ok (.agg (arrK .u64 4 (wd 0))) w := run_build w _ _ _ (by kernel_rfl)
section
variable {P : Program} {ops : Array Oper} {o : Oper} {a : Act} {w : World} {K : Act → World → Prop} {Q : Exit → Act → World → Prop} {t : TypeId} {u : Value}
theorem wp_bldS (ho : o.op = .build t #[]) (hr : (Instr.build t #[]).run P w = .ok u w) (h : K (a.put o.dst u) w) : Oper.wp P o a w K Q := by
  obtain ⟨dst, op, tt, pos, af, gd⟩ := o
  subst ho
  unfold Oper.wp execOp
  simp only [List.map_toArray, List.map_nil, Sem.run_bind, hr, Result.andThen_ok]
  exact h
end
section
variable {P : Program} {ops : Array Oper} {Q : Exit → Act → World → Prop} {o : Oper} {a : Act} {w : World} {rest : List Oper} {t : TypeId} {u : Value}
theorem wpList_opS (hw : Region.wanted o (yielded ops a.tmps) = true) (h : ∀ K : Act → World → Prop, (∀ a' w', wpList P ops Q rest a' w' → K a' w') → Oper.wp P o a w K Q) : wpList P ops Q (o :: rest) a w :=
  wpList_step fun K hK => by rw [if_pos hw]; exact h K hK
variable {v0 v1 v2 v3 : Value} {x0 x1 x2 x3 : Operand}
theorem wpList_bldL4 (hgd : o.guard = none) (ho : o.op = .build t #[(0, x0), (1, x1), (2, x2), (3, x3)]) (h0 : a.eval x0 = v0) (h1 : a.eval x1 = v1) (h2 : a.eval x2 = v2) (h3 : a.eval x3 = v3)
    (hr : (Instr.build t #[(0, v0), (1, v1), (2, v2), (3, v3)]).run P w = .ok u w) (h : wpList P ops Q rest (a.put o.dst u) w) : wpList P ops Q (o :: rest) a w :=
  wpList_step fun K hK => by
    have hw : Region.wanted o (yielded ops a.tmps) = true := by simp [Region.wanted, hgd]
    rw [if_pos hw]
    subst h0 h1 h2 h3
    obtain ⟨dst, op, tt, pos, af, gd⟩ := o
    subst ho
    unfold Oper.wp execOp
    simp only [List.map_toArray, List.map_cons, List.map_nil, Sem.run_bind, hr, Result.andThen_ok]
    exact hK _ _ h
end
theorem scalar_L (w : World) : Calls Tryd.prog 52 #[] w fun e w' => e = .returned (numV fL) ∧ Below w.heap.size w w' := by
  unfold numV
  have hcz := arrK_cells .u64 4 (wd 0)
  have hcp := arrK_cells .u64 4 (wd fL)
  have hL0 := below_alloc w (Obj.cells (arrK .u64 4 (wd 0)) 41)
  have hR0 : Row (w.alloc (Obj.cells (arrK .u64 4 (wd 0)) 41)) w.heap.size 4 := (row_new rfl).2 hcz.1
  obtain ⟨X, hX⟩ : ∃ X, arrK .u64 4 (wd fL) = X := ⟨_, rfl⟩
  have hbp := Lib.hid (fun V => build_L V)
  rw [hX] at hbp hcp ⊢
  clear hX
  go_enter Tryd.func52, Tryd.ntmps52
  go_upto_region 1 with (fail)
  generalize w.alloc (Obj.cells (arrK .u64 4 (wd 0)) 41) = W0 at *
  go_wp2_with (refine wpList_bldL4 (v0 := Value.int IntKind.u64 6346243789798364141) (v1 := Value.int IntKind.u64 1503914060200516822) (v2 := Value.int IntKind.u64 0) (v3 := Value.int IntKind.u64 1152921504606846976) rfl rfl rfl rfl rfl rfl (hbp.out _) ?_)
  exact ret_stored (p := 0) (ty := 41) (g := w.heap.size) (n := 4) (c := X) rfl Tryd.underlying41 rfl (by kernel_rfl) rfl hR0 hcp.1 rfl ⟨rfl, below_setRow hL0 (Nat.le_refl _)⟩
theorem scalar_Reduce (a : Nat) (w : World) (ha : a < 2 ^ (64 * 8)) : Calls Tryd.prog 81 #[wideV a] w fun e w' => e = .returned (numV (a % fL)) ∧ Below w.heap.size w w' := by
  have kL := Lib.hid (fun V => scalar_L V)
  have kM := Lib.hid (fun V => quot_Mod a fL V ha fL_lt' (Nat.ne_of_gt (Nat.lt_trans (by omega) fL_pos)))
  obtain ⟨r, hr⟩ : ∃ r, a % fL = r := ⟨_, rfl⟩
  rw [hr] at kM ⊢
  obtain ⟨l, hl⟩ : ∃ r, fL = r := ⟨_, rfl⟩
  rw [hl] at kL kM
  clear hr hl ha
  unfold numV at kL kM ⊢
  unfold wideV at kM ⊢
  have hc0 := arrK_cells .u64 4 (wd 0)
  have hcr := arrK_cells .u64 4 (wd r)
  have hL0 : Below w.heap.size w ((w.alloc (Obj.cells (arrK .u64 8 (wd a)) 154)).alloc (Obj.cells (arrK .u64 4 (wd 0)) 41)) := by go_grown
  have hA0 : At ((w.alloc (Obj.cells (arrK .u64 8 (wd a)) 154)).alloc (Obj.cells (arrK .u64 4 (wd 0)) 41)) (w.heap.size) .u64 8 (wd a) := ((At.new _ (by simp))).old _
  have hR0 : Row ((w.alloc (Obj.cells (arrK .u64 8 (wd a)) 154)).alloc (Obj.cells (arrK .u64 4 (wd 0)) 41)) (w.heap.size + 1) 4 := (At.new (k := .u64) (f := wd 0) _ (by simp)).row
  have hL := Lib.hid hL0
  have hA := Lib.hid hA0
  have hR := Lib.hid hR0
  clear hL0 hA0 hR0
  go_enter Tryd.func81, Tryd.ntmps81
  go_upto_region 1 with (fail)
  generalize (w.alloc _).alloc _ = W0 at *
  generalize ha0 : Act.mk _ _ = a0
  have e1 : a0.tmps[1]?.getD undef = .pointer (some ⟨w.heap.size, 0, none⟩) := by rw [← ha0]; rfl
  have hz0 : a0.tmps.size = 12 := by rw [← ha0]; rfl
  have hha0 := Lib.hid ha0
  clear ha0
  refine wp_region_fresh ⟨fun jx_ => match jx_ with | 0 => some (.agg (arrK .u64 8 (wd a))) | 1 => some (.agg (arrK .u64 4 (wd l))) | 2 => some (.tuple #[.agg (arrK .u64 4 (wd r)), .int .i64 0]) | 3 => some (.tuple #[.agg (arrK .u64 4 (wd r)), .int .i64 0]) | 4 => some (.agg (arrK .u64 4 (wd r))) | 5 => some (.int .i64 0) | 8 => some (.int .i64 0) | _ => none, fun jx_ => match jx_ with | 6 => some 4 | _ => none, fun jx_ => match jx_ with | 7 => some 6 | _ => none, fun jx_ => match jx_ with | 7 => arrK .u64 4 (wd r) | _ => #[]⟩ (by kernel_rfl) (by kernel_rfl) (by kernel_rfl) (slotsOk_of hz0 (by kernel_rfl)) rfl ⟨?_, ?_, ?_, ?_, ?_, ?_, ?_, ?_, ?_, trivial⟩ ?_
  · refine fstep_val rfl rfl (calm_step rfl fun aa ω κ hb hu hc hK => ?_)
    have h1 : aa.tmps[1]?.getD undef = .pointer (some ⟨w.heap.size, 0, none⟩) := (hu 1 rfl).trans e1
    have hk := Lib.hid (fun w1 (h : Below ω.heap.size ω w1) => hK (.agg (arrK .u64 8 (wd a))) w1 rfl h)
    clear hK hu hc
    have hr1 := (hA.out.step hb).row
    have hr2 := (hA.out.step hb).eq
    go_simp
    exact hk.out _ (Below.refl _ _)
  · refine fstep_val rfl rfl (calm_step rfl fun aa ω κ hb hu hc hK => ?_)
    have hk := Lib.hid (fun w1 (h : Below ω.heap.size ω w1) => hK (.agg (arrK .u64 4 (wd l))) w1 rfl h)
    clear hK hu hc
    go_simp
    go_at_call 52
    refine (kL.out _).mono ?_
    rintro e w1 ⟨rfl, hb1⟩
    exact hk.out _ hb1
  · refine fstep_val rfl rfl (calm_step rfl fun aa ω κ hb hu hc hK => ?_)
    have h6 : aa.tmps[6]?.getD undef = .agg (arrK .u64 8 (wd a)) := hc 0 6 rfl rfl
    have h7 : aa.tmps[7]?.getD undef = .agg (arrK .u64 4 (wd l)) := hc 1 7 rfl rfl
    have hk := Lib.hid (fun w1 (h : Below ω.heap.size ω w1) => hK (.tuple #[.agg (arrK .u64 4 (wd r)), .int .i64 0]) w1 rfl h)
    clear hK hu hc
    go_simp
    go_at_call 110
    refine (kM.out _).mono ?_
    rintro e w1 ⟨rfl, hb1⟩
    exact hk.out _ hb1
  · refine fstep_val rfl rfl (calm_step rfl fun aa ω κ hb hu hc hK => ?_)
    have h8 : aa.tmps[8]?.getD undef = .tuple #[.agg (arrK .u64 4 (wd r)), .int .i64 0] := hc 2 8 rfl rfl
    have hk := Lib.hid (fun w1 (h : Below ω.heap.size ω w1) => hK (.tuple #[.agg (arrK .u64 4 (wd r)), .int .i64 0]) w1 rfl h)
    clear hK hu hc
    go_simp
    exact hk.out _ (Below.refl _ _)
  · refine fstep_val rfl rfl (calm_step rfl fun aa ω κ hb hu hc hK => ?_)
    have h5 : aa.tmps[5]?.getD undef = .tuple #[.agg (arrK .u64 4 (wd r)), .int .i64 0] := hc 3 5 rfl rfl
    have hk := Lib.hid (fun w1 (h : Below ω.heap.size ω w1) => hK (.agg (arrK .u64 4 (wd r))) w1 rfl h)
    clear hK hu hc
    go_simp
    exact hk.out _ (Below.refl _ _)
  · refine fstep_val rfl rfl (calm_step rfl fun aa ω κ hb hu hc hK => ?_)
    have h5 : aa.tmps[5]?.getD undef = .tuple #[.agg (arrK .u64 4 (wd r)), .int .i64 0] := hc 3 5 rfl rfl
    have hk := Lib.hid (fun w1 (h : Below ω.heap.size ω w1) => hK (.int .i64 0) w1 rfl h)
    clear hK hu hc
    go_simp
    exact hk.out _ (Below.refl _ _)
  · refine fstep_al (n := 4) rfl rfl fun aa ω κ hK => ?_
    have hk := Lib.hid hK
    clear hK
    go_simp
    exact hk.out _ _ hc0
  · refine fstep_st (j := 6) (n := 4) (d := 3) rfl rfl rfl rfl rfl hcr.1 rfl rfl fun aa ω κ g hb hu hc hp hr hK => ?_
    have h9 : aa.tmps[9]?.getD undef = .agg (arrK .u64 4 (wd r)) := hc 4 9 rfl rfl
    have hk := Lib.hid hK
    clear hK hu hc
    have hcc := hcr
    go_simp
    exact hk.out undef
  · refine fstep_val rfl rfl (calm_step rfl fun aa ω κ hb hu hc hK => ?_)
    have h10 : aa.tmps[10]?.getD undef = .int .i64 0 := hc 5 10 rfl rfl
    have hk := Lib.hid (fun w1 (h : Below ω.heap.size ω w1) => hK (.int .i64 0) w1 rfl h)
    clear hK hu hc
    go_simp
    exact hk.out _ (Below.refl _ _)
  · intro a1 w1 G I
    have ha0 := hha0.out
    subst ha0
    have he := act_patch (n := 12) [false, false, false, true, true, true, true, true, true, true, true, false] rfl (by kernel_rfl) I.un I.sz I.df
    simp only [patch, cond_true, cond_false, Nat.reduceAdd] at he
    have hal3 := I.al 6 3 4 rfl rfl rfl
    replace hR := Lib.hid (row_below hR.out I.bel hR.out.lt)
    replace hL := Lib.hid (below_step I.bel hL.out (Nat.le_refl _))
    have hX := Lib.hid (show At w1 (G 6) .u64 4 (wd r) from ⟨(I.blk 6 4 rfl rfl).2, (I.row 7 6 rfl rfl).2.2⟩)
    clear kL kM hA
    clear I hz0 hha0 e1
    rw [he]
    clear he
    rw [hal3]
    clear hal3
    generalize a1.tmps[4]?.getD undef = x4 at *
    generalize a1.tmps[5]?.getD undef = x5 at *
    generalize a1.tmps[6]?.getD undef = x6 at *
    generalize a1.tmps[7]?.getD undef = x7 at *
    generalize a1.tmps[8]?.getD undef = x8 at *
    generalize a1.tmps[9]?.getD undef = x9 at *
    generalize a1.tmps[10]?.getD undef = x10 at *
    obtain ⟨g5, hg⟩ : ∃ g, G 6 = g := ⟨_, rfl⟩
    rw [hg] at hX ⊢
    clear hg
    generalize w1 = W3 at *
    have hr1 := hX.out.row
    have hr2 := hX.out.eq
    have hr3 := hR.out
    go_wp2_with fail
    refine ret_row (p := 2) (ty := 41) (g := w.heap.size + 1) rfl Tryd.underlying41 rfl (by kernel_rfl) rfl ((row_setRow_same rfl hR.out).2 hcr.1) rfl ?_
    rw [rowAt_setRow_same hR.out]
    exact ⟨rfl, below_setRow hL.out (by omega)⟩
theorem low_wide {a k m : Nat} (h : a < 2 ^ k) (hk : k ≤ m) : a < 2 ^ m := Nat.lt_of_lt_of_le h (Nat.pow_le_pow_right (by omega) hk)
theorem mul_wide {a b j k m : Nat} (ha : a < 2 ^ j) (hb : b < 2 ^ k) (h : j + k = m) : a * b < 2 ^ m := by rw [← h, Nat.pow_add]; exact Nat.mul_lt_mul'' ha hb
theorem scalar_ReduceK (a k : Nat) (w : World) (ha : a < 2 ^ k) (hk : k = 64 * 8) : Calls Tryd.prog 81 #[wideV a] w fun e w' => e = .returned (numV (a % fL)) ∧ Below w.heap.size w w' := by
  subst hk
  exact scalar_Reduce a w ha
theorem scalar_Low (a : Nat) (w : World) (ha : a < 2 ^ 256) : Calls Tryd.prog 80 #[numV a] w fun e w' => e = .returned (numV (a % fL)) ∧ Below w.heap.size w w' := by
  have kW := Lib.hid (fun V => limb_Wide a 0 V ha)
  rw [Nat.mul_zero, Nat.add_zero] at kW
  obtain ⟨kk, hkk⟩ : ∃ k, k = 64 * 8 := ⟨_, rfl⟩
  have kR := Lib.hid (fun V => scalar_ReduceK a kk V (low_wide ha (by omega)) hkk)
  clear hkk
  obtain ⟨r, hr⟩ : ∃ r, a % fL = r := ⟨_, rfl⟩
  rw [hr] at kR ⊢
  clear hr ha
  unfold numV at kW kR ⊢
  unfold wideV at kW kR
  have hc0 := arrK_cells .u64 4 (wd 0)
  have hcr := arrK_cells .u64 4 (wd r)
  have hL0 : Below w.heap.size w ((w.alloc (Obj.cells (arrK .u64 4 (wd a)) 41)).alloc (Obj.cells (arrK .u64 4 (wd 0)) 41)) := by go_grown
  have hA0 : At ((w.alloc (Obj.cells (arrK .u64 4 (wd a)) 41)).alloc (Obj.cells (arrK .u64 4 (wd 0)) 41)) (w.heap.size) .u64 4 (wd a) := ((At.new _ (by simp))).old _
  have hR0 : Row ((w.alloc (Obj.cells (arrK .u64 4 (wd a)) 41)).alloc (Obj.cells (arrK .u64 4 (wd 0)) 41)) (w.heap.size + 1) 4 := (At.new (k := .u64) (f := wd 0) _ (by simp)).row
  have hL := Lib.hid hL0
  have hA := Lib.hid hA0
  have hR := Lib.hid hR0
  clear hL0 hA0 hR0
  go_enter Tryd.func80, Tryd.ntmps80
  go_upto_region 1 with (fail)
  generalize (w.alloc _).alloc _ = W0 at *
  have hr1 := hA.out.row
  have hr2 := hA.out.eq
  go_wp2_with (first
    | refine wpList_opS (by go_simp) (fun K hK => wp_bldS rfl (build_nz _) (hK _ _ ?_)))
  refine (kW.out _).mono ?_
  rintro e w9 ⟨rfl, hb⟩
  replace hR := Lib.hid (row_below hR.out hb hR.out.lt)
  replace hL := Lib.hid (below_step hb hL.out (Nat.le_refl _))
  clear hr1 hr2 hb kW hA
  dsimp only
  go_wp2_with fail
  refine (kR.out _).mono ?_
  rintro e w8 ⟨rfl, hb⟩
  replace hR := Lib.hid (row_below hR.out hb hR.out.lt)
  replace hL := Lib.hid (below_step hb hL.out (Nat.le_refl _))
  clear hb kR
  dsimp only
  have hr3 := hR.out
  go_wp2_with fail
  refine ret_row (p := 2) (ty := 41) (g := w.heap.size + 1) rfl Tryd.underlying41 rfl (by kernel_rfl) rfl ((row_setRow_same rfl hR.out).2 hcr.1) rfl ?_
  rw [rowAt_setRow_same hR.out]
  exact ⟨rfl, below_setRow hL.out (by omega)⟩
theorem scalar_Mul (a b : Nat) (w : World) (ha : a < 2 ^ 256) (hb : b < 2 ^ 256) : Calls Tryd.prog 54 #[numV a, numV b] w fun e w' => e = .returned (numV (a * b % fL)) ∧ Below w.heap.size w w' := by
  have kW := Lib.hid (fun V => limb_Mul a b V ha hb)
  obtain ⟨kk, hkk⟩ : ∃ k, k = 64 * 8 := ⟨_, rfl⟩
  have kR := Lib.hid (fun V => scalar_ReduceK (a * b) kk V (mul_wide ha hb (by omega)) hkk)
  clear hkk
  obtain ⟨r, hr⟩ : ∃ r, a * b % fL = r := ⟨_, rfl⟩
  rw [hr] at kR ⊢
  obtain ⟨p, hp⟩ : ∃ r, a * b = r := ⟨_, rfl⟩
  rw [hp] at kW kR
  clear hp hr ha hb
  unfold numV at kW kR ⊢
  unfold wideV at kW kR
  have hc0 := arrK_cells .u64 4 (wd 0)
  have hcr := arrK_cells .u64 4 (wd r)
  have hL0 : Below w.heap.size w (((w.alloc (Obj.cells (arrK .u64 4 (wd a)) 41)).alloc (Obj.cells (arrK .u64 4 (wd b)) 41)).alloc (Obj.cells (arrK .u64 4 (wd 0)) 41)) := by go_grown
  have hA0 : At (((w.alloc (Obj.cells (arrK .u64 4 (wd a)) 41)).alloc (Obj.cells (arrK .u64 4 (wd b)) 41)).alloc (Obj.cells (arrK .u64 4 (wd 0)) 41)) (w.heap.size) .u64 4 (wd a) := (((At.new _ (by simp))).old _).old _
  have hB0 : At (((w.alloc (Obj.cells (arrK .u64 4 (wd a)) 41)).alloc (Obj.cells (arrK .u64 4 (wd b)) 41)).alloc (Obj.cells (arrK .u64 4 (wd 0)) 41)) (w.heap.size + 1) .u64 4 (wd b) := ((At.new _ (by simp))).old _
  have hR0 : Row (((w.alloc (Obj.cells (arrK .u64 4 (wd a)) 41)).alloc (Obj.cells (arrK .u64 4 (wd b)) 41)).alloc (Obj.cells (arrK .u64 4 (wd 0)) 41)) (w.heap.size + 1 + 1) 4 := (At.new (k := .u64) (f := wd 0) _ (by simp)).row
  have hL := Lib.hid hL0
  have hA := Lib.hid hA0
  have hB := Lib.hid hB0
  have hR := Lib.hid hR0
  clear hL0 hA0 hB0 hR0
  go_enter Tryd.func54, Tryd.ntmps54
  go_upto_region 1 with (fail)
  generalize ((w.alloc _).alloc _).alloc _ = W0 at *
  have hr1 := hA.out.row
  have hr2 := hA.out.eq
  have hr4 := hB.out.row
  have hr5 := hB.out.eq
  go_wp2_with fail
  refine (kW.out _).mono ?_
  rintro e w9 ⟨rfl, hb⟩
  replace hR := Lib.hid (row_below hR.out hb hR.out.lt)
  replace hL := Lib.hid (below_step hb hL.out (Nat.le_refl _))
  clear hr1 hr2 hr4 hr5 hb kW hA hB
  dsimp only
  go_wp2_with fail
  refine (kR.out _).mono ?_
  rintro e w8 ⟨rfl, hb⟩
  replace hR := Lib.hid (row_below hR.out hb hR.out.lt)
  replace hL := Lib.hid (below_step hb hL.out (Nat.le_refl _))
  clear hb kR
  dsimp only
  have hr3 := hR.out
  go_wp2_with fail
  refine ret_row (p := 4) (ty := 41) (g := w.heap.size + 1 + 1) rfl Tryd.underlying41 rfl (by kernel_rfl) rfl ((row_setRow_same rfl hR.out).2 hcr.1) rfl ?_
  rw [rowAt_setRow_same hR.out]
  exact ⟨rfl, below_setRow hL.out (by omega)⟩
theorem addN_small {a b : Nat} : addN (a % fL) (b % fL) = a % fL + b % fL ∧ a % fL + b % fL < 2 ^ 256 := by
  have h1 := lt_L (a := a)
  have h2 := lt_L (a := b)
  have h3 := fL_lt
  have h4 : (2 : Nat) ^ 253 + 2 ^ 253 < 2 ^ 256 := by decide +kernel
  unfold addN
  generalize (2 : Nat) ^ 256 = P at *
  generalize (2 : Nat) ^ 253 = Q at *
  exact ⟨Nat.mod_eq_of_lt (by omega), by omega⟩
theorem scalar_Add (a b : Nat) (w : World) (ha : a < 2 ^ 256) (hb : b < 2 ^ 256) : Calls Tryd.prog 53 #[numV a, numV b] w fun e w' => e = .returned (numV ((a + b) % fL)) ∧ Below w.heap.size w w' := by
  have kA := Lib.hid (fun V => scalar_Low a V ha)
  have kB := Lib.hid (fun V => scalar_Low b V hb)
  have kS := Lib.hid (fun V => limb_Add (a % fL) (b % fL) V mod_L mod_L)
  rw [addN_small.1] at kS
  have kR := Lib.hid (fun V => scalar_Low (a % fL + b % fL) V addN_small.2)
  rw [← Nat.add_mod] at kR
  obtain ⟨r, hr⟩ : ∃ r, (a + b) % fL = r := ⟨_, rfl⟩
  rw [hr] at kR ⊢
  obtain ⟨c, hc⟩ : ∃ c, overN (a % fL) (b % fL) = c := ⟨_, rfl⟩
  rw [hc] at kS
  obtain ⟨s, hs⟩ : ∃ s, a % fL + b % fL = s := ⟨_, rfl⟩
  rw [hs] at kS kR
  obtain ⟨x, hx⟩ : ∃ s, a % fL = s := ⟨_, rfl⟩
  rw [hx] at kA kS
  obtain ⟨y, hy⟩ : ∃ s, b % fL = s := ⟨_, rfl⟩
  rw [hy] at kB kS
  clear hy hx hs hc hr ha hb
  unfold numV at kA kB kS kR ⊢
  have hc0 := arrK_cells .u64 4 (wd 0)
  have hcs := arrK_cells .u64 4 (wd s)
  have hcr := arrK_cells .u64 4 (wd r)
  have hL0 : Below w.heap.size w (((w.alloc (Obj.cells (arrK .u64 4 (wd a)) 41)).alloc (Obj.cells (arrK .u64 4 (wd b)) 41)).alloc (Obj.cells (arrK .u64 4 (wd 0)) 41)) := by go_grown
  have hA0 : At (((w.alloc (Obj.cells (arrK .u64 4 (wd a)) 41)).alloc (Obj.cells (arrK .u64 4 (wd b)) 41)).alloc (Obj.cells (arrK .u64 4 (wd 0)) 41)) (w.heap.size) .u64 4 (wd a) := (((At.new _ (by simp))).old _).old _
  have hB0 : At (((w.alloc (Obj.cells (arrK .u64 4 (wd a)) 41)).alloc (Obj.cells (arrK .u64 4 (wd b)) 41)).alloc (Obj.cells (arrK .u64 4 (wd 0)) 41)) (w.heap.size + 1) .u64 4 (wd b) := ((At.new _ (by simp))).old _
  have hR0 : Row (((w.alloc (Obj.cells (arrK .u64 4 (wd a)) 41)).alloc (Obj.cells (arrK .u64 4 (wd b)) 41)).alloc (Obj.cells (arrK .u64 4 (wd 0)) 41)) (w.heap.size + 1 + 1) 4 := (At.new (k := .u64) (f := wd 0) _ (by simp)).row
  have hL := Lib.hid hL0
  have hA := Lib.hid hA0
  have hB := Lib.hid hB0
  have hR := Lib.hid hR0
  clear hL0 hA0 hB0 hR0
  go_enter Tryd.func53, Tryd.ntmps53
  go_upto_region 1 with (fail)
  generalize ((w.alloc _).alloc _).alloc _ = W0 at *
  generalize ha0 : Act.mk _ _ = a0
  have e2 : a0.tmps[2]?.getD undef = .pointer (some ⟨w.heap.size, 0, none⟩) := by rw [← ha0]; rfl
  have e3 : a0.tmps[3]?.getD undef = .pointer (some ⟨w.heap.size + 1, 0, none⟩) := by rw [← ha0]; rfl
  have hz0 : a0.tmps.size = 17 := by rw [← ha0]; rfl
  have hha0 := Lib.hid ha0
  clear ha0
  refine wp_region_fresh ⟨fun jx_ => match jx_ with | 0 => some (.agg (arrK .u64 4 (wd a))) | 1 => some (.agg (arrK .u64 4 (wd x))) | 2 => some (.agg (arrK .u64 4 (wd b))) | 3 => some (.agg (arrK .u64 4 (wd y))) | 4 => some (.tuple #[.agg (arrK .u64 4 (wd s)), .int .u64 (c : Nat)]) | 5 => some (.tuple #[.agg (arrK .u64 4 (wd s)), .int .u64 (c : Nat)]) | 6 => some (.agg (arrK .u64 4 (wd s))) | 7 => some (.int .u64 (c : Nat)) | 10 => some (.int .u64 (c : Nat)) | _ => none, fun jx_ => match jx_ with | 8 => some 4 | _ => none, fun jx_ => match jx_ with | 9 => some 8 | _ => none, fun jx_ => match jx_ with | 9 => arrK .u64 4 (wd s) | _ => #[]⟩ (by kernel_rfl) (by kernel_rfl) (by kernel_rfl) (slotsOk_of hz0 (by kernel_rfl)) rfl ⟨?_, ?_, ?_, ?_, ?_, ?_, ?_, ?_, ?_, ?_, ?_, trivial⟩ ?_
  · refine fstep_val rfl rfl (calm_step rfl fun aa ω κ hb hu hc hK => ?_)
    have h2 : aa.tmps[2]?.getD undef = .pointer (some ⟨w.heap.size, 0, none⟩) := (hu 2 rfl).trans e2
    have hk := Lib.hid (fun w1 (h : Below ω.heap.size ω w1) => hK (.agg (arrK .u64 4 (wd a))) w1 rfl h)
    clear hK hu hc
    have hr1 := (hA.out.step hb).row
    have hr2 := (hA.out.step hb).eq
    go_simp
    exact hk.out _ (Below.refl _ _)
  · refine fstep_val rfl rfl (calm_step rfl fun aa ω κ hb hu hc hK => ?_)
    have h8 : aa.tmps[8]?.getD undef = .agg (arrK .u64 4 (wd a)) := hc 0 8 rfl rfl
    have hk := Lib.hid (fun w1 (h : Below ω.heap.size ω w1) => hK (.agg (arrK .u64 4 (wd x))) w1 rfl h)
    clear hK hu hc
    go_simp
    go_at_call 80
    refine (kA.out _).mono ?_
    rintro e w1 ⟨rfl, hb1⟩
    exact hk.out _ hb1
  · refine fstep_val rfl rfl (calm_step rfl fun aa ω κ hb hu hc hK => ?_)
    have h3 : aa.tmps[3]?.getD undef = .pointer (some ⟨w.heap.size + 1, 0, none⟩) := (hu 3 rfl).trans e3
    have hk := Lib.hid (fun w1 (h : Below ω.heap.size ω w1) => hK (.agg (arrK .u64 4 (wd b))) w1 rfl h)
    clear hK hu hc
    have hr1 := (hB.out.step hb).row
    have hr2 := (hB.out.step hb).eq
    go_simp
    exact hk.out _ (Below.refl _ _)
  · refine fstep_val rfl rfl (calm_step rfl fun aa ω κ hb hu hc hK => ?_)
    have h10 : aa.tmps[10]?.getD undef = .agg (arrK .u64 4 (wd b)) := hc 2 10 rfl rfl
    have hk := Lib.hid (fun w1 (h : Below ω.heap.size ω w1) => hK (.agg (arrK .u64 4 (wd y))) w1 rfl h)
    clear hK hu hc
    go_simp
    go_at_call 80
    refine (kB.out _).mono ?_
    rintro e w1 ⟨rfl, hb1⟩
    exact hk.out _ hb1
  · refine fstep_val rfl rfl (calm_step rfl fun aa ω κ hb hu hc hK => ?_)
    have h9 : aa.tmps[9]?.getD undef = .agg (arrK .u64 4 (wd x)) := hc 1 9 rfl rfl
    have h11 : aa.tmps[11]?.getD undef = .agg (arrK .u64 4 (wd y)) := hc 3 11 rfl rfl
    have hk := Lib.hid (fun w1 (h : Below ω.heap.size ω w1) => hK (.tuple #[.agg (arrK .u64 4 (wd s)), .int .u64 (c : Nat)]) w1 rfl h)
    clear hK hu hc
    go_simp
    go_at_call 79
    refine (kS.out _).mono ?_
    rintro e w1 ⟨rfl, hb1⟩
    exact hk.out _ hb1
  · refine fstep_val rfl rfl (calm_step rfl fun aa ω κ hb hu hc hK => ?_)
    have h12 : aa.tmps[12]?.getD undef = .tuple #[.agg (arrK .u64 4 (wd s)), .int .u64 (c : Nat)] := hc 4 12 rfl rfl
    have hk := Lib.hid (fun w1 (h : Below ω.heap.size ω w1) => hK (.tuple #[.agg (arrK .u64 4 (wd s)), .int .u64 (c : Nat)]) w1 rfl h)
    clear hK hu hc
    go_simp
    exact hk.out _ (Below.refl _ _)
  · refine fstep_val rfl rfl (calm_step rfl fun aa ω κ hb hu hc hK => ?_)
    have h7 : aa.tmps[7]?.getD undef = .tuple #[.agg (arrK .u64 4 (wd s)), .int .u64 (c : Nat)] := hc 5 7 rfl rfl
    have hk := Lib.hid (fun w1 (h : Below ω.heap.size ω w1) => hK (.agg (arrK .u64 4 (wd s))) w1 rfl h)
    clear hK hu hc
    go_simp
    exact hk.out _ (Below.refl _ _)
  · refine fstep_val rfl rfl (calm_step rfl fun aa ω κ hb hu hc hK => ?_)
    have h7 : aa.tmps[7]?.getD undef = .tuple #[.agg (arrK .u64 4 (wd s)), .int .u64 (c : Nat)] := hc 5 7 rfl rfl
    have hk := Lib.hid (fun w1 (h : Below ω.heap.size ω w1) => hK (.int .u64 (c : Nat)) w1 rfl h)
    clear hK hu hc
    go_simp
    exact hk.out _ (Below.refl _ _)
  · refine fstep_al (n := 4) rfl rfl fun aa ω κ hK => ?_
    have hk := Lib.hid hK
    clear hK
    go_simp
    exact hk.out _ _ hc0
  · refine fstep_st (j := 8) (n := 4) (d := 5) rfl rfl rfl rfl rfl hcs.1 rfl rfl fun aa ω κ g hb hu hc hp hr hK => ?_
    have h13 : aa.tmps[13]?.getD undef = .agg (arrK .u64 4 (wd s)) := hc 6 13 rfl rfl
    have hk := Lib.hid hK
    clear hK hu hc
    have hcc := hcs
    go_simp
    exact hk.out undef
  · refine fstep_val rfl rfl (calm_step rfl fun aa ω κ hb hu hc hK => ?_)
    have h14 : aa.tmps[14]?.getD undef = .int .u64 (c : Nat) := hc 7 14 rfl rfl
    have hk := Lib.hid (fun w1 (h : Below ω.heap.size ω w1) => hK (.int .u64 (c : Nat)) w1 rfl h)
    clear hK hu hc
    go_simp
    exact hk.out _ (Below.refl _ _)
  · intro a1 w1 G I
    have ha0 := hha0.out
    subst ha0
    have he := act_patch (n := 17) [false, false, false, false, false, true, true, true, true, true, true, true, true, true, true, false, false] rfl (by kernel_rfl) I.un I.sz I.df
    simp only [patch, cond_true, cond_false, Nat.reduceAdd] at he
    have hal5 := I.al 8 5 4 rfl rfl rfl
    replace hR := Lib.hid (row_below hR.out I.bel hR.out.lt)
    replace hL := Lib.hid (below_step I.bel hL.out (Nat.le_refl _))
    have hX := Lib.hid (show At w1 (G 8) .u64 4 (wd s) from ⟨(I.blk 8 4 rfl rfl).2, (I.row 9 8 rfl rfl).2.2⟩)
    clear kA kB kS hA hB
    clear I hz0 hha0 e2 e3
    rw [he]
    clear he
    rw [hal5]
    clear hal5
    generalize a1.tmps[6]?.getD undef = x6 at *
    generalize a1.tmps[7]?.getD undef = x7 at *
    generalize a1.tmps[8]?.getD undef = x8 at *
    generalize a1.tmps[9]?.getD undef = x9 at *
    generalize a1.tmps[10]?.getD undef = x10 at *
    generalize a1.tmps[11]?.getD undef = x11 at *
    generalize a1.tmps[12]?.getD undef = x12 at *
    generalize a1.tmps[13]?.getD undef = x13 at *
    generalize a1.tmps[14]?.getD undef = x14 at *
    obtain ⟨g5, hg⟩ : ∃ g, G 8 = g := ⟨_, rfl⟩
    rw [hg] at hX ⊢
    clear hg
    generalize w1 = W3 at *
    have hr1 := hX.out.row
    have hr2 := hX.out.eq
    have hr3 := hR.out
    go_wp2_with fail
    refine (kR.out _).mono ?_
    rintro e w9 ⟨rfl, hb⟩
    replace hR := Lib.hid (row_below hR.out hb hR.out.lt)
    replace hL := Lib.hid (below_step hb hL.out (Nat.le_refl _))
    clear hr1 hr2 hr3 hb kR hX
    dsimp only
    have hr3 := hR.out
    go_wp2_with fail
    refine ret_row (p := 4) (ty := 41) (g := w.heap.size + 1 + 1) rfl Tryd.underlying41 rfl (by kernel_rfl) rfl ((row_setRow_same rfl hR.out).2 hcr.1) rfl ?_
    rw [rowAt_setRow_same hR.out]
    exact ⟨rfl, below_setRow hL.out (by omega)⟩
theorem subN_small {a : Nat} : subN fL (a % fL) = fL - a % fL ∧ fL - a % fL < 2 ^ 256 := by
  have h1 := lt_L (a := a)
  have h3 := fL_lt'
  unfold subN
  generalize (2 : Nat) ^ 256 = P at *
  refine ⟨?_, by omega⟩
  rw [show fL + P - a % fL = (fL - a % fL) + P by omega, Nat.add_mod_right]
  exact Nat.mod_eq_of_lt (by omega)
/-- One over a number modulo L. -/
def invL (a : Nat) : Nat := a ^ (fL - 2) % fL
theorem invL_lt (a : Nat) : invL a < 2 ^ 256 := mod_L
theorem pow_L {u : Nat} (h : u % fL ≠ 0) : u ^ (fL - 1) % fL = 1 := fermat1 fL_pr fun hd => h (Nat.mod_eq_zero_of_dvd hd)
theorem invP_is {a s c : Nat} (h : InvP a fL s c) : s = invL a ∧ c = if a % fL = 0 then 6 else 0 := by
  have h1 := fL_pos
  have hp := @pow_L a
  have hcop := @Pr.cop fL a fL_pr
  unfold invL
  rcases h with ⟨h2, -, -⟩ | ⟨-, h2, rfl, rfl⟩ | ⟨-, h2, rfl, h3, h4⟩
  · omega
  · have h5 : a % fL = 0 := by
      rcases Nat.eq_zero_or_pos (a % fL) with h6 | h6
      · exact h6
      · exfalso
        have h7 := hcop fun hd => by have := Nat.mod_eq_zero_of_dvd hd; omega
        rw [Nat.Coprime, Nat.gcd_comm] at h7
        exact h2 h7
    rw [if_pos h5]
    refine ⟨?_, rfl⟩
    rw [Nat.pow_mod, h5, Nat.zero_pow (by omega), Nat.zero_mod]
  · have h5 : a % fL ≠ 0 := by
      intro h6
      rw [Nat.mul_mod, h6, Nat.zero_mul, Nat.zero_mod, Nat.mod_eq_of_lt (by omega)] at h4
      cases h4
    rw [if_neg h5]
    refine ⟨?_, rfl⟩
    have h6 := hp h5
    have h7 : a * a ^ (fL - 2) = a ^ (fL - 1) := by
      have h10 : (fL - 2).succ = fL - 1 := by omega
      rw [Nat.mul_comm, ← Nat.pow_succ, h10]
    rw [← h7] at h6
    have h8 : (a * s) * a ^ (fL - 2) % fL = a ^ (fL - 2) % fL := by rw [← Nat.mod_mul_mod, h4, Nat.mod_mul_mod, Nat.one_mul]
    have h9 : (a * s) * a ^ (fL - 2) = (a * a ^ (fL - 2)) * s := by rw [Nat.mul_assoc, Nat.mul_comm s, ← Nat.mul_assoc]
    rw [h9, ← Nat.mod_mul_mod, h6, Nat.one_mul, Nat.mod_eq_of_lt h3] at h8
    exact h8
end Go.Proofs.YtdlmamnnamlleaaDoor
