/- Contracts of package ring: Mod, low. -/
import Derived.Test.YtgdiokklfihfoaaCvB
import Derived.Test.YtgdiokklfihfoaaOneW
import Derived.Test.YtgdiokklfihfoaaCalmS
import Derived.Test.YtgdiokklfihfoaaQuot
import Derived.Test.YtgdiokklfihfoaaLimb5
namespace Go.Proofs.Ytgdiokklfihfoaa
open Go.ChangeShapes Go.WideShapes Go.ChangeAt Go.RowKit
set_option maxHeartbeats 2000000
set_option maxRecDepth 100000
attribute [local go_sem ↓] load_fld load_num store_num execl_num execs_num load_wide store_wide execl_wide execs_wide
attribute [local go_sem] isHead_mk blkOf_mk isAgg_mk cellsV_mk row_drew rowAt_drew row_new_cells row_old rowAt_new rowAt_old setRow_new zeroNum zeroWide
/-- A ring's cells: the number, 2^256 and 2^512 modulo it, -1 over it. -/
def rgF (m o s v : Nat) : Nat → Nat := fun i => if i < 4 then wd m i else if i < 8 then wd o (i - 4) else if i < 12 then wd s (i - 8) else v
abbrev RgAt (w : World) (g m o s v : Nat) : Prop := At w g .u64 13 (rgF m o s v)
section
variable {w : World} {g m o s v : Nat}
theorem rg_0 (h : RgAt w g m o s v) : LdOk w 4 (.pointer (some ⟨g, 0, none⟩)) ∧ ldC w 4 (.pointer (some ⟨g, 0, none⟩)) = arrK .u64 4 (wd m) := by
  refine ⟨(h.fld (by omega)).1, (h.fld (by omega)).2.trans (arrK_congr fun i hi => ?_)⟩
  unfold rgF; rw [if_pos (by omega), Nat.zero_add]
theorem rg_1 (h : RgAt w g m o s v) : LdOk w 4 (.pointer (some ⟨g, 4, none⟩)) ∧ ldC w 4 (.pointer (some ⟨g, 4, none⟩)) = arrK .u64 4 (wd o) := by
  refine ⟨(h.fld (by omega)).1, (h.fld (by omega)).2.trans (arrK_congr fun i hi => ?_)⟩
  unfold rgF; rw [if_neg (by omega), if_pos (by omega), Nat.add_sub_cancel_left]
theorem rg_2 (h : RgAt w g m o s v) : LdOk w 4 (.pointer (some ⟨g, 8, none⟩)) ∧ ldC w 4 (.pointer (some ⟨g, 8, none⟩)) = arrK .u64 4 (wd s) := by
  refine ⟨(h.fld (by omega)).1, (h.fld (by omega)).2.trans (arrK_congr fun i hi => ?_)⟩
  unfold rgF; rw [if_neg (by omega), if_neg (by omega), if_pos (by omega), Nat.add_sub_cancel_left]
theorem rg_3 (h : RgAt w g m o s v) : w.cell? ⟨g, 12, none⟩ = some (.int .u64 (v : Nat)) := h.cell (i := 12) (by omega)
end
theorem build_ng (w : World) : (Instr.build 27 #[]).run Try.prog w = .ok (.agg (arrK .u64 4 (wd 0))) w := run_build w _ _ _ (by kernel_rfl)
section
variable {P : Program} {ops : Array Oper} {o : Oper} {a : Act} {w : World} {K : Act → World → Prop} {Q : Exit → Act → World → Prop} {t : TypeId} {u : Value}
theorem wp_bldG (ho : o.op = .build t #[]) (hr : (Instr.build t #[]).run P w = .ok u w) (h : K (a.put o.dst u) w) : Oper.wp P o a w K Q := by
  obtain ⟨dst, op, tt, pos, af, gd⟩ := o
  subst ho
  unfold Oper.wp execOp
  simp only [List.map_toArray, List.map_nil, Sem.run_bind, hr, Result.andThen_ok]
  exact h
end
theorem ring_Mod (g m o s v : Nat) (w : World) (h : RgAt w g m o s v) : Calls Try.prog 29 #[.pointer (some ⟨g, 0, none⟩)] w fun e w' => e = .returned (numV m) ∧ Below w.heap.size w w' := by
  unfold numV
  have hc0 := arrK_cells .u64 4 (wd 0)
  have hcr := arrK_cells .u64 4 (wd m)
  have hL0 := below_alloc w (Obj.cells (arrK .u64 4 (wd 0)) 27)
  have hR0 : Row (w.alloc (Obj.cells (arrK .u64 4 (wd 0)) 27)) w.heap.size 4 := (row_new rfl).2 hc0.1
  have hG := Lib.hid (h.step hL0)
  clear h
  go_enter Try.func29, Try.ntmps29
  go_upto_region 1 with (fail)
  generalize w.alloc _ = W0 at *
  have hl := rg_0 hG.out
  have hl1 := hl.1
  have hl2 := hl.2
  go_wp2_with fail
  refine ret_row (p := 2) (ty := 27) (g := w.heap.size) rfl Try.underlying27 rfl (by kernel_rfl) rfl ((row_setRow_same rfl hR0).2 hcr.1) rfl ?_
  rw [rowAt_setRow_same hR0]
  exact ⟨rfl, below_setRow hL0 (Nat.le_refl _)⟩
theorem ring_low (g m o s v xa : Nat) (w : World) (h : RgAt w g m o s v) (ha : xa < 2 ^ 256) (hm : m < 2 ^ 256) (hm0 : m ≠ 0) : Calls Try.prog 88 #[.pointer (some ⟨g, 0, none⟩), numV xa] w fun e w' => e = .returned (numV (xa % m)) ∧ Below w.heap.size w w' := by
  have kC := Lib.hid (fun V => limb_Cmp xa m V ha hm)
  have kW := Lib.hid (fun V => limb_Wide xa 0 V ha)
  rw [Nat.mul_zero, Nat.add_zero] at kW
  obtain ⟨kk, hkk⟩ : ∃ k, k = 64 * 8 := ⟨_, rfl⟩
  have hak : xa < 2 ^ kk := Nat.lt_of_lt_of_le ha (Nat.pow_le_pow_right (by omega) (by omega))
  rw [hkk] at hak
  have kM := Lib.hid (fun V => quot_Mod xa m V hak hm hm0)
  have hd : (xa < m ∧ xa % m = xa ∧ order xa m = -1) ∨ (¬ xa < m ∧ (order xa m = 0 ∨ order xa m = 1)) := by
    by_cases hl : xa < m
    · exact .inl ⟨hl, Nat.mod_eq_of_lt hl, order_lt hl⟩
    · refine .inr ⟨hl, ?_⟩
      unfold order
      rw [if_neg hl]
      split
      · exact .inr rfl
      · exact .inl rfl
  have hD := Lib.hid hd
  obtain ⟨r, hr⟩ : ∃ r, xa % m = r := ⟨_, rfl⟩
  rw [hr] at kM hD ⊢
  clear hr hd hak hkk ha hm hm0
  unfold numV at kC kW kM ⊢
  unfold wideV at kW kM
  have hc0 := arrK_cells .u64 4 (wd 0)
  have hca := arrK_cells .u64 4 (wd xa)
  have hcr := arrK_cells .u64 4 (wd r)
  have hgl0 := h.lt
  have hG0 : RgAt ((w.alloc (Obj.cells (arrK .u64 4 (wd xa)) 27)).alloc (Obj.cells (arrK .u64 4 (wd 0)) 27)) g m o s v := (h.old _).old _
  have hgl := Lib.hid hgl0
  have hG := Lib.hid hG0
  clear h hgl0 hG0
  have hL0 : Below w.heap.size w ((w.alloc (Obj.cells (arrK .u64 4 (wd xa)) 27)).alloc (Obj.cells (arrK .u64 4 (wd 0)) 27)) := by go_grown
  have hA0 : At ((w.alloc (Obj.cells (arrK .u64 4 (wd xa)) 27)).alloc (Obj.cells (arrK .u64 4 (wd 0)) 27)) w.heap.size .u64 4 (wd xa) := (At.new _ rfl).old _
  have hR0 : Row ((w.alloc (Obj.cells (arrK .u64 4 (wd xa)) 27)).alloc (Obj.cells (arrK .u64 4 (wd 0)) 27)) (w.heap.size + 1) 4 := (At.new (k := .u64) (f := wd 0) _ (by simp)).row
  have hL := Lib.hid hL0
  have hA := Lib.hid hA0
  have hR := Lib.hid hR0
  clear hL0 hA0 hR0
  go_enter Try.func88, Try.ntmps88
  go_upto_region 1 with (fail)
  generalize (w.alloc _).alloc _ = W0 at *
  rcases hD.out with ⟨-, hre, hoe⟩ | ⟨-, hoe⟩
  · have kC2 := kC
    rw [hoe] at kC2
    have hre2 := Lib.hid hre
    clear hre hcr hD
    generalize ha0 : Act.mk _ _ = a0
    have e0 : a0.tmps[0]?.getD undef = .pointer (some ⟨g, 0, none⟩) := by rw [← ha0]; rfl
    have e3 : a0.tmps[3]?.getD undef = .pointer (some ⟨w.heap.size, 0, none⟩) := by rw [← ha0]; rfl
    have hz0 : a0.tmps.size = 25 := by rw [← ha0]; rfl
    have hha0 := Lib.hid ha0
    clear ha0
    refine wp_region_calm (fun jx_ => match jx_ with | 0 => SRel.is (.agg (arrK .u64 4 (wd xa))) | 1 => SRel.is (.pointer (some ⟨g, 0, none⟩)) | 2 => SRel.is (.pointer (some ⟨g, 0, none⟩)) | 3 => SRel.is (.pointer (some ⟨g, 0, none⟩)) | 4 => SRel.is (.agg (arrK .u64 4 (wd m))) | 5 => SRel.is (.int .i64 (-1)) | 6 => SRel.is (.bool true) | _ => SRel.any) (by kernel_rfl) (by kernel_rfl) (by kernel_rfl) (slotsOk_of hz0 (by kernel_rfl)) ⟨?_, ?_, ?_, ?_, ?_, ?_, ?_, trivial⟩ ?_
    · refine calm_step rfl fun a ω κ hb hu hc hK => ?_
      have h3 : a.tmps[3]?.getD undef = .pointer (some ⟨w.heap.size, 0, none⟩) := (hu 3 rfl).trans e3
      have hk := Lib.hid (fun w1 (h : Below ω.heap.size ω w1) => hK (.agg (arrK .u64 4 (wd xa))) w1 rfl h)
      clear hK hu hc
      have hr1 := (hA.out.step hb).row
      have hr2 := (hA.out.step hb).eq
      go_simp
      exact hk.out _ (Below.refl _ _)
    · refine calm_step rfl fun a ω κ hb hu hc hK => ?_
      have h0 : a.tmps[0]?.getD undef = .pointer (some ⟨g, 0, none⟩) := (hu 0 rfl).trans e0
      have hk := Lib.hid (fun w1 (h : Below ω.heap.size ω w1) => hK (.pointer (some ⟨g, 0, none⟩)) w1 rfl h)
      clear hK hu hc
      go_simp
      exact hk.out _ (Below.refl _ _)
    · refine calm_step rfl fun a ω κ hb hu hc hK => ?_
      have h6 : a.tmps[6]?.getD undef = .pointer (some ⟨g, 0, none⟩) := hc 1 6 rfl rfl
      have hk := Lib.hid (fun w1 (h : Below ω.heap.size ω w1) => hK (.pointer (some ⟨g, 0, none⟩)) w1 rfl h)
      clear hK hu hc
      go_simp
      exact hk.out _ (Below.refl _ _)
    · refine calm_step rfl fun a ω κ hb hu hc hK => ?_
      have h7 : a.tmps[7]?.getD undef = .pointer (some ⟨g, 0, none⟩) := hc 2 7 rfl rfl
      have hk := Lib.hid (fun w1 (h : Below ω.heap.size ω w1) => hK (.pointer (some ⟨g, 0, none⟩)) w1 rfl h)
      clear hK hu hc
      go_simp
      exact hk.out _ (Below.refl _ _)
    · refine calm_step rfl fun a ω κ hb hu hc hK => ?_
      have h8 : a.tmps[8]?.getD undef = .pointer (some ⟨g, 0, none⟩) := hc 3 8 rfl rfl
      have hk := Lib.hid (fun w1 (h : Below ω.heap.size ω w1) => hK (.agg (arrK .u64 4 (wd m))) w1 rfl h)
      clear hK hu hc
      have hl := rg_0 (hG.out.step hb)
      have hl1 := hl.1
      have hl2 := hl.2
      go_simp
      exact hk.out _ (Below.refl _ _)
    · refine calm_step rfl fun a ω κ hb hu hc hK => ?_
      have h5 : a.tmps[5]?.getD undef = .agg (arrK .u64 4 (wd xa)) := hc 0 5 rfl rfl
      have h9 : a.tmps[9]?.getD undef = .agg (arrK .u64 4 (wd m)) := hc 4 9 rfl rfl
      have hk := Lib.hid (fun w1 (h : Below ω.heap.size ω w1) => hK (.int .i64 (-1)) w1 rfl h)
      clear hK hu hc
      go_simp
      go_at_call 122
      refine (kC2.out _).mono ?_
      rintro e w1 ⟨rfl, hb1⟩
      exact hk.out _ hb1
    · refine calm_step rfl fun a ω κ hb hu hc hK => ?_
      have h10 : a.tmps[10]?.getD undef = .int .i64 (-1) := hc 5 10 rfl rfl
      have hk := Lib.hid (fun w1 (h : Below ω.heap.size ω w1) => hK (.bool true) w1 rfl h)
      clear hK hu hc
      go_simp
      exact hk.out _ (Below.refl _ _)
    · intro a1 w1 hb1 hu1 hsz1 hdf1 hc1
      have ha0 := hha0.out
      subst ha0
      have he := act_patch (n := 25) [false, false, false, false, false, true, true, true, true, true, true, true, false, false, false, false, false, false, false, false, false, false, false, false, false] rfl (by kernel_rfl) hu1 hsz1 hdf1
      simp only [patch, cond_true, cond_false, Nat.reduceAdd] at he
      have hkn11 : a1.tmps[11]?.getD undef = .bool true := hc1 6 11 rfl
      replace hA := Lib.hid (hA.out.step hb1)
      replace hR := Lib.hid (row_below hR.out hb1 hR.out.lt)
      replace hL := Lib.hid (below_step hb1 hL.out (Nat.le_refl _))
      clear kC kC2 kW kM hG
      clear hb1 hu1 hsz1 hdf1 hc1 hz0 hha0 e0 e3
      rw [he]
      clear he
      rw [hkn11]
      clear hkn11
      generalize a1.tmps[5]?.getD undef = x5 at *
      generalize a1.tmps[6]?.getD undef = x6 at *
      generalize a1.tmps[7]?.getD undef = x7 at *
      generalize a1.tmps[8]?.getD undef = x8 at *
      generalize a1.tmps[9]?.getD undef = x9 at *
      generalize a1.tmps[10]?.getD undef = x10 at *
      generalize w1 = W1 at *
      have hr1 := hA.out.row
      have hr2 := hA.out.eq
      have hr3 := hR.out
      go_wp2_with fail
      refine ret_row (p := 4) (ty := 27) (g := w.heap.size + 1) rfl Try.underlying27 rfl (by kernel_rfl) rfl ((row_setRow_same rfl hR.out).2 hca.1) rfl ?_
      rw [rowAt_setRow_same hR.out]
      exact ⟨by rw [hre2.out], below_setRow hL.out (by omega)⟩
  · obtain ⟨od, hod⟩ : ∃ d, order xa m = d := ⟨_, rfl⟩
    have kC2 := kC
    rw [hod] at kC2 hoe
    have hlo : decide (od < (0 : Int)) = false := by rcases hoe with rfl | rfl <;> rfl
    clear hod
    generalize ha0 : Act.mk _ _ = a0
    have e0 : a0.tmps[0]?.getD undef = .pointer (some ⟨g, 0, none⟩) := by rw [← ha0]; rfl
    have e3 : a0.tmps[3]?.getD undef = .pointer (some ⟨w.heap.size, 0, none⟩) := by rw [← ha0]; rfl
    have hz0 : a0.tmps.size = 25 := by rw [← ha0]; rfl
    have hha0 := Lib.hid ha0
    clear ha0
    refine wp_region_calm (fun jx_ => match jx_ with | 0 => SRel.is (.agg (arrK .u64 4 (wd xa))) | 1 => SRel.is (.pointer (some ⟨g, 0, none⟩)) | 2 => SRel.is (.pointer (some ⟨g, 0, none⟩)) | 3 => SRel.is (.pointer (some ⟨g, 0, none⟩)) | 4 => SRel.is (.agg (arrK .u64 4 (wd m))) | 5 => SRel.is (.int .i64 (od)) | 6 => SRel.is (.bool false) | _ => SRel.any) (by kernel_rfl) (by kernel_rfl) (by kernel_rfl) (slotsOk_of hz0 (by kernel_rfl)) ⟨?_, ?_, ?_, ?_, ?_, ?_, ?_, trivial⟩ ?_
    · refine calm_step rfl fun a ω κ hb hu hc hK => ?_
      have h3 : a.tmps[3]?.getD undef = .pointer (some ⟨w.heap.size, 0, none⟩) := (hu 3 rfl).trans e3
      have hk := Lib.hid (fun w1 (h : Below ω.heap.size ω w1) => hK (.agg (arrK .u64 4 (wd xa))) w1 rfl h)
      clear hK hu hc
      have hr1 := (hA.out.step hb).row
      have hr2 := (hA.out.step hb).eq
      go_simp
      exact hk.out _ (Below.refl _ _)
    · refine calm_step rfl fun a ω κ hb hu hc hK => ?_
      have h0 : a.tmps[0]?.getD undef = .pointer (some ⟨g, 0, none⟩) := (hu 0 rfl).trans e0
      have hk := Lib.hid (fun w1 (h : Below ω.heap.size ω w1) => hK (.pointer (some ⟨g, 0, none⟩)) w1 rfl h)
      clear hK hu hc
      go_simp
      exact hk.out _ (Below.refl _ _)
    · refine calm_step rfl fun a ω κ hb hu hc hK => ?_
      have h6 : a.tmps[6]?.getD undef = .pointer (some ⟨g, 0, none⟩) := hc 1 6 rfl rfl
      have hk := Lib.hid (fun w1 (h : Below ω.heap.size ω w1) => hK (.pointer (some ⟨g, 0, none⟩)) w1 rfl h)
      clear hK hu hc
      go_simp
      exact hk.out _ (Below.refl _ _)
    · refine calm_step rfl fun a ω κ hb hu hc hK => ?_
      have h7 : a.tmps[7]?.getD undef = .pointer (some ⟨g, 0, none⟩) := hc 2 7 rfl rfl
      have hk := Lib.hid (fun w1 (h : Below ω.heap.size ω w1) => hK (.pointer (some ⟨g, 0, none⟩)) w1 rfl h)
      clear hK hu hc
      go_simp
      exact hk.out _ (Below.refl _ _)
    · refine calm_step rfl fun a ω κ hb hu hc hK => ?_
      have h8 : a.tmps[8]?.getD undef = .pointer (some ⟨g, 0, none⟩) := hc 3 8 rfl rfl
      have hk := Lib.hid (fun w1 (h : Below ω.heap.size ω w1) => hK (.agg (arrK .u64 4 (wd m))) w1 rfl h)
      clear hK hu hc
      have hl := rg_0 (hG.out.step hb)
      have hl1 := hl.1
      have hl2 := hl.2
      go_simp
      exact hk.out _ (Below.refl _ _)
    · refine calm_step rfl fun a ω κ hb hu hc hK => ?_
      have h5 : a.tmps[5]?.getD undef = .agg (arrK .u64 4 (wd xa)) := hc 0 5 rfl rfl
      have h9 : a.tmps[9]?.getD undef = .agg (arrK .u64 4 (wd m)) := hc 4 9 rfl rfl
      have hk := Lib.hid (fun w1 (h : Below ω.heap.size ω w1) => hK (.int .i64 (od)) w1 rfl h)
      clear hK hu hc
      go_simp
      go_at_call 122
      refine (kC2.out _).mono ?_
      rintro e w1 ⟨rfl, hb1⟩
      exact hk.out _ hb1
    · refine calm_step rfl fun a ω κ hb hu hc hK => ?_
      have h10 : a.tmps[10]?.getD undef = .int .i64 (od) := hc 5 10 rfl rfl
      have hk := Lib.hid (fun w1 (h : Below ω.heap.size ω w1) => hK (.bool false) w1 rfl h)
      clear hK hu hc
      go_simp
      exact hk.out _ (Below.refl _ _)
    · intro a1 w1 hb1 hu1 hsz1 hdf1 hc1
      have ha0 := hha0.out
      subst ha0
      have he := act_patch (n := 25) [false, false, false, false, false, true, true, true, true, true, true, true, false, false, false, false, false, false, false, false, false, false, false, false, false] rfl (by kernel_rfl) hu1 hsz1 hdf1
      simp only [patch, cond_true, cond_false, Nat.reduceAdd] at he
      have hkn11 : a1.tmps[11]?.getD undef = .bool false := hc1 6 11 rfl
      replace hA := Lib.hid (hA.out.step hb1)
      replace hR := Lib.hid (row_below hR.out hb1 hR.out.lt)
      replace hG := Lib.hid (hG.out.step hb1)
      replace hL := Lib.hid (below_step hb1 hL.out (Nat.le_refl _))
      clear kC kC2
      clear hb1 hu1 hsz1 hdf1 hc1 hz0 hha0 e0 e3
      rw [he]
      clear he
      rw [hkn11]
      clear hkn11
      generalize a1.tmps[5]?.getD undef = x5 at *
      generalize a1.tmps[6]?.getD undef = x6 at *
      generalize a1.tmps[7]?.getD undef = x7 at *
      generalize a1.tmps[8]?.getD undef = x8 at *
      generalize a1.tmps[9]?.getD undef = x9 at *
      generalize a1.tmps[10]?.getD undef = x10 at *
      generalize w1 = W1 at *
      go_upto_region 3 with (fail)
      generalize ha0 : Act.mk _ _ = a0
      have e0 : a0.tmps[0]?.getD undef = .pointer (some ⟨g, 0, none⟩) := by rw [← ha0]; rfl
      have e3 : a0.tmps[3]?.getD undef = .pointer (some ⟨w.heap.size, 0, none⟩) := by rw [← ha0]; rfl
      have hz0 : a0.tmps.size = 25 := by rw [← ha0]; rfl
      have hha0 := Lib.hid ha0
      clear ha0
      refine wp_region_one (fun jx_ => match jx_ with | 0 => some (.agg (arrK .u64 4 (wd xa))) | 1 => some (.agg (arrK .u64 4 (wd 0))) | 2 => some (.agg (arrK .u64 8 (wd xa))) | 3 => some (.pointer (some ⟨g, 0, none⟩)) | 4 => some (.pointer (some ⟨g, 0, none⟩)) | 5 => some (.pointer (some ⟨g, 0, none⟩)) | 6 => some (.agg (arrK .u64 4 (wd m))) | 7 => some (.tuple #[.agg (arrK .u64 4 (wd r)), .int .i64 0]) | 8 => some (.tuple #[.agg (arrK .u64 4 (wd r)), .int .i64 0]) | 9 => some (.agg (arrK .u64 4 (wd r))) | 10 => some (.int .i64 0) | _ => none) 11 (w.heap.size) 4 (arrK .u64 4 (wd r)) (by kernel_rfl) (by kernel_rfl) (by kernel_rfl) (slotsOk_of hz0 (by kernel_rfl)) (of_decide_eq_true (by kernel_rfl)) (Lib.hid hA.out.row).out ⟨?_, ?_, ?_, ?_, ?_, ?_, ?_, ?_, ?_, ?_, ?_, ?_, trivial⟩ ?_
      · refine one_before (by decide) (by kernel_rfl) (calm_step rfl fun aa ω κ hb hu hc hK => ?_)
        have h3 : aa.tmps[3]?.getD undef = .pointer (some ⟨w.heap.size, 0, none⟩) := (hu 3 rfl).trans e3
        have hk := Lib.hid (fun w1 (h : Below ω.heap.size ω w1) => hK (.agg (arrK .u64 4 (wd xa))) w1 rfl h)
        clear hK hu hc
        have hr1 := (hA.out.step hb).row
        have hr2 := (hA.out.step hb).eq
        go_simp
        exact hk.out _ (Below.refl _ _)
      · refine one_before (by decide) (by kernel_rfl) (calm_step rfl fun aa ω κ hb hu hc hK => ?_)
        have hk := Lib.hid (fun w1 (h : Below ω.heap.size ω w1) => hK (.agg (arrK .u64 4 (wd 0))) w1 rfl h)
        clear hK hu hc
        exact wp_bldG rfl (build_ng _) (hk.out _ (Below.refl _ _))
      · refine one_before (by decide) (by kernel_rfl) (calm_step rfl fun aa ω κ hb hu hc hK => ?_)
        have h14 : aa.tmps[14]?.getD undef = .agg (arrK .u64 4 (wd xa)) := hc 0 14 rfl rfl
        have h15 : aa.tmps[15]?.getD undef = .agg (arrK .u64 4 (wd 0)) := hc 1 15 rfl rfl
        have hk := Lib.hid (fun w1 (h : Below ω.heap.size ω w1) => hK (.agg (arrK .u64 8 (wd xa))) w1 rfl h)
        clear hK hu hc
        go_simp
        go_at_call 97
        refine (kW.out _).mono ?_
        rintro e w1 ⟨rfl, hb1⟩
        exact hk.out _ hb1
      · refine one_before (by decide) (by kernel_rfl) (calm_step rfl fun aa ω κ hb hu hc hK => ?_)
        have h0 : aa.tmps[0]?.getD undef = .pointer (some ⟨g, 0, none⟩) := (hu 0 rfl).trans e0
        have hk := Lib.hid (fun w1 (h : Below ω.heap.size ω w1) => hK (.pointer (some ⟨g, 0, none⟩)) w1 rfl h)
        clear hK hu hc
        go_simp
        exact hk.out _ (Below.refl _ _)
      · refine one_before (by decide) (by kernel_rfl) (calm_step rfl fun aa ω κ hb hu hc hK => ?_)
        have h17 : aa.tmps[17]?.getD undef = .pointer (some ⟨g, 0, none⟩) := hc 3 17 rfl rfl
        have hk := Lib.hid (fun w1 (h : Below ω.heap.size ω w1) => hK (.pointer (some ⟨g, 0, none⟩)) w1 rfl h)
        clear hK hu hc
        go_simp
        exact hk.out _ (Below.refl _ _)
      · refine one_before (by decide) (by kernel_rfl) (calm_step rfl fun aa ω κ hb hu hc hK => ?_)
        have h18 : aa.tmps[18]?.getD undef = .pointer (some ⟨g, 0, none⟩) := hc 4 18 rfl rfl
        have hk := Lib.hid (fun w1 (h : Below ω.heap.size ω w1) => hK (.pointer (some ⟨g, 0, none⟩)) w1 rfl h)
        clear hK hu hc
        go_simp
        exact hk.out _ (Below.refl _ _)
      · refine one_before (by decide) (by kernel_rfl) (calm_step rfl fun aa ω κ hb hu hc hK => ?_)
        have h19 : aa.tmps[19]?.getD undef = .pointer (some ⟨g, 0, none⟩) := hc 5 19 rfl rfl
        have hk := Lib.hid (fun w1 (h : Below ω.heap.size ω w1) => hK (.agg (arrK .u64 4 (wd m))) w1 rfl h)
        clear hK hu hc
        have hl := rg_0 (hG.out.step hb)
        have hl1 := hl.1
        have hl2 := hl.2
        go_simp
        exact hk.out _ (Below.refl _ _)
      · refine one_before (by decide) (by kernel_rfl) (calm_step rfl fun aa ω κ hb hu hc hK => ?_)
        have h16 : aa.tmps[16]?.getD undef = .agg (arrK .u64 8 (wd xa)) := hc 2 16 rfl rfl
        have h20 : aa.tmps[20]?.getD undef = .agg (arrK .u64 4 (wd m)) := hc 6 20 rfl rfl
        have hk := Lib.hid (fun w1 (h : Below ω.heap.size ω w1) => hK (.tuple #[.agg (arrK .u64 4 (wd r)), .int .i64 0]) w1 rfl h)
        clear hK hu hc
        go_simp
        go_at_call 83
        refine (kM.out _).mono ?_
        rintro e w1 ⟨rfl, hb1⟩
        exact hk.out _ hb1
      · refine one_before (by decide) (by kernel_rfl) (calm_step rfl fun aa ω κ hb hu hc hK => ?_)
        have h21 : aa.tmps[21]?.getD undef = .tuple #[.agg (arrK .u64 4 (wd r)), .int .i64 0] := hc 7 21 rfl rfl
        have hk := Lib.hid (fun w1 (h : Below ω.heap.size ω w1) => hK (.tuple #[.agg (arrK .u64 4 (wd r)), .int .i64 0]) w1 rfl h)
        clear hK hu hc
        go_simp
        exact hk.out _ (Below.refl _ _)
      · refine one_before (by decide) (by kernel_rfl) (calm_step rfl fun aa ω κ hb hu hc hK => ?_)
        have h13 : aa.tmps[13]?.getD undef = .tuple #[.agg (arrK .u64 4 (wd r)), .int .i64 0] := hc 8 13 rfl rfl
        have hk := Lib.hid (fun w1 (h : Below ω.heap.size ω w1) => hK (.agg (arrK .u64 4 (wd r))) w1 rfl h)
        clear hK hu hc
        go_simp
        exact hk.out _ (Below.refl _ _)
      · refine one_free (by decide) fun W_ => calm_step rfl fun aa ω κ hb hu hc hK => ?_
        have h13 : aa.tmps[13]?.getD undef = .tuple #[.agg (arrK .u64 4 (wd r)), .int .i64 0] := hc 8 13 rfl rfl
        have hk := Lib.hid (fun w1 (h : Below ω.heap.size ω w1) => hK (.int .i64 0) w1 rfl h)
        clear hK hu hc
        go_simp
        exact hk.out _ (Below.refl _ _)
      · refine one_q (one_write rfl rfl fun aa ω κ hb hu hc hr hK => ?_)
        have h3 : aa.tmps[3]?.getD undef = .pointer (some ⟨w.heap.size, 0, none⟩) := (hu 3 rfl).trans e3
        have h22 : aa.tmps[22]?.getD undef = .agg (arrK .u64 4 (wd r)) := hc 9 22 rfl rfl
        have hk := Lib.hid hK
        clear hK hu hc
        have hcc := hcr
        go_simp
        exact hk.out undef
      · intro a1 w1 hb1 hu1 hsz1 hdf1 hv1
        have ha0 := hha0.out
        subst ha0
        have he := act_patch (n := 25) [false, false, false, false, false, false, false, false, false, false, false, false, false, true, true, true, true, true, true, true, true, true, true, true, false] rfl (by kernel_rfl) hu1 hsz1 hdf1
        simp only [patch, cond_true, cond_false, Nat.reduceAdd] at he
        have hXz := Lib.hid ((At.put (k := .u64) (f := wd r) hA.out.row).below hb1 (by simpa using hA.out.row.lt))
        have hRz := Lib.hid (row_below ((row_setRow_far (show w.heap.size + 1 ≠ w.heap.size by omega)).2 hR.out) hb1 (by simpa using hR.out.lt))
        have hLz := Lib.hid (Below.trans (below_setRow (c := arrK .u64 4 (wd r)) hL.out (Nat.le_refl _)) (hb1.mono (by simpa using hL.out.size)))
        clear hA hR hG hL kW kM
        clear hb1 hu1 hsz1 hdf1 hv1 hz0 hha0 e0 e3
        rw [he]
        clear he
        generalize a1.tmps[13]?.getD undef = x13 at *
        generalize a1.tmps[14]?.getD undef = x14 at *
        generalize a1.tmps[15]?.getD undef = x15 at *
        generalize a1.tmps[16]?.getD undef = x16 at *
        generalize a1.tmps[17]?.getD undef = x17 at *
        generalize a1.tmps[18]?.getD undef = x18 at *
        generalize a1.tmps[19]?.getD undef = x19 at *
        generalize a1.tmps[20]?.getD undef = x20 at *
        generalize a1.tmps[21]?.getD undef = x21 at *
        generalize a1.tmps[22]?.getD undef = x22 at *
        generalize a1.tmps[23]?.getD undef = x23 at *
        generalize w1 = W2 at *
        have hr1 := hXz.out.row
        have hr2 := hXz.out.eq
        have hr3 := hRz.out
        go_wp2_with fail
        refine ret_row (p := 4) (ty := 27) (g := w.heap.size + 1) rfl Try.underlying27 rfl (by kernel_rfl) rfl ((row_setRow_same rfl hRz.out).2 hcr.1) rfl ?_
        rw [rowAt_setRow_same hRz.out]
        exact ⟨rfl, below_setRow hLz.out (by omega)⟩
end Go.Proofs.Ytgdiokklfihfoaa
