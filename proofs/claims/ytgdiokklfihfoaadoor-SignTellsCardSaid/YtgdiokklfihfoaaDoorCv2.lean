/- Contracts of package curve: d, quad.plus. -/
import Derived.Test.YtgdiokklfihfoaaDoorCv1
namespace Go.Proofs.YtgdiokklfihfoaaDoor
open Go.ChangeShapes Go.WideShapes Go.ChangeAt Go.RowKit
set_option maxHeartbeats 2000000
set_option maxRecDepth 100000
attribute [local go_sem ↓] load_fld load_num store_num execl_num execs_num load_pt store_pt execl_pt execs_pt load_qd store_qd execl_qd execs_qd
attribute [local go_sem] isHead_mk blkOf_mk isAgg_mk cellsV_mk row_drew rowAt_drew row_new_cells row_old rowAt_new rowAt_old setRow_new zeroNum zeroPt zeroQd
/-- The curve's number d. -/
def dN : Nat := 0x52036cee2b6ffe738cc740797779e89800700a4d4141d8ab75eb4dca135978a3
theorem dN_lt : dN < 2 ^ 256 := by decide +kernel
theorem buildD (w : World) : (Instr.build 41 #[(0, Value.int IntKind.u64 8496970652267935907), (1, Value.int IntKind.u64 31536524315187371), (2, Value.int IntKind.u64 10144147576115030168), (3, Value.int IntKind.u64 5909686906226998899)]).run Tryd.prog w = .ok (.agg (arrK .u64 4 (wd dN))) w :=
  run_build w _ _ _ (by kernel_rfl)
theorem curve_d (w : World) : Calls Tryd.prog 168 #[] w fun e w' => e = .returned (numV dN) ∧ Below w.heap.size w w' := by
  unfold numV
  have hcz := arrK_cells .u64 4 (wd 0)
  have hcp := arrK_cells .u64 4 (wd dN)
  have hL0 := below_alloc w (Obj.cells (arrK .u64 4 (wd 0)) 41)
  have hR0 : Row (w.alloc (Obj.cells (arrK .u64 4 (wd 0)) 41)) w.heap.size 4 := (row_new rfl).2 hcz.1
  obtain ⟨X, hX⟩ : ∃ X, arrK .u64 4 (wd dN) = X := ⟨_, rfl⟩
  have hbp := Lib.hid (fun V => buildD V)
  rw [hX] at hbp hcp ⊢
  clear hX
  go_enter Tryd.func168, Tryd.ntmps168
  go_upto_region 1 with (fail)
  generalize w.alloc (Obj.cells (arrK .u64 4 (wd 0)) 41) = W0 at *
  go_wp2_with (refine wpList_bld4 (v0 := Value.int IntKind.u64 8496970652267935907) (v1 := Value.int IntKind.u64 31536524315187371) (v2 := Value.int IntKind.u64 10144147576115030168) (v3 := Value.int IntKind.u64 5909686906226998899) rfl rfl rfl rfl rfl rfl (hbp.out _) ?_)
  exact ret_stored (p := 0) (ty := 41) (g := w.heap.size) (n := 4) (c := X) rfl Tryd.underlying41 rfl (by kernel_rfl) rfl hR0 hcp.1 rfl ⟨rfl, below_setRow hL0 (Nat.le_refl _)⟩
theorem low_lt {a : Nat} : a % fP < 2 ^ 256 := Nat.lt_trans lt_P P_lt
theorem dif_low {a b : Nat} : difP a b < 2 ^ 256 := low_lt
theorem quad_plus (x1 y1 z1 t1 x2 y2 z2 t2 s1 s2 qa s3 s4 qb c0 c1 qc z0 qz qe qf qg qh r1 r2 r3 r4 : Nat) (w : World) (hx1 : x1 < 2 ^ 256) (hy1 : y1 < 2 ^ 256) (hz1 : z1 < 2 ^ 256) (ht1 : t1 < 2 ^ 256) (hx2 : x2 < 2 ^ 256) (hy2 : y2 < 2 ^ 256) (hz2 : z2 < 2 ^ 256) (ht2 : t2 < 2 ^ 256) (hs1 : difP y1 x1 = s1) (hs2 : difP y2 x2 = s2) (hqa : s1 * s2 % fP = qa) (hs3 : (y1 + x1) % fP = s3) (hs4 : (y2 + x2) % fP = s4) (hqb : s3 * s4 % fP = qb) (hc0 : t1 * t2 % fP = c0) (hc1 : c0 * dN % fP = c1) (hqc : (c1 + c1) % fP = qc) (hz0 : z1 * z2 % fP = z0) (hqz : (z0 + z0) % fP = qz) (hqe : difP qb qa = qe) (hqf : difP qz qc = qf) (hqg : (qz + qc) % fP = qg) (hqh : (qb + qa) % fP = qh) (hr1 : qe * qf % fP = r1) (hr2 : qg * qh % fP = r2) (hr3 : qf * qg % fP = r3) (hr4 : qe * qh % fP = r4) : Calls Tryd.prog 146 #[quadV x1 y1 z1 t1, quadV x2 y2 z2 t2] w fun e w' => e = .returned (quadV r1 r2 r3 r4) ∧ Below w.heap.size w w' := by
  have hdN := dN_lt
  have ls1 : s1 < 2 ^ 256 := hs1 ▸ dif_low
  have ls2 : s2 < 2 ^ 256 := hs2 ▸ dif_low
  have lqa : qa < 2 ^ 256 := hqa ▸ low_lt
  have ls3 : s3 < 2 ^ 256 := hs3 ▸ low_lt
  have ls4 : s4 < 2 ^ 256 := hs4 ▸ low_lt
  have lqb : qb < 2 ^ 256 := hqb ▸ low_lt
  have lc0 : c0 < 2 ^ 256 := hc0 ▸ low_lt
  have lc1 : c1 < 2 ^ 256 := hc1 ▸ low_lt
  have lqc : qc < 2 ^ 256 := hqc ▸ low_lt
  have lz0 : z0 < 2 ^ 256 := hz0 ▸ low_lt
  have lqz : qz < 2 ^ 256 := hqz ▸ low_lt
  have lqe : qe < 2 ^ 256 := hqe ▸ dif_low
  have lqf : qf < 2 ^ 256 := hqf ▸ dif_low
  have lqg : qg < 2 ^ 256 := hqg ▸ low_lt
  have lqh : qh < 2 ^ 256 := hqh ▸ low_lt
  have lr1 : r1 < 2 ^ 256 := hr1 ▸ low_lt
  have lr2 : r2 < 2 ^ 256 := hr2 ▸ low_lt
  have lr3 : r3 < 2 ^ 256 := hr3 ▸ low_lt
  have lr4 : r4 < 2 ^ 256 := hr4 ▸ low_lt
  have ks1 := Lib.hid (fun V => field_Sub y1 x1 V hy1 hx1)
  rw [hs1] at ks1
  have ks2 := Lib.hid (fun V => field_Sub y2 x2 V hy2 hx2)
  rw [hs2] at ks2
  have kqa := Lib.hid (fun V => field_Mul s1 s2 V ls1 ls2)
  rw [hqa] at kqa
  have ks3 := Lib.hid (fun V => field_Add y1 x1 V hy1 hx1)
  rw [hs3] at ks3
  have ks4 := Lib.hid (fun V => field_Add y2 x2 V hy2 hx2)
  rw [hs4] at ks4
  have kqb := Lib.hid (fun V => field_Mul s3 s4 V ls3 ls4)
  rw [hqb] at kqb
  have kc0 := Lib.hid (fun V => field_Mul t1 t2 V ht1 ht2)
  rw [hc0] at kc0
  have kc1 := Lib.hid (fun V => field_Mul c0 dN V lc0 hdN)
  rw [hc1] at kc1
  have kqc := Lib.hid (fun V => field_Add c1 c1 V lc1 lc1)
  rw [hqc] at kqc
  have kz0 := Lib.hid (fun V => field_Mul z1 z2 V hz1 hz2)
  rw [hz0] at kz0
  have kqz := Lib.hid (fun V => field_Add z0 z0 V lz0 lz0)
  rw [hqz] at kqz
  have kqe := Lib.hid (fun V => field_Sub qb qa V lqb lqa)
  rw [hqe] at kqe
  have kqf := Lib.hid (fun V => field_Sub qz qc V lqz lqc)
  rw [hqf] at kqf
  have kqg := Lib.hid (fun V => field_Add qz qc V lqz lqc)
  rw [hqg] at kqg
  have kqh := Lib.hid (fun V => field_Add qb qa V lqb lqa)
  rw [hqh] at kqh
  have kr1 := Lib.hid (fun V => field_Mul qe qf V lqe lqf)
  rw [hr1] at kr1
  have kr2 := Lib.hid (fun V => field_Mul qg qh V lqg lqh)
  rw [hr2] at kr2
  have kr3 := Lib.hid (fun V => field_Mul qf qg V lqf lqg)
  rw [hr3] at kr3
  have kr4 := Lib.hid (fun V => field_Mul qe qh V lqe lqh)
  rw [hr4] at kr4
  have kd := Lib.hid (fun V => curve_d V)
  obtain ⟨dn, hdn⟩ : ∃ d, dN = d := ⟨_, rfl⟩
  rw [hdn] at kd kc1
  clear hdn hdN hx1 hy1 hz1 ht1 hx2 hy2 hz2 ht2 hs1 ls1 hs2 ls2 hqa lqa hs3 ls3 hs4 ls4 hqb lqb hc0 lc0 hc1 lc1 hqc lqc hz0 lz0 hqz lqz hqe lqe hqf lqf hqg lqg hqh lqh hr1 lr1 hr2 lr2 hr3 lr3 hr4 lr4
  unfold numV at kd ks1 ks2 kqa ks3 ks4 kqb kc0 kc1 kqc kz0 kqz kqe kqf kqg kqh kr1 kr2 kr3 kr4
  unfold quadV
  have hcr := arrK_cells .u64 16 (cat4 (wd r1) (wd r2) (wd r3) (wd r4))
  have hcz := arrK_cells .u64 16 (cat4 (wd 0) (wd 0) (wd 0) (wd 0))
  have hc0 := arrK_cells .u64 4 (wd 0)
  have hcqa := arrK_cells .u64 4 (wd qa)
  have hcqb := arrK_cells .u64 4 (wd qb)
  have hcc1 := arrK_cells .u64 4 (wd c1)
  have hcqc := arrK_cells .u64 4 (wd qc)
  have hcz0 := arrK_cells .u64 4 (wd z0)
  have hcqz := arrK_cells .u64 4 (wd qz)
  have hcqe := arrK_cells .u64 4 (wd qe)
  have hcqf := arrK_cells .u64 4 (wd qf)
  have hcqg := arrK_cells .u64 4 (wd qg)
  have hcqh := arrK_cells .u64 4 (wd qh)
  have hL0 : Below w.heap.size w (((w.alloc (Obj.cells (arrK .u64 16 (cat4 (wd x1) (wd y1) (wd z1) (wd t1))) 216)).alloc (Obj.cells (arrK .u64 16 (cat4 (wd x2) (wd y2) (wd z2) (wd t2))) 216)).alloc (Obj.cells (arrK .u64 16 (cat4 (wd 0) (wd 0) (wd 0) (wd 0))) 216)) := by go_grown
  have hA0 : At (((w.alloc (Obj.cells (arrK .u64 16 (cat4 (wd x1) (wd y1) (wd z1) (wd t1))) 216)).alloc (Obj.cells (arrK .u64 16 (cat4 (wd x2) (wd y2) (wd z2) (wd t2))) 216)).alloc (Obj.cells (arrK .u64 16 (cat4 (wd 0) (wd 0) (wd 0) (wd 0))) 216)) w.heap.size .u64 16 (cat4 (wd x1) (wd y1) (wd z1) (wd t1)) := ((At.new _ rfl).old _).old _
  have hB0 : At (((w.alloc (Obj.cells (arrK .u64 16 (cat4 (wd x1) (wd y1) (wd z1) (wd t1))) 216)).alloc (Obj.cells (arrK .u64 16 (cat4 (wd x2) (wd y2) (wd z2) (wd t2))) 216)).alloc (Obj.cells (arrK .u64 16 (cat4 (wd 0) (wd 0) (wd 0) (wd 0))) 216)) (w.heap.size + 1) .u64 16 (cat4 (wd x2) (wd y2) (wd z2) (wd t2)) := (At.new _ (by simp)).old _
  have hR0 : Row (((w.alloc (Obj.cells (arrK .u64 16 (cat4 (wd x1) (wd y1) (wd z1) (wd t1))) 216)).alloc (Obj.cells (arrK .u64 16 (cat4 (wd x2) (wd y2) (wd z2) (wd t2))) 216)).alloc (Obj.cells (arrK .u64 16 (cat4 (wd 0) (wd 0) (wd 0) (wd 0))) 216)) (w.heap.size + 1 + 1) 16 := (At.new (k := .u64) (f := cat4 (wd 0) (wd 0) (wd 0) (wd 0)) _ (by simp)).row
  have hL := Lib.hid hL0
  have hR := Lib.hid hR0
  have hA := Lib.hid hA0
  have hB := Lib.hid hB0
  clear hL0 hR0 hA0 hB0
  go_enter Tryd.func146, Tryd.ntmps146
  go_upto_region 1 with (fail)
  generalize ((w.alloc _).alloc _).alloc _ = W0 at *
  generalize ha0 : Act.mk _ _ = a0
  have e2 : a0.tmps[2]?.getD undef = .pointer (some ⟨w.heap.size, 0, none⟩) := by rw [← ha0]; rfl
  have e3 : a0.tmps[3]?.getD undef = .pointer (some ⟨w.heap.size + 1, 0, none⟩) := by rw [← ha0]; rfl
  have hz0 : a0.tmps.size = 78 := by rw [← ha0]; rfl
  have hha0 := Lib.hid ha0
  clear ha0
  refine wp_region_fresh ⟨fun jx_ => match jx_ with | 0 => some (.pointer (some ⟨w.heap.size, 4, none⟩)) | 1 => some (.agg (arrK .u64 4 (wd y1))) | 2 => some (.pointer (some ⟨w.heap.size, 0, none⟩)) | 3 => some (.agg (arrK .u64 4 (wd x1))) | 4 => some (.agg (arrK .u64 4 (wd s1))) | 5 => some (.pointer (some ⟨w.heap.size + 1, 4, none⟩)) | 6 => some (.agg (arrK .u64 4 (wd y2))) | 7 => some (.pointer (some ⟨w.heap.size + 1, 0, none⟩)) | 8 => some (.agg (arrK .u64 4 (wd x2))) | 9 => some (.agg (arrK .u64 4 (wd s2))) | 10 => some (.agg (arrK .u64 4 (wd qa))) | _ => none, fun jx_ => match jx_ with | 11 => some 4 | _ => none, fun jx_ => match jx_ with | 12 => some 11 | _ => none, fun jx_ => match jx_ with | 12 => arrK .u64 4 (wd qa) | _ => #[]⟩ (by kernel_rfl) (by kernel_rfl) (by kernel_rfl) (slotsOk_of hz0 (by kernel_rfl)) rfl ⟨?_, ?_, ?_, ?_, ?_, ?_, ?_, ?_, ?_, ?_, ?_, ?_, ?_, trivial⟩ ?_
  · refine fstep_val rfl rfl (calm_step rfl fun aa ω κ hb hu hc hK => ?_)
    have h2 : aa.tmps[2]?.getD undef = .pointer (some ⟨w.heap.size, 0, none⟩) := (hu 2 rfl).trans e2
    have hk := Lib.hid (fun w1 (h : Below ω.heap.size ω w1) => hK (.pointer (some ⟨w.heap.size, 4, none⟩)) w1 rfl h)
    clear hK hu hc
    go_simp
    exact hk.out _ (Below.refl _ _)
  · refine fstep_val rfl rfl (calm_step rfl fun aa ω κ hb hu hc hK => ?_)
    have h13 : aa.tmps[13]?.getD undef = .pointer (some ⟨w.heap.size, 4, none⟩) := hc 0 13 rfl rfl
    have hk := Lib.hid (fun w1 (h : Below ω.heap.size ω w1) => hK (.agg (arrK .u64 4 (wd y1))) w1 rfl h)
    clear hK hu hc
    have hl := qd_1 (hA.out.step hb)
    have hl1 := hl.1
    have hl2 := hl.2
    go_simp
    exact hk.out _ (Below.refl _ _)
  · refine fstep_val rfl rfl (calm_step rfl fun aa ω κ hb hu hc hK => ?_)
    have h2 : aa.tmps[2]?.getD undef = .pointer (some ⟨w.heap.size, 0, none⟩) := (hu 2 rfl).trans e2
    have hk := Lib.hid (fun w1 (h : Below ω.heap.size ω w1) => hK (.pointer (some ⟨w.heap.size, 0, none⟩)) w1 rfl h)
    clear hK hu hc
    go_simp
    exact hk.out _ (Below.refl _ _)
  · refine fstep_val rfl rfl (calm_step rfl fun aa ω κ hb hu hc hK => ?_)
    have h15 : aa.tmps[15]?.getD undef = .pointer (some ⟨w.heap.size, 0, none⟩) := hc 2 15 rfl rfl
    have hk := Lib.hid (fun w1 (h : Below ω.heap.size ω w1) => hK (.agg (arrK .u64 4 (wd x1))) w1 rfl h)
    clear hK hu hc
    have hl := qd_0 (hA.out.step hb)
    have hl1 := hl.1
    have hl2 := hl.2
    go_simp
    exact hk.out _ (Below.refl _ _)
  · refine fstep_val rfl rfl (calm_step rfl fun aa ω κ hb hu hc hK => ?_)
    have h14 : aa.tmps[14]?.getD undef = .agg (arrK .u64 4 (wd y1)) := hc 1 14 rfl rfl
    have h16 : aa.tmps[16]?.getD undef = .agg (arrK .u64 4 (wd x1)) := hc 3 16 rfl rfl
    have hk := Lib.hid (fun w1 (h : Below ω.heap.size ω w1) => hK (.agg (arrK .u64 4 (wd s1))) w1 rfl h)
    clear hK hu hc
    go_simp
    go_at_call 166
    refine (ks1.out _).mono ?_
    rintro e w1 ⟨rfl, hb1⟩
    exact hk.out _ hb1
  · refine fstep_val rfl rfl (calm_step rfl fun aa ω κ hb hu hc hK => ?_)
    have h3 : aa.tmps[3]?.getD undef = .pointer (some ⟨w.heap.size + 1, 0, none⟩) := (hu 3 rfl).trans e3
    have hk := Lib.hid (fun w1 (h : Below ω.heap.size ω w1) => hK (.pointer (some ⟨w.heap.size + 1, 4, none⟩)) w1 rfl h)
    clear hK hu hc
    go_simp
    exact hk.out _ (Below.refl _ _)
  · refine fstep_val rfl rfl (calm_step rfl fun aa ω κ hb hu hc hK => ?_)
    have h18 : aa.tmps[18]?.getD undef = .pointer (some ⟨w.heap.size + 1, 4, none⟩) := hc 5 18 rfl rfl
    have hk := Lib.hid (fun w1 (h : Below ω.heap.size ω w1) => hK (.agg (arrK .u64 4 (wd y2))) w1 rfl h)
    clear hK hu hc
    have hl := qd_1 (hB.out.step hb)
    have hl1 := hl.1
    have hl2 := hl.2
    go_simp
    exact hk.out _ (Below.refl _ _)
  · refine fstep_val rfl rfl (calm_step rfl fun aa ω κ hb hu hc hK => ?_)
    have h3 : aa.tmps[3]?.getD undef = .pointer (some ⟨w.heap.size + 1, 0, none⟩) := (hu 3 rfl).trans e3
    have hk := Lib.hid (fun w1 (h : Below ω.heap.size ω w1) => hK (.pointer (some ⟨w.heap.size + 1, 0, none⟩)) w1 rfl h)
    clear hK hu hc
    go_simp
    exact hk.out _ (Below.refl _ _)
  · refine fstep_val rfl rfl (calm_step rfl fun aa ω κ hb hu hc hK => ?_)
    have h20 : aa.tmps[20]?.getD undef = .pointer (some ⟨w.heap.size + 1, 0, none⟩) := hc 7 20 rfl rfl
    have hk := Lib.hid (fun w1 (h : Below ω.heap.size ω w1) => hK (.agg (arrK .u64 4 (wd x2))) w1 rfl h)
    clear hK hu hc
    have hl := qd_0 (hB.out.step hb)
    have hl1 := hl.1
    have hl2 := hl.2
    go_simp
    exact hk.out _ (Below.refl _ _)
  · refine fstep_val rfl rfl (calm_step rfl fun aa ω κ hb hu hc hK => ?_)
    have h19 : aa.tmps[19]?.getD undef = .agg (arrK .u64 4 (wd y2)) := hc 6 19 rfl rfl
    have h21 : aa.tmps[21]?.getD undef = .agg (arrK .u64 4 (wd x2)) := hc 8 21 rfl rfl
    have hk := Lib.hid (fun w1 (h : Below ω.heap.size ω w1) => hK (.agg (arrK .u64 4 (wd s2))) w1 rfl h)
    clear hK hu hc
    go_simp
    go_at_call 166
    refine (ks2.out _).mono ?_
    rintro e w1 ⟨rfl, hb1⟩
    exact hk.out _ hb1
  · refine fstep_val rfl rfl (calm_step rfl fun aa ω κ hb hu hc hK => ?_)
    have h17 : aa.tmps[17]?.getD undef = .agg (arrK .u64 4 (wd s1)) := hc 4 17 rfl rfl
    have h22 : aa.tmps[22]?.getD undef = .agg (arrK .u64 4 (wd s2)) := hc 9 22 rfl rfl
    have hk := Lib.hid (fun w1 (h : Below ω.heap.size ω w1) => hK (.agg (arrK .u64 4 (wd qa))) w1 rfl h)
    clear hK hu hc
    go_simp
    go_at_call 165
    refine (kqa.out _).mono ?_
    rintro e w1 ⟨rfl, hb1⟩
    exact hk.out _ hb1
  · refine fstep_al (n := 4) rfl rfl fun aa ω κ hK => ?_
    have hk := Lib.hid hK
    clear hK
    go_simp
    exact hk.out _ _ hc0
  · refine fstep_st (j := 11) (n := 4) (d := 5) rfl rfl rfl rfl rfl hcqa.1 rfl rfl fun aa ω κ g hb hu hc hp hr hK => ?_
    have h23 : aa.tmps[23]?.getD undef = .agg (arrK .u64 4 (wd qa)) := hc 10 23 rfl rfl
    have hk := Lib.hid hK
    clear hK hu hc
    have hcc := hcqa
    go_simp
    exact hk.out undef
  · intro a1 w1 G I
    have ha0 := hha0.out
    subst ha0
    have he := act_patch (n := 78) [false, false, false, false, false, true, false, false, false, false, false, false, false, true, true, true, true, true, true, true, true, true, true, true, false, false, false, false, false, false, false, false, false, false, false, false, false, false, false, false, false, false, false, false, false, false, false, false, false, false, false, false, false, false, false, false, false, false, false, false, false, false, false, false, false, false, false, false, false, false, false, false, false, false, false, false, false, false] rfl (by kernel_rfl) I.un I.sz I.df
    simp only [patch, cond_true, cond_false, Nat.reduceAdd] at he
    have hal5 := I.al 11 5 4 rfl rfl rfl
    have hltz : w.heap.size + 1 + 1 < G 11 := Nat.lt_of_lt_of_le hR.out.lt (I.blk 11 4 rfl rfl).1
    replace hA := Lib.hid (hA.out.step I.bel)
    replace hB := Lib.hid (hB.out.step I.bel)
    replace hR := Lib.hid (row_below hR.out I.bel hR.out.lt)
    replace hL := Lib.hid (below_step I.bel hL.out (Nat.le_refl _))
    have hX5 := Lib.hid (show At w1 (G 11) .u64 4 (wd qa) from ⟨(I.blk 11 4 rfl rfl).2, (I.row 12 11 rfl rfl).2.2⟩)
    clear ks1 ks2 kqa
    clear I hz0 hha0 e2 e3
    rw [he]
    clear he
    rw [hal5]
    clear hal5
    generalize a1.tmps[13]?.getD undef = x13 at *
    generalize a1.tmps[14]?.getD undef = x14 at *
    generalize a1.tmps[15]?.getD undef = x15 at *
    generalize a1.tmps[16]?.getD undef = x16 at *
    generalize a1.tmps[17]?.getD undef = x17 at *
    generalize a1.tmps[18]?.getD undef = x18 at *
    generalize a1.tmps[19]?.getD undef = x19 at *
    generalize a1.tmps[20]?.getD undef = x20 at *
    generalize a1.tmps[21]?.getD undef = x21 at *
    generalize a1.tmps[22]?.getD undef = x22 at *
    generalize a1.tmps[23]?.getD undef = x23 at *
    obtain ⟨g5, hgz⟩ : ∃ g, G 11 = g := ⟨_, rfl⟩
    rw [hgz] at hX5 hltz ⊢
    clear hgz
    have hltg5 := Lib.hid hltz
    clear hltz
    generalize w1 = W5 at *
    go_upto_region 2 with (fail)
    generalize ha0 : Act.mk _ _ = a0
    have e2 : a0.tmps[2]?.getD undef = .pointer (some ⟨w.heap.size, 0, none⟩) := by rw [← ha0]; rfl
    have e3 : a0.tmps[3]?.getD undef = .pointer (some ⟨w.heap.size + 1, 0, none⟩) := by rw [← ha0]; rfl
    have hz0 : a0.tmps.size = 78 := by rw [← ha0]; rfl
    have hha0 := Lib.hid ha0
    clear ha0
    refine wp_region_fresh ⟨fun jx_ => match jx_ with | 0 => some (.pointer (some ⟨w.heap.size, 4, none⟩)) | 1 => some (.agg (arrK .u64 4 (wd y1))) | 2 => some (.pointer (some ⟨w.heap.size, 0, none⟩)) | 3 => some (.agg (arrK .u64 4 (wd x1))) | 4 => some (.agg (arrK .u64 4 (wd s3))) | 5 => some (.pointer (some ⟨w.heap.size + 1, 4, none⟩)) | 6 => some (.agg (arrK .u64 4 (wd y2))) | 7 => some (.pointer (some ⟨w.heap.size + 1, 0, none⟩)) | 8 => some (.agg (arrK .u64 4 (wd x2))) | 9 => some (.agg (arrK .u64 4 (wd s4))) | 10 => some (.agg (arrK .u64 4 (wd qb))) | _ => none, fun jx_ => match jx_ with | 11 => some 4 | _ => none, fun jx_ => match jx_ with | 12 => some 11 | _ => none, fun jx_ => match jx_ with | 12 => arrK .u64 4 (wd qb) | _ => #[]⟩ (by kernel_rfl) (by kernel_rfl) (by kernel_rfl) (slotsOk_of hz0 (by kernel_rfl)) rfl ⟨?_, ?_, ?_, ?_, ?_, ?_, ?_, ?_, ?_, ?_, ?_, ?_, ?_, trivial⟩ ?_
    · refine fstep_val rfl rfl (calm_step rfl fun aa ω κ hb hu hc hK => ?_)
      have h2 : aa.tmps[2]?.getD undef = .pointer (some ⟨w.heap.size, 0, none⟩) := (hu 2 rfl).trans e2
      have hk := Lib.hid (fun w1 (h : Below ω.heap.size ω w1) => hK (.pointer (some ⟨w.heap.size, 4, none⟩)) w1 rfl h)
      clear hK hu hc
      go_simp
      exact hk.out _ (Below.refl _ _)
    · refine fstep_val rfl rfl (calm_step rfl fun aa ω κ hb hu hc hK => ?_)
      have h24 : aa.tmps[24]?.getD undef = .pointer (some ⟨w.heap.size, 4, none⟩) := hc 0 24 rfl rfl
      have hk := Lib.hid (fun w1 (h : Below ω.heap.size ω w1) => hK (.agg (arrK .u64 4 (wd y1))) w1 rfl h)
      clear hK hu hc
      have hl := qd_1 (hA.out.step hb)
      have hl1 := hl.1
      have hl2 := hl.2
      go_simp
      exact hk.out _ (Below.refl _ _)
    · refine fstep_val rfl rfl (calm_step rfl fun aa ω κ hb hu hc hK => ?_)
      have h2 : aa.tmps[2]?.getD undef = .pointer (some ⟨w.heap.size, 0, none⟩) := (hu 2 rfl).trans e2
      have hk := Lib.hid (fun w1 (h : Below ω.heap.size ω w1) => hK (.pointer (some ⟨w.heap.size, 0, none⟩)) w1 rfl h)
      clear hK hu hc
      go_simp
      exact hk.out _ (Below.refl _ _)
    · refine fstep_val rfl rfl (calm_step rfl fun aa ω κ hb hu hc hK => ?_)
      have h26 : aa.tmps[26]?.getD undef = .pointer (some ⟨w.heap.size, 0, none⟩) := hc 2 26 rfl rfl
      have hk := Lib.hid (fun w1 (h : Below ω.heap.size ω w1) => hK (.agg (arrK .u64 4 (wd x1))) w1 rfl h)
      clear hK hu hc
      have hl := qd_0 (hA.out.step hb)
      have hl1 := hl.1
      have hl2 := hl.2
      go_simp
      exact hk.out _ (Below.refl _ _)
    · refine fstep_val rfl rfl (calm_step rfl fun aa ω κ hb hu hc hK => ?_)
      have h25 : aa.tmps[25]?.getD undef = .agg (arrK .u64 4 (wd y1)) := hc 1 25 rfl rfl
      have h27 : aa.tmps[27]?.getD undef = .agg (arrK .u64 4 (wd x1)) := hc 3 27 rfl rfl
      have hk := Lib.hid (fun w1 (h : Below ω.heap.size ω w1) => hK (.agg (arrK .u64 4 (wd s3))) w1 rfl h)
      clear hK hu hc
      go_simp
      go_at_call 167
      refine (ks3.out _).mono ?_
      rintro e w1 ⟨rfl, hb1⟩
      exact hk.out _ hb1
    · refine fstep_val rfl rfl (calm_step rfl fun aa ω κ hb hu hc hK => ?_)
      have h3 : aa.tmps[3]?.getD undef = .pointer (some ⟨w.heap.size + 1, 0, none⟩) := (hu 3 rfl).trans e3
      have hk := Lib.hid (fun w1 (h : Below ω.heap.size ω w1) => hK (.pointer (some ⟨w.heap.size + 1, 4, none⟩)) w1 rfl h)
      clear hK hu hc
      go_simp
      exact hk.out _ (Below.refl _ _)
    · refine fstep_val rfl rfl (calm_step rfl fun aa ω κ hb hu hc hK => ?_)
      have h29 : aa.tmps[29]?.getD undef = .pointer (some ⟨w.heap.size + 1, 4, none⟩) := hc 5 29 rfl rfl
      have hk := Lib.hid (fun w1 (h : Below ω.heap.size ω w1) => hK (.agg (arrK .u64 4 (wd y2))) w1 rfl h)
      clear hK hu hc
      have hl := qd_1 (hB.out.step hb)
      have hl1 := hl.1
      have hl2 := hl.2
      go_simp
      exact hk.out _ (Below.refl _ _)
    · refine fstep_val rfl rfl (calm_step rfl fun aa ω κ hb hu hc hK => ?_)
      have h3 : aa.tmps[3]?.getD undef = .pointer (some ⟨w.heap.size + 1, 0, none⟩) := (hu 3 rfl).trans e3
      have hk := Lib.hid (fun w1 (h : Below ω.heap.size ω w1) => hK (.pointer (some ⟨w.heap.size + 1, 0, none⟩)) w1 rfl h)
      clear hK hu hc
      go_simp
      exact hk.out _ (Below.refl _ _)
    · refine fstep_val rfl rfl (calm_step rfl fun aa ω κ hb hu hc hK => ?_)
      have h31 : aa.tmps[31]?.getD undef = .pointer (some ⟨w.heap.size + 1, 0, none⟩) := hc 7 31 rfl rfl
      have hk := Lib.hid (fun w1 (h : Below ω.heap.size ω w1) => hK (.agg (arrK .u64 4 (wd x2))) w1 rfl h)
      clear hK hu hc
      have hl := qd_0 (hB.out.step hb)
      have hl1 := hl.1
      have hl2 := hl.2
      go_simp
      exact hk.out _ (Below.refl _ _)
    · refine fstep_val rfl rfl (calm_step rfl fun aa ω κ hb hu hc hK => ?_)
      have h30 : aa.tmps[30]?.getD undef = .agg (arrK .u64 4 (wd y2)) := hc 6 30 rfl rfl
      have h32 : aa.tmps[32]?.getD undef = .agg (arrK .u64 4 (wd x2)) := hc 8 32 rfl rfl
      have hk := Lib.hid (fun w1 (h : Below ω.heap.size ω w1) => hK (.agg (arrK .u64 4 (wd s4))) w1 rfl h)
      clear hK hu hc
      go_simp
      go_at_call 167
      refine (ks4.out _).mono ?_
      rintro e w1 ⟨rfl, hb1⟩
      exact hk.out _ hb1
    · refine fstep_val rfl rfl (calm_step rfl fun aa ω κ hb hu hc hK => ?_)
      have h28 : aa.tmps[28]?.getD undef = .agg (arrK .u64 4 (wd s3)) := hc 4 28 rfl rfl
      have h33 : aa.tmps[33]?.getD undef = .agg (arrK .u64 4 (wd s4)) := hc 9 33 rfl rfl
      have hk := Lib.hid (fun w1 (h : Below ω.heap.size ω w1) => hK (.agg (arrK .u64 4 (wd qb))) w1 rfl h)
      clear hK hu hc
      go_simp
      go_at_call 165
      refine (kqb.out _).mono ?_
      rintro e w1 ⟨rfl, hb1⟩
      exact hk.out _ hb1
    · refine fstep_al (n := 4) rfl rfl fun aa ω κ hK => ?_
      have hk := Lib.hid hK
      clear hK
      go_simp
      exact hk.out _ _ hc0
    · refine fstep_st (j := 11) (n := 4) (d := 6) rfl rfl rfl rfl rfl hcqb.1 rfl rfl fun aa ω κ g hb hu hc hp hr hK => ?_
      have h34 : aa.tmps[34]?.getD undef = .agg (arrK .u64 4 (wd qb)) := hc 10 34 rfl rfl
      have hk := Lib.hid hK
      clear hK hu hc
      have hcc := hcqb
      go_simp
      exact hk.out undef
    · intro a1 w1 G I
      have ha0 := hha0.out
      subst ha0
      have he := act_patch (n := 78) [false, false, false, false, false, false, true, false, false, false, false, false, false, false, false, false, false, false, false, false, false, false, false, false, true, true, true, true, true, true, true, true, true, true, true, false, false, false, false, false, false, false, false, false, false, false, false, false, false, false, false, false, false, false, false, false, false, false, false, false, false, false, false, false, false, false, false, false, false, false, false, false, false, false, false, false, false, false] rfl (by kernel_rfl) I.un I.sz I.df
      simp only [patch, cond_true, cond_false, Nat.reduceAdd] at he
      have hal6 := I.al 11 6 4 rfl rfl rfl
      have hltz : w.heap.size + 1 + 1 < G 11 := Nat.lt_of_lt_of_le hR.out.lt (I.blk 11 4 rfl rfl).1
      replace hA := Lib.hid (hA.out.step I.bel)
      replace hB := Lib.hid (hB.out.step I.bel)
      replace hR := Lib.hid (row_below hR.out I.bel hR.out.lt)
      replace hL := Lib.hid (below_step I.bel hL.out (Nat.le_refl _))
      replace hX5 := Lib.hid (hX5.out.step I.bel)
      have hX6 := Lib.hid (show At w1 (G 11) .u64 4 (wd qb) from ⟨(I.blk 11 4 rfl rfl).2, (I.row 12 11 rfl rfl).2.2⟩)
      clear ks3 ks4 kqb
      clear I hz0 hha0 e2 e3
      rw [he]
      clear he
      rw [hal6]
      clear hal6
      generalize a1.tmps[24]?.getD undef = x24 at *
      generalize a1.tmps[25]?.getD undef = x25 at *
      generalize a1.tmps[26]?.getD undef = x26 at *
      generalize a1.tmps[27]?.getD undef = x27 at *
      generalize a1.tmps[28]?.getD undef = x28 at *
      generalize a1.tmps[29]?.getD undef = x29 at *
      generalize a1.tmps[30]?.getD undef = x30 at *
      generalize a1.tmps[31]?.getD undef = x31 at *
      generalize a1.tmps[32]?.getD undef = x32 at *
      generalize a1.tmps[33]?.getD undef = x33 at *
      generalize a1.tmps[34]?.getD undef = x34 at *
      obtain ⟨g6, hgz⟩ : ∃ g, G 11 = g := ⟨_, rfl⟩
      rw [hgz] at hX6 hltz ⊢
      clear hgz
      have hltg6 := Lib.hid hltz
      clear hltz
      generalize w1 = W6 at *
      go_upto_region 3 with (fail)
      have hl1 := (qd_3 hA.out).1
      have hl2 := (qd_3 hA.out).2
      have hl3 := (qd_3 hB.out).1
      have hl4 := (qd_3 hB.out).2
      go_upto_region 4 with (fail)
      refine (kc0.out _).mono ?_
      rintro e w2 ⟨rfl, hbz⟩
      clear hl1 hl2 hl3 hl4 kc0
      replace hA := Lib.hid (hA.out.step hbz)
      replace hB := Lib.hid (hB.out.step hbz)
      replace hR := Lib.hid (row_below hR.out hbz hR.out.lt)
      replace hL := Lib.hid (below_step hbz hL.out (Nat.le_refl _))
      replace hX5 := Lib.hid (hX5.out.step hbz)
      replace hX6 := Lib.hid (hX6.out.step hbz)
      clear hbz
      dsimp only
      go_upto_region 4 with (fail)
      refine (kd.out _).mono ?_
      rintro e w3 ⟨rfl, hbz⟩
      clear kd
      replace hA := Lib.hid (hA.out.step hbz)
      replace hB := Lib.hid (hB.out.step hbz)
      replace hR := Lib.hid (row_below hR.out hbz hR.out.lt)
      replace hL := Lib.hid (below_step hbz hL.out (Nat.le_refl _))
      replace hX5 := Lib.hid (hX5.out.step hbz)
      replace hX6 := Lib.hid (hX6.out.step hbz)
      clear hbz
      dsimp only
      go_upto_region 4 with (fail)
      refine (kc1.out _).mono ?_
      rintro e w4 ⟨rfl, hbz⟩
      clear kc1
      replace hA := Lib.hid (hA.out.step hbz)
      replace hB := Lib.hid (hB.out.step hbz)
      replace hR := Lib.hid (row_below hR.out hbz hR.out.lt)
      replace hL := Lib.hid (below_step hbz hL.out (Nat.le_refl _))
      replace hX5 := Lib.hid (hX5.out.step hbz)
      replace hX6 := Lib.hid (hX6.out.step hbz)
      clear hbz
      dsimp only
      have qhR := hR.out.lt
      have qhX5 := hX5.out.lt
      have qhX6 := hX6.out.lt
      replace hA := Lib.hid (hA.out.old (Obj.cells (arrK .u64 4 (wd c1)) 41))
      replace hB := Lib.hid (hB.out.old (Obj.cells (arrK .u64 4 (wd c1)) 41))
      replace hR := Lib.hid ((row_old (o := (Obj.cells (arrK .u64 4 (wd c1)) 41)) hR.out.lt).2 hR.out)
      replace hL := Lib.hid (Below.trans hL.out ((below_alloc w4 (Obj.cells (arrK .u64 4 (wd c1)) 41)).mono hL.out.size))
      replace hX5 := Lib.hid (hX5.out.old (Obj.cells (arrK .u64 4 (wd c1)) 41))
      replace hX6 := Lib.hid (hX6.out.old (Obj.cells (arrK .u64 4 (wd c1)) 41))
      have hX7 := Lib.hid (At.new (w := w4) (k := .u64) (m := 4) (f := (wd c1)) 41 rfl)
      go_upto_region 4 with (fail)
      obtain ⟨g7, hgz⟩ : ∃ g, w4.heap.size = g := ⟨_, rfl⟩
      rw [hgz] at hX7 qhR qhX5 qhX6 ⊢
      clear hgz
      generalize w4.alloc _ = W7 at *
      have lg7qhR := Lib.hid qhR
      have lg7qhX5 := Lib.hid qhX5
      have lg7qhX6 := Lib.hid qhX6
      clear qhR qhX5 qhX6
      have hr1 := hX7.out.row
      have hr2 := hX7.out.eq
      go_upto_region 5 with (fail)
      refine (kqc.out _).mono ?_
      rintro e w5 ⟨rfl, hbz⟩
      clear hr1 hr2 kqc
      replace hA := Lib.hid (hA.out.step hbz)
      replace hB := Lib.hid (hB.out.step hbz)
      replace hR := Lib.hid (row_below hR.out hbz hR.out.lt)
      replace hL := Lib.hid (below_step hbz hL.out (Nat.le_refl _))
      replace hX5 := Lib.hid (hX5.out.step hbz)
      replace hX6 := Lib.hid (hX6.out.step hbz)
      replace hX7 := Lib.hid (hX7.out.step hbz)
      clear hbz
      dsimp only
      have olg7qhR := lg7qhR.out
      have olg7qhX5 := lg7qhX5.out
      have olg7qhX6 := lg7qhX6.out
      have hrw := hX7.out.row
      replace hA := Lib.hid (hA.out.far (c := arrK .u64 4 (wd qc)) (show w.heap.size ≠ g7 by omega))
      replace hB := Lib.hid (hB.out.far (c := arrK .u64 4 (wd qc)) (show w.heap.size + 1 ≠ g7 by omega))
      replace hR := Lib.hid ((row_setRow_far (c' := arrK .u64 4 (wd qc)) (show w.heap.size + 1 + 1 ≠ g7 by omega)).2 hR.out)
      replace hL := Lib.hid (below_setRow (c := arrK .u64 4 (wd qc)) hL.out (show w.heap.size ≤ g7 by omega))
      replace hX5 := Lib.hid (hX5.out.far (c := arrK .u64 4 (wd qc)) (show g5 ≠ g7 by omega))
      replace hX6 := Lib.hid (hX6.out.far (c := arrK .u64 4 (wd qc)) (show g6 ≠ g7 by omega))
      replace hX7 := Lib.hid (At.put (k := .u64) (f := wd qc) hX7.out.row)
      clear olg7qhR olg7qhX5 olg7qhX6
      go_upto_region 5 with (fail)
      clear hrw
      generalize w5.setRow _ _ = W5b at *
      have hl1 := (qd_2 hA.out).1
      have hl2 := (qd_2 hA.out).2
      have hl3 := (qd_2 hB.out).1
      have hl4 := (qd_2 hB.out).2
      go_upto_region 6 with (fail)
      refine (kz0.out _).mono ?_
      rintro e w6 ⟨rfl, hbz⟩
      clear hl1 hl2 hl3 hl4 kz0
      replace hA := Lib.hid (hA.out.step hbz)
      replace hB := Lib.hid (hB.out.step hbz)
      replace hR := Lib.hid (row_below hR.out hbz hR.out.lt)
      replace hL := Lib.hid (below_step hbz hL.out (Nat.le_refl _))
      replace hX5 := Lib.hid (hX5.out.step hbz)
      replace hX6 := Lib.hid (hX6.out.step hbz)
      replace hX7 := Lib.hid (hX7.out.step hbz)
      clear hbz
      dsimp only
      have qhR := hR.out.lt
      have qhX5 := hX5.out.lt
      have qhX6 := hX6.out.lt
      have qhX7 := hX7.out.lt
      replace hA := Lib.hid (hA.out.old (Obj.cells (arrK .u64 4 (wd z0)) 41))
      replace hB := Lib.hid (hB.out.old (Obj.cells (arrK .u64 4 (wd z0)) 41))
      replace hR := Lib.hid ((row_old (o := (Obj.cells (arrK .u64 4 (wd z0)) 41)) hR.out.lt).2 hR.out)
      replace hL := Lib.hid (Below.trans hL.out ((below_alloc w6 (Obj.cells (arrK .u64 4 (wd z0)) 41)).mono hL.out.size))
      replace hX5 := Lib.hid (hX5.out.old (Obj.cells (arrK .u64 4 (wd z0)) 41))
      replace hX6 := Lib.hid (hX6.out.old (Obj.cells (arrK .u64 4 (wd z0)) 41))
      replace hX7 := Lib.hid (hX7.out.old (Obj.cells (arrK .u64 4 (wd z0)) 41))
      have hX8 := Lib.hid (At.new (w := w6) (k := .u64) (m := 4) (f := (wd z0)) 41 rfl)
      go_upto_region 6 with (fail)
      obtain ⟨g8, hgz⟩ : ∃ g, w6.heap.size = g := ⟨_, rfl⟩
      rw [hgz] at hX8 qhR qhX5 qhX6 qhX7 ⊢
      clear hgz
      generalize w6.alloc _ = W8 at *
      have lg8qhR := Lib.hid qhR
      have lg8qhX5 := Lib.hid qhX5
      have lg8qhX6 := Lib.hid qhX6
      have lg8qhX7 := Lib.hid qhX7
      clear qhR qhX5 qhX6 qhX7
      have hr1 := hX8.out.row
      have hr2 := hX8.out.eq
      go_upto_region 7 with (fail)
      refine (kqz.out _).mono ?_
      rintro e w9 ⟨rfl, hbz⟩
      clear hr1 hr2 kqz
      replace hA := Lib.hid (hA.out.step hbz)
      replace hB := Lib.hid (hB.out.step hbz)
      replace hR := Lib.hid (row_below hR.out hbz hR.out.lt)
      replace hL := Lib.hid (below_step hbz hL.out (Nat.le_refl _))
      replace hX5 := Lib.hid (hX5.out.step hbz)
      replace hX6 := Lib.hid (hX6.out.step hbz)
      replace hX7 := Lib.hid (hX7.out.step hbz)
      replace hX8 := Lib.hid (hX8.out.step hbz)
      clear hbz
      dsimp only
      have olg8qhR := lg8qhR.out
      have olg8qhX5 := lg8qhX5.out
      have olg8qhX6 := lg8qhX6.out
      have olg8qhX7 := lg8qhX7.out
      have hrw := hX8.out.row
      replace hA := Lib.hid (hA.out.far (c := arrK .u64 4 (wd qz)) (show w.heap.size ≠ g8 by omega))
      replace hB := Lib.hid (hB.out.far (c := arrK .u64 4 (wd qz)) (show w.heap.size + 1 ≠ g8 by omega))
      replace hR := Lib.hid ((row_setRow_far (c' := arrK .u64 4 (wd qz)) (show w.heap.size + 1 + 1 ≠ g8 by omega)).2 hR.out)
      replace hL := Lib.hid (below_setRow (c := arrK .u64 4 (wd qz)) hL.out (show w.heap.size ≤ g8 by omega))
      replace hX5 := Lib.hid (hX5.out.far (c := arrK .u64 4 (wd qz)) (show g5 ≠ g8 by omega))
      replace hX6 := Lib.hid (hX6.out.far (c := arrK .u64 4 (wd qz)) (show g6 ≠ g8 by omega))
      replace hX7 := Lib.hid (hX7.out.far (c := arrK .u64 4 (wd qz)) (show g7 ≠ g8 by omega))
      replace hX8 := Lib.hid (At.put (k := .u64) (f := wd qz) hX8.out.row)
      clear olg8qhR olg8qhX5 olg8qhX6 olg8qhX7
      go_upto_region 7 with (fail)
      clear hrw
      generalize w9.setRow _ _ = W9b at *
      generalize ha0 : Act.mk _ _ = a0
      have e5 : a0.tmps[5]?.getD undef = .pointer (some ⟨g5, 0, none⟩) := by rw [← ha0]; rfl
      have e6 : a0.tmps[6]?.getD undef = .pointer (some ⟨g6, 0, none⟩) := by rw [← ha0]; rfl
      have e7 : a0.tmps[7]?.getD undef = .pointer (some ⟨g7, 0, none⟩) := by rw [← ha0]; rfl
      have e8 : a0.tmps[8]?.getD undef = .pointer (some ⟨g8, 0, none⟩) := by rw [← ha0]; rfl
      have hz0 : a0.tmps.size = 78 := by rw [← ha0]; rfl
      have hha0 := Lib.hid ha0
      clear ha0
      refine wp_region_fresh ⟨fun jx_ => match jx_ with | 0 => some (.agg (arrK .u64 4 (wd qb))) | 1 => some (.agg (arrK .u64 4 (wd qa))) | 2 => some (.agg (arrK .u64 4 (wd qe))) | 3 => some (.agg (arrK .u64 4 (wd qz))) | 4 => some (.agg (arrK .u64 4 (wd qc))) | 5 => some (.agg (arrK .u64 4 (wd qf))) | 6 => some (.agg (arrK .u64 4 (wd qz))) | 7 => some (.agg (arrK .u64 4 (wd qc))) | 8 => some (.agg (arrK .u64 4 (wd qg))) | 9 => some (.agg (arrK .u64 4 (wd qb))) | 10 => some (.agg (arrK .u64 4 (wd qa))) | 11 => some (.agg (arrK .u64 4 (wd qh))) | _ => none, fun jx_ => match jx_ with | 12 => some 4 | 13 => some 4 | 14 => some 4 | 15 => some 4 | _ => none, fun jx_ => match jx_ with | 16 => some 12 | 17 => some 13 | 18 => some 14 | 19 => some 15 | _ => none, fun jx_ => match jx_ with | 16 => arrK .u64 4 (wd qe) | 17 => arrK .u64 4 (wd qf) | 18 => arrK .u64 4 (wd qg) | 19 => arrK .u64 4 (wd qh) | _ => #[]⟩ (by kernel_rfl) (by kernel_rfl) (by kernel_rfl) (slotsOk_of hz0 (by kernel_rfl)) rfl ⟨?_, ?_, ?_, ?_, ?_, ?_, ?_, ?_, ?_, ?_, ?_, ?_, ?_, ?_, ?_, ?_, ?_, ?_, ?_, ?_, trivial⟩ ?_
      · refine fstep_val rfl rfl (calm_step rfl fun aa ω κ hb hu hc hK => ?_)
        have h6 : aa.tmps[6]?.getD undef = .pointer (some ⟨g6, 0, none⟩) := (hu 6 rfl).trans e6
        have hk := Lib.hid (fun w1 (h : Below ω.heap.size ω w1) => hK (.agg (arrK .u64 4 (wd qb))) w1 rfl h)
        clear hK hu hc
        have hr1 := (hX6.out.step hb).row
        have hr2 := (hX6.out.step hb).eq
        go_simp
        exact hk.out _ (Below.refl _ _)
      · refine fstep_val rfl rfl (calm_step rfl fun aa ω κ hb hu hc hK => ?_)
        have h5 : aa.tmps[5]?.getD undef = .pointer (some ⟨g5, 0, none⟩) := (hu 5 rfl).trans e5
        have hk := Lib.hid (fun w1 (h : Below ω.heap.size ω w1) => hK (.agg (arrK .u64 4 (wd qa))) w1 rfl h)
        clear hK hu hc
        have hr1 := (hX5.out.step hb).row
        have hr2 := (hX5.out.step hb).eq
        go_simp
        exact hk.out _ (Below.refl _ _)
      · refine fstep_val rfl rfl (calm_step rfl fun aa ω κ hb hu hc hK => ?_)
        have h53 : aa.tmps[53]?.getD undef = .agg (arrK .u64 4 (wd qb)) := hc 0 53 rfl rfl
        have h54 : aa.tmps[54]?.getD undef = .agg (arrK .u64 4 (wd qa)) := hc 1 54 rfl rfl
        have hk := Lib.hid (fun w1 (h : Below ω.heap.size ω w1) => hK (.agg (arrK .u64 4 (wd qe))) w1 rfl h)
        clear hK hu hc
        go_simp
        go_at_call 166
        refine (kqe.out _).mono ?_
        rintro e w1 ⟨rfl, hb1⟩
        exact hk.out _ hb1
      · refine fstep_val rfl rfl (calm_step rfl fun aa ω κ hb hu hc hK => ?_)
        have h8 : aa.tmps[8]?.getD undef = .pointer (some ⟨g8, 0, none⟩) := (hu 8 rfl).trans e8
        have hk := Lib.hid (fun w1 (h : Below ω.heap.size ω w1) => hK (.agg (arrK .u64 4 (wd qz))) w1 rfl h)
        clear hK hu hc
        have hr1 := (hX8.out.step hb).row
        have hr2 := (hX8.out.step hb).eq
        go_simp
        exact hk.out _ (Below.refl _ _)
      · refine fstep_val rfl rfl (calm_step rfl fun aa ω κ hb hu hc hK => ?_)
        have h7 : aa.tmps[7]?.getD undef = .pointer (some ⟨g7, 0, none⟩) := (hu 7 rfl).trans e7
        have hk := Lib.hid (fun w1 (h : Below ω.heap.size ω w1) => hK (.agg (arrK .u64 4 (wd qc))) w1 rfl h)
        clear hK hu hc
        have hr1 := (hX7.out.step hb).row
        have hr2 := (hX7.out.step hb).eq
        go_simp
        exact hk.out _ (Below.refl _ _)
      · refine fstep_val rfl rfl (calm_step rfl fun aa ω κ hb hu hc hK => ?_)
        have h56 : aa.tmps[56]?.getD undef = .agg (arrK .u64 4 (wd qz)) := hc 3 56 rfl rfl
        have h57 : aa.tmps[57]?.getD undef = .agg (arrK .u64 4 (wd qc)) := hc 4 57 rfl rfl
        have hk := Lib.hid (fun w1 (h : Below ω.heap.size ω w1) => hK (.agg (arrK .u64 4 (wd qf))) w1 rfl h)
        clear hK hu hc
        go_simp
        go_at_call 166
        refine (kqf.out _).mono ?_
        rintro e w1 ⟨rfl, hb1⟩
        exact hk.out _ hb1
      · refine fstep_val rfl rfl (calm_step rfl fun aa ω κ hb hu hc hK => ?_)
        have h8 : aa.tmps[8]?.getD undef = .pointer (some ⟨g8, 0, none⟩) := (hu 8 rfl).trans e8
        have hk := Lib.hid (fun w1 (h : Below ω.heap.size ω w1) => hK (.agg (arrK .u64 4 (wd qz))) w1 rfl h)
        clear hK hu hc
        have hr1 := (hX8.out.step hb).row
        have hr2 := (hX8.out.step hb).eq
        go_simp
        exact hk.out _ (Below.refl _ _)
      · refine fstep_val rfl rfl (calm_step rfl fun aa ω κ hb hu hc hK => ?_)
        have h7 : aa.tmps[7]?.getD undef = .pointer (some ⟨g7, 0, none⟩) := (hu 7 rfl).trans e7
        have hk := Lib.hid (fun w1 (h : Below ω.heap.size ω w1) => hK (.agg (arrK .u64 4 (wd qc))) w1 rfl h)
        clear hK hu hc
        have hr1 := (hX7.out.step hb).row
        have hr2 := (hX7.out.step hb).eq
        go_simp
        exact hk.out _ (Below.refl _ _)
      · refine fstep_val rfl rfl (calm_step rfl fun aa ω κ hb hu hc hK => ?_)
        have h59 : aa.tmps[59]?.getD undef = .agg (arrK .u64 4 (wd qz)) := hc 6 59 rfl rfl
        have h60 : aa.tmps[60]?.getD undef = .agg (arrK .u64 4 (wd qc)) := hc 7 60 rfl rfl
        have hk := Lib.hid (fun w1 (h : Below ω.heap.size ω w1) => hK (.agg (arrK .u64 4 (wd qg))) w1 rfl h)
        clear hK hu hc
        go_simp
        go_at_call 167
        refine (kqg.out _).mono ?_
        rintro e w1 ⟨rfl, hb1⟩
        exact hk.out _ hb1
      · refine fstep_val rfl rfl (calm_step rfl fun aa ω κ hb hu hc hK => ?_)
        have h6 : aa.tmps[6]?.getD undef = .pointer (some ⟨g6, 0, none⟩) := (hu 6 rfl).trans e6
        have hk := Lib.hid (fun w1 (h : Below ω.heap.size ω w1) => hK (.agg (arrK .u64 4 (wd qb))) w1 rfl h)
        clear hK hu hc
        have hr1 := (hX6.out.step hb).row
        have hr2 := (hX6.out.step hb).eq
        go_simp
        exact hk.out _ (Below.refl _ _)
      · refine fstep_val rfl rfl (calm_step rfl fun aa ω κ hb hu hc hK => ?_)
        have h5 : aa.tmps[5]?.getD undef = .pointer (some ⟨g5, 0, none⟩) := (hu 5 rfl).trans e5
        have hk := Lib.hid (fun w1 (h : Below ω.heap.size ω w1) => hK (.agg (arrK .u64 4 (wd qa))) w1 rfl h)
        clear hK hu hc
        have hr1 := (hX5.out.step hb).row
        have hr2 := (hX5.out.step hb).eq
        go_simp
        exact hk.out _ (Below.refl _ _)
      · refine fstep_val rfl rfl (calm_step rfl fun aa ω κ hb hu hc hK => ?_)
        have h62 : aa.tmps[62]?.getD undef = .agg (arrK .u64 4 (wd qb)) := hc 9 62 rfl rfl
        have h63 : aa.tmps[63]?.getD undef = .agg (arrK .u64 4 (wd qa)) := hc 10 63 rfl rfl
        have hk := Lib.hid (fun w1 (h : Below ω.heap.size ω w1) => hK (.agg (arrK .u64 4 (wd qh))) w1 rfl h)
        clear hK hu hc
        go_simp
        go_at_call 167
        refine (kqh.out _).mono ?_
        rintro e w1 ⟨rfl, hb1⟩
        exact hk.out _ hb1
      · refine fstep_al (n := 4) rfl rfl fun aa ω κ hK => ?_
        have hk := Lib.hid hK
        clear hK
        go_simp
        exact hk.out _ _ hc0
      · refine fstep_al (n := 4) rfl rfl fun aa ω κ hK => ?_
        have hk := Lib.hid hK
        clear hK
        go_simp
        exact hk.out _ _ hc0
      · refine fstep_al (n := 4) rfl rfl fun aa ω κ hK => ?_
        have hk := Lib.hid hK
        clear hK
        go_simp
        exact hk.out _ _ hc0
      · refine fstep_al (n := 4) rfl rfl fun aa ω κ hK => ?_
        have hk := Lib.hid hK
        clear hK
        go_simp
        exact hk.out _ _ hc0
      · refine fstep_st (j := 12) (n := 4) (d := 9) rfl rfl rfl rfl rfl hcqe.1 rfl rfl fun aa ω κ g hb hu hc hp hr hK => ?_
        have h55 : aa.tmps[55]?.getD undef = .agg (arrK .u64 4 (wd qe)) := hc 2 55 rfl rfl
        have hk := Lib.hid hK
        clear hK hu hc
        have hcc := hcqe
        go_simp
        exact hk.out undef
      · refine fstep_st (j := 13) (n := 4) (d := 10) rfl rfl rfl rfl rfl hcqf.1 rfl rfl fun aa ω κ g hb hu hc hp hr hK => ?_
        have h58 : aa.tmps[58]?.getD undef = .agg (arrK .u64 4 (wd qf)) := hc 5 58 rfl rfl
        have hk := Lib.hid hK
        clear hK hu hc
        have hcc := hcqf
        go_simp
        exact hk.out undef
      · refine fstep_st (j := 14) (n := 4) (d := 11) rfl rfl rfl rfl rfl hcqg.1 rfl rfl fun aa ω κ g hb hu hc hp hr hK => ?_
        have h61 : aa.tmps[61]?.getD undef = .agg (arrK .u64 4 (wd qg)) := hc 8 61 rfl rfl
        have hk := Lib.hid hK
        clear hK hu hc
        have hcc := hcqg
        go_simp
        exact hk.out undef
      · refine fstep_st (j := 15) (n := 4) (d := 12) rfl rfl rfl rfl rfl hcqh.1 rfl rfl fun aa ω κ g hb hu hc hp hr hK => ?_
        have h64 : aa.tmps[64]?.getD undef = .agg (arrK .u64 4 (wd qh)) := hc 11 64 rfl rfl
        have hk := Lib.hid hK
        clear hK hu hc
        have hcc := hcqh
        go_simp
        exact hk.out undef
      · intro a1 w1 G I
        have ha0 := hha0.out
        subst ha0
        have he := act_patch (n := 78) [false, false, false, false, false, false, false, false, false, true, true, true, true, false, false, false, false, false, false, false, false, false, false, false, false, false, false, false, false, false, false, false, false, false, false, false, false, false, false, false, false, false, false, false, false, false, false, false, false, false, false, false, false, true, true, true, true, true, true, true, true, true, true, true, true, false, false, false, false, false, false, false, false, false, false, false, false, false] rfl (by kernel_rfl) I.un I.sz I.df
        simp only [patch, cond_true, cond_false, Nat.reduceAdd] at he
        have hal9 := I.al 12 9 4 rfl rfl rfl
        have hal10 := I.al 13 10 4 rfl rfl rfl
        have hal11 := I.al 14 11 4 rfl rfl rfl
        have hal12 := I.al 15 12 4 rfl rfl rfl
        replace hR := Lib.hid (row_below hR.out I.bel hR.out.lt)
        replace hL := Lib.hid (below_step I.bel hL.out (Nat.le_refl _))
        have hX9 := Lib.hid (show At w1 (G 12) .u64 4 (wd qe) from ⟨(I.blk 12 4 rfl rfl).2, (I.row 16 12 rfl rfl).2.2⟩)
        have hX10 := Lib.hid (show At w1 (G 13) .u64 4 (wd qf) from ⟨(I.blk 13 4 rfl rfl).2, (I.row 17 13 rfl rfl).2.2⟩)
        have hX11 := Lib.hid (show At w1 (G 14) .u64 4 (wd qg) from ⟨(I.blk 14 4 rfl rfl).2, (I.row 18 14 rfl rfl).2.2⟩)
        have hX12 := Lib.hid (show At w1 (G 15) .u64 4 (wd qh) from ⟨(I.blk 15 4 rfl rfl).2, (I.row 19 15 rfl rfl).2.2⟩)
        clear hA hB hX5 hX6 hX7 hX8 kqe kqf kqg kqh
        clear I hz0 hha0 e5 e6 e7 e8
        rw [he]
        clear he
        rw [hal9]
        rw [hal10]
        rw [hal11]
        rw [hal12]
        clear hal9 hal10 hal11 hal12
        generalize a1.tmps[53]?.getD undef = x53 at *
        generalize a1.tmps[54]?.getD undef = x54 at *
        generalize a1.tmps[55]?.getD undef = x55 at *
        generalize a1.tmps[56]?.getD undef = x56 at *
        generalize a1.tmps[57]?.getD undef = x57 at *
        generalize a1.tmps[58]?.getD undef = x58 at *
        generalize a1.tmps[59]?.getD undef = x59 at *
        generalize a1.tmps[60]?.getD undef = x60 at *
        generalize a1.tmps[61]?.getD undef = x61 at *
        generalize a1.tmps[62]?.getD undef = x62 at *
        generalize a1.tmps[63]?.getD undef = x63 at *
        generalize a1.tmps[64]?.getD undef = x64 at *
        go_upto_region 8 with (fail)
        obtain ⟨g9, hgz⟩ : ∃ g, G 12 = g := ⟨_, rfl⟩
        rw [hgz] at hX9 ⊢
        clear hgz
        obtain ⟨g10, hgz⟩ : ∃ g, G 13 = g := ⟨_, rfl⟩
        rw [hgz] at hX10 ⊢
        clear hgz
        obtain ⟨g11, hgz⟩ : ∃ g, G 14 = g := ⟨_, rfl⟩
        rw [hgz] at hX11 ⊢
        clear hgz
        obtain ⟨g12, hgz⟩ : ∃ g, G 15 = g := ⟨_, rfl⟩
        rw [hgz] at hX12 ⊢
        clear hgz
        generalize w1 = W1 at *
        generalize ha0 : Act.mk _ _ = a0
        have e4 : a0.tmps[4]?.getD undef = .pointer (some ⟨w.heap.size + 1 + 1, 0, none⟩) := by rw [← ha0]; rfl
        have e9 : a0.tmps[9]?.getD undef = .pointer (some ⟨g9, 0, none⟩) := by rw [← ha0]; rfl
        have e10 : a0.tmps[10]?.getD undef = .pointer (some ⟨g10, 0, none⟩) := by rw [← ha0]; rfl
        have e11 : a0.tmps[11]?.getD undef = .pointer (some ⟨g11, 0, none⟩) := by rw [← ha0]; rfl
        have e12 : a0.tmps[12]?.getD undef = .pointer (some ⟨g12, 0, none⟩) := by rw [← ha0]; rfl
        have hz0 : a0.tmps.size = 78 := by rw [← ha0]; rfl
        have hha0 := Lib.hid ha0
        clear ha0
        refine wp_region_one (fun jx_ => match jx_ with | 0 => some (.agg (arrK .u64 4 (wd qe))) | 1 => some (.agg (arrK .u64 4 (wd qf))) | 2 => some (.agg (arrK .u64 4 (wd r1))) | 3 => some (.agg (arrK .u64 4 (wd qg))) | 4 => some (.agg (arrK .u64 4 (wd qh))) | 5 => some (.agg (arrK .u64 4 (wd r2))) | 6 => some (.agg (arrK .u64 4 (wd qf))) | 7 => some (.agg (arrK .u64 4 (wd qg))) | 8 => some (.agg (arrK .u64 4 (wd r3))) | 9 => some (.agg (arrK .u64 4 (wd qe))) | 10 => some (.agg (arrK .u64 4 (wd qh))) | 11 => some (.agg (arrK .u64 4 (wd r4))) | 12 => some (.agg (arrK .u64 16 (cat4 (wd r1) (wd r2) (wd r3) (wd r4)))) | _ => none) 13 ((w.heap.size + 1 + 1)) 16 (arrK .u64 16 (cat4 (wd r1) (wd r2) (wd r3) (wd r4))) (by kernel_rfl) (by kernel_rfl) (by kernel_rfl) (slotsOk_of hz0 (by kernel_rfl)) (of_decide_eq_true (by kernel_rfl)) hR.out ⟨?_, ?_, ?_, ?_, ?_, ?_, ?_, ?_, ?_, ?_, ?_, ?_, ?_, ?_, trivial⟩ ?_
        · refine one_before (by decide) (by kernel_rfl) (calm_step rfl fun aa ω κ hb hu hc hK => ?_)
          have h9 : aa.tmps[9]?.getD undef = .pointer (some ⟨g9, 0, none⟩) := (hu 9 rfl).trans e9
          have hk := Lib.hid (fun w1 (h : Below ω.heap.size ω w1) => hK (.agg (arrK .u64 4 (wd qe))) w1 rfl h)
          clear hK hu hc
          have hr1 := (hX9.out.step hb).row
          have hr2 := (hX9.out.step hb).eq
          go_simp
          exact hk.out _ (Below.refl _ _)
        · refine one_before (by decide) (by kernel_rfl) (calm_step rfl fun aa ω κ hb hu hc hK => ?_)
          have h10 : aa.tmps[10]?.getD undef = .pointer (some ⟨g10, 0, none⟩) := (hu 10 rfl).trans e10
          have hk := Lib.hid (fun w1 (h : Below ω.heap.size ω w1) => hK (.agg (arrK .u64 4 (wd qf))) w1 rfl h)
          clear hK hu hc
          have hr1 := (hX10.out.step hb).row
          have hr2 := (hX10.out.step hb).eq
          go_simp
          exact hk.out _ (Below.refl _ _)
        · refine one_before (by decide) (by kernel_rfl) (calm_step rfl fun aa ω κ hb hu hc hK => ?_)
          have h65 : aa.tmps[65]?.getD undef = .agg (arrK .u64 4 (wd qe)) := hc 0 65 rfl rfl
          have h66 : aa.tmps[66]?.getD undef = .agg (arrK .u64 4 (wd qf)) := hc 1 66 rfl rfl
          have hk := Lib.hid (fun w1 (h : Below ω.heap.size ω w1) => hK (.agg (arrK .u64 4 (wd r1))) w1 rfl h)
          clear hK hu hc
          go_simp
          go_at_call 165
          refine (kr1.out _).mono ?_
          rintro e w1 ⟨rfl, hb1⟩
          exact hk.out _ hb1
        · refine one_before (by decide) (by kernel_rfl) (calm_step rfl fun aa ω κ hb hu hc hK => ?_)
          have h11 : aa.tmps[11]?.getD undef = .pointer (some ⟨g11, 0, none⟩) := (hu 11 rfl).trans e11
          have hk := Lib.hid (fun w1 (h : Below ω.heap.size ω w1) => hK (.agg (arrK .u64 4 (wd qg))) w1 rfl h)
          clear hK hu hc
          have hr1 := (hX11.out.step hb).row
          have hr2 := (hX11.out.step hb).eq
          go_simp
          exact hk.out _ (Below.refl _ _)
        · refine one_before (by decide) (by kernel_rfl) (calm_step rfl fun aa ω κ hb hu hc hK => ?_)
          have h12 : aa.tmps[12]?.getD undef = .pointer (some ⟨g12, 0, none⟩) := (hu 12 rfl).trans e12
          have hk := Lib.hid (fun w1 (h : Below ω.heap.size ω w1) => hK (.agg (arrK .u64 4 (wd qh))) w1 rfl h)
          clear hK hu hc
          have hr1 := (hX12.out.step hb).row
          have hr2 := (hX12.out.step hb).eq
          go_simp
          exact hk.out _ (Below.refl _ _)
        · refine one_before (by decide) (by kernel_rfl) (calm_step rfl fun aa ω κ hb hu hc hK => ?_)
          have h68 : aa.tmps[68]?.getD undef = .agg (arrK .u64 4 (wd qg)) := hc 3 68 rfl rfl
          have h69 : aa.tmps[69]?.getD undef = .agg (arrK .u64 4 (wd qh)) := hc 4 69 rfl rfl
          have hk := Lib.hid (fun w1 (h : Below ω.heap.size ω w1) => hK (.agg (arrK .u64 4 (wd r2))) w1 rfl h)
          clear hK hu hc
          go_simp
          go_at_call 165
          refine (kr2.out _).mono ?_
          rintro e w1 ⟨rfl, hb1⟩
          exact hk.out _ hb1
        · refine one_before (by decide) (by kernel_rfl) (calm_step rfl fun aa ω κ hb hu hc hK => ?_)
          have h10 : aa.tmps[10]?.getD undef = .pointer (some ⟨g10, 0, none⟩) := (hu 10 rfl).trans e10
          have hk := Lib.hid (fun w1 (h : Below ω.heap.size ω w1) => hK (.agg (arrK .u64 4 (wd qf))) w1 rfl h)
          clear hK hu hc
          have hr1 := (hX10.out.step hb).row
          have hr2 := (hX10.out.step hb).eq
          go_simp
          exact hk.out _ (Below.refl _ _)
        · refine one_before (by decide) (by kernel_rfl) (calm_step rfl fun aa ω κ hb hu hc hK => ?_)
          have h11 : aa.tmps[11]?.getD undef = .pointer (some ⟨g11, 0, none⟩) := (hu 11 rfl).trans e11
          have hk := Lib.hid (fun w1 (h : Below ω.heap.size ω w1) => hK (.agg (arrK .u64 4 (wd qg))) w1 rfl h)
          clear hK hu hc
          have hr1 := (hX11.out.step hb).row
          have hr2 := (hX11.out.step hb).eq
          go_simp
          exact hk.out _ (Below.refl _ _)
        · refine one_before (by decide) (by kernel_rfl) (calm_step rfl fun aa ω κ hb hu hc hK => ?_)
          have h71 : aa.tmps[71]?.getD undef = .agg (arrK .u64 4 (wd qf)) := hc 6 71 rfl rfl
          have h72 : aa.tmps[72]?.getD undef = .agg (arrK .u64 4 (wd qg)) := hc 7 72 rfl rfl
          have hk := Lib.hid (fun w1 (h : Below ω.heap.size ω w1) => hK (.agg (arrK .u64 4 (wd r3))) w1 rfl h)
          clear hK hu hc
          go_simp
          go_at_call 165
          refine (kr3.out _).mono ?_
          rintro e w1 ⟨rfl, hb1⟩
          exact hk.out _ hb1
        · refine one_before (by decide) (by kernel_rfl) (calm_step rfl fun aa ω κ hb hu hc hK => ?_)
          have h9 : aa.tmps[9]?.getD undef = .pointer (some ⟨g9, 0, none⟩) := (hu 9 rfl).trans e9
          have hk := Lib.hid (fun w1 (h : Below ω.heap.size ω w1) => hK (.agg (arrK .u64 4 (wd qe))) w1 rfl h)
          clear hK hu hc
          have hr1 := (hX9.out.step hb).row
          have hr2 := (hX9.out.step hb).eq
          go_simp
          exact hk.out _ (Below.refl _ _)
        · refine one_before (by decide) (by kernel_rfl) (calm_step rfl fun aa ω κ hb hu hc hK => ?_)
          have h12 : aa.tmps[12]?.getD undef = .pointer (some ⟨g12, 0, none⟩) := (hu 12 rfl).trans e12
          have hk := Lib.hid (fun w1 (h : Below ω.heap.size ω w1) => hK (.agg (arrK .u64 4 (wd qh))) w1 rfl h)
          clear hK hu hc
          have hr1 := (hX12.out.step hb).row
          have hr2 := (hX12.out.step hb).eq
          go_simp
          exact hk.out _ (Below.refl _ _)
        · refine one_before (by decide) (by kernel_rfl) (calm_step rfl fun aa ω κ hb hu hc hK => ?_)
          have h74 : aa.tmps[74]?.getD undef = .agg (arrK .u64 4 (wd qe)) := hc 9 74 rfl rfl
          have h75 : aa.tmps[75]?.getD undef = .agg (arrK .u64 4 (wd qh)) := hc 10 75 rfl rfl
          have hk := Lib.hid (fun w1 (h : Below ω.heap.size ω w1) => hK (.agg (arrK .u64 4 (wd r4))) w1 rfl h)
          clear hK hu hc
          go_simp
          go_at_call 165
          refine (kr4.out _).mono ?_
          rintro e w1 ⟨rfl, hb1⟩
          exact hk.out _ hb1
        · refine one_before (by decide) (by kernel_rfl) (calm_step rfl fun aa ω κ hb hu hc hK => ?_)
          have h67 : aa.tmps[67]?.getD undef = .agg (arrK .u64 4 (wd r1)) := hc 2 67 rfl rfl
          have h70 : aa.tmps[70]?.getD undef = .agg (arrK .u64 4 (wd r2)) := hc 5 70 rfl rfl
          have h73 : aa.tmps[73]?.getD undef = .agg (arrK .u64 4 (wd r3)) := hc 8 73 rfl rfl
          have h76 : aa.tmps[76]?.getD undef = .agg (arrK .u64 4 (wd r4)) := hc 11 76 rfl rfl
          have hk := Lib.hid (fun w1 (h : Below ω.heap.size ω w1) => hK (.agg (arrK .u64 16 (cat4 (wd r1) (wd r2) (wd r3) (wd r4)))) w1 rfl h)
          clear hK hu hc
          exact wp_bldD (v0 := .agg (arrK .u64 4 (wd r1))) (v1 := .agg (arrK .u64 4 (wd r2))) (v2 := .agg (arrK .u64 4 (wd r3))) (v3 := .agg (arrK .u64 4 (wd r4))) rfl (by go_simp) (by go_simp) (by go_simp) (by go_simp) (build_qd _ _ _ _ _) (hk.out _ (Below.refl _ _))
        · refine one_q (one_write rfl rfl fun aa ω κ hb hu hc hr hK => ?_)
          have h4 : aa.tmps[4]?.getD undef = .pointer (some ⟨w.heap.size + 1 + 1, 0, none⟩) := (hu 4 rfl).trans e4
          have h77 : aa.tmps[77]?.getD undef = .agg (arrK .u64 16 (cat4 (wd r1) (wd r2) (wd r3) (wd r4))) := hc 12 77 rfl rfl
          have hk := Lib.hid hK
          clear hK hu hc
          have hcc := hcr
          go_simp
          exact hk.out undef
        · intro a1 w1 hb1 hu1 hsz1 hdf1 hv1
          have ha0 := hha0.out
          subst ha0
          have he := act_patch (n := 78) [false, false, false, false, false, false, false, false, false, false, false, false, false, false, false, false, false, false, false, false, false, false, false, false, false, false, false, false, false, false, false, false, false, false, false, false, false, false, false, false, false, false, false, false, false, false, false, false, false, false, false, false, false, false, false, false, false, false, false, false, false, false, false, false, false, true, true, true, true, true, true, true, true, true, true, true, true, true] rfl (by kernel_rfl) hu1 hsz1 hdf1
          simp only [patch, cond_true, cond_false, Nat.reduceAdd] at he
          have hXz := (At.put (k := .u64) (f := (cat4 (wd r1) (wd r2) (wd r3) (wd r4))) hR.out).below hb1 (by simpa using hR.out.lt)
          have hLz := Lib.hid (Below.trans (below_setRow (c := arrK .u64 16 (cat4 (wd r1) (wd r2) (wd r3) (wd r4))) hL.out (by omega)) (hb1.mono (by simpa using hL.out.size)))
          clear hR hL hX9 hX10 hX11 hX12 kr1 kr2 kr3 kr4
          clear hb1 hu1 hsz1 hdf1 hv1 hz0 hha0 e4 e9 e10 e11 e12
          rw [he]
          clear he
          generalize a1.tmps[65]?.getD undef = x65 at *
          generalize a1.tmps[66]?.getD undef = x66 at *
          generalize a1.tmps[67]?.getD undef = x67 at *
          generalize a1.tmps[68]?.getD undef = x68 at *
          generalize a1.tmps[69]?.getD undef = x69 at *
          generalize a1.tmps[70]?.getD undef = x70 at *
          generalize a1.tmps[71]?.getD undef = x71 at *
          generalize a1.tmps[72]?.getD undef = x72 at *
          generalize a1.tmps[73]?.getD undef = x73 at *
          generalize a1.tmps[74]?.getD undef = x74 at *
          generalize a1.tmps[75]?.getD undef = x75 at *
          generalize a1.tmps[76]?.getD undef = x76 at *
          generalize a1.tmps[77]?.getD undef = x77 at *
          go_wp2_with fail
          refine ret_row (p := 4) (ty := 216) (g := (w.heap.size + 1 + 1)) rfl Tryd.underlying216 rfl (by kernel_rfl) rfl hXz.row rfl ?_
          rw [hXz.eq]
          exact ⟨rfl, hLz.out⟩
end Go.Proofs.YtgdiokklfihfoaaDoor
