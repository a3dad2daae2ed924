/- Contracts of package curve: Zero, Base, On. · Contracts of package curve: Neg, Add. · The document's Pt: three numbers in a row; its parts loaded, the whole built. · Contracts of the document's points: PtOf, PtBase, Pt.Point, On. · The plain law of CurveTells: what package curve makes of two points, and what the document makes of them, is one thing. · Contracts of the document's points: Pt.Plus, On. · Points compared with themselves; a guarded operation as a rule of the walk; an operation passed over. · CurveTells: the law's function returns true. · A point that came in, by value. -/
import Derived.Test.YtodcjeaannfbnaaCv2
import Derived.Test.YtodcjeaannfbnaaCalmS
import Derived.Test.YtodcjeaannfbnaaRet2
import Derived.Test.YtodcjeaannfbnaaFe5
import Derived.Test.YtodcjeaannfbnaaOneW
import Derived.Test.YtodcjeaannfbnaaArgs
namespace Go.Proofs.Ytodcjeaannfbnaa
open Go.ChangeShapes Go.WideShapes Go.ChangeAt Go.RowKit
set_option maxHeartbeats 2000000
set_option maxRecDepth 100000
attribute [local go_sem ↓] load_fld load_num store_num execl_num execs_num load_pt store_pt execl_pt execs_pt load_qd store_qd execl_qd execs_qd
attribute [local go_sem] isHead_mk blkOf_mk isAgg_mk cellsV_mk row_drew rowAt_drew row_new_cells row_old rowAt_new rowAt_old setRow_new zeroNum zeroPt zeroQd
theorem build_pt1 (f : Nat → Nat) (w : World) : (Instr.build 42 #[(1, .agg (arrK .u64 4 f))]).run Try.prog w = .ok (.agg (arrK .u64 8 (cat2 (wd 0) f))) w := run_build w _ _ _ (by kernel_rfl)
theorem curve_Zero (w : World) : Calls Try.prog 37 #[] w fun e w' => e = .returned (ptV 0 1) ∧ Below w.heap.size w w' := by
  unfold ptV
  have hcz := arrK_cells .u64 8 (cat2 (wd 0) (wd 0))
  have hcp := arrK_cells .u64 8 (cat2 (wd 0) (wd 1))
  have hL0 := below_alloc w (Obj.cells (arrK .u64 8 (cat2 (wd 0) (wd 0))) 42)
  have hR0 : Row (w.alloc (Obj.cells (arrK .u64 8 (cat2 (wd 0) (wd 0))) 42)) w.heap.size 8 := (row_new rfl).2 hcz.1
  go_enter Try.func37, Try.ntmps37
  go_upto_region 1 with (fail)
  generalize w.alloc (Obj.cells (arrK .u64 8 (cat2 (wd 0) (wd 0))) 42) = W0 at *
  go_wp2_with (first | refine wpList_bldA (vx := Value.int IntKind.u64 (1 : Int)) rfl rfl rfl (build_one _) ?_ | refine wpList_bldA (vx := .agg (arrK .u64 4 (wd 1))) rfl rfl (by go_simp) (build_pt1 _ _) ?_)
  exact ret_stored (p := 0) (ty := 42) (g := w.heap.size) (n := 8) (c := arrK .u64 8 (cat2 (wd 0) (wd 1))) rfl Try.underlying42 rfl (by kernel_rfl) rfl hR0 hcp.1 rfl ⟨rfl, below_setRow hL0 (Nat.le_refl _)⟩
/-- The base point. -/
def bX : Nat := 0x216936d3cd6e53fec0a4e231fdd6dc5c692cc7609525a7b2c9562d608f25d51a
def bY : Nat := 0x6666666666666666666666666666666666666666666666666666666666666658
theorem build_bX (w : World) : (Instr.build 24 #[(0, Value.int IntKind.u64 14507833142362363162), (1, Value.int IntKind.u64 7578651490590762930), (2, Value.int IntKind.u64 13881468655802702940), (3, Value.int IntKind.u64 2407515759118799870)]).run Try.prog w = .ok (.agg (arrK .u64 4 (wd bX))) w := run_build w _ _ _ (by kernel_rfl)
theorem build_bY (w : World) : (Instr.build 24 #[(0, Value.int IntKind.u64 7378697629483820632), (1, Value.int IntKind.u64 7378697629483820646), (2, Value.int IntKind.u64 7378697629483820646), (3, Value.int IntKind.u64 7378697629483820646)]).run Try.prog w = .ok (.agg (arrK .u64 4 (wd bY))) w := run_build w _ _ _ (by kernel_rfl)
theorem curve_Base (w : World) : Calls Try.prog 38 #[] w fun e w' => e = .returned (ptV bX bY) ∧ Below w.heap.size w w' := by
  unfold ptV
  have hcz := arrK_cells .u64 8 (cat2 (wd 0) (wd 0))
  have hL0 := below_alloc w (Obj.cells (arrK .u64 8 (cat2 (wd 0) (wd 0))) 42)
  have hR0 : Row (w.alloc (Obj.cells (arrK .u64 8 (cat2 (wd 0) (wd 0))) 42)) w.heap.size 8 := (row_new rfl).2 hcz.1
  have hb1 := Lib.hid (fun V => build_bX V)
  have hb2 := Lib.hid (fun V => build_bY V)
  obtain ⟨F, hF⟩ : ∃ X, wd bX = X := ⟨_, rfl⟩
  obtain ⟨G, hG⟩ : ∃ X, wd bY = X := ⟨_, rfl⟩
  rw [hF] at hb1 ⊢
  rw [hG] at hb2 ⊢
  clear hF hG
  have hcp := arrK_cells .u64 8 (cat2 F G)
  go_enter Try.func38, Try.ntmps38
  go_upto_region 1 with (fail)
  generalize w.alloc (Obj.cells (arrK .u64 8 (cat2 (wd 0) (wd 0))) 42) = W0 at *
  go_wp2_with (first | refine wpList_bld4 (v0 := Value.int IntKind.u64 14507833142362363162) (v1 := Value.int IntKind.u64 7578651490590762930) (v2 := Value.int IntKind.u64 13881468655802702940) (v3 := Value.int IntKind.u64 2407515759118799870) rfl rfl rfl rfl rfl rfl (hb1.out _) ?_ | refine wpList_bld4 (v0 := Value.int IntKind.u64 7378697629483820632) (v1 := Value.int IntKind.u64 7378697629483820646) (v2 := Value.int IntKind.u64 7378697629483820646) (v3 := Value.int IntKind.u64 7378697629483820646) rfl rfl rfl rfl rfl rfl (hb2.out _) ?_ | refine wpList_bldB (v0 := .agg (arrK .u64 4 F)) (v1 := .agg (arrK .u64 4 G)) rfl rfl (by go_simp) (by go_simp) (build_pt _ _ _) ?_)
  exact ret_stored (p := 0) (ty := 42) (g := w.heap.size) (n := 8) (c := arrK .u64 8 (cat2 F G)) rfl Try.underlying42 rfl (by kernel_rfl) rfl hR0 hcp.1 rfl ⟨rfl, below_setRow hL0 (Nat.le_refl _)⟩
/-- Is it a point of the curve? -/
def onB (x y : Nat) : Bool := decide (x = x % fP) && decide (y = y % fP) && decide (difP (y * y % fP) (x * x % fP) = (1 + dN * ((x * x % fP) * (y * y % fP) % fP) % fP) % fP)
theorem curve_On (x y : Nat) (w : World) (hx : x < 2 ^ 256) (hy : y < 2 ^ 256) : Calls Try.prog 36 #[ptV x y] w fun e w' => e = .returned (.bool (onB x y)) ∧ Below w.heap.size w w' := by
  have hdN := dN_lt
  have h1l : 1 < 2 ^ 256 := by decide +kernel
  have kLx := Lib.hid (fun V => field_Low x V hx)
  have kLy := Lib.hid (fun V => field_Low y V hy)
  have hqx := Lib.hid (fun (r : Bool) (h : decide (x = x % fP) = !r) V => neqOf hx low_lt h V)
  have hqy := Lib.hid (fun (r : Bool) (h : decide (y = y % fP) = !r) V => neqOf hy low_lt h V)
  unfold onB
  obtain ⟨xx, hxx⟩ : ∃ v, x * x % fP = v := ⟨_, rfl⟩
  rw [hxx]
  have lxx : xx < 2 ^ 256 := hxx ▸ low_lt
  obtain ⟨yy, hyy⟩ : ∃ v, y * y % fP = v := ⟨_, rfl⟩
  rw [hyy]
  have lyy : yy < 2 ^ 256 := hyy ▸ low_lt
  obtain ⟨df, hdf⟩ : ∃ v, difP yy xx = v := ⟨_, rfl⟩
  rw [hdf]
  have ldf : df < 2 ^ 256 := hdf ▸ dif_low
  obtain ⟨xy, hxy⟩ : ∃ v, xx * yy % fP = v := ⟨_, rfl⟩
  rw [hxy]
  have lxy : xy < 2 ^ 256 := hxy ▸ low_lt
  obtain ⟨dx, hdx⟩ : ∃ v, dN * xy % fP = v := ⟨_, rfl⟩
  rw [hdx]
  have ldx : dx < 2 ^ 256 := hdx ▸ low_lt
  obtain ⟨sm, hsm⟩ : ∃ v, (1 + dx) % fP = v := ⟨_, rfl⟩
  rw [hsm]
  have lsm : sm < 2 ^ 256 := hsm ▸ low_lt
  have kxx := Lib.hid (fun V => field_Mul x x V hx hx)
  rw [hxx] at kxx
  have kyy := Lib.hid (fun V => field_Mul y y V hy hy)
  rw [hyy] at kyy
  have kdf := Lib.hid (fun V => field_Sub yy xx V lyy lxx)
  rw [hdf] at kdf
  have kxy := Lib.hid (fun V => field_Mul xx yy V lxx lyy)
  rw [hxy] at kxy
  have kdx := Lib.hid (fun V => field_Mul dN xy V hdN lxy)
  rw [hdx] at kdx
  have ksm := Lib.hid (fun V => field_Add 1 dx V h1l ldx)
  rw [hsm] at ksm
  have hqe := Lib.hid (fun (r : Bool) (h : decide (df = sm) = r) V => eqlOf ldf lsm h V)
  have kd := Lib.hid (fun V => curve_d V)
  obtain ⟨dn, hdn⟩ : ∃ d, dN = d := ⟨_, rfl⟩
  rw [hdn] at kd kdx
  obtain ⟨px, hpx⟩ : ∃ d, x % fP = d := ⟨_, rfl⟩
  obtain ⟨py, hpy⟩ : ∃ d, y % fP = d := ⟨_, rfl⟩
  rw [hpx] at kLx hqx ⊢
  rw [hpy] at kLy hqy ⊢
  obtain ⟨R, hRR'⟩ : ∃ R : Bool, (decide (x = px) && decide (y = py) && decide (df = sm)) = R := ⟨_, rfl⟩
  rw [hRR']
  have hRR := Lib.hid hRR'
  clear hRR'
  clear hdn hdN hpx hpy hx hy h1l hxx lxx hyy lyy hdf ldf hxy lxy hdx ldx hsm lsm
  unfold numV at kd kLx kLy kxx kyy kdf kxy kdx ksm
  unfold ptV
  have hcxx := arrK_cells .u64 4 (wd xx)
  have hcyy := arrK_cells .u64 4 (wd yy)
  have hc0 := arrK_cells .u64 4 (wd 0)
  have hL0 : Below w.heap.size w (w.alloc (Obj.cells (arrK .u64 8 (cat2 (wd x) (wd y))) 42)) := by go_grown
  have hA0 : At (w.alloc (Obj.cells (arrK .u64 8 (cat2 (wd x) (wd y))) 42)) w.heap.size .u64 8 (cat2 (wd x) (wd y)) := At.new _ rfl
  have hL := Lib.hid hL0
  have hA := Lib.hid hA0
  clear hL0 hA0
  go_enter Try.func36, Try.ntmps36
  go_upto_region 1 with (fail)
  generalize w.alloc _ = W0 at *
  by_cases hex : x = px
  · have hdx : decide (x = px) = true := decide_eq_true hex
    replace hqx := Lib.hid (hqx.out false hdx)
    replace hdx := Lib.hid hdx
    clear hex
    by_cases hey : y = py
    · have hdy : decide (y = py) = true := decide_eq_true hey
      replace hqy := Lib.hid (hqy.out false hdy)
      replace hdy := Lib.hid hdy
      clear hey
      generalize ha0 : Act.mk _ _ = a0
      have e1 : a0.tmps[1]?.getD undef = .pointer (some ⟨w.heap.size, 0, none⟩) := by rw [← ha0]; rfl
      have hz0 : a0.tmps.size = 40 := by rw [← ha0]; rfl
      have hha0 := Lib.hid ha0
      clear ha0
      refine wp_region_calm (fun jx_ => match jx_ with | 0 => SRel.is (.pointer (some ⟨w.heap.size, 0, none⟩)) | 1 => SRel.is (.agg (arrK .u64 4 (wd x))) | 2 => SRel.is (.pointer (some ⟨w.heap.size, 0, none⟩)) | 3 => SRel.is (.agg (arrK .u64 4 (wd x))) | 4 => SRel.is (.agg (arrK .u64 4 (wd px))) | 5 => SRel.is (.bool false) | 6 => SRel.is (.bool false) | 7 => SRel.is (.pointer (some ⟨w.heap.size, 4, none⟩)) | 8 => SRel.is (.agg (arrK .u64 4 (wd y))) | 9 => SRel.is (.pointer (some ⟨w.heap.size, 4, none⟩)) | 10 => SRel.is (.agg (arrK .u64 4 (wd y))) | 11 => SRel.is (.agg (arrK .u64 4 (wd py))) | 12 => SRel.is (.bool false) | 13 => SRel.is (.bool false) | _ => SRel.any) (by kernel_rfl) (by kernel_rfl) (by kernel_rfl) (slotsOk_of hz0 (by kernel_rfl)) ⟨?_, ?_, ?_, ?_, ?_, ?_, ?_, ?_, ?_, ?_, ?_, ?_, ?_, ?_, trivial⟩ ?_
      · refine calm_step rfl fun a ω κ hb hu hc hK => ?_
        have h1 : a.tmps[1]?.getD undef = .pointer (some ⟨w.heap.size, 0, none⟩) := (hu 1 rfl).trans e1
        have hk := Lib.hid (fun w1 (h : Below ω.heap.size ω w1) => hK (.pointer (some ⟨w.heap.size, 0, none⟩)) w1 rfl h)
        clear hK hu hc
        go_simp
        exact hk.out _ (Below.refl _ _)
      · refine calm_step rfl fun a ω κ hb hu hc hK => ?_
        have h5 : a.tmps[5]?.getD undef = .pointer (some ⟨w.heap.size, 0, none⟩) := hc 0 5 rfl rfl
        have hk := Lib.hid (fun w1 (h : Below ω.heap.size ω w1) => hK (.agg (arrK .u64 4 (wd x))) w1 rfl h)
        clear hK hu hc
        have hl := pt_0 (hA.out.step hb)
        have hl1 := hl.1
        have hl2 := hl.2
        go_simp
        exact hk.out _ (Below.refl _ _)
      · refine calm_step rfl fun a ω κ hb hu hc hK => ?_
        have h1 : a.tmps[1]?.getD undef = .pointer (some ⟨w.heap.size, 0, none⟩) := (hu 1 rfl).trans e1
        have hk := Lib.hid (fun w1 (h : Below ω.heap.size ω w1) => hK (.pointer (some ⟨w.heap.size, 0, none⟩)) w1 rfl h)
        clear hK hu hc
        go_simp
        exact hk.out _ (Below.refl _ _)
      · refine calm_step rfl fun a ω κ hb hu hc hK => ?_
        have h7 : a.tmps[7]?.getD undef = .pointer (some ⟨w.heap.size, 0, none⟩) := hc 2 7 rfl rfl
        have hk := Lib.hid (fun w1 (h : Below ω.heap.size ω w1) => hK (.agg (arrK .u64 4 (wd x))) w1 rfl h)
        clear hK hu hc
        have hl := pt_0 (hA.out.step hb)
        have hl1 := hl.1
        have hl2 := hl.2
        go_simp
        exact hk.out _ (Below.refl _ _)
      · refine calm_step rfl fun a ω κ hb hu hc hK => ?_
        have h8 : a.tmps[8]?.getD undef = .agg (arrK .u64 4 (wd x)) := hc 3 8 rfl rfl
        have hk := Lib.hid (fun w1 (h : Below ω.heap.size ω w1) => hK (.agg (arrK .u64 4 (wd px))) w1 rfl h)
        clear hK hu hc
        go_simp
        go_at_call 18
        refine (kLx.out _).mono ?_
        rintro e w1 ⟨rfl, hb1⟩
        exact hk.out _ hb1
      · refine calm_step rfl fun a ω κ hb hu hc hK => ?_
        have h6 : a.tmps[6]?.getD undef = .agg (arrK .u64 4 (wd x)) := hc 1 6 rfl rfl
        have h9 : a.tmps[9]?.getD undef = .agg (arrK .u64 4 (wd px)) := hc 4 9 rfl rfl
        have hk := Lib.hid (fun w1 (h : Below ω.heap.size ω w1) => hK (.bool false) w1 rfl h)
        clear hK hu hc
        exact wp_eqlA (v := arrK .u64 4 (wd x)) (u := arrK .u64 4 (wd px)) (.inl rfl) (by kernel_rfl) (by go_simp) (by go_simp) (hqx.out _) (hk.out _ (Below.refl _ _))
      · refine calm_step rfl fun a ω κ hb hu hc hK => ?_
        have h10 : a.tmps[10]?.getD undef = .bool false := hc 5 10 rfl rfl
        have hk := Lib.hid (fun w1 (h : Below ω.heap.size ω w1) => hK (.bool false) w1 rfl h)
        clear hK hu hc
        go_simp
        exact hk.out _ (Below.refl _ _)
      · refine calm_step_guard (g := 6) (b := false) (d := 11) rfl rfl (fun a w hc => hc 6 11 rfl rfl) fun a ω κ hb hu hc hK => ?_
        have h1 : a.tmps[1]?.getD undef = .pointer (some ⟨w.heap.size, 0, none⟩) := (hu 1 rfl).trans e1
        have hk := Lib.hid (fun w1 (h : Below ω.heap.size ω w1) => hK (.pointer (some ⟨w.heap.size, 4, none⟩)) w1 rfl h)
        clear hK hu hc
        go_simp
        exact hk.out _ (Below.refl _ _)
      · refine calm_step_guard (g := 6) (b := false) (d := 11) rfl rfl (fun a w hc => hc 6 11 rfl rfl) fun a ω κ hb hu hc hK => ?_
        have h12 : a.tmps[12]?.getD undef = .pointer (some ⟨w.heap.size, 4, none⟩) := hc 7 12 rfl rfl
        have hk := Lib.hid (fun w1 (h : Below ω.heap.size ω w1) => hK (.agg (arrK .u64 4 (wd y))) w1 rfl h)
        clear hK hu hc
        have hl := pt_1 (hA.out.step hb)
        have hl1 := hl.1
        have hl2 := hl.2
        go_simp
        exact hk.out _ (Below.refl _ _)
      · refine calm_step_guard (g := 6) (b := false) (d := 11) rfl rfl (fun a w hc => hc 6 11 rfl rfl) fun a ω κ hb hu hc hK => ?_
        have h1 : a.tmps[1]?.getD undef = .pointer (some ⟨w.heap.size, 0, none⟩) := (hu 1 rfl).trans e1
        have hk := Lib.hid (fun w1 (h : Below ω.heap.size ω w1) => hK (.pointer (some ⟨w.heap.size, 4, none⟩)) w1 rfl h)
        clear hK hu hc
        go_simp
        exact hk.out _ (Below.refl _ _)
      · refine calm_step_guard (g := 6) (b := false) (d := 11) rfl rfl (fun a w hc => hc 6 11 rfl rfl) fun a ω κ hb hu hc hK => ?_
        have h14 : a.tmps[14]?.getD undef = .pointer (some ⟨w.heap.size, 4, none⟩) := hc 9 14 rfl rfl
        have hk := Lib.hid (fun w1 (h : Below ω.heap.size ω w1) => hK (.agg (arrK .u64 4 (wd y))) w1 rfl h)
        clear hK hu hc
        have hl := pt_1 (hA.out.step hb)
        have hl1 := hl.1
        have hl2 := hl.2
        go_simp
        exact hk.out _ (Below.refl _ _)
      · refine calm_step_guard (g := 6) (b := false) (d := 11) rfl rfl (fun a w hc => hc 6 11 rfl rfl) fun a ω κ hb hu hc hK => ?_
        have h15 : a.tmps[15]?.getD undef = .agg (arrK .u64 4 (wd y)) := hc 10 15 rfl rfl
        have hk := Lib.hid (fun w1 (h : Below ω.heap.size ω w1) => hK (.agg (arrK .u64 4 (wd py))) w1 rfl h)
        clear hK hu hc
        go_simp
        go_at_call 18
        refine (kLy.out _).mono ?_
        rintro e w1 ⟨rfl, hb1⟩
        exact hk.out _ hb1
      · refine calm_step_guard (g := 6) (b := false) (d := 11) rfl rfl (fun a w hc => hc 6 11 rfl rfl) fun a ω κ hb hu hc hK => ?_
        have h13 : a.tmps[13]?.getD undef = .agg (arrK .u64 4 (wd y)) := hc 8 13 rfl rfl
        have h16 : a.tmps[16]?.getD undef = .agg (arrK .u64 4 (wd py)) := hc 11 16 rfl rfl
        have hk := Lib.hid (fun w1 (h : Below ω.heap.size ω w1) => hK (.bool false) w1 rfl h)
        clear hK hu hc
        exact wp_eqlA (v := arrK .u64 4 (wd y)) (u := arrK .u64 4 (wd py)) (.inl rfl) (by kernel_rfl) (by go_simp) (by go_simp) (hqy.out _) (hk.out _ (Below.refl _ _))
      · refine calm_step rfl fun a ω κ hb hu hc hK => ?_
        have h11 : a.tmps[11]?.getD undef = .bool false := hc 6 11 rfl rfl
        have h17 : a.tmps[17]?.getD undef = .bool false := hc 12 17 rfl rfl
        have hk := Lib.hid (fun w1 (h : Below ω.heap.size ω w1) => hK (.bool false) w1 rfl h)
        clear hK hu hc
        go_simp
        exact hk.out _ (Below.refl _ _)
      · intro a1 w1 hb1 hu1 hsz1 hdf1 hc1
        have ha0 := hha0.out
        subst ha0
        have he := act_patch (n := 40) [false, false, false, false, false, true, true, true, true, true, true, true, true, true, true, true, true, true, true, false, false, false, false, false, false, false, false, false, false, false, false, false, false, false, false, false, false, false, false, false] rfl (by kernel_rfl) hu1 hsz1 hdf1
        simp only [patch, cond_true, cond_false, Nat.reduceAdd] at he
        have hkn18 : a1.tmps[18]?.getD undef = .bool false := hc1 13 18 rfl
        replace hA := Lib.hid (hA.out.step hb1)
        replace hL := Lib.hid (below_step hb1 hL.out (Nat.le_refl _))
        clear kLx kLy hqx hqy
        clear hb1 hu1 hsz1 hdf1 hc1 hz0 hha0 e1
        rw [he]
        clear he
        rw [hkn18]
        clear hkn18
        generalize a1.tmps[5]?.getD undef = x5 at *
        generalize a1.tmps[6]?.getD undef = x6 at *
        generalize a1.tmps[7]?.getD undef = x7 at *
        generalize a1.tmps[8]?.getD undef = x8 at *
        generalize a1.tmps[9]?.getD undef = x9 at *
        generalize a1.tmps[10]?.getD undef = x10 at *
        generalize a1.tmps[11]?.getD undef = x11 at *
        generalize a1.tmps[12]?.getD undef = x12 at *
        generalize a1.tmps[13]?.getD undef = x13 at *
        generalize a1.tmps[14]?.getD undef = x14 at *
        generalize a1.tmps[15]?.getD undef = x15 at *
        generalize a1.tmps[16]?.getD undef = x16 at *
        generalize a1.tmps[17]?.getD undef = x17 at *
        go_upto_region 3 with (fail)
        generalize ha0 : Act.mk _ _ = a0
        have e1 : a0.tmps[1]?.getD undef = .pointer (some ⟨w.heap.size, 0, none⟩) := by rw [← ha0]; rfl
        have hz0 : a0.tmps.size = 40 := by rw [← ha0]; rfl
        have hha0 := Lib.hid ha0
        clear ha0
        refine wp_region_fresh ⟨fun jx_ => match jx_ with | 0 => some (.pointer (some ⟨w.heap.size, 0, none⟩)) | 1 => some (.agg (arrK .u64 4 (wd x))) | 2 => some (.pointer (some ⟨w.heap.size, 0, none⟩)) | 3 => some (.agg (arrK .u64 4 (wd x))) | 4 => some (.agg (arrK .u64 4 (wd xx))) | 5 => some (.pointer (some ⟨w.heap.size, 4, none⟩)) | 6 => some (.agg (arrK .u64 4 (wd y))) | 7 => some (.pointer (some ⟨w.heap.size, 4, none⟩)) | 8 => some (.agg (arrK .u64 4 (wd y))) | 9 => some (.agg (arrK .u64 4 (wd yy))) | _ => none, fun jx_ => match jx_ with | 10 => some 4 | 11 => some 4 | _ => none, fun jx_ => match jx_ with | 12 => some 10 | 13 => some 11 | _ => none, fun jx_ => match jx_ with | 12 => arrK .u64 4 (wd xx) | 13 => arrK .u64 4 (wd yy) | _ => #[]⟩ (by kernel_rfl) (by kernel_rfl) (by kernel_rfl) (slotsOk_of hz0 (by kernel_rfl)) rfl ⟨?_, ?_, ?_, ?_, ?_, ?_, ?_, ?_, ?_, ?_, ?_, ?_, ?_, ?_, trivial⟩ ?_
        · refine fstep_val rfl rfl (calm_step rfl fun aa ω κ hb hu hc hK => ?_)
          have h1 : aa.tmps[1]?.getD undef = .pointer (some ⟨w.heap.size, 0, none⟩) := (hu 1 rfl).trans e1
          have hk := Lib.hid (fun w1 (h : Below ω.heap.size ω w1) => hK (.pointer (some ⟨w.heap.size, 0, none⟩)) w1 rfl h)
          clear hK hu hc
          go_simp
          exact hk.out _ (Below.refl _ _)
        · refine fstep_val rfl rfl (calm_step rfl fun aa ω κ hb hu hc hK => ?_)
          have h19 : aa.tmps[19]?.getD undef = .pointer (some ⟨w.heap.size, 0, none⟩) := hc 0 19 rfl rfl
          have hk := Lib.hid (fun w1 (h : Below ω.heap.size ω w1) => hK (.agg (arrK .u64 4 (wd x))) w1 rfl h)
          clear hK hu hc
          have hl := pt_0 (hA.out.step hb)
          have hl1 := hl.1
          have hl2 := hl.2
          go_simp
          exact hk.out _ (Below.refl _ _)
        · refine fstep_val rfl rfl (calm_step rfl fun aa ω κ hb hu hc hK => ?_)
          have h1 : aa.tmps[1]?.getD undef = .pointer (some ⟨w.heap.size, 0, none⟩) := (hu 1 rfl).trans e1
          have hk := Lib.hid (fun w1 (h : Below ω.heap.size ω w1) => hK (.pointer (some ⟨w.heap.size, 0, none⟩)) w1 rfl h)
          clear hK hu hc
          go_simp
          exact hk.out _ (Below.refl _ _)
        · refine fstep_val rfl rfl (calm_step rfl fun aa ω κ hb hu hc hK => ?_)
          have h21 : aa.tmps[21]?.getD undef = .pointer (some ⟨w.heap.size, 0, none⟩) := hc 2 21 rfl rfl
          have hk := Lib.hid (fun w1 (h : Below ω.heap.size ω w1) => hK (.agg (arrK .u64 4 (wd x))) w1 rfl h)
          clear hK hu hc
          have hl := pt_0 (hA.out.step hb)
          have hl1 := hl.1
          have hl2 := hl.2
          go_simp
          exact hk.out _ (Below.refl _ _)
        · refine fstep_val rfl rfl (calm_step rfl fun aa ω κ hb hu hc hK => ?_)
          have h20 : aa.tmps[20]?.getD undef = .agg (arrK .u64 4 (wd x)) := hc 1 20 rfl rfl
          have h22 : aa.tmps[22]?.getD undef = .agg (arrK .u64 4 (wd x)) := hc 3 22 rfl rfl
          have hk := Lib.hid (fun w1 (h : Below ω.heap.size ω w1) => hK (.agg (arrK .u64 4 (wd xx))) w1 rfl h)
          clear hK hu hc
          go_simp
          go_at_call 24
          refine (kxx.out _).mono ?_
          rintro e w1 ⟨rfl, hb1⟩
          exact hk.out _ hb1
        · refine fstep_val rfl rfl (calm_step rfl fun aa ω κ hb hu hc hK => ?_)
          have h1 : aa.tmps[1]?.getD undef = .pointer (some ⟨w.heap.size, 0, none⟩) := (hu 1 rfl).trans e1
          have hk := Lib.hid (fun w1 (h : Below ω.heap.size ω w1) => hK (.pointer (some ⟨w.heap.size, 4, none⟩)) w1 rfl h)
          clear hK hu hc
          go_simp
          exact hk.out _ (Below.refl _ _)
        · refine fstep_val rfl rfl (calm_step rfl fun aa ω κ hb hu hc hK => ?_)
          have h24 : aa.tmps[24]?.getD undef = .pointer (some ⟨w.heap.size, 4, none⟩) := hc 5 24 rfl rfl
          have hk := Lib.hid (fun w1 (h : Below ω.heap.size ω w1) => hK (.agg (arrK .u64 4 (wd y))) w1 rfl h)
          clear hK hu hc
          have hl := pt_1 (hA.out.step hb)
          have hl1 := hl.1
          have hl2 := hl.2
          go_simp
          exact hk.out _ (Below.refl _ _)
        · refine fstep_val rfl rfl (calm_step rfl fun aa ω κ hb hu hc hK => ?_)
          have h1 : aa.tmps[1]?.getD undef = .pointer (some ⟨w.heap.size, 0, none⟩) := (hu 1 rfl).trans e1
          have hk := Lib.hid (fun w1 (h : Below ω.heap.size ω w1) => hK (.pointer (some ⟨w.heap.size, 4, none⟩)) w1 rfl h)
          clear hK hu hc
          go_simp
          exact hk.out _ (Below.refl _ _)
        · refine fstep_val rfl rfl (calm_step rfl fun aa ω κ hb hu hc hK => ?_)
          have h26 : aa.tmps[26]?.getD undef = .pointer (some ⟨w.heap.size, 4, none⟩) := hc 7 26 rfl rfl
          have hk := Lib.hid (fun w1 (h : Below ω.heap.size ω w1) => hK (.agg (arrK .u64 4 (wd y))) w1 rfl h)
          clear hK hu hc
          have hl := pt_1 (hA.out.step hb)
          have hl1 := hl.1
          have hl2 := hl.2
          go_simp
          exact hk.out _ (Below.refl _ _)
        · refine fstep_val rfl rfl (calm_step rfl fun aa ω κ hb hu hc hK => ?_)
          have h25 : aa.tmps[25]?.getD undef = .agg (arrK .u64 4 (wd y)) := hc 6 25 rfl rfl
          have h27 : aa.tmps[27]?.getD undef = .agg (arrK .u64 4 (wd y)) := hc 8 27 rfl rfl
          have hk := Lib.hid (fun w1 (h : Below ω.heap.size ω w1) => hK (.agg (arrK .u64 4 (wd yy))) w1 rfl h)
          clear hK hu hc
          go_simp
          go_at_call 24
          refine (kyy.out _).mono ?_
          rintro e w1 ⟨rfl, hb1⟩
          exact hk.out _ hb1
        · refine fstep_al (n := 4) rfl rfl fun aa ω κ hK => ?_
          have hk := Lib.hid hK
          clear hK
          go_simp
          exact hk.out _ _ hc0
        · refine fstep_al (n := 4) rfl rfl fun aa ω κ hK => ?_
          have hk := Lib.hid hK
          clear hK
          go_simp
          exact hk.out _ _ hc0
        · refine fstep_st (j := 10) (n := 4) (d := 3) rfl rfl rfl rfl rfl hcxx.1 rfl rfl fun aa ω κ g hb hu hc hp hr hK => ?_
          have h23 : aa.tmps[23]?.getD undef = .agg (arrK .u64 4 (wd xx)) := hc 4 23 rfl rfl
          have hk := Lib.hid hK
          clear hK hu hc
          have hcc := hcxx
          go_simp
          exact hk.out undef
        · refine fstep_st (j := 11) (n := 4) (d := 4) rfl rfl rfl rfl rfl hcyy.1 rfl rfl fun aa ω κ g hb hu hc hp hr hK => ?_
          have h28 : aa.tmps[28]?.getD undef = .agg (arrK .u64 4 (wd yy)) := hc 9 28 rfl rfl
          have hk := Lib.hid hK
          clear hK hu hc
          have hcc := hcyy
          go_simp
          exact hk.out undef
        · intro a1 w1 G I
          have ha0 := hha0.out
          subst ha0
          have he := act_patch (n := 40) [false, false, false, true, true, false, false, false, false, false, false, false, false, false, false, false, false, false, false, true, true, true, true, true, true, true, true, true, true, false, false, false, false, false, false, false, false, false, false, false] rfl (by kernel_rfl) I.un I.sz I.df
          simp only [patch, cond_true, cond_false, Nat.reduceAdd] at he
          have hal3 := I.al 10 3 4 rfl rfl rfl
          have hal4 := I.al 11 4 4 rfl rfl rfl
          replace hL := Lib.hid (below_step I.bel hL.out (Nat.le_refl _))
          have hX := Lib.hid (show At w1 (G 10) .u64 4 (wd xx) from ⟨(I.blk 10 4 rfl rfl).2, (I.row 12 10 rfl rfl).2.2⟩)
          have hY := Lib.hid (show At w1 (G 11) .u64 4 (wd yy) from ⟨(I.blk 11 4 rfl rfl).2, (I.row 13 11 rfl rfl).2.2⟩)
          clear hA kxx kyy
          clear I hz0 hha0 e1
          rw [he]
          clear he
          rw [hal3]
          rw [hal4]
          clear hal3 hal4
          generalize a1.tmps[19]?.getD undef = x19 at *
          generalize a1.tmps[20]?.getD undef = x20 at *
          generalize a1.tmps[21]?.getD undef = x21 at *
          generalize a1.tmps[22]?.getD undef = x22 at *
          generalize a1.tmps[23]?.getD undef = x23 at *
          generalize a1.tmps[24]?.getD undef = x24 at *
          generalize a1.tmps[25]?.getD undef = x25 at *
          generalize a1.tmps[26]?.getD undef = x26 at *
          generalize a1.tmps[27]?.getD undef = x27 at *
          generalize a1.tmps[28]?.getD undef = x28 at *
          go_upto_region 4 with (fail)
          obtain ⟨gX, hgz⟩ : ∃ g, G 10 = g := ⟨_, rfl⟩
          rw [hgz] at hX ⊢
          clear hgz
          obtain ⟨gY, hgz⟩ : ∃ g, G 11 = g := ⟨_, rfl⟩
          rw [hgz] at hY ⊢
          clear hgz
          generalize w1 = W1 at *
          obtain ⟨r, hr⟩ : ∃ r, decide (df = sm) = r := ⟨_, rfl⟩
          replace hqe := Lib.hid (hqe.out r hr)
          have hfin := Lib.hid (show R = r by rw [← hRR.out, hdx.out, hdy.out, hr]; rfl)
          clear hr
          generalize ha0 : Act.mk _ _ = a0
          have e3 : a0.tmps[3]?.getD undef = .pointer (some ⟨gX, 0, none⟩) := by rw [← ha0]; rfl
          have e4 : a0.tmps[4]?.getD undef = .pointer (some ⟨gY, 0, none⟩) := by rw [← ha0]; rfl
          have hz0 : a0.tmps.size = 40 := by rw [← ha0]; rfl
          have hha0 := Lib.hid ha0
          clear ha0
          refine wp_region_calm (fun jx_ => match jx_ with | 0 => SRel.is (.agg (arrK .u64 4 (wd yy))) | 1 => SRel.is (.agg (arrK .u64 4 (wd xx))) | 2 => SRel.is (.agg (arrK .u64 4 (wd df))) | 3 => SRel.is (.agg (arrK .u64 4 (wd 1))) | 4 => SRel.is (.agg (arrK .u64 4 (wd dn))) | 5 => SRel.is (.agg (arrK .u64 4 (wd xx))) | 6 => SRel.is (.agg (arrK .u64 4 (wd yy))) | 7 => SRel.is (.agg (arrK .u64 4 (wd xy))) | 8 => SRel.is (.agg (arrK .u64 4 (wd dx))) | 9 => SRel.is (.agg (arrK .u64 4 (wd sm))) | 10 => SRel.is (.bool r) | 11 => SRel.is (.bool r) | _ => SRel.any) (by kernel_rfl) (by kernel_rfl) (by kernel_rfl) (slotsOk_of hz0 (by kernel_rfl)) ⟨?_, ?_, ?_, ?_, ?_, ?_, ?_, ?_, ?_, ?_, ?_, ?_, trivial⟩ ?_
          · refine calm_step rfl fun a ω κ hb hu hc hK => ?_
            have h4 : a.tmps[4]?.getD undef = .pointer (some ⟨gY, 0, none⟩) := (hu 4 rfl).trans e4
            have hk := Lib.hid (fun w1 (h : Below ω.heap.size ω w1) => hK (.agg (arrK .u64 4 (wd yy))) w1 rfl h)
            clear hK hu hc
            have hr1 := (hY.out.step hb).row
            have hr2 := (hY.out.step hb).eq
            go_simp
            exact hk.out _ (Below.refl _ _)
          · refine calm_step rfl fun a ω κ hb hu hc hK => ?_
            have h3 : a.tmps[3]?.getD undef = .pointer (some ⟨gX, 0, none⟩) := (hu 3 rfl).trans e3
            have hk := Lib.hid (fun w1 (h : Below ω.heap.size ω w1) => hK (.agg (arrK .u64 4 (wd xx))) w1 rfl h)
            clear hK hu hc
            have hr1 := (hX.out.step hb).row
            have hr2 := (hX.out.step hb).eq
            go_simp
            exact hk.out _ (Below.refl _ _)
          · refine calm_step rfl fun a ω κ hb hu hc hK => ?_
            have h29 : a.tmps[29]?.getD undef = .agg (arrK .u64 4 (wd yy)) := hc 0 29 rfl rfl
            have h30 : a.tmps[30]?.getD undef = .agg (arrK .u64 4 (wd xx)) := hc 1 30 rfl rfl
            have hk := Lib.hid (fun w1 (h : Below ω.heap.size ω w1) => hK (.agg (arrK .u64 4 (wd df))) w1 rfl h)
            clear hK hu hc
            go_simp
            go_at_call 22
            refine (kdf.out _).mono ?_
            rintro e w1 ⟨rfl, hb1⟩
            exact hk.out _ hb1
          · refine calm_step rfl fun a ω κ hb hu hc hK => ?_
            have hk := Lib.hid (fun w1 (h : Below ω.heap.size ω w1) => hK (.agg (arrK .u64 4 (wd 1))) w1 rfl h)
            clear hK hu hc
            exact wp_bldA rfl rfl (build_one _) (hk.out _ (Below.refl _ _))
          · refine calm_step rfl fun a ω κ hb hu hc hK => ?_
            have hk := Lib.hid (fun w1 (h : Below ω.heap.size ω w1) => hK (.agg (arrK .u64 4 (wd dn))) w1 rfl h)
            clear hK hu hc
            go_simp
            go_at_call 107
            refine (kd.out _).mono ?_
            rintro e w1 ⟨rfl, hb1⟩
            exact hk.out _ hb1
          · refine calm_step rfl fun a ω κ hb hu hc hK => ?_
            have h3 : a.tmps[3]?.getD undef = .pointer (some ⟨gX, 0, none⟩) := (hu 3 rfl).trans e3
            have hk := Lib.hid (fun w1 (h : Below ω.heap.size ω w1) => hK (.agg (arrK .u64 4 (wd xx))) w1 rfl h)
            clear hK hu hc
            have hr1 := (hX.out.step hb).row
            have hr2 := (hX.out.step hb).eq
            go_simp
            exact hk.out _ (Below.refl _ _)
          · refine calm_step rfl fun a ω κ hb hu hc hK => ?_
            have h4 : a.tmps[4]?.getD undef = .pointer (some ⟨gY, 0, none⟩) := (hu 4 rfl).trans e4
            have hk := Lib.hid (fun w1 (h : Below ω.heap.size ω w1) => hK (.agg (arrK .u64 4 (wd yy))) w1 rfl h)
            clear hK hu hc
            have hr1 := (hY.out.step hb).row
            have hr2 := (hY.out.step hb).eq
            go_simp
            exact hk.out _ (Below.refl _ _)
          · refine calm_step rfl fun a ω κ hb hu hc hK => ?_
            have h34 : a.tmps[34]?.getD undef = .agg (arrK .u64 4 (wd xx)) := hc 5 34 rfl rfl
            have h35 : a.tmps[35]?.getD undef = .agg (arrK .u64 4 (wd yy)) := hc 6 35 rfl rfl
            have hk := Lib.hid (fun w1 (h : Below ω.heap.size ω w1) => hK (.agg (arrK .u64 4 (wd xy))) w1 rfl h)
            clear hK hu hc
            go_simp
            go_at_call 24
            refine (kxy.out _).mono ?_
            rintro e w1 ⟨rfl, hb1⟩
            exact hk.out _ hb1
          · refine calm_step rfl fun a ω κ hb hu hc hK => ?_
            have h33 : a.tmps[33]?.getD undef = .agg (arrK .u64 4 (wd dn)) := hc 4 33 rfl rfl
            have h36 : a.tmps[36]?.getD undef = .agg (arrK .u64 4 (wd xy)) := hc 7 36 rfl rfl
            have hk := Lib.hid (fun w1 (h : Below ω.heap.size ω w1) => hK (.agg (arrK .u64 4 (wd dx))) w1 rfl h)
            clear hK hu hc
            go_simp
            go_at_call 24
            refine (kdx.out _).mono ?_
            rintro e w1 ⟨rfl, hb1⟩
            exact hk.out _ hb1
          · refine calm_step rfl fun a ω κ hb hu hc hK => ?_
            have h32 : a.tmps[32]?.getD undef = .agg (arrK .u64 4 (wd 1)) := hc 3 32 rfl rfl
            have h37 : a.tmps[37]?.getD undef = .agg (arrK .u64 4 (wd dx)) := hc 8 37 rfl rfl
            have hk := Lib.hid (fun w1 (h : Below ω.heap.size ω w1) => hK (.agg (arrK .u64 4 (wd sm))) w1 rfl h)
            clear hK hu hc
            go_simp
            go_at_call 20
            refine (ksm.out _).mono ?_
            rintro e w1 ⟨rfl, hb1⟩
            exact hk.out _ hb1
          · refine calm_step rfl fun a ω κ hb hu hc hK => ?_
            have h31 : a.tmps[31]?.getD undef = .agg (arrK .u64 4 (wd df)) := hc 2 31 rfl rfl
            have h38 : a.tmps[38]?.getD undef = .agg (arrK .u64 4 (wd sm)) := hc 9 38 rfl rfl
            have hk := Lib.hid (fun w1 (h : Below ω.heap.size ω w1) => hK (.bool r) w1 rfl h)
            clear hK hu hc
            exact wp_eqlA (v := arrK .u64 4 (wd df)) (u := arrK .u64 4 (wd sm)) (.inr rfl) (by kernel_rfl) (by go_simp) (by go_simp) (hqe.out _) (hk.out _ (Below.refl _ _))
          · refine calm_step rfl fun a ω κ hb hu hc hK => ?_
            have h39 : a.tmps[39]?.getD undef = .bool r := hc 10 39 rfl rfl
            have hk := Lib.hid (fun w1 (h : Below ω.heap.size ω w1) => hK (.bool r) w1 rfl h)
            clear hK hu hc
            go_simp
            exact hk.out _ (Below.refl _ _)
          · intro a1 w1 hb1 hu1 hsz1 hdf1 hc1
            have ha0 := hha0.out
            subst ha0
            have he := act_patch (n := 40) [false, false, true, false, false, false, false, false, false, false, false, false, false, false, false, false, false, false, false, false, false, false, false, false, false, false, false, false, false, true, true, true, true, true, true, true, true, true, true, true] rfl (by kernel_rfl) hu1 hsz1 hdf1
            simp only [patch, cond_true, cond_false, Nat.reduceAdd] at he
            have hkn2 : a1.tmps[2]?.getD undef = .bool r := hc1 11 2 rfl
            replace hL := Lib.hid (below_step hb1 hL.out (Nat.le_refl _))
            clear hb1 hu1 hsz1 hdf1 hc1 hz0 hha0 e3 e4
            rw [he]
            clear he
            rw [hkn2]
            clear hkn2
            generalize a1.tmps[29]?.getD undef = x29 at *
            generalize a1.tmps[30]?.getD undef = x30 at *
            generalize a1.tmps[31]?.getD undef = x31 at *
            generalize a1.tmps[32]?.getD undef = x32 at *
            generalize a1.tmps[33]?.getD undef = x33 at *
            generalize a1.tmps[34]?.getD undef = x34 at *
            generalize a1.tmps[35]?.getD undef = x35 at *
            generalize a1.tmps[36]?.getD undef = x36 at *
            generalize a1.tmps[37]?.getD undef = x37 at *
            generalize a1.tmps[38]?.getD undef = x38 at *
            generalize a1.tmps[39]?.getD undef = x39 at *
            go_wp2_with fail
            exact ret_tmp (p := 2) (v := .bool r) rfl (by simp) rfl ⟨by rw [hfin.out], hL.out⟩

    · have hdy : decide (y = py) = false := decide_eq_false hey
      replace hqy := Lib.hid (hqy.out true hdy)
      replace hdy := Lib.hid hdy
      clear hey
      generalize ha0 : Act.mk _ _ = a0
      have e1 : a0.tmps[1]?.getD undef = .pointer (some ⟨w.heap.size, 0, none⟩) := by rw [← ha0]; rfl
      have hz0 : a0.tmps.size = 40 := by rw [← ha0]; rfl
      have hha0 := Lib.hid ha0
      clear ha0
      refine wp_region_calm (fun jx_ => match jx_ with | 0 => SRel.is (.pointer (some ⟨w.heap.size, 0, none⟩)) | 1 => SRel.is (.agg (arrK .u64 4 (wd x))) | 2 => SRel.is (.pointer (some ⟨w.heap.size, 0, none⟩)) | 3 => SRel.is (.agg (arrK .u64 4 (wd x))) | 4 => SRel.is (.agg (arrK .u64 4 (wd px))) | 5 => SRel.is (.bool false) | 6 => SRel.is (.bool false) | 7 => SRel.is (.pointer (some ⟨w.heap.size, 4, none⟩)) | 8 => SRel.is (.agg (arrK .u64 4 (wd y))) | 9 => SRel.is (.pointer (some ⟨w.heap.size, 4, none⟩)) | 10 => SRel.is (.agg (arrK .u64 4 (wd y))) | 11 => SRel.is (.agg (arrK .u64 4 (wd py))) | 12 => SRel.is (.bool true) | 13 => SRel.is (.bool true) | _ => SRel.any) (by kernel_rfl) (by kernel_rfl) (by kernel_rfl) (slotsOk_of hz0 (by kernel_rfl)) ⟨?_, ?_, ?_, ?_, ?_, ?_, ?_, ?_, ?_, ?_, ?_, ?_, ?_, ?_, trivial⟩ ?_
      · refine calm_step rfl fun a ω κ hb hu hc hK => ?_
        have h1 : a.tmps[1]?.getD undef = .pointer (some ⟨w.heap.size, 0, none⟩) := (hu 1 rfl).trans e1
        have hk := Lib.hid (fun w1 (h : Below ω.heap.size ω w1) => hK (.pointer (some ⟨w.heap.size, 0, none⟩)) w1 rfl h)
        clear hK hu hc
        go_simp
        exact hk.out _ (Below.refl _ _)
      · refine calm_step rfl fun a ω κ hb hu hc hK => ?_
        have h5 : a.tmps[5]?.getD undef = .pointer (some ⟨w.heap.size, 0, none⟩) := hc 0 5 rfl rfl
        have hk := Lib.hid (fun w1 (h : Below ω.heap.size ω w1) => hK (.agg (arrK .u64 4 (wd x))) w1 rfl h)
        clear hK hu hc
        have hl := pt_0 (hA.out.step hb)
        have hl1 := hl.1
        have hl2 := hl.2
        go_simp
        exact hk.out _ (Below.refl _ _)
      · refine calm_step rfl fun a ω κ hb hu hc hK => ?_
        have h1 : a.tmps[1]?.getD undef = .pointer (some ⟨w.heap.size, 0, none⟩) := (hu 1 rfl).trans e1
        have hk := Lib.hid (fun w1 (h : Below ω.heap.size ω w1) => hK (.pointer (some ⟨w.heap.size, 0, none⟩)) w1 rfl h)
        clear hK hu hc
        go_simp
        exact hk.out _ (Below.refl _ _)
      · refine calm_step rfl fun a ω κ hb hu hc hK => ?_
        have h7 : a.tmps[7]?.getD undef = .pointer (some ⟨w.heap.size, 0, none⟩) := hc 2 7 rfl rfl
        have hk := Lib.hid (fun w1 (h : Below ω.heap.size ω w1) => hK (.agg (arrK .u64 4 (wd x))) w1 rfl h)
        clear hK hu hc
        have hl := pt_0 (hA.out.step hb)
        have hl1 := hl.1
        have hl2 := hl.2
        go_simp
        exact hk.out _ (Below.refl _ _)
      · refine calm_step rfl fun a ω κ hb hu hc hK => ?_
        have h8 : a.tmps[8]?.getD undef = .agg (arrK .u64 4 (wd x)) := hc 3 8 rfl rfl
        have hk := Lib.hid (fun w1 (h : Below ω.heap.size ω w1) => hK (.agg (arrK .u64 4 (wd px))) w1 rfl h)
        clear hK hu hc
        go_simp
        go_at_call 18
        refine (kLx.out _).mono ?_
        rintro e w1 ⟨rfl, hb1⟩
        exact hk.out _ hb1
      · refine calm_step rfl fun a ω κ hb hu hc hK => ?_
        have h6 : a.tmps[6]?.getD undef = .agg (arrK .u64 4 (wd x)) := hc 1 6 rfl rfl
        have h9 : a.tmps[9]?.getD undef = .agg (arrK .u64 4 (wd px)) := hc 4 9 rfl rfl
        have hk := Lib.hid (fun w1 (h : Below ω.heap.size ω w1) => hK (.bool false) w1 rfl h)
        clear hK hu hc
        exact wp_eqlA (v := arrK .u64 4 (wd x)) (u := arrK .u64 4 (wd px)) (.inl rfl) (by kernel_rfl) (by go_simp) (by go_simp) (hqx.out _) (hk.out _ (Below.refl _ _))
      · refine calm_step rfl fun a ω κ hb hu hc hK => ?_
        have h10 : a.tmps[10]?.getD undef = .bool false := hc 5 10 rfl rfl
        have hk := Lib.hid (fun w1 (h : Below ω.heap.size ω w1) => hK (.bool false) w1 rfl h)
        clear hK hu hc
        go_simp
        exact hk.out _ (Below.refl _ _)
      · refine calm_step_guard (g := 6) (b := false) (d := 11) rfl rfl (fun a w hc => hc 6 11 rfl rfl) fun a ω κ hb hu hc hK => ?_
        have h1 : a.tmps[1]?.getD undef = .pointer (some ⟨w.heap.size, 0, none⟩) := (hu 1 rfl).trans e1
        have hk := Lib.hid (fun w1 (h : Below ω.heap.size ω w1) => hK (.pointer (some ⟨w.heap.size, 4, none⟩)) w1 rfl h)
        clear hK hu hc
        go_simp
        exact hk.out _ (Below.refl _ _)
      · refine calm_step_guard (g := 6) (b := false) (d := 11) rfl rfl (fun a w hc => hc 6 11 rfl rfl) fun a ω κ hb hu hc hK => ?_
        have h12 : a.tmps[12]?.getD undef = .pointer (some ⟨w.heap.size, 4, none⟩) := hc 7 12 rfl rfl
        have hk := Lib.hid (fun w1 (h : Below ω.heap.size ω w1) => hK (.agg (arrK .u64 4 (wd y))) w1 rfl h)
        clear hK hu hc
        have hl := pt_1 (hA.out.step hb)
        have hl1 := hl.1
        have hl2 := hl.2
        go_simp
        exact hk.out _ (Below.refl _ _)
      · refine calm_step_guard (g := 6) (b := false) (d := 11) rfl rfl (fun a w hc => hc 6 11 rfl rfl) fun a ω κ hb hu hc hK => ?_
        have h1 : a.tmps[1]?.getD undef = .pointer (some ⟨w.heap.size, 0, none⟩) := (hu 1 rfl).trans e1
        have hk := Lib.hid (fun w1 (h : Below ω.heap.size ω w1) => hK (.pointer (some ⟨w.heap.size, 4, none⟩)) w1 rfl h)
        clear hK hu hc
        go_simp
        exact hk.out _ (Below.refl _ _)
      · refine calm_step_guard (g := 6) (b := false) (d := 11) rfl rfl (fun a w hc => hc 6 11 rfl rfl) fun a ω κ hb hu hc hK => ?_
        have h14 : a.tmps[14]?.getD undef = .pointer (some ⟨w.heap.size, 4, none⟩) := hc 9 14 rfl rfl
        have hk := Lib.hid (fun w1 (h : Below ω.heap.size ω w1) => hK (.agg (arrK .u64 4 (wd y))) w1 rfl h)
        clear hK hu hc
        have hl := pt_1 (hA.out.step hb)
        have hl1 := hl.1
        have hl2 := hl.2
        go_simp
        exact hk.out _ (Below.refl _ _)
      · refine calm_step_guard (g := 6) (b := false) (d := 11) rfl rfl (fun a w hc => hc 6 11 rfl rfl) fun a ω κ hb hu hc hK => ?_
        have h15 : a.tmps[15]?.getD undef = .agg (arrK .u64 4 (wd y)) := hc 10 15 rfl rfl
        have hk := Lib.hid (fun w1 (h : Below ω.heap.size ω w1) => hK (.agg (arrK .u64 4 (wd py))) w1 rfl h)
        clear hK hu hc
        go_simp
        go_at_call 18
        refine (kLy.out _).mono ?_
        rintro e w1 ⟨rfl, hb1⟩
        exact hk.out _ hb1
      · refine calm_step_guard (g := 6) (b := false) (d := 11) rfl rfl (fun a w hc => hc 6 11 rfl rfl) fun a ω κ hb hu hc hK => ?_
        have h13 : a.tmps[13]?.getD undef = .agg (arrK .u64 4 (wd y)) := hc 8 13 rfl rfl
        have h16 : a.tmps[16]?.getD undef = .agg (arrK .u64 4 (wd py)) := hc 11 16 rfl rfl
        have hk := Lib.hid (fun w1 (h : Below ω.heap.size ω w1) => hK (.bool true) w1 rfl h)
        clear hK hu hc
        exact wp_eqlA (v := arrK .u64 4 (wd y)) (u := arrK .u64 4 (wd py)) (.inl rfl) (by kernel_rfl) (by go_simp) (by go_simp) (hqy.out _) (hk.out _ (Below.refl _ _))
      · refine calm_step rfl fun a ω κ hb hu hc hK => ?_
        have h11 : a.tmps[11]?.getD undef = .bool false := hc 6 11 rfl rfl
        have h17 : a.tmps[17]?.getD undef = .bool true := hc 12 17 rfl rfl
        have hk := Lib.hid (fun w1 (h : Below ω.heap.size ω w1) => hK (.bool true) w1 rfl h)
        clear hK hu hc
        go_simp
        exact hk.out _ (Below.refl _ _)
      · intro a1 w1 hb1 hu1 hsz1 hdf1 hc1
        have ha0 := hha0.out
        subst ha0
        have he := act_patch (n := 40) [false, false, false, false, false, true, true, true, true, true, true, true, true, true, true, true, true, true, true, false, false, false, false, false, false, false, false, false, false, false, false, false, false, false, false, false, false, false, false, false] rfl (by kernel_rfl) hu1 hsz1 hdf1
        simp only [patch, cond_true, cond_false, Nat.reduceAdd] at he
        have hkn18 : a1.tmps[18]?.getD undef = .bool true := hc1 13 18 rfl
        replace hA := Lib.hid (hA.out.step hb1)
        replace hL := Lib.hid (below_step hb1 hL.out (Nat.le_refl _))
        clear kLx kLy hqx hqy
        clear hb1 hu1 hsz1 hdf1 hc1 hz0 hha0 e1
        rw [he]
        clear he
        rw [hkn18]
        clear hkn18
        generalize a1.tmps[5]?.getD undef = x5 at *
        generalize a1.tmps[6]?.getD undef = x6 at *
        generalize a1.tmps[7]?.getD undef = x7 at *
        generalize a1.tmps[8]?.getD undef = x8 at *
        generalize a1.tmps[9]?.getD undef = x9 at *
        generalize a1.tmps[10]?.getD undef = x10 at *
        generalize a1.tmps[11]?.getD undef = x11 at *
        generalize a1.tmps[12]?.getD undef = x12 at *
        generalize a1.tmps[13]?.getD undef = x13 at *
        generalize a1.tmps[14]?.getD undef = x14 at *
        generalize a1.tmps[15]?.getD undef = x15 at *
        generalize a1.tmps[16]?.getD undef = x16 at *
        generalize a1.tmps[17]?.getD undef = x17 at *
        go_wp2_with fail
        exact ret_tmp (p := 2) (v := .bool false) rfl (by simp) rfl ⟨by rw [← hRR.out, hdx.out, hdy.out]; rfl, hL.out⟩

  · have hdx : decide (x = px) = false := decide_eq_false hex
    replace hqx := Lib.hid (hqx.out true hdx)
    replace hdx := Lib.hid hdx
    clear hex
    generalize ha0 : Act.mk _ _ = a0
    have e1 : a0.tmps[1]?.getD undef = .pointer (some ⟨w.heap.size, 0, none⟩) := by rw [← ha0]; rfl
    have hz0 : a0.tmps.size = 40 := by rw [← ha0]; rfl
    have hha0 := Lib.hid ha0
    clear ha0
    refine wp_region_calm (fun jx_ => match jx_ with | 0 => SRel.is (.pointer (some ⟨w.heap.size, 0, none⟩)) | 1 => SRel.is (.agg (arrK .u64 4 (wd x))) | 2 => SRel.is (.pointer (some ⟨w.heap.size, 0, none⟩)) | 3 => SRel.is (.agg (arrK .u64 4 (wd x))) | 4 => SRel.is (.agg (arrK .u64 4 (wd px))) | 5 => SRel.is (.bool true) | 6 => SRel.is (.bool true) | 7 => SRel.any | 8 => SRel.any | 9 => SRel.any | 10 => SRel.any | 11 => SRel.any | 12 => SRel.any | 13 => SRel.is (.bool true) | _ => SRel.any) (by kernel_rfl) (by kernel_rfl) (by kernel_rfl) (slotsOk_of hz0 (by kernel_rfl)) ⟨?_, ?_, ?_, ?_, ?_, ?_, ?_, ?_, ?_, ?_, ?_, ?_, ?_, ?_, trivial⟩ ?_
    · refine calm_step rfl fun a ω κ hb hu hc hK => ?_
      have h1 : a.tmps[1]?.getD undef = .pointer (some ⟨w.heap.size, 0, none⟩) := (hu 1 rfl).trans e1
      have hk := Lib.hid (fun w1 (h : Below ω.heap.size ω w1) => hK (.pointer (some ⟨w.heap.size, 0, none⟩)) w1 rfl h)
      clear hK hu hc
      go_simp
      exact hk.out _ (Below.refl _ _)
    · refine calm_step rfl fun a ω κ hb hu hc hK => ?_
      have h5 : a.tmps[5]?.getD undef = .pointer (some ⟨w.heap.size, 0, none⟩) := hc 0 5 rfl rfl
      have hk := Lib.hid (fun w1 (h : Below ω.heap.size ω w1) => hK (.agg (arrK .u64 4 (wd x))) w1 rfl h)
      clear hK hu hc
      have hl := pt_0 (hA.out.step hb)
      have hl1 := hl.1
      have hl2 := hl.2
      go_simp
      exact hk.out _ (Below.refl _ _)
    · refine calm_step rfl fun a ω κ hb hu hc hK => ?_
      have h1 : a.tmps[1]?.getD undef = .pointer (some ⟨w.heap.size, 0, none⟩) := (hu 1 rfl).trans e1
      have hk := Lib.hid (fun w1 (h : Below ω.heap.size ω w1) => hK (.pointer (some ⟨w.heap.size, 0, none⟩)) w1 rfl h)
      clear hK hu hc
      go_simp
      exact hk.out _ (Below.refl _ _)
    · refine calm_step rfl fun a ω κ hb hu hc hK => ?_
      have h7 : a.tmps[7]?.getD undef = .pointer (some ⟨w.heap.size, 0, none⟩) := hc 2 7 rfl rfl
      have hk := Lib.hid (fun w1 (h : Below ω.heap.size ω w1) => hK (.agg (arrK .u64 4 (wd x))) w1 rfl h)
      clear hK hu hc
      have hl := pt_0 (hA.out.step hb)
      have hl1 := hl.1
      have hl2 := hl.2
      go_simp
      exact hk.out _ (Below.refl _ _)
    · refine calm_step rfl fun a ω κ hb hu hc hK => ?_
      have h8 : a.tmps[8]?.getD undef = .agg (arrK .u64 4 (wd x)) := hc 3 8 rfl rfl
      have hk := Lib.hid (fun w1 (h : Below ω.heap.size ω w1) => hK (.agg (arrK .u64 4 (wd px))) w1 rfl h)
      clear hK hu hc
      go_simp
      go_at_call 18
      refine (kLx.out _).mono ?_
      rintro e w1 ⟨rfl, hb1⟩
      exact hk.out _ hb1
    · refine calm_step rfl fun a ω κ hb hu hc hK => ?_
      have h6 : a.tmps[6]?.getD undef = .agg (arrK .u64 4 (wd x)) := hc 1 6 rfl rfl
      have h9 : a.tmps[9]?.getD undef = .agg (arrK .u64 4 (wd px)) := hc 4 9 rfl rfl
      have hk := Lib.hid (fun w1 (h : Below ω.heap.size ω w1) => hK (.bool true) w1 rfl h)
      clear hK hu hc
      exact wp_eqlA (v := arrK .u64 4 (wd x)) (u := arrK .u64 4 (wd px)) (.inl rfl) (by kernel_rfl) (by go_simp) (by go_simp) (hqx.out _) (hk.out _ (Below.refl _ _))
    · refine calm_step rfl fun a ω κ hb hu hc hK => ?_
      have h10 : a.tmps[10]?.getD undef = .bool true := hc 5 10 rfl rfl
      have hk := Lib.hid (fun w1 (h : Below ω.heap.size ω w1) => hK (.bool true) w1 rfl h)
      clear hK hu hc
      go_simp
      exact hk.out _ (Below.refl _ _)
    · exact calm_step_skip (g := 6) (b := false) (d := 11) rfl rfl (fun a w hc => hc 6 11 rfl rfl) (fun _ => trivial)
    · exact calm_step_skip (g := 6) (b := false) (d := 11) rfl rfl (fun a w hc => hc 6 11 rfl rfl) (fun _ => trivial)
    · exact calm_step_skip (g := 6) (b := false) (d := 11) rfl rfl (fun a w hc => hc 6 11 rfl rfl) (fun _ => trivial)
    · exact calm_step_skip (g := 6) (b := false) (d := 11) rfl rfl (fun a w hc => hc 6 11 rfl rfl) (fun _ => trivial)
    · exact calm_step_skip (g := 6) (b := false) (d := 11) rfl rfl (fun a w hc => hc 6 11 rfl rfl) (fun _ => trivial)
    · exact calm_step_skip (g := 6) (b := false) (d := 11) rfl rfl (fun a w hc => hc 6 11 rfl rfl) (fun _ => trivial)
    · refine calm_step rfl fun a ω κ hb hu hc hK => ?_
      have h11 : a.tmps[11]?.getD undef = .bool true := hc 6 11 rfl rfl
      have h17 : (SRel.any).p (a.tmps[17]?.getD undef) ω := hc 12 17 rfl rfl
      have hk := Lib.hid (fun w1 (h : Below ω.heap.size ω w1) => hK (.bool true) w1 rfl h)
      clear hK hu hc
      go_simp
      exact hk.out _ (Below.refl _ _)
    · intro a1 w1 hb1 hu1 hsz1 hdf1 hc1
      have ha0 := hha0.out
      subst ha0
      have he := act_patch (n := 40) [false, false, false, false, false, true, true, true, true, true, true, true, true, true, true, true, true, true, true, false, false, false, false, false, false, false, false, false, false, false, false, false, false, false, false, false, false, false, false, false] rfl (by kernel_rfl) hu1 hsz1 hdf1
      simp only [patch, cond_true, cond_false, Nat.reduceAdd] at he
      have hkn18 : a1.tmps[18]?.getD undef = .bool true := hc1 13 18 rfl
      replace hA := Lib.hid (hA.out.step hb1)
      replace hL := Lib.hid (below_step hb1 hL.out (Nat.le_refl _))
      clear kLx kLy hqx hqy
      clear hb1 hu1 hsz1 hdf1 hc1 hz0 hha0 e1
      rw [he]
      clear he
      rw [hkn18]
      clear hkn18
      generalize a1.tmps[5]?.getD undef = x5 at *
      generalize a1.tmps[6]?.getD undef = x6 at *
      generalize a1.tmps[7]?.getD undef = x7 at *
      generalize a1.tmps[8]?.getD undef = x8 at *
      generalize a1.tmps[9]?.getD undef = x9 at *
      generalize a1.tmps[10]?.getD undef = x10 at *
      generalize a1.tmps[11]?.getD undef = x11 at *
      generalize a1.tmps[12]?.getD undef = x12 at *
      generalize a1.tmps[13]?.getD undef = x13 at *
      generalize a1.tmps[14]?.getD undef = x14 at *
      generalize a1.tmps[15]?.getD undef = x15 at *
      generalize a1.tmps[16]?.getD undef = x16 at *
      generalize a1.tmps[17]?.getD undef = x17 at *
      go_wp2_with fail
      exact ret_tmp (p := 2) (v := .bool false) rfl (by simp) rfl ⟨by rw [← hRR.out, hdx.out]; rfl, hL.out⟩

end Go.Proofs.Ytodcjeaannfbnaa
namespace Go.Proofs.Ytodcjeaannfbnaa
open Go.ChangeShapes Go.WideShapes Go.ChangeAt Go.RowKit
set_option maxHeartbeats 2000000
set_option maxRecDepth 100000
attribute [local go_sem ↓] load_fld load_num store_num execl_num execs_num load_pt store_pt execl_pt execs_pt load_qd store_qd execl_qd execs_qd
attribute [local go_sem] isHead_mk blkOf_mk isAgg_mk cellsV_mk row_drew rowAt_drew row_new_cells row_old rowAt_new rowAt_old setRow_new zeroNum zeroPt zeroQd
theorem ret_row2c {P : Program} {fn : Func} {R : Ending → World → Prop} {a : Act} {w : World} {p q : Tmp} {ty : TypeId} {g n : Nat} {d : TypeDesc} (h : fn.results = #[.cell p ty, .tmp q])
    (hu : P.underlying ty = some d) (hd : (match d with | .struct _ | .array _ _ => true | _ => false) = true) (hi : (P.info? ty).map (·.size) = some n)
    (hp : a.tmps.getD p undef = .pointer (some ⟨g, 0, none⟩)) (hr : Row w g n) (hf : a.defers = []) (hR : R (.returned (.tuple #[.agg (rowAt w g), a.tmps.getD q undef])) w) : bodyPost P fn R .ret a w := by
  obtain ⟨cs, t, hg, hs⟩ := hr
  have e : rowAt w g = cs := by simp [rowAt, hg]
  rw [e] at hR
  exact bodyPost_ret (results_row_tmp h _ _ g t cs (0, 0) d hp hg hu hd (by rw [hi, hs])) hf hR
theorem store_fldP {w : World} {dst : Option Tmp} {x y : Operand} {tt : TypeId} {pos : String} {af : Array Edge} {gd : Option (Nat × Bool)} {a : Act} {K : Act → World → Prop} {Q : Exit → Act → World → Prop} (hv : IsPart (a.eval x)) (h : Row w (blkOf (a.eval x)) 8) (ho : offOf (a.eval x) + 4 ≤ 8) (hx : IsAgg (a.eval y) 4) :
    Oper.wp Try.prog ⟨dst, .store 24 x y, tt, pos, af, gd⟩ a w K Q ↔ K (a.put dst undef) (w.setRow (blkOf (a.eval x)) (putAt (rowAt w (blkOf (a.eval x))) (offOf (a.eval x)) (cellsV (a.eval y)).toList)) := wp_store_part (by kernel_rfl) hv h ho hx
attribute [local go_sem ↓] store_fldP
attribute [local go_sem] isPart_mk offOf_mk
theorem put_x (f0 f1 f : Nat → Nat) : putAt (arrK .u64 8 (cat2 f0 f1)) 0 (arrK .u64 4 f).toList = arrK .u64 8 (cat2 f f1) := by
  rw [arrK_V .u64 8, putAt_arrV, arrK_V .u64 8]
  refine arrV_congr fun i hi => ?_
  rw [if_pos (Nat.zero_le _), Nat.sub_zero, Array.getElem?_toList]
  unfold cat2
  by_cases h : i < 4
  · rw [arrK_at h, if_pos h, if_pos h]; rfl
  · rw [Array.getElem?_eq_none (by rw [arrK_size]; omega), if_neg h, if_neg h]; rfl
theorem curve_Neg (x y : Nat) (w : World) (hx : x < 2 ^ 256) (hy : y < 2 ^ 256) : Calls Try.prog 35 #[ptV x y] w fun e w' => e = .returned (bif onB x y then .tuple #[ptV (difP 0 x) y, .int .i64 0] else .tuple #[ptV 0 0, .int .i64 1]) ∧ Below w.heap.size w w' := by
  have h0l : 0 < 2 ^ 256 := by decide +kernel
  have kO := Lib.hid (fun V => curve_On x y V hx hy)
  have kS := Lib.hid (fun V => field_Sub 0 x V h0l hx)
  obtain ⟨b, hb⟩ : ∃ b, onB x y = b := ⟨_, rfl⟩
  rw [hb] at kO ⊢
  obtain ⟨d, hd⟩ : ∃ d, difP 0 x = d := ⟨_, rfl⟩
  rw [hd] at kS ⊢
  clear hd hb hx hy h0l
  unfold numV at kS
  unfold ptV at kO ⊢
  have hcz := arrK_cells .u64 8 (cat2 (wd 0) (wd 0))
  have hcd := arrK_cells .u64 4 (wd d)
  have hcr := arrK_cells .u64 8 (cat2 (wd d) (wd y))
  have hL0 : Below w.heap.size w ((w.alloc (Obj.cells (arrK .u64 8 (cat2 (wd x) (wd y))) 42)).alloc (Obj.cells (arrK .u64 8 (cat2 (wd 0) (wd 0))) 42)) := by go_grown
  have hA0 : At ((w.alloc (Obj.cells (arrK .u64 8 (cat2 (wd x) (wd y))) 42)).alloc (Obj.cells (arrK .u64 8 (cat2 (wd 0) (wd 0))) 42)) w.heap.size .u64 8 (cat2 (wd x) (wd y)) := (At.new _ rfl).old _
  have hR0 : Row ((w.alloc (Obj.cells (arrK .u64 8 (cat2 (wd x) (wd y))) 42)).alloc (Obj.cells (arrK .u64 8 (cat2 (wd 0) (wd 0))) 42)) (w.heap.size + 1) 8 := (At.new (k := .u64) (f := cat2 (wd 0) (wd 0)) _ (by simp)).row
  have hL := Lib.hid hL0
  have hR := Lib.hid hR0
  have hA := Lib.hid hA0
  clear hL0 hR0 hA0
  go_enter Try.func35, Try.ntmps35
  go_upto_region 1 with (fail)
  generalize (w.alloc _).alloc _ = W0 at *
  have hr1 := hA.out.row
  have hr2 := hA.out.eq
  go_wp2_with fail
  refine (kO.out _).mono ?_
  rintro e w2 ⟨rfl, hbz⟩
  replace hA := Lib.hid (hA.out.step hbz)
  replace hR := Lib.hid (row_below hR.out hbz hR.out.lt)
  replace hL := Lib.hid (below_step hbz hL.out (Nat.le_refl _))
  clear hr1 hr2 hbz kO
  dsimp only
  cases b with
  | false =>
    have hrR := hR.out
    go_wp2_with fail
    exact ret_stored2 (p := 2) (q := 3) (ty := 42) (g := w.heap.size + 1) (n := 8) (c := arrK .u64 8 (cat2 (wd 0) (wd 0))) rfl Try.underlying42 rfl (by kernel_rfl) rfl hrR hcz.1 rfl ⟨rfl, below_setRow hL.out (by omega)⟩
  | true =>
    have hl := pt_0 hA.out
    have hl1 := hl.1
    have hl2 := hl.2
    clear hl
    go_wp2_with fail
    refine (kS.out _).mono ?_
    rintro e w3 ⟨rfl, hbz⟩
    replace hA := Lib.hid (hA.out.step hbz)
    replace hR := Lib.hid (row_below hR.out hbz hR.out.lt)
    replace hL := Lib.hid (below_step hbz hL.out (Nat.le_refl _))
    clear hl1 hl2 hbz kS
    have hr1 := hA.out.row
    have hr2 := hA.out.eq
    have hpx := put_x (wd x) (wd y) (wd d)
    dsimp only
    go_upto_region 4 with (fail)
    have hA2 := Lib.hid (At.put (k := .u64) (f := cat2 (wd d) (wd y)) hr1)
    have hR2 := Lib.hid ((row_setRow_far (c' := arrK .u64 8 (cat2 (wd d) (wd y))) (show w.heap.size + 1 ≠ w.heap.size by omega)).2 hR.out)
    have hL2 := Lib.hid (below_setRow (c := arrK .u64 8 (cat2 (wd d) (wd y))) hL.out (Nat.le_refl _))
    clear hr1 hr2 hA hR hL
    generalize w3.setRow _ _ = W3 at *
    have hr1 := hA2.out.row
    have hr2 := hA2.out.eq
    have hrR := hR2.out
    go_wp2_with fail
    exact ret_stored2 (p := 2) (q := 3) (ty := 42) (g := w.heap.size + 1) (n := 8) (c := arrK .u64 8 (cat2 (wd d) (wd y))) rfl Try.underlying42 rfl (by kernel_rfl) rfl hrR hcr.1 rfl ⟨rfl, below_setRow hL2.out (by omega)⟩
/-- What plus makes of two quads. -/
def qplus (x1 y1 z1 t1 x2 y2 z2 t2 : Nat) : Nat × Nat × Nat × Nat :=
  let a := difP y1 x1 * difP y2 x2 % fP
  let b := ((y1 + x1) % fP) * ((y2 + x2) % fP) % fP
  let c0 := (t1 * t2 % fP) * dN % fP
  let c := (c0 + c0) % fP
  let z0 := z1 * z2 % fP
  let z := (z0 + z0) % fP
  let e := difP b a
  let f := difP z c
  let g := (z + c) % fP
  let h := (b + a) % fP
  (e * f % fP, g * h % fP, f * g % fP, e * h % fP)
/-- The sum of two points, as the program makes it. -/
def addPt (x1 y1 x2 y2 : Nat) : Nat × Nat :=
  let r := qplus x1 y1 1 (x1 * y1 % fP) x2 y2 1 (x2 * y2 % fP)
  (r.1 * invP r.2.2.1 % fP, r.2.1 * invP r.2.2.1 % fP)
theorem quad_plusQ (x1 y1 z1 t1 x2 y2 z2 t2 : Nat) (w : World) (hx1 : x1 < 2 ^ 256) (hy1 : y1 < 2 ^ 256) (hz1 : z1 < 2 ^ 256) (ht1 : t1 < 2 ^ 256) (hx2 : x2 < 2 ^ 256) (hy2 : y2 < 2 ^ 256) (hz2 : z2 < 2 ^ 256) (ht2 : t2 < 2 ^ 256) (r : Nat × Nat × Nat × Nat) (hr : qplus x1 y1 z1 t1 x2 y2 z2 t2 = r) :
    Calls Try.prog 102 #[quadV x1 y1 z1 t1, quadV x2 y2 z2 t2] w fun e w' => e = .returned (quadV r.1 r.2.1 r.2.2.1 r.2.2.2) ∧ Below w.heap.size w w' := by
  subst hr
  exact quad_plus _ _ _ _ _ _ _ _ _ _ _ _ _ _ _ _ _ _ _ _ _ _ _ _ _ _ _ w hx1 hy1 hz1 ht1 hx2 hy2 hz2 ht2 rfl rfl rfl rfl rfl rfl rfl rfl rfl rfl rfl rfl rfl rfl rfl rfl rfl rfl rfl
theorem qplus_lt (x1 y1 z1 t1 x2 y2 z2 t2 : Nat) (r : Nat × Nat × Nat × Nat) (hr : qplus x1 y1 z1 t1 x2 y2 z2 t2 = r) : r.1 < 2 ^ 256 ∧ r.2.1 < 2 ^ 256 ∧ r.2.2.1 < 2 ^ 256 := by
  subst hr
  exact ⟨low_lt, low_lt, low_lt⟩
theorem curve_Add (x1 y1 x2 y2 : Nat) (w : World) (hx1 : x1 < 2 ^ 256) (hy1 : y1 < 2 ^ 256) (hx2 : x2 < 2 ^ 256) (hy2 : y2 < 2 ^ 256) : Calls Try.prog 34 #[ptV x1 y1, ptV x2 y2] w fun e w' => e = .returned (bif onB x1 y1 && onB x2 y2 then .tuple #[ptV (addPt x1 y1 x2 y2).1 (addPt x1 y1 x2 y2).2, .int .i64 0] else .tuple #[ptV 0 0, .int .i64 1]) ∧ Below w.heap.size w w' := by
  have h1l : 1 < 2 ^ 256 := by decide +kernel
  have kO1 := Lib.hid (fun V => curve_On x1 y1 V hx1 hy1)
  have kO2 := Lib.hid (fun V => curve_On x2 y2 V hx2 hy2)
  have kQ1 := Lib.hid (fun V => curve_quadOf x1 y1 V hx1 hy1)
  have kQ2 := Lib.hid (fun V => curve_quadOf x2 y2 V hx2 hy2)
  unfold addPt
  obtain ⟨m1, hm1⟩ : ∃ m, x1 * y1 % fP = m := ⟨_, rfl⟩
  obtain ⟨m2, hm2⟩ : ∃ m, x2 * y2 % fP = m := ⟨_, rfl⟩
  have lm1 : m1 < 2 ^ 256 := hm1 ▸ low_lt
  have lm2 : m2 < 2 ^ 256 := hm2 ▸ low_lt
  rw [hm1] at kQ1 ⊢
  rw [hm2] at kQ2 ⊢
  obtain ⟨r, hr⟩ : ∃ r, qplus x1 y1 1 m1 x2 y2 1 m2 = r := ⟨_, rfl⟩
  have kPl := Lib.hid (fun V => quad_plusQ x1 y1 1 m1 x2 y2 1 m2 V hx1 hy1 h1l lm1 hx2 hy2 h1l lm2 r hr)
  have hrl := qplus_lt x1 y1 1 m1 x2 y2 1 m2 r hr
  rw [hr]
  obtain ⟨r1, r2, r3, r4⟩ := r
  dsimp only at kPl hrl ⊢
  have kPt := Lib.hid (fun V => quad_point r1 r2 r3 r4 V hrl.1 hrl.2.1 hrl.2.2)
  obtain ⟨X, hX⟩ : ∃ m, r1 * invP r3 % fP = m := ⟨_, rfl⟩
  obtain ⟨Y, hY⟩ : ∃ m, r2 * invP r3 % fP = m := ⟨_, rfl⟩
  rw [hX, hY] at kPt ⊢
  obtain ⟨b1, hb1⟩ : ∃ b, onB x1 y1 = b := ⟨_, rfl⟩
  obtain ⟨b2, hb2⟩ : ∃ b, onB x2 y2 = b := ⟨_, rfl⟩
  rw [hb1] at kO1 ⊢
  rw [hb2] at kO2 ⊢
  clear hb1 hb2 hX hY hrl hr lm1 lm2 hm1 hm2 h1l hx1 hy1 hx2 hy2
  unfold ptV quadV at kQ1 kQ2
  unfold quadV at kPl kPt
  unfold ptV at kPt kO1 kO2 ⊢
  have hcz := arrK_cells .u64 8 (cat2 (wd 0) (wd 0))
  have hcr := arrK_cells .u64 8 (cat2 (wd X) (wd Y))
  have hL0 : Below w.heap.size w (((w.alloc (Obj.cells (arrK .u64 8 (cat2 (wd x1) (wd y1))) 42)).alloc (Obj.cells (arrK .u64 8 (cat2 (wd x2) (wd y2))) 42)).alloc (Obj.cells (arrK .u64 8 (cat2 (wd 0) (wd 0))) 42)) := by go_grown
  have hA0 : At (((w.alloc (Obj.cells (arrK .u64 8 (cat2 (wd x1) (wd y1))) 42)).alloc (Obj.cells (arrK .u64 8 (cat2 (wd x2) (wd y2))) 42)).alloc (Obj.cells (arrK .u64 8 (cat2 (wd 0) (wd 0))) 42)) w.heap.size .u64 8 (cat2 (wd x1) (wd y1)) := ((At.new _ rfl).old _).old _
  have hB0 : At (((w.alloc (Obj.cells (arrK .u64 8 (cat2 (wd x1) (wd y1))) 42)).alloc (Obj.cells (arrK .u64 8 (cat2 (wd x2) (wd y2))) 42)).alloc (Obj.cells (arrK .u64 8 (cat2 (wd 0) (wd 0))) 42)) (w.heap.size + 1) .u64 8 (cat2 (wd x2) (wd y2)) := (At.new _ (by simp)).old _
  have hR0 : Row (((w.alloc (Obj.cells (arrK .u64 8 (cat2 (wd x1) (wd y1))) 42)).alloc (Obj.cells (arrK .u64 8 (cat2 (wd x2) (wd y2))) 42)).alloc (Obj.cells (arrK .u64 8 (cat2 (wd 0) (wd 0))) 42)) (w.heap.size + 1 + 1) 8 := (At.new (k := .u64) (f := cat2 (wd 0) (wd 0)) _ (by simp)).row
  have hL := Lib.hid hL0
  have hR := Lib.hid hR0
  have hA := Lib.hid hA0
  have hB := Lib.hid hB0
  clear hL0 hR0 hA0 hB0
  go_enter Try.func34, Try.ntmps34
  go_upto_region 1 with (fail)
  generalize ((w.alloc _).alloc _).alloc _ = W0 at *
  have hr1 := hA.out.row
  have hr2 := hA.out.eq
  go_wp2_with fail
  refine (kO1.out _).mono ?_
  rintro e w2 ⟨rfl, hbz⟩
  replace hA := Lib.hid (hA.out.step hbz)
  replace hB := Lib.hid (hB.out.step hbz)
  replace hR := Lib.hid (row_below hR.out hbz hR.out.lt)
  replace hL := Lib.hid (below_step hbz hL.out (Nat.le_refl _))
  clear hr1 hr2 hbz kO1
  dsimp only
  cases b1 with
  | false =>
    have hrR := hR.out
    go_wp2_with fail
    exact ret_stored2 (p := 4) (q := 5) (ty := 42) (g := w.heap.size + 1 + 1) (n := 8) (c := arrK .u64 8 (cat2 (wd 0) (wd 0))) rfl Try.underlying42 rfl (by kernel_rfl) rfl hrR hcz.1 rfl ⟨rfl, below_setRow hL.out (by omega)⟩
  | true =>
    have hr1 := hB.out.row
    have hr2 := hB.out.eq
    go_wp2_with fail
    refine (kO2.out _).mono ?_
    rintro e w3 ⟨rfl, hbz⟩
    replace hA := Lib.hid (hA.out.step hbz)
    replace hB := Lib.hid (hB.out.step hbz)
    replace hR := Lib.hid (row_below hR.out hbz hR.out.lt)
    replace hL := Lib.hid (below_step hbz hL.out (Nat.le_refl _))
    clear hr1 hr2 hbz kO2
    dsimp only
    cases b2 with
    | false =>
      have hrR := hR.out
      go_wp2_with fail
      exact ret_stored2 (p := 4) (q := 5) (ty := 42) (g := w.heap.size + 1 + 1) (n := 8) (c := arrK .u64 8 (cat2 (wd 0) (wd 0))) rfl Try.underlying42 rfl (by kernel_rfl) rfl hrR hcz.1 rfl ⟨rfl, below_setRow hL.out (by omega)⟩
    | true =>
      go_upto_region 3 with (fail)
      generalize ha0 : Act.mk _ _ = a0
      have e2 : a0.tmps[2]?.getD undef = .pointer (some ⟨w.heap.size, 0, none⟩) := by rw [← ha0]; rfl
      have e3 : a0.tmps[3]?.getD undef = .pointer (some ⟨w.heap.size + 1, 0, none⟩) := by rw [← ha0]; rfl
      have e4 : a0.tmps[4]?.getD undef = .pointer (some ⟨w.heap.size + 1 + 1, 0, none⟩) := by rw [← ha0]; rfl
      have hz0 : a0.tmps.size = 21 := by rw [← ha0]; rfl
      have hha0 := Lib.hid ha0
      clear ha0
      refine wp_region_one (fun jx_ => match jx_ with | 0 => some (.agg (arrK .u64 8 (cat2 (wd x1) (wd y1)))) | 1 => some (.agg (arrK .u64 16 (cat4 (wd x1) (wd y1) (wd 1) (wd m1)))) | 2 => some (.agg (arrK .u64 8 (cat2 (wd x2) (wd y2)))) | 3 => some (.agg (arrK .u64 16 (cat4 (wd x2) (wd y2) (wd 1) (wd m2)))) | 4 => some (.agg (arrK .u64 16 (cat4 (wd r1) (wd r2) (wd r3) (wd r4)))) | 5 => some (.agg (arrK .u64 8 (cat2 (wd X) (wd Y)))) | 7 => some ( (Value.int IntKind.i64 0)) | _ => none) 6 ((w.heap.size + 1 + 1)) 8 (arrK .u64 8 (cat2 (wd X) (wd Y))) (by kernel_rfl) (by kernel_rfl) (by kernel_rfl) (slotsOk_of hz0 (by kernel_rfl)) (of_decide_eq_true (by kernel_rfl)) hR.out ⟨?_, ?_, ?_, ?_, ?_, ?_, ?_, ?_, trivial⟩ ?_
      · refine one_before (by decide) (by kernel_rfl) (calm_step rfl fun aa ω κ hb hu hc hK => ?_)
        have h2 : aa.tmps[2]?.getD undef = .pointer (some ⟨w.heap.size, 0, none⟩) := (hu 2 rfl).trans e2
        have hk := Lib.hid (fun w1 (h : Below ω.heap.size ω w1) => hK (.agg (arrK .u64 8 (cat2 (wd x1) (wd y1)))) w1 rfl h)
        clear hK hu hc
        have hr1 := (hA.out.step hb).row
        have hr2 := (hA.out.step hb).eq
        go_simp
        exact hk.out _ (Below.refl _ _)
      · refine one_before (by decide) (by kernel_rfl) (calm_step rfl fun aa ω κ hb hu hc hK => ?_)
        have h15 : aa.tmps[15]?.getD undef = .agg (arrK .u64 8 (cat2 (wd x1) (wd y1))) := hc 0 15 rfl rfl
        have hk := Lib.hid (fun w1 (h : Below ω.heap.size ω w1) => hK (.agg (arrK .u64 16 (cat4 (wd x1) (wd y1) (wd 1) (wd m1)))) w1 rfl h)
        clear hK hu hc
        go_simp
        go_at_call 100
        refine (kQ1.out _).mono ?_
        rintro e w1 ⟨rfl, hb1⟩
        exact hk.out _ hb1
      · refine one_before (by decide) (by kernel_rfl) (calm_step rfl fun aa ω κ hb hu hc hK => ?_)
        have h3 : aa.tmps[3]?.getD undef = .pointer (some ⟨w.heap.size + 1, 0, none⟩) := (hu 3 rfl).trans e3
        have hk := Lib.hid (fun w1 (h : Below ω.heap.size ω w1) => hK (.agg (arrK .u64 8 (cat2 (wd x2) (wd y2)))) w1 rfl h)
        clear hK hu hc
        have hr1 := (hB.out.step hb).row
        have hr2 := (hB.out.step hb).eq
        go_simp
        exact hk.out _ (Below.refl _ _)
      · refine one_before (by decide) (by kernel_rfl) (calm_step rfl fun aa ω κ hb hu hc hK => ?_)
        have h17 : aa.tmps[17]?.getD undef = .agg (arrK .u64 8 (cat2 (wd x2) (wd y2))) := hc 2 17 rfl rfl
        have hk := Lib.hid (fun w1 (h : Below ω.heap.size ω w1) => hK (.agg (arrK .u64 16 (cat4 (wd x2) (wd y2) (wd 1) (wd m2)))) w1 rfl h)
        clear hK hu hc
        go_simp
        go_at_call 100
        refine (kQ2.out _).mono ?_
        rintro e w1 ⟨rfl, hb1⟩
        exact hk.out _ hb1
      · refine one_before (by decide) (by kernel_rfl) (calm_step rfl fun aa ω κ hb hu hc hK => ?_)
        have h16 : aa.tmps[16]?.getD undef = .agg (arrK .u64 16 (cat4 (wd x1) (wd y1) (wd 1) (wd m1))) := hc 1 16 rfl rfl
        have h18 : aa.tmps[18]?.getD undef = .agg (arrK .u64 16 (cat4 (wd x2) (wd y2) (wd 1) (wd m2))) := hc 3 18 rfl rfl
        have hk := Lib.hid (fun w1 (h : Below ω.heap.size ω w1) => hK (.agg (arrK .u64 16 (cat4 (wd r1) (wd r2) (wd r3) (wd r4)))) w1 rfl h)
        clear hK hu hc
        go_simp
        go_at_call 102
        refine (kPl.out _).mono ?_
        rintro e w1 ⟨rfl, hb1⟩
        exact hk.out _ hb1
      · refine one_before (by decide) (by kernel_rfl) (calm_step rfl fun aa ω κ hb hu hc hK => ?_)
        have h19 : aa.tmps[19]?.getD undef = .agg (arrK .u64 16 (cat4 (wd r1) (wd r2) (wd r3) (wd r4))) := hc 4 19 rfl rfl
        have hk := Lib.hid (fun w1 (h : Below ω.heap.size ω w1) => hK (.agg (arrK .u64 8 (cat2 (wd X) (wd Y)))) w1 rfl h)
        clear hK hu hc
        go_simp
        go_at_call 104
        refine (kPt.out _).mono ?_
        rintro e w1 ⟨rfl, hb1⟩
        exact hk.out _ hb1
      · refine one_q (one_write rfl rfl fun aa ω κ hb hu hc hr hK => ?_)
        have h4 : aa.tmps[4]?.getD undef = .pointer (some ⟨w.heap.size + 1 + 1, 0, none⟩) := (hu 4 rfl).trans e4
        have h20 : aa.tmps[20]?.getD undef = .agg (arrK .u64 8 (cat2 (wd X) (wd Y))) := hc 5 20 rfl rfl
        have hk := Lib.hid hK
        clear hK hu hc
        have hcc := hcr
        go_simp
        exact hk.out undef
      · refine one_free (by decide) fun W_ => calm_step rfl fun aa ω κ hb hu hc hK => ?_
        have hk := Lib.hid (fun w1 (h : Below ω.heap.size ω w1) => hK ( (Value.int IntKind.i64 0)) w1 rfl h)
        clear hK hu hc
        go_simp
        exact hk.out _ (Below.refl _ _)
      · intro a1 w1 hb1 hu1 hsz1 hdf1 hv1
        have ha0 := hha0.out
        subst ha0
        have he := act_patch (n := 21) [false, false, false, false, false, true, false, false, false, false, false, false, false, false, false, true, true, true, true, true, true] rfl (by kernel_rfl) hu1 hsz1 hdf1
        simp only [patch, cond_true, cond_false, Nat.reduceAdd] at he
        have hXz := (At.put (k := .u64) (f := (cat2 (wd X) (wd Y))) hR.out).below hb1 (by simpa using hR.out.lt)
        have hLz := Lib.hid (Below.trans (below_setRow (c := arrK .u64 8 (cat2 (wd X) (wd Y))) hL.out (by omega)) (hb1.mono (by simpa using hL.out.size)))
        clear hR hL hA hB kQ1 kQ2 kPl kPt
        have h5 : a1.tmps[5]?.getD undef = .int .i64 0 := hv1 7 5 (by decide) rfl
        clear hb1 hu1 hsz1 hdf1 hv1 hz0 hha0 e2 e3 e4
        rw [he]
        clear he
        generalize a1.tmps[5]?.getD undef = x5 at *
        generalize a1.tmps[15]?.getD undef = x15 at *
        generalize a1.tmps[16]?.getD undef = x16 at *
        generalize a1.tmps[17]?.getD undef = x17 at *
        generalize a1.tmps[18]?.getD undef = x18 at *
        generalize a1.tmps[19]?.getD undef = x19 at *
        generalize a1.tmps[20]?.getD undef = x20 at *
        have hx5 : x5 = .int .i64 0 := h5
        subst hx5
        go_wp2_with fail
        refine ret_row2c (p := 4) (q := 5) (ty := 42) (g := w.heap.size + 1 + 1) (n := 8) rfl Try.underlying42 rfl (by kernel_rfl) rfl hXz.row rfl ?_
        rw [hXz.eq]
        exact ⟨rfl, hLz.out⟩
end Go.Proofs.Ytodcjeaannfbnaa
namespace Go.Proofs.Ytodcjeaannfbnaa
open Go.ChangeShapes Go.WideShapes Go.ChangeAt Go.RowKit
set_option maxHeartbeats 2000000
set_option maxRecDepth 100000
theorem load_rp {w : World} {dst : Option Tmp} {x : Operand} {tt : TypeId} {pos : String} {af : Array Edge} {gd : Option (Nat × Bool)} {a : Act} {K : Act → World → Prop} {Q : Exit → Act → World → Prop}
    (hv : IsHead (a.eval x)) (h : Row w (blkOf (a.eval x)) 48) : Oper.wp Try.prog ⟨dst, .load 48 x, tt, pos, af, gd⟩ a w K Q ↔ K (a.put dst (.agg (rowAt w (blkOf (a.eval x))))) w :=
  wp_load_whole Try.underlying48 rfl (by kernel_rfl) hv h
theorem store_rp {w : World} {dst : Option Tmp} {x y : Operand} {tt : TypeId} {pos : String} {af : Array Edge} {gd : Option (Nat × Bool)} {a : Act} {K : Act → World → Prop} {Q : Exit → Act → World → Prop}
    (hv : IsHead (a.eval x)) (h : Row w (blkOf (a.eval x)) 48) (hx : IsAgg (a.eval y) 48) : Oper.wp Try.prog ⟨dst, .store 48 x y, tt, pos, af, gd⟩ a w K Q ↔ K (a.put dst undef) (w.setRow (blkOf (a.eval x)) (cellsV (a.eval y))) :=
  wp_store_whole (by kernel_rfl) hv h hx
theorem execl_rp {w : World} {dst : Option Tmp} {x : Operand} {tt : TypeId} {pos : String} {af : Array Edge} {gd : Option (Nat × Bool)} {ρ : Operand → Value}
    (hv : IsHead (ρ x)) (h : Row w (blkOf (ρ x)) 48) : (execOp ρ ⟨dst, .load 48 x, tt, pos, af, gd⟩).run Try.prog w = .ok (.value (.agg (rowAt w (blkOf (ρ x))))) w :=
  exec_load_whole Try.underlying48 rfl (by kernel_rfl) hv h
theorem execs_rp {w : World} {dst : Option Tmp} {x y : Operand} {tt : TypeId} {pos : String} {af : Array Edge} {gd : Option (Nat × Bool)} {ρ : Operand → Value}
    (hv : IsHead (ρ x)) (h : Row w (blkOf (ρ x)) 48) (hx : IsAgg (ρ y) 48) : (execOp ρ ⟨dst, .store 48 x y, tt, pos, af, gd⟩).run Try.prog w = .ok .skip (w.setRow (blkOf (ρ x)) (cellsV (ρ y))) :=
  exec_store_whole (by kernel_rfl) hv h hx

theorem load_feP {w : World} {dst : Option Tmp} {x : Operand} {tt : TypeId} {pos : String} {af : Array Edge} {gd : Option (Nat × Bool)} {a : Act} {K : Act → World → Prop} {Q : Exit → Act → World → Prop} (h : LdOk w 16 (a.eval x)) : Oper.wp Try.prog ⟨dst, .load 26 x, tt, pos, af, gd⟩ a w K Q ↔ K (a.put dst (.agg (ldC w 16 (a.eval x)))) w := wp_load_el Try.underlying26 rfl (by kernel_rfl) h
def cat3 (f0 f1 f2 : Nat → Nat) (i : Nat) : Nat := if i < 16 then f0 i else if i < 32 then f1 (i - 16) else f2 (i - 32)
section
variable {w : World} {g : Nat} {f0 f1 f2 : Nat → Nat}
theorem rp_0 (h : At w g .i64 48 (cat3 f0 f1 f2)) : LdOk w 16 (.pointer (some ⟨g, 0, none⟩)) ∧ ldC w 16 (.pointer (some ⟨g, 0, none⟩)) = arrK .i64 16 f0 := by
  refine ⟨(h.fld (by omega)).1, (h.fld (by omega)).2.trans (arrK_congr fun i hi => ?_)⟩
  unfold cat3; rw [if_pos (by omega), Nat.zero_add]
theorem rp_1 (h : At w g .i64 48 (cat3 f0 f1 f2)) : LdOk w 16 (.pointer (some ⟨g, 16, none⟩)) ∧ ldC w 16 (.pointer (some ⟨g, 16, none⟩)) = arrK .i64 16 f1 := by
  refine ⟨(h.fld (by omega)).1, (h.fld (by omega)).2.trans (arrK_congr fun i hi => ?_)⟩
  unfold cat3; rw [if_neg (by omega), if_pos (by omega), Nat.add_sub_cancel_left]
theorem rp_2 (h : At w g .i64 48 (cat3 f0 f1 f2)) : LdOk w 16 (.pointer (some ⟨g, 32, none⟩)) ∧ ldC w 16 (.pointer (some ⟨g, 32, none⟩)) = arrK .i64 16 f2 := by
  refine ⟨(h.fld (by omega)).1, (h.fld (by omega)).2.trans (arrK_congr fun i hi => ?_)⟩
  unfold cat3; rw [if_neg (by omega), if_neg (by omega), Nat.add_sub_cancel_left]
end
def rpV (x y z : Nat) : Value := .agg (arrK .i64 48 (cat3 (dgt x) (dgt y) (dgt z)))
theorem build_rp (f0 f1 f2 : Nat → Nat) (w : World) : (Instr.build 48 #[(0, .agg (arrK .i64 16 f0)), (1, .agg (arrK .i64 16 f1)), (2, .agg (arrK .i64 16 f2))]).run Try.prog w = .ok (.agg (arrK .i64 48 (cat3 f0 f1 f2))) w := run_build w _ _ _ (by kernel_rfl)
theorem zeroRp : #[Value.int IntKind.i64 0, Value.int IntKind.i64 0, Value.int IntKind.i64 0, Value.int IntKind.i64 0, Value.int IntKind.i64 0, Value.int IntKind.i64 0, Value.int IntKind.i64 0, Value.int IntKind.i64 0, Value.int IntKind.i64 0, Value.int IntKind.i64 0, Value.int IntKind.i64 0, Value.int IntKind.i64 0, Value.int IntKind.i64 0, Value.int IntKind.i64 0, Value.int IntKind.i64 0, Value.int IntKind.i64 0, Value.int IntKind.i64 0, Value.int IntKind.i64 0, Value.int IntKind.i64 0, Value.int IntKind.i64 0, Value.int IntKind.i64 0, Value.int IntKind.i64 0, Value.int IntKind.i64 0, Value.int IntKind.i64 0, Value.int IntKind.i64 0, Value.int IntKind.i64 0, Value.int IntKind.i64 0, Value.int IntKind.i64 0, Value.int IntKind.i64 0, Value.int IntKind.i64 0, Value.int IntKind.i64 0, Value.int IntKind.i64 0, Value.int IntKind.i64 0, Value.int IntKind.i64 0, Value.int IntKind.i64 0, Value.int IntKind.i64 0, Value.int IntKind.i64 0, Value.int IntKind.i64 0, Value.int IntKind.i64 0, Value.int IntKind.i64 0, Value.int IntKind.i64 0, Value.int IntKind.i64 0, Value.int IntKind.i64 0, Value.int IntKind.i64 0, Value.int IntKind.i64 0, Value.int IntKind.i64 0, Value.int IntKind.i64 0, Value.int IntKind.i64 0] = arrK .i64 48 (cat3 (fun _ => 0) (fun _ => 0) (fun _ => 0)) := by kernel_rfl
section
variable {P : Program} {ops : Array Oper} {rest : List Oper} {o : Oper} {a : Act} {w : World} {K : Act → World → Prop} {Q : Exit → Act → World → Prop} {t : TypeId} {i0 i1 i2 : Nat} {x0 x1 x2 : Operand} {u v0 v1 v2 : Value}
theorem wp_bldC (ho : o.op = .build t #[(i0, x0), (i1, x1), (i2, x2)]) (h0 : a.eval x0 = v0) (h1 : a.eval x1 = v1) (h2 : a.eval x2 = v2) (hr : (Instr.build t #[(i0, v0), (i1, v1), (i2, v2)]).run P w = .ok u w) (h : K (a.put o.dst u) w) : Oper.wp P o a w K Q := by
  subst h0 h1 h2
  obtain ⟨dst, op, tt, pos, af, gd⟩ := o
  subst ho
  unfold Oper.wp execOp
  simp only [List.map_toArray, List.map_cons, List.map_nil, Sem.run_bind, hr, Result.andThen_ok]
  exact h
theorem wpList_bldC (hgd : o.guard = none) (ho : o.op = .build t #[(i0, x0), (i1, x1), (i2, x2)]) (h0 : a.eval x0 = v0) (h1 : a.eval x1 = v1) (h2 : a.eval x2 = v2) (hr : (Instr.build t #[(i0, v0), (i1, v1), (i2, v2)]).run P w = .ok u w) (h : wpList P ops Q rest (a.put o.dst u) w) : wpList P ops Q (o :: rest) a w :=
  wpList_step fun K hK => by
    have hw : Region.wanted o (yielded ops a.tmps) = true := by simp [Region.wanted, hgd]
    rw [if_pos hw]
    exact wp_bldC ho h0 h1 h2 hr (hK _ _ h)
end
section
variable {P : Program} {ops : Array Oper} {rest : List Oper} {o : Oper} {a : Act} {w : World} {Q : Exit → Act → World → Prop} {t : TypeId} {parts : Array (Nat × Operand)} {vs : Array (Nat × Value)} {u : Value}
theorem wpList_bldN (hgd : o.guard = none) (ho : o.op = .build t parts) (hv : (parts.map fun p => (p.1, a.eval p.2)) = vs) (hr : (Instr.build t vs).run P w = .ok u w) (h : wpList P ops Q rest (a.put o.dst u) w) : wpList P ops Q (o :: rest) a w :=
  wpList_step fun K hK => by
    have hw : Region.wanted o (yielded ops a.tmps) = true := by simp [Region.wanted, hgd]
    rw [if_pos hw]
    subst hv
    obtain ⟨dst, op, tt, pos, af, gd⟩ := o
    subst ho
    unfold Oper.wp execOp
    simp only [Sem.run_bind, hr, Result.andThen_ok]
    exact hK _ _ h
end
theorem build_d (w : World) : (Instr.build 26 #[(0, Value.int IntKind.i64 30883), (1, Value.int IntKind.i64 4953), (2, Value.int IntKind.i64 19914), (3, Value.int IntKind.i64 30187), (4, Value.int IntKind.i64 55467), (5, Value.int IntKind.i64 16705), (6, Value.int IntKind.i64 2637), (7, Value.int IntKind.i64 112), (8, Value.int IntKind.i64 59544), (9, Value.int IntKind.i64 30585), (10, Value.int IntKind.i64 16505), (11, Value.int IntKind.i64 36039), (12, Value.int IntKind.i64 65139), (13, Value.int IntKind.i64 11119), (14, Value.int IntKind.i64 27886), (15, Value.int IntKind.i64 20995)]).run Try.prog w = .ok (.agg (arrK .i64 16 (dgt dN))) w := run_build w _ _ _ (by kernel_rfl)
attribute [local go_sem ↓] load_fe store_fe
attribute [local go_sem] isHead_mk blkOf_mk isAgg_mk cellsV_mk row_drew rowAt_drew row_new_cells row_old rowAt_new rowAt_old setRow_new zeroFe
theorem ref_dOf (w : World) : Calls Try.prog 105 #[] w fun e w' => e = .returned (feV dN) ∧ Below w.heap.size w w' := by
  unfold feV
  have hl := Lib.hid (fun V => build_d V)
  obtain ⟨F, hF⟩ : ∃ F, dgt dN = F := ⟨_, rfl⟩
  rw [hF] at hl ⊢
  clear hF
  have hcz := arrK_cells .i64 16 fun _ => 0
  have hcp := arrK_cells .i64 16 F
  have hL0 := below_alloc w (Obj.cells (arrK .i64 16 fun _ => 0) 26)
  have hR0 : Row (w.alloc (Obj.cells (arrK .i64 16 fun _ => 0) 26)) w.heap.size 16 := (row_new rfl).2 hcz.1
  go_enter Try.func105, Try.ntmps105
  go_upto_region 1 with (fail)
  generalize w.alloc _ = W0 at *
  go_wp2_with (refine wpList_bldN (vs := #[(0, Value.int IntKind.i64 30883), (1, Value.int IntKind.i64 4953), (2, Value.int IntKind.i64 19914), (3, Value.int IntKind.i64 30187), (4, Value.int IntKind.i64 55467), (5, Value.int IntKind.i64 16705), (6, Value.int IntKind.i64 2637), (7, Value.int IntKind.i64 112), (8, Value.int IntKind.i64 59544), (9, Value.int IntKind.i64 30585), (10, Value.int IntKind.i64 16505), (11, Value.int IntKind.i64 36039), (12, Value.int IntKind.i64 65139), (13, Value.int IntKind.i64 11119), (14, Value.int IntKind.i64 27886), (15, Value.int IntKind.i64 20995)]) rfl rfl (by simp [Act.eval]) (hl.out _) ?_)
  exact ret_stored (p := 0) (ty := 26) (g := w.heap.size) (n := 16) (c := arrK .i64 16 F) rfl Try.underlying26 rfl (by kernel_rfl) rfl hR0 hcp.1 rfl ⟨rfl, below_setRow hL0 (Nat.le_refl _)⟩
end Go.Proofs.Ytodcjeaannfbnaa
namespace Go.Proofs.Ytodcjeaannfbnaa
open Go.ChangeShapes Go.WideShapes Go.ChangeAt Go.RowKit
set_option maxHeartbeats 2000000
set_option maxRecDepth 100000
attribute [local go_sem ↓] load_fld load_feP load_num store_num load_fe store_fe load_pt store_pt load_rp store_rp
attribute [local go_sem] isHead_mk blkOf_mk isAgg_mk cellsV_mk row_drew rowAt_drew row_new_cells row_old rowAt_new rowAt_old setRow_new zeroNum zeroPt zeroFe zeroRp
theorem ref_PtOf (x y : Nat) (w : World) (hx : x < 2 ^ 256) (hy : y < 2 ^ 256) : Calls Try.prog 30 #[ptV x y] w fun e w' => e = .returned (rpV (x % fP) (y % fP) 1) ∧ Below w.heap.size w w' := by
  have hF1 := Lib.hid (fun V => ref_Field x V hx)
  have hF2 := Lib.hid (fun V => ref_Field y V hy)
  have h1 := Lib.hid (fun V => ref_small 1 V (by omega))
  obtain ⟨p, hp⟩ : ∃ m, x % fP = m := ⟨_, rfl⟩
  obtain ⟨q, hq⟩ : ∃ m, y % fP = m := ⟨_, rfl⟩
  rw [hp] at hF1 ⊢
  rw [hq] at hF2 ⊢
  clear hp hq hx hy
  unfold numV feV at hF1 hF2
  unfold feV at h1
  rw [show ((1 : Nat) : Int) = 1 from rfl] at h1
  unfold ptV rpV
  have hcq := arrK_cells .i64 48 (cat3 (dgt p) (dgt q) (dgt 1))
  have hcz := arrK_cells .i64 48 (cat3 (fun _ => 0) (fun _ => 0) (fun _ => 0))
  have hL0 : Below w.heap.size w ((w.alloc (Obj.cells (arrK .u64 8 (cat2 (wd x) (wd y))) 42)).alloc (Obj.cells (arrK .i64 48 (cat3 (fun _ => 0) (fun _ => 0) (fun _ => 0))) 48)) := by go_grown
  have hA0 : At ((w.alloc (Obj.cells (arrK .u64 8 (cat2 (wd x) (wd y))) 42)).alloc (Obj.cells (arrK .i64 48 (cat3 (fun _ => 0) (fun _ => 0) (fun _ => 0))) 48)) w.heap.size .u64 8 (cat2 (wd x) (wd y)) := (At.new _ rfl).old _
  have hR0 : Row ((w.alloc (Obj.cells (arrK .u64 8 (cat2 (wd x) (wd y))) 42)).alloc (Obj.cells (arrK .i64 48 (cat3 (fun _ => 0) (fun _ => 0) (fun _ => 0))) 48)) (w.heap.size + 1) 48 := (At.new (k := .i64) (f := (cat3 (fun _ => 0) (fun _ => 0) (fun _ => 0))) _ (by simp)).row
  have hL := Lib.hid hL0
  have hR := Lib.hid hR0
  have hA := Lib.hid hA0
  clear hL0 hR0 hA0
  go_enter Try.func30, Try.ntmps30
  go_upto_region 1 with (fail)
  generalize (w.alloc _).alloc _ = W0 at *
  generalize ha0 : Act.mk _ _ = a0
  have e1 : a0.tmps[1]?.getD undef = .pointer (some ⟨w.heap.size, 0, none⟩) := by rw [← ha0]; rfl
  have e2 : a0.tmps[2]?.getD undef = .pointer (some ⟨w.heap.size + 1, 0, none⟩) := by rw [← ha0]; rfl
  have hz0 : a0.tmps.size = 11 := by rw [← ha0]; rfl
  have hha0 := Lib.hid ha0
  clear ha0
  refine wp_region_one (fun jx_ => match jx_ with | 0 => some (.pointer (some ⟨w.heap.size, 0, none⟩)) | 1 => some (.agg (arrK .u64 4 (wd x))) | 2 => some (.agg (arrK .i64 16 (dgt p))) | 3 => some (.pointer (some ⟨w.heap.size, 4, none⟩)) | 4 => some (.agg (arrK .u64 4 (wd y))) | 5 => some (.agg (arrK .i64 16 (dgt q))) | 6 => some (.agg (arrK .i64 16 (dgt 1))) | 7 => some (.agg (arrK .i64 48 (cat3 (dgt p) (dgt q) (dgt 1)))) | _ => none) 8 ((w.heap.size + 1)) 48 (arrK .i64 48 (cat3 (dgt p) (dgt q) (dgt 1))) (by kernel_rfl) (by kernel_rfl) (by kernel_rfl) (slotsOk_of hz0 (by kernel_rfl)) (of_decide_eq_true (by kernel_rfl)) hR.out ⟨?_, ?_, ?_, ?_, ?_, ?_, ?_, ?_, ?_, trivial⟩ ?_
  · refine one_before (by decide) (by kernel_rfl) (calm_step rfl fun aa ω κ hb hu hc hK => ?_)
    have h1 : aa.tmps[1]?.getD undef = .pointer (some ⟨w.heap.size, 0, none⟩) := (hu 1 rfl).trans e1
    have hk := Lib.hid (fun w1 (h : Below ω.heap.size ω w1) => hK (.pointer (some ⟨w.heap.size, 0, none⟩)) w1 rfl h)
    clear hK hu hc
    go_simp
    exact hk.out _ (Below.refl _ _)
  · refine one_before (by decide) (by kernel_rfl) (calm_step rfl fun aa ω κ hb hu hc hK => ?_)
    have h3 : aa.tmps[3]?.getD undef = .pointer (some ⟨w.heap.size, 0, none⟩) := hc 0 3 rfl rfl
    have hk := Lib.hid (fun w1 (h : Below ω.heap.size ω w1) => hK (.agg (arrK .u64 4 (wd x))) w1 rfl h)
    clear hK hu hc
    have hl := pt_0 (hA.out.step hb)
    have hl1 := hl.1
    have hl2 := hl.2
    go_simp
    exact hk.out _ (Below.refl _ _)
  · refine one_before (by decide) (by kernel_rfl) (calm_step rfl fun aa ω κ hb hu hc hK => ?_)
    have h4 : aa.tmps[4]?.getD undef = .agg (arrK .u64 4 (wd x)) := hc 1 4 rfl rfl
    have hk := Lib.hid (fun w1 (h : Below ω.heap.size ω w1) => hK (.agg (arrK .i64 16 (dgt p))) w1 rfl h)
    clear hK hu hc
    go_simp
    go_at_call 12
    refine (hF1.out _).mono ?_
    rintro e w1 ⟨rfl, hb1⟩
    exact hk.out _ hb1
  · refine one_before (by decide) (by kernel_rfl) (calm_step rfl fun aa ω κ hb hu hc hK => ?_)
    have h1 : aa.tmps[1]?.getD undef = .pointer (some ⟨w.heap.size, 0, none⟩) := (hu 1 rfl).trans e1
    have hk := Lib.hid (fun w1 (h : Below ω.heap.size ω w1) => hK (.pointer (some ⟨w.heap.size, 4, none⟩)) w1 rfl h)
    clear hK hu hc
    go_simp
    exact hk.out _ (Below.refl _ _)
  · refine one_before (by decide) (by kernel_rfl) (calm_step rfl fun aa ω κ hb hu hc hK => ?_)
    have h6 : aa.tmps[6]?.getD undef = .pointer (some ⟨w.heap.size, 4, none⟩) := hc 3 6 rfl rfl
    have hk := Lib.hid (fun w1 (h : Below ω.heap.size ω w1) => hK (.agg (arrK .u64 4 (wd y))) w1 rfl h)
    clear hK hu hc
    have hl := pt_1 (hA.out.step hb)
    have hl1 := hl.1
    have hl2 := hl.2
    go_simp
    exact hk.out _ (Below.refl _ _)
  · refine one_before (by decide) (by kernel_rfl) (calm_step rfl fun aa ω κ hb hu hc hK => ?_)
    have h7 : aa.tmps[7]?.getD undef = .agg (arrK .u64 4 (wd y)) := hc 4 7 rfl rfl
    have hk := Lib.hid (fun w1 (h : Below ω.heap.size ω w1) => hK (.agg (arrK .i64 16 (dgt q))) w1 rfl h)
    clear hK hu hc
    go_simp
    go_at_call 12
    refine (hF2.out _).mono ?_
    rintro e w1 ⟨rfl, hb1⟩
    exact hk.out _ hb1
  · refine one_before (by decide) (by kernel_rfl) (calm_step rfl fun aa ω κ hb hu hc hK => ?_)
    have hk := Lib.hid (fun w1 (h : Below ω.heap.size ω w1) => hK (.agg (arrK .i64 16 (dgt 1))) w1 rfl h)
    clear hK hu hc
    go_simp
    go_at_call 89
    refine (h1.out _).mono ?_
    rintro e w1 ⟨rfl, hb1⟩
    exact hk.out _ hb1
  · refine one_before (by decide) (by kernel_rfl) (calm_step rfl fun aa ω κ hb hu hc hK => ?_)
    have h5 : aa.tmps[5]?.getD undef = .agg (arrK .i64 16 (dgt p)) := hc 2 5 rfl rfl
    have h8 : aa.tmps[8]?.getD undef = .agg (arrK .i64 16 (dgt q)) := hc 5 8 rfl rfl
    have h9 : aa.tmps[9]?.getD undef = .agg (arrK .i64 16 (dgt 1)) := hc 6 9 rfl rfl
    have hk := Lib.hid (fun w1 (h : Below ω.heap.size ω w1) => hK (.agg (arrK .i64 48 (cat3 (dgt p) (dgt q) (dgt 1)))) w1 rfl h)
    clear hK hu hc
    exact wp_bldC (v0 := .agg (arrK .i64 16 (dgt p))) (v1 := .agg (arrK .i64 16 (dgt q))) (v2 := .agg (arrK .i64 16 (dgt 1))) rfl (by go_simp) (by go_simp) (by go_simp) (build_rp _ _ _ _) (hk.out _ (Below.refl _ _))
  · refine one_q (one_write rfl rfl fun aa ω κ hb hu hc hr hK => ?_)
    have h2 : aa.tmps[2]?.getD undef = .pointer (some ⟨w.heap.size + 1, 0, none⟩) := (hu 2 rfl).trans e2
    have h10 : aa.tmps[10]?.getD undef = .agg (arrK .i64 48 (cat3 (dgt p) (dgt q) (dgt 1))) := hc 7 10 rfl rfl
    have hk := Lib.hid hK
    clear hK hu hc
    have hcc := hcq
    go_simp
    exact hk.out undef
  · intro a1 w1 hb1 hu1 hsz1 hdf1 hv1
    have ha0 := hha0.out
    subst ha0
    have he := act_patch (n := 11) [false, false, false, true, true, true, true, true, true, true, true] rfl (by kernel_rfl) hu1 hsz1 hdf1
    simp only [patch, cond_true, cond_false, Nat.reduceAdd] at he
    have hXz := (At.put (k := .i64) (f := (cat3 (dgt p) (dgt q) (dgt 1))) hR.out).below hb1 (by simpa using hR.out.lt)
    have hLz := Lib.hid (Below.trans (below_setRow (c := arrK .i64 48 (cat3 (dgt p) (dgt q) (dgt 1))) hL.out (by omega)) (hb1.mono (by simpa using hL.out.size)))
    clear hR hL hA hF1 hF2 h1
    clear hb1 hu1 hsz1 hdf1 hv1 hz0 hha0 e1 e2
    rw [he]
    clear he
    generalize a1.tmps[3]?.getD undef = x3 at *
    generalize a1.tmps[4]?.getD undef = x4 at *
    generalize a1.tmps[5]?.getD undef = x5 at *
    generalize a1.tmps[6]?.getD undef = x6 at *
    generalize a1.tmps[7]?.getD undef = x7 at *
    generalize a1.tmps[8]?.getD undef = x8 at *
    generalize a1.tmps[9]?.getD undef = x9 at *
    generalize a1.tmps[10]?.getD undef = x10 at *
    go_wp2_with fail
    refine ret_row (p := 2) (ty := 48) (g := (w.heap.size + 1)) rfl Try.underlying48 rfl (by kernel_rfl) rfl hXz.row rfl ?_
    rw [hXz.eq]
    exact ⟨rfl, hLz.out⟩
theorem build_rX (w : World) : (Instr.build 26 #[(0, Value.int IntKind.i64 54554), (1, Value.int IntKind.i64 36645), (2, Value.int IntKind.i64 11616), (3, Value.int IntKind.i64 51542), (4, Value.int IntKind.i64 42930), (5, Value.int IntKind.i64 38181), (6, Value.int IntKind.i64 51040), (7, Value.int IntKind.i64 26924), (8, Value.int IntKind.i64 56412), (9, Value.int IntKind.i64 64982), (10, Value.int IntKind.i64 57905), (11, Value.int IntKind.i64 49316), (12, Value.int IntKind.i64 21502), (13, Value.int IntKind.i64 52590), (14, Value.int IntKind.i64 14035), (15, Value.int IntKind.i64 8553)]).run Try.prog w = .ok (.agg (arrK .i64 16 (dgt bX))) w := run_build w _ _ _ (by kernel_rfl)
theorem build_rY (w : World) : (Instr.build 26 #[(0, Value.int IntKind.i64 26200), (1, Value.int IntKind.i64 26214), (2, Value.int IntKind.i64 26214), (3, Value.int IntKind.i64 26214), (4, Value.int IntKind.i64 26214), (5, Value.int IntKind.i64 26214), (6, Value.int IntKind.i64 26214), (7, Value.int IntKind.i64 26214), (8, Value.int IntKind.i64 26214), (9, Value.int IntKind.i64 26214), (10, Value.int IntKind.i64 26214), (11, Value.int IntKind.i64 26214), (12, Value.int IntKind.i64 26214), (13, Value.int IntKind.i64 26214), (14, Value.int IntKind.i64 26214), (15, Value.int IntKind.i64 26214)]).run Try.prog w = .ok (.agg (arrK .i64 16 (dgt bY))) w := run_build w _ _ _ (by kernel_rfl)
theorem ref_PtBase (w : World) : Calls Try.prog 39 #[] w fun e w' => e = .returned (rpV bX bY 1) ∧ Below w.heap.size w w' := by
  unfold rpV
  have hb1 := Lib.hid (fun V => build_rX V)
  have hb2 := Lib.hid (fun V => build_rY V)
  have h1 := Lib.hid (fun V => ref_small 1 V (by omega))
  unfold feV at h1
  rw [show ((1 : Nat) : Int) = 1 from rfl] at h1
  obtain ⟨F, hF⟩ : ∃ X, dgt bX = X := ⟨_, rfl⟩
  obtain ⟨G, hG⟩ : ∃ X, dgt bY = X := ⟨_, rfl⟩
  rw [hF] at hb1 ⊢
  rw [hG] at hb2 ⊢
  clear hF hG
  have hcz := arrK_cells .i64 48 (cat3 (fun _ => 0) (fun _ => 0) (fun _ => 0))
  have hcp := arrK_cells .i64 48 (cat3 F G (dgt 1))
  have hL := Lib.hid (below_alloc w (Obj.cells (arrK .i64 48 (cat3 (fun _ => 0) (fun _ => 0) (fun _ => 0))) 48))
  have hR := Lib.hid (show Row (w.alloc (Obj.cells (arrK .i64 48 (cat3 (fun _ => 0) (fun _ => 0) (fun _ => 0))) 48)) w.heap.size 48 from (row_new rfl).2 hcz.1)
  go_enter Try.func39, Try.ntmps39
  go_upto_region 1 with (fail)
  generalize w.alloc _ = W0 at *
  go_wp2_with (first | (refine wpList_bldN (vs := #[(0, Value.int IntKind.i64 54554), (1, Value.int IntKind.i64 36645), (2, Value.int IntKind.i64 11616), (3, Value.int IntKind.i64 51542), (4, Value.int IntKind.i64 42930), (5, Value.int IntKind.i64 38181), (6, Value.int IntKind.i64 51040), (7, Value.int IntKind.i64 26924), (8, Value.int IntKind.i64 56412), (9, Value.int IntKind.i64 64982), (10, Value.int IntKind.i64 57905), (11, Value.int IntKind.i64 49316), (12, Value.int IntKind.i64 21502), (13, Value.int IntKind.i64 52590), (14, Value.int IntKind.i64 14035), (15, Value.int IntKind.i64 8553)]) rfl rfl ?_ (hb1.out _) ?_; focus (simp [Act.eval]; done)) | (refine wpList_bldN (vs := #[(0, Value.int IntKind.i64 26200), (1, Value.int IntKind.i64 26214), (2, Value.int IntKind.i64 26214), (3, Value.int IntKind.i64 26214), (4, Value.int IntKind.i64 26214), (5, Value.int IntKind.i64 26214), (6, Value.int IntKind.i64 26214), (7, Value.int IntKind.i64 26214), (8, Value.int IntKind.i64 26214), (9, Value.int IntKind.i64 26214), (10, Value.int IntKind.i64 26214), (11, Value.int IntKind.i64 26214), (12, Value.int IntKind.i64 26214), (13, Value.int IntKind.i64 26214), (14, Value.int IntKind.i64 26214), (15, Value.int IntKind.i64 26214)]) rfl rfl ?_ (hb2.out _) ?_; focus (simp [Act.eval]; done)))
  refine (h1.out _).mono ?_
  rintro e w2 ⟨rfl, hb⟩
  have hR2 := row_below hR.out hb hR.out.lt
  have hL2 := Lib.hid (below_step hb hL.out (Nat.le_refl _))
  clear hb hR hL
  dsimp only
  go_wp2_with (refine wpList_bldC (v0 := .agg (arrK .i64 16 F)) (v1 := .agg (arrK .i64 16 G)) (v2 := .agg (arrK .i64 16 (dgt 1))) rfl rfl (by go_simp) (by go_simp) (by go_simp) (build_rp _ _ _ _) ?_)
  exact ret_stored (p := 0) (ty := 48) (g := w.heap.size) (n := 48) (c := arrK .i64 48 (cat3 F G (dgt 1))) rfl Try.underlying48 rfl (by kernel_rfl) rfl hR2 hcp.1 rfl ⟨rfl, below_setRow hL2.out (Nat.le_refl _)⟩
theorem rp_Point (x y z : Nat) (w : World) (hx : x < 2 ^ 256) (hy : y < 2 ^ 256) (hz : z < 2 ^ 256) : Calls Try.prog 33 #[rpV x y z] w fun e w' => e = .returned (ptV (x * invP z % fP) (y * invP z % fP)) ∧ Below w.heap.size w w' := by
  have hi : invP z < 2 ^ 256 := Nat.lt_trans lt_P P_lt
  have hI := Lib.hid (fun V => fe_Over z V hz)
  obtain ⟨i, hi'⟩ : ∃ i, invP z = i := ⟨_, rfl⟩
  rw [hi'] at hI hi ⊢
  have hM1 := Lib.hid (fun V => fe_By x i V hx hi)
  have hM2 := Lib.hid (fun V => fe_By y i V hy hi)
  have hN1 := Lib.hid (fun V => fe_Num (x * i % fP) V low_lt)
  have hN2 := Lib.hid (fun V => fe_Num (y * i % fP) V low_lt)
  obtain ⟨a, ha⟩ : ∃ m, x * i % fP = m := ⟨_, rfl⟩
  obtain ⟨b, hb⟩ : ∃ m, y * i % fP = m := ⟨_, rfl⟩
  rw [ha] at hM1 hN1 ⊢
  rw [hb] at hM2 hN2 ⊢
  clear ha hb hx hy hz hi' hi
  unfold feV at hM1 hM2 hI hN1 hN2
  unfold numV at hN1 hN2
  unfold ptV rpV
  have hcq := arrK_cells .u64 8 (cat2 (wd a) (wd b))
  have hci := arrK_cells .i64 16 (dgt i)
  have hc0 := arrK_cells .i64 16 fun _ => 0
  have hcz := arrK_cells .u64 8 (cat2 (wd 0) (wd 0))
  have hL0 : Below w.heap.size w ((w.alloc (Obj.cells (arrK .i64 48 (cat3 (dgt x) (dgt y) (dgt z))) 48)).alloc (Obj.cells (arrK .u64 8 (cat2 (wd 0) (wd 0))) 42)) := by go_grown
  have hA0 : At ((w.alloc (Obj.cells (arrK .i64 48 (cat3 (dgt x) (dgt y) (dgt z))) 48)).alloc (Obj.cells (arrK .u64 8 (cat2 (wd 0) (wd 0))) 42)) w.heap.size .i64 48 (cat3 (dgt x) (dgt y) (dgt z)) := (At.new _ rfl).old _
  have hR0 : Row ((w.alloc (Obj.cells (arrK .i64 48 (cat3 (dgt x) (dgt y) (dgt z))) 48)).alloc (Obj.cells (arrK .u64 8 (cat2 (wd 0) (wd 0))) 42)) (w.heap.size + 1) 8 := (At.new (k := .u64) (f := cat2 (wd 0) (wd 0)) _ (by simp)).row
  have hL := Lib.hid hL0
  have hR := Lib.hid hR0
  have hA := Lib.hid hA0
  clear hL0 hR0 hA0
  go_enter Try.func33, Try.ntmps33
  go_upto_region 1 with (fail)
  generalize (w.alloc _).alloc _ = W0 at *
  have hl1 := (rp_2 hA.out).1
  have hl2 := (rp_2 hA.out).2
  go_upto_region 2 with (fail)
  refine (hI.out _).mono ?_
  rintro e w2 ⟨rfl, hb2⟩
  have hA2 := hA.out.step hb2
  have hR2 := row_below hR.out hb2 hR.out.lt
  have hL2 := below_step hb2 hL.out (Nat.le_refl _)
  have hlt : w.heap.size + 1 < w2.heap.size := hR2.lt
  clear hl1 hl2 hA hR hL hb2 hI
  have hA := Lib.hid (hA2.old (Obj.cells (arrK .i64 16 (dgt i)) 26))
  have hR := Lib.hid ((row_old (o := Obj.cells (arrK .i64 16 (dgt i)) 26) hR2.lt).2 hR2)
  have hL := Lib.hid (Below.trans hL2 ((below_alloc w2 (Obj.cells (arrK .i64 16 (dgt i)) 26)).mono hL2.size))
  have hX := Lib.hid (At.new (w := w2) (k := .i64) (m := 16) (f := dgt i) 26 rfl)
  clear hA2 hR2 hL2
  dsimp only
  go_upto_region 2 with (fail)
  obtain ⟨g, hg⟩ : ∃ g, w2.heap.size = g := ⟨_, rfl⟩
  rw [hg] at hX hlt ⊢
  clear hg
  generalize w2.alloc _ = W1 at *
  generalize ha0 : Act.mk _ _ = a0
  have e1 : a0.tmps[1]?.getD undef = .pointer (some ⟨w.heap.size, 0, none⟩) := by rw [← ha0]; rfl
  have e2 : a0.tmps[2]?.getD undef = .pointer (some ⟨w.heap.size + 1, 0, none⟩) := by rw [← ha0]; rfl
  have e3 : a0.tmps[3]?.getD undef = .pointer (some ⟨g, 0, none⟩) := by rw [← ha0]; rfl
  have hz0 : a0.tmps.size = 18 := by rw [← ha0]; rfl
  have hha0 := Lib.hid ha0
  clear ha0
  refine wp_region_one (fun jx_ => match jx_ with | 0 => some (.pointer (some ⟨w.heap.size, 0, none⟩)) | 1 => some (.agg (arrK .i64 16 (dgt x))) | 2 => some (.agg (arrK .i64 16 (dgt i))) | 3 => some (.agg (arrK .i64 16 (dgt a))) | 4 => some (.agg (arrK .u64 4 (wd a))) | 5 => some (.pointer (some ⟨w.heap.size, 16, none⟩)) | 6 => some (.agg (arrK .i64 16 (dgt y))) | 7 => some (.agg (arrK .i64 16 (dgt i))) | 8 => some (.agg (arrK .i64 16 (dgt b))) | 9 => some (.agg (arrK .u64 4 (wd b))) | 10 => some (.agg (arrK .u64 8 (cat2 (wd a) (wd b)))) | _ => none) 11 ((w.heap.size + 1)) 8 (arrK .u64 8 (cat2 (wd a) (wd b))) (by kernel_rfl) (by kernel_rfl) (by kernel_rfl) (slotsOk_of hz0 (by kernel_rfl)) (of_decide_eq_true (by kernel_rfl)) hR.out ⟨?_, ?_, ?_, ?_, ?_, ?_, ?_, ?_, ?_, ?_, ?_, ?_, trivial⟩ ?_
  · refine one_before (by decide) (by kernel_rfl) (calm_step rfl fun aa ω κ hb hu hc hK => ?_)
    have h1 : aa.tmps[1]?.getD undef = .pointer (some ⟨w.heap.size, 0, none⟩) := (hu 1 rfl).trans e1
    have hk := Lib.hid (fun w1 (h : Below ω.heap.size ω w1) => hK (.pointer (some ⟨w.heap.size, 0, none⟩)) w1 rfl h)
    clear hK hu hc
    go_simp
    exact hk.out _ (Below.refl _ _)
  · refine one_before (by decide) (by kernel_rfl) (calm_step rfl fun aa ω κ hb hu hc hK => ?_)
    have h7 : aa.tmps[7]?.getD undef = .pointer (some ⟨w.heap.size, 0, none⟩) := hc 0 7 rfl rfl
    have hk := Lib.hid (fun w1 (h : Below ω.heap.size ω w1) => hK (.agg (arrK .i64 16 (dgt x))) w1 rfl h)
    clear hK hu hc
    have hl := rp_0 (hA.out.step hb)
    have hl1 := hl.1
    have hl2 := hl.2
    go_simp
    exact hk.out _ (Below.refl _ _)
  · refine one_before (by decide) (by kernel_rfl) (calm_step rfl fun aa ω κ hb hu hc hK => ?_)
    have h3 : aa.tmps[3]?.getD undef = .pointer (some ⟨g, 0, none⟩) := (hu 3 rfl).trans e3
    have hk := Lib.hid (fun w1 (h : Below ω.heap.size ω w1) => hK (.agg (arrK .i64 16 (dgt i))) w1 rfl h)
    clear hK hu hc
    have hr1 := (hX.out.step hb).row
    have hr2 := (hX.out.step hb).eq
    go_simp
    exact hk.out _ (Below.refl _ _)
  · refine one_before (by decide) (by kernel_rfl) (calm_step rfl fun aa ω κ hb hu hc hK => ?_)
    have h8 : aa.tmps[8]?.getD undef = .agg (arrK .i64 16 (dgt x)) := hc 1 8 rfl rfl
    have h9 : aa.tmps[9]?.getD undef = .agg (arrK .i64 16 (dgt i)) := hc 2 9 rfl rfl
    have hk := Lib.hid (fun w1 (h : Below ω.heap.size ω w1) => hK (.agg (arrK .i64 16 (dgt a))) w1 rfl h)
    clear hK hu hc
    go_simp
    go_at_call 25
    refine (hM1.out _).mono ?_
    rintro e w1 ⟨rfl, hb1⟩
    exact hk.out _ hb1
  · refine one_before (by decide) (by kernel_rfl) (calm_step rfl fun aa ω κ hb hu hc hK => ?_)
    have h10 : aa.tmps[10]?.getD undef = .agg (arrK .i64 16 (dgt a)) := hc 3 10 rfl rfl
    have hk := Lib.hid (fun w1 (h : Below ω.heap.size ω w1) => hK (.agg (arrK .u64 4 (wd a))) w1 rfl h)
    clear hK hu hc
    go_simp
    go_at_call 19
    refine (hN1.out _).mono ?_
    rintro e w1 ⟨rfl, hb1⟩
    exact hk.out _ hb1
  · refine one_before (by decide) (by kernel_rfl) (calm_step rfl fun aa ω κ hb hu hc hK => ?_)
    have h1 : aa.tmps[1]?.getD undef = .pointer (some ⟨w.heap.size, 0, none⟩) := (hu 1 rfl).trans e1
    have hk := Lib.hid (fun w1 (h : Below ω.heap.size ω w1) => hK (.pointer (some ⟨w.heap.size, 16, none⟩)) w1 rfl h)
    clear hK hu hc
    go_simp
    exact hk.out _ (Below.refl _ _)
  · refine one_before (by decide) (by kernel_rfl) (calm_step rfl fun aa ω κ hb hu hc hK => ?_)
    have h12 : aa.tmps[12]?.getD undef = .pointer (some ⟨w.heap.size, 16, none⟩) := hc 5 12 rfl rfl
    have hk := Lib.hid (fun w1 (h : Below ω.heap.size ω w1) => hK (.agg (arrK .i64 16 (dgt y))) w1 rfl h)
    clear hK hu hc
    have hl := rp_1 (hA.out.step hb)
    have hl1 := hl.1
    have hl2 := hl.2
    go_simp
    exact hk.out _ (Below.refl _ _)
  · refine one_before (by decide) (by kernel_rfl) (calm_step rfl fun aa ω κ hb hu hc hK => ?_)
    have h3 : aa.tmps[3]?.getD undef = .pointer (some ⟨g, 0, none⟩) := (hu 3 rfl).trans e3
    have hk := Lib.hid (fun w1 (h : Below ω.heap.size ω w1) => hK (.agg (arrK .i64 16 (dgt i))) w1 rfl h)
    clear hK hu hc
    have hr1 := (hX.out.step hb).row
    have hr2 := (hX.out.step hb).eq
    go_simp
    exact hk.out _ (Below.refl _ _)
  · refine one_before (by decide) (by kernel_rfl) (calm_step rfl fun aa ω κ hb hu hc hK => ?_)
    have h13 : aa.tmps[13]?.getD undef = .agg (arrK .i64 16 (dgt y)) := hc 6 13 rfl rfl
    have h14 : aa.tmps[14]?.getD undef = .agg (arrK .i64 16 (dgt i)) := hc 7 14 rfl rfl
    have hk := Lib.hid (fun w1 (h : Below ω.heap.size ω w1) => hK (.agg (arrK .i64 16 (dgt b))) w1 rfl h)
    clear hK hu hc
    go_simp
    go_at_call 25
    refine (hM2.out _).mono ?_
    rintro e w1 ⟨rfl, hb1⟩
    exact hk.out _ hb1
  · refine one_before (by decide) (by kernel_rfl) (calm_step rfl fun aa ω κ hb hu hc hK => ?_)
    have h15 : aa.tmps[15]?.getD undef = .agg (arrK .i64 16 (dgt b)) := hc 8 15 rfl rfl
    have hk := Lib.hid (fun w1 (h : Below ω.heap.size ω w1) => hK (.agg (arrK .u64 4 (wd b))) w1 rfl h)
    clear hK hu hc
    go_simp
    go_at_call 19
    refine (hN2.out _).mono ?_
    rintro e w1 ⟨rfl, hb1⟩
    exact hk.out _ hb1
  · refine one_before (by decide) (by kernel_rfl) (calm_step rfl fun aa ω κ hb hu hc hK => ?_)
    have h11 : aa.tmps[11]?.getD undef = .agg (arrK .u64 4 (wd a)) := hc 4 11 rfl rfl
    have h16 : aa.tmps[16]?.getD undef = .agg (arrK .u64 4 (wd b)) := hc 9 16 rfl rfl
    have hk := Lib.hid (fun w1 (h : Below ω.heap.size ω w1) => hK (.agg (arrK .u64 8 (cat2 (wd a) (wd b)))) w1 rfl h)
    clear hK hu hc
    exact wp_bldB (v0 := .agg (arrK .u64 4 (wd a))) (v1 := .agg (arrK .u64 4 (wd b))) rfl (by go_simp) (by go_simp) (build_pt _ _ _) (hk.out _ (Below.refl _ _))
  · refine one_q (one_write rfl rfl fun aa ω κ hb hu hc hr hK => ?_)
    have h2 : aa.tmps[2]?.getD undef = .pointer (some ⟨w.heap.size + 1, 0, none⟩) := (hu 2 rfl).trans e2
    have h17 : aa.tmps[17]?.getD undef = .agg (arrK .u64 8 (cat2 (wd a) (wd b))) := hc 10 17 rfl rfl
    have hk := Lib.hid hK
    clear hK hu hc
    have hcc := hcq
    go_simp
    exact hk.out undef
  · intro a1 w1 hb1 hu1 hsz1 hdf1 hv1
    have ha0 := hha0.out
    subst ha0
    have he := act_patch (n := 18) [false, false, false, false, false, false, false, true, true, true, true, true, true, true, true, true, true, true] rfl (by kernel_rfl) hu1 hsz1 hdf1
    simp only [patch, cond_true, cond_false, Nat.reduceAdd] at he
    have hXz := (At.put (k := .u64) (f := (cat2 (wd a) (wd b))) hR.out).below hb1 (by simpa using hR.out.lt)
    have hLz := Lib.hid (Below.trans (below_setRow (c := arrK .u64 8 (cat2 (wd a) (wd b))) hL.out (by omega)) (hb1.mono (by simpa using hL.out.size)))
    clear hR hL hA hM1 hM2 hN1 hN2 hX
    clear hb1 hu1 hsz1 hdf1 hv1 hz0 hha0 e1 e2 e3
    rw [he]
    clear he
    generalize a1.tmps[7]?.getD undef = x7 at *
    generalize a1.tmps[8]?.getD undef = x8 at *
    generalize a1.tmps[9]?.getD undef = x9 at *
    generalize a1.tmps[10]?.getD undef = x10 at *
    generalize a1.tmps[11]?.getD undef = x11 at *
    generalize a1.tmps[12]?.getD undef = x12 at *
    generalize a1.tmps[13]?.getD undef = x13 at *
    generalize a1.tmps[14]?.getD undef = x14 at *
    generalize a1.tmps[15]?.getD undef = x15 at *
    generalize a1.tmps[16]?.getD undef = x16 at *
    generalize a1.tmps[17]?.getD undef = x17 at *
    go_wp2_with fail
    refine ret_row (p := 2) (ty := 42) (g := (w.heap.size + 1)) rfl Try.underlying42 rfl (by kernel_rfl) rfl hXz.row rfl ?_
    rw [hXz.eq]
    exact ⟨rfl, hLz.out⟩
end Go.Proofs.Ytodcjeaannfbnaa
namespace Go.Proofs.Ytodcjeaannfbnaa
/-- Congruence modulo 2^255 - 19. -/
def Cg (a b : Int) : Prop := ∃ k, a = b + (fP : Int) * k
section
variable {a b c d : Int} {m n : Nat}
theorem Cg.refl (a : Int) : Cg a a := ⟨0, by rw [Int.mul_zero, Int.add_zero]⟩
theorem Cg.symm (h : Cg a b) : Cg b a := by obtain ⟨k, hk⟩ := h; exact ⟨-k, by grind⟩
theorem Cg.trans (h : Cg a b) (h2 : Cg b c) : Cg a c := by obtain ⟨k, hk⟩ := h; obtain ⟨l, hl⟩ := h2; exact ⟨k + l, by grind⟩
theorem Cg.add (h : Cg a b) (h2 : Cg c d) : Cg (a + c) (b + d) := by obtain ⟨k, hk⟩ := h; obtain ⟨l, hl⟩ := h2; exact ⟨k + l, by grind⟩
theorem Cg.sub (h : Cg a b) (h2 : Cg c d) : Cg (a - c) (b - d) := by obtain ⟨k, hk⟩ := h; obtain ⟨l, hl⟩ := h2; exact ⟨k - l, by grind⟩
theorem Cg.mul (h : Cg a b) (h2 : Cg c d) : Cg (a * c) (b * d) := by obtain ⟨k, hk⟩ := h; obtain ⟨l, hl⟩ := h2; exact ⟨b * l + k * d + (fP : Int) * k * l, by grind⟩
theorem Cg.mod (n : Nat) : Cg ((n % fP : Nat) : Int) n := by
  have h := Nat.mod_add_div n fP
  refine ⟨-((n / fP : Nat) : Int), ?_⟩
  have h2 : ((n % fP : Nat) : Int) + (fP : Int) * ((n / fP : Nat) : Int) = (n : Int) := by rw [← Int.natCast_mul, ← Int.natCast_add, h]
  grind
theorem Cg.mulM (h : Cg m a) (h2 : Cg n b) : Cg ((m * n % fP : Nat) : Int) (a * b) := (Cg.mod _).trans (by rw [Int.natCast_mul]; exact h.mul h2)
theorem Cg.addM (h : Cg m a) (h2 : Cg n b) : Cg (((m + n) % fP : Nat) : Int) (a + b) := (Cg.mod _).trans (by rw [Int.natCast_add]; exact h.add h2)
theorem Cg.difM (h : Cg m a) (h2 : Cg n b) : Cg ((difP m n : Nat) : Int) (a - b) := by
  unfold difP
  refine (Cg.mod _).trans ?_
  have h3 := lt_P (a := n)
  rw [Int.natCast_add, Int.natCast_sub (Nat.le_of_lt h3)]
  have h4 := ((Cg.mod m).trans h).sub ((Cg.mod n).trans h2)
  obtain ⟨k, hk⟩ := h4
  exact ⟨k + 1, by grind⟩
/-- The document's difference. -/
def lessM (a b : Nat) : Nat := (a + 4 * fP - b) % fP
theorem Cg.lessM (h : Cg m a) (h2 : Cg n b) (hn : n < fP) : Cg ((lessM m n : Nat) : Int) (a - b) := by
  unfold Proofs.Ytodcjeaannfbnaa.lessM
  refine (Cg.mod _).trans ?_
  rw [Int.natCast_sub (by omega), Int.natCast_add, Int.natCast_mul]
  obtain ⟨k, hk⟩ := h.sub h2
  exact ⟨k + 4, by grind⟩
theorem Cg.eq (h : Cg m n) (hm : m < fP) (hn : n < fP) : m = n := by
  obtain ⟨k, hk⟩ := h
  generalize fP = P at *
  have h1 : k < 1 := by
    rcases Int.lt_or_le k 1 with h | h
    · exact h
    · have := Int.mul_le_mul_of_nonneg_left h (show (0 : Int) ≤ (P : Int) by omega)
      omega
  have h2 : -1 < k := by
    rcases Int.lt_or_le (-1) k with h | h
    · exact h
    · have := Int.mul_le_mul_of_nonneg_left h (show (0 : Int) ≤ (P : Int) by omega)
      omega
  have h3 : k = 0 := by omega
  subst h3
  omega
theorem Cg.of_eq (h : m % fP = n % fP) : Cg m n := (Cg.mod m).symm.trans (h ▸ Cg.mod n)
end

/-! Powers, by squaring. -/
def pwf (a : Nat) : Nat → Nat → Nat
  | 0, _ => 1
  | f + 1, n => if n % 2 = 0 then (pwf a f (n / 2)) ^ 2 % fP else ((pwf a f (n / 2)) ^ 2 % fP) * a % fP
theorem pwf_is (a : Nat) : ∀ f n, n < 2 ^ f → pwf a f n % fP = a ^ n % fP
  | 0, n, h => by
    have : n = 0 := by rw [Nat.pow_zero] at h; omega
    subst this; rfl
  | f + 1, n, h => by
    have ih := pwf_is a f (n / 2) (by rw [Nat.pow_succ] at h; omega)
    unfold pwf
    split
    · rename_i h0
      rw [Nat.mod_mod, Nat.pow_mod, ih, ← Nat.pow_mod, ← Nat.pow_mul, show n / 2 * 2 = n by omega]
    · rename_i h0
      rw [Nat.mod_mod, Nat.mod_mul_mod, Nat.mul_mod, Nat.pow_mod, ih, ← Nat.pow_mod, ← Nat.mul_mod, ← Nat.pow_mul, ← Nat.pow_succ, show (n / 2 * 2).succ = n by omega]
theorem four_pow : 4 ^ (fP - 1) % fP = 1 := by
  have h : fP - 1 < 2 ^ 256 := Nat.lt_of_le_of_lt (Nat.sub_le _ _) P_lt
  rw [← pwf_is 4 256 _ h]
  decide +kernel
/-- Four times as much above and below is the same. -/
theorem over_four {X X4 Z Z4 : Nat} (hX : Cg X4 (4 * (X : Int))) (hZ : Cg Z4 (4 * (Z : Int))) : X4 * invP Z4 % fP = X * invP Z % fP := by
  refine Cg.eq ?_ lt_P lt_P
  refine (Cg.mod _).trans (Cg.trans ?_ (Cg.mod _).symm)
  have hi : ∀ n m : Nat, Cg m n → ∀ k : Nat, Cg ((m ^ k : Nat) : Int) ((n ^ k : Nat) : Int) := fun n m h k => by
    induction k with
    | zero => exact Cg.refl _
    | succ k ih => rw [Nat.pow_succ, Nat.pow_succ, Int.natCast_mul, Int.natCast_mul]; exact ih.mul h
  have hZ' : Cg Z4 ((4 * Z : Nat) : Int) := by rw [Int.natCast_mul]; exact hZ
  have h1 : Cg (invP Z4) (((4 ^ (fP - 2) : Nat) : Int) * (invP Z : Int)) := by
    unfold invP
    refine (Cg.mod _).trans ((hi _ _ hZ' (fP - 2)).trans ?_)
    rw [Nat.mul_pow, Int.natCast_mul]
    exact (Cg.refl _).mul (Cg.mod _).symm
  have h2 : Cg (4 * ((4 ^ (fP - 2) : Nat) : Int)) 1 := by
    have h3 : 4 * 4 ^ (fP - 2) = 4 ^ (fP - 1) := by
      rw [Nat.mul_comm, ← Nat.pow_succ]
      congr 1
    rw [show (4 : Int) * ((4 ^ (fP - 2) : Nat) : Int) = ((4 * 4 ^ (fP - 2) : Nat) : Int) by rw [Int.natCast_mul]; rfl, h3]
    refine (Cg.mod _).symm.trans ?_
    rw [four_pow]
    exact Cg.refl _
  rw [Int.natCast_mul, Int.natCast_mul]
  refine (hX.mul h1).trans ?_
  generalize ((4 ^ (fP - 2) : Nat) : Int) = q at *
  have h4 := h2.mul (Cg.refl ((X : Int) * (invP Z : Int)))
  rw [Int.one_mul] at h4
  refine Cg.trans ?_ h4
  rw [show 4 * (X : Int) * (q * (invP Z : Int)) = 4 * q * ((X : Int) * (invP Z : Int)) by grind]
  exact Cg.refl _

/-! The document's side. -/
/-- Is it a point of the curve? -/
def onR (x y : Nat) : Bool := decide (x % fP = x) && decide (y % fP = y) && decide ((y % fP) * (y % fP) % fP = ((1 + (x % fP) * (x % fP) % fP) % fP + (dN * ((x % fP) * (x % fP) % fP) % fP) * ((y % fP) * (y % fP) % fP) % fP) % fP)
theorem on_same (x y : Nat) : onR x y = onB x y := by
  unfold onR onB
  by_cases hx : x % fP = x
  · by_cases hy : y % fP = y
    · rw [hx, hy]
      simp only [decide_true, Bool.true_and]
      refine decide_eq_decide.2 ?_
      have e1 := Cg.mulM (Cg.refl x) (Cg.refl x)
      have e2 := Cg.mulM (Cg.refl y) (Cg.refl y)
      have l1 : x * x % fP < fP := lt_P
      have l2 : y * y % fP < fP := lt_P
      generalize x * x % fP = xx at *
      generalize y * y % fP = yy at *
      generalize dN = dd at *
      have p1 := Cg.difM (Cg.refl yy) (Cg.refl xx)
      have p2 := Cg.addM (m := 1) (Cg.refl 1) (Cg.mulM (Cg.refl dd) (Cg.mulM (Cg.refl xx) (Cg.refl yy)))
      have p3 := Cg.addM (Cg.addM (m := 1) (Cg.refl 1) (Cg.refl xx)) (Cg.mulM (Cg.mulM (Cg.refl dd) (Cg.refl xx)) (Cg.refl yy))
      constructor
      · intro h
        refine Cg.eq (p1.trans (Cg.trans ?_ p2.symm)) lt_P lt_P
        rw [← h] at p3
        obtain ⟨k, hk⟩ := p3
        exact ⟨k, by grind⟩
      · intro h
        refine Cg.eq (Cg.trans ?_ p3.symm) l2 lt_P
        rw [h] at p1
        obtain ⟨k, hk⟩ := p1.symm.trans p2
        exact ⟨k, by grind⟩
    · rw [decide_eq_false hy, decide_eq_false (p := y = y % fP) (fun h => hy h.symm), Bool.and_false, Bool.false_and, Bool.and_false, Bool.false_and]
  · rw [decide_eq_false hx, decide_eq_false (p := x = x % fP) (fun h => hx h.symm), Bool.false_and, Bool.false_and, Bool.false_and, Bool.false_and]
theorem on_lt {x y : Nat} (h : onB x y = true) : x < fP ∧ y < fP := by
  unfold onB at h
  rw [Bool.and_eq_true, Bool.and_eq_true, decide_eq_true_eq, decide_eq_true_eq] at h
  exact ⟨by rw [h.1.1]; exact lt_P, by rw [h.1.2]; exact lt_P⟩
/-- What the document makes of two fractions. -/
def rplus (X1 Y1 Z1 X2 Y2 Z2 : Nat) : Nat × Nat × Nat :=
  let a := Z1 * Z2 % fP
  let c := X1 * X2 % fP
  let d := Y1 * Y2 % fP
  let b := a * a % fP
  let e := (dN * c % fP) * d % fP
  let f := lessM b e
  let g := (b + e) % fP
  let s := (X1 * Y2 % fP + Y1 * X2 % fP) % fP
  ((a * f % fP) * s % fP, (a * g % fP) * ((c + d) % fP) % fP, f * g % fP)
def rpoint (X Y Z : Nat) : Nat × Nat := (X * invP Z % fP, Y * invP Z % fP)
theorem add_same {x1 y1 x2 y2 : Nat} (hx1 : x1 < fP) (hy1 : y1 < fP) (hx2 : x2 < fP) (hy2 : y2 < fP) :
    addPt x1 y1 x2 y2 = rpoint (rplus (x1 % fP) (y1 % fP) 1 (x2 % fP) (y2 % fP) 1).1 (rplus (x1 % fP) (y1 % fP) 1 (x2 % fP) (y2 % fP) 1).2.1 (rplus (x1 % fP) (y1 % fP) 1 (x2 % fP) (y2 % fP) 1).2.2 := by
  rw [Nat.mod_eq_of_lt hx1, Nat.mod_eq_of_lt hy1, Nat.mod_eq_of_lt hx2, Nat.mod_eq_of_lt hy2]
  -- the program's
  have pa := Cg.mulM (Cg.difM (Cg.refl y1) (Cg.refl x1)) (Cg.difM (Cg.refl y2) (Cg.refl x2))
  have pb := Cg.mulM (Cg.addM (Cg.refl y1) (Cg.refl x1)) (Cg.addM (Cg.refl y2) (Cg.refl x2))
  have pc0 := Cg.mulM (Cg.mulM (Cg.mulM (Cg.refl x1) (Cg.refl y1)) (Cg.mulM (Cg.refl x2) (Cg.refl y2))) (Cg.refl dN)
  have pc := Cg.addM pc0 pc0
  have pz0 := Cg.mulM (m := 1) (n := 1) (Cg.refl 1) (Cg.refl 1)
  have pz := Cg.addM pz0 pz0
  have pe := Cg.difM pb pa
  have pf := Cg.difM pz pc
  have pg := Cg.addM pz pc
  have ph := Cg.addM pb pa
  have p1 := Cg.mulM pe pf
  have p2 := Cg.mulM pg ph
  have p3 := Cg.mulM pf pg
  -- the document's
  have ra := Cg.mulM (m := 1) (n := 1) (Cg.refl 1) (Cg.refl 1)
  have rc := Cg.mulM (Cg.refl x1) (Cg.refl x2)
  have rd := Cg.mulM (Cg.refl y1) (Cg.refl y2)
  have rb := Cg.mulM ra ra
  have re := Cg.mulM (Cg.mulM (Cg.refl dN) rc) rd
  have rf := Cg.lessM rb re lt_P
  have rg := Cg.addM rb re
  have rs := Cg.addM (Cg.mulM (Cg.refl x1) (Cg.refl y2)) (Cg.mulM (Cg.refl y1) (Cg.refl x2))
  have r1 := Cg.mulM (Cg.mulM ra rf) rs
  have r2 := Cg.mulM (Cg.mulM ra rg) (Cg.addM rc rd)
  have r3 := Cg.mulM rf rg
  unfold addPt rpoint
  refine Prod.ext ?_ ?_
  · refine over_four (p1.trans (Cg.trans ?_ ((Cg.refl 4).mul r1).symm)) (p3.trans (Cg.trans ?_ ((Cg.refl 4).mul r3).symm))
    · exact ⟨0, by grind⟩
    · exact ⟨0, by grind⟩
  · refine over_four (p2.trans (Cg.trans ?_ ((Cg.refl 4).mul r2).symm)) (p3.trans (Cg.trans ?_ ((Cg.refl 4).mul r3).symm))
    · exact ⟨0, by grind⟩
    · exact ⟨0, by grind⟩
theorem neg_same (x : Nat) : difP 0 x = lessM 0 (x % fP) := by
  refine Cg.eq ((Cg.difM (m := 0) (Cg.refl 0) (Cg.refl x)).trans (Cg.lessM (m := 0) (Cg.refl 0) (Cg.mod x) lt_P).symm) lt_P lt_P
end Go.Proofs.Ytodcjeaannfbnaa
namespace Go.Proofs.Ytodcjeaannfbnaa
open Go.ChangeShapes Go.WideShapes Go.ChangeAt Go.RowKit
set_option maxHeartbeats 2000000
set_option maxRecDepth 100000
attribute [local go_sem ↓] load_fld load_feP load_num store_num load_fe store_fe load_pt store_pt load_rp store_rp
attribute [local go_sem] isHead_mk blkOf_mk isAgg_mk cellsV_mk row_drew rowAt_drew row_new_cells row_old rowAt_new rowAt_old setRow_new zeroNum zeroPt zeroFe zeroRp
theorem less_low {a b : Nat} : lessM a b < 2 ^ 256 := low_lt
theorem rp_Plus (X1 Y1 Z1 X2 Y2 Z2 va vc vd vb ve0 ve vf vg vs1 vs2 vs vu1 r1 vu2 vcd r2 r3 : Nat) (w : World) (hX1 : X1 < 2 ^ 256) (hY1 : Y1 < 2 ^ 256) (hZ1 : Z1 < 2 ^ 256) (hX2 : X2 < 2 ^ 256) (hY2 : Y2 < 2 ^ 256) (hZ2 : Z2 < 2 ^ 256) (hva : Z1 * Z2 % fP = va) (hvc : X1 * X2 % fP = vc) (hvd : Y1 * Y2 % fP = vd) (hvb : va * va % fP = vb) (hve0 : dN * vc % fP = ve0) (hve : ve0 * vd % fP = ve) (hvf : lessM vb ve = vf) (hvg : (vb + ve) % fP = vg) (hvs1 : X1 * Y2 % fP = vs1) (hvs2 : Y1 * X2 % fP = vs2) (hvs : (vs1 + vs2) % fP = vs) (hvu1 : va * vf % fP = vu1) (hr1 : vu1 * vs % fP = r1) (hvu2 : va * vg % fP = vu2) (hvcd : (vc + vd) % fP = vcd) (hr2 : vu2 * vcd % fP = r2) (hr3 : vf * vg % fP = r3) : Calls Try.prog 40 #[rpV X1 Y1 Z1, rpV X2 Y2 Z2] w fun e w' => e = .returned (rpV r1 r2 r3) ∧ Below w.heap.size w w' := by
  have hdN := dN_lt
  have lva : va < 2 ^ 256 := hva ▸ low_lt
  have lvc : vc < 2 ^ 256 := hvc ▸ low_lt
  have lvd : vd < 2 ^ 256 := hvd ▸ low_lt
  have lvb : vb < 2 ^ 256 := hvb ▸ low_lt
  have lve0 : ve0 < 2 ^ 256 := hve0 ▸ low_lt
  have lve : ve < 2 ^ 256 := hve ▸ low_lt
  have lvf : vf < 2 ^ 256 := hvf ▸ less_low
  have lvg : vg < 2 ^ 256 := hvg ▸ low_lt
  have lvs1 : vs1 < 2 ^ 256 := hvs1 ▸ low_lt
  have lvs2 : vs2 < 2 ^ 256 := hvs2 ▸ low_lt
  have lvs : vs < 2 ^ 256 := hvs ▸ low_lt
  have lvu1 : vu1 < 2 ^ 256 := hvu1 ▸ low_lt
  have lr1 : r1 < 2 ^ 256 := hr1 ▸ low_lt
  have lvu2 : vu2 < 2 ^ 256 := hvu2 ▸ low_lt
  have lvcd : vcd < 2 ^ 256 := hvcd ▸ low_lt
  have lr2 : r2 < 2 ^ 256 := hr2 ▸ low_lt
  have lr3 : r3 < 2 ^ 256 := hr3 ▸ low_lt
  have kva := Lib.hid (fun V => fe_By Z1 Z2 V hZ1 hZ2)
  rw [hva] at kva
  have kvc := Lib.hid (fun V => fe_By X1 X2 V hX1 hX2)
  rw [hvc] at kvc
  have kvd := Lib.hid (fun V => fe_By Y1 Y2 V hY1 hY2)
  rw [hvd] at kvd
  have kvb := Lib.hid (fun V => fe_By va va V lva lva)
  rw [hvb] at kvb
  have kve0 := Lib.hid (fun V => fe_By dN vc V hdN lvc)
  rw [hve0] at kve0
  have kve := Lib.hid (fun V => fe_By ve0 vd V lve0 lvd)
  rw [hve] at kve
  have kvf := Lib.hid (fun V => fe_Less vb ve V lvb lve)
  rw [show (vb + 4 * fP - ve) % fP = vf from hvf] at kvf
  have kvg := Lib.hid (fun V => fe_Plus vb ve V lvb lve)
  rw [hvg] at kvg
  have kvs1 := Lib.hid (fun V => fe_By X1 Y2 V hX1 hY2)
  rw [hvs1] at kvs1
  have kvs2 := Lib.hid (fun V => fe_By Y1 X2 V hY1 hX2)
  rw [hvs2] at kvs2
  have kvs := Lib.hid (fun V => fe_Plus vs1 vs2 V lvs1 lvs2)
  rw [hvs] at kvs
  have kvu1 := Lib.hid (fun V => fe_By va vf V lva lvf)
  rw [hvu1] at kvu1
  have kr1 := Lib.hid (fun V => fe_By vu1 vs V lvu1 lvs)
  rw [hr1] at kr1
  have kvu2 := Lib.hid (fun V => fe_By va vg V lva lvg)
  rw [hvu2] at kvu2
  have kvcd := Lib.hid (fun V => fe_Plus vc vd V lvc lvd)
  rw [hvcd] at kvcd
  have kr2 := Lib.hid (fun V => fe_By vu2 vcd V lvu2 lvcd)
  rw [hr2] at kr2
  have kr3 := Lib.hid (fun V => fe_By vf vg V lvf lvg)
  rw [hr3] at kr3
  have kd := Lib.hid (fun V => ref_dOf V)
  obtain ⟨dn, hdn⟩ : ∃ d, dN = d := ⟨_, rfl⟩
  rw [hdn] at kd kve0
  clear hdn hdN hX1 hY1 hZ1 hX2 hY2 hZ2 hva lva hvc lvc hvd lvd hvb lvb hve0 lve0 hve lve hvf lvf hvg lvg hvs1 lvs1 hvs2 lvs2 hvs lvs hvu1 lvu1 hr1 lr1 hvu2 lvu2 hvcd lvcd hr2 lr2 hr3 lr3
  unfold feV at kd kva kvc kvd kvb kve0 kve kvf kvg kvs1 kvs2 kvs kvu1 kr1 kvu2 kvcd kr2 kr3
  unfold rpV
  have hcr := arrK_cells .i64 48 (cat3 (dgt r1) (dgt r2) (dgt r3))
  have hcz := arrK_cells .i64 48 (cat3 (fun _ => 0) (fun _ => 0) (fun _ => 0))
  have hc0 := arrK_cells .i64 16 fun _ => 0
  have hcva := arrK_cells .i64 16 (dgt va)
  have hcvc := arrK_cells .i64 16 (dgt vc)
  have hcvd := arrK_cells .i64 16 (dgt vd)
  have hcvb := arrK_cells .i64 16 (dgt vb)
  have hcve := arrK_cells .i64 16 (dgt ve)
  have hcvf := arrK_cells .i64 16 (dgt vf)
  have hcvg := arrK_cells .i64 16 (dgt vg)
  have hcvs := arrK_cells .i64 16 (dgt vs)
  have hL0 : Below w.heap.size w (((w.alloc (Obj.cells (arrK .i64 48 (cat3 (dgt X1) (dgt Y1) (dgt Z1))) 48)).alloc (Obj.cells (arrK .i64 48 (cat3 (dgt X2) (dgt Y2) (dgt Z2))) 48)).alloc (Obj.cells (arrK .i64 48 (cat3 (fun _ => 0) (fun _ => 0) (fun _ => 0))) 48)) := by go_grown
  have hA0 : At (((w.alloc (Obj.cells (arrK .i64 48 (cat3 (dgt X1) (dgt Y1) (dgt Z1))) 48)).alloc (Obj.cells (arrK .i64 48 (cat3 (dgt X2) (dgt Y2) (dgt Z2))) 48)).alloc (Obj.cells (arrK .i64 48 (cat3 (fun _ => 0) (fun _ => 0) (fun _ => 0))) 48)) w.heap.size .i64 48 (cat3 (dgt X1) (dgt Y1) (dgt Z1)) := ((At.new _ rfl).old _).old _
  have hB0 : At (((w.alloc (Obj.cells (arrK .i64 48 (cat3 (dgt X1) (dgt Y1) (dgt Z1))) 48)).alloc (Obj.cells (arrK .i64 48 (cat3 (dgt X2) (dgt Y2) (dgt Z2))) 48)).alloc (Obj.cells (arrK .i64 48 (cat3 (fun _ => 0) (fun _ => 0) (fun _ => 0))) 48)) (w.heap.size + 1) .i64 48 (cat3 (dgt X2) (dgt Y2) (dgt Z2)) := (At.new _ (by simp)).old _
  have hR0 : Row (((w.alloc (Obj.cells (arrK .i64 48 (cat3 (dgt X1) (dgt Y1) (dgt Z1))) 48)).alloc (Obj.cells (arrK .i64 48 (cat3 (dgt X2) (dgt Y2) (dgt Z2))) 48)).alloc (Obj.cells (arrK .i64 48 (cat3 (fun _ => 0) (fun _ => 0) (fun _ => 0))) 48)) (w.heap.size + 1 + 1) 48 := (At.new (k := .i64) (f := (cat3 (fun _ => 0) (fun _ => 0) (fun _ => 0))) _ (by simp)).row
  have hL := Lib.hid hL0
  have hR := Lib.hid hR0
  have hA := Lib.hid hA0
  have hB := Lib.hid hB0
  clear hL0 hR0 hA0 hB0
  go_enter Try.func40, Try.ntmps40
  go_upto_region 1 with (fail)
  generalize ((w.alloc _).alloc _).alloc _ = W0 at *
  generalize ha0 : Act.mk _ _ = a0
  have e2 : a0.tmps[2]?.getD undef = .pointer (some ⟨w.heap.size, 0, none⟩) := by rw [← ha0]; rfl
  have e3 : a0.tmps[3]?.getD undef = .pointer (some ⟨w.heap.size + 1, 0, none⟩) := by rw [← ha0]; rfl
  have hz0 : a0.tmps.size = 69 := by rw [← ha0]; rfl
  have hha0 := Lib.hid ha0
  clear ha0
  refine wp_region_fresh ⟨fun jx_ => match jx_ with | 0 => some (.pointer (some ⟨w.heap.size, 32, none⟩)) | 1 => some (.agg (arrK .i64 16 (dgt Z1))) | 2 => some (.pointer (some ⟨w.heap.size + 1, 32, none⟩)) | 3 => some (.agg (arrK .i64 16 (dgt Z2))) | 4 => some (.agg (arrK .i64 16 (dgt va))) | 5 => some (.pointer (some ⟨w.heap.size, 0, none⟩)) | 6 => some (.agg (arrK .i64 16 (dgt X1))) | 7 => some (.pointer (some ⟨w.heap.size + 1, 0, none⟩)) | 8 => some (.agg (arrK .i64 16 (dgt X2))) | 9 => some (.agg (arrK .i64 16 (dgt vc))) | 10 => some (.pointer (some ⟨w.heap.size, 16, none⟩)) | 11 => some (.agg (arrK .i64 16 (dgt Y1))) | 12 => some (.pointer (some ⟨w.heap.size + 1, 16, none⟩)) | 13 => some (.agg (arrK .i64 16 (dgt Y2))) | 14 => some (.agg (arrK .i64 16 (dgt vd))) | _ => none, fun jx_ => match jx_ with | 15 => some 16 | 16 => some 16 | 17 => some 16 | _ => none, fun jx_ => match jx_ with | 18 => some 15 | 19 => some 16 | 20 => some 17 | _ => none, fun jx_ => match jx_ with | 18 => arrK .i64 16 (dgt va) | 19 => arrK .i64 16 (dgt vc) | 20 => arrK .i64 16 (dgt vd) | _ => #[]⟩ (by kernel_rfl) (by kernel_rfl) (by kernel_rfl) (slotsOk_of hz0 (by kernel_rfl)) rfl ⟨?_, ?_, ?_, ?_, ?_, ?_, ?_, ?_, ?_, ?_, ?_, ?_, ?_, ?_, ?_, ?_, ?_, ?_, ?_, ?_, ?_, trivial⟩ ?_
  · refine fstep_val rfl rfl (calm_step rfl fun aa ω κ hb hu hc hK => ?_)
    have h2 : aa.tmps[2]?.getD undef = .pointer (some ⟨w.heap.size, 0, none⟩) := (hu 2 rfl).trans e2
    have hk := Lib.hid (fun w1 (h : Below ω.heap.size ω w1) => hK (.pointer (some ⟨w.heap.size, 32, none⟩)) w1 rfl h)
    clear hK hu hc
    go_simp
    exact hk.out _ (Below.refl _ _)
  · refine fstep_val rfl rfl (calm_step rfl fun aa ω κ hb hu hc hK => ?_)
    have h13 : aa.tmps[13]?.getD undef = .pointer (some ⟨w.heap.size, 32, none⟩) := hc 0 13 rfl rfl
    have hk := Lib.hid (fun w1 (h : Below ω.heap.size ω w1) => hK (.agg (arrK .i64 16 (dgt Z1))) w1 rfl h)
    clear hK hu hc
    have hl := rp_2 (hA.out.step hb)
    have hl1 := hl.1
    have hl2 := hl.2
    go_simp
    exact hk.out _ (Below.refl _ _)
  · refine fstep_val rfl rfl (calm_step rfl fun aa ω κ hb hu hc hK => ?_)
    have h3 : aa.tmps[3]?.getD undef = .pointer (some ⟨w.heap.size + 1, 0, none⟩) := (hu 3 rfl).trans e3
    have hk := Lib.hid (fun w1 (h : Below ω.heap.size ω w1) => hK (.pointer (some ⟨w.heap.size + 1, 32, none⟩)) w1 rfl h)
    clear hK hu hc
    go_simp
    exact hk.out _ (Below.refl _ _)
  · refine fstep_val rfl rfl (calm_step rfl fun aa ω κ hb hu hc hK => ?_)
    have h15 : aa.tmps[15]?.getD undef = .pointer (some ⟨w.heap.size + 1, 32, none⟩) := hc 2 15 rfl rfl
    have hk := Lib.hid (fun w1 (h : Below ω.heap.size ω w1) => hK (.agg (arrK .i64 16 (dgt Z2))) w1 rfl h)
    clear hK hu hc
    have hl := rp_2 (hB.out.step hb)
    have hl1 := hl.1
    have hl2 := hl.2
    go_simp
    exact hk.out _ (Below.refl _ _)
  · refine fstep_val rfl rfl (calm_step rfl fun aa ω κ hb hu hc hK => ?_)
    have h14 : aa.tmps[14]?.getD undef = .agg (arrK .i64 16 (dgt Z1)) := hc 1 14 rfl rfl
    have h16 : aa.tmps[16]?.getD undef = .agg (arrK .i64 16 (dgt Z2)) := hc 3 16 rfl rfl
    have hk := Lib.hid (fun w1 (h : Below ω.heap.size ω w1) => hK (.agg (arrK .i64 16 (dgt va))) w1 rfl h)
    clear hK hu hc
    go_simp
    go_at_call 25
    refine (kva.out _).mono ?_
    rintro e w1 ⟨rfl, hb1⟩
    exact hk.out _ hb1
  · refine fstep_val rfl rfl (calm_step rfl fun aa ω κ hb hu hc hK => ?_)
    have h2 : aa.tmps[2]?.getD undef = .pointer (some ⟨w.heap.size, 0, none⟩) := (hu 2 rfl).trans e2
    have hk := Lib.hid (fun w1 (h : Below ω.heap.size ω w1) => hK (.pointer (some ⟨w.heap.size, 0, none⟩)) w1 rfl h)
    clear hK hu hc
    go_simp
    exact hk.out _ (Below.refl _ _)
  · refine fstep_val rfl rfl (calm_step rfl fun aa ω κ hb hu hc hK => ?_)
    have h18 : aa.tmps[18]?.getD undef = .pointer (some ⟨w.heap.size, 0, none⟩) := hc 5 18 rfl rfl
    have hk := Lib.hid (fun w1 (h : Below ω.heap.size ω w1) => hK (.agg (arrK .i64 16 (dgt X1))) w1 rfl h)
    clear hK hu hc
    have hl := rp_0 (hA.out.step hb)
    have hl1 := hl.1
    have hl2 := hl.2
    go_simp
    exact hk.out _ (Below.refl _ _)
  · refine fstep_val rfl rfl (calm_step rfl fun aa ω κ hb hu hc hK => ?_)
    have h3 : aa.tmps[3]?.getD undef = .pointer (some ⟨w.heap.size + 1, 0, none⟩) := (hu 3 rfl).trans e3
    have hk := Lib.hid (fun w1 (h : Below ω.heap.size ω w1) => hK (.pointer (some ⟨w.heap.size + 1, 0, none⟩)) w1 rfl h)
    clear hK hu hc
    go_simp
    exact hk.out _ (Below.refl _ _)
  · refine fstep_val rfl rfl (calm_step rfl fun aa ω κ hb hu hc hK => ?_)
    have h20 : aa.tmps[20]?.getD undef = .pointer (some ⟨w.heap.size + 1, 0, none⟩) := hc 7 20 rfl rfl
    have hk := Lib.hid (fun w1 (h : Below ω.heap.size ω w1) => hK (.agg (arrK .i64 16 (dgt X2))) w1 rfl h)
    clear hK hu hc
    have hl := rp_0 (hB.out.step hb)
    have hl1 := hl.1
    have hl2 := hl.2
    go_simp
    exact hk.out _ (Below.refl _ _)
  · refine fstep_val rfl rfl (calm_step rfl fun aa ω κ hb hu hc hK => ?_)
    have h19 : aa.tmps[19]?.getD undef = .agg (arrK .i64 16 (dgt X1)) := hc 6 19 rfl rfl
    have h21 : aa.tmps[21]?.getD undef = .agg (arrK .i64 16 (dgt X2)) := hc 8 21 rfl rfl
    have hk := Lib.hid (fun w1 (h : Below ω.heap.size ω w1) => hK (.agg (arrK .i64 16 (dgt vc))) w1 rfl h)
    clear hK hu hc
    go_simp
    go_at_call 25
    refine (kvc.out _).mono ?_
    rintro e w1 ⟨rfl, hb1⟩
    exact hk.out _ hb1
  · refine fstep_val rfl rfl (calm_step rfl fun aa ω κ hb hu hc hK => ?_)
    have h2 : aa.tmps[2]?.getD undef = .pointer (some ⟨w.heap.size, 0, none⟩) := (hu 2 rfl).trans e2
    have hk := Lib.hid (fun w1 (h : Below ω.heap.size ω w1) => hK (.pointer (some ⟨w.heap.size, 16, none⟩)) w1 rfl h)
    clear hK hu hc
    go_simp
    exact hk.out _ (Below.refl _ _)
  · refine fstep_val rfl rfl (calm_step rfl fun aa ω κ hb hu hc hK => ?_)
    have h23 : aa.tmps[23]?.getD undef = .pointer (some ⟨w.heap.size, 16, none⟩) := hc 10 23 rfl rfl
    have hk := Lib.hid (fun w1 (h : Below ω.heap.size ω w1) => hK (.agg (arrK .i64 16 (dgt Y1))) w1 rfl h)
    clear hK hu hc
    have hl := rp_1 (hA.out.step hb)
    have hl1 := hl.1
    have hl2 := hl.2
    go_simp
    exact hk.out _ (Below.refl _ _)
  · refine fstep_val rfl rfl (calm_step rfl fun aa ω κ hb hu hc hK => ?_)
    have h3 : aa.tmps[3]?.getD undef = .pointer (some ⟨w.heap.size + 1, 0, none⟩) := (hu 3 rfl).trans e3
    have hk := Lib.hid (fun w1 (h : Below ω.heap.size ω w1) => hK (.pointer (some ⟨w.heap.size + 1, 16, none⟩)) w1 rfl h)
    clear hK hu hc
    go_simp
    exact hk.out _ (Below.refl _ _)
  · refine fstep_val rfl rfl (calm_step rfl fun aa ω κ hb hu hc hK => ?_)
    have h25 : aa.tmps[25]?.getD undef = .pointer (some ⟨w.heap.size + 1, 16, none⟩) := hc 12 25 rfl rfl
    have hk := Lib.hid (fun w1 (h : Below ω.heap.size ω w1) => hK (.agg (arrK .i64 16 (dgt Y2))) w1 rfl h)
    clear hK hu hc
    have hl := rp_1 (hB.out.step hb)
    have hl1 := hl.1
    have hl2 := hl.2
    go_simp
    exact hk.out _ (Below.refl _ _)
  · refine fstep_val rfl rfl (calm_step rfl fun aa ω κ hb hu hc hK => ?_)
    have h24 : aa.tmps[24]?.getD undef = .agg (arrK .i64 16 (dgt Y1)) := hc 11 24 rfl rfl
    have h26 : aa.tmps[26]?.getD undef = .agg (arrK .i64 16 (dgt Y2)) := hc 13 26 rfl rfl
    have hk := Lib.hid (fun w1 (h : Below ω.heap.size ω w1) => hK (.agg (arrK .i64 16 (dgt vd))) w1 rfl h)
    clear hK hu hc
    go_simp
    go_at_call 25
    refine (kvd.out _).mono ?_
    rintro e w1 ⟨rfl, hb1⟩
    exact hk.out _ hb1
  · refine fstep_al (n := 16) rfl rfl fun aa ω κ hK => ?_
    have hk := Lib.hid hK
    clear hK
    go_simp
    exact hk.out _ _ hc0
  · refine fstep_al (n := 16) rfl rfl fun aa ω κ hK => ?_
    have hk := Lib.hid hK
    clear hK
    go_simp
    exact hk.out _ _ hc0
  · refine fstep_al (n := 16) rfl rfl fun aa ω κ hK => ?_
    have hk := Lib.hid hK
    clear hK
    go_simp
    exact hk.out _ _ hc0
  · refine fstep_st (j := 15) (n := 16) (d := 5) rfl rfl rfl rfl rfl hcva.1 rfl rfl fun aa ω κ g hb hu hc hp hr hK => ?_
    have h17 : aa.tmps[17]?.getD undef = .agg (arrK .i64 16 (dgt va)) := hc 4 17 rfl rfl
    have hk := Lib.hid hK
    clear hK hu hc
    have hcc := hcva
    go_simp
    exact hk.out undef
  · refine fstep_st (j := 16) (n := 16) (d := 6) rfl rfl rfl rfl rfl hcvc.1 rfl rfl fun aa ω κ g hb hu hc hp hr hK => ?_
    have h22 : aa.tmps[22]?.getD undef = .agg (arrK .i64 16 (dgt vc)) := hc 9 22 rfl rfl
    have hk := Lib.hid hK
    clear hK hu hc
    have hcc := hcvc
    go_simp
    exact hk.out undef
  · refine fstep_st (j := 17) (n := 16) (d := 7) rfl rfl rfl rfl rfl hcvd.1 rfl rfl fun aa ω κ g hb hu hc hp hr hK => ?_
    have h27 : aa.tmps[27]?.getD undef = .agg (arrK .i64 16 (dgt vd)) := hc 14 27 rfl rfl
    have hk := Lib.hid hK
    clear hK hu hc
    have hcc := hcvd
    go_simp
    exact hk.out undef
  · intro a1 w1 G I
    have ha0 := hha0.out
    subst ha0
    have he := act_patch (n := 69) [false, false, false, false, false, true, true, true, false, false, false, false, false, true, true, true, true, true, true, true, true, true, true, true, true, true, true, true, false, false, false, false, false, false, false, false, false, false, false, false, false, false, false, false, false, false, false, false, false, false, false, false, false, false, false, false, false, false, false, false, false, false, false, false, false, false, false, false, false] rfl (by kernel_rfl) I.un I.sz I.df
    simp only [patch, cond_true, cond_false, Nat.reduceAdd] at he
    have hal5 := I.al 15 5 16 rfl rfl rfl
    have hal6 := I.al 16 6 16 rfl rfl rfl
    have hal7 := I.al 17 7 16 rfl rfl rfl
    replace hA := Lib.hid (hA.out.step I.bel)
    replace hB := Lib.hid (hB.out.step I.bel)
    replace hR := Lib.hid (row_below hR.out I.bel hR.out.lt)
    replace hL := Lib.hid (below_step I.bel hL.out (Nat.le_refl _))
    have hX5 := Lib.hid (show At w1 (G 15) .i64 16 (dgt va) from ⟨(I.blk 15 16 rfl rfl).2, (I.row 18 15 rfl rfl).2.2⟩)
    have hX6 := Lib.hid (show At w1 (G 16) .i64 16 (dgt vc) from ⟨(I.blk 16 16 rfl rfl).2, (I.row 19 16 rfl rfl).2.2⟩)
    have hX7 := Lib.hid (show At w1 (G 17) .i64 16 (dgt vd) from ⟨(I.blk 17 16 rfl rfl).2, (I.row 20 17 rfl rfl).2.2⟩)
    clear kva kvc kvd
    clear I hz0 hha0 e2 e3
    rw [he]
    clear he
    rw [hal5]
    rw [hal6]
    rw [hal7]
    clear hal5 hal6 hal7
    generalize a1.tmps[13]?.getD undef = x13 at *
    generalize a1.tmps[14]?.getD undef = x14 at *
    generalize a1.tmps[15]?.getD undef = x15 at *
    generalize a1.tmps[16]?.getD undef = x16 at *
    generalize a1.tmps[17]?.getD undef = x17 at *
    generalize a1.tmps[18]?.getD undef = x18 at *
    generalize a1.tmps[19]?.getD undef = x19 at *
    generalize a1.tmps[20]?.getD undef = x20 at *
    generalize a1.tmps[21]?.getD undef = x21 at *
    generalize a1.tmps[22]?.getD undef = x22 at *
    generalize a1.tmps[23]?.getD undef = x23 at *
    generalize a1.tmps[24]?.getD undef = x24 at *
    generalize a1.tmps[25]?.getD undef = x25 at *
    generalize a1.tmps[26]?.getD undef = x26 at *
    generalize a1.tmps[27]?.getD undef = x27 at *
    obtain ⟨g5, hgz⟩ : ∃ g, G 15 = g := ⟨_, rfl⟩
    rw [hgz] at hX5 ⊢
    clear hgz
    obtain ⟨g6, hgz⟩ : ∃ g, G 16 = g := ⟨_, rfl⟩
    rw [hgz] at hX6 ⊢
    clear hgz
    obtain ⟨g7, hgz⟩ : ∃ g, G 17 = g := ⟨_, rfl⟩
    rw [hgz] at hX7 ⊢
    clear hgz
    generalize w1 = W1 at *
    go_upto_region 2 with (fail)
    generalize ha0 : Act.mk _ _ = a0
    have e5 : a0.tmps[5]?.getD undef = .pointer (some ⟨g5, 0, none⟩) := by rw [← ha0]; rfl
    have e6 : a0.tmps[6]?.getD undef = .pointer (some ⟨g6, 0, none⟩) := by rw [← ha0]; rfl
    have e7 : a0.tmps[7]?.getD undef = .pointer (some ⟨g7, 0, none⟩) := by rw [← ha0]; rfl
    have hz0 : a0.tmps.size = 69 := by rw [← ha0]; rfl
    have hha0 := Lib.hid ha0
    clear ha0
    refine wp_region_fresh ⟨fun jx_ => match jx_ with | 0 => some (.agg (arrK .i64 16 (dgt va))) | 1 => some (.agg (arrK .i64 16 (dgt va))) | 2 => some (.agg (arrK .i64 16 (dgt vb))) | 3 => some (.agg (arrK .i64 16 (dgt dn))) | 4 => some (.agg (arrK .i64 16 (dgt vc))) | 5 => some (.agg (arrK .i64 16 (dgt ve0))) | 6 => some (.agg (arrK .i64 16 (dgt vd))) | 7 => some (.agg (arrK .i64 16 (dgt ve))) | _ => none, fun jx_ => match jx_ with | 8 => some 16 | 9 => some 16 | _ => none, fun jx_ => match jx_ with | 10 => some 8 | 11 => some 9 | _ => none, fun jx_ => match jx_ with | 10 => arrK .i64 16 (dgt vb) | 11 => arrK .i64 16 (dgt ve) | _ => #[]⟩ (by kernel_rfl) (by kernel_rfl) (by kernel_rfl) (slotsOk_of hz0 (by kernel_rfl)) rfl ⟨?_, ?_, ?_, ?_, ?_, ?_, ?_, ?_, ?_, ?_, ?_, ?_, trivial⟩ ?_
    · refine fstep_val rfl rfl (calm_step rfl fun aa ω κ hb hu hc hK => ?_)
      have h5 : aa.tmps[5]?.getD undef = .pointer (some ⟨g5, 0, none⟩) := (hu 5 rfl).trans e5
      have hk := Lib.hid (fun w1 (h : Below ω.heap.size ω w1) => hK (.agg (arrK .i64 16 (dgt va))) w1 rfl h)
      clear hK hu hc
      have hr1 := (hX5.out.step hb).row
      have hr2 := (hX5.out.step hb).eq
      go_simp
      exact hk.out _ (Below.refl _ _)
    · refine fstep_val rfl rfl (calm_step rfl fun aa ω κ hb hu hc hK => ?_)
      have h5 : aa.tmps[5]?.getD undef = .pointer (some ⟨g5, 0, none⟩) := (hu 5 rfl).trans e5
      have hk := Lib.hid (fun w1 (h : Below ω.heap.size ω w1) => hK (.agg (arrK .i64 16 (dgt va))) w1 rfl h)
      clear hK hu hc
      have hr1 := (hX5.out.step hb).row
      have hr2 := (hX5.out.step hb).eq
      go_simp
      exact hk.out _ (Below.refl _ _)
    · refine fstep_val rfl rfl (calm_step rfl fun aa ω κ hb hu hc hK => ?_)
      have h28 : aa.tmps[28]?.getD undef = .agg (arrK .i64 16 (dgt va)) := hc 0 28 rfl rfl
      have h29 : aa.tmps[29]?.getD undef = .agg (arrK .i64 16 (dgt va)) := hc 1 29 rfl rfl
      have hk := Lib.hid (fun w1 (h : Below ω.heap.size ω w1) => hK (.agg (arrK .i64 16 (dgt vb))) w1 rfl h)
      clear hK hu hc
      go_simp
      go_at_call 25
      refine (kvb.out _).mono ?_
      rintro e w1 ⟨rfl, hb1⟩
      exact hk.out _ hb1
    · refine fstep_val rfl rfl (calm_step rfl fun aa ω κ hb hu hc hK => ?_)
      have hk := Lib.hid (fun w1 (h : Below ω.heap.size ω w1) => hK (.agg (arrK .i64 16 (dgt dn))) w1 rfl h)
      clear hK hu hc
      go_simp
      go_at_call 105
      refine (kd.out _).mono ?_
      rintro e w1 ⟨rfl, hb1⟩
      exact hk.out _ hb1
    · refine fstep_val rfl rfl (calm_step rfl fun aa ω κ hb hu hc hK => ?_)
      have h6 : aa.tmps[6]?.getD undef = .pointer (some ⟨g6, 0, none⟩) := (hu 6 rfl).trans e6
      have hk := Lib.hid (fun w1 (h : Below ω.heap.size ω w1) => hK (.agg (arrK .i64 16 (dgt vc))) w1 rfl h)
      clear hK hu hc
      have hr1 := (hX6.out.step hb).row
      have hr2 := (hX6.out.step hb).eq
      go_simp
      exact hk.out _ (Below.refl _ _)
    · refine fstep_val rfl rfl (calm_step rfl fun aa ω κ hb hu hc hK => ?_)
      have h31 : aa.tmps[31]?.getD undef = .agg (arrK .i64 16 (dgt dn)) := hc 3 31 rfl rfl
      have h32 : aa.tmps[32]?.getD undef = .agg (arrK .i64 16 (dgt vc)) := hc 4 32 rfl rfl
      have hk := Lib.hid (fun w1 (h : Below ω.heap.size ω w1) => hK (.agg (arrK .i64 16 (dgt ve0))) w1 rfl h)
      clear hK hu hc
      go_simp
      go_at_call 25
      refine (kve0.out _).mono ?_
      rintro e w1 ⟨rfl, hb1⟩
      exact hk.out _ hb1
    · refine fstep_val rfl rfl (calm_step rfl fun aa ω κ hb hu hc hK => ?_)
      have h7 : aa.tmps[7]?.getD undef = .pointer (some ⟨g7, 0, none⟩) := (hu 7 rfl).trans e7
      have hk := Lib.hid (fun w1 (h : Below ω.heap.size ω w1) => hK (.agg (arrK .i64 16 (dgt vd))) w1 rfl h)
      clear hK hu hc
      have hr1 := (hX7.out.step hb).row
      have hr2 := (hX7.out.step hb).eq
      go_simp
      exact hk.out _ (Below.refl _ _)
    · refine fstep_val rfl rfl (calm_step rfl fun aa ω κ hb hu hc hK => ?_)
      have h33 : aa.tmps[33]?.getD undef = .agg (arrK .i64 16 (dgt ve0)) := hc 5 33 rfl rfl
      have h34 : aa.tmps[34]?.getD undef = .agg (arrK .i64 16 (dgt vd)) := hc 6 34 rfl rfl
      have hk := Lib.hid (fun w1 (h : Below ω.heap.size ω w1) => hK (.agg (arrK .i64 16 (dgt ve))) w1 rfl h)
      clear hK hu hc
      go_simp
      go_at_call 25
      refine (kve.out _).mono ?_
      rintro e w1 ⟨rfl, hb1⟩
      exact hk.out _ hb1
    · refine fstep_al (n := 16) rfl rfl fun aa ω κ hK => ?_
      have hk := Lib.hid hK
      clear hK
      go_simp
      exact hk.out _ _ hc0
    · refine fstep_al (n := 16) rfl rfl fun aa ω κ hK => ?_
      have hk := Lib.hid hK
      clear hK
      go_simp
      exact hk.out _ _ hc0
    · refine fstep_st (j := 8) (n := 16) (d := 8) rfl rfl rfl rfl rfl hcvb.1 rfl rfl fun aa ω κ g hb hu hc hp hr hK => ?_
      have h30 : aa.tmps[30]?.getD undef = .agg (arrK .i64 16 (dgt vb)) := hc 2 30 rfl rfl
      have hk := Lib.hid hK
      clear hK hu hc
      have hcc := hcvb
      go_simp
      exact hk.out undef
    · refine fstep_st (j := 9) (n := 16) (d := 9) rfl rfl rfl rfl rfl hcve.1 rfl rfl fun aa ω κ g hb hu hc hp hr hK => ?_
      have h35 : aa.tmps[35]?.getD undef = .agg (arrK .i64 16 (dgt ve)) := hc 7 35 rfl rfl
      have hk := Lib.hid hK
      clear hK hu hc
      have hcc := hcve
      go_simp
      exact hk.out undef
    · intro a1 w1 G I
      have ha0 := hha0.out
      subst ha0
      have he := act_patch (n := 69) [false, false, false, false, false, false, false, false, true, true, false, false, false, false, false, false, false, false, false, false, false, false, false, false, false, false, false, false, true, true, true, true, true, true, true, true, false, false, false, false, false, false, false, false, false, false, false, false, false, false, false, false, false, false, false, false, false, false, false, false, false, false, false, false, false, false, false, false, false] rfl (by kernel_rfl) I.un I.sz I.df
      simp only [patch, cond_true, cond_false, Nat.reduceAdd] at he
      have hal8 := I.al 8 8 16 rfl rfl rfl
      have hal9 := I.al 9 9 16 rfl rfl rfl
      replace hA := Lib.hid (hA.out.step I.bel)
      replace hB := Lib.hid (hB.out.step I.bel)
      replace hR := Lib.hid (row_below hR.out I.bel hR.out.lt)
      replace hL := Lib.hid (below_step I.bel hL.out (Nat.le_refl _))
      replace hX5 := Lib.hid (hX5.out.step I.bel)
      replace hX6 := Lib.hid (hX6.out.step I.bel)
      replace hX7 := Lib.hid (hX7.out.step I.bel)
      have hX8 := Lib.hid (show At w1 (G 8) .i64 16 (dgt vb) from ⟨(I.blk 8 16 rfl rfl).2, (I.row 10 8 rfl rfl).2.2⟩)
      have hX9 := Lib.hid (show At w1 (G 9) .i64 16 (dgt ve) from ⟨(I.blk 9 16 rfl rfl).2, (I.row 11 9 rfl rfl).2.2⟩)
      clear kvb kd kve0 kve
      clear I hz0 hha0 e5 e6 e7
      rw [he]
      clear he
      rw [hal8]
      rw [hal9]
      clear hal8 hal9
      generalize a1.tmps[28]?.getD undef = x28 at *
      generalize a1.tmps[29]?.getD undef = x29 at *
      generalize a1.tmps[30]?.getD undef = x30 at *
      generalize a1.tmps[31]?.getD undef = x31 at *
      generalize a1.tmps[32]?.getD undef = x32 at *
      generalize a1.tmps[33]?.getD undef = x33 at *
      generalize a1.tmps[34]?.getD undef = x34 at *
      generalize a1.tmps[35]?.getD undef = x35 at *
      obtain ⟨g8, hgz⟩ : ∃ g, G 8 = g := ⟨_, rfl⟩
      rw [hgz] at hX8 ⊢
      clear hgz
      obtain ⟨g9, hgz⟩ : ∃ g, G 9 = g := ⟨_, rfl⟩
      rw [hgz] at hX9 ⊢
      clear hgz
      generalize w1 = W2 at *
      go_upto_region 3 with (fail)
      generalize ha0 : Act.mk _ _ = a0
      have e8 : a0.tmps[8]?.getD undef = .pointer (some ⟨g8, 0, none⟩) := by rw [← ha0]; rfl
      have e9 : a0.tmps[9]?.getD undef = .pointer (some ⟨g9, 0, none⟩) := by rw [← ha0]; rfl
      have hz0 : a0.tmps.size = 69 := by rw [← ha0]; rfl
      have hha0 := Lib.hid ha0
      clear ha0
      refine wp_region_fresh ⟨fun jx_ => match jx_ with | 0 => some (.agg (arrK .i64 16 (dgt vb))) | 1 => some (.agg (arrK .i64 16 (dgt ve))) | 2 => some (.agg (arrK .i64 16 (dgt vf))) | 3 => some (.agg (arrK .i64 16 (dgt vb))) | 4 => some (.agg (arrK .i64 16 (dgt ve))) | 5 => some (.agg (arrK .i64 16 (dgt vg))) | _ => none, fun jx_ => match jx_ with | 6 => some 16 | 7 => some 16 | _ => none, fun jx_ => match jx_ with | 8 => some 6 | 9 => some 7 | _ => none, fun jx_ => match jx_ with | 8 => arrK .i64 16 (dgt vf) | 9 => arrK .i64 16 (dgt vg) | _ => #[]⟩ (by kernel_rfl) (by kernel_rfl) (by kernel_rfl) (slotsOk_of hz0 (by kernel_rfl)) rfl ⟨?_, ?_, ?_, ?_, ?_, ?_, ?_, ?_, ?_, ?_, trivial⟩ ?_
      · refine fstep_val rfl rfl (calm_step rfl fun aa ω κ hb hu hc hK => ?_)
        have h8 : aa.tmps[8]?.getD undef = .pointer (some ⟨g8, 0, none⟩) := (hu 8 rfl).trans e8
        have hk := Lib.hid (fun w1 (h : Below ω.heap.size ω w1) => hK (.agg (arrK .i64 16 (dgt vb))) w1 rfl h)
        clear hK hu hc
        have hr1 := (hX8.out.step hb).row
        have hr2 := (hX8.out.step hb).eq
        go_simp
        exact hk.out _ (Below.refl _ _)
      · refine fstep_val rfl rfl (calm_step rfl fun aa ω κ hb hu hc hK => ?_)
        have h9 : aa.tmps[9]?.getD undef = .pointer (some ⟨g9, 0, none⟩) := (hu 9 rfl).trans e9
        have hk := Lib.hid (fun w1 (h : Below ω.heap.size ω w1) => hK (.agg (arrK .i64 16 (dgt ve))) w1 rfl h)
        clear hK hu hc
        have hr1 := (hX9.out.step hb).row
        have hr2 := (hX9.out.step hb).eq
        go_simp
        exact hk.out _ (Below.refl _ _)
      · refine fstep_val rfl rfl (calm_step rfl fun aa ω κ hb hu hc hK => ?_)
        have h36 : aa.tmps[36]?.getD undef = .agg (arrK .i64 16 (dgt vb)) := hc 0 36 rfl rfl
        have h37 : aa.tmps[37]?.getD undef = .agg (arrK .i64 16 (dgt ve)) := hc 1 37 rfl rfl
        have hk := Lib.hid (fun w1 (h : Below ω.heap.size ω w1) => hK (.agg (arrK .i64 16 (dgt vf))) w1 rfl h)
        clear hK hu hc
        go_simp
        go_at_call 23
        refine (kvf.out _).mono ?_
        rintro e w1 ⟨rfl, hb1⟩
        exact hk.out _ hb1
      · refine fstep_val rfl rfl (calm_step rfl fun aa ω κ hb hu hc hK => ?_)
        have h8 : aa.tmps[8]?.getD undef = .pointer (some ⟨g8, 0, none⟩) := (hu 8 rfl).trans e8
        have hk := Lib.hid (fun w1 (h : Below ω.heap.size ω w1) => hK (.agg (arrK .i64 16 (dgt vb))) w1 rfl h)
        clear hK hu hc
        have hr1 := (hX8.out.step hb).row
        have hr2 := (hX8.out.step hb).eq
        go_simp
        exact hk.out _ (Below.refl _ _)
      · refine fstep_val rfl rfl (calm_step rfl fun aa ω κ hb hu hc hK => ?_)
        have h9 : aa.tmps[9]?.getD undef = .pointer (some ⟨g9, 0, none⟩) := (hu 9 rfl).trans e9
        have hk := Lib.hid (fun w1 (h : Below ω.heap.size ω w1) => hK (.agg (arrK .i64 16 (dgt ve))) w1 rfl h)
        clear hK hu hc
        have hr1 := (hX9.out.step hb).row
        have hr2 := (hX9.out.step hb).eq
        go_simp
        exact hk.out _ (Below.refl _ _)
      · refine fstep_val rfl rfl (calm_step rfl fun aa ω κ hb hu hc hK => ?_)
        have h39 : aa.tmps[39]?.getD undef = .agg (arrK .i64 16 (dgt vb)) := hc 3 39 rfl rfl
        have h40 : aa.tmps[40]?.getD undef = .agg (arrK .i64 16 (dgt ve)) := hc 4 40 rfl rfl
        have hk := Lib.hid (fun w1 (h : Below ω.heap.size ω w1) => hK (.agg (arrK .i64 16 (dgt vg))) w1 rfl h)
        clear hK hu hc
        go_simp
        go_at_call 21
        refine (kvg.out _).mono ?_
        rintro e w1 ⟨rfl, hb1⟩
        exact hk.out _ hb1
      · refine fstep_al (n := 16) rfl rfl fun aa ω κ hK => ?_
        have hk := Lib.hid hK
        clear hK
        go_simp
        exact hk.out _ _ hc0
      · refine fstep_al (n := 16) rfl rfl fun aa ω κ hK => ?_
        have hk := Lib.hid hK
        clear hK
        go_simp
        exact hk.out _ _ hc0
      · refine fstep_st (j := 6) (n := 16) (d := 10) rfl rfl rfl rfl rfl hcvf.1 rfl rfl fun aa ω κ g hb hu hc hp hr hK => ?_
        have h38 : aa.tmps[38]?.getD undef = .agg (arrK .i64 16 (dgt vf)) := hc 2 38 rfl rfl
        have hk := Lib.hid hK
        clear hK hu hc
        have hcc := hcvf
        go_simp
        exact hk.out undef
      · refine fstep_st (j := 7) (n := 16) (d := 11) rfl rfl rfl rfl rfl hcvg.1 rfl rfl fun aa ω κ g hb hu hc hp hr hK => ?_
        have h41 : aa.tmps[41]?.getD undef = .agg (arrK .i64 16 (dgt vg)) := hc 5 41 rfl rfl
        have hk := Lib.hid hK
        clear hK hu hc
        have hcc := hcvg
        go_simp
        exact hk.out undef
      · intro a1 w1 G I
        have ha0 := hha0.out
        subst ha0
        have he := act_patch (n := 69) [false, false, false, false, false, false, false, false, false, false, true, true, false, false, false, false, false, false, false, false, false, false, false, false, false, false, false, false, false, false, false, false, false, false, false, false, true, true, true, true, true, true, false, false, false, false, false, false, false, false, false, false, false, false, false, false, false, false, false, false, false, false, false, false, false, false, false, false, false] rfl (by kernel_rfl) I.un I.sz I.df
        simp only [patch, cond_true, cond_false, Nat.reduceAdd] at he
        have hal10 := I.al 6 10 16 rfl rfl rfl
        have hal11 := I.al 7 11 16 rfl rfl rfl
        replace hA := Lib.hid (hA.out.step I.bel)
        replace hB := Lib.hid (hB.out.step I.bel)
        replace hR := Lib.hid (row_below hR.out I.bel hR.out.lt)
        replace hL := Lib.hid (below_step I.bel hL.out (Nat.le_refl _))
        replace hX5 := Lib.hid (hX5.out.step I.bel)
        replace hX6 := Lib.hid (hX6.out.step I.bel)
        replace hX7 := Lib.hid (hX7.out.step I.bel)
        replace hX8 := Lib.hid (hX8.out.step I.bel)
        replace hX9 := Lib.hid (hX9.out.step I.bel)
        have hX10 := Lib.hid (show At w1 (G 6) .i64 16 (dgt vf) from ⟨(I.blk 6 16 rfl rfl).2, (I.row 8 6 rfl rfl).2.2⟩)
        have hX11 := Lib.hid (show At w1 (G 7) .i64 16 (dgt vg) from ⟨(I.blk 7 16 rfl rfl).2, (I.row 9 7 rfl rfl).2.2⟩)
        clear kvf kvg
        clear I hz0 hha0 e8 e9
        rw [he]
        clear he
        rw [hal10]
        rw [hal11]
        clear hal10 hal11
        generalize a1.tmps[36]?.getD undef = x36 at *
        generalize a1.tmps[37]?.getD undef = x37 at *
        generalize a1.tmps[38]?.getD undef = x38 at *
        generalize a1.tmps[39]?.getD undef = x39 at *
        generalize a1.tmps[40]?.getD undef = x40 at *
        generalize a1.tmps[41]?.getD undef = x41 at *
        obtain ⟨g10, hgz⟩ : ∃ g, G 6 = g := ⟨_, rfl⟩
        rw [hgz] at hX10 ⊢
        clear hgz
        obtain ⟨g11, hgz⟩ : ∃ g, G 7 = g := ⟨_, rfl⟩
        rw [hgz] at hX11 ⊢
        clear hgz
        generalize w1 = W3 at *
        go_upto_region 4 with (fail)
        generalize ha0 : Act.mk _ _ = a0
        have e2 : a0.tmps[2]?.getD undef = .pointer (some ⟨w.heap.size, 0, none⟩) := by rw [← ha0]; rfl
        have e3 : a0.tmps[3]?.getD undef = .pointer (some ⟨w.heap.size + 1, 0, none⟩) := by rw [← ha0]; rfl
        have hz0 : a0.tmps.size = 69 := by rw [← ha0]; rfl
        have hha0 := Lib.hid ha0
        clear ha0
        refine wp_region_fresh ⟨fun jx_ => match jx_ with | 0 => some (.pointer (some ⟨w.heap.size, 0, none⟩)) | 1 => some (.agg (arrK .i64 16 (dgt X1))) | 2 => some (.pointer (some ⟨w.heap.size + 1, 16, none⟩)) | 3 => some (.agg (arrK .i64 16 (dgt Y2))) | 4 => some (.agg (arrK .i64 16 (dgt vs1))) | 5 => some (.pointer (some ⟨w.heap.size, 16, none⟩)) | 6 => some (.agg (arrK .i64 16 (dgt Y1))) | 7 => some (.pointer (some ⟨w.heap.size + 1, 0, none⟩)) | 8 => some (.agg (arrK .i64 16 (dgt X2))) | 9 => some (.agg (arrK .i64 16 (dgt vs2))) | 10 => some (.agg (arrK .i64 16 (dgt vs))) | _ => none, fun jx_ => match jx_ with | 11 => some 16 | _ => none, fun jx_ => match jx_ with | 12 => some 11 | _ => none, fun jx_ => match jx_ with | 12 => arrK .i64 16 (dgt vs) | _ => #[]⟩ (by kernel_rfl) (by kernel_rfl) (by kernel_rfl) (slotsOk_of hz0 (by kernel_rfl)) rfl ⟨?_, ?_, ?_, ?_, ?_, ?_, ?_, ?_, ?_, ?_, ?_, ?_, ?_, trivial⟩ ?_
        · refine fstep_val rfl rfl (calm_step rfl fun aa ω κ hb hu hc hK => ?_)
          have h2 : aa.tmps[2]?.getD undef = .pointer (some ⟨w.heap.size, 0, none⟩) := (hu 2 rfl).trans e2
          have hk := Lib.hid (fun w1 (h : Below ω.heap.size ω w1) => hK (.pointer (some ⟨w.heap.size, 0, none⟩)) w1 rfl h)
          clear hK hu hc
          go_simp
          exact hk.out _ (Below.refl _ _)
        · refine fstep_val rfl rfl (calm_step rfl fun aa ω κ hb hu hc hK => ?_)
          have h42 : aa.tmps[42]?.getD undef = .pointer (some ⟨w.heap.size, 0, none⟩) := hc 0 42 rfl rfl
          have hk := Lib.hid (fun w1 (h : Below ω.heap.size ω w1) => hK (.agg (arrK .i64 16 (dgt X1))) w1 rfl h)
          clear hK hu hc
          have hl := rp_0 (hA.out.step hb)
          have hl1 := hl.1
          have hl2 := hl.2
          go_simp
          exact hk.out _ (Below.refl _ _)
        · refine fstep_val rfl rfl (calm_step rfl fun aa ω κ hb hu hc hK => ?_)
          have h3 : aa.tmps[3]?.getD undef = .pointer (some ⟨w.heap.size + 1, 0, none⟩) := (hu 3 rfl).trans e3
          have hk := Lib.hid (fun w1 (h : Below ω.heap.size ω w1) => hK (.pointer (some ⟨w.heap.size + 1, 16, none⟩)) w1 rfl h)
          clear hK hu hc
          go_simp
          exact hk.out _ (Below.refl _ _)
        · refine fstep_val rfl rfl (calm_step rfl fun aa ω κ hb hu hc hK => ?_)
          have h44 : aa.tmps[44]?.getD undef = .pointer (some ⟨w.heap.size + 1, 16, none⟩) := hc 2 44 rfl rfl
          have hk := Lib.hid (fun w1 (h : Below ω.heap.size ω w1) => hK (.agg (arrK .i64 16 (dgt Y2))) w1 rfl h)
          clear hK hu hc
          have hl := rp_1 (hB.out.step hb)
          have hl1 := hl.1
          have hl2 := hl.2
          go_simp
          exact hk.out _ (Below.refl _ _)
        · refine fstep_val rfl rfl (calm_step rfl fun aa ω κ hb hu hc hK => ?_)
          have h43 : aa.tmps[43]?.getD undef = .agg (arrK .i64 16 (dgt X1)) := hc 1 43 rfl rfl
          have h45 : aa.tmps[45]?.getD undef = .agg (arrK .i64 16 (dgt Y2)) := hc 3 45 rfl rfl
          have hk := Lib.hid (fun w1 (h : Below ω.heap.size ω w1) => hK (.agg (arrK .i64 16 (dgt vs1))) w1 rfl h)
          clear hK hu hc
          go_simp
          go_at_call 25
          refine (kvs1.out _).mono ?_
          rintro e w1 ⟨rfl, hb1⟩
          exact hk.out _ hb1
        · refine fstep_val rfl rfl (calm_step rfl fun aa ω κ hb hu hc hK => ?_)
          have h2 : aa.tmps[2]?.getD undef = .pointer (some ⟨w.heap.size, 0, none⟩) := (hu 2 rfl).trans e2
          have hk := Lib.hid (fun w1 (h : Below ω.heap.size ω w1) => hK (.pointer (some ⟨w.heap.size, 16, none⟩)) w1 rfl h)
          clear hK hu hc
          go_simp
          exact hk.out _ (Below.refl _ _)
        · refine fstep_val rfl rfl (calm_step rfl fun aa ω κ hb hu hc hK => ?_)
          have h47 : aa.tmps[47]?.getD undef = .pointer (some ⟨w.heap.size, 16, none⟩) := hc 5 47 rfl rfl
          have hk := Lib.hid (fun w1 (h : Below ω.heap.size ω w1) => hK (.agg (arrK .i64 16 (dgt Y1))) w1 rfl h)
          clear hK hu hc
          have hl := rp_1 (hA.out.step hb)
          have hl1 := hl.1
          have hl2 := hl.2
          go_simp
          exact hk.out _ (Below.refl _ _)
        · refine fstep_val rfl rfl (calm_step rfl fun aa ω κ hb hu hc hK => ?_)
          have h3 : aa.tmps[3]?.getD undef = .pointer (some ⟨w.heap.size + 1, 0, none⟩) := (hu 3 rfl).trans e3
          have hk := Lib.hid (fun w1 (h : Below ω.heap.size ω w1) => hK (.pointer (some ⟨w.heap.size + 1, 0, none⟩)) w1 rfl h)
          clear hK hu hc
          go_simp
          exact hk.out _ (Below.refl _ _)
        · refine fstep_val rfl rfl (calm_step rfl fun aa ω κ hb hu hc hK => ?_)
          have h49 : aa.tmps[49]?.getD undef = .pointer (some ⟨w.heap.size + 1, 0, none⟩) := hc 7 49 rfl rfl
          have hk := Lib.hid (fun w1 (h : Below ω.heap.size ω w1) => hK (.agg (arrK .i64 16 (dgt X2))) w1 rfl h)
          clear hK hu hc
          have hl := rp_0 (hB.out.step hb)
          have hl1 := hl.1
          have hl2 := hl.2
          go_simp
          exact hk.out _ (Below.refl _ _)
        · refine fstep_val rfl rfl (calm_step rfl fun aa ω κ hb hu hc hK => ?_)
          have h48 : aa.tmps[48]?.getD undef = .agg (arrK .i64 16 (dgt Y1)) := hc 6 48 rfl rfl
          have h50 : aa.tmps[50]?.getD undef = .agg (arrK .i64 16 (dgt X2)) := hc 8 50 rfl rfl
          have hk := Lib.hid (fun w1 (h : Below ω.heap.size ω w1) => hK (.agg (arrK .i64 16 (dgt vs2))) w1 rfl h)
          clear hK hu hc
          go_simp
          go_at_call 25
          refine (kvs2.out _).mono ?_
          rintro e w1 ⟨rfl, hb1⟩
          exact hk.out _ hb1
        · refine fstep_val rfl rfl (calm_step rfl fun aa ω κ hb hu hc hK => ?_)
          have h46 : aa.tmps[46]?.getD undef = .agg (arrK .i64 16 (dgt vs1)) := hc 4 46 rfl rfl
          have h51 : aa.tmps[51]?.getD undef = .agg (arrK .i64 16 (dgt vs2)) := hc 9 51 rfl rfl
          have hk := Lib.hid (fun w1 (h : Below ω.heap.size ω w1) => hK (.agg (arrK .i64 16 (dgt vs))) w1 rfl h)
          clear hK hu hc
          go_simp
          go_at_call 21
          refine (kvs.out _).mono ?_
          rintro e w1 ⟨rfl, hb1⟩
          exact hk.out _ hb1
        · refine fstep_al (n := 16) rfl rfl fun aa ω κ hK => ?_
          have hk := Lib.hid hK
          clear hK
          go_simp
          exact hk.out _ _ hc0
        · refine fstep_st (j := 11) (n := 16) (d := 12) rfl rfl rfl rfl rfl hcvs.1 rfl rfl fun aa ω κ g hb hu hc hp hr hK => ?_
          have h52 : aa.tmps[52]?.getD undef = .agg (arrK .i64 16 (dgt vs)) := hc 10 52 rfl rfl
          have hk := Lib.hid hK
          clear hK hu hc
          have hcc := hcvs
          go_simp
          exact hk.out undef
        · intro a1 w1 G I
          have ha0 := hha0.out
          subst ha0
          have he := act_patch (n := 69) [false, false, false, false, false, false, false, false, false, false, false, false, true, false, false, false, false, false, false, false, false, false, false, false, false, false, false, false, false, false, false, false, false, false, false, false, false, false, false, false, false, false, true, true, true, true, true, true, true, true, true, true, true, false, false, false, false, false, false, false, false, false, false, false, false, false, false, false, false] rfl (by kernel_rfl) I.un I.sz I.df
          simp only [patch, cond_true, cond_false, Nat.reduceAdd] at he
          have hal12 := I.al 11 12 16 rfl rfl rfl
          replace hA := Lib.hid (hA.out.step I.bel)
          replace hB := Lib.hid (hB.out.step I.bel)
          replace hR := Lib.hid (row_below hR.out I.bel hR.out.lt)
          replace hL := Lib.hid (below_step I.bel hL.out (Nat.le_refl _))
          replace hX5 := Lib.hid (hX5.out.step I.bel)
          replace hX6 := Lib.hid (hX6.out.step I.bel)
          replace hX7 := Lib.hid (hX7.out.step I.bel)
          replace hX8 := Lib.hid (hX8.out.step I.bel)
          replace hX9 := Lib.hid (hX9.out.step I.bel)
          replace hX10 := Lib.hid (hX10.out.step I.bel)
          replace hX11 := Lib.hid (hX11.out.step I.bel)
          have hX12 := Lib.hid (show At w1 (G 11) .i64 16 (dgt vs) from ⟨(I.blk 11 16 rfl rfl).2, (I.row 12 11 rfl rfl).2.2⟩)
          clear kvs1 kvs2 kvs
          clear I hz0 hha0 e2 e3
          rw [he]
          clear he
          rw [hal12]
          clear hal12
          generalize a1.tmps[42]?.getD undef = x42 at *
          generalize a1.tmps[43]?.getD undef = x43 at *
          generalize a1.tmps[44]?.getD undef = x44 at *
          generalize a1.tmps[45]?.getD undef = x45 at *
          generalize a1.tmps[46]?.getD undef = x46 at *
          generalize a1.tmps[47]?.getD undef = x47 at *
          generalize a1.tmps[48]?.getD undef = x48 at *
          generalize a1.tmps[49]?.getD undef = x49 at *
          generalize a1.tmps[50]?.getD undef = x50 at *
          generalize a1.tmps[51]?.getD undef = x51 at *
          generalize a1.tmps[52]?.getD undef = x52 at *
          obtain ⟨g12, hgz⟩ : ∃ g, G 11 = g := ⟨_, rfl⟩
          rw [hgz] at hX12 ⊢
          clear hgz
          generalize w1 = W4 at *
          go_upto_region 5 with (fail)
          generalize ha0 : Act.mk _ _ = a0
          have e4 : a0.tmps[4]?.getD undef = .pointer (some ⟨w.heap.size + 1 + 1, 0, none⟩) := by rw [← ha0]; rfl
          have e5 : a0.tmps[5]?.getD undef = .pointer (some ⟨g5, 0, none⟩) := by rw [← ha0]; rfl
          have e6 : a0.tmps[6]?.getD undef = .pointer (some ⟨g6, 0, none⟩) := by rw [← ha0]; rfl
          have e7 : a0.tmps[7]?.getD undef = .pointer (some ⟨g7, 0, none⟩) := by rw [← ha0]; rfl
          have e10 : a0.tmps[10]?.getD undef = .pointer (some ⟨g10, 0, none⟩) := by rw [← ha0]; rfl
          have e11 : a0.tmps[11]?.getD undef = .pointer (some ⟨g11, 0, none⟩) := by rw [← ha0]; rfl
          have e12 : a0.tmps[12]?.getD undef = .pointer (some ⟨g12, 0, none⟩) := by rw [← ha0]; rfl
          have hz0 : a0.tmps.size = 69 := by rw [← ha0]; rfl
          have hha0 := Lib.hid ha0
          clear ha0
          refine wp_region_one (fun jx_ => match jx_ with | 0 => some (.agg (arrK .i64 16 (dgt va))) | 1 => some (.agg (arrK .i64 16 (dgt vf))) | 2 => some (.agg (arrK .i64 16 (dgt vu1))) | 3 => some (.agg (arrK .i64 16 (dgt vs))) | 4 => some (.agg (arrK .i64 16 (dgt r1))) | 5 => some (.agg (arrK .i64 16 (dgt va))) | 6 => some (.agg (arrK .i64 16 (dgt vg))) | 7 => some (.agg (arrK .i64 16 (dgt vu2))) | 8 => some (.agg (arrK .i64 16 (dgt vc))) | 9 => some (.agg (arrK .i64 16 (dgt vd))) | 10 => some (.agg (arrK .i64 16 (dgt vcd))) | 11 => some (.agg (arrK .i64 16 (dgt r2))) | 12 => some (.agg (arrK .i64 16 (dgt vf))) | 13 => some (.agg (arrK .i64 16 (dgt vg))) | 14 => some (.agg (arrK .i64 16 (dgt r3))) | 15 => some (.agg (arrK .i64 48 (cat3 (dgt r1) (dgt r2) (dgt r3)))) | _ => none) 16 ((w.heap.size + 1 + 1)) 48 (arrK .i64 48 (cat3 (dgt r1) (dgt r2) (dgt r3))) (by kernel_rfl) (by kernel_rfl) (by kernel_rfl) (slotsOk_of hz0 (by kernel_rfl)) (of_decide_eq_true (by kernel_rfl)) hR.out ⟨?_, ?_, ?_, ?_, ?_, ?_, ?_, ?_, ?_, ?_, ?_, ?_, ?_, ?_, ?_, ?_, ?_, trivial⟩ ?_
          · refine one_before (by decide) (by kernel_rfl) (calm_step rfl fun aa ω κ hb hu hc hK => ?_)
            have h5 : aa.tmps[5]?.getD undef = .pointer (some ⟨g5, 0, none⟩) := (hu 5 rfl).trans e5
            have hk := Lib.hid (fun w1 (h : Below ω.heap.size ω w1) => hK (.agg (arrK .i64 16 (dgt va))) w1 rfl h)
            clear hK hu hc
            have hr1 := (hX5.out.step hb).row
            have hr2 := (hX5.out.step hb).eq
            go_simp
            exact hk.out _ (Below.refl _ _)
          · refine one_before (by decide) (by kernel_rfl) (calm_step rfl fun aa ω κ hb hu hc hK => ?_)
            have h10 : aa.tmps[10]?.getD undef = .pointer (some ⟨g10, 0, none⟩) := (hu 10 rfl).trans e10
            have hk := Lib.hid (fun w1 (h : Below ω.heap.size ω w1) => hK (.agg (arrK .i64 16 (dgt vf))) w1 rfl h)
            clear hK hu hc
            have hr1 := (hX10.out.step hb).row
            have hr2 := (hX10.out.step hb).eq
            go_simp
            exact hk.out _ (Below.refl _ _)
          · refine one_before (by decide) (by kernel_rfl) (calm_step rfl fun aa ω κ hb hu hc hK => ?_)
            have h53 : aa.tmps[53]?.getD undef = .agg (arrK .i64 16 (dgt va)) := hc 0 53 rfl rfl
            have h54 : aa.tmps[54]?.getD undef = .agg (arrK .i64 16 (dgt vf)) := hc 1 54 rfl rfl
            have hk := Lib.hid (fun w1 (h : Below ω.heap.size ω w1) => hK (.agg (arrK .i64 16 (dgt vu1))) w1 rfl h)
            clear hK hu hc
            go_simp
            go_at_call 25
            refine (kvu1.out _).mono ?_
            rintro e w1 ⟨rfl, hb1⟩
            exact hk.out _ hb1
          · refine one_before (by decide) (by kernel_rfl) (calm_step rfl fun aa ω κ hb hu hc hK => ?_)
            have h12 : aa.tmps[12]?.getD undef = .pointer (some ⟨g12, 0, none⟩) := (hu 12 rfl).trans e12
            have hk := Lib.hid (fun w1 (h : Below ω.heap.size ω w1) => hK (.agg (arrK .i64 16 (dgt vs))) w1 rfl h)
            clear hK hu hc
            have hr1 := (hX12.out.step hb).row
            have hr2 := (hX12.out.step hb).eq
            go_simp
            exact hk.out _ (Below.refl _ _)
          · refine one_before (by decide) (by kernel_rfl) (calm_step rfl fun aa ω κ hb hu hc hK => ?_)
            have h55 : aa.tmps[55]?.getD undef = .agg (arrK .i64 16 (dgt vu1)) := hc 2 55 rfl rfl
            have h56 : aa.tmps[56]?.getD undef = .agg (arrK .i64 16 (dgt vs)) := hc 3 56 rfl rfl
            have hk := Lib.hid (fun w1 (h : Below ω.heap.size ω w1) => hK (.agg (arrK .i64 16 (dgt r1))) w1 rfl h)
            clear hK hu hc
            go_simp
            go_at_call 25
            refine (kr1.out _).mono ?_
            rintro e w1 ⟨rfl, hb1⟩
            exact hk.out _ hb1
          · refine one_before (by decide) (by kernel_rfl) (calm_step rfl fun aa ω κ hb hu hc hK => ?_)
            have h5 : aa.tmps[5]?.getD undef = .pointer (some ⟨g5, 0, none⟩) := (hu 5 rfl).trans e5
            have hk := Lib.hid (fun w1 (h : Below ω.heap.size ω w1) => hK (.agg (arrK .i64 16 (dgt va))) w1 rfl h)
            clear hK hu hc
            have hr1 := (hX5.out.step hb).row
            have hr2 := (hX5.out.step hb).eq
            go_simp
            exact hk.out _ (Below.refl _ _)
          · refine one_before (by decide) (by kernel_rfl) (calm_step rfl fun aa ω κ hb hu hc hK => ?_)
            have h11 : aa.tmps[11]?.getD undef = .pointer (some ⟨g11, 0, none⟩) := (hu 11 rfl).trans e11
            have hk := Lib.hid (fun w1 (h : Below ω.heap.size ω w1) => hK (.agg (arrK .i64 16 (dgt vg))) w1 rfl h)
            clear hK hu hc
            have hr1 := (hX11.out.step hb).row
            have hr2 := (hX11.out.step hb).eq
            go_simp
            exact hk.out _ (Below.refl _ _)
          · refine one_before (by decide) (by kernel_rfl) (calm_step rfl fun aa ω κ hb hu hc hK => ?_)
            have h58 : aa.tmps[58]?.getD undef = .agg (arrK .i64 16 (dgt va)) := hc 5 58 rfl rfl
            have h59 : aa.tmps[59]?.getD undef = .agg (arrK .i64 16 (dgt vg)) := hc 6 59 rfl rfl
            have hk := Lib.hid (fun w1 (h : Below ω.heap.size ω w1) => hK (.agg (arrK .i64 16 (dgt vu2))) w1 rfl h)
            clear hK hu hc
            go_simp
            go_at_call 25
            refine (kvu2.out _).mono ?_
            rintro e w1 ⟨rfl, hb1⟩
            exact hk.out _ hb1
          · refine one_before (by decide) (by kernel_rfl) (calm_step rfl fun aa ω κ hb hu hc hK => ?_)
            have h6 : aa.tmps[6]?.getD undef = .pointer (some ⟨g6, 0, none⟩) := (hu 6 rfl).trans e6
            have hk := Lib.hid (fun w1 (h : Below ω.heap.size ω w1) => hK (.agg (arrK .i64 16 (dgt vc))) w1 rfl h)
            clear hK hu hc
            have hr1 := (hX6.out.step hb).row
            have hr2 := (hX6.out.step hb).eq
            go_simp
            exact hk.out _ (Below.refl _ _)
          · refine one_before (by decide) (by kernel_rfl) (calm_step rfl fun aa ω κ hb hu hc hK => ?_)
            have h7 : aa.tmps[7]?.getD undef = .pointer (some ⟨g7, 0, none⟩) := (hu 7 rfl).trans e7
            have hk := Lib.hid (fun w1 (h : Below ω.heap.size ω w1) => hK (.agg (arrK .i64 16 (dgt vd))) w1 rfl h)
            clear hK hu hc
            have hr1 := (hX7.out.step hb).row
            have hr2 := (hX7.out.step hb).eq
            go_simp
            exact hk.out _ (Below.refl _ _)
          · refine one_before (by decide) (by kernel_rfl) (calm_step rfl fun aa ω κ hb hu hc hK => ?_)
            have h61 : aa.tmps[61]?.getD undef = .agg (arrK .i64 16 (dgt vc)) := hc 8 61 rfl rfl
            have h62 : aa.tmps[62]?.getD undef = .agg (arrK .i64 16 (dgt vd)) := hc 9 62 rfl rfl
            have hk := Lib.hid (fun w1 (h : Below ω.heap.size ω w1) => hK (.agg (arrK .i64 16 (dgt vcd))) w1 rfl h)
            clear hK hu hc
            go_simp
            go_at_call 21
            refine (kvcd.out _).mono ?_
            rintro e w1 ⟨rfl, hb1⟩
            exact hk.out _ hb1
          · refine one_before (by decide) (by kernel_rfl) (calm_step rfl fun aa ω κ hb hu hc hK => ?_)
            have h60 : aa.tmps[60]?.getD undef = .agg (arrK .i64 16 (dgt vu2)) := hc 7 60 rfl rfl
            have h63 : aa.tmps[63]?.getD undef = .agg (arrK .i64 16 (dgt vcd)) := hc 10 63 rfl rfl
            have hk := Lib.hid (fun w1 (h : Below ω.heap.size ω w1) => hK (.agg (arrK .i64 16 (dgt r2))) w1 rfl h)
            clear hK hu hc
            go_simp
            go_at_call 25
            refine (kr2.out _).mono ?_
            rintro e w1 ⟨rfl, hb1⟩
            exact hk.out _ hb1
          · refine one_before (by decide) (by kernel_rfl) (calm_step rfl fun aa ω κ hb hu hc hK => ?_)
            have h10 : aa.tmps[10]?.getD undef = .pointer (some ⟨g10, 0, none⟩) := (hu 10 rfl).trans e10
            have hk := Lib.hid (fun w1 (h : Below ω.heap.size ω w1) => hK (.agg (arrK .i64 16 (dgt vf))) w1 rfl h)
            clear hK hu hc
            have hr1 := (hX10.out.step hb).row
            have hr2 := (hX10.out.step hb).eq
            go_simp
            exact hk.out _ (Below.refl _ _)
          · refine one_before (by decide) (by kernel_rfl) (calm_step rfl fun aa ω κ hb hu hc hK => ?_)
            have h11 : aa.tmps[11]?.getD undef = .pointer (some ⟨g11, 0, none⟩) := (hu 11 rfl).trans e11
            have hk := Lib.hid (fun w1 (h : Below ω.heap.size ω w1) => hK (.agg (arrK .i64 16 (dgt vg))) w1 rfl h)
            clear hK hu hc
            have hr1 := (hX11.out.step hb).row
            have hr2 := (hX11.out.step hb).eq
            go_simp
            exact hk.out _ (Below.refl _ _)
          · refine one_before (by decide) (by kernel_rfl) (calm_step rfl fun aa ω κ hb hu hc hK => ?_)
            have h65 : aa.tmps[65]?.getD undef = .agg (arrK .i64 16 (dgt vf)) := hc 12 65 rfl rfl
            have h66 : aa.tmps[66]?.getD undef = .agg (arrK .i64 16 (dgt vg)) := hc 13 66 rfl rfl
            have hk := Lib.hid (fun w1 (h : Below ω.heap.size ω w1) => hK (.agg (arrK .i64 16 (dgt r3))) w1 rfl h)
            clear hK hu hc
            go_simp
            go_at_call 25
            refine (kr3.out _).mono ?_
            rintro e w1 ⟨rfl, hb1⟩
            exact hk.out _ hb1
          · refine one_before (by decide) (by kernel_rfl) (calm_step rfl fun aa ω κ hb hu hc hK => ?_)
            have h57 : aa.tmps[57]?.getD undef = .agg (arrK .i64 16 (dgt r1)) := hc 4 57 rfl rfl
            have h64 : aa.tmps[64]?.getD undef = .agg (arrK .i64 16 (dgt r2)) := hc 11 64 rfl rfl
            have h67 : aa.tmps[67]?.getD undef = .agg (arrK .i64 16 (dgt r3)) := hc 14 67 rfl rfl
            have hk := Lib.hid (fun w1 (h : Below ω.heap.size ω w1) => hK (.agg (arrK .i64 48 (cat3 (dgt r1) (dgt r2) (dgt r3)))) w1 rfl h)
            clear hK hu hc
            exact wp_bldC (v0 := .agg (arrK .i64 16 (dgt r1))) (v1 := .agg (arrK .i64 16 (dgt r2))) (v2 := .agg (arrK .i64 16 (dgt r3))) rfl (by go_simp) (by go_simp) (by go_simp) (build_rp _ _ _ _) (hk.out _ (Below.refl _ _))
          · refine one_q (one_write rfl rfl fun aa ω κ hb hu hc hr hK => ?_)
            have h4 : aa.tmps[4]?.getD undef = .pointer (some ⟨w.heap.size + 1 + 1, 0, none⟩) := (hu 4 rfl).trans e4
            have h68 : aa.tmps[68]?.getD undef = .agg (arrK .i64 48 (cat3 (dgt r1) (dgt r2) (dgt r3))) := hc 15 68 rfl rfl
            have hk := Lib.hid hK
            clear hK hu hc
            have hcc := hcr
            go_simp
            exact hk.out undef
          · intro a1 w1 hb1 hu1 hsz1 hdf1 hv1
            have ha0 := hha0.out
            subst ha0
            have he := act_patch (n := 69) [false, false, false, false, false, false, false, false, false, false, false, false, false, false, false, false, false, false, false, false, false, false, false, false, false, false, false, false, false, false, false, false, false, false, false, false, false, false, false, false, false, false, false, false, false, false, false, false, false, false, false, false, false, true, true, true, true, true, true, true, true, true, true, true, true, true, true, true, true] rfl (by kernel_rfl) hu1 hsz1 hdf1
            simp only [patch, cond_true, cond_false, Nat.reduceAdd] at he
            have hXz := (At.put (k := .i64) (f := (cat3 (dgt r1) (dgt r2) (dgt r3))) hR.out).below hb1 (by simpa using hR.out.lt)
            have hLz := Lib.hid (Below.trans (below_setRow (c := arrK .i64 48 (cat3 (dgt r1) (dgt r2) (dgt r3))) hL.out (by omega)) (hb1.mono (by simpa using hL.out.size)))
            clear hR hL hA hB hX5 hX6 hX7 hX8 hX9 hX10 hX11 hX12 kvu1 kr1 kvu2 kvcd kr2 kr3
            clear hb1 hu1 hsz1 hdf1 hv1 hz0 hha0 e4 e5 e6 e7 e10 e11 e12
            rw [he]
            clear he
            generalize a1.tmps[53]?.getD undef = x53 at *
            generalize a1.tmps[54]?.getD undef = x54 at *
            generalize a1.tmps[55]?.getD undef = x55 at *
            generalize a1.tmps[56]?.getD undef = x56 at *
            generalize a1.tmps[57]?.getD undef = x57 at *
            generalize a1.tmps[58]?.getD undef = x58 at *
            generalize a1.tmps[59]?.getD undef = x59 at *
            generalize a1.tmps[60]?.getD undef = x60 at *
            generalize a1.tmps[61]?.getD undef = x61 at *
            generalize a1.tmps[62]?.getD undef = x62 at *
            generalize a1.tmps[63]?.getD undef = x63 at *
            generalize a1.tmps[64]?.getD undef = x64 at *
            generalize a1.tmps[65]?.getD undef = x65 at *
            generalize a1.tmps[66]?.getD undef = x66 at *
            generalize a1.tmps[67]?.getD undef = x67 at *
            generalize a1.tmps[68]?.getD undef = x68 at *
            go_wp2_with fail
            refine ret_row (p := 4) (ty := 48) (g := (w.heap.size + 1 + 1)) rfl Try.underlying48 rfl (by kernel_rfl) rfl hXz.row rfl ?_
            rw [hXz.eq]
            exact ⟨rfl, hLz.out⟩
theorem rp_PlusQ (X1 Y1 Z1 X2 Y2 Z2 : Nat) (w : World) (hX1 : X1 < 2 ^ 256) (hY1 : Y1 < 2 ^ 256) (hZ1 : Z1 < 2 ^ 256) (hX2 : X2 < 2 ^ 256) (hY2 : Y2 < 2 ^ 256) (hZ2 : Z2 < 2 ^ 256) (r : Nat × Nat × Nat) (hr : rplus X1 Y1 Z1 X2 Y2 Z2 = r) :
    Calls Try.prog 40 #[rpV X1 Y1 Z1, rpV X2 Y2 Z2] w fun e w' => e = .returned (rpV r.1 r.2.1 r.2.2) ∧ Below w.heap.size w w' := by
  subst hr
  exact rp_Plus _ _ _ _ _ _ _ _ _ _ _ _ _ _ _ _ _ _ _ _ _ _ _ w hX1 hY1 hZ1 hX2 hY2 hZ2 rfl rfl rfl rfl rfl rfl rfl rfl rfl rfl rfl rfl rfl rfl rfl rfl rfl
theorem rplus_lt (X1 Y1 Z1 X2 Y2 Z2 : Nat) (r : Nat × Nat × Nat) (hr : rplus X1 Y1 Z1 X2 Y2 Z2 = r) : r.1 < 2 ^ 256 ∧ r.2.1 < 2 ^ 256 ∧ r.2.2 < 2 ^ 256 := by
  subst hr
  exact ⟨low_lt, low_lt, low_lt⟩
theorem dgt_inj {a b : Nat} (ha : a < 2 ^ 256) (hb : b < 2 ^ 256) : (∀ i < 16, dgt a i = dgt b i) ↔ a = b := by
  refine ⟨fun h => ?_, fun h _ _ => by rw [h]⟩
  have := dval_congr h
  rwa [dval_dgt, dval_dgt, p16, Nat.mod_eq_of_lt ha, Nat.mod_eq_of_lt hb] at this
theorem eqlFe {a b : Nat} (ha : a < 2 ^ 256) (hb : b < 2 ^ 256) {r : Bool} (h : decide (a = b) = r) (W : World) : (binOp .eql 26 (.agg (arrK .i64 16 (dgt a))) (.agg (arrK .i64 16 (dgt b)))).run Try.prog W = .ok (.bool r) W := by
  rw [run_eql_arrK Try.underlying26 Try.underlying3 (by kernel_rfl), ← h]
  congr 2
  exact decide_eq_decide.2 (dgt_inj ha hb)
theorem ref_On (x y : Nat) (w : World) (hx : x < 2 ^ 256) (hy : y < 2 ^ 256) : Calls Try.prog 29 #[ptV x y] w fun e w' => e = .returned (.bool (onR x y)) ∧ Below w.heap.size w w' := by
  have hdN := dN_lt
  have h1l : 1 < 2 ^ 256 := by decide +kernel
  have kFx := Lib.hid (fun V => ref_Field x V hx)
  have kFy := Lib.hid (fun V => ref_Field y V hy)
  have kNx := Lib.hid (fun V => fe_Num (x % fP) V low_lt)
  have kNy := Lib.hid (fun V => fe_Num (y % fP) V low_lt)
  have h1 := Lib.hid (fun V => ref_small 1 V (by omega))
  have hqx := Lib.hid (fun (r : Bool) (h : decide (x % fP = x) = !r) V => neqOf low_lt hx h V)
  have hqy := Lib.hid (fun (r : Bool) (h : decide (y % fP = y) = !r) V => neqOf low_lt hy h V)
  have lpx : x % fP < 2 ^ 256 := low_lt
  have lpy : y % fP < 2 ^ 256 := low_lt
  unfold onR
  obtain ⟨px, hpx⟩ : ∃ d, x % fP = d := ⟨_, rfl⟩
  obtain ⟨py, hpy⟩ : ∃ d, y % fP = d := ⟨_, rfl⟩
  rw [hpx] at kFx kNx hqx lpx ⊢
  rw [hpy] at kFy kNy hqy lpy ⊢
  obtain ⟨xx, hxx⟩ : ∃ v, px * px % fP = v := ⟨_, rfl⟩
  rw [hxx]
  have lxx : xx < 2 ^ 256 := hxx ▸ low_lt
  obtain ⟨yy, hyy⟩ : ∃ v, py * py % fP = v := ⟨_, rfl⟩
  rw [hyy]
  have lyy : yy < 2 ^ 256 := hyy ▸ low_lt
  obtain ⟨p1, hp1⟩ : ∃ v, (1 + xx) % fP = v := ⟨_, rfl⟩
  rw [hp1]
  have lp1 : p1 < 2 ^ 256 := hp1 ▸ low_lt
  obtain ⟨q1, hq1⟩ : ∃ v, dN * xx % fP = v := ⟨_, rfl⟩
  rw [hq1]
  have lq1 : q1 < 2 ^ 256 := hq1 ▸ low_lt
  obtain ⟨q2, hq2⟩ : ∃ v, q1 * yy % fP = v := ⟨_, rfl⟩
  rw [hq2]
  have lq2 : q2 < 2 ^ 256 := hq2 ▸ low_lt
  obtain ⟨sm, hsm⟩ : ∃ v, (p1 + q2) % fP = v := ⟨_, rfl⟩
  rw [hsm]
  have lsm : sm < 2 ^ 256 := hsm ▸ low_lt
  have kxx := Lib.hid (fun V => fe_By px px V lpx lpx)
  rw [hxx] at kxx
  have kyy := Lib.hid (fun V => fe_By py py V lpy lpy)
  rw [hyy] at kyy
  have kp1 := Lib.hid (fun V => fe_Plus 1 xx V h1l lxx)
  rw [hp1] at kp1
  have kq1 := Lib.hid (fun V => fe_By dN xx V hdN lxx)
  rw [hq1] at kq1
  have kq2 := Lib.hid (fun V => fe_By q1 yy V lq1 lyy)
  rw [hq2] at kq2
  have ksm := Lib.hid (fun V => fe_Plus p1 q2 V lp1 lq2)
  rw [hsm] at ksm
  have hqe := Lib.hid (fun (r : Bool) (h : decide (yy = sm) = r) V => eqlFe lyy lsm h V)
  have kd := Lib.hid (fun V => ref_dOf V)
  obtain ⟨dn, hdn⟩ : ∃ d, dN = d := ⟨_, rfl⟩
  rw [hdn] at kd kq1
  obtain ⟨R, hRR'⟩ : ∃ R : Bool, (decide (px = x) && decide (py = y) && decide (yy = sm)) = R := ⟨_, rfl⟩
  rw [hRR']
  have hRR := Lib.hid hRR'
  clear hRR' hdn hdN hpx hpy hx hy h1l lpx lpy hxx lxx hyy lyy hp1 lp1 hq1 lq1 hq2 lq2 hsm lsm
  unfold numV feV at kFx kFy kNx kNy
  unfold feV at h1 kd kxx kyy kp1 kq1 kq2 ksm
  rw [show ((1 : Nat) : Int) = 1 from rfl] at h1
  unfold ptV
  have hcpx := arrK_cells .i64 16 (dgt px)
  have hcpy := arrK_cells .i64 16 (dgt py)
  have hcxx := arrK_cells .i64 16 (dgt xx)
  have hcyy := arrK_cells .i64 16 (dgt yy)
  have hc0 := arrK_cells .i64 16 fun _ => 0
  have hL0 : Below w.heap.size w (w.alloc (Obj.cells (arrK .u64 8 (cat2 (wd x) (wd y))) 42)) := by go_grown
  have hA0 : At (w.alloc (Obj.cells (arrK .u64 8 (cat2 (wd x) (wd y))) 42)) w.heap.size .u64 8 (cat2 (wd x) (wd y)) := At.new _ rfl
  have hL := Lib.hid hL0
  have hA := Lib.hid hA0
  clear hL0 hA0
  go_enter Try.func29, Try.ntmps29
  go_upto_region 1 with (fail)
  generalize w.alloc _ = W0 at *
  generalize ha0 : Act.mk _ _ = a0
  have e1 : a0.tmps[1]?.getD undef = .pointer (some ⟨w.heap.size, 0, none⟩) := by rw [← ha0]; rfl
  have hz0 : a0.tmps.size = 42 := by rw [← ha0]; rfl
  have hha0 := Lib.hid ha0
  clear ha0
  refine wp_region_fresh ⟨fun jx_ => match jx_ with | 0 => some (.pointer (some ⟨w.heap.size, 0, none⟩)) | 1 => some (.agg (arrK .u64 4 (wd x))) | 2 => some (.agg (arrK .i64 16 (dgt px))) | 3 => some (.pointer (some ⟨w.heap.size, 4, none⟩)) | 4 => some (.agg (arrK .u64 4 (wd y))) | 5 => some (.agg (arrK .i64 16 (dgt py))) | _ => none, fun jx_ => match jx_ with | 6 => some 16 | 7 => some 16 | _ => none, fun jx_ => match jx_ with | 8 => some 6 | 9 => some 7 | _ => none, fun jx_ => match jx_ with | 8 => arrK .i64 16 (dgt px) | 9 => arrK .i64 16 (dgt py) | _ => #[]⟩ (by kernel_rfl) (by kernel_rfl) (by kernel_rfl) (slotsOk_of hz0 (by kernel_rfl)) rfl ⟨?_, ?_, ?_, ?_, ?_, ?_, ?_, ?_, ?_, ?_, trivial⟩ ?_
  · refine fstep_val rfl rfl (calm_step rfl fun aa ω κ hb hu hc hK => ?_)
    have h1 : aa.tmps[1]?.getD undef = .pointer (some ⟨w.heap.size, 0, none⟩) := (hu 1 rfl).trans e1
    have hk := Lib.hid (fun w1 (h : Below ω.heap.size ω w1) => hK (.pointer (some ⟨w.heap.size, 0, none⟩)) w1 rfl h)
    clear hK hu hc
    go_simp
    exact hk.out _ (Below.refl _ _)
  · refine fstep_val rfl rfl (calm_step rfl fun aa ω κ hb hu hc hK => ?_)
    have h7 : aa.tmps[7]?.getD undef = .pointer (some ⟨w.heap.size, 0, none⟩) := hc 0 7 rfl rfl
    have hk := Lib.hid (fun w1 (h : Below ω.heap.size ω w1) => hK (.agg (arrK .u64 4 (wd x))) w1 rfl h)
    clear hK hu hc
    have hl := pt_0 (hA.out.step hb)
    have hl1 := hl.1
    have hl2 := hl.2
    go_simp
    exact hk.out _ (Below.refl _ _)
  · refine fstep_val rfl rfl (calm_step rfl fun aa ω κ hb hu hc hK => ?_)
    have h8 : aa.tmps[8]?.getD undef = .agg (arrK .u64 4 (wd x)) := hc 1 8 rfl rfl
    have hk := Lib.hid (fun w1 (h : Below ω.heap.size ω w1) => hK (.agg (arrK .i64 16 (dgt px))) w1 rfl h)
    clear hK hu hc
    go_simp
    go_at_call 12
    refine (kFx.out _).mono ?_
    rintro e w1 ⟨rfl, hb1⟩
    exact hk.out _ hb1
  · refine fstep_val rfl rfl (calm_step rfl fun aa ω κ hb hu hc hK => ?_)
    have h1 : aa.tmps[1]?.getD undef = .pointer (some ⟨w.heap.size, 0, none⟩) := (hu 1 rfl).trans e1
    have hk := Lib.hid (fun w1 (h : Below ω.heap.size ω w1) => hK (.pointer (some ⟨w.heap.size, 4, none⟩)) w1 rfl h)
    clear hK hu hc
    go_simp
    exact hk.out _ (Below.refl _ _)
  · refine fstep_val rfl rfl (calm_step rfl fun aa ω κ hb hu hc hK => ?_)
    have h10 : aa.tmps[10]?.getD undef = .pointer (some ⟨w.heap.size, 4, none⟩) := hc 3 10 rfl rfl
    have hk := Lib.hid (fun w1 (h : Below ω.heap.size ω w1) => hK (.agg (arrK .u64 4 (wd y))) w1 rfl h)
    clear hK hu hc
    have hl := pt_1 (hA.out.step hb)
    have hl1 := hl.1
    have hl2 := hl.2
    go_simp
    exact hk.out _ (Below.refl _ _)
  · refine fstep_val rfl rfl (calm_step rfl fun aa ω κ hb hu hc hK => ?_)
    have h11 : aa.tmps[11]?.getD undef = .agg (arrK .u64 4 (wd y)) := hc 4 11 rfl rfl
    have hk := Lib.hid (fun w1 (h : Below ω.heap.size ω w1) => hK (.agg (arrK .i64 16 (dgt py))) w1 rfl h)
    clear hK hu hc
    go_simp
    go_at_call 12
    refine (kFy.out _).mono ?_
    rintro e w1 ⟨rfl, hb1⟩
    exact hk.out _ hb1
  · refine fstep_al (n := 16) rfl rfl fun aa ω κ hK => ?_
    have hk := Lib.hid hK
    clear hK
    go_simp
    exact hk.out _ _ hc0
  · refine fstep_al (n := 16) rfl rfl fun aa ω κ hK => ?_
    have hk := Lib.hid hK
    clear hK
    go_simp
    exact hk.out _ _ hc0
  · refine fstep_st (j := 6) (n := 16) (d := 3) rfl rfl rfl rfl rfl hcpx.1 rfl rfl fun aa ω κ g hb hu hc hp hr hK => ?_
    have h9 : aa.tmps[9]?.getD undef = .agg (arrK .i64 16 (dgt px)) := hc 2 9 rfl rfl
    have hk := Lib.hid hK
    clear hK hu hc
    have hcc := hcpx
    go_simp
    exact hk.out undef
  · refine fstep_st (j := 7) (n := 16) (d := 4) rfl rfl rfl rfl rfl hcpy.1 rfl rfl fun aa ω κ g hb hu hc hp hr hK => ?_
    have h12 : aa.tmps[12]?.getD undef = .agg (arrK .i64 16 (dgt py)) := hc 5 12 rfl rfl
    have hk := Lib.hid hK
    clear hK hu hc
    have hcc := hcpy
    go_simp
    exact hk.out undef
  · intro a1 w1 G I
    have ha0 := hha0.out
    subst ha0
    have he := act_patch (n := 42) [false, false, false, true, true, false, false, true, true, true, true, true, true, false, false, false, false, false, false, false, false, false, false, false, false, false, false, false, false, false, false, false, false, false, false, false, false, false, false, false, false, false] rfl (by kernel_rfl) I.un I.sz I.df
    simp only [patch, cond_true, cond_false, Nat.reduceAdd] at he
    have hal3 := I.al 6 3 16 rfl rfl rfl
    have hal4 := I.al 7 4 16 rfl rfl rfl
    replace hA := Lib.hid (hA.out.step I.bel)
    replace hL := Lib.hid (below_step I.bel hL.out (Nat.le_refl _))
    have hX3 := Lib.hid (show At w1 (G 6) .i64 16 (dgt px) from ⟨(I.blk 6 16 rfl rfl).2, (I.row 8 6 rfl rfl).2.2⟩)
    have hX4 := Lib.hid (show At w1 (G 7) .i64 16 (dgt py) from ⟨(I.blk 7 16 rfl rfl).2, (I.row 9 7 rfl rfl).2.2⟩)
    clear kFx kFy
    clear I hz0 hha0 e1
    rw [he]
    clear he
    rw [hal3]
    rw [hal4]
    clear hal3 hal4
    generalize a1.tmps[7]?.getD undef = x7 at *
    generalize a1.tmps[8]?.getD undef = x8 at *
    generalize a1.tmps[9]?.getD undef = x9 at *
    generalize a1.tmps[10]?.getD undef = x10 at *
    generalize a1.tmps[11]?.getD undef = x11 at *
    generalize a1.tmps[12]?.getD undef = x12 at *
    obtain ⟨g3, hgz⟩ : ∃ g, G 6 = g := ⟨_, rfl⟩
    rw [hgz] at hX3 ⊢
    clear hgz
    obtain ⟨g4, hgz⟩ : ∃ g, G 7 = g := ⟨_, rfl⟩
    rw [hgz] at hX4 ⊢
    clear hgz
    generalize w1 = W1 at *
    go_upto_region 2 with (fail)
    by_cases hex : px = x
    · have hdx : decide (px = x) = true := decide_eq_true hex
      replace hqx := Lib.hid (hqx.out false hdx)
      replace hdx := Lib.hid hdx
      clear hex
      by_cases hey : py = y
      · have hdy : decide (py = y) = true := decide_eq_true hey
        replace hqy := Lib.hid (hqy.out false hdy)
        replace hdy := Lib.hid hdy
        clear hey
        generalize ha0 : Act.mk _ _ = a0
        have e1 : a0.tmps[1]?.getD undef = .pointer (some ⟨w.heap.size, 0, none⟩) := by rw [← ha0]; rfl
        have e3 : a0.tmps[3]?.getD undef = .pointer (some ⟨g3, 0, none⟩) := by rw [← ha0]; rfl
        have e4 : a0.tmps[4]?.getD undef = .pointer (some ⟨g4, 0, none⟩) := by rw [← ha0]; rfl
        have hz0 : a0.tmps.size = 42 := by rw [← ha0]; rfl
        have hha0 := Lib.hid ha0
        clear ha0
        refine wp_region_calm (fun jx_ => match jx_ with | 0 => SRel.is (.agg (arrK .i64 16 (dgt px))) | 1 => SRel.is (.agg (arrK .u64 4 (wd px))) | 2 => SRel.is (.pointer (some ⟨w.heap.size, 0, none⟩)) | 3 => SRel.is (.agg (arrK .u64 4 (wd x))) | 4 => SRel.is (.bool false) | 5 => SRel.is (.bool false) | 6 => SRel.is (.agg (arrK .i64 16 (dgt py))) | 7 => SRel.is (.agg (arrK .u64 4 (wd py))) | 8 => SRel.is (.pointer (some ⟨w.heap.size, 4, none⟩)) | 9 => SRel.is (.agg (arrK .u64 4 (wd y))) | 10 => SRel.is (.bool false) | 11 => SRel.is (.bool false) | _ => SRel.any) (by kernel_rfl) (by kernel_rfl) (by kernel_rfl) (slotsOk_of hz0 (by kernel_rfl)) ⟨?_, ?_, ?_, ?_, ?_, ?_, ?_, ?_, ?_, ?_, ?_, ?_, trivial⟩ ?_
        · refine calm_step rfl fun a ω κ hb hu hc hK => ?_
          have h3 : a.tmps[3]?.getD undef = .pointer (some ⟨g3, 0, none⟩) := (hu 3 rfl).trans e3
          have hk := Lib.hid (fun w1 (h : Below ω.heap.size ω w1) => hK (.agg (arrK .i64 16 (dgt px))) w1 rfl h)
          clear hK hu hc
          have hr1 := (hX3.out.step hb).row
          have hr2 := (hX3.out.step hb).eq
          go_simp
          exact hk.out _ (Below.refl _ _)
        · refine calm_step rfl fun a ω κ hb hu hc hK => ?_
          have h13 : a.tmps[13]?.getD undef = .agg (arrK .i64 16 (dgt px)) := hc 0 13 rfl rfl
          have hk := Lib.hid (fun w1 (h : Below ω.heap.size ω w1) => hK (.agg (arrK .u64 4 (wd px))) w1 rfl h)
          clear hK hu hc
          go_simp
          go_at_call 19
          refine (kNx.out _).mono ?_
          rintro e w1 ⟨rfl, hb1⟩
          exact hk.out _ hb1
        · refine calm_step rfl fun a ω κ hb hu hc hK => ?_
          have h1 : a.tmps[1]?.getD undef = .pointer (some ⟨w.heap.size, 0, none⟩) := (hu 1 rfl).trans e1
          have hk := Lib.hid (fun w1 (h : Below ω.heap.size ω w1) => hK (.pointer (some ⟨w.heap.size, 0, none⟩)) w1 rfl h)
          clear hK hu hc
          go_simp
          exact hk.out _ (Below.refl _ _)
        · refine calm_step rfl fun a ω κ hb hu hc hK => ?_
          have h15 : a.tmps[15]?.getD undef = .pointer (some ⟨w.heap.size, 0, none⟩) := hc 2 15 rfl rfl
          have hk := Lib.hid (fun w1 (h : Below ω.heap.size ω w1) => hK (.agg (arrK .u64 4 (wd x))) w1 rfl h)
          clear hK hu hc
          have hl := pt_0 (hA.out.step hb)
          have hl1 := hl.1
          have hl2 := hl.2
          go_simp
          exact hk.out _ (Below.refl _ _)
        · refine calm_step rfl fun a ω κ hb hu hc hK => ?_
          have h14 : a.tmps[14]?.getD undef = .agg (arrK .u64 4 (wd px)) := hc 1 14 rfl rfl
          have h16 : a.tmps[16]?.getD undef = .agg (arrK .u64 4 (wd x)) := hc 3 16 rfl rfl
          have hk := Lib.hid (fun w1 (h : Below ω.heap.size ω w1) => hK (.bool false) w1 rfl h)
          clear hK hu hc
          exact wp_eqlA (v := arrK .u64 4 (wd px)) (u := arrK .u64 4 (wd x)) (.inl rfl) (by kernel_rfl) (by go_simp) (by go_simp) (hqx.out _) (hk.out _ (Below.refl _ _))
        · refine calm_step rfl fun a ω κ hb hu hc hK => ?_
          have h17 : a.tmps[17]?.getD undef = .bool false := hc 4 17 rfl rfl
          have hk := Lib.hid (fun w1 (h : Below ω.heap.size ω w1) => hK (.bool false) w1 rfl h)
          clear hK hu hc
          go_simp
          exact hk.out _ (Below.refl _ _)
        · refine calm_step_guard (g := 5) (b := false) (d := 18) rfl rfl (fun a w hc => hc 5 18 rfl rfl) fun a ω κ hb hu hc hK => ?_
          have h4 : a.tmps[4]?.getD undef = .pointer (some ⟨g4, 0, none⟩) := (hu 4 rfl).trans e4
          have hk := Lib.hid (fun w1 (h : Below ω.heap.size ω w1) => hK (.agg (arrK .i64 16 (dgt py))) w1 rfl h)
          clear hK hu hc
          have hr1 := (hX4.out.step hb).row
          have hr2 := (hX4.out.step hb).eq
          go_simp
          exact hk.out _ (Below.refl _ _)
        · refine calm_step_guard (g := 5) (b := false) (d := 18) rfl rfl (fun a w hc => hc 5 18 rfl rfl) fun a ω κ hb hu hc hK => ?_
          have h19 : a.tmps[19]?.getD undef = .agg (arrK .i64 16 (dgt py)) := hc 6 19 rfl rfl
          have hk := Lib.hid (fun w1 (h : Below ω.heap.size ω w1) => hK (.agg (arrK .u64 4 (wd py))) w1 rfl h)
          clear hK hu hc
          go_simp
          go_at_call 19
          refine (kNy.out _).mono ?_
          rintro e w1 ⟨rfl, hb1⟩
          exact hk.out _ hb1
        · refine calm_step_guard (g := 5) (b := false) (d := 18) rfl rfl (fun a w hc => hc 5 18 rfl rfl) fun a ω κ hb hu hc hK => ?_
          have h1 : a.tmps[1]?.getD undef = .pointer (some ⟨w.heap.size, 0, none⟩) := (hu 1 rfl).trans e1
          have hk := Lib.hid (fun w1 (h : Below ω.heap.size ω w1) => hK (.pointer (some ⟨w.heap.size, 4, none⟩)) w1 rfl h)
          clear hK hu hc
          go_simp
          exact hk.out _ (Below.refl _ _)
        · refine calm_step_guard (g := 5) (b := false) (d := 18) rfl rfl (fun a w hc => hc 5 18 rfl rfl) fun a ω κ hb hu hc hK => ?_
          have h21 : a.tmps[21]?.getD undef = .pointer (some ⟨w.heap.size, 4, none⟩) := hc 8 21 rfl rfl
          have hk := Lib.hid (fun w1 (h : Below ω.heap.size ω w1) => hK (.agg (arrK .u64 4 (wd y))) w1 rfl h)
          clear hK hu hc
          have hl := pt_1 (hA.out.step hb)
          have hl1 := hl.1
          have hl2 := hl.2
          go_simp
          exact hk.out _ (Below.refl _ _)
        · refine calm_step_guard (g := 5) (b := false) (d := 18) rfl rfl (fun a w hc => hc 5 18 rfl rfl) fun a ω κ hb hu hc hK => ?_
          have h20 : a.tmps[20]?.getD undef = .agg (arrK .u64 4 (wd py)) := hc 7 20 rfl rfl
          have h22 : a.tmps[22]?.getD undef = .agg (arrK .u64 4 (wd y)) := hc 9 22 rfl rfl
          have hk := Lib.hid (fun w1 (h : Below ω.heap.size ω w1) => hK (.bool false) w1 rfl h)
          clear hK hu hc
          exact wp_eqlA (v := arrK .u64 4 (wd py)) (u := arrK .u64 4 (wd y)) (.inl rfl) (by kernel_rfl) (by go_simp) (by go_simp) (hqy.out _) (hk.out _ (Below.refl _ _))
        · refine calm_step rfl fun a ω κ hb hu hc hK => ?_
          have h18 : a.tmps[18]?.getD undef = .bool false := hc 5 18 rfl rfl
          have h23 : a.tmps[23]?.getD undef = .bool false := hc 10 23 rfl rfl
          have hk := Lib.hid (fun w1 (h : Below ω.heap.size ω w1) => hK (.bool false) w1 rfl h)
          clear hK hu hc
          go_simp
          exact hk.out _ (Below.refl _ _)
        · intro a1 w1 hb1 hu1 hsz1 hdf1 hc1
          have ha0 := hha0.out
          subst ha0
          have he := act_patch (n := 42) [false, false, false, false, false, false, false, false, false, false, false, false, false, true, true, true, true, true, true, true, true, true, true, true, true, false, false, false, false, false, false, false, false, false, false, false, false, false, false, false, false, false] rfl (by kernel_rfl) hu1 hsz1 hdf1
          simp only [patch, cond_true, cond_false, Nat.reduceAdd] at he
          have hkn24 : a1.tmps[24]?.getD undef = .bool false := hc1 11 24 rfl
          replace hA := Lib.hid (hA.out.step hb1)
          replace hL := Lib.hid (below_step hb1 hL.out (Nat.le_refl _))
          replace hX3 := Lib.hid (hX3.out.step hb1)
          replace hX4 := Lib.hid (hX4.out.step hb1)
          clear kNx kNy hqx hqy
          clear hb1 hu1 hsz1 hdf1 hc1 hz0 hha0 e1 e3 e4
          rw [he]
          clear he
          rw [hkn24]
          clear hkn24
          generalize a1.tmps[13]?.getD undef = x13 at *
          generalize a1.tmps[14]?.getD undef = x14 at *
          generalize a1.tmps[15]?.getD undef = x15 at *
          generalize a1.tmps[16]?.getD undef = x16 at *
          generalize a1.tmps[17]?.getD undef = x17 at *
          generalize a1.tmps[18]?.getD undef = x18 at *
          generalize a1.tmps[19]?.getD undef = x19 at *
          generalize a1.tmps[20]?.getD undef = x20 at *
          generalize a1.tmps[21]?.getD undef = x21 at *
          generalize a1.tmps[22]?.getD undef = x22 at *
          generalize a1.tmps[23]?.getD undef = x23 at *
          go_upto_region 4 with (fail)
          generalize ha0 : Act.mk _ _ = a0
          have e3 : a0.tmps[3]?.getD undef = .pointer (some ⟨g3, 0, none⟩) := by rw [← ha0]; rfl
          have e4 : a0.tmps[4]?.getD undef = .pointer (some ⟨g4, 0, none⟩) := by rw [← ha0]; rfl
          have hz0 : a0.tmps.size = 42 := by rw [← ha0]; rfl
          have hha0 := Lib.hid ha0
          clear ha0
          refine wp_region_fresh ⟨fun jx_ => match jx_ with | 0 => some (.agg (arrK .i64 16 (dgt px))) | 1 => some (.agg (arrK .i64 16 (dgt px))) | 2 => some (.agg (arrK .i64 16 (dgt xx))) | 3 => some (.agg (arrK .i64 16 (dgt py))) | 4 => some (.agg (arrK .i64 16 (dgt py))) | 5 => some (.agg (arrK .i64 16 (dgt yy))) | _ => none, fun jx_ => match jx_ with | 6 => some 16 | 7 => some 16 | _ => none, fun jx_ => match jx_ with | 8 => some 6 | 9 => some 7 | _ => none, fun jx_ => match jx_ with | 8 => arrK .i64 16 (dgt xx) | 9 => arrK .i64 16 (dgt yy) | _ => #[]⟩ (by kernel_rfl) (by kernel_rfl) (by kernel_rfl) (slotsOk_of hz0 (by kernel_rfl)) rfl ⟨?_, ?_, ?_, ?_, ?_, ?_, ?_, ?_, ?_, ?_, trivial⟩ ?_
          · refine fstep_val rfl rfl (calm_step rfl fun aa ω κ hb hu hc hK => ?_)
            have h3 : aa.tmps[3]?.getD undef = .pointer (some ⟨g3, 0, none⟩) := (hu 3 rfl).trans e3
            have hk := Lib.hid (fun w1 (h : Below ω.heap.size ω w1) => hK (.agg (arrK .i64 16 (dgt px))) w1 rfl h)
            clear hK hu hc
            have hr1 := (hX3.out.step hb).row
            have hr2 := (hX3.out.step hb).eq
            go_simp
            exact hk.out _ (Below.refl _ _)
          · refine fstep_val rfl rfl (calm_step rfl fun aa ω κ hb hu hc hK => ?_)
            have h3 : aa.tmps[3]?.getD undef = .pointer (some ⟨g3, 0, none⟩) := (hu 3 rfl).trans e3
            have hk := Lib.hid (fun w1 (h : Below ω.heap.size ω w1) => hK (.agg (arrK .i64 16 (dgt px))) w1 rfl h)
            clear hK hu hc
            have hr1 := (hX3.out.step hb).row
            have hr2 := (hX3.out.step hb).eq
            go_simp
            exact hk.out _ (Below.refl _ _)
          · refine fstep_val rfl rfl (calm_step rfl fun aa ω κ hb hu hc hK => ?_)
            have h25 : aa.tmps[25]?.getD undef = .agg (arrK .i64 16 (dgt px)) := hc 0 25 rfl rfl
            have h26 : aa.tmps[26]?.getD undef = .agg (arrK .i64 16 (dgt px)) := hc 1 26 rfl rfl
            have hk := Lib.hid (fun w1 (h : Below ω.heap.size ω w1) => hK (.agg (arrK .i64 16 (dgt xx))) w1 rfl h)
            clear hK hu hc
            go_simp
            go_at_call 25
            refine (kxx.out _).mono ?_
            rintro e w1 ⟨rfl, hb1⟩
            exact hk.out _ hb1
          · refine fstep_val rfl rfl (calm_step rfl fun aa ω κ hb hu hc hK => ?_)
            have h4 : aa.tmps[4]?.getD undef = .pointer (some ⟨g4, 0, none⟩) := (hu 4 rfl).trans e4
            have hk := Lib.hid (fun w1 (h : Below ω.heap.size ω w1) => hK (.agg (arrK .i64 16 (dgt py))) w1 rfl h)
            clear hK hu hc
            have hr1 := (hX4.out.step hb).row
            have hr2 := (hX4.out.step hb).eq
            go_simp
            exact hk.out _ (Below.refl _ _)
          · refine fstep_val rfl rfl (calm_step rfl fun aa ω κ hb hu hc hK => ?_)
            have h4 : aa.tmps[4]?.getD undef = .pointer (some ⟨g4, 0, none⟩) := (hu 4 rfl).trans e4
            have hk := Lib.hid (fun w1 (h : Below ω.heap.size ω w1) => hK (.agg (arrK .i64 16 (dgt py))) w1 rfl h)
            clear hK hu hc
            have hr1 := (hX4.out.step hb).row
            have hr2 := (hX4.out.step hb).eq
            go_simp
            exact hk.out _ (Below.refl _ _)
          · refine fstep_val rfl rfl (calm_step rfl fun aa ω κ hb hu hc hK => ?_)
            have h28 : aa.tmps[28]?.getD undef = .agg (arrK .i64 16 (dgt py)) := hc 3 28 rfl rfl
            have h29 : aa.tmps[29]?.getD undef = .agg (arrK .i64 16 (dgt py)) := hc 4 29 rfl rfl
            have hk := Lib.hid (fun w1 (h : Below ω.heap.size ω w1) => hK (.agg (arrK .i64 16 (dgt yy))) w1 rfl h)
            clear hK hu hc
            go_simp
            go_at_call 25
            refine (kyy.out _).mono ?_
            rintro e w1 ⟨rfl, hb1⟩
            exact hk.out _ hb1
          · refine fstep_al (n := 16) rfl rfl fun aa ω κ hK => ?_
            have hk := Lib.hid hK
            clear hK
            go_simp
            exact hk.out _ _ hc0
          · refine fstep_al (n := 16) rfl rfl fun aa ω κ hK => ?_
            have hk := Lib.hid hK
            clear hK
            go_simp
            exact hk.out _ _ hc0
          · refine fstep_st (j := 6) (n := 16) (d := 5) rfl rfl rfl rfl rfl hcxx.1 rfl rfl fun aa ω κ g hb hu hc hp hr hK => ?_
            have h27 : aa.tmps[27]?.getD undef = .agg (arrK .i64 16 (dgt xx)) := hc 2 27 rfl rfl
            have hk := Lib.hid hK
            clear hK hu hc
            have hcc := hcxx
            go_simp
            exact hk.out undef
          · refine fstep_st (j := 7) (n := 16) (d := 6) rfl rfl rfl rfl rfl hcyy.1 rfl rfl fun aa ω κ g hb hu hc hp hr hK => ?_
            have h30 : aa.tmps[30]?.getD undef = .agg (arrK .i64 16 (dgt yy)) := hc 5 30 rfl rfl
            have hk := Lib.hid hK
            clear hK hu hc
            have hcc := hcyy
            go_simp
            exact hk.out undef
          · intro a1 w1 G I
            have ha0 := hha0.out
            subst ha0
            have he := act_patch (n := 42) [false, false, false, false, false, true, true, false, false, false, false, false, false, false, false, false, false, false, false, false, false, false, false, false, false, true, true, true, true, true, true, false, false, false, false, false, false, false, false, false, false, false] rfl (by kernel_rfl) I.un I.sz I.df
            simp only [patch, cond_true, cond_false, Nat.reduceAdd] at he
            have hal5 := I.al 6 5 16 rfl rfl rfl
            have hal6 := I.al 7 6 16 rfl rfl rfl
            replace hA := Lib.hid (hA.out.step I.bel)
            replace hL := Lib.hid (below_step I.bel hL.out (Nat.le_refl _))
            replace hX3 := Lib.hid (hX3.out.step I.bel)
            replace hX4 := Lib.hid (hX4.out.step I.bel)
            have hX5 := Lib.hid (show At w1 (G 6) .i64 16 (dgt xx) from ⟨(I.blk 6 16 rfl rfl).2, (I.row 8 6 rfl rfl).2.2⟩)
            have hX6 := Lib.hid (show At w1 (G 7) .i64 16 (dgt yy) from ⟨(I.blk 7 16 rfl rfl).2, (I.row 9 7 rfl rfl).2.2⟩)
            clear kxx kyy
            clear I hz0 hha0 e3 e4
            rw [he]
            clear he
            rw [hal5]
            rw [hal6]
            clear hal5 hal6
            generalize a1.tmps[25]?.getD undef = x25 at *
            generalize a1.tmps[26]?.getD undef = x26 at *
            generalize a1.tmps[27]?.getD undef = x27 at *
            generalize a1.tmps[28]?.getD undef = x28 at *
            generalize a1.tmps[29]?.getD undef = x29 at *
            generalize a1.tmps[30]?.getD undef = x30 at *
            obtain ⟨g5, hgz⟩ : ∃ g, G 6 = g := ⟨_, rfl⟩
            rw [hgz] at hX5 ⊢
            clear hgz
            obtain ⟨g6, hgz⟩ : ∃ g, G 7 = g := ⟨_, rfl⟩
            rw [hgz] at hX6 ⊢
            clear hgz
            generalize w1 = W4 at *
            go_upto_region 5 with (fail)
            obtain ⟨r, hr⟩ : ∃ r, decide (yy = sm) = r := ⟨_, rfl⟩
            replace hqe := Lib.hid (hqe.out r hr)
            have hfin := Lib.hid (show R = r by rw [← hRR.out, hdx.out, hdy.out, hr]; rfl)
            clear hr
            generalize ha0 : Act.mk _ _ = a0
            have e5 : a0.tmps[5]?.getD undef = .pointer (some ⟨g5, 0, none⟩) := by rw [← ha0]; rfl
            have e6 : a0.tmps[6]?.getD undef = .pointer (some ⟨g6, 0, none⟩) := by rw [← ha0]; rfl
            have hz0 : a0.tmps.size = 42 := by rw [← ha0]; rfl
            have hha0 := Lib.hid ha0
            clear ha0
            refine wp_region_calm (fun jx_ => match jx_ with | 0 => SRel.is (.agg (arrK .i64 16 (dgt yy))) | 1 => SRel.is (.agg (arrK .i64 16 (dgt 1))) | 2 => SRel.is (.agg (arrK .i64 16 (dgt xx))) | 3 => SRel.is (.agg (arrK .i64 16 (dgt p1))) | 4 => SRel.is (.agg (arrK .i64 16 (dgt dn))) | 5 => SRel.is (.agg (arrK .i64 16 (dgt xx))) | 6 => SRel.is (.agg (arrK .i64 16 (dgt q1))) | 7 => SRel.is (.agg (arrK .i64 16 (dgt yy))) | 8 => SRel.is (.agg (arrK .i64 16 (dgt q2))) | 9 => SRel.is (.agg (arrK .i64 16 (dgt sm))) | 10 => SRel.is (.bool r) | 11 => SRel.is (.bool r) | _ => SRel.any) (by kernel_rfl) (by kernel_rfl) (by kernel_rfl) (slotsOk_of hz0 (by kernel_rfl)) ⟨?_, ?_, ?_, ?_, ?_, ?_, ?_, ?_, ?_, ?_, ?_, ?_, trivial⟩ ?_
            · refine calm_step rfl fun a ω κ hb hu hc hK => ?_
              have h6 : a.tmps[6]?.getD undef = .pointer (some ⟨g6, 0, none⟩) := (hu 6 rfl).trans e6
              have hk := Lib.hid (fun w1 (h : Below ω.heap.size ω w1) => hK (.agg (arrK .i64 16 (dgt yy))) w1 rfl h)
              clear hK hu hc
              have hr1 := (hX6.out.step hb).row
              have hr2 := (hX6.out.step hb).eq
              go_simp
              exact hk.out _ (Below.refl _ _)
            · refine calm_step rfl fun a ω κ hb hu hc hK => ?_
              have hk := Lib.hid (fun w1 (h : Below ω.heap.size ω w1) => hK (.agg (arrK .i64 16 (dgt 1))) w1 rfl h)
              clear hK hu hc
              go_simp
              go_at_call 89
              refine (h1.out _).mono ?_
              rintro e w1 ⟨rfl, hb1⟩
              exact hk.out _ hb1
            · refine calm_step rfl fun a ω κ hb hu hc hK => ?_
              have h5 : a.tmps[5]?.getD undef = .pointer (some ⟨g5, 0, none⟩) := (hu 5 rfl).trans e5
              have hk := Lib.hid (fun w1 (h : Below ω.heap.size ω w1) => hK (.agg (arrK .i64 16 (dgt xx))) w1 rfl h)
              clear hK hu hc
              have hr1 := (hX5.out.step hb).row
              have hr2 := (hX5.out.step hb).eq
              go_simp
              exact hk.out _ (Below.refl _ _)
            · refine calm_step rfl fun a ω κ hb hu hc hK => ?_
              have h32 : a.tmps[32]?.getD undef = .agg (arrK .i64 16 (dgt 1)) := hc 1 32 rfl rfl
              have h33 : a.tmps[33]?.getD undef = .agg (arrK .i64 16 (dgt xx)) := hc 2 33 rfl rfl
              have hk := Lib.hid (fun w1 (h : Below ω.heap.size ω w1) => hK (.agg (arrK .i64 16 (dgt p1))) w1 rfl h)
              clear hK hu hc
              go_simp
              go_at_call 21
              refine (kp1.out _).mono ?_
              rintro e w1 ⟨rfl, hb1⟩
              exact hk.out _ hb1
            · refine calm_step rfl fun a ω κ hb hu hc hK => ?_
              have hk := Lib.hid (fun w1 (h : Below ω.heap.size ω w1) => hK (.agg (arrK .i64 16 (dgt dn))) w1 rfl h)
              clear hK hu hc
              go_simp
              go_at_call 105
              refine (kd.out _).mono ?_
              rintro e w1 ⟨rfl, hb1⟩
              exact hk.out _ hb1
            · refine calm_step rfl fun a ω κ hb hu hc hK => ?_
              have h5 : a.tmps[5]?.getD undef = .pointer (some ⟨g5, 0, none⟩) := (hu 5 rfl).trans e5
              have hk := Lib.hid (fun w1 (h : Below ω.heap.size ω w1) => hK (.agg (arrK .i64 16 (dgt xx))) w1 rfl h)
              clear hK hu hc
              have hr1 := (hX5.out.step hb).row
              have hr2 := (hX5.out.step hb).eq
              go_simp
              exact hk.out _ (Below.refl _ _)
            · refine calm_step rfl fun a ω κ hb hu hc hK => ?_
              have h35 : a.tmps[35]?.getD undef = .agg (arrK .i64 16 (dgt dn)) := hc 4 35 rfl rfl
              have h36 : a.tmps[36]?.getD undef = .agg (arrK .i64 16 (dgt xx)) := hc 5 36 rfl rfl
              have hk := Lib.hid (fun w1 (h : Below ω.heap.size ω w1) => hK (.agg (arrK .i64 16 (dgt q1))) w1 rfl h)
              clear hK hu hc
              go_simp
              go_at_call 25
              refine (kq1.out _).mono ?_
              rintro e w1 ⟨rfl, hb1⟩
              exact hk.out _ hb1
            · refine calm_step rfl fun a ω κ hb hu hc hK => ?_
              have h6 : a.tmps[6]?.getD undef = .pointer (some ⟨g6, 0, none⟩) := (hu 6 rfl).trans e6
              have hk := Lib.hid (fun w1 (h : Below ω.heap.size ω w1) => hK (.agg (arrK .i64 16 (dgt yy))) w1 rfl h)
              clear hK hu hc
              have hr1 := (hX6.out.step hb).row
              have hr2 := (hX6.out.step hb).eq
              go_simp
              exact hk.out _ (Below.refl _ _)
            · refine calm_step rfl fun a ω κ hb hu hc hK => ?_
              have h37 : a.tmps[37]?.getD undef = .agg (arrK .i64 16 (dgt q1)) := hc 6 37 rfl rfl
              have h38 : a.tmps[38]?.getD undef = .agg (arrK .i64 16 (dgt yy)) := hc 7 38 rfl rfl
              have hk := Lib.hid (fun w1 (h : Below ω.heap.size ω w1) => hK (.agg (arrK .i64 16 (dgt q2))) w1 rfl h)
              clear hK hu hc
              go_simp
              go_at_call 25
              refine (kq2.out _).mono ?_
              rintro e w1 ⟨rfl, hb1⟩
              exact hk.out _ hb1
            · refine calm_step rfl fun a ω κ hb hu hc hK => ?_
              have h34 : a.tmps[34]?.getD undef = .agg (arrK .i64 16 (dgt p1)) := hc 3 34 rfl rfl
              have h39 : a.tmps[39]?.getD undef = .agg (arrK .i64 16 (dgt q2)) := hc 8 39 rfl rfl
              have hk := Lib.hid (fun w1 (h : Below ω.heap.size ω w1) => hK (.agg (arrK .i64 16 (dgt sm))) w1 rfl h)
              clear hK hu hc
              go_simp
              go_at_call 21
              refine (ksm.out _).mono ?_
              rintro e w1 ⟨rfl, hb1⟩
              exact hk.out _ hb1
            · refine calm_step rfl fun a ω κ hb hu hc hK => ?_
              have h31 : a.tmps[31]?.getD undef = .agg (arrK .i64 16 (dgt yy)) := hc 0 31 rfl rfl
              have h40 : a.tmps[40]?.getD undef = .agg (arrK .i64 16 (dgt sm)) := hc 9 40 rfl rfl
              have hk := Lib.hid (fun w1 (h : Below ω.heap.size ω w1) => hK (.bool r) w1 rfl h)
              clear hK hu hc
              exact wp_eqlA (v := arrK .i64 16 (dgt yy)) (u := arrK .i64 16 (dgt sm)) (.inr rfl) (by kernel_rfl) (by go_simp) (by go_simp) (hqe.out _) (hk.out _ (Below.refl _ _))
            · refine calm_step rfl fun a ω κ hb hu hc hK => ?_
              have h41 : a.tmps[41]?.getD undef = .bool r := hc 10 41 rfl rfl
              have hk := Lib.hid (fun w1 (h : Below ω.heap.size ω w1) => hK (.bool r) w1 rfl h)
              clear hK hu hc
              go_simp
              exact hk.out _ (Below.refl _ _)
            · intro a1 w1 hb1 hu1 hsz1 hdf1 hc1
              have ha0 := hha0.out
              subst ha0
              have he := act_patch (n := 42) [false, false, true, false, false, false, false, false, false, false, false, false, false, false, false, false, false, false, false, false, false, false, false, false, false, false, false, false, false, false, false, true, true, true, true, true, true, true, true, true, true, true] rfl (by kernel_rfl) hu1 hsz1 hdf1
              simp only [patch, cond_true, cond_false, Nat.reduceAdd] at he
              have hkn2 : a1.tmps[2]?.getD undef = .bool r := hc1 11 2 rfl
              replace hL := Lib.hid (below_step hb1 hL.out (Nat.le_refl _))
              clear hb1 hu1 hsz1 hdf1 hc1 hz0 hha0 e5 e6
              rw [he]
              clear he
              rw [hkn2]
              clear hkn2
              generalize a1.tmps[31]?.getD undef = x31 at *
              generalize a1.tmps[32]?.getD undef = x32 at *
              generalize a1.tmps[33]?.getD undef = x33 at *
              generalize a1.tmps[34]?.getD undef = x34 at *
              generalize a1.tmps[35]?.getD undef = x35 at *
              generalize a1.tmps[36]?.getD undef = x36 at *
              generalize a1.tmps[37]?.getD undef = x37 at *
              generalize a1.tmps[38]?.getD undef = x38 at *
              generalize a1.tmps[39]?.getD undef = x39 at *
              generalize a1.tmps[40]?.getD undef = x40 at *
              generalize a1.tmps[41]?.getD undef = x41 at *
              go_wp2_with fail
              exact ret_tmp (p := 2) (v := .bool r) rfl (by simp) rfl ⟨by rw [hfin.out], hL.out⟩

      · have hdy : decide (py = y) = false := decide_eq_false hey
        replace hqy := Lib.hid (hqy.out true hdy)
        replace hdy := Lib.hid hdy
        clear hey
        generalize ha0 : Act.mk _ _ = a0
        have e1 : a0.tmps[1]?.getD undef = .pointer (some ⟨w.heap.size, 0, none⟩) := by rw [← ha0]; rfl
        have e3 : a0.tmps[3]?.getD undef = .pointer (some ⟨g3, 0, none⟩) := by rw [← ha0]; rfl
        have e4 : a0.tmps[4]?.getD undef = .pointer (some ⟨g4, 0, none⟩) := by rw [← ha0]; rfl
        have hz0 : a0.tmps.size = 42 := by rw [← ha0]; rfl
        have hha0 := Lib.hid ha0
        clear ha0
        refine wp_region_calm (fun jx_ => match jx_ with | 0 => SRel.is (.agg (arrK .i64 16 (dgt px))) | 1 => SRel.is (.agg (arrK .u64 4 (wd px))) | 2 => SRel.is (.pointer (some ⟨w.heap.size, 0, none⟩)) | 3 => SRel.is (.agg (arrK .u64 4 (wd x))) | 4 => SRel.is (.bool false) | 5 => SRel.is (.bool false) | 6 => SRel.is (.agg (arrK .i64 16 (dgt py))) | 7 => SRel.is (.agg (arrK .u64 4 (wd py))) | 8 => SRel.is (.pointer (some ⟨w.heap.size, 4, none⟩)) | 9 => SRel.is (.agg (arrK .u64 4 (wd y))) | 10 => SRel.is (.bool true) | 11 => SRel.is (.bool true) | _ => SRel.any) (by kernel_rfl) (by kernel_rfl) (by kernel_rfl) (slotsOk_of hz0 (by kernel_rfl)) ⟨?_, ?_, ?_, ?_, ?_, ?_, ?_, ?_, ?_, ?_, ?_, ?_, trivial⟩ ?_
        · refine calm_step rfl fun a ω κ hb hu hc hK => ?_
          have h3 : a.tmps[3]?.getD undef = .pointer (some ⟨g3, 0, none⟩) := (hu 3 rfl).trans e3
          have hk := Lib.hid (fun w1 (h : Below ω.heap.size ω w1) => hK (.agg (arrK .i64 16 (dgt px))) w1 rfl h)
          clear hK hu hc
          have hr1 := (hX3.out.step hb).row
          have hr2 := (hX3.out.step hb).eq
          go_simp
          exact hk.out _ (Below.refl _ _)
        · refine calm_step rfl fun a ω κ hb hu hc hK => ?_
          have h13 : a.tmps[13]?.getD undef = .agg (arrK .i64 16 (dgt px)) := hc 0 13 rfl rfl
          have hk := Lib.hid (fun w1 (h : Below ω.heap.size ω w1) => hK (.agg (arrK .u64 4 (wd px))) w1 rfl h)
          clear hK hu hc
          go_simp
          go_at_call 19
          refine (kNx.out _).mono ?_
          rintro e w1 ⟨rfl, hb1⟩
          exact hk.out _ hb1
        · refine calm_step rfl fun a ω κ hb hu hc hK => ?_
          have h1 : a.tmps[1]?.getD undef = .pointer (some ⟨w.heap.size, 0, none⟩) := (hu 1 rfl).trans e1
          have hk := Lib.hid (fun w1 (h : Below ω.heap.size ω w1) => hK (.pointer (some ⟨w.heap.size, 0, none⟩)) w1 rfl h)
          clear hK hu hc
          go_simp
          exact hk.out _ (Below.refl _ _)
        · refine calm_step rfl fun a ω κ hb hu hc hK => ?_
          have h15 : a.tmps[15]?.getD undef = .pointer (some ⟨w.heap.size, 0, none⟩) := hc 2 15 rfl rfl
          have hk := Lib.hid (fun w1 (h : Below ω.heap.size ω w1) => hK (.agg (arrK .u64 4 (wd x))) w1 rfl h)
          clear hK hu hc
          have hl := pt_0 (hA.out.step hb)
          have hl1 := hl.1
          have hl2 := hl.2
          go_simp
          exact hk.out _ (Below.refl _ _)
        · refine calm_step rfl fun a ω κ hb hu hc hK => ?_
          have h14 : a.tmps[14]?.getD undef = .agg (arrK .u64 4 (wd px)) := hc 1 14 rfl rfl
          have h16 : a.tmps[16]?.getD undef = .agg (arrK .u64 4 (wd x)) := hc 3 16 rfl rfl
          have hk := Lib.hid (fun w1 (h : Below ω.heap.size ω w1) => hK (.bool false) w1 rfl h)
          clear hK hu hc
          exact wp_eqlA (v := arrK .u64 4 (wd px)) (u := arrK .u64 4 (wd x)) (.inl rfl) (by kernel_rfl) (by go_simp) (by go_simp) (hqx.out _) (hk.out _ (Below.refl _ _))
        · refine calm_step rfl fun a ω κ hb hu hc hK => ?_
          have h17 : a.tmps[17]?.getD undef = .bool false := hc 4 17 rfl rfl
          have hk := Lib.hid (fun w1 (h : Below ω.heap.size ω w1) => hK (.bool false) w1 rfl h)
          clear hK hu hc
          go_simp
          exact hk.out _ (Below.refl _ _)
        · refine calm_step_guard (g := 5) (b := false) (d := 18) rfl rfl (fun a w hc => hc 5 18 rfl rfl) fun a ω κ hb hu hc hK => ?_
          have h4 : a.tmps[4]?.getD undef = .pointer (some ⟨g4, 0, none⟩) := (hu 4 rfl).trans e4
          have hk := Lib.hid (fun w1 (h : Below ω.heap.size ω w1) => hK (.agg (arrK .i64 16 (dgt py))) w1 rfl h)
          clear hK hu hc
          have hr1 := (hX4.out.step hb).row
          have hr2 := (hX4.out.step hb).eq
          go_simp
          exact hk.out _ (Below.refl _ _)
        · refine calm_step_guard (g := 5) (b := false) (d := 18) rfl rfl (fun a w hc => hc 5 18 rfl rfl) fun a ω κ hb hu hc hK => ?_
          have h19 : a.tmps[19]?.getD undef = .agg (arrK .i64 16 (dgt py)) := hc 6 19 rfl rfl
          have hk := Lib.hid (fun w1 (h : Below ω.heap.size ω w1) => hK (.agg (arrK .u64 4 (wd py))) w1 rfl h)
          clear hK hu hc
          go_simp
          go_at_call 19
          refine (kNy.out _).mono ?_
          rintro e w1 ⟨rfl, hb1⟩
          exact hk.out _ hb1
        · refine calm_step_guard (g := 5) (b := false) (d := 18) rfl rfl (fun a w hc => hc 5 18 rfl rfl) fun a ω κ hb hu hc hK => ?_
          have h1 : a.tmps[1]?.getD undef = .pointer (some ⟨w.heap.size, 0, none⟩) := (hu 1 rfl).trans e1
          have hk := Lib.hid (fun w1 (h : Below ω.heap.size ω w1) => hK (.pointer (some ⟨w.heap.size, 4, none⟩)) w1 rfl h)
          clear hK hu hc
          go_simp
          exact hk.out _ (Below.refl _ _)
        · refine calm_step_guard (g := 5) (b := false) (d := 18) rfl rfl (fun a w hc => hc 5 18 rfl rfl) fun a ω κ hb hu hc hK => ?_
          have h21 : a.tmps[21]?.getD undef = .pointer (some ⟨w.heap.size, 4, none⟩) := hc 8 21 rfl rfl
          have hk := Lib.hid (fun w1 (h : Below ω.heap.size ω w1) => hK (.agg (arrK .u64 4 (wd y))) w1 rfl h)
          clear hK hu hc
          have hl := pt_1 (hA.out.step hb)
          have hl1 := hl.1
          have hl2 := hl.2
          go_simp
          exact hk.out _ (Below.refl _ _)
        · refine calm_step_guard (g := 5) (b := false) (d := 18) rfl rfl (fun a w hc => hc 5 18 rfl rfl) fun a ω κ hb hu hc hK => ?_
          have h20 : a.tmps[20]?.getD undef = .agg (arrK .u64 4 (wd py)) := hc 7 20 rfl rfl
          have h22 : a.tmps[22]?.getD undef = .agg (arrK .u64 4 (wd y)) := hc 9 22 rfl rfl
          have hk := Lib.hid (fun w1 (h : Below ω.heap.size ω w1) => hK (.bool true) w1 rfl h)
          clear hK hu hc
          exact wp_eqlA (v := arrK .u64 4 (wd py)) (u := arrK .u64 4 (wd y)) (.inl rfl) (by kernel_rfl) (by go_simp) (by go_simp) (hqy.out _) (hk.out _ (Below.refl _ _))
        · refine calm_step rfl fun a ω κ hb hu hc hK => ?_
          have h18 : a.tmps[18]?.getD undef = .bool false := hc 5 18 rfl rfl
          have h23 : a.tmps[23]?.getD undef = .bool true := hc 10 23 rfl rfl
          have hk := Lib.hid (fun w1 (h : Below ω.heap.size ω w1) => hK (.bool true) w1 rfl h)
          clear hK hu hc
          go_simp
          exact hk.out _ (Below.refl _ _)
        · intro a1 w1 hb1 hu1 hsz1 hdf1 hc1
          have ha0 := hha0.out
          subst ha0
          have he := act_patch (n := 42) [false, false, false, false, false, false, false, false, false, false, false, false, false, true, true, true, true, true, true, true, true, true, true, true, true, false, false, false, false, false, false, false, false, false, false, false, false, false, false, false, false, false] rfl (by kernel_rfl) hu1 hsz1 hdf1
          simp only [patch, cond_true, cond_false, Nat.reduceAdd] at he
          have hkn24 : a1.tmps[24]?.getD undef = .bool true := hc1 11 24 rfl
          replace hA := Lib.hid (hA.out.step hb1)
          replace hL := Lib.hid (below_step hb1 hL.out (Nat.le_refl _))
          replace hX3 := Lib.hid (hX3.out.step hb1)
          replace hX4 := Lib.hid (hX4.out.step hb1)
          clear kNx kNy hqx hqy
          clear hb1 hu1 hsz1 hdf1 hc1 hz0 hha0 e1 e3 e4
          rw [he]
          clear he
          rw [hkn24]
          clear hkn24
          generalize a1.tmps[13]?.getD undef = x13 at *
          generalize a1.tmps[14]?.getD undef = x14 at *
          generalize a1.tmps[15]?.getD undef = x15 at *
          generalize a1.tmps[16]?.getD undef = x16 at *
          generalize a1.tmps[17]?.getD undef = x17 at *
          generalize a1.tmps[18]?.getD undef = x18 at *
          generalize a1.tmps[19]?.getD undef = x19 at *
          generalize a1.tmps[20]?.getD undef = x20 at *
          generalize a1.tmps[21]?.getD undef = x21 at *
          generalize a1.tmps[22]?.getD undef = x22 at *
          generalize a1.tmps[23]?.getD undef = x23 at *
          go_wp2_with fail
          exact ret_tmp (p := 2) (v := .bool false) rfl (by simp) rfl ⟨by rw [← hRR.out, hdx.out, hdy.out]; rfl, hL.out⟩

    · have hdx : decide (px = x) = false := decide_eq_false hex
      replace hqx := Lib.hid (hqx.out true hdx)
      replace hdx := Lib.hid hdx
      clear hex
      generalize ha0 : Act.mk _ _ = a0
      have e1 : a0.tmps[1]?.getD undef = .pointer (some ⟨w.heap.size, 0, none⟩) := by rw [← ha0]; rfl
      have e3 : a0.tmps[3]?.getD undef = .pointer (some ⟨g3, 0, none⟩) := by rw [← ha0]; rfl
      have e4 : a0.tmps[4]?.getD undef = .pointer (some ⟨g4, 0, none⟩) := by rw [← ha0]; rfl
      have hz0 : a0.tmps.size = 42 := by rw [← ha0]; rfl
      have hha0 := Lib.hid ha0
      clear ha0
      refine wp_region_calm (fun jx_ => match jx_ with | 0 => SRel.is (.agg (arrK .i64 16 (dgt px))) | 1 => SRel.is (.agg (arrK .u64 4 (wd px))) | 2 => SRel.is (.pointer (some ⟨w.heap.size, 0, none⟩)) | 3 => SRel.is (.agg (arrK .u64 4 (wd x))) | 4 => SRel.is (.bool true) | 5 => SRel.is (.bool true) | 6 => SRel.any | 7 => SRel.any | 8 => SRel.any | 9 => SRel.any | 10 => SRel.any | 11 => SRel.is (.bool true) | _ => SRel.any) (by kernel_rfl) (by kernel_rfl) (by kernel_rfl) (slotsOk_of hz0 (by kernel_rfl)) ⟨?_, ?_, ?_, ?_, ?_, ?_, ?_, ?_, ?_, ?_, ?_, ?_, trivial⟩ ?_
      · refine calm_step rfl fun a ω κ hb hu hc hK => ?_
        have h3 : a.tmps[3]?.getD undef = .pointer (some ⟨g3, 0, none⟩) := (hu 3 rfl).trans e3
        have hk := Lib.hid (fun w1 (h : Below ω.heap.size ω w1) => hK (.agg (arrK .i64 16 (dgt px))) w1 rfl h)
        clear hK hu hc
        have hr1 := (hX3.out.step hb).row
        have hr2 := (hX3.out.step hb).eq
        go_simp
        exact hk.out _ (Below.refl _ _)
      · refine calm_step rfl fun a ω κ hb hu hc hK => ?_
        have h13 : a.tmps[13]?.getD undef = .agg (arrK .i64 16 (dgt px)) := hc 0 13 rfl rfl
        have hk := Lib.hid (fun w1 (h : Below ω.heap.size ω w1) => hK (.agg (arrK .u64 4 (wd px))) w1 rfl h)
        clear hK hu hc
        go_simp
        go_at_call 19
        refine (kNx.out _).mono ?_
        rintro e w1 ⟨rfl, hb1⟩
        exact hk.out _ hb1
      · refine calm_step rfl fun a ω κ hb hu hc hK => ?_
        have h1 : a.tmps[1]?.getD undef = .pointer (some ⟨w.heap.size, 0, none⟩) := (hu 1 rfl).trans e1
        have hk := Lib.hid (fun w1 (h : Below ω.heap.size ω w1) => hK (.pointer (some ⟨w.heap.size, 0, none⟩)) w1 rfl h)
        clear hK hu hc
        go_simp
        exact hk.out _ (Below.refl _ _)
      · refine calm_step rfl fun a ω κ hb hu hc hK => ?_
        have h15 : a.tmps[15]?.getD undef = .pointer (some ⟨w.heap.size, 0, none⟩) := hc 2 15 rfl rfl
        have hk := Lib.hid (fun w1 (h : Below ω.heap.size ω w1) => hK (.agg (arrK .u64 4 (wd x))) w1 rfl h)
        clear hK hu hc
        have hl := pt_0 (hA.out.step hb)
        have hl1 := hl.1
        have hl2 := hl.2
        go_simp
        exact hk.out _ (Below.refl _ _)
      · refine calm_step rfl fun a ω κ hb hu hc hK => ?_
        have h14 : a.tmps[14]?.getD undef = .agg (arrK .u64 4 (wd px)) := hc 1 14 rfl rfl
        have h16 : a.tmps[16]?.getD undef = .agg (arrK .u64 4 (wd x)) := hc 3 16 rfl rfl
        have hk := Lib.hid (fun w1 (h : Below ω.heap.size ω w1) => hK (.bool true) w1 rfl h)
        clear hK hu hc
        exact wp_eqlA (v := arrK .u64 4 (wd px)) (u := arrK .u64 4 (wd x)) (.inl rfl) (by kernel_rfl) (by go_simp) (by go_simp) (hqx.out _) (hk.out _ (Below.refl _ _))
      · refine calm_step rfl fun a ω κ hb hu hc hK => ?_
        have h17 : a.tmps[17]?.getD undef = .bool true := hc 4 17 rfl rfl
        have hk := Lib.hid (fun w1 (h : Below ω.heap.size ω w1) => hK (.bool true) w1 rfl h)
        clear hK hu hc
        go_simp
        exact hk.out _ (Below.refl _ _)
      · exact calm_step_skip (g := 5) (b := false) (d := 18) rfl rfl (fun a w hc => hc 5 18 rfl rfl) (fun _ => trivial)
      · exact calm_step_skip (g := 5) (b := false) (d := 18) rfl rfl (fun a w hc => hc 5 18 rfl rfl) (fun _ => trivial)
      · exact calm_step_skip (g := 5) (b := false) (d := 18) rfl rfl (fun a w hc => hc 5 18 rfl rfl) (fun _ => trivial)
      · exact calm_step_skip (g := 5) (b := false) (d := 18) rfl rfl (fun a w hc => hc 5 18 rfl rfl) (fun _ => trivial)
      · exact calm_step_skip (g := 5) (b := false) (d := 18) rfl rfl (fun a w hc => hc 5 18 rfl rfl) (fun _ => trivial)
      · refine calm_step rfl fun a ω κ hb hu hc hK => ?_
        have h18 : a.tmps[18]?.getD undef = .bool true := hc 5 18 rfl rfl
        have h23 : (SRel.any).p (a.tmps[23]?.getD undef) ω := hc 10 23 rfl rfl
        have hk := Lib.hid (fun w1 (h : Below ω.heap.size ω w1) => hK (.bool true) w1 rfl h)
        clear hK hu hc
        go_simp
        exact hk.out _ (Below.refl _ _)
      · intro a1 w1 hb1 hu1 hsz1 hdf1 hc1
        have ha0 := hha0.out
        subst ha0
        have he := act_patch (n := 42) [false, false, false, false, false, false, false, false, false, false, false, false, false, true, true, true, true, true, true, true, true, true, true, true, true, false, false, false, false, false, false, false, false, false, false, false, false, false, false, false, false, false] rfl (by kernel_rfl) hu1 hsz1 hdf1
        simp only [patch, cond_true, cond_false, Nat.reduceAdd] at he
        have hkn24 : a1.tmps[24]?.getD undef = .bool true := hc1 11 24 rfl
        replace hA := Lib.hid (hA.out.step hb1)
        replace hL := Lib.hid (below_step hb1 hL.out (Nat.le_refl _))
        replace hX3 := Lib.hid (hX3.out.step hb1)
        replace hX4 := Lib.hid (hX4.out.step hb1)
        clear kNx kNy hqx hqy
        clear hb1 hu1 hsz1 hdf1 hc1 hz0 hha0 e1 e3 e4
        rw [he]
        clear he
        rw [hkn24]
        clear hkn24
        generalize a1.tmps[13]?.getD undef = x13 at *
        generalize a1.tmps[14]?.getD undef = x14 at *
        generalize a1.tmps[15]?.getD undef = x15 at *
        generalize a1.tmps[16]?.getD undef = x16 at *
        generalize a1.tmps[17]?.getD undef = x17 at *
        generalize a1.tmps[18]?.getD undef = x18 at *
        generalize a1.tmps[19]?.getD undef = x19 at *
        generalize a1.tmps[20]?.getD undef = x20 at *
        generalize a1.tmps[21]?.getD undef = x21 at *
        generalize a1.tmps[22]?.getD undef = x22 at *
        generalize a1.tmps[23]?.getD undef = x23 at *
        go_wp2_with fail
        exact ret_tmp (p := 2) (v := .bool false) rfl (by simp) rfl ⟨by rw [← hRR.out, hdx.out]; rfl, hL.out⟩

end Go.Proofs.Ytodcjeaannfbnaa
namespace Go.Proofs.Ytodcjeaannfbnaa
open Go Go.ChangeShapes Go.WideShapes Go.ChangeAt Go.RowKit
set_option maxRecDepth 100000
theorem part_4 (F f : Nat → Nat) (o : Nat) (ho : o + 4 ≤ 8) (h : ∀ i < 4, F (o + i) = f i) (w : World) : (part 24 (arrK .u64 8 F) o).run Try.prog w = .ok (.agg (arrK .u64 4 f)) w := by
  obtain ⟨i, hi, hs⟩ : ∃ i, Try.prog.info? 24 = some i ∧ i.size = 4 := by
    have h : (Try.prog.info? 24).map (·.size) = some 4 := by kernel_rfl
    cases hi : Try.prog.info? 24 with
    | none => rw [hi] at h; cases h
    | some i => rw [hi] at h; exact ⟨i, rfl, by simpa using h⟩
  have h2 : (arrK .u64 8 F).extract o (o + 4) = arrK .u64 4 f := by
    rw [arrK_V .u64 8, arrV_extract ho, arrK_V .u64 4]
    exact arrV_congr fun i hi => by rw [h i hi]
  simp [part, isAgg, run_underlying Try.underlying24, sizeOf, typeInfo, hi, hs, h2]
theorem equalIn_4 (f : Nat → Nat) (k : Nat) (w : World) : (Op.equalIn (k + 2) 24 (.agg (arrK .u64 4 f)) (.agg (arrK .u64 4 f))).run Try.prog w = .ok true w := by
  rw [run_equalIn_arrK Try.underlying24 Try.underlying22 (by kernel_rfl)]; simp
theorem eqlPt (f g : Nat → Nat) (w : World) : (Op.equalIn 10000 42 (.agg (arrK .u64 8 (cat2 f g))) (.agg (arrK .u64 8 (cat2 f g)))).run Try.prog w = .ok true w := by
  rw [show 10000 = 9999 + 1 from rfl, Op.equalIn.eq_2]
  simp only [Sem.run_bind, run_underlying Try.underlying42, Result.andThen_ok]
  have hst : Try.prog.stoodInHeld 42 = false := by kernel_rfl
  have h1 := part_4 (cat2 f g) f 0 (by omega) (fun i hi => by unfold cat2; rw [if_pos (by omega), Nat.zero_add]) w
  have h2 := part_4 (cat2 f g) g 4 (by omega) (fun i hi => by unfold cat2; rw [if_neg (by omega), Nat.add_sub_cancel_left]) w
  have hl := equalIn_4 f 9997 w
  have hm := equalIn_4 g 9997 w
  simp only [run_program, Result.andThen_ok, hst, Bool.false_eq_true, if_false, Sem.run_bind]
  simp [List.forIn_cons, h1, h2, hm, hl, Sem.run_bind]
theorem neqPt (f g : Nat → Nat) (w : World) : (binOp .neq 42 (.agg (arrK .u64 8 (cat2 f g))) (.agg (arrK .u64 8 (cat2 f g)))).run Try.prog w = .ok (.bool false) w := by rw [run_neq_struct, eqlPt]; rfl
theorem eqlPtB (f g : Nat → Nat) (w : World) : (binOp .eql 42 (.agg (arrK .u64 8 (cat2 f g))) (.agg (arrK .u64 8 (cat2 f g)))).run Try.prog w = .ok (.bool true) w := by rw [run_eql_struct, eqlPt]; rfl
section
variable {P : Program} {ops : Array Oper} {Q : Exit → Act → World → Prop}
theorem wpList_opW {rest : List Oper} {o : Oper} {a : Act} {w : World} (hw : Region.wanted o (yielded ops a.tmps) = true) (h : ∀ K : Act → World → Prop, (∀ a' w', wpList P ops Q rest a' w' → K a' w') → Oper.wp P o a w K Q) : wpList P ops Q (o :: rest) a w :=
  wpList_step fun K hK => by rw [if_pos hw]; exact h K hK
theorem calm_step_skipN {R : Nat → SRel} {a0 : Act} {w0 : World} {i g : Nat} {b : Bool} {d : Tmp} {o : Oper} (hg : o.guard = some (g, b)) (hd : dstAt ops g = some d)
    (hv : ∀ (a : Act) (w : World), Came ops R o a w → a.tmps[d]?.getD undef ≠ .bool b) (hR : ∀ w, (R i).p undef w) : StepOk P ops Q R a0 w0 i o := by
  intro a w K hb hu hc hK
  have hy : yielded ops a.tmps g ≠ some b := by
    intro hy
    have h1 := hv a w hc
    unfold dstAt at hd
    unfold yielded at hy
    rw [hd, Option.bind_some] at hy
    cases h2 : a.tmps[d]? with
    | none => rw [h2] at hy; cases hy
    | some v =>
      rw [h2] at hy h1
      cases v with
      | bool x =>
        have h3 : x = b := by simpa using hy
        subst h3
        exact h1 rfl
      | _ => cases hy
  rw [if_neg (by simp [Region.wanted, hg, hy])]
  exact hK undef w (hR w) (Below.refl _ _)
end
end Go.Proofs.Ytodcjeaannfbnaa
namespace Go.Proofs.Ytodcjeaannfbnaa
open Go.ChangeShapes Go.WideShapes Go.ChangeAt Go.RowKit
set_option maxHeartbeats 2000000
set_option maxRecDepth 100000
attribute [local go_sem ↓] load_fld load_feP load_num store_num load_fe store_fe load_pt store_pt load_rp store_rp
attribute [local go_sem] isHead_mk blkOf_mk isAgg_mk cellsV_mk row_drew rowAt_drew row_new_cells row_old rowAt_new rowAt_old setRow_new zeroNum zeroPt zeroFe zeroRp
theorem build_pt0 (w : World) : (Instr.build 42 #[]).run Try.prog w = .ok (.agg (arrK .u64 8 (cat2 (wd 0) (wd 0)))) w := run_build w _ _ _ (by kernel_rfl)
theorem build_fe0 (w : World) : (Instr.build 26 #[]).run Try.prog w = .ok (.agg (arrK .i64 16 (dgt 0))) w := run_build w _ _ _ (by kernel_rfl)
section
variable {P : Program} {ops : Array Oper} {o : Oper} {a : Act} {w : World} {K : Act → World → Prop} {Q : Exit → Act → World → Prop} {t : TypeId} {u : Value}
theorem wp_bld0 (ho : o.op = .build t #[]) (hr : (Instr.build t #[]).run P w = .ok u w) (h : K (a.put o.dst u) w) : Oper.wp P o a w K Q := by
  obtain ⟨dst, op, tt, pos, af, gd⟩ := o
  subst ho
  unfold Oper.wp execOp
  simp only [List.map_toArray, List.map_nil, Sem.run_bind, hr, Result.andThen_ok]
  exact h
end
theorem neqN4 (f : Nat → Nat) (w : World) : (binOp .neq 24 (.agg (arrK .u64 4 f)) (.agg (arrK .u64 4 f))).run Try.prog w = .ok (.bool false) w := by rw [run_neq_struct, equalIn_4]; rfl
theorem rp_Point_one (x y z : Nat) (w : World) (hx : x < 2 ^ 256) (hy : y < 2 ^ 256) (hz : z < 2 ^ 256) (h1 : invP z = 1) (hxp : x % fP = x) (hyp : y % fP = y) : Calls Try.prog 33 #[rpV x y z] w fun e w' => e = .returned (ptV x y) ∧ Below w.heap.size w w' := by
  have h := rp_Point x y z w hx hy hz
  rw [h1, Nat.mul_one, Nat.mul_one, hxp, hyp] at h
  exact h
theorem inv_one : ∀ z, z = 1 → invP z = 1 := fun z hz => by
  unfold invP
  rw [hz, Nat.one_pow]
  exact Nat.mod_eq_of_lt (Nat.lt_trans (by omega) fP_pos)
theorem rp_base (w : World) : Calls Try.prog 33 #[rpV bX bY 1] w fun e w' => e = .returned (ptV bX bY) ∧ Below w.heap.size w w' :=
  rp_Point_one bX bY 1 w (by decide +kernel) (by decide +kernel) (by decide +kernel) (inv_one 1 rfl) (by decide +kernel) (by decide +kernel)
theorem curveTells_true (x1 y1 x2 y2 : Nat) (w : World) (hx1 : x1 < 2 ^ 256) (hy1 : y1 < 2 ^ 256) (hx2 : x2 < 2 ^ 256) (hy2 : y2 < 2 ^ 256) : Calls Try.prog 5 #[ptV x1 y1, ptV x2 y2] w fun e w' => e = .returned (.bool true) ∧ Below w.heap.size w w' := by
  have kR1 := Lib.hid (fun V => ref_On x1 y1 V hx1 hy1)
  have kR2 := Lib.hid (fun V => ref_On x2 y2 V hx2 hy2)
  have kO := Lib.hid (fun V => curve_On x1 y1 V hx1 hy1)
  have kA := Lib.hid (fun V => curve_Add x1 y1 x2 y2 V hx1 hy1 hx2 hy2)
  have kN := Lib.hid (fun V => curve_Neg x1 y1 V hx1 hy1)
  have kZ := Lib.hid (fun V => curve_Zero V)
  have kB := Lib.hid (fun V => curve_Base V)
  have kPB := Lib.hid (fun V => ref_PtBase V)
  have kPBp := Lib.hid (fun V => rp_base V)
  have kF1 := Lib.hid (fun V => ref_Field x1 V hx1)
  have kLs := Lib.hid (fun V => fe_Less 0 (x1 % fP) V (by decide +kernel) low_lt)
  have kNm := Lib.hid (fun V => fe_Num (lessM 0 (x1 % fP)) V low_lt)
  have kQ1 := Lib.hid (fun V => ref_PtOf x1 y1 V hx1 hy1)
  have kQ2 := Lib.hid (fun V => ref_PtOf x2 y2 V hx2 hy2)
  obtain ⟨rr, hrr⟩ : ∃ r, rplus (x1 % fP) (y1 % fP) 1 (x2 % fP) (y2 % fP) 1 = r := ⟨_, rfl⟩
  have kPl := Lib.hid (fun V => rp_PlusQ (x1 % fP) (y1 % fP) 1 (x2 % fP) (y2 % fP) 1 V low_lt low_lt (by decide +kernel) low_lt low_lt (by decide +kernel) rr hrr)
  have hrl := rplus_lt _ _ _ _ _ _ rr hrr
  have kPp := Lib.hid (fun V => rp_Point rr.1 rr.2.1 rr.2.2 V hrl.1 hrl.2.1 hrl.2.2)
  have hadd : onB x1 y1 = true → onB x2 y2 = true → (addPt x1 y1 x2 y2).1 = rr.1 * invP rr.2.2 % fP ∧ (addPt x1 y1 x2 y2).2 = rr.2.1 * invP rr.2.2 % fP := fun h1 h2 => by
    have l1 := on_lt h1
    have l2 := on_lt h2
    rw [add_same l1.1 l1.2 l2.1 l2.2, hrr]
    exact ⟨rfl, rfl⟩
  have hneg := neg_same x1
  rw [show (0 + 4 * fP - x1 % fP) % fP = lessM 0 (x1 % fP) from rfl, ← hneg] at kLs
  rw [← hneg] at kNm
  rw [on_same] at kR1 kR2
  obtain ⟨nx, hnx⟩ : ∃ v, difP 0 x1 = v := ⟨_, rfl⟩
  rw [hnx] at kLs kNm kN
  obtain ⟨fx, hfx⟩ : ∃ v, x1 % fP = v := ⟨_, rfl⟩
  rw [hfx] at kF1 kLs kQ1 kPl
  obtain ⟨fy, hfy⟩ : ∃ v, y1 % fP = v := ⟨_, rfl⟩
  rw [hfy] at kQ1 kPl
  obtain ⟨gx, hgx⟩ : ∃ v, x2 % fP = v := ⟨_, rfl⟩
  obtain ⟨gy, hgy⟩ : ∃ v, y2 % fP = v := ⟨_, rfl⟩
  rw [hgx] at kQ2 kPl
  rw [hgy] at kQ2 kPl
  obtain ⟨r1, r2, r3⟩ := rr
  dsimp only at kPl kPp hadd
  obtain ⟨X, hX⟩ : ∃ v, r1 * invP r3 % fP = v := ⟨_, rfl⟩
  obtain ⟨Y, hY⟩ : ∃ v, r2 * invP r3 % fP = v := ⟨_, rfl⟩
  rw [hX, hY] at kPp hadd
  obtain ⟨ap, hap⟩ : ∃ v, addPt x1 y1 x2 y2 = v := ⟨_, rfl⟩
  rw [hap] at hadd kA
  obtain ⟨o1, ho1⟩ : ∃ v, onB x1 y1 = v := ⟨_, rfl⟩
  obtain ⟨o2, ho2⟩ : ∃ v, onB x2 y2 = v := ⟨_, rfl⟩
  rw [ho1] at kR1 kO kA kN hadd
  rw [ho2] at kR2 kA hadd
  obtain ⟨BX, hBX⟩ : ∃ v, bX = v := ⟨_, rfl⟩
  obtain ⟨BY, hBY⟩ : ∃ v, bY = v := ⟨_, rfl⟩
  rw [hBX, hBY] at kB kPB kPBp
  replace hadd := Lib.hid hadd
  clear hBX hBY ho1 ho2 hap hX hY hgx hgy hfx hfy hnx hneg hrl hrr hx1 hy1 hx2 hy2
  unfold numV at kNm
  unfold numV feV at kF1
  unfold feV at kNm kLs
  unfold ptV at kR1 kR2 kO kA kN kZ kB kPBp kPp ⊢
  unfold rpV at kPB kPBp kPl kPp
  unfold ptV rpV at kQ1 kQ2
  have hcz := arrK_cells .u64 8 (cat2 (wd 0) (wd 0))
  have hL0 : Below w.heap.size w ((w.alloc (Obj.cells (arrK .u64 8 (cat2 (wd x1) (wd y1))) 42)).alloc (Obj.cells (arrK .u64 8 (cat2 (wd x2) (wd y2))) 42)) := by go_grown
  have hA0 : At ((w.alloc (Obj.cells (arrK .u64 8 (cat2 (wd x1) (wd y1))) 42)).alloc (Obj.cells (arrK .u64 8 (cat2 (wd x2) (wd y2))) 42)) w.heap.size .u64 8 (cat2 (wd x1) (wd y1)) := (At.new _ rfl).old _
  have hB0 : At ((w.alloc (Obj.cells (arrK .u64 8 (cat2 (wd x1) (wd y1))) 42)).alloc (Obj.cells (arrK .u64 8 (cat2 (wd x2) (wd y2))) 42)) (w.heap.size + 1) .u64 8 (cat2 (wd x2) (wd y2)) := At.new _ (by simp)
  have hL := Lib.hid hL0
  have hA := Lib.hid hA0
  have hB := Lib.hid hB0
  clear hL0 hA0 hB0
  go_enter Try.func5, Try.ntmps5
  go_upto_region 1 with (fail)
  generalize (w.alloc _).alloc _ = W0 at *
  generalize ha0 : Act.mk _ _ = a0
  have e2 : a0.tmps[2]?.getD undef = .pointer (some ⟨w.heap.size, 0, none⟩) := by rw [← ha0]; rfl
  have e3 : a0.tmps[3]?.getD undef = .pointer (some ⟨w.heap.size + 1, 0, none⟩) := by rw [← ha0]; rfl
  have hz0 : a0.tmps.size = 101 := by rw [← ha0]; rfl
  have hha0 := Lib.hid ha0
  clear ha0
  refine wp_region_calm (fun jx_ => match jx_ with | 0 => SRel.is (.agg (arrK .u64 8 (cat2 (wd x1) (wd y1)))) | 1 => SRel.is (.bool o1) | 2 => SRel.is (.agg (arrK .u64 8 (cat2 (wd x2) (wd y2)))) | 3 => SRel.is (.bool o2) | 4 => SRel.is (.bool o1) | 5 => SRel.is (.bool o2) | _ => SRel.any) (by kernel_rfl) (by kernel_rfl) (by kernel_rfl) (slotsOk_of hz0 (by kernel_rfl)) ⟨?_, ?_, ?_, ?_, ?_, ?_, trivial⟩ ?_
  · refine calm_step rfl fun a ω κ hb hu hc hK => ?_
    have h2 : a.tmps[2]?.getD undef = .pointer (some ⟨w.heap.size, 0, none⟩) := (hu 2 rfl).trans e2
    have hk := Lib.hid (fun w1 (h : Below ω.heap.size ω w1) => hK (.agg (arrK .u64 8 (cat2 (wd x1) (wd y1)))) w1 rfl h)
    clear hK hu hc
    have hr1 := (hA.out.step hb).row
    have hr2 := (hA.out.step hb).eq
    go_simp
    exact hk.out _ (Below.refl _ _)
  · refine calm_step rfl fun a ω κ hb hu hc hK => ?_
    have h11 : a.tmps[11]?.getD undef = .agg (arrK .u64 8 (cat2 (wd x1) (wd y1))) := hc 0 11 rfl rfl
    have hk := Lib.hid (fun w1 (h : Below ω.heap.size ω w1) => hK (.bool o1) w1 rfl h)
    clear hK hu hc
    go_simp
    go_at_call 29
    refine (kR1.out _).mono ?_
    rintro e w1 ⟨rfl, hb1⟩
    exact hk.out _ hb1
  · refine calm_step rfl fun a ω κ hb hu hc hK => ?_
    have h3 : a.tmps[3]?.getD undef = .pointer (some ⟨w.heap.size + 1, 0, none⟩) := (hu 3 rfl).trans e3
    have hk := Lib.hid (fun w1 (h : Below ω.heap.size ω w1) => hK (.agg (arrK .u64 8 (cat2 (wd x2) (wd y2)))) w1 rfl h)
    clear hK hu hc
    have hr1 := (hB.out.step hb).row
    have hr2 := (hB.out.step hb).eq
    go_simp
    exact hk.out _ (Below.refl _ _)
  · refine calm_step rfl fun a ω κ hb hu hc hK => ?_
    have h13 : a.tmps[13]?.getD undef = .agg (arrK .u64 8 (cat2 (wd x2) (wd y2))) := hc 2 13 rfl rfl
    have hk := Lib.hid (fun w1 (h : Below ω.heap.size ω w1) => hK (.bool o2) w1 rfl h)
    clear hK hu hc
    go_simp
    go_at_call 29
    refine (kR2.out _).mono ?_
    rintro e w1 ⟨rfl, hb1⟩
    exact hk.out _ hb1
  · refine calm_step rfl fun a ω κ hb hu hc hK => ?_
    have h12 : a.tmps[12]?.getD undef = .bool o1 := hc 1 12 rfl rfl
    have hk := Lib.hid (fun w1 (h : Below ω.heap.size ω w1) => hK (.bool o1) w1 rfl h)
    clear hK hu hc
    go_simp
    exact hk.out _ (Below.refl _ _)
  · refine calm_step rfl fun a ω κ hb hu hc hK => ?_
    have h14 : a.tmps[14]?.getD undef = .bool o2 := hc 3 14 rfl rfl
    have hk := Lib.hid (fun w1 (h : Below ω.heap.size ω w1) => hK (.bool o2) w1 rfl h)
    clear hK hu hc
    go_simp
    exact hk.out _ (Below.refl _ _)
  · intro a1 w1 hb1 hu1 hsz1 hdf1 hc1
    have ha0 := hha0.out
    subst ha0
    have he := act_patch (n := 101) [false, false, false, false, false, true, true, false, false, false, false, true, true, true, true, false, false, false, false, false, false, false, false, false, false, false, false, false, false, false, false, false, false, false, false, false, false, false, false, false, false, false, false, false, false, false, false, false, false, false, false, false, false, false, false, false, false, false, false, false, false, false, false, false, false, false, false, false, false, false, false, false, false, false, false, false, false, false, false, false, false, false, false, false, false, false, false, false, false, false, false, false, false, false, false, false, false, false, false, false, false] rfl (by kernel_rfl) hu1 hsz1 hdf1
    simp only [patch, cond_true, cond_false, Nat.reduceAdd] at he
    have hkn5 : a1.tmps[5]?.getD undef = .bool o1 := hc1 4 5 rfl
    have hkn6 : a1.tmps[6]?.getD undef = .bool o2 := hc1 5 6 rfl
    replace hA := Lib.hid (hA.out.step hb1)
    replace hB := Lib.hid (hB.out.step hb1)
    replace hL := Lib.hid (below_step hb1 hL.out (Nat.le_refl _))
    clear kR1 kR2
    clear hb1 hu1 hsz1 hdf1 hc1 hz0 hha0 e2 e3
    rw [he]
    clear he
    rw [hkn5]
    rw [hkn6]
    clear hkn5 hkn6
    generalize a1.tmps[11]?.getD undef = x11 at *
    generalize a1.tmps[12]?.getD undef = x12 at *
    generalize a1.tmps[13]?.getD undef = x13 at *
    generalize a1.tmps[14]?.getD undef = x14 at *
    go_upto_region 2 with (fail)
    generalize w1 = W1 at *
    obtain ⟨sa, sb, se, hS⟩ : ∃ (sa sb : Nat) (se : Int), (bif o1 && o2 then (.tuple #[.agg (arrK .u64 8 (cat2 (wd ap.1) (wd ap.2))), .int .i64 0] : Value) else .tuple #[.agg (arrK .u64 8 (cat2 (wd 0) (wd 0))), .int .i64 1]) = .tuple #[.agg (arrK .u64 8 (cat2 (wd sa) (wd sb))), .int .i64 se] ∧ (o1 = true → o2 = true → sa = X ∧ sb = Y ∧ se = 0) ∧ (o1 = false ∨ o2 = false → sa = 0 ∧ sb = 0 ∧ se = 1) := by
      cases o1 <;> cases o2
      · exact ⟨0, 0, 1, rfl, (fun h => by cases h), fun _ => ⟨rfl, rfl, rfl⟩⟩
      · exact ⟨0, 0, 1, rfl, (fun h => by cases h), fun _ => ⟨rfl, rfl, rfl⟩⟩
      · exact ⟨0, 0, 1, rfl, (fun _ h => by cases h), fun _ => ⟨rfl, rfl, rfl⟩⟩
      · obtain ⟨e1, e2⟩ := hadd.out rfl rfl
        exact ⟨ap.1, ap.2, 0, rfl, (fun _ _ => ⟨e1, e2, rfl⟩), fun h => by rcases h with h | h <;> cases h⟩
    obtain ⟨na, nb, ne, hN⟩ : ∃ (na nb : Nat) (ne : Int), (bif o1 then (.tuple #[.agg (arrK .u64 8 (cat2 (wd nx) (wd y1))), .int .i64 0] : Value) else .tuple #[.agg (arrK .u64 8 (cat2 (wd 0) (wd 0))), .int .i64 1]) = .tuple #[.agg (arrK .u64 8 (cat2 (wd na) (wd nb))), .int .i64 ne] ∧ (o1 = true → na = nx ∧ nb = y1 ∧ ne = 0) ∧ (o1 = false → na = 0 ∧ nb = 0 ∧ ne = 1) := by
      cases o1
      · exact ⟨0, 0, 1, rfl, (fun h => by cases h), fun _ => ⟨rfl, rfl, rfl⟩⟩
      · exact ⟨nx, y1, 0, rfl, (fun _ => ⟨rfl, rfl, rfl⟩), fun h => by cases h⟩
    rw [hS.1] at kA
    rw [hN.1] at kN
    replace hS := Lib.hid hS.2
    replace hN := Lib.hid hN.2
    clear hadd
    have hcS := arrK_cells .u64 8 (cat2 (wd sa) (wd sb))
    have hcN := arrK_cells .u64 8 (cat2 (wd na) (wd nb))
    have hr1 := hA.out.row
    have hr2 := hA.out.eq
    have hr3 := hB.out.row
    have hr4 := hB.out.eq
    go_upto_region 3 with (fail)
    refine (kA.out _).mono ?_
    rintro e w2 ⟨rfl, hb⟩
    have hA2 := hA.out.step hb
    have hB2 := hB.out.step hb
    have hL2 := below_step hb hL.out (Nat.le_refl _)
    clear hr1 hr2 hr3 hr4 hA hB hL hb kA
    have hA := Lib.hid (hA2.old (Obj.cells (arrK .u64 8 (cat2 (wd sa) (wd sb))) 42))
    have hB := Lib.hid (hB2.old (Obj.cells (arrK .u64 8 (cat2 (wd sa) (wd sb))) 42))
    have hL := Lib.hid (Below.trans hL2 ((below_alloc w2 (Obj.cells (arrK .u64 8 (cat2 (wd sa) (wd sb))) 42)).mono hL2.size))
    have hS7 := Lib.hid (At.new (w := w2) (k := .u64) (m := 8) (f := cat2 (wd sa) (wd sb)) 42 rfl)
    clear hA2 hB2 hL2
    dsimp only
    go_upto_region 3 with (fail)
    obtain ⟨g7, hg⟩ : ∃ g, w2.heap.size = g := ⟨_, rfl⟩
    rw [hg] at hS7 ⊢
    clear hg
    generalize w2.alloc _ = W2 at *
    have hr1 := hA.out.row
    have hr2 := hA.out.eq
    go_upto_region 4 with (fail)
    refine (kN.out _).mono ?_
    rintro e w3 ⟨rfl, hb⟩
    have hA2 := hA.out.step hb
    have hB2 := hB.out.step hb
    have hS2 := hS7.out.step hb
    have hL2 := below_step hb hL.out (Nat.le_refl _)
    clear hr1 hr2 hA hB hL hb kN hS7
    have hA := Lib.hid (hA2.old (Obj.cells (arrK .u64 8 (cat2 (wd na) (wd nb))) 42))
    have hB := Lib.hid (hB2.old (Obj.cells (arrK .u64 8 (cat2 (wd na) (wd nb))) 42))
    have hS7 := Lib.hid (hS2.old (Obj.cells (arrK .u64 8 (cat2 (wd na) (wd nb))) 42))
    have hL := Lib.hid (Below.trans hL2 ((below_alloc w3 (Obj.cells (arrK .u64 8 (cat2 (wd na) (wd nb))) 42)).mono hL2.size))
    have hN9 := Lib.hid (At.new (w := w3) (k := .u64) (m := 8) (f := cat2 (wd na) (wd nb)) 42 rfl)
    clear hA2 hB2 hL2 hS2
    dsimp only
    go_upto_region 4 with (fail)
    obtain ⟨g9, hg⟩ : ∃ g, w3.heap.size = g := ⟨_, rfl⟩
    rw [hg] at hN9 ⊢
    clear hg
    generalize w3.alloc _ = W3 at *
    have hr1 := hA.out.row
    have hr2 := hA.out.eq
    go_wp2_with fail
    refine (kO.out _).mono ?_
    rintro e w4 ⟨rfl, hb⟩
    replace hA := Lib.hid (hA.out.step hb)
    replace hB := Lib.hid (hB.out.step hb)
    replace hS7 := Lib.hid (hS7.out.step hb)
    replace hN9 := Lib.hid (hN9.out.step hb)
    replace hL := Lib.hid (below_step hb hL.out (Nat.le_refl _))
    clear hr1 hr2 hb kO
    dsimp only
    have hbne : (o1 != o1) = false := by cases o1 <;> rfl
    go_wp2_with fail
    refine (kZ.out _).mono ?_
    rintro e w5 ⟨rfl, hb⟩
    replace hA := Lib.hid (hA.out.step hb)
    replace hB := Lib.hid (hB.out.step hb)
    replace hS7 := Lib.hid (hS7.out.step hb)
    replace hN9 := Lib.hid (hN9.out.step hb)
    replace hL := Lib.hid (below_step hb hL.out (Nat.le_refl _))
    clear hb kZ hbne
    dsimp only
    go_wp2_with (first
      | refine wpList_opW (by go_simp) (fun K hK => wp_bldA rfl (vx := Value.int IntKind.u64 (1 : Int)) rfl (build_one _) (hK _ _ ?_))
      | refine wpList_opW (by go_simp) (fun K hK => wp_bldA rfl (vx := .agg (arrK .u64 4 (wd 1))) (by go_simp) (build_pt1 _ _) (hK _ _ ?_))
      | refine wpList_opW (by go_simp) (fun K hK => wp_eqlA (.inl rfl) (by kernel_rfl) (v := arrK .u64 8 (cat2 (wd 0) (wd 1))) (u := arrK .u64 8 (cat2 (wd 0) (wd 1))) (by go_simp) (by go_simp) (neqPt _ _ _) (hK _ _ ?_)))
    refine (kB.out _).mono ?_
    rintro e w6 ⟨rfl, hb⟩
    replace hA := Lib.hid (hA.out.step hb)
    replace hB := Lib.hid (hB.out.step hb)
    replace hS7 := Lib.hid (hS7.out.step hb)
    replace hN9 := Lib.hid (hN9.out.step hb)
    replace hL := Lib.hid (below_step hb hL.out (Nat.le_refl _))
    clear hb kB
    dsimp only
    go_wp2_with fail
    refine (kPB.out _).mono ?_
    rintro e w7 ⟨rfl, hb⟩
    replace hA := Lib.hid (hA.out.step hb)
    replace hB := Lib.hid (hB.out.step hb)
    replace hS7 := Lib.hid (hS7.out.step hb)
    replace hN9 := Lib.hid (hN9.out.step hb)
    replace hL := Lib.hid (below_step hb hL.out (Nat.le_refl _))
    clear hb kPB
    dsimp only
    go_wp2_with fail
    refine (kPBp.out _).mono ?_
    rintro e w8 ⟨rfl, hb⟩
    replace hA := Lib.hid (hA.out.step hb)
    replace hB := Lib.hid (hB.out.step hb)
    replace hS7 := Lib.hid (hS7.out.step hb)
    replace hN9 := Lib.hid (hN9.out.step hb)
    replace hL := Lib.hid (below_step hb hL.out (Nat.le_refl _))
    clear hb kPBp
    dsimp only
    have hr1 := hN9.out.row
    have hr2 := hN9.out.eq
    cases o1 with
    | false =>
      obtain ⟨rfl, rfl, rfl⟩ := hN.out.2 rfl
      obtain ⟨rfl, rfl, rfl⟩ := hS.out.2 (.inl rfl)
      clear hN hS
      go_upto_region 6 with (first
        | refine wpList_opW (by go_simp) (fun K hK => wp_eqlA (.inl rfl) (by kernel_rfl) (v := arrK .u64 8 (cat2 (wd BX) (wd BY))) (u := arrK .u64 8 (cat2 (wd BX) (wd BY))) (by go_simp) (by go_simp) (neqPt _ _ _) (hK _ _ ?_)))
      go_upto_region 8 with (first
        | refine wpList_opW (by go_simp) (fun K hK => wp_bld0 rfl (build_pt0 _) (hK _ _ ?_))
        | refine wpList_opW (by go_simp) (fun K hK => wp_eqlA (.inl rfl) (by kernel_rfl) (v := arrK .u64 8 (cat2 (wd 0) (wd 0))) (u := arrK .u64 8 (cat2 (wd 0) (wd 0))) (by go_simp) (by go_simp) (neqPt _ _ _) (hK _ _ ?_)))
      generalize ha0 : Act.mk _ _ = a0
      have e2 : a0.tmps[2]?.getD undef = .pointer (some ⟨w.heap.size, 0, none⟩) := by rw [← ha0]; rfl
      have e5 : a0.tmps[5]?.getD undef = .bool false := by rw [← ha0]; rfl
      have e9 : a0.tmps[9]?.getD undef = .pointer (some ⟨g9, 0, none⟩) := by rw [← ha0]; rfl
      have e10 : a0.tmps[10]?.getD undef = .int .i64 1 := by rw [← ha0]; rfl
      have hz0 : a0.tmps.size = 101 := by rw [← ha0]; rfl
      have hha0 := Lib.hid ha0
      clear ha0
      refine wp_region_calm (fun jx_ => match jx_ with | 0 => SRel.is (.bool false) | 1 => SRel.is (.bool false) | 2 => SRel.is (undef) | 3 => SRel.is (undef) | 4 => SRel.is (undef) | 5 => SRel.is (undef) | 6 => SRel.is (undef) | 7 => SRel.is (undef) | 8 => SRel.is (undef) | 9 => SRel.is (undef) | 10 => SRel.is (undef) | 11 => SRel.is (undef) | 12 => SRel.is (undef) | 13 => SRel.is (undef) | 14 => SRel.is (undef) | 15 => SRel.is (undef) | 16 => SRel.is (undef) | 17 => SRel.is (undef) | 18 => SRel.is (undef) | 19 => SRel.is (undef) | 20 => SRel.is (undef) | 21 => SRel.is (undef) | 22 => SRel.is (.bool false) | _ => SRel.any) (by kernel_rfl) (by kernel_rfl) (by kernel_rfl) (slotsOk_of hz0 (by kernel_rfl)) ⟨?_, ?_, ?_, ?_, ?_, ?_, ?_, ?_, ?_, ?_, ?_, ?_, ?_, ?_, ?_, ?_, ?_, ?_, ?_, ?_, ?_, ?_, ?_, trivial⟩ ?_
      · refine calm_step rfl fun a ω κ hb hu hc hK => ?_
        have h5 : a.tmps[5]?.getD undef = .bool false := (hu 5 rfl).trans e5
        have hk := Lib.hid (fun w1 (h : Below ω.heap.size ω w1) => hK (.bool false) w1 rfl h)
        clear hK hu hc
        go_simp
        exact hk.out _ (Below.refl _ _)
      · refine calm_step rfl fun a ω κ hb hu hc hK => ?_
        have h53 : a.tmps[53]?.getD undef = .bool false := hc 0 53 rfl rfl
        have hk := Lib.hid (fun w1 (h : Below ω.heap.size ω w1) => hK (.bool false) w1 rfl h)
        clear hK hu hc
        go_simp
        exact hk.out _ (Below.refl _ _)
      · exact calm_step_skipN (g := 1) (b := true) (d := 54) rfl rfl (fun a w hc hh => by have hh2 := (show a.tmps[54]?.getD undef = .bool false from hc 1 54 rfl rfl).symm.trans hh; cases hh2) (fun _ => rfl)
      · exact calm_step_skipN (g := 1) (b := true) (d := 54) rfl rfl (fun a w hc hh => by have hh2 := (show a.tmps[54]?.getD undef = .bool false from hc 1 54 rfl rfl).symm.trans hh; cases hh2) (fun _ => rfl)
      · exact calm_step_skipN (g := 1) (b := true) (d := 54) rfl rfl (fun a w hc hh => by have hh2 := (show a.tmps[54]?.getD undef = .bool false from hc 1 54 rfl rfl).symm.trans hh; cases hh2) (fun _ => rfl)
      · exact calm_step_skipN (g := 4) (b := false) (d := 57) rfl rfl (fun a w hc hh => by have hh2 := (show a.tmps[57]?.getD undef = undef from hc 4 57 rfl rfl).symm.trans hh; cases hh2) (fun _ => rfl)
      · exact calm_step_skipN (g := 4) (b := false) (d := 57) rfl rfl (fun a w hc hh => by have hh2 := (show a.tmps[57]?.getD undef = undef from hc 4 57 rfl rfl).symm.trans hh; cases hh2) (fun _ => rfl)
      · exact calm_step_skipN (g := 4) (b := false) (d := 57) rfl rfl (fun a w hc hh => by have hh2 := (show a.tmps[57]?.getD undef = undef from hc 4 57 rfl rfl).symm.trans hh; cases hh2) (fun _ => rfl)
      · exact calm_step_skipN (g := 4) (b := false) (d := 57) rfl rfl (fun a w hc hh => by have hh2 := (show a.tmps[57]?.getD undef = undef from hc 4 57 rfl rfl).symm.trans hh; cases hh2) (fun _ => rfl)
      · exact calm_step_skipN (g := 4) (b := false) (d := 57) rfl rfl (fun a w hc hh => by have hh2 := (show a.tmps[57]?.getD undef = undef from hc 4 57 rfl rfl).symm.trans hh; cases hh2) (fun _ => rfl)
      · exact calm_step_skipN (g := 1) (b := true) (d := 54) rfl rfl (fun a w hc hh => by have hh2 := (show a.tmps[54]?.getD undef = .bool false from hc 1 54 rfl rfl).symm.trans hh; cases hh2) (fun _ => rfl)
      · exact calm_step_skipN (g := 1) (b := true) (d := 54) rfl rfl (fun a w hc hh => by have hh2 := (show a.tmps[54]?.getD undef = .bool false from hc 1 54 rfl rfl).symm.trans hh; cases hh2) (fun _ => rfl)
      · exact calm_step_skipN (g := 11) (b := false) (d := 64) rfl rfl (fun a w hc hh => by have hh2 := (show a.tmps[64]?.getD undef = undef from hc 11 64 rfl rfl).symm.trans hh; cases hh2) (fun _ => rfl)
      · exact calm_step_skipN (g := 11) (b := false) (d := 64) rfl rfl (fun a w hc hh => by have hh2 := (show a.tmps[64]?.getD undef = undef from hc 11 64 rfl rfl).symm.trans hh; cases hh2) (fun _ => rfl)
      · exact calm_step_skipN (g := 11) (b := false) (d := 64) rfl rfl (fun a w hc hh => by have hh2 := (show a.tmps[64]?.getD undef = undef from hc 11 64 rfl rfl).symm.trans hh; cases hh2) (fun _ => rfl)
      · exact calm_step_skipN (g := 11) (b := false) (d := 64) rfl rfl (fun a w hc hh => by have hh2 := (show a.tmps[64]?.getD undef = undef from hc 11 64 rfl rfl).symm.trans hh; cases hh2) (fun _ => rfl)
      · exact calm_step_skipN (g := 11) (b := false) (d := 64) rfl rfl (fun a w hc hh => by have hh2 := (show a.tmps[64]?.getD undef = undef from hc 11 64 rfl rfl).symm.trans hh; cases hh2) (fun _ => rfl)
      · exact calm_step_skipN (g := 11) (b := false) (d := 64) rfl rfl (fun a w hc hh => by have hh2 := (show a.tmps[64]?.getD undef = undef from hc 11 64 rfl rfl).symm.trans hh; cases hh2) (fun _ => rfl)
      · exact calm_step_skipN (g := 11) (b := false) (d := 64) rfl rfl (fun a w hc hh => by have hh2 := (show a.tmps[64]?.getD undef = undef from hc 11 64 rfl rfl).symm.trans hh; cases hh2) (fun _ => rfl)
      · exact calm_step_skipN (g := 11) (b := false) (d := 64) rfl rfl (fun a w hc hh => by have hh2 := (show a.tmps[64]?.getD undef = undef from hc 11 64 rfl rfl).symm.trans hh; cases hh2) (fun _ => rfl)
      · exact calm_step_skipN (g := 11) (b := false) (d := 64) rfl rfl (fun a w hc hh => by have hh2 := (show a.tmps[64]?.getD undef = undef from hc 11 64 rfl rfl).symm.trans hh; cases hh2) (fun _ => rfl)
      · exact calm_step_skipN (g := 1) (b := true) (d := 54) rfl rfl (fun a w hc hh => by have hh2 := (show a.tmps[54]?.getD undef = .bool false from hc 1 54 rfl rfl).symm.trans hh; cases hh2) (fun _ => rfl)
      · refine calm_step rfl fun a ω κ hb hu hc hK => ?_
        have h54 : a.tmps[54]?.getD undef = .bool false := hc 1 54 rfl rfl
        have h74 : a.tmps[74]?.getD undef = undef := hc 21 74 rfl rfl
        have hk := Lib.hid (fun w1 (h : Below ω.heap.size ω w1) => hK (.bool false) w1 rfl h)
        clear hK hu hc
        go_simp
        exact hk.out _ (Below.refl _ _)
      · intro a1 w1 hb1 hu1 hsz1 hdf1 hc1
        have ha0 := hha0.out
        subst ha0
        have he := act_patch (n := 101) [false, false, false, false, false, false, false, false, false, false, false, false, false, false, false, false, false, false, false, false, false, false, false, false, false, false, false, false, false, false, false, false, false, false, false, false, false, false, false, false, false, false, false, false, false, false, false, false, false, false, false, false, false, true, true, true, true, true, true, true, true, true, true, true, true, true, true, true, true, true, true, true, true, true, true, true, false, false, false, false, false, false, false, false, false, false, false, false, false, false, false, false, false, false, false, false, false, false, false, false, false] rfl (by kernel_rfl) hu1 hsz1 hdf1
        simp only [patch, cond_true, cond_false, Nat.reduceAdd] at he
        have hkn75 : a1.tmps[75]?.getD undef = .bool false := hc1 22 75 rfl
        replace hA := Lib.hid (hA.out.step hb1)
        replace hB := Lib.hid (hB.out.step hb1)
        replace hS7 := Lib.hid (hS7.out.step hb1)
        replace hN9 := Lib.hid (hN9.out.step hb1)
        replace hL := Lib.hid (below_step hb1 hL.out (Nat.le_refl _))
        clear hb1 hu1 hsz1 hdf1 hc1 hz0 hha0 e2 e5 e9 e10
        rw [he]
        clear he
        rw [hkn75]
        clear hkn75
        generalize a1.tmps[53]?.getD undef = x53 at *
        generalize a1.tmps[54]?.getD undef = x54 at *
        generalize a1.tmps[55]?.getD undef = x55 at *
        generalize a1.tmps[56]?.getD undef = x56 at *
        generalize a1.tmps[57]?.getD undef = x57 at *
        generalize a1.tmps[58]?.getD undef = x58 at *
        generalize a1.tmps[59]?.getD undef = x59 at *
        generalize a1.tmps[60]?.getD undef = x60 at *
        generalize a1.tmps[61]?.getD undef = x61 at *
        generalize a1.tmps[62]?.getD undef = x62 at *
        generalize a1.tmps[63]?.getD undef = x63 at *
        generalize a1.tmps[64]?.getD undef = x64 at *
        generalize a1.tmps[65]?.getD undef = x65 at *
        generalize a1.tmps[66]?.getD undef = x66 at *
        generalize a1.tmps[67]?.getD undef = x67 at *
        generalize a1.tmps[68]?.getD undef = x68 at *
        generalize a1.tmps[69]?.getD undef = x69 at *
        generalize a1.tmps[70]?.getD undef = x70 at *
        generalize a1.tmps[71]?.getD undef = x71 at *
        generalize a1.tmps[72]?.getD undef = x72 at *
        generalize a1.tmps[73]?.getD undef = x73 at *
        generalize a1.tmps[74]?.getD undef = x74 at *
        have hr1 := hS7.out.row
        have hr2 := hS7.out.eq
        go_wp2_with (first
          | refine wpList_opW (by go_simp) (fun K hK => wp_bld0 rfl (build_pt0 _) (hK _ _ ?_))
          | refine wpList_opW (by go_simp) (fun K hK => wp_eqlA (.inr rfl) (by kernel_rfl) (v := arrK .u64 8 (cat2 (wd 0) (wd 0))) (u := arrK .u64 8 (cat2 (wd 0) (wd 0))) (by go_simp) (by go_simp) (eqlPtB _ _ _) (hK _ _ ?_)))
        exact ret_tmp (p := 4) (v := .bool true) rfl (by simp) rfl ⟨rfl, hL.out⟩
    | true =>
      obtain ⟨e1, e2, e3⟩ := hN.out.1 rfl
      rw [e1, e2] at hN9 hr2
      subst e3
      clear hN e1 e2
      go_upto_region 6 with (first
        | refine wpList_opW (by go_simp) (fun K hK => wp_eqlA (.inl rfl) (by kernel_rfl) (v := arrK .u64 8 (cat2 (wd BX) (wd BY))) (u := arrK .u64 8 (cat2 (wd BX) (wd BY))) (by go_simp) (by go_simp) (neqPt _ _ _) (hK _ _ ?_)))
      go_upto_region 8 with (fail)
      generalize ha0 : Act.mk _ _ = a0
      have e2 : a0.tmps[2]?.getD undef = .pointer (some ⟨w.heap.size, 0, none⟩) := by rw [← ha0]; rfl
      have e5 : a0.tmps[5]?.getD undef = .bool true := by rw [← ha0]; rfl
      have e9 : a0.tmps[9]?.getD undef = .pointer (some ⟨g9, 0, none⟩) := by rw [← ha0]; rfl
      have e10 : a0.tmps[10]?.getD undef = .int .i64 0 := by rw [← ha0]; rfl
      have hz0 : a0.tmps.size = 101 := by rw [← ha0]; rfl
      have hha0 := Lib.hid ha0
      clear ha0
      refine wp_region_calm (fun jx_ => match jx_ with | 0 => SRel.is (.bool true) | 1 => SRel.is (.bool true) | 2 => SRel.is (.int .i64 0) | 3 => SRel.is (.bool false) | 4 => SRel.is (.bool false) | 5 => SRel.is (.pointer (some ⟨g9, 4, none⟩)) | 6 => SRel.is (.agg (arrK .u64 4 (wd y1))) | 7 => SRel.is (.pointer (some ⟨w.heap.size, 4, none⟩)) | 8 => SRel.is (.agg (arrK .u64 4 (wd y1))) | 9 => SRel.is (.bool false) | 10 => SRel.is (.bool false) | 11 => SRel.is (.bool false) | 12 => SRel.is (.pointer (some ⟨g9, 0, none⟩)) | 13 => SRel.is (.agg (arrK .u64 4 (wd nx))) | 14 => SRel.is (.agg (arrK .i64 16 (dgt 0))) | 15 => SRel.is (.pointer (some ⟨w.heap.size, 0, none⟩)) | 16 => SRel.is (.agg (arrK .u64 4 (wd x1))) | 17 => SRel.is (.agg (arrK .i64 16 (dgt fx))) | 18 => SRel.is (.agg (arrK .i64 16 (dgt nx))) | 19 => SRel.is (.agg (arrK .u64 4 (wd nx))) | 20 => SRel.is (.bool false) | 21 => SRel.is (.bool false) | 22 => SRel.is (.bool false) | _ => SRel.any) (by kernel_rfl) (by kernel_rfl) (by kernel_rfl) (slotsOk_of hz0 (by kernel_rfl)) ⟨?_, ?_, ?_, ?_, ?_, ?_, ?_, ?_, ?_, ?_, ?_, ?_, ?_, ?_, ?_, ?_, ?_, ?_, ?_, ?_, ?_, ?_, ?_, trivial⟩ ?_
      · refine calm_step rfl fun a ω κ hb hu hc hK => ?_
        have h5 : a.tmps[5]?.getD undef = .bool true := (hu 5 rfl).trans e5
        have hk := Lib.hid (fun w1 (h : Below ω.heap.size ω w1) => hK (.bool true) w1 rfl h)
        clear hK hu hc
        go_simp
        exact hk.out _ (Below.refl _ _)
      · refine calm_step rfl fun a ω κ hb hu hc hK => ?_
        have h53 : a.tmps[53]?.getD undef = .bool true := hc 0 53 rfl rfl
        have hk := Lib.hid (fun w1 (h : Below ω.heap.size ω w1) => hK (.bool true) w1 rfl h)
        clear hK hu hc
        go_simp
        exact hk.out _ (Below.refl _ _)
      · refine calm_step_guard (g := 1) (b := true) (d := 54) rfl rfl (fun a w hc => hc 1 54 rfl rfl) fun a ω κ hb hu hc hK => ?_
        have h10 : a.tmps[10]?.getD undef = .int .i64 0 := (hu 10 rfl).trans e10
        have hk := Lib.hid (fun w1 (h : Below ω.heap.size ω w1) => hK (.int .i64 0) w1 rfl h)
        clear hK hu hc
        go_simp
        exact hk.out _ (Below.refl _ _)
      · refine calm_step_guard (g := 1) (b := true) (d := 54) rfl rfl (fun a w hc => hc 1 54 rfl rfl) fun a ω κ hb hu hc hK => ?_
        have h55 : a.tmps[55]?.getD undef = .int .i64 0 := hc 2 55 rfl rfl
        have hk := Lib.hid (fun w1 (h : Below ω.heap.size ω w1) => hK (.bool false) w1 rfl h)
        clear hK hu hc
        go_simp
        exact hk.out _ (Below.refl _ _)
      · refine calm_step_guard (g := 1) (b := true) (d := 54) rfl rfl (fun a w hc => hc 1 54 rfl rfl) fun a ω κ hb hu hc hK => ?_
        have h56 : a.tmps[56]?.getD undef = .bool false := hc 3 56 rfl rfl
        have hk := Lib.hid (fun w1 (h : Below ω.heap.size ω w1) => hK (.bool false) w1 rfl h)
        clear hK hu hc
        go_simp
        exact hk.out _ (Below.refl _ _)
      · refine calm_step_guard (g := 4) (b := false) (d := 57) rfl rfl (fun a w hc => hc 4 57 rfl rfl) fun a ω κ hb hu hc hK => ?_
        have h9 : a.tmps[9]?.getD undef = .pointer (some ⟨g9, 0, none⟩) := (hu 9 rfl).trans e9
        have hk := Lib.hid (fun w1 (h : Below ω.heap.size ω w1) => hK (.pointer (some ⟨g9, 4, none⟩)) w1 rfl h)
        clear hK hu hc
        go_simp
        exact hk.out _ (Below.refl _ _)
      · refine calm_step_guard (g := 4) (b := false) (d := 57) rfl rfl (fun a w hc => hc 4 57 rfl rfl) fun a ω κ hb hu hc hK => ?_
        have h58 : a.tmps[58]?.getD undef = .pointer (some ⟨g9, 4, none⟩) := hc 5 58 rfl rfl
        have hk := Lib.hid (fun w1 (h : Below ω.heap.size ω w1) => hK (.agg (arrK .u64 4 (wd y1))) w1 rfl h)
        clear hK hu hc
        have hl := pt_1 (hN9.out.step hb)
        have hl1 := hl.1
        have hl2 := hl.2
        go_simp
        exact hk.out _ (Below.refl _ _)
      · refine calm_step_guard (g := 4) (b := false) (d := 57) rfl rfl (fun a w hc => hc 4 57 rfl rfl) fun a ω κ hb hu hc hK => ?_
        have h2 : a.tmps[2]?.getD undef = .pointer (some ⟨w.heap.size, 0, none⟩) := (hu 2 rfl).trans e2
        have hk := Lib.hid (fun w1 (h : Below ω.heap.size ω w1) => hK (.pointer (some ⟨w.heap.size, 4, none⟩)) w1 rfl h)
        clear hK hu hc
        go_simp
        exact hk.out _ (Below.refl _ _)
      · refine calm_step_guard (g := 4) (b := false) (d := 57) rfl rfl (fun a w hc => hc 4 57 rfl rfl) fun a ω κ hb hu hc hK => ?_
        have h60 : a.tmps[60]?.getD undef = .pointer (some ⟨w.heap.size, 4, none⟩) := hc 7 60 rfl rfl
        have hk := Lib.hid (fun w1 (h : Below ω.heap.size ω w1) => hK (.agg (arrK .u64 4 (wd y1))) w1 rfl h)
        clear hK hu hc
        have hl := pt_1 (hA.out.step hb)
        have hl1 := hl.1
        have hl2 := hl.2
        go_simp
        exact hk.out _ (Below.refl _ _)
      · refine calm_step_guard (g := 4) (b := false) (d := 57) rfl rfl (fun a w hc => hc 4 57 rfl rfl) fun a ω κ hb hu hc hK => ?_
        have h59 : a.tmps[59]?.getD undef = .agg (arrK .u64 4 (wd y1)) := hc 6 59 rfl rfl
        have h61 : a.tmps[61]?.getD undef = .agg (arrK .u64 4 (wd y1)) := hc 8 61 rfl rfl
        have hk := Lib.hid (fun w1 (h : Below ω.heap.size ω w1) => hK (.bool false) w1 rfl h)
        clear hK hu hc
        exact wp_eqlA (v := arrK .u64 4 (wd y1)) (u := arrK .u64 4 (wd y1)) (.inl rfl) (by kernel_rfl) (by go_simp) (by go_simp) (neqN4 _ _) (hk.out _ (Below.refl _ _))
      · refine calm_step_guard (g := 1) (b := true) (d := 54) rfl rfl (fun a w hc => hc 1 54 rfl rfl) fun a ω κ hb hu hc hK => ?_
        have h57 : a.tmps[57]?.getD undef = .bool false := hc 4 57 rfl rfl
        have h62 : a.tmps[62]?.getD undef = .bool false := hc 9 62 rfl rfl
        have hk := Lib.hid (fun w1 (h : Below ω.heap.size ω w1) => hK (.bool false) w1 rfl h)
        clear hK hu hc
        go_simp
        exact hk.out _ (Below.refl _ _)
      · refine calm_step_guard (g := 1) (b := true) (d := 54) rfl rfl (fun a w hc => hc 1 54 rfl rfl) fun a ω κ hb hu hc hK => ?_
        have h63 : a.tmps[63]?.getD undef = .bool false := hc 10 63 rfl rfl
        have hk := Lib.hid (fun w1 (h : Below ω.heap.size ω w1) => hK (.bool false) w1 rfl h)
        clear hK hu hc
        go_simp
        exact hk.out _ (Below.refl _ _)
      · refine calm_step_guard (g := 11) (b := false) (d := 64) rfl rfl (fun a w hc => hc 11 64 rfl rfl) fun a ω κ hb hu hc hK => ?_
        have h9 : a.tmps[9]?.getD undef = .pointer (some ⟨g9, 0, none⟩) := (hu 9 rfl).trans e9
        have hk := Lib.hid (fun w1 (h : Below ω.heap.size ω w1) => hK (.pointer (some ⟨g9, 0, none⟩)) w1 rfl h)
        clear hK hu hc
        go_simp
        exact hk.out _ (Below.refl _ _)
      · refine calm_step_guard (g := 11) (b := false) (d := 64) rfl rfl (fun a w hc => hc 11 64 rfl rfl) fun a ω κ hb hu hc hK => ?_
        have h65 : a.tmps[65]?.getD undef = .pointer (some ⟨g9, 0, none⟩) := hc 12 65 rfl rfl
        have hk := Lib.hid (fun w1 (h : Below ω.heap.size ω w1) => hK (.agg (arrK .u64 4 (wd nx))) w1 rfl h)
        clear hK hu hc
        have hl := pt_0 (hN9.out.step hb)
        have hl1 := hl.1
        have hl2 := hl.2
        go_simp
        exact hk.out _ (Below.refl _ _)
      · refine calm_step_guard (g := 11) (b := false) (d := 64) rfl rfl (fun a w hc => hc 11 64 rfl rfl) fun a ω κ hb hu hc hK => ?_
        have hk := Lib.hid (fun w1 (h : Below ω.heap.size ω w1) => hK (.agg (arrK .i64 16 (dgt 0))) w1 rfl h)
        clear hK hu hc
        exact wp_bld0 rfl (build_fe0 _) (hk.out _ (Below.refl _ _))
      · refine calm_step_guard (g := 11) (b := false) (d := 64) rfl rfl (fun a w hc => hc 11 64 rfl rfl) fun a ω κ hb hu hc hK => ?_
        have h2 : a.tmps[2]?.getD undef = .pointer (some ⟨w.heap.size, 0, none⟩) := (hu 2 rfl).trans e2
        have hk := Lib.hid (fun w1 (h : Below ω.heap.size ω w1) => hK (.pointer (some ⟨w.heap.size, 0, none⟩)) w1 rfl h)
        clear hK hu hc
        go_simp
        exact hk.out _ (Below.refl _ _)
      · refine calm_step_guard (g := 11) (b := false) (d := 64) rfl rfl (fun a w hc => hc 11 64 rfl rfl) fun a ω κ hb hu hc hK => ?_
        have h68 : a.tmps[68]?.getD undef = .pointer (some ⟨w.heap.size, 0, none⟩) := hc 15 68 rfl rfl
        have hk := Lib.hid (fun w1 (h : Below ω.heap.size ω w1) => hK (.agg (arrK .u64 4 (wd x1))) w1 rfl h)
        clear hK hu hc
        have hl := pt_0 (hA.out.step hb)
        have hl1 := hl.1
        have hl2 := hl.2
        go_simp
        exact hk.out _ (Below.refl _ _)
      · refine calm_step_guard (g := 11) (b := false) (d := 64) rfl rfl (fun a w hc => hc 11 64 rfl rfl) fun a ω κ hb hu hc hK => ?_
        have h69 : a.tmps[69]?.getD undef = .agg (arrK .u64 4 (wd x1)) := hc 16 69 rfl rfl
        have hk := Lib.hid (fun w1 (h : Below ω.heap.size ω w1) => hK (.agg (arrK .i64 16 (dgt fx))) w1 rfl h)
        clear hK hu hc
        go_simp
        go_at_call 12
        refine (kF1.out _).mono ?_
        rintro e w1 ⟨rfl, hb1⟩
        exact hk.out _ hb1
      · refine calm_step_guard (g := 11) (b := false) (d := 64) rfl rfl (fun a w hc => hc 11 64 rfl rfl) fun a ω κ hb hu hc hK => ?_
        have h67 : a.tmps[67]?.getD undef = .agg (arrK .i64 16 (dgt 0)) := hc 14 67 rfl rfl
        have h70 : a.tmps[70]?.getD undef = .agg (arrK .i64 16 (dgt fx)) := hc 17 70 rfl rfl
        have hk := Lib.hid (fun w1 (h : Below ω.heap.size ω w1) => hK (.agg (arrK .i64 16 (dgt nx))) w1 rfl h)
        clear hK hu hc
        go_simp
        go_at_call 23
        refine (kLs.out _).mono ?_
        rintro e w1 ⟨rfl, hb1⟩
        exact hk.out _ hb1
      · refine calm_step_guard (g := 11) (b := false) (d := 64) rfl rfl (fun a w hc => hc 11 64 rfl rfl) fun a ω κ hb hu hc hK => ?_
        have h71 : a.tmps[71]?.getD undef = .agg (arrK .i64 16 (dgt nx)) := hc 18 71 rfl rfl
        have hk := Lib.hid (fun w1 (h : Below ω.heap.size ω w1) => hK (.agg (arrK .u64 4 (wd nx))) w1 rfl h)
        clear hK hu hc
        go_simp
        go_at_call 19
        refine (kNm.out _).mono ?_
        rintro e w1 ⟨rfl, hb1⟩
        exact hk.out _ hb1
      · refine calm_step_guard (g := 11) (b := false) (d := 64) rfl rfl (fun a w hc => hc 11 64 rfl rfl) fun a ω κ hb hu hc hK => ?_
        have h66 : a.tmps[66]?.getD undef = .agg (arrK .u64 4 (wd nx)) := hc 13 66 rfl rfl
        have h72 : a.tmps[72]?.getD undef = .agg (arrK .u64 4 (wd nx)) := hc 19 72 rfl rfl
        have hk := Lib.hid (fun w1 (h : Below ω.heap.size ω w1) => hK (.bool false) w1 rfl h)
        clear hK hu hc
        exact wp_eqlA (v := arrK .u64 4 (wd nx)) (u := arrK .u64 4 (wd nx)) (.inl rfl) (by kernel_rfl) (by go_simp) (by go_simp) (neqN4 _ _) (hk.out _ (Below.refl _ _))
      · refine calm_step_guard (g := 1) (b := true) (d := 54) rfl rfl (fun a w hc => hc 1 54 rfl rfl) fun a ω κ hb hu hc hK => ?_
        have h64 : a.tmps[64]?.getD undef = .bool false := hc 11 64 rfl rfl
        have h73 : a.tmps[73]?.getD undef = .bool false := hc 20 73 rfl rfl
        have hk := Lib.hid (fun w1 (h : Below ω.heap.size ω w1) => hK (.bool false) w1 rfl h)
        clear hK hu hc
        go_simp
        exact hk.out _ (Below.refl _ _)
      · refine calm_step rfl fun a ω κ hb hu hc hK => ?_
        have h54 : a.tmps[54]?.getD undef = .bool true := hc 1 54 rfl rfl
        have h74 : a.tmps[74]?.getD undef = .bool false := hc 21 74 rfl rfl
        have hk := Lib.hid (fun w1 (h : Below ω.heap.size ω w1) => hK (.bool false) w1 rfl h)
        clear hK hu hc
        go_simp
        exact hk.out _ (Below.refl _ _)
      · intro a1 w1 hb1 hu1 hsz1 hdf1 hc1
        have ha0 := hha0.out
        subst ha0
        have he := act_patch (n := 101) [false, false, false, false, false, false, false, false, false, false, false, false, false, false, false, false, false, false, false, false, false, false, false, false, false, false, false, false, false, false, false, false, false, false, false, false, false, false, false, false, false, false, false, false, false, false, false, false, false, false, false, false, false, true, true, true, true, true, true, true, true, true, true, true, true, true, true, true, true, true, true, true, true, true, true, true, false, false, false, false, false, false, false, false, false, false, false, false, false, false, false, false, false, false, false, false, false, false, false, false, false] rfl (by kernel_rfl) hu1 hsz1 hdf1
        simp only [patch, cond_true, cond_false, Nat.reduceAdd] at he
        have hkn75 : a1.tmps[75]?.getD undef = .bool false := hc1 22 75 rfl
        replace hA := Lib.hid (hA.out.step hb1)
        replace hB := Lib.hid (hB.out.step hb1)
        replace hS7 := Lib.hid (hS7.out.step hb1)
        replace hN9 := Lib.hid (hN9.out.step hb1)
        replace hL := Lib.hid (below_step hb1 hL.out (Nat.le_refl _))
        clear hb1 hu1 hsz1 hdf1 hc1 hz0 hha0 e2 e5 e9 e10
        rw [he]
        clear he
        rw [hkn75]
        clear hkn75
        generalize a1.tmps[53]?.getD undef = x53 at *
        generalize a1.tmps[54]?.getD undef = x54 at *
        generalize a1.tmps[55]?.getD undef = x55 at *
        generalize a1.tmps[56]?.getD undef = x56 at *
        generalize a1.tmps[57]?.getD undef = x57 at *
        generalize a1.tmps[58]?.getD undef = x58 at *
        generalize a1.tmps[59]?.getD undef = x59 at *
        generalize a1.tmps[60]?.getD undef = x60 at *
        generalize a1.tmps[61]?.getD undef = x61 at *
        generalize a1.tmps[62]?.getD undef = x62 at *
        generalize a1.tmps[63]?.getD undef = x63 at *
        generalize a1.tmps[64]?.getD undef = x64 at *
        generalize a1.tmps[65]?.getD undef = x65 at *
        generalize a1.tmps[66]?.getD undef = x66 at *
        generalize a1.tmps[67]?.getD undef = x67 at *
        generalize a1.tmps[68]?.getD undef = x68 at *
        generalize a1.tmps[69]?.getD undef = x69 at *
        generalize a1.tmps[70]?.getD undef = x70 at *
        generalize a1.tmps[71]?.getD undef = x71 at *
        generalize a1.tmps[72]?.getD undef = x72 at *
        generalize a1.tmps[73]?.getD undef = x73 at *
        generalize a1.tmps[74]?.getD undef = x74 at *
        clear kF1 kLs kNm
        generalize w1 = W8 at *
        cases o2 with
        | false =>
          obtain ⟨rfl, rfl, rfl⟩ := hS.out.2 (.inr rfl)
          have hr1 := hS7.out.row
          have hr2 := hS7.out.eq
          go_wp2_with (first
            | refine wpList_opW (by go_simp) (fun K hK => wp_bld0 rfl (build_pt0 _) (hK _ _ ?_))
            | refine wpList_opW (by go_simp) (fun K hK => wp_eqlA (.inr rfl) (by kernel_rfl) (v := arrK .u64 8 (cat2 (wd 0) (wd 0))) (u := arrK .u64 8 (cat2 (wd 0) (wd 0))) (by go_simp) (by go_simp) (eqlPtB _ _ _) (hK _ _ ?_)))
          exact ret_tmp (p := 4) (v := .bool true) rfl (by simp) rfl ⟨rfl, hL.out⟩
        | true =>
          obtain ⟨e1, e2, e3⟩ := hS.out.1 rfl rfl
          rw [e1, e2] at hS7
          subst e3
          clear hS e1 e2
          go_upto_region 12 with (fail)
          generalize ha0 : Act.mk _ _ = a0
          have e2 : a0.tmps[2]?.getD undef = .pointer (some ⟨w.heap.size, 0, none⟩) := by rw [← ha0]; rfl
          have e3 : a0.tmps[3]?.getD undef = .pointer (some ⟨w.heap.size + 1, 0, none⟩) := by rw [← ha0]; rfl
          have e7 : a0.tmps[7]?.getD undef = .pointer (some ⟨g7, 0, none⟩) := by rw [← ha0]; rfl
          have e8 : a0.tmps[8]?.getD undef = .int .i64 0 := by rw [← ha0]; rfl
          have hz0 : a0.tmps.size = 101 := by rw [← ha0]; rfl
          have hha0 := Lib.hid ha0
          clear ha0
          refine wp_region_calm (fun jx_ => match jx_ with | 0 => SRel.is (.int .i64 0) | 1 => SRel.is (.bool true) | 2 => SRel.is (.bool true) | 3 => SRel.is (.agg (arrK .u64 8 (cat2 (wd X) (wd Y)))) | 4 => SRel.is (.agg (arrK .u64 8 (cat2 (wd x1) (wd y1)))) | 5 => SRel.is (.agg (arrK .i64 48 (cat3 (dgt fx) (dgt fy) (dgt 1)))) | 6 => SRel.is (.agg (arrK .u64 8 (cat2 (wd x2) (wd y2)))) | 7 => SRel.is (.agg (arrK .i64 48 (cat3 (dgt gx) (dgt gy) (dgt 1)))) | 8 => SRel.is (.agg (arrK .i64 48 (cat3 (dgt r1) (dgt r2) (dgt r3)))) | 9 => SRel.is (.agg (arrK .u64 8 (cat2 (wd X) (wd Y)))) | 10 => SRel.is (.bool true) | 11 => SRel.is (.bool true) | 12 => SRel.is (.bool true) | _ => SRel.any) (by kernel_rfl) (by kernel_rfl) (by kernel_rfl) (slotsOk_of hz0 (by kernel_rfl)) ⟨?_, ?_, ?_, ?_, ?_, ?_, ?_, ?_, ?_, ?_, ?_, ?_, ?_, trivial⟩ ?_
          · refine calm_step rfl fun a ω κ hb hu hc hK => ?_
            have h8 : a.tmps[8]?.getD undef = .int .i64 0 := (hu 8 rfl).trans e8
            have hk := Lib.hid (fun w1 (h : Below ω.heap.size ω w1) => hK (.int .i64 0) w1 rfl h)
            clear hK hu hc
            go_simp
            exact hk.out _ (Below.refl _ _)
          · refine calm_step rfl fun a ω κ hb hu hc hK => ?_
            have h89 : a.tmps[89]?.getD undef = .int .i64 0 := hc 0 89 rfl rfl
            have hk := Lib.hid (fun w1 (h : Below ω.heap.size ω w1) => hK (.bool true) w1 rfl h)
            clear hK hu hc
            go_simp
            exact hk.out _ (Below.refl _ _)
          · refine calm_step rfl fun a ω κ hb hu hc hK => ?_
            have h90 : a.tmps[90]?.getD undef = .bool true := hc 1 90 rfl rfl
            have hk := Lib.hid (fun w1 (h : Below ω.heap.size ω w1) => hK (.bool true) w1 rfl h)
            clear hK hu hc
            go_simp
            exact hk.out _ (Below.refl _ _)
          · refine calm_step_guard (g := 2) (b := true) (d := 91) rfl rfl (fun a w hc => hc 2 91 rfl rfl) fun a ω κ hb hu hc hK => ?_
            have h7 : a.tmps[7]?.getD undef = .pointer (some ⟨g7, 0, none⟩) := (hu 7 rfl).trans e7
            have hk := Lib.hid (fun w1 (h : Below ω.heap.size ω w1) => hK (.agg (arrK .u64 8 (cat2 (wd X) (wd Y)))) w1 rfl h)
            clear hK hu hc
            have hr1 := (hS7.out.step hb).row
            have hr2 := (hS7.out.step hb).eq
            go_simp
            exact hk.out _ (Below.refl _ _)
          · refine calm_step_guard (g := 2) (b := true) (d := 91) rfl rfl (fun a w hc => hc 2 91 rfl rfl) fun a ω κ hb hu hc hK => ?_
            have h2 : a.tmps[2]?.getD undef = .pointer (some ⟨w.heap.size, 0, none⟩) := (hu 2 rfl).trans e2
            have hk := Lib.hid (fun w1 (h : Below ω.heap.size ω w1) => hK (.agg (arrK .u64 8 (cat2 (wd x1) (wd y1)))) w1 rfl h)
            clear hK hu hc
            have hr1 := (hA.out.step hb).row
            have hr2 := (hA.out.step hb).eq
            go_simp
            exact hk.out _ (Below.refl _ _)
          · refine calm_step_guard (g := 2) (b := true) (d := 91) rfl rfl (fun a w hc => hc 2 91 rfl rfl) fun a ω κ hb hu hc hK => ?_
            have h93 : a.tmps[93]?.getD undef = .agg (arrK .u64 8 (cat2 (wd x1) (wd y1))) := hc 4 93 rfl rfl
            have hk := Lib.hid (fun w1 (h : Below ω.heap.size ω w1) => hK (.agg (arrK .i64 48 (cat3 (dgt fx) (dgt fy) (dgt 1)))) w1 rfl h)
            clear hK hu hc
            go_simp
            go_at_call 30
            refine (kQ1.out _).mono ?_
            rintro e w1 ⟨rfl, hb1⟩
            exact hk.out _ hb1
          · refine calm_step_guard (g := 2) (b := true) (d := 91) rfl rfl (fun a w hc => hc 2 91 rfl rfl) fun a ω κ hb hu hc hK => ?_
            have h3 : a.tmps[3]?.getD undef = .pointer (some ⟨w.heap.size + 1, 0, none⟩) := (hu 3 rfl).trans e3
            have hk := Lib.hid (fun w1 (h : Below ω.heap.size ω w1) => hK (.agg (arrK .u64 8 (cat2 (wd x2) (wd y2)))) w1 rfl h)
            clear hK hu hc
            have hr1 := (hB.out.step hb).row
            have hr2 := (hB.out.step hb).eq
            go_simp
            exact hk.out _ (Below.refl _ _)
          · refine calm_step_guard (g := 2) (b := true) (d := 91) rfl rfl (fun a w hc => hc 2 91 rfl rfl) fun a ω κ hb hu hc hK => ?_
            have h95 : a.tmps[95]?.getD undef = .agg (arrK .u64 8 (cat2 (wd x2) (wd y2))) := hc 6 95 rfl rfl
            have hk := Lib.hid (fun w1 (h : Below ω.heap.size ω w1) => hK (.agg (arrK .i64 48 (cat3 (dgt gx) (dgt gy) (dgt 1)))) w1 rfl h)
            clear hK hu hc
            go_simp
            go_at_call 30
            refine (kQ2.out _).mono ?_
            rintro e w1 ⟨rfl, hb1⟩
            exact hk.out _ hb1
          · refine calm_step_guard (g := 2) (b := true) (d := 91) rfl rfl (fun a w hc => hc 2 91 rfl rfl) fun a ω κ hb hu hc hK => ?_
            have h94 : a.tmps[94]?.getD undef = .agg (arrK .i64 48 (cat3 (dgt fx) (dgt fy) (dgt 1))) := hc 5 94 rfl rfl
            have h96 : a.tmps[96]?.getD undef = .agg (arrK .i64 48 (cat3 (dgt gx) (dgt gy) (dgt 1))) := hc 7 96 rfl rfl
            have hk := Lib.hid (fun w1 (h : Below ω.heap.size ω w1) => hK (.agg (arrK .i64 48 (cat3 (dgt r1) (dgt r2) (dgt r3)))) w1 rfl h)
            clear hK hu hc
            go_simp
            go_at_call 40
            refine (kPl.out _).mono ?_
            rintro e w1 ⟨rfl, hb1⟩
            exact hk.out _ hb1
          · refine calm_step_guard (g := 2) (b := true) (d := 91) rfl rfl (fun a w hc => hc 2 91 rfl rfl) fun a ω κ hb hu hc hK => ?_
            have h97 : a.tmps[97]?.getD undef = .agg (arrK .i64 48 (cat3 (dgt r1) (dgt r2) (dgt r3))) := hc 8 97 rfl rfl
            have hk := Lib.hid (fun w1 (h : Below ω.heap.size ω w1) => hK (.agg (arrK .u64 8 (cat2 (wd X) (wd Y)))) w1 rfl h)
            clear hK hu hc
            go_simp
            go_at_call 33
            refine (kPp.out _).mono ?_
            rintro e w1 ⟨rfl, hb1⟩
            exact hk.out _ hb1
          · refine calm_step_guard (g := 2) (b := true) (d := 91) rfl rfl (fun a w hc => hc 2 91 rfl rfl) fun a ω κ hb hu hc hK => ?_
            have h92 : a.tmps[92]?.getD undef = .agg (arrK .u64 8 (cat2 (wd X) (wd Y))) := hc 3 92 rfl rfl
            have h98 : a.tmps[98]?.getD undef = .agg (arrK .u64 8 (cat2 (wd X) (wd Y))) := hc 9 98 rfl rfl
            have hk := Lib.hid (fun w1 (h : Below ω.heap.size ω w1) => hK (.bool true) w1 rfl h)
            clear hK hu hc
            exact wp_eqlA (v := arrK .u64 8 (cat2 (wd X) (wd Y))) (u := arrK .u64 8 (cat2 (wd X) (wd Y))) (.inr rfl) (by kernel_rfl) (by go_simp) (by go_simp) (eqlPtB _ _ _) (hk.out _ (Below.refl _ _))
          · refine calm_step rfl fun a ω κ hb hu hc hK => ?_
            have h91 : a.tmps[91]?.getD undef = .bool true := hc 2 91 rfl rfl
            have h99 : a.tmps[99]?.getD undef = .bool true := hc 10 99 rfl rfl
            have hk := Lib.hid (fun w1 (h : Below ω.heap.size ω w1) => hK (.bool true) w1 rfl h)
            clear hK hu hc
            go_simp
            exact hk.out _ (Below.refl _ _)
          · refine calm_step rfl fun a ω κ hb hu hc hK => ?_
            have h100 : a.tmps[100]?.getD undef = .bool true := hc 11 100 rfl rfl
            have hk := Lib.hid (fun w1 (h : Below ω.heap.size ω w1) => hK (.bool true) w1 rfl h)
            clear hK hu hc
            go_simp
            exact hk.out _ (Below.refl _ _)
          · intro a1 w1 hb1 hu1 hsz1 hdf1 hc1
            have ha0 := hha0.out
            subst ha0
            have he := act_patch (n := 101) [false, false, false, false, true, false, false, false, false, false, false, false, false, false, false, false, false, false, false, false, false, false, false, false, false, false, false, false, false, false, false, false, false, false, false, false, false, false, false, false, false, false, false, false, false, false, false, false, false, false, false, false, false, false, false, false, false, false, false, false, false, false, false, false, false, false, false, false, false, false, false, false, false, false, false, false, false, false, false, false, false, false, false, false, false, false, false, false, false, true, true, true, true, true, true, true, true, true, true, true, true] rfl (by kernel_rfl) hu1 hsz1 hdf1
            simp only [patch, cond_true, cond_false, Nat.reduceAdd] at he
            have hkn4 : a1.tmps[4]?.getD undef = .bool true := hc1 12 4 rfl
            replace hL := Lib.hid (below_step hb1 hL.out (Nat.le_refl _))
            clear hb1 hu1 hsz1 hdf1 hc1 hz0 hha0 e2 e3 e7 e8
            rw [he]
            clear he
            rw [hkn4]
            clear hkn4
            generalize a1.tmps[89]?.getD undef = x89 at *
            generalize a1.tmps[90]?.getD undef = x90 at *
            generalize a1.tmps[91]?.getD undef = x91 at *
            generalize a1.tmps[92]?.getD undef = x92 at *
            generalize a1.tmps[93]?.getD undef = x93 at *
            generalize a1.tmps[94]?.getD undef = x94 at *
            generalize a1.tmps[95]?.getD undef = x95 at *
            generalize a1.tmps[96]?.getD undef = x96 at *
            generalize a1.tmps[97]?.getD undef = x97 at *
            generalize a1.tmps[98]?.getD undef = x98 at *
            generalize a1.tmps[99]?.getD undef = x99 at *
            generalize a1.tmps[100]?.getD undef = x100 at *
            go_wp2_with fail
            exact ret_tmp (p := 4) (v := .bool true) rfl (by simp) rfl ⟨rfl, hL.out⟩
end Go.Proofs.Ytodcjeaannfbnaa
namespace Go.Proofs.Ytodcjeaannfbnaa
open Go Go.RowKit Go.ChangeShapes Go.WideShapes Go.ChangeAt Go.Deep
set_option maxRecDepth 100000
theorem open_pt {w : World} {r : Reach} {b0 : Nat} {v : Value} (h : Value.okWide Try.prog w r b0 42 v) : ∃ x y : Nat, v = ptV x y ∧ x < 2 ^ 256 ∧ y < 2 ^ 256 := by
  obtain ⟨c, rfl, hc, hx⟩ := open_cells (n := 8) (ts := List.replicate 8 22) rfl (by kernel_rfl) (by simp) (by kernel_rfl) h
  have h1 : ∀ i, ∃ z : Nat, i < 8 → c[i]? = some (.int .u64 z) ∧ z < 18446744073709551616 := fun i => by
    by_cases hi : i < 8
    · obtain ⟨x, hx1, hx2⟩ := hx i 22 (by rw [List.getElem?_replicate, if_pos hi])
      obtain ⟨z, rfl, hz⟩ := cell_int Try.underlying22 hx2
      have := has_u64 hz
      exact ⟨z.toNat, fun _ => ⟨by rw [Int.toNat_of_nonneg this.1]; exact hx1, by omega⟩⟩
    · exact ⟨0, fun h => absurd h hi⟩
  obtain ⟨f, hf⟩ : ∃ f : Nat → Nat, ∀ i < 8, c[i]? = some (.int .u64 (f i)) ∧ f i < 18446744073709551616 := ⟨fun i => (h1 i).choose, fun i hi => (h1 i).choose_spec hi⟩
  have b1 : ∀ i < 4, f i < 18446744073709551616 := fun i hi => (hf i (by omega)).2
  have b2 : ∀ i < 4, (fun i => f (4 + i)) i < 18446744073709551616 := fun i hi => (hf (4 + i) (by omega)).2
  refine ⟨wval f 4, wval (fun i => f (4 + i)) 4, ?_, wval_lt b1, wval_lt b2⟩
  unfold ptV
  refine congrArg Value.agg ?_
  rw [arrK_V .u64 8]
  refine arrV_of hc.1 fun i hi => ?_
  rw [(hf i hi).1]
  unfold cat2
  by_cases h4 : i < 4
  · rw [if_pos h4, wd_wval b1 i h4]
  · rw [if_neg h4, wd_wval b2 (i - 4) (by omega)]
    rw [show 4 + (i - 4) = i by omega]
end Go.Proofs.Ytodcjeaannfbnaa
