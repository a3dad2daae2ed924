/- Contracts of package curve: Zero, Base, On. -/
import Derived.Test.YtgdiokklfihfoaaDoorCv2
import Derived.Test.YtgdiokklfihfoaaDoorCalmS
namespace Go.Proofs.YtgdiokklfihfoaaDoor
open Go.ChangeShapes Go.WideShapes Go.ChangeAt Go.RowKit
set_option maxHeartbeats 2000000
set_option maxRecDepth 100000
attribute [local go_sem ↓] load_fld load_num store_num execl_num execs_num load_pt store_pt execl_pt execs_pt load_qd store_qd execl_qd execs_qd
attribute [local go_sem] isHead_mk blkOf_mk isAgg_mk cellsV_mk row_drew rowAt_drew row_new_cells row_old rowAt_new rowAt_old setRow_new zeroNum zeroPt zeroQd
theorem build_pt1 (f : Nat → Nat) (w : World) : (Instr.build 133 #[(1, .agg (arrK .u64 4 f))]).run Tryd.prog w = .ok (.agg (arrK .u64 8 (cat2 (wd 0) f))) w := run_build w _ _ _ (by kernel_rfl)
theorem curve_Zero (w : World) : Calls Tryd.prog 145 #[] w fun e w' => e = .returned (ptV 0 1) ∧ Below w.heap.size w w' := by
  unfold ptV
  have hcz := arrK_cells .u64 8 (cat2 (wd 0) (wd 0))
  have hcp := arrK_cells .u64 8 (cat2 (wd 0) (wd 1))
  have hL0 := below_alloc w (Obj.cells (arrK .u64 8 (cat2 (wd 0) (wd 0))) 133)
  have hR0 : Row (w.alloc (Obj.cells (arrK .u64 8 (cat2 (wd 0) (wd 0))) 133)) w.heap.size 8 := (row_new rfl).2 hcz.1
  go_enter Tryd.func145, Tryd.ntmps145
  go_upto_region 1 with (fail)
  generalize w.alloc (Obj.cells (arrK .u64 8 (cat2 (wd 0) (wd 0))) 133) = W0 at *
  go_wp2_with (first | refine wpList_bldA (vx := Value.int IntKind.u64 (1 : Int)) rfl rfl rfl (build_one _) ?_ | refine wpList_bldA (vx := .agg (arrK .u64 4 (wd 1))) rfl rfl (by go_simp) (build_pt1 _ _) ?_)
  exact ret_stored (p := 0) (ty := 133) (g := w.heap.size) (n := 8) (c := arrK .u64 8 (cat2 (wd 0) (wd 1))) rfl Tryd.underlying133 rfl (by kernel_rfl) rfl hR0 hcp.1 rfl ⟨rfl, below_setRow hL0 (Nat.le_refl _)⟩
/-- The base point. -/
def bX : Nat := 0x216936d3cd6e53fec0a4e231fdd6dc5c692cc7609525a7b2c9562d608f25d51a
def bY : Nat := 0x6666666666666666666666666666666666666666666666666666666666666658
theorem build_bX (w : World) : (Instr.build 41 #[(0, Value.int IntKind.u64 14507833142362363162), (1, Value.int IntKind.u64 7578651490590762930), (2, Value.int IntKind.u64 13881468655802702940), (3, Value.int IntKind.u64 2407515759118799870)]).run Tryd.prog w = .ok (.agg (arrK .u64 4 (wd bX))) w := run_build w _ _ _ (by kernel_rfl)
theorem build_bY (w : World) : (Instr.build 41 #[(0, Value.int IntKind.u64 7378697629483820632), (1, Value.int IntKind.u64 7378697629483820646), (2, Value.int IntKind.u64 7378697629483820646), (3, Value.int IntKind.u64 7378697629483820646)]).run Tryd.prog w = .ok (.agg (arrK .u64 4 (wd bY))) w := run_build w _ _ _ (by kernel_rfl)
theorem curve_Base (w : World) : Calls Tryd.prog 104 #[] w fun e w' => e = .returned (ptV bX bY) ∧ Below w.heap.size w w' := by
  unfold ptV
  have hcz := arrK_cells .u64 8 (cat2 (wd 0) (wd 0))
  have hL0 := below_alloc w (Obj.cells (arrK .u64 8 (cat2 (wd 0) (wd 0))) 133)
  have hR0 : Row (w.alloc (Obj.cells (arrK .u64 8 (cat2 (wd 0) (wd 0))) 133)) w.heap.size 8 := (row_new rfl).2 hcz.1
  have hb1 := Lib.hid (fun V => build_bX V)
  have hb2 := Lib.hid (fun V => build_bY V)
  obtain ⟨F, hF⟩ : ∃ X, wd bX = X := ⟨_, rfl⟩
  obtain ⟨G, hG⟩ : ∃ X, wd bY = X := ⟨_, rfl⟩
  rw [hF] at hb1 ⊢
  rw [hG] at hb2 ⊢
  clear hF hG
  have hcp := arrK_cells .u64 8 (cat2 F G)
  go_enter Tryd.func104, Tryd.ntmps104
  go_upto_region 1 with (fail)
  generalize w.alloc (Obj.cells (arrK .u64 8 (cat2 (wd 0) (wd 0))) 133) = W0 at *
  go_wp2_with (first | refine wpList_bld4 (v0 := Value.int IntKind.u64 14507833142362363162) (v1 := Value.int IntKind.u64 7578651490590762930) (v2 := Value.int IntKind.u64 13881468655802702940) (v3 := Value.int IntKind.u64 2407515759118799870) rfl rfl rfl rfl rfl rfl (hb1.out _) ?_ | refine wpList_bld4 (v0 := Value.int IntKind.u64 7378697629483820632) (v1 := Value.int IntKind.u64 7378697629483820646) (v2 := Value.int IntKind.u64 7378697629483820646) (v3 := Value.int IntKind.u64 7378697629483820646) rfl rfl rfl rfl rfl rfl (hb2.out _) ?_ | refine wpList_bldB (v0 := .agg (arrK .u64 4 F)) (v1 := .agg (arrK .u64 4 G)) rfl rfl (by go_simp) (by go_simp) (build_pt _ _ _) ?_)
  exact ret_stored (p := 0) (ty := 133) (g := w.heap.size) (n := 8) (c := arrK .u64 8 (cat2 F G)) rfl Tryd.underlying133 rfl (by kernel_rfl) rfl hR0 hcp.1 rfl ⟨rfl, below_setRow hL0 (Nat.le_refl _)⟩
/-- Is it a point of the curve? -/
def onB (x y : Nat) : Bool := decide (x = x % fP) && decide (y = y % fP) && decide (difP (y * y % fP) (x * x % fP) = (1 + dN * ((x * x % fP) * (y * y % fP) % fP) % fP) % fP)
theorem curve_On (x y : Nat) (w : World) (hx : x < 2 ^ 256) (hy : y < 2 ^ 256) : Calls Tryd.prog 143 #[ptV x y] w fun e w' => e = .returned (.bool (onB x y)) ∧ Below w.heap.size w w' := by
  have hdN := dN_lt
  have h1l : 1 < 2 ^ 256 := by decide +kernel
  have kLx := Lib.hid (fun V => field_Low x V hx)
  have kLy := Lib.hid (fun V => field_Low y V hy)
  have hqx := Lib.hid (fun (r : Bool) (h : decide (x = x % fP) = !r) V => neqOf hx low_lt h V)
  have hqy := Lib.hid (fun (r : Bool) (h : decide (y = y % fP) = !r) V => neqOf hy low_lt h V)
  unfold onB
  obtain ⟨xx, hxx⟩ : ∃ v, x * x % fP = v := ⟨_, rfl⟩
  rw [hxx]
  have lxx : xx < 2 ^ 256 := hxx ▸ low_lt
  obtain ⟨yy, hyy⟩ : ∃ v, y * y % fP = v := ⟨_, rfl⟩
  rw [hyy]
  have lyy : yy < 2 ^ 256 := hyy ▸ low_lt
  obtain ⟨df, hdf⟩ : ∃ v, difP yy xx = v := ⟨_, rfl⟩
  rw [hdf]
  have ldf : df < 2 ^ 256 := hdf ▸ dif_low
  obtain ⟨xy, hxy⟩ : ∃ v, xx * yy % fP = v := ⟨_, rfl⟩
  rw [hxy]
  have lxy : xy < 2 ^ 256 := hxy ▸ low_lt
  obtain ⟨dx, hdx⟩ : ∃ v, dN * xy % fP = v := ⟨_, rfl⟩
  rw [hdx]
  have ldx : dx < 2 ^ 256 := hdx ▸ low_lt
  obtain ⟨sm, hsm⟩ : ∃ v, (1 + dx) % fP = v := ⟨_, rfl⟩
  rw [hsm]
  have lsm : sm < 2 ^ 256 := hsm ▸ low_lt
  have kxx := Lib.hid (fun V => field_Mul x x V hx hx)
  rw [hxx] at kxx
  have kyy := Lib.hid (fun V => field_Mul y y V hy hy)
  rw [hyy] at kyy
  have kdf := Lib.hid (fun V => field_Sub yy xx V lyy lxx)
  rw [hdf] at kdf
  have kxy := Lib.hid (fun V => field_Mul xx yy V lxx lyy)
  rw [hxy] at kxy
  have kdx := Lib.hid (fun V => field_Mul dN xy V hdN lxy)
  rw [hdx] at kdx
  have ksm := Lib.hid (fun V => field_Add 1 dx V h1l ldx)
  rw [hsm] at ksm
  have hqe := Lib.hid (fun (r : Bool) (h : decide (df = sm) = r) V => eqlOf ldf lsm h V)
  have kd := Lib.hid (fun V => curve_d V)
  obtain ⟨dn, hdn⟩ : ∃ d, dN = d := ⟨_, rfl⟩
  rw [hdn] at kd kdx
  obtain ⟨px, hpx⟩ : ∃ d, x % fP = d := ⟨_, rfl⟩
  obtain ⟨py, hpy⟩ : ∃ d, y % fP = d := ⟨_, rfl⟩
  rw [hpx] at kLx hqx ⊢
  rw [hpy] at kLy hqy ⊢
  obtain ⟨R, hRR'⟩ : ∃ R : Bool, (decide (x = px) && decide (y = py) && decide (df = sm)) = R := ⟨_, rfl⟩
  rw [hRR']
  have hRR := Lib.hid hRR'
  clear hRR'
  clear hdn hdN hpx hpy hx hy h1l hxx lxx hyy lyy hdf ldf hxy lxy hdx ldx hsm lsm
  unfold numV at kd kLx kLy kxx kyy kdf kxy kdx ksm
  unfold ptV
  have hcxx := arrK_cells .u64 4 (wd xx)
  have hcyy := arrK_cells .u64 4 (wd yy)
  have hc0 := arrK_cells .u64 4 (wd 0)
  have hL0 : Below w.heap.size w (w.alloc (Obj.cells (arrK .u64 8 (cat2 (wd x) (wd y))) 133)) := by go_grown
  have hA0 : At (w.alloc (Obj.cells (arrK .u64 8 (cat2 (wd x) (wd y))) 133)) w.heap.size .u64 8 (cat2 (wd x) (wd y)) := At.new _ rfl
  have hL := Lib.hid hL0
  have hA := Lib.hid hA0
  clear hL0 hA0
  go_enter Tryd.func143, Tryd.ntmps143
  go_upto_region 1 with (fail)
  generalize w.alloc _ = W0 at *
  by_cases hex : x = px
  · have hdx : decide (x = px) = true := decide_eq_true hex
    replace hqx := Lib.hid (hqx.out false hdx)
    replace hdx := Lib.hid hdx
    clear hex
    by_cases hey : y = py
    · have hdy : decide (y = py) = true := decide_eq_true hey
      replace hqy := Lib.hid (hqy.out false hdy)
      replace hdy := Lib.hid hdy
      clear hey
      generalize ha0 : Act.mk _ _ = a0
      have e1 : a0.tmps[1]?.getD undef = .pointer (some ⟨w.heap.size, 0, none⟩) := by rw [← ha0]; rfl
      have hz0 : a0.tmps.size = 40 := by rw [← ha0]; rfl
      have hha0 := Lib.hid ha0
      clear ha0
      refine wp_region_calm (fun jx_ => match jx_ with | 0 => SRel.is (.pointer (some ⟨w.heap.size, 0, none⟩)) | 1 => SRel.is (.agg (arrK .u64 4 (wd x))) | 2 => SRel.is (.pointer (some ⟨w.heap.size, 0, none⟩)) | 3 => SRel.is (.agg (arrK .u64 4 (wd x))) | 4 => SRel.is (.agg (arrK .u64 4 (wd px))) | 5 => SRel.is (.bool false) | 6 => SRel.is (.bool false) | 7 => SRel.is (.pointer (some ⟨w.heap.size, 4, none⟩)) | 8 => SRel.is (.agg (arrK .u64 4 (wd y))) | 9 => SRel.is (.pointer (some ⟨w.heap.size, 4, none⟩)) | 10 => SRel.is (.agg (arrK .u64 4 (wd y))) | 11 => SRel.is (.agg (arrK .u64 4 (wd py))) | 12 => SRel.is (.bool false) | 13 => SRel.is (.bool false) | _ => SRel.any) (by kernel_rfl) (by kernel_rfl) (by kernel_rfl) (slotsOk_of hz0 (by kernel_rfl)) ⟨?_, ?_, ?_, ?_, ?_, ?_, ?_, ?_, ?_, ?_, ?_, ?_, ?_, ?_, trivial⟩ ?_
      · refine calm_step rfl fun a ω κ hb hu hc hK => ?_
        have h1 : a.tmps[1]?.getD undef = .pointer (some ⟨w.heap.size, 0, none⟩) := (hu 1 rfl).trans e1
        have hk := Lib.hid (fun w1 (h : Below ω.heap.size ω w1) => hK (.pointer (some ⟨w.heap.size, 0, none⟩)) w1 rfl h)
        clear hK hu hc
        go_simp
        exact hk.out _ (Below.refl _ _)
      · refine calm_step rfl fun a ω κ hb hu hc hK => ?_
        have h5 : a.tmps[5]?.getD undef = .pointer (some ⟨w.heap.size, 0, none⟩) := hc 0 5 rfl rfl
        have hk := Lib.hid (fun w1 (h : Below ω.heap.size ω w1) => hK (.agg (arrK .u64 4 (wd x))) w1 rfl h)
        clear hK hu hc
        have hl := pt_0 (hA.out.step hb)
        have hl1 := hl.1
        have hl2 := hl.2
        go_simp
        exact hk.out _ (Below.refl _ _)
      · refine calm_step rfl fun a ω κ hb hu hc hK => ?_
        have h1 : a.tmps[1]?.getD undef = .pointer (some ⟨w.heap.size, 0, none⟩) := (hu 1 rfl).trans e1
        have hk := Lib.hid (fun w1 (h : Below ω.heap.size ω w1) => hK (.pointer (some ⟨w.heap.size, 0, none⟩)) w1 rfl h)
        clear hK hu hc
        go_simp
        exact hk.out _ (Below.refl _ _)
      · refine calm_step rfl fun a ω κ hb hu hc hK => ?_
        have h7 : a.tmps[7]?.getD undef = .pointer (some ⟨w.heap.size, 0, none⟩) := hc 2 7 rfl rfl
        have hk := Lib.hid (fun w1 (h : Below ω.heap.size ω w1) => hK (.agg (arrK .u64 4 (wd x))) w1 rfl h)
        clear hK hu hc
        have hl := pt_0 (hA.out.step hb)
        have hl1 := hl.1
        have hl2 := hl.2
        go_simp
        exact hk.out _ (Below.refl _ _)
      · refine calm_step rfl fun a ω κ hb hu hc hK => ?_
        have h8 : a.tmps[8]?.getD undef = .agg (arrK .u64 4 (wd x)) := hc 3 8 rfl rfl
        have hk := Lib.hid (fun w1 (h : Below ω.heap.size ω w1) => hK (.agg (arrK .u64 4 (wd px))) w1 rfl h)
        clear hK hu hc
        go_simp
        go_at_call 164
        refine (kLx.out _).mono ?_
        rintro e w1 ⟨rfl, hb1⟩
        exact hk.out _ hb1
      · refine calm_step rfl fun a ω κ hb hu hc hK => ?_
        have h6 : a.tmps[6]?.getD undef = .agg (arrK .u64 4 (wd x)) := hc 1 6 rfl rfl
        have h9 : a.tmps[9]?.getD undef = .agg (arrK .u64 4 (wd px)) := hc 4 9 rfl rfl
        have hk := Lib.hid (fun w1 (h : Below ω.heap.size ω w1) => hK (.bool false) w1 rfl h)
        clear hK hu hc
        exact wp_eqlA (v := arrK .u64 4 (wd x)) (u := arrK .u64 4 (wd px)) (.inl rfl) (by kernel_rfl) (by go_simp) (by go_simp) (hqx.out _) (hk.out _ (Below.refl _ _))
      · refine calm_step rfl fun a ω κ hb hu hc hK => ?_
        have h10 : a.tmps[10]?.getD undef = .bool false := hc 5 10 rfl rfl
        have hk := Lib.hid (fun w1 (h : Below ω.heap.size ω w1) => hK (.bool false) w1 rfl h)
        clear hK hu hc
        go_simp
        exact hk.out _ (Below.refl _ _)
      · refine calm_step_guard (g := 6) (b := false) (d := 11) rfl rfl (fun a w hc => hc 6 11 rfl rfl) fun a ω κ hb hu hc hK => ?_
        have h1 : a.tmps[1]?.getD undef = .pointer (some ⟨w.heap.size, 0, none⟩) := (hu 1 rfl).trans e1
        have hk := Lib.hid (fun w1 (h : Below ω.heap.size ω w1) => hK (.pointer (some ⟨w.heap.size, 4, none⟩)) w1 rfl h)
        clear hK hu hc
        go_simp
        exact hk.out _ (Below.refl _ _)
      · refine calm_step_guard (g := 6) (b := false) (d := 11) rfl rfl (fun a w hc => hc 6 11 rfl rfl) fun a ω κ hb hu hc hK => ?_
        have h12 : a.tmps[12]?.getD undef = .pointer (some ⟨w.heap.size, 4, none⟩) := hc 7 12 rfl rfl
        have hk := Lib.hid (fun w1 (h : Below ω.heap.size ω w1) => hK (.agg (arrK .u64 4 (wd y))) w1 rfl h)
        clear hK hu hc
        have hl := pt_1 (hA.out.step hb)
        have hl1 := hl.1
        have hl2 := hl.2
        go_simp
        exact hk.out _ (Below.refl _ _)
      · refine calm_step_guard (g := 6) (b := false) (d := 11) rfl rfl (fun a w hc => hc 6 11 rfl rfl) fun a ω κ hb hu hc hK => ?_
        have h1 : a.tmps[1]?.getD undef = .pointer (some ⟨w.heap.size, 0, none⟩) := (hu 1 rfl).trans e1
        have hk := Lib.hid (fun w1 (h : Below ω.heap.size ω w1) => hK (.pointer (some ⟨w.heap.size, 4, none⟩)) w1 rfl h)
        clear hK hu hc
        go_simp
        exact hk.out _ (Below.refl _ _)
      · refine calm_step_guard (g := 6) (b := false) (d := 11) rfl rfl (fun a w hc => hc 6 11 rfl rfl) fun a ω κ hb hu hc hK => ?_
        have h14 : a.tmps[14]?.getD undef = .pointer (some ⟨w.heap.size, 4, none⟩) := hc 9 14 rfl rfl
        have hk := Lib.hid (fun w1 (h : Below ω.heap.size ω w1) => hK (.agg (arrK .u64 4 (wd y))) w1 rfl h)
        clear hK hu hc
        have hl := pt_1 (hA.out.step hb)
        have hl1 := hl.1
        have hl2 := hl.2
        go_simp
        exact hk.out _ (Below.refl _ _)
      · refine calm_step_guard (g := 6) (b := false) (d := 11) rfl rfl (fun a w hc => hc 6 11 rfl rfl) fun a ω κ hb hu hc hK => ?_
        have h15 : a.tmps[15]?.getD undef = .agg (arrK .u64 4 (wd y)) := hc 10 15 rfl rfl
        have hk := Lib.hid (fun w1 (h : Below ω.heap.size ω w1) => hK (.agg (arrK .u64 4 (wd py))) w1 rfl h)
        clear hK hu hc
        go_simp
        go_at_call 164
        refine (kLy.out _).mono ?_
        rintro e w1 ⟨rfl, hb1⟩
        exact hk.out _ hb1
      · refine calm_step_guard (g := 6) (b := false) (d := 11) rfl rfl (fun a w hc => hc 6 11 rfl rfl) fun a ω κ hb hu hc hK => ?_
        have h13 : a.tmps[13]?.getD undef = .agg (arrK .u64 4 (wd y)) := hc 8 13 rfl rfl
        have h16 : a.tmps[16]?.getD undef = .agg (arrK .u64 4 (wd py)) := hc 11 16 rfl rfl
        have hk := Lib.hid (fun w1 (h : Below ω.heap.size ω w1) => hK (.bool false) w1 rfl h)
        clear hK hu hc
        exact wp_eqlA (v := arrK .u64 4 (wd y)) (u := arrK .u64 4 (wd py)) (.inl rfl) (by kernel_rfl) (by go_simp) (by go_simp) (hqy.out _) (hk.out _ (Below.refl _ _))
      · refine calm_step rfl fun a ω κ hb hu hc hK => ?_
        have h11 : a.tmps[11]?.getD undef = .bool false := hc 6 11 rfl rfl
        have h17 : a.tmps[17]?.getD undef = .bool false := hc 12 17 rfl rfl
        have hk := Lib.hid (fun w1 (h : Below ω.heap.size ω w1) => hK (.bool false) w1 rfl h)
        clear hK hu hc
        go_simp
        exact hk.out _ (Below.refl _ _)
      · intro a1 w1 hb1 hu1 hsz1 hdf1 hc1
        have ha0 := hha0.out
        subst ha0
        have he := act_patch (n := 40) [false, false, false, false, false, true, true, true, true, true, true, true, true, true, true, true, true, true, true, false, false, false, false, false, false, false, false, false, false, false, false, false, false, false, false, false, false, false, false, false] rfl (by kernel_rfl) hu1 hsz1 hdf1
        simp only [patch, cond_true, cond_false, Nat.reduceAdd] at he
        have hkn18 : a1.tmps[18]?.getD undef = .bool false := hc1 13 18 rfl
        replace hA := Lib.hid (hA.out.step hb1)
        replace hL := Lib.hid (below_step hb1 hL.out (Nat.le_refl _))
        clear kLx kLy hqx hqy
        clear hb1 hu1 hsz1 hdf1 hc1 hz0 hha0 e1
        rw [he]
        clear he
        rw [hkn18]
        clear hkn18
        generalize a1.tmps[5]?.getD undef = x5 at *
        generalize a1.tmps[6]?.getD undef = x6 at *
        generalize a1.tmps[7]?.getD undef = x7 at *
        generalize a1.tmps[8]?.getD undef = x8 at *
        generalize a1.tmps[9]?.getD undef = x9 at *
        generalize a1.tmps[10]?.getD undef = x10 at *
        generalize a1.tmps[11]?.getD undef = x11 at *
        generalize a1.tmps[12]?.getD undef = x12 at *
        generalize a1.tmps[13]?.getD undef = x13 at *
        generalize a1.tmps[14]?.getD undef = x14 at *
        generalize a1.tmps[15]?.getD undef = x15 at *
        generalize a1.tmps[16]?.getD undef = x16 at *
        generalize a1.tmps[17]?.getD undef = x17 at *
        go_upto_region 3 with (fail)
        generalize ha0 : Act.mk _ _ = a0
        have e1 : a0.tmps[1]?.getD undef = .pointer (some ⟨w.heap.size, 0, none⟩) := by rw [← ha0]; rfl
        have hz0 : a0.tmps.size = 40 := by rw [← ha0]; rfl
        have hha0 := Lib.hid ha0
        clear ha0
        refine wp_region_fresh ⟨fun jx_ => match jx_ with | 0 => some (.pointer (some ⟨w.heap.size, 0, none⟩)) | 1 => some (.agg (arrK .u64 4 (wd x))) | 2 => some (.pointer (some ⟨w.heap.size, 0, none⟩)) | 3 => some (.agg (arrK .u64 4 (wd x))) | 4 => some (.agg (arrK .u64 4 (wd xx))) | 5 => some (.pointer (some ⟨w.heap.size, 4, none⟩)) | 6 => some (.agg (arrK .u64 4 (wd y))) | 7 => some (.pointer (some ⟨w.heap.size, 4, none⟩)) | 8 => some (.agg (arrK .u64 4 (wd y))) | 9 => some (.agg (arrK .u64 4 (wd yy))) | _ => none, fun jx_ => match jx_ with | 10 => some 4 | 11 => some 4 | _ => none, fun jx_ => match jx_ with | 12 => some 10 | 13 => some 11 | _ => none, fun jx_ => match jx_ with | 12 => arrK .u64 4 (wd xx) | 13 => arrK .u64 4 (wd yy) | _ => #[]⟩ (by kernel_rfl) (by kernel_rfl) (by kernel_rfl) (slotsOk_of hz0 (by kernel_rfl)) rfl ⟨?_, ?_, ?_, ?_, ?_, ?_, ?_, ?_, ?_, ?_, ?_, ?_, ?_, ?_, trivial⟩ ?_
        · refine fstep_val rfl rfl (calm_step rfl fun aa ω κ hb hu hc hK => ?_)
          have h1 : aa.tmps[1]?.getD undef = .pointer (some ⟨w.heap.size, 0, none⟩) := (hu 1 rfl).trans e1
          have hk := Lib.hid (fun w1 (h : Below ω.heap.size ω w1) => hK (.pointer (some ⟨w.heap.size, 0, none⟩)) w1 rfl h)
          clear hK hu hc
          go_simp
          exact hk.out _ (Below.refl _ _)
        · refine fstep_val rfl rfl (calm_step rfl fun aa ω κ hb hu hc hK => ?_)
          have h19 : aa.tmps[19]?.getD undef = .pointer (some ⟨w.heap.size, 0, none⟩) := hc 0 19 rfl rfl
          have hk := Lib.hid (fun w1 (h : Below ω.heap.size ω w1) => hK (.agg (arrK .u64 4 (wd x))) w1 rfl h)
          clear hK hu hc
          have hl := pt_0 (hA.out.step hb)
          have hl1 := hl.1
          have hl2 := hl.2
          go_simp
          exact hk.out _ (Below.refl _ _)
        · refine fstep_val rfl rfl (calm_step rfl fun aa ω κ hb hu hc hK => ?_)
          have h1 : aa.tmps[1]?.getD undef = .pointer (some ⟨w.heap.size, 0, none⟩) := (hu 1 rfl).trans e1
          have hk := Lib.hid (fun w1 (h : Below ω.heap.size ω w1) => hK (.pointer (some ⟨w.heap.size, 0, none⟩)) w1 rfl h)
          clear hK hu hc
          go_simp
          exact hk.out _ (Below.refl _ _)
        · refine fstep_val rfl rfl (calm_step rfl fun aa ω κ hb hu hc hK => ?_)
          have h21 : aa.tmps[21]?.getD undef = .pointer (some ⟨w.heap.size, 0, none⟩) := hc 2 21 rfl rfl
          have hk := Lib.hid (fun w1 (h : Below ω.heap.size ω w1) => hK (.agg (arrK .u64 4 (wd x))) w1 rfl h)
          clear hK hu hc
          have hl := pt_0 (hA.out.step hb)
          have hl1 := hl.1
          have hl2 := hl.2
          go_simp
          exact hk.out _ (Below.refl _ _)
        · refine fstep_val rfl rfl (calm_step rfl fun aa ω κ hb hu hc hK => ?_)
          have h20 : aa.tmps[20]?.getD undef = .agg (arrK .u64 4 (wd x)) := hc 1 20 rfl rfl
          have h22 : aa.tmps[22]?.getD undef = .agg (arrK .u64 4 (wd x)) := hc 3 22 rfl rfl
          have hk := Lib.hid (fun w1 (h : Below ω.heap.size ω w1) => hK (.agg (arrK .u64 4 (wd xx))) w1 rfl h)
          clear hK hu hc
          go_simp
          go_at_call 165
          refine (kxx.out _).mono ?_
          rintro e w1 ⟨rfl, hb1⟩
          exact hk.out _ hb1
        · refine fstep_val rfl rfl (calm_step rfl fun aa ω κ hb hu hc hK => ?_)
          have h1 : aa.tmps[1]?.getD undef = .pointer (some ⟨w.heap.size, 0, none⟩) := (hu 1 rfl).trans e1
          have hk := Lib.hid (fun w1 (h : Below ω.heap.size ω w1) => hK (.pointer (some ⟨w.heap.size, 4, none⟩)) w1 rfl h)
          clear hK hu hc
          go_simp
          exact hk.out _ (Below.refl _ _)
        · refine fstep_val rfl rfl (calm_step rfl fun aa ω κ hb hu hc hK => ?_)
          have h24 : aa.tmps[24]?.getD undef = .pointer (some ⟨w.heap.size, 4, none⟩) := hc 5 24 rfl rfl
          have hk := Lib.hid (fun w1 (h : Below ω.heap.size ω w1) => hK (.agg (arrK .u64 4 (wd y))) w1 rfl h)
          clear hK hu hc
          have hl := pt_1 (hA.out.step hb)
          have hl1 := hl.1
          have hl2 := hl.2
          go_simp
          exact hk.out _ (Below.refl _ _)
        · refine fstep_val rfl rfl (calm_step rfl fun aa ω κ hb hu hc hK => ?_)
          have h1 : aa.tmps[1]?.getD undef = .pointer (some ⟨w.heap.size, 0, none⟩) := (hu 1 rfl).trans e1
          have hk := Lib.hid (fun w1 (h : Below ω.heap.size ω w1) => hK (.pointer (some ⟨w.heap.size, 4, none⟩)) w1 rfl h)
          clear hK hu hc
          go_simp
          exact hk.out _ (Below.refl _ _)
        · refine fstep_val rfl rfl (calm_step rfl fun aa ω κ hb hu hc hK => ?_)
          have h26 : aa.tmps[26]?.getD undef = .pointer (some ⟨w.heap.size, 4, none⟩) := hc 7 26 rfl rfl
          have hk := Lib.hid (fun w1 (h : Below ω.heap.size ω w1) => hK (.agg (arrK .u64 4 (wd y))) w1 rfl h)
          clear hK hu hc
          have hl := pt_1 (hA.out.step hb)
          have hl1 := hl.1
          have hl2 := hl.2
          go_simp
          exact hk.out _ (Below.refl _ _)
        · refine fstep_val rfl rfl (calm_step rfl fun aa ω κ hb hu hc hK => ?_)
          have h25 : aa.tmps[25]?.getD undef = .agg (arrK .u64 4 (wd y)) := hc 6 25 rfl rfl
          have h27 : aa.tmps[27]?.getD undef = .agg (arrK .u64 4 (wd y)) := hc 8 27 rfl rfl
          have hk := Lib.hid (fun w1 (h : Below ω.heap.size ω w1) => hK (.agg (arrK .u64 4 (wd yy))) w1 rfl h)
          clear hK hu hc
          go_simp
          go_at_call 165
          refine (kyy.out _).mono ?_
          rintro e w1 ⟨rfl, hb1⟩
          exact hk.out _ hb1
        · refine fstep_al (n := 4) rfl rfl fun aa ω κ hK => ?_
          have hk := Lib.hid hK
          clear hK
          go_simp
          exact hk.out _ _ hc0
        · refine fstep_al (n := 4) rfl rfl fun aa ω κ hK => ?_
          have hk := Lib.hid hK
          clear hK
          go_simp
          exact hk.out _ _ hc0
        · refine fstep_st (j := 10) (n := 4) (d := 3) rfl rfl rfl rfl rfl hcxx.1 rfl rfl fun aa ω κ g hb hu hc hp hr hK => ?_
          have h23 : aa.tmps[23]?.getD undef = .agg (arrK .u64 4 (wd xx)) := hc 4 23 rfl rfl
          have hk := Lib.hid hK
          clear hK hu hc
          have hcc := hcxx
          go_simp
          exact hk.out undef
        · refine fstep_st (j := 11) (n := 4) (d := 4) rfl rfl rfl rfl rfl hcyy.1 rfl rfl fun aa ω κ g hb hu hc hp hr hK => ?_
          have h28 : aa.tmps[28]?.getD undef = .agg (arrK .u64 4 (wd yy)) := hc 9 28 rfl rfl
          have hk := Lib.hid hK
          clear hK hu hc
          have hcc := hcyy
          go_simp
          exact hk.out undef
        · intro a1 w1 G I
          have ha0 := hha0.out
          subst ha0
          have he := act_patch (n := 40) [false, false, false, true, true, false, false, false, false, false, false, false, false, false, false, false, false, false, false, true, true, true, true, true, true, true, true, true, true, false, false, false, false, false, false, false, false, false, false, false] rfl (by kernel_rfl) I.un I.sz I.df
          simp only [patch, cond_true, cond_false, Nat.reduceAdd] at he
          have hal3 := I.al 10 3 4 rfl rfl rfl
          have hal4 := I.al 11 4 4 rfl rfl rfl
          replace hL := Lib.hid (below_step I.bel hL.out (Nat.le_refl _))
          have hX := Lib.hid (show At w1 (G 10) .u64 4 (wd xx) from ⟨(I.blk 10 4 rfl rfl).2, (I.row 12 10 rfl rfl).2.2⟩)
          have hY := Lib.hid (show At w1 (G 11) .u64 4 (wd yy) from ⟨(I.blk 11 4 rfl rfl).2, (I.row 13 11 rfl rfl).2.2⟩)
          clear hA kxx kyy
          clear I hz0 hha0 e1
          rw [he]
          clear he
          rw [hal3]
          rw [hal4]
          clear hal3 hal4
          generalize a1.tmps[19]?.getD undef = x19 at *
          generalize a1.tmps[20]?.getD undef = x20 at *
          generalize a1.tmps[21]?.getD undef = x21 at *
          generalize a1.tmps[22]?.getD undef = x22 at *
          generalize a1.tmps[23]?.getD undef = x23 at *
          generalize a1.tmps[24]?.getD undef = x24 at *
          generalize a1.tmps[25]?.getD undef = x25 at *
          generalize a1.tmps[26]?.getD undef = x26 at *
          generalize a1.tmps[27]?.getD undef = x27 at *
          generalize a1.tmps[28]?.getD undef = x28 at *
          go_upto_region 4 with (fail)
          obtain ⟨gX, hgz⟩ : ∃ g, G 10 = g := ⟨_, rfl⟩
          rw [hgz] at hX ⊢
          clear hgz
          obtain ⟨gY, hgz⟩ : ∃ g, G 11 = g := ⟨_, rfl⟩
          rw [hgz] at hY ⊢
          clear hgz
          generalize w1 = W1 at *
          obtain ⟨r, hr⟩ : ∃ r, decide (df = sm) = r := ⟨_, rfl⟩
          replace hqe := Lib.hid (hqe.out r hr)
          have hfin := Lib.hid (show R = r by rw [← hRR.out, hdx.out, hdy.out, hr]; rfl)
          clear hr
          generalize ha0 : Act.mk _ _ = a0
          have e3 : a0.tmps[3]?.getD undef = .pointer (some ⟨gX, 0, none⟩) := by rw [← ha0]; rfl
          have e4 : a0.tmps[4]?.getD undef = .pointer (some ⟨gY, 0, none⟩) := by rw [← ha0]; rfl
          have hz0 : a0.tmps.size = 40 := by rw [← ha0]; rfl
          have hha0 := Lib.hid ha0
          clear ha0
          refine wp_region_calm (fun jx_ => match jx_ with | 0 => SRel.is (.agg (arrK .u64 4 (wd yy))) | 1 => SRel.is (.agg (arrK .u64 4 (wd xx))) | 2 => SRel.is (.agg (arrK .u64 4 (wd df))) | 3 => SRel.is (.agg (arrK .u64 4 (wd 1))) | 4 => SRel.is (.agg (arrK .u64 4 (wd dn))) | 5 => SRel.is (.agg (arrK .u64 4 (wd xx))) | 6 => SRel.is (.agg (arrK .u64 4 (wd yy))) | 7 => SRel.is (.agg (arrK .u64 4 (wd xy))) | 8 => SRel.is (.agg (arrK .u64 4 (wd dx))) | 9 => SRel.is (.agg (arrK .u64 4 (wd sm))) | 10 => SRel.is (.bool r) | 11 => SRel.is (.bool r) | _ => SRel.any) (by kernel_rfl) (by kernel_rfl) (by kernel_rfl) (slotsOk_of hz0 (by kernel_rfl)) ⟨?_, ?_, ?_, ?_, ?_, ?_, ?_, ?_, ?_, ?_, ?_, ?_, trivial⟩ ?_
          · refine calm_step rfl fun a ω κ hb hu hc hK => ?_
            have h4 : a.tmps[4]?.getD undef = .pointer (some ⟨gY, 0, none⟩) := (hu 4 rfl).trans e4
            have hk := Lib.hid (fun w1 (h : Below ω.heap.size ω w1) => hK (.agg (arrK .u64 4 (wd yy))) w1 rfl h)
            clear hK hu hc
            have hr1 := (hY.out.step hb).row
            have hr2 := (hY.out.step hb).eq
            go_simp
            exact hk.out _ (Below.refl _ _)
          · refine calm_step rfl fun a ω κ hb hu hc hK => ?_
            have h3 : a.tmps[3]?.getD undef = .pointer (some ⟨gX, 0, none⟩) := (hu 3 rfl).trans e3
            have hk := Lib.hid (fun w1 (h : Below ω.heap.size ω w1) => hK (.agg (arrK .u64 4 (wd xx))) w1 rfl h)
            clear hK hu hc
            have hr1 := (hX.out.step hb).row
            have hr2 := (hX.out.step hb).eq
            go_simp
            exact hk.out _ (Below.refl _ _)
          · refine calm_step rfl fun a ω κ hb hu hc hK => ?_
            have h29 : a.tmps[29]?.getD undef = .agg (arrK .u64 4 (wd yy)) := hc 0 29 rfl rfl
            have h30 : a.tmps[30]?.getD undef = .agg (arrK .u64 4 (wd xx)) := hc 1 30 rfl rfl
            have hk := Lib.hid (fun w1 (h : Below ω.heap.size ω w1) => hK (.agg (arrK .u64 4 (wd df))) w1 rfl h)
            clear hK hu hc
            go_simp
            go_at_call 166
            refine (kdf.out _).mono ?_
            rintro e w1 ⟨rfl, hb1⟩
            exact hk.out _ hb1
          · refine calm_step rfl fun a ω κ hb hu hc hK => ?_
            have hk := Lib.hid (fun w1 (h : Below ω.heap.size ω w1) => hK (.agg (arrK .u64 4 (wd 1))) w1 rfl h)
            clear hK hu hc
            exact wp_bldA rfl rfl (build_one _) (hk.out _ (Below.refl _ _))
          · refine calm_step rfl fun a ω κ hb hu hc hK => ?_
            have hk := Lib.hid (fun w1 (h : Below ω.heap.size ω w1) => hK (.agg (arrK .u64 4 (wd dn))) w1 rfl h)
            clear hK hu hc
            go_simp
            go_at_call 168
            refine (kd.out _).mono ?_
            rintro e w1 ⟨rfl, hb1⟩
            exact hk.out _ hb1
          · refine calm_step rfl fun a ω κ hb hu hc hK => ?_
            have h3 : a.tmps[3]?.getD undef = .pointer (some ⟨gX, 0, none⟩) := (hu 3 rfl).trans e3
            have hk := Lib.hid (fun w1 (h : Below ω.heap.size ω w1) => hK (.agg (arrK .u64 4 (wd xx))) w1 rfl h)
            clear hK hu hc
            have hr1 := (hX.out.step hb).row
            have hr2 := (hX.out.step hb).eq
            go_simp
            exact hk.out _ (Below.refl _ _)
          · refine calm_step rfl fun a ω κ hb hu hc hK => ?_
            have h4 : a.tmps[4]?.getD undef = .pointer (some ⟨gY, 0, none⟩) := (hu 4 rfl).trans e4
            have hk := Lib.hid (fun w1 (h : Below ω.heap.size ω w1) => hK (.agg (arrK .u64 4 (wd yy))) w1 rfl h)
            clear hK hu hc
            have hr1 := (hY.out.step hb).row
            have hr2 := (hY.out.step hb).eq
            go_simp
            exact hk.out _ (Below.refl _ _)
          · refine calm_step rfl fun a ω κ hb hu hc hK => ?_
            have h34 : a.tmps[34]?.getD undef = .agg (arrK .u64 4 (wd xx)) := hc 5 34 rfl rfl
            have h35 : a.tmps[35]?.getD undef = .agg (arrK .u64 4 (wd yy)) := hc 6 35 rfl rfl
            have hk := Lib.hid (fun w1 (h : Below ω.heap.size ω w1) => hK (.agg (arrK .u64 4 (wd xy))) w1 rfl h)
            clear hK hu hc
            go_simp
            go_at_call 165
            refine (kxy.out _).mono ?_
            rintro e w1 ⟨rfl, hb1⟩
            exact hk.out _ hb1
          · refine calm_step rfl fun a ω κ hb hu hc hK => ?_
            have h33 : a.tmps[33]?.getD undef = .agg (arrK .u64 4 (wd dn)) := hc 4 33 rfl rfl
            have h36 : a.tmps[36]?.getD undef = .agg (arrK .u64 4 (wd xy)) := hc 7 36 rfl rfl
            have hk := Lib.hid (fun w1 (h : Below ω.heap.size ω w1) => hK (.agg (arrK .u64 4 (wd dx))) w1 rfl h)
            clear hK hu hc
            go_simp
            go_at_call 165
            refine (kdx.out _).mono ?_
            rintro e w1 ⟨rfl, hb1⟩
            exact hk.out _ hb1
          · refine calm_step rfl fun a ω κ hb hu hc hK => ?_
            have h32 : a.tmps[32]?.getD undef = .agg (arrK .u64 4 (wd 1)) := hc 3 32 rfl rfl
            have h37 : a.tmps[37]?.getD undef = .agg (arrK .u64 4 (wd dx)) := hc 8 37 rfl rfl
            have hk := Lib.hid (fun w1 (h : Below ω.heap.size ω w1) => hK (.agg (arrK .u64 4 (wd sm))) w1 rfl h)
            clear hK hu hc
            go_simp
            go_at_call 167
            refine (ksm.out _).mono ?_
            rintro e w1 ⟨rfl, hb1⟩
            exact hk.out _ hb1
          · refine calm_step rfl fun a ω κ hb hu hc hK => ?_
            have h31 : a.tmps[31]?.getD undef = .agg (arrK .u64 4 (wd df)) := hc 2 31 rfl rfl
            have h38 : a.tmps[38]?.getD undef = .agg (arrK .u64 4 (wd sm)) := hc 9 38 rfl rfl
            have hk := Lib.hid (fun w1 (h : Below ω.heap.size ω w1) => hK (.bool r) w1 rfl h)
            clear hK hu hc
            exact wp_eqlA (v := arrK .u64 4 (wd df)) (u := arrK .u64 4 (wd sm)) (.inr rfl) (by kernel_rfl) (by go_simp) (by go_simp) (hqe.out _) (hk.out _ (Below.refl _ _))
          · refine calm_step rfl fun a ω κ hb hu hc hK => ?_
            have h39 : a.tmps[39]?.getD undef = .bool r := hc 10 39 rfl rfl
            have hk := Lib.hid (fun w1 (h : Below ω.heap.size ω w1) => hK (.bool r) w1 rfl h)
            clear hK hu hc
            go_simp
            exact hk.out _ (Below.refl _ _)
          · intro a1 w1 hb1 hu1 hsz1 hdf1 hc1
            have ha0 := hha0.out
            subst ha0
            have he := act_patch (n := 40) [false, false, true, false, false, false, false, false, false, false, false, false, false, false, false, false, false, false, false, false, false, false, false, false, false, false, false, false, false, true, true, true, true, true, true, true, true, true, true, true] rfl (by kernel_rfl) hu1 hsz1 hdf1
            simp only [patch, cond_true, cond_false, Nat.reduceAdd] at he
            have hkn2 : a1.tmps[2]?.getD undef = .bool r := hc1 11 2 rfl
            replace hL := Lib.hid (below_step hb1 hL.out (Nat.le_refl _))
            clear hb1 hu1 hsz1 hdf1 hc1 hz0 hha0 e3 e4
            rw [he]
            clear he
            rw [hkn2]
            clear hkn2
            generalize a1.tmps[29]?.getD undef = x29 at *
            generalize a1.tmps[30]?.getD undef = x30 at *
            generalize a1.tmps[31]?.getD undef = x31 at *
            generalize a1.tmps[32]?.getD undef = x32 at *
            generalize a1.tmps[33]?.getD undef = x33 at *
            generalize a1.tmps[34]?.getD undef = x34 at *
            generalize a1.tmps[35]?.getD undef = x35 at *
            generalize a1.tmps[36]?.getD undef = x36 at *
            generalize a1.tmps[37]?.getD undef = x37 at *
            generalize a1.tmps[38]?.getD undef = x38 at *
            generalize a1.tmps[39]?.getD undef = x39 at *
            go_wp2_with fail
            exact ret_tmp (p := 2) (v := .bool r) rfl (by simp) rfl ⟨by rw [hfin.out], hL.out⟩

    · have hdy : decide (y = py) = false := decide_eq_false hey
      replace hqy := Lib.hid (hqy.out true hdy)
      replace hdy := Lib.hid hdy
      clear hey
      generalize ha0 : Act.mk _ _ = a0
      have e1 : a0.tmps[1]?.getD undef = .pointer (some ⟨w.heap.size, 0, none⟩) := by rw [← ha0]; rfl
      have hz0 : a0.tmps.size = 40 := by rw [← ha0]; rfl
      have hha0 := Lib.hid ha0
      clear ha0
      refine wp_region_calm (fun jx_ => match jx_ with | 0 => SRel.is (.pointer (some ⟨w.heap.size, 0, none⟩)) | 1 => SRel.is (.agg (arrK .u64 4 (wd x))) | 2 => SRel.is (.pointer (some ⟨w.heap.size, 0, none⟩)) | 3 => SRel.is (.agg (arrK .u64 4 (wd x))) | 4 => SRel.is (.agg (arrK .u64 4 (wd px))) | 5 => SRel.is (.bool false) | 6 => SRel.is (.bool false) | 7 => SRel.is (.pointer (some ⟨w.heap.size, 4, none⟩)) | 8 => SRel.is (.agg (arrK .u64 4 (wd y))) | 9 => SRel.is (.pointer (some ⟨w.heap.size, 4, none⟩)) | 10 => SRel.is (.agg (arrK .u64 4 (wd y))) | 11 => SRel.is (.agg (arrK .u64 4 (wd py))) | 12 => SRel.is (.bool true) | 13 => SRel.is (.bool true) | _ => SRel.any) (by kernel_rfl) (by kernel_rfl) (by kernel_rfl) (slotsOk_of hz0 (by kernel_rfl)) ⟨?_, ?_, ?_, ?_, ?_, ?_, ?_, ?_, ?_, ?_, ?_, ?_, ?_, ?_, trivial⟩ ?_
      · refine calm_step rfl fun a ω κ hb hu hc hK => ?_
        have h1 : a.tmps[1]?.getD undef = .pointer (some ⟨w.heap.size, 0, none⟩) := (hu 1 rfl).trans e1
        have hk := Lib.hid (fun w1 (h : Below ω.heap.size ω w1) => hK (.pointer (some ⟨w.heap.size, 0, none⟩)) w1 rfl h)
        clear hK hu hc
        go_simp
        exact hk.out _ (Below.refl _ _)
      · refine calm_step rfl fun a ω κ hb hu hc hK => ?_
        have h5 : a.tmps[5]?.getD undef = .pointer (some ⟨w.heap.size, 0, none⟩) := hc 0 5 rfl rfl
        have hk := Lib.hid (fun w1 (h : Below ω.heap.size ω w1) => hK (.agg (arrK .u64 4 (wd x))) w1 rfl h)
        clear hK hu hc
        have hl := pt_0 (hA.out.step hb)
        have hl1 := hl.1
        have hl2 := hl.2
        go_simp
        exact hk.out _ (Below.refl _ _)
      · refine calm_step rfl fun a ω κ hb hu hc hK => ?_
        have h1 : a.tmps[1]?.getD undef = .pointer (some ⟨w.heap.size, 0, none⟩) := (hu 1 rfl).trans e1
        have hk := Lib.hid (fun w1 (h : Below ω.heap.size ω w1) => hK (.pointer (some ⟨w.heap.size, 0, none⟩)) w1 rfl h)
        clear hK hu hc
        go_simp
        exact hk.out _ (Below.refl _ _)
      · refine calm_step rfl fun a ω κ hb hu hc hK => ?_
        have h7 : a.tmps[7]?.getD undef = .pointer (some ⟨w.heap.size, 0, none⟩) := hc 2 7 rfl rfl
        have hk := Lib.hid (fun w1 (h : Below ω.heap.size ω w1) => hK (.agg (arrK .u64 4 (wd x))) w1 rfl h)
        clear hK hu hc
        have hl := pt_0 (hA.out.step hb)
        have hl1 := hl.1
        have hl2 := hl.2
        go_simp
        exact hk.out _ (Below.refl _ _)
      · refine calm_step rfl fun a ω κ hb hu hc hK => ?_
        have h8 : a.tmps[8]?.getD undef = .agg (arrK .u64 4 (wd x)) := hc 3 8 rfl rfl
        have hk := Lib.hid (fun w1 (h : Below ω.heap.size ω w1) => hK (.agg (arrK .u64 4 (wd px))) w1 rfl h)
        clear hK hu hc
        go_simp
        go_at_call 164
        refine (kLx.out _).mono ?_
        rintro e w1 ⟨rfl, hb1⟩
        exact hk.out _ hb1
      · refine calm_step rfl fun a ω κ hb hu hc hK => ?_
        have h6 : a.tmps[6]?.getD undef = .agg (arrK .u64 4 (wd x)) := hc 1 6 rfl rfl
        have h9 : a.tmps[9]?.getD undef = .agg (arrK .u64 4 (wd px)) := hc 4 9 rfl rfl
        have hk := Lib.hid (fun w1 (h : Below ω.heap.size ω w1) => hK (.bool false) w1 rfl h)
        clear hK hu hc
        exact wp_eqlA (v := arrK .u64 4 (wd x)) (u := arrK .u64 4 (wd px)) (.inl rfl) (by kernel_rfl) (by go_simp) (by go_simp) (hqx.out _) (hk.out _ (Below.refl _ _))
      · refine calm_step rfl fun a ω κ hb hu hc hK => ?_
        have h10 : a.tmps[10]?.getD undef = .bool false := hc 5 10 rfl rfl
        have hk := Lib.hid (fun w1 (h : Below ω.heap.size ω w1) => hK (.bool false) w1 rfl h)
        clear hK hu hc
        go_simp
        exact hk.out _ (Below.refl _ _)
      · refine calm_step_guard (g := 6) (b := false) (d := 11) rfl rfl (fun a w hc => hc 6 11 rfl rfl) fun a ω κ hb hu hc hK => ?_
        have h1 : a.tmps[1]?.getD undef = .pointer (some ⟨w.heap.size, 0, none⟩) := (hu 1 rfl).trans e1
        have hk := Lib.hid (fun w1 (h : Below ω.heap.size ω w1) => hK (.pointer (some ⟨w.heap.size, 4, none⟩)) w1 rfl h)
        clear hK hu hc
        go_simp
        exact hk.out _ (Below.refl _ _)
      · refine calm_step_guard (g := 6) (b := false) (d := 11) rfl rfl (fun a w hc => hc 6 11 rfl rfl) fun a ω κ hb hu hc hK => ?_
        have h12 : a.tmps[12]?.getD undef = .pointer (some ⟨w.heap.size, 4, none⟩) := hc 7 12 rfl rfl
        have hk := Lib.hid (fun w1 (h : Below ω.heap.size ω w1) => hK (.agg (arrK .u64 4 (wd y))) w1 rfl h)
        clear hK hu hc
        have hl := pt_1 (hA.out.step hb)
        have hl1 := hl.1
        have hl2 := hl.2
        go_simp
        exact hk.out _ (Below.refl _ _)
      · refine calm_step_guard (g := 6) (b := false) (d := 11) rfl rfl (fun a w hc => hc 6 11 rfl rfl) fun a ω κ hb hu hc hK => ?_
        have h1 : a.tmps[1]?.getD undef = .pointer (some ⟨w.heap.size, 0, none⟩) := (hu 1 rfl).trans e1
        have hk := Lib.hid (fun w1 (h : Below ω.heap.size ω w1) => hK (.pointer (some ⟨w.heap.size, 4, none⟩)) w1 rfl h)
        clear hK hu hc
        go_simp
        exact hk.out _ (Below.refl _ _)
      · refine calm_step_guard (g := 6) (b := false) (d := 11) rfl rfl (fun a w hc => hc 6 11 rfl rfl) fun a ω κ hb hu hc hK => ?_
        have h14 : a.tmps[14]?.getD undef = .pointer (some ⟨w.heap.size, 4, none⟩) := hc 9 14 rfl rfl
        have hk := Lib.hid (fun w1 (h : Below ω.heap.size ω w1) => hK (.agg (arrK .u64 4 (wd y))) w1 rfl h)
        clear hK hu hc
        have hl := pt_1 (hA.out.step hb)
        have hl1 := hl.1
        have hl2 := hl.2
        go_simp
        exact hk.out _ (Below.refl _ _)
      · refine calm_step_guard (g := 6) (b := false) (d := 11) rfl rfl (fun a w hc => hc 6 11 rfl rfl) fun a ω κ hb hu hc hK => ?_
        have h15 : a.tmps[15]?.getD undef = .agg (arrK .u64 4 (wd y)) := hc 10 15 rfl rfl
        have hk := Lib.hid (fun w1 (h : Below ω.heap.size ω w1) => hK (.agg (arrK .u64 4 (wd py))) w1 rfl h)
        clear hK hu hc
        go_simp
        go_at_call 164
        refine (kLy.out _).mono ?_
        rintro e w1 ⟨rfl, hb1⟩
        exact hk.out _ hb1
      · refine calm_step_guard (g := 6) (b := false) (d := 11) rfl rfl (fun a w hc => hc 6 11 rfl rfl) fun a ω κ hb hu hc hK => ?_
        have h13 : a.tmps[13]?.getD undef = .agg (arrK .u64 4 (wd y)) := hc 8 13 rfl rfl
        have h16 : a.tmps[16]?.getD undef = .agg (arrK .u64 4 (wd py)) := hc 11 16 rfl rfl
        have hk := Lib.hid (fun w1 (h : Below ω.heap.size ω w1) => hK (.bool true) w1 rfl h)
        clear hK hu hc
        exact wp_eqlA (v := arrK .u64 4 (wd y)) (u := arrK .u64 4 (wd py)) (.inl rfl) (by kernel_rfl) (by go_simp) (by go_simp) (hqy.out _) (hk.out _ (Below.refl _ _))
      · refine calm_step rfl fun a ω κ hb hu hc hK => ?_
        have h11 : a.tmps[11]?.getD undef = .bool false := hc 6 11 rfl rfl
        have h17 : a.tmps[17]?.getD undef = .bool true := hc 12 17 rfl rfl
        have hk := Lib.hid (fun w1 (h : Below ω.heap.size ω w1) => hK (.bool true) w1 rfl h)
        clear hK hu hc
        go_simp
        exact hk.out _ (Below.refl _ _)
      · intro a1 w1 hb1 hu1 hsz1 hdf1 hc1
        have ha0 := hha0.out
        subst ha0
        have he := act_patch (n := 40) [false, false, false, false, false, true, true, true, true, true, true, true, true, true, true, true, true, true, true, false, false, false, false, false, false, false, false, false, false, false, false, false, false, false, false, false, false, false, false, false] rfl (by kernel_rfl) hu1 hsz1 hdf1
        simp only [patch, cond_true, cond_false, Nat.reduceAdd] at he
        have hkn18 : a1.tmps[18]?.getD undef = .bool true := hc1 13 18 rfl
        replace hA := Lib.hid (hA.out.step hb1)
        replace hL := Lib.hid (below_step hb1 hL.out (Nat.le_refl _))
        clear kLx kLy hqx hqy
        clear hb1 hu1 hsz1 hdf1 hc1 hz0 hha0 e1
        rw [he]
        clear he
        rw [hkn18]
        clear hkn18
        generalize a1.tmps[5]?.getD undef = x5 at *
        generalize a1.tmps[6]?.getD undef = x6 at *
        generalize a1.tmps[7]?.getD undef = x7 at *
        generalize a1.tmps[8]?.getD undef = x8 at *
        generalize a1.tmps[9]?.getD undef = x9 at *
        generalize a1.tmps[10]?.getD undef = x10 at *
        generalize a1.tmps[11]?.getD undef = x11 at *
        generalize a1.tmps[12]?.getD undef = x12 at *
        generalize a1.tmps[13]?.getD undef = x13 at *
        generalize a1.tmps[14]?.getD undef = x14 at *
        generalize a1.tmps[15]?.getD undef = x15 at *
        generalize a1.tmps[16]?.getD undef = x16 at *
        generalize a1.tmps[17]?.getD undef = x17 at *
        go_wp2_with fail
        exact ret_tmp (p := 2) (v := .bool false) rfl (by simp) rfl ⟨by rw [← hRR.out, hdx.out, hdy.out]; rfl, hL.out⟩

  · have hdx : decide (x = px) = false := decide_eq_false hex
    replace hqx := Lib.hid (hqx.out true hdx)
    replace hdx := Lib.hid hdx
    clear hex
    generalize ha0 : Act.mk _ _ = a0
    have e1 : a0.tmps[1]?.getD undef = .pointer (some ⟨w.heap.size, 0, none⟩) := by rw [← ha0]; rfl
    have hz0 : a0.tmps.size = 40 := by rw [← ha0]; rfl
    have hha0 := Lib.hid ha0
    clear ha0
    refine wp_region_calm (fun jx_ => match jx_ with | 0 => SRel.is (.pointer (some ⟨w.heap.size, 0, none⟩)) | 1 => SRel.is (.agg (arrK .u64 4 (wd x))) | 2 => SRel.is (.pointer (some ⟨w.heap.size, 0, none⟩)) | 3 => SRel.is (.agg (arrK .u64 4 (wd x))) | 4 => SRel.is (.agg (arrK .u64 4 (wd px))) | 5 => SRel.is (.bool true) | 6 => SRel.is (.bool true) | 7 => SRel.any | 8 => SRel.any | 9 => SRel.any | 10 => SRel.any | 11 => SRel.any | 12 => SRel.any | 13 => SRel.is (.bool true) | _ => SRel.any) (by kernel_rfl) (by kernel_rfl) (by kernel_rfl) (slotsOk_of hz0 (by kernel_rfl)) ⟨?_, ?_, ?_, ?_, ?_, ?_, ?_, ?_, ?_, ?_, ?_, ?_, ?_, ?_, trivial⟩ ?_
    · refine calm_step rfl fun a ω κ hb hu hc hK => ?_
      have h1 : a.tmps[1]?.getD undef = .pointer (some ⟨w.heap.size, 0, none⟩) := (hu 1 rfl).trans e1
      have hk := Lib.hid (fun w1 (h : Below ω.heap.size ω w1) => hK (.pointer (some ⟨w.heap.size, 0, none⟩)) w1 rfl h)
      clear hK hu hc
      go_simp
      exact hk.out _ (Below.refl _ _)
    · refine calm_step rfl fun a ω κ hb hu hc hK => ?_
      have h5 : a.tmps[5]?.getD undef = .pointer (some ⟨w.heap.size, 0, none⟩) := hc 0 5 rfl rfl
      have hk := Lib.hid (fun w1 (h : Below ω.heap.size ω w1) => hK (.agg (arrK .u64 4 (wd x))) w1 rfl h)
      clear hK hu hc
      have hl := pt_0 (hA.out.step hb)
      have hl1 := hl.1
      have hl2 := hl.2
      go_simp
      exact hk.out _ (Below.refl _ _)
    · refine calm_step rfl fun a ω κ hb hu hc hK => ?_
      have h1 : a.tmps[1]?.getD undef = .pointer (some ⟨w.heap.size, 0, none⟩) := (hu 1 rfl).trans e1
      have hk := Lib.hid (fun w1 (h : Below ω.heap.size ω w1) => hK (.pointer (some ⟨w.heap.size, 0, none⟩)) w1 rfl h)
      clear hK hu hc
      go_simp
      exact hk.out _ (Below.refl _ _)
    · refine calm_step rfl fun a ω κ hb hu hc hK => ?_
      have h7 : a.tmps[7]?.getD undef = .pointer (some ⟨w.heap.size, 0, none⟩) := hc 2 7 rfl rfl
      have hk := Lib.hid (fun w1 (h : Below ω.heap.size ω w1) => hK (.agg (arrK .u64 4 (wd x))) w1 rfl h)
      clear hK hu hc
      have hl := pt_0 (hA.out.step hb)
      have hl1 := hl.1
      have hl2 := hl.2
      go_simp
      exact hk.out _ (Below.refl _ _)
    · refine calm_step rfl fun a ω κ hb hu hc hK => ?_
      have h8 : a.tmps[8]?.getD undef = .agg (arrK .u64 4 (wd x)) := hc 3 8 rfl rfl
      have hk := Lib.hid (fun w1 (h : Below ω.heap.size ω w1) => hK (.agg (arrK .u64 4 (wd px))) w1 rfl h)
      clear hK hu hc
      go_simp
      go_at_call 164
      refine (kLx.out _).mono ?_
      rintro e w1 ⟨rfl, hb1⟩
      exact hk.out _ hb1
    · refine calm_step rfl fun a ω κ hb hu hc hK => ?_
      have h6 : a.tmps[6]?.getD undef = .agg (arrK .u64 4 (wd x)) := hc 1 6 rfl rfl
      have h9 : a.tmps[9]?.getD undef = .agg (arrK .u64 4 (wd px)) := hc 4 9 rfl rfl
      have hk := Lib.hid (fun w1 (h : Below ω.heap.size ω w1) => hK (.bool true) w1 rfl h)
      clear hK hu hc
      exact wp_eqlA (v := arrK .u64 4 (wd x)) (u := arrK .u64 4 (wd px)) (.inl rfl) (by kernel_rfl) (by go_simp) (by go_simp) (hqx.out _) (hk.out _ (Below.refl _ _))
    · refine calm_step rfl fun a ω κ hb hu hc hK => ?_
      have h10 : a.tmps[10]?.getD undef = .bool true := hc 5 10 rfl rfl
      have hk := Lib.hid (fun w1 (h : Below ω.heap.size ω w1) => hK (.bool true) w1 rfl h)
      clear hK hu hc
      go_simp
      exact hk.out _ (Below.refl _ _)
    · exact calm_step_skip (g := 6) (b := false) (d := 11) rfl rfl (fun a w hc => hc 6 11 rfl rfl) (fun _ => trivial)
    · exact calm_step_skip (g := 6) (b := false) (d := 11) rfl rfl (fun a w hc => hc 6 11 rfl rfl) (fun _ => trivial)
    · exact calm_step_skip (g := 6) (b := false) (d := 11) rfl rfl (fun a w hc => hc 6 11 rfl rfl) (fun _ => trivial)
    · exact calm_step_skip (g := 6) (b := false) (d := 11) rfl rfl (fun a w hc => hc 6 11 rfl rfl) (fun _ => trivial)
    · exact calm_step_skip (g := 6) (b := false) (d := 11) rfl rfl (fun a w hc => hc 6 11 rfl rfl) (fun _ => trivial)
    · exact calm_step_skip (g := 6) (b := false) (d := 11) rfl rfl (fun a w hc => hc 6 11 rfl rfl) (fun _ => trivial)
    · refine calm_step rfl fun a ω κ hb hu hc hK => ?_
      have h11 : a.tmps[11]?.getD undef = .bool true := hc 6 11 rfl rfl
      have h17 : (SRel.any).p (a.tmps[17]?.getD undef) ω := hc 12 17 rfl rfl
      have hk := Lib.hid (fun w1 (h : Below ω.heap.size ω w1) => hK (.bool true) w1 rfl h)
      clear hK hu hc
      go_simp
      exact hk.out _ (Below.refl _ _)
    · intro a1 w1 hb1 hu1 hsz1 hdf1 hc1
      have ha0 := hha0.out
      subst ha0
      have he := act_patch (n := 40) [false, false, false, false, false, true, true, true, true, true, true, true, true, true, true, true, true, true, true, false, false, false, false, false, false, false, false, false, false, false, false, false, false, false, false, false, false, false, false, false] rfl (by kernel_rfl) hu1 hsz1 hdf1
      simp only [patch, cond_true, cond_false, Nat.reduceAdd] at he
      have hkn18 : a1.tmps[18]?.getD undef = .bool true := hc1 13 18 rfl
      replace hA := Lib.hid (hA.out.step hb1)
      replace hL := Lib.hid (below_step hb1 hL.out (Nat.le_refl _))
      clear kLx kLy hqx hqy
      clear hb1 hu1 hsz1 hdf1 hc1 hz0 hha0 e1
      rw [he]
      clear he
      rw [hkn18]
      clear hkn18
      generalize a1.tmps[5]?.getD undef = x5 at *
      generalize a1.tmps[6]?.getD undef = x6 at *
      generalize a1.tmps[7]?.getD undef = x7 at *
      generalize a1.tmps[8]?.getD undef = x8 at *
      generalize a1.tmps[9]?.getD undef = x9 at *
      generalize a1.tmps[10]?.getD undef = x10 at *
      generalize a1.tmps[11]?.getD undef = x11 at *
      generalize a1.tmps[12]?.getD undef = x12 at *
      generalize a1.tmps[13]?.getD undef = x13 at *
      generalize a1.tmps[14]?.getD undef = x14 at *
      generalize a1.tmps[15]?.getD undef = x15 at *
      generalize a1.tmps[16]?.getD undef = x16 at *
      generalize a1.tmps[17]?.getD undef = x17 at *
      go_wp2_with fail
      exact ret_tmp (p := 2) (v := .bool false) rfl (by simp) rfl ⟨by rw [← hRR.out, hdx.out]; rfl, hL.out⟩

end Go.Proofs.YtgdiokklfihfoaaDoor
