/- Several texts one behind the other: CalmS Cv3 Cv4 TwoW Ld1 Ld2 Ld5 FeP Fe1 Fe2 Fe3. -/
import Derived.Test.YtodcjeaannfbnaaCalm
import Derived.Test.YtodcjeaannfbnaaAt
import Derived.Test.YtodcjeaannfbnaaCv2
import Derived.Test.YtodcjeaannfbnaaRet2
import Derived.Test.YtodcjeaannfbnaaOneW
import Derived.Test.YtodcjeaannfbnaaFdP
import Derived.Test.YtodcjeaannfbnaaFd1
import Derived.Test.YtodcjeaannfbnaaNumN
import Derived.Test.YtodcjeaannfbnaaLimb
namespace Go.Proofs.Ytodcjeaannfbnaa
open Go Go.RowKit
section
variable {P : Program} {ops : Array Oper} {Q : Exit → Act → World → Prop}
theorem calm_step_skip {R : Nat → SRel} {a0 : Act} {w0 : World} {i g : Nat} {b : Bool} {d : Tmp} {o : Oper} (hg : o.guard = some (g, b)) (hd : dstAt ops g = some d)
    (hv : ∀ (a : Act) (w : World), Came ops R o a w → a.tmps[d]?.getD undef = .bool (!b)) (hR : ∀ w, (R i).p undef w) : StepOk P ops Q R a0 w0 i o := by
  intro a w K hb hu hc hK
  have hy : yielded ops a.tmps g = some (!b) := by
    have h1 := hv a w hc
    unfold dstAt at hd
    unfold yielded
    rw [hd, Option.bind_some]
    cases h2 : a.tmps[d]? with
    | none => rw [h2] at h1; cases h1
    | some v => rw [h2] at h1; have : v = .bool (!b) := h1; rw [this]
  rw [if_neg (by simp [Region.wanted, hg, hy])]
  exact hK undef w (hR w) (Below.refl _ _)
theorem wp_eqlA {dst : Option Tmp} {t t2 tt : TypeId} {x y : Operand} {pos : String} {af : Array Edge} {gd : Option (Nat × Bool)} {a : Act} {w : World} {K : Act → World → Prop} {v u : Array Value} {r : Value} {b : BinOp}
    (hb : b = .neq ∨ b = .eql) (hm : P.eqGuardType P.depth t = false) (hx : a.eval x = .agg v) (hy : a.eval y = .agg u) (h : (binOp b t (.agg v) (.agg u)).run P w = .ok r w) (hK : K (a.put dst r) w) : Oper.wp P ⟨dst, .binOp b t x y t2, tt, pos, af, gd⟩ a w K Q := by
  have hg := run_eqGuard_agg (P := P) (w := w) b t x y v u hm
  unfold Oper.wp execOp
  rcases hb with rfl | rfl <;>
  · simp only [hx, hy, Sem.run_bind, Sem.run_pure, hg, h, Result.andThen_ok]
    exact hK
end
theorem eqlOf {a b : Nat} (ha : a < 2 ^ 256) (hb : b < 2 ^ 256) {r : Bool} (h : decide (a = b) = r) (W : World) : (binOp .eql 24 (.agg (arrK .u64 4 (wd a))) (.agg (arrK .u64 4 (wd b)))).run Try.prog W = .ok (.bool r) W := h ▸ eqlNum ha hb W
theorem neqOf {a b : Nat} (ha : a < 2 ^ 256) (hb : b < 2 ^ 256) {r : Bool} (h : decide (a = b) = !r) (W : World) : (binOp .neq 24 (.agg (arrK .u64 4 (wd a))) (.agg (arrK .u64 4 (wd b)))).run Try.prog W = .ok (.bool r) W := by
  rw [neqNum ha hb W, h, Bool.not_not]
end Go.Proofs.Ytodcjeaannfbnaa
namespace Go.Proofs.Ytodcjeaannfbnaa
open Go.ChangeShapes Go.WideShapes Go.ChangeAt Go.RowKit
set_option maxHeartbeats 2000000
set_option maxRecDepth 100000
attribute [local go_sem ↓] load_fld load_num store_num execl_num execs_num load_pt store_pt execl_pt execs_pt load_qd store_qd execl_qd execs_qd
attribute [local go_sem] isHead_mk blkOf_mk isAgg_mk cellsV_mk row_drew rowAt_drew row_new_cells row_old rowAt_new rowAt_old setRow_new zeroNum zeroPt zeroQd
theorem build_pt1 (f : Nat → Nat) (w : World) : (Instr.build 42 #[(1, .agg (arrK .u64 4 f))]).run Try.prog w = .ok (.agg (arrK .u64 8 (cat2 (wd 0) f))) w := run_build w _ _ _ (by kernel_rfl)
theorem curve_Zero (w : World) : Calls Try.prog 37 #[] w fun e w' => e = .returned (ptV 0 1) ∧ Below w.heap.size w w' := by
  unfold ptV
  have hcz := arrK_cells .u64 8 (cat2 (wd 0) (wd 0))
  have hcp := arrK_cells .u64 8 (cat2 (wd 0) (wd 1))
  have hL0 := below_alloc w (Obj.cells (arrK .u64 8 (cat2 (wd 0) (wd 0))) 42)
  have hR0 : Row (w.alloc (Obj.cells (arrK .u64 8 (cat2 (wd 0) (wd 0))) 42)) w.heap.size 8 := (row_new rfl).2 hcz.1
  go_enter Try.func37, Try.ntmps37
  go_upto_region 1 with (fail)
  generalize w.alloc (Obj.cells (arrK .u64 8 (cat2 (wd 0) (wd 0))) 42) = W0 at *
  go_wp2_with (first | refine wpList_bldA (vx := Value.int IntKind.u64 (1 : Int)) rfl rfl rfl (build_one _) ?_ | refine wpList_bldA (vx := .agg (arrK .u64 4 (wd 1))) rfl rfl (by go_simp) (build_pt1 _ _) ?_)
  exact ret_stored (p := 0) (ty := 42) (g := w.heap.size) (n := 8) (c := arrK .u64 8 (cat2 (wd 0) (wd 1))) rfl Try.underlying42 rfl (by kernel_rfl) rfl hR0 hcp.1 rfl ⟨rfl, below_setRow hL0 (Nat.le_refl _)⟩
/-- The base point. -/
def bX : Nat := 0x216936d3cd6e53fec0a4e231fdd6dc5c692cc7609525a7b2c9562d608f25d51a
def bY : Nat := 0x6666666666666666666666666666666666666666666666666666666666666658
theorem build_bX (w : World) : (Instr.build 24 #[(0, Value.int IntKind.u64 14507833142362363162), (1, Value.int IntKind.u64 7578651490590762930), (2, Value.int IntKind.u64 13881468655802702940), (3, Value.int IntKind.u64 2407515759118799870)]).run Try.prog w = .ok (.agg (arrK .u64 4 (wd bX))) w := run_build w _ _ _ (by kernel_rfl)
theorem build_bY (w : World) : (Instr.build 24 #[(0, Value.int IntKind.u64 7378697629483820632), (1, Value.int IntKind.u64 7378697629483820646), (2, Value.int IntKind.u64 7378697629483820646), (3, Value.int IntKind.u64 7378697629483820646)]).run Try.prog w = .ok (.agg (arrK .u64 4 (wd bY))) w := run_build w _ _ _ (by kernel_rfl)
theorem curve_Base (w : World) : Calls Try.prog 38 #[] w fun e w' => e = .returned (ptV bX bY) ∧ Below w.heap.size w w' := by
  unfold ptV
  have hcz := arrK_cells .u64 8 (cat2 (wd 0) (wd 0))
  have hL0 := below_alloc w (Obj.cells (arrK .u64 8 (cat2 (wd 0) (wd 0))) 42)
  have hR0 : Row (w.alloc (Obj.cells (arrK .u64 8 (cat2 (wd 0) (wd 0))) 42)) w.heap.size 8 := (row_new rfl).2 hcz.1
  have hb1 := Lib.hid (fun V => build_bX V)
  have hb2 := Lib.hid (fun V => build_bY V)
  obtain ⟨F, hF⟩ : ∃ X, wd bX = X := ⟨_, rfl⟩
  obtain ⟨G, hG⟩ : ∃ X, wd bY = X := ⟨_, rfl⟩
  rw [hF] at hb1 ⊢
  rw [hG] at hb2 ⊢
  clear hF hG
  have hcp := arrK_cells .u64 8 (cat2 F G)
  go_enter Try.func38, Try.ntmps38
  go_upto_region 1 with (fail)
  generalize w.alloc (Obj.cells (arrK .u64 8 (cat2 (wd 0) (wd 0))) 42) = W0 at *
  go_wp2_with (first | refine wpList_bld4 (v0 := Value.int IntKind.u64 14507833142362363162) (v1 := Value.int IntKind.u64 7578651490590762930) (v2 := Value.int IntKind.u64 13881468655802702940) (v3 := Value.int IntKind.u64 2407515759118799870) rfl rfl rfl rfl rfl rfl (hb1.out _) ?_ | refine wpList_bld4 (v0 := Value.int IntKind.u64 7378697629483820632) (v1 := Value.int IntKind.u64 7378697629483820646) (v2 := Value.int IntKind.u64 7378697629483820646) (v3 := Value.int IntKind.u64 7378697629483820646) rfl rfl rfl rfl rfl rfl (hb2.out _) ?_ | refine wpList_bldB (v0 := .agg (arrK .u64 4 F)) (v1 := .agg (arrK .u64 4 G)) rfl rfl (by go_simp) (by go_simp) (build_pt _ _ _) ?_)
  exact ret_stored (p := 0) (ty := 42) (g := w.heap.size) (n := 8) (c := arrK .u64 8 (cat2 F G)) rfl Try.underlying42 rfl (by kernel_rfl) rfl hR0 hcp.1 rfl ⟨rfl, below_setRow hL0 (Nat.le_refl _)⟩
/-- Is it a point of the curve? -/
def onB (x y : Nat) : Bool := decide (x = x % fP) && decide (y = y % fP) && decide (difP (y * y % fP) (x * x % fP) = (1 + dN * ((x * x % fP) * (y * y % fP) % fP) % fP) % fP)
theorem curve_On (x y : Nat) (w : World) (hx : x < 2 ^ 256) (hy : y < 2 ^ 256) : Calls Try.prog 36 #[ptV x y] w fun e w' => e = .returned (.bool (onB x y)) ∧ Below w.heap.size w w' := by
  have hdN := dN_lt
  have h1l : 1 < 2 ^ 256 := by decide +kernel
  have kLx := Lib.hid (fun V => field_Low x V hx)
  have kLy := Lib.hid (fun V => field_Low y V hy)
  have hqx := Lib.hid (fun (r : Bool) (h : decide (x = x % fP) = !r) V => neqOf hx low_lt h V)
  have hqy := Lib.hid (fun (r : Bool) (h : decide (y = y % fP) = !r) V => neqOf hy low_lt h V)
  unfold onB
  obtain ⟨xx, hxx⟩ : ∃ v, x * x % fP = v := ⟨_, rfl⟩
  rw [hxx]
  have lxx : xx < 2 ^ 256 := hxx ▸ low_lt
  obtain ⟨yy, hyy⟩ : ∃ v, y * y % fP = v := ⟨_, rfl⟩
  rw [hyy]
  have lyy : yy < 2 ^ 256 := hyy ▸ low_lt
  obtain ⟨df, hdf⟩ : ∃ v, difP yy xx = v := ⟨_, rfl⟩
  rw [hdf]
  have ldf : df < 2 ^ 256 := hdf ▸ dif_low
  obtain ⟨xy, hxy⟩ : ∃ v, xx * yy % fP = v := ⟨_, rfl⟩
  rw [hxy]
  have lxy : xy < 2 ^ 256 := hxy ▸ low_lt
  obtain ⟨dx, hdx⟩ : ∃ v, dN * xy % fP = v := ⟨_, rfl⟩
  rw [hdx]
  have ldx : dx < 2 ^ 256 := hdx ▸ low_lt
  obtain ⟨sm, hsm⟩ : ∃ v, (1 + dx) % fP = v := ⟨_, rfl⟩
  rw [hsm]
  have lsm : sm < 2 ^ 256 := hsm ▸ low_lt
  have kxx := Lib.hid (fun V => field_Mul x x V hx hx)
  rw [hxx] at kxx
  have kyy := Lib.hid (fun V => field_Mul y y V hy hy)
  rw [hyy] at kyy
  have kdf := Lib.hid (fun V => field_Sub yy xx V lyy lxx)
  rw [hdf] at kdf
  have kxy := Lib.hid (fun V => field_Mul xx yy V lxx lyy)
  rw [hxy] at kxy
  have kdx := Lib.hid (fun V => field_Mul dN xy V hdN lxy)
  rw [hdx] at kdx
  have ksm := Lib.hid (fun V => field_Add 1 dx V h1l ldx)
  rw [hsm] at ksm
  have hqe := Lib.hid (fun (r : Bool) (h : decide (df = sm) = r) V => eqlOf ldf lsm h V)
  have kd := Lib.hid (fun V => curve_d V)
  obtain ⟨dn, hdn⟩ : ∃ d, dN = d := ⟨_, rfl⟩
  rw [hdn] at kd kdx
  obtain ⟨px, hpx⟩ : ∃ d, x % fP = d := ⟨_, rfl⟩
  obtain ⟨py, hpy⟩ : ∃ d, y % fP = d := ⟨_, rfl⟩
  rw [hpx] at kLx hqx ⊢
  rw [hpy] at kLy hqy ⊢
  obtain ⟨R, hRR'⟩ : ∃ R : Bool, (decide (x = px) && decide (y = py) && decide (df = sm)) = R := ⟨_, rfl⟩
  rw [hRR']
  have hRR := Lib.hid hRR'
  clear hRR'
  clear hdn hdN hpx hpy hx hy h1l hxx lxx hyy lyy hdf ldf hxy lxy hdx ldx hsm lsm
  unfold numV at kd kLx kLy kxx kyy kdf kxy kdx ksm
  unfold ptV
  have hcxx := arrK_cells .u64 4 (wd xx)
  have hcyy := arrK_cells .u64 4 (wd yy)
  have hc0 := arrK_cells .u64 4 (wd 0)
  have hL0 : Below w.heap.size w (w.alloc (Obj.cells (arrK .u64 8 (cat2 (wd x) (wd y))) 42)) := by go_grown
  have hA0 : At (w.alloc (Obj.cells (arrK .u64 8 (cat2 (wd x) (wd y))) 42)) w.heap.size .u64 8 (cat2 (wd x) (wd y)) := At.new _ rfl
  have hL := Lib.hid hL0
  have hA := Lib.hid hA0
  clear hL0 hA0
  go_enter Try.func36, Try.ntmps36
  go_upto_region 1 with (fail)
  generalize w.alloc _ = W0 at *
  by_cases hex : x = px
  · have hdx : decide (x = px) = true := decide_eq_true hex
    replace hqx := Lib.hid (hqx.out false hdx)
    replace hdx := Lib.hid hdx
    clear hex
    by_cases hey : y = py
    · have hdy : decide (y = py) = true := decide_eq_true hey
      replace hqy := Lib.hid (hqy.out false hdy)
      replace hdy := Lib.hid hdy
      clear hey
      generalize ha0 : Act.mk _ _ = a0
      have e1 : a0.tmps[1]?.getD undef = .pointer (some ⟨w.heap.size, 0, none⟩) := by rw [← ha0]; rfl
      have hz0 : a0.tmps.size = 40 := by rw [← ha0]; rfl
      have hha0 := Lib.hid ha0
      clear ha0
      refine wp_region_calm (fun jx_ => match jx_ with | 0 => SRel.is (.pointer (some ⟨w.heap.size, 0, none⟩)) | 1 => SRel.is (.agg (arrK .u64 4 (wd x))) | 2 => SRel.is (.pointer (some ⟨w.heap.size, 0, none⟩)) | 3 => SRel.is (.agg (arrK .u64 4 (wd x))) | 4 => SRel.is (.agg (arrK .u64 4 (wd px))) | 5 => SRel.is (.bool false) | 6 => SRel.is (.bool false) | 7 => SRel.is (.pointer (some ⟨w.heap.size, 4, none⟩)) | 8 => SRel.is (.agg (arrK .u64 4 (wd y))) | 9 => SRel.is (.pointer (some ⟨w.heap.size, 4, none⟩)) | 10 => SRel.is (.agg (arrK .u64 4 (wd y))) | 11 => SRel.is (.agg (arrK .u64 4 (wd py))) | 12 => SRel.is (.bool false) | 13 => SRel.is (.bool false) | _ => SRel.any) (by kernel_rfl) (by kernel_rfl) (by kernel_rfl) (slotsOk_of hz0 (by kernel_rfl)) ⟨?_, ?_, ?_, ?_, ?_, ?_, ?_, ?_, ?_, ?_, ?_, ?_, ?_, ?_, trivial⟩ ?_
      · refine calm_step rfl fun a ω κ hb hu hc hK => ?_
        have h1 : a.tmps[1]?.getD undef = .pointer (some ⟨w.heap.size, 0, none⟩) := (hu 1 rfl).trans e1
        have hk := Lib.hid (fun w1 (h : Below ω.heap.size ω w1) => hK (.pointer (some ⟨w.heap.size, 0, none⟩)) w1 rfl h)
        clear hK hu hc
        go_simp
        exact hk.out _ (Below.refl _ _)
      · refine calm_step rfl fun a ω κ hb hu hc hK => ?_
        have h5 : a.tmps[5]?.getD undef = .pointer (some ⟨w.heap.size, 0, none⟩) := hc 0 5 rfl rfl
        have hk := Lib.hid (fun w1 (h : Below ω.heap.size ω w1) => hK (.agg (arrK .u64 4 (wd x))) w1 rfl h)
        clear hK hu hc
        have hl := pt_0 (hA.out.step hb)
        have hl1 := hl.1
        have hl2 := hl.2
        go_simp
        exact hk.out _ (Below.refl _ _)
      · refine calm_step rfl fun a ω κ hb hu hc hK => ?_
        have h1 : a.tmps[1]?.getD undef = .pointer (some ⟨w.heap.size, 0, none⟩) := (hu 1 rfl).trans e1
        have hk := Lib.hid (fun w1 (h : Below ω.heap.size ω w1) => hK (.pointer (some ⟨w.heap.size, 0, none⟩)) w1 rfl h)
        clear hK hu hc
        go_simp
        exact hk.out _ (Below.refl _ _)
      · refine calm_step rfl fun a ω κ hb hu hc hK => ?_
        have h7 : a.tmps[7]?.getD undef = .pointer (some ⟨w.heap.size, 0, none⟩) := hc 2 7 rfl rfl
        have hk := Lib.hid (fun w1 (h : Below ω.heap.size ω w1) => hK (.agg (arrK .u64 4 (wd x))) w1 rfl h)
        clear hK hu hc
        have hl := pt_0 (hA.out.step hb)
        have hl1 := hl.1
        have hl2 := hl.2
        go_simp
        exact hk.out _ (Below.refl _ _)
      · refine calm_step rfl fun a ω κ hb hu hc hK => ?_
        have h8 : a.tmps[8]?.getD undef = .agg (arrK .u64 4 (wd x)) := hc 3 8 rfl rfl
        have hk := Lib.hid (fun w1 (h : Below ω.heap.size ω w1) => hK (.agg (arrK .u64 4 (wd px))) w1 rfl h)
        clear hK hu hc
        go_simp
        go_at_call 18
        refine (kLx.out _).mono ?_
        rintro e w1 ⟨rfl, hb1⟩
        exact hk.out _ hb1
      · refine calm_step rfl fun a ω κ hb hu hc hK => ?_
        have h6 : a.tmps[6]?.getD undef = .agg (arrK .u64 4 (wd x)) := hc 1 6 rfl rfl
        have h9 : a.tmps[9]?.getD undef = .agg (arrK .u64 4 (wd px)) := hc 4 9 rfl rfl
        have hk := Lib.hid (fun w1 (h : Below ω.heap.size ω w1) => hK (.bool false) w1 rfl h)
        clear hK hu hc
        exact wp_eqlA (v := arrK .u64 4 (wd x)) (u := arrK .u64 4 (wd px)) (.inl rfl) (by kernel_rfl) (by go_simp) (by go_simp) (hqx.out _) (hk.out _ (Below.refl _ _))
      · refine calm_step rfl fun a ω κ hb hu hc hK => ?_
        have h10 : a.tmps[10]?.getD undef = .bool false := hc 5 10 rfl rfl
        have hk := Lib.hid (fun w1 (h : Below ω.heap.size ω w1) => hK (.bool false) w1 rfl h)
        clear hK hu hc
        go_simp
        exact hk.out _ (Below.refl _ _)
      · refine calm_step_guard (g := 6) (b := false) (d := 11) rfl rfl (fun a w hc => hc 6 11 rfl rfl) fun a ω κ hb hu hc hK => ?_
        have h1 : a.tmps[1]?.getD undef = .pointer (some ⟨w.heap.size, 0, none⟩) := (hu 1 rfl).trans e1
        have hk := Lib.hid (fun w1 (h : Below ω.heap.size ω w1) => hK (.pointer (some ⟨w.heap.size, 4, none⟩)) w1 rfl h)
        clear hK hu hc
        go_simp
        exact hk.out _ (Below.refl _ _)
      · refine calm_step_guard (g := 6) (b := false) (d := 11) rfl rfl (fun a w hc => hc 6 11 rfl rfl) fun a ω κ hb hu hc hK => ?_
        have h12 : a.tmps[12]?.getD undef = .pointer (some ⟨w.heap.size, 4, none⟩) := hc 7 12 rfl rfl
        have hk := Lib.hid (fun w1 (h : Below ω.heap.size ω w1) => hK (.agg (arrK .u64 4 (wd y))) w1 rfl h)
        clear hK hu hc
        have hl := pt_1 (hA.out.step hb)
        have hl1 := hl.1
        have hl2 := hl.2
        go_simp
        exact hk.out _ (Below.refl _ _)
      · refine calm_step_guard (g := 6) (b := false) (d := 11) rfl rfl (fun a w hc => hc 6 11 rfl rfl) fun a ω κ hb hu hc hK => ?_
        have h1 : a.tmps[1]?.getD undef = .pointer (some ⟨w.heap.size, 0, none⟩) := (hu 1 rfl).trans e1
        have hk := Lib.hid (fun w1 (h : Below ω.heap.size ω w1) => hK (.pointer (some ⟨w.heap.size, 4, none⟩)) w1 rfl h)
        clear hK hu hc
        go_simp
        exact hk.out _ (Below.refl _ _)
      · refine calm_step_guard (g := 6) (b := false) (d := 11) rfl rfl (fun a w hc => hc 6 11 rfl rfl) fun a ω κ hb hu hc hK => ?_
        have h14 : a.tmps[14]?.getD undef = .pointer (some ⟨w.heap.size, 4, none⟩) := hc 9 14 rfl rfl
        have hk := Lib.hid (fun w1 (h : Below ω.heap.size ω w1) => hK (.agg (arrK .u64 4 (wd y))) w1 rfl h)
        clear hK hu hc
        have hl := pt_1 (hA.out.step hb)
        have hl1 := hl.1
        have hl2 := hl.2
        go_simp
        exact hk.out _ (Below.refl _ _)
      · refine calm_step_guard (g := 6) (b := false) (d := 11) rfl rfl (fun a w hc => hc 6 11 rfl rfl) fun a ω κ hb hu hc hK => ?_
        have h15 : a.tmps[15]?.getD undef = .agg (arrK .u64 4 (wd y)) := hc 10 15 rfl rfl
        have hk := Lib.hid (fun w1 (h : Below ω.heap.size ω w1) => hK (.agg (arrK .u64 4 (wd py))) w1 rfl h)
        clear hK hu hc
        go_simp
        go_at_call 18
        refine (kLy.out _).mono ?_
        rintro e w1 ⟨rfl, hb1⟩
        exact hk.out _ hb1
      · refine calm_step_guard (g := 6) (b := false) (d := 11) rfl rfl (fun a w hc => hc 6 11 rfl rfl) fun a ω κ hb hu hc hK => ?_
        have h13 : a.tmps[13]?.getD undef = .agg (arrK .u64 4 (wd y)) := hc 8 13 rfl rfl
        have h16 : a.tmps[16]?.getD undef = .agg (arrK .u64 4 (wd py)) := hc 11 16 rfl rfl
        have hk := Lib.hid (fun w1 (h : Below ω.heap.size ω w1) => hK (.bool false) w1 rfl h)
        clear hK hu hc
        exact wp_eqlA (v := arrK .u64 4 (wd y)) (u := arrK .u64 4 (wd py)) (.inl rfl) (by kernel_rfl) (by go_simp) (by go_simp) (hqy.out _) (hk.out _ (Below.refl _ _))
      · refine calm_step rfl fun a ω κ hb hu hc hK => ?_
        have h11 : a.tmps[11]?.getD undef = .bool false := hc 6 11 rfl rfl
        have h17 : a.tmps[17]?.getD undef = .bool false := hc 12 17 rfl rfl
        have hk := Lib.hid (fun w1 (h : Below ω.heap.size ω w1) => hK (.bool false) w1 rfl h)
        clear hK hu hc
        go_simp
        exact hk.out _ (Below.refl _ _)
      · intro a1 w1 hb1 hu1 hsz1 hdf1 hc1
        have ha0 := hha0.out
        subst ha0
        have he := act_patch (n := 40) [false, false, false, false, false, true, true, true, true, true, true, true, true, true, true, true, true, true, true, false, false, false, false, false, false, false, false, false, false, false, false, false, false, false, false, false, false, false, false, false] rfl (by kernel_rfl) hu1 hsz1 hdf1
        simp only [patch, cond_true, cond_false, Nat.reduceAdd] at he
        have hkn18 : a1.tmps[18]?.getD undef = .bool false := hc1 13 18 rfl
        replace hA := Lib.hid (hA.out.step hb1)
        replace hL := Lib.hid (below_step hb1 hL.out (Nat.le_refl _))
        clear kLx kLy hqx hqy
        clear hb1 hu1 hsz1 hdf1 hc1 hz0 hha0 e1
        rw [he]
        clear he
        rw [hkn18]
        clear hkn18
        generalize a1.tmps[5]?.getD undef = x5 at *
        generalize a1.tmps[6]?.getD undef = x6 at *
        generalize a1.tmps[7]?.getD undef = x7 at *
        generalize a1.tmps[8]?.getD undef = x8 at *
        generalize a1.tmps[9]?.getD undef = x9 at *
        generalize a1.tmps[10]?.getD undef = x10 at *
        generalize a1.tmps[11]?.getD undef = x11 at *
        generalize a1.tmps[12]?.getD undef = x12 at *
        generalize a1.tmps[13]?.getD undef = x13 at *
        generalize a1.tmps[14]?.getD undef = x14 at *
        generalize a1.tmps[15]?.getD undef = x15 at *
        generalize a1.tmps[16]?.getD undef = x16 at *
        generalize a1.tmps[17]?.getD undef = x17 at *
        go_upto_region 3 with (fail)
        generalize ha0 : Act.mk _ _ = a0
        have e1 : a0.tmps[1]?.getD undef = .pointer (some ⟨w.heap.size, 0, none⟩) := by rw [← ha0]; rfl
        have hz0 : a0.tmps.size = 40 := by rw [← ha0]; rfl
        have hha0 := Lib.hid ha0
        clear ha0
        refine wp_region_fresh ⟨fun jx_ => match jx_ with | 0 => some (.pointer (some ⟨w.heap.size, 0, none⟩)) | 1 => some (.agg (arrK .u64 4 (wd x))) | 2 => some (.pointer (some ⟨w.heap.size, 0, none⟩)) | 3 => some (.agg (arrK .u64 4 (wd x))) | 4 => some (.agg (arrK .u64 4 (wd xx))) | 5 => some (.pointer (some ⟨w.heap.size, 4, none⟩)) | 6 => some (.agg (arrK .u64 4 (wd y))) | 7 => some (.pointer (some ⟨w.heap.size, 4, none⟩)) | 8 => some (.agg (arrK .u64 4 (wd y))) | 9 => some (.agg (arrK .u64 4 (wd yy))) | _ => none, fun jx_ => match jx_ with | 10 => some 4 | 11 => some 4 | _ => none, fun jx_ => match jx_ with | 12 => some 10 | 13 => some 11 | _ => none, fun jx_ => match jx_ with | 12 => arrK .u64 4 (wd xx) | 13 => arrK .u64 4 (wd yy) | _ => #[]⟩ (by kernel_rfl) (by kernel_rfl) (by kernel_rfl) (slotsOk_of hz0 (by kernel_rfl)) rfl ⟨?_, ?_, ?_, ?_, ?_, ?_, ?_, ?_, ?_, ?_, ?_, ?_, ?_, ?_, trivial⟩ ?_
        · refine fstep_val rfl rfl (calm_step rfl fun aa ω κ hb hu hc hK => ?_)
          have h1 : aa.tmps[1]?.getD undef = .pointer (some ⟨w.heap.size, 0, none⟩) := (hu 1 rfl).trans e1
          have hk := Lib.hid (fun w1 (h : Below ω.heap.size ω w1) => hK (.pointer (some ⟨w.heap.size, 0, none⟩)) w1 rfl h)
          clear hK hu hc
          go_simp
          exact hk.out _ (Below.refl _ _)
        · refine fstep_val rfl rfl (calm_step rfl fun aa ω κ hb hu hc hK => ?_)
          have h19 : aa.tmps[19]?.getD undef = .pointer (some ⟨w.heap.size, 0, none⟩) := hc 0 19 rfl rfl
          have hk := Lib.hid (fun w1 (h : Below ω.heap.size ω w1) => hK (.agg (arrK .u64 4 (wd x))) w1 rfl h)
          clear hK hu hc
          have hl := pt_0 (hA.out.step hb)
          have hl1 := hl.1
          have hl2 := hl.2
          go_simp
          exact hk.out _ (Below.refl _ _)
        · refine fstep_val rfl rfl (calm_step rfl fun aa ω κ hb hu hc hK => ?_)
          have h1 : aa.tmps[1]?.getD undef = .pointer (some ⟨w.heap.size, 0, none⟩) := (hu 1 rfl).trans e1
          have hk := Lib.hid (fun w1 (h : Below ω.heap.size ω w1) => hK (.pointer (some ⟨w.heap.size, 0, none⟩)) w1 rfl h)
          clear hK hu hc
          go_simp
          exact hk.out _ (Below.refl _ _)
        · refine fstep_val rfl rfl (calm_step rfl fun aa ω κ hb hu hc hK => ?_)
          have h21 : aa.tmps[21]?.getD undef = .pointer (some ⟨w.heap.size, 0, none⟩) := hc 2 21 rfl rfl
          have hk := Lib.hid (fun w1 (h : Below ω.heap.size ω w1) => hK (.agg (arrK .u64 4 (wd x))) w1 rfl h)
          clear hK hu hc
          have hl := pt_0 (hA.out.step hb)
          have hl1 := hl.1
          have hl2 := hl.2
          go_simp
          exact hk.out _ (Below.refl _ _)
        · refine fstep_val rfl rfl (calm_step rfl fun aa ω κ hb hu hc hK => ?_)
          have h20 : aa.tmps[20]?.getD undef = .agg (arrK .u64 4 (wd x)) := hc 1 20 rfl rfl
          have h22 : aa.tmps[22]?.getD undef = .agg (arrK .u64 4 (wd x)) := hc 3 22 rfl rfl
          have hk := Lib.hid (fun w1 (h : Below ω.heap.size ω w1) => hK (.agg (arrK .u64 4 (wd xx))) w1 rfl h)
          clear hK hu hc
          go_simp
          go_at_call 24
          refine (kxx.out _).mono ?_
          rintro e w1 ⟨rfl, hb1⟩
          exact hk.out _ hb1
        · refine fstep_val rfl rfl (calm_step rfl fun aa ω κ hb hu hc hK => ?_)
          have h1 : aa.tmps[1]?.getD undef = .pointer (some ⟨w.heap.size, 0, none⟩) := (hu 1 rfl).trans e1
          have hk := Lib.hid (fun w1 (h : Below ω.heap.size ω w1) => hK (.pointer (some ⟨w.heap.size, 4, none⟩)) w1 rfl h)
          clear hK hu hc
          go_simp
          exact hk.out _ (Below.refl _ _)
        · refine fstep_val rfl rfl (calm_step rfl fun aa ω κ hb hu hc hK => ?_)
          have h24 : aa.tmps[24]?.getD undef = .pointer (some ⟨w.heap.size, 4, none⟩) := hc 5 24 rfl rfl
          have hk := Lib.hid (fun w1 (h : Below ω.heap.size ω w1) => hK (.agg (arrK .u64 4 (wd y))) w1 rfl h)
          clear hK hu hc
          have hl := pt_1 (hA.out.step hb)
          have hl1 := hl.1
          have hl2 := hl.2
          go_simp
          exact hk.out _ (Below.refl _ _)
        · refine fstep_val rfl rfl (calm_step rfl fun aa ω κ hb hu hc hK => ?_)
          have h1 : aa.tmps[1]?.getD undef = .pointer (some ⟨w.heap.size, 0, none⟩) := (hu 1 rfl).trans e1
          have hk := Lib.hid (fun w1 (h : Below ω.heap.size ω w1) => hK (.pointer (some ⟨w.heap.size, 4, none⟩)) w1 rfl h)
          clear hK hu hc
          go_simp
          exact hk.out _ (Below.refl _ _)
        · refine fstep_val rfl rfl (calm_step rfl fun aa ω κ hb hu hc hK => ?_)
          have h26 : aa.tmps[26]?.getD undef = .pointer (some ⟨w.heap.size, 4, none⟩) := hc 7 26 rfl rfl
          have hk := Lib.hid (fun w1 (h : Below ω.heap.size ω w1) => hK (.agg (arrK .u64 4 (wd y))) w1 rfl h)
          clear hK hu hc
          have hl := pt_1 (hA.out.step hb)
          have hl1 := hl.1
          have hl2 := hl.2
          go_simp
          exact hk.out _ (Below.refl _ _)
        · refine fstep_val rfl rfl (calm_step rfl fun aa ω κ hb hu hc hK => ?_)
          have h25 : aa.tmps[25]?.getD undef = .agg (arrK .u64 4 (wd y)) := hc 6 25 rfl rfl
          have h27 : aa.tmps[27]?.getD undef = .agg (arrK .u64 4 (wd y)) := hc 8 27 rfl rfl
          have hk := Lib.hid (fun w1 (h : Below ω.heap.size ω w1) => hK (.agg (arrK .u64 4 (wd yy))) w1 rfl h)
          clear hK hu hc
          go_simp
          go_at_call 24
          refine (kyy.out _).mono ?_
          rintro e w1 ⟨rfl, hb1⟩
          exact hk.out _ hb1
        · refine fstep_al (n := 4) rfl rfl fun aa ω κ hK => ?_
          have hk := Lib.hid hK
          clear hK
          go_simp
          exact hk.out _ _ hc0
        · refine fstep_al (n := 4) rfl rfl fun aa ω κ hK => ?_
          have hk := Lib.hid hK
          clear hK
          go_simp
          exact hk.out _ _ hc0
        · refine fstep_st (j := 10) (n := 4) (d := 3) rfl rfl rfl rfl rfl hcxx.1 rfl rfl fun aa ω κ g hb hu hc hp hr hK => ?_
          have h23 : aa.tmps[23]?.getD undef = .agg (arrK .u64 4 (wd xx)) := hc 4 23 rfl rfl
          have hk := Lib.hid hK
          clear hK hu hc
          have hcc := hcxx
          go_simp
          exact hk.out undef
        · refine fstep_st (j := 11) (n := 4) (d := 4) rfl rfl rfl rfl rfl hcyy.1 rfl rfl fun aa ω κ g hb hu hc hp hr hK => ?_
          have h28 : aa.tmps[28]?.getD undef = .agg (arrK .u64 4 (wd yy)) := hc 9 28 rfl rfl
          have hk := Lib.hid hK
          clear hK hu hc
          have hcc := hcyy
          go_simp
          exact hk.out undef
        · intro a1 w1 G I
          have ha0 := hha0.out
          subst ha0
          have he := act_patch (n := 40) [false, false, false, true, true, false, false, false, false, false, false, false, false, false, false, false, false, false, false, true, true, true, true, true, true, true, true, true, true, false, false, false, false, false, false, false, false, false, false, false] rfl (by kernel_rfl) I.un I.sz I.df
          simp only [patch, cond_true, cond_false, Nat.reduceAdd] at he
          have hal3 := I.al 10 3 4 rfl rfl rfl
          have hal4 := I.al 11 4 4 rfl rfl rfl
          replace hL := Lib.hid (below_step I.bel hL.out (Nat.le_refl _))
          have hX := Lib.hid (show At w1 (G 10) .u64 4 (wd xx) from ⟨(I.blk 10 4 rfl rfl).2, (I.row 12 10 rfl rfl).2.2⟩)
          have hY := Lib.hid (show At w1 (G 11) .u64 4 (wd yy) from ⟨(I.blk 11 4 rfl rfl).2, (I.row 13 11 rfl rfl).2.2⟩)
          clear hA kxx kyy
          clear I hz0 hha0 e1
          rw [he]
          clear he
          rw [hal3]
          rw [hal4]
          clear hal3 hal4
          generalize a1.tmps[19]?.getD undef = x19 at *
          generalize a1.tmps[20]?.getD undef = x20 at *
          generalize a1.tmps[21]?.getD undef = x21 at *
          generalize a1.tmps[22]?.getD undef = x22 at *
          generalize a1.tmps[23]?.getD undef = x23 at *
          generalize a1.tmps[24]?.getD undef = x24 at *
          generalize a1.tmps[25]?.getD undef = x25 at *
          generalize a1.tmps[26]?.getD undef = x26 at *
          generalize a1.tmps[27]?.getD undef = x27 at *
          generalize a1.tmps[28]?.getD undef = x28 at *
          go_upto_region 4 with (fail)
          obtain ⟨gX, hgz⟩ : ∃ g, G 10 = g := ⟨_, rfl⟩
          rw [hgz] at hX ⊢
          clear hgz
          obtain ⟨gY, hgz⟩ : ∃ g, G 11 = g := ⟨_, rfl⟩
          rw [hgz] at hY ⊢
          clear hgz
          generalize w1 = W1 at *
          obtain ⟨r, hr⟩ : ∃ r, decide (df = sm) = r := ⟨_, rfl⟩
          replace hqe := Lib.hid (hqe.out r hr)
          have hfin := Lib.hid (show R = r by rw [← hRR.out, hdx.out, hdy.out, hr]; rfl)
          clear hr
          generalize ha0 : Act.mk _ _ = a0
          have e3 : a0.tmps[3]?.getD undef = .pointer (some ⟨gX, 0, none⟩) := by rw [← ha0]; rfl
          have e4 : a0.tmps[4]?.getD undef = .pointer (some ⟨gY, 0, none⟩) := by rw [← ha0]; rfl
          have hz0 : a0.tmps.size = 40 := by rw [← ha0]; rfl
          have hha0 := Lib.hid ha0
          clear ha0
          refine wp_region_calm (fun jx_ => match jx_ with | 0 => SRel.is (.agg (arrK .u64 4 (wd yy))) | 1 => SRel.is (.agg (arrK .u64 4 (wd xx))) | 2 => SRel.is (.agg (arrK .u64 4 (wd df))) | 3 => SRel.is (.agg (arrK .u64 4 (wd 1))) | 4 => SRel.is (.agg (arrK .u64 4 (wd dn))) | 5 => SRel.is (.agg (arrK .u64 4 (wd xx))) | 6 => SRel.is (.agg (arrK .u64 4 (wd yy))) | 7 => SRel.is (.agg (arrK .u64 4 (wd xy))) | 8 => SRel.is (.agg (arrK .u64 4 (wd dx))) | 9 => SRel.is (.agg (arrK .u64 4 (wd sm))) | 10 => SRel.is (.bool r) | 11 => SRel.is (.bool r) | _ => SRel.any) (by kernel_rfl) (by kernel_rfl) (by kernel_rfl) (slotsOk_of hz0 (by kernel_rfl)) ⟨?_, ?_, ?_, ?_, ?_, ?_, ?_, ?_, ?_, ?_, ?_, ?_, trivial⟩ ?_
          · refine calm_step rfl fun a ω κ hb hu hc hK => ?_
            have h4 : a.tmps[4]?.getD undef = .pointer (some ⟨gY, 0, none⟩) := (hu 4 rfl).trans e4
            have hk := Lib.hid (fun w1 (h : Below ω.heap.size ω w1) => hK (.agg (arrK .u64 4 (wd yy))) w1 rfl h)
            clear hK hu hc
            have hr1 := (hY.out.step hb).row
            have hr2 := (hY.out.step hb).eq
            go_simp
            exact hk.out _ (Below.refl _ _)
          · refine calm_step rfl fun a ω κ hb hu hc hK => ?_
            have h3 : a.tmps[3]?.getD undef = .pointer (some ⟨gX, 0, none⟩) := (hu 3 rfl).trans e3
            have hk := Lib.hid (fun w1 (h : Below ω.heap.size ω w1) => hK (.agg (arrK .u64 4 (wd xx))) w1 rfl h)
            clear hK hu hc
            have hr1 := (hX.out.step hb).row
            have hr2 := (hX.out.step hb).eq
            go_simp
            exact hk.out _ (Below.refl _ _)
          · refine calm_step rfl fun a ω κ hb hu hc hK => ?_
            have h29 : a.tmps[29]?.getD undef = .agg (arrK .u64 4 (wd yy)) := hc 0 29 rfl rfl
            have h30 : a.tmps[30]?.getD undef = .agg (arrK .u64 4 (wd xx)) := hc 1 30 rfl rfl
            have hk := Lib.hid (fun w1 (h : Below ω.heap.size ω w1) => hK (.agg (arrK .u64 4 (wd df))) w1 rfl h)
            clear hK hu hc
            go_simp
            go_at_call 22
            refine (kdf.out _).mono ?_
            rintro e w1 ⟨rfl, hb1⟩
            exact hk.out _ hb1
          · refine calm_step rfl fun a ω κ hb hu hc hK => ?_
            have hk := Lib.hid (fun w1 (h : Below ω.heap.size ω w1) => hK (.agg (arrK .u64 4 (wd 1))) w1 rfl h)
            clear hK hu hc
            exact wp_bldA rfl rfl (build_one _) (hk.out _ (Below.refl _ _))
          · refine calm_step rfl fun a ω κ hb hu hc hK => ?_
            have hk := Lib.hid (fun w1 (h : Below ω.heap.size ω w1) => hK (.agg (arrK .u64 4 (wd dn))) w1 rfl h)
            clear hK hu hc
            go_simp
            go_at_call 107
            refine (kd.out _).mono ?_
            rintro e w1 ⟨rfl, hb1⟩
            exact hk.out _ hb1
          · refine calm_step rfl fun a ω κ hb hu hc hK => ?_
            have h3 : a.tmps[3]?.getD undef = .pointer (some ⟨gX, 0, none⟩) := (hu 3 rfl).trans e3
            have hk := Lib.hid (fun w1 (h : Below ω.heap.size ω w1) => hK (.agg (arrK .u64 4 (wd xx))) w1 rfl h)
            clear hK hu hc
            have hr1 := (hX.out.step hb).row
            have hr2 := (hX.out.step hb).eq
            go_simp
            exact hk.out _ (Below.refl _ _)
          · refine calm_step rfl fun a ω κ hb hu hc hK => ?_
            have h4 : a.tmps[4]?.getD undef = .pointer (some ⟨gY, 0, none⟩) := (hu 4 rfl).trans e4
            have hk := Lib.hid (fun w1 (h : Below ω.heap.size ω w1) => hK (.agg (arrK .u64 4 (wd yy))) w1 rfl h)
            clear hK hu hc
            have hr1 := (hY.out.step hb).row
            have hr2 := (hY.out.step hb).eq
            go_simp
            exact hk.out _ (Below.refl _ _)
          · refine calm_step rfl fun a ω κ hb hu hc hK => ?_
            have h34 : a.tmps[34]?.getD undef = .agg (arrK .u64 4 (wd xx)) := hc 5 34 rfl rfl
            have h35 : a.tmps[35]?.getD undef = .agg (arrK .u64 4 (wd yy)) := hc 6 35 rfl rfl
            have hk := Lib.hid (fun w1 (h : Below ω.heap.size ω w1) => hK (.agg (arrK .u64 4 (wd xy))) w1 rfl h)
            clear hK hu hc
            go_simp
            go_at_call 24
            refine (kxy.out _).mono ?_
            rintro e w1 ⟨rfl, hb1⟩
            exact hk.out _ hb1
          · refine calm_step rfl fun a ω κ hb hu hc hK => ?_
            have h33 : a.tmps[33]?.getD undef = .agg (arrK .u64 4 (wd dn)) := hc 4 33 rfl rfl
            have h36 : a.tmps[36]?.getD undef = .agg (arrK .u64 4 (wd xy)) := hc 7 36 rfl rfl
            have hk := Lib.hid (fun w1 (h : Below ω.heap.size ω w1) => hK (.agg (arrK .u64 4 (wd dx))) w1 rfl h)
            clear hK hu hc
            go_simp
            go_at_call 24
            refine (kdx.out _).mono ?_
            rintro e w1 ⟨rfl, hb1⟩
            exact hk.out _ hb1
          · refine calm_step rfl fun a ω κ hb hu hc hK => ?_
            have h32 : a.tmps[32]?.getD undef = .agg (arrK .u64 4 (wd 1)) := hc 3 32 rfl rfl
            have h37 : a.tmps[37]?.getD undef = .agg (arrK .u64 4 (wd dx)) := hc 8 37 rfl rfl
            have hk := Lib.hid (fun w1 (h : Below ω.heap.size ω w1) => hK (.agg (arrK .u64 4 (wd sm))) w1 rfl h)
            clear hK hu hc
            go_simp
            go_at_call 20
            refine (ksm.out _).mono ?_
            rintro e w1 ⟨rfl, hb1⟩
            exact hk.out _ hb1
          · refine calm_step rfl fun a ω κ hb hu hc hK => ?_
            have h31 : a.tmps[31]?.getD undef = .agg (arrK .u64 4 (wd df)) := hc 2 31 rfl rfl
            have h38 : a.tmps[38]?.getD undef = .agg (arrK .u64 4 (wd sm)) := hc 9 38 rfl rfl
            have hk := Lib.hid (fun w1 (h : Below ω.heap.size ω w1) => hK (.bool r) w1 rfl h)
            clear hK hu hc
            exact wp_eqlA (v := arrK .u64 4 (wd df)) (u := arrK .u64 4 (wd sm)) (.inr rfl) (by kernel_rfl) (by go_simp) (by go_simp) (hqe.out _) (hk.out _ (Below.refl _ _))
          · refine calm_step rfl fun a ω κ hb hu hc hK => ?_
            have h39 : a.tmps[39]?.getD undef = .bool r := hc 10 39 rfl rfl
            have hk := Lib.hid (fun w1 (h : Below ω.heap.size ω w1) => hK (.bool r) w1 rfl h)
            clear hK hu hc
            go_simp
            exact hk.out _ (Below.refl _ _)
          · intro a1 w1 hb1 hu1 hsz1 hdf1 hc1
            have ha0 := hha0.out
            subst ha0
            have he := act_patch (n := 40) [false, false, true, false, false, false, false, false, false, false, false, false, false, false, false, false, false, false, false, false, false, false, false, false, false, false, false, false, false, true, true, true, true, true, true, true, true, true, true, true] rfl (by kernel_rfl) hu1 hsz1 hdf1
            simp only [patch, cond_true, cond_false, Nat.reduceAdd] at he
            have hkn2 : a1.tmps[2]?.getD undef = .bool r := hc1 11 2 rfl
            replace hL := Lib.hid (below_step hb1 hL.out (Nat.le_refl _))
            clear hb1 hu1 hsz1 hdf1 hc1 hz0 hha0 e3 e4
            rw [he]
            clear he
            rw [hkn2]
            clear hkn2
            generalize a1.tmps[29]?.getD undef = x29 at *
            generalize a1.tmps[30]?.getD undef = x30 at *
            generalize a1.tmps[31]?.getD undef = x31 at *
            generalize a1.tmps[32]?.getD undef = x32 at *
            generalize a1.tmps[33]?.getD undef = x33 at *
            generalize a1.tmps[34]?.getD undef = x34 at *
            generalize a1.tmps[35]?.getD undef = x35 at *
            generalize a1.tmps[36]?.getD undef = x36 at *
            generalize a1.tmps[37]?.getD undef = x37 at *
            generalize a1.tmps[38]?.getD undef = x38 at *
            generalize a1.tmps[39]?.getD undef = x39 at *
            go_wp2_with fail
            exact ret_tmp (p := 2) (v := .bool r) rfl (by simp) rfl ⟨by rw [hfin.out], hL.out⟩

    · have hdy : decide (y = py) = false := decide_eq_false hey
      replace hqy := Lib.hid (hqy.out true hdy)
      replace hdy := Lib.hid hdy
      clear hey
      generalize ha0 : Act.mk _ _ = a0
      have e1 : a0.tmps[1]?.getD undef = .pointer (some ⟨w.heap.size, 0, none⟩) := by rw [← ha0]; rfl
      have hz0 : a0.tmps.size = 40 := by rw [← ha0]; rfl
      have hha0 := Lib.hid ha0
      clear ha0
      refine wp_region_calm (fun jx_ => match jx_ with | 0 => SRel.is (.pointer (some ⟨w.heap.size, 0, none⟩)) | 1 => SRel.is (.agg (arrK .u64 4 (wd x))) | 2 => SRel.is (.pointer (some ⟨w.heap.size, 0, none⟩)) | 3 => SRel.is (.agg (arrK .u64 4 (wd x))) | 4 => SRel.is (.agg (arrK .u64 4 (wd px))) | 5 => SRel.is (.bool false) | 6 => SRel.is (.bool false) | 7 => SRel.is (.pointer (some ⟨w.heap.size, 4, none⟩)) | 8 => SRel.is (.agg (arrK .u64 4 (wd y))) | 9 => SRel.is (.pointer (some ⟨w.heap.size, 4, none⟩)) | 10 => SRel.is (.agg (arrK .u64 4 (wd y))) | 11 => SRel.is (.agg (arrK .u64 4 (wd py))) | 12 => SRel.is (.bool true) | 13 => SRel.is (.bool true) | _ => SRel.any) (by kernel_rfl) (by kernel_rfl) (by kernel_rfl) (slotsOk_of hz0 (by kernel_rfl)) ⟨?_, ?_, ?_, ?_, ?_, ?_, ?_, ?_, ?_, ?_, ?_, ?_, ?_, ?_, trivial⟩ ?_
      · refine calm_step rfl fun a ω κ hb hu hc hK => ?_
        have h1 : a.tmps[1]?.getD undef = .pointer (some ⟨w.heap.size, 0, none⟩) := (hu 1 rfl).trans e1
        have hk := Lib.hid (fun w1 (h : Below ω.heap.size ω w1) => hK (.pointer (some ⟨w.heap.size, 0, none⟩)) w1 rfl h)
        clear hK hu hc
        go_simp
        exact hk.out _ (Below.refl _ _)
      · refine calm_step rfl fun a ω κ hb hu hc hK => ?_
        have h5 : a.tmps[5]?.getD undef = .pointer (some ⟨w.heap.size, 0, none⟩) := hc 0 5 rfl rfl
        have hk := Lib.hid (fun w1 (h : Below ω.heap.size ω w1) => hK (.agg (arrK .u64 4 (wd x))) w1 rfl h)
        clear hK hu hc
        have hl := pt_0 (hA.out.step hb)
        have hl1 := hl.1
        have hl2 := hl.2
        go_simp
        exact hk.out _ (Below.refl _ _)
      · refine calm_step rfl fun a ω κ hb hu hc hK => ?_
        have h1 : a.tmps[1]?.getD undef = .pointer (some ⟨w.heap.size, 0, none⟩) := (hu 1 rfl).trans e1
        have hk := Lib.hid (fun w1 (h : Below ω.heap.size ω w1) => hK (.pointer (some ⟨w.heap.size, 0, none⟩)) w1 rfl h)
        clear hK hu hc
        go_simp
        exact hk.out _ (Below.refl _ _)
      · refine calm_step rfl fun a ω κ hb hu hc hK => ?_
        have h7 : a.tmps[7]?.getD undef = .pointer (some ⟨w.heap.size, 0, none⟩) := hc 2 7 rfl rfl
        have hk := Lib.hid (fun w1 (h : Below ω.heap.size ω w1) => hK (.agg (arrK .u64 4 (wd x))) w1 rfl h)
        clear hK hu hc
        have hl := pt_0 (hA.out.step hb)
        have hl1 := hl.1
        have hl2 := hl.2
        go_simp
        exact hk.out _ (Below.refl _ _)
      · refine calm_step rfl fun a ω κ hb hu hc hK => ?_
        have h8 : a.tmps[8]?.getD undef = .agg (arrK .u64 4 (wd x)) := hc 3 8 rfl rfl
        have hk := Lib.hid (fun w1 (h : Below ω.heap.size ω w1) => hK (.agg (arrK .u64 4 (wd px))) w1 rfl h)
        clear hK hu hc
        go_simp
        go_at_call 18
        refine (kLx.out _).mono ?_
        rintro e w1 ⟨rfl, hb1⟩
        exact hk.out _ hb1
      · refine calm_step rfl fun a ω κ hb hu hc hK => ?_
        have h6 : a.tmps[6]?.getD undef = .agg (arrK .u64 4 (wd x)) := hc 1 6 rfl rfl
        have h9 : a.tmps[9]?.getD undef = .agg (arrK .u64 4 (wd px)) := hc 4 9 rfl rfl
        have hk := Lib.hid (fun w1 (h : Below ω.heap.size ω w1) => hK (.bool false) w1 rfl h)
        clear hK hu hc
        exact wp_eqlA (v := arrK .u64 4 (wd x)) (u := arrK .u64 4 (wd px)) (.inl rfl) (by kernel_rfl) (by go_simp) (by go_simp) (hqx.out _) (hk.out _ (Below.refl _ _))
      · refine calm_step rfl fun a ω κ hb hu hc hK => ?_
        have h10 : a.tmps[10]?.getD undef = .bool false := hc 5 10 rfl rfl
        have hk := Lib.hid (fun w1 (h : Below ω.heap.size ω w1) => hK (.bool false) w1 rfl h)
        clear hK hu hc
        go_simp
        exact hk.out _ (Below.refl _ _)
      · refine calm_step_guard (g := 6) (b := false) (d := 11) rfl rfl (fun a w hc => hc 6 11 rfl rfl) fun a ω κ hb hu hc hK => ?_
        have h1 : a.tmps[1]?.getD undef = .pointer (some ⟨w.heap.size, 0, none⟩) := (hu 1 rfl).trans e1
        have hk := Lib.hid (fun w1 (h : Below ω.heap.size ω w1) => hK (.pointer (some ⟨w.heap.size, 4, none⟩)) w1 rfl h)
        clear hK hu hc
        go_simp
        exact hk.out _ (Below.refl _ _)
      · refine calm_step_guard (g := 6) (b := false) (d := 11) rfl rfl (fun a w hc => hc 6 11 rfl rfl) fun a ω κ hb hu hc hK => ?_
        have h12 : a.tmps[12]?.getD undef = .pointer (some ⟨w.heap.size, 4, none⟩) := hc 7 12 rfl rfl
        have hk := Lib.hid (fun w1 (h : Below ω.heap.size ω w1) => hK (.agg (arrK .u64 4 (wd y))) w1 rfl h)
        clear hK hu hc
        have hl := pt_1 (hA.out.step hb)
        have hl1 := hl.1
        have hl2 := hl.2
        go_simp
        exact hk.out _ (Below.refl _ _)
      · refine calm_step_guard (g := 6) (b := false) (d := 11) rfl rfl (fun a w hc => hc 6 11 rfl rfl) fun a ω κ hb hu hc hK => ?_
        have h1 : a.tmps[1]?.getD undef = .pointer (some ⟨w.heap.size, 0, none⟩) := (hu 1 rfl).trans e1
        have hk := Lib.hid (fun w1 (h : Below ω.heap.size ω w1) => hK (.pointer (some ⟨w.heap.size, 4, none⟩)) w1 rfl h)
        clear hK hu hc
        go_simp
        exact hk.out _ (Below.refl _ _)
      · refine calm_step_guard (g := 6) (b := false) (d := 11) rfl rfl (fun a w hc => hc 6 11 rfl rfl) fun a ω κ hb hu hc hK => ?_
        have h14 : a.tmps[14]?.getD undef = .pointer (some ⟨w.heap.size, 4, none⟩) := hc 9 14 rfl rfl
        have hk := Lib.hid (fun w1 (h : Below ω.heap.size ω w1) => hK (.agg (arrK .u64 4 (wd y))) w1 rfl h)
        clear hK hu hc
        have hl := pt_1 (hA.out.step hb)
        have hl1 := hl.1
        have hl2 := hl.2
        go_simp
        exact hk.out _ (Below.refl _ _)
      · refine calm_step_guard (g := 6) (b := false) (d := 11) rfl rfl (fun a w hc => hc 6 11 rfl rfl) fun a ω κ hb hu hc hK => ?_
        have h15 : a.tmps[15]?.getD undef = .agg (arrK .u64 4 (wd y)) := hc 10 15 rfl rfl
        have hk := Lib.hid (fun w1 (h : Below ω.heap.size ω w1) => hK (.agg (arrK .u64 4 (wd py))) w1 rfl h)
        clear hK hu hc
        go_simp
        go_at_call 18
        refine (kLy.out _).mono ?_
        rintro e w1 ⟨rfl, hb1⟩
        exact hk.out _ hb1
      · refine calm_step_guard (g := 6) (b := false) (d := 11) rfl rfl (fun a w hc => hc 6 11 rfl rfl) fun a ω κ hb hu hc hK => ?_
        have h13 : a.tmps[13]?.getD undef = .agg (arrK .u64 4 (wd y)) := hc 8 13 rfl rfl
        have h16 : a.tmps[16]?.getD undef = .agg (arrK .u64 4 (wd py)) := hc 11 16 rfl rfl
        have hk := Lib.hid (fun w1 (h : Below ω.heap.size ω w1) => hK (.bool true) w1 rfl h)
        clear hK hu hc
        exact wp_eqlA (v := arrK .u64 4 (wd y)) (u := arrK .u64 4 (wd py)) (.inl rfl) (by kernel_rfl) (by go_simp) (by go_simp) (hqy.out _) (hk.out _ (Below.refl _ _))
      · refine calm_step rfl fun a ω κ hb hu hc hK => ?_
        have h11 : a.tmps[11]?.getD undef = .bool false := hc 6 11 rfl rfl
        have h17 : a.tmps[17]?.getD undef = .bool true := hc 12 17 rfl rfl
        have hk := Lib.hid (fun w1 (h : Below ω.heap.size ω w1) => hK (.bool true) w1 rfl h)
        clear hK hu hc
        go_simp
        exact hk.out _ (Below.refl _ _)
      · intro a1 w1 hb1 hu1 hsz1 hdf1 hc1
        have ha0 := hha0.out
        subst ha0
        have he := act_patch (n := 40) [false, false, false, false, false, true, true, true, true, true, true, true, true, true, true, true, true, true, true, false, false, false, false, false, false, false, false, false, false, false, false, false, false, false, false, false, false, false, false, false] rfl (by kernel_rfl) hu1 hsz1 hdf1
        simp only [patch, cond_true, cond_false, Nat.reduceAdd] at he
        have hkn18 : a1.tmps[18]?.getD undef = .bool true := hc1 13 18 rfl
        replace hA := Lib.hid (hA.out.step hb1)
        replace hL := Lib.hid (below_step hb1 hL.out (Nat.le_refl _))
        clear kLx kLy hqx hqy
        clear hb1 hu1 hsz1 hdf1 hc1 hz0 hha0 e1
        rw [he]
        clear he
        rw [hkn18]
        clear hkn18
        generalize a1.tmps[5]?.getD undef = x5 at *
        generalize a1.tmps[6]?.getD undef = x6 at *
        generalize a1.tmps[7]?.getD undef = x7 at *
        generalize a1.tmps[8]?.getD undef = x8 at *
        generalize a1.tmps[9]?.getD undef = x9 at *
        generalize a1.tmps[10]?.getD undef = x10 at *
        generalize a1.tmps[11]?.getD undef = x11 at *
        generalize a1.tmps[12]?.getD undef = x12 at *
        generalize a1.tmps[13]?.getD undef = x13 at *
        generalize a1.tmps[14]?.getD undef = x14 at *
        generalize a1.tmps[15]?.getD undef = x15 at *
        generalize a1.tmps[16]?.getD undef = x16 at *
        generalize a1.tmps[17]?.getD undef = x17 at *
        go_wp2_with fail
        exact ret_tmp (p := 2) (v := .bool false) rfl (by simp) rfl ⟨by rw [← hRR.out, hdx.out, hdy.out]; rfl, hL.out⟩

  · have hdx : decide (x = px) = false := decide_eq_false hex
    replace hqx := Lib.hid (hqx.out true hdx)
    replace hdx := Lib.hid hdx
    clear hex
    generalize ha0 : Act.mk _ _ = a0
    have e1 : a0.tmps[1]?.getD undef = .pointer (some ⟨w.heap.size, 0, none⟩) := by rw [← ha0]; rfl
    have hz0 : a0.tmps.size = 40 := by rw [← ha0]; rfl
    have hha0 := Lib.hid ha0
    clear ha0
    refine wp_region_calm (fun jx_ => match jx_ with | 0 => SRel.is (.pointer (some ⟨w.heap.size, 0, none⟩)) | 1 => SRel.is (.agg (arrK .u64 4 (wd x))) | 2 => SRel.is (.pointer (some ⟨w.heap.size, 0, none⟩)) | 3 => SRel.is (.agg (arrK .u64 4 (wd x))) | 4 => SRel.is (.agg (arrK .u64 4 (wd px))) | 5 => SRel.is (.bool true) | 6 => SRel.is (.bool true) | 7 => SRel.any | 8 => SRel.any | 9 => SRel.any | 10 => SRel.any | 11 => SRel.any | 12 => SRel.any | 13 => SRel.is (.bool true) | _ => SRel.any) (by kernel_rfl) (by kernel_rfl) (by kernel_rfl) (slotsOk_of hz0 (by kernel_rfl)) ⟨?_, ?_, ?_, ?_, ?_, ?_, ?_, ?_, ?_, ?_, ?_, ?_, ?_, ?_, trivial⟩ ?_
    · refine calm_step rfl fun a ω κ hb hu hc hK => ?_
      have h1 : a.tmps[1]?.getD undef = .pointer (some ⟨w.heap.size, 0, none⟩) := (hu 1 rfl).trans e1
      have hk := Lib.hid (fun w1 (h : Below ω.heap.size ω w1) => hK (.pointer (some ⟨w.heap.size, 0, none⟩)) w1 rfl h)
      clear hK hu hc
      go_simp
      exact hk.out _ (Below.refl _ _)
    · refine calm_step rfl fun a ω κ hb hu hc hK => ?_
      have h5 : a.tmps[5]?.getD undef = .pointer (some ⟨w.heap.size, 0, none⟩) := hc 0 5 rfl rfl
      have hk := Lib.hid (fun w1 (h : Below ω.heap.size ω w1) => hK (.agg (arrK .u64 4 (wd x))) w1 rfl h)
      clear hK hu hc
      have hl := pt_0 (hA.out.step hb)
      have hl1 := hl.1
      have hl2 := hl.2
      go_simp
      exact hk.out _ (Below.refl _ _)
    · refine calm_step rfl fun a ω κ hb hu hc hK => ?_
      have h1 : a.tmps[1]?.getD undef = .pointer (some ⟨w.heap.size, 0, none⟩) := (hu 1 rfl).trans e1
      have hk := Lib.hid (fun w1 (h : Below ω.heap.size ω w1) => hK (.pointer (some ⟨w.heap.size, 0, none⟩)) w1 rfl h)
      clear hK hu hc
      go_simp
      exact hk.out _ (Below.refl _ _)
    · refine calm_step rfl fun a ω κ hb hu hc hK => ?_
      have h7 : a.tmps[7]?.getD undef = .pointer (some ⟨w.heap.size, 0, none⟩) := hc 2 7 rfl rfl
      have hk := Lib.hid (fun w1 (h : Below ω.heap.size ω w1) => hK (.agg (arrK .u64 4 (wd x))) w1 rfl h)
      clear hK hu hc
      have hl := pt_0 (hA.out.step hb)
      have hl1 := hl.1
      have hl2 := hl.2
      go_simp
      exact hk.out _ (Below.refl _ _)
    · refine calm_step rfl fun a ω κ hb hu hc hK => ?_
      have h8 : a.tmps[8]?.getD undef = .agg (arrK .u64 4 (wd x)) := hc 3 8 rfl rfl
      have hk := Lib.hid (fun w1 (h : Below ω.heap.size ω w1) => hK (.agg (arrK .u64 4 (wd px))) w1 rfl h)
      clear hK hu hc
      go_simp
      go_at_call 18
      refine (kLx.out _).mono ?_
      rintro e w1 ⟨rfl, hb1⟩
      exact hk.out _ hb1
    · refine calm_step rfl fun a ω κ hb hu hc hK => ?_
      have h6 : a.tmps[6]?.getD undef = .agg (arrK .u64 4 (wd x)) := hc 1 6 rfl rfl
      have h9 : a.tmps[9]?.getD undef = .agg (arrK .u64 4 (wd px)) := hc 4 9 rfl rfl
      have hk := Lib.hid (fun w1 (h : Below ω.heap.size ω w1) => hK (.bool true) w1 rfl h)
      clear hK hu hc
      exact wp_eqlA (v := arrK .u64 4 (wd x)) (u := arrK .u64 4 (wd px)) (.inl rfl) (by kernel_rfl) (by go_simp) (by go_simp) (hqx.out _) (hk.out _ (Below.refl _ _))
    · refine calm_step rfl fun a ω κ hb hu hc hK => ?_
      have h10 : a.tmps[10]?.getD undef = .bool true := hc 5 10 rfl rfl
      have hk := Lib.hid (fun w1 (h : Below ω.heap.size ω w1) => hK (.bool true) w1 rfl h)
      clear hK hu hc
      go_simp
      exact hk.out _ (Below.refl _ _)
    · exact calm_step_skip (g := 6) (b := false) (d := 11) rfl rfl (fun a w hc => hc 6 11 rfl rfl) (fun _ => trivial)
    · exact calm_step_skip (g := 6) (b := false) (d := 11) rfl rfl (fun a w hc => hc 6 11 rfl rfl) (fun _ => trivial)
    · exact calm_step_skip (g := 6) (b := false) (d := 11) rfl rfl (fun a w hc => hc 6 11 rfl rfl) (fun _ => trivial)
    · exact calm_step_skip (g := 6) (b := false) (d := 11) rfl rfl (fun a w hc => hc 6 11 rfl rfl) (fun _ => trivial)
    · exact calm_step_skip (g := 6) (b := false) (d := 11) rfl rfl (fun a w hc => hc 6 11 rfl rfl) (fun _ => trivial)
    · exact calm_step_skip (g := 6) (b := false) (d := 11) rfl rfl (fun a w hc => hc 6 11 rfl rfl) (fun _ => trivial)
    · refine calm_step rfl fun a ω κ hb hu hc hK => ?_
      have h11 : a.tmps[11]?.getD undef = .bool true := hc 6 11 rfl rfl
      have h17 : (SRel.any).p (a.tmps[17]?.getD undef) ω := hc 12 17 rfl rfl
      have hk := Lib.hid (fun w1 (h : Below ω.heap.size ω w1) => hK (.bool true) w1 rfl h)
      clear hK hu hc
      go_simp
      exact hk.out _ (Below.refl _ _)
    · intro a1 w1 hb1 hu1 hsz1 hdf1 hc1
      have ha0 := hha0.out
      subst ha0
      have he := act_patch (n := 40) [false, false, false, false, false, true, true, true, true, true, true, true, true, true, true, true, true, true, true, false, false, false, false, false, false, false, false, false, false, false, false, false, false, false, false, false, false, false, false, false] rfl (by kernel_rfl) hu1 hsz1 hdf1
      simp only [patch, cond_true, cond_false, Nat.reduceAdd] at he
      have hkn18 : a1.tmps[18]?.getD undef = .bool true := hc1 13 18 rfl
      replace hA := Lib.hid (hA.out.step hb1)
      replace hL := Lib.hid (below_step hb1 hL.out (Nat.le_refl _))
      clear kLx kLy hqx hqy
      clear hb1 hu1 hsz1 hdf1 hc1 hz0 hha0 e1
      rw [he]
      clear he
      rw [hkn18]
      clear hkn18
      generalize a1.tmps[5]?.getD undef = x5 at *
      generalize a1.tmps[6]?.getD undef = x6 at *
      generalize a1.tmps[7]?.getD undef = x7 at *
      generalize a1.tmps[8]?.getD undef = x8 at *
      generalize a1.tmps[9]?.getD undef = x9 at *
      generalize a1.tmps[10]?.getD undef = x10 at *
      generalize a1.tmps[11]?.getD undef = x11 at *
      generalize a1.tmps[12]?.getD undef = x12 at *
      generalize a1.tmps[13]?.getD undef = x13 at *
      generalize a1.tmps[14]?.getD undef = x14 at *
      generalize a1.tmps[15]?.getD undef = x15 at *
      generalize a1.tmps[16]?.getD undef = x16 at *
      generalize a1.tmps[17]?.getD undef = x17 at *
      go_wp2_with fail
      exact ret_tmp (p := 2) (v := .bool false) rfl (by simp) rfl ⟨by rw [← hRR.out, hdx.out]; rfl, hL.out⟩

end Go.Proofs.Ytodcjeaannfbnaa
namespace Go.Proofs.Ytodcjeaannfbnaa
open Go.ChangeShapes Go.WideShapes Go.ChangeAt Go.RowKit
set_option maxHeartbeats 2000000
set_option maxRecDepth 100000
attribute [local go_sem ↓] load_fld load_num store_num execl_num execs_num load_pt store_pt execl_pt execs_pt load_qd store_qd execl_qd execs_qd
attribute [local go_sem] isHead_mk blkOf_mk isAgg_mk cellsV_mk row_drew rowAt_drew row_new_cells row_old rowAt_new rowAt_old setRow_new zeroNum zeroPt zeroQd
theorem ret_row2c {P : Program} {fn : Func} {R : Ending → World → Prop} {a : Act} {w : World} {p q : Tmp} {ty : TypeId} {g n : Nat} {d : TypeDesc} (h : fn.results = #[.cell p ty, .tmp q])
    (hu : P.underlying ty = some d) (hd : (match d with | .struct _ | .array _ _ => true | _ => false) = true) (hi : (P.info? ty).map (·.size) = some n)
    (hp : a.tmps.getD p undef = .pointer (some ⟨g, 0, none⟩)) (hr : Row w g n) (hf : a.defers = []) (hR : R (.returned (.tuple #[.agg (rowAt w g), a.tmps.getD q undef])) w) : bodyPost P fn R .ret a w := by
  obtain ⟨cs, t, hg, hs⟩ := hr
  have e : rowAt w g = cs := by simp [rowAt, hg]
  rw [e] at hR
  exact bodyPost_ret (results_row_tmp h _ _ g t cs (0, 0) d hp hg hu hd (by rw [hi, hs])) hf hR
theorem store_fldP {w : World} {dst : Option Tmp} {x y : Operand} {tt : TypeId} {pos : String} {af : Array Edge} {gd : Option (Nat × Bool)} {a : Act} {K : Act → World → Prop} {Q : Exit → Act → World → Prop} (hv : IsPart (a.eval x)) (h : Row w (blkOf (a.eval x)) 8) (ho : offOf (a.eval x) + 4 ≤ 8) (hx : IsAgg (a.eval y) 4) :
    Oper.wp Try.prog ⟨dst, .store 24 x y, tt, pos, af, gd⟩ a w K Q ↔ K (a.put dst undef) (w.setRow (blkOf (a.eval x)) (putAt (rowAt w (blkOf (a.eval x))) (offOf (a.eval x)) (cellsV (a.eval y)).toList)) := wp_store_part (by kernel_rfl) hv h ho hx
attribute [local go_sem ↓] store_fldP
attribute [local go_sem] isPart_mk offOf_mk
theorem put_x (f0 f1 f : Nat → Nat) : putAt (arrK .u64 8 (cat2 f0 f1)) 0 (arrK .u64 4 f).toList = arrK .u64 8 (cat2 f f1) := by
  rw [arrK_V .u64 8, putAt_arrV, arrK_V .u64 8]
  refine arrV_congr fun i hi => ?_
  rw [if_pos (Nat.zero_le _), Nat.sub_zero, Array.getElem?_toList]
  unfold cat2
  by_cases h : i < 4
  · rw [arrK_at h, if_pos h, if_pos h]; rfl
  · rw [Array.getElem?_eq_none (by rw [arrK_size]; omega), if_neg h, if_neg h]; rfl
theorem curve_Neg (x y : Nat) (w : World) (hx : x < 2 ^ 256) (hy : y < 2 ^ 256) : Calls Try.prog 35 #[ptV x y] w fun e w' => e = .returned (bif onB x y then .tuple #[ptV (difP 0 x) y, .int .i64 0] else .tuple #[ptV 0 0, .int .i64 1]) ∧ Below w.heap.size w w' := by
  have h0l : 0 < 2 ^ 256 := by decide +kernel
  have kO := Lib.hid (fun V => curve_On x y V hx hy)
  have kS := Lib.hid (fun V => field_Sub 0 x V h0l hx)
  obtain ⟨b, hb⟩ : ∃ b, onB x y = b := ⟨_, rfl⟩
  rw [hb] at kO ⊢
  obtain ⟨d, hd⟩ : ∃ d, difP 0 x = d := ⟨_, rfl⟩
  rw [hd] at kS ⊢
  clear hd hb hx hy h0l
  unfold numV at kS
  unfold ptV at kO ⊢
  have hcz := arrK_cells .u64 8 (cat2 (wd 0) (wd 0))
  have hcd := arrK_cells .u64 4 (wd d)
  have hcr := arrK_cells .u64 8 (cat2 (wd d) (wd y))
  have hL0 : Below w.heap.size w ((w.alloc (Obj.cells (arrK .u64 8 (cat2 (wd x) (wd y))) 42)).alloc (Obj.cells (arrK .u64 8 (cat2 (wd 0) (wd 0))) 42)) := by go_grown
  have hA0 : At ((w.alloc (Obj.cells (arrK .u64 8 (cat2 (wd x) (wd y))) 42)).alloc (Obj.cells (arrK .u64 8 (cat2 (wd 0) (wd 0))) 42)) w.heap.size .u64 8 (cat2 (wd x) (wd y)) := (At.new _ rfl).old _
  have hR0 : Row ((w.alloc (Obj.cells (arrK .u64 8 (cat2 (wd x) (wd y))) 42)).alloc (Obj.cells (arrK .u64 8 (cat2 (wd 0) (wd 0))) 42)) (w.heap.size + 1) 8 := (At.new (k := .u64) (f := cat2 (wd 0) (wd 0)) _ (by simp)).row
  have hL := Lib.hid hL0
  have hR := Lib.hid hR0
  have hA := Lib.hid hA0
  clear hL0 hR0 hA0
  go_enter Try.func35, Try.ntmps35
  go_upto_region 1 with (fail)
  generalize (w.alloc _).alloc _ = W0 at *
  have hr1 := hA.out.row
  have hr2 := hA.out.eq
  go_wp2_with fail
  refine (kO.out _).mono ?_
  rintro e w2 ⟨rfl, hbz⟩
  replace hA := Lib.hid (hA.out.step hbz)
  replace hR := Lib.hid (row_below hR.out hbz hR.out.lt)
  replace hL := Lib.hid (below_step hbz hL.out (Nat.le_refl _))
  clear hr1 hr2 hbz kO
  dsimp only
  cases b with
  | false =>
    have hrR := hR.out
    go_wp2_with fail
    exact ret_stored2 (p := 2) (q := 3) (ty := 42) (g := w.heap.size + 1) (n := 8) (c := arrK .u64 8 (cat2 (wd 0) (wd 0))) rfl Try.underlying42 rfl (by kernel_rfl) rfl hrR hcz.1 rfl ⟨rfl, below_setRow hL.out (by omega)⟩
  | true =>
    have hl := pt_0 hA.out
    have hl1 := hl.1
    have hl2 := hl.2
    clear hl
    go_wp2_with fail
    refine (kS.out _).mono ?_
    rintro e w3 ⟨rfl, hbz⟩
    replace hA := Lib.hid (hA.out.step hbz)
    replace hR := Lib.hid (row_below hR.out hbz hR.out.lt)
    replace hL := Lib.hid (below_step hbz hL.out (Nat.le_refl _))
    clear hl1 hl2 hbz kS
    have hr1 := hA.out.row
    have hr2 := hA.out.eq
    have hpx := put_x (wd x) (wd y) (wd d)
    dsimp only
    go_upto_region 4 with (fail)
    have hA2 := Lib.hid (At.put (k := .u64) (f := cat2 (wd d) (wd y)) hr1)
    have hR2 := Lib.hid ((row_setRow_far (c' := arrK .u64 8 (cat2 (wd d) (wd y))) (show w.heap.size + 1 ≠ w.heap.size by omega)).2 hR.out)
    have hL2 := Lib.hid (below_setRow (c := arrK .u64 8 (cat2 (wd d) (wd y))) hL.out (Nat.le_refl _))
    clear hr1 hr2 hA hR hL
    generalize w3.setRow _ _ = W3 at *
    have hr1 := hA2.out.row
    have hr2 := hA2.out.eq
    have hrR := hR2.out
    go_wp2_with fail
    exact ret_stored2 (p := 2) (q := 3) (ty := 42) (g := w.heap.size + 1) (n := 8) (c := arrK .u64 8 (cat2 (wd d) (wd y))) rfl Try.underlying42 rfl (by kernel_rfl) rfl hrR hcr.1 rfl ⟨rfl, below_setRow hL2.out (by omega)⟩
/-- What plus makes of two quads. -/
def qplus (x1 y1 z1 t1 x2 y2 z2 t2 : Nat) : Nat × Nat × Nat × Nat :=
  let a := difP y1 x1 * difP y2 x2 % fP
  let b := ((y1 + x1) % fP) * ((y2 + x2) % fP) % fP
  let c0 := (t1 * t2 % fP) * dN % fP
  let c := (c0 + c0) % fP
  let z0 := z1 * z2 % fP
  let z := (z0 + z0) % fP
  let e := difP b a
  let f := difP z c
  let g := (z + c) % fP
  let h := (b + a) % fP
  (e * f % fP, g * h % fP, f * g % fP, e * h % fP)
/-- The sum of two points, as the program makes it. -/
def addPt (x1 y1 x2 y2 : Nat) : Nat × Nat :=
  let r := qplus x1 y1 1 (x1 * y1 % fP) x2 y2 1 (x2 * y2 % fP)
  (r.1 * invP r.2.2.1 % fP, r.2.1 * invP r.2.2.1 % fP)
theorem quad_plusQ (x1 y1 z1 t1 x2 y2 z2 t2 : Nat) (w : World) (hx1 : x1 < 2 ^ 256) (hy1 : y1 < 2 ^ 256) (hz1 : z1 < 2 ^ 256) (ht1 : t1 < 2 ^ 256) (hx2 : x2 < 2 ^ 256) (hy2 : y2 < 2 ^ 256) (hz2 : z2 < 2 ^ 256) (ht2 : t2 < 2 ^ 256) (r : Nat × Nat × Nat × Nat) (hr : qplus x1 y1 z1 t1 x2 y2 z2 t2 = r) :
    Calls Try.prog 102 #[quadV x1 y1 z1 t1, quadV x2 y2 z2 t2] w fun e w' => e = .returned (quadV r.1 r.2.1 r.2.2.1 r.2.2.2) ∧ Below w.heap.size w w' := by
  subst hr
  exact quad_plus _ _ _ _ _ _ _ _ _ _ _ _ _ _ _ _ _ _ _ _ _ _ _ _ _ _ _ w hx1 hy1 hz1 ht1 hx2 hy2 hz2 ht2 rfl rfl rfl rfl rfl rfl rfl rfl rfl rfl rfl rfl rfl rfl rfl rfl rfl rfl rfl
theorem qplus_lt (x1 y1 z1 t1 x2 y2 z2 t2 : Nat) (r : Nat × Nat × Nat × Nat) (hr : qplus x1 y1 z1 t1 x2 y2 z2 t2 = r) : r.1 < 2 ^ 256 ∧ r.2.1 < 2 ^ 256 ∧ r.2.2.1 < 2 ^ 256 := by
  subst hr
  exact ⟨low_lt, low_lt, low_lt⟩
theorem curve_Add (x1 y1 x2 y2 : Nat) (w : World) (hx1 : x1 < 2 ^ 256) (hy1 : y1 < 2 ^ 256) (hx2 : x2 < 2 ^ 256) (hy2 : y2 < 2 ^ 256) : Calls Try.prog 34 #[ptV x1 y1, ptV x2 y2] w fun e w' => e = .returned (bif onB x1 y1 && onB x2 y2 then .tuple #[ptV (addPt x1 y1 x2 y2).1 (addPt x1 y1 x2 y2).2, .int .i64 0] else .tuple #[ptV 0 0, .int .i64 1]) ∧ Below w.heap.size w w' := by
  have h1l : 1 < 2 ^ 256 := by decide +kernel
  have kO1 := Lib.hid (fun V => curve_On x1 y1 V hx1 hy1)
  have kO2 := Lib.hid (fun V => curve_On x2 y2 V hx2 hy2)
  have kQ1 := Lib.hid (fun V => curve_quadOf x1 y1 V hx1 hy1)
  have kQ2 := Lib.hid (fun V => curve_quadOf x2 y2 V hx2 hy2)
  unfold addPt
  obtain ⟨m1, hm1⟩ : ∃ m, x1 * y1 % fP = m := ⟨_, rfl⟩
  obtain ⟨m2, hm2⟩ : ∃ m, x2 * y2 % fP = m := ⟨_, rfl⟩
  have lm1 : m1 < 2 ^ 256 := hm1 ▸ low_lt
  have lm2 : m2 < 2 ^ 256 := hm2 ▸ low_lt
  rw [hm1] at kQ1 ⊢
  rw [hm2] at kQ2 ⊢
  obtain ⟨r, hr⟩ : ∃ r, qplus x1 y1 1 m1 x2 y2 1 m2 = r := ⟨_, rfl⟩
  have kPl := Lib.hid (fun V => quad_plusQ x1 y1 1 m1 x2 y2 1 m2 V hx1 hy1 h1l lm1 hx2 hy2 h1l lm2 r hr)
  have hrl := qplus_lt x1 y1 1 m1 x2 y2 1 m2 r hr
  rw [hr]
  obtain ⟨r1, r2, r3, r4⟩ := r
  dsimp only at kPl hrl ⊢
  have kPt := Lib.hid (fun V => quad_point r1 r2 r3 r4 V hrl.1 hrl.2.1 hrl.2.2)
  obtain ⟨X, hX⟩ : ∃ m, r1 * invP r3 % fP = m := ⟨_, rfl⟩
  obtain ⟨Y, hY⟩ : ∃ m, r2 * invP r3 % fP = m := ⟨_, rfl⟩
  rw [hX, hY] at kPt ⊢
  obtain ⟨b1, hb1⟩ : ∃ b, onB x1 y1 = b := ⟨_, rfl⟩
  obtain ⟨b2, hb2⟩ : ∃ b, onB x2 y2 = b := ⟨_, rfl⟩
  rw [hb1] at kO1 ⊢
  rw [hb2] at kO2 ⊢
  clear hb1 hb2 hX hY hrl hr lm1 lm2 hm1 hm2 h1l hx1 hy1 hx2 hy2
  unfold ptV quadV at kQ1 kQ2
  unfold quadV at kPl kPt
  unfold ptV at kPt kO1 kO2 ⊢
  have hcz := arrK_cells .u64 8 (cat2 (wd 0) (wd 0))
  have hcr := arrK_cells .u64 8 (cat2 (wd X) (wd Y))
  have hL0 : Below w.heap.size w (((w.alloc (Obj.cells (arrK .u64 8 (cat2 (wd x1) (wd y1))) 42)).alloc (Obj.cells (arrK .u64 8 (cat2 (wd x2) (wd y2))) 42)).alloc (Obj.cells (arrK .u64 8 (cat2 (wd 0) (wd 0))) 42)) := by go_grown
  have hA0 : At (((w.alloc (Obj.cells (arrK .u64 8 (cat2 (wd x1) (wd y1))) 42)).alloc (Obj.cells (arrK .u64 8 (cat2 (wd x2) (wd y2))) 42)).alloc (Obj.cells (arrK .u64 8 (cat2 (wd 0) (wd 0))) 42)) w.heap.size .u64 8 (cat2 (wd x1) (wd y1)) := ((At.new _ rfl).old _).old _
  have hB0 : At (((w.alloc (Obj.cells (arrK .u64 8 (cat2 (wd x1) (wd y1))) 42)).alloc (Obj.cells (arrK .u64 8 (cat2 (wd x2) (wd y2))) 42)).alloc (Obj.cells (arrK .u64 8 (cat2 (wd 0) (wd 0))) 42)) (w.heap.size + 1) .u64 8 (cat2 (wd x2) (wd y2)) := (At.new _ (by simp)).old _
  have hR0 : Row (((w.alloc (Obj.cells (arrK .u64 8 (cat2 (wd x1) (wd y1))) 42)).alloc (Obj.cells (arrK .u64 8 (cat2 (wd x2) (wd y2))) 42)).alloc (Obj.cells (arrK .u64 8 (cat2 (wd 0) (wd 0))) 42)) (w.heap.size + 1 + 1) 8 := (At.new (k := .u64) (f := cat2 (wd 0) (wd 0)) _ (by simp)).row
  have hL := Lib.hid hL0
  have hR := Lib.hid hR0
  have hA := Lib.hid hA0
  have hB := Lib.hid hB0
  clear hL0 hR0 hA0 hB0
  go_enter Try.func34, Try.ntmps34
  go_upto_region 1 with (fail)
  generalize ((w.alloc _).alloc _).alloc _ = W0 at *
  have hr1 := hA.out.row
  have hr2 := hA.out.eq
  go_wp2_with fail
  refine (kO1.out _).mono ?_
  rintro e w2 ⟨rfl, hbz⟩
  replace hA := Lib.hid (hA.out.step hbz)
  replace hB := Lib.hid (hB.out.step hbz)
  replace hR := Lib.hid (row_below hR.out hbz hR.out.lt)
  replace hL := Lib.hid (below_step hbz hL.out (Nat.le_refl _))
  clear hr1 hr2 hbz kO1
  dsimp only
  cases b1 with
  | false =>
    have hrR := hR.out
    go_wp2_with fail
    exact ret_stored2 (p := 4) (q := 5) (ty := 42) (g := w.heap.size + 1 + 1) (n := 8) (c := arrK .u64 8 (cat2 (wd 0) (wd 0))) rfl Try.underlying42 rfl (by kernel_rfl) rfl hrR hcz.1 rfl ⟨rfl, below_setRow hL.out (by omega)⟩
  | true =>
    have hr1 := hB.out.row
    have hr2 := hB.out.eq
    go_wp2_with fail
    refine (kO2.out _).mono ?_
    rintro e w3 ⟨rfl, hbz⟩
    replace hA := Lib.hid (hA.out.step hbz)
    replace hB := Lib.hid (hB.out.step hbz)
    replace hR := Lib.hid (row_below hR.out hbz hR.out.lt)
    replace hL := Lib.hid (below_step hbz hL.out (Nat.le_refl _))
    clear hr1 hr2 hbz kO2
    dsimp only
    cases b2 with
    | false =>
      have hrR := hR.out
      go_wp2_with fail
      exact ret_stored2 (p := 4) (q := 5) (ty := 42) (g := w.heap.size + 1 + 1) (n := 8) (c := arrK .u64 8 (cat2 (wd 0) (wd 0))) rfl Try.underlying42 rfl (by kernel_rfl) rfl hrR hcz.1 rfl ⟨rfl, below_setRow hL.out (by omega)⟩
    | true =>
      go_upto_region 3 with (fail)
      generalize ha0 : Act.mk _ _ = a0
      have e2 : a0.tmps[2]?.getD undef = .pointer (some ⟨w.heap.size, 0, none⟩) := by rw [← ha0]; rfl
      have e3 : a0.tmps[3]?.getD undef = .pointer (some ⟨w.heap.size + 1, 0, none⟩) := by rw [← ha0]; rfl
      have e4 : a0.tmps[4]?.getD undef = .pointer (some ⟨w.heap.size + 1 + 1, 0, none⟩) := by rw [← ha0]; rfl
      have hz0 : a0.tmps.size = 21 := by rw [← ha0]; rfl
      have hha0 := Lib.hid ha0
      clear ha0
      refine wp_region_one (fun jx_ => match jx_ with | 0 => some (.agg (arrK .u64 8 (cat2 (wd x1) (wd y1)))) | 1 => some (.agg (arrK .u64 16 (cat4 (wd x1) (wd y1) (wd 1) (wd m1)))) | 2 => some (.agg (arrK .u64 8 (cat2 (wd x2) (wd y2)))) | 3 => some (.agg (arrK .u64 16 (cat4 (wd x2) (wd y2) (wd 1) (wd m2)))) | 4 => some (.agg (arrK .u64 16 (cat4 (wd r1) (wd r2) (wd r3) (wd r4)))) | 5 => some (.agg (arrK .u64 8 (cat2 (wd X) (wd Y)))) | 7 => some ( (Value.int IntKind.i64 0)) | _ => none) 6 ((w.heap.size + 1 + 1)) 8 (arrK .u64 8 (cat2 (wd X) (wd Y))) (by kernel_rfl) (by kernel_rfl) (by kernel_rfl) (slotsOk_of hz0 (by kernel_rfl)) (of_decide_eq_true (by kernel_rfl)) hR.out ⟨?_, ?_, ?_, ?_, ?_, ?_, ?_, ?_, trivial⟩ ?_
      · refine one_before (by decide) (by kernel_rfl) (calm_step rfl fun aa ω κ hb hu hc hK => ?_)
        have h2 : aa.tmps[2]?.getD undef = .pointer (some ⟨w.heap.size, 0, none⟩) := (hu 2 rfl).trans e2
        have hk := Lib.hid (fun w1 (h : Below ω.heap.size ω w1) => hK (.agg (arrK .u64 8 (cat2 (wd x1) (wd y1)))) w1 rfl h)
        clear hK hu hc
        have hr1 := (hA.out.step hb).row
        have hr2 := (hA.out.step hb).eq
        go_simp
        exact hk.out _ (Below.refl _ _)
      · refine one_before (by decide) (by kernel_rfl) (calm_step rfl fun aa ω κ hb hu hc hK => ?_)
        have h15 : aa.tmps[15]?.getD undef = .agg (arrK .u64 8 (cat2 (wd x1) (wd y1))) := hc 0 15 rfl rfl
        have hk := Lib.hid (fun w1 (h : Below ω.heap.size ω w1) => hK (.agg (arrK .u64 16 (cat4 (wd x1) (wd y1) (wd 1) (wd m1)))) w1 rfl h)
        clear hK hu hc
        go_simp
        go_at_call 100
        refine (kQ1.out _).mono ?_
        rintro e w1 ⟨rfl, hb1⟩
        exact hk.out _ hb1
      · refine one_before (by decide) (by kernel_rfl) (calm_step rfl fun aa ω κ hb hu hc hK => ?_)
        have h3 : aa.tmps[3]?.getD undef = .pointer (some ⟨w.heap.size + 1, 0, none⟩) := (hu 3 rfl).trans e3
        have hk := Lib.hid (fun w1 (h : Below ω.heap.size ω w1) => hK (.agg (arrK .u64 8 (cat2 (wd x2) (wd y2)))) w1 rfl h)
        clear hK hu hc
        have hr1 := (hB.out.step hb).row
        have hr2 := (hB.out.step hb).eq
        go_simp
        exact hk.out _ (Below.refl _ _)
      · refine one_before (by decide) (by kernel_rfl) (calm_step rfl fun aa ω κ hb hu hc hK => ?_)
        have h17 : aa.tmps[17]?.getD undef = .agg (arrK .u64 8 (cat2 (wd x2) (wd y2))) := hc 2 17 rfl rfl
        have hk := Lib.hid (fun w1 (h : Below ω.heap.size ω w1) => hK (.agg (arrK .u64 16 (cat4 (wd x2) (wd y2) (wd 1) (wd m2)))) w1 rfl h)
        clear hK hu hc
        go_simp
        go_at_call 100
        refine (kQ2.out _).mono ?_
        rintro e w1 ⟨rfl, hb1⟩
        exact hk.out _ hb1
      · refine one_before (by decide) (by kernel_rfl) (calm_step rfl fun aa ω κ hb hu hc hK => ?_)
        have h16 : aa.tmps[16]?.getD undef = .agg (arrK .u64 16 (cat4 (wd x1) (wd y1) (wd 1) (wd m1))) := hc 1 16 rfl rfl
        have h18 : aa.tmps[18]?.getD undef = .agg (arrK .u64 16 (cat4 (wd x2) (wd y2) (wd 1) (wd m2))) := hc 3 18 rfl rfl
        have hk := Lib.hid (fun w1 (h : Below ω.heap.size ω w1) => hK (.agg (arrK .u64 16 (cat4 (wd r1) (wd r2) (wd r3) (wd r4)))) w1 rfl h)
        clear hK hu hc
        go_simp
        go_at_call 102
        refine (kPl.out _).mono ?_
        rintro e w1 ⟨rfl, hb1⟩
        exact hk.out _ hb1
      · refine one_before (by decide) (by kernel_rfl) (calm_step rfl fun aa ω κ hb hu hc hK => ?_)
        have h19 : aa.tmps[19]?.getD undef = .agg (arrK .u64 16 (cat4 (wd r1) (wd r2) (wd r3) (wd r4))) := hc 4 19 rfl rfl
        have hk := Lib.hid (fun w1 (h : Below ω.heap.size ω w1) => hK (.agg (arrK .u64 8 (cat2 (wd X) (wd Y)))) w1 rfl h)
        clear hK hu hc
        go_simp
        go_at_call 104
        refine (kPt.out _).mono ?_
        rintro e w1 ⟨rfl, hb1⟩
        exact hk.out _ hb1
      · refine one_q (one_write rfl rfl fun aa ω κ hb hu hc hr hK => ?_)
        have h4 : aa.tmps[4]?.getD undef = .pointer (some ⟨w.heap.size + 1 + 1, 0, none⟩) := (hu 4 rfl).trans e4
        have h20 : aa.tmps[20]?.getD undef = .agg (arrK .u64 8 (cat2 (wd X) (wd Y))) := hc 5 20 rfl rfl
        have hk := Lib.hid hK
        clear hK hu hc
        have hcc := hcr
        go_simp
        exact hk.out undef
      · refine one_free (by decide) fun W_ => calm_step rfl fun aa ω κ hb hu hc hK => ?_
        have hk := Lib.hid (fun w1 (h : Below ω.heap.size ω w1) => hK ( (Value.int IntKind.i64 0)) w1 rfl h)
        clear hK hu hc
        go_simp
        exact hk.out _ (Below.refl _ _)
      · intro a1 w1 hb1 hu1 hsz1 hdf1 hv1
        have ha0 := hha0.out
        subst ha0
        have he := act_patch (n := 21) [false, false, false, false, false, true, false, false, false, false, false, false, false, false, false, true, true, true, true, true, true] rfl (by kernel_rfl) hu1 hsz1 hdf1
        simp only [patch, cond_true, cond_false, Nat.reduceAdd] at he
        have hXz := (At.put (k := .u64) (f := (cat2 (wd X) (wd Y))) hR.out).below hb1 (by simpa using hR.out.lt)
        have hLz := Lib.hid (Below.trans (below_setRow (c := arrK .u64 8 (cat2 (wd X) (wd Y))) hL.out (by omega)) (hb1.mono (by simpa using hL.out.size)))
        clear hR hL hA hB kQ1 kQ2 kPl kPt
        have h5 : a1.tmps[5]?.getD undef = .int .i64 0 := hv1 7 5 (by decide) rfl
        clear hb1 hu1 hsz1 hdf1 hv1 hz0 hha0 e2 e3 e4
        rw [he]
        clear he
        generalize a1.tmps[5]?.getD undef = x5 at *
        generalize a1.tmps[15]?.getD undef = x15 at *
        generalize a1.tmps[16]?.getD undef = x16 at *
        generalize a1.tmps[17]?.getD undef = x17 at *
        generalize a1.tmps[18]?.getD undef = x18 at *
        generalize a1.tmps[19]?.getD undef = x19 at *
        generalize a1.tmps[20]?.getD undef = x20 at *
        have hx5 : x5 = .int .i64 0 := h5
        subst hx5
        go_wp2_with fail
        refine ret_row2c (p := 4) (q := 5) (ty := 42) (g := w.heap.size + 1 + 1) (n := 8) rfl Try.underlying42 rfl (by kernel_rfl) rfl hXz.row rfl ?_
        rw [hXz.eq]
        exact ⟨rfl, hLz.out⟩
end Go.Proofs.Ytodcjeaannfbnaa
namespace Go.Proofs.Ytodcjeaannfbnaa
open Go Go.RowKit
section
variable {P : Program} {ops : Array Oper} {Q : Exit → Act → World → Prop}
/-- The world behind those that have run. -/
def twoW (w0 : World) (q1 g1 : Nat) (c1 : Array Value) (q2 g2 : Nat) (c2 : Array Value) (listed : Array Bool) : World :=
  if listed.getD q2 false = true then (w0.setRow g1 c1).setRow g2 c2 else if listed.getD q1 false = true then w0.setRow g1 c1 else w0
def TwoOk (P : Program) (ops : Array Oper) (Q : Exit → Act → World → Prop) (V : Nat → Option Value) (a0 : Act) (w0 : World) (q1 g1 n1 : Nat) (c1 : Array Value) (q2 g2 n2 : Nat) (c2 : Array Value) (i : Nat) (o : Oper) : Prop :=
  if i = q1 then OneWrite P ops Q V a0 w0 g1 n1 c1 o else if i = q2 then OneWrite P ops Q V a0 (w0.setRow g1 c1) g2 n2 c2 o else if pathB ops ops.size q1 i = true then StepOk P ops Q (relV V) a0 w0 i o else if pathB ops ops.size q2 i = true then StepOk P ops Q (relV V) a0 w0 i o ∧ StepOk P ops Q (relV V) a0 (w0.setRow g1 c1) i o else ∀ w1 : World, StepOk P ops Q (relV V) a0 w1 i o
def TwoSteps (P : Program) (ops : Array Oper) (Q : Exit → Act → World → Prop) (V : Nat → Option Value) (a0 : Act) (w0 : World) (q1 g1 n1 : Nat) (c1 : Array Value) (q2 g2 n2 : Nat) (c2 : Array Value) : Nat → List Oper → Prop
  | _, [] => True
  | i, o :: l => TwoOk P ops Q V a0 w0 q1 g1 n1 c1 q2 g2 n2 c2 i o ∧ TwoSteps P ops Q V a0 w0 q1 g1 n1 c1 q2 g2 n2 c2 (i + 1) l
theorem twoSteps_at {V : Nat → Option Value} {a0 : Act} {w0 : World} {q1 g1 n1 : Nat} {c1 : Array Value} {q2 g2 n2 : Nat} {c2 : Array Value} : ∀ (l : List Oper) (n i : Nat) (o : Oper), TwoSteps P ops Q V a0 w0 q1 g1 n1 c1 q2 g2 n2 c2 n l → l[i]? = some o →
    TwoOk P ops Q V a0 w0 q1 g1 n1 c1 q2 g2 n2 c2 (n + i) o
  | [], n, i, o, _, h => by simp at h
  | x :: l, n, 0, o, h1, h => by
      have : x = o := by simpa using h
      subst this
      exact h1.1
  | x :: l, n, i + 1, o, h1, h => by
      have := twoSteps_at l (n + 1) i o h1.2 (by simpa using h)
      rw [show n + (i + 1) = n + 1 + i by omega]
      exact this
theorem wp_region_two {id : Nat} {a0 : Act} {w0 : World} (V : Nat → Option Value) (q1 g1 n1 : Nat) (c1 : Array Value) (q2 g2 n2 : Nat) (c2 : Array Value) (hm : P.follows .mixedOrders = true) (he : edgesOk ops = true) (hd : dstsOk ops = true) (hz : slotsOk ops a0.tmps.size = true)
    (hq1 : q1 < ops.size) (hq2 : q2 < ops.size) (hq : q1 ≠ q2) (hpq : pathB ops ops.size q2 q1 = true) (hg : g2 ≠ g1) (hr : Row w0 g1 n1) (hr2 : Row w0 g2 n2) (hstep : TwoSteps P ops Q V a0 w0 q1 g1 n1 c1 q2 g2 n2 c2 0 ops.toList)
    (hend : ∀ (a : Act) (w : World), Below w0.heap.size ((w0.setRow g1 c1).setRow g2 c2) w → Untouched ops a0 a → a.tmps.size = a0.tmps.size → a.defers = a0.defers → (∀ j d, j < ops.size → dstAt ops j = some d → (relV V j).p (a.tmps[d]?.getD undef) w) → Q .normal a w) :
    (Code.region id ops true).wp P Q a0 w0 := by
  refine wp_region_any hm ?_
  have hlt : ∀ i d, dstAt ops i = some d → i < ops.size := fun i d h => by
    unfold dstAt at h
    rcases Nat.lt_or_ge i ops.size with h1 | h1
    · exact h1
    · rw [Array.getElem?_eq_none h1] at h; cases h
  have hdst : ∀ i j d e, i ≠ j → dstAt ops i = some d → dstAt ops j = some e → d ≠ e := by
    intro i j d e hij h1 h2
    have := List.all_eq_true.1 (List.all_eq_true.1 hd i (by simpa using hlt i d h1)) j (by simpa using hlt j e h2)
    rw [h1, h2] at this
    simpa [hij] using this
  have hslot : ∀ i d, dstAt ops i = some d → d < a0.tmps.size := by
    intro i d h1
    have := List.all_eq_true.1 hz i (by simpa using hlt i d h1)
    rw [h1] at this
    simpa using this
  refine wpAny_inv he (fun listed a w => (∀ k o, listed.getD k false = true → ops[k]? = some o → ∀ e ∈ o.after, Region.binds .any e = true → listed.getD e.on false = true) ∧ Below w0.heap.size (twoW w0 q1 g1 c1 q2 g2 c2 listed) w ∧ Untouched ops a0 a ∧ a.tmps.size = a0.tmps.size ∧ a.defers = a0.defers ∧ ∀ j d, listed.getD j false = true → dstAt ops j = some d → (relV V j).p (a.tmps[d]?.getD undef) w) ?_ ?_ _ _ _ _ (by simp) ?_ ?_
  · rintro listed a w i o hs ⟨hcl, hb, hu, hsz, hdf, hR⟩ hi h1 ho h2
    have hil : i < listed.size := by omega
    have hli : listed.getD i false = false := by simpa [hil] using h1
    have hst := twoSteps_at ops.toList 0 i o hstep (by rw [Array.getElem?_toList]; exact ho)
    rw [Nat.zero_add] at hst
    have hcl' : ∀ k o', (listed.setIfInBounds i true).getD k false = true → ops[k]? = some o' → ∀ e ∈ o'.after, Region.binds .any e = true → (listed.setIfInBounds i true).getD e.on false = true := by
      intro k o' hk ho' e he1 he2
      have hle : listed.getD e.on false = true := by
        by_cases hki : k = i
        · subst hki
          rw [ho] at ho'
          cases ho'
          exact h2 e he1 he2
        · have hk' : listed.getD k false = true := by simpa [Array.getElem?_setIfInBounds_ne (Ne.symm hki)] using hk
          exact hcl k o' hk' ho' e he1 he2
      by_cases hei : e.on = i
      · rw [hei]; simp [hil]
      · simpa [Array.getElem?_setIfInBounds_ne (Ne.symm hei)] using hle
    have hun : ∀ v, Untouched ops a0 (a.put o.dst v) := by
      intro v s hs'
      have hns : o.dst ≠ some s := by
        have := List.all_eq_true.1 hs' o (Array.mem_toList_iff.2 (Array.mem_of_getElem? ho))
        simpa using this
      rw [← hu s hs']
      cases hd' : o.dst with
      | none => rfl
      | some d =>
        have hne : d ≠ s := fun e => hns (by rw [hd', e])
        simp [Act.put, Array.getElem?_setIfInBounds_ne hne]
    have hsz' : ∀ v, (a.put o.dst v).tmps.size = a0.tmps.size := fun v => by cases hd' : o.dst <;> simp [Act.put, hsz]
    have hdf' : ∀ v, (a.put o.dst v).defers = a0.defers := fun v => by cases hd' : o.dst <;> simp [Act.put, hdf]
    have hcame : Came ops (relV V) o a w := by
      intro j d hj hjd
      obtain ⟨e, he1, he2⟩ := List.any_eq_true.1 hj
      have he1 : e ∈ o.after := Array.mem_toList_iff.1 he1
      simp only [Bool.and_eq_true, beq_iff_eq] at he2
      refine hR j d ?_ hjd
      rw [← he2.1]
      exact h2 e he1 he2.2
    have hval : ∀ v w', (relV V i).p v w' → ∀ j d, (listed.setIfInBounds i true).getD j false = true → dstAt ops j = some d → (relV V j).p ((a.put o.dst v).tmps[d]?.getD undef) w' := by
      intro v w' hv j d hj hjd
      by_cases hij : i = j
      · subst hij
        have hd1 := hslot i d hjd
        have hod : o.dst = some d := by unfold dstAt at hjd; rw [ho] at hjd; exact hjd
        rw [hod]
        rw [← hsz] at hd1
        simp [Act.put, hd1]
        exact hv
      · have hlj : listed.getD j false = true := by
          simpa [Array.getElem?_setIfInBounds_ne hij] using hj
        have h3 : (relV V j).p (a.tmps[d]?.getD undef) w' := relV_any (hR j d hlj hjd)
        cases hd' : o.dst with
        | none => simpa [Act.put] using h3
        | some d' =>
          have hne : d' ≠ d := hdst i j d' d hij (by unfold dstAt; rw [ho]; exact hd') hjd
          simpa [Act.put, Array.getElem?_setIfInBounds_ne hne] using h3
    have hsz0 : (twoW w0 q1 g1 c1 q2 g2 c2 listed).heap.size = w0.heap.size := by
      unfold twoW
      split
      · rw [size_setRow, size_setRow]
      · split
        · rw [size_setRow]
        · rfl
    have hb0 : Below (twoW w0 q1 g1 c1 q2 g2 c2 listed).heap.size (twoW w0 q1 g1 c1 q2 g2 c2 listed) w := by rw [hsz0]; exact hb
    have hops : ∃ f, ops.size = f + 1 := ⟨ops.size - 1, by omega⟩
    have h21 : listed.getD q2 false = true → listed.getD q1 false = true := fun h => path_listed hcl ops.size q2 q1 h hpq
    have hkeep : ∀ v, o.dst = none → ∀ w', ∀ j d, (listed.setIfInBounds i true).getD j false = true → dstAt ops j = some d → (relV V j).p ((a.put none v).tmps[d]?.getD undef) w' := by
      intro v hod w' j d hj hjd
      by_cases hij : i = j
      · subst hij
        unfold dstAt at hjd
        rw [ho] at hjd
        exact absurd (hod.symm.trans hjd) (by simp)
      · have hlj : listed.getD j false = true := by
          simpa [Array.getElem?_setIfInBounds_ne hij] using hj
        exact relV_any (hR j d hlj hjd)
    unfold TwoOk at hst
    by_cases hiq : i = q1
    · subst hiq
      rw [if_pos rfl] at hst
      have hn2 : ¬ listed.getD q2 false = true := fun h => by rw [h21 h] at hli; cases hli
      have e0 : twoW w0 i g1 c1 q2 g2 c2 listed = w0 := by unfold twoW; rw [if_neg hn2, hli, if_neg (by simp)]
      rw [e0] at hb
      obtain ⟨hod, hw⟩ := hst
      have hrw : Row w g1 n1 := row_below hr hb hr.lt
      refine wpOp_step ho fun K hK => hw a w K hb hu hcame hrw fun v => ?_
      rw [← hod]
      refine hK _ _ ⟨hcl', ?_, hun _, hsz' _, hdf' _, by rw [hod]; exact hkeep v hod _⟩
      have e1 : twoW w0 i g1 c1 q2 g2 c2 (listed.setIfInBounds i true) = w0.setRow g1 c1 := by
        unfold twoW
        rw [if_neg (by simpa [Array.getElem?_setIfInBounds_ne hq] using hn2), if_pos (by simp [hil])]
      rw [e1]
      exact below_both hb hr hr.lt
    · rw [if_neg hiq] at hst
      by_cases hiq2 : i = q2
      · subst hiq2
        rw [if_pos rfl] at hst
        obtain ⟨hod, hw⟩ := hst
        have hl1 : listed.getD q1 false = true := by
          obtain ⟨f, hf⟩ := hops
          rw [hf] at hpq
          obtain ⟨o2, ho2, e, he1, he2, he3⟩ := path_on hpq
          rw [ho] at ho2
          cases ho2
          have hle := h2 e he1 he2
          rcases he3 with he3 | he3
          · rw [← he3]; exact hle
          · exact path_listed hcl f e.on q1 hle he3
        have e0 : twoW w0 q1 g1 c1 i g2 c2 listed = w0.setRow g1 c1 := by unfold twoW; rw [hli, if_neg (by simp), if_pos hl1]
        rw [e0] at hb
        have hr2' : Row (w0.setRow g1 c1) g2 n2 := (row_setRow_far hg).2 hr2
        have hb' : Below (w0.setRow g1 c1).heap.size (w0.setRow g1 c1) w := by rw [size_setRow]; exact hb
        have hrw : Row w g2 n2 := row_below hr2' hb' hr2'.lt
        refine wpOp_step ho fun K hK => hw a w K hb' hu hcame hrw fun v => ?_
        rw [← hod]
        refine hK _ _ ⟨hcl', ?_, hun _, hsz' _, hdf' _, by rw [hod]; exact hkeep v hod _⟩
        have e1 : twoW w0 q1 g1 c1 i g2 c2 (listed.setIfInBounds i true) = (w0.setRow g1 c1).setRow g2 c2 := by
          unfold twoW
          rw [if_pos (by simp [hil])]
        rw [e1]
        exact below_both hb hr2' hr2.lt
      · rw [if_neg hiq2] at hst
        have e1 : twoW w0 q1 g1 c1 q2 g2 c2 (listed.setIfInBounds i true) = twoW w0 q1 g1 c1 q2 g2 c2 listed := by
          unfold twoW
          simp only [Array.getD_eq_getD_getElem?, Array.getElem?_setIfInBounds_ne hiq, Array.getElem?_setIfInBounds_ne hiq2]
        have hstW : StepOk P ops Q (relV V) a0 (twoW w0 q1 g1 c1 q2 g2 c2 listed) i o := by
          by_cases hp : pathB ops ops.size q1 i = true
          · rw [if_pos hp] at hst
            have hq0 : ¬ listed.getD q1 false = true := fun hq => by
              have := path_listed hcl ops.size q1 i hq hp
              rw [hli] at this
              cases this
            have e0 : twoW w0 q1 g1 c1 q2 g2 c2 listed = w0 := by unfold twoW; rw [if_neg (fun h => hq0 (h21 h)), if_neg hq0]
            rw [e0]
            exact hst
          · rw [if_neg hp] at hst
            by_cases hp2 : pathB ops ops.size q2 i = true
            · rw [if_pos hp2] at hst
              have hq0 : ¬ listed.getD q2 false = true := fun hq => by
                have := path_listed hcl ops.size q2 i hq hp2
                rw [hli] at this
                cases this
              unfold twoW
              rw [if_neg hq0]
              split
              · exact hst.2
              · exact hst.1
            · rw [if_neg hp2] at hst
              exact hst _
        refine wpOp_step ho fun K hK => hstW a w K hb0 hu hcame fun v w' hv hb' => hK _ _ ⟨hcl', ?_, hun _, hsz' _, hdf' _, hval v w' hv⟩
        rw [e1]
        refine below_step hb' hb ?_
        rw [hsz0]; exact Nat.le_refl _
  · rintro listed a w ⟨-, hb, hu, hsz, hdf, hR⟩ hall
    rw [show twoW w0 q1 g1 c1 q2 g2 c2 listed = (w0.setRow g1 c1).setRow g2 c2 by unfold twoW; rw [if_pos (hall q2 hq2)]] at hb
    exact hend a w hb hu hsz hdf fun j d hj hjd => hR j d (hall j hj) hjd
  · unfold left
    rw [Array.toList_replicate]
    exact Nat.le_trans (List.length_filter_le _ _) (by simp)
  · have h0 : ∀ j, (Array.replicate ops.size false).getD j false = false := fun j => by
      rw [Array.getD_eq_getD_getElem?, Array.getElem?_replicate]
      split <;> simp
    refine ⟨fun k o hk => absurd hk (by rw [h0]; simp), ?_, fun _ _ => rfl, rfl, rfl, fun j d hj => absurd hj (by rw [h0]; simp)⟩
    rw [show twoW w0 q1 g1 c1 q2 g2 c2 (Array.replicate ops.size false) = w0 by unfold twoW; rw [h0, h0, if_neg (by simp), if_neg (by simp)]]
    exact (Below.refl _ _).drew
section
variable {V : Nat → Option Value} {a0 : Act} {w0 : World} {q1 g1 n1 : Nat} {c1 : Array Value} {q2 g2 n2 : Nat} {c2 : Array Value} {i : Nat} {o : Oper}
theorem two_q1 (h : OneWrite P ops Q V a0 w0 g1 n1 c1 o) : TwoOk P ops Q V a0 w0 q1 g1 n1 c1 q2 g2 n2 c2 q1 o := by unfold TwoOk; rw [if_pos rfl]; exact h
theorem two_q2 (hq : ¬ q2 = q1) (h : OneWrite P ops Q V a0 (w0.setRow g1 c1) g2 n2 c2 o) : TwoOk P ops Q V a0 w0 q1 g1 n1 c1 q2 g2 n2 c2 q2 o := by unfold TwoOk; rw [if_neg hq, if_pos rfl]; exact h
theorem two_before (h1 : ¬ i = q1) (h2 : ¬ i = q2) (hp : pathB ops ops.size q1 i = true) (h : StepOk P ops Q (relV V) a0 w0 i o) : TwoOk P ops Q V a0 w0 q1 g1 n1 c1 q2 g2 n2 c2 i o := by unfold TwoOk; rw [if_neg h1, if_neg h2, if_pos hp]; exact h
theorem two_mid (h1 : ¬ i = q1) (h2 : ¬ i = q2) (hp : pathB ops ops.size q1 i = false) (hp2 : pathB ops ops.size q2 i = true) (h : StepOk P ops Q (relV V) a0 w0 i o) (h' : StepOk P ops Q (relV V) a0 (w0.setRow g1 c1) i o) : TwoOk P ops Q V a0 w0 q1 g1 n1 c1 q2 g2 n2 c2 i o := by
  unfold TwoOk
  rw [if_neg h1, if_neg h2, if_neg (by rw [hp]; simp), if_pos hp2]
  exact ⟨h, h'⟩
theorem two_free (h1 : ¬ i = q1) (h2 : ¬ i = q2) (h : ∀ w1 : World, StepOk P ops Q (relV V) a0 w1 i o) : TwoOk P ops Q V a0 w0 q1 g1 n1 c1 q2 g2 n2 c2 i o := by
  unfold TwoOk
  rw [if_neg h1, if_neg h2]
  split
  · exact h w0
  · split
    · exact ⟨h _, h _⟩
    · exact h
end
end
end Go.Proofs.Ytodcjeaannfbnaa
namespace Go.Proofs.Ytodcjeaannfbnaa
open Go.ChangeShapes Go.WideShapes Go.ChangeAt Go.RowKit
set_option maxHeartbeats 2000000
set_option maxRecDepth 100000
theorem load_pr {w : World} {dst : Option Tmp} {x : Operand} {tt : TypeId} {pos : String} {af : Array Edge} {gd : Option (Nat × Bool)} {a : Act} {K : Act → World → Prop} {Q : Exit → Act → World → Prop}
    (hv : IsHead (a.eval x)) (h : Row w (blkOf (a.eval x)) 8) : Oper.wp Try.prog ⟨dst, .load 130 x, tt, pos, af, gd⟩ a w K Q ↔ K (a.put dst (.agg (rowAt w (blkOf (a.eval x))))) w :=
  wp_load_whole Try.underlying130 rfl (by kernel_rfl) hv h
theorem store_pr {w : World} {dst : Option Tmp} {x y : Operand} {tt : TypeId} {pos : String} {af : Array Edge} {gd : Option (Nat × Bool)} {a : Act} {K : Act → World → Prop} {Q : Exit → Act → World → Prop}
    (hv : IsHead (a.eval x)) (h : Row w (blkOf (a.eval x)) 8) (hx : IsAgg (a.eval y) 8) : Oper.wp Try.prog ⟨dst, .store 130 x y, tt, pos, af, gd⟩ a w K Q ↔ K (a.put dst undef) (w.setRow (blkOf (a.eval x)) (cellsV (a.eval y))) :=
  wp_store_whole (by kernel_rfl) hv h hx
theorem execl_pr {w : World} {dst : Option Tmp} {x : Operand} {tt : TypeId} {pos : String} {af : Array Edge} {gd : Option (Nat × Bool)} {ρ : Operand → Value}
    (hv : IsHead (ρ x)) (h : Row w (blkOf (ρ x)) 8) : (execOp ρ ⟨dst, .load 130 x, tt, pos, af, gd⟩).run Try.prog w = .ok (.value (.agg (rowAt w (blkOf (ρ x))))) w :=
  exec_load_whole Try.underlying130 rfl (by kernel_rfl) hv h
theorem execs_pr {w : World} {dst : Option Tmp} {x y : Operand} {tt : TypeId} {pos : String} {af : Array Edge} {gd : Option (Nat × Bool)} {ρ : Operand → Value}
    (hv : IsHead (ρ x)) (h : Row w (blkOf (ρ x)) 8) (hx : IsAgg (ρ y) 8) : (execOp ρ ⟨dst, .store 130 x y, tt, pos, af, gd⟩).run Try.prog w = .ok .skip (w.setRow (blkOf (ρ x)) (cellsV (ρ y))) :=
  exec_store_whole (by kernel_rfl) hv h hx

attribute [local go_sem ↓] load_fld load_num store_num execl_num execs_num load_pr store_pr execl_pr execs_pr load_pt store_pt
attribute [local go_sem] isHead_mk blkOf_mk isAgg_mk cellsV_mk row_drew rowAt_drew row_new_cells row_old rowAt_new rowAt_old setRow_new zeroNum zeroPt
theorem ladder_square (a : Nat) (w : World) (ha : a < 2 ^ 256) : Calls Try.prog 153 #[numV a] w fun e w' => e = .returned (numV (a * a % fP)) ∧ Below w.heap.size w w' := by
  have hM := Lib.hid (fun V => field_Mul a a V ha ha)
  obtain ⟨r, hr⟩ : ∃ r, a * a % fP = r := ⟨_, rfl⟩
  rw [hr] at hM ⊢
  clear hr ha
  unfold numV at hM ⊢
  have hcr := arrK_cells .u64 4 (wd r)
  have hcz := arrK_cells .u64 4 (wd 0)
  have hL0 : Below w.heap.size w ((w.alloc (Obj.cells (arrK .u64 4 (wd a)) 24)).alloc (Obj.cells (arrK .u64 4 (wd 0)) 24)) := by go_grown
  have hA0 : At ((w.alloc (Obj.cells (arrK .u64 4 (wd a)) 24)).alloc (Obj.cells (arrK .u64 4 (wd 0)) 24)) w.heap.size .u64 4 (wd a) := (At.new _ rfl).old _
  have hR0 : Row ((w.alloc (Obj.cells (arrK .u64 4 (wd a)) 24)).alloc (Obj.cells (arrK .u64 4 (wd 0)) 24)) (w.heap.size + 1) 4 := (At.new (k := .u64) (f := wd 0) _ (by simp)).row
  have hL := Lib.hid hL0
  have hA := Lib.hid hA0
  have hR := Lib.hid hR0
  clear hL0 hA0 hR0
  go_enter Try.func153, Try.ntmps153
  go_upto_region 1 with (fail)
  generalize (w.alloc _).alloc _ = W0 at *
  have hr1 := hA.out.row
  have hr2 := hA.out.eq
  go_wp2_with fail
  refine (hM.out _).mono ?_
  rintro e w2 ⟨rfl, hb⟩
  have hR2 := row_below hR.out hb hR.out.lt
  have hL2 := Lib.hid (below_step hb hL.out (Nat.le_refl _))
  clear hr1 hr2 hA hR hL hb
  dsimp only
  go_wp2_with fail
  exact ret_stored (p := 2) (ty := 24) (g := w.heap.size + 1) (n := 4) (c := arrK .u64 4 (wd r)) rfl Try.underlying24 rfl (by kernel_rfl) rfl hR2 hcr.1 rfl ⟨rfl, below_setRow hL2.out (by omega)⟩
theorem build_pr (f0 f1 : Nat → Nat) (w : World) : (Instr.build 130 #[(0, .agg (arrK .u64 4 f0)), (1, .agg (arrK .u64 4 f1))]).run Try.prog w = .ok (.agg (arrK .u64 8 (cat2 f0 f1))) w := run_build w _ _ _ (by kernel_rfl)
theorem build_a24 (w : World) : (Instr.build 24 #[(0, Value.int IntKind.u64 (121665 : Int))]).run Try.prog w = .ok (.agg (arrK .u64 4 (wd 121665))) w := (run_build w _ _ _ (by kernel_rfl)).trans (by rw [← num1 (show 121665 < 18446744073709551616 by omega)])
theorem pair_twice (x z vs0 vs vt0 vt ve r1 vm va r2 : Nat) (w : World) (hx : x < 2 ^ 256) (hz : z < 2 ^ 256) (hvs0 : (x + z) % fP = vs0) (hvs : vs0 * vs0 % fP = vs) (hvt0 : difP x z = vt0) (hvt : vt0 * vt0 % fP = vt) (hve : difP vs vt = ve) (hr1 : vs * vt % fP = r1) (hvm : 121665 * ve % fP = vm) (hva : (vs + vm) % fP = va) (hr2 : ve * va % fP = r2) : Calls Try.prog 109 #[ptV x z] w fun e w' => e = .returned (ptV r1 r2) ∧ Below w.heap.size w w' := by
  have hk24 : 121665 < 2 ^ 256 := by decide +kernel
  have lvs0 : vs0 < 2 ^ 256 := hvs0 ▸ low_lt
  have lvs : vs < 2 ^ 256 := hvs ▸ low_lt
  have lvt0 : vt0 < 2 ^ 256 := hvt0 ▸ dif_low
  have lvt : vt < 2 ^ 256 := hvt ▸ low_lt
  have lve : ve < 2 ^ 256 := hve ▸ dif_low
  have lr1 : r1 < 2 ^ 256 := hr1 ▸ low_lt
  have lvm : vm < 2 ^ 256 := hvm ▸ low_lt
  have lva : va < 2 ^ 256 := hva ▸ low_lt
  have lr2 : r2 < 2 ^ 256 := hr2 ▸ low_lt
  have kvs0 := Lib.hid (fun V => field_Add x z V hx hz)
  rw [hvs0] at kvs0
  have kvs := Lib.hid (fun V => ladder_square vs0 V lvs0)
  rw [hvs] at kvs
  have kvt0 := Lib.hid (fun V => field_Sub x z V hx hz)
  rw [hvt0] at kvt0
  have kvt := Lib.hid (fun V => ladder_square vt0 V lvt0)
  rw [hvt] at kvt
  have kve := Lib.hid (fun V => field_Sub vs vt V lvs lvt)
  rw [hve] at kve
  have kr1 := Lib.hid (fun V => field_Mul vs vt V lvs lvt)
  rw [hr1] at kr1
  have kvm := Lib.hid (fun V => field_Mul 121665 ve V hk24 lve)
  rw [hvm] at kvm
  have kva := Lib.hid (fun V => field_Add vs vm V lvs lvm)
  rw [hva] at kva
  have kr2 := Lib.hid (fun V => field_Mul ve va V lve lva)
  rw [hr2] at kr2
  clear hk24 hx hz hvs0 lvs0 hvs lvs hvt0 lvt0 hvt lvt hve lve hr1 lr1 hvm lvm hva lva hr2 lr2
  unfold numV at kvs0 kvs kvt0 kvt kve kr1 kvm kva kr2
  unfold ptV
  have hcr := arrK_cells .u64 8 (cat2 (wd r1) (wd r2))
  have hcz := arrK_cells .u64 8 (cat2 (wd 0) (wd 0))
  have hc0 := arrK_cells .u64 4 (wd 0)
  have hcvs := arrK_cells .u64 4 (wd vs)
  have hcvt := arrK_cells .u64 4 (wd vt)
  have hcve := arrK_cells .u64 4 (wd ve)
  have hL0 : Below w.heap.size w ((w.alloc (Obj.cells (arrK .u64 8 (cat2 (wd x) (wd z))) 130)).alloc (Obj.cells (arrK .u64 8 (cat2 (wd 0) (wd 0))) 130)) := by go_grown
  have hA0 : At ((w.alloc (Obj.cells (arrK .u64 8 (cat2 (wd x) (wd z))) 130)).alloc (Obj.cells (arrK .u64 8 (cat2 (wd 0) (wd 0))) 130)) w.heap.size .u64 8 (cat2 (wd x) (wd z)) := (At.new _ rfl).old _
  have hR0 : Row ((w.alloc (Obj.cells (arrK .u64 8 (cat2 (wd x) (wd z))) 130)).alloc (Obj.cells (arrK .u64 8 (cat2 (wd 0) (wd 0))) 130)) (w.heap.size + 1) 8 := (At.new (k := .u64) (f := cat2 (wd 0) (wd 0)) _ (by simp)).row
  have hL := Lib.hid hL0
  have hA := Lib.hid hA0
  have hR := Lib.hid hR0
  clear hL0 hA0 hR0
  go_enter Try.func109, Try.ntmps109
  go_upto_region 1 with (fail)
  generalize (w.alloc _).alloc _ = W0 at *
  generalize ha0 : Act.mk _ _ = a0
  have e1 : a0.tmps[1]?.getD undef = .pointer (some ⟨w.heap.size, 0, none⟩) := by rw [← ha0]; rfl
  have hz0 : a0.tmps.size = 32 := by rw [← ha0]; rfl
  have hha0 := Lib.hid ha0
  clear ha0
  refine wp_region_fresh ⟨fun jx_ => match jx_ with | 0 => some (.pointer (some ⟨w.heap.size, 0, none⟩)) | 1 => some (.agg (arrK .u64 4 (wd x))) | 2 => some (.pointer (some ⟨w.heap.size, 4, none⟩)) | 3 => some (.agg (arrK .u64 4 (wd z))) | 4 => some (.agg (arrK .u64 4 (wd vs0))) | 5 => some (.agg (arrK .u64 4 (wd vs))) | 6 => some (.pointer (some ⟨w.heap.size, 0, none⟩)) | 7 => some (.agg (arrK .u64 4 (wd x))) | 8 => some (.pointer (some ⟨w.heap.size, 4, none⟩)) | 9 => some (.agg (arrK .u64 4 (wd z))) | 10 => some (.agg (arrK .u64 4 (wd vt0))) | 11 => some (.agg (arrK .u64 4 (wd vt))) | _ => none, fun jx_ => match jx_ with | 12 => some 4 | 13 => some 4 | _ => none, fun jx_ => match jx_ with | 14 => some 12 | 15 => some 13 | _ => none, fun jx_ => match jx_ with | 14 => arrK .u64 4 (wd vs) | 15 => arrK .u64 4 (wd vt) | _ => #[]⟩ (by kernel_rfl) (by kernel_rfl) (by kernel_rfl) (slotsOk_of hz0 (by kernel_rfl)) rfl ⟨?_, ?_, ?_, ?_, ?_, ?_, ?_, ?_, ?_, ?_, ?_, ?_, ?_, ?_, ?_, ?_, trivial⟩ ?_
  · refine fstep_val rfl rfl (calm_step rfl fun aa ω κ hb hu hc hK => ?_)
    have h1 : aa.tmps[1]?.getD undef = .pointer (some ⟨w.heap.size, 0, none⟩) := (hu 1 rfl).trans e1
    have hk := Lib.hid (fun w1 (h : Below ω.heap.size ω w1) => hK (.pointer (some ⟨w.heap.size, 0, none⟩)) w1 rfl h)
    clear hK hu hc
    go_simp
    exact hk.out _ (Below.refl _ _)
  · refine fstep_val rfl rfl (calm_step rfl fun aa ω κ hb hu hc hK => ?_)
    have h6 : aa.tmps[6]?.getD undef = .pointer (some ⟨w.heap.size, 0, none⟩) := hc 0 6 rfl rfl
    have hk := Lib.hid (fun w1 (h : Below ω.heap.size ω w1) => hK (.agg (arrK .u64 4 (wd x))) w1 rfl h)
    clear hK hu hc
    have hl := pt_0 (hA.out.step hb)
    have hl1 := hl.1
    have hl2 := hl.2
    go_simp
    exact hk.out _ (Below.refl _ _)
  · refine fstep_val rfl rfl (calm_step rfl fun aa ω κ hb hu hc hK => ?_)
    have h1 : aa.tmps[1]?.getD undef = .pointer (some ⟨w.heap.size, 0, none⟩) := (hu 1 rfl).trans e1
    have hk := Lib.hid (fun w1 (h : Below ω.heap.size ω w1) => hK (.pointer (some ⟨w.heap.size, 4, none⟩)) w1 rfl h)
    clear hK hu hc
    go_simp
    exact hk.out _ (Below.refl _ _)
  · refine fstep_val rfl rfl (calm_step rfl fun aa ω κ hb hu hc hK => ?_)
    have h8 : aa.tmps[8]?.getD undef = .pointer (some ⟨w.heap.size, 4, none⟩) := hc 2 8 rfl rfl
    have hk := Lib.hid (fun w1 (h : Below ω.heap.size ω w1) => hK (.agg (arrK .u64 4 (wd z))) w1 rfl h)
    clear hK hu hc
    have hl := pt_1 (hA.out.step hb)
    have hl1 := hl.1
    have hl2 := hl.2
    go_simp
    exact hk.out _ (Below.refl _ _)
  · refine fstep_val rfl rfl (calm_step rfl fun aa ω κ hb hu hc hK => ?_)
    have h7 : aa.tmps[7]?.getD undef = .agg (arrK .u64 4 (wd x)) := hc 1 7 rfl rfl
    have h9 : aa.tmps[9]?.getD undef = .agg (arrK .u64 4 (wd z)) := hc 3 9 rfl rfl
    have hk := Lib.hid (fun w1 (h : Below ω.heap.size ω w1) => hK (.agg (arrK .u64 4 (wd vs0))) w1 rfl h)
    clear hK hu hc
    go_simp
    go_at_call 20
    refine (kvs0.out _).mono ?_
    rintro e w1 ⟨rfl, hb1⟩
    exact hk.out _ hb1
  · refine fstep_val rfl rfl (calm_step rfl fun aa ω κ hb hu hc hK => ?_)
    have h10 : aa.tmps[10]?.getD undef = .agg (arrK .u64 4 (wd vs0)) := hc 4 10 rfl rfl
    have hk := Lib.hid (fun w1 (h : Below ω.heap.size ω w1) => hK (.agg (arrK .u64 4 (wd vs))) w1 rfl h)
    clear hK hu hc
    go_simp
    go_at_call 153
    refine (kvs.out _).mono ?_
    rintro e w1 ⟨rfl, hb1⟩
    exact hk.out _ hb1
  · refine fstep_val rfl rfl (calm_step rfl fun aa ω κ hb hu hc hK => ?_)
    have h1 : aa.tmps[1]?.getD undef = .pointer (some ⟨w.heap.size, 0, none⟩) := (hu 1 rfl).trans e1
    have hk := Lib.hid (fun w1 (h : Below ω.heap.size ω w1) => hK (.pointer (some ⟨w.heap.size, 0, none⟩)) w1 rfl h)
    clear hK hu hc
    go_simp
    exact hk.out _ (Below.refl _ _)
  · refine fstep_val rfl rfl (calm_step rfl fun aa ω κ hb hu hc hK => ?_)
    have h12 : aa.tmps[12]?.getD undef = .pointer (some ⟨w.heap.size, 0, none⟩) := hc 6 12 rfl rfl
    have hk := Lib.hid (fun w1 (h : Below ω.heap.size ω w1) => hK (.agg (arrK .u64 4 (wd x))) w1 rfl h)
    clear hK hu hc
    have hl := pt_0 (hA.out.step hb)
    have hl1 := hl.1
    have hl2 := hl.2
    go_simp
    exact hk.out _ (Below.refl _ _)
  · refine fstep_val rfl rfl (calm_step rfl fun aa ω κ hb hu hc hK => ?_)
    have h1 : aa.tmps[1]?.getD undef = .pointer (some ⟨w.heap.size, 0, none⟩) := (hu 1 rfl).trans e1
    have hk := Lib.hid (fun w1 (h : Below ω.heap.size ω w1) => hK (.pointer (some ⟨w.heap.size, 4, none⟩)) w1 rfl h)
    clear hK hu hc
    go_simp
    exact hk.out _ (Below.refl _ _)
  · refine fstep_val rfl rfl (calm_step rfl fun aa ω κ hb hu hc hK => ?_)
    have h14 : aa.tmps[14]?.getD undef = .pointer (some ⟨w.heap.size, 4, none⟩) := hc 8 14 rfl rfl
    have hk := Lib.hid (fun w1 (h : Below ω.heap.size ω w1) => hK (.agg (arrK .u64 4 (wd z))) w1 rfl h)
    clear hK hu hc
    have hl := pt_1 (hA.out.step hb)
    have hl1 := hl.1
    have hl2 := hl.2
    go_simp
    exact hk.out _ (Below.refl _ _)
  · refine fstep_val rfl rfl (calm_step rfl fun aa ω κ hb hu hc hK => ?_)
    have h13 : aa.tmps[13]?.getD undef = .agg (arrK .u64 4 (wd x)) := hc 7 13 rfl rfl
    have h15 : aa.tmps[15]?.getD undef = .agg (arrK .u64 4 (wd z)) := hc 9 15 rfl rfl
    have hk := Lib.hid (fun w1 (h : Below ω.heap.size ω w1) => hK (.agg (arrK .u64 4 (wd vt0))) w1 rfl h)
    clear hK hu hc
    go_simp
    go_at_call 22
    refine (kvt0.out _).mono ?_
    rintro e w1 ⟨rfl, hb1⟩
    exact hk.out _ hb1
  · refine fstep_val rfl rfl (calm_step rfl fun aa ω κ hb hu hc hK => ?_)
    have h16 : aa.tmps[16]?.getD undef = .agg (arrK .u64 4 (wd vt0)) := hc 10 16 rfl rfl
    have hk := Lib.hid (fun w1 (h : Below ω.heap.size ω w1) => hK (.agg (arrK .u64 4 (wd vt))) w1 rfl h)
    clear hK hu hc
    go_simp
    go_at_call 153
    refine (kvt.out _).mono ?_
    rintro e w1 ⟨rfl, hb1⟩
    exact hk.out _ hb1
  · refine fstep_al (n := 4) rfl rfl fun aa ω κ hK => ?_
    have hk := Lib.hid hK
    clear hK
    go_simp
    exact hk.out _ _ hc0
  · refine fstep_al (n := 4) rfl rfl fun aa ω κ hK => ?_
    have hk := Lib.hid hK
    clear hK
    go_simp
    exact hk.out _ _ hc0
  · refine fstep_st (j := 12) (n := 4) (d := 3) rfl rfl rfl rfl rfl hcvs.1 rfl rfl fun aa ω κ g hb hu hc hp hr hK => ?_
    have h11 : aa.tmps[11]?.getD undef = .agg (arrK .u64 4 (wd vs)) := hc 5 11 rfl rfl
    have hk := Lib.hid hK
    clear hK hu hc
    have hcc := hcvs
    go_simp
    exact hk.out undef
  · refine fstep_st (j := 13) (n := 4) (d := 4) rfl rfl rfl rfl rfl hcvt.1 rfl rfl fun aa ω κ g hb hu hc hp hr hK => ?_
    have h17 : aa.tmps[17]?.getD undef = .agg (arrK .u64 4 (wd vt)) := hc 11 17 rfl rfl
    have hk := Lib.hid hK
    clear hK hu hc
    have hcc := hcvt
    go_simp
    exact hk.out undef
  · intro a1 w1 G I
    have ha0 := hha0.out
    subst ha0
    have he := act_patch (n := 32) [false, false, false, true, true, false, true, true, true, true, true, true, true, true, true, true, true, true, false, false, false, false, false, false, false, false, false, false, false, false, false, false] rfl (by kernel_rfl) I.un I.sz I.df
    simp only [patch, cond_true, cond_false, Nat.reduceAdd] at he
    have hal3 := I.al 12 3 4 rfl rfl rfl
    have hal4 := I.al 13 4 4 rfl rfl rfl
    replace hA := Lib.hid (hA.out.step I.bel)
    replace hR := Lib.hid (row_below hR.out I.bel hR.out.lt)
    replace hL := Lib.hid (below_step I.bel hL.out (Nat.le_refl _))
    have hX3 := Lib.hid (show At w1 (G 12) .u64 4 (wd vs) from ⟨(I.blk 12 4 rfl rfl).2, (I.row 14 12 rfl rfl).2.2⟩)
    have hX4 := Lib.hid (show At w1 (G 13) .u64 4 (wd vt) from ⟨(I.blk 13 4 rfl rfl).2, (I.row 15 13 rfl rfl).2.2⟩)
    clear kvs0 kvs kvt0 kvt
    clear I hz0 hha0 e1
    rw [he]
    clear he
    rw [hal3]
    rw [hal4]
    clear hal3 hal4
    generalize a1.tmps[6]?.getD undef = x6 at *
    generalize a1.tmps[7]?.getD undef = x7 at *
    generalize a1.tmps[8]?.getD undef = x8 at *
    generalize a1.tmps[9]?.getD undef = x9 at *
    generalize a1.tmps[10]?.getD undef = x10 at *
    generalize a1.tmps[11]?.getD undef = x11 at *
    generalize a1.tmps[12]?.getD undef = x12 at *
    generalize a1.tmps[13]?.getD undef = x13 at *
    generalize a1.tmps[14]?.getD undef = x14 at *
    generalize a1.tmps[15]?.getD undef = x15 at *
    generalize a1.tmps[16]?.getD undef = x16 at *
    generalize a1.tmps[17]?.getD undef = x17 at *
    obtain ⟨g3, hgz⟩ : ∃ g, G 12 = g := ⟨_, rfl⟩
    rw [hgz] at hX3 ⊢
    clear hgz
    obtain ⟨g4, hgz⟩ : ∃ g, G 13 = g := ⟨_, rfl⟩
    rw [hgz] at hX4 ⊢
    clear hgz
    generalize w1 = W1 at *
    go_upto_region 2 with (fail)
    have hr1 := hX3.out.row
    have hr2 := hX3.out.eq
    have hr3 := hX4.out.row
    have hr4 := hX4.out.eq
    go_upto_region 3 with (fail)
    refine (kve.out _).mono ?_
    rintro e w2 ⟨rfl, hb⟩
    replace hR := Lib.hid (row_below hR.out hb hR.out.lt)
    replace hL := Lib.hid (below_step hb hL.out (Nat.le_refl _))
    replace hX3 := Lib.hid (hX3.out.step hb)
    replace hX4 := Lib.hid (hX4.out.step hb)
    clear hr1 hr2 hr3 hr4 hb hA kve
    have hlt := hR.out.lt
    replace hR := Lib.hid ((row_old (o := (Obj.cells (arrK .u64 4 (wd ve)) 24)) hR.out.lt).2 hR.out)
    replace hL := Lib.hid (Below.trans hL.out ((below_alloc w2 (Obj.cells (arrK .u64 4 (wd ve)) 24)).mono hL.out.size))
    replace hX3 := Lib.hid (hX3.out.old (Obj.cells (arrK .u64 4 (wd ve)) 24))
    replace hX4 := Lib.hid (hX4.out.old (Obj.cells (arrK .u64 4 (wd ve)) 24))
    have hX5 := Lib.hid (At.new (w := w2) (k := .u64) (m := 4) (f := wd ve) 24 rfl)
    dsimp only
    go_upto_region 3 with (fail)
    obtain ⟨g5, hg⟩ : ∃ g, w2.heap.size = g := ⟨_, rfl⟩
    rw [hg] at hX5 hlt ⊢
    clear hg
    generalize w2.alloc _ = W2 at *
    generalize ha0 : Act.mk _ _ = a0
    have e2 : a0.tmps[2]?.getD undef = .pointer (some ⟨w.heap.size + 1, 0, none⟩) := by rw [← ha0]; rfl
    have e3 : a0.tmps[3]?.getD undef = .pointer (some ⟨g3, 0, none⟩) := by rw [← ha0]; rfl
    have e4 : a0.tmps[4]?.getD undef = .pointer (some ⟨g4, 0, none⟩) := by rw [← ha0]; rfl
    have e5 : a0.tmps[5]?.getD undef = .pointer (some ⟨g5, 0, none⟩) := by rw [← ha0]; rfl
    have hz0 : a0.tmps.size = 32 := by rw [← ha0]; rfl
    have hha0 := Lib.hid ha0
    clear ha0
    refine wp_region_one (fun jx_ => match jx_ with | 0 => some (.agg (arrK .u64 4 (wd vs))) | 1 => some (.agg (arrK .u64 4 (wd vt))) | 2 => some (.agg (arrK .u64 4 (wd r1))) | 3 => some (.agg (arrK .u64 4 (wd ve))) | 4 => some (.agg (arrK .u64 4 (wd vs))) | 5 => some (.agg (arrK .u64 4 (wd 121665))) | 6 => some (.agg (arrK .u64 4 (wd ve))) | 7 => some (.agg (arrK .u64 4 (wd vm))) | 8 => some (.agg (arrK .u64 4 (wd va))) | 9 => some (.agg (arrK .u64 4 (wd r2))) | 10 => some (.agg (arrK .u64 8 (cat2 (wd r1) (wd r2)))) | _ => none) 11 ((w.heap.size + 1)) 8 (arrK .u64 8 (cat2 (wd r1) (wd r2))) (by kernel_rfl) (by kernel_rfl) (by kernel_rfl) (slotsOk_of hz0 (by kernel_rfl)) (of_decide_eq_true (by kernel_rfl)) hR.out ⟨?_, ?_, ?_, ?_, ?_, ?_, ?_, ?_, ?_, ?_, ?_, ?_, trivial⟩ ?_
    · refine one_before (by decide) (by kernel_rfl) (calm_step rfl fun aa ω κ hb hu hc hK => ?_)
      have h3 : aa.tmps[3]?.getD undef = .pointer (some ⟨g3, 0, none⟩) := (hu 3 rfl).trans e3
      have hk := Lib.hid (fun w1 (h : Below ω.heap.size ω w1) => hK (.agg (arrK .u64 4 (wd vs))) w1 rfl h)
      clear hK hu hc
      have hr1 := (hX3.out.step hb).row
      have hr2 := (hX3.out.step hb).eq
      go_simp
      exact hk.out _ (Below.refl _ _)
    · refine one_before (by decide) (by kernel_rfl) (calm_step rfl fun aa ω κ hb hu hc hK => ?_)
      have h4 : aa.tmps[4]?.getD undef = .pointer (some ⟨g4, 0, none⟩) := (hu 4 rfl).trans e4
      have hk := Lib.hid (fun w1 (h : Below ω.heap.size ω w1) => hK (.agg (arrK .u64 4 (wd vt))) w1 rfl h)
      clear hK hu hc
      have hr1 := (hX4.out.step hb).row
      have hr2 := (hX4.out.step hb).eq
      go_simp
      exact hk.out _ (Below.refl _ _)
    · refine one_before (by decide) (by kernel_rfl) (calm_step rfl fun aa ω κ hb hu hc hK => ?_)
      have h21 : aa.tmps[21]?.getD undef = .agg (arrK .u64 4 (wd vs)) := hc 0 21 rfl rfl
      have h22 : aa.tmps[22]?.getD undef = .agg (arrK .u64 4 (wd vt)) := hc 1 22 rfl rfl
      have hk := Lib.hid (fun w1 (h : Below ω.heap.size ω w1) => hK (.agg (arrK .u64 4 (wd r1))) w1 rfl h)
      clear hK hu hc
      go_simp
      go_at_call 24
      refine (kr1.out _).mono ?_
      rintro e w1 ⟨rfl, hb1⟩
      exact hk.out _ hb1
    · refine one_before (by decide) (by kernel_rfl) (calm_step rfl fun aa ω κ hb hu hc hK => ?_)
      have h5 : aa.tmps[5]?.getD undef = .pointer (some ⟨g5, 0, none⟩) := (hu 5 rfl).trans e5
      have hk := Lib.hid (fun w1 (h : Below ω.heap.size ω w1) => hK (.agg (arrK .u64 4 (wd ve))) w1 rfl h)
      clear hK hu hc
      have hr1 := (hX5.out.step hb).row
      have hr2 := (hX5.out.step hb).eq
      go_simp
      exact hk.out _ (Below.refl _ _)
    · refine one_before (by decide) (by kernel_rfl) (calm_step rfl fun aa ω κ hb hu hc hK => ?_)
      have h3 : aa.tmps[3]?.getD undef = .pointer (some ⟨g3, 0, none⟩) := (hu 3 rfl).trans e3
      have hk := Lib.hid (fun w1 (h : Below ω.heap.size ω w1) => hK (.agg (arrK .u64 4 (wd vs))) w1 rfl h)
      clear hK hu hc
      have hr1 := (hX3.out.step hb).row
      have hr2 := (hX3.out.step hb).eq
      go_simp
      exact hk.out _ (Below.refl _ _)
    · refine one_before (by decide) (by kernel_rfl) (calm_step rfl fun aa ω κ hb hu hc hK => ?_)
      have hk := Lib.hid (fun w1 (h : Below ω.heap.size ω w1) => hK (.agg (arrK .u64 4 (wd 121665))) w1 rfl h)
      clear hK hu hc
      exact wp_bldA rfl (vx := Value.int IntKind.u64 (121665 : Int)) rfl (build_a24 _) (hk.out _ (Below.refl _ _))
    · refine one_before (by decide) (by kernel_rfl) (calm_step rfl fun aa ω κ hb hu hc hK => ?_)
      have h5 : aa.tmps[5]?.getD undef = .pointer (some ⟨g5, 0, none⟩) := (hu 5 rfl).trans e5
      have hk := Lib.hid (fun w1 (h : Below ω.heap.size ω w1) => hK (.agg (arrK .u64 4 (wd ve))) w1 rfl h)
      clear hK hu hc
      have hr1 := (hX5.out.step hb).row
      have hr2 := (hX5.out.step hb).eq
      go_simp
      exact hk.out _ (Below.refl _ _)
    · refine one_before (by decide) (by kernel_rfl) (calm_step rfl fun aa ω κ hb hu hc hK => ?_)
      have h26 : aa.tmps[26]?.getD undef = .agg (arrK .u64 4 (wd 121665)) := hc 5 26 rfl rfl
      have h27 : aa.tmps[27]?.getD undef = .agg (arrK .u64 4 (wd ve)) := hc 6 27 rfl rfl
      have hk := Lib.hid (fun w1 (h : Below ω.heap.size ω w1) => hK (.agg (arrK .u64 4 (wd vm))) w1 rfl h)
      clear hK hu hc
      go_simp
      go_at_call 24
      refine (kvm.out _).mono ?_
      rintro e w1 ⟨rfl, hb1⟩
      exact hk.out _ hb1
    · refine one_before (by decide) (by kernel_rfl) (calm_step rfl fun aa ω κ hb hu hc hK => ?_)
      have h25 : aa.tmps[25]?.getD undef = .agg (arrK .u64 4 (wd vs)) := hc 4 25 rfl rfl
      have h28 : aa.tmps[28]?.getD undef = .agg (arrK .u64 4 (wd vm)) := hc 7 28 rfl rfl
      have hk := Lib.hid (fun w1 (h : Below ω.heap.size ω w1) => hK (.agg (arrK .u64 4 (wd va))) w1 rfl h)
      clear hK hu hc
      go_simp
      go_at_call 20
      refine (kva.out _).mono ?_
      rintro e w1 ⟨rfl, hb1⟩
      exact hk.out _ hb1
    · refine one_before (by decide) (by kernel_rfl) (calm_step rfl fun aa ω κ hb hu hc hK => ?_)
      have h24 : aa.tmps[24]?.getD undef = .agg (arrK .u64 4 (wd ve)) := hc 3 24 rfl rfl
      have h29 : aa.tmps[29]?.getD undef = .agg (arrK .u64 4 (wd va)) := hc 8 29 rfl rfl
      have hk := Lib.hid (fun w1 (h : Below ω.heap.size ω w1) => hK (.agg (arrK .u64 4 (wd r2))) w1 rfl h)
      clear hK hu hc
      go_simp
      go_at_call 24
      refine (kr2.out _).mono ?_
      rintro e w1 ⟨rfl, hb1⟩
      exact hk.out _ hb1
    · refine one_before (by decide) (by kernel_rfl) (calm_step rfl fun aa ω κ hb hu hc hK => ?_)
      have h23 : aa.tmps[23]?.getD undef = .agg (arrK .u64 4 (wd r1)) := hc 2 23 rfl rfl
      have h30 : aa.tmps[30]?.getD undef = .agg (arrK .u64 4 (wd r2)) := hc 9 30 rfl rfl
      have hk := Lib.hid (fun w1 (h : Below ω.heap.size ω w1) => hK (.agg (arrK .u64 8 (cat2 (wd r1) (wd r2)))) w1 rfl h)
      clear hK hu hc
      exact wp_bldB (v0 := .agg (arrK .u64 4 (wd r1))) (v1 := .agg (arrK .u64 4 (wd r2))) rfl (by go_simp) (by go_simp) (build_pr _ _ _) (hk.out _ (Below.refl _ _))
    · refine one_q (one_write rfl rfl fun aa ω κ hb hu hc hr hK => ?_)
      have h2 : aa.tmps[2]?.getD undef = .pointer (some ⟨w.heap.size + 1, 0, none⟩) := (hu 2 rfl).trans e2
      have h31 : aa.tmps[31]?.getD undef = .agg (arrK .u64 8 (cat2 (wd r1) (wd r2))) := hc 10 31 rfl rfl
      have hk := Lib.hid hK
      clear hK hu hc
      have hcc := hcr
      go_simp
      exact hk.out undef
    · intro a1 w1 hb1 hu1 hsz1 hdf1 hv1
      have ha0 := hha0.out
      subst ha0
      have he := act_patch (n := 32) [false, false, false, false, false, false, false, false, false, false, false, false, false, false, false, false, false, false, false, false, false, true, true, true, true, true, true, true, true, true, true, true] rfl (by kernel_rfl) hu1 hsz1 hdf1
      simp only [patch, cond_true, cond_false, Nat.reduceAdd] at he
      have hXz := (At.put (k := .u64) (f := (cat2 (wd r1) (wd r2))) hR.out).below hb1 (by simpa using hR.out.lt)
      have hLz := Lib.hid (Below.trans (below_setRow (c := arrK .u64 8 (cat2 (wd r1) (wd r2))) hL.out (by omega)) (hb1.mono (by simpa using hL.out.size)))
      clear hR hL hX3 hX4 hX5 kr1 kvm kva kr2
      clear hb1 hu1 hsz1 hdf1 hv1 hz0 hha0 e2 e3 e4 e5
      rw [he]
      clear he
      generalize a1.tmps[21]?.getD undef = x21 at *
      generalize a1.tmps[22]?.getD undef = x22 at *
      generalize a1.tmps[23]?.getD undef = x23 at *
      generalize a1.tmps[24]?.getD undef = x24 at *
      generalize a1.tmps[25]?.getD undef = x25 at *
      generalize a1.tmps[26]?.getD undef = x26 at *
      generalize a1.tmps[27]?.getD undef = x27 at *
      generalize a1.tmps[28]?.getD undef = x28 at *
      generalize a1.tmps[29]?.getD undef = x29 at *
      generalize a1.tmps[30]?.getD undef = x30 at *
      generalize a1.tmps[31]?.getD undef = x31 at *
      go_wp2_with fail
      refine ret_row (p := 2) (ty := 130) (g := (w.heap.size + 1)) rfl Try.underlying130 rfl (by kernel_rfl) rfl hXz.row rfl ?_
      rw [hXz.eq]
      exact ⟨rfl, hLz.out⟩
theorem pair_joined (px pz qx qz u va1 va2 va vb1 vb2 vb vc r1 vd ve r2 : Nat) (w : World) (hpx : px < 2 ^ 256) (hpz : pz < 2 ^ 256) (hqx : qx < 2 ^ 256) (hqz : qz < 2 ^ 256) (hu : u < 2 ^ 256) (hva1 : (qx + qz) % fP = va1) (hva2 : difP px pz = va2) (hva : va1 * va2 % fP = va) (hvb1 : difP qx qz = vb1) (hvb2 : (px + pz) % fP = vb2) (hvb : vb1 * vb2 % fP = vb) (hvc : (va + vb) % fP = vc) (hr1 : vc * vc % fP = r1) (hvd : difP va vb = vd) (hve : vd * vd % fP = ve) (hr2 : u * ve % fP = r2) : Calls Try.prog 110 #[ptV px pz, ptV qx qz, numV u] w fun e w' => e = .returned (ptV r1 r2) ∧ Below w.heap.size w w' := by
  have lva1 : va1 < 2 ^ 256 := hva1 ▸ low_lt
  have lva2 : va2 < 2 ^ 256 := hva2 ▸ dif_low
  have lva : va < 2 ^ 256 := hva ▸ low_lt
  have lvb1 : vb1 < 2 ^ 256 := hvb1 ▸ dif_low
  have lvb2 : vb2 < 2 ^ 256 := hvb2 ▸ low_lt
  have lvb : vb < 2 ^ 256 := hvb ▸ low_lt
  have lvc : vc < 2 ^ 256 := hvc ▸ low_lt
  have lr1 : r1 < 2 ^ 256 := hr1 ▸ low_lt
  have lvd : vd < 2 ^ 256 := hvd ▸ dif_low
  have lve : ve < 2 ^ 256 := hve ▸ low_lt
  have lr2 : r2 < 2 ^ 256 := hr2 ▸ low_lt
  have kva1 := Lib.hid (fun V => field_Add qx qz V hqx hqz)
  rw [hva1] at kva1
  have kva2 := Lib.hid (fun V => field_Sub px pz V hpx hpz)
  rw [hva2] at kva2
  have kva := Lib.hid (fun V => field_Mul va1 va2 V lva1 lva2)
  rw [hva] at kva
  have kvb1 := Lib.hid (fun V => field_Sub qx qz V hqx hqz)
  rw [hvb1] at kvb1
  have kvb2 := Lib.hid (fun V => field_Add px pz V hpx hpz)
  rw [hvb2] at kvb2
  have kvb := Lib.hid (fun V => field_Mul vb1 vb2 V lvb1 lvb2)
  rw [hvb] at kvb
  have kvc := Lib.hid (fun V => field_Add va vb V lva lvb)
  rw [hvc] at kvc
  have kr1 := Lib.hid (fun V => ladder_square vc V lvc)
  rw [hr1] at kr1
  have kvd := Lib.hid (fun V => field_Sub va vb V lva lvb)
  rw [hvd] at kvd
  have kve := Lib.hid (fun V => ladder_square vd V lvd)
  rw [hve] at kve
  have kr2 := Lib.hid (fun V => field_Mul u ve V hu lve)
  rw [hr2] at kr2
  clear hpx hpz hqx hqz hu hva1 lva1 hva2 lva2 hva lva hvb1 lvb1 hvb2 lvb2 hvb lvb hvc lvc hr1 lr1 hvd lvd hve lve hr2 lr2
  unfold numV at kva1 kva2 kva kvb1 kvb2 kvb kvc kr1 kvd kve kr2
  unfold ptV numV
  have hcr := arrK_cells .u64 8 (cat2 (wd r1) (wd r2))
  have hcz := arrK_cells .u64 8 (cat2 (wd 0) (wd 0))
  have hc0 := arrK_cells .u64 4 (wd 0)
  have hcva := arrK_cells .u64 4 (wd va)
  have hcvb := arrK_cells .u64 4 (wd vb)
  have hL0 : Below w.heap.size w ((((w.alloc (Obj.cells (arrK .u64 8 (cat2 (wd px) (wd pz))) 130)).alloc (Obj.cells (arrK .u64 8 (cat2 (wd qx) (wd qz))) 130)).alloc (Obj.cells (arrK .u64 4 (wd u)) 24)).alloc (Obj.cells (arrK .u64 8 (cat2 (wd 0) (wd 0))) 130)) := by go_grown
  have hA0 : At ((((w.alloc (Obj.cells (arrK .u64 8 (cat2 (wd px) (wd pz))) 130)).alloc (Obj.cells (arrK .u64 8 (cat2 (wd qx) (wd qz))) 130)).alloc (Obj.cells (arrK .u64 4 (wd u)) 24)).alloc (Obj.cells (arrK .u64 8 (cat2 (wd 0) (wd 0))) 130)) w.heap.size .u64 8 (cat2 (wd px) (wd pz)) := ((((At.new _ rfl)).old _).old _).old _
  have hB0 : At ((((w.alloc (Obj.cells (arrK .u64 8 (cat2 (wd px) (wd pz))) 130)).alloc (Obj.cells (arrK .u64 8 (cat2 (wd qx) (wd qz))) 130)).alloc (Obj.cells (arrK .u64 4 (wd u)) 24)).alloc (Obj.cells (arrK .u64 8 (cat2 (wd 0) (wd 0))) 130)) (w.heap.size + 1) .u64 8 (cat2 (wd qx) (wd qz)) := (((At.new _ (by simp))).old _).old _
  have hU0 : At ((((w.alloc (Obj.cells (arrK .u64 8 (cat2 (wd px) (wd pz))) 130)).alloc (Obj.cells (arrK .u64 8 (cat2 (wd qx) (wd qz))) 130)).alloc (Obj.cells (arrK .u64 4 (wd u)) 24)).alloc (Obj.cells (arrK .u64 8 (cat2 (wd 0) (wd 0))) 130)) (w.heap.size + 1 + 1) .u64 4 (wd u) := ((At.new _ (by simp))).old _
  have hR0 : Row ((((w.alloc (Obj.cells (arrK .u64 8 (cat2 (wd px) (wd pz))) 130)).alloc (Obj.cells (arrK .u64 8 (cat2 (wd qx) (wd qz))) 130)).alloc (Obj.cells (arrK .u64 4 (wd u)) 24)).alloc (Obj.cells (arrK .u64 8 (cat2 (wd 0) (wd 0))) 130)) (w.heap.size + 1 + 1 + 1) 8 := (At.new (k := .u64) (f := cat2 (wd 0) (wd 0)) _ (by simp)).row
  have hL := Lib.hid hL0
  have hA := Lib.hid hA0
  have hB := Lib.hid hB0
  have hU := Lib.hid hU0
  have hR := Lib.hid hR0
  clear hL0 hA0 hB0 hU0 hR0
  go_enter Try.func110, Try.ntmps110
  go_upto_region 1 with (fail)
  generalize (((w.alloc _).alloc _).alloc _).alloc _ = W0 at *
  generalize ha0 : Act.mk _ _ = a0
  have e3 : a0.tmps[3]?.getD undef = .pointer (some ⟨w.heap.size, 0, none⟩) := by rw [← ha0]; rfl
  have e4 : a0.tmps[4]?.getD undef = .pointer (some ⟨w.heap.size + 1, 0, none⟩) := by rw [← ha0]; rfl
  have hz0 : a0.tmps.size = 42 := by rw [← ha0]; rfl
  have hha0 := Lib.hid ha0
  clear ha0
  refine wp_region_fresh ⟨fun jx_ => match jx_ with | 0 => some (.pointer (some ⟨w.heap.size + 1, 0, none⟩)) | 1 => some (.agg (arrK .u64 4 (wd qx))) | 2 => some (.pointer (some ⟨w.heap.size + 1, 4, none⟩)) | 3 => some (.agg (arrK .u64 4 (wd qz))) | 4 => some (.agg (arrK .u64 4 (wd va1))) | 5 => some (.pointer (some ⟨w.heap.size, 0, none⟩)) | 6 => some (.agg (arrK .u64 4 (wd px))) | 7 => some (.pointer (some ⟨w.heap.size, 4, none⟩)) | 8 => some (.agg (arrK .u64 4 (wd pz))) | 9 => some (.agg (arrK .u64 4 (wd va2))) | 10 => some (.agg (arrK .u64 4 (wd va))) | _ => none, fun jx_ => match jx_ with | 11 => some 4 | _ => none, fun jx_ => match jx_ with | 12 => some 11 | _ => none, fun jx_ => match jx_ with | 12 => arrK .u64 4 (wd va) | _ => #[]⟩ (by kernel_rfl) (by kernel_rfl) (by kernel_rfl) (slotsOk_of hz0 (by kernel_rfl)) rfl ⟨?_, ?_, ?_, ?_, ?_, ?_, ?_, ?_, ?_, ?_, ?_, ?_, ?_, trivial⟩ ?_
  · refine fstep_val rfl rfl (calm_step rfl fun aa ω κ hb hu hc hK => ?_)
    have h4 : aa.tmps[4]?.getD undef = .pointer (some ⟨w.heap.size + 1, 0, none⟩) := (hu 4 rfl).trans e4
    have hk := Lib.hid (fun w1 (h : Below ω.heap.size ω w1) => hK (.pointer (some ⟨w.heap.size + 1, 0, none⟩)) w1 rfl h)
    clear hK hu hc
    go_simp
    exact hk.out _ (Below.refl _ _)
  · refine fstep_val rfl rfl (calm_step rfl fun aa ω κ hb hu hc hK => ?_)
    have h9 : aa.tmps[9]?.getD undef = .pointer (some ⟨w.heap.size + 1, 0, none⟩) := hc 0 9 rfl rfl
    have hk := Lib.hid (fun w1 (h : Below ω.heap.size ω w1) => hK (.agg (arrK .u64 4 (wd qx))) w1 rfl h)
    clear hK hu hc
    have hl := pt_0 (hB.out.step hb)
    have hl1 := hl.1
    have hl2 := hl.2
    go_simp
    exact hk.out _ (Below.refl _ _)
  · refine fstep_val rfl rfl (calm_step rfl fun aa ω κ hb hu hc hK => ?_)
    have h4 : aa.tmps[4]?.getD undef = .pointer (some ⟨w.heap.size + 1, 0, none⟩) := (hu 4 rfl).trans e4
    have hk := Lib.hid (fun w1 (h : Below ω.heap.size ω w1) => hK (.pointer (some ⟨w.heap.size + 1, 4, none⟩)) w1 rfl h)
    clear hK hu hc
    go_simp
    exact hk.out _ (Below.refl _ _)
  · refine fstep_val rfl rfl (calm_step rfl fun aa ω κ hb hu hc hK => ?_)
    have h11 : aa.tmps[11]?.getD undef = .pointer (some ⟨w.heap.size + 1, 4, none⟩) := hc 2 11 rfl rfl
    have hk := Lib.hid (fun w1 (h : Below ω.heap.size ω w1) => hK (.agg (arrK .u64 4 (wd qz))) w1 rfl h)
    clear hK hu hc
    have hl := pt_1 (hB.out.step hb)
    have hl1 := hl.1
    have hl2 := hl.2
    go_simp
    exact hk.out _ (Below.refl _ _)
  · refine fstep_val rfl rfl (calm_step rfl fun aa ω κ hb hu hc hK => ?_)
    have h10 : aa.tmps[10]?.getD undef = .agg (arrK .u64 4 (wd qx)) := hc 1 10 rfl rfl
    have h12 : aa.tmps[12]?.getD undef = .agg (arrK .u64 4 (wd qz)) := hc 3 12 rfl rfl
    have hk := Lib.hid (fun w1 (h : Below ω.heap.size ω w1) => hK (.agg (arrK .u64 4 (wd va1))) w1 rfl h)
    clear hK hu hc
    go_simp
    go_at_call 20
    refine (kva1.out _).mono ?_
    rintro e w1 ⟨rfl, hb1⟩
    exact hk.out _ hb1
  · refine fstep_val rfl rfl (calm_step rfl fun aa ω κ hb hu hc hK => ?_)
    have h3 : aa.tmps[3]?.getD undef = .pointer (some ⟨w.heap.size, 0, none⟩) := (hu 3 rfl).trans e3
    have hk := Lib.hid (fun w1 (h : Below ω.heap.size ω w1) => hK (.pointer (some ⟨w.heap.size, 0, none⟩)) w1 rfl h)
    clear hK hu hc
    go_simp
    exact hk.out _ (Below.refl _ _)
  · refine fstep_val rfl rfl (calm_step rfl fun aa ω κ hb hu hc hK => ?_)
    have h14 : aa.tmps[14]?.getD undef = .pointer (some ⟨w.heap.size, 0, none⟩) := hc 5 14 rfl rfl
    have hk := Lib.hid (fun w1 (h : Below ω.heap.size ω w1) => hK (.agg (arrK .u64 4 (wd px))) w1 rfl h)
    clear hK hu hc
    have hl := pt_0 (hA.out.step hb)
    have hl1 := hl.1
    have hl2 := hl.2
    go_simp
    exact hk.out _ (Below.refl _ _)
  · refine fstep_val rfl rfl (calm_step rfl fun aa ω κ hb hu hc hK => ?_)
    have h3 : aa.tmps[3]?.getD undef = .pointer (some ⟨w.heap.size, 0, none⟩) := (hu 3 rfl).trans e3
    have hk := Lib.hid (fun w1 (h : Below ω.heap.size ω w1) => hK (.pointer (some ⟨w.heap.size, 4, none⟩)) w1 rfl h)
    clear hK hu hc
    go_simp
    exact hk.out _ (Below.refl _ _)
  · refine fstep_val rfl rfl (calm_step rfl fun aa ω κ hb hu hc hK => ?_)
    have h16 : aa.tmps[16]?.getD undef = .pointer (some ⟨w.heap.size, 4, none⟩) := hc 7 16 rfl rfl
    have hk := Lib.hid (fun w1 (h : Below ω.heap.size ω w1) => hK (.agg (arrK .u64 4 (wd pz))) w1 rfl h)
    clear hK hu hc
    have hl := pt_1 (hA.out.step hb)
    have hl1 := hl.1
    have hl2 := hl.2
    go_simp
    exact hk.out _ (Below.refl _ _)
  · refine fstep_val rfl rfl (calm_step rfl fun aa ω κ hb hu hc hK => ?_)
    have h15 : aa.tmps[15]?.getD undef = .agg (arrK .u64 4 (wd px)) := hc 6 15 rfl rfl
    have h17 : aa.tmps[17]?.getD undef = .agg (arrK .u64 4 (wd pz)) := hc 8 17 rfl rfl
    have hk := Lib.hid (fun w1 (h : Below ω.heap.size ω w1) => hK (.agg (arrK .u64 4 (wd va2))) w1 rfl h)
    clear hK hu hc
    go_simp
    go_at_call 22
    refine (kva2.out _).mono ?_
    rintro e w1 ⟨rfl, hb1⟩
    exact hk.out _ hb1
  · refine fstep_val rfl rfl (calm_step rfl fun aa ω κ hb hu hc hK => ?_)
    have h13 : aa.tmps[13]?.getD undef = .agg (arrK .u64 4 (wd va1)) := hc 4 13 rfl rfl
    have h18 : aa.tmps[18]?.getD undef = .agg (arrK .u64 4 (wd va2)) := hc 9 18 rfl rfl
    have hk := Lib.hid (fun w1 (h : Below ω.heap.size ω w1) => hK (.agg (arrK .u64 4 (wd va))) w1 rfl h)
    clear hK hu hc
    go_simp
    go_at_call 24
    refine (kva.out _).mono ?_
    rintro e w1 ⟨rfl, hb1⟩
    exact hk.out _ hb1
  · refine fstep_al (n := 4) rfl rfl fun aa ω κ hK => ?_
    have hk := Lib.hid hK
    clear hK
    go_simp
    exact hk.out _ _ hc0
  · refine fstep_st (j := 11) (n := 4) (d := 7) rfl rfl rfl rfl rfl hcva.1 rfl rfl fun aa ω κ g hb hu hc hp hr hK => ?_
    have h19 : aa.tmps[19]?.getD undef = .agg (arrK .u64 4 (wd va)) := hc 10 19 rfl rfl
    have hk := Lib.hid hK
    clear hK hu hc
    have hcc := hcva
    go_simp
    exact hk.out undef
  · intro a1 w1 G I
    have ha0 := hha0.out
    subst ha0
    have he := act_patch (n := 42) [false, false, false, false, false, false, false, true, false, true, true, true, true, true, true, true, true, true, true, true, false, false, false, false, false, false, false, false, false, false, false, false, false, false, false, false, false, false, false, false, false, false] rfl (by kernel_rfl) I.un I.sz I.df
    simp only [patch, cond_true, cond_false, Nat.reduceAdd] at he
    have hal7 := I.al 11 7 4 rfl rfl rfl
    replace hA := Lib.hid (hA.out.step I.bel)
    replace hB := Lib.hid (hB.out.step I.bel)
    replace hU := Lib.hid (hU.out.step I.bel)
    replace hR := Lib.hid (row_below hR.out I.bel hR.out.lt)
    replace hL := Lib.hid (below_step I.bel hL.out (Nat.le_refl _))
    have hX7 := Lib.hid (show At w1 (G 11) .u64 4 (wd va) from ⟨(I.blk 11 4 rfl rfl).2, (I.row 12 11 rfl rfl).2.2⟩)
    clear kva1 kva2 kva
    clear I hz0 hha0 e3 e4
    rw [he]
    clear he
    rw [hal7]
    clear hal7
    generalize a1.tmps[9]?.getD undef = x9 at *
    generalize a1.tmps[10]?.getD undef = x10 at *
    generalize a1.tmps[11]?.getD undef = x11 at *
    generalize a1.tmps[12]?.getD undef = x12 at *
    generalize a1.tmps[13]?.getD undef = x13 at *
    generalize a1.tmps[14]?.getD undef = x14 at *
    generalize a1.tmps[15]?.getD undef = x15 at *
    generalize a1.tmps[16]?.getD undef = x16 at *
    generalize a1.tmps[17]?.getD undef = x17 at *
    generalize a1.tmps[18]?.getD undef = x18 at *
    generalize a1.tmps[19]?.getD undef = x19 at *
    obtain ⟨g7, hgz⟩ : ∃ g, G 11 = g := ⟨_, rfl⟩
    rw [hgz] at hX7 ⊢
    clear hgz
    generalize w1 = W1 at *
    go_upto_region 2 with (fail)
    generalize ha0 : Act.mk _ _ = a0
    have e3 : a0.tmps[3]?.getD undef = .pointer (some ⟨w.heap.size, 0, none⟩) := by rw [← ha0]; rfl
    have e4 : a0.tmps[4]?.getD undef = .pointer (some ⟨w.heap.size + 1, 0, none⟩) := by rw [← ha0]; rfl
    have hz0 : a0.tmps.size = 42 := by rw [← ha0]; rfl
    have hha0 := Lib.hid ha0
    clear ha0
    refine wp_region_fresh ⟨fun jx_ => match jx_ with | 0 => some (.pointer (some ⟨w.heap.size + 1, 0, none⟩)) | 1 => some (.agg (arrK .u64 4 (wd qx))) | 2 => some (.pointer (some ⟨w.heap.size + 1, 4, none⟩)) | 3 => some (.agg (arrK .u64 4 (wd qz))) | 4 => some (.agg (arrK .u64 4 (wd vb1))) | 5 => some (.pointer (some ⟨w.heap.size, 0, none⟩)) | 6 => some (.agg (arrK .u64 4 (wd px))) | 7 => some (.pointer (some ⟨w.heap.size, 4, none⟩)) | 8 => some (.agg (arrK .u64 4 (wd pz))) | 9 => some (.agg (arrK .u64 4 (wd vb2))) | 10 => some (.agg (arrK .u64 4 (wd vb))) | _ => none, fun jx_ => match jx_ with | 11 => some 4 | _ => none, fun jx_ => match jx_ with | 12 => some 11 | _ => none, fun jx_ => match jx_ with | 12 => arrK .u64 4 (wd vb) | _ => #[]⟩ (by kernel_rfl) (by kernel_rfl) (by kernel_rfl) (slotsOk_of hz0 (by kernel_rfl)) rfl ⟨?_, ?_, ?_, ?_, ?_, ?_, ?_, ?_, ?_, ?_, ?_, ?_, ?_, trivial⟩ ?_
    · refine fstep_val rfl rfl (calm_step rfl fun aa ω κ hb hu hc hK => ?_)
      have h4 : aa.tmps[4]?.getD undef = .pointer (some ⟨w.heap.size + 1, 0, none⟩) := (hu 4 rfl).trans e4
      have hk := Lib.hid (fun w1 (h : Below ω.heap.size ω w1) => hK (.pointer (some ⟨w.heap.size + 1, 0, none⟩)) w1 rfl h)
      clear hK hu hc
      go_simp
      exact hk.out _ (Below.refl _ _)
    · refine fstep_val rfl rfl (calm_step rfl fun aa ω κ hb hu hc hK => ?_)
      have h20 : aa.tmps[20]?.getD undef = .pointer (some ⟨w.heap.size + 1, 0, none⟩) := hc 0 20 rfl rfl
      have hk := Lib.hid (fun w1 (h : Below ω.heap.size ω w1) => hK (.agg (arrK .u64 4 (wd qx))) w1 rfl h)
      clear hK hu hc
      have hl := pt_0 (hB.out.step hb)
      have hl1 := hl.1
      have hl2 := hl.2
      go_simp
      exact hk.out _ (Below.refl _ _)
    · refine fstep_val rfl rfl (calm_step rfl fun aa ω κ hb hu hc hK => ?_)
      have h4 : aa.tmps[4]?.getD undef = .pointer (some ⟨w.heap.size + 1, 0, none⟩) := (hu 4 rfl).trans e4
      have hk := Lib.hid (fun w1 (h : Below ω.heap.size ω w1) => hK (.pointer (some ⟨w.heap.size + 1, 4, none⟩)) w1 rfl h)
      clear hK hu hc
      go_simp
      exact hk.out _ (Below.refl _ _)
    · refine fstep_val rfl rfl (calm_step rfl fun aa ω κ hb hu hc hK => ?_)
      have h22 : aa.tmps[22]?.getD undef = .pointer (some ⟨w.heap.size + 1, 4, none⟩) := hc 2 22 rfl rfl
      have hk := Lib.hid (fun w1 (h : Below ω.heap.size ω w1) => hK (.agg (arrK .u64 4 (wd qz))) w1 rfl h)
      clear hK hu hc
      have hl := pt_1 (hB.out.step hb)
      have hl1 := hl.1
      have hl2 := hl.2
      go_simp
      exact hk.out _ (Below.refl _ _)
    · refine fstep_val rfl rfl (calm_step rfl fun aa ω κ hb hu hc hK => ?_)
      have h21 : aa.tmps[21]?.getD undef = .agg (arrK .u64 4 (wd qx)) := hc 1 21 rfl rfl
      have h23 : aa.tmps[23]?.getD undef = .agg (arrK .u64 4 (wd qz)) := hc 3 23 rfl rfl
      have hk := Lib.hid (fun w1 (h : Below ω.heap.size ω w1) => hK (.agg (arrK .u64 4 (wd vb1))) w1 rfl h)
      clear hK hu hc
      go_simp
      go_at_call 22
      refine (kvb1.out _).mono ?_
      rintro e w1 ⟨rfl, hb1⟩
      exact hk.out _ hb1
    · refine fstep_val rfl rfl (calm_step rfl fun aa ω κ hb hu hc hK => ?_)
      have h3 : aa.tmps[3]?.getD undef = .pointer (some ⟨w.heap.size, 0, none⟩) := (hu 3 rfl).trans e3
      have hk := Lib.hid (fun w1 (h : Below ω.heap.size ω w1) => hK (.pointer (some ⟨w.heap.size, 0, none⟩)) w1 rfl h)
      clear hK hu hc
      go_simp
      exact hk.out _ (Below.refl _ _)
    · refine fstep_val rfl rfl (calm_step rfl fun aa ω κ hb hu hc hK => ?_)
      have h25 : aa.tmps[25]?.getD undef = .pointer (some ⟨w.heap.size, 0, none⟩) := hc 5 25 rfl rfl
      have hk := Lib.hid (fun w1 (h : Below ω.heap.size ω w1) => hK (.agg (arrK .u64 4 (wd px))) w1 rfl h)
      clear hK hu hc
      have hl := pt_0 (hA.out.step hb)
      have hl1 := hl.1
      have hl2 := hl.2
      go_simp
      exact hk.out _ (Below.refl _ _)
    · refine fstep_val rfl rfl (calm_step rfl fun aa ω κ hb hu hc hK => ?_)
      have h3 : aa.tmps[3]?.getD undef = .pointer (some ⟨w.heap.size, 0, none⟩) := (hu 3 rfl).trans e3
      have hk := Lib.hid (fun w1 (h : Below ω.heap.size ω w1) => hK (.pointer (some ⟨w.heap.size, 4, none⟩)) w1 rfl h)
      clear hK hu hc
      go_simp
      exact hk.out _ (Below.refl _ _)
    · refine fstep_val rfl rfl (calm_step rfl fun aa ω κ hb hu hc hK => ?_)
      have h27 : aa.tmps[27]?.getD undef = .pointer (some ⟨w.heap.size, 4, none⟩) := hc 7 27 rfl rfl
      have hk := Lib.hid (fun w1 (h : Below ω.heap.size ω w1) => hK (.agg (arrK .u64 4 (wd pz))) w1 rfl h)
      clear hK hu hc
      have hl := pt_1 (hA.out.step hb)
      have hl1 := hl.1
      have hl2 := hl.2
      go_simp
      exact hk.out _ (Below.refl _ _)
    · refine fstep_val rfl rfl (calm_step rfl fun aa ω κ hb hu hc hK => ?_)
      have h26 : aa.tmps[26]?.getD undef = .agg (arrK .u64 4 (wd px)) := hc 6 26 rfl rfl
      have h28 : aa.tmps[28]?.getD undef = .agg (arrK .u64 4 (wd pz)) := hc 8 28 rfl rfl
      have hk := Lib.hid (fun w1 (h : Below ω.heap.size ω w1) => hK (.agg (arrK .u64 4 (wd vb2))) w1 rfl h)
      clear hK hu hc
      go_simp
      go_at_call 20
      refine (kvb2.out _).mono ?_
      rintro e w1 ⟨rfl, hb1⟩
      exact hk.out _ hb1
    · refine fstep_val rfl rfl (calm_step rfl fun aa ω κ hb hu hc hK => ?_)
      have h24 : aa.tmps[24]?.getD undef = .agg (arrK .u64 4 (wd vb1)) := hc 4 24 rfl rfl
      have h29 : aa.tmps[29]?.getD undef = .agg (arrK .u64 4 (wd vb2)) := hc 9 29 rfl rfl
      have hk := Lib.hid (fun w1 (h : Below ω.heap.size ω w1) => hK (.agg (arrK .u64 4 (wd vb))) w1 rfl h)
      clear hK hu hc
      go_simp
      go_at_call 24
      refine (kvb.out _).mono ?_
      rintro e w1 ⟨rfl, hb1⟩
      exact hk.out _ hb1
    · refine fstep_al (n := 4) rfl rfl fun aa ω κ hK => ?_
      have hk := Lib.hid hK
      clear hK
      go_simp
      exact hk.out _ _ hc0
    · refine fstep_st (j := 11) (n := 4) (d := 8) rfl rfl rfl rfl rfl hcvb.1 rfl rfl fun aa ω κ g hb hu hc hp hr hK => ?_
      have h30 : aa.tmps[30]?.getD undef = .agg (arrK .u64 4 (wd vb)) := hc 10 30 rfl rfl
      have hk := Lib.hid hK
      clear hK hu hc
      have hcc := hcvb
      go_simp
      exact hk.out undef
    · intro a1 w1 G I
      have ha0 := hha0.out
      subst ha0
      have he := act_patch (n := 42) [false, false, false, false, false, false, false, false, true, false, false, false, false, false, false, false, false, false, false, false, true, true, true, true, true, true, true, true, true, true, true, false, false, false, false, false, false, false, false, false, false, false] rfl (by kernel_rfl) I.un I.sz I.df
      simp only [patch, cond_true, cond_false, Nat.reduceAdd] at he
      have hal8 := I.al 11 8 4 rfl rfl rfl
      replace hA := Lib.hid (hA.out.step I.bel)
      replace hB := Lib.hid (hB.out.step I.bel)
      replace hU := Lib.hid (hU.out.step I.bel)
      replace hR := Lib.hid (row_below hR.out I.bel hR.out.lt)
      replace hL := Lib.hid (below_step I.bel hL.out (Nat.le_refl _))
      replace hX7 := Lib.hid (hX7.out.step I.bel)
      have hX8 := Lib.hid (show At w1 (G 11) .u64 4 (wd vb) from ⟨(I.blk 11 4 rfl rfl).2, (I.row 12 11 rfl rfl).2.2⟩)
      clear kvb1 kvb2 kvb
      clear I hz0 hha0 e3 e4
      rw [he]
      clear he
      rw [hal8]
      clear hal8
      generalize a1.tmps[20]?.getD undef = x20 at *
      generalize a1.tmps[21]?.getD undef = x21 at *
      generalize a1.tmps[22]?.getD undef = x22 at *
      generalize a1.tmps[23]?.getD undef = x23 at *
      generalize a1.tmps[24]?.getD undef = x24 at *
      generalize a1.tmps[25]?.getD undef = x25 at *
      generalize a1.tmps[26]?.getD undef = x26 at *
      generalize a1.tmps[27]?.getD undef = x27 at *
      generalize a1.tmps[28]?.getD undef = x28 at *
      generalize a1.tmps[29]?.getD undef = x29 at *
      generalize a1.tmps[30]?.getD undef = x30 at *
      obtain ⟨g8, hgz⟩ : ∃ g, G 11 = g := ⟨_, rfl⟩
      rw [hgz] at hX8 ⊢
      clear hgz
      generalize w1 = W2 at *
      go_upto_region 3 with (fail)
      generalize ha0 : Act.mk _ _ = a0
      have e5 : a0.tmps[5]?.getD undef = .pointer (some ⟨w.heap.size + 1 + 1, 0, none⟩) := by rw [← ha0]; rfl
      have e6 : a0.tmps[6]?.getD undef = .pointer (some ⟨w.heap.size + 1 + 1 + 1, 0, none⟩) := by rw [← ha0]; rfl
      have e7 : a0.tmps[7]?.getD undef = .pointer (some ⟨g7, 0, none⟩) := by rw [← ha0]; rfl
      have e8 : a0.tmps[8]?.getD undef = .pointer (some ⟨g8, 0, none⟩) := by rw [← ha0]; rfl
      have hz0 : a0.tmps.size = 42 := by rw [← ha0]; rfl
      have hha0 := Lib.hid ha0
      clear ha0
      refine wp_region_one (fun jx_ => match jx_ with | 0 => some (.agg (arrK .u64 4 (wd va))) | 1 => some (.agg (arrK .u64 4 (wd vb))) | 2 => some (.agg (arrK .u64 4 (wd vc))) | 3 => some (.agg (arrK .u64 4 (wd r1))) | 4 => some (.agg (arrK .u64 4 (wd u))) | 5 => some (.agg (arrK .u64 4 (wd va))) | 6 => some (.agg (arrK .u64 4 (wd vb))) | 7 => some (.agg (arrK .u64 4 (wd vd))) | 8 => some (.agg (arrK .u64 4 (wd ve))) | 9 => some (.agg (arrK .u64 4 (wd r2))) | 10 => some (.agg (arrK .u64 8 (cat2 (wd r1) (wd r2)))) | _ => none) 11 ((w.heap.size + 1 + 1 + 1)) 8 (arrK .u64 8 (cat2 (wd r1) (wd r2))) (by kernel_rfl) (by kernel_rfl) (by kernel_rfl) (slotsOk_of hz0 (by kernel_rfl)) (of_decide_eq_true (by kernel_rfl)) hR.out ⟨?_, ?_, ?_, ?_, ?_, ?_, ?_, ?_, ?_, ?_, ?_, ?_, trivial⟩ ?_
      · refine one_before (by decide) (by kernel_rfl) (calm_step rfl fun aa ω κ hb hu hc hK => ?_)
        have h7 : aa.tmps[7]?.getD undef = .pointer (some ⟨g7, 0, none⟩) := (hu 7 rfl).trans e7
        have hk := Lib.hid (fun w1 (h : Below ω.heap.size ω w1) => hK (.agg (arrK .u64 4 (wd va))) w1 rfl h)
        clear hK hu hc
        have hr1 := (hX7.out.step hb).row
        have hr2 := (hX7.out.step hb).eq
        go_simp
        exact hk.out _ (Below.refl _ _)
      · refine one_before (by decide) (by kernel_rfl) (calm_step rfl fun aa ω κ hb hu hc hK => ?_)
        have h8 : aa.tmps[8]?.getD undef = .pointer (some ⟨g8, 0, none⟩) := (hu 8 rfl).trans e8
        have hk := Lib.hid (fun w1 (h : Below ω.heap.size ω w1) => hK (.agg (arrK .u64 4 (wd vb))) w1 rfl h)
        clear hK hu hc
        have hr1 := (hX8.out.step hb).row
        have hr2 := (hX8.out.step hb).eq
        go_simp
        exact hk.out _ (Below.refl _ _)
      · refine one_before (by decide) (by kernel_rfl) (calm_step rfl fun aa ω κ hb hu hc hK => ?_)
        have h31 : aa.tmps[31]?.getD undef = .agg (arrK .u64 4 (wd va)) := hc 0 31 rfl rfl
        have h32 : aa.tmps[32]?.getD undef = .agg (arrK .u64 4 (wd vb)) := hc 1 32 rfl rfl
        have hk := Lib.hid (fun w1 (h : Below ω.heap.size ω w1) => hK (.agg (arrK .u64 4 (wd vc))) w1 rfl h)
        clear hK hu hc
        go_simp
        go_at_call 20
        refine (kvc.out _).mono ?_
        rintro e w1 ⟨rfl, hb1⟩
        exact hk.out _ hb1
      · refine one_before (by decide) (by kernel_rfl) (calm_step rfl fun aa ω κ hb hu hc hK => ?_)
        have h33 : aa.tmps[33]?.getD undef = .agg (arrK .u64 4 (wd vc)) := hc 2 33 rfl rfl
        have hk := Lib.hid (fun w1 (h : Below ω.heap.size ω w1) => hK (.agg (arrK .u64 4 (wd r1))) w1 rfl h)
        clear hK hu hc
        go_simp
        go_at_call 153
        refine (kr1.out _).mono ?_
        rintro e w1 ⟨rfl, hb1⟩
        exact hk.out _ hb1
      · refine one_before (by decide) (by kernel_rfl) (calm_step rfl fun aa ω κ hb hu hc hK => ?_)
        have h5 : aa.tmps[5]?.getD undef = .pointer (some ⟨w.heap.size + 1 + 1, 0, none⟩) := (hu 5 rfl).trans e5
        have hk := Lib.hid (fun w1 (h : Below ω.heap.size ω w1) => hK (.agg (arrK .u64 4 (wd u))) w1 rfl h)
        clear hK hu hc
        have hr1 := (hU.out.step hb).row
        have hr2 := (hU.out.step hb).eq
        go_simp
        exact hk.out _ (Below.refl _ _)
      · refine one_before (by decide) (by kernel_rfl) (calm_step rfl fun aa ω κ hb hu hc hK => ?_)
        have h7 : aa.tmps[7]?.getD undef = .pointer (some ⟨g7, 0, none⟩) := (hu 7 rfl).trans e7
        have hk := Lib.hid (fun w1 (h : Below ω.heap.size ω w1) => hK (.agg (arrK .u64 4 (wd va))) w1 rfl h)
        clear hK hu hc
        have hr1 := (hX7.out.step hb).row
        have hr2 := (hX7.out.step hb).eq
        go_simp
        exact hk.out _ (Below.refl _ _)
      · refine one_before (by decide) (by kernel_rfl) (calm_step rfl fun aa ω κ hb hu hc hK => ?_)
        have h8 : aa.tmps[8]?.getD undef = .pointer (some ⟨g8, 0, none⟩) := (hu 8 rfl).trans e8
        have hk := Lib.hid (fun w1 (h : Below ω.heap.size ω w1) => hK (.agg (arrK .u64 4 (wd vb))) w1 rfl h)
        clear hK hu hc
        have hr1 := (hX8.out.step hb).row
        have hr2 := (hX8.out.step hb).eq
        go_simp
        exact hk.out _ (Below.refl _ _)
      · refine one_before (by decide) (by kernel_rfl) (calm_step rfl fun aa ω κ hb hu hc hK => ?_)
        have h36 : aa.tmps[36]?.getD undef = .agg (arrK .u64 4 (wd va)) := hc 5 36 rfl rfl
        have h37 : aa.tmps[37]?.getD undef = .agg (arrK .u64 4 (wd vb)) := hc 6 37 rfl rfl
        have hk := Lib.hid (fun w1 (h : Below ω.heap.size ω w1) => hK (.agg (arrK .u64 4 (wd vd))) w1 rfl h)
        clear hK hu hc
        go_simp
        go_at_call 22
        refine (kvd.out _).mono ?_
        rintro e w1 ⟨rfl, hb1⟩
        exact hk.out _ hb1
      · refine one_before (by decide) (by kernel_rfl) (calm_step rfl fun aa ω κ hb hu hc hK => ?_)
        have h38 : aa.tmps[38]?.getD undef = .agg (arrK .u64 4 (wd vd)) := hc 7 38 rfl rfl
        have hk := Lib.hid (fun w1 (h : Below ω.heap.size ω w1) => hK (.agg (arrK .u64 4 (wd ve))) w1 rfl h)
        clear hK hu hc
        go_simp
        go_at_call 153
        refine (kve.out _).mono ?_
        rintro e w1 ⟨rfl, hb1⟩
        exact hk.out _ hb1
      · refine one_before (by decide) (by kernel_rfl) (calm_step rfl fun aa ω κ hb hu hc hK => ?_)
        have h35 : aa.tmps[35]?.getD undef = .agg (arrK .u64 4 (wd u)) := hc 4 35 rfl rfl
        have h39 : aa.tmps[39]?.getD undef = .agg (arrK .u64 4 (wd ve)) := hc 8 39 rfl rfl
        have hk := Lib.hid (fun w1 (h : Below ω.heap.size ω w1) => hK (.agg (arrK .u64 4 (wd r2))) w1 rfl h)
        clear hK hu hc
        go_simp
        go_at_call 24
        refine (kr2.out _).mono ?_
        rintro e w1 ⟨rfl, hb1⟩
        exact hk.out _ hb1
      · refine one_before (by decide) (by kernel_rfl) (calm_step rfl fun aa ω κ hb hu hc hK => ?_)
        have h34 : aa.tmps[34]?.getD undef = .agg (arrK .u64 4 (wd r1)) := hc 3 34 rfl rfl
        have h40 : aa.tmps[40]?.getD undef = .agg (arrK .u64 4 (wd r2)) := hc 9 40 rfl rfl
        have hk := Lib.hid (fun w1 (h : Below ω.heap.size ω w1) => hK (.agg (arrK .u64 8 (cat2 (wd r1) (wd r2)))) w1 rfl h)
        clear hK hu hc
        exact wp_bldB (v0 := .agg (arrK .u64 4 (wd r1))) (v1 := .agg (arrK .u64 4 (wd r2))) rfl (by go_simp) (by go_simp) (build_pr _ _ _) (hk.out _ (Below.refl _ _))
      · refine one_q (one_write rfl rfl fun aa ω κ hb hu hc hr hK => ?_)
        have h6 : aa.tmps[6]?.getD undef = .pointer (some ⟨w.heap.size + 1 + 1 + 1, 0, none⟩) := (hu 6 rfl).trans e6
        have h41 : aa.tmps[41]?.getD undef = .agg (arrK .u64 8 (cat2 (wd r1) (wd r2))) := hc 10 41 rfl rfl
        have hk := Lib.hid hK
        clear hK hu hc
        have hcc := hcr
        go_simp
        exact hk.out undef
      · intro a1 w1 hb1 hu1 hsz1 hdf1 hv1
        have ha0 := hha0.out
        subst ha0
        have he := act_patch (n := 42) [false, false, false, false, false, false, false, false, false, false, false, false, false, false, false, false, false, false, false, false, false, false, false, false, false, false, false, false, false, false, false, true, true, true, true, true, true, true, true, true, true, true] rfl (by kernel_rfl) hu1 hsz1 hdf1
        simp only [patch, cond_true, cond_false, Nat.reduceAdd] at he
        have hXz := (At.put (k := .u64) (f := (cat2 (wd r1) (wd r2))) hR.out).below hb1 (by simpa using hR.out.lt)
        have hLz := Lib.hid (Below.trans (below_setRow (c := arrK .u64 8 (cat2 (wd r1) (wd r2))) hL.out (by omega)) (hb1.mono (by simpa using hL.out.size)))
        clear hR hL hA hB hU hX7 hX8 kvc kr1 kvd kve kr2
        clear hb1 hu1 hsz1 hdf1 hv1 hz0 hha0 e5 e6 e7 e8
        rw [he]
        clear he
        generalize a1.tmps[31]?.getD undef = x31 at *
        generalize a1.tmps[32]?.getD undef = x32 at *
        generalize a1.tmps[33]?.getD undef = x33 at *
        generalize a1.tmps[34]?.getD undef = x34 at *
        generalize a1.tmps[35]?.getD undef = x35 at *
        generalize a1.tmps[36]?.getD undef = x36 at *
        generalize a1.tmps[37]?.getD undef = x37 at *
        generalize a1.tmps[38]?.getD undef = x38 at *
        generalize a1.tmps[39]?.getD undef = x39 at *
        generalize a1.tmps[40]?.getD undef = x40 at *
        generalize a1.tmps[41]?.getD undef = x41 at *
        go_wp2_with fail
        refine ret_row (p := 6) (ty := 130) (g := (w.heap.size + 1 + 1 + 1)) rfl Try.underlying130 rfl (by kernel_rfl) rfl hXz.row rfl ?_
        rw [hXz.eq]
        exact ⟨rfl, hLz.out⟩
end Go.Proofs.Ytodcjeaannfbnaa
namespace Go.Proofs.Ytodcjeaannfbnaa
open Go.ChangeShapes Go.WideShapes Go.ChangeAt Go.RowKit
set_option maxHeartbeats 2000000
set_option maxRecDepth 100000
attribute [local go_sem ↓] load_fld load_num store_num execl_num execs_num load_pr store_pr execl_pr execs_pr load_pt store_pt
attribute [local go_sem] isHead_mk blkOf_mk isAgg_mk cellsV_mk row_drew rowAt_drew row_new_cells row_old rowAt_new rowAt_old setRow_new zeroNum zeroPt
theorem ret_cc {P : Program} {fn : Func} {R : Ending → World → Prop} {a : Act} {w : World} {p q : Tmp} {ty ty2 : TypeId} {g n g2 n2 : Nat} {d d2 : TypeDesc} (h : fn.results = #[.cell p ty, .cell q ty2])
    (hu : P.underlying ty = some d) (hd : (match d with | .struct _ | .array _ _ => true | _ => false) = true) (hi : (P.info? ty).map (·.size) = some n)
    (hu2 : P.underlying ty2 = some d2) (hd2 : (match d2 with | .struct _ | .array _ _ => true | _ => false) = true) (hi2 : (P.info? ty2).map (·.size) = some n2)
    (hp : a.tmps.getD p undef = .pointer (some ⟨g, 0, none⟩)) (hq : a.tmps.getD q undef = .pointer (some ⟨g2, 0, none⟩)) (hr : Row w g n) (hr2 : Row w g2 n2) (hf : a.defers = [])
    (hR : R (.returned (.tuple #[.agg (rowAt w g), .agg (rowAt w g2)])) w) : bodyPost P fn R .ret a w := by
  obtain ⟨cs, t, hg, hs⟩ := hr
  obtain ⟨cs2, t2, hg2, hs2⟩ := hr2
  have e : rowAt w g = cs := by simp [rowAt, hg]
  have e2 : rowAt w g2 = cs2 := by simp [rowAt, hg2]
  rw [e, e2] at hR
  refine bodyPost_ret ?_ hf hR
  have hp' : a.tmps[p]?.getD undef = .pointer (some ⟨g, 0, none⟩) := by simpa using hp
  have hq' : a.tmps[q]?.getD undef = .pointer (some ⟨g2, 0, none⟩) := by simpa using hq
  simp [results, h, hp', hq', asAddr, run_loadVar_row w g t ty cs (0, 0) d hg hu hd (by rw [hi, hs]), run_loadVar_row w g2 t2 ty2 cs2 (0, 0) d2 hg2 hu2 hd2 (by rw [hi2, hs2])]
theorem ladder_swapped (c a b x y n m n2 m2 : Nat) (w : World) (hc : c < 18446744073709551616) (hn : n = if c % 2 = 1 then x else a) (hm : m = if c % 2 = 1 then y else b) (hn2 : n2 = if c % 2 = 1 then a else x) (hm2 : m2 = if c % 2 = 1 then b else y) :
    Calls Try.prog 108 #[.int .u64 c, ptV a b, ptV x y] w fun e w' => e = .returned (.tuple #[ptV n m, ptV n2 m2]) ∧ Below w.heap.size w w' := by
  have k1 := Lib.hid (fun V => limb_Pick c a x n V hc hn)
  have k2 := Lib.hid (fun V => limb_Pick c b y m V hc hm)
  have k3 := Lib.hid (fun V => limb_Pick c x a n2 V hc hn2)
  have k4 := Lib.hid (fun V => limb_Pick c y b m2 V hc hm2)
  clear hc hn hm hn2 hm2
  unfold numV at k1 k2 k3 k4
  unfold ptV
  have hcr := arrK_cells .u64 8 (cat2 (wd n) (wd m))
  have hcs := arrK_cells .u64 8 (cat2 (wd n2) (wd m2))
  have hcz := arrK_cells .u64 8 (cat2 (wd 0) (wd 0))
  have hL0 : Below w.heap.size w ((((w.alloc (Obj.cells (arrK .u64 8 (cat2 (wd a) (wd b))) 130)).alloc (Obj.cells (arrK .u64 8 (cat2 (wd x) (wd y))) 130)).alloc (Obj.cells (arrK .u64 8 (cat2 (wd 0) (wd 0))) 130)).alloc (Obj.cells (arrK .u64 8 (cat2 (wd 0) (wd 0))) 130)) := by go_grown
  have hA0 : At ((((w.alloc (Obj.cells (arrK .u64 8 (cat2 (wd a) (wd b))) 130)).alloc (Obj.cells (arrK .u64 8 (cat2 (wd x) (wd y))) 130)).alloc (Obj.cells (arrK .u64 8 (cat2 (wd 0) (wd 0))) 130)).alloc (Obj.cells (arrK .u64 8 (cat2 (wd 0) (wd 0))) 130)) w.heap.size .u64 8 (cat2 (wd a) (wd b)) := ((((At.new _ rfl)).old _).old _).old _
  have hB0 : At ((((w.alloc (Obj.cells (arrK .u64 8 (cat2 (wd a) (wd b))) 130)).alloc (Obj.cells (arrK .u64 8 (cat2 (wd x) (wd y))) 130)).alloc (Obj.cells (arrK .u64 8 (cat2 (wd 0) (wd 0))) 130)).alloc (Obj.cells (arrK .u64 8 (cat2 (wd 0) (wd 0))) 130)) (w.heap.size + 1) .u64 8 (cat2 (wd x) (wd y)) := (((At.new _ (by simp))).old _).old _
  have hR0 : Row ((((w.alloc (Obj.cells (arrK .u64 8 (cat2 (wd a) (wd b))) 130)).alloc (Obj.cells (arrK .u64 8 (cat2 (wd x) (wd y))) 130)).alloc (Obj.cells (arrK .u64 8 (cat2 (wd 0) (wd 0))) 130)).alloc (Obj.cells (arrK .u64 8 (cat2 (wd 0) (wd 0))) 130)) (w.heap.size + 1 + 1) 8 := (((At.new (k := .u64) (f := cat2 (wd 0) (wd 0)) _ (by simp))).old _).row
  have hQ0 : Row ((((w.alloc (Obj.cells (arrK .u64 8 (cat2 (wd a) (wd b))) 130)).alloc (Obj.cells (arrK .u64 8 (cat2 (wd x) (wd y))) 130)).alloc (Obj.cells (arrK .u64 8 (cat2 (wd 0) (wd 0))) 130)).alloc (Obj.cells (arrK .u64 8 (cat2 (wd 0) (wd 0))) 130)) (w.heap.size + 1 + 1 + 1) 8 := (At.new (k := .u64) (f := cat2 (wd 0) (wd 0)) _ (by simp)).row
  have hL := Lib.hid hL0
  have hA := Lib.hid hA0
  have hB := Lib.hid hB0
  have hR := Lib.hid hR0
  have hQ := Lib.hid hQ0
  clear hL0 hA0 hB0 hR0 hQ0
  go_enter Try.func108, Try.ntmps108
  go_upto_region 1 with (fail)
  generalize (((w.alloc _).alloc _).alloc _).alloc _ = W0 at *
  generalize ha0 : Act.mk _ _ = a0
  have e0 : a0.tmps[0]?.getD undef = .int .u64 (c : Nat) := by rw [← ha0]; rfl
  have e4 : a0.tmps[4]?.getD undef = .pointer (some ⟨w.heap.size, 0, none⟩) := by rw [← ha0]; rfl
  have e5 : a0.tmps[5]?.getD undef = .pointer (some ⟨w.heap.size + 1, 0, none⟩) := by rw [← ha0]; rfl
  have e6 : a0.tmps[6]?.getD undef = .pointer (some ⟨w.heap.size + 1 + 1, 0, none⟩) := by rw [← ha0]; rfl
  have e7 : a0.tmps[7]?.getD undef = .pointer (some ⟨w.heap.size + 1 + 1 + 1, 0, none⟩) := by rw [← ha0]; rfl
  have hz0 : a0.tmps.size = 34 := by rw [← ha0]; rfl
  have hha0 := Lib.hid ha0
  clear ha0
  refine wp_region_two (fun jx_ => match jx_ with | 0 => some (.int .u64 (c : Nat)) | 1 => some (.pointer (some ⟨w.heap.size, 0, none⟩)) | 2 => some (.agg (arrK .u64 4 (wd a))) | 3 => some (.pointer (some ⟨w.heap.size + 1, 0, none⟩)) | 4 => some (.agg (arrK .u64 4 (wd x))) | 5 => some (.agg (arrK .u64 4 (wd n))) | 6 => some (.int .u64 (c : Nat)) | 7 => some (.pointer (some ⟨w.heap.size, 4, none⟩)) | 8 => some (.agg (arrK .u64 4 (wd b))) | 9 => some (.pointer (some ⟨w.heap.size + 1, 4, none⟩)) | 10 => some (.agg (arrK .u64 4 (wd y))) | 11 => some (.agg (arrK .u64 4 (wd m))) | 12 => some (.agg (arrK .u64 8 (cat2 (wd n) (wd m)))) | 13 => some (.int .u64 (c : Nat)) | 14 => some (.pointer (some ⟨w.heap.size + 1, 0, none⟩)) | 15 => some (.agg (arrK .u64 4 (wd x))) | 16 => some (.pointer (some ⟨w.heap.size, 0, none⟩)) | 17 => some (.agg (arrK .u64 4 (wd a))) | 18 => some (.agg (arrK .u64 4 (wd n2))) | 19 => some (.int .u64 (c : Nat)) | 20 => some (.pointer (some ⟨w.heap.size + 1, 4, none⟩)) | 21 => some (.agg (arrK .u64 4 (wd y))) | 22 => some (.pointer (some ⟨w.heap.size, 4, none⟩)) | 23 => some (.agg (arrK .u64 4 (wd b))) | 24 => some (.agg (arrK .u64 4 (wd m2))) | 25 => some (.agg (arrK .u64 8 (cat2 (wd n2) (wd m2)))) | _ => none) 26 ((w.heap.size + 1 + 1)) 8 (arrK .u64 8 (cat2 (wd n) (wd m))) 27 ((w.heap.size + 1 + 1 + 1)) 8 (arrK .u64 8 (cat2 (wd n2) (wd m2))) (by kernel_rfl) (by kernel_rfl) (by kernel_rfl) (slotsOk_of hz0 (by kernel_rfl)) (of_decide_eq_true (by kernel_rfl)) (of_decide_eq_true (by kernel_rfl)) (by decide) (by kernel_rfl) (by omega) hR.out hQ.out ⟨?_, ?_, ?_, ?_, ?_, ?_, ?_, ?_, ?_, ?_, ?_, ?_, ?_, ?_, ?_, ?_, ?_, ?_, ?_, ?_, ?_, ?_, ?_, ?_, ?_, ?_, ?_, ?_, trivial⟩ ?_
  · refine two_before (by decide) (by decide) (by kernel_rfl) (calm_step rfl fun aa ω κ hb hu hc hK => ?_)
    have h0 : aa.tmps[0]?.getD undef = .int .u64 (c : Nat) := (hu 0 rfl).trans e0
    have hk := Lib.hid (fun w1 (h : Below ω.heap.size ω w1) => hK (.int .u64 (c : Nat)) w1 rfl h)
    clear hK hu hc
    go_simp
    exact hk.out _ (Below.refl _ _)
  · refine two_before (by decide) (by decide) (by kernel_rfl) (calm_step rfl fun aa ω κ hb hu hc hK => ?_)
    have h4 : aa.tmps[4]?.getD undef = .pointer (some ⟨w.heap.size, 0, none⟩) := (hu 4 rfl).trans e4
    have hk := Lib.hid (fun w1 (h : Below ω.heap.size ω w1) => hK (.pointer (some ⟨w.heap.size, 0, none⟩)) w1 rfl h)
    clear hK hu hc
    go_simp
    exact hk.out _ (Below.refl _ _)
  · refine two_before (by decide) (by decide) (by kernel_rfl) (calm_step rfl fun aa ω κ hb hu hc hK => ?_)
    have h9 : aa.tmps[9]?.getD undef = .pointer (some ⟨w.heap.size, 0, none⟩) := hc 1 9 rfl rfl
    have hk := Lib.hid (fun w1 (h : Below ω.heap.size ω w1) => hK (.agg (arrK .u64 4 (wd a))) w1 rfl h)
    clear hK hu hc
    have hl := pt_0 (hA.out.step hb)
    have hl1 := hl.1
    have hl2 := hl.2
    go_simp
    exact hk.out _ (Below.refl _ _)
  · refine two_before (by decide) (by decide) (by kernel_rfl) (calm_step rfl fun aa ω κ hb hu hc hK => ?_)
    have h5 : aa.tmps[5]?.getD undef = .pointer (some ⟨w.heap.size + 1, 0, none⟩) := (hu 5 rfl).trans e5
    have hk := Lib.hid (fun w1 (h : Below ω.heap.size ω w1) => hK (.pointer (some ⟨w.heap.size + 1, 0, none⟩)) w1 rfl h)
    clear hK hu hc
    go_simp
    exact hk.out _ (Below.refl _ _)
  · refine two_before (by decide) (by decide) (by kernel_rfl) (calm_step rfl fun aa ω κ hb hu hc hK => ?_)
    have h11 : aa.tmps[11]?.getD undef = .pointer (some ⟨w.heap.size + 1, 0, none⟩) := hc 3 11 rfl rfl
    have hk := Lib.hid (fun w1 (h : Below ω.heap.size ω w1) => hK (.agg (arrK .u64 4 (wd x))) w1 rfl h)
    clear hK hu hc
    have hl := pt_0 (hB.out.step hb)
    have hl1 := hl.1
    have hl2 := hl.2
    go_simp
    exact hk.out _ (Below.refl _ _)
  · refine two_before (by decide) (by decide) (by kernel_rfl) (calm_step rfl fun aa ω κ hb hu hc hK => ?_)
    have h8 : aa.tmps[8]?.getD undef = .int .u64 (c : Nat) := hc 0 8 rfl rfl
    have h10 : aa.tmps[10]?.getD undef = .agg (arrK .u64 4 (wd a)) := hc 2 10 rfl rfl
    have h12 : aa.tmps[12]?.getD undef = .agg (arrK .u64 4 (wd x)) := hc 4 12 rfl rfl
    have hk := Lib.hid (fun w1 (h : Below ω.heap.size ω w1) => hK (.agg (arrK .u64 4 (wd n))) w1 rfl h)
    clear hK hu hc
    go_simp
    go_at_call 152
    refine (k1.out _).mono ?_
    rintro e w1 ⟨rfl, hb1⟩
    exact hk.out _ hb1
  · refine two_before (by decide) (by decide) (by kernel_rfl) (calm_step rfl fun aa ω κ hb hu hc hK => ?_)
    have h0 : aa.tmps[0]?.getD undef = .int .u64 (c : Nat) := (hu 0 rfl).trans e0
    have hk := Lib.hid (fun w1 (h : Below ω.heap.size ω w1) => hK (.int .u64 (c : Nat)) w1 rfl h)
    clear hK hu hc
    go_simp
    exact hk.out _ (Below.refl _ _)
  · refine two_before (by decide) (by decide) (by kernel_rfl) (calm_step rfl fun aa ω κ hb hu hc hK => ?_)
    have h4 : aa.tmps[4]?.getD undef = .pointer (some ⟨w.heap.size, 0, none⟩) := (hu 4 rfl).trans e4
    have hk := Lib.hid (fun w1 (h : Below ω.heap.size ω w1) => hK (.pointer (some ⟨w.heap.size, 4, none⟩)) w1 rfl h)
    clear hK hu hc
    go_simp
    exact hk.out _ (Below.refl _ _)
  · refine two_before (by decide) (by decide) (by kernel_rfl) (calm_step rfl fun aa ω κ hb hu hc hK => ?_)
    have h15 : aa.tmps[15]?.getD undef = .pointer (some ⟨w.heap.size, 4, none⟩) := hc 7 15 rfl rfl
    have hk := Lib.hid (fun w1 (h : Below ω.heap.size ω w1) => hK (.agg (arrK .u64 4 (wd b))) w1 rfl h)
    clear hK hu hc
    have hl := pt_1 (hA.out.step hb)
    have hl1 := hl.1
    have hl2 := hl.2
    go_simp
    exact hk.out _ (Below.refl _ _)
  · refine two_before (by decide) (by decide) (by kernel_rfl) (calm_step rfl fun aa ω κ hb hu hc hK => ?_)
    have h5 : aa.tmps[5]?.getD undef = .pointer (some ⟨w.heap.size + 1, 0, none⟩) := (hu 5 rfl).trans e5
    have hk := Lib.hid (fun w1 (h : Below ω.heap.size ω w1) => hK (.pointer (some ⟨w.heap.size + 1, 4, none⟩)) w1 rfl h)
    clear hK hu hc
    go_simp
    exact hk.out _ (Below.refl _ _)
  · refine two_before (by decide) (by decide) (by kernel_rfl) (calm_step rfl fun aa ω κ hb hu hc hK => ?_)
    have h17 : aa.tmps[17]?.getD undef = .pointer (some ⟨w.heap.size + 1, 4, none⟩) := hc 9 17 rfl rfl
    have hk := Lib.hid (fun w1 (h : Below ω.heap.size ω w1) => hK (.agg (arrK .u64 4 (wd y))) w1 rfl h)
    clear hK hu hc
    have hl := pt_1 (hB.out.step hb)
    have hl1 := hl.1
    have hl2 := hl.2
    go_simp
    exact hk.out _ (Below.refl _ _)
  · refine two_before (by decide) (by decide) (by kernel_rfl) (calm_step rfl fun aa ω κ hb hu hc hK => ?_)
    have h14 : aa.tmps[14]?.getD undef = .int .u64 (c : Nat) := hc 6 14 rfl rfl
    have h16 : aa.tmps[16]?.getD undef = .agg (arrK .u64 4 (wd b)) := hc 8 16 rfl rfl
    have h18 : aa.tmps[18]?.getD undef = .agg (arrK .u64 4 (wd y)) := hc 10 18 rfl rfl
    have hk := Lib.hid (fun w1 (h : Below ω.heap.size ω w1) => hK (.agg (arrK .u64 4 (wd m))) w1 rfl h)
    clear hK hu hc
    go_simp
    go_at_call 152
    refine (k2.out _).mono ?_
    rintro e w1 ⟨rfl, hb1⟩
    exact hk.out _ hb1
  · refine two_before (by decide) (by decide) (by kernel_rfl) (calm_step rfl fun aa ω κ hb hu hc hK => ?_)
    have h13 : aa.tmps[13]?.getD undef = .agg (arrK .u64 4 (wd n)) := hc 5 13 rfl rfl
    have h19 : aa.tmps[19]?.getD undef = .agg (arrK .u64 4 (wd m)) := hc 11 19 rfl rfl
    have hk := Lib.hid (fun w1 (h : Below ω.heap.size ω w1) => hK (.agg (arrK .u64 8 (cat2 (wd n) (wd m)))) w1 rfl h)
    clear hK hu hc
    exact wp_bldB (v0 := .agg (arrK .u64 4 (wd n))) (v1 := .agg (arrK .u64 4 (wd m))) rfl (by go_simp) (by go_simp) (build_pr _ _ _) (hk.out _ (Below.refl _ _))
  · refine two_before (by decide) (by decide) (by kernel_rfl) (calm_step rfl fun aa ω κ hb hu hc hK => ?_)
    have h0 : aa.tmps[0]?.getD undef = .int .u64 (c : Nat) := (hu 0 rfl).trans e0
    have hk := Lib.hid (fun w1 (h : Below ω.heap.size ω w1) => hK (.int .u64 (c : Nat)) w1 rfl h)
    clear hK hu hc
    go_simp
    exact hk.out _ (Below.refl _ _)
  · refine two_before (by decide) (by decide) (by kernel_rfl) (calm_step rfl fun aa ω κ hb hu hc hK => ?_)
    have h5 : aa.tmps[5]?.getD undef = .pointer (some ⟨w.heap.size + 1, 0, none⟩) := (hu 5 rfl).trans e5
    have hk := Lib.hid (fun w1 (h : Below ω.heap.size ω w1) => hK (.pointer (some ⟨w.heap.size + 1, 0, none⟩)) w1 rfl h)
    clear hK hu hc
    go_simp
    exact hk.out _ (Below.refl _ _)
  · refine two_before (by decide) (by decide) (by kernel_rfl) (calm_step rfl fun aa ω κ hb hu hc hK => ?_)
    have h22 : aa.tmps[22]?.getD undef = .pointer (some ⟨w.heap.size + 1, 0, none⟩) := hc 14 22 rfl rfl
    have hk := Lib.hid (fun w1 (h : Below ω.heap.size ω w1) => hK (.agg (arrK .u64 4 (wd x))) w1 rfl h)
    clear hK hu hc
    have hl := pt_0 (hB.out.step hb)
    have hl1 := hl.1
    have hl2 := hl.2
    go_simp
    exact hk.out _ (Below.refl _ _)
  · refine two_before (by decide) (by decide) (by kernel_rfl) (calm_step rfl fun aa ω κ hb hu hc hK => ?_)
    have h4 : aa.tmps[4]?.getD undef = .pointer (some ⟨w.heap.size, 0, none⟩) := (hu 4 rfl).trans e4
    have hk := Lib.hid (fun w1 (h : Below ω.heap.size ω w1) => hK (.pointer (some ⟨w.heap.size, 0, none⟩)) w1 rfl h)
    clear hK hu hc
    go_simp
    exact hk.out _ (Below.refl _ _)
  · refine two_before (by decide) (by decide) (by kernel_rfl) (calm_step rfl fun aa ω κ hb hu hc hK => ?_)
    have h24 : aa.tmps[24]?.getD undef = .pointer (some ⟨w.heap.size, 0, none⟩) := hc 16 24 rfl rfl
    have hk := Lib.hid (fun w1 (h : Below ω.heap.size ω w1) => hK (.agg (arrK .u64 4 (wd a))) w1 rfl h)
    clear hK hu hc
    have hl := pt_0 (hA.out.step hb)
    have hl1 := hl.1
    have hl2 := hl.2
    go_simp
    exact hk.out _ (Below.refl _ _)
  · refine two_before (by decide) (by decide) (by kernel_rfl) (calm_step rfl fun aa ω κ hb hu hc hK => ?_)
    have h21 : aa.tmps[21]?.getD undef = .int .u64 (c : Nat) := hc 13 21 rfl rfl
    have h23 : aa.tmps[23]?.getD undef = .agg (arrK .u64 4 (wd x)) := hc 15 23 rfl rfl
    have h25 : aa.tmps[25]?.getD undef = .agg (arrK .u64 4 (wd a)) := hc 17 25 rfl rfl
    have hk := Lib.hid (fun w1 (h : Below ω.heap.size ω w1) => hK (.agg (arrK .u64 4 (wd n2))) w1 rfl h)
    clear hK hu hc
    go_simp
    go_at_call 152
    refine (k3.out _).mono ?_
    rintro e w1 ⟨rfl, hb1⟩
    exact hk.out _ hb1
  · refine two_before (by decide) (by decide) (by kernel_rfl) (calm_step rfl fun aa ω κ hb hu hc hK => ?_)
    have h0 : aa.tmps[0]?.getD undef = .int .u64 (c : Nat) := (hu 0 rfl).trans e0
    have hk := Lib.hid (fun w1 (h : Below ω.heap.size ω w1) => hK (.int .u64 (c : Nat)) w1 rfl h)
    clear hK hu hc
    go_simp
    exact hk.out _ (Below.refl _ _)
  · refine two_before (by decide) (by decide) (by kernel_rfl) (calm_step rfl fun aa ω κ hb hu hc hK => ?_)
    have h5 : aa.tmps[5]?.getD undef = .pointer (some ⟨w.heap.size + 1, 0, none⟩) := (hu 5 rfl).trans e5
    have hk := Lib.hid (fun w1 (h : Below ω.heap.size ω w1) => hK (.pointer (some ⟨w.heap.size + 1, 4, none⟩)) w1 rfl h)
    clear hK hu hc
    go_simp
    exact hk.out _ (Below.refl _ _)
  · refine two_before (by decide) (by decide) (by kernel_rfl) (calm_step rfl fun aa ω κ hb hu hc hK => ?_)
    have h28 : aa.tmps[28]?.getD undef = .pointer (some ⟨w.heap.size + 1, 4, none⟩) := hc 20 28 rfl rfl
    have hk := Lib.hid (fun w1 (h : Below ω.heap.size ω w1) => hK (.agg (arrK .u64 4 (wd y))) w1 rfl h)
    clear hK hu hc
    have hl := pt_1 (hB.out.step hb)
    have hl1 := hl.1
    have hl2 := hl.2
    go_simp
    exact hk.out _ (Below.refl _ _)
  · refine two_before (by decide) (by decide) (by kernel_rfl) (calm_step rfl fun aa ω κ hb hu hc hK => ?_)
    have h4 : aa.tmps[4]?.getD undef = .pointer (some ⟨w.heap.size, 0, none⟩) := (hu 4 rfl).trans e4
    have hk := Lib.hid (fun w1 (h : Below ω.heap.size ω w1) => hK (.pointer (some ⟨w.heap.size, 4, none⟩)) w1 rfl h)
    clear hK hu hc
    go_simp
    exact hk.out _ (Below.refl _ _)
  · refine two_before (by decide) (by decide) (by kernel_rfl) (calm_step rfl fun aa ω κ hb hu hc hK => ?_)
    have h30 : aa.tmps[30]?.getD undef = .pointer (some ⟨w.heap.size, 4, none⟩) := hc 22 30 rfl rfl
    have hk := Lib.hid (fun w1 (h : Below ω.heap.size ω w1) => hK (.agg (arrK .u64 4 (wd b))) w1 rfl h)
    clear hK hu hc
    have hl := pt_1 (hA.out.step hb)
    have hl1 := hl.1
    have hl2 := hl.2
    go_simp
    exact hk.out _ (Below.refl _ _)
  · refine two_before (by decide) (by decide) (by kernel_rfl) (calm_step rfl fun aa ω κ hb hu hc hK => ?_)
    have h27 : aa.tmps[27]?.getD undef = .int .u64 (c : Nat) := hc 19 27 rfl rfl
    have h29 : aa.tmps[29]?.getD undef = .agg (arrK .u64 4 (wd y)) := hc 21 29 rfl rfl
    have h31 : aa.tmps[31]?.getD undef = .agg (arrK .u64 4 (wd b)) := hc 23 31 rfl rfl
    have hk := Lib.hid (fun w1 (h : Below ω.heap.size ω w1) => hK (.agg (arrK .u64 4 (wd m2))) w1 rfl h)
    clear hK hu hc
    go_simp
    go_at_call 152
    refine (k4.out _).mono ?_
    rintro e w1 ⟨rfl, hb1⟩
    exact hk.out _ hb1
  · refine two_free (by decide) (by decide) fun W_ => calm_step rfl fun aa ω κ hb hu hc hK => ?_
    have h26 : aa.tmps[26]?.getD undef = .agg (arrK .u64 4 (wd n2)) := hc 18 26 rfl rfl
    have h32 : aa.tmps[32]?.getD undef = .agg (arrK .u64 4 (wd m2)) := hc 24 32 rfl rfl
    have hk := Lib.hid (fun w1 (h : Below ω.heap.size ω w1) => hK (.agg (arrK .u64 8 (cat2 (wd n2) (wd m2)))) w1 rfl h)
    clear hK hu hc
    exact wp_bldB (v0 := .agg (arrK .u64 4 (wd n2))) (v1 := .agg (arrK .u64 4 (wd m2))) rfl (by go_simp) (by go_simp) (build_pr _ _ _) (hk.out _ (Below.refl _ _))
  · refine two_q1 (one_write rfl rfl fun aa ω κ hb hu hc hr hK => ?_)
    have h6 : aa.tmps[6]?.getD undef = .pointer (some ⟨w.heap.size + 1 + 1, 0, none⟩) := (hu 6 rfl).trans e6
    have h20 : aa.tmps[20]?.getD undef = .agg (arrK .u64 8 (cat2 (wd n) (wd m))) := hc 12 20 rfl rfl
    have hk := Lib.hid hK
    clear hK hu hc
    have hcc := hcr
    go_simp
    exact hk.out undef
  · refine two_q2 (by decide) (one_write rfl rfl fun aa ω κ hb hu hc hr hK => ?_)
    have h7 : aa.tmps[7]?.getD undef = .pointer (some ⟨w.heap.size + 1 + 1 + 1, 0, none⟩) := (hu 7 rfl).trans e7
    have h33 : aa.tmps[33]?.getD undef = .agg (arrK .u64 8 (cat2 (wd n2) (wd m2))) := hc 25 33 rfl rfl
    have hk := Lib.hid hK
    clear hK hu hc
    have hcc := hcs
    go_simp
    exact hk.out undef
  · intro a1 w1 hb1 hu1 hsz1 hdf1 hv1
    have ha0 := hha0.out
    subst ha0
    have he := act_patch (n := 34) [false, false, false, false, false, false, false, false, true, true, true, true, true, true, true, true, true, true, true, true, true, true, true, true, true, true, true, true, true, true, true, true, true, true] rfl (by kernel_rfl) hu1 hsz1 hdf1
    simp only [patch, cond_true, cond_false, Nat.reduceAdd] at he
    have hXz := ((At.put (k := .u64) (f := cat2 (wd n) (wd m)) hR.out).far (c := arrK .u64 8 (cat2 (wd n2) (wd m2))) (show w.heap.size + 1 + 1 ≠ w.heap.size + 1 + 1 + 1 by omega)).below hb1 (by simpa using hR.out.lt)
    have hYz := (At.put (w := W0.setRow (w.heap.size + 1 + 1) (arrK .u64 8 (cat2 (wd n) (wd m)))) (k := .u64) (f := cat2 (wd n2) (wd m2)) ((row_setRow_far (show w.heap.size + 1 + 1 + 1 ≠ w.heap.size + 1 + 1 by omega)).2 hQ.out)).below hb1 (by simpa using hQ.out.lt)
    have hLz := Lib.hid (Below.trans (below_setRow (c := arrK .u64 8 (cat2 (wd n2) (wd m2))) (below_setRow (c := arrK .u64 8 (cat2 (wd n) (wd m))) hL.out (show w.heap.size ≤ w.heap.size + 1 + 1 by omega)) (show w.heap.size ≤ w.heap.size + 1 + 1 + 1 by omega)) (hb1.mono (by simpa using hL.out.size)))
    clear hR hQ hL hA hB k1 k2 k3 k4
    clear hb1 hu1 hsz1 hdf1 hv1 hz0 hha0 e0 e4 e5 e6 e7
    rw [he]
    clear he
    generalize a1.tmps[8]?.getD undef = x8 at *
    generalize a1.tmps[9]?.getD undef = x9 at *
    generalize a1.tmps[10]?.getD undef = x10 at *
    generalize a1.tmps[11]?.getD undef = x11 at *
    generalize a1.tmps[12]?.getD undef = x12 at *
    generalize a1.tmps[13]?.getD undef = x13 at *
    generalize a1.tmps[14]?.getD undef = x14 at *
    generalize a1.tmps[15]?.getD undef = x15 at *
    generalize a1.tmps[16]?.getD undef = x16 at *
    generalize a1.tmps[17]?.getD undef = x17 at *
    generalize a1.tmps[18]?.getD undef = x18 at *
    generalize a1.tmps[19]?.getD undef = x19 at *
    generalize a1.tmps[20]?.getD undef = x20 at *
    generalize a1.tmps[21]?.getD undef = x21 at *
    generalize a1.tmps[22]?.getD undef = x22 at *
    generalize a1.tmps[23]?.getD undef = x23 at *
    generalize a1.tmps[24]?.getD undef = x24 at *
    generalize a1.tmps[25]?.getD undef = x25 at *
    generalize a1.tmps[26]?.getD undef = x26 at *
    generalize a1.tmps[27]?.getD undef = x27 at *
    generalize a1.tmps[28]?.getD undef = x28 at *
    generalize a1.tmps[29]?.getD undef = x29 at *
    generalize a1.tmps[30]?.getD undef = x30 at *
    generalize a1.tmps[31]?.getD undef = x31 at *
    generalize a1.tmps[32]?.getD undef = x32 at *
    generalize a1.tmps[33]?.getD undef = x33 at *
    go_wp2_with fail
    refine ret_cc (p := 6) (q := 7) (ty := 130) (ty2 := 130) (g := w.heap.size + 1 + 1) (g2 := w.heap.size + 1 + 1 + 1) rfl Try.underlying130 rfl (by kernel_rfl) Try.underlying130 rfl (by kernel_rfl) rfl rfl hXz.row hYz.row rfl ?_
    rw [hXz.eq, hYz.eq]
    exact ⟨rfl, hLz.out⟩
/-- Twice a pair; two pairs joined; a step of the ladder; the ladder. -/
def twP (x z : Nat) : Nat × Nat :=
  let s0 := (x + z) % fP
  let s := s0 * s0 % fP
  let t0 := difP x z
  let t := t0 * t0 % fP
  let e := difP s t
  let m := 121665 * e % fP
  let a := (s + m) % fP
  (s * t % fP, e * a % fP)
def joP (px pz qx qz u : Nat) : Nat × Nat :=
  let a1 := (qx + qz) % fP
  let a2 := difP px pz
  let a := a1 * a2 % fP
  let b1 := difP qx qz
  let b2 := (px + pz) % fP
  let b := b1 * b2 % fP
  let c := (a + b) % fP
  let d := difP a b
  let e := d * d % fP
  (c * c % fP, u * e % fP)
def lstep (c u : Nat) (s : Nat × Nat × Nat × Nat) : Nat × Nat × Nat × Nat :=
  if c = 1 then
    ((joP s.2.2.1 s.2.2.2 s.1 s.2.1 u).1, (joP s.2.2.1 s.2.2.2 s.1 s.2.1 u).2, (twP s.2.2.1 s.2.2.2).1, (twP s.2.2.1 s.2.2.2).2)
  else
    ((twP s.1 s.2.1).1, (twP s.1 s.2.1).2, (joP s.1 s.2.1 s.2.2.1 s.2.2.2 u).1, (joP s.1 s.2.1 s.2.2.1 s.2.2.2 u).2)
def lst (k u : Nat) : Nat → Nat × Nat × Nat × Nat
  | 0 => (1, 0, u, 1)
  | j + 1 => lstep (abit k (255 - j)) u (lst k u j)
def LtS (s : Nat × Nat × Nat × Nat) : Prop := s.1 < 2 ^ 256 ∧ s.2.1 < 2 ^ 256 ∧ s.2.2.1 < 2 ^ 256 ∧ s.2.2.2 < 2 ^ 256
theorem lstep_lt (c u : Nat) (s : Nat × Nat × Nat × Nat) : LtS (lstep c u s) := by
  unfold lstep
  split <;> exact ⟨low_lt, low_lt, low_lt, low_lt⟩
theorem lst_lt (k u : Nat) (hu : u < 2 ^ 256) : ∀ j, LtS (lst k u j)
  | 0 => ⟨by show (1 : Nat) < _; decide +kernel, by show (0 : Nat) < _; decide +kernel, hu, by show (1 : Nat) < _; decide +kernel⟩
  | j + 1 => lstep_lt _ _ _
theorem twC (x z : Nat) (w : World) (hx : x < 2 ^ 256) (hz : z < 2 ^ 256) : Calls Try.prog 109 #[ptV x z] w fun e w' => e = .returned (ptV (twP x z).1 (twP x z).2) ∧ Below w.heap.size w w' := pair_twice _ _ _ _ _ _ _ _ _ _ _ w hx hz rfl rfl rfl rfl rfl rfl rfl rfl rfl
theorem joC (px pz qx qz u : Nat) (w : World) (h1 : px < 2 ^ 256) (h2 : pz < 2 ^ 256) (h3 : qx < 2 ^ 256) (h4 : qz < 2 ^ 256) (h5 : u < 2 ^ 256) : Calls Try.prog 110 #[ptV px pz, ptV qx qz, numV u] w fun e w' => e = .returned (ptV (joP px pz qx qz u).1 (joP px pz qx qz u).2) ∧ Below w.heap.size w w' := pair_joined _ _ _ _ _ _ _ _ _ _ _ _ _ _ _ _ w h1 h2 h3 h4 h5 rfl rfl rfl rfl rfl rfl rfl rfl rfl rfl rfl
/-- What a round of the ladder runs into. -/
theorem round_facts (c u : Nat) (s : Nat × Nat × Nat × Nat) (hc : c = 0 ∨ c = 1) (hu : u < 2 ^ 256) (hs : LtS s) : ∃ p1 p2 q1 q2 t1 t2 j1 j2 f1 f2 h1 h2 : Nat,
    (∀ V, Calls Try.prog 108 #[.int .u64 c, ptV s.1 s.2.1, ptV s.2.2.1 s.2.2.2] V fun e w' => e = .returned (.tuple #[ptV p1 p2, ptV q1 q2]) ∧ Below V.heap.size V w') ∧
    (∀ V, Calls Try.prog 109 #[ptV p1 p2] V fun e w' => e = .returned (ptV t1 t2) ∧ Below V.heap.size V w') ∧
    (∀ V, Calls Try.prog 110 #[ptV p1 p2, ptV q1 q2, numV u] V fun e w' => e = .returned (ptV j1 j2) ∧ Below V.heap.size V w') ∧
    (∀ V, Calls Try.prog 108 #[.int .u64 c, ptV t1 t2, ptV j1 j2] V fun e w' => e = .returned (.tuple #[ptV f1 f2, ptV h1 h2]) ∧ Below V.heap.size V w') ∧
    lstep c u s = (f1, f2, h1, h2) := by
  obtain ⟨a, b, x, y⟩ := s
  obtain ⟨l1, l2, l3, l4⟩ := hs
  rcases hc with rfl | rfl
  · exact ⟨a, b, x, y, _, _, _, _, _, _, _, _, fun V => ladder_swapped 0 a b x y _ _ _ _ V (by omega) rfl rfl rfl rfl, fun V => twC a b V l1 l2, fun V => joC a b x y u V l1 l2 l3 l4 hu, fun V => ladder_swapped 0 _ _ _ _ _ _ _ _ V (by omega) rfl rfl rfl rfl, rfl⟩
  · exact ⟨x, y, a, b, _, _, _, _, _, _, _, _, fun V => ladder_swapped 1 a b x y _ _ _ _ V (by omega) rfl rfl rfl rfl, fun V => twC x y V l3 l4, fun V => joC x y a b u V l3 l4 l1 l2 hu, fun V => ladder_swapped 1 _ _ _ _ _ _ _ _ V (by omega) rfl rfl rfl rfl, rfl⟩
theorem build_pr0 (f : Nat → Nat) (w : World) : (Instr.build 130 #[(0, .agg (arrK .u64 4 f))]).run Try.prog w = .ok (.agg (arrK .u64 8 (cat2 f (wd 0)))) w := run_build w _ _ _ (by kernel_rfl)
theorem ladder_Ladder (k u : Nat) (w : World) (hu : u < 2 ^ 256) : Calls Try.prog 42 #[numV k, numV u] w fun e w' => e = .returned (numV ((lst k u 256).1 * invP (lst k u 256).2.1 % fP)) ∧ Below w.heap.size w w' := by
  have hS := Lib.hid (lst_lt k u hu)
  have hRF := Lib.hid (fun c s (hc : c = 0 ∨ c = 1) (hs : LtS s) => round_facts c u s hc hu hs)
  have hbit := Lib.hid (fun i (hi : i < 256) V => bitC k i hi V)
  have hstp := Lib.hid (fun i (hi : i < 256) => show lst k u (256 - i) = lstep (abit k i) u (lst k u (256 - (i + 1))) by
    rw [show 256 - i = (256 - (i + 1)) + 1 by omega, lst, show 255 - (256 - (i + 1)) = i by omega])
  have hs0 := Lib.hid (show lst k u (256 - 256) = (1, 0, u, 1) from rfl)
  obtain ⟨fx, fz, gx, gz, hfin⟩ : ∃ fx fz gx gz, lst k u (256 - 0) = (fx, fz, gx, gz) := ⟨_, _, _, _, rfl⟩
  have hfl := hS.out (256 - 0)
  rw [show lst k u 256 = lst k u (256 - 0) from rfl, hfin]
  rw [hfin] at hfl
  dsimp only
  have kI := Lib.hid (fun V => field_Inv fz V hfl.2.1)
  have hil : invP fz < 2 ^ 256 := low_lt
  have kM := Lib.hid (fun V => field_Mul fx (invP fz) V hfl.1 hil)
  obtain ⟨iv, hiv⟩ : ∃ i, invP fz = i := ⟨_, rfl⟩
  rw [hiv] at kI kM ⊢
  obtain ⟨r, hr⟩ : ∃ i, fx * iv % fP = i := ⟨_, rfl⟩
  rw [hr] at kM ⊢
  obtain ⟨F, hF⟩ : ∃ F, (fun t => lst k u (256 - t)) = F := ⟨_, rfl⟩
  have hFi : ∀ t, lst k u (256 - t) = F t := fun t => by rw [← hF]
  rw [hFi] at hs0 hfin
  simp only [hFi] at hstp
  replace hS := Lib.hid (fun t => hFi t ▸ hS.out (256 - t))
  replace hfin := Lib.hid hfin
  clear hF hFi hr hiv hil hfl hu
  unfold numV at kI kM ⊢
  unfold numV ptV at hRF
  have hcr := arrK_cells .u64 4 (wd r)
  have hcz := arrK_cells .u64 4 (wd 0)
  have hc0 := arrK_cells .u64 8 (cat2 (wd 0) (wd 0))
  have hcq := arrK_cells .u64 8 (cat2 (wd 1) (wd 0))
  have hcu := arrK_cells .u64 8 (cat2 (wd u) (wd 1))
  have hL0 : Below w.heap.size w (((w.alloc (Obj.cells (arrK .u64 4 (wd k)) 24)).alloc (Obj.cells (arrK .u64 4 (wd u)) 24)).alloc (Obj.cells (arrK .u64 4 (wd 0)) 24)) := by go_grown
  have hA0 : At (((w.alloc (Obj.cells (arrK .u64 4 (wd k)) 24)).alloc (Obj.cells (arrK .u64 4 (wd u)) 24)).alloc (Obj.cells (arrK .u64 4 (wd 0)) 24)) w.heap.size .u64 4 (wd k) := (((At.new _ rfl)).old _).old _
  have hU0 : At (((w.alloc (Obj.cells (arrK .u64 4 (wd k)) 24)).alloc (Obj.cells (arrK .u64 4 (wd u)) 24)).alloc (Obj.cells (arrK .u64 4 (wd 0)) 24)) (w.heap.size + 1) .u64 4 (wd u) := ((At.new _ (by simp))).old _
  have hR0 : Row (((w.alloc (Obj.cells (arrK .u64 4 (wd k)) 24)).alloc (Obj.cells (arrK .u64 4 (wd u)) 24)).alloc (Obj.cells (arrK .u64 4 (wd 0)) 24)) (w.heap.size + 1 + 1) 4 := (At.new (k := .u64) (f := wd 0) _ (by simp)).row
  have hL := Lib.hid hL0
  have hA := Lib.hid hA0
  have hU := Lib.hid hU0
  have hR := Lib.hid hR0
  clear hL0 hA0 hU0 hR0
  go_enter Try.func42, Try.ntmps42
  go_upto_region 1 with (fail)
  generalize ((w.alloc _).alloc _).alloc _ = W0 at *
  generalize ha0 : Act.mk _ _ = a0
  have e3 : a0.tmps[3]?.getD undef = .pointer (some ⟨w.heap.size + 1, 0, none⟩) := by rw [← ha0]; rfl
  have hz0 : a0.tmps.size = 47 := by rw [← ha0]; rfl
  have hha0 := Lib.hid ha0
  clear ha0
  refine wp_region_fresh ⟨fun jx_ => match jx_ with | 0 => some (.agg (arrK .u64 4 (wd 1))) | 1 => some (.agg (arrK .u64 8 (cat2 (wd 1) (wd 0)))) | 2 => some (.agg (arrK .u64 4 (wd u))) | 3 => some (.agg (arrK .u64 4 (wd 1))) | 4 => some (.agg (arrK .u64 8 (cat2 (wd u) (wd 1)))) | _ => none, fun jx_ => match jx_ with | 5 => some 8 | 6 => some 8 | _ => none, fun jx_ => match jx_ with | 7 => some 5 | 8 => some 6 | _ => none, fun jx_ => match jx_ with | 7 => arrK .u64 8 (cat2 (wd 1) (wd 0)) | 8 => arrK .u64 8 (cat2 (wd u) (wd 1)) | _ => #[]⟩ (by kernel_rfl) (by kernel_rfl) (by kernel_rfl) (slotsOk_of hz0 (by kernel_rfl)) rfl ⟨?_, ?_, ?_, ?_, ?_, ?_, ?_, ?_, ?_, trivial⟩ ?_
  · refine fstep_val rfl rfl (calm_step rfl fun aa ω κ hb hu hc hK => ?_)
    have hk := Lib.hid (fun w1 (h : Below ω.heap.size ω w1) => hK (.agg (arrK .u64 4 (wd 1))) w1 rfl h)
    clear hK hu hc
    exact wp_bldA rfl rfl (build_one _) (hk.out _ (Below.refl _ _))
  · refine fstep_val rfl rfl (calm_step rfl fun aa ω κ hb hu hc hK => ?_)
    have h9 : aa.tmps[9]?.getD undef = .agg (arrK .u64 4 (wd 1)) := hc 0 9 rfl rfl
    have hk := Lib.hid (fun w1 (h : Below ω.heap.size ω w1) => hK (.agg (arrK .u64 8 (cat2 (wd 1) (wd 0)))) w1 rfl h)
    clear hK hu hc
    exact wp_bldA (vx := .agg (arrK .u64 4 (wd 1))) rfl (by go_simp) (build_pr0 _ _) (hk.out _ (Below.refl _ _))
  · refine fstep_val rfl rfl (calm_step rfl fun aa ω κ hb hu hc hK => ?_)
    have h3 : aa.tmps[3]?.getD undef = .pointer (some ⟨w.heap.size + 1, 0, none⟩) := (hu 3 rfl).trans e3
    have hk := Lib.hid (fun w1 (h : Below ω.heap.size ω w1) => hK (.agg (arrK .u64 4 (wd u))) w1 rfl h)
    clear hK hu hc
    have hr1 := (hU.out.step hb).row
    have hr2 := (hU.out.step hb).eq
    go_simp
    exact hk.out _ (Below.refl _ _)
  · refine fstep_val rfl rfl (calm_step rfl fun aa ω κ hb hu hc hK => ?_)
    have hk := Lib.hid (fun w1 (h : Below ω.heap.size ω w1) => hK (.agg (arrK .u64 4 (wd 1))) w1 rfl h)
    clear hK hu hc
    exact wp_bldA rfl rfl (build_one _) (hk.out _ (Below.refl _ _))
  · refine fstep_val rfl rfl (calm_step rfl fun aa ω κ hb hu hc hK => ?_)
    have h11 : aa.tmps[11]?.getD undef = .agg (arrK .u64 4 (wd u)) := hc 2 11 rfl rfl
    have h12 : aa.tmps[12]?.getD undef = .agg (arrK .u64 4 (wd 1)) := hc 3 12 rfl rfl
    have hk := Lib.hid (fun w1 (h : Below ω.heap.size ω w1) => hK (.agg (arrK .u64 8 (cat2 (wd u) (wd 1)))) w1 rfl h)
    clear hK hu hc
    exact wp_bldB (v0 := .agg (arrK .u64 4 (wd u))) (v1 := .agg (arrK .u64 4 (wd 1))) rfl (by go_simp) (by go_simp) (build_pr _ _ _) (hk.out _ (Below.refl _ _))
  · refine fstep_al (n := 8) rfl rfl fun aa ω κ hK => ?_
    have hk := Lib.hid hK
    clear hK
    go_simp
    exact hk.out _ _ hc0
  · refine fstep_al (n := 8) rfl rfl fun aa ω κ hK => ?_
    have hk := Lib.hid hK
    clear hK
    go_simp
    exact hk.out _ _ hc0
  · refine fstep_st (j := 5) (n := 8) (d := 5) rfl rfl rfl rfl rfl hcq.1 rfl rfl fun aa ω κ g hb hu hc hp hr hK => ?_
    have h10 : aa.tmps[10]?.getD undef = .agg (arrK .u64 8 (cat2 (wd 1) (wd 0))) := hc 1 10 rfl rfl
    have hk := Lib.hid hK
    clear hK hu hc
    have hcc := hcq
    go_simp
    exact hk.out undef
  · refine fstep_st (j := 6) (n := 8) (d := 6) rfl rfl rfl rfl rfl hcu.1 rfl rfl fun aa ω κ g hb hu hc hp hr hK => ?_
    have h13 : aa.tmps[13]?.getD undef = .agg (arrK .u64 8 (cat2 (wd u) (wd 1))) := hc 4 13 rfl rfl
    have hk := Lib.hid hK
    clear hK hu hc
    have hcc := hcu
    go_simp
    exact hk.out undef
  · intro a1 w1 G I
    have ha0 := hha0.out
    subst ha0
    have he := act_patch (n := 47) [false, false, false, false, false, true, true, false, false, true, true, true, true, true, false, false, false, false, false, false, false, false, false, false, false, false, false, false, false, false, false, false, false, false, false, false, false, false, false, false, false, false, false, false, false, false, false] rfl (by kernel_rfl) I.un I.sz I.df
    simp only [patch, cond_true, cond_false, Nat.reduceAdd] at he
    have hal5 := I.al 5 5 8 rfl rfl rfl
    have hal6 := I.al 6 6 8 rfl rfl rfl
    have hlR := hR.out.lt
    replace hA := Lib.hid (hA.out.step I.bel)
    replace hU := Lib.hid (hU.out.step I.bel)
    replace hR := Lib.hid (row_below hR.out I.bel hR.out.lt)
    replace hL := Lib.hid (below_step I.bel hL.out (Nat.le_refl _))
    have hX5 := Lib.hid (show At w1 (G 5) .u64 8 (cat2 (wd 1) (wd 0)) from ⟨(I.blk 5 8 rfl rfl).2, (I.row 7 5 rfl rfl).2.2⟩)
    have hX6 := Lib.hid (show At w1 (G 6) .u64 8 (cat2 (wd u) (wd 1)) from ⟨(I.blk 6 8 rfl rfl).2, (I.row 8 6 rfl rfl).2.2⟩)
    have hl5 : w.heap.size + 1 + 1 < G 5 := Nat.lt_of_lt_of_le hlR (I.blk 5 8 rfl rfl).1
    have hl6 : w.heap.size + 1 + 1 < G 6 := Nat.lt_of_lt_of_le hlR (I.blk 6 8 rfl rfl).1
    have hne : G 5 ≠ G 6 := I.ne 5 6 8 8 rfl rfl rfl rfl (by decide)
    clear hlR
    clear I hz0 hha0 e3
    rw [he]
    clear he
    rw [hal5]
    rw [hal6]
    clear hal5 hal6
    generalize a1.tmps[9]?.getD undef = x9 at *
    generalize a1.tmps[10]?.getD undef = x10 at *
    generalize a1.tmps[11]?.getD undef = x11 at *
    generalize a1.tmps[12]?.getD undef = x12 at *
    generalize a1.tmps[13]?.getD undef = x13 at *
    go_upto_region 2 with (fail)
    obtain ⟨g5, hg⟩ : ∃ g, G 5 = g := ⟨_, rfl⟩
    rw [hg] at hX5 hl5 hne ⊢
    clear hg
    obtain ⟨g6, hg⟩ : ∃ g, G 6 = g := ⟨_, rfl⟩
    rw [hg] at hX6 hl6 hne ⊢
    clear hg
    generalize w1 = W1 at *
    go_wp2_with fail
    have e1 : F 256 = (1, 0, u, 1) := hs0.out
    have hX5 := Lib.hid (show At W1 g5 .u64 8 (cat2 (wd (F 256).1) (wd (F 256).2.1)) from by rw [e1]; exact hX5.out)
    have hX6 := Lib.hid (show At W1 g6 .u64 8 (cat2 (wd (F 256).2.2.1) (wd (F 256).2.2.2)) from by rw [e1]; exact hX6.out)
    clear e1 hs0
    go_loopw [7] (fun i wr => ∃ t : Nat, i = .int .i64 ((t : Int) - 1) ∧ t ≤ 256 ∧ Hid (At wr w.heap.size .u64 4 (wd k)) ∧ Hid (At wr (w.heap.size + 1) .u64 4 (wd u)) ∧ Hid (Row wr (w.heap.size + 1 + 1) 4) ∧ Hid (Below w.heap.size w wr) ∧ Hid (At wr g5 .u64 8 (cat2 (wd (F t).1) (wd (F t).2.1))) ∧ Hid (At wr g6 .u64 8 (cat2 (wd (F t).2.2.1) (wd (F t).2.2.2)))) (fun i _ => (intOf i + 1).toNat)
    case atStart => exact ⟨256, rfl, by omega, hA, hU, hR, hL, hX5, hX6⟩
    case round =>
      clear hA hU hR hL hX5 hX6
      obtain ⟨t, rfl, ht, hA, hU, hR, hL, hX5, hX6⟩ := hrel
      rcases Nat.eq_zero_or_pos t with rfl | ht0
      · rw [hfin.out] at hX5
        dsimp only at hX5
        rw [show (((0 : Nat) : Int) - 1) = -1 from rfl]
        clear hRF hbit hstp hS hfin hX6 hA hU
        go_upto_region 9 with (fail)
        generalize ha0 : Act.mk _ _ = a0
        have e4 : a0.tmps[4]?.getD undef = .pointer (some ⟨w.heap.size + 1 + 1, 0, none⟩) := by rw [← ha0]; rfl
        have e5 : a0.tmps[5]?.getD undef = .pointer (some ⟨g5, 0, none⟩) := by rw [← ha0]; rfl
        have hz0 : a0.tmps.size = 47 := by rw [← ha0]; rfl
        have hha0 := Lib.hid ha0
        clear ha0
        refine wp_region_one (fun jx_ => match jx_ with | 0 => some (.pointer (some ⟨g5, 0, none⟩)) | 1 => some (.agg (arrK .u64 4 (wd fx))) | 2 => some (.pointer (some ⟨g5, 4, none⟩)) | 3 => some (.agg (arrK .u64 4 (wd fz))) | 4 => some (.agg (arrK .u64 4 (wd iv))) | 5 => some (.agg (arrK .u64 4 (wd r))) | _ => none) 6 ((w.heap.size + 1 + 1)) 4 (arrK .u64 4 (wd r)) (by kernel_rfl) (by kernel_rfl) (by kernel_rfl) (slotsOk_of hz0 (by kernel_rfl)) (of_decide_eq_true (by kernel_rfl)) hR.out ⟨?_, ?_, ?_, ?_, ?_, ?_, ?_, trivial⟩ ?_
        · refine one_before (by decide) (by kernel_rfl) (calm_step rfl fun aa ω κ hb hu hc hK => ?_)
          have h5 : aa.tmps[5]?.getD undef = .pointer (some ⟨g5, 0, none⟩) := (hu 5 rfl).trans e5
          have hk := Lib.hid (fun w1 (h : Below ω.heap.size ω w1) => hK (.pointer (some ⟨g5, 0, none⟩)) w1 rfl h)
          clear hK hu hc
          go_simp
          exact hk.out _ (Below.refl _ _)
        · refine one_before (by decide) (by kernel_rfl) (calm_step rfl fun aa ω κ hb hu hc hK => ?_)
          have h41 : aa.tmps[41]?.getD undef = .pointer (some ⟨g5, 0, none⟩) := hc 0 41 rfl rfl
          have hk := Lib.hid (fun w1 (h : Below ω.heap.size ω w1) => hK (.agg (arrK .u64 4 (wd fx))) w1 rfl h)
          clear hK hu hc
          have hl := pt_0 (hX5.out.step hb)
          have hl1 := hl.1
          have hl2 := hl.2
          go_simp
          exact hk.out _ (Below.refl _ _)
        · refine one_before (by decide) (by kernel_rfl) (calm_step rfl fun aa ω κ hb hu hc hK => ?_)
          have h5 : aa.tmps[5]?.getD undef = .pointer (some ⟨g5, 0, none⟩) := (hu 5 rfl).trans e5
          have hk := Lib.hid (fun w1 (h : Below ω.heap.size ω w1) => hK (.pointer (some ⟨g5, 4, none⟩)) w1 rfl h)
          clear hK hu hc
          go_simp
          exact hk.out _ (Below.refl _ _)
        · refine one_before (by decide) (by kernel_rfl) (calm_step rfl fun aa ω κ hb hu hc hK => ?_)
          have h43 : aa.tmps[43]?.getD undef = .pointer (some ⟨g5, 4, none⟩) := hc 2 43 rfl rfl
          have hk := Lib.hid (fun w1 (h : Below ω.heap.size ω w1) => hK (.agg (arrK .u64 4 (wd fz))) w1 rfl h)
          clear hK hu hc
          have hl := pt_1 (hX5.out.step hb)
          have hl1 := hl.1
          have hl2 := hl.2
          go_simp
          exact hk.out _ (Below.refl _ _)
        · refine one_before (by decide) (by kernel_rfl) (calm_step rfl fun aa ω κ hb hu hc hK => ?_)
          have h44 : aa.tmps[44]?.getD undef = .agg (arrK .u64 4 (wd fz)) := hc 3 44 rfl rfl
          have hk := Lib.hid (fun w1 (h : Below ω.heap.size ω w1) => hK (.agg (arrK .u64 4 (wd iv))) w1 rfl h)
          clear hK hu hc
          go_simp
          go_at_call 26
          refine (kI.out _).mono ?_
          rintro e w1 ⟨rfl, hb1⟩
          exact hk.out _ hb1
        · refine one_before (by decide) (by kernel_rfl) (calm_step rfl fun aa ω κ hb hu hc hK => ?_)
          have h42 : aa.tmps[42]?.getD undef = .agg (arrK .u64 4 (wd fx)) := hc 1 42 rfl rfl
          have h45 : aa.tmps[45]?.getD undef = .agg (arrK .u64 4 (wd iv)) := hc 4 45 rfl rfl
          have hk := Lib.hid (fun w1 (h : Below ω.heap.size ω w1) => hK (.agg (arrK .u64 4 (wd r))) w1 rfl h)
          clear hK hu hc
          go_simp
          go_at_call 24
          refine (kM.out _).mono ?_
          rintro e w1 ⟨rfl, hb1⟩
          exact hk.out _ hb1
        · refine one_q (one_write rfl rfl fun aa ω κ hb hu hc hr hK => ?_)
          have h4 : aa.tmps[4]?.getD undef = .pointer (some ⟨w.heap.size + 1 + 1, 0, none⟩) := (hu 4 rfl).trans e4
          have h46 : aa.tmps[46]?.getD undef = .agg (arrK .u64 4 (wd r)) := hc 5 46 rfl rfl
          have hk := Lib.hid hK
          clear hK hu hc
          have hcc := hcr
          go_simp
          exact hk.out undef
        · intro a1 w1 hb1 hu1 hsz1 hdf1 hv1
          have ha0 := hha0.out
          subst ha0
          have he := act_patch (n := 47) [false, false, false, false, false, false, false, false, false, false, false, false, false, false, false, false, false, false, false, false, false, false, false, false, false, false, false, false, false, false, false, false, false, false, false, false, false, false, false, false, false, true, true, true, true, true, true] rfl (by kernel_rfl) hu1 hsz1 hdf1
          simp only [patch, cond_true, cond_false, Nat.reduceAdd] at he
          have hXz := (At.put (k := .u64) (f := (wd r)) hR.out).below hb1 (by simpa using hR.out.lt)
          have hLz := Lib.hid (Below.trans (below_setRow (c := arrK .u64 4 (wd r)) hL.out (by omega)) (hb1.mono (by simpa using hL.out.size)))
          clear hR hL hX5 kI kM
          clear hb1 hu1 hsz1 hdf1 hv1 hz0 hha0 e4 e5
          rw [he]
          clear he
          generalize a1.tmps[41]?.getD undef = x41 at *
          generalize a1.tmps[42]?.getD undef = x42 at *
          generalize a1.tmps[43]?.getD undef = x43 at *
          generalize a1.tmps[44]?.getD undef = x44 at *
          generalize a1.tmps[45]?.getD undef = x45 at *
          generalize a1.tmps[46]?.getD undef = x46 at *
          go_wp2_with fail
          refine ret_row (p := 4) (ty := 24) (g := (w.heap.size + 1 + 1)) rfl Try.underlying24 rfl (by kernel_rfl) rfl hXz.row rfl ?_
          rw [hXz.eq]
          exact ⟨rfl, hLz.out⟩
      · obtain ⟨i, rfl⟩ : ∃ i, t = i + 1 := ⟨t - 1, by omega⟩
        rw [show (((i + 1 : Nat) : Int) - 1) = (i : Int) by omega]
        have hb1 := Lib.hid (fun V => hbit.out i (by omega) V)
        obtain ⟨p1, p2, q1, q2, t1, t2, j1, j2, f1, f2, h1, h2, kS1, kT, kJ, kS2, hnew⟩ := hRF.out (abit k i) (F (i + 1)) (abit_or k i) (hS.out _)
        have hnF := Lib.hid ((hstp.out i (by omega)).trans hnew)
        replace kS1 := Lib.hid kS1
        replace kT := Lib.hid kT
        replace kJ := Lib.hid kJ
        replace kS2 := Lib.hid kS2
        obtain ⟨c, hc⟩ : ∃ c, abit k i = c := ⟨_, rfl⟩
        rw [hc] at hb1 kS1 kS2
        generalize F (i + 1) = S at *
        obtain ⟨a, b, x, y⟩ := S
        dsimp only at kS1 hX5 hX6
        clear hc hnew hRF hbit hstp hS hfin
        have hcp := arrK_cells .u64 8 (cat2 (wd p1) (wd p2))
        have hcq2 := arrK_cells .u64 8 (cat2 (wd q1) (wd q2))
        have hct := arrK_cells .u64 8 (cat2 (wd t1) (wd t2))
        have hcj := arrK_cells .u64 8 (cat2 (wd j1) (wd j2))
        have hcf := arrK_cells .u64 8 (cat2 (wd f1) (wd f2))
        have hch := arrK_cells .u64 8 (cat2 (wd h1) (wd h2))
        have hr1 := hA.out.row
        have hr2 := hA.out.eq
        go_wp2_with fail
        refine (hb1.out _).mono ?_
        rintro e w2 ⟨rfl, hb⟩
        replace hA := Lib.hid (hA.out.step hb)
        replace hU := Lib.hid (hU.out.step hb)
        replace hR := Lib.hid (row_below hR.out hb hR.out.lt)
        replace hL := Lib.hid (below_step hb hL.out (Nat.le_refl _))
        replace hX5 := Lib.hid (hX5.out.step hb)
        replace hX6 := Lib.hid (hX6.out.step hb)
        clear hr1 hr2 hb hb1
        have hr1 := hX5.out.row
        have hr2 := hX5.out.eq
        have hr3 := hX6.out.row
        have hr4 := hX6.out.eq
        dsimp only
        go_wp2_with fail
        refine (kS1.out _).mono ?_
        rintro e w3 ⟨rfl, hb⟩
        replace hA := Lib.hid (hA.out.step hb)
        replace hU := Lib.hid (hU.out.step hb)
        replace hR := Lib.hid (row_below hR.out hb hR.out.lt)
        replace hL := Lib.hid (below_step hb hL.out (Nat.le_refl _))
        replace hX5 := Lib.hid (hX5.out.step hb)
        replace hX6 := Lib.hid (hX6.out.step hb)
        clear hr1 hr2 hr3 hr4 hb kS1
        have hrw1 := hX5.out.row
        have hrw2 := (row_setRow_far (w := w3) (c' := arrK .u64 8 (cat2 (wd p1) (wd p2))) (show g6 ≠ g5 by omega)).2 hX6.out.row
        replace hA := Lib.hid ((hA.out.far (c := arrK .u64 8 (cat2 (wd p1) (wd p2))) (show w.heap.size ≠ g5 by omega)).far (c := arrK .u64 8 (cat2 (wd q1) (wd q2))) (show w.heap.size ≠ g6 by omega))
        replace hU := Lib.hid ((hU.out.far (c := arrK .u64 8 (cat2 (wd p1) (wd p2))) (show w.heap.size + 1 ≠ g5 by omega)).far (c := arrK .u64 8 (cat2 (wd q1) (wd q2))) (show w.heap.size + 1 ≠ g6 by omega))
        replace hR := Lib.hid ((row_setRow_far (c' := arrK .u64 8 (cat2 (wd q1) (wd q2))) (show w.heap.size + 1 + 1 ≠ g6 by omega)).2 ((row_setRow_far (c' := arrK .u64 8 (cat2 (wd p1) (wd p2))) (show w.heap.size + 1 + 1 ≠ g5 by omega)).2 hR.out))
        replace hL := Lib.hid (below_setRow (c := arrK .u64 8 (cat2 (wd q1) (wd q2))) (below_setRow (c := arrK .u64 8 (cat2 (wd p1) (wd p2))) hL.out (show w.heap.size ≤ g5 by omega)) (show w.heap.size ≤ g6 by omega))
        replace hX5 := Lib.hid ((At.put (k := .u64) (f := cat2 (wd p1) (wd p2)) hrw1).far (c := arrK .u64 8 (cat2 (wd q1) (wd q2))) (show g5 ≠ g6 by omega))
        replace hX6 := Lib.hid (At.put (k := .u64) (f := cat2 (wd q1) (wd q2)) hrw2)
        dsimp only
        go_upto_region 7 with (fail)
        clear hrw1 hrw2
        generalize (w3.setRow _ _).setRow _ _ = W3 at *
        have hrx5 := Lib.hid hX5.out.row
        have hrx6 := Lib.hid hX6.out.row
        generalize ha0 : Act.mk _ _ = a0
        have e3 : a0.tmps[3]?.getD undef = .pointer (some ⟨w.heap.size + 1, 0, none⟩) := by rw [← ha0]; rfl
        have e5 : a0.tmps[5]?.getD undef = .pointer (some ⟨g5, 0, none⟩) := by rw [← ha0]; rfl
        have e6 : a0.tmps[6]?.getD undef = .pointer (some ⟨g6, 0, none⟩) := by rw [← ha0]; rfl
        have hz0 : a0.tmps.size = 47 := by rw [← ha0]; rfl
        have hha0 := Lib.hid ha0
        clear ha0
        refine wp_region_two (fun jx_ => match jx_ with | 0 => some (.agg (arrK .u64 8 (cat2 (wd p1) (wd p2)))) | 1 => some (.agg (arrK .u64 8 (cat2 (wd t1) (wd t2)))) | 2 => some (.agg (arrK .u64 8 (cat2 (wd p1) (wd p2)))) | 3 => some (.agg (arrK .u64 8 (cat2 (wd q1) (wd q2)))) | 4 => some (.agg (arrK .u64 4 (wd u))) | 5 => some (.agg (arrK .u64 8 (cat2 (wd j1) (wd j2)))) | _ => none) 6 (g5) 8 (arrK .u64 8 (cat2 (wd t1) (wd t2))) 7 (g6) 8 (arrK .u64 8 (cat2 (wd j1) (wd j2))) (by kernel_rfl) (by kernel_rfl) (by kernel_rfl) (slotsOk_of hz0 (by kernel_rfl)) (of_decide_eq_true (by kernel_rfl)) (of_decide_eq_true (by kernel_rfl)) (by decide) (by kernel_rfl) (by omega) hrx5.out hrx6.out ⟨?_, ?_, ?_, ?_, ?_, ?_, ?_, ?_, trivial⟩ ?_
        · refine two_before (by decide) (by decide) (by kernel_rfl) (calm_step rfl fun aa ω κ hb hu hc hK => ?_)
          have h5 : aa.tmps[5]?.getD undef = .pointer (some ⟨g5, 0, none⟩) := (hu 5 rfl).trans e5
          have hk := Lib.hid (fun w1 (h : Below ω.heap.size ω w1) => hK (.agg (arrK .u64 8 (cat2 (wd p1) (wd p2)))) w1 rfl h)
          clear hK hu hc
          have hr1 := (hX5.out.step hb).row
          have hr2 := (hX5.out.step hb).eq
          go_simp
          exact hk.out _ (Below.refl _ _)
        · refine two_before (by decide) (by decide) (by kernel_rfl) (calm_step rfl fun aa ω κ hb hu hc hK => ?_)
          have h28 : aa.tmps[28]?.getD undef = .agg (arrK .u64 8 (cat2 (wd p1) (wd p2))) := hc 0 28 rfl rfl
          have hk := Lib.hid (fun w1 (h : Below ω.heap.size ω w1) => hK (.agg (arrK .u64 8 (cat2 (wd t1) (wd t2)))) w1 rfl h)
          clear hK hu hc
          go_simp
          go_at_call 109
          refine (kT.out _).mono ?_
          rintro e w1 ⟨rfl, hb1⟩
          exact hk.out _ hb1
        · refine two_before (by decide) (by decide) (by kernel_rfl) (calm_step rfl fun aa ω κ hb hu hc hK => ?_)
          have h5 : aa.tmps[5]?.getD undef = .pointer (some ⟨g5, 0, none⟩) := (hu 5 rfl).trans e5
          have hk := Lib.hid (fun w1 (h : Below ω.heap.size ω w1) => hK (.agg (arrK .u64 8 (cat2 (wd p1) (wd p2)))) w1 rfl h)
          clear hK hu hc
          have hr1 := (hX5.out.step hb).row
          have hr2 := (hX5.out.step hb).eq
          go_simp
          exact hk.out _ (Below.refl _ _)
        · refine two_before (by decide) (by decide) (by kernel_rfl) (calm_step rfl fun aa ω κ hb hu hc hK => ?_)
          have h6 : aa.tmps[6]?.getD undef = .pointer (some ⟨g6, 0, none⟩) := (hu 6 rfl).trans e6
          have hk := Lib.hid (fun w1 (h : Below ω.heap.size ω w1) => hK (.agg (arrK .u64 8 (cat2 (wd q1) (wd q2)))) w1 rfl h)
          clear hK hu hc
          have hr1 := (hX6.out.step hb).row
          have hr2 := (hX6.out.step hb).eq
          go_simp
          exact hk.out _ (Below.refl _ _)
        · refine two_before (by decide) (by decide) (by kernel_rfl) (calm_step rfl fun aa ω κ hb hu hc hK => ?_)
          have h3 : aa.tmps[3]?.getD undef = .pointer (some ⟨w.heap.size + 1, 0, none⟩) := (hu 3 rfl).trans e3
          have hk := Lib.hid (fun w1 (h : Below ω.heap.size ω w1) => hK (.agg (arrK .u64 4 (wd u))) w1 rfl h)
          clear hK hu hc
          have hr1 := (hU.out.step hb).row
          have hr2 := (hU.out.step hb).eq
          go_simp
          exact hk.out _ (Below.refl _ _)
        · refine two_before (by decide) (by decide) (by kernel_rfl) (calm_step rfl fun aa ω κ hb hu hc hK => ?_)
          have h30 : aa.tmps[30]?.getD undef = .agg (arrK .u64 8 (cat2 (wd p1) (wd p2))) := hc 2 30 rfl rfl
          have h31 : aa.tmps[31]?.getD undef = .agg (arrK .u64 8 (cat2 (wd q1) (wd q2))) := hc 3 31 rfl rfl
          have h32 : aa.tmps[32]?.getD undef = .agg (arrK .u64 4 (wd u)) := hc 4 32 rfl rfl
          have hk := Lib.hid (fun w1 (h : Below ω.heap.size ω w1) => hK (.agg (arrK .u64 8 (cat2 (wd j1) (wd j2)))) w1 rfl h)
          clear hK hu hc
          go_simp
          go_at_call 110
          refine (kJ.out _).mono ?_
          rintro e w1 ⟨rfl, hb1⟩
          exact hk.out _ hb1
        · refine two_q1 (one_write rfl rfl fun aa ω κ hb hu hc hr hK => ?_)
          have h5 : aa.tmps[5]?.getD undef = .pointer (some ⟨g5, 0, none⟩) := (hu 5 rfl).trans e5
          have h29 : aa.tmps[29]?.getD undef = .agg (arrK .u64 8 (cat2 (wd t1) (wd t2))) := hc 1 29 rfl rfl
          have hk := Lib.hid hK
          clear hK hu hc
          have hcc := hct
          go_simp
          exact hk.out undef
        · refine two_q2 (by decide) (one_write rfl rfl fun aa ω κ hb hu hc hr hK => ?_)
          have h6 : aa.tmps[6]?.getD undef = .pointer (some ⟨g6, 0, none⟩) := (hu 6 rfl).trans e6
          have h33 : aa.tmps[33]?.getD undef = .agg (arrK .u64 8 (cat2 (wd j1) (wd j2))) := hc 5 33 rfl rfl
          have hk := Lib.hid hK
          clear hK hu hc
          have hcc := hcj
          go_simp
          exact hk.out undef
        · intro a1 w1 hb1 hu1 hsz1 hdf1 hv1
          have ha0 := hha0.out
          subst ha0
          have he := act_patch (n := 47) [false, false, false, false, false, false, false, false, false, false, false, false, false, false, false, false, false, false, false, false, false, false, false, false, false, false, false, false, true, true, true, true, true, true, false, false, false, false, false, false, false, false, false, false, false, false, false] rfl (by kernel_rfl) hu1 hsz1 hdf1
          simp only [patch, cond_true, cond_false, Nat.reduceAdd] at he
          have hrw6 := (row_setRow_far (w := W3) (c' := arrK .u64 8 (cat2 (wd t1) (wd t2))) (show g6 ≠ g5 by omega)).2 hX6.out.row
          replace hA := Lib.hid (((hA.out.far (c := arrK .u64 8 (cat2 (wd t1) (wd t2))) (show w.heap.size ≠ g5 by omega)).far (c := arrK .u64 8 (cat2 (wd j1) (wd j2))) (show w.heap.size ≠ g6 by omega)).below hb1 (by simpa using hA.out.lt))
          replace hU := Lib.hid (((hU.out.far (c := arrK .u64 8 (cat2 (wd t1) (wd t2))) (show w.heap.size + 1 ≠ g5 by omega)).far (c := arrK .u64 8 (cat2 (wd j1) (wd j2))) (show w.heap.size + 1 ≠ g6 by omega)).below hb1 (by simpa using hU.out.lt))
          replace hR := Lib.hid (row_below ((row_setRow_far (c' := arrK .u64 8 (cat2 (wd j1) (wd j2))) (show w.heap.size + 1 + 1 ≠ g6 by omega)).2 ((row_setRow_far (c' := arrK .u64 8 (cat2 (wd t1) (wd t2))) (show w.heap.size + 1 + 1 ≠ g5 by omega)).2 hR.out)) hb1 (by simpa using hR.out.lt))
          replace hL := Lib.hid (Below.trans (below_setRow (c := arrK .u64 8 (cat2 (wd j1) (wd j2))) (below_setRow (c := arrK .u64 8 (cat2 (wd t1) (wd t2))) hL.out (show w.heap.size ≤ g5 by omega)) (show w.heap.size ≤ g6 by omega)) (hb1.mono (by simpa using hL.out.size)))
          replace hX5 := Lib.hid (((At.put (k := .u64) (f := cat2 (wd t1) (wd t2)) hX5.out.row).far (c := arrK .u64 8 (cat2 (wd j1) (wd j2))) (show g5 ≠ g6 by omega)).below hb1 (by simpa using hX5.out.lt))
          replace hX6 := Lib.hid ((At.put (k := .u64) (f := cat2 (wd j1) (wd j2)) hrw6).below hb1 (by simpa using hX6.out.lt))
          clear kT kJ hrx5 hrx6 hrw6
          clear hb1 hu1 hsz1 hdf1 hv1 hz0 hha0 e3 e5 e6
          rw [he]
          clear he
          generalize a1.tmps[28]?.getD undef = x28 at *
          generalize a1.tmps[29]?.getD undef = x29 at *
          generalize a1.tmps[30]?.getD undef = x30 at *
          generalize a1.tmps[31]?.getD undef = x31 at *
          generalize a1.tmps[32]?.getD undef = x32 at *
          generalize a1.tmps[33]?.getD undef = x33 at *
          generalize w1 = W4 at *
          have hr1 := hX5.out.row
          have hr2 := hX5.out.eq
          have hr3 := hX6.out.row
          have hr4 := hX6.out.eq
          go_wp2_with fail
          refine (kS2.out _).mono ?_
          rintro e w5 ⟨rfl, hb⟩
          replace hA := Lib.hid (hA.out.step hb)
          replace hU := Lib.hid (hU.out.step hb)
          replace hR := Lib.hid (row_below hR.out hb hR.out.lt)
          replace hL := Lib.hid (below_step hb hL.out (Nat.le_refl _))
          replace hX5 := Lib.hid (hX5.out.step hb)
          replace hX6 := Lib.hid (hX6.out.step hb)
          clear hr1 hr2 hr3 hr4 hb kS2
          have hrw1 := hX5.out.row
          have hrw2 := (row_setRow_far (w := w5) (c' := arrK .u64 8 (cat2 (wd f1) (wd f2))) (show g6 ≠ g5 by omega)).2 hX6.out.row
          replace hA := Lib.hid ((hA.out.far (c := arrK .u64 8 (cat2 (wd f1) (wd f2))) (show w.heap.size ≠ g5 by omega)).far (c := arrK .u64 8 (cat2 (wd h1) (wd h2))) (show w.heap.size ≠ g6 by omega))
          replace hU := Lib.hid ((hU.out.far (c := arrK .u64 8 (cat2 (wd f1) (wd f2))) (show w.heap.size + 1 ≠ g5 by omega)).far (c := arrK .u64 8 (cat2 (wd h1) (wd h2))) (show w.heap.size + 1 ≠ g6 by omega))
          replace hR := Lib.hid ((row_setRow_far (c' := arrK .u64 8 (cat2 (wd h1) (wd h2))) (show w.heap.size + 1 + 1 ≠ g6 by omega)).2 ((row_setRow_far (c' := arrK .u64 8 (cat2 (wd f1) (wd f2))) (show w.heap.size + 1 + 1 ≠ g5 by omega)).2 hR.out))
          replace hL := Lib.hid (below_setRow (c := arrK .u64 8 (cat2 (wd h1) (wd h2))) (below_setRow (c := arrK .u64 8 (cat2 (wd f1) (wd f2))) hL.out (show w.heap.size ≤ g5 by omega)) (show w.heap.size ≤ g6 by omega))
          replace hX5 := Lib.hid ((At.put (k := .u64) (f := cat2 (wd f1) (wd f2)) hrw1).far (c := arrK .u64 8 (cat2 (wd h1) (wd h2))) (show g5 ≠ g6 by omega))
          replace hX6 := Lib.hid (At.put (k := .u64) (f := cat2 (wd h1) (wd h2)) hrw2)
          dsimp only
          go_wp2_with fail
          go_roundw
          case rel => exact ⟨i, rfl, by omega, hA, hU, hR, hL, by rw [hnF.out]; exact hX5, by rw [hnF.out]; exact hX6⟩
          case measure => simp [intOf]
end Go.Proofs.Ytodcjeaannfbnaa
namespace Go.Proofs.Ytodcjeaannfbnaa
open Go.ChangeShapes Go.WideShapes Go.ChangeAt Go.RowKit
set_option maxHeartbeats 2000000
set_option maxRecDepth 100000
attribute [local go_sem ↓] load_fld load_num store_num execl_num execs_num load_pr store_pr execl_pr execs_pr load_pt store_pt
attribute [local go_sem] isHead_mk blkOf_mk isAgg_mk cellsV_mk row_drew rowAt_drew row_new_cells row_old rowAt_new rowAt_old setRow_new zeroNum zeroPt
theorem ladder_Of (x y : Nat) (w : World) (hx : x < 2 ^ 256) (hy : y < 2 ^ 256) : Calls Try.prog 41 #[ptV x y] w fun e w' => e = .returned (bif onB x y then .tuple #[numV ((1 + y) % fP * invP (difP 1 y) % fP), .int .i64 0] else .tuple #[numV 0, .int .i64 1]) ∧ Below w.heap.size w w' := by
  have h1l : 1 < 2 ^ 256 := by decide +kernel
  have kO := Lib.hid (fun V => curve_On x y V hx hy)
  have kA := Lib.hid (fun V => field_Add 1 y V h1l hy)
  have kS := Lib.hid (fun V => field_Sub 1 y V h1l hy)
  have kI := Lib.hid (fun V => field_Inv (difP 1 y) V dif_low)
  have kM := Lib.hid (fun V => field_Mul ((1 + y) % fP) (invP (difP 1 y)) V low_lt low_lt)
  obtain ⟨b, hb⟩ : ∃ b, onB x y = b := ⟨_, rfl⟩
  rw [hb] at kO ⊢
  obtain ⟨s, hs⟩ : ∃ d, (1 + y) % fP = d := ⟨_, rfl⟩
  rw [hs] at kA kM ⊢
  obtain ⟨d, hd⟩ : ∃ d, difP 1 y = d := ⟨_, rfl⟩
  rw [hd] at kS kI kM ⊢
  obtain ⟨i, hi⟩ : ∃ v, invP d = v := ⟨_, rfl⟩
  rw [hi] at kI kM ⊢
  obtain ⟨r, hr⟩ : ∃ d, s * i % fP = d := ⟨_, rfl⟩
  rw [hr] at kM ⊢
  clear hr hi hd hs hb hx hy h1l
  unfold numV at kA kS kI kM ⊢
  unfold ptV at kO ⊢
  have hc0 := arrK_cells .u64 4 (wd 0)
  have hc1 := arrK_cells .u64 4 (wd 1)
  have hcr := arrK_cells .u64 4 (wd r)
  have hL0 : Below w.heap.size w ((w.alloc (Obj.cells (arrK .u64 8 (cat2 (wd x) (wd y))) 42)).alloc (Obj.cells (arrK .u64 4 (wd 0)) 24)) := by go_grown
  have hA0 : At ((w.alloc (Obj.cells (arrK .u64 8 (cat2 (wd x) (wd y))) 42)).alloc (Obj.cells (arrK .u64 4 (wd 0)) 24)) w.heap.size .u64 8 (cat2 (wd x) (wd y)) := (At.new _ rfl).old _
  have hR0 : Row ((w.alloc (Obj.cells (arrK .u64 8 (cat2 (wd x) (wd y))) 42)).alloc (Obj.cells (arrK .u64 4 (wd 0)) 24)) (w.heap.size + 1) 4 := (At.new (k := .u64) (f := wd 0) _ (by simp)).row
  have hL := Lib.hid hL0
  have hA := Lib.hid hA0
  have hR := Lib.hid hR0
  clear hL0 hA0 hR0
  go_enter Try.func41, Try.ntmps41
  go_upto_region 1 with (fail)
  generalize (w.alloc _).alloc _ = W0 at *
  have hr1 := hA.out.row
  have hr2 := hA.out.eq
  go_wp2_with fail
  refine (kO.out _).mono ?_
  rintro e w2 ⟨rfl, hbz⟩
  replace hA := Lib.hid (hA.out.step hbz)
  replace hR := Lib.hid (row_below hR.out hbz hR.out.lt)
  replace hL := Lib.hid (below_step hbz hL.out (Nat.le_refl _))
  clear hr1 hr2 hbz kO
  dsimp only
  cases b with
  | false =>
    have hrR := hR.out
    go_wp2_with fail
    exact ret_stored2 (p := 2) (q := 3) (ty := 24) (g := w.heap.size + 1) (n := 4) (c := arrK .u64 4 (wd 0)) rfl Try.underlying24 rfl (by kernel_rfl) rfl hrR hc0.1 rfl ⟨rfl, below_setRow hL.out (by omega)⟩
  | true =>
    have hlt := hR.out.lt
    have hA2 := Lib.hid (hA.out.old (Obj.cells (arrK .u64 4 (wd 1)) 24))
    have hR2 := Lib.hid ((row_old (o := Obj.cells (arrK .u64 4 (wd 1)) 24) hR.out.lt).2 hR.out)
    have hL2 := Lib.hid (Below.trans hL.out ((below_alloc w2 (Obj.cells (arrK .u64 4 (wd 1)) 24)).mono hL.out.size))
    have hX4 := Lib.hid (At.new (w := w2) (k := .u64) (m := 4) (f := wd 1) 24 rfl)
    clear hA hR hL
    have hA := hA2
    have hR := hR2
    have hL := hL2
    clear hA2 hR2 hL2
    go_upto_region 4 with (refine wpList_bldA (vx := Value.int IntKind.u64 (1 : Int)) rfl rfl rfl (build_one _) ?_)
    obtain ⟨g4, hg⟩ : ∃ g, w2.heap.size = g := ⟨_, rfl⟩
    rw [hg] at hX4 hlt ⊢
    clear hg
    generalize w2.alloc _ = W2 at *
    generalize ha0 : Act.mk _ _ = a0
    have e1 : a0.tmps[1]?.getD undef = .pointer (some ⟨w.heap.size, 0, none⟩) := by rw [← ha0]; rfl
    have e2 : a0.tmps[2]?.getD undef = .pointer (some ⟨w.heap.size + 1, 0, none⟩) := by rw [← ha0]; rfl
    have e4 : a0.tmps[4]?.getD undef = .pointer (some ⟨g4, 0, none⟩) := by rw [← ha0]; rfl
    have hz0 : a0.tmps.size = 20 := by rw [← ha0]; rfl
    have hha0 := Lib.hid ha0
    clear ha0
    refine wp_region_one (fun jx_ => match jx_ with | 0 => some (.agg (arrK .u64 4 (wd 1))) | 1 => some (.pointer (some ⟨w.heap.size, 4, none⟩)) | 2 => some (.agg (arrK .u64 4 (wd y))) | 3 => some (.agg (arrK .u64 4 (wd s))) | 4 => some (.agg (arrK .u64 4 (wd 1))) | 5 => some (.pointer (some ⟨w.heap.size, 4, none⟩)) | 6 => some (.agg (arrK .u64 4 (wd y))) | 7 => some (.agg (arrK .u64 4 (wd d))) | 8 => some (.agg (arrK .u64 4 (wd i))) | 9 => some (.agg (arrK .u64 4 (wd r))) | 11 => some ( (Value.int IntKind.i64 0)) | _ => none) 10 ((w.heap.size + 1)) 4 (arrK .u64 4 (wd r)) (by kernel_rfl) (by kernel_rfl) (by kernel_rfl) (slotsOk_of hz0 (by kernel_rfl)) (of_decide_eq_true (by kernel_rfl)) hR.out ⟨?_, ?_, ?_, ?_, ?_, ?_, ?_, ?_, ?_, ?_, ?_, ?_, trivial⟩ ?_
    · refine one_before (by decide) (by kernel_rfl) (calm_step rfl fun aa ω κ hb hu hc hK => ?_)
      have h4 : aa.tmps[4]?.getD undef = .pointer (some ⟨g4, 0, none⟩) := (hu 4 rfl).trans e4
      have hk := Lib.hid (fun w1 (h : Below ω.heap.size ω w1) => hK (.agg (arrK .u64 4 (wd 1))) w1 rfl h)
      clear hK hu hc
      have hr1 := (hX4.out.step hb).row
      have hr2 := (hX4.out.step hb).eq
      go_simp
      exact hk.out _ (Below.refl _ _)
    · refine one_before (by decide) (by kernel_rfl) (calm_step rfl fun aa ω κ hb hu hc hK => ?_)
      have h1 : aa.tmps[1]?.getD undef = .pointer (some ⟨w.heap.size, 0, none⟩) := (hu 1 rfl).trans e1
      have hk := Lib.hid (fun w1 (h : Below ω.heap.size ω w1) => hK (.pointer (some ⟨w.heap.size, 4, none⟩)) w1 rfl h)
      clear hK hu hc
      go_simp
      exact hk.out _ (Below.refl _ _)
    · refine one_before (by decide) (by kernel_rfl) (calm_step rfl fun aa ω κ hb hu hc hK => ?_)
      have h11 : aa.tmps[11]?.getD undef = .pointer (some ⟨w.heap.size, 4, none⟩) := hc 1 11 rfl rfl
      have hk := Lib.hid (fun w1 (h : Below ω.heap.size ω w1) => hK (.agg (arrK .u64 4 (wd y))) w1 rfl h)
      clear hK hu hc
      have hl := pt_1 (hA.out.step hb)
      have hl1 := hl.1
      have hl2 := hl.2
      go_simp
      exact hk.out _ (Below.refl _ _)
    · refine one_before (by decide) (by kernel_rfl) (calm_step rfl fun aa ω κ hb hu hc hK => ?_)
      have h10 : aa.tmps[10]?.getD undef = .agg (arrK .u64 4 (wd 1)) := hc 0 10 rfl rfl
      have h12 : aa.tmps[12]?.getD undef = .agg (arrK .u64 4 (wd y)) := hc 2 12 rfl rfl
      have hk := Lib.hid (fun w1 (h : Below ω.heap.size ω w1) => hK (.agg (arrK .u64 4 (wd s))) w1 rfl h)
      clear hK hu hc
      go_simp
      go_at_call 20
      refine (kA.out _).mono ?_
      rintro e w1 ⟨rfl, hb1⟩
      exact hk.out _ hb1
    · refine one_before (by decide) (by kernel_rfl) (calm_step rfl fun aa ω κ hb hu hc hK => ?_)
      have h4 : aa.tmps[4]?.getD undef = .pointer (some ⟨g4, 0, none⟩) := (hu 4 rfl).trans e4
      have hk := Lib.hid (fun w1 (h : Below ω.heap.size ω w1) => hK (.agg (arrK .u64 4 (wd 1))) w1 rfl h)
      clear hK hu hc
      have hr1 := (hX4.out.step hb).row
      have hr2 := (hX4.out.step hb).eq
      go_simp
      exact hk.out _ (Below.refl _ _)
    · refine one_before (by decide) (by kernel_rfl) (calm_step rfl fun aa ω κ hb hu hc hK => ?_)
      have h1 : aa.tmps[1]?.getD undef = .pointer (some ⟨w.heap.size, 0, none⟩) := (hu 1 rfl).trans e1
      have hk := Lib.hid (fun w1 (h : Below ω.heap.size ω w1) => hK (.pointer (some ⟨w.heap.size, 4, none⟩)) w1 rfl h)
      clear hK hu hc
      go_simp
      exact hk.out _ (Below.refl _ _)
    · refine one_before (by decide) (by kernel_rfl) (calm_step rfl fun aa ω κ hb hu hc hK => ?_)
      have h15 : aa.tmps[15]?.getD undef = .pointer (some ⟨w.heap.size, 4, none⟩) := hc 5 15 rfl rfl
      have hk := Lib.hid (fun w1 (h : Below ω.heap.size ω w1) => hK (.agg (arrK .u64 4 (wd y))) w1 rfl h)
      clear hK hu hc
      have hl := pt_1 (hA.out.step hb)
      have hl1 := hl.1
      have hl2 := hl.2
      go_simp
      exact hk.out _ (Below.refl _ _)
    · refine one_before (by decide) (by kernel_rfl) (calm_step rfl fun aa ω κ hb hu hc hK => ?_)
      have h14 : aa.tmps[14]?.getD undef = .agg (arrK .u64 4 (wd 1)) := hc 4 14 rfl rfl
      have h16 : aa.tmps[16]?.getD undef = .agg (arrK .u64 4 (wd y)) := hc 6 16 rfl rfl
      have hk := Lib.hid (fun w1 (h : Below ω.heap.size ω w1) => hK (.agg (arrK .u64 4 (wd d))) w1 rfl h)
      clear hK hu hc
      go_simp
      go_at_call 22
      refine (kS.out _).mono ?_
      rintro e w1 ⟨rfl, hb1⟩
      exact hk.out _ hb1
    · refine one_before (by decide) (by kernel_rfl) (calm_step rfl fun aa ω κ hb hu hc hK => ?_)
      have h17 : aa.tmps[17]?.getD undef = .agg (arrK .u64 4 (wd d)) := hc 7 17 rfl rfl
      have hk := Lib.hid (fun w1 (h : Below ω.heap.size ω w1) => hK (.agg (arrK .u64 4 (wd i))) w1 rfl h)
      clear hK hu hc
      go_simp
      go_at_call 26
      refine (kI.out _).mono ?_
      rintro e w1 ⟨rfl, hb1⟩
      exact hk.out _ hb1
    · refine one_before (by decide) (by kernel_rfl) (calm_step rfl fun aa ω κ hb hu hc hK => ?_)
      have h13 : aa.tmps[13]?.getD undef = .agg (arrK .u64 4 (wd s)) := hc 3 13 rfl rfl
      have h18 : aa.tmps[18]?.getD undef = .agg (arrK .u64 4 (wd i)) := hc 8 18 rfl rfl
      have hk := Lib.hid (fun w1 (h : Below ω.heap.size ω w1) => hK (.agg (arrK .u64 4 (wd r))) w1 rfl h)
      clear hK hu hc
      go_simp
      go_at_call 24
      refine (kM.out _).mono ?_
      rintro e w1 ⟨rfl, hb1⟩
      exact hk.out _ hb1
    · refine one_q (one_write rfl rfl fun aa ω κ hb hu hc hr hK => ?_)
      have h2 : aa.tmps[2]?.getD undef = .pointer (some ⟨w.heap.size + 1, 0, none⟩) := (hu 2 rfl).trans e2
      have h19 : aa.tmps[19]?.getD undef = .agg (arrK .u64 4 (wd r)) := hc 9 19 rfl rfl
      have hk := Lib.hid hK
      clear hK hu hc
      have hcc := hcr
      go_simp
      exact hk.out undef
    · refine one_free (by decide) fun W_ => calm_step rfl fun aa ω κ hb hu hc hK => ?_
      have hk := Lib.hid (fun w1 (h : Below ω.heap.size ω w1) => hK ( (Value.int IntKind.i64 0)) w1 rfl h)
      clear hK hu hc
      go_simp
      exact hk.out _ (Below.refl _ _)
    · intro a1 w1 hb1 hu1 hsz1 hdf1 hv1
      have ha0 := hha0.out
      subst ha0
      have he := act_patch (n := 20) [false, false, false, true, false, false, false, false, false, false, true, true, true, true, true, true, true, true, true, true] rfl (by kernel_rfl) hu1 hsz1 hdf1
      simp only [patch, cond_true, cond_false, Nat.reduceAdd] at he
      have hXz := (At.put (k := .u64) (f := (wd r)) hR.out).below hb1 (by simpa using hR.out.lt)
      have hLz := Lib.hid (Below.trans (below_setRow (c := arrK .u64 4 (wd r)) hL.out (by omega)) (hb1.mono (by simpa using hL.out.size)))
      clear hR hL hA hX4 kA kS kI kM
      have h3 : a1.tmps[3]?.getD undef = .int .i64 0 := hv1 11 3 (by decide) rfl
      clear hb1 hu1 hsz1 hdf1 hv1 hz0 hha0 e1 e2 e4
      rw [he]
      clear he
      generalize a1.tmps[3]?.getD undef = x3 at *
      generalize a1.tmps[10]?.getD undef = x10 at *
      generalize a1.tmps[11]?.getD undef = x11 at *
      generalize a1.tmps[12]?.getD undef = x12 at *
      generalize a1.tmps[13]?.getD undef = x13 at *
      generalize a1.tmps[14]?.getD undef = x14 at *
      generalize a1.tmps[15]?.getD undef = x15 at *
      generalize a1.tmps[16]?.getD undef = x16 at *
      generalize a1.tmps[17]?.getD undef = x17 at *
      generalize a1.tmps[18]?.getD undef = x18 at *
      generalize a1.tmps[19]?.getD undef = x19 at *
      have hx3 : x3 = .int .i64 0 := h3
      subst hx3
      go_wp2_with fail
      refine ret_row2c (p := 2) (q := 3) (ty := 24) (g := w.heap.size + 1) (n := 4) rfl Try.underlying24 rfl (by kernel_rfl) rfl hXz.row rfl ?_
      rw [hXz.eq]
      exact ⟨rfl, hLz.out⟩
end Go.Proofs.Ytodcjeaannfbnaa
namespace Go.Proofs.Ytodcjeaannfbnaa
/-- The value of the first n digits. -/
def dval (f : Nat → Nat) : Nat → Nat
  | 0 => 0
  | n + 1 => dval f n + 65536 ^ n * f n
/-- Digit i. -/
def dgt (n i : Nat) : Nat := n / 65536 ^ i % 65536
theorem dgt_lt (n i : Nat) : dgt n i < 65536 := Nat.mod_lt _ (by omega)
theorem dval_dgt (n k : Nat) : dval (dgt n) k = n % 65536 ^ k := by
  induction k with
  | zero => simp [dval, Nat.mod_one]
  | succ k ih => rw [dval, ih, Nat.pow_succ, Nat.mod_mul]; rfl
theorem dval_lt {f : Nat → Nat} {k : Nat} (h : ∀ i < k, f i < 65536) : dval f k < 65536 ^ k := by
  induction k with
  | zero => simp [dval]
  | succ k ih =>
    have h1 := ih fun i hi => h i (by omega)
    have h2 := h k (by omega)
    rw [dval, Nat.pow_succ]
    have h3 : 65536 ^ k * f k ≤ 65536 ^ k * 65535 := Nat.mul_le_mul_left _ (by omega)
    generalize 65536 ^ k = P at *
    omega
theorem dval_congr {f g : Nat → Nat} {k : Nat} (h : ∀ i < k, f i = g i) : dval f k = dval g k := by
  induction k with
  | zero => rfl
  | succ k ih => rw [dval, dval, ih fun i hi => h i (by omega), h k (by omega)]
theorem dgt_dval {f : Nat → Nat} {k : Nat} (h : ∀ i < k, f i < 65536) : ∀ i < k, dgt (dval f k) i = f i := by
  induction k with
  | zero => intro i hi; omega
  | succ k ih =>
    intro i hi
    have h1 := dval_lt (f := f) (k := k) fun j hj => h j (by omega)
    unfold dgt
    rw [dval]
    by_cases e : i = k
    · subst e
      rw [Nat.add_mul_div_left _ _ (Nat.pow_pos (by omega)), Nat.div_eq_of_lt h1, Nat.zero_add, Nat.mod_eq_of_lt (h i hi)]
    · have hik : i < k := by omega
      have h2 := ih (fun j hj => h j (by omega)) i hik
      unfold dgt at h2
      rw [← h2]
      obtain ⟨m, rfl⟩ : ∃ m, k = i + 1 + m := ⟨k - i - 1, by omega⟩
      rw [show 65536 ^ (i + 1 + m) * f (i + 1 + m) = 65536 ^ i * (65536 * (65536 ^ m * f (i + 1 + m))) by rw [Nat.pow_add, Nat.pow_succ, Nat.mul_assoc, Nat.mul_assoc], Nat.add_mul_div_left _ _ (Nat.pow_pos (by omega)), Nat.add_mul_mod_self_left]
theorem dval_le {f : Nat → Nat} {k B : Nat} (h : ∀ i < k, f i ≤ B) : dval f k ≤ B * 65536 ^ k := by
  induction k with
  | zero => simp [dval]
  | succ k ih =>
    have h1 := ih fun i hi => h i (by omega)
    have h3 : 65536 ^ k * f k ≤ 65536 ^ k * B := Nat.mul_le_mul_left _ (h k (by omega))
    rw [dval, Nat.pow_succ, ← Nat.mul_assoc]
    rw [Nat.mul_comm _ B] at h3
    generalize B * 65536 ^ k = P at *
    omega
theorem p16 : (65536 : Nat) ^ 16 = 2 ^ 256 := by decide +kernel

/-! A pass over the digits with a carry. -/
def lcar (f : Nat → Nat) (c : Nat) : Nat → Nat
  | 0 => c
  | k + 1 => (lcar f c k + f k) / 65536
def lout (f : Nat → Nat) (c k : Nat) : Nat := (lcar f c k + f k) % 65536
theorem lout_lt (f : Nat → Nat) (c k : Nat) : lout f c k < 65536 := Nat.mod_lt _ (by omega)
theorem lout_dval (f : Nat → Nat) (c n : Nat) : dval (lout f c) n + 65536 ^ n * lcar f c n = dval f n + c := by
  induction n with
  | zero => simp [dval, lcar]
  | succ n ih =>
    have h5 : lout f c n + 65536 * lcar f c (n + 1) = lcar f c n + f n := by unfold lout; rw [show lcar f c (n + 1) = (lcar f c n + f n) / 65536 from rfl]; omega
    simp only [dval]
    rw [Nat.pow_succ]
    generalize 65536 ^ n = P at *
    have h6 : P * (lout f c n + 65536 * lcar f c (n + 1)) = P * (lcar f c n + f n) := by rw [h5]
    rw [Nat.mul_add, Nat.mul_add] at h6
    rw [Nat.mul_assoc]
    omega
/-- Small enough that nothing runs over. -/
def Tame (f : Nat → Nat) : Prop := ∀ i < 17, f i < 36028797018963968
theorem lcar_le {f : Nat → Nat} {c : Nat} (h : Tame f) (hc : c ≤ 1369094286720630784) : ∀ k ≤ 17, lcar f c k ≤ 1369094286720630784
  | 0, _ => hc
  | k + 1, hk => by
    have h1 := lcar_le h hc k (by omega)
    have h2 := h k (by omega)
    unfold lcar; omega
/-- One pass of least. -/
def lpass (f : Nat → Nat) (i : Nat) : Nat := if i < 16 then lout f (f 16 * 38) i else lcar f (f 16 * 38) 16
def lpassN (f : Nat → Nat) : Nat → Nat → Nat
  | 0 => f
  | k + 1 => lpass (lpassN f k)
theorem lpass_tame {f : Nat → Nat} (h : Tame f) : Tame (lpass f) := by
  intro i hi
  unfold lpass
  split
  · exact Nat.lt_trans (lout_lt _ _ _) (by omega)
  · have h16 := h 16 (by omega)
    have h1 := lcar_le (c := f 16 * 38) h (by omega) 15 (by omega)
    have h2 := h 15 (by omega)
    show (lcar f (f 16 * 38) 15 + f 15) / 65536 < _
    omega
theorem lpassN_tame {f : Nat → Nat} (h : Tame f) : ∀ k, Tame (lpassN f k)
  | 0 => h
  | k + 1 => lpass_tame (lpassN_tame h k)
/-- What a pass does to the value. -/
theorem lpass_val (f : Nat → Nat) : dval (lpass f) 16 + 2 ^ 256 * lpass f 16 = dval f 16 + 38 * f 16 := by
  have h := lout_dval f (f 16 * 38) 16
  rw [p16] at h
  rw [dval_congr (f := lpass f) (g := lout f (f 16 * 38)) (k := 16) fun i hi => by unfold lpass; rw [if_pos hi], show lpass f 16 = lcar f (f 16 * 38) 16 from rfl]
  omega
theorem lpass_low (f : Nat → Nat) : dval (lpass f) 16 < 2 ^ 256 := by
  rw [← p16]
  exact dval_lt fun i hi => by unfold lpass; rw [if_pos hi]; exact lout_lt _ _ _
theorem lpass_mod (f : Nat → Nat) : (dval (lpass f) 16 + 2 ^ 256 * lpass f 16) % fP = (dval f 16 + 2 ^ 256 * f 16) % fP := by rw [lpass_val, fold_P]
theorem lpass_three {f : Nat → Nat} (h : Tame f) : lpassN f 3 16 = 0 ∧ dval (lpassN f 3) 16 % fP = (dval f 16 + 2 ^ 256 * f 16) % fP := by
  have t1 := lpassN_tame h 1
  have m1 := lpass_mod f
  have m2 := lpass_mod (lpassN f 1)
  have m3 := lpass_mod (lpassN f 2)
  have v2 := lpass_val (lpassN f 1)
  have v3 := lpass_val (lpassN f 2)
  have l1 := lpass_low f
  have l2 := lpass_low (lpassN f 1)
  have l3 := lpass_low (lpassN f 2)
  have b1 := t1 16 (by omega)
  rw [show lpass f = lpassN f 1 from rfl] at m1 l1
  rw [show lpass (lpassN f 1) = lpassN f 2 from rfl] at m2 v2 l2
  rw [show lpass (lpassN f 2) = lpassN f 3 from rfl] at m3 v3 l3
  have hQ : 100 * 36028797018963968 < 2 ^ 256 := by decide +kernel
  have hz : lpassN f 3 16 = 0 := by
    generalize lpassN f 3 16 = c3 at *
    generalize lpassN f 2 16 = c2 at *
    generalize lpassN f 1 16 = c1 at *
    generalize (2 : Nat) ^ 256 = Q at *
    have h2 : c2 = 0 ∨ c2 = 1 := by
      rcases Nat.lt_or_ge c2 2 with h | h
      · omega
      · have : Q * 2 ≤ Q * c2 := Nat.mul_le_mul_left _ h
        omega
    rcases Nat.eq_zero_or_pos c3 with h3 | h3
    · exact h3
    · have : Q * 1 ≤ Q * c3 := Nat.mul_le_mul_left _ h3
      rcases h2 with rfl | rfl <;> omega
  refine ⟨hz, ?_⟩
  rw [hz, Nat.mul_zero, Nat.add_zero] at m3
  rw [m3, m2, m1]

/-! Subtraction with a borrow. -/
def dbor (f g : Nat → Nat) : Nat → Nat
  | 0 => 0
  | k + 1 => if f k < g k + dbor f g k then 1 else 0
def ddif (f g : Nat → Nat) (k : Nat) : Nat := if f k < g k + dbor f g k then f k + 65536 - g k - dbor f g k else f k - g k - dbor f g k
theorem dbor_le (f g : Nat → Nat) (k : Nat) : dbor f g k ≤ 1 := by
  cases k with
  | zero => simp [dbor]
  | succ k => unfold dbor; split <;> omega
theorem ddif_lt {f g : Nat → Nat} {k : Nat} (hf : f k < 65536) (hg : g k < 65536) : ddif f g k < 65536 := by
  have := dbor_le f g k
  unfold ddif
  split <;> omega
theorem ddif_dval {f g : Nat → Nat} {n : Nat} (hf : ∀ i < n, f i < 65536) (hg : ∀ i < n, g i < 65536) : dval (ddif f g) n + dval g n = dval f n + 65536 ^ n * dbor f g n := by
  induction n with
  | zero => simp [dval, dbor]
  | succ n ih =>
    have ih := ih (fun i hi => hf i (by omega)) (fun i hi => hg i (by omega))
    have h1 := hf n (by omega)
    have h2 := hg n (by omega)
    have hb := dbor_le f g n
    have h5 : ddif f g n + g n + dbor f g n = f n + 65536 * dbor f g (n + 1) := by
      rw [show dbor f g (n + 1) = if f n < g n + dbor f g n then 1 else 0 from rfl]
      unfold ddif
      split <;> omega
    simp only [dval]
    rw [Nat.pow_succ]
    generalize 65536 ^ n = P at *
    have h6 : P * (ddif f g n + g n + dbor f g n) = P * (f n + 65536 * dbor f g (n + 1)) := by rw [h5]
    rw [Nat.mul_add, Nat.mul_add, Nat.mul_add] at h6
    rw [Nat.mul_assoc]
    omega
/-- The modulus, digit by digit. -/
def pdig (i : Nat) : Nat := if i = 0 then 65517 else if i = 15 then 32767 else 65535
theorem pdig_lt (i : Nat) : pdig i < 65536 := by unfold pdig; split <;> (try split) <;> omega
theorem pdig_val : dval pdig 16 = fP := by decide +kernel
theorem less_P {v : Nat} (hv : v < 2 ^ 256) : (v < fP → dbor (dgt v) pdig 16 = 1) ∧ (fP ≤ v → dbor (dgt v) pdig 16 = 0 ∧ dval (ddif (dgt v) pdig) 16 = v - fP) := by
  have h := ddif_dval (f := dgt v) (g := pdig) (n := 16) (fun i _ => dgt_lt v i) (fun i _ => pdig_lt i)
  have hl := dval_lt (f := ddif (dgt v) pdig) (k := 16) (fun i _ => ddif_lt (dgt_lt v i) (pdig_lt i))
  rw [dval_dgt, pdig_val, p16, Nat.mod_eq_of_lt hv] at h
  rw [p16] at hl
  have hb := dbor_le (dgt v) pdig 16
  have hp := P_lt
  generalize dbor (dgt v) pdig 16 = b at *
  generalize (2 : Nat) ^ 256 = Q at *
  generalize fP = P at *
  have : b = 0 ∨ b = 1 := by omega
  rcases this with rfl | rfl
  · exact ⟨fun h => by omega, fun _ => ⟨rfl, by omega⟩⟩
  · exact ⟨fun _ => rfl, fun h => by omega⟩
end Go.Proofs.Ytodcjeaannfbnaa
namespace Go.Proofs.Ytodcjeaannfbnaa
open Go.ChangeShapes Go.WideShapes Go.ChangeAt Go.RowKit
set_option maxHeartbeats 2000000
set_option maxRecDepth 100000
theorem load_fe {w : World} {dst : Option Tmp} {x : Operand} {tt : TypeId} {pos : String} {af : Array Edge} {gd : Option (Nat × Bool)} {a : Act} {K : Act → World → Prop} {Q : Exit → Act → World → Prop}
    (hv : IsHead (a.eval x)) (h : Row w (blkOf (a.eval x)) 16) : Oper.wp Try.prog ⟨dst, .load 26 x, tt, pos, af, gd⟩ a w K Q ↔ K (a.put dst (.agg (rowAt w (blkOf (a.eval x))))) w :=
  wp_load_whole Try.underlying26 rfl (by kernel_rfl) hv h
theorem store_fe {w : World} {dst : Option Tmp} {x y : Operand} {tt : TypeId} {pos : String} {af : Array Edge} {gd : Option (Nat × Bool)} {a : Act} {K : Act → World → Prop} {Q : Exit → Act → World → Prop}
    (hv : IsHead (a.eval x)) (h : Row w (blkOf (a.eval x)) 16) (hx : IsAgg (a.eval y) 16) : Oper.wp Try.prog ⟨dst, .store 26 x y, tt, pos, af, gd⟩ a w K Q ↔ K (a.put dst undef) (w.setRow (blkOf (a.eval x)) (cellsV (a.eval y))) :=
  wp_store_whole (by kernel_rfl) hv h hx
theorem execl_fe {w : World} {dst : Option Tmp} {x : Operand} {tt : TypeId} {pos : String} {af : Array Edge} {gd : Option (Nat × Bool)} {ρ : Operand → Value}
    (hv : IsHead (ρ x)) (h : Row w (blkOf (ρ x)) 16) : (execOp ρ ⟨dst, .load 26 x, tt, pos, af, gd⟩).run Try.prog w = .ok (.value (.agg (rowAt w (blkOf (ρ x))))) w :=
  exec_load_whole Try.underlying26 rfl (by kernel_rfl) hv h
theorem execs_fe {w : World} {dst : Option Tmp} {x y : Operand} {tt : TypeId} {pos : String} {af : Array Edge} {gd : Option (Nat × Bool)} {ρ : Operand → Value}
    (hv : IsHead (ρ x)) (h : Row w (blkOf (ρ x)) 16) (hx : IsAgg (ρ y) 16) : (execOp ρ ⟨dst, .store 26 x y, tt, pos, af, gd⟩).run Try.prog w = .ok .skip (w.setRow (blkOf (ρ x)) (cellsV (ρ y))) :=
  exec_store_whole (by kernel_rfl) hv h hx
theorem load_t17 {w : World} {dst : Option Tmp} {x : Operand} {tt : TypeId} {pos : String} {af : Array Edge} {gd : Option (Nat × Bool)} {a : Act} {K : Act → World → Prop} {Q : Exit → Act → World → Prop}
    (hv : IsHead (a.eval x)) (h : Row w (blkOf (a.eval x)) 17) : Oper.wp Try.prog ⟨dst, .load 114 x, tt, pos, af, gd⟩ a w K Q ↔ K (a.put dst (.agg (rowAt w (blkOf (a.eval x))))) w :=
  wp_load_whole Try.underlying114 rfl (by kernel_rfl) hv h
theorem store_t17 {w : World} {dst : Option Tmp} {x y : Operand} {tt : TypeId} {pos : String} {af : Array Edge} {gd : Option (Nat × Bool)} {a : Act} {K : Act → World → Prop} {Q : Exit → Act → World → Prop}
    (hv : IsHead (a.eval x)) (h : Row w (blkOf (a.eval x)) 17) (hx : IsAgg (a.eval y) 17) : Oper.wp Try.prog ⟨dst, .store 114 x y, tt, pos, af, gd⟩ a w K Q ↔ K (a.put dst undef) (w.setRow (blkOf (a.eval x)) (cellsV (a.eval y))) :=
  wp_store_whole (by kernel_rfl) hv h hx
theorem execl_t17 {w : World} {dst : Option Tmp} {x : Operand} {tt : TypeId} {pos : String} {af : Array Edge} {gd : Option (Nat × Bool)} {ρ : Operand → Value}
    (hv : IsHead (ρ x)) (h : Row w (blkOf (ρ x)) 17) : (execOp ρ ⟨dst, .load 114 x, tt, pos, af, gd⟩).run Try.prog w = .ok (.value (.agg (rowAt w (blkOf (ρ x))))) w :=
  exec_load_whole Try.underlying114 rfl (by kernel_rfl) hv h
theorem execs_t17 {w : World} {dst : Option Tmp} {x y : Operand} {tt : TypeId} {pos : String} {af : Array Edge} {gd : Option (Nat × Bool)} {ρ : Operand → Value}
    (hv : IsHead (ρ x)) (h : Row w (blkOf (ρ x)) 17) (hx : IsAgg (ρ y) 17) : (execOp ρ ⟨dst, .store 114 x y, tt, pos, af, gd⟩).run Try.prog w = .ok .skip (w.setRow (blkOf (ρ x)) (cellsV (ρ y))) :=
  exec_store_whole (by kernel_rfl) hv h hx

theorem zeroFe : #[Value.int IntKind.i64 0, Value.int IntKind.i64 0, Value.int IntKind.i64 0, Value.int IntKind.i64 0, Value.int IntKind.i64 0, Value.int IntKind.i64 0, Value.int IntKind.i64 0, Value.int IntKind.i64 0, Value.int IntKind.i64 0, Value.int IntKind.i64 0, Value.int IntKind.i64 0, Value.int IntKind.i64 0, Value.int IntKind.i64 0, Value.int IntKind.i64 0, Value.int IntKind.i64 0, Value.int IntKind.i64 0] = arrK .i64 16 fun _ => 0 := by kernel_rfl
theorem zeroT : #[Value.int IntKind.i64 0, Value.int IntKind.i64 0, Value.int IntKind.i64 0, Value.int IntKind.i64 0, Value.int IntKind.i64 0, Value.int IntKind.i64 0, Value.int IntKind.i64 0, Value.int IntKind.i64 0, Value.int IntKind.i64 0, Value.int IntKind.i64 0, Value.int IntKind.i64 0, Value.int IntKind.i64 0, Value.int IntKind.i64 0, Value.int IntKind.i64 0, Value.int IntKind.i64 0, Value.int IntKind.i64 0, Value.int IntKind.i64 0] = arrK .i64 17 fun _ => 0 := by kernel_rfl
def feV (n : Nat) : Value := .agg (arrK .i64 16 (dgt n))
theorem num_andM {a : Nat} (ha : a < 9223372036854775808) : bits .and .i64 (a : Int) 65535 = ((a % 65536 : Nat) : Int) := by
  have hx : a &&& 65535 < 2 ^ 63 := Nat.lt_of_le_of_lt Nat.and_le_left ha
  show IntKind.i64.wrap ((BitVec.ofInt 64 (a : Int) &&& BitVec.ofInt 64 ((65535 : Nat) : Int)).toNat : Int) = _
  rw [BitVec.toNat_and, num_ofInt a ha, num_ofInt 65535 (by omega), IntKind.wrap_i64]
  rw [show (65535 : Nat) = 2 ^ 16 - 1 from rfl, Nat.and_two_pow_sub_one_eq_mod] at *
  omega
/-- The digits in the middle of a pass. -/
def midF (f : Nat → Nat) (c s j : Nat) : Nat := if j < s then lout f c j else if j = 16 then 0 else f j
/-- The number in a block of sixteen digits. -/
def feOfW (w : World) (g : Nat) : Nat := dval (fun i => (intOf ((rowAt w g)[i]?.getD undef)).toNat) 16
theorem feOfW_at {w : World} {g n : Nat} (h : At w g .i64 16 (dgt n)) (hn : n < 2 ^ 256) : feOfW w g = n := by
  unfold feOfW
  rw [h.eq, dval_congr (g := dgt n) fun i hi => by rw [arrK_at hi]; simp [intOf], dval_dgt, p16]
  exact Nat.mod_eq_of_lt hn
def mixD (f : Nat → Nat) (s j : Nat) : Nat := if j < s then f j else 0
theorem mixD_step (f : Nat → Nat) (s p : Nat) : upd (mixD f s) s (f s) p = mixD f (s + 1) p := by
  unfold upd mixD
  by_cases h : p = s
  · subst h; simp
  · by_cases h2 : p < s
    · simp [h, h2, show p < s + 1 by omega]
    · simp [h, h2, show ¬ p < s + 1 by omega]
theorem midF_step (f : Nat → Nat) (c s p : Nat) : upd (midF f c s) s (lout f c s) p = midF f c (s + 1) p := by
  unfold upd midF
  by_cases h : p = s
  · subst h; simp
  · by_cases h2 : p < s
    · simp [h, h2, show p < s + 1 by omega]
    · simp [h, h2, show ¬ p < s + 1 by omega]
theorem midF_start (f : Nat → Nat) (c p : Nat) : upd f 16 0 p = midF f c 0 p := by
  unfold upd midF
  by_cases h : p = 16
  · subst h; simp
  · simp [h]
theorem midF_end (f : Nat → Nat) (p : Nat) (hp : p < 17) : upd (midF f (f 16 * 38) 16) 16 (lcar f (f 16 * 38) 16) p = lpass f p := by
  unfold upd midF lpass
  by_cases h : p = 16
  · subst h; rw [if_pos rfl, if_neg (by omega)]
  · rw [if_neg h, if_pos (by omega), if_pos (by omega)]
attribute [local go_sem ↓] load_fe store_fe execl_fe execs_fe load_t17 store_t17 execl_t17 execs_t17
attribute [local go_sem] isHead_mk blkOf_mk isAgg_mk cellsV_mk row_drew rowAt_drew row_new_cells row_old rowAt_new rowAt_old setRow_new zeroFe zeroT
theorem ref_least (f : Nat → Nat) (w : World) (hf : Tame f) : Calls Try.prog 95 #[.agg (arrK .i64 17 f)] w fun e w' => e = .returned (feV ((dval f 16 + 2 ^ 256 * f 16) % fP)) ∧ Below w.heap.size w w' := by
  have hfin := Lib.hid (lpass_three hf)
  have htm := Lib.hid (lpassN_tame hf)
  obtain ⟨V, hV⟩ : ∃ V, (dval f 16 + 2 ^ 256 * f 16) % fP = V := ⟨_, rfl⟩
  rw [hV] at hfin ⊢
  clear hV hf
  have hc0 := arrK_cells .i64 16 fun _ => 0
  have hL0 : Below w.heap.size w ((w.alloc (Obj.cells (arrK .i64 17 f) 114)).alloc (Obj.cells (arrK .i64 16 fun _ => 0) 26)) := by go_grown
  have hT0 : At ((w.alloc (Obj.cells (arrK .i64 17 f) 114)).alloc (Obj.cells (arrK .i64 16 fun _ => 0) 26)) w.heap.size .i64 17 f := (At.new _ rfl).old _
  have hR0 : Row ((w.alloc (Obj.cells (arrK .i64 17 f) 114)).alloc (Obj.cells (arrK .i64 16 fun _ => 0) 26)) (w.heap.size + 1) 16 := (At.new (k := .i64) (f := fun _ => 0) _ (by simp)).row
  have hL := Lib.hid hL0
  have hR := Lib.hid hR0
  have hT := Lib.hid hT0
  clear hL0 hR0 hT0
  go_enter Try.func95, Try.ntmps95
  go_wp2_with fail
  generalize (w.alloc _).alloc _ = W0 at *
  go_loopw [11] (fun i wr => ∃ k : Nat, i = .int .i64 k ∧ k ≤ 3 ∧ Hid (At wr w.heap.size .i64 17 (lpassN f k)) ∧ Hid (Row wr (w.heap.size + 1) 16) ∧ Hid (Below w.heap.size w wr)) (fun i _ => 3 - (intOf i).toNat)
  case atStart => exact ⟨0, rfl, by omega, hT, hR, hL⟩
  case round =>
    clear hT hR hL
    obtain ⟨k, rfl, hk, hT, hR, hL⟩ := hrel
    by_cases h3 : k = 3
    · subst h3
      obtain ⟨F, hF⟩ : ∃ F, lpassN f 3 = F := ⟨_, rfl⟩
      have hF3 := htm.out 3
      have hlow : ∀ i < 16, F i < 65536 := fun i hi => by rw [← hF, show lpassN f 3 = lpass (lpassN f 2) from rfl]; unfold lpass; rw [if_pos hi]; exact lout_lt _ _ _
      have hvl := dval_lt hlow
      have hdg := dgt_dval hlow
      rw [hF] at hT hfin
      rw [p16] at hvl
      obtain ⟨v, hv⟩ : ∃ v, dval F 16 = v := ⟨_, rfl⟩
      rw [hv] at hvl hdg hfin
      have hvf := Lib.hid hfin.out.2
      replace hdg := Lib.hid hdg
      replace hvl := Lib.hid hvl
      clear hF hv hlow hF3 hfin htm
      rw [show ((3 : Nat) : Int) = 3 from rfl]
      have hT1 := Lib.hid (hT.out.old (Obj.cells (arrK .i64 16 fun _ => 0) 26))
      have hR1 := Lib.hid ((row_old (o := Obj.cells (arrK .i64 16 fun _ => 0) 26) hR.out.lt).2 hR.out)
      have hL1 := Lib.hid (Below.trans hL.out ((below_alloc wr (Obj.cells (arrK .i64 16 fun _ => 0) 26)).mono hL.out.size))
      have hX1 := Lib.hid (At.new (w := wr) (k := .i64) (m := 16) (f := fun _ => 0) 26 rfl)
      have hlt := hR.out.lt
      clear hT hR hL
      go_upto_region 15 with (fail)
      obtain ⟨g, hg⟩ : ∃ g, wr.heap.size = g := ⟨_, rfl⟩
      rw [hg] at hX1 hlt ⊢
      clear hg
      generalize wr.alloc _ = W1 at *
      have hcc := arrK_cells .i64 17 F
      have hcp : ∀ ty, (Builtin.copy_ #[34, 34] ty #[.slice (some ⟨g, 0, none⟩) 16 16, .slice (some ⟨w.heap.size, 0, none⟩) 16 17]).run Try.prog W1.drew = .ok (.int .i64 16) (W1.drew.setRow g (arrK .i64 16 (dgt v))) := fun ty => by
        rw [run_copy_rows (N := 16) (M := 17) (n := 16) Try.underlying34 (by kernel_rfl) rfl (by omega) (by omega) (by rw [rowAt_drew, hT1.out.eq]; intro u hu; exact Array.all_eq_true_iff_forall_mem.1 hcc.2 u (by simpa using hu)) hX1.out.row.drew hT1.out.row.drew, rowAt_drew, rowAt_drew, hT1.out.eq, hX1.out.eq, splice_arrK (by omega) (by omega)]
        refine congrArg (fun z => Result.ok (Value.int .i64 16) (W1.drew.setRow g z)) (arrK_congr fun i hi => ?_)
        rw [if_pos ⟨by omega, by omega⟩, hdg.out i hi, Nat.zero_add, Nat.sub_zero]
      have hX2 := Lib.hid (At.put (k := .i64) (f := dgt v) hX1.out.row.drew)
      have hR2 := Lib.hid ((row_setRow_far (c' := arrK .i64 16 (dgt v)) (show w.heap.size + 1 ≠ g by omega)).2 hR1.out.drew)
      have hL2 := Lib.hid (below_setRow (c := arrK .i64 16 (dgt v)) hL1.out.drew (show w.heap.size ≤ g by omega))
      clear hX1 hR1 hL1 hT1 hdg hcc
      go_region
      generalize W1.drew.setRow _ _ = W2 at *
      clear hcp
      go_wp2_with fail
      go_loopw [] (fun wr => ∃ v : Nat, Hid (v < 2 ^ 256) ∧ Hid (v % fP = V) ∧ Hid (At wr g .i64 16 (dgt v)) ∧ Hid (Row wr (w.heap.size + 1) 16) ∧ Hid (Below w.heap.size w wr)) (fun wr => feOfW wr g)
      case atStart => exact ⟨v, hvl, hvf, hX2, hR2, hL2⟩
      case round =>
        clear hX2 hR2 hL2 hvl hvf v
        obtain ⟨v, hvl, hvf, hX, hR, hL⟩ := hrel
        obtain ⟨wo, hwo⟩ : ∃ wo : World, wo = wr := ⟨_, rfl⟩
        have hmo := Lib.hid (show feOfW wr g = v from feOfW_at hX.out hvl.out)
        have hX1 := Lib.hid (hX.out.old (Obj.cells (arrK .i64 16 fun _ => 0) 26))
        have hR1 := Lib.hid ((row_old (o := Obj.cells (arrK .i64 16 fun _ => 0) 26) hR.out.lt).2 hR.out)
        have hL1 := Lib.hid (Below.trans hL.out ((below_alloc wr (Obj.cells (arrK .i64 16 fun _ => 0) 26)).mono hL.out.size))
        have hY1 := Lib.hid ((At.new (w := wr) (k := .i64) (m := 16) (f := fun _ => 0) 26 rfl).congr (f' := mixD (ddif (dgt v) pdig) 0) fun i _ => by simp [mixD])
        have hlg := hX.out.lt
        have hlr := hR.out.lt
        have hlessP := Lib.hid (less_P hvl.out)
        clear hX hR hL
        go_upto_region 18 with (fail)
        obtain ⟨y, hy⟩ : ∃ y, wr.heap.size = y := ⟨_, rfl⟩
        rw [hy] at hY1 hlg hlr ⊢
        clear hy
        generalize wr.alloc _ = W3 at *
        go_wp2_with fail
        go_loopw [6, 38] (fun b i wr => ∃ s : Nat, i = .int .i64 s ∧ s ≤ 16 ∧ b = .int .i64 (dbor (dgt v) pdig s : Nat) ∧ Hid (At wr g .i64 16 (dgt v)) ∧ Hid (At wr y .i64 16 (mixD (ddif (dgt v) pdig) s)) ∧ Hid (Row wr (w.heap.size + 1) 16) ∧ Hid (Below w.heap.size w wr)) (fun _ i _ => 16 - (intOf i).toNat)
        case atStart => exact ⟨0, rfl, by omega, rfl, hX1, hY1, hR1, hL1⟩
        case round =>
          clear hX1 hY1 hR1 hL1
          obtain ⟨s, rfl, hs, rfl, hX, hY, hR, hL⟩ := hrel
          by_cases h16 : s = 16
          · subst h16
            rw [show ((16 : Nat) : Int) = 16 from rfl]
            by_cases hlt : v < fP
            · rw [hlessP.out.1 hlt, show ((1 : Nat) : Int) = 1 from rfl]
              have hVv : V = v := by rw [← hvf.out, Nat.mod_eq_of_lt hlt]
              have hr1 := hX.out.row
              have hr2 := hX.out.eq
              have hr3 := hR.out
              have hcv := arrK_cells .i64 16 (dgt v)
              clear hlt hvf hvl hmo hlessP hY
              subst hVv
              go_wp2_with fail
              exact ret_stored (p := 2) (ty := 26) (g := w.heap.size + 1) (n := 16) (c := arrK .i64 16 (dgt V)) rfl Try.underlying26 rfl (by kernel_rfl) rfl hr3 hcv.1 rfl ⟨rfl, below_setRow hL.out (by omega)⟩
            · have hge : fP ≤ v := by omega
              obtain ⟨hb0, hdv⟩ := hlessP.out.2 hge
              rw [hb0, show ((0 : Nat) : Int) = 0 from rfl]
              have hY2 : At wr y .i64 16 (dgt (v - fP)) := hY.out.congr fun i hi => by
                unfold mixD
                rw [if_pos hi, ← hdv, dgt_dval (fun i _ => ddif_lt (dgt_lt v i) (pdig_lt i)) i hi]
              have hn1 := Lib.hid (show v - fP < 2 ^ 256 from Nat.lt_of_le_of_lt (Nat.sub_le _ _) hvl.out)
              have hn2 := Lib.hid (show (v - fP) % fP = V by rw [← hvf.out, Nat.mod_eq_sub_mod hge])
              have hn3 := Lib.hid (show v - fP < v by have := fP_pos; omega)
              obtain ⟨v2, hv2⟩ : ∃ v2, v - fP = v2 := ⟨_, rfl⟩
              rw [hv2] at hY2 hn1 hn2 hn3
              have hr1 := hY2.row
              have hr2 := hY2.eq
              have hr3 := hX.out.row
              have hcv := arrK_cells .i64 16 (dgt v2)
              have hX2 := Lib.hid (At.put (k := .i64) (f := dgt v2) hX.out.row)
              have hR2 := Lib.hid ((row_setRow_far (c' := arrK .i64 16 (dgt v2)) (show w.heap.size + 1 ≠ g by omega)).2 hR.out)
              have hL2 := Lib.hid (below_setRow (c := arrK .i64 16 (dgt v2)) hL.out (show w.heap.size ≤ g by omega))
              clear hv2 hdv hb0 hge hlt hlessP hvf hvl hY hY2 hX hR hL
              go_wp2_with fail
              go_roundw
              case rel => exact ⟨v2, hn1, hn2, hX2, hR2, hL2⟩
              case measure => rw [hmo.out, feOfW_at hX2.out hn1.out]; exact hn3.out
          · have hs16 : (s : Int) < 16 := by omega
            have cs := hX.out.cell (i := s) (by omega)
            have cy := hY.out.cell (i := s) (by omega)
            have fy := hY.out.row.frozen s
            have hd2 : dbor (dgt v) pdig (s + 1) = if dgt v s < pdig s + dbor (dgt v) pdig s then 1 else 0 := rfl
            have hd1 : ddif (dgt v) pdig s = if dgt v s < pdig s + dbor (dgt v) pdig s then dgt v s + 65536 - pdig s - dbor (dgt v) pdig s else dgt v s - pdig s - dbor (dgt v) pdig s := rfl
            have hbl := dbor_le (dgt v) pdig s
            have hfl := dgt_lt v s
            have hA2 : Hid (At (wr.setCell ⟨y, s, none⟩ (.int .i64 (ddif (dgt v) pdig s : Nat))) g .i64 16 (dgt v)) := Lib.hid (hX.out.farC (by simp; omega))
            have hY2 := Lib.hid ((hY.out.set s (ddif (dgt v) pdig s)).congr fun p _ => mixD_step _ s p)
            have hR2 : Hid (Row (wr.setCell ⟨y, s, none⟩ (.int .i64 (ddif (dgt v) pdig s : Nat))) (w.heap.size + 1) 16) := Lib.hid (row_setCell.2 hR.out)
            have hL2 := Lib.hid (show Below w.heap.size w (wr.setCell ⟨y, s, none⟩ (.int .i64 (ddif (dgt v) pdig s : Nat))) from hL.out.setCell (by simp; omega) _)
            clear hX hY hR hL
            obtain ⟨b, hb⟩ : ∃ b, dbor (dgt v) pdig s = b := ⟨_, rfl⟩
            obtain ⟨fs, hfs⟩ : ∃ b, dgt v s = b := ⟨_, rfl⟩
            rw [hb] at hd1 hd2 hbl ⊢
            rw [hfs] at hd1 hd2 hfl cs
            clear hb hfs
            generalize mixD (ddif (dgt v) pdig) s s = yy at *
            by_cases h0 : s = 0
            · have hm : pdig s = 65517 := by rw [h0]; rfl
              have t0 : ((s : Int) == 0) = true := by rw [beq_iff_eq]; omega
              have t15 : ((s : Int) == 15) = false := by rw [beq_eq_false_iff_ne]; omega
              clear h0
              rw [hm] at hd1 hd2
              by_cases hlt : fs < 65517 + b
              · rw [if_pos hlt] at hd1 hd2
                obtain ⟨d, hd⟩ : ∃ d, d = fs + 65536 - 65517 - b := ⟨_, rfl⟩
                rw [← hd] at hd1
                rw [hd1] at hY2 hA2 hR2 hL2
                have hw1 : IntKind.i64.wrap ((fs : Int) - 65517) = (fs : Int) - 65517 := by rw [IntKind.wrap_i64]; omega
                have hw2 : IntKind.i64.wrap ((fs : Int) - 65517 - (b : Int)) = (d : Int) - 65536 := by rw [IntKind.wrap_i64]; omega
                have hneg : (d : Int) - 65536 < 0 := by omega
                have hw3 : IntKind.i64.wrap ((d : Int) - 65536 + 65536) = (d : Int) := by rw [IntKind.wrap_i64]; omega
                replace hd2 := Lib.hid hd2
                clear hd hd1 hlt hbl hfl hm
                go_wp2_with fail
                go_roundw
                case rel => exact ⟨s + 1, by go_num, by omega, by rw [hd2.out]; go_num, hA2, hY2, hR2, hL2⟩
                case measure => simp [intOf]; omega
              · rw [if_neg hlt] at hd1 hd2
                obtain ⟨d, hd⟩ : ∃ d, d = fs - 65517 - b := ⟨_, rfl⟩
                rw [← hd] at hd1
                rw [hd1] at hY2 hA2 hR2 hL2
                have hw1 : IntKind.i64.wrap ((fs : Int) - 65517) = (fs : Int) - 65517 := by rw [IntKind.wrap_i64]; omega
                have hw2 : IntKind.i64.wrap ((fs : Int) - 65517 - (b : Int)) = (d : Int) := by rw [IntKind.wrap_i64]; omega
                have hneg : ¬ (d : Int) < 0 := by omega
                replace hd2 := Lib.hid hd2
                clear hd hd1 hlt hbl hfl hm
                go_wp2_with fail
                go_roundw
                case rel => exact ⟨s + 1, by go_num, by omega, by rw [hd2.out]; go_num, hA2, hY2, hR2, hL2⟩
                case measure => simp [intOf]; omega
            · have t0 : ((s : Int) == 0) = false := by rw [beq_eq_false_iff_ne]; omega
              by_cases h15 : s = 15
              · have hm : pdig s = 32767 := by rw [h15]; rfl
                have t15 : ((s : Int) == 15) = true := by rw [beq_iff_eq]; omega
                clear h15 h0
                rw [hm] at hd1 hd2
                by_cases hlt : fs < 32767 + b
                · rw [if_pos hlt] at hd1 hd2
                  obtain ⟨d, hd⟩ : ∃ d, d = fs + 65536 - 32767 - b := ⟨_, rfl⟩
                  rw [← hd] at hd1
                  rw [hd1] at hY2 hA2 hR2 hL2
                  have hw1 : IntKind.i64.wrap ((fs : Int) - 32767) = (fs : Int) - 32767 := by rw [IntKind.wrap_i64]; omega
                  have hw2 : IntKind.i64.wrap ((fs : Int) - 32767 - (b : Int)) = (d : Int) - 65536 := by rw [IntKind.wrap_i64]; omega
                  have hneg : (d : Int) - 65536 < 0 := by omega
                  have hw3 : IntKind.i64.wrap ((d : Int) - 65536 + 65536) = (d : Int) := by rw [IntKind.wrap_i64]; omega
                  replace hd2 := Lib.hid hd2
                  clear hd hd1 hlt hbl hfl hm
                  go_wp2_with fail
                  go_roundw
                  case rel => exact ⟨s + 1, by go_num, by omega, by rw [hd2.out]; go_num, hA2, hY2, hR2, hL2⟩
                  case measure => simp [intOf]; omega
                · rw [if_neg hlt] at hd1 hd2
                  obtain ⟨d, hd⟩ : ∃ d, d = fs - 32767 - b := ⟨_, rfl⟩
                  rw [← hd] at hd1
                  rw [hd1] at hY2 hA2 hR2 hL2
                  have hw1 : IntKind.i64.wrap ((fs : Int) - 32767) = (fs : Int) - 32767 := by rw [IntKind.wrap_i64]; omega
                  have hw2 : IntKind.i64.wrap ((fs : Int) - 32767 - (b : Int)) = (d : Int) := by rw [IntKind.wrap_i64]; omega
                  have hneg : ¬ (d : Int) < 0 := by omega
                  replace hd2 := Lib.hid hd2
                  clear hd hd1 hlt hbl hfl hm
                  go_wp2_with fail
                  go_roundw
                  case rel => exact ⟨s + 1, by go_num, by omega, by rw [hd2.out]; go_num, hA2, hY2, hR2, hL2⟩
                  case measure => simp [intOf]; omega
              · have hm : pdig s = 65535 := by unfold pdig; rw [if_neg h0, if_neg h15]
                have t15 : ((s : Int) == 15) = false := by rw [beq_eq_false_iff_ne]; omega
                rw [hm] at hd1 hd2
                by_cases hlt : fs < 65535 + b
                · rw [if_pos hlt] at hd1 hd2
                  obtain ⟨d, hd⟩ : ∃ d, d = fs + 65536 - 65535 - b := ⟨_, rfl⟩
                  rw [← hd] at hd1
                  rw [hd1] at hY2 hA2 hR2 hL2
                  have hw1 : IntKind.i64.wrap ((fs : Int) - 65535) = (fs : Int) - 65535 := by rw [IntKind.wrap_i64]; omega
                  have hw2 : IntKind.i64.wrap ((fs : Int) - 65535 - (b : Int)) = (d : Int) - 65536 := by rw [IntKind.wrap_i64]; omega
                  have hneg : (d : Int) - 65536 < 0 := by omega
                  have hw3 : IntKind.i64.wrap ((d : Int) - 65536 + 65536) = (d : Int) := by rw [IntKind.wrap_i64]; omega
                  replace hd2 := Lib.hid hd2
                  clear hd hd1 hlt hbl hfl hm
                  go_wp2_with fail
                  go_roundw
                  case rel => exact ⟨s + 1, by go_num, by omega, by rw [hd2.out]; go_num, hA2, hY2, hR2, hL2⟩
                  case measure => simp [intOf]; omega
                · rw [if_neg hlt] at hd1 hd2
                  obtain ⟨d, hd⟩ : ∃ d, d = fs - 65535 - b := ⟨_, rfl⟩
                  rw [← hd] at hd1
                  rw [hd1] at hY2 hA2 hR2 hL2
                  have hw1 : IntKind.i64.wrap ((fs : Int) - 65535) = (fs : Int) - 65535 := by rw [IntKind.wrap_i64]; omega
                  have hw2 : IntKind.i64.wrap ((fs : Int) - 65535 - (b : Int)) = (d : Int) := by rw [IntKind.wrap_i64]; omega
                  have hneg : ¬ (d : Int) < 0 := by omega
                  replace hd2 := Lib.hid hd2
                  clear hd hd1 hlt hbl hfl hm
                  go_wp2_with fail
                  go_roundw
                  case rel => exact ⟨s + 1, by go_num, by omega, by rw [hd2.out]; go_num, hA2, hY2, hR2, hL2⟩
                  case measure => simp [intOf]; omega
    · have hk3 : (k : Int) < 3 := by omega
      have htk := htm.out k
      have hpk : lpass (lpassN f k) = lpassN f (k + 1) := rfl
      obtain ⟨F, hF⟩ : ∃ F, lpassN f k = F := ⟨_, rfl⟩
      rw [hF] at hT htk hpk
      replace hpk := Lib.hid hpk
      have h16 := htk 16 (by omega)
      have c16 := hT.out.cell (i := 16) (by omega)
      have f16 := hT.out.row.frozen 16
      obtain ⟨c0, hc0'⟩ : ∃ c, F 16 * 38 = c := ⟨_, rfl⟩
      have hw1 : IntKind.i64.wrap ((F 16 : Int) * 38) = (c0 : Int) := by rw [IntKind.wrap_i64]; omega
      have hcb : c0 ≤ 1369094286720630784 := by omega
      have hT1 := Lib.hid ((hT.out.set 16 0).congr fun i _ => midF_start F c0 i)
      have hlc := Lib.hid (fun s (hs : s ≤ 17) => lcar_le htk hcb s hs)
      have hFl := Lib.hid (fun s (hs : s < 17) => htk s hs)
      have hpk2 := Lib.hid (fun p hp => midF_end F p hp)
      rw [hc0'] at hpk2
      have hR1 := Lib.hid (row_setCell (a := ⟨w.heap.size, 16, none⟩) (v := .int .i64 (0 : Nat)) |>.2 hR.out)
      have hL1 := Lib.hid (show Below w.heap.size w (wr.setCell ⟨w.heap.size, 16, none⟩ (.int .i64 (0 : Nat))) from hL.out.setCell (Nat.le_refl _) _)
      clear hF htk hc0' hcb hT hR hL
      generalize F 16 = x16 at *
      go_wp2_with fail
      rw [show ((0 : Nat) : Int) = 0 from rfl] at hT1 hR1 hL1
      generalize wr.setCell _ _ = wr1 at *
      clear hw1 h16 c16 f16
      go_loopw [3, 17] (fun c i wr => ∃ s : Nat, i = .int .i64 s ∧ s ≤ 16 ∧ c = .int .i64 (lcar F c0 s : Nat) ∧ Hid (At wr w.heap.size .i64 17 (midF F c0 s)) ∧ Hid (Row wr (w.heap.size + 1) 16) ∧ Hid (Below w.heap.size w wr)) (fun _ i _ => 16 - (intOf i).toNat)
      case atStart => exact ⟨0, rfl, by omega, rfl, hT1, hR1, hL1⟩
      case round =>
        clear hT1 hR1 hL1
        obtain ⟨s, rfl, hs, rfl, hT, hR, hL⟩ := hrel
        by_cases h16 : s = 16
        · subst h16
          have c16 := hT.out.cell (i := 16) (by omega)
          have f16 := hT.out.row.frozen 16
          have hT2 := Lib.hid ((hT.out.set 16 (lcar F c0 16)).congr hpk2.out)
          have hR2 : Hid (Row (wr.setCell ⟨w.heap.size, 16, none⟩ (.int .i64 (lcar F c0 16 : Nat))) (w.heap.size + 1) 16) := Lib.hid (row_setCell.2 hR.out)
          have hL2 := Lib.hid (show Below w.heap.size w (wr.setCell ⟨w.heap.size, 16, none⟩ (.int .i64 (lcar F c0 16 : Nat))) from hL.out.setCell (Nat.le_refl _) _)
          rw [hpk.out] at hT2
          clear hT hR hL hpk2 hpk
          generalize midF F c0 16 16 = y at *
          go_wp2_with fail
          go_roundw
          case rel => exact ⟨k + 1, by go_num, by omega, hT2, hR2, hL2⟩
          case measure => simp [intOf]; omega
        · have hs16 : (s : Int) < 16 := by omega
          have cs := hT.out.cell (i := s) (by omega)
          have fs := hT.out.row.frozen s
          rw [show midF F c0 s s = F s by unfold midF; rw [if_neg (by omega), if_neg (by omega)]] at cs
          have hl := hlc.out s (by omega)
          have hb := hFl.out s (by omega)
          have hn1 := Lib.hid (show lcar F c0 (s + 1) = (lcar F c0 s + F s) / 65536 from rfl)
          have hn2 := Lib.hid (show lout F c0 s = (lcar F c0 s + F s) % 65536 from rfl)
          have hT2 := Lib.hid ((hT.out.set s (lout F c0 s)).congr fun p _ => midF_step F c0 s p)
          have hR2 : Hid (Row (wr.setCell ⟨w.heap.size, s, none⟩ (.int .i64 (lout F c0 s : Nat))) (w.heap.size + 1) 16) := Lib.hid (row_setCell.2 hR.out)
          have hL2 := Lib.hid (show Below w.heap.size w (wr.setCell ⟨w.heap.size, s, none⟩ (.int .i64 (lout F c0 s : Nat))) from hL.out.setCell (Nat.le_refl _) _)
          rw [hn2.out] at hT2 hR2 hL2
          obtain ⟨x, hx⟩ : ∃ x, lcar F c0 s + F s = x := ⟨_, rfl⟩
          rw [hx] at hn1 hT2 hR2 hL2
          have hw1 : IntKind.i64.wrap ((lcar F c0 s : Int) + (F s : Int)) = (x : Int) := by rw [IntKind.wrap_i64]; omega
          have hand := num_andM (a := x) (by omega)
          have hxb : x < 9223372036854775808 := by omega
          clear hx hT hR hL hn2 hl hb
          generalize lcar F c0 s = c at *
          generalize F s = y at *
          rw [show ((x % 65536 : Nat) : Int) = (x : Int) % 65536 from by omega] at hT2 hR2 hL2
          go_wp2_with fail
          go_roundw
          case rel => exact ⟨s + 1, by go_num, by omega, congrArg (Value.int .i64) (by rw [hn1.out]; omega), hT2, hR2, hL2⟩
          case measure => simp [intOf]; omega
end Go.Proofs.Ytodcjeaannfbnaa
namespace Go.Proofs.Ytodcjeaannfbnaa
open Go.ChangeShapes Go.WideShapes Go.ChangeAt Go.RowKit
set_option maxHeartbeats 2000000
set_option maxRecDepth 100000
attribute [local go_sem ↓] load_fe store_fe execl_fe execs_fe load_t17 store_t17 execl_t17 execs_t17
attribute [local go_sem] isHead_mk blkOf_mk isAgg_mk cellsV_mk row_drew rowAt_drew row_new_cells row_old rowAt_new rowAt_old setRow_new zeroFe zeroT
theorem dval_add (f g : Nat → Nat) (n : Nat) : dval (fun i => f i + g i) n = dval f n + dval g n := by
  induction n with
  | zero => rfl
  | succ n ih => simp only [dval]; rw [ih, Nat.mul_add]; omega
theorem plus_val {a b : Nat} (ha : a < 2 ^ 256) (hb : b < 2 ^ 256) {t : Nat → Nat} (h : ∀ i < 16, t i = dgt a i + dgt b i) : dval t 16 = a + b := by
  rw [dval_congr h, dval_add, dval_dgt, dval_dgt, p16, Nat.mod_eq_of_lt ha, Nat.mod_eq_of_lt hb]
theorem less_val {a b : Nat} (ha : a < 2 ^ 256) (hb : b < 2 ^ 256) {t : Nat → Nat} (h : ∀ i < 16, t i + dgt b i = dgt a i + 4 * pdig i) : dval t 16 = a + 4 * fP - b := by
  have h1 := dval_congr h
  rw [dval_add, dval_add, dval_dgt, dval_dgt, p16, Nat.mod_eq_of_lt ha, Nat.mod_eq_of_lt hb] at h1
  have h2 : ∀ n, dval (fun i => 4 * pdig i) n = 4 * dval pdig n := fun n => by
    induction n with
    | zero => rfl
    | succ n ih => simp only [dval]; rw [ih, Nat.mul_add, Nat.mul_left_comm]
  rw [h2, pdig_val] at h1
  omega
/-- The digits laid so far, and zeros. -/
def cut16 (f : Nat → Nat) (j : Nat) : Nat := if j < 16 then f j else 0
theorem mixD16 (f : Nat → Nat) (j : Nat) (_ : j < 17) : mixD f 16 j = cut16 f j := rfl
theorem cut_val (f : Nat → Nat) : dval (cut16 f) 16 + 2 ^ 256 * cut16 f 16 = dval f 16 := by
  rw [dval_congr (f := cut16 f) (g := f) fun i hi => by unfold cut16; rw [if_pos hi], show cut16 f 16 = 0 from rfl]; omega
theorem fe_Plus (a b : Nat) (w : World) (ha : a < 2 ^ 256) (hb : b < 2 ^ 256) : Calls Try.prog 21 #[feV a, feV b] w fun e w' => e = .returned (feV ((a + b) % fP)) ∧ Below w.heap.size w w' := by
  have hF : ∀ i, dgt a i + dgt b i < 131072 := fun i => by have := dgt_lt a i; have := dgt_lt b i; omega
  have htm : Tame (cut16 fun i => dgt a i + dgt b i) := fun i _ => by
    show (if i < 16 then dgt a i + dgt b i else 0) < _
    have := hF i
    split <;> omega
  have hle := Lib.hid (fun V => ref_least (cut16 fun i => dgt a i + dgt b i) V htm)
  rw [cut_val, plus_val ha hb (t := fun i => dgt a i + dgt b i) fun _ _ => rfl] at hle
  replace hF := Lib.hid hF
  obtain ⟨V, hV⟩ : ∃ V, (a + b) % fP = V := ⟨_, rfl⟩
  rw [hV] at hle ⊢
  clear hV htm ha hb
  unfold feV at hle ⊢
  have hFx := Lib.hid (fun i => show (fun i => dgt a i + dgt b i) i = dgt a i + dgt b i from rfl)
  generalize (fun i => dgt a i + dgt b i) = F at *
  have hc0 := arrK_cells .i64 16 fun _ => 0
  have hc1 := arrK_cells .i64 17 fun _ => 0
  have hL0 : Below w.heap.size w ((((w.alloc (Obj.cells (arrK .i64 16 (dgt a)) 26)).alloc (Obj.cells (arrK .i64 16 (dgt b)) 26)).alloc (Obj.cells (arrK .i64 16 fun _ => 0) 26)).alloc (Obj.cells (arrK .i64 17 fun _ => 0) 114)) := by go_grown
  have hA0 : At ((((w.alloc (Obj.cells (arrK .i64 16 (dgt a)) 26)).alloc (Obj.cells (arrK .i64 16 (dgt b)) 26)).alloc (Obj.cells (arrK .i64 16 fun _ => 0) 26)).alloc (Obj.cells (arrK .i64 17 fun _ => 0) 114)) w.heap.size .i64 16 (dgt a) := (((At.new _ rfl).old _).old _).old _
  have hB0 : At ((((w.alloc (Obj.cells (arrK .i64 16 (dgt a)) 26)).alloc (Obj.cells (arrK .i64 16 (dgt b)) 26)).alloc (Obj.cells (arrK .i64 16 fun _ => 0) 26)).alloc (Obj.cells (arrK .i64 17 fun _ => 0) 114)) (w.heap.size + 1) .i64 16 (dgt b) := ((At.new _ (by simp)).old _).old _
  have hR0 : Row ((((w.alloc (Obj.cells (arrK .i64 16 (dgt a)) 26)).alloc (Obj.cells (arrK .i64 16 (dgt b)) 26)).alloc (Obj.cells (arrK .i64 16 fun _ => 0) 26)).alloc (Obj.cells (arrK .i64 17 fun _ => 0) 114)) (w.heap.size + 1 + 1) 16 := ((At.new (k := .i64) (f := fun _ => 0) _ (by simp)).old _).row
  have hT0 : At ((((w.alloc (Obj.cells (arrK .i64 16 (dgt a)) 26)).alloc (Obj.cells (arrK .i64 16 (dgt b)) 26)).alloc (Obj.cells (arrK .i64 16 fun _ => 0) 26)).alloc (Obj.cells (arrK .i64 17 fun _ => 0) 114)) (w.heap.size + 1 + 1 + 1) .i64 17 (mixD F 0) := (At.new _ (by simp)).congr fun i _ => by simp [mixD]
  have hL := Lib.hid hL0
  have hR := Lib.hid hR0
  have hA := Lib.hid hA0
  have hB := Lib.hid hB0
  have hT := Lib.hid hT0
  clear hL0 hR0 hA0 hB0 hT0
  go_enter Try.func21, Try.ntmps21
  go_wp2_with fail
  generalize (((w.alloc _).alloc _).alloc _).alloc _ = W0 at *
  go_loopw [7] (fun i wr => ∃ s : Nat, i = .int .i64 s ∧ s ≤ 16 ∧ Hid (At wr w.heap.size .i64 16 (dgt a)) ∧ Hid (At wr (w.heap.size + 1) .i64 16 (dgt b)) ∧ Hid (Row wr (w.heap.size + 1 + 1) 16) ∧ Hid (At wr (w.heap.size + 1 + 1 + 1) .i64 17 (mixD F s)) ∧ Hid (Below w.heap.size w wr)) (fun i _ => 16 - (intOf i).toNat)
  case atStart => exact ⟨0, rfl, by omega, hA, hB, hR, hT, hL⟩
  case round =>
    clear hA hB hR hT hL
    obtain ⟨s, rfl, hs, hA, hB, hR, hT, hL⟩ := hrel
    by_cases h16 : s = 16
    · subst h16
      have hTc := hT.out.congr (f' := cut16 F) (mixD16 F)
      have hr1 := hTc.row
      have hr2 := hTc.eq
      rw [show ((16 : Nat) : Int) = 16 from rfl]
      clear hA hB hT
      go_wp2_with fail
      refine (hle.out _).mono ?_
      rintro e w2 ⟨rfl, hbz⟩
      have hR2 := row_below hR.out hbz hR.out.lt
      have hL2 := Lib.hid (below_step hbz hL.out (Nat.le_refl _))
      have hcv := arrK_cells .i64 16 (dgt V)
      clear hr1 hr2 hbz hTc hR hL
      dsimp only
      go_wp2_with fail
      exact ret_stored (p := 4) (ty := 26) (g := w.heap.size + 1 + 1) (n := 16) (c := arrK .i64 16 (dgt V)) rfl Try.underlying26 rfl (by kernel_rfl) rfl hR2 hcv.1 rfl ⟨rfl, below_setRow hL2.out (by omega)⟩
    · have hs16 : (s : Int) < 16 := by omega
      have hs17 : (s : Int) < 17 := by omega
      have ca := hA.out.cell (i := s) (by omega)
      have cb := hB.out.cell (i := s) (by omega)
      have ct := hT.out.cell (i := s) (by omega)
      have ft := hT.out.row.frozen s
      have hb := hF.out s
      have hx := hFx.out s
      have hA2 : Hid (At (wr.setCell ⟨w.heap.size + 1 + 1 + 1, s, none⟩ (.int .i64 (F s : Nat))) w.heap.size .i64 16 (dgt a)) := Lib.hid (hA.out.farC (by simp <;> omega))
      have hB2 : Hid (At (wr.setCell ⟨w.heap.size + 1 + 1 + 1, s, none⟩ (.int .i64 (F s : Nat))) (w.heap.size + 1) .i64 16 (dgt b)) := Lib.hid (hB.out.farC (by simp <;> omega))
      have hT2 := Lib.hid ((hT.out.set s (F s)).congr fun p _ => mixD_step F s p)
      have hR2 : Hid (Row (wr.setCell ⟨w.heap.size + 1 + 1 + 1, s, none⟩ (.int .i64 (F s : Nat))) (w.heap.size + 1 + 1) 16) := Lib.hid (row_setCell.2 hR.out)
      have hL2 := Lib.hid (show Below w.heap.size w (wr.setCell ⟨w.heap.size + 1 + 1 + 1, s, none⟩ (.int .i64 (F s : Nat))) from hL.out.setCell (by simp <;> omega) _)
      have hw : IntKind.i64.wrap ((dgt a s : Int) + (dgt b s : Int)) = (F s : Int) := by rw [IntKind.wrap_i64]; omega
      clear hx hb hA hB hR hT hL
      generalize mixD F s s = yy at *
      generalize F s = x at *
      generalize dgt a s = x1 at *
      generalize dgt b s = x2 at *
      go_wp2
      go_region
      all_goals
        go_wp2_with fail
        go_roundw
        case rel => exact ⟨s + 1, by go_num, by omega, Lib.hid hA2.out.drew, Lib.hid hB2.out.drew, Lib.hid hR2.out.drew, Lib.hid hT2.out.drew, Lib.hid hL2.out.drew⟩
        case measure => simp [intOf]; omega
theorem fe_Less (a b : Nat) (w : World) (ha : a < 2 ^ 256) (hb : b < 2 ^ 256) : Calls Try.prog 23 #[feV a, feV b] w fun e w' => e = .returned (feV ((a + 4 * fP - b) % fP)) ∧ Below w.heap.size w w' := by
  have hp : ∀ i, 65536 ≤ 4 * pdig i ∧ 4 * pdig i ≤ 262140 := fun i => by unfold pdig; split <;> (try split) <;> omega
  have hF : ∀ i, dgt a i + 4 * pdig i - dgt b i < 400000 ∧ dgt b i ≤ 4 * pdig i := fun i => by have := dgt_lt a i; have := dgt_lt b i; have := hp i; omega
  have htm : Tame (cut16 fun i => dgt a i + 4 * pdig i - dgt b i) := fun i _ => by
    show (if i < 16 then dgt a i + 4 * pdig i - dgt b i else 0) < _
    have := hF i
    split <;> omega
  have hle := Lib.hid (fun V => ref_least (cut16 fun i => dgt a i + 4 * pdig i - dgt b i) V htm)
  rw [cut_val, less_val ha hb (t := fun i => dgt a i + 4 * pdig i - dgt b i) fun i _ => by have := (hF i).2; omega] at hle
  replace hF := Lib.hid hF
  obtain ⟨V, hV⟩ : ∃ V, (a + 4 * fP - b) % fP = V := ⟨_, rfl⟩
  rw [hV] at hle ⊢
  clear hV htm ha hb hp
  unfold feV at hle ⊢
  have hFx := Lib.hid (fun i => show (fun i => dgt a i + 4 * pdig i - dgt b i) i = dgt a i + 4 * pdig i - dgt b i from rfl)
  generalize (fun i => dgt a i + 4 * pdig i - dgt b i) = F at *
  have hc0 := arrK_cells .i64 16 fun _ => 0
  have hc1 := arrK_cells .i64 17 fun _ => 0
  have hL0 : Below w.heap.size w ((((w.alloc (Obj.cells (arrK .i64 16 (dgt a)) 26)).alloc (Obj.cells (arrK .i64 16 (dgt b)) 26)).alloc (Obj.cells (arrK .i64 16 fun _ => 0) 26)).alloc (Obj.cells (arrK .i64 17 fun _ => 0) 114)) := by go_grown
  have hA0 : At ((((w.alloc (Obj.cells (arrK .i64 16 (dgt a)) 26)).alloc (Obj.cells (arrK .i64 16 (dgt b)) 26)).alloc (Obj.cells (arrK .i64 16 fun _ => 0) 26)).alloc (Obj.cells (arrK .i64 17 fun _ => 0) 114)) w.heap.size .i64 16 (dgt a) := (((At.new _ rfl).old _).old _).old _
  have hB0 : At ((((w.alloc (Obj.cells (arrK .i64 16 (dgt a)) 26)).alloc (Obj.cells (arrK .i64 16 (dgt b)) 26)).alloc (Obj.cells (arrK .i64 16 fun _ => 0) 26)).alloc (Obj.cells (arrK .i64 17 fun _ => 0) 114)) (w.heap.size + 1) .i64 16 (dgt b) := ((At.new _ (by simp)).old _).old _
  have hR0 : Row ((((w.alloc (Obj.cells (arrK .i64 16 (dgt a)) 26)).alloc (Obj.cells (arrK .i64 16 (dgt b)) 26)).alloc (Obj.cells (arrK .i64 16 fun _ => 0) 26)).alloc (Obj.cells (arrK .i64 17 fun _ => 0) 114)) (w.heap.size + 1 + 1) 16 := ((At.new (k := .i64) (f := fun _ => 0) _ (by simp)).old _).row
  have hT0 : At ((((w.alloc (Obj.cells (arrK .i64 16 (dgt a)) 26)).alloc (Obj.cells (arrK .i64 16 (dgt b)) 26)).alloc (Obj.cells (arrK .i64 16 fun _ => 0) 26)).alloc (Obj.cells (arrK .i64 17 fun _ => 0) 114)) (w.heap.size + 1 + 1 + 1) .i64 17 (mixD F 0) := (At.new _ (by simp)).congr fun i _ => by simp [mixD]
  have hL := Lib.hid hL0
  have hR := Lib.hid hR0
  have hA := Lib.hid hA0
  have hB := Lib.hid hB0
  have hT := Lib.hid hT0
  clear hL0 hR0 hA0 hB0 hT0
  go_enter Try.func23, Try.ntmps23
  go_wp2_with fail
  generalize (((w.alloc _).alloc _).alloc _).alloc _ = W0 at *
  go_loopw [8] (fun i wr => ∃ s : Nat, i = .int .i64 s ∧ s ≤ 16 ∧ Hid (At wr w.heap.size .i64 16 (dgt a)) ∧ Hid (At wr (w.heap.size + 1) .i64 16 (dgt b)) ∧ Hid (Row wr (w.heap.size + 1 + 1) 16) ∧ Hid (At wr (w.heap.size + 1 + 1 + 1) .i64 17 (mixD F s)) ∧ Hid (Below w.heap.size w wr)) (fun i _ => 16 - (intOf i).toNat)
  case atStart => exact ⟨0, rfl, by omega, hA, hB, hR, hT, hL⟩
  case round =>
    clear hA hB hR hT hL
    obtain ⟨s, rfl, hs, hA, hB, hR, hT, hL⟩ := hrel
    by_cases h16 : s = 16
    · subst h16
      have hTc := hT.out.congr (f' := cut16 F) (mixD16 F)
      have hr1 := hTc.row
      have hr2 := hTc.eq
      rw [show ((16 : Nat) : Int) = 16 from rfl]
      clear hA hB hT
      go_wp2_with fail
      refine (hle.out _).mono ?_
      rintro e w2 ⟨rfl, hbz⟩
      have hR2 := row_below hR.out hbz hR.out.lt
      have hL2 := Lib.hid (below_step hbz hL.out (Nat.le_refl _))
      have hcv := arrK_cells .i64 16 (dgt V)
      clear hr1 hr2 hbz hTc hR hL
      dsimp only
      go_wp2_with fail
      exact ret_stored (p := 4) (ty := 26) (g := w.heap.size + 1 + 1) (n := 16) (c := arrK .i64 16 (dgt V)) rfl Try.underlying26 rfl (by kernel_rfl) rfl hR2 hcv.1 rfl ⟨rfl, below_setRow hL2.out (by omega)⟩
    · have hs16 : (s : Int) < 16 := by omega
      have hs17 : (s : Int) < 17 := by omega
      have ca := hA.out.cell (i := s) (by omega)
      have cb := hB.out.cell (i := s) (by omega)
      have ct := hT.out.cell (i := s) (by omega)
      have ft := hT.out.row.frozen s
      have hb := hF.out s
      have hx := hFx.out s
      have hA2 : Hid (At (wr.setCell ⟨w.heap.size + 1 + 1 + 1, s, none⟩ (.int .i64 (F s : Nat))) w.heap.size .i64 16 (dgt a)) := Lib.hid (hA.out.farC (by simp <;> omega))
      have hB2 : Hid (At (wr.setCell ⟨w.heap.size + 1 + 1 + 1, s, none⟩ (.int .i64 (F s : Nat))) (w.heap.size + 1) .i64 16 (dgt b)) := Lib.hid (hB.out.farC (by simp <;> omega))
      have hT2 := Lib.hid ((hT.out.set s (F s)).congr fun p _ => mixD_step F s p)
      have hR2 : Hid (Row (wr.setCell ⟨w.heap.size + 1 + 1 + 1, s, none⟩ (.int .i64 (F s : Nat))) (w.heap.size + 1 + 1) 16) := Lib.hid (row_setCell.2 hR.out)
      have hL2 := Lib.hid (show Below w.heap.size w (wr.setCell ⟨w.heap.size + 1 + 1 + 1, s, none⟩ (.int .i64 (F s : Nat))) from hL.out.setCell (by simp <;> omega) _)
      have hax := dgt_lt a s
      have hbx := dgt_lt b s
      clear hA hB hR hT hL
      generalize mixD F s s = yy at *
      generalize F s = x at *
      generalize dgt a s = x1 at *
      generalize dgt b s = x2 at *
      by_cases h0 : s = 0
      · have hm : 4 * pdig s = 262068 := by rw [h0]; rfl
        have t0 : ((s : Int) == 0) = true := by rw [beq_iff_eq]; omega
        have t15 : ((s : Int) == 15) = false := by rw [beq_eq_false_iff_ne]; omega
        clear h0
        rw [hm] at hx hb
        have hw1 : IntKind.i64.wrap ((x1 : Int) + 262068) = (x1 : Int) + 262068 := by rw [IntKind.wrap_i64]; omega
        have hw2 : IntKind.i64.wrap ((x1 : Int) + 262068 - (x2 : Int)) = (x : Int) := by rw [IntKind.wrap_i64]; omega
        clear hx hb hm hax hbx
        go_wp2
        go_region
        all_goals
          go_wp2_with fail
          go_roundw
          case rel => exact ⟨s + 1, by go_num, by omega, Lib.hid hA2.out.drew, Lib.hid hB2.out.drew, Lib.hid hR2.out.drew, Lib.hid hT2.out.drew, Lib.hid hL2.out.drew⟩
          case measure => simp [intOf]; omega
      · have t0 : ((s : Int) == 0) = false := by rw [beq_eq_false_iff_ne]; omega
        by_cases h15 : s = 15
        · have hm : 4 * pdig s = 131068 := by rw [h15]; rfl
          have t15 : ((s : Int) == 15) = true := by rw [beq_iff_eq]; omega
          clear h0 h15
          rw [hm] at hx hb
          have hw1 : IntKind.i64.wrap ((x1 : Int) + 131068) = (x1 : Int) + 131068 := by rw [IntKind.wrap_i64]; omega
          have hw2 : IntKind.i64.wrap ((x1 : Int) + 131068 - (x2 : Int)) = (x : Int) := by rw [IntKind.wrap_i64]; omega
          clear hx hb hm hax hbx
          go_wp2
          go_region
          all_goals
            go_wp2_with fail
            go_roundw
            case rel => exact ⟨s + 1, by go_num, by omega, Lib.hid hA2.out.drew, Lib.hid hB2.out.drew, Lib.hid hR2.out.drew, Lib.hid hT2.out.drew, Lib.hid hL2.out.drew⟩
            case measure => simp [intOf]; omega
        · have hm : 4 * pdig s = 262140 := by unfold pdig; rw [if_neg h0, if_neg h15]
          have t15 : ((s : Int) == 15) = false := by rw [beq_eq_false_iff_ne]; omega
          rw [hm] at hx hb
          have hw1 : IntKind.i64.wrap ((x1 : Int) + 262140) = (x1 : Int) + 262140 := by rw [IntKind.wrap_i64]; omega
          have hw2 : IntKind.i64.wrap ((x1 : Int) + 262140 - (x2 : Int)) = (x : Int) := by rw [IntKind.wrap_i64]; omega
          clear hx hb hm hax hbx
          go_wp2
          go_region
          all_goals
            go_wp2_with fail
            go_roundw
            case rel => exact ⟨s + 1, by go_num, by omega, Lib.hid hA2.out.drew, Lib.hid hB2.out.drew, Lib.hid hR2.out.drew, Lib.hid hT2.out.drew, Lib.hid hL2.out.drew⟩
            case measure => simp [intOf]; omega
end Go.Proofs.Ytodcjeaannfbnaa
namespace Go.Proofs.Ytodcjeaannfbnaa
open Go.ChangeShapes Go.WideShapes Go.ChangeAt Go.RowKit
set_option maxHeartbeats 2000000
set_option maxRecDepth 100000
theorem zeroT32 : #[Value.int IntKind.i64 0, Value.int IntKind.i64 0, Value.int IntKind.i64 0, Value.int IntKind.i64 0, Value.int IntKind.i64 0, Value.int IntKind.i64 0, Value.int IntKind.i64 0, Value.int IntKind.i64 0, Value.int IntKind.i64 0, Value.int IntKind.i64 0, Value.int IntKind.i64 0, Value.int IntKind.i64 0, Value.int IntKind.i64 0, Value.int IntKind.i64 0, Value.int IntKind.i64 0, Value.int IntKind.i64 0, Value.int IntKind.i64 0, Value.int IntKind.i64 0, Value.int IntKind.i64 0, Value.int IntKind.i64 0, Value.int IntKind.i64 0, Value.int IntKind.i64 0, Value.int IntKind.i64 0, Value.int IntKind.i64 0, Value.int IntKind.i64 0, Value.int IntKind.i64 0, Value.int IntKind.i64 0, Value.int IntKind.i64 0, Value.int IntKind.i64 0, Value.int IntKind.i64 0, Value.int IntKind.i64 0, Value.int IntKind.i64 0] = arrK .i64 32 fun _ => 0 := by kernel_rfl
attribute [local go_sem ↓] load_fe store_fe execl_fe execs_fe load_t17 store_t17 execl_t17 execs_t17
attribute [local go_sem] isHead_mk blkOf_mk isAgg_mk cellsV_mk row_drew rowAt_drew row_new_cells row_old rowAt_new rowAt_old setRow_new zeroFe zeroT
attribute [local go_sem] zeroT32
theorem dval_split (f : Nat → Nat) (m n : Nat) : dval f (m + n) = dval f m + 65536 ^ m * dval (fun j => f (j + m)) n := by
  induction n with
  | zero => simp [dval]
  | succ n ih => rw [← Nat.add_assoc, dval, ih, dval, Nat.mul_add, Nat.pow_add, Nat.mul_assoc, Nat.add_comm n m]; omega
theorem dval_upd (f : Nat → Nat) (j v : Nat) : ∀ n, j < n → dval (upd f j v) n + 65536 ^ j * f j = dval f n + 65536 ^ j * v
  | 0, h => by omega
  | n + 1, h => by
    by_cases e : j = n
    · subst e
      have h1 : dval (upd f j v) j = dval f j := dval_congr fun i hi => by unfold upd; rw [if_neg (by omega)]
      rw [dval, dval, h1]
      unfold upd
      rw [if_pos rfl]
      omega
    · have ih := dval_upd f j v n (by omega)
      rw [dval, dval, show upd f j v n = f n by unfold upd; rw [if_neg (by omega)]]
      omega
/-- What stands in p while the product is made: row i, up to place k. -/
structure ByI (a b i k : Nat) (p : Nat → Nat) : Prop where
  val : dval p 32 = a % 65536 ^ i * b + 65536 ^ i * dgt a i * (b % 65536 ^ k)
  le : ∀ j, p j ≤ (16 * i + k) * 4294836225
theorem ByI.start (a b : Nat) : ByI a b 0 0 fun _ => 0 := by
  have h : ∀ n, dval (fun _ => 0) n = 0 := fun n => by induction n with
    | zero => rfl
    | succ n ih => simp [dval, ih]
  exact ⟨by rw [h, Nat.pow_zero, Nat.mod_one, Nat.mod_one]; simp, fun _ => Nat.zero_le _⟩
theorem dgt_up (b k : Nat) : b % 65536 ^ (k + 1) = b % 65536 ^ k + 65536 ^ k * dgt b k := by unfold dgt; rw [Nat.pow_succ, Nat.mod_mul]
theorem ByI.step {a b i k : Nat} {p : Nat → Nat} (h : ByI a b i k p) (hi : i < 16) (hk : k < 16) : ByI a b i (k + 1) (upd p (i + k) (p (i + k) + dgt a i * dgt b k)) := by
  refine ⟨?_, fun j => ?_⟩
  · have h1 := dval_upd p (i + k) (p (i + k) + dgt a i * dgt b k) 32 (by omega)
    have h2 := h.val
    rw [Nat.mul_add (65536 ^ (i + k))] at h1
    rw [dgt_up, Nat.mul_add, show 65536 ^ i * dgt a i * (65536 ^ k * dgt b k) = 65536 ^ (i + k) * (dgt a i * dgt b k) by rw [Nat.pow_add]; simp only [Nat.mul_assoc, Nat.mul_left_comm]]
    omega
  · have h1 : dgt a i * dgt b k ≤ 4294836225 := Nat.le_trans (Nat.mul_le_mul (show dgt a i ≤ 65535 by have := dgt_lt a i; omega) (show dgt b k ≤ 65535 by have := dgt_lt b k; omega)) (by decide)
    have h2 := h.le j
    have h3 := h.le (i + k)
    rw [← Nat.add_assoc, Nat.add_mul _ 1, Nat.one_mul]
    unfold upd
    generalize (16 * i + k) * 4294836225 = M at *
    generalize dgt a i * dgt b k = q at *
    by_cases e : j = i + k
    · rw [if_pos e]; omega
    · rw [if_neg e]; omega
theorem ByI.row {a b i : Nat} {p : Nat → Nat} (h : ByI a b i 16 p) (hb : b < 2 ^ 256) : ByI a b (i + 1) 0 p := by
  refine ⟨?_, fun j => by have := h.le j; omega⟩
  rw [h.val, p16, Nat.mod_eq_of_lt hb, dgt_up, Nat.pow_zero, Nat.mod_one, Nat.mul_zero, Nat.add_zero, Nat.add_mul]
/-- The folded digits. -/
def byG (p : Nat → Nat) (i : Nat) : Nat := p i + 38 * p (i + 16)
theorem byG_val {a b : Nat} {p : Nat → Nat} (h : ByI a b 16 0 p) (ha : a < 2 ^ 256) : dval (byG p) 16 % fP = a * b % fP := by
  have h1 := h.val
  rw [p16, Nat.mod_eq_of_lt ha, Nat.pow_zero, Nat.mod_one, Nat.mul_zero, Nat.add_zero, show (32 : Nat) = 16 + 16 from rfl, dval_split, p16] at h1
  have h2 : ∀ n, dval (byG p) n = dval p n + 38 * dval (fun j => p (j + 16)) n := fun n => by
    induction n with
    | zero => rfl
    | succ n ih => simp only [dval]; rw [ih]; unfold byG; rw [Nat.mul_add, Nat.mul_left_comm (65536 ^ n)]; omega
  rw [h2, ← h1, fold_P]
theorem byG_le {a b : Nat} {p : Nat → Nat} (h : ByI a b 16 0 p) (i : Nat) : byG p i ≤ 42880364870400 := by
  have h1 := h.le i
  have h2 := h.le (i + 16)
  unfold byG
  omega
/-- The digits that least is handed. -/
def byT (G : Nat → Nat) (i : Nat) : Nat := if i < 16 then lout G 0 i else lcar G 0 16
theorem byG_car {G : Nat → Nat} (h : ∀ i, G i ≤ 42880364870400) : ∀ k, lcar G 0 k ≤ 42880364870400
  | 0 => Nat.zero_le _
  | k + 1 => by
    have h1 := byG_car h k
    have h2 := h k
    unfold lcar; omega
theorem byT_tame {G : Nat → Nat} (h : ∀ i, G i ≤ 42880364870400) : Tame (byT G) := by
  intro i _
  have h1 := byG_car h 16
  unfold byT
  split
  · exact Nat.lt_trans (lout_lt _ _ _) (by omega)
  · omega
theorem byT_val (G : Nat → Nat) : dval (byT G) 16 + 2 ^ 256 * byT G 16 = dval G 16 := by
  have h := lout_dval G 0 16
  rw [p16] at h
  rw [dval_congr (f := byT G) (g := lout G 0) fun i hi => by unfold byT; rw [if_pos hi], show byT G 16 = lcar G 0 16 from rfl]
  exact h
theorem byT_end (G : Nat → Nat) (p : Nat) (hp : p < 17) : upd (mixD (lout G 0) 16) 16 (lcar G 0 16) p = byT G p := by
  unfold upd mixD byT
  by_cases h : p = 16
  · subst h; simp
  · simp [h, show p < 16 by omega]
theorem load_t32 {w : World} {dst : Option Tmp} {x : Operand} {tt : TypeId} {pos : String} {af : Array Edge} {gd : Option (Nat × Bool)} {a : Act} {K : Act → World → Prop} {Q : Exit → Act → World → Prop}
    (hv : IsHead (a.eval x)) (h : Row w (blkOf (a.eval x)) 32) : Oper.wp Try.prog ⟨dst, .load 120 x, tt, pos, af, gd⟩ a w K Q ↔ K (a.put dst (.agg (rowAt w (blkOf (a.eval x))))) w :=
  wp_load_whole Try.underlying120 rfl (by kernel_rfl) hv h
theorem store_t32 {w : World} {dst : Option Tmp} {x y : Operand} {tt : TypeId} {pos : String} {af : Array Edge} {gd : Option (Nat × Bool)} {a : Act} {K : Act → World → Prop} {Q : Exit → Act → World → Prop}
    (hv : IsHead (a.eval x)) (h : Row w (blkOf (a.eval x)) 32) (hx : IsAgg (a.eval y) 32) : Oper.wp Try.prog ⟨dst, .store 120 x y, tt, pos, af, gd⟩ a w K Q ↔ K (a.put dst undef) (w.setRow (blkOf (a.eval x)) (cellsV (a.eval y))) :=
  wp_store_whole (by kernel_rfl) hv h hx
theorem execl_t32 {w : World} {dst : Option Tmp} {x : Operand} {tt : TypeId} {pos : String} {af : Array Edge} {gd : Option (Nat × Bool)} {ρ : Operand → Value}
    (hv : IsHead (ρ x)) (h : Row w (blkOf (ρ x)) 32) : (execOp ρ ⟨dst, .load 120 x, tt, pos, af, gd⟩).run Try.prog w = .ok (.value (.agg (rowAt w (blkOf (ρ x))))) w :=
  exec_load_whole Try.underlying120 rfl (by kernel_rfl) hv h
theorem execs_t32 {w : World} {dst : Option Tmp} {x y : Operand} {tt : TypeId} {pos : String} {af : Array Edge} {gd : Option (Nat × Bool)} {ρ : Operand → Value}
    (hv : IsHead (ρ x)) (h : Row w (blkOf (ρ x)) 32) (hx : IsAgg (ρ y) 32) : (execOp ρ ⟨dst, .store 120 x y, tt, pos, af, gd⟩).run Try.prog w = .ok .skip (w.setRow (blkOf (ρ x)) (cellsV (ρ y))) :=
  exec_store_whole (by kernel_rfl) hv h hx

attribute [local go_sem ↓] load_t32 store_t32
theorem fe_By (a b : Nat) (w : World) (ha : a < 2 ^ 256) (hb : b < 2 ^ 256) : Calls Try.prog 25 #[feV a, feV b] w fun e w' => e = .returned (feV (a * b % fP)) ∧ Below w.heap.size w w' := by
  have hle := Lib.hid (fun G (h : ∀ i, G i ≤ 42880364870400) V => ref_least (byT G) V (byT_tame h))
  have hval := Lib.hid (fun p (h : ByI a b 16 0 p) => byG_val h ha)
  have hrow := Lib.hid (fun i p (h : ByI a b i 16 p) => h.row hb)
  have hI0 := Lib.hid (ByI.start a b)
  clear ha hb
  unfold feV at hle ⊢
  have hc0 := arrK_cells .i64 16 fun _ => 0
  have hc1 := arrK_cells .i64 17 fun _ => 0
  have hc2 := arrK_cells .i64 32 fun _ => 0
  have hL0 : Below w.heap.size w ((((w.alloc (Obj.cells (arrK .i64 16 (dgt a)) 26)).alloc (Obj.cells (arrK .i64 16 (dgt b)) 26)).alloc (Obj.cells (arrK .i64 16 fun _ => 0) 26)).alloc (Obj.cells (arrK .i64 32 fun _ => 0) 120)) := by go_grown
  have hA0 : At ((((w.alloc (Obj.cells (arrK .i64 16 (dgt a)) 26)).alloc (Obj.cells (arrK .i64 16 (dgt b)) 26)).alloc (Obj.cells (arrK .i64 16 fun _ => 0) 26)).alloc (Obj.cells (arrK .i64 32 fun _ => 0) 120)) w.heap.size .i64 16 (dgt a) := (((At.new _ rfl).old _).old _).old _
  have hB0 : At ((((w.alloc (Obj.cells (arrK .i64 16 (dgt a)) 26)).alloc (Obj.cells (arrK .i64 16 (dgt b)) 26)).alloc (Obj.cells (arrK .i64 16 fun _ => 0) 26)).alloc (Obj.cells (arrK .i64 32 fun _ => 0) 120)) (w.heap.size + 1) .i64 16 (dgt b) := ((At.new _ (by simp)).old _).old _
  have hR0 : Row ((((w.alloc (Obj.cells (arrK .i64 16 (dgt a)) 26)).alloc (Obj.cells (arrK .i64 16 (dgt b)) 26)).alloc (Obj.cells (arrK .i64 16 fun _ => 0) 26)).alloc (Obj.cells (arrK .i64 32 fun _ => 0) 120)) (w.heap.size + 1 + 1) 16 := ((At.new (k := .i64) (f := fun _ => 0) _ (by simp)).old _).row
  have hP0 : At ((((w.alloc (Obj.cells (arrK .i64 16 (dgt a)) 26)).alloc (Obj.cells (arrK .i64 16 (dgt b)) 26)).alloc (Obj.cells (arrK .i64 16 fun _ => 0) 26)).alloc (Obj.cells (arrK .i64 32 fun _ => 0) 120)) (w.heap.size + 1 + 1 + 1) .i64 32 (fun _ => 0) := At.new _ (by simp)
  have hL := Lib.hid hL0
  have hR := Lib.hid hR0
  have hA := Lib.hid hA0
  have hB := Lib.hid hB0
  have hP := Lib.hid hP0
  clear hL0 hR0 hA0 hB0 hP0
  go_enter Try.func25, Try.ntmps25
  go_wp2_with fail
  generalize (((w.alloc _).alloc _).alloc _).alloc _ = W0 at *
  go_loopw [11] (fun i wr => ∃ (s : Nat) (p : Nat → Nat), i = .int .i64 s ∧ s ≤ 16 ∧ Hid (ByI a b s 0 p) ∧ Hid (At wr w.heap.size .i64 16 (dgt a)) ∧ Hid (At wr (w.heap.size + 1) .i64 16 (dgt b)) ∧ Hid (Row wr (w.heap.size + 1 + 1) 16) ∧ Hid (At wr (w.heap.size + 1 + 1 + 1) .i64 32 p) ∧ Hid (Below w.heap.size w wr)) (fun i _ => 16 - (intOf i).toNat)
  case atStart => exact ⟨0, _, rfl, by omega, hI0, hA, hB, hR, hP, hL⟩
  case round =>
    clear hI0 hA hB hR hP hL
    obtain ⟨s, p, rfl, hs, hI, hA, hB, hR, hP, hL⟩ := hrel
    by_cases h16 : s = 16
    · subst h16
      rw [show ((16 : Nat) : Int) = 16 from rfl]
      have hcG := Lib.hid (byG_le hI.out)
      have hvG := hval.out p hI.out
      have hcar := Lib.hid (byG_car hcG.out)
      have hle2 := Lib.hid (hle.out (byG p) hcG.out)
      rw [byT_val, hvG] at hle2
      obtain ⟨V, hV⟩ : ∃ V, a * b % fP = V := ⟨_, rfl⟩
      rw [hV] at hle2
      have hVV := Lib.hid hV
      have hpl := Lib.hid hI.out.le
      have hGx := Lib.hid (fun i => show byG p i = p i + 38 * p (i + 16) from rfl)
      have hbe := Lib.hid (byT_end (byG p))
      clear hV hvG hle hval hrow hI
      obtain ⟨G, hG⟩ : ∃ G, byG p = G := ⟨_, rfl⟩
      rw [hG] at hGx hcG hcar hle2 hbe
      clear hG
      have hR1 := Lib.hid ((row_old (o := Obj.cells (arrK .i64 17 fun _ => 0) 114) hR.out.lt).2 hR.out)
      have hL1 := Lib.hid (Below.trans hL.out ((below_alloc wr (Obj.cells (arrK .i64 17 fun _ => 0) 114)).mono hL.out.size))
      have hP1 := Lib.hid (hP.out.old (Obj.cells (arrK .i64 17 fun _ => 0) 114))
      have hT1 := Lib.hid ((At.new (w := wr) (k := .i64) (m := 17) (f := fun _ => 0) 114 rfl).congr (f' := mixD (lout G 0) 0) fun i _ => by simp [mixD])
      have hlt := hP.out.lt
      clear hA hB hR hL hP
      go_wp2_with fail
      obtain ⟨g, hg⟩ : ∃ g, wr.heap.size = g := ⟨_, rfl⟩
      rw [hg] at hT1 hlt ⊢
      clear hg
      generalize wr.alloc _ = W1 at *
      go_loopw [9, 33] (fun c i wr => ∃ s : Nat, i = .int .i64 s ∧ s ≤ 16 ∧ c = .int .i64 (lcar G 0 s : Nat) ∧ Hid (Row wr (w.heap.size + 1 + 1) 16) ∧ Hid (At wr (w.heap.size + 1 + 1 + 1) .i64 32 p) ∧ Hid (At wr g .i64 17 (mixD (lout G 0) s)) ∧ Hid (Below w.heap.size w wr)) (fun _ i _ => 16 - (intOf i).toNat)
      case atStart => exact ⟨0, rfl, by omega, rfl, hR1, hP1, hT1, hL1⟩
      case round =>
        clear hR1 hP1 hT1 hL1
        obtain ⟨s, rfl, hs, rfl, hR, hP, hT, hL⟩ := hrel
        by_cases h16 : s = 16
        · subst h16
          rw [show ((16 : Nat) : Int) = 16 from rfl]
          have ct := hT.out.cell (i := 16) (by omega)
          have ft := hT.out.row.frozen 16
          have hT2 := Lib.hid ((hT.out.set 16 (lcar G 0 16)).congr hbe.out)
          have hR2 : Hid (Row (wr.setCell ⟨g, 16, none⟩ (.int .i64 (lcar G 0 16 : Nat))) (w.heap.size + 1 + 1) 16) := Lib.hid (row_setCell.2 hR.out)
          have hL2 := Lib.hid (show Below w.heap.size w (wr.setCell ⟨g, 16, none⟩ (.int .i64 (lcar G 0 16 : Nat))) from hL.out.setCell (by simp <;> omega) _)
          clear hT hR hL hP hbe hcG hcar hpl hGx
          generalize lcar G 0 16 = cc at *
          generalize mixD (lout G 0) 16 16 = yy at *
          go_upto_region 21 with (fail)
          generalize wr.setCell _ _ = W2 at *
          have hr1 := hT2.out.row
          have hr2 := hT2.out.eq
          go_wp2_with fail
          refine (hle2.out _).mono ?_
          rintro e w2 ⟨rfl, hbz⟩
          have hR3 := row_below hR2.out hbz hR2.out.lt
          have hL3 := Lib.hid (below_step hbz hL2.out (Nat.le_refl _))
          have hcv := arrK_cells .i64 16 (dgt V)
          clear hr1 hr2 hbz hT2 hR2 hL2
          dsimp only
          go_wp2_with fail
          exact ret_stored (p := 4) (ty := 26) (g := w.heap.size + 1 + 1) (n := 16) (c := arrK .i64 16 (dgt V)) rfl Try.underlying26 rfl (by kernel_rfl) rfl hR3 hcv.1 rfl ⟨by rw [hVV.out], below_setRow hL3.out (by omega)⟩
        · have hs16 : (s : Int) < 16 := by omega
          have hs17 : (s : Int) < 17 := by omega
          have hs32 : (s : Int) < 32 := by omega
          have hs3 : (s : Int) + 16 < 32 := by omega
          have hs0 : (0 : Int) ≤ (s : Int) + 16 := by omega
          have hsn : ((s : Int) + 16).toNat = s + 16 := by omega
          have c1 := hP.out.cell (i := s) (by omega)
          have c2 := hP.out.cell (i := s + 16) (by omega)
          have ct := hT.out.drew.cell (i := s) (by omega)
          have ft := hT.out.drew.row.frozen s
          have hl := hcar.out s
          have hb := hcG.out s
          have hp1 := hpl.out s
          have hp2 := hpl.out (s + 16)
          have hgx := hGx.out s
          have hn1 := Lib.hid (show lcar G 0 (s + 1) = (lcar G 0 s + G s) / 65536 from rfl)
          have hn2 := Lib.hid (show lout G 0 s = (lcar G 0 s + G s) % 65536 from rfl)
          have hT2 := Lib.hid ((hT.out.drew.set s (lout G 0 s)).congr fun p _ => mixD_step (lout G 0) s p)
          have hP2 : Hid (At (wr.drew.setCell ⟨g, s, none⟩ (.int .i64 (lout G 0 s : Nat))) (w.heap.size + 1 + 1 + 1) .i64 32 p) := Lib.hid (hP.out.drew.farC (by simp <;> omega))
          have hR2 : Hid (Row (wr.drew.setCell ⟨g, s, none⟩ (.int .i64 (lout G 0 s : Nat))) (w.heap.size + 1 + 1) 16) := Lib.hid (row_setCell.2 hR.out.drew)
          have hL2 := Lib.hid (show Below w.heap.size w (wr.drew.setCell ⟨g, s, none⟩ (.int .i64 (lout G 0 s : Nat))) from hL.out.drew.setCell (by simp <;> omega) _)
          rw [hn2.out] at hT2 hP2 hR2 hL2
          obtain ⟨x, hx⟩ : ∃ x, lcar G 0 s + G s = x := ⟨_, rfl⟩
          rw [hx] at hn1 hT2 hP2 hR2 hL2
          rw [show ((x % 65536 : Nat) : Int) = (x : Int) % 65536 from by omega] at hT2 hP2 hR2 hL2
          have hw0 : IntKind.i64.wrap (38 * (p (s + 16) : Int)) = 38 * (p (s + 16) : Int) := by rw [IntKind.wrap_i64]; omega
          have hw1 : IntKind.i64.wrap ((p s : Int) + 38 * (p (s + 16) : Int)) = (G s : Int) := by rw [IntKind.wrap_i64]; omega
          have hw2 : IntKind.i64.wrap ((lcar G 0 s : Int) + (G s : Int)) = (x : Int) := by rw [IntKind.wrap_i64]; omega
          have hw3 : IntKind.i64.wrap ((s : Int) + 16) = (s : Int) + 16 := by rw [IntKind.wrap_i64]; omega
          have hand := num_andM (a := x) (by omega)
          have hxb : x < 9223372036854775808 := by omega
          clear hx hT hR hL hP hn2 hl hb hp1 hp2 hgx
          generalize lcar G 0 s = c at *
          generalize mixD (lout G 0) s s = yy at *
          obtain ⟨gs, hgs⟩ : ∃ x, G s = x := ⟨_, rfl⟩
          rw [hgs] at hw1 hw2
          clear hgs
          go_wp2
          go_region
          all_goals
            go_wp2_with fail
            go_roundw
            case rel => exact ⟨s + 1, by go_num, by omega, congrArg (Value.int .i64) (by rw [hn1.out]; omega), hR2, hP2, hT2, hL2⟩
            case measure => simp [intOf]; omega
    · have hs16 : (s : Int) < 16 := by omega
      clear hle hval
      go_wp2_with fail
      go_loopw [14] (fun i wr => ∃ (k : Nat) (p : Nat → Nat), i = .int .i64 k ∧ k ≤ 16 ∧ Hid (ByI a b s k p) ∧ Hid (At wr w.heap.size .i64 16 (dgt a)) ∧ Hid (At wr (w.heap.size + 1) .i64 16 (dgt b)) ∧ Hid (Row wr (w.heap.size + 1 + 1) 16) ∧ Hid (At wr (w.heap.size + 1 + 1 + 1) .i64 32 p) ∧ Hid (Below w.heap.size w wr)) (fun i _ => 16 - (intOf i).toNat)
      case atStart => exact ⟨0, p, rfl, by omega, hI, hA, hB, hR, hP, hL⟩
      case round =>
        clear hI hA hB hR hP hL p
        obtain ⟨k, p, rfl, hk, hI, hA, hB, hR, hP, hL⟩ := hrel
        by_cases hk16 : k = 16
        · subst hk16
          rw [show ((16 : Nat) : Int) = 16 from rfl]
          have hI2 := Lib.hid (hrow.out s p hI.out)
          clear hrow
          go_wp2_with fail
          go_roundw
          case rel => exact ⟨s + 1, p, by go_num, by omega, hI2, hA, hB, hR, hP, hL⟩
          case measure => simp [intOf]; omega
        · have hk0 : (k : Int) < 16 := by omega
          have hI2 := Lib.hid (hI.out.step (by omega) (by omega))
          have hpb := hI.out.le (s + k)
          have hpb2 := hI2.out.le (s + k)
          rw [show upd p (s + k) (p (s + k) + dgt a s * dgt b k) (s + k) = p (s + k) + dgt a s * dgt b k by unfold upd; rw [if_pos rfl]] at hpb2
          have ca := hA.out.cell (i := s) (by omega)
          have cb := hB.out.cell (i := k) (by omega)
          have cp := hP.out.cell (i := s + k) (by omega)
          have fp := hP.out.row.frozen (s + k)
          have hax := dgt_lt a s
          have hbx := dgt_lt b k
          have hm1 : dgt a s * dgt b k ≤ 65535 * 65535 := Nat.mul_le_mul (by omega) (by omega)
          obtain ⟨v, hv⟩ : ∃ v, p (s + k) + dgt a s * dgt b k = v := ⟨_, rfl⟩
          rw [hv] at hI2 hpb2
          have hA2 : Hid (At (wr.setCell ⟨w.heap.size + 1 + 1 + 1, s + k, none⟩ (.int .i64 (v : Nat))) w.heap.size .i64 16 (dgt a)) := Lib.hid (hA.out.farC (by simp <;> omega))
          have hB2 : Hid (At (wr.setCell ⟨w.heap.size + 1 + 1 + 1, s + k, none⟩ (.int .i64 (v : Nat))) (w.heap.size + 1) .i64 16 (dgt b)) := Lib.hid (hB.out.farC (by simp <;> omega))
          have hP2 := Lib.hid (hP.out.set (s + k) v)
          have hR2 : Hid (Row (wr.setCell ⟨w.heap.size + 1 + 1 + 1, s + k, none⟩ (.int .i64 (v : Nat))) (w.heap.size + 1 + 1) 16) := Lib.hid (row_setCell.2 hR.out)
          have hL2 := Lib.hid (show Below w.heap.size w (wr.setCell ⟨w.heap.size + 1 + 1 + 1, s + k, none⟩ (.int .i64 (v : Nat))) from hL.out.setCell (by simp <;> omega) _)
          obtain ⟨m, hm⟩ : ∃ m, dgt a s * dgt b k = m := ⟨_, rfl⟩
          rw [hm] at hv hm1
          have hmi : ((dgt a s : Int) * (dgt b k : Int)) = (m : Int) := by rw [← hm]; simp
          have hw0 : IntKind.i64.wrap ((dgt a s : Int) * (dgt b k : Int)) = (m : Int) := by rw [hmi, IntKind.wrap_i64]; omega
          have hw1 : IntKind.i64.wrap ((p (s + k) : Int) + (m : Int)) = (v : Int) := by rw [IntKind.wrap_i64]; omega
          have hw2 : IntKind.i64.wrap ((s : Int) + k) = (s : Int) + k := by rw [IntKind.wrap_i64]; omega
          have hw3 : (0 : Int) ≤ (s : Int) + k := by omega
          have hw4 : (s : Int) + k < 32 := by omega
          have hw5 : ((s : Int) + k).toNat = s + k := by omega
          clear hv hm hmi hm1 hpb hpb2 hax hbx hA hB hP hR hL hI hrow
          generalize p (s + k) = x0 at *
          generalize dgt a s = x1 at *
          generalize dgt b k = x2 at *
          go_wp2
          go_region
          all_goals
            go_wp2_with fail
            go_roundw
            case rel => exact ⟨k + 1, _, by go_num, by omega, hI2, Lib.hid hA2.out.drew, Lib.hid hB2.out.drew, Lib.hid hR2.out.drew, Lib.hid hP2.out.drew, Lib.hid hL2.out.drew⟩
            case measure => simp [intOf]; omega
end Go.Proofs.Ytodcjeaannfbnaa
