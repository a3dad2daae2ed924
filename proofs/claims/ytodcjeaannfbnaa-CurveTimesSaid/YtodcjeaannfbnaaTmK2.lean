/- Several texts one behind the other: Rp2 CvE Open Args CvO Tm1 Tm2 Tm3. -/
import Derived.Test.YtodcjeaannfbnaaTmK1
import Derived.Test.YtodcjeaannfbnaaCvP
import Derived.Test.YtodcjeaannfbnaaMem
import Derived.ProofKit
import Derived.Test.YtodcjeaannfbnaaSl
import Derived.Deep.Slices
import Derived.Deep.Fields
import Derived.ChangeSame
import Derived.Test.YtodcjeaannfbnaaArrK
import Derived.Test.YtodcjeaannfbnaaFresh
namespace Go.Proofs.Ytodcjeaannfbnaa
open Go.ChangeShapes Go.WideShapes Go.ChangeAt Go.RowKit
set_option maxHeartbeats 2000000
set_option maxRecDepth 100000
attribute [local go_sem ↓] load_fld load_feP load_num store_num load_fe store_fe load_pt store_pt load_rp store_rp
attribute [local go_sem] isHead_mk blkOf_mk isAgg_mk cellsV_mk row_drew rowAt_drew row_new_cells row_old rowAt_new rowAt_old setRow_new zeroNum zeroPt zeroFe zeroRp
theorem less_low {a b : Nat} : lessM a b < 2 ^ 256 := low_lt
theorem rp_Plus (X1 Y1 Z1 X2 Y2 Z2 va vc vd vb ve0 ve vf vg vs1 vs2 vs vu1 r1 vu2 vcd r2 r3 : Nat) (w : World) (hX1 : X1 < 2 ^ 256) (hY1 : Y1 < 2 ^ 256) (hZ1 : Z1 < 2 ^ 256) (hX2 : X2 < 2 ^ 256) (hY2 : Y2 < 2 ^ 256) (hZ2 : Z2 < 2 ^ 256) (hva : Z1 * Z2 % fP = va) (hvc : X1 * X2 % fP = vc) (hvd : Y1 * Y2 % fP = vd) (hvb : va * va % fP = vb) (hve0 : dN * vc % fP = ve0) (hve : ve0 * vd % fP = ve) (hvf : lessM vb ve = vf) (hvg : (vb + ve) % fP = vg) (hvs1 : X1 * Y2 % fP = vs1) (hvs2 : Y1 * X2 % fP = vs2) (hvs : (vs1 + vs2) % fP = vs) (hvu1 : va * vf % fP = vu1) (hr1 : vu1 * vs % fP = r1) (hvu2 : va * vg % fP = vu2) (hvcd : (vc + vd) % fP = vcd) (hr2 : vu2 * vcd % fP = r2) (hr3 : vf * vg % fP = r3) : Calls Try.prog 40 #[rpV X1 Y1 Z1, rpV X2 Y2 Z2] w fun e w' => e = .returned (rpV r1 r2 r3) ∧ Below w.heap.size w w' := by
  have hdN := dN_lt
  have lva : va < 2 ^ 256 := hva ▸ low_lt
  have lvc : vc < 2 ^ 256 := hvc ▸ low_lt
  have lvd : vd < 2 ^ 256 := hvd ▸ low_lt
  have lvb : vb < 2 ^ 256 := hvb ▸ low_lt
  have lve0 : ve0 < 2 ^ 256 := hve0 ▸ low_lt
  have lve : ve < 2 ^ 256 := hve ▸ low_lt
  have lvf : vf < 2 ^ 256 := hvf ▸ less_low
  have lvg : vg < 2 ^ 256 := hvg ▸ low_lt
  have lvs1 : vs1 < 2 ^ 256 := hvs1 ▸ low_lt
  have lvs2 : vs2 < 2 ^ 256 := hvs2 ▸ low_lt
  have lvs : vs < 2 ^ 256 := hvs ▸ low_lt
  have lvu1 : vu1 < 2 ^ 256 := hvu1 ▸ low_lt
  have lr1 : r1 < 2 ^ 256 := hr1 ▸ low_lt
  have lvu2 : vu2 < 2 ^ 256 := hvu2 ▸ low_lt
  have lvcd : vcd < 2 ^ 256 := hvcd ▸ low_lt
  have lr2 : r2 < 2 ^ 256 := hr2 ▸ low_lt
  have lr3 : r3 < 2 ^ 256 := hr3 ▸ low_lt
  have kva := Lib.hid (fun V => fe_By Z1 Z2 V hZ1 hZ2)
  rw [hva] at kva
  have kvc := Lib.hid (fun V => fe_By X1 X2 V hX1 hX2)
  rw [hvc] at kvc
  have kvd := Lib.hid (fun V => fe_By Y1 Y2 V hY1 hY2)
  rw [hvd] at kvd
  have kvb := Lib.hid (fun V => fe_By va va V lva lva)
  rw [hvb] at kvb
  have kve0 := Lib.hid (fun V => fe_By dN vc V hdN lvc)
  rw [hve0] at kve0
  have kve := Lib.hid (fun V => fe_By ve0 vd V lve0 lvd)
  rw [hve] at kve
  have kvf := Lib.hid (fun V => fe_Less vb ve V lvb lve)
  rw [show (vb + 4 * fP - ve) % fP = vf from hvf] at kvf
  have kvg := Lib.hid (fun V => fe_Plus vb ve V lvb lve)
  rw [hvg] at kvg
  have kvs1 := Lib.hid (fun V => fe_By X1 Y2 V hX1 hY2)
  rw [hvs1] at kvs1
  have kvs2 := Lib.hid (fun V => fe_By Y1 X2 V hY1 hX2)
  rw [hvs2] at kvs2
  have kvs := Lib.hid (fun V => fe_Plus vs1 vs2 V lvs1 lvs2)
  rw [hvs] at kvs
  have kvu1 := Lib.hid (fun V => fe_By va vf V lva lvf)
  rw [hvu1] at kvu1
  have kr1 := Lib.hid (fun V => fe_By vu1 vs V lvu1 lvs)
  rw [hr1] at kr1
  have kvu2 := Lib.hid (fun V => fe_By va vg V lva lvg)
  rw [hvu2] at kvu2
  have kvcd := Lib.hid (fun V => fe_Plus vc vd V lvc lvd)
  rw [hvcd] at kvcd
  have kr2 := Lib.hid (fun V => fe_By vu2 vcd V lvu2 lvcd)
  rw [hr2] at kr2
  have kr3 := Lib.hid (fun V => fe_By vf vg V lvf lvg)
  rw [hr3] at kr3
  have kd := Lib.hid (fun V => ref_dOf V)
  obtain ⟨dn, hdn⟩ : ∃ d, dN = d := ⟨_, rfl⟩
  rw [hdn] at kd kve0
  clear hdn hdN hX1 hY1 hZ1 hX2 hY2 hZ2 hva lva hvc lvc hvd lvd hvb lvb hve0 lve0 hve lve hvf lvf hvg lvg hvs1 lvs1 hvs2 lvs2 hvs lvs hvu1 lvu1 hr1 lr1 hvu2 lvu2 hvcd lvcd hr2 lr2 hr3 lr3
  unfold feV at kd kva kvc kvd kvb kve0 kve kvf kvg kvs1 kvs2 kvs kvu1 kr1 kvu2 kvcd kr2 kr3
  unfold rpV
  have hcr := arrK_cells .i64 48 (cat3 (dgt r1) (dgt r2) (dgt r3))
  have hcz := arrK_cells .i64 48 (cat3 (fun _ => 0) (fun _ => 0) (fun _ => 0))
  have hc0 := arrK_cells .i64 16 fun _ => 0
  have hcva := arrK_cells .i64 16 (dgt va)
  have hcvc := arrK_cells .i64 16 (dgt vc)
  have hcvd := arrK_cells .i64 16 (dgt vd)
  have hcvb := arrK_cells .i64 16 (dgt vb)
  have hcve := arrK_cells .i64 16 (dgt ve)
  have hcvf := arrK_cells .i64 16 (dgt vf)
  have hcvg := arrK_cells .i64 16 (dgt vg)
  have hcvs := arrK_cells .i64 16 (dgt vs)
  have hL0 : Below w.heap.size w (((w.alloc (Obj.cells (arrK .i64 48 (cat3 (dgt X1) (dgt Y1) (dgt Z1))) 48)).alloc (Obj.cells (arrK .i64 48 (cat3 (dgt X2) (dgt Y2) (dgt Z2))) 48)).alloc (Obj.cells (arrK .i64 48 (cat3 (fun _ => 0) (fun _ => 0) (fun _ => 0))) 48)) := by go_grown
  have hA0 : At (((w.alloc (Obj.cells (arrK .i64 48 (cat3 (dgt X1) (dgt Y1) (dgt Z1))) 48)).alloc (Obj.cells (arrK .i64 48 (cat3 (dgt X2) (dgt Y2) (dgt Z2))) 48)).alloc (Obj.cells (arrK .i64 48 (cat3 (fun _ => 0) (fun _ => 0) (fun _ => 0))) 48)) w.heap.size .i64 48 (cat3 (dgt X1) (dgt Y1) (dgt Z1)) := ((At.new _ rfl).old _).old _
  have hB0 : At (((w.alloc (Obj.cells (arrK .i64 48 (cat3 (dgt X1) (dgt Y1) (dgt Z1))) 48)).alloc (Obj.cells (arrK .i64 48 (cat3 (dgt X2) (dgt Y2) (dgt Z2))) 48)).alloc (Obj.cells (arrK .i64 48 (cat3 (fun _ => 0) (fun _ => 0) (fun _ => 0))) 48)) (w.heap.size + 1) .i64 48 (cat3 (dgt X2) (dgt Y2) (dgt Z2)) := (At.new _ (by simp)).old _
  have hR0 : Row (((w.alloc (Obj.cells (arrK .i64 48 (cat3 (dgt X1) (dgt Y1) (dgt Z1))) 48)).alloc (Obj.cells (arrK .i64 48 (cat3 (dgt X2) (dgt Y2) (dgt Z2))) 48)).alloc (Obj.cells (arrK .i64 48 (cat3 (fun _ => 0) (fun _ => 0) (fun _ => 0))) 48)) (w.heap.size + 1 + 1) 48 := (At.new (k := .i64) (f := (cat3 (fun _ => 0) (fun _ => 0) (fun _ => 0))) _ (by simp)).row
  have hL := Lib.hid hL0
  have hR := Lib.hid hR0
  have hA := Lib.hid hA0
  have hB := Lib.hid hB0
  clear hL0 hR0 hA0 hB0
  go_enter Try.func40, Try.ntmps40
  go_upto_region 1 with (fail)
  generalize ((w.alloc _).alloc _).alloc _ = W0 at *
  generalize ha0 : Act.mk _ _ = a0
  have e2 : a0.tmps[2]?.getD undef = .pointer (some ⟨w.heap.size, 0, none⟩) := by rw [← ha0]; rfl
  have e3 : a0.tmps[3]?.getD undef = .pointer (some ⟨w.heap.size + 1, 0, none⟩) := by rw [← ha0]; rfl
  have hz0 : a0.tmps.size = 69 := by rw [← ha0]; rfl
  have hha0 := Lib.hid ha0
  clear ha0
  refine wp_region_fresh ⟨fun jx_ => match jx_ with | 0 => some (.pointer (some ⟨w.heap.size, 32, none⟩)) | 1 => some (.agg (arrK .i64 16 (dgt Z1))) | 2 => some (.pointer (some ⟨w.heap.size + 1, 32, none⟩)) | 3 => some (.agg (arrK .i64 16 (dgt Z2))) | 4 => some (.agg (arrK .i64 16 (dgt va))) | 5 => some (.pointer (some ⟨w.heap.size, 0, none⟩)) | 6 => some (.agg (arrK .i64 16 (dgt X1))) | 7 => some (.pointer (some ⟨w.heap.size + 1, 0, none⟩)) | 8 => some (.agg (arrK .i64 16 (dgt X2))) | 9 => some (.agg (arrK .i64 16 (dgt vc))) | 10 => some (.pointer (some ⟨w.heap.size, 16, none⟩)) | 11 => some (.agg (arrK .i64 16 (dgt Y1))) | 12 => some (.pointer (some ⟨w.heap.size + 1, 16, none⟩)) | 13 => some (.agg (arrK .i64 16 (dgt Y2))) | 14 => some (.agg (arrK .i64 16 (dgt vd))) | _ => none, fun jx_ => match jx_ with | 15 => some 16 | 16 => some 16 | 17 => some 16 | _ => none, fun jx_ => match jx_ with | 18 => some 15 | 19 => some 16 | 20 => some 17 | _ => none, fun jx_ => match jx_ with | 18 => arrK .i64 16 (dgt va) | 19 => arrK .i64 16 (dgt vc) | 20 => arrK .i64 16 (dgt vd) | _ => #[]⟩ (by kernel_rfl) (by kernel_rfl) (by kernel_rfl) (slotsOk_of hz0 (by kernel_rfl)) rfl ⟨?_, ?_, ?_, ?_, ?_, ?_, ?_, ?_, ?_, ?_, ?_, ?_, ?_, ?_, ?_, ?_, ?_, ?_, ?_, ?_, ?_, trivial⟩ ?_
  · refine fstep_val rfl rfl (calm_step rfl fun aa ω κ hb hu hc hK => ?_)
    have h2 : aa.tmps[2]?.getD undef = .pointer (some ⟨w.heap.size, 0, none⟩) := (hu 2 rfl).trans e2
    have hk := Lib.hid (fun w1 (h : Below ω.heap.size ω w1) => hK (.pointer (some ⟨w.heap.size, 32, none⟩)) w1 rfl h)
    clear hK hu hc
    go_simp
    exact hk.out _ (Below.refl _ _)
  · refine fstep_val rfl rfl (calm_step rfl fun aa ω κ hb hu hc hK => ?_)
    have h13 : aa.tmps[13]?.getD undef = .pointer (some ⟨w.heap.size, 32, none⟩) := hc 0 13 rfl rfl
    have hk := Lib.hid (fun w1 (h : Below ω.heap.size ω w1) => hK (.agg (arrK .i64 16 (dgt Z1))) w1 rfl h)
    clear hK hu hc
    have hl := rp_2 (hA.out.step hb)
    have hl1 := hl.1
    have hl2 := hl.2
    go_simp
    exact hk.out _ (Below.refl _ _)
  · refine fstep_val rfl rfl (calm_step rfl fun aa ω κ hb hu hc hK => ?_)
    have h3 : aa.tmps[3]?.getD undef = .pointer (some ⟨w.heap.size + 1, 0, none⟩) := (hu 3 rfl).trans e3
    have hk := Lib.hid (fun w1 (h : Below ω.heap.size ω w1) => hK (.pointer (some ⟨w.heap.size + 1, 32, none⟩)) w1 rfl h)
    clear hK hu hc
    go_simp
    exact hk.out _ (Below.refl _ _)
  · refine fstep_val rfl rfl (calm_step rfl fun aa ω κ hb hu hc hK => ?_)
    have h15 : aa.tmps[15]?.getD undef = .pointer (some ⟨w.heap.size + 1, 32, none⟩) := hc 2 15 rfl rfl
    have hk := Lib.hid (fun w1 (h : Below ω.heap.size ω w1) => hK (.agg (arrK .i64 16 (dgt Z2))) w1 rfl h)
    clear hK hu hc
    have hl := rp_2 (hB.out.step hb)
    have hl1 := hl.1
    have hl2 := hl.2
    go_simp
    exact hk.out _ (Below.refl _ _)
  · refine fstep_val rfl rfl (calm_step rfl fun aa ω κ hb hu hc hK => ?_)
    have h14 : aa.tmps[14]?.getD undef = .agg (arrK .i64 16 (dgt Z1)) := hc 1 14 rfl rfl
    have h16 : aa.tmps[16]?.getD undef = .agg (arrK .i64 16 (dgt Z2)) := hc 3 16 rfl rfl
    have hk := Lib.hid (fun w1 (h : Below ω.heap.size ω w1) => hK (.agg (arrK .i64 16 (dgt va))) w1 rfl h)
    clear hK hu hc
    go_simp
    go_at_call 25
    refine (kva.out _).mono ?_
    rintro e w1 ⟨rfl, hb1⟩
    exact hk.out _ hb1
  · refine fstep_val rfl rfl (calm_step rfl fun aa ω κ hb hu hc hK => ?_)
    have h2 : aa.tmps[2]?.getD undef = .pointer (some ⟨w.heap.size, 0, none⟩) := (hu 2 rfl).trans e2
    have hk := Lib.hid (fun w1 (h : Below ω.heap.size ω w1) => hK (.pointer (some ⟨w.heap.size, 0, none⟩)) w1 rfl h)
    clear hK hu hc
    go_simp
    exact hk.out _ (Below.refl _ _)
  · refine fstep_val rfl rfl (calm_step rfl fun aa ω κ hb hu hc hK => ?_)
    have h18 : aa.tmps[18]?.getD undef = .pointer (some ⟨w.heap.size, 0, none⟩) := hc 5 18 rfl rfl
    have hk := Lib.hid (fun w1 (h : Below ω.heap.size ω w1) => hK (.agg (arrK .i64 16 (dgt X1))) w1 rfl h)
    clear hK hu hc
    have hl := rp_0 (hA.out.step hb)
    have hl1 := hl.1
    have hl2 := hl.2
    go_simp
    exact hk.out _ (Below.refl _ _)
  · refine fstep_val rfl rfl (calm_step rfl fun aa ω κ hb hu hc hK => ?_)
    have h3 : aa.tmps[3]?.getD undef = .pointer (some ⟨w.heap.size + 1, 0, none⟩) := (hu 3 rfl).trans e3
    have hk := Lib.hid (fun w1 (h : Below ω.heap.size ω w1) => hK (.pointer (some ⟨w.heap.size + 1, 0, none⟩)) w1 rfl h)
    clear hK hu hc
    go_simp
    exact hk.out _ (Below.refl _ _)
  · refine fstep_val rfl rfl (calm_step rfl fun aa ω κ hb hu hc hK => ?_)
    have h20 : aa.tmps[20]?.getD undef = .pointer (some ⟨w.heap.size + 1, 0, none⟩) := hc 7 20 rfl rfl
    have hk := Lib.hid (fun w1 (h : Below ω.heap.size ω w1) => hK (.agg (arrK .i64 16 (dgt X2))) w1 rfl h)
    clear hK hu hc
    have hl := rp_0 (hB.out.step hb)
    have hl1 := hl.1
    have hl2 := hl.2
    go_simp
    exact hk.out _ (Below.refl _ _)
  · refine fstep_val rfl rfl (calm_step rfl fun aa ω κ hb hu hc hK => ?_)
    have h19 : aa.tmps[19]?.getD undef = .agg (arrK .i64 16 (dgt X1)) := hc 6 19 rfl rfl
    have h21 : aa.tmps[21]?.getD undef = .agg (arrK .i64 16 (dgt X2)) := hc 8 21 rfl rfl
    have hk := Lib.hid (fun w1 (h : Below ω.heap.size ω w1) => hK (.agg (arrK .i64 16 (dgt vc))) w1 rfl h)
    clear hK hu hc
    go_simp
    go_at_call 25
    refine (kvc.out _).mono ?_
    rintro e w1 ⟨rfl, hb1⟩
    exact hk.out _ hb1
  · refine fstep_val rfl rfl (calm_step rfl fun aa ω κ hb hu hc hK => ?_)
    have h2 : aa.tmps[2]?.getD undef = .pointer (some ⟨w.heap.size, 0, none⟩) := (hu 2 rfl).trans e2
    have hk := Lib.hid (fun w1 (h : Below ω.heap.size ω w1) => hK (.pointer (some ⟨w.heap.size, 16, none⟩)) w1 rfl h)
    clear hK hu hc
    go_simp
    exact hk.out _ (Below.refl _ _)
  · refine fstep_val rfl rfl (calm_step rfl fun aa ω κ hb hu hc hK => ?_)
    have h23 : aa.tmps[23]?.getD undef = .pointer (some ⟨w.heap.size, 16, none⟩) := hc 10 23 rfl rfl
    have hk := Lib.hid (fun w1 (h : Below ω.heap.size ω w1) => hK (.agg (arrK .i64 16 (dgt Y1))) w1 rfl h)
    clear hK hu hc
    have hl := rp_1 (hA.out.step hb)
    have hl1 := hl.1
    have hl2 := hl.2
    go_simp
    exact hk.out _ (Below.refl _ _)
  · refine fstep_val rfl rfl (calm_step rfl fun aa ω κ hb hu hc hK => ?_)
    have h3 : aa.tmps[3]?.getD undef = .pointer (some ⟨w.heap.size + 1, 0, none⟩) := (hu 3 rfl).trans e3
    have hk := Lib.hid (fun w1 (h : Below ω.heap.size ω w1) => hK (.pointer (some ⟨w.heap.size + 1, 16, none⟩)) w1 rfl h)
    clear hK hu hc
    go_simp
    exact hk.out _ (Below.refl _ _)
  · refine fstep_val rfl rfl (calm_step rfl fun aa ω κ hb hu hc hK => ?_)
    have h25 : aa.tmps[25]?.getD undef = .pointer (some ⟨w.heap.size + 1, 16, none⟩) := hc 12 25 rfl rfl
    have hk := Lib.hid (fun w1 (h : Below ω.heap.size ω w1) => hK (.agg (arrK .i64 16 (dgt Y2))) w1 rfl h)
    clear hK hu hc
    have hl := rp_1 (hB.out.step hb)
    have hl1 := hl.1
    have hl2 := hl.2
    go_simp
    exact hk.out _ (Below.refl _ _)
  · refine fstep_val rfl rfl (calm_step rfl fun aa ω κ hb hu hc hK => ?_)
    have h24 : aa.tmps[24]?.getD undef = .agg (arrK .i64 16 (dgt Y1)) := hc 11 24 rfl rfl
    have h26 : aa.tmps[26]?.getD undef = .agg (arrK .i64 16 (dgt Y2)) := hc 13 26 rfl rfl
    have hk := Lib.hid (fun w1 (h : Below ω.heap.size ω w1) => hK (.agg (arrK .i64 16 (dgt vd))) w1 rfl h)
    clear hK hu hc
    go_simp
    go_at_call 25
    refine (kvd.out _).mono ?_
    rintro e w1 ⟨rfl, hb1⟩
    exact hk.out _ hb1
  · refine fstep_al (n := 16) rfl rfl fun aa ω κ hK => ?_
    have hk := Lib.hid hK
    clear hK
    go_simp
    exact hk.out _ _ hc0
  · refine fstep_al (n := 16) rfl rfl fun aa ω κ hK => ?_
    have hk := Lib.hid hK
    clear hK
    go_simp
    exact hk.out _ _ hc0
  · refine fstep_al (n := 16) rfl rfl fun aa ω κ hK => ?_
    have hk := Lib.hid hK
    clear hK
    go_simp
    exact hk.out _ _ hc0
  · refine fstep_st (j := 15) (n := 16) (d := 5) rfl rfl rfl rfl rfl hcva.1 rfl rfl fun aa ω κ g hb hu hc hp hr hK => ?_
    have h17 : aa.tmps[17]?.getD undef = .agg (arrK .i64 16 (dgt va)) := hc 4 17 rfl rfl
    have hk := Lib.hid hK
    clear hK hu hc
    have hcc := hcva
    go_simp
    exact hk.out undef
  · refine fstep_st (j := 16) (n := 16) (d := 6) rfl rfl rfl rfl rfl hcvc.1 rfl rfl fun aa ω κ g hb hu hc hp hr hK => ?_
    have h22 : aa.tmps[22]?.getD undef = .agg (arrK .i64 16 (dgt vc)) := hc 9 22 rfl rfl
    have hk := Lib.hid hK
    clear hK hu hc
    have hcc := hcvc
    go_simp
    exact hk.out undef
  · refine fstep_st (j := 17) (n := 16) (d := 7) rfl rfl rfl rfl rfl hcvd.1 rfl rfl fun aa ω κ g hb hu hc hp hr hK => ?_
    have h27 : aa.tmps[27]?.getD undef = .agg (arrK .i64 16 (dgt vd)) := hc 14 27 rfl rfl
    have hk := Lib.hid hK
    clear hK hu hc
    have hcc := hcvd
    go_simp
    exact hk.out undef
  · intro a1 w1 G I
    have ha0 := hha0.out
    subst ha0
    have he := act_patch (n := 69) [false, false, false, false, false, true, true, true, false, false, false, false, false, true, true, true, true, true, true, true, true, true, true, true, true, true, true, true, false, false, false, false, false, false, false, false, false, false, false, false, false, false, false, false, false, false, false, false, false, false, false, false, false, false, false, false, false, false, false, false, false, false, false, false, false, false, false, false, false] rfl (by kernel_rfl) I.un I.sz I.df
    simp only [patch, cond_true, cond_false, Nat.reduceAdd] at he
    have hal5 := I.al 15 5 16 rfl rfl rfl
    have hal6 := I.al 16 6 16 rfl rfl rfl
    have hal7 := I.al 17 7 16 rfl rfl rfl
    replace hA := Lib.hid (hA.out.step I.bel)
    replace hB := Lib.hid (hB.out.step I.bel)
    replace hR := Lib.hid (row_below hR.out I.bel hR.out.lt)
    replace hL := Lib.hid (below_step I.bel hL.out (Nat.le_refl _))
    have hX5 := Lib.hid (show At w1 (G 15) .i64 16 (dgt va) from ⟨(I.blk 15 16 rfl rfl).2, (I.row 18 15 rfl rfl).2.2⟩)
    have hX6 := Lib.hid (show At w1 (G 16) .i64 16 (dgt vc) from ⟨(I.blk 16 16 rfl rfl).2, (I.row 19 16 rfl rfl).2.2⟩)
    have hX7 := Lib.hid (show At w1 (G 17) .i64 16 (dgt vd) from ⟨(I.blk 17 16 rfl rfl).2, (I.row 20 17 rfl rfl).2.2⟩)
    clear kva kvc kvd
    clear I hz0 hha0 e2 e3
    rw [he]
    clear he
    rw [hal5]
    rw [hal6]
    rw [hal7]
    clear hal5 hal6 hal7
    generalize a1.tmps[13]?.getD undef = x13 at *
    generalize a1.tmps[14]?.getD undef = x14 at *
    generalize a1.tmps[15]?.getD undef = x15 at *
    generalize a1.tmps[16]?.getD undef = x16 at *
    generalize a1.tmps[17]?.getD undef = x17 at *
    generalize a1.tmps[18]?.getD undef = x18 at *
    generalize a1.tmps[19]?.getD undef = x19 at *
    generalize a1.tmps[20]?.getD undef = x20 at *
    generalize a1.tmps[21]?.getD undef = x21 at *
    generalize a1.tmps[22]?.getD undef = x22 at *
    generalize a1.tmps[23]?.getD undef = x23 at *
    generalize a1.tmps[24]?.getD undef = x24 at *
    generalize a1.tmps[25]?.getD undef = x25 at *
    generalize a1.tmps[26]?.getD undef = x26 at *
    generalize a1.tmps[27]?.getD undef = x27 at *
    obtain ⟨g5, hgz⟩ : ∃ g, G 15 = g := ⟨_, rfl⟩
    rw [hgz] at hX5 ⊢
    clear hgz
    obtain ⟨g6, hgz⟩ : ∃ g, G 16 = g := ⟨_, rfl⟩
    rw [hgz] at hX6 ⊢
    clear hgz
    obtain ⟨g7, hgz⟩ : ∃ g, G 17 = g := ⟨_, rfl⟩
    rw [hgz] at hX7 ⊢
    clear hgz
    generalize w1 = W1 at *
    go_upto_region 2 with (fail)
    generalize ha0 : Act.mk _ _ = a0
    have e5 : a0.tmps[5]?.getD undef = .pointer (some ⟨g5, 0, none⟩) := by rw [← ha0]; rfl
    have e6 : a0.tmps[6]?.getD undef = .pointer (some ⟨g6, 0, none⟩) := by rw [← ha0]; rfl
    have e7 : a0.tmps[7]?.getD undef = .pointer (some ⟨g7, 0, none⟩) := by rw [← ha0]; rfl
    have hz0 : a0.tmps.size = 69 := by rw [← ha0]; rfl
    have hha0 := Lib.hid ha0
    clear ha0
    refine wp_region_fresh ⟨fun jx_ => match jx_ with | 0 => some (.agg (arrK .i64 16 (dgt va))) | 1 => some (.agg (arrK .i64 16 (dgt va))) | 2 => some (.agg (arrK .i64 16 (dgt vb))) | 3 => some (.agg (arrK .i64 16 (dgt dn))) | 4 => some (.agg (arrK .i64 16 (dgt vc))) | 5 => some (.agg (arrK .i64 16 (dgt ve0))) | 6 => some (.agg (arrK .i64 16 (dgt vd))) | 7 => some (.agg (arrK .i64 16 (dgt ve))) | _ => none, fun jx_ => match jx_ with | 8 => some 16 | 9 => some 16 | _ => none, fun jx_ => match jx_ with | 10 => some 8 | 11 => some 9 | _ => none, fun jx_ => match jx_ with | 10 => arrK .i64 16 (dgt vb) | 11 => arrK .i64 16 (dgt ve) | _ => #[]⟩ (by kernel_rfl) (by kernel_rfl) (by kernel_rfl) (slotsOk_of hz0 (by kernel_rfl)) rfl ⟨?_, ?_, ?_, ?_, ?_, ?_, ?_, ?_, ?_, ?_, ?_, ?_, trivial⟩ ?_
    · refine fstep_val rfl rfl (calm_step rfl fun aa ω κ hb hu hc hK => ?_)
      have h5 : aa.tmps[5]?.getD undef = .pointer (some ⟨g5, 0, none⟩) := (hu 5 rfl).trans e5
      have hk := Lib.hid (fun w1 (h : Below ω.heap.size ω w1) => hK (.agg (arrK .i64 16 (dgt va))) w1 rfl h)
      clear hK hu hc
      have hr1 := (hX5.out.step hb).row
      have hr2 := (hX5.out.step hb).eq
      go_simp
      exact hk.out _ (Below.refl _ _)
    · refine fstep_val rfl rfl (calm_step rfl fun aa ω κ hb hu hc hK => ?_)
      have h5 : aa.tmps[5]?.getD undef = .pointer (some ⟨g5, 0, none⟩) := (hu 5 rfl).trans e5
      have hk := Lib.hid (fun w1 (h : Below ω.heap.size ω w1) => hK (.agg (arrK .i64 16 (dgt va))) w1 rfl h)
      clear hK hu hc
      have hr1 := (hX5.out.step hb).row
      have hr2 := (hX5.out.step hb).eq
      go_simp
      exact hk.out _ (Below.refl _ _)
    · refine fstep_val rfl rfl (calm_step rfl fun aa ω κ hb hu hc hK => ?_)
      have h28 : aa.tmps[28]?.getD undef = .agg (arrK .i64 16 (dgt va)) := hc 0 28 rfl rfl
      have h29 : aa.tmps[29]?.getD undef = .agg (arrK .i64 16 (dgt va)) := hc 1 29 rfl rfl
      have hk := Lib.hid (fun w1 (h : Below ω.heap.size ω w1) => hK (.agg (arrK .i64 16 (dgt vb))) w1 rfl h)
      clear hK hu hc
      go_simp
      go_at_call 25
      refine (kvb.out _).mono ?_
      rintro e w1 ⟨rfl, hb1⟩
      exact hk.out _ hb1
    · refine fstep_val rfl rfl (calm_step rfl fun aa ω κ hb hu hc hK => ?_)
      have hk := Lib.hid (fun w1 (h : Below ω.heap.size ω w1) => hK (.agg (arrK .i64 16 (dgt dn))) w1 rfl h)
      clear hK hu hc
      go_simp
      go_at_call 105
      refine (kd.out _).mono ?_
      rintro e w1 ⟨rfl, hb1⟩
      exact hk.out _ hb1
    · refine fstep_val rfl rfl (calm_step rfl fun aa ω κ hb hu hc hK => ?_)
      have h6 : aa.tmps[6]?.getD undef = .pointer (some ⟨g6, 0, none⟩) := (hu 6 rfl).trans e6
      have hk := Lib.hid (fun w1 (h : Below ω.heap.size ω w1) => hK (.agg (arrK .i64 16 (dgt vc))) w1 rfl h)
      clear hK hu hc
      have hr1 := (hX6.out.step hb).row
      have hr2 := (hX6.out.step hb).eq
      go_simp
      exact hk.out _ (Below.refl _ _)
    · refine fstep_val rfl rfl (calm_step rfl fun aa ω κ hb hu hc hK => ?_)
      have h31 : aa.tmps[31]?.getD undef = .agg (arrK .i64 16 (dgt dn)) := hc 3 31 rfl rfl
      have h32 : aa.tmps[32]?.getD undef = .agg (arrK .i64 16 (dgt vc)) := hc 4 32 rfl rfl
      have hk := Lib.hid (fun w1 (h : Below ω.heap.size ω w1) => hK (.agg (arrK .i64 16 (dgt ve0))) w1 rfl h)
      clear hK hu hc
      go_simp
      go_at_call 25
      refine (kve0.out _).mono ?_
      rintro e w1 ⟨rfl, hb1⟩
      exact hk.out _ hb1
    · refine fstep_val rfl rfl (calm_step rfl fun aa ω κ hb hu hc hK => ?_)
      have h7 : aa.tmps[7]?.getD undef = .pointer (some ⟨g7, 0, none⟩) := (hu 7 rfl).trans e7
      have hk := Lib.hid (fun w1 (h : Below ω.heap.size ω w1) => hK (.agg (arrK .i64 16 (dgt vd))) w1 rfl h)
      clear hK hu hc
      have hr1 := (hX7.out.step hb).row
      have hr2 := (hX7.out.step hb).eq
      go_simp
      exact hk.out _ (Below.refl _ _)
    · refine fstep_val rfl rfl (calm_step rfl fun aa ω κ hb hu hc hK => ?_)
      have h33 : aa.tmps[33]?.getD undef = .agg (arrK .i64 16 (dgt ve0)) := hc 5 33 rfl rfl
      have h34 : aa.tmps[34]?.getD undef = .agg (arrK .i64 16 (dgt vd)) := hc 6 34 rfl rfl
      have hk := Lib.hid (fun w1 (h : Below ω.heap.size ω w1) => hK (.agg (arrK .i64 16 (dgt ve))) w1 rfl h)
      clear hK hu hc
      go_simp
      go_at_call 25
      refine (kve.out _).mono ?_
      rintro e w1 ⟨rfl, hb1⟩
      exact hk.out _ hb1
    · refine fstep_al (n := 16) rfl rfl fun aa ω κ hK => ?_
      have hk := Lib.hid hK
      clear hK
      go_simp
      exact hk.out _ _ hc0
    · refine fstep_al (n := 16) rfl rfl fun aa ω κ hK => ?_
      have hk := Lib.hid hK
      clear hK
      go_simp
      exact hk.out _ _ hc0
    · refine fstep_st (j := 8) (n := 16) (d := 8) rfl rfl rfl rfl rfl hcvb.1 rfl rfl fun aa ω κ g hb hu hc hp hr hK => ?_
      have h30 : aa.tmps[30]?.getD undef = .agg (arrK .i64 16 (dgt vb)) := hc 2 30 rfl rfl
      have hk := Lib.hid hK
      clear hK hu hc
      have hcc := hcvb
      go_simp
      exact hk.out undef
    · refine fstep_st (j := 9) (n := 16) (d := 9) rfl rfl rfl rfl rfl hcve.1 rfl rfl fun aa ω κ g hb hu hc hp hr hK => ?_
      have h35 : aa.tmps[35]?.getD undef = .agg (arrK .i64 16 (dgt ve)) := hc 7 35 rfl rfl
      have hk := Lib.hid hK
      clear hK hu hc
      have hcc := hcve
      go_simp
      exact hk.out undef
    · intro a1 w1 G I
      have ha0 := hha0.out
      subst ha0
      have he := act_patch (n := 69) [false, false, false, false, false, false, false, false, true, true, false, false, false, false, false, false, false, false, false, false, false, false, false, false, false, false, false, false, true, true, true, true, true, true, true, true, false, false, false, false, false, false, false, false, false, false, false, false, false, false, false, false, false, false, false, false, false, false, false, false, false, false, false, false, false, false, false, false, false] rfl (by kernel_rfl) I.un I.sz I.df
      simp only [patch, cond_true, cond_false, Nat.reduceAdd] at he
      have hal8 := I.al 8 8 16 rfl rfl rfl
      have hal9 := I.al 9 9 16 rfl rfl rfl
      replace hA := Lib.hid (hA.out.step I.bel)
      replace hB := Lib.hid (hB.out.step I.bel)
      replace hR := Lib.hid (row_below hR.out I.bel hR.out.lt)
      replace hL := Lib.hid (below_step I.bel hL.out (Nat.le_refl _))
      replace hX5 := Lib.hid (hX5.out.step I.bel)
      replace hX6 := Lib.hid (hX6.out.step I.bel)
      replace hX7 := Lib.hid (hX7.out.step I.bel)
      have hX8 := Lib.hid (show At w1 (G 8) .i64 16 (dgt vb) from ⟨(I.blk 8 16 rfl rfl).2, (I.row 10 8 rfl rfl).2.2⟩)
      have hX9 := Lib.hid (show At w1 (G 9) .i64 16 (dgt ve) from ⟨(I.blk 9 16 rfl rfl).2, (I.row 11 9 rfl rfl).2.2⟩)
      clear kvb kd kve0 kve
      clear I hz0 hha0 e5 e6 e7
      rw [he]
      clear he
      rw [hal8]
      rw [hal9]
      clear hal8 hal9
      generalize a1.tmps[28]?.getD undef = x28 at *
      generalize a1.tmps[29]?.getD undef = x29 at *
      generalize a1.tmps[30]?.getD undef = x30 at *
      generalize a1.tmps[31]?.getD undef = x31 at *
      generalize a1.tmps[32]?.getD undef = x32 at *
      generalize a1.tmps[33]?.getD undef = x33 at *
      generalize a1.tmps[34]?.getD undef = x34 at *
      generalize a1.tmps[35]?.getD undef = x35 at *
      obtain ⟨g8, hgz⟩ : ∃ g, G 8 = g := ⟨_, rfl⟩
      rw [hgz] at hX8 ⊢
      clear hgz
      obtain ⟨g9, hgz⟩ : ∃ g, G 9 = g := ⟨_, rfl⟩
      rw [hgz] at hX9 ⊢
      clear hgz
      generalize w1 = W2 at *
      go_upto_region 3 with (fail)
      generalize ha0 : Act.mk _ _ = a0
      have e8 : a0.tmps[8]?.getD undef = .pointer (some ⟨g8, 0, none⟩) := by rw [← ha0]; rfl
      have e9 : a0.tmps[9]?.getD undef = .pointer (some ⟨g9, 0, none⟩) := by rw [← ha0]; rfl
      have hz0 : a0.tmps.size = 69 := by rw [← ha0]; rfl
      have hha0 := Lib.hid ha0
      clear ha0
      refine wp_region_fresh ⟨fun jx_ => match jx_ with | 0 => some (.agg (arrK .i64 16 (dgt vb))) | 1 => some (.agg (arrK .i64 16 (dgt ve))) | 2 => some (.agg (arrK .i64 16 (dgt vf))) | 3 => some (.agg (arrK .i64 16 (dgt vb))) | 4 => some (.agg (arrK .i64 16 (dgt ve))) | 5 => some (.agg (arrK .i64 16 (dgt vg))) | _ => none, fun jx_ => match jx_ with | 6 => some 16 | 7 => some 16 | _ => none, fun jx_ => match jx_ with | 8 => some 6 | 9 => some 7 | _ => none, fun jx_ => match jx_ with | 8 => arrK .i64 16 (dgt vf) | 9 => arrK .i64 16 (dgt vg) | _ => #[]⟩ (by kernel_rfl) (by kernel_rfl) (by kernel_rfl) (slotsOk_of hz0 (by kernel_rfl)) rfl ⟨?_, ?_, ?_, ?_, ?_, ?_, ?_, ?_, ?_, ?_, trivial⟩ ?_
      · refine fstep_val rfl rfl (calm_step rfl fun aa ω κ hb hu hc hK => ?_)
        have h8 : aa.tmps[8]?.getD undef = .pointer (some ⟨g8, 0, none⟩) := (hu 8 rfl).trans e8
        have hk := Lib.hid (fun w1 (h : Below ω.heap.size ω w1) => hK (.agg (arrK .i64 16 (dgt vb))) w1 rfl h)
        clear hK hu hc
        have hr1 := (hX8.out.step hb).row
        have hr2 := (hX8.out.step hb).eq
        go_simp
        exact hk.out _ (Below.refl _ _)
      · refine fstep_val rfl rfl (calm_step rfl fun aa ω κ hb hu hc hK => ?_)
        have h9 : aa.tmps[9]?.getD undef = .pointer (some ⟨g9, 0, none⟩) := (hu 9 rfl).trans e9
        have hk := Lib.hid (fun w1 (h : Below ω.heap.size ω w1) => hK (.agg (arrK .i64 16 (dgt ve))) w1 rfl h)
        clear hK hu hc
        have hr1 := (hX9.out.step hb).row
        have hr2 := (hX9.out.step hb).eq
        go_simp
        exact hk.out _ (Below.refl _ _)
      · refine fstep_val rfl rfl (calm_step rfl fun aa ω κ hb hu hc hK => ?_)
        have h36 : aa.tmps[36]?.getD undef = .agg (arrK .i64 16 (dgt vb)) := hc 0 36 rfl rfl
        have h37 : aa.tmps[37]?.getD undef = .agg (arrK .i64 16 (dgt ve)) := hc 1 37 rfl rfl
        have hk := Lib.hid (fun w1 (h : Below ω.heap.size ω w1) => hK (.agg (arrK .i64 16 (dgt vf))) w1 rfl h)
        clear hK hu hc
        go_simp
        go_at_call 23
        refine (kvf.out _).mono ?_
        rintro e w1 ⟨rfl, hb1⟩
        exact hk.out _ hb1
      · refine fstep_val rfl rfl (calm_step rfl fun aa ω κ hb hu hc hK => ?_)
        have h8 : aa.tmps[8]?.getD undef = .pointer (some ⟨g8, 0, none⟩) := (hu 8 rfl).trans e8
        have hk := Lib.hid (fun w1 (h : Below ω.heap.size ω w1) => hK (.agg (arrK .i64 16 (dgt vb))) w1 rfl h)
        clear hK hu hc
        have hr1 := (hX8.out.step hb).row
        have hr2 := (hX8.out.step hb).eq
        go_simp
        exact hk.out _ (Below.refl _ _)
      · refine fstep_val rfl rfl (calm_step rfl fun aa ω κ hb hu hc hK => ?_)
        have h9 : aa.tmps[9]?.getD undef = .pointer (some ⟨g9, 0, none⟩) := (hu 9 rfl).trans e9
        have hk := Lib.hid (fun w1 (h : Below ω.heap.size ω w1) => hK (.agg (arrK .i64 16 (dgt ve))) w1 rfl h)
        clear hK hu hc
        have hr1 := (hX9.out.step hb).row
        have hr2 := (hX9.out.step hb).eq
        go_simp
        exact hk.out _ (Below.refl _ _)
      · refine fstep_val rfl rfl (calm_step rfl fun aa ω κ hb hu hc hK => ?_)
        have h39 : aa.tmps[39]?.getD undef = .agg (arrK .i64 16 (dgt vb)) := hc 3 39 rfl rfl
        have h40 : aa.tmps[40]?.getD undef = .agg (arrK .i64 16 (dgt ve)) := hc 4 40 rfl rfl
        have hk := Lib.hid (fun w1 (h : Below ω.heap.size ω w1) => hK (.agg (arrK .i64 16 (dgt vg))) w1 rfl h)
        clear hK hu hc
        go_simp
        go_at_call 21
        refine (kvg.out _).mono ?_
        rintro e w1 ⟨rfl, hb1⟩
        exact hk.out _ hb1
      · refine fstep_al (n := 16) rfl rfl fun aa ω κ hK => ?_
        have hk := Lib.hid hK
        clear hK
        go_simp
        exact hk.out _ _ hc0
      · refine fstep_al (n := 16) rfl rfl fun aa ω κ hK => ?_
        have hk := Lib.hid hK
        clear hK
        go_simp
        exact hk.out _ _ hc0
      · refine fstep_st (j := 6) (n := 16) (d := 10) rfl rfl rfl rfl rfl hcvf.1 rfl rfl fun aa ω κ g hb hu hc hp hr hK => ?_
        have h38 : aa.tmps[38]?.getD undef = .agg (arrK .i64 16 (dgt vf)) := hc 2 38 rfl rfl
        have hk := Lib.hid hK
        clear hK hu hc
        have hcc := hcvf
        go_simp
        exact hk.out undef
      · refine fstep_st (j := 7) (n := 16) (d := 11) rfl rfl rfl rfl rfl hcvg.1 rfl rfl fun aa ω κ g hb hu hc hp hr hK => ?_
        have h41 : aa.tmps[41]?.getD undef = .agg (arrK .i64 16 (dgt vg)) := hc 5 41 rfl rfl
        have hk := Lib.hid hK
        clear hK hu hc
        have hcc := hcvg
        go_simp
        exact hk.out undef
      · intro a1 w1 G I
        have ha0 := hha0.out
        subst ha0
        have he := act_patch (n := 69) [false, false, false, false, false, false, false, false, false, false, true, true, false, false, false, false, false, false, false, false, false, false, false, false, false, false, false, false, false, false, false, false, false, false, false, false, true, true, true, true, true, true, false, false, false, false, false, false, false, false, false, false, false, false, false, false, false, false, false, false, false, false, false, false, false, false, false, false, false] rfl (by kernel_rfl) I.un I.sz I.df
        simp only [patch, cond_true, cond_false, Nat.reduceAdd] at he
        have hal10 := I.al 6 10 16 rfl rfl rfl
        have hal11 := I.al 7 11 16 rfl rfl rfl
        replace hA := Lib.hid (hA.out.step I.bel)
        replace hB := Lib.hid (hB.out.step I.bel)
        replace hR := Lib.hid (row_below hR.out I.bel hR.out.lt)
        replace hL := Lib.hid (below_step I.bel hL.out (Nat.le_refl _))
        replace hX5 := Lib.hid (hX5.out.step I.bel)
        replace hX6 := Lib.hid (hX6.out.step I.bel)
        replace hX7 := Lib.hid (hX7.out.step I.bel)
        replace hX8 := Lib.hid (hX8.out.step I.bel)
        replace hX9 := Lib.hid (hX9.out.step I.bel)
        have hX10 := Lib.hid (show At w1 (G 6) .i64 16 (dgt vf) from ⟨(I.blk 6 16 rfl rfl).2, (I.row 8 6 rfl rfl).2.2⟩)
        have hX11 := Lib.hid (show At w1 (G 7) .i64 16 (dgt vg) from ⟨(I.blk 7 16 rfl rfl).2, (I.row 9 7 rfl rfl).2.2⟩)
        clear kvf kvg
        clear I hz0 hha0 e8 e9
        rw [he]
        clear he
        rw [hal10]
        rw [hal11]
        clear hal10 hal11
        generalize a1.tmps[36]?.getD undef = x36 at *
        generalize a1.tmps[37]?.getD undef = x37 at *
        generalize a1.tmps[38]?.getD undef = x38 at *
        generalize a1.tmps[39]?.getD undef = x39 at *
        generalize a1.tmps[40]?.getD undef = x40 at *
        generalize a1.tmps[41]?.getD undef = x41 at *
        obtain ⟨g10, hgz⟩ : ∃ g, G 6 = g := ⟨_, rfl⟩
        rw [hgz] at hX10 ⊢
        clear hgz
        obtain ⟨g11, hgz⟩ : ∃ g, G 7 = g := ⟨_, rfl⟩
        rw [hgz] at hX11 ⊢
        clear hgz
        generalize w1 = W3 at *
        go_upto_region 4 with (fail)
        generalize ha0 : Act.mk _ _ = a0
        have e2 : a0.tmps[2]?.getD undef = .pointer (some ⟨w.heap.size, 0, none⟩) := by rw [← ha0]; rfl
        have e3 : a0.tmps[3]?.getD undef = .pointer (some ⟨w.heap.size + 1, 0, none⟩) := by rw [← ha0]; rfl
        have hz0 : a0.tmps.size = 69 := by rw [← ha0]; rfl
        have hha0 := Lib.hid ha0
        clear ha0
        refine wp_region_fresh ⟨fun jx_ => match jx_ with | 0 => some (.pointer (some ⟨w.heap.size, 0, none⟩)) | 1 => some (.agg (arrK .i64 16 (dgt X1))) | 2 => some (.pointer (some ⟨w.heap.size + 1, 16, none⟩)) | 3 => some (.agg (arrK .i64 16 (dgt Y2))) | 4 => some (.agg (arrK .i64 16 (dgt vs1))) | 5 => some (.pointer (some ⟨w.heap.size, 16, none⟩)) | 6 => some (.agg (arrK .i64 16 (dgt Y1))) | 7 => some (.pointer (some ⟨w.heap.size + 1, 0, none⟩)) | 8 => some (.agg (arrK .i64 16 (dgt X2))) | 9 => some (.agg (arrK .i64 16 (dgt vs2))) | 10 => some (.agg (arrK .i64 16 (dgt vs))) | _ => none, fun jx_ => match jx_ with | 11 => some 16 | _ => none, fun jx_ => match jx_ with | 12 => some 11 | _ => none, fun jx_ => match jx_ with | 12 => arrK .i64 16 (dgt vs) | _ => #[]⟩ (by kernel_rfl) (by kernel_rfl) (by kernel_rfl) (slotsOk_of hz0 (by kernel_rfl)) rfl ⟨?_, ?_, ?_, ?_, ?_, ?_, ?_, ?_, ?_, ?_, ?_, ?_, ?_, trivial⟩ ?_
        · refine fstep_val rfl rfl (calm_step rfl fun aa ω κ hb hu hc hK => ?_)
          have h2 : aa.tmps[2]?.getD undef = .pointer (some ⟨w.heap.size, 0, none⟩) := (hu 2 rfl).trans e2
          have hk := Lib.hid (fun w1 (h : Below ω.heap.size ω w1) => hK (.pointer (some ⟨w.heap.size, 0, none⟩)) w1 rfl h)
          clear hK hu hc
          go_simp
          exact hk.out _ (Below.refl _ _)
        · refine fstep_val rfl rfl (calm_step rfl fun aa ω κ hb hu hc hK => ?_)
          have h42 : aa.tmps[42]?.getD undef = .pointer (some ⟨w.heap.size, 0, none⟩) := hc 0 42 rfl rfl
          have hk := Lib.hid (fun w1 (h : Below ω.heap.size ω w1) => hK (.agg (arrK .i64 16 (dgt X1))) w1 rfl h)
          clear hK hu hc
          have hl := rp_0 (hA.out.step hb)
          have hl1 := hl.1
          have hl2 := hl.2
          go_simp
          exact hk.out _ (Below.refl _ _)
        · refine fstep_val rfl rfl (calm_step rfl fun aa ω κ hb hu hc hK => ?_)
          have h3 : aa.tmps[3]?.getD undef = .pointer (some ⟨w.heap.size + 1, 0, none⟩) := (hu 3 rfl).trans e3
          have hk := Lib.hid (fun w1 (h : Below ω.heap.size ω w1) => hK (.pointer (some ⟨w.heap.size + 1, 16, none⟩)) w1 rfl h)
          clear hK hu hc
          go_simp
          exact hk.out _ (Below.refl _ _)
        · refine fstep_val rfl rfl (calm_step rfl fun aa ω κ hb hu hc hK => ?_)
          have h44 : aa.tmps[44]?.getD undef = .pointer (some ⟨w.heap.size + 1, 16, none⟩) := hc 2 44 rfl rfl
          have hk := Lib.hid (fun w1 (h : Below ω.heap.size ω w1) => hK (.agg (arrK .i64 16 (dgt Y2))) w1 rfl h)
          clear hK hu hc
          have hl := rp_1 (hB.out.step hb)
          have hl1 := hl.1
          have hl2 := hl.2
          go_simp
          exact hk.out _ (Below.refl _ _)
        · refine fstep_val rfl rfl (calm_step rfl fun aa ω κ hb hu hc hK => ?_)
          have h43 : aa.tmps[43]?.getD undef = .agg (arrK .i64 16 (dgt X1)) := hc 1 43 rfl rfl
          have h45 : aa.tmps[45]?.getD undef = .agg (arrK .i64 16 (dgt Y2)) := hc 3 45 rfl rfl
          have hk := Lib.hid (fun w1 (h : Below ω.heap.size ω w1) => hK (.agg (arrK .i64 16 (dgt vs1))) w1 rfl h)
          clear hK hu hc
          go_simp
          go_at_call 25
          refine (kvs1.out _).mono ?_
          rintro e w1 ⟨rfl, hb1⟩
          exact hk.out _ hb1
        · refine fstep_val rfl rfl (calm_step rfl fun aa ω κ hb hu hc hK => ?_)
          have h2 : aa.tmps[2]?.getD undef = .pointer (some ⟨w.heap.size, 0, none⟩) := (hu 2 rfl).trans e2
          have hk := Lib.hid (fun w1 (h : Below ω.heap.size ω w1) => hK (.pointer (some ⟨w.heap.size, 16, none⟩)) w1 rfl h)
          clear hK hu hc
          go_simp
          exact hk.out _ (Below.refl _ _)
        · refine fstep_val rfl rfl (calm_step rfl fun aa ω κ hb hu hc hK => ?_)
          have h47 : aa.tmps[47]?.getD undef = .pointer (some ⟨w.heap.size, 16, none⟩) := hc 5 47 rfl rfl
          have hk := Lib.hid (fun w1 (h : Below ω.heap.size ω w1) => hK (.agg (arrK .i64 16 (dgt Y1))) w1 rfl h)
          clear hK hu hc
          have hl := rp_1 (hA.out.step hb)
          have hl1 := hl.1
          have hl2 := hl.2
          go_simp
          exact hk.out _ (Below.refl _ _)
        · refine fstep_val rfl rfl (calm_step rfl fun aa ω κ hb hu hc hK => ?_)
          have h3 : aa.tmps[3]?.getD undef = .pointer (some ⟨w.heap.size + 1, 0, none⟩) := (hu 3 rfl).trans e3
          have hk := Lib.hid (fun w1 (h : Below ω.heap.size ω w1) => hK (.pointer (some ⟨w.heap.size + 1, 0, none⟩)) w1 rfl h)
          clear hK hu hc
          go_simp
          exact hk.out _ (Below.refl _ _)
        · refine fstep_val rfl rfl (calm_step rfl fun aa ω κ hb hu hc hK => ?_)
          have h49 : aa.tmps[49]?.getD undef = .pointer (some ⟨w.heap.size + 1, 0, none⟩) := hc 7 49 rfl rfl
          have hk := Lib.hid (fun w1 (h : Below ω.heap.size ω w1) => hK (.agg (arrK .i64 16 (dgt X2))) w1 rfl h)
          clear hK hu hc
          have hl := rp_0 (hB.out.step hb)
          have hl1 := hl.1
          have hl2 := hl.2
          go_simp
          exact hk.out _ (Below.refl _ _)
        · refine fstep_val rfl rfl (calm_step rfl fun aa ω κ hb hu hc hK => ?_)
          have h48 : aa.tmps[48]?.getD undef = .agg (arrK .i64 16 (dgt Y1)) := hc 6 48 rfl rfl
          have h50 : aa.tmps[50]?.getD undef = .agg (arrK .i64 16 (dgt X2)) := hc 8 50 rfl rfl
          have hk := Lib.hid (fun w1 (h : Below ω.heap.size ω w1) => hK (.agg (arrK .i64 16 (dgt vs2))) w1 rfl h)
          clear hK hu hc
          go_simp
          go_at_call 25
          refine (kvs2.out _).mono ?_
          rintro e w1 ⟨rfl, hb1⟩
          exact hk.out _ hb1
        · refine fstep_val rfl rfl (calm_step rfl fun aa ω κ hb hu hc hK => ?_)
          have h46 : aa.tmps[46]?.getD undef = .agg (arrK .i64 16 (dgt vs1)) := hc 4 46 rfl rfl
          have h51 : aa.tmps[51]?.getD undef = .agg (arrK .i64 16 (dgt vs2)) := hc 9 51 rfl rfl
          have hk := Lib.hid (fun w1 (h : Below ω.heap.size ω w1) => hK (.agg (arrK .i64 16 (dgt vs))) w1 rfl h)
          clear hK hu hc
          go_simp
          go_at_call 21
          refine (kvs.out _).mono ?_
          rintro e w1 ⟨rfl, hb1⟩
          exact hk.out _ hb1
        · refine fstep_al (n := 16) rfl rfl fun aa ω κ hK => ?_
          have hk := Lib.hid hK
          clear hK
          go_simp
          exact hk.out _ _ hc0
        · refine fstep_st (j := 11) (n := 16) (d := 12) rfl rfl rfl rfl rfl hcvs.1 rfl rfl fun aa ω κ g hb hu hc hp hr hK => ?_
          have h52 : aa.tmps[52]?.getD undef = .agg (arrK .i64 16 (dgt vs)) := hc 10 52 rfl rfl
          have hk := Lib.hid hK
          clear hK hu hc
          have hcc := hcvs
          go_simp
          exact hk.out undef
        · intro a1 w1 G I
          have ha0 := hha0.out
          subst ha0
          have he := act_patch (n := 69) [false, false, false, false, false, false, false, false, false, false, false, false, true, false, false, false, false, false, false, false, false, false, false, false, false, false, false, false, false, false, false, false, false, false, false, false, false, false, false, false, false, false, true, true, true, true, true, true, true, true, true, true, true, false, false, false, false, false, false, false, false, false, false, false, false, false, false, false, false] rfl (by kernel_rfl) I.un I.sz I.df
          simp only [patch, cond_true, cond_false, Nat.reduceAdd] at he
          have hal12 := I.al 11 12 16 rfl rfl rfl
          replace hA := Lib.hid (hA.out.step I.bel)
          replace hB := Lib.hid (hB.out.step I.bel)
          replace hR := Lib.hid (row_below hR.out I.bel hR.out.lt)
          replace hL := Lib.hid (below_step I.bel hL.out (Nat.le_refl _))
          replace hX5 := Lib.hid (hX5.out.step I.bel)
          replace hX6 := Lib.hid (hX6.out.step I.bel)
          replace hX7 := Lib.hid (hX7.out.step I.bel)
          replace hX8 := Lib.hid (hX8.out.step I.bel)
          replace hX9 := Lib.hid (hX9.out.step I.bel)
          replace hX10 := Lib.hid (hX10.out.step I.bel)
          replace hX11 := Lib.hid (hX11.out.step I.bel)
          have hX12 := Lib.hid (show At w1 (G 11) .i64 16 (dgt vs) from ⟨(I.blk 11 16 rfl rfl).2, (I.row 12 11 rfl rfl).2.2⟩)
          clear kvs1 kvs2 kvs
          clear I hz0 hha0 e2 e3
          rw [he]
          clear he
          rw [hal12]
          clear hal12
          generalize a1.tmps[42]?.getD undef = x42 at *
          generalize a1.tmps[43]?.getD undef = x43 at *
          generalize a1.tmps[44]?.getD undef = x44 at *
          generalize a1.tmps[45]?.getD undef = x45 at *
          generalize a1.tmps[46]?.getD undef = x46 at *
          generalize a1.tmps[47]?.getD undef = x47 at *
          generalize a1.tmps[48]?.getD undef = x48 at *
          generalize a1.tmps[49]?.getD undef = x49 at *
          generalize a1.tmps[50]?.getD undef = x50 at *
          generalize a1.tmps[51]?.getD undef = x51 at *
          generalize a1.tmps[52]?.getD undef = x52 at *
          obtain ⟨g12, hgz⟩ : ∃ g, G 11 = g := ⟨_, rfl⟩
          rw [hgz] at hX12 ⊢
          clear hgz
          generalize w1 = W4 at *
          go_upto_region 5 with (fail)
          generalize ha0 : Act.mk _ _ = a0
          have e4 : a0.tmps[4]?.getD undef = .pointer (some ⟨w.heap.size + 1 + 1, 0, none⟩) := by rw [← ha0]; rfl
          have e5 : a0.tmps[5]?.getD undef = .pointer (some ⟨g5, 0, none⟩) := by rw [← ha0]; rfl
          have e6 : a0.tmps[6]?.getD undef = .pointer (some ⟨g6, 0, none⟩) := by rw [← ha0]; rfl
          have e7 : a0.tmps[7]?.getD undef = .pointer (some ⟨g7, 0, none⟩) := by rw [← ha0]; rfl
          have e10 : a0.tmps[10]?.getD undef = .pointer (some ⟨g10, 0, none⟩) := by rw [← ha0]; rfl
          have e11 : a0.tmps[11]?.getD undef = .pointer (some ⟨g11, 0, none⟩) := by rw [← ha0]; rfl
          have e12 : a0.tmps[12]?.getD undef = .pointer (some ⟨g12, 0, none⟩) := by rw [← ha0]; rfl
          have hz0 : a0.tmps.size = 69 := by rw [← ha0]; rfl
          have hha0 := Lib.hid ha0
          clear ha0
          refine wp_region_one (fun jx_ => match jx_ with | 0 => some (.agg (arrK .i64 16 (dgt va))) | 1 => some (.agg (arrK .i64 16 (dgt vf))) | 2 => some (.agg (arrK .i64 16 (dgt vu1))) | 3 => some (.agg (arrK .i64 16 (dgt vs))) | 4 => some (.agg (arrK .i64 16 (dgt r1))) | 5 => some (.agg (arrK .i64 16 (dgt va))) | 6 => some (.agg (arrK .i64 16 (dgt vg))) | 7 => some (.agg (arrK .i64 16 (dgt vu2))) | 8 => some (.agg (arrK .i64 16 (dgt vc))) | 9 => some (.agg (arrK .i64 16 (dgt vd))) | 10 => some (.agg (arrK .i64 16 (dgt vcd))) | 11 => some (.agg (arrK .i64 16 (dgt r2))) | 12 => some (.agg (arrK .i64 16 (dgt vf))) | 13 => some (.agg (arrK .i64 16 (dgt vg))) | 14 => some (.agg (arrK .i64 16 (dgt r3))) | 15 => some (.agg (arrK .i64 48 (cat3 (dgt r1) (dgt r2) (dgt r3)))) | _ => none) 16 ((w.heap.size + 1 + 1)) 48 (arrK .i64 48 (cat3 (dgt r1) (dgt r2) (dgt r3))) (by kernel_rfl) (by kernel_rfl) (by kernel_rfl) (slotsOk_of hz0 (by kernel_rfl)) (of_decide_eq_true (by kernel_rfl)) hR.out ⟨?_, ?_, ?_, ?_, ?_, ?_, ?_, ?_, ?_, ?_, ?_, ?_, ?_, ?_, ?_, ?_, ?_, trivial⟩ ?_
          · refine one_before (by decide) (by kernel_rfl) (calm_step rfl fun aa ω κ hb hu hc hK => ?_)
            have h5 : aa.tmps[5]?.getD undef = .pointer (some ⟨g5, 0, none⟩) := (hu 5 rfl).trans e5
            have hk := Lib.hid (fun w1 (h : Below ω.heap.size ω w1) => hK (.agg (arrK .i64 16 (dgt va))) w1 rfl h)
            clear hK hu hc
            have hr1 := (hX5.out.step hb).row
            have hr2 := (hX5.out.step hb).eq
            go_simp
            exact hk.out _ (Below.refl _ _)
          · refine one_before (by decide) (by kernel_rfl) (calm_step rfl fun aa ω κ hb hu hc hK => ?_)
            have h10 : aa.tmps[10]?.getD undef = .pointer (some ⟨g10, 0, none⟩) := (hu 10 rfl).trans e10
            have hk := Lib.hid (fun w1 (h : Below ω.heap.size ω w1) => hK (.agg (arrK .i64 16 (dgt vf))) w1 rfl h)
            clear hK hu hc
            have hr1 := (hX10.out.step hb).row
            have hr2 := (hX10.out.step hb).eq
            go_simp
            exact hk.out _ (Below.refl _ _)
          · refine one_before (by decide) (by kernel_rfl) (calm_step rfl fun aa ω κ hb hu hc hK => ?_)
            have h53 : aa.tmps[53]?.getD undef = .agg (arrK .i64 16 (dgt va)) := hc 0 53 rfl rfl
            have h54 : aa.tmps[54]?.getD undef = .agg (arrK .i64 16 (dgt vf)) := hc 1 54 rfl rfl
            have hk := Lib.hid (fun w1 (h : Below ω.heap.size ω w1) => hK (.agg (arrK .i64 16 (dgt vu1))) w1 rfl h)
            clear hK hu hc
            go_simp
            go_at_call 25
            refine (kvu1.out _).mono ?_
            rintro e w1 ⟨rfl, hb1⟩
            exact hk.out _ hb1
          · refine one_before (by decide) (by kernel_rfl) (calm_step rfl fun aa ω κ hb hu hc hK => ?_)
            have h12 : aa.tmps[12]?.getD undef = .pointer (some ⟨g12, 0, none⟩) := (hu 12 rfl).trans e12
            have hk := Lib.hid (fun w1 (h : Below ω.heap.size ω w1) => hK (.agg (arrK .i64 16 (dgt vs))) w1 rfl h)
            clear hK hu hc
            have hr1 := (hX12.out.step hb).row
            have hr2 := (hX12.out.step hb).eq
            go_simp
            exact hk.out _ (Below.refl _ _)
          · refine one_before (by decide) (by kernel_rfl) (calm_step rfl fun aa ω κ hb hu hc hK => ?_)
            have h55 : aa.tmps[55]?.getD undef = .agg (arrK .i64 16 (dgt vu1)) := hc 2 55 rfl rfl
            have h56 : aa.tmps[56]?.getD undef = .agg (arrK .i64 16 (dgt vs)) := hc 3 56 rfl rfl
            have hk := Lib.hid (fun w1 (h : Below ω.heap.size ω w1) => hK (.agg (arrK .i64 16 (dgt r1))) w1 rfl h)
            clear hK hu hc
            go_simp
            go_at_call 25
            refine (kr1.out _).mono ?_
            rintro e w1 ⟨rfl, hb1⟩
            exact hk.out _ hb1
          · refine one_before (by decide) (by kernel_rfl) (calm_step rfl fun aa ω κ hb hu hc hK => ?_)
            have h5 : aa.tmps[5]?.getD undef = .pointer (some ⟨g5, 0, none⟩) := (hu 5 rfl).trans e5
            have hk := Lib.hid (fun w1 (h : Below ω.heap.size ω w1) => hK (.agg (arrK .i64 16 (dgt va))) w1 rfl h)
            clear hK hu hc
            have hr1 := (hX5.out.step hb).row
            have hr2 := (hX5.out.step hb).eq
            go_simp
            exact hk.out _ (Below.refl _ _)
          · refine one_before (by decide) (by kernel_rfl) (calm_step rfl fun aa ω κ hb hu hc hK => ?_)
            have h11 : aa.tmps[11]?.getD undef = .pointer (some ⟨g11, 0, none⟩) := (hu 11 rfl).trans e11
            have hk := Lib.hid (fun w1 (h : Below ω.heap.size ω w1) => hK (.agg (arrK .i64 16 (dgt vg))) w1 rfl h)
            clear hK hu hc
            have hr1 := (hX11.out.step hb).row
            have hr2 := (hX11.out.step hb).eq
            go_simp
            exact hk.out _ (Below.refl _ _)
          · refine one_before (by decide) (by kernel_rfl) (calm_step rfl fun aa ω κ hb hu hc hK => ?_)
            have h58 : aa.tmps[58]?.getD undef = .agg (arrK .i64 16 (dgt va)) := hc 5 58 rfl rfl
            have h59 : aa.tmps[59]?.getD undef = .agg (arrK .i64 16 (dgt vg)) := hc 6 59 rfl rfl
            have hk := Lib.hid (fun w1 (h : Below ω.heap.size ω w1) => hK (.agg (arrK .i64 16 (dgt vu2))) w1 rfl h)
            clear hK hu hc
            go_simp
            go_at_call 25
            refine (kvu2.out _).mono ?_
            rintro e w1 ⟨rfl, hb1⟩
            exact hk.out _ hb1
          · refine one_before (by decide) (by kernel_rfl) (calm_step rfl fun aa ω κ hb hu hc hK => ?_)
            have h6 : aa.tmps[6]?.getD undef = .pointer (some ⟨g6, 0, none⟩) := (hu 6 rfl).trans e6
            have hk := Lib.hid (fun w1 (h : Below ω.heap.size ω w1) => hK (.agg (arrK .i64 16 (dgt vc))) w1 rfl h)
            clear hK hu hc
            have hr1 := (hX6.out.step hb).row
            have hr2 := (hX6.out.step hb).eq
            go_simp
            exact hk.out _ (Below.refl _ _)
          · refine one_before (by decide) (by kernel_rfl) (calm_step rfl fun aa ω κ hb hu hc hK => ?_)
            have h7 : aa.tmps[7]?.getD undef = .pointer (some ⟨g7, 0, none⟩) := (hu 7 rfl).trans e7
            have hk := Lib.hid (fun w1 (h : Below ω.heap.size ω w1) => hK (.agg (arrK .i64 16 (dgt vd))) w1 rfl h)
            clear hK hu hc
            have hr1 := (hX7.out.step hb).row
            have hr2 := (hX7.out.step hb).eq
            go_simp
            exact hk.out _ (Below.refl _ _)
          · refine one_before (by decide) (by kernel_rfl) (calm_step rfl fun aa ω κ hb hu hc hK => ?_)
            have h61 : aa.tmps[61]?.getD undef = .agg (arrK .i64 16 (dgt vc)) := hc 8 61 rfl rfl
            have h62 : aa.tmps[62]?.getD undef = .agg (arrK .i64 16 (dgt vd)) := hc 9 62 rfl rfl
            have hk := Lib.hid (fun w1 (h : Below ω.heap.size ω w1) => hK (.agg (arrK .i64 16 (dgt vcd))) w1 rfl h)
            clear hK hu hc
            go_simp
            go_at_call 21
            refine (kvcd.out _).mono ?_
            rintro e w1 ⟨rfl, hb1⟩
            exact hk.out _ hb1
          · refine one_before (by decide) (by kernel_rfl) (calm_step rfl fun aa ω κ hb hu hc hK => ?_)
            have h60 : aa.tmps[60]?.getD undef = .agg (arrK .i64 16 (dgt vu2)) := hc 7 60 rfl rfl
            have h63 : aa.tmps[63]?.getD undef = .agg (arrK .i64 16 (dgt vcd)) := hc 10 63 rfl rfl
            have hk := Lib.hid (fun w1 (h : Below ω.heap.size ω w1) => hK (.agg (arrK .i64 16 (dgt r2))) w1 rfl h)
            clear hK hu hc
            go_simp
            go_at_call 25
            refine (kr2.out _).mono ?_
            rintro e w1 ⟨rfl, hb1⟩
            exact hk.out _ hb1
          · refine one_before (by decide) (by kernel_rfl) (calm_step rfl fun aa ω κ hb hu hc hK => ?_)
            have h10 : aa.tmps[10]?.getD undef = .pointer (some ⟨g10, 0, none⟩) := (hu 10 rfl).trans e10
            have hk := Lib.hid (fun w1 (h : Below ω.heap.size ω w1) => hK (.agg (arrK .i64 16 (dgt vf))) w1 rfl h)
            clear hK hu hc
            have hr1 := (hX10.out.step hb).row
            have hr2 := (hX10.out.step hb).eq
            go_simp
            exact hk.out _ (Below.refl _ _)
          · refine one_before (by decide) (by kernel_rfl) (calm_step rfl fun aa ω κ hb hu hc hK => ?_)
            have h11 : aa.tmps[11]?.getD undef = .pointer (some ⟨g11, 0, none⟩) := (hu 11 rfl).trans e11
            have hk := Lib.hid (fun w1 (h : Below ω.heap.size ω w1) => hK (.agg (arrK .i64 16 (dgt vg))) w1 rfl h)
            clear hK hu hc
            have hr1 := (hX11.out.step hb).row
            have hr2 := (hX11.out.step hb).eq
            go_simp
            exact hk.out _ (Below.refl _ _)
          · refine one_before (by decide) (by kernel_rfl) (calm_step rfl fun aa ω κ hb hu hc hK => ?_)
            have h65 : aa.tmps[65]?.getD undef = .agg (arrK .i64 16 (dgt vf)) := hc 12 65 rfl rfl
            have h66 : aa.tmps[66]?.getD undef = .agg (arrK .i64 16 (dgt vg)) := hc 13 66 rfl rfl
            have hk := Lib.hid (fun w1 (h : Below ω.heap.size ω w1) => hK (.agg (arrK .i64 16 (dgt r3))) w1 rfl h)
            clear hK hu hc
            go_simp
            go_at_call 25
            refine (kr3.out _).mono ?_
            rintro e w1 ⟨rfl, hb1⟩
            exact hk.out _ hb1
          · refine one_before (by decide) (by kernel_rfl) (calm_step rfl fun aa ω κ hb hu hc hK => ?_)
            have h57 : aa.tmps[57]?.getD undef = .agg (arrK .i64 16 (dgt r1)) := hc 4 57 rfl rfl
            have h64 : aa.tmps[64]?.getD undef = .agg (arrK .i64 16 (dgt r2)) := hc 11 64 rfl rfl
            have h67 : aa.tmps[67]?.getD undef = .agg (arrK .i64 16 (dgt r3)) := hc 14 67 rfl rfl
            have hk := Lib.hid (fun w1 (h : Below ω.heap.size ω w1) => hK (.agg (arrK .i64 48 (cat3 (dgt r1) (dgt r2) (dgt r3)))) w1 rfl h)
            clear hK hu hc
            exact wp_bldC (v0 := .agg (arrK .i64 16 (dgt r1))) (v1 := .agg (arrK .i64 16 (dgt r2))) (v2 := .agg (arrK .i64 16 (dgt r3))) rfl (by go_simp) (by go_simp) (by go_simp) (build_rp _ _ _ _) (hk.out _ (Below.refl _ _))
          · refine one_q (one_write rfl rfl fun aa ω κ hb hu hc hr hK => ?_)
            have h4 : aa.tmps[4]?.getD undef = .pointer (some ⟨w.heap.size + 1 + 1, 0, none⟩) := (hu 4 rfl).trans e4
            have h68 : aa.tmps[68]?.getD undef = .agg (arrK .i64 48 (cat3 (dgt r1) (dgt r2) (dgt r3))) := hc 15 68 rfl rfl
            have hk := Lib.hid hK
            clear hK hu hc
            have hcc := hcr
            go_simp
            exact hk.out undef
          · intro a1 w1 hb1 hu1 hsz1 hdf1 hv1
            have ha0 := hha0.out
            subst ha0
            have he := act_patch (n := 69) [false, false, false, false, false, false, false, false, false, false, false, false, false, false, false, false, false, false, false, false, false, false, false, false, false, false, false, false, false, false, false, false, false, false, false, false, false, false, false, false, false, false, false, false, false, false, false, false, false, false, false, false, false, true, true, true, true, true, true, true, true, true, true, true, true, true, true, true, true] rfl (by kernel_rfl) hu1 hsz1 hdf1
            simp only [patch, cond_true, cond_false, Nat.reduceAdd] at he
            have hXz := (At.put (k := .i64) (f := (cat3 (dgt r1) (dgt r2) (dgt r3))) hR.out).below hb1 (by simpa using hR.out.lt)
            have hLz := Lib.hid (Below.trans (below_setRow (c := arrK .i64 48 (cat3 (dgt r1) (dgt r2) (dgt r3))) hL.out (by omega)) (hb1.mono (by simpa using hL.out.size)))
            clear hR hL hA hB hX5 hX6 hX7 hX8 hX9 hX10 hX11 hX12 kvu1 kr1 kvu2 kvcd kr2 kr3
            clear hb1 hu1 hsz1 hdf1 hv1 hz0 hha0 e4 e5 e6 e7 e10 e11 e12
            rw [he]
            clear he
            generalize a1.tmps[53]?.getD undef = x53 at *
            generalize a1.tmps[54]?.getD undef = x54 at *
            generalize a1.tmps[55]?.getD undef = x55 at *
            generalize a1.tmps[56]?.getD undef = x56 at *
            generalize a1.tmps[57]?.getD undef = x57 at *
            generalize a1.tmps[58]?.getD undef = x58 at *
            generalize a1.tmps[59]?.getD undef = x59 at *
            generalize a1.tmps[60]?.getD undef = x60 at *
            generalize a1.tmps[61]?.getD undef = x61 at *
            generalize a1.tmps[62]?.getD undef = x62 at *
            generalize a1.tmps[63]?.getD undef = x63 at *
            generalize a1.tmps[64]?.getD undef = x64 at *
            generalize a1.tmps[65]?.getD undef = x65 at *
            generalize a1.tmps[66]?.getD undef = x66 at *
            generalize a1.tmps[67]?.getD undef = x67 at *
            generalize a1.tmps[68]?.getD undef = x68 at *
            go_wp2_with fail
            refine ret_row (p := 4) (ty := 48) (g := (w.heap.size + 1 + 1)) rfl Try.underlying48 rfl (by kernel_rfl) rfl hXz.row rfl ?_
            rw [hXz.eq]
            exact ⟨rfl, hLz.out⟩
theorem rp_PlusQ (X1 Y1 Z1 X2 Y2 Z2 : Nat) (w : World) (hX1 : X1 < 2 ^ 256) (hY1 : Y1 < 2 ^ 256) (hZ1 : Z1 < 2 ^ 256) (hX2 : X2 < 2 ^ 256) (hY2 : Y2 < 2 ^ 256) (hZ2 : Z2 < 2 ^ 256) (r : Nat × Nat × Nat) (hr : rplus X1 Y1 Z1 X2 Y2 Z2 = r) :
    Calls Try.prog 40 #[rpV X1 Y1 Z1, rpV X2 Y2 Z2] w fun e w' => e = .returned (rpV r.1 r.2.1 r.2.2) ∧ Below w.heap.size w w' := by
  subst hr
  exact rp_Plus _ _ _ _ _ _ _ _ _ _ _ _ _ _ _ _ _ _ _ _ _ _ _ w hX1 hY1 hZ1 hX2 hY2 hZ2 rfl rfl rfl rfl rfl rfl rfl rfl rfl rfl rfl rfl rfl rfl rfl rfl rfl
theorem rplus_lt (X1 Y1 Z1 X2 Y2 Z2 : Nat) (r : Nat × Nat × Nat) (hr : rplus X1 Y1 Z1 X2 Y2 Z2 = r) : r.1 < 2 ^ 256 ∧ r.2.1 < 2 ^ 256 ∧ r.2.2 < 2 ^ 256 := by
  subst hr
  exact ⟨low_lt, low_lt, low_lt⟩
theorem dgt_inj {a b : Nat} (ha : a < 2 ^ 256) (hb : b < 2 ^ 256) : (∀ i < 16, dgt a i = dgt b i) ↔ a = b := by
  refine ⟨fun h => ?_, fun h _ _ => by rw [h]⟩
  have := dval_congr h
  rwa [dval_dgt, dval_dgt, p16, Nat.mod_eq_of_lt ha, Nat.mod_eq_of_lt hb] at this
theorem eqlFe {a b : Nat} (ha : a < 2 ^ 256) (hb : b < 2 ^ 256) {r : Bool} (h : decide (a = b) = r) (W : World) : (binOp .eql 26 (.agg (arrK .i64 16 (dgt a))) (.agg (arrK .i64 16 (dgt b)))).run Try.prog W = .ok (.bool r) W := by
  rw [run_eql_arrK Try.underlying26 Try.underlying3 (by kernel_rfl), ← h]
  congr 2
  exact decide_eq_decide.2 (dgt_inj ha hb)
theorem ref_On (x y : Nat) (w : World) (hx : x < 2 ^ 256) (hy : y < 2 ^ 256) : Calls Try.prog 29 #[ptV x y] w fun e w' => e = .returned (.bool (onR x y)) ∧ Below w.heap.size w w' := by
  have hdN := dN_lt
  have h1l : 1 < 2 ^ 256 := by decide +kernel
  have kFx := Lib.hid (fun V => ref_Field x V hx)
  have kFy := Lib.hid (fun V => ref_Field y V hy)
  have kNx := Lib.hid (fun V => fe_Num (x % fP) V low_lt)
  have kNy := Lib.hid (fun V => fe_Num (y % fP) V low_lt)
  have h1 := Lib.hid (fun V => ref_small 1 V (by omega))
  have hqx := Lib.hid (fun (r : Bool) (h : decide (x % fP = x) = !r) V => neqOf low_lt hx h V)
  have hqy := Lib.hid (fun (r : Bool) (h : decide (y % fP = y) = !r) V => neqOf low_lt hy h V)
  have lpx : x % fP < 2 ^ 256 := low_lt
  have lpy : y % fP < 2 ^ 256 := low_lt
  unfold onR
  obtain ⟨px, hpx⟩ : ∃ d, x % fP = d := ⟨_, rfl⟩
  obtain ⟨py, hpy⟩ : ∃ d, y % fP = d := ⟨_, rfl⟩
  rw [hpx] at kFx kNx hqx lpx ⊢
  rw [hpy] at kFy kNy hqy lpy ⊢
  obtain ⟨xx, hxx⟩ : ∃ v, px * px % fP = v := ⟨_, rfl⟩
  rw [hxx]
  have lxx : xx < 2 ^ 256 := hxx ▸ low_lt
  obtain ⟨yy, hyy⟩ : ∃ v, py * py % fP = v := ⟨_, rfl⟩
  rw [hyy]
  have lyy : yy < 2 ^ 256 := hyy ▸ low_lt
  obtain ⟨p1, hp1⟩ : ∃ v, (1 + xx) % fP = v := ⟨_, rfl⟩
  rw [hp1]
  have lp1 : p1 < 2 ^ 256 := hp1 ▸ low_lt
  obtain ⟨q1, hq1⟩ : ∃ v, dN * xx % fP = v := ⟨_, rfl⟩
  rw [hq1]
  have lq1 : q1 < 2 ^ 256 := hq1 ▸ low_lt
  obtain ⟨q2, hq2⟩ : ∃ v, q1 * yy % fP = v := ⟨_, rfl⟩
  rw [hq2]
  have lq2 : q2 < 2 ^ 256 := hq2 ▸ low_lt
  obtain ⟨sm, hsm⟩ : ∃ v, (p1 + q2) % fP = v := ⟨_, rfl⟩
  rw [hsm]
  have lsm : sm < 2 ^ 256 := hsm ▸ low_lt
  have kxx := Lib.hid (fun V => fe_By px px V lpx lpx)
  rw [hxx] at kxx
  have kyy := Lib.hid (fun V => fe_By py py V lpy lpy)
  rw [hyy] at kyy
  have kp1 := Lib.hid (fun V => fe_Plus 1 xx V h1l lxx)
  rw [hp1] at kp1
  have kq1 := Lib.hid (fun V => fe_By dN xx V hdN lxx)
  rw [hq1] at kq1
  have kq2 := Lib.hid (fun V => fe_By q1 yy V lq1 lyy)
  rw [hq2] at kq2
  have ksm := Lib.hid (fun V => fe_Plus p1 q2 V lp1 lq2)
  rw [hsm] at ksm
  have hqe := Lib.hid (fun (r : Bool) (h : decide (yy = sm) = r) V => eqlFe lyy lsm h V)
  have kd := Lib.hid (fun V => ref_dOf V)
  obtain ⟨dn, hdn⟩ : ∃ d, dN = d := ⟨_, rfl⟩
  rw [hdn] at kd kq1
  obtain ⟨R, hRR'⟩ : ∃ R : Bool, (decide (px = x) && decide (py = y) && decide (yy = sm)) = R := ⟨_, rfl⟩
  rw [hRR']
  have hRR := Lib.hid hRR'
  clear hRR' hdn hdN hpx hpy hx hy h1l lpx lpy hxx lxx hyy lyy hp1 lp1 hq1 lq1 hq2 lq2 hsm lsm
  unfold numV feV at kFx kFy kNx kNy
  unfold feV at h1 kd kxx kyy kp1 kq1 kq2 ksm
  rw [show ((1 : Nat) : Int) = 1 from rfl] at h1
  unfold ptV
  have hcpx := arrK_cells .i64 16 (dgt px)
  have hcpy := arrK_cells .i64 16 (dgt py)
  have hcxx := arrK_cells .i64 16 (dgt xx)
  have hcyy := arrK_cells .i64 16 (dgt yy)
  have hc0 := arrK_cells .i64 16 fun _ => 0
  have hL0 : Below w.heap.size w (w.alloc (Obj.cells (arrK .u64 8 (cat2 (wd x) (wd y))) 42)) := by go_grown
  have hA0 : At (w.alloc (Obj.cells (arrK .u64 8 (cat2 (wd x) (wd y))) 42)) w.heap.size .u64 8 (cat2 (wd x) (wd y)) := At.new _ rfl
  have hL := Lib.hid hL0
  have hA := Lib.hid hA0
  clear hL0 hA0
  go_enter Try.func29, Try.ntmps29
  go_upto_region 1 with (fail)
  generalize w.alloc _ = W0 at *
  generalize ha0 : Act.mk _ _ = a0
  have e1 : a0.tmps[1]?.getD undef = .pointer (some ⟨w.heap.size, 0, none⟩) := by rw [← ha0]; rfl
  have hz0 : a0.tmps.size = 42 := by rw [← ha0]; rfl
  have hha0 := Lib.hid ha0
  clear ha0
  refine wp_region_fresh ⟨fun jx_ => match jx_ with | 0 => some (.pointer (some ⟨w.heap.size, 0, none⟩)) | 1 => some (.agg (arrK .u64 4 (wd x))) | 2 => some (.agg (arrK .i64 16 (dgt px))) | 3 => some (.pointer (some ⟨w.heap.size, 4, none⟩)) | 4 => some (.agg (arrK .u64 4 (wd y))) | 5 => some (.agg (arrK .i64 16 (dgt py))) | _ => none, fun jx_ => match jx_ with | 6 => some 16 | 7 => some 16 | _ => none, fun jx_ => match jx_ with | 8 => some 6 | 9 => some 7 | _ => none, fun jx_ => match jx_ with | 8 => arrK .i64 16 (dgt px) | 9 => arrK .i64 16 (dgt py) | _ => #[]⟩ (by kernel_rfl) (by kernel_rfl) (by kernel_rfl) (slotsOk_of hz0 (by kernel_rfl)) rfl ⟨?_, ?_, ?_, ?_, ?_, ?_, ?_, ?_, ?_, ?_, trivial⟩ ?_
  · refine fstep_val rfl rfl (calm_step rfl fun aa ω κ hb hu hc hK => ?_)
    have h1 : aa.tmps[1]?.getD undef = .pointer (some ⟨w.heap.size, 0, none⟩) := (hu 1 rfl).trans e1
    have hk := Lib.hid (fun w1 (h : Below ω.heap.size ω w1) => hK (.pointer (some ⟨w.heap.size, 0, none⟩)) w1 rfl h)
    clear hK hu hc
    go_simp
    exact hk.out _ (Below.refl _ _)
  · refine fstep_val rfl rfl (calm_step rfl fun aa ω κ hb hu hc hK => ?_)
    have h7 : aa.tmps[7]?.getD undef = .pointer (some ⟨w.heap.size, 0, none⟩) := hc 0 7 rfl rfl
    have hk := Lib.hid (fun w1 (h : Below ω.heap.size ω w1) => hK (.agg (arrK .u64 4 (wd x))) w1 rfl h)
    clear hK hu hc
    have hl := pt_0 (hA.out.step hb)
    have hl1 := hl.1
    have hl2 := hl.2
    go_simp
    exact hk.out _ (Below.refl _ _)
  · refine fstep_val rfl rfl (calm_step rfl fun aa ω κ hb hu hc hK => ?_)
    have h8 : aa.tmps[8]?.getD undef = .agg (arrK .u64 4 (wd x)) := hc 1 8 rfl rfl
    have hk := Lib.hid (fun w1 (h : Below ω.heap.size ω w1) => hK (.agg (arrK .i64 16 (dgt px))) w1 rfl h)
    clear hK hu hc
    go_simp
    go_at_call 12
    refine (kFx.out _).mono ?_
    rintro e w1 ⟨rfl, hb1⟩
    exact hk.out _ hb1
  · refine fstep_val rfl rfl (calm_step rfl fun aa ω κ hb hu hc hK => ?_)
    have h1 : aa.tmps[1]?.getD undef = .pointer (some ⟨w.heap.size, 0, none⟩) := (hu 1 rfl).trans e1
    have hk := Lib.hid (fun w1 (h : Below ω.heap.size ω w1) => hK (.pointer (some ⟨w.heap.size, 4, none⟩)) w1 rfl h)
    clear hK hu hc
    go_simp
    exact hk.out _ (Below.refl _ _)
  · refine fstep_val rfl rfl (calm_step rfl fun aa ω κ hb hu hc hK => ?_)
    have h10 : aa.tmps[10]?.getD undef = .pointer (some ⟨w.heap.size, 4, none⟩) := hc 3 10 rfl rfl
    have hk := Lib.hid (fun w1 (h : Below ω.heap.size ω w1) => hK (.agg (arrK .u64 4 (wd y))) w1 rfl h)
    clear hK hu hc
    have hl := pt_1 (hA.out.step hb)
    have hl1 := hl.1
    have hl2 := hl.2
    go_simp
    exact hk.out _ (Below.refl _ _)
  · refine fstep_val rfl rfl (calm_step rfl fun aa ω κ hb hu hc hK => ?_)
    have h11 : aa.tmps[11]?.getD undef = .agg (arrK .u64 4 (wd y)) := hc 4 11 rfl rfl
    have hk := Lib.hid (fun w1 (h : Below ω.heap.size ω w1) => hK (.agg (arrK .i64 16 (dgt py))) w1 rfl h)
    clear hK hu hc
    go_simp
    go_at_call 12
    refine (kFy.out _).mono ?_
    rintro e w1 ⟨rfl, hb1⟩
    exact hk.out _ hb1
  · refine fstep_al (n := 16) rfl rfl fun aa ω κ hK => ?_
    have hk := Lib.hid hK
    clear hK
    go_simp
    exact hk.out _ _ hc0
  · refine fstep_al (n := 16) rfl rfl fun aa ω κ hK => ?_
    have hk := Lib.hid hK
    clear hK
    go_simp
    exact hk.out _ _ hc0
  · refine fstep_st (j := 6) (n := 16) (d := 3) rfl rfl rfl rfl rfl hcpx.1 rfl rfl fun aa ω κ g hb hu hc hp hr hK => ?_
    have h9 : aa.tmps[9]?.getD undef = .agg (arrK .i64 16 (dgt px)) := hc 2 9 rfl rfl
    have hk := Lib.hid hK
    clear hK hu hc
    have hcc := hcpx
    go_simp
    exact hk.out undef
  · refine fstep_st (j := 7) (n := 16) (d := 4) rfl rfl rfl rfl rfl hcpy.1 rfl rfl fun aa ω κ g hb hu hc hp hr hK => ?_
    have h12 : aa.tmps[12]?.getD undef = .agg (arrK .i64 16 (dgt py)) := hc 5 12 rfl rfl
    have hk := Lib.hid hK
    clear hK hu hc
    have hcc := hcpy
    go_simp
    exact hk.out undef
  · intro a1 w1 G I
    have ha0 := hha0.out
    subst ha0
    have he := act_patch (n := 42) [false, false, false, true, true, false, false, true, true, true, true, true, true, false, false, false, false, false, false, false, false, false, false, false, false, false, false, false, false, false, false, false, false, false, false, false, false, false, false, false, false, false] rfl (by kernel_rfl) I.un I.sz I.df
    simp only [patch, cond_true, cond_false, Nat.reduceAdd] at he
    have hal3 := I.al 6 3 16 rfl rfl rfl
    have hal4 := I.al 7 4 16 rfl rfl rfl
    replace hA := Lib.hid (hA.out.step I.bel)
    replace hL := Lib.hid (below_step I.bel hL.out (Nat.le_refl _))
    have hX3 := Lib.hid (show At w1 (G 6) .i64 16 (dgt px) from ⟨(I.blk 6 16 rfl rfl).2, (I.row 8 6 rfl rfl).2.2⟩)
    have hX4 := Lib.hid (show At w1 (G 7) .i64 16 (dgt py) from ⟨(I.blk 7 16 rfl rfl).2, (I.row 9 7 rfl rfl).2.2⟩)
    clear kFx kFy
    clear I hz0 hha0 e1
    rw [he]
    clear he
    rw [hal3]
    rw [hal4]
    clear hal3 hal4
    generalize a1.tmps[7]?.getD undef = x7 at *
    generalize a1.tmps[8]?.getD undef = x8 at *
    generalize a1.tmps[9]?.getD undef = x9 at *
    generalize a1.tmps[10]?.getD undef = x10 at *
    generalize a1.tmps[11]?.getD undef = x11 at *
    generalize a1.tmps[12]?.getD undef = x12 at *
    obtain ⟨g3, hgz⟩ : ∃ g, G 6 = g := ⟨_, rfl⟩
    rw [hgz] at hX3 ⊢
    clear hgz
    obtain ⟨g4, hgz⟩ : ∃ g, G 7 = g := ⟨_, rfl⟩
    rw [hgz] at hX4 ⊢
    clear hgz
    generalize w1 = W1 at *
    go_upto_region 2 with (fail)
    by_cases hex : px = x
    · have hdx : decide (px = x) = true := decide_eq_true hex
      replace hqx := Lib.hid (hqx.out false hdx)
      replace hdx := Lib.hid hdx
      clear hex
      by_cases hey : py = y
      · have hdy : decide (py = y) = true := decide_eq_true hey
        replace hqy := Lib.hid (hqy.out false hdy)
        replace hdy := Lib.hid hdy
        clear hey
        generalize ha0 : Act.mk _ _ = a0
        have e1 : a0.tmps[1]?.getD undef = .pointer (some ⟨w.heap.size, 0, none⟩) := by rw [← ha0]; rfl
        have e3 : a0.tmps[3]?.getD undef = .pointer (some ⟨g3, 0, none⟩) := by rw [← ha0]; rfl
        have e4 : a0.tmps[4]?.getD undef = .pointer (some ⟨g4, 0, none⟩) := by rw [← ha0]; rfl
        have hz0 : a0.tmps.size = 42 := by rw [← ha0]; rfl
        have hha0 := Lib.hid ha0
        clear ha0
        refine wp_region_calm (fun jx_ => match jx_ with | 0 => SRel.is (.agg (arrK .i64 16 (dgt px))) | 1 => SRel.is (.agg (arrK .u64 4 (wd px))) | 2 => SRel.is (.pointer (some ⟨w.heap.size, 0, none⟩)) | 3 => SRel.is (.agg (arrK .u64 4 (wd x))) | 4 => SRel.is (.bool false) | 5 => SRel.is (.bool false) | 6 => SRel.is (.agg (arrK .i64 16 (dgt py))) | 7 => SRel.is (.agg (arrK .u64 4 (wd py))) | 8 => SRel.is (.pointer (some ⟨w.heap.size, 4, none⟩)) | 9 => SRel.is (.agg (arrK .u64 4 (wd y))) | 10 => SRel.is (.bool false) | 11 => SRel.is (.bool false) | _ => SRel.any) (by kernel_rfl) (by kernel_rfl) (by kernel_rfl) (slotsOk_of hz0 (by kernel_rfl)) ⟨?_, ?_, ?_, ?_, ?_, ?_, ?_, ?_, ?_, ?_, ?_, ?_, trivial⟩ ?_
        · refine calm_step rfl fun a ω κ hb hu hc hK => ?_
          have h3 : a.tmps[3]?.getD undef = .pointer (some ⟨g3, 0, none⟩) := (hu 3 rfl).trans e3
          have hk := Lib.hid (fun w1 (h : Below ω.heap.size ω w1) => hK (.agg (arrK .i64 16 (dgt px))) w1 rfl h)
          clear hK hu hc
          have hr1 := (hX3.out.step hb).row
          have hr2 := (hX3.out.step hb).eq
          go_simp
          exact hk.out _ (Below.refl _ _)
        · refine calm_step rfl fun a ω κ hb hu hc hK => ?_
          have h13 : a.tmps[13]?.getD undef = .agg (arrK .i64 16 (dgt px)) := hc 0 13 rfl rfl
          have hk := Lib.hid (fun w1 (h : Below ω.heap.size ω w1) => hK (.agg (arrK .u64 4 (wd px))) w1 rfl h)
          clear hK hu hc
          go_simp
          go_at_call 19
          refine (kNx.out _).mono ?_
          rintro e w1 ⟨rfl, hb1⟩
          exact hk.out _ hb1
        · refine calm_step rfl fun a ω κ hb hu hc hK => ?_
          have h1 : a.tmps[1]?.getD undef = .pointer (some ⟨w.heap.size, 0, none⟩) := (hu 1 rfl).trans e1
          have hk := Lib.hid (fun w1 (h : Below ω.heap.size ω w1) => hK (.pointer (some ⟨w.heap.size, 0, none⟩)) w1 rfl h)
          clear hK hu hc
          go_simp
          exact hk.out _ (Below.refl _ _)
        · refine calm_step rfl fun a ω κ hb hu hc hK => ?_
          have h15 : a.tmps[15]?.getD undef = .pointer (some ⟨w.heap.size, 0, none⟩) := hc 2 15 rfl rfl
          have hk := Lib.hid (fun w1 (h : Below ω.heap.size ω w1) => hK (.agg (arrK .u64 4 (wd x))) w1 rfl h)
          clear hK hu hc
          have hl := pt_0 (hA.out.step hb)
          have hl1 := hl.1
          have hl2 := hl.2
          go_simp
          exact hk.out _ (Below.refl _ _)
        · refine calm_step rfl fun a ω κ hb hu hc hK => ?_
          have h14 : a.tmps[14]?.getD undef = .agg (arrK .u64 4 (wd px)) := hc 1 14 rfl rfl
          have h16 : a.tmps[16]?.getD undef = .agg (arrK .u64 4 (wd x)) := hc 3 16 rfl rfl
          have hk := Lib.hid (fun w1 (h : Below ω.heap.size ω w1) => hK (.bool false) w1 rfl h)
          clear hK hu hc
          exact wp_eqlA (v := arrK .u64 4 (wd px)) (u := arrK .u64 4 (wd x)) (.inl rfl) (by kernel_rfl) (by go_simp) (by go_simp) (hqx.out _) (hk.out _ (Below.refl _ _))
        · refine calm_step rfl fun a ω κ hb hu hc hK => ?_
          have h17 : a.tmps[17]?.getD undef = .bool false := hc 4 17 rfl rfl
          have hk := Lib.hid (fun w1 (h : Below ω.heap.size ω w1) => hK (.bool false) w1 rfl h)
          clear hK hu hc
          go_simp
          exact hk.out _ (Below.refl _ _)
        · refine calm_step_guard (g := 5) (b := false) (d := 18) rfl rfl (fun a w hc => hc 5 18 rfl rfl) fun a ω κ hb hu hc hK => ?_
          have h4 : a.tmps[4]?.getD undef = .pointer (some ⟨g4, 0, none⟩) := (hu 4 rfl).trans e4
          have hk := Lib.hid (fun w1 (h : Below ω.heap.size ω w1) => hK (.agg (arrK .i64 16 (dgt py))) w1 rfl h)
          clear hK hu hc
          have hr1 := (hX4.out.step hb).row
          have hr2 := (hX4.out.step hb).eq
          go_simp
          exact hk.out _ (Below.refl _ _)
        · refine calm_step_guard (g := 5) (b := false) (d := 18) rfl rfl (fun a w hc => hc 5 18 rfl rfl) fun a ω κ hb hu hc hK => ?_
          have h19 : a.tmps[19]?.getD undef = .agg (arrK .i64 16 (dgt py)) := hc 6 19 rfl rfl
          have hk := Lib.hid (fun w1 (h : Below ω.heap.size ω w1) => hK (.agg (arrK .u64 4 (wd py))) w1 rfl h)
          clear hK hu hc
          go_simp
          go_at_call 19
          refine (kNy.out _).mono ?_
          rintro e w1 ⟨rfl, hb1⟩
          exact hk.out _ hb1
        · refine calm_step_guard (g := 5) (b := false) (d := 18) rfl rfl (fun a w hc => hc 5 18 rfl rfl) fun a ω κ hb hu hc hK => ?_
          have h1 : a.tmps[1]?.getD undef = .pointer (some ⟨w.heap.size, 0, none⟩) := (hu 1 rfl).trans e1
          have hk := Lib.hid (fun w1 (h : Below ω.heap.size ω w1) => hK (.pointer (some ⟨w.heap.size, 4, none⟩)) w1 rfl h)
          clear hK hu hc
          go_simp
          exact hk.out _ (Below.refl _ _)
        · refine calm_step_guard (g := 5) (b := false) (d := 18) rfl rfl (fun a w hc => hc 5 18 rfl rfl) fun a ω κ hb hu hc hK => ?_
          have h21 : a.tmps[21]?.getD undef = .pointer (some ⟨w.heap.size, 4, none⟩) := hc 8 21 rfl rfl
          have hk := Lib.hid (fun w1 (h : Below ω.heap.size ω w1) => hK (.agg (arrK .u64 4 (wd y))) w1 rfl h)
          clear hK hu hc
          have hl := pt_1 (hA.out.step hb)
          have hl1 := hl.1
          have hl2 := hl.2
          go_simp
          exact hk.out _ (Below.refl _ _)
        · refine calm_step_guard (g := 5) (b := false) (d := 18) rfl rfl (fun a w hc => hc 5 18 rfl rfl) fun a ω κ hb hu hc hK => ?_
          have h20 : a.tmps[20]?.getD undef = .agg (arrK .u64 4 (wd py)) := hc 7 20 rfl rfl
          have h22 : a.tmps[22]?.getD undef = .agg (arrK .u64 4 (wd y)) := hc 9 22 rfl rfl
          have hk := Lib.hid (fun w1 (h : Below ω.heap.size ω w1) => hK (.bool false) w1 rfl h)
          clear hK hu hc
          exact wp_eqlA (v := arrK .u64 4 (wd py)) (u := arrK .u64 4 (wd y)) (.inl rfl) (by kernel_rfl) (by go_simp) (by go_simp) (hqy.out _) (hk.out _ (Below.refl _ _))
        · refine calm_step rfl fun a ω κ hb hu hc hK => ?_
          have h18 : a.tmps[18]?.getD undef = .bool false := hc 5 18 rfl rfl
          have h23 : a.tmps[23]?.getD undef = .bool false := hc 10 23 rfl rfl
          have hk := Lib.hid (fun w1 (h : Below ω.heap.size ω w1) => hK (.bool false) w1 rfl h)
          clear hK hu hc
          go_simp
          exact hk.out _ (Below.refl _ _)
        · intro a1 w1 hb1 hu1 hsz1 hdf1 hc1
          have ha0 := hha0.out
          subst ha0
          have he := act_patch (n := 42) [false, false, false, false, false, false, false, false, false, false, false, false, false, true, true, true, true, true, true, true, true, true, true, true, true, false, false, false, false, false, false, false, false, false, false, false, false, false, false, false, false, false] rfl (by kernel_rfl) hu1 hsz1 hdf1
          simp only [patch, cond_true, cond_false, Nat.reduceAdd] at he
          have hkn24 : a1.tmps[24]?.getD undef = .bool false := hc1 11 24 rfl
          replace hA := Lib.hid (hA.out.step hb1)
          replace hL := Lib.hid (below_step hb1 hL.out (Nat.le_refl _))
          replace hX3 := Lib.hid (hX3.out.step hb1)
          replace hX4 := Lib.hid (hX4.out.step hb1)
          clear kNx kNy hqx hqy
          clear hb1 hu1 hsz1 hdf1 hc1 hz0 hha0 e1 e3 e4
          rw [he]
          clear he
          rw [hkn24]
          clear hkn24
          generalize a1.tmps[13]?.getD undef = x13 at *
          generalize a1.tmps[14]?.getD undef = x14 at *
          generalize a1.tmps[15]?.getD undef = x15 at *
          generalize a1.tmps[16]?.getD undef = x16 at *
          generalize a1.tmps[17]?.getD undef = x17 at *
          generalize a1.tmps[18]?.getD undef = x18 at *
          generalize a1.tmps[19]?.getD undef = x19 at *
          generalize a1.tmps[20]?.getD undef = x20 at *
          generalize a1.tmps[21]?.getD undef = x21 at *
          generalize a1.tmps[22]?.getD undef = x22 at *
          generalize a1.tmps[23]?.getD undef = x23 at *
          go_upto_region 4 with (fail)
          generalize ha0 : Act.mk _ _ = a0
          have e3 : a0.tmps[3]?.getD undef = .pointer (some ⟨g3, 0, none⟩) := by rw [← ha0]; rfl
          have e4 : a0.tmps[4]?.getD undef = .pointer (some ⟨g4, 0, none⟩) := by rw [← ha0]; rfl
          have hz0 : a0.tmps.size = 42 := by rw [← ha0]; rfl
          have hha0 := Lib.hid ha0
          clear ha0
          refine wp_region_fresh ⟨fun jx_ => match jx_ with | 0 => some (.agg (arrK .i64 16 (dgt px))) | 1 => some (.agg (arrK .i64 16 (dgt px))) | 2 => some (.agg (arrK .i64 16 (dgt xx))) | 3 => some (.agg (arrK .i64 16 (dgt py))) | 4 => some (.agg (arrK .i64 16 (dgt py))) | 5 => some (.agg (arrK .i64 16 (dgt yy))) | _ => none, fun jx_ => match jx_ with | 6 => some 16 | 7 => some 16 | _ => none, fun jx_ => match jx_ with | 8 => some 6 | 9 => some 7 | _ => none, fun jx_ => match jx_ with | 8 => arrK .i64 16 (dgt xx) | 9 => arrK .i64 16 (dgt yy) | _ => #[]⟩ (by kernel_rfl) (by kernel_rfl) (by kernel_rfl) (slotsOk_of hz0 (by kernel_rfl)) rfl ⟨?_, ?_, ?_, ?_, ?_, ?_, ?_, ?_, ?_, ?_, trivial⟩ ?_
          · refine fstep_val rfl rfl (calm_step rfl fun aa ω κ hb hu hc hK => ?_)
            have h3 : aa.tmps[3]?.getD undef = .pointer (some ⟨g3, 0, none⟩) := (hu 3 rfl).trans e3
            have hk := Lib.hid (fun w1 (h : Below ω.heap.size ω w1) => hK (.agg (arrK .i64 16 (dgt px))) w1 rfl h)
            clear hK hu hc
            have hr1 := (hX3.out.step hb).row
            have hr2 := (hX3.out.step hb).eq
            go_simp
            exact hk.out _ (Below.refl _ _)
          · refine fstep_val rfl rfl (calm_step rfl fun aa ω κ hb hu hc hK => ?_)
            have h3 : aa.tmps[3]?.getD undef = .pointer (some ⟨g3, 0, none⟩) := (hu 3 rfl).trans e3
            have hk := Lib.hid (fun w1 (h : Below ω.heap.size ω w1) => hK (.agg (arrK .i64 16 (dgt px))) w1 rfl h)
            clear hK hu hc
            have hr1 := (hX3.out.step hb).row
            have hr2 := (hX3.out.step hb).eq
            go_simp
            exact hk.out _ (Below.refl _ _)
          · refine fstep_val rfl rfl (calm_step rfl fun aa ω κ hb hu hc hK => ?_)
            have h25 : aa.tmps[25]?.getD undef = .agg (arrK .i64 16 (dgt px)) := hc 0 25 rfl rfl
            have h26 : aa.tmps[26]?.getD undef = .agg (arrK .i64 16 (dgt px)) := hc 1 26 rfl rfl
            have hk := Lib.hid (fun w1 (h : Below ω.heap.size ω w1) => hK (.agg (arrK .i64 16 (dgt xx))) w1 rfl h)
            clear hK hu hc
            go_simp
            go_at_call 25
            refine (kxx.out _).mono ?_
            rintro e w1 ⟨rfl, hb1⟩
            exact hk.out _ hb1
          · refine fstep_val rfl rfl (calm_step rfl fun aa ω κ hb hu hc hK => ?_)
            have h4 : aa.tmps[4]?.getD undef = .pointer (some ⟨g4, 0, none⟩) := (hu 4 rfl).trans e4
            have hk := Lib.hid (fun w1 (h : Below ω.heap.size ω w1) => hK (.agg (arrK .i64 16 (dgt py))) w1 rfl h)
            clear hK hu hc
            have hr1 := (hX4.out.step hb).row
            have hr2 := (hX4.out.step hb).eq
            go_simp
            exact hk.out _ (Below.refl _ _)
          · refine fstep_val rfl rfl (calm_step rfl fun aa ω κ hb hu hc hK => ?_)
            have h4 : aa.tmps[4]?.getD undef = .pointer (some ⟨g4, 0, none⟩) := (hu 4 rfl).trans e4
            have hk := Lib.hid (fun w1 (h : Below ω.heap.size ω w1) => hK (.agg (arrK .i64 16 (dgt py))) w1 rfl h)
            clear hK hu hc
            have hr1 := (hX4.out.step hb).row
            have hr2 := (hX4.out.step hb).eq
            go_simp
            exact hk.out _ (Below.refl _ _)
          · refine fstep_val rfl rfl (calm_step rfl fun aa ω κ hb hu hc hK => ?_)
            have h28 : aa.tmps[28]?.getD undef = .agg (arrK .i64 16 (dgt py)) := hc 3 28 rfl rfl
            have h29 : aa.tmps[29]?.getD undef = .agg (arrK .i64 16 (dgt py)) := hc 4 29 rfl rfl
            have hk := Lib.hid (fun w1 (h : Below ω.heap.size ω w1) => hK (.agg (arrK .i64 16 (dgt yy))) w1 rfl h)
            clear hK hu hc
            go_simp
            go_at_call 25
            refine (kyy.out _).mono ?_
            rintro e w1 ⟨rfl, hb1⟩
            exact hk.out _ hb1
          · refine fstep_al (n := 16) rfl rfl fun aa ω κ hK => ?_
            have hk := Lib.hid hK
            clear hK
            go_simp
            exact hk.out _ _ hc0
          · refine fstep_al (n := 16) rfl rfl fun aa ω κ hK => ?_
            have hk := Lib.hid hK
            clear hK
            go_simp
            exact hk.out _ _ hc0
          · refine fstep_st (j := 6) (n := 16) (d := 5) rfl rfl rfl rfl rfl hcxx.1 rfl rfl fun aa ω κ g hb hu hc hp hr hK => ?_
            have h27 : aa.tmps[27]?.getD undef = .agg (arrK .i64 16 (dgt xx)) := hc 2 27 rfl rfl
            have hk := Lib.hid hK
            clear hK hu hc
            have hcc := hcxx
            go_simp
            exact hk.out undef
          · refine fstep_st (j := 7) (n := 16) (d := 6) rfl rfl rfl rfl rfl hcyy.1 rfl rfl fun aa ω κ g hb hu hc hp hr hK => ?_
            have h30 : aa.tmps[30]?.getD undef = .agg (arrK .i64 16 (dgt yy)) := hc 5 30 rfl rfl
            have hk := Lib.hid hK
            clear hK hu hc
            have hcc := hcyy
            go_simp
            exact hk.out undef
          · intro a1 w1 G I
            have ha0 := hha0.out
            subst ha0
            have he := act_patch (n := 42) [false, false, false, false, false, true, true, false, false, false, false, false, false, false, false, false, false, false, false, false, false, false, false, false, false, true, true, true, true, true, true, false, false, false, false, false, false, false, false, false, false, false] rfl (by kernel_rfl) I.un I.sz I.df
            simp only [patch, cond_true, cond_false, Nat.reduceAdd] at he
            have hal5 := I.al 6 5 16 rfl rfl rfl
            have hal6 := I.al 7 6 16 rfl rfl rfl
            replace hA := Lib.hid (hA.out.step I.bel)
            replace hL := Lib.hid (below_step I.bel hL.out (Nat.le_refl _))
            replace hX3 := Lib.hid (hX3.out.step I.bel)
            replace hX4 := Lib.hid (hX4.out.step I.bel)
            have hX5 := Lib.hid (show At w1 (G 6) .i64 16 (dgt xx) from ⟨(I.blk 6 16 rfl rfl).2, (I.row 8 6 rfl rfl).2.2⟩)
            have hX6 := Lib.hid (show At w1 (G 7) .i64 16 (dgt yy) from ⟨(I.blk 7 16 rfl rfl).2, (I.row 9 7 rfl rfl).2.2⟩)
            clear kxx kyy
            clear I hz0 hha0 e3 e4
            rw [he]
            clear he
            rw [hal5]
            rw [hal6]
            clear hal5 hal6
            generalize a1.tmps[25]?.getD undef = x25 at *
            generalize a1.tmps[26]?.getD undef = x26 at *
            generalize a1.tmps[27]?.getD undef = x27 at *
            generalize a1.tmps[28]?.getD undef = x28 at *
            generalize a1.tmps[29]?.getD undef = x29 at *
            generalize a1.tmps[30]?.getD undef = x30 at *
            obtain ⟨g5, hgz⟩ : ∃ g, G 6 = g := ⟨_, rfl⟩
            rw [hgz] at hX5 ⊢
            clear hgz
            obtain ⟨g6, hgz⟩ : ∃ g, G 7 = g := ⟨_, rfl⟩
            rw [hgz] at hX6 ⊢
            clear hgz
            generalize w1 = W4 at *
            go_upto_region 5 with (fail)
            obtain ⟨r, hr⟩ : ∃ r, decide (yy = sm) = r := ⟨_, rfl⟩
            replace hqe := Lib.hid (hqe.out r hr)
            have hfin := Lib.hid (show R = r by rw [← hRR.out, hdx.out, hdy.out, hr]; rfl)
            clear hr
            generalize ha0 : Act.mk _ _ = a0
            have e5 : a0.tmps[5]?.getD undef = .pointer (some ⟨g5, 0, none⟩) := by rw [← ha0]; rfl
            have e6 : a0.tmps[6]?.getD undef = .pointer (some ⟨g6, 0, none⟩) := by rw [← ha0]; rfl
            have hz0 : a0.tmps.size = 42 := by rw [← ha0]; rfl
            have hha0 := Lib.hid ha0
            clear ha0
            refine wp_region_calm (fun jx_ => match jx_ with | 0 => SRel.is (.agg (arrK .i64 16 (dgt yy))) | 1 => SRel.is (.agg (arrK .i64 16 (dgt 1))) | 2 => SRel.is (.agg (arrK .i64 16 (dgt xx))) | 3 => SRel.is (.agg (arrK .i64 16 (dgt p1))) | 4 => SRel.is (.agg (arrK .i64 16 (dgt dn))) | 5 => SRel.is (.agg (arrK .i64 16 (dgt xx))) | 6 => SRel.is (.agg (arrK .i64 16 (dgt q1))) | 7 => SRel.is (.agg (arrK .i64 16 (dgt yy))) | 8 => SRel.is (.agg (arrK .i64 16 (dgt q2))) | 9 => SRel.is (.agg (arrK .i64 16 (dgt sm))) | 10 => SRel.is (.bool r) | 11 => SRel.is (.bool r) | _ => SRel.any) (by kernel_rfl) (by kernel_rfl) (by kernel_rfl) (slotsOk_of hz0 (by kernel_rfl)) ⟨?_, ?_, ?_, ?_, ?_, ?_, ?_, ?_, ?_, ?_, ?_, ?_, trivial⟩ ?_
            · refine calm_step rfl fun a ω κ hb hu hc hK => ?_
              have h6 : a.tmps[6]?.getD undef = .pointer (some ⟨g6, 0, none⟩) := (hu 6 rfl).trans e6
              have hk := Lib.hid (fun w1 (h : Below ω.heap.size ω w1) => hK (.agg (arrK .i64 16 (dgt yy))) w1 rfl h)
              clear hK hu hc
              have hr1 := (hX6.out.step hb).row
              have hr2 := (hX6.out.step hb).eq
              go_simp
              exact hk.out _ (Below.refl _ _)
            · refine calm_step rfl fun a ω κ hb hu hc hK => ?_
              have hk := Lib.hid (fun w1 (h : Below ω.heap.size ω w1) => hK (.agg (arrK .i64 16 (dgt 1))) w1 rfl h)
              clear hK hu hc
              go_simp
              go_at_call 89
              refine (h1.out _).mono ?_
              rintro e w1 ⟨rfl, hb1⟩
              exact hk.out _ hb1
            · refine calm_step rfl fun a ω κ hb hu hc hK => ?_
              have h5 : a.tmps[5]?.getD undef = .pointer (some ⟨g5, 0, none⟩) := (hu 5 rfl).trans e5
              have hk := Lib.hid (fun w1 (h : Below ω.heap.size ω w1) => hK (.agg (arrK .i64 16 (dgt xx))) w1 rfl h)
              clear hK hu hc
              have hr1 := (hX5.out.step hb).row
              have hr2 := (hX5.out.step hb).eq
              go_simp
              exact hk.out _ (Below.refl _ _)
            · refine calm_step rfl fun a ω κ hb hu hc hK => ?_
              have h32 : a.tmps[32]?.getD undef = .agg (arrK .i64 16 (dgt 1)) := hc 1 32 rfl rfl
              have h33 : a.tmps[33]?.getD undef = .agg (arrK .i64 16 (dgt xx)) := hc 2 33 rfl rfl
              have hk := Lib.hid (fun w1 (h : Below ω.heap.size ω w1) => hK (.agg (arrK .i64 16 (dgt p1))) w1 rfl h)
              clear hK hu hc
              go_simp
              go_at_call 21
              refine (kp1.out _).mono ?_
              rintro e w1 ⟨rfl, hb1⟩
              exact hk.out _ hb1
            · refine calm_step rfl fun a ω κ hb hu hc hK => ?_
              have hk := Lib.hid (fun w1 (h : Below ω.heap.size ω w1) => hK (.agg (arrK .i64 16 (dgt dn))) w1 rfl h)
              clear hK hu hc
              go_simp
              go_at_call 105
              refine (kd.out _).mono ?_
              rintro e w1 ⟨rfl, hb1⟩
              exact hk.out _ hb1
            · refine calm_step rfl fun a ω κ hb hu hc hK => ?_
              have h5 : a.tmps[5]?.getD undef = .pointer (some ⟨g5, 0, none⟩) := (hu 5 rfl).trans e5
              have hk := Lib.hid (fun w1 (h : Below ω.heap.size ω w1) => hK (.agg (arrK .i64 16 (dgt xx))) w1 rfl h)
              clear hK hu hc
              have hr1 := (hX5.out.step hb).row
              have hr2 := (hX5.out.step hb).eq
              go_simp
              exact hk.out _ (Below.refl _ _)
            · refine calm_step rfl fun a ω κ hb hu hc hK => ?_
              have h35 : a.tmps[35]?.getD undef = .agg (arrK .i64 16 (dgt dn)) := hc 4 35 rfl rfl
              have h36 : a.tmps[36]?.getD undef = .agg (arrK .i64 16 (dgt xx)) := hc 5 36 rfl rfl
              have hk := Lib.hid (fun w1 (h : Below ω.heap.size ω w1) => hK (.agg (arrK .i64 16 (dgt q1))) w1 rfl h)
              clear hK hu hc
              go_simp
              go_at_call 25
              refine (kq1.out _).mono ?_
              rintro e w1 ⟨rfl, hb1⟩
              exact hk.out _ hb1
            · refine calm_step rfl fun a ω κ hb hu hc hK => ?_
              have h6 : a.tmps[6]?.getD undef = .pointer (some ⟨g6, 0, none⟩) := (hu 6 rfl).trans e6
              have hk := Lib.hid (fun w1 (h : Below ω.heap.size ω w1) => hK (.agg (arrK .i64 16 (dgt yy))) w1 rfl h)
              clear hK hu hc
              have hr1 := (hX6.out.step hb).row
              have hr2 := (hX6.out.step hb).eq
              go_simp
              exact hk.out _ (Below.refl _ _)
            · refine calm_step rfl fun a ω κ hb hu hc hK => ?_
              have h37 : a.tmps[37]?.getD undef = .agg (arrK .i64 16 (dgt q1)) := hc 6 37 rfl rfl
              have h38 : a.tmps[38]?.getD undef = .agg (arrK .i64 16 (dgt yy)) := hc 7 38 rfl rfl
              have hk := Lib.hid (fun w1 (h : Below ω.heap.size ω w1) => hK (.agg (arrK .i64 16 (dgt q2))) w1 rfl h)
              clear hK hu hc
              go_simp
              go_at_call 25
              refine (kq2.out _).mono ?_
              rintro e w1 ⟨rfl, hb1⟩
              exact hk.out _ hb1
            · refine calm_step rfl fun a ω κ hb hu hc hK => ?_
              have h34 : a.tmps[34]?.getD undef = .agg (arrK .i64 16 (dgt p1)) := hc 3 34 rfl rfl
              have h39 : a.tmps[39]?.getD undef = .agg (arrK .i64 16 (dgt q2)) := hc 8 39 rfl rfl
              have hk := Lib.hid (fun w1 (h : Below ω.heap.size ω w1) => hK (.agg (arrK .i64 16 (dgt sm))) w1 rfl h)
              clear hK hu hc
              go_simp
              go_at_call 21
              refine (ksm.out _).mono ?_
              rintro e w1 ⟨rfl, hb1⟩
              exact hk.out _ hb1
            · refine calm_step rfl fun a ω κ hb hu hc hK => ?_
              have h31 : a.tmps[31]?.getD undef = .agg (arrK .i64 16 (dgt yy)) := hc 0 31 rfl rfl
              have h40 : a.tmps[40]?.getD undef = .agg (arrK .i64 16 (dgt sm)) := hc 9 40 rfl rfl
              have hk := Lib.hid (fun w1 (h : Below ω.heap.size ω w1) => hK (.bool r) w1 rfl h)
              clear hK hu hc
              exact wp_eqlA (v := arrK .i64 16 (dgt yy)) (u := arrK .i64 16 (dgt sm)) (.inr rfl) (by kernel_rfl) (by go_simp) (by go_simp) (hqe.out _) (hk.out _ (Below.refl _ _))
            · refine calm_step rfl fun a ω κ hb hu hc hK => ?_
              have h41 : a.tmps[41]?.getD undef = .bool r := hc 10 41 rfl rfl
              have hk := Lib.hid (fun w1 (h : Below ω.heap.size ω w1) => hK (.bool r) w1 rfl h)
              clear hK hu hc
              go_simp
              exact hk.out _ (Below.refl _ _)
            · intro a1 w1 hb1 hu1 hsz1 hdf1 hc1
              have ha0 := hha0.out
              subst ha0
              have he := act_patch (n := 42) [false, false, true, false, false, false, false, false, false, false, false, false, false, false, false, false, false, false, false, false, false, false, false, false, false, false, false, false, false, false, false, true, true, true, true, true, true, true, true, true, true, true] rfl (by kernel_rfl) hu1 hsz1 hdf1
              simp only [patch, cond_true, cond_false, Nat.reduceAdd] at he
              have hkn2 : a1.tmps[2]?.getD undef = .bool r := hc1 11 2 rfl
              replace hL := Lib.hid (below_step hb1 hL.out (Nat.le_refl _))
              clear hb1 hu1 hsz1 hdf1 hc1 hz0 hha0 e5 e6
              rw [he]
              clear he
              rw [hkn2]
              clear hkn2
              generalize a1.tmps[31]?.getD undef = x31 at *
              generalize a1.tmps[32]?.getD undef = x32 at *
              generalize a1.tmps[33]?.getD undef = x33 at *
              generalize a1.tmps[34]?.getD undef = x34 at *
              generalize a1.tmps[35]?.getD undef = x35 at *
              generalize a1.tmps[36]?.getD undef = x36 at *
              generalize a1.tmps[37]?.getD undef = x37 at *
              generalize a1.tmps[38]?.getD undef = x38 at *
              generalize a1.tmps[39]?.getD undef = x39 at *
              generalize a1.tmps[40]?.getD undef = x40 at *
              generalize a1.tmps[41]?.getD undef = x41 at *
              go_wp2_with fail
              exact ret_tmp (p := 2) (v := .bool r) rfl (by simp) rfl ⟨by rw [hfin.out], hL.out⟩

      · have hdy : decide (py = y) = false := decide_eq_false hey
        replace hqy := Lib.hid (hqy.out true hdy)
        replace hdy := Lib.hid hdy
        clear hey
        generalize ha0 : Act.mk _ _ = a0
        have e1 : a0.tmps[1]?.getD undef = .pointer (some ⟨w.heap.size, 0, none⟩) := by rw [← ha0]; rfl
        have e3 : a0.tmps[3]?.getD undef = .pointer (some ⟨g3, 0, none⟩) := by rw [← ha0]; rfl
        have e4 : a0.tmps[4]?.getD undef = .pointer (some ⟨g4, 0, none⟩) := by rw [← ha0]; rfl
        have hz0 : a0.tmps.size = 42 := by rw [← ha0]; rfl
        have hha0 := Lib.hid ha0
        clear ha0
        refine wp_region_calm (fun jx_ => match jx_ with | 0 => SRel.is (.agg (arrK .i64 16 (dgt px))) | 1 => SRel.is (.agg (arrK .u64 4 (wd px))) | 2 => SRel.is (.pointer (some ⟨w.heap.size, 0, none⟩)) | 3 => SRel.is (.agg (arrK .u64 4 (wd x))) | 4 => SRel.is (.bool false) | 5 => SRel.is (.bool false) | 6 => SRel.is (.agg (arrK .i64 16 (dgt py))) | 7 => SRel.is (.agg (arrK .u64 4 (wd py))) | 8 => SRel.is (.pointer (some ⟨w.heap.size, 4, none⟩)) | 9 => SRel.is (.agg (arrK .u64 4 (wd y))) | 10 => SRel.is (.bool true) | 11 => SRel.is (.bool true) | _ => SRel.any) (by kernel_rfl) (by kernel_rfl) (by kernel_rfl) (slotsOk_of hz0 (by kernel_rfl)) ⟨?_, ?_, ?_, ?_, ?_, ?_, ?_, ?_, ?_, ?_, ?_, ?_, trivial⟩ ?_
        · refine calm_step rfl fun a ω κ hb hu hc hK => ?_
          have h3 : a.tmps[3]?.getD undef = .pointer (some ⟨g3, 0, none⟩) := (hu 3 rfl).trans e3
          have hk := Lib.hid (fun w1 (h : Below ω.heap.size ω w1) => hK (.agg (arrK .i64 16 (dgt px))) w1 rfl h)
          clear hK hu hc
          have hr1 := (hX3.out.step hb).row
          have hr2 := (hX3.out.step hb).eq
          go_simp
          exact hk.out _ (Below.refl _ _)
        · refine calm_step rfl fun a ω κ hb hu hc hK => ?_
          have h13 : a.tmps[13]?.getD undef = .agg (arrK .i64 16 (dgt px)) := hc 0 13 rfl rfl
          have hk := Lib.hid (fun w1 (h : Below ω.heap.size ω w1) => hK (.agg (arrK .u64 4 (wd px))) w1 rfl h)
          clear hK hu hc
          go_simp
          go_at_call 19
          refine (kNx.out _).mono ?_
          rintro e w1 ⟨rfl, hb1⟩
          exact hk.out _ hb1
        · refine calm_step rfl fun a ω κ hb hu hc hK => ?_
          have h1 : a.tmps[1]?.getD undef = .pointer (some ⟨w.heap.size, 0, none⟩) := (hu 1 rfl).trans e1
          have hk := Lib.hid (fun w1 (h : Below ω.heap.size ω w1) => hK (.pointer (some ⟨w.heap.size, 0, none⟩)) w1 rfl h)
          clear hK hu hc
          go_simp
          exact hk.out _ (Below.refl _ _)
        · refine calm_step rfl fun a ω κ hb hu hc hK => ?_
          have h15 : a.tmps[15]?.getD undef = .pointer (some ⟨w.heap.size, 0, none⟩) := hc 2 15 rfl rfl
          have hk := Lib.hid (fun w1 (h : Below ω.heap.size ω w1) => hK (.agg (arrK .u64 4 (wd x))) w1 rfl h)
          clear hK hu hc
          have hl := pt_0 (hA.out.step hb)
          have hl1 := hl.1
          have hl2 := hl.2
          go_simp
          exact hk.out _ (Below.refl _ _)
        · refine calm_step rfl fun a ω κ hb hu hc hK => ?_
          have h14 : a.tmps[14]?.getD undef = .agg (arrK .u64 4 (wd px)) := hc 1 14 rfl rfl
          have h16 : a.tmps[16]?.getD undef = .agg (arrK .u64 4 (wd x)) := hc 3 16 rfl rfl
          have hk := Lib.hid (fun w1 (h : Below ω.heap.size ω w1) => hK (.bool false) w1 rfl h)
          clear hK hu hc
          exact wp_eqlA (v := arrK .u64 4 (wd px)) (u := arrK .u64 4 (wd x)) (.inl rfl) (by kernel_rfl) (by go_simp) (by go_simp) (hqx.out _) (hk.out _ (Below.refl _ _))
        · refine calm_step rfl fun a ω κ hb hu hc hK => ?_
          have h17 : a.tmps[17]?.getD undef = .bool false := hc 4 17 rfl rfl
          have hk := Lib.hid (fun w1 (h : Below ω.heap.size ω w1) => hK (.bool false) w1 rfl h)
          clear hK hu hc
          go_simp
          exact hk.out _ (Below.refl _ _)
        · refine calm_step_guard (g := 5) (b := false) (d := 18) rfl rfl (fun a w hc => hc 5 18 rfl rfl) fun a ω κ hb hu hc hK => ?_
          have h4 : a.tmps[4]?.getD undef = .pointer (some ⟨g4, 0, none⟩) := (hu 4 rfl).trans e4
          have hk := Lib.hid (fun w1 (h : Below ω.heap.size ω w1) => hK (.agg (arrK .i64 16 (dgt py))) w1 rfl h)
          clear hK hu hc
          have hr1 := (hX4.out.step hb).row
          have hr2 := (hX4.out.step hb).eq
          go_simp
          exact hk.out _ (Below.refl _ _)
        · refine calm_step_guard (g := 5) (b := false) (d := 18) rfl rfl (fun a w hc => hc 5 18 rfl rfl) fun a ω κ hb hu hc hK => ?_
          have h19 : a.tmps[19]?.getD undef = .agg (arrK .i64 16 (dgt py)) := hc 6 19 rfl rfl
          have hk := Lib.hid (fun w1 (h : Below ω.heap.size ω w1) => hK (.agg (arrK .u64 4 (wd py))) w1 rfl h)
          clear hK hu hc
          go_simp
          go_at_call 19
          refine (kNy.out _).mono ?_
          rintro e w1 ⟨rfl, hb1⟩
          exact hk.out _ hb1
        · refine calm_step_guard (g := 5) (b := false) (d := 18) rfl rfl (fun a w hc => hc 5 18 rfl rfl) fun a ω κ hb hu hc hK => ?_
          have h1 : a.tmps[1]?.getD undef = .pointer (some ⟨w.heap.size, 0, none⟩) := (hu 1 rfl).trans e1
          have hk := Lib.hid (fun w1 (h : Below ω.heap.size ω w1) => hK (.pointer (some ⟨w.heap.size, 4, none⟩)) w1 rfl h)
          clear hK hu hc
          go_simp
          exact hk.out _ (Below.refl _ _)
        · refine calm_step_guard (g := 5) (b := false) (d := 18) rfl rfl (fun a w hc => hc 5 18 rfl rfl) fun a ω κ hb hu hc hK => ?_
          have h21 : a.tmps[21]?.getD undef = .pointer (some ⟨w.heap.size, 4, none⟩) := hc 8 21 rfl rfl
          have hk := Lib.hid (fun w1 (h : Below ω.heap.size ω w1) => hK (.agg (arrK .u64 4 (wd y))) w1 rfl h)
          clear hK hu hc
          have hl := pt_1 (hA.out.step hb)
          have hl1 := hl.1
          have hl2 := hl.2
          go_simp
          exact hk.out _ (Below.refl _ _)
        · refine calm_step_guard (g := 5) (b := false) (d := 18) rfl rfl (fun a w hc => hc 5 18 rfl rfl) fun a ω κ hb hu hc hK => ?_
          have h20 : a.tmps[20]?.getD undef = .agg (arrK .u64 4 (wd py)) := hc 7 20 rfl rfl
          have h22 : a.tmps[22]?.getD undef = .agg (arrK .u64 4 (wd y)) := hc 9 22 rfl rfl
          have hk := Lib.hid (fun w1 (h : Below ω.heap.size ω w1) => hK (.bool true) w1 rfl h)
          clear hK hu hc
          exact wp_eqlA (v := arrK .u64 4 (wd py)) (u := arrK .u64 4 (wd y)) (.inl rfl) (by kernel_rfl) (by go_simp) (by go_simp) (hqy.out _) (hk.out _ (Below.refl _ _))
        · refine calm_step rfl fun a ω κ hb hu hc hK => ?_
          have h18 : a.tmps[18]?.getD undef = .bool false := hc 5 18 rfl rfl
          have h23 : a.tmps[23]?.getD undef = .bool true := hc 10 23 rfl rfl
          have hk := Lib.hid (fun w1 (h : Below ω.heap.size ω w1) => hK (.bool true) w1 rfl h)
          clear hK hu hc
          go_simp
          exact hk.out _ (Below.refl _ _)
        · intro a1 w1 hb1 hu1 hsz1 hdf1 hc1
          have ha0 := hha0.out
          subst ha0
          have he := act_patch (n := 42) [false, false, false, false, false, false, false, false, false, false, false, false, false, true, true, true, true, true, true, true, true, true, true, true, true, false, false, false, false, false, false, false, false, false, false, false, false, false, false, false, false, false] rfl (by kernel_rfl) hu1 hsz1 hdf1
          simp only [patch, cond_true, cond_false, Nat.reduceAdd] at he
          have hkn24 : a1.tmps[24]?.getD undef = .bool true := hc1 11 24 rfl
          replace hA := Lib.hid (hA.out.step hb1)
          replace hL := Lib.hid (below_step hb1 hL.out (Nat.le_refl _))
          replace hX3 := Lib.hid (hX3.out.step hb1)
          replace hX4 := Lib.hid (hX4.out.step hb1)
          clear kNx kNy hqx hqy
          clear hb1 hu1 hsz1 hdf1 hc1 hz0 hha0 e1 e3 e4
          rw [he]
          clear he
          rw [hkn24]
          clear hkn24
          generalize a1.tmps[13]?.getD undef = x13 at *
          generalize a1.tmps[14]?.getD undef = x14 at *
          generalize a1.tmps[15]?.getD undef = x15 at *
          generalize a1.tmps[16]?.getD undef = x16 at *
          generalize a1.tmps[17]?.getD undef = x17 at *
          generalize a1.tmps[18]?.getD undef = x18 at *
          generalize a1.tmps[19]?.getD undef = x19 at *
          generalize a1.tmps[20]?.getD undef = x20 at *
          generalize a1.tmps[21]?.getD undef = x21 at *
          generalize a1.tmps[22]?.getD undef = x22 at *
          generalize a1.tmps[23]?.getD undef = x23 at *
          go_wp2_with fail
          exact ret_tmp (p := 2) (v := .bool false) rfl (by simp) rfl ⟨by rw [← hRR.out, hdx.out, hdy.out]; rfl, hL.out⟩

    · have hdx : decide (px = x) = false := decide_eq_false hex
      replace hqx := Lib.hid (hqx.out true hdx)
      replace hdx := Lib.hid hdx
      clear hex
      generalize ha0 : Act.mk _ _ = a0
      have e1 : a0.tmps[1]?.getD undef = .pointer (some ⟨w.heap.size, 0, none⟩) := by rw [← ha0]; rfl
      have e3 : a0.tmps[3]?.getD undef = .pointer (some ⟨g3, 0, none⟩) := by rw [← ha0]; rfl
      have e4 : a0.tmps[4]?.getD undef = .pointer (some ⟨g4, 0, none⟩) := by rw [← ha0]; rfl
      have hz0 : a0.tmps.size = 42 := by rw [← ha0]; rfl
      have hha0 := Lib.hid ha0
      clear ha0
      refine wp_region_calm (fun jx_ => match jx_ with | 0 => SRel.is (.agg (arrK .i64 16 (dgt px))) | 1 => SRel.is (.agg (arrK .u64 4 (wd px))) | 2 => SRel.is (.pointer (some ⟨w.heap.size, 0, none⟩)) | 3 => SRel.is (.agg (arrK .u64 4 (wd x))) | 4 => SRel.is (.bool true) | 5 => SRel.is (.bool true) | 6 => SRel.any | 7 => SRel.any | 8 => SRel.any | 9 => SRel.any | 10 => SRel.any | 11 => SRel.is (.bool true) | _ => SRel.any) (by kernel_rfl) (by kernel_rfl) (by kernel_rfl) (slotsOk_of hz0 (by kernel_rfl)) ⟨?_, ?_, ?_, ?_, ?_, ?_, ?_, ?_, ?_, ?_, ?_, ?_, trivial⟩ ?_
      · refine calm_step rfl fun a ω κ hb hu hc hK => ?_
        have h3 : a.tmps[3]?.getD undef = .pointer (some ⟨g3, 0, none⟩) := (hu 3 rfl).trans e3
        have hk := Lib.hid (fun w1 (h : Below ω.heap.size ω w1) => hK (.agg (arrK .i64 16 (dgt px))) w1 rfl h)
        clear hK hu hc
        have hr1 := (hX3.out.step hb).row
        have hr2 := (hX3.out.step hb).eq
        go_simp
        exact hk.out _ (Below.refl _ _)
      · refine calm_step rfl fun a ω κ hb hu hc hK => ?_
        have h13 : a.tmps[13]?.getD undef = .agg (arrK .i64 16 (dgt px)) := hc 0 13 rfl rfl
        have hk := Lib.hid (fun w1 (h : Below ω.heap.size ω w1) => hK (.agg (arrK .u64 4 (wd px))) w1 rfl h)
        clear hK hu hc
        go_simp
        go_at_call 19
        refine (kNx.out _).mono ?_
        rintro e w1 ⟨rfl, hb1⟩
        exact hk.out _ hb1
      · refine calm_step rfl fun a ω κ hb hu hc hK => ?_
        have h1 : a.tmps[1]?.getD undef = .pointer (some ⟨w.heap.size, 0, none⟩) := (hu 1 rfl).trans e1
        have hk := Lib.hid (fun w1 (h : Below ω.heap.size ω w1) => hK (.pointer (some ⟨w.heap.size, 0, none⟩)) w1 rfl h)
        clear hK hu hc
        go_simp
        exact hk.out _ (Below.refl _ _)
      · refine calm_step rfl fun a ω κ hb hu hc hK => ?_
        have h15 : a.tmps[15]?.getD undef = .pointer (some ⟨w.heap.size, 0, none⟩) := hc 2 15 rfl rfl
        have hk := Lib.hid (fun w1 (h : Below ω.heap.size ω w1) => hK (.agg (arrK .u64 4 (wd x))) w1 rfl h)
        clear hK hu hc
        have hl := pt_0 (hA.out.step hb)
        have hl1 := hl.1
        have hl2 := hl.2
        go_simp
        exact hk.out _ (Below.refl _ _)
      · refine calm_step rfl fun a ω κ hb hu hc hK => ?_
        have h14 : a.tmps[14]?.getD undef = .agg (arrK .u64 4 (wd px)) := hc 1 14 rfl rfl
        have h16 : a.tmps[16]?.getD undef = .agg (arrK .u64 4 (wd x)) := hc 3 16 rfl rfl
        have hk := Lib.hid (fun w1 (h : Below ω.heap.size ω w1) => hK (.bool true) w1 rfl h)
        clear hK hu hc
        exact wp_eqlA (v := arrK .u64 4 (wd px)) (u := arrK .u64 4 (wd x)) (.inl rfl) (by kernel_rfl) (by go_simp) (by go_simp) (hqx.out _) (hk.out _ (Below.refl _ _))
      · refine calm_step rfl fun a ω κ hb hu hc hK => ?_
        have h17 : a.tmps[17]?.getD undef = .bool true := hc 4 17 rfl rfl
        have hk := Lib.hid (fun w1 (h : Below ω.heap.size ω w1) => hK (.bool true) w1 rfl h)
        clear hK hu hc
        go_simp
        exact hk.out _ (Below.refl _ _)
      · exact calm_step_skip (g := 5) (b := false) (d := 18) rfl rfl (fun a w hc => hc 5 18 rfl rfl) (fun _ => trivial)
      · exact calm_step_skip (g := 5) (b := false) (d := 18) rfl rfl (fun a w hc => hc 5 18 rfl rfl) (fun _ => trivial)
      · exact calm_step_skip (g := 5) (b := false) (d := 18) rfl rfl (fun a w hc => hc 5 18 rfl rfl) (fun _ => trivial)
      · exact calm_step_skip (g := 5) (b := false) (d := 18) rfl rfl (fun a w hc => hc 5 18 rfl rfl) (fun _ => trivial)
      · exact calm_step_skip (g := 5) (b := false) (d := 18) rfl rfl (fun a w hc => hc 5 18 rfl rfl) (fun _ => trivial)
      · refine calm_step rfl fun a ω κ hb hu hc hK => ?_
        have h18 : a.tmps[18]?.getD undef = .bool true := hc 5 18 rfl rfl
        have h23 : (SRel.any).p (a.tmps[23]?.getD undef) ω := hc 10 23 rfl rfl
        have hk := Lib.hid (fun w1 (h : Below ω.heap.size ω w1) => hK (.bool true) w1 rfl h)
        clear hK hu hc
        go_simp
        exact hk.out _ (Below.refl _ _)
      · intro a1 w1 hb1 hu1 hsz1 hdf1 hc1
        have ha0 := hha0.out
        subst ha0
        have he := act_patch (n := 42) [false, false, false, false, false, false, false, false, false, false, false, false, false, true, true, true, true, true, true, true, true, true, true, true, true, false, false, false, false, false, false, false, false, false, false, false, false, false, false, false, false, false] rfl (by kernel_rfl) hu1 hsz1 hdf1
        simp only [patch, cond_true, cond_false, Nat.reduceAdd] at he
        have hkn24 : a1.tmps[24]?.getD undef = .bool true := hc1 11 24 rfl
        replace hA := Lib.hid (hA.out.step hb1)
        replace hL := Lib.hid (below_step hb1 hL.out (Nat.le_refl _))
        replace hX3 := Lib.hid (hX3.out.step hb1)
        replace hX4 := Lib.hid (hX4.out.step hb1)
        clear kNx kNy hqx hqy
        clear hb1 hu1 hsz1 hdf1 hc1 hz0 hha0 e1 e3 e4
        rw [he]
        clear he
        rw [hkn24]
        clear hkn24
        generalize a1.tmps[13]?.getD undef = x13 at *
        generalize a1.tmps[14]?.getD undef = x14 at *
        generalize a1.tmps[15]?.getD undef = x15 at *
        generalize a1.tmps[16]?.getD undef = x16 at *
        generalize a1.tmps[17]?.getD undef = x17 at *
        generalize a1.tmps[18]?.getD undef = x18 at *
        generalize a1.tmps[19]?.getD undef = x19 at *
        generalize a1.tmps[20]?.getD undef = x20 at *
        generalize a1.tmps[21]?.getD undef = x21 at *
        generalize a1.tmps[22]?.getD undef = x22 at *
        generalize a1.tmps[23]?.getD undef = x23 at *
        go_wp2_with fail
        exact ret_tmp (p := 2) (v := .bool false) rfl (by simp) rfl ⟨by rw [← hRR.out, hdx.out]; rfl, hL.out⟩

end Go.Proofs.Ytodcjeaannfbnaa
namespace Go.Proofs.Ytodcjeaannfbnaa
open Go Go.ChangeShapes Go.WideShapes Go.ChangeAt Go.RowKit
set_option maxRecDepth 100000
theorem part_4 (F f : Nat → Nat) (o : Nat) (ho : o + 4 ≤ 8) (h : ∀ i < 4, F (o + i) = f i) (w : World) : (part 24 (arrK .u64 8 F) o).run Try.prog w = .ok (.agg (arrK .u64 4 f)) w := by
  obtain ⟨i, hi, hs⟩ : ∃ i, Try.prog.info? 24 = some i ∧ i.size = 4 := by
    have h : (Try.prog.info? 24).map (·.size) = some 4 := by kernel_rfl
    cases hi : Try.prog.info? 24 with
    | none => rw [hi] at h; cases h
    | some i => rw [hi] at h; exact ⟨i, rfl, by simpa using h⟩
  have h2 : (arrK .u64 8 F).extract o (o + 4) = arrK .u64 4 f := by
    rw [arrK_V .u64 8, arrV_extract ho, arrK_V .u64 4]
    exact arrV_congr fun i hi => by rw [h i hi]
  simp [part, isAgg, run_underlying Try.underlying24, sizeOf, typeInfo, hi, hs, h2]
theorem equalIn_4 (f : Nat → Nat) (k : Nat) (w : World) : (Op.equalIn (k + 2) 24 (.agg (arrK .u64 4 f)) (.agg (arrK .u64 4 f))).run Try.prog w = .ok true w := by
  rw [run_equalIn_arrK Try.underlying24 Try.underlying22 (by kernel_rfl)]; simp
theorem eqlPt (f g : Nat → Nat) (w : World) : (Op.equalIn 10000 42 (.agg (arrK .u64 8 (cat2 f g))) (.agg (arrK .u64 8 (cat2 f g)))).run Try.prog w = .ok true w := by
  rw [show 10000 = 9999 + 1 from rfl, Op.equalIn.eq_2]
  simp only [Sem.run_bind, run_underlying Try.underlying42, Result.andThen_ok]
  have hst : Try.prog.stoodInHeld 42 = false := by kernel_rfl
  have h1 := part_4 (cat2 f g) f 0 (by omega) (fun i hi => by unfold cat2; rw [if_pos (by omega), Nat.zero_add]) w
  have h2 := part_4 (cat2 f g) g 4 (by omega) (fun i hi => by unfold cat2; rw [if_neg (by omega), Nat.add_sub_cancel_left]) w
  have hl := equalIn_4 f 9997 w
  have hm := equalIn_4 g 9997 w
  simp only [run_program, Result.andThen_ok, hst, Bool.false_eq_true, if_false, Sem.run_bind]
  simp [List.forIn_cons, h1, h2, hm, hl, Sem.run_bind]
theorem neqPt (f g : Nat → Nat) (w : World) : (binOp .neq 42 (.agg (arrK .u64 8 (cat2 f g))) (.agg (arrK .u64 8 (cat2 f g)))).run Try.prog w = .ok (.bool false) w := by rw [run_neq_struct, eqlPt]; rfl
theorem eqlPtB (f g : Nat → Nat) (w : World) : (binOp .eql 42 (.agg (arrK .u64 8 (cat2 f g))) (.agg (arrK .u64 8 (cat2 f g)))).run Try.prog w = .ok (.bool true) w := by rw [run_eql_struct, eqlPt]; rfl
section
variable {P : Program} {ops : Array Oper} {Q : Exit → Act → World → Prop}
theorem wpList_opW {rest : List Oper} {o : Oper} {a : Act} {w : World} (hw : Region.wanted o (yielded ops a.tmps) = true) (h : ∀ K : Act → World → Prop, (∀ a' w', wpList P ops Q rest a' w' → K a' w') → Oper.wp P o a w K Q) : wpList P ops Q (o :: rest) a w :=
  wpList_step fun K hK => by rw [if_pos hw]; exact h K hK
theorem calm_step_skipN {R : Nat → SRel} {a0 : Act} {w0 : World} {i g : Nat} {b : Bool} {d : Tmp} {o : Oper} (hg : o.guard = some (g, b)) (hd : dstAt ops g = some d)
    (hv : ∀ (a : Act) (w : World), Came ops R o a w → a.tmps[d]?.getD undef ≠ .bool b) (hR : ∀ w, (R i).p undef w) : StepOk P ops Q R a0 w0 i o := by
  intro a w K hb hu hc hK
  have hy : yielded ops a.tmps g ≠ some b := by
    intro hy
    have h1 := hv a w hc
    unfold dstAt at hd
    unfold yielded at hy
    rw [hd, Option.bind_some] at hy
    cases h2 : a.tmps[d]? with
    | none => rw [h2] at hy; cases hy
    | some v =>
      rw [h2] at hy h1
      cases v with
      | bool x =>
        have h3 : x = b := by simpa using hy
        subst h3
        exact h1 rfl
      | _ => cases hy
  rw [if_neg (by simp [Region.wanted, hg, hy])]
  exact hK undef w (hR w) (Below.refl _ _)
end
end Go.Proofs.Ytodcjeaannfbnaa
namespace Go.Proofs.Ytodcjeaannfbnaa
open Go Go.RowKit Go.ChangeShapes Go.WideShapes Go.ChangeAt Go.Deep

section
variable {P : Program} {w : World} {r : Reach} {b0 : Nat} {t : TypeId} {v : Value}

theorem oneCell_of_okWide {u : TypeId} {x : Value} (h : Cell.okWide P w r b0 u x) : x.oneCell' = true := by
  cases x <;> first | rfl | (exfalso; unfold Cell.okWide Cell.ok at h; revert h; split <;> (try split) <;> simp_all)

/-- A struct or an array by value: its cells, each of its own type. -/
theorem open_cells {n : Nat} {ts : List TypeId} (hu : (match P.underlying t with | some (.struct _) | some (.array _ _) => true | _ => false) = true) (hts : P.cellTypes P.depth t = some ts) (hn : ts.length = n)
    (hC : P.cellsOf t = n) (h : Value.okWide P w r b0 t v) : ∃ c : Array Value, v = .agg c ∧ Cells c n ∧ ∀ (i : Nat) u, ts[i]? = some u → ∃ x, c[i]? = some x ∧ Cell.okWide P w r b0 u x := by
  have h' : ∃ cs, v = .agg cs ∧ cs.size = P.cellsOf t ∧ Row.okWide P w r b0 t cs := by
    unfold Value.okWide at h
    cases hd : P.underlying t with
    | none => simp [hd] at hu
    | some d => cases d <;> first | (simp [hd] at hu; done) | (simpa [hd] using h)
  obtain ⟨c, rfl, hs, ts', hts', -, hc⟩ := h'
  obtain rfl : ts = ts' := Option.some.inj (hts.symm.trans hts')
  rw [hC] at hs
  refine ⟨c, rfl, ⟨hs, ?_⟩, fun i u hi => ?_⟩
  · rw [Array.all_eq_true_iff_forall_mem]
    intro x hx
    obtain ⟨i, hi⟩ := Array.getElem?_of_mem hx
    obtain ⟨u, -, hk⟩ := hc i x hi
    exact oneCell_of_okWide hk
  · have hil : i < ts.length := (List.getElem?_eq_some_iff.1 hi).1
    have hi2 : i < c.size := by omega
    obtain ⟨u', h1, h2⟩ := hc i c[i] (Array.getElem?_eq_getElem hi2)
    rw [Nat.mod_eq_of_lt hil] at h1
    obtain rfl : u = u' := Option.some.inj (hi.symm.trans h1)
    exact ⟨_, Array.getElem?_eq_getElem hi2, h2⟩

theorem cell_int {u : TypeId} {k : IntKind} {x : Value} (hu : P.underlying u = some (.int k)) (h : Cell.okWide P w r b0 u x) : ∃ n, x = .int k n ∧ k.has n := by
  cases x <;> simp [Cell.okWide, Cell.ok, hu] at h
  obtain ⟨rfl, h⟩ := h
  exact ⟨_, rfl, h⟩
theorem cell_slice {u e : TypeId} {x : Value} (hu : P.underlying u = some (.slice e)) (h : Cell.okWide P w r b0 u x) : ∃ a n c, x = .slice a n c ∧ n ≤ c ∧ c ≤ 9223372036854775807 := by
  cases x with
  | slice a n c =>
    cases a with
    | none =>
      cases n <;> cases c <;> simp [Cell.okWide, Cell.ok, hu] at h
      exact ⟨_, _, _, rfl, by omega, by omega⟩
    | some a =>
      simp [Cell.okWide, Cell.ok, hu] at h
      exact ⟨_, _, _, rfl, h.1, by have h2 : (c : Int) ≤ 9223372036854775807 := h.2.1; omega⟩
  | _ => simp [Cell.okWide, Cell.ok, hu] at h
theorem has_u8 {n : Int} (h : IntKind.u8.has n) : 0 ≤ n ∧ n < 256 := by simp [IntKind.has, IntKind.min, IntKind.max, IntKind.bits, IntKind.signed] at h; omega
theorem has_u32 {n : Int} (h : IntKind.u32.has n) : 0 ≤ n ∧ n < 4294967296 := by simp [IntKind.has, IntKind.min, IntKind.max, IntKind.bits, IntKind.signed] at h; omega
theorem has_u64 {n : Int} (h : IntKind.u64.has n) : 0 ≤ n ∧ n < 18446744073709551616 := by simp [IntKind.has, IntKind.min, IntKind.max, IntKind.bits, IntKind.signed] at h; omega
theorem has_i64 {n : Int} (h : IntKind.i64.has n) : -9223372036854775808 ≤ n ∧ n < 9223372036854775808 := by simp [IntKind.has, IntKind.min, IntKind.max, IntKind.bits, IntKind.signed] at h; omega
end

theorem cell_lt {w : World} {a : Addr} {v : Value} (h : w.cell? a = some v) : a.block < w.heap.size := by
  rcases Nat.lt_or_ge a.block w.heap.size with hlt | hge
  · exact hlt
  · simp only [World.cell?, Array.getElem?_eq_none hge] at h; cases h

/-- One choice for each index, as a list. -/
theorem list_of {α : Type} (n : Nat) (p : Nat → α → Prop) (h : ∀ i, i < n → ∃ x, p i x) : ∃ l : List α, l.length = n ∧ ∀ i (hi : i < l.length), p i l[i] := by
  induction n with
  | zero => exact ⟨[], rfl, fun i hi => absurd hi (by simp)⟩
  | succ n ih =>
    obtain ⟨l, hl, hp⟩ := ih fun i hi => h i (by omega)
    obtain ⟨x, hx⟩ := h n (by omega)
    refine ⟨l ++ [x], by simp [hl], fun i hi => ?_⟩
    by_cases hlt : i < l.length
    · rw [List.getElem_append_left hlt]; exact hp i hlt
    · have : i = l.length := by simp at hi; omega
      subst this
      rw [List.getElem_append_right (Nat.le_refl _)]
      simpa [hl] using hx

section
variable {H : Type} {enc : TypeId × Value → H} {P : Program} {w : World} {base : Nat} {spare : Nat → Bool} {held : Bool}

theorem wf_u8 {z : Int} (h : (Lit.int .u8 z).wf = true) : 0 ≤ z ∧ z < 256 := by
  simp only [Lit.wf, Bool.and_eq_true, decide_eq_true_eq] at h
  exact has_u8 h

/-- A slice of bytes that came in, by its reading. -/
theorem open_bytes {t e : TypeId} {fuel : Nat} {v : Value} {x : DataW H × List MemPlace} (ht : P.underlying t = some (.slice e)) (he : P.underlying e = some (.int .u8)) (hc : P.cellsOf e = 1)
    (h : DataW.trod enc P w base spare held fuel t [v] = some x) : ∃ (A : Option Addr) (l : List UInt8) (c : Nat), v = .slice A l.length c ∧ Rd w w.heap.size A (bytesV l) ∧ l.length ≤ c ∧ c ≤ maxLen := by
  rcases open_ints ht he hc h with ⟨hcs, -⟩ | ⟨a, len, cap, zs, hcs, -, hl, hm, hz, -, hcell, hwz⟩
  · injection hcs with hv
    exact ⟨none, [], 0, hv, Rd.nil, by simp, by simp [maxLen]⟩
  · injection hcs with hv
    have hlz : len ≤ zs.length := by rw [hz]; split <;> omega
    have hmap : ((zs.take len).map fun z => UInt8.ofNat z.toNat).length = len := by simp; omega
    refine ⟨some a, (zs.take len).map fun z => UInt8.ofNat z.toNat, cap, by rw [hmap]; exact hv, fun j u hu => ?_, by rw [hmap]; exact hl, hm⟩
    have hj : j < len := by
      have := (List.getElem?_eq_some_iff.1 hu).1
      simp [bytesV] at this; omega
    have hjz : j < zs.length := by omega
    have hcj := hcell j hjz
    have hlt := cell_lt hcj
    rw [addr_block] at hlt
    refine ⟨a, rfl, hlt, ?_⟩
    rw [hcj, ← hu]
    have hw := wf_u8 (hwz zs[j] (List.getElem_mem hjz))
    simp [bytesV, hj, List.getElem?_eq_getElem hjz, UInt8.toNat_ofNat']
    omega

/-- A slice of structs of one-cell fields that came in: each field's cell, and its own reading. -/
theorem open_rows {t e : TypeId} {fs : Array Field} {fuel : Nat} {v : Value} {x : DataW H × List MemPlace} (ht : P.underlying t = some (.slice e)) (he : P.underlying e = some (.struct fs))
    (hone : oneCellFields P fs = true) (hC : P.cellsOf e = fs.size) (h : DataW.trod enc P w base spare held fuel t [v] = some x) :
    ∃ (A : Option Addr) (n c : Nat), v = .slice A n c ∧ n ≤ c ∧ c ≤ maxLen ∧ ∀ i, i < n → ∃ a, A = some a ∧
      ∀ (j : Nat) (f : Field), fs[j]? = some f → ∃ (u : Value) (y : DataW H × List MemPlace) (m : Nat), w.cell? (a.add (i * fs.size + j)) = some u ∧ DataW.trod enc P w base spare held m f.type [u] = some y := by
  rcases open_slice ht h with ⟨hcs, -⟩ | ⟨a, len, cap, m, n, D, Pl, hcs, -, hl, hm, hmm, -, hi⟩
  · injection hcs with hv
    exact ⟨none, 0, 0, hv, Nat.le_refl _, by simp [maxLen], fun i hi => absurd hi (by omega)⟩
  · injection hcs with hv
    refine ⟨some a, len, cap, hv, hl, hm, fun i hil => ⟨a, rfl, fun j f hj => ?_⟩⟩
    have him : i < m := by rw [hmm]; split <;> omega
    obtain ⟨cs', hc, ht'⟩ := hi i him
    rw [hC] at hc
    obtain ⟨ys, n', -, -, -, hyl, hf⟩ := DataW.trod_struct he ht'
    obtain ⟨_, hcl, hat⟩ := World.cells?_some hc
    obtain ⟨ho, hk⟩ := hone_of hone j f hj
    have hjl : j < fs.size := (Array.getElem?_eq_some_iff.1 hj).1
    have hcell := hat j hjl
    have hv : cs'[j]? = some (cs'[j]'(by omega)) := List.getElem?_eq_getElem (by omega)
    have h1 := hf j f hj
    rw [ho, hk] at h1
    have hone' : (cs'.drop j).take 1 = [cs'[j]'(by omega)] := by
      rw [List.drop_eq_getElem_cons (by omega)]
      rfl
    rw [hone'] at h1
    have hys : ys[j]? = some (ys[j]'(by omega)) := List.getElem?_eq_getElem (by omega)
    refine ⟨_, _, n', ?_, h1.trans hys⟩
    rw [← addr_add, hcell, hv]
end
end Go.Proofs.Ytodcjeaannfbnaa
namespace Go.Proofs.Ytodcjeaannfbnaa
open Go Go.RowKit Go.ChangeShapes Go.WideShapes Go.ChangeAt Go.Deep

section
variable {P : Program} {w : World} {r : Reach} {b0 : Nat} {t : TypeId} {v : Value}

theorem val_int {k : IntKind} (hu : P.underlying t = some (.int k)) (h : Value.okWide P w r b0 t v) : ∃ n, v = .int k n ∧ k.has n := by
  have h' : Cell.okWide P w r b0 t v := by
    unfold Value.okWide at h
    simpa [hu] using h
  exact cell_int hu h'
theorem val_u8 (hu : P.underlying t = some (.int .u8)) (h : Value.okWide P w r b0 t v) : ∃ n : Nat, v = .int .u8 n ∧ n < 256 := by
  obtain ⟨n, rfl, hn⟩ := val_int hu h
  have := has_u8 hn
  exact ⟨n.toNat, by rw [Int.toNat_of_nonneg this.1], by omega⟩
theorem val_u64 (hu : P.underlying t = some (.int .u64)) (h : Value.okWide P w r b0 t v) : ∃ n : Nat, v = .int .u64 n ∧ n < 18446744073709551616 := by
  obtain ⟨n, rfl, hn⟩ := val_int hu h
  have := has_u64 hn
  exact ⟨n.toNat, by rw [Int.toNat_of_nonneg this.1], by omega⟩
theorem val_i64 (hu : P.underlying t = some (.int .i64)) (h : Value.okWide P w r b0 t v) : ∃ n : Int, v = .int .i64 n ∧ -9223372036854775808 ≤ n ∧ n < 9223372036854775808 := by
  obtain ⟨n, rfl, hn⟩ := val_int hu h
  exact ⟨n, rfl, has_i64 hn⟩

/-- An array of unsigned integers by value. -/
theorem val_arr {k : IntKind} {e : TypeId} {n m : Nat} (hk : ∀ z, k.has z → 0 ≤ z ∧ z < m) (hu : P.underlying t = some (.array n e)) (he : P.underlying e = some (.int k)) (hts : P.cellTypes P.depth t = some (List.replicate n e))
    (hC : P.cellsOf t = n) (h : Value.okWide P w r b0 t v) : ∃ f : Nat → Nat, v = .agg (arrK k n f) ∧ ∀ i < n, f i < m := by
  obtain ⟨c, rfl, hc, hx⟩ := open_cells (by simp [hu]) hts (by simp) hC h
  have h1 : ∀ i, ∃ z : Nat, i < n → c[i]? = some (.int k z) ∧ z < m := fun i => by
    by_cases hi : i < n
    · obtain ⟨x, hx1, hx2⟩ := hx i e (by simp [hi])
      obtain ⟨z, rfl, hz⟩ := cell_int he hx2
      have := hk z hz
      exact ⟨z.toNat, fun _ => ⟨by rw [Int.toNat_of_nonneg this.1]; exact hx1, by omega⟩⟩
    · exact ⟨0, fun h => absurd h hi⟩
  refine ⟨fun i => (h1 i).choose, ?_, fun i hi => ((h1 i).choose_spec hi).2⟩
  exact congrArg Value.agg (arrK_of hc.1 fun i hi => ((h1 i).choose_spec hi).1)
end
end Go.Proofs.Ytodcjeaannfbnaa
namespace Go.Proofs.Ytodcjeaannfbnaa
open Go Go.RowKit Go.ChangeShapes Go.WideShapes Go.ChangeAt Go.Deep
set_option maxRecDepth 100000
theorem open_pt {w : World} {r : Reach} {b0 : Nat} {v : Value} (h : Value.okWide Try.prog w r b0 42 v) : ∃ x y : Nat, v = ptV x y ∧ x < 2 ^ 256 ∧ y < 2 ^ 256 := by
  obtain ⟨c, rfl, hc, hx⟩ := open_cells (n := 8) (ts := List.replicate 8 22) rfl (by kernel_rfl) (by simp) (by kernel_rfl) h
  have h1 : ∀ i, ∃ z : Nat, i < 8 → c[i]? = some (.int .u64 z) ∧ z < 18446744073709551616 := fun i => by
    by_cases hi : i < 8
    · obtain ⟨x, hx1, hx2⟩ := hx i 22 (by rw [List.getElem?_replicate, if_pos hi])
      obtain ⟨z, rfl, hz⟩ := cell_int Try.underlying22 hx2
      have := has_u64 hz
      exact ⟨z.toNat, fun _ => ⟨by rw [Int.toNat_of_nonneg this.1]; exact hx1, by omega⟩⟩
    · exact ⟨0, fun h => absurd h hi⟩
  obtain ⟨f, hf⟩ : ∃ f : Nat → Nat, ∀ i < 8, c[i]? = some (.int .u64 (f i)) ∧ f i < 18446744073709551616 := ⟨fun i => (h1 i).choose, fun i hi => (h1 i).choose_spec hi⟩
  have b1 : ∀ i < 4, f i < 18446744073709551616 := fun i hi => (hf i (by omega)).2
  have b2 : ∀ i < 4, (fun i => f (4 + i)) i < 18446744073709551616 := fun i hi => (hf (4 + i) (by omega)).2
  refine ⟨wval f 4, wval (fun i => f (4 + i)) 4, ?_, wval_lt b1, wval_lt b2⟩
  unfold ptV
  refine congrArg Value.agg ?_
  rw [arrK_V .u64 8]
  refine arrV_of hc.1 fun i hi => ?_
  rw [(hf i hi).1]
  unfold cat2
  by_cases h4 : i < 4
  · rw [if_pos h4, wd_wval b1 i h4]
  · rw [if_neg h4, wd_wval b2 (i - 4) (by omega)]
    rw [show 4 + (i - 4) = i by omega]
end Go.Proofs.Ytodcjeaannfbnaa
namespace Go.Proofs.Ytodcjeaannfbnaa
open Go.ChangeShapes Go.WideShapes Go.ChangeAt Go.RowKit
set_option maxHeartbeats 2000000
set_option maxRecDepth 100000
attribute [local go_sem ↓] load_fld load_num store_num execl_num execs_num load_pt store_pt execl_pt execs_pt load_qd store_qd execl_qd execs_qd
attribute [local go_sem] isHead_mk blkOf_mk isAgg_mk cellsV_mk row_drew rowAt_drew row_new_cells row_old rowAt_new rowAt_old setRow_new zeroNum zeroPt zeroQd
theorem build_ptZ (w : World) : (Instr.build 42 #[]).run Try.prog w = .ok (.agg (arrK .u64 8 (cat2 (wd 0) (wd 0)))) w := run_build w _ _ _ (by kernel_rfl)
section
variable {P : Program} {ops : Array Oper} {o : Oper} {a : Act} {w : World} {K : Act → World → Prop} {Q : Exit → Act → World → Prop} {t : TypeId} {u : Value}
theorem wp_bldE (ho : o.op = .build t #[]) (hr : (Instr.build t #[]).run P w = .ok u w) (h : K (a.put o.dst u) w) : Oper.wp P o a w K Q := by
  obtain ⟨dst, op, tt, pos, af, gd⟩ := o
  subst ho
  unfold Oper.wp execOp
  simp only [List.map_toArray, List.map_nil, Sem.run_bind, hr, Result.andThen_ok]
  exact h
end
theorem qplus_lt4 {x1 y1 z1 t1 x2 y2 z2 t2 : Nat} {r : Nat × Nat × Nat × Nat} (hr : qplus x1 y1 z1 t1 x2 y2 z2 t2 = r) : r.1 < 2 ^ 256 ∧ r.2.1 < 2 ^ 256 ∧ r.2.2.1 < 2 ^ 256 ∧ r.2.2.2 < 2 ^ 256 := by
  subst hr
  exact ⟨low_lt, low_lt, low_lt, low_lt⟩
/-- One round of the program's multiple. -/
theorem tm_round {x y n i X Y Z T X2 Y2 Z2 T2 : Nat} (h : onB x y = true) (hq : RpQ (tmP x y (n / 2 ^ (i + 1))) X Y Z T) (h2 : qplus X Y Z T X Y Z T = (X2, Y2, Z2, T2)) :
    (abit n i = 0 → RpQ (tmP x y (n / 2 ^ i)) X2 Y2 Z2 T2) ∧ (abit n i = 1 → ∀ X3 Y3 Z3 T3, qplus X2 Y2 Z2 T2 x y 1 (x * y % fP) = (X3, Y3, Z3, T3) → RpQ (tmP x y (n / 2 ^ i)) X3 Y3 Z3 T3) := by
  have k := rpQ_plus h hq hq h2
  have hu := half_up n i
  simp only at k
  constructor
  · intro hb
    rw [hu, hb, Nat.add_zero, Nat.two_mul]
    exact k
  · intro hb X3 Y3 Z3 T3 h3
    have k2 := rpQ_plus h k rpQ_one h3
    rw [hu, hb, Nat.two_mul]
    exact k2
theorem curve_Times (n x y : Nat) (w : World) (hn : n < 2 ^ 256) (hx : x < 2 ^ 256) (hy : y < 2 ^ 256) : Calls Try.prog 28 #[numV n, ptV x y] w fun e w' => e = .returned (bif onB x y then .tuple #[ptV (tmP x y n).1.val (tmP x y n).2.val, .int .i64 0] else .tuple #[ptV 0 0, .int .i64 1]) ∧ Below w.heap.size w w' := by
  have h1l : 1 < 2 ^ 256 := by decide +kernel
  have h0l : 0 < 2 ^ 256 := by decide +kernel
  have kO := Lib.hid (fun V => curve_On x y V hx hy)
  have kZ := Lib.hid (fun V => curve_Zero V)
  have kQ0 := Lib.hid (fun V => curve_quadOf 0 1 V h0l h1l)
  have kQ1 := Lib.hid (fun V => curve_quadOf x y V hx hy)
  have kLn := Lib.hid (fun V => limb_Len n V hn)
  have hRd := Lib.hid (fun h i X Y Z T X2 Y2 Z2 T2 hq h2 => @tm_round x y n i X Y Z T X2 Y2 Z2 T2 h hq h2)
  have hS0 := Lib.hid (fun s (hs : n < 2 ^ s) => show RpQ (tmP x y (n / 2 ^ s)) 0 1 1 (0 * 1 % fP) by rw [Nat.div_eq_of_lt hs]; exact rpQ_zero)
  have hLe := Lib.hid (fun s (hs : IsLen n s) => show s ≤ 256 by
    rcases hs.2 with h | h
    · omega
    · rcases Nat.lt_or_ge 256 s with h3 | h3
      · exfalso
        have h2 : 2 ^ 256 ≤ 2 ^ (s - 1) := Nat.pow_le_pow_right (by omega) (by omega)
        generalize (2 : Nat) ^ 256 = P at *
        omega
      · exact h3)
  have hEnd := Lib.hid (fun X Y Z T (h : RpQ (tmP x y (n / 2 ^ 0)) X Y Z T) => rpN_out (show RpN (tmP x y n) X Y Z from ⟨by rw [Nat.pow_zero, Nat.div_one] at h; exact h.r⟩))
  have hBt := Lib.hid (fun i (hi : i < 256) V => bitC n i hi V)
  have hab := Lib.hid (fun i => show abit n i = 0 ∨ abit n i = 1 by unfold abit; omega)
  obtain ⟨mx, hmx⟩ : ∃ v, (tmP x y n).1.val = v := ⟨_, rfl⟩
  obtain ⟨my, hmy⟩ : ∃ v, (tmP x y n).2.val = v := ⟨_, rfl⟩
  rw [hmx, hmy] at hEnd ⊢
  obtain ⟨o, ho⟩ : ∃ b, onB x y = b := ⟨_, rfl⟩
  rw [ho] at kO hRd ⊢
  obtain ⟨t0, ht0⟩ : ∃ v, 0 * 1 % fP = v := ⟨_, rfl⟩
  rw [ht0] at kQ0 hS0
  have lt0 : t0 < 2 ^ 256 := ht0 ▸ low_lt
  have ltt : x * y % fP < 2 ^ 256 := low_lt
  obtain ⟨t1, ht1⟩ : ∃ v, x * y % fP = v := ⟨_, rfl⟩
  rw [ht1] at kQ1 ltt hRd
  have hBd := Lib.hid (And.intro hx (And.intro hy (And.intro h1l (And.intro ltt (And.intro h0l lt0)))))
  clear ltt lt0 ht0 ht1 ho hmx hmy hn hx hy h0l h1l
  unfold numV at kLn
  unfold ptV at kO kZ kQ0 kQ1 ⊢
  unfold quadV at kQ0 kQ1
  try unfold numV
  have hcz := arrK_cells .u64 8 (cat2 (wd 0) (wd 0))
  have hcm := arrK_cells .u64 8 (cat2 (wd mx) (wd my))
  have hcq := arrK_cells .u64 16 (cat4 (wd 0) (wd 0) (wd 0) (wd 0))
  have hcq0 := arrK_cells .u64 16 (cat4 (wd 0) (wd 1) (wd 1) (wd t0))
  have hcq1 := arrK_cells .u64 16 (cat4 (wd x) (wd y) (wd 1) (wd t1))
  have hL0 : Below w.heap.size w (((w.alloc (Obj.cells (arrK .u64 4 (wd n)) 24)).alloc (Obj.cells (arrK .u64 8 (cat2 (wd x) (wd y))) 42)).alloc (Obj.cells (arrK .u64 8 (cat2 (wd 0) (wd 0))) 42)) := by go_grown
  have hN0 : At (((w.alloc (Obj.cells (arrK .u64 4 (wd n)) 24)).alloc (Obj.cells (arrK .u64 8 (cat2 (wd x) (wd y))) 42)).alloc (Obj.cells (arrK .u64 8 (cat2 (wd 0) (wd 0))) 42)) w.heap.size .u64 4 (wd n) := (((At.new _ rfl)).old _).old _
  have hA0 : At (((w.alloc (Obj.cells (arrK .u64 4 (wd n)) 24)).alloc (Obj.cells (arrK .u64 8 (cat2 (wd x) (wd y))) 42)).alloc (Obj.cells (arrK .u64 8 (cat2 (wd 0) (wd 0))) 42)) (w.heap.size + 1) .u64 8 (cat2 (wd x) (wd y)) := ((At.new _ (by simp))).old _
  have hR0 : Row (((w.alloc (Obj.cells (arrK .u64 4 (wd n)) 24)).alloc (Obj.cells (arrK .u64 8 (cat2 (wd x) (wd y))) 42)).alloc (Obj.cells (arrK .u64 8 (cat2 (wd 0) (wd 0))) 42)) (w.heap.size + 1 + 1) 8 := (At.new (k := .u64) (f := cat2 (wd 0) (wd 0)) _ (by simp)).row
  have hL := Lib.hid hL0
  have hN := Lib.hid hN0
  have hA := Lib.hid hA0
  have hR := Lib.hid hR0
  clear hL0 hN0 hA0 hR0
  go_enter Try.func28, Try.ntmps28
  go_upto_region 1 with (fail)
  generalize ((w.alloc _).alloc _).alloc _ = W0 at *
  have hr1 := hA.out.row
  have hr2 := hA.out.eq
  go_wp2_with fail
  refine (kO.out _).mono ?_
  rintro e w2 ⟨rfl, hb⟩
  replace hN := Lib.hid (hN.out.step hb)
  replace hA := Lib.hid (hA.out.step hb)
  replace hR := Lib.hid (row_below hR.out hb hR.out.lt)
  replace hL := Lib.hid (below_step hb hL.out (Nat.le_refl _))
  clear hr1 hr2 hb kO
  dsimp only
  cases o with
  | false =>
    have hrR := hR.out
    go_wp2_with (first
      | refine wpList_opW (by go_simp) (fun K hK => wp_bldE rfl (build_ptZ _) (hK _ _ ?_)))
    exact ret_stored2 (p := 4) (q := 5) (ty := 42) (g := w.heap.size + 1 + 1) (n := 8) (c := arrK .u64 8 (cat2 (wd 0) (wd 0))) rfl Try.underlying42 rfl (by kernel_rfl) rfl hrR hcz.1 rfl ⟨rfl, below_setRow hL.out (by omega)⟩
  | true =>
    go_upto_region 3 with (fail)
    generalize ha0 : Act.mk _ _ = a0
    have e3 : a0.tmps[3]?.getD undef = .pointer (some ⟨w.heap.size + 1, 0, none⟩) := by rw [← ha0]; rfl
    have hz0 : a0.tmps.size = 36 := by rw [← ha0]; rfl
    have hha0 := Lib.hid ha0
    clear ha0
    refine wp_region_fresh ⟨fun jx_ => match jx_ with | 0 => some (.agg (arrK .u64 8 (cat2 (wd 0) (wd 1)))) | 1 => some (.agg (arrK .u64 16 (cat4 (wd 0) (wd 1) (wd 1) (wd t0)))) | 2 => some (.agg (arrK .u64 8 (cat2 (wd x) (wd y)))) | 3 => some (.agg (arrK .u64 16 (cat4 (wd x) (wd y) (wd 1) (wd t1)))) | _ => none, fun jx_ => match jx_ with | 4 => some 16 | 5 => some 16 | _ => none, fun jx_ => match jx_ with | 6 => some 4 | 7 => some 5 | _ => none, fun jx_ => match jx_ with | 6 => arrK .u64 16 (cat4 (wd 0) (wd 1) (wd 1) (wd t0)) | 7 => arrK .u64 16 (cat4 (wd x) (wd y) (wd 1) (wd t1)) | _ => #[]⟩ (by kernel_rfl) (by kernel_rfl) (by kernel_rfl) (slotsOk_of hz0 (by kernel_rfl)) rfl ⟨?_, ?_, ?_, ?_, ?_, ?_, ?_, ?_, trivial⟩ ?_
    · refine fstep_val rfl rfl (calm_step rfl fun aa ω κ hb hu hc hK => ?_)
      have hk := Lib.hid (fun w1 (h : Below ω.heap.size ω w1) => hK (.agg (arrK .u64 8 (cat2 (wd 0) (wd 1)))) w1 rfl h)
      clear hK hu hc
      go_simp
      go_at_call 37
      refine (kZ.out _).mono ?_
      rintro e w1 ⟨rfl, hb1⟩
      exact hk.out _ hb1
    · refine fstep_val rfl rfl (calm_step rfl fun aa ω κ hb hu hc hK => ?_)
      have h13 : aa.tmps[13]?.getD undef = .agg (arrK .u64 8 (cat2 (wd 0) (wd 1))) := hc 0 13 rfl rfl
      have hk := Lib.hid (fun w1 (h : Below ω.heap.size ω w1) => hK (.agg (arrK .u64 16 (cat4 (wd 0) (wd 1) (wd 1) (wd t0)))) w1 rfl h)
      clear hK hu hc
      go_simp
      go_at_call 100
      refine (kQ0.out _).mono ?_
      rintro e w1 ⟨rfl, hb1⟩
      exact hk.out _ hb1
    · refine fstep_val rfl rfl (calm_step rfl fun aa ω κ hb hu hc hK => ?_)
      have h3 : aa.tmps[3]?.getD undef = .pointer (some ⟨w.heap.size + 1, 0, none⟩) := (hu 3 rfl).trans e3
      have hk := Lib.hid (fun w1 (h : Below ω.heap.size ω w1) => hK (.agg (arrK .u64 8 (cat2 (wd x) (wd y)))) w1 rfl h)
      clear hK hu hc
      have hr1 := (hA.out.step hb).row
      have hr2 := (hA.out.step hb).eq
      go_simp
      exact hk.out _ (Below.refl _ _)
    · refine fstep_val rfl rfl (calm_step rfl fun aa ω κ hb hu hc hK => ?_)
      have h15 : aa.tmps[15]?.getD undef = .agg (arrK .u64 8 (cat2 (wd x) (wd y))) := hc 2 15 rfl rfl
      have hk := Lib.hid (fun w1 (h : Below ω.heap.size ω w1) => hK (.agg (arrK .u64 16 (cat4 (wd x) (wd y) (wd 1) (wd t1)))) w1 rfl h)
      clear hK hu hc
      go_simp
      go_at_call 100
      refine (kQ1.out _).mono ?_
      rintro e w1 ⟨rfl, hb1⟩
      exact hk.out _ hb1
    · refine fstep_al (n := 16) rfl rfl fun aa ω κ hK => ?_
      have hk := Lib.hid hK
      clear hK
      go_simp
      exact hk.out _ _ hcq
    · refine fstep_al (n := 16) rfl rfl fun aa ω κ hK => ?_
      have hk := Lib.hid hK
      clear hK
      go_simp
      exact hk.out _ _ hcq
    · refine fstep_st (j := 4) (n := 16) (d := 6) rfl rfl rfl rfl rfl hcq0.1 rfl rfl fun aa ω κ g hb hu hc hp hr hK => ?_
      have h14 : aa.tmps[14]?.getD undef = .agg (arrK .u64 16 (cat4 (wd 0) (wd 1) (wd 1) (wd t0))) := hc 1 14 rfl rfl
      have hk := Lib.hid hK
      clear hK hu hc
      have hcc := hcq0
      go_simp
      exact hk.out undef
    · refine fstep_st (j := 5) (n := 16) (d := 7) rfl rfl rfl rfl rfl hcq1.1 rfl rfl fun aa ω κ g hb hu hc hp hr hK => ?_
      have h16 : aa.tmps[16]?.getD undef = .agg (arrK .u64 16 (cat4 (wd x) (wd y) (wd 1) (wd t1))) := hc 3 16 rfl rfl
      have hk := Lib.hid hK
      clear hK hu hc
      have hcc := hcq1
      go_simp
      exact hk.out undef
    · intro a1 w1 G I
      have ha0 := hha0.out
      subst ha0
      have he := act_patch (n := 36) [false, false, false, false, false, false, true, true, false, false, false, false, false, true, true, true, true, false, false, false, false, false, false, false, false, false, false, false, false, false, false, false, false, false, false, false] rfl (by kernel_rfl) I.un I.sz I.df
      simp only [patch, cond_true, cond_false, Nat.reduceAdd] at he
      have hal6 := I.al 4 6 16 rfl rfl rfl
      have hal7 := I.al 5 7 16 rfl rfl rfl
      have hltR := hR.out.lt
      replace hN := Lib.hid (hN.out.step I.bel)
      replace hR := Lib.hid (row_below hR.out I.bel hR.out.lt)
      replace hL := Lib.hid (below_step I.bel hL.out (Nat.le_refl _))
      have hX := Lib.hid (show At w1 (G 4) .u64 16 (cat4 (wd 0) (wd 1) (wd 1) (wd t0)) from ⟨(I.blk 4 16 rfl rfl).2, (I.row 6 4 rfl rfl).2.2⟩)
      have hY := Lib.hid (show At w1 (G 5) .u64 16 (cat4 (wd x) (wd y) (wd 1) (wd t1)) from ⟨(I.blk 5 16 rfl rfl).2, (I.row 7 5 rfl rfl).2.2⟩)
      have hGn := Lib.hid (And.intro (I.ne 4 5 16 16 rfl rfl rfl rfl (by decide)) (show w.heap.size + 1 + 1 < G 4 from Nat.lt_of_lt_of_le hltR (I.blk 4 16 rfl rfl).1))
      clear hltR kZ kQ0 kQ1 hA
      clear I hz0 hha0 e3
      rw [he]
      clear he
      rw [hal6]
      rw [hal7]
      clear hal6 hal7
      generalize a1.tmps[13]?.getD undef = x13 at *
      generalize a1.tmps[14]?.getD undef = x14 at *
      generalize a1.tmps[15]?.getD undef = x15 at *
      generalize a1.tmps[16]?.getD undef = x16 at *
      obtain ⟨g6, hg⟩ : ∃ g, G 4 = g := ⟨_, rfl⟩
      rw [hg] at hX hGn ⊢
      clear hg
      obtain ⟨g7, hg⟩ : ∃ g, G 5 = g := ⟨_, rfl⟩
      rw [hg] at hY hGn ⊢
      clear hg
      generalize w1 = W3 at *
      have hr1 := hN.out.row
      have hr2 := hN.out.eq
      go_wp2_with fail
      refine (kLn.out _).mono ?_
      rintro e w4 ⟨s0, rfl, hs0, hb⟩
      replace hN := Lib.hid (hN.out.step hb)
      replace hR := Lib.hid (row_below hR.out hb hR.out.lt)
      replace hX := Lib.hid (hX.out.step hb)
      replace hY := Lib.hid (hY.out.step hb)
      replace hL := Lib.hid (below_step hb hL.out (Nat.le_refl _))
      clear hr1 hr2 hb kLn
      have hs0l := hLe.out _ hs0
      have hq0 := Lib.hid (hS0.out _ hs0.1)
      clear hLe hS0 hs0
      dsimp only
      have ws : IntKind.i64.wrap ((s0 : Int) - 1) = (s0 : Int) - 1 := by rw [IntKind.wrap_i64]; omega
      go_upto_region 5 with (fail)
      clear ws
      go_loopw [8] (fun vi wr => ∃ s X Y Z T : Nat, vi = .int .i64 ((s : Int) - 1) ∧ s ≤ 256 ∧ X < 2 ^ 256 ∧ Y < 2 ^ 256 ∧ Z < 2 ^ 256 ∧ T < 2 ^ 256 ∧ RpQ (tmP x y (n / 2 ^ s)) X Y Z T ∧ At wr g6 .u64 16 (cat4 (wd X) (wd Y) (wd Z) (wd T)) ∧ At wr g7 .u64 16 (cat4 (wd x) (wd y) (wd 1) (wd t1)) ∧ At wr w.heap.size .u64 4 (wd n) ∧ Row wr (w.heap.size + 1 + 1) 8 ∧ Below w.heap.size w wr) (fun vi _ => (intOf vi + 1).toNat)
      case atStart => exact ⟨s0, 0, 1, 1, t0, (by first | rfl | trivial), hs0l, hBd.out.2.2.2.2.1, hBd.out.2.2.1, hBd.out.2.2.1, hBd.out.2.2.2.2.2, hq0.out, hX.out, hY.out, hN.out, hR.out, hL.out⟩
      case round =>
        clear hX hY hN hR hL hq0
        obtain ⟨s, X, Y, Z, T, rfl, hs, hX1, hX2, hX3, hX4, hq, hX0, hY0, hN0, hR0, hL0⟩ := hrel
        have hX := Lib.hid hX0
        have hY := Lib.hid hY0
        have hN := Lib.hid hN0
        have hR := Lib.hid hR0
        have hL := Lib.hid hL0
        have hQ := Lib.hid hq
        clear hX0 hY0 hN0 hR0 hL0 hq
        rcases Nat.eq_zero_or_pos s with rfl | hs1
        · have hpt := hEnd.out X Y Z T hQ.out
          have kPt := quad_point X Y Z T wr hX1 hX2 hX3
          rw [hpt.1, hpt.2] at kPt
          unfold quadV ptV at kPt
          have hHpt := Lib.hid kPt
          clear hpt kPt hX1 hX2 hX3 hX4 hQ hRd hBt hab hEnd
          have hr1 := hX.out.row
          have hr2 := hX.out.eq
          have d1 : decide ((0 : Int) ≤ ((0 : Nat) : Int) - 1) = false := by simp
          go_wp2_with fail
          refine hHpt.out.mono ?_
          rintro e w5 ⟨rfl, hb⟩
          have hR2 := row_below hR.out hb hR.out.lt
          have hL2 := below_step hb hL.out (Nat.le_refl _)
          clear hr1 hr2 hb hHpt hX hY hN hR hL
          dsimp only
          go_wp2_with fail
          exact ret_stored2 (p := 4) (q := 5) (ty := 42) (g := w.heap.size + 1 + 1) (n := 8) (c := arrK .u64 8 (cat2 (wd mx) (wd my))) rfl Try.underlying42 rfl (by kernel_rfl) rfl hR2 hcm.1 rfl ⟨rfl, below_setRow hL2 (by omega)⟩
        · obtain ⟨i, rfl⟩ : ∃ i, s = i + 1 := ⟨s - 1, by omega⟩
          have hi : i < 256 := by omega
          obtain ⟨⟨X5, Y5, Z5, T5⟩, hr⟩ : ∃ r, qplus X Y Z T X Y Z T = r := ⟨_, rfl⟩
          have kP := Lib.hid (quad_plusQ X Y Z T X Y Z T wr hX1 hX2 hX3 hX4 hX1 hX2 hX3 hX4 _ hr)
          have hb5 := qplus_lt4 hr
          have hrd := Lib.hid (hRd.out (by trivial) i X Y Z T X5 Y5 Z5 T5 hQ.out hr)
          obtain ⟨⟨X6, Y6, Z6, T6⟩, hr6⟩ : ∃ r, qplus X5 Y5 Z5 T5 x y 1 t1 = r := ⟨_, rfl⟩
          have kP2 := Lib.hid (fun V => quad_plusQ X5 Y5 Z5 T5 x y 1 t1 V hb5.1 hb5.2.1 hb5.2.2.1 hb5.2.2.2 hBd.out.1 hBd.out.2.1 hBd.out.2.2.1 hBd.out.2.2.2.1 _ hr6)
          have hb6 := Lib.hid (qplus_lt4 hr6)
          have hrd2 := Lib.hid (fun h => (hrd.out.2 h) X6 Y6 Z6 T6 hr6)
          have hHb5 := Lib.hid hb5
          have kB := Lib.hid (hBt.out i hi)
          have hab2 := hab.out i
          dsimp only at kP kP2
          unfold quadV at kP kP2
          clear hr hr6 hb5 hX1 hX2 hX3 hX4 hQ hs1
          rw [show (((i + 1 : Nat) : Int) - 1) = (i : Int) by omega]
          have d1 : decide ((0 : Int) ≤ (i : Int)) = true := by simp
          have hcx := arrK_cells .u64 16 (cat4 (wd X5) (wd Y5) (wd Z5) (wd T5))
          have hcy := arrK_cells .u64 16 (cat4 (wd X6) (wd Y6) (wd Z6) (wd T6))
          have w3 : IntKind.i64.wrap ((i : Int) - 1) = (i : Int) - 1 := by rw [IntKind.wrap_i64]; omega
          have hr1 := hX.out.row
          have hr2 := hX.out.eq
          go_wp2_with fail
          refine kP.out.mono ?_
          rintro e w5 ⟨rfl, hb⟩
          replace hN := Lib.hid (hN.out.step hb)
          replace hR := Lib.hid (row_below hR.out hb hR.out.lt)
          replace hX := Lib.hid (hX.out.step hb)
          replace hY := Lib.hid (hY.out.step hb)
          replace hL := Lib.hid (below_step hb hL.out (Nat.le_refl _))
          clear hr1 hr2 hb kP
          dsimp only
          have hX9 := Lib.hid (At.put (k := .u64) (f := cat4 (wd X5) (wd Y5) (wd Z5) (wd T5)) hX.out.row)
          have hY9 := Lib.hid (hY.out.far (c := arrK .u64 16 (cat4 (wd X5) (wd Y5) (wd Z5) (wd T5))) (show g7 ≠ g6 from fun h => hGn.out.1 h.symm))
          have hN9 := Lib.hid (hN.out.far (c := arrK .u64 16 (cat4 (wd X5) (wd Y5) (wd Z5) (wd T5))) (show w.heap.size ≠ g6 by have := hGn.out.2; omega))
          have hR9 := Lib.hid (show Row (w5.setRow g6 (arrK .u64 16 (cat4 (wd X5) (wd Y5) (wd Z5) (wd T5)))) (w.heap.size + 1 + 1) 8 from (row_setRow_far (show w.heap.size + 1 + 1 ≠ g6 by have := hGn.out.2; omega)).2 hR.out)
          have hL9 := Lib.hid (below_setRow (c := arrK .u64 16 (cat4 (wd X5) (wd Y5) (wd Z5) (wd T5))) hL.out (show w.heap.size ≤ g6 by have := hGn.out.2; omega))
          have hr1 := hX.out.row
          go_upto_region 8 with (fail)
          clear hr1 hX hY hN hR hL
          generalize w5.setRow _ _ = W5 at *
          have hr1 := hN9.out.row
          have hr2 := hN9.out.eq
          go_wp2_with fail
          refine (show Calls _ _ #[_, Value.int IntKind.i64 (i : Int)] W5 _ from kB.out _).mono ?_
          rintro e w6 ⟨rfl, hb⟩
          replace hN9 := Lib.hid (hN9.out.step hb)
          replace hR9 := Lib.hid (row_below hR9.out hb hR9.out.lt)
          replace hX9 := Lib.hid (hX9.out.step hb)
          replace hY9 := Lib.hid (hY9.out.step hb)
          replace hL9 := Lib.hid (below_step hb hL9.out (Nat.le_refl _))
          clear hr1 hr2 hb kB
          dsimp only
          rcases hab2 with hz | hz
          · have hfin := Lib.hid (hrd.out.1 hz)
            rw [hz]
            clear hrd hrd2 kP2 hb6 hz
            go_wp2_with fail
            go_roundw
            case rel => exact ⟨i, X5, Y5, Z5, T5, rfl, by omega, hHb5.out.1, hHb5.out.2.1, hHb5.out.2.2.1, hHb5.out.2.2.2, hfin.out, hX9.out, hY9.out, hN9.out, hR9.out, hL9.out⟩
            case measure => simp [intOf]
          · have hfin := Lib.hid (hrd2.out hz)
            rw [hz]
            clear hrd hrd2 hz hHb5
            have hr1 := hX9.out.row
            have hr2 := hX9.out.eq
            have hr3 := hY9.out.row
            have hr4 := hY9.out.eq
            go_wp2_with fail
            refine (kP2.out _).mono ?_
            rintro e w7 ⟨rfl, hb⟩
            replace hN9 := Lib.hid (hN9.out.step hb)
            replace hR9 := Lib.hid (row_below hR9.out hb hR9.out.lt)
            replace hX9 := Lib.hid (hX9.out.step hb)
            replace hY9 := Lib.hid (hY9.out.step hb)
            replace hL9 := Lib.hid (below_step hb hL9.out (Nat.le_refl _))
            clear hr1 hr2 hr3 hr4 hb kP2
            dsimp only
            have hr1 := hX9.out.row
            go_wp2_with fail
            go_roundw
            case rel =>
              refine ⟨i, X6, Y6, Z6, T6, rfl, by omega, hb6.out.1, hb6.out.2.1, hb6.out.2.2.1, hb6.out.2.2.2, hfin.out, At.put hX9.out.row, hY9.out.far (fun h => hGn.out.1 h.symm), hN9.out.far (by have := hGn.out.2; omega), (row_setRow_far (by have := hGn.out.2; omega)).2 hR9.out, below_setRow hL9.out (by have := hGn.out.2; omega)⟩
            case measure => simp [intOf]
end Go.Proofs.Ytodcjeaannfbnaa
namespace Go.Proofs.Ytodcjeaannfbnaa
open Go.ChangeShapes Go.WideShapes Go.ChangeAt Go.RowKit
set_option maxHeartbeats 2000000
set_option maxRecDepth 100000
attribute [local go_sem ↓] load_fld load_feP load_num store_num load_fe store_fe load_pt store_pt load_rp store_rp
attribute [local go_sem] isHead_mk blkOf_mk isAgg_mk cellsV_mk row_drew rowAt_drew row_new_cells row_old rowAt_new rowAt_old setRow_new zeroNum zeroPt zeroFe zeroRp
theorem rplus_lt3 {X1 Y1 Z1 X2 Y2 Z2 : Nat} {r : Nat × Nat × Nat} (hr : rplus X1 Y1 Z1 X2 Y2 Z2 = r) : r.1 < 2 ^ 256 ∧ r.2.1 < 2 ^ 256 ∧ r.2.2 < 2 ^ 256 := rplus_lt _ _ _ _ _ _ r hr
theorem mod_bit2 (n s : Nat) : n % 2 ^ (s + 1) = n % 2 ^ s + n / 2 ^ s % 2 * 2 ^ s := by rw [Nat.pow_succ, Nat.mod_mul, Nat.mul_comm (2 ^ s) (n / 2 ^ s % 2)]
/-- One round of the document's multiple. -/
theorem of_round {x y n s X Y Z X2 Y2 Z2 : Nat} (h : onB x y = true) (hq : RpN (tmP x y (n % 2 ^ s)) X Y Z) (hp : RpN (tmP x y (2 ^ s)) X2 Y2 Z2) :
    (n / 2 ^ s % 2 = 0 → RpN (tmP x y (n % 2 ^ (s + 1))) X Y Z) ∧ (n / 2 ^ s % 2 = 1 → ∀ X3 Y3 Z3, rplus X Y Z X2 Y2 Z2 = (X3, Y3, Z3) → RpN (tmP x y (n % 2 ^ (s + 1))) X3 Y3 Z3) ∧ (∀ X4 Y4 Z4, rplus X2 Y2 Z2 X2 Y2 Z2 = (X4, Y4, Z4) → RpN (tmP x y (2 ^ (s + 1))) X4 Y4 Z4) := by
  refine ⟨fun hb => ?_, fun hb X3 Y3 Z3 h3 => ?_, fun X4 Y4 Z4 h4 => ?_⟩
  · rw [mod_bit2, hb, Nat.zero_mul, Nat.add_zero]; exact hq
  · have k := rpN_plus h hq hp h3
    rw [mod_bit2, hb, Nat.one_mul]
    exact k
  · have k := rpN_plus h hp hp h4
    rw [Nat.pow_succ, Nat.mul_two]
    exact k
/-- What Often gives back. -/
def OftenR (x y n : Nat) (w : World) (e : Ending) (w' : World) : Prop := ∃ X Y Z, e = .returned (rpV X Y Z) ∧ RpN (tmP x y n) X Y Z ∧ X < 2 ^ 256 ∧ Y < 2 ^ 256 ∧ Z < 2 ^ 256 ∧ Below w.heap.size w w'
theorem rp_Often (x y n X0 Y0 Z0 : Nat) (v : Value) (w : World) (ho : onB x y = true) (hp : RpN (tmP x y 1) X0 Y0 Z0) (hX0 : X0 < 2 ^ 256) (hY0 : Y0 < 2 ^ 256) (hZ0 : Z0 < 2 ^ 256) (hv : IsN w v n) (hn : n < big) :
    Calls Try.prog 31 #[rpV X0 Y0 Z0, v] w (OftenR x y n w) := by
  obtain ⟨A, l, c, rfl, hD, hG⟩ := hv
  have hll : l.length ≤ 10000 := lt_len hG hn
  have hval : val l = n := hG.val
  have hnl : n < 2 ^ (16 * l.length) := by
    have h := val_lt hG.sm
    rw [hval, show (65536 : Nat) = 2 ^ 16 from rfl, ← Nat.pow_mul] at h
    exact h
  obtain ⟨m, hm⟩ : ∃ m, 16 * l.length = m := ⟨_, rfl⟩
  have hm2 : m ≤ 160000 := by omega
  have kB := Lib.hid (fun V (h : Below w.heap.size w V) => ref_Bits A l c m V (hD.below h (Nat.le_refl _)) (by omega))
  rw [hval] at kB
  have hmi : (16 : Int) * (l.length : Int) = (m : Int) := by omega
  have hln : (l.length : Int) ≤ 10000 := by omega
  have hnm : n % 2 ^ m = n := by rw [← hm]; exact Nat.mod_eq_of_lt hnl
  generalize hll2 : l.length = ll at *
  have hend := Lib.hid (fun X Y Z (h : RpN (tmP x y (n % 2 ^ m)) X Y Z) => show RpN (tmP x y n) X Y Z by rw [hnm] at h; exact h)
  have hRd := Lib.hid (fun s X Y Z X2 Y2 Z2 hq hp => @of_round x y n s X Y Z X2 Y2 Z2 ho hq hp)
  have hS0 := Lib.hid (show RpN (tmP x y (n % 2 ^ 0)) 0 1 1 by rw [Nat.pow_zero, Nat.mod_one]; exact rpN_zero)
  have hS1 := Lib.hid (show RpN (tmP x y (2 ^ 0)) X0 Y0 Z0 by rw [Nat.pow_zero]; exact hp)
  have h1 := Lib.hid (fun V => ref_small 1 V (by omega))
  have h0 := Lib.hid (fun V => ref_small 0 V (by omega))
  have hBd := Lib.hid (And.intro hX0 (And.intro hY0 hZ0))
  have hab := Lib.hid (fun i => show n / 2 ^ i % 2 = 0 ∨ n / 2 ^ i % 2 = 1 by omega)
  obtain ⟨bf, hbf⟩ : ∃ b, (fun i => n / 2 ^ i % 2) = b := ⟨_, rfl⟩
  have hbi : ∀ i, n / 2 ^ i % 2 = bf i := fun i => by rw [← hbf]
  unfold BitsR at kB
  rw [hbf] at kB
  simp only [hbi] at hRd hab
  clear hnm hbf hbi hX0 hY0 hZ0 hp hG hD hval hnl hll hll2 hn ho
  unfold feV at h1 h0
  rw [show ((1 : Nat) : Int) = 1 from rfl] at h1
  rw [show ((0 : Nat) : Int) = 0 from rfl] at h0
  unfold rpV
  have hcz := arrK_cells .i64 48 (cat3 (fun _ => 0) (fun _ => 0) (fun _ => 0))
  have hcq := arrK_cells .i64 48 (cat3 (dgt 0) (dgt 1) (dgt 1))
  have hL0 : Below w.heap.size w ((w.alloc (Obj.cells (arrK .i64 48 (cat3 (dgt X0) (dgt Y0) (dgt Z0))) 48)).alloc (Obj.cells (arrK .i64 48 (cat3 (fun _ => 0) (fun _ => 0) (fun _ => 0))) 48)) := by go_grown
  have hA0 : At ((w.alloc (Obj.cells (arrK .i64 48 (cat3 (dgt X0) (dgt Y0) (dgt Z0))) 48)).alloc (Obj.cells (arrK .i64 48 (cat3 (fun _ => 0) (fun _ => 0) (fun _ => 0))) 48)) w.heap.size .i64 48 (cat3 (dgt X0) (dgt Y0) (dgt Z0)) := (At.new _ rfl).old _
  have hR0 : Row ((w.alloc (Obj.cells (arrK .i64 48 (cat3 (dgt X0) (dgt Y0) (dgt Z0))) 48)).alloc (Obj.cells (arrK .i64 48 (cat3 (fun _ => 0) (fun _ => 0) (fun _ => 0))) 48)) (w.heap.size + 1) 48 := (At.new (k := .i64) (f := (cat3 (fun _ => 0) (fun _ => 0) (fun _ => 0))) _ (by simp)).row
  have hL := Lib.hid hL0
  have hA := Lib.hid hA0
  have hR := Lib.hid hR0
  clear hL0 hA0 hR0
  go_enter Try.func31, Try.ntmps31
  go_upto_region 1 with (fail)
  generalize (w.alloc _).alloc _ = W0 at *
  go_wp2_with fail
  refine (h0.out _).mono ?_
  rintro e w2 ⟨rfl, hb⟩
  replace hA := Lib.hid (hA.out.step hb)
  replace hR := Lib.hid (row_below hR.out hb hR.out.lt)
  replace hL := Lib.hid (below_step hb hL.out (Nat.le_refl _))
  clear hb h0
  dsimp only
  go_wp2_with fail
  refine (h1.out _).mono ?_
  rintro e w3 ⟨rfl, hb⟩
  replace hA := Lib.hid (hA.out.step hb)
  replace hR := Lib.hid (row_below hR.out hb hR.out.lt)
  replace hL := Lib.hid (below_step hb hL.out (Nat.le_refl _))
  clear hb
  dsimp only
  go_wp2_with fail
  refine (h1.out _).mono ?_
  rintro e w4 ⟨rfl, hb⟩
  replace hA := Lib.hid (hA.out.step hb)
  replace hR := Lib.hid (row_below hR.out hb hR.out.lt)
  replace hL := Lib.hid (below_step hb hL.out (Nat.le_refl _))
  clear hb h1
  dsimp only
  have hX := Lib.hid (At.new (w := w4) (k := .i64) (m := 48) (f := cat3 (dgt 0) (dgt 1) (dgt 1)) 48 rfl)
  have hltR := Lib.hid hR.out.lt
  replace hA := Lib.hid (hA.out.old (Obj.cells (arrK .i64 48 (cat3 (dgt 0) (dgt 1) (dgt 1))) 48))
  replace hR := Lib.hid ((row_old (o := Obj.cells (arrK .i64 48 (cat3 (dgt 0) (dgt 1) (dgt 1))) 48) hR.out.lt).2 hR.out)
  replace hL := Lib.hid (Below.trans hL.out ((below_alloc w4 (Obj.cells (arrK .i64 48 (cat3 (dgt 0) (dgt 1) (dgt 1))) 48)).mono hL.out.size))
  go_upto_region 2 with (refine wpList_bldC (v0 := .agg (arrK .i64 16 (dgt 0))) (v1 := .agg (arrK .i64 16 (dgt 1))) (v2 := .agg (arrK .i64 16 (dgt 1))) rfl rfl (by go_simp) (by go_simp) (by go_simp) (build_rp _ _ _ _) ?_)
  obtain ⟨g5, hg⟩ : ∃ g, w4.heap.size = g := ⟨_, rfl⟩
  rw [hg] at hX hltR ⊢
  clear hg
  generalize w4.alloc _ = W4 at *
  have ws : IntKind.i64.wrap ((m : Nat) : Int) = ((m : Nat) : Int) := by rw [IntKind.wrap_i64]; omega
  have kB2 := Lib.hid (kB.out _ hL.out)
  clear kB
  go_wp2_with fail
  refine (show Calls _ _ #[_, Value.int IntKind.i64 (m : Int)] W4 _ from kB2.out).mono ?_
  rintro e w5 ⟨g, rfl, hgR, hgE, hgs, hb⟩
  have hG := Lib.hid (show At w5 g .i64 m bf from ⟨hgR, hgE⟩)
  have hgl := Lib.hid (show g5 < g ∧ w.heap.size + 1 < g5 from ⟨Nat.lt_of_lt_of_le hX.out.lt hgs, hltR.out⟩)
  replace hA := Lib.hid (hA.out.step hb)
  replace hR := Lib.hid (row_below hR.out hb hR.out.lt)
  replace hX := Lib.hid (hX.out.step hb)
  replace hL := Lib.hid (below_step hb hL.out (Nat.le_refl _))
  clear hgR hgE hgs hb kB2 hltR ws
  dsimp only
  go_upto_region 3 with (fail)
  go_loopw [18, 7] (fun vi vb wr => ∃ s X Y Z X2 Y2 Z2 : Nat, vi = .int .i64 (s : Nat) ∧ s ≤ m ∧ X < 2 ^ 256 ∧ Y < 2 ^ 256 ∧ Z < 2 ^ 256 ∧ X2 < 2 ^ 256 ∧ Y2 < 2 ^ 256 ∧ Z2 < 2 ^ 256 ∧ RpN (tmP x y (n % 2 ^ s)) X Y Z ∧ RpN (tmP x y (2 ^ s)) X2 Y2 Z2 ∧ At wr g5 .i64 48 (cat3 (dgt X) (dgt Y) (dgt Z)) ∧ At wr w.heap.size .i64 48 (cat3 (dgt X2) (dgt Y2) (dgt Z2)) ∧ At wr g .i64 m bf ∧ Row wr (w.heap.size + 1) 48 ∧ Below w.heap.size w wr) (fun vi _ _ => m - (intOf vi).toNat)
  case atStart => exact ⟨0, 0, 1, 1, X0, Y0, Z0, rfl, Nat.zero_le _, by decide +kernel, by decide +kernel, by decide +kernel, hBd.out.1, hBd.out.2.1, hBd.out.2.2, hS0.out, hS1.out, hX.out, hA.out, hG.out, hR.out, hL.out⟩
  case round =>
    clear hX hA hG hR hL hS0 hS1 hBd
    obtain ⟨s, X, Y, Z, X2, Y2, Z2, rfl, hs, b1, b2, b3, b4, b5, b6, hq, hp, hX0, hA0, hG0, hR0, hL0⟩ := hrel
    have hX := Lib.hid hX0
    have hA := Lib.hid hA0
    have hG := Lib.hid hG0
    have hR := Lib.hid hR0
    have hL := Lib.hid hL0
    clear hX0 hA0 hG0 hR0 hL0
    by_cases hsm : s = m
    · subst hsm
      have hfin := Lib.hid (hend.out X Y Z hq)
      have hHb := Lib.hid (And.intro b1 (And.intro b2 b3))
      clear hend hRd hab hq hp b1 b2 b3 b4 b5 b6 hG hA
      have hr1 := hX.out.row
      have hr2 := hX.out.eq
      have hr3 := hR.out
      have hcx := arrK_cells .i64 48 (cat3 (dgt X) (dgt Y) (dgt Z))
      have d1 : decide ((s : Int) < (s : Int)) = false := by simp
      go_wp2_with fail
      refine ret_row (p := 4) (ty := 48) (g := w.heap.size + 1) rfl Try.underlying48 rfl (by kernel_rfl) rfl ((row_setRow_same rfl hR.out).2 hcx.1) rfl ?_
      rw [rowAt_setRow_same hR.out]
      exact ⟨X, Y, Z, rfl, hfin.out, hHb.out.1, hHb.out.2.1, hHb.out.2.2, below_setRow hL.out (by omega)⟩
    · have hslt : s < m := by omega
      obtain ⟨⟨X5, Y5, Z5⟩, hr5⟩ : ∃ r, rplus X Y Z X2 Y2 Z2 = r := ⟨_, rfl⟩
      obtain ⟨⟨X6, Y6, Z6⟩, hr6⟩ : ∃ r, rplus X2 Y2 Z2 X2 Y2 Z2 = r := ⟨_, rfl⟩
      have kP := Lib.hid (fun V => rp_PlusQ X Y Z X2 Y2 Z2 V b1 b2 b3 b4 b5 b6 _ hr5)
      have kD := Lib.hid (fun V => rp_PlusQ X2 Y2 Z2 X2 Y2 Z2 V b4 b5 b6 b4 b5 b6 _ hr6)
      have hb5 := Lib.hid (rplus_lt3 hr5)
      have hb6 := Lib.hid (rplus_lt3 hr6)
      have hrd := hRd.out s X Y Z X2 Y2 Z2 hq hp
      have hrd0 := Lib.hid hrd.1
      have hrd1 := Lib.hid (fun h => hrd.2.1 h X5 Y5 Z5 hr5)
      have hrd2 := Lib.hid (hrd.2.2 X6 Y6 Z6 hr6)
      have hHb := Lib.hid (And.intro b1 (And.intro b2 b3))
      have hab2 := hab.out s
      have c := hG.out.cell hslt
      dsimp only at kP kD
      unfold rpV at kP kD
      clear hrd hr5 hr6 b1 b2 b3 b4 b5 b6 hq hp hsm
      have d1 : decide ((s : Int) < (m : Int)) = true := by simp; omega
      have d2 : (0 : Int) ≤ (s : Int) := by omega
      have d3 : (s : Int) < (m : Int) := by omega
      have w3 : IntKind.i64.wrap ((s : Int) + 1) = (s : Int) + 1 := by rw [IntKind.wrap_i64]; omega
      have hc5 := arrK_cells .i64 48 (cat3 (dgt X5) (dgt Y5) (dgt Z5))
      have hc6 := arrK_cells .i64 48 (cat3 (dgt X6) (dgt Y6) (dgt Z6))
      rcases hab2 with hz | hz
      · have hfin := Lib.hid (hrd0.out hz)
        rw [hz] at c
        clear hrd0 hrd1 hz kP hb5 hc5
        have hr1 := hA.out.row
        have hr2 := hA.out.eq
        go_wp2_with fail
        refine (kD.out _).mono ?_
        rintro e w6 ⟨rfl, hb⟩
        replace hA := Lib.hid (hA.out.step hb)
        replace hR := Lib.hid (row_below hR.out hb hR.out.lt)
        replace hX := Lib.hid (hX.out.step hb)
        replace hG := Lib.hid (hG.out.step hb)
        replace hL := Lib.hid (below_step hb hL.out (Nat.le_refl _))
        clear hr1 hr2 hb kD c
        dsimp only
        have hr1 := hA.out.row
        go_wp2_with fail
        go_roundw
        case rel =>
          refine ⟨s + 1, X, Y, Z, X6, Y6, Z6, by go_num, by omega, hHb.out.1, hHb.out.2.1, hHb.out.2.2, hb6.out.1, hb6.out.2.1, hb6.out.2.2, hfin.out, hrd2.out, hX.out.far (by have := hgl.out; omega), At.put hA.out.row, hG.out.far (by have := hgl.out; omega), (row_setRow_far (by omega)).2 hR.out, below_setRow hL.out (Nat.le_refl _)⟩
        case measure => simp [intOf]; omega
      · have hfin := Lib.hid (hrd1.out hz)
        rw [hz] at c
        clear hrd0 hrd1 hz hHb
        have hr1 := hA.out.row
        have hr2 := hA.out.eq
        have hr3 := hX.out.row
        have hr4 := hX.out.eq
        go_wp2_with fail
        refine (kP.out _).mono ?_
        rintro e w6 ⟨rfl, hb⟩
        replace hA := Lib.hid (hA.out.step hb)
        replace hR := Lib.hid (row_below hR.out hb hR.out.lt)
        replace hX := Lib.hid (hX.out.step hb)
        replace hG := Lib.hid (hG.out.step hb)
        replace hL := Lib.hid (below_step hb hL.out (Nat.le_refl _))
        clear hr1 hr2 hr3 hr4 hb kP c
        dsimp only
        have hr1 := hX.out.row
        go_upto_region 7 with (fail)
        have hX9 := Lib.hid (At.put (k := .i64) (f := cat3 (dgt X5) (dgt Y5) (dgt Z5)) hX.out.row)
        have hA9 := Lib.hid (hA.out.far (c := arrK .i64 48 (cat3 (dgt X5) (dgt Y5) (dgt Z5))) (show w.heap.size ≠ g5 by have := hgl.out; omega))
        have hG9 := Lib.hid (hG.out.far (c := arrK .i64 48 (cat3 (dgt X5) (dgt Y5) (dgt Z5))) (show g ≠ g5 by have := hgl.out; omega))
        have hR9 := Lib.hid (show Row (w6.setRow g5 (arrK .i64 48 (cat3 (dgt X5) (dgt Y5) (dgt Z5)))) (w.heap.size + 1) 48 from (row_setRow_far (show w.heap.size + 1 ≠ g5 by have := hgl.out; omega)).2 hR.out)
        have hL9 := Lib.hid (below_setRow (c := arrK .i64 48 (cat3 (dgt X5) (dgt Y5) (dgt Z5))) hL.out (show w.heap.size ≤ g5 by have := hgl.out; omega))
        clear hr1 hX hA hG hR hL
        have hX := hX9
        have hA := hA9
        have hG := hG9
        have hR := hR9
        have hL := hL9
        clear hX9 hA9 hG9 hR9 hL9
        generalize w6.setRow _ _ = W6 at *
        have hr1 := hA.out.row
        have hr2 := hA.out.eq
        go_wp2_with fail
        refine (kD.out _).mono ?_
        rintro e w7 ⟨rfl, hb⟩
        replace hA := Lib.hid (hA.out.step hb)
        replace hR := Lib.hid (row_below hR.out hb hR.out.lt)
        replace hX := Lib.hid (hX.out.step hb)
        replace hG := Lib.hid (hG.out.step hb)
        replace hL := Lib.hid (below_step hb hL.out (Nat.le_refl _))
        clear hr1 hr2 hb kD
        dsimp only
        have hr1 := hA.out.row
        go_wp2_with fail
        go_roundw
        case rel =>
          refine ⟨s + 1, X5, Y5, Z5, X6, Y6, Z6, by go_num, by omega, hb5.out.1, hb5.out.2.1, hb5.out.2.2, hb6.out.1, hb6.out.2.1, hb6.out.2.2, hfin.out, hrd2.out, hX.out.far (by have := hgl.out; omega), At.put hA.out.row, hG.out.far (by have := hgl.out; omega), (row_setRow_far (by omega)).2 hR.out, below_setRow hL.out (Nat.le_refl _)⟩
        case measure => simp [intOf]; omega
end Go.Proofs.Ytodcjeaannfbnaa
namespace Go.Proofs.Ytodcjeaannfbnaa
open Go.ChangeShapes Go.WideShapes Go.ChangeAt Go.RowKit
set_option maxHeartbeats 2000000
set_option maxRecDepth 100000
attribute [local go_sem ↓] load_fld load_feP load_num store_num load_fe store_fe load_pt store_pt load_rp store_rp
attribute [local go_sem] isHead_mk blkOf_mk isAgg_mk cellsV_mk row_drew rowAt_drew row_new_cells row_old rowAt_new rowAt_old setRow_new zeroNum zeroPt zeroFe zeroRp
def SRel.tmN (m : Nat) : SRel := ⟨fun v w => IsN w v m, fun _ _ _ hb h => h.step hb⟩
/-- A fraction of the point. -/
def SRel.tmR (mx my : Nat) : SRel := ⟨fun v _ => ∃ X Y Z, v = .agg (arrK .i64 48 (cat3 (dgt X) (dgt Y) (dgt Z))) ∧ X < 2 ^ 256 ∧ Y < 2 ^ 256 ∧ Z < 2 ^ 256 ∧ X * invP Z % fP = mx ∧ Y * invP Z % fP = my, fun _ _ _ _ h => h⟩
theorem ptof_rep {x y : Nat} : RpN (tmP x y 1) (x % fP) (y % fP) 1 := rpN_mod rpN_one
theorem curveTimes_true (n x y : Nat) (w : World) (hn : n < 2 ^ 256) (hx : x < 2 ^ 256) (hy : y < 2 ^ 256) : Calls Try.prog 4 #[numV n, ptV x y] w fun e w' => e = .returned (.bool true) ∧ Below w.heap.size w w' := by
  have h1l : 1 < 2 ^ 256 := by decide +kernel
  have kT := Lib.hid (fun V => curve_Times n x y V hn hx hy)
  have kR := Lib.hid (fun V => ref_On x y V hx hy)
  rw [on_same] at kR
  have kP := Lib.hid (fun V => ref_PtOf x y V hx hy)
  have kD := Lib.hid (fun V => ref_OfNum n V hn)
  have kO := Lib.hid (fun (h : onB x y = true) v V (hv : IsN V v n) => rp_Often x y n (x % fP) (y % fP) 1 v V h ptof_rep low_lt low_lt h1l hv (lt_big hn (by omega)))
  have hout := Lib.hid (fun X Y Z (h : RpN (tmP x y n) X Y Z) => rpN_out h)
  unfold OftenR at kO
  have hfx : x % fP < 2 ^ 256 := low_lt
  obtain ⟨fx, hfx⟩ : ∃ v, x % fP = v := ⟨_, rfl⟩
  obtain ⟨fy, hfy⟩ : ∃ v, y % fP = v := ⟨_, rfl⟩
  rw [hfx, hfy] at kP kO
  obtain ⟨mx, hmx⟩ : ∃ v, (tmP x y n).1.val = v := ⟨_, rfl⟩
  obtain ⟨my, hmy⟩ : ∃ v, (tmP x y n).2.val = v := ⟨_, rfl⟩
  rw [hmx, hmy] at kT hout
  obtain ⟨o, ho⟩ : ∃ v, onB x y = v := ⟨_, rfl⟩
  rw [ho] at kT kR kO
  obtain ⟨na, nb, ne, hN⟩ : ∃ (na nb : Nat) (ne : Int), (bif o then (.tuple #[ptV mx my, .int .i64 0] : Value) else .tuple #[ptV 0 0, .int .i64 1]) = .tuple #[.agg (arrK .u64 8 (cat2 (wd na) (wd nb))), .int .i64 ne] ∧ (o = true → na = mx ∧ nb = my ∧ ne = 0) ∧ (o = false → na = 0 ∧ nb = 0 ∧ ne = 1) := by
    cases o
    · exact ⟨0, 0, 1, rfl, (fun h => by cases h), fun _ => ⟨rfl, rfl, rfl⟩⟩
    · exact ⟨mx, my, 0, rfl, (fun _ => ⟨rfl, rfl, rfl⟩), fun h => by cases h⟩
  rw [hN.1] at kT
  replace hN := Lib.hid hN.2
  have kQ := Lib.hid (fun X Y Z V (h1 : X < 2 ^ 256) (h2 : Y < 2 ^ 256) (h3 : Z < 2 ^ 256) (e1 : X * invP Z % fP = mx) (e2 : Y * invP Z % fP = my) => by
    have h := rp_Point X Y Z V h1 h2 h3
    rw [e1, e2] at h
    exact h)
  clear ho hmx hmy hfx hfy hn hx hy h1l
  unfold numV at kT
  try unfold numV at kD
  try unfold numV
  unfold ptV at kT kR kP kQ ⊢
  unfold rpV at kP kO kQ
  have hcn := arrK_cells .u64 8 (cat2 (wd na) (wd nb))
  have hc0 := arrK_cells .u64 8 (cat2 (wd 0) (wd 0))
  have hL0 : Below w.heap.size w ((w.alloc (Obj.cells (arrK .u64 4 (wd n)) 24)).alloc (Obj.cells (arrK .u64 8 (cat2 (wd x) (wd y))) 42)) := by go_grown
  have hN40 : At ((w.alloc (Obj.cells (arrK .u64 4 (wd n)) 24)).alloc (Obj.cells (arrK .u64 8 (cat2 (wd x) (wd y))) 42)) w.heap.size .u64 4 (wd n) := (At.new _ rfl).old _
  have hA0 : At ((w.alloc (Obj.cells (arrK .u64 4 (wd n)) 24)).alloc (Obj.cells (arrK .u64 8 (cat2 (wd x) (wd y))) 42)) (w.heap.size + 1) .u64 8 (cat2 (wd x) (wd y)) := At.new _ (by simp)
  have hL := Lib.hid hL0
  have hN4 := Lib.hid hN40
  have hA := Lib.hid hA0
  clear hL0 hN40 hA0
  go_enter Try.func4, Try.ntmps4
  go_upto_region 1 with (fail)
  generalize (w.alloc _).alloc _ = W0 at *
  have hr1 := hA.out.row
  have hr2 := hA.out.eq
  have hr3 := hN4.out.row
  have hr4 := hN4.out.eq
  go_upto_region 2 with (fail)
  refine (kT.out _).mono ?_
  rintro e w2 ⟨rfl, hb⟩
  replace hN4 := Lib.hid (hN4.out.step hb)
  replace hA := Lib.hid (hA.out.step hb)
  replace hL := Lib.hid (below_step hb hL.out (Nat.le_refl _))
  clear hr1 hr2 hr3 hr4 hb kT
  dsimp only
  have hX5 := Lib.hid (At.new (w := w2) (k := .u64) (m := 8) (f := cat2 (wd na) (wd nb)) 42 rfl)
  replace hN4 := Lib.hid (hN4.out.old (Obj.cells (arrK .u64 8 (cat2 (wd na) (wd nb))) 42))
  replace hA := Lib.hid (hA.out.old (Obj.cells (arrK .u64 8 (cat2 (wd na) (wd nb))) 42))
  replace hL := Lib.hid (Below.trans hL.out ((below_alloc w2 (Obj.cells (arrK .u64 8 (cat2 (wd na) (wd nb))) 42)).mono hL.out.size))
  go_upto_region 2 with (fail)
  obtain ⟨g5, hg⟩ : ∃ g, w2.heap.size = g := ⟨_, rfl⟩
  rw [hg] at hX5 ⊢
  clear hg
  generalize w2.alloc _ = W2 at *
  have hr1 := hA.out.row
  have hr2 := hA.out.eq
  go_wp2_with fail
  refine (kR.out _).mono ?_
  rintro e w4 ⟨rfl, hb⟩
  replace hN4 := Lib.hid (hN4.out.step hb)
  replace hA := Lib.hid (hA.out.step hb)
  replace hX5 := Lib.hid (hX5.out.step hb)
  replace hL := Lib.hid (below_step hb hL.out (Nat.le_refl _))
  clear hr1 hr2 hb kR
  dsimp only
  cases o with
  | false =>
    obtain ⟨rfl, rfl, rfl⟩ := hN.out.2 rfl
    clear hN
    have hr1 := hX5.out.row
    have hr2 := hX5.out.eq
    go_wp2_with (first
      | refine wpList_opW (by go_simp) (fun K hK => wp_bldE rfl (build_ptZ _) (hK _ _ ?_))
      | refine wpList_opW (by go_simp) (fun K hK => wp_eqlA (.inr rfl) (by kernel_rfl) (v := arrK .u64 8 (cat2 (wd 0) (wd 0))) (u := arrK .u64 8 (cat2 (wd 0) (wd 0))) (by go_simp) (by go_simp) (eqlPtB _ _ _) (hK _ _ ?_)))
    exact ret_tmp (p := 4) (v := .bool true) rfl (by simp) rfl ⟨rfl, hL.out⟩
  | true =>
    obtain ⟨e1, e2, e3⟩ := hN.out.1 rfl
    rw [e1, e2] at hX5
    subst e3
    clear hN e1 e2
    replace kO := Lib.hid (fun v V hv => kO.out (by trivial) v V hv)
    go_upto_region 4 with (fail)
    generalize ha0 : Act.mk _ _ = a0
    have e2 : a0.tmps[2]?.getD undef = .pointer (some ⟨w.heap.size, 0, none⟩) := by rw [← ha0]; rfl
    have e3 : a0.tmps[3]?.getD undef = .pointer (some ⟨w.heap.size + 1, 0, none⟩) := by rw [← ha0]; rfl
    have e5 : a0.tmps[5]?.getD undef = .pointer (some ⟨g5, 0, none⟩) := by rw [← ha0]; rfl
    have e6 : a0.tmps[6]?.getD undef = .int .i64 0 := by rw [← ha0]; rfl
    have hz0 : a0.tmps.size = 35 := by rw [← ha0]; rfl
    have hha0 := Lib.hid ha0
    clear ha0
    refine wp_region_calm (fun jx_ => match jx_ with | 0 => SRel.is (.int .i64 0) | 1 => SRel.is (.bool true) | 2 => SRel.is (.bool true) | 3 => SRel.is (.agg (arrK .u64 8 (cat2 (wd mx) (wd my)))) | 4 => SRel.is (.agg (arrK .u64 8 (cat2 (wd x) (wd y)))) | 5 => SRel.is (.agg (arrK .i64 48 (cat3 (dgt fx) (dgt fy) (dgt 1)))) | 6 => SRel.is (.agg (arrK .u64 4 (wd n))) | 7 => SRel.tmN n | 8 => SRel.tmR mx my | 9 => SRel.is (.agg (arrK .u64 8 (cat2 (wd mx) (wd my)))) | 10 => SRel.is (.bool true) | 11 => SRel.is (.bool true) | 12 => SRel.is (.bool true) | _ => SRel.any) (by kernel_rfl) (by kernel_rfl) (by kernel_rfl) (slotsOk_of hz0 (by kernel_rfl)) ⟨?_, ?_, ?_, ?_, ?_, ?_, ?_, ?_, ?_, ?_, ?_, ?_, ?_, trivial⟩ ?_
    · refine calm_step rfl fun a ω κ hb hu hc hK => ?_
      have h6 : a.tmps[6]?.getD undef = .int .i64 0 := (hu 6 rfl).trans e6
      have hk := Lib.hid (fun w1 (h : Below ω.heap.size ω w1) => hK (.int .i64 0) w1 rfl h)
      clear hK hu hc
      go_simp
      exact hk.out _ (Below.refl _ _)
    · refine calm_step rfl fun a ω κ hb hu hc hK => ?_
      have h23 : a.tmps[23]?.getD undef = .int .i64 0 := hc 0 23 rfl rfl
      have hk := Lib.hid (fun w1 (h : Below ω.heap.size ω w1) => hK (.bool true) w1 rfl h)
      clear hK hu hc
      go_simp
      exact hk.out _ (Below.refl _ _)
    · refine calm_step rfl fun a ω κ hb hu hc hK => ?_
      have h24 : a.tmps[24]?.getD undef = .bool true := hc 1 24 rfl rfl
      have hk := Lib.hid (fun w1 (h : Below ω.heap.size ω w1) => hK (.bool true) w1 rfl h)
      clear hK hu hc
      go_simp
      exact hk.out _ (Below.refl _ _)
    · refine calm_step_guard (g := 2) (b := true) (d := 25) rfl rfl (fun a w hc => hc 2 25 rfl rfl) fun a ω κ hb hu hc hK => ?_
      have h5 : a.tmps[5]?.getD undef = .pointer (some ⟨g5, 0, none⟩) := (hu 5 rfl).trans e5
      have hk := Lib.hid (fun w1 (h : Below ω.heap.size ω w1) => hK (.agg (arrK .u64 8 (cat2 (wd mx) (wd my)))) w1 rfl h)
      clear hK hu hc
      have hr1 := (hX5.out.step hb).row
      have hr2 := (hX5.out.step hb).eq
      go_simp
      exact hk.out _ (Below.refl _ _)
    · refine calm_step_guard (g := 2) (b := true) (d := 25) rfl rfl (fun a w hc => hc 2 25 rfl rfl) fun a ω κ hb hu hc hK => ?_
      have h3 : a.tmps[3]?.getD undef = .pointer (some ⟨w.heap.size + 1, 0, none⟩) := (hu 3 rfl).trans e3
      have hk := Lib.hid (fun w1 (h : Below ω.heap.size ω w1) => hK (.agg (arrK .u64 8 (cat2 (wd x) (wd y)))) w1 rfl h)
      clear hK hu hc
      have hr1 := (hA.out.step hb).row
      have hr2 := (hA.out.step hb).eq
      go_simp
      exact hk.out _ (Below.refl _ _)
    · refine calm_step_guard (g := 2) (b := true) (d := 25) rfl rfl (fun a w hc => hc 2 25 rfl rfl) fun a ω κ hb hu hc hK => ?_
      have h27 : a.tmps[27]?.getD undef = .agg (arrK .u64 8 (cat2 (wd x) (wd y))) := hc 4 27 rfl rfl
      have hk := Lib.hid (fun w1 (h : Below ω.heap.size ω w1) => hK (.agg (arrK .i64 48 (cat3 (dgt fx) (dgt fy) (dgt 1)))) w1 rfl h)
      clear hK hu hc
      go_simp
      go_at_call 30
      refine (kP.out _).mono ?_
      rintro e w1 ⟨rfl, hb1⟩
      exact hk.out _ hb1
    · refine calm_step_guard (g := 2) (b := true) (d := 25) rfl rfl (fun a w hc => hc 2 25 rfl rfl) fun a ω κ hb hu hc hK => ?_
      have h2 : a.tmps[2]?.getD undef = .pointer (some ⟨w.heap.size, 0, none⟩) := (hu 2 rfl).trans e2
      have hk := Lib.hid (fun w1 (h : Below ω.heap.size ω w1) => hK (.agg (arrK .u64 4 (wd n))) w1 rfl h)
      clear hK hu hc
      have hr1 := (hN4.out.step hb).row
      have hr2 := (hN4.out.step hb).eq
      go_simp
      exact hk.out _ (Below.refl _ _)
    · refine calm_step_guard (g := 2) (b := true) (d := 25) rfl rfl (fun a w hc => hc 2 25 rfl rfl) fun a ω κ hb hu hc hK => ?_
      have h29 : a.tmps[29]?.getD undef = .agg (arrK .u64 4 (wd n)) := hc 6 29 rfl rfl
      have hk := Lib.hid (fun v w1 (hv : (SRel.tmN n).p v w1) (h : Below ω.heap.size ω w1) => hK v w1 hv h)
      clear hK hu hc
      go_simp
      go_at_call 32
      refine (kD.out _).mono ?_
      rintro e w1 ⟨u, rfl, hu1, hb1⟩
      exact hk.out _ _ hu1 hb1
    · refine calm_step_guard (g := 2) (b := true) (d := 25) rfl rfl (fun a w hc => hc 2 25 rfl rfl) fun a ω κ hb hu hc hK => ?_
      have h28 : a.tmps[28]?.getD undef = .agg (arrK .i64 48 (cat3 (dgt fx) (dgt fy) (dgt 1))) := hc 5 28 rfl rfl
      have h30 : (SRel.tmN n).p (a.tmps[30]?.getD undef) ω := hc 7 30 rfl rfl
      have hk := Lib.hid (fun v w1 (hv : (SRel.tmR mx my).p v w1) (h : Below ω.heap.size ω w1) => hK v w1 hv h)
      clear hK hu hc
      go_simp
      go_at_call 31
      refine (kO.out _ _ h30).mono ?_
      rintro e w1 ⟨X, Y, Z, rfl, hR, hX, hY, hZ, hb1⟩
      have hoo := hout.out X Y Z hR
      exact hk.out _ _ ⟨X, Y, Z, rfl, hX, hY, hZ, hoo.1, hoo.2⟩ hb1
    · refine calm_step_guard (g := 2) (b := true) (d := 25) rfl rfl (fun a w hc => hc 2 25 rfl rfl) fun a ω κ hb hu hc hK => ?_
      have h31 : (SRel.tmR mx my).p (a.tmps[31]?.getD undef) ω := hc 8 31 rfl rfl
      have hk := Lib.hid (fun w1 (h : Below ω.heap.size ω w1) => hK (.agg (arrK .u64 8 (cat2 (wd mx) (wd my)))) w1 rfl h)
      clear hK hu hc
      obtain ⟨X, Y, Z, h31, hX, hY, hZ, e1, e2⟩ := h31
      go_simp
      go_at_call 33
      refine (kQ.out X Y Z _ hX hY hZ e1 e2).mono ?_
      rintro e w1 ⟨rfl, hb1⟩
      exact hk.out _ hb1
    · refine calm_step_guard (g := 2) (b := true) (d := 25) rfl rfl (fun a w hc => hc 2 25 rfl rfl) fun a ω κ hb hu hc hK => ?_
      have h26 : a.tmps[26]?.getD undef = .agg (arrK .u64 8 (cat2 (wd mx) (wd my))) := hc 3 26 rfl rfl
      have h32 : a.tmps[32]?.getD undef = .agg (arrK .u64 8 (cat2 (wd mx) (wd my))) := hc 9 32 rfl rfl
      have hk := Lib.hid (fun w1 (h : Below ω.heap.size ω w1) => hK (.bool true) w1 rfl h)
      clear hK hu hc
      exact wp_eqlA (v := arrK .u64 8 (cat2 (wd mx) (wd my))) (u := arrK .u64 8 (cat2 (wd mx) (wd my))) (.inr rfl) (by kernel_rfl) (by go_simp) (by go_simp) (eqlPtB _ _ _) (hk.out _ (Below.refl _ _))
    · refine calm_step rfl fun a ω κ hb hu hc hK => ?_
      have h25 : a.tmps[25]?.getD undef = .bool true := hc 2 25 rfl rfl
      have h33 : a.tmps[33]?.getD undef = .bool true := hc 10 33 rfl rfl
      have hk := Lib.hid (fun w1 (h : Below ω.heap.size ω w1) => hK (.bool true) w1 rfl h)
      clear hK hu hc
      go_simp
      exact hk.out _ (Below.refl _ _)
    · refine calm_step rfl fun a ω κ hb hu hc hK => ?_
      have h34 : a.tmps[34]?.getD undef = .bool true := hc 11 34 rfl rfl
      have hk := Lib.hid (fun w1 (h : Below ω.heap.size ω w1) => hK (.bool true) w1 rfl h)
      clear hK hu hc
      go_simp
      exact hk.out _ (Below.refl _ _)
    · intro a1 w1 hb1 hu1 hsz1 hdf1 hc1
      have ha0 := hha0.out
      subst ha0
      have he := act_patch (n := 35) [false, false, false, false, true, false, false, false, false, false, false, false, false, false, false, false, false, false, false, false, false, false, false, true, true, true, true, true, true, true, true, true, true, true, true] rfl (by kernel_rfl) hu1 hsz1 hdf1
      simp only [patch, cond_true, cond_false, Nat.reduceAdd] at he
      have hkn4 : a1.tmps[4]?.getD undef = .bool true := hc1 12 4 rfl
      replace hL := Lib.hid (below_step hb1 hL.out (Nat.le_refl _))
      clear hb1 hu1 hsz1 hdf1 hc1 hz0 hha0 e2 e3 e5 e6
      rw [he]
      clear he
      rw [hkn4]
      clear hkn4
      generalize a1.tmps[23]?.getD undef = x23 at *
      generalize a1.tmps[24]?.getD undef = x24 at *
      generalize a1.tmps[25]?.getD undef = x25 at *
      generalize a1.tmps[26]?.getD undef = x26 at *
      generalize a1.tmps[27]?.getD undef = x27 at *
      generalize a1.tmps[28]?.getD undef = x28 at *
      generalize a1.tmps[29]?.getD undef = x29 at *
      generalize a1.tmps[30]?.getD undef = x30 at *
      generalize a1.tmps[31]?.getD undef = x31 at *
      generalize a1.tmps[32]?.getD undef = x32 at *
      generalize a1.tmps[33]?.getD undef = x33 at *
      generalize a1.tmps[34]?.getD undef = x34 at *
      go_wp2_with fail
      exact ret_tmp (p := 4) (v := .bool true) rfl (by simp) rfl ⟨rfl, hL.out⟩
end Go.Proofs.Ytodcjeaannfbnaa
