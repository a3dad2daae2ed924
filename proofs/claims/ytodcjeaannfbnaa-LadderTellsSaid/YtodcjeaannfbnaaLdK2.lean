/- Several texts one behind the other: Rp2 Ld3 Prm LdP Ld4 FreshR Ld6. -/
import Derived.Test.YtodcjeaannfbnaaLdK1
import Derived.Test.YtodcjeaannfbnaaLd1
import Derived.Test.YtodcjeaannfbnaaTail
import Derived.Test.YtodcjeaannfbnaaFdP
import Derived.Test.YtodcjeaannfbnaaLd2
import Derived.Test.YtodcjeaannfbnaaFresh
namespace Go.Proofs.Ytodcjeaannfbnaa
open Go.ChangeShapes Go.WideShapes Go.ChangeAt Go.RowKit
set_option maxHeartbeats 2000000
set_option maxRecDepth 100000
attribute [local go_sem ↓] load_fld load_feP load_num store_num load_fe store_fe load_pt store_pt load_rp store_rp
attribute [local go_sem] isHead_mk blkOf_mk isAgg_mk cellsV_mk row_drew rowAt_drew row_new_cells row_old rowAt_new rowAt_old setRow_new zeroNum zeroPt zeroFe zeroRp
theorem less_low {a b : Nat} : lessM a b < 2 ^ 256 := low_lt
theorem rp_Plus (X1 Y1 Z1 X2 Y2 Z2 va vc vd vb ve0 ve vf vg vs1 vs2 vs vu1 r1 vu2 vcd r2 r3 : Nat) (w : World) (hX1 : X1 < 2 ^ 256) (hY1 : Y1 < 2 ^ 256) (hZ1 : Z1 < 2 ^ 256) (hX2 : X2 < 2 ^ 256) (hY2 : Y2 < 2 ^ 256) (hZ2 : Z2 < 2 ^ 256) (hva : Z1 * Z2 % fP = va) (hvc : X1 * X2 % fP = vc) (hvd : Y1 * Y2 % fP = vd) (hvb : va * va % fP = vb) (hve0 : dN * vc % fP = ve0) (hve : ve0 * vd % fP = ve) (hvf : lessM vb ve = vf) (hvg : (vb + ve) % fP = vg) (hvs1 : X1 * Y2 % fP = vs1) (hvs2 : Y1 * X2 % fP = vs2) (hvs : (vs1 + vs2) % fP = vs) (hvu1 : va * vf % fP = vu1) (hr1 : vu1 * vs % fP = r1) (hvu2 : va * vg % fP = vu2) (hvcd : (vc + vd) % fP = vcd) (hr2 : vu2 * vcd % fP = r2) (hr3 : vf * vg % fP = r3) : Calls Try.prog 40 #[rpV X1 Y1 Z1, rpV X2 Y2 Z2] w fun e w' => e = .returned (rpV r1 r2 r3) ∧ Below w.heap.size w w' := by
  have hdN := dN_lt
  have lva : va < 2 ^ 256 := hva ▸ low_lt
  have lvc : vc < 2 ^ 256 := hvc ▸ low_lt
  have lvd : vd < 2 ^ 256 := hvd ▸ low_lt
  have lvb : vb < 2 ^ 256 := hvb ▸ low_lt
  have lve0 : ve0 < 2 ^ 256 := hve0 ▸ low_lt
  have lve : ve < 2 ^ 256 := hve ▸ low_lt
  have lvf : vf < 2 ^ 256 := hvf ▸ less_low
  have lvg : vg < 2 ^ 256 := hvg ▸ low_lt
  have lvs1 : vs1 < 2 ^ 256 := hvs1 ▸ low_lt
  have lvs2 : vs2 < 2 ^ 256 := hvs2 ▸ low_lt
  have lvs : vs < 2 ^ 256 := hvs ▸ low_lt
  have lvu1 : vu1 < 2 ^ 256 := hvu1 ▸ low_lt
  have lr1 : r1 < 2 ^ 256 := hr1 ▸ low_lt
  have lvu2 : vu2 < 2 ^ 256 := hvu2 ▸ low_lt
  have lvcd : vcd < 2 ^ 256 := hvcd ▸ low_lt
  have lr2 : r2 < 2 ^ 256 := hr2 ▸ low_lt
  have lr3 : r3 < 2 ^ 256 := hr3 ▸ low_lt
  have kva := Lib.hid (fun V => fe_By Z1 Z2 V hZ1 hZ2)
  rw [hva] at kva
  have kvc := Lib.hid (fun V => fe_By X1 X2 V hX1 hX2)
  rw [hvc] at kvc
  have kvd := Lib.hid (fun V => fe_By Y1 Y2 V hY1 hY2)
  rw [hvd] at kvd
  have kvb := Lib.hid (fun V => fe_By va va V lva lva)
  rw [hvb] at kvb
  have kve0 := Lib.hid (fun V => fe_By dN vc V hdN lvc)
  rw [hve0] at kve0
  have kve := Lib.hid (fun V => fe_By ve0 vd V lve0 lvd)
  rw [hve] at kve
  have kvf := Lib.hid (fun V => fe_Less vb ve V lvb lve)
  rw [show (vb + 4 * fP - ve) % fP = vf from hvf] at kvf
  have kvg := Lib.hid (fun V => fe_Plus vb ve V lvb lve)
  rw [hvg] at kvg
  have kvs1 := Lib.hid (fun V => fe_By X1 Y2 V hX1 hY2)
  rw [hvs1] at kvs1
  have kvs2 := Lib.hid (fun V => fe_By Y1 X2 V hY1 hX2)
  rw [hvs2] at kvs2
  have kvs := Lib.hid (fun V => fe_Plus vs1 vs2 V lvs1 lvs2)
  rw [hvs] at kvs
  have kvu1 := Lib.hid (fun V => fe_By va vf V lva lvf)
  rw [hvu1] at kvu1
  have kr1 := Lib.hid (fun V => fe_By vu1 vs V lvu1 lvs)
  rw [hr1] at kr1
  have kvu2 := Lib.hid (fun V => fe_By va vg V lva lvg)
  rw [hvu2] at kvu2
  have kvcd := Lib.hid (fun V => fe_Plus vc vd V lvc lvd)
  rw [hvcd] at kvcd
  have kr2 := Lib.hid (fun V => fe_By vu2 vcd V lvu2 lvcd)
  rw [hr2] at kr2
  have kr3 := Lib.hid (fun V => fe_By vf vg V lvf lvg)
  rw [hr3] at kr3
  have kd := Lib.hid (fun V => ref_dOf V)
  obtain ⟨dn, hdn⟩ : ∃ d, dN = d := ⟨_, rfl⟩
  rw [hdn] at kd kve0
  clear hdn hdN hX1 hY1 hZ1 hX2 hY2 hZ2 hva lva hvc lvc hvd lvd hvb lvb hve0 lve0 hve lve hvf lvf hvg lvg hvs1 lvs1 hvs2 lvs2 hvs lvs hvu1 lvu1 hr1 lr1 hvu2 lvu2 hvcd lvcd hr2 lr2 hr3 lr3
  unfold feV at kd kva kvc kvd kvb kve0 kve kvf kvg kvs1 kvs2 kvs kvu1 kr1 kvu2 kvcd kr2 kr3
  unfold rpV
  have hcr := arrK_cells .i64 48 (cat3 (dgt r1) (dgt r2) (dgt r3))
  have hcz := arrK_cells .i64 48 (cat3 (fun _ => 0) (fun _ => 0) (fun _ => 0))
  have hc0 := arrK_cells .i64 16 fun _ => 0
  have hcva := arrK_cells .i64 16 (dgt va)
  have hcvc := arrK_cells .i64 16 (dgt vc)
  have hcvd := arrK_cells .i64 16 (dgt vd)
  have hcvb := arrK_cells .i64 16 (dgt vb)
  have hcve := arrK_cells .i64 16 (dgt ve)
  have hcvf := arrK_cells .i64 16 (dgt vf)
  have hcvg := arrK_cells .i64 16 (dgt vg)
  have hcvs := arrK_cells .i64 16 (dgt vs)
  have hL0 : Below w.heap.size w (((w.alloc (Obj.cells (arrK .i64 48 (cat3 (dgt X1) (dgt Y1) (dgt Z1))) 48)).alloc (Obj.cells (arrK .i64 48 (cat3 (dgt X2) (dgt Y2) (dgt Z2))) 48)).alloc (Obj.cells (arrK .i64 48 (cat3 (fun _ => 0) (fun _ => 0) (fun _ => 0))) 48)) := by go_grown
  have hA0 : At (((w.alloc (Obj.cells (arrK .i64 48 (cat3 (dgt X1) (dgt Y1) (dgt Z1))) 48)).alloc (Obj.cells (arrK .i64 48 (cat3 (dgt X2) (dgt Y2) (dgt Z2))) 48)).alloc (Obj.cells (arrK .i64 48 (cat3 (fun _ => 0) (fun _ => 0) (fun _ => 0))) 48)) w.heap.size .i64 48 (cat3 (dgt X1) (dgt Y1) (dgt Z1)) := ((At.new _ rfl).old _).old _
  have hB0 : At (((w.alloc (Obj.cells (arrK .i64 48 (cat3 (dgt X1) (dgt Y1) (dgt Z1))) 48)).alloc (Obj.cells (arrK .i64 48 (cat3 (dgt X2) (dgt Y2) (dgt Z2))) 48)).alloc (Obj.cells (arrK .i64 48 (cat3 (fun _ => 0) (fun _ => 0) (fun _ => 0))) 48)) (w.heap.size + 1) .i64 48 (cat3 (dgt X2) (dgt Y2) (dgt Z2)) := (At.new _ (by simp)).old _
  have hR0 : Row (((w.alloc (Obj.cells (arrK .i64 48 (cat3 (dgt X1) (dgt Y1) (dgt Z1))) 48)).alloc (Obj.cells (arrK .i64 48 (cat3 (dgt X2) (dgt Y2) (dgt Z2))) 48)).alloc (Obj.cells (arrK .i64 48 (cat3 (fun _ => 0) (fun _ => 0) (fun _ => 0))) 48)) (w.heap.size + 1 + 1) 48 := (At.new (k := .i64) (f := (cat3 (fun _ => 0) (fun _ => 0) (fun _ => 0))) _ (by simp)).row
  have hL := Lib.hid hL0
  have hR := Lib.hid hR0
  have hA := Lib.hid hA0
  have hB := Lib.hid hB0
  clear hL0 hR0 hA0 hB0
  go_enter Try.func40, Try.ntmps40
  go_upto_region 1 with (fail)
  generalize ((w.alloc _).alloc _).alloc _ = W0 at *
  generalize ha0 : Act.mk _ _ = a0
  have e2 : a0.tmps[2]?.getD undef = .pointer (some ⟨w.heap.size, 0, none⟩) := by rw [← ha0]; rfl
  have e3 : a0.tmps[3]?.getD undef = .pointer (some ⟨w.heap.size + 1, 0, none⟩) := by rw [← ha0]; rfl
  have hz0 : a0.tmps.size = 69 := by rw [← ha0]; rfl
  have hha0 := Lib.hid ha0
  clear ha0
  refine wp_region_fresh ⟨fun jx_ => match jx_ with | 0 => some (.pointer (some ⟨w.heap.size, 32, none⟩)) | 1 => some (.agg (arrK .i64 16 (dgt Z1))) | 2 => some (.pointer (some ⟨w.heap.size + 1, 32, none⟩)) | 3 => some (.agg (arrK .i64 16 (dgt Z2))) | 4 => some (.agg (arrK .i64 16 (dgt va))) | 5 => some (.pointer (some ⟨w.heap.size, 0, none⟩)) | 6 => some (.agg (arrK .i64 16 (dgt X1))) | 7 => some (.pointer (some ⟨w.heap.size + 1, 0, none⟩)) | 8 => some (.agg (arrK .i64 16 (dgt X2))) | 9 => some (.agg (arrK .i64 16 (dgt vc))) | 10 => some (.pointer (some ⟨w.heap.size, 16, none⟩)) | 11 => some (.agg (arrK .i64 16 (dgt Y1))) | 12 => some (.pointer (some ⟨w.heap.size + 1, 16, none⟩)) | 13 => some (.agg (arrK .i64 16 (dgt Y2))) | 14 => some (.agg (arrK .i64 16 (dgt vd))) | _ => none, fun jx_ => match jx_ with | 15 => some 16 | 16 => some 16 | 17 => some 16 | _ => none, fun jx_ => match jx_ with | 18 => some 15 | 19 => some 16 | 20 => some 17 | _ => none, fun jx_ => match jx_ with | 18 => arrK .i64 16 (dgt va) | 19 => arrK .i64 16 (dgt vc) | 20 => arrK .i64 16 (dgt vd) | _ => #[]⟩ (by kernel_rfl) (by kernel_rfl) (by kernel_rfl) (slotsOk_of hz0 (by kernel_rfl)) rfl ⟨?_, ?_, ?_, ?_, ?_, ?_, ?_, ?_, ?_, ?_, ?_, ?_, ?_, ?_, ?_, ?_, ?_, ?_, ?_, ?_, ?_, trivial⟩ ?_
  · refine fstep_val rfl rfl (calm_step rfl fun aa ω κ hb hu hc hK => ?_)
    have h2 : aa.tmps[2]?.getD undef = .pointer (some ⟨w.heap.size, 0, none⟩) := (hu 2 rfl).trans e2
    have hk := Lib.hid (fun w1 (h : Below ω.heap.size ω w1) => hK (.pointer (some ⟨w.heap.size, 32, none⟩)) w1 rfl h)
    clear hK hu hc
    go_simp
    exact hk.out _ (Below.refl _ _)
  · refine fstep_val rfl rfl (calm_step rfl fun aa ω κ hb hu hc hK => ?_)
    have h13 : aa.tmps[13]?.getD undef = .pointer (some ⟨w.heap.size, 32, none⟩) := hc 0 13 rfl rfl
    have hk := Lib.hid (fun w1 (h : Below ω.heap.size ω w1) => hK (.agg (arrK .i64 16 (dgt Z1))) w1 rfl h)
    clear hK hu hc
    have hl := rp_2 (hA.out.step hb)
    have hl1 := hl.1
    have hl2 := hl.2
    go_simp
    exact hk.out _ (Below.refl _ _)
  · refine fstep_val rfl rfl (calm_step rfl fun aa ω κ hb hu hc hK => ?_)
    have h3 : aa.tmps[3]?.getD undef = .pointer (some ⟨w.heap.size + 1, 0, none⟩) := (hu 3 rfl).trans e3
    have hk := Lib.hid (fun w1 (h : Below ω.heap.size ω w1) => hK (.pointer (some ⟨w.heap.size + 1, 32, none⟩)) w1 rfl h)
    clear hK hu hc
    go_simp
    exact hk.out _ (Below.refl _ _)
  · refine fstep_val rfl rfl (calm_step rfl fun aa ω κ hb hu hc hK => ?_)
    have h15 : aa.tmps[15]?.getD undef = .pointer (some ⟨w.heap.size + 1, 32, none⟩) := hc 2 15 rfl rfl
    have hk := Lib.hid (fun w1 (h : Below ω.heap.size ω w1) => hK (.agg (arrK .i64 16 (dgt Z2))) w1 rfl h)
    clear hK hu hc
    have hl := rp_2 (hB.out.step hb)
    have hl1 := hl.1
    have hl2 := hl.2
    go_simp
    exact hk.out _ (Below.refl _ _)
  · refine fstep_val rfl rfl (calm_step rfl fun aa ω κ hb hu hc hK => ?_)
    have h14 : aa.tmps[14]?.getD undef = .agg (arrK .i64 16 (dgt Z1)) := hc 1 14 rfl rfl
    have h16 : aa.tmps[16]?.getD undef = .agg (arrK .i64 16 (dgt Z2)) := hc 3 16 rfl rfl
    have hk := Lib.hid (fun w1 (h : Below ω.heap.size ω w1) => hK (.agg (arrK .i64 16 (dgt va))) w1 rfl h)
    clear hK hu hc
    go_simp
    go_at_call 25
    refine (kva.out _).mono ?_
    rintro e w1 ⟨rfl, hb1⟩
    exact hk.out _ hb1
  · refine fstep_val rfl rfl (calm_step rfl fun aa ω κ hb hu hc hK => ?_)
    have h2 : aa.tmps[2]?.getD undef = .pointer (some ⟨w.heap.size, 0, none⟩) := (hu 2 rfl).trans e2
    have hk := Lib.hid (fun w1 (h : Below ω.heap.size ω w1) => hK (.pointer (some ⟨w.heap.size, 0, none⟩)) w1 rfl h)
    clear hK hu hc
    go_simp
    exact hk.out _ (Below.refl _ _)
  · refine fstep_val rfl rfl (calm_step rfl fun aa ω κ hb hu hc hK => ?_)
    have h18 : aa.tmps[18]?.getD undef = .pointer (some ⟨w.heap.size, 0, none⟩) := hc 5 18 rfl rfl
    have hk := Lib.hid (fun w1 (h : Below ω.heap.size ω w1) => hK (.agg (arrK .i64 16 (dgt X1))) w1 rfl h)
    clear hK hu hc
    have hl := rp_0 (hA.out.step hb)
    have hl1 := hl.1
    have hl2 := hl.2
    go_simp
    exact hk.out _ (Below.refl _ _)
  · refine fstep_val rfl rfl (calm_step rfl fun aa ω κ hb hu hc hK => ?_)
    have h3 : aa.tmps[3]?.getD undef = .pointer (some ⟨w.heap.size + 1, 0, none⟩) := (hu 3 rfl).trans e3
    have hk := Lib.hid (fun w1 (h : Below ω.heap.size ω w1) => hK (.pointer (some ⟨w.heap.size + 1, 0, none⟩)) w1 rfl h)
    clear hK hu hc
    go_simp
    exact hk.out _ (Below.refl _ _)
  · refine fstep_val rfl rfl (calm_step rfl fun aa ω κ hb hu hc hK => ?_)
    have h20 : aa.tmps[20]?.getD undef = .pointer (some ⟨w.heap.size + 1, 0, none⟩) := hc 7 20 rfl rfl
    have hk := Lib.hid (fun w1 (h : Below ω.heap.size ω w1) => hK (.agg (arrK .i64 16 (dgt X2))) w1 rfl h)
    clear hK hu hc
    have hl := rp_0 (hB.out.step hb)
    have hl1 := hl.1
    have hl2 := hl.2
    go_simp
    exact hk.out _ (Below.refl _ _)
  · refine fstep_val rfl rfl (calm_step rfl fun aa ω κ hb hu hc hK => ?_)
    have h19 : aa.tmps[19]?.getD undef = .agg (arrK .i64 16 (dgt X1)) := hc 6 19 rfl rfl
    have h21 : aa.tmps[21]?.getD undef = .agg (arrK .i64 16 (dgt X2)) := hc 8 21 rfl rfl
    have hk := Lib.hid (fun w1 (h : Below ω.heap.size ω w1) => hK (.agg (arrK .i64 16 (dgt vc))) w1 rfl h)
    clear hK hu hc
    go_simp
    go_at_call 25
    refine (kvc.out _).mono ?_
    rintro e w1 ⟨rfl, hb1⟩
    exact hk.out _ hb1
  · refine fstep_val rfl rfl (calm_step rfl fun aa ω κ hb hu hc hK => ?_)
    have h2 : aa.tmps[2]?.getD undef = .pointer (some ⟨w.heap.size, 0, none⟩) := (hu 2 rfl).trans e2
    have hk := Lib.hid (fun w1 (h : Below ω.heap.size ω w1) => hK (.pointer (some ⟨w.heap.size, 16, none⟩)) w1 rfl h)
    clear hK hu hc
    go_simp
    exact hk.out _ (Below.refl _ _)
  · refine fstep_val rfl rfl (calm_step rfl fun aa ω κ hb hu hc hK => ?_)
    have h23 : aa.tmps[23]?.getD undef = .pointer (some ⟨w.heap.size, 16, none⟩) := hc 10 23 rfl rfl
    have hk := Lib.hid (fun w1 (h : Below ω.heap.size ω w1) => hK (.agg (arrK .i64 16 (dgt Y1))) w1 rfl h)
    clear hK hu hc
    have hl := rp_1 (hA.out.step hb)
    have hl1 := hl.1
    have hl2 := hl.2
    go_simp
    exact hk.out _ (Below.refl _ _)
  · refine fstep_val rfl rfl (calm_step rfl fun aa ω κ hb hu hc hK => ?_)
    have h3 : aa.tmps[3]?.getD undef = .pointer (some ⟨w.heap.size + 1, 0, none⟩) := (hu 3 rfl).trans e3
    have hk := Lib.hid (fun w1 (h : Below ω.heap.size ω w1) => hK (.pointer (some ⟨w.heap.size + 1, 16, none⟩)) w1 rfl h)
    clear hK hu hc
    go_simp
    exact hk.out _ (Below.refl _ _)
  · refine fstep_val rfl rfl (calm_step rfl fun aa ω κ hb hu hc hK => ?_)
    have h25 : aa.tmps[25]?.getD undef = .pointer (some ⟨w.heap.size + 1, 16, none⟩) := hc 12 25 rfl rfl
    have hk := Lib.hid (fun w1 (h : Below ω.heap.size ω w1) => hK (.agg (arrK .i64 16 (dgt Y2))) w1 rfl h)
    clear hK hu hc
    have hl := rp_1 (hB.out.step hb)
    have hl1 := hl.1
    have hl2 := hl.2
    go_simp
    exact hk.out _ (Below.refl _ _)
  · refine fstep_val rfl rfl (calm_step rfl fun aa ω κ hb hu hc hK => ?_)
    have h24 : aa.tmps[24]?.getD undef = .agg (arrK .i64 16 (dgt Y1)) := hc 11 24 rfl rfl
    have h26 : aa.tmps[26]?.getD undef = .agg (arrK .i64 16 (dgt Y2)) := hc 13 26 rfl rfl
    have hk := Lib.hid (fun w1 (h : Below ω.heap.size ω w1) => hK (.agg (arrK .i64 16 (dgt vd))) w1 rfl h)
    clear hK hu hc
    go_simp
    go_at_call 25
    refine (kvd.out _).mono ?_
    rintro e w1 ⟨rfl, hb1⟩
    exact hk.out _ hb1
  · refine fstep_al (n := 16) rfl rfl fun aa ω κ hK => ?_
    have hk := Lib.hid hK
    clear hK
    go_simp
    exact hk.out _ _ hc0
  · refine fstep_al (n := 16) rfl rfl fun aa ω κ hK => ?_
    have hk := Lib.hid hK
    clear hK
    go_simp
    exact hk.out _ _ hc0
  · refine fstep_al (n := 16) rfl rfl fun aa ω κ hK => ?_
    have hk := Lib.hid hK
    clear hK
    go_simp
    exact hk.out _ _ hc0
  · refine fstep_st (j := 15) (n := 16) (d := 5) rfl rfl rfl rfl rfl hcva.1 rfl rfl fun aa ω κ g hb hu hc hp hr hK => ?_
    have h17 : aa.tmps[17]?.getD undef = .agg (arrK .i64 16 (dgt va)) := hc 4 17 rfl rfl
    have hk := Lib.hid hK
    clear hK hu hc
    have hcc := hcva
    go_simp
    exact hk.out undef
  · refine fstep_st (j := 16) (n := 16) (d := 6) rfl rfl rfl rfl rfl hcvc.1 rfl rfl fun aa ω κ g hb hu hc hp hr hK => ?_
    have h22 : aa.tmps[22]?.getD undef = .agg (arrK .i64 16 (dgt vc)) := hc 9 22 rfl rfl
    have hk := Lib.hid hK
    clear hK hu hc
    have hcc := hcvc
    go_simp
    exact hk.out undef
  · refine fstep_st (j := 17) (n := 16) (d := 7) rfl rfl rfl rfl rfl hcvd.1 rfl rfl fun aa ω κ g hb hu hc hp hr hK => ?_
    have h27 : aa.tmps[27]?.getD undef = .agg (arrK .i64 16 (dgt vd)) := hc 14 27 rfl rfl
    have hk := Lib.hid hK
    clear hK hu hc
    have hcc := hcvd
    go_simp
    exact hk.out undef
  · intro a1 w1 G I
    have ha0 := hha0.out
    subst ha0
    have he := act_patch (n := 69) [false, false, false, false, false, true, true, true, false, false, false, false, false, true, true, true, true, true, true, true, true, true, true, true, true, true, true, true, false, false, false, false, false, false, false, false, false, false, false, false, false, false, false, false, false, false, false, false, false, false, false, false, false, false, false, false, false, false, false, false, false, false, false, false, false, false, false, false, false] rfl (by kernel_rfl) I.un I.sz I.df
    simp only [patch, cond_true, cond_false, Nat.reduceAdd] at he
    have hal5 := I.al 15 5 16 rfl rfl rfl
    have hal6 := I.al 16 6 16 rfl rfl rfl
    have hal7 := I.al 17 7 16 rfl rfl rfl
    replace hA := Lib.hid (hA.out.step I.bel)
    replace hB := Lib.hid (hB.out.step I.bel)
    replace hR := Lib.hid (row_below hR.out I.bel hR.out.lt)
    replace hL := Lib.hid (below_step I.bel hL.out (Nat.le_refl _))
    have hX5 := Lib.hid (show At w1 (G 15) .i64 16 (dgt va) from ⟨(I.blk 15 16 rfl rfl).2, (I.row 18 15 rfl rfl).2.2⟩)
    have hX6 := Lib.hid (show At w1 (G 16) .i64 16 (dgt vc) from ⟨(I.blk 16 16 rfl rfl).2, (I.row 19 16 rfl rfl).2.2⟩)
    have hX7 := Lib.hid (show At w1 (G 17) .i64 16 (dgt vd) from ⟨(I.blk 17 16 rfl rfl).2, (I.row 20 17 rfl rfl).2.2⟩)
    clear kva kvc kvd
    clear I hz0 hha0 e2 e3
    rw [he]
    clear he
    rw [hal5]
    rw [hal6]
    rw [hal7]
    clear hal5 hal6 hal7
    generalize a1.tmps[13]?.getD undef = x13 at *
    generalize a1.tmps[14]?.getD undef = x14 at *
    generalize a1.tmps[15]?.getD undef = x15 at *
    generalize a1.tmps[16]?.getD undef = x16 at *
    generalize a1.tmps[17]?.getD undef = x17 at *
    generalize a1.tmps[18]?.getD undef = x18 at *
    generalize a1.tmps[19]?.getD undef = x19 at *
    generalize a1.tmps[20]?.getD undef = x20 at *
    generalize a1.tmps[21]?.getD undef = x21 at *
    generalize a1.tmps[22]?.getD undef = x22 at *
    generalize a1.tmps[23]?.getD undef = x23 at *
    generalize a1.tmps[24]?.getD undef = x24 at *
    generalize a1.tmps[25]?.getD undef = x25 at *
    generalize a1.tmps[26]?.getD undef = x26 at *
    generalize a1.tmps[27]?.getD undef = x27 at *
    obtain ⟨g5, hgz⟩ : ∃ g, G 15 = g := ⟨_, rfl⟩
    rw [hgz] at hX5 ⊢
    clear hgz
    obtain ⟨g6, hgz⟩ : ∃ g, G 16 = g := ⟨_, rfl⟩
    rw [hgz] at hX6 ⊢
    clear hgz
    obtain ⟨g7, hgz⟩ : ∃ g, G 17 = g := ⟨_, rfl⟩
    rw [hgz] at hX7 ⊢
    clear hgz
    generalize w1 = W1 at *
    go_upto_region 2 with (fail)
    generalize ha0 : Act.mk _ _ = a0
    have e5 : a0.tmps[5]?.getD undef = .pointer (some ⟨g5, 0, none⟩) := by rw [← ha0]; rfl
    have e6 : a0.tmps[6]?.getD undef = .pointer (some ⟨g6, 0, none⟩) := by rw [← ha0]; rfl
    have e7 : a0.tmps[7]?.getD undef = .pointer (some ⟨g7, 0, none⟩) := by rw [← ha0]; rfl
    have hz0 : a0.tmps.size = 69 := by rw [← ha0]; rfl
    have hha0 := Lib.hid ha0
    clear ha0
    refine wp_region_fresh ⟨fun jx_ => match jx_ with | 0 => some (.agg (arrK .i64 16 (dgt va))) | 1 => some (.agg (arrK .i64 16 (dgt va))) | 2 => some (.agg (arrK .i64 16 (dgt vb))) | 3 => some (.agg (arrK .i64 16 (dgt dn))) | 4 => some (.agg (arrK .i64 16 (dgt vc))) | 5 => some (.agg (arrK .i64 16 (dgt ve0))) | 6 => some (.agg (arrK .i64 16 (dgt vd))) | 7 => some (.agg (arrK .i64 16 (dgt ve))) | _ => none, fun jx_ => match jx_ with | 8 => some 16 | 9 => some 16 | _ => none, fun jx_ => match jx_ with | 10 => some 8 | 11 => some 9 | _ => none, fun jx_ => match jx_ with | 10 => arrK .i64 16 (dgt vb) | 11 => arrK .i64 16 (dgt ve) | _ => #[]⟩ (by kernel_rfl) (by kernel_rfl) (by kernel_rfl) (slotsOk_of hz0 (by kernel_rfl)) rfl ⟨?_, ?_, ?_, ?_, ?_, ?_, ?_, ?_, ?_, ?_, ?_, ?_, trivial⟩ ?_
    · refine fstep_val rfl rfl (calm_step rfl fun aa ω κ hb hu hc hK => ?_)
      have h5 : aa.tmps[5]?.getD undef = .pointer (some ⟨g5, 0, none⟩) := (hu 5 rfl).trans e5
      have hk := Lib.hid (fun w1 (h : Below ω.heap.size ω w1) => hK (.agg (arrK .i64 16 (dgt va))) w1 rfl h)
      clear hK hu hc
      have hr1 := (hX5.out.step hb).row
      have hr2 := (hX5.out.step hb).eq
      go_simp
      exact hk.out _ (Below.refl _ _)
    · refine fstep_val rfl rfl (calm_step rfl fun aa ω κ hb hu hc hK => ?_)
      have h5 : aa.tmps[5]?.getD undef = .pointer (some ⟨g5, 0, none⟩) := (hu 5 rfl).trans e5
      have hk := Lib.hid (fun w1 (h : Below ω.heap.size ω w1) => hK (.agg (arrK .i64 16 (dgt va))) w1 rfl h)
      clear hK hu hc
      have hr1 := (hX5.out.step hb).row
      have hr2 := (hX5.out.step hb).eq
      go_simp
      exact hk.out _ (Below.refl _ _)
    · refine fstep_val rfl rfl (calm_step rfl fun aa ω κ hb hu hc hK => ?_)
      have h28 : aa.tmps[28]?.getD undef = .agg (arrK .i64 16 (dgt va)) := hc 0 28 rfl rfl
      have h29 : aa.tmps[29]?.getD undef = .agg (arrK .i64 16 (dgt va)) := hc 1 29 rfl rfl
      have hk := Lib.hid (fun w1 (h : Below ω.heap.size ω w1) => hK (.agg (arrK .i64 16 (dgt vb))) w1 rfl h)
      clear hK hu hc
      go_simp
      go_at_call 25
      refine (kvb.out _).mono ?_
      rintro e w1 ⟨rfl, hb1⟩
      exact hk.out _ hb1
    · refine fstep_val rfl rfl (calm_step rfl fun aa ω κ hb hu hc hK => ?_)
      have hk := Lib.hid (fun w1 (h : Below ω.heap.size ω w1) => hK (.agg (arrK .i64 16 (dgt dn))) w1 rfl h)
      clear hK hu hc
      go_simp
      go_at_call 105
      refine (kd.out _).mono ?_
      rintro e w1 ⟨rfl, hb1⟩
      exact hk.out _ hb1
    · refine fstep_val rfl rfl (calm_step rfl fun aa ω κ hb hu hc hK => ?_)
      have h6 : aa.tmps[6]?.getD undef = .pointer (some ⟨g6, 0, none⟩) := (hu 6 rfl).trans e6
      have hk := Lib.hid (fun w1 (h : Below ω.heap.size ω w1) => hK (.agg (arrK .i64 16 (dgt vc))) w1 rfl h)
      clear hK hu hc
      have hr1 := (hX6.out.step hb).row
      have hr2 := (hX6.out.step hb).eq
      go_simp
      exact hk.out _ (Below.refl _ _)
    · refine fstep_val rfl rfl (calm_step rfl fun aa ω κ hb hu hc hK => ?_)
      have h31 : aa.tmps[31]?.getD undef = .agg (arrK .i64 16 (dgt dn)) := hc 3 31 rfl rfl
      have h32 : aa.tmps[32]?.getD undef = .agg (arrK .i64 16 (dgt vc)) := hc 4 32 rfl rfl
      have hk := Lib.hid (fun w1 (h : Below ω.heap.size ω w1) => hK (.agg (arrK .i64 16 (dgt ve0))) w1 rfl h)
      clear hK hu hc
      go_simp
      go_at_call 25
      refine (kve0.out _).mono ?_
      rintro e w1 ⟨rfl, hb1⟩
      exact hk.out _ hb1
    · refine fstep_val rfl rfl (calm_step rfl fun aa ω κ hb hu hc hK => ?_)
      have h7 : aa.tmps[7]?.getD undef = .pointer (some ⟨g7, 0, none⟩) := (hu 7 rfl).trans e7
      have hk := Lib.hid (fun w1 (h : Below ω.heap.size ω w1) => hK (.agg (arrK .i64 16 (dgt vd))) w1 rfl h)
      clear hK hu hc
      have hr1 := (hX7.out.step hb).row
      have hr2 := (hX7.out.step hb).eq
      go_simp
      exact hk.out _ (Below.refl _ _)
    · refine fstep_val rfl rfl (calm_step rfl fun aa ω κ hb hu hc hK => ?_)
      have h33 : aa.tmps[33]?.getD undef = .agg (arrK .i64 16 (dgt ve0)) := hc 5 33 rfl rfl
      have h34 : aa.tmps[34]?.getD undef = .agg (arrK .i64 16 (dgt vd)) := hc 6 34 rfl rfl
      have hk := Lib.hid (fun w1 (h : Below ω.heap.size ω w1) => hK (.agg (arrK .i64 16 (dgt ve))) w1 rfl h)
      clear hK hu hc
      go_simp
      go_at_call 25
      refine (kve.out _).mono ?_
      rintro e w1 ⟨rfl, hb1⟩
      exact hk.out _ hb1
    · refine fstep_al (n := 16) rfl rfl fun aa ω κ hK => ?_
      have hk := Lib.hid hK
      clear hK
      go_simp
      exact hk.out _ _ hc0
    · refine fstep_al (n := 16) rfl rfl fun aa ω κ hK => ?_
      have hk := Lib.hid hK
      clear hK
      go_simp
      exact hk.out _ _ hc0
    · refine fstep_st (j := 8) (n := 16) (d := 8) rfl rfl rfl rfl rfl hcvb.1 rfl rfl fun aa ω κ g hb hu hc hp hr hK => ?_
      have h30 : aa.tmps[30]?.getD undef = .agg (arrK .i64 16 (dgt vb)) := hc 2 30 rfl rfl
      have hk := Lib.hid hK
      clear hK hu hc
      have hcc := hcvb
      go_simp
      exact hk.out undef
    · refine fstep_st (j := 9) (n := 16) (d := 9) rfl rfl rfl rfl rfl hcve.1 rfl rfl fun aa ω κ g hb hu hc hp hr hK => ?_
      have h35 : aa.tmps[35]?.getD undef = .agg (arrK .i64 16 (dgt ve)) := hc 7 35 rfl rfl
      have hk := Lib.hid hK
      clear hK hu hc
      have hcc := hcve
      go_simp
      exact hk.out undef
    · intro a1 w1 G I
      have ha0 := hha0.out
      subst ha0
      have he := act_patch (n := 69) [false, false, false, false, false, false, false, false, true, true, false, false, false, false, false, false, false, false, false, false, false, false, false, false, false, false, false, false, true, true, true, true, true, true, true, true, false, false, false, false, false, false, false, false, false, false, false, false, false, false, false, false, false, false, false, false, false, false, false, false, false, false, false, false, false, false, false, false, false] rfl (by kernel_rfl) I.un I.sz I.df
      simp only [patch, cond_true, cond_false, Nat.reduceAdd] at he
      have hal8 := I.al 8 8 16 rfl rfl rfl
      have hal9 := I.al 9 9 16 rfl rfl rfl
      replace hA := Lib.hid (hA.out.step I.bel)
      replace hB := Lib.hid (hB.out.step I.bel)
      replace hR := Lib.hid (row_below hR.out I.bel hR.out.lt)
      replace hL := Lib.hid (below_step I.bel hL.out (Nat.le_refl _))
      replace hX5 := Lib.hid (hX5.out.step I.bel)
      replace hX6 := Lib.hid (hX6.out.step I.bel)
      replace hX7 := Lib.hid (hX7.out.step I.bel)
      have hX8 := Lib.hid (show At w1 (G 8) .i64 16 (dgt vb) from ⟨(I.blk 8 16 rfl rfl).2, (I.row 10 8 rfl rfl).2.2⟩)
      have hX9 := Lib.hid (show At w1 (G 9) .i64 16 (dgt ve) from ⟨(I.blk 9 16 rfl rfl).2, (I.row 11 9 rfl rfl).2.2⟩)
      clear kvb kd kve0 kve
      clear I hz0 hha0 e5 e6 e7
      rw [he]
      clear he
      rw [hal8]
      rw [hal9]
      clear hal8 hal9
      generalize a1.tmps[28]?.getD undef = x28 at *
      generalize a1.tmps[29]?.getD undef = x29 at *
      generalize a1.tmps[30]?.getD undef = x30 at *
      generalize a1.tmps[31]?.getD undef = x31 at *
      generalize a1.tmps[32]?.getD undef = x32 at *
      generalize a1.tmps[33]?.getD undef = x33 at *
      generalize a1.tmps[34]?.getD undef = x34 at *
      generalize a1.tmps[35]?.getD undef = x35 at *
      obtain ⟨g8, hgz⟩ : ∃ g, G 8 = g := ⟨_, rfl⟩
      rw [hgz] at hX8 ⊢
      clear hgz
      obtain ⟨g9, hgz⟩ : ∃ g, G 9 = g := ⟨_, rfl⟩
      rw [hgz] at hX9 ⊢
      clear hgz
      generalize w1 = W2 at *
      go_upto_region 3 with (fail)
      generalize ha0 : Act.mk _ _ = a0
      have e8 : a0.tmps[8]?.getD undef = .pointer (some ⟨g8, 0, none⟩) := by rw [← ha0]; rfl
      have e9 : a0.tmps[9]?.getD undef = .pointer (some ⟨g9, 0, none⟩) := by rw [← ha0]; rfl
      have hz0 : a0.tmps.size = 69 := by rw [← ha0]; rfl
      have hha0 := Lib.hid ha0
      clear ha0
      refine wp_region_fresh ⟨fun jx_ => match jx_ with | 0 => some (.agg (arrK .i64 16 (dgt vb))) | 1 => some (.agg (arrK .i64 16 (dgt ve))) | 2 => some (.agg (arrK .i64 16 (dgt vf))) | 3 => some (.agg (arrK .i64 16 (dgt vb))) | 4 => some (.agg (arrK .i64 16 (dgt ve))) | 5 => some (.agg (arrK .i64 16 (dgt vg))) | _ => none, fun jx_ => match jx_ with | 6 => some 16 | 7 => some 16 | _ => none, fun jx_ => match jx_ with | 8 => some 6 | 9 => some 7 | _ => none, fun jx_ => match jx_ with | 8 => arrK .i64 16 (dgt vf) | 9 => arrK .i64 16 (dgt vg) | _ => #[]⟩ (by kernel_rfl) (by kernel_rfl) (by kernel_rfl) (slotsOk_of hz0 (by kernel_rfl)) rfl ⟨?_, ?_, ?_, ?_, ?_, ?_, ?_, ?_, ?_, ?_, trivial⟩ ?_
      · refine fstep_val rfl rfl (calm_step rfl fun aa ω κ hb hu hc hK => ?_)
        have h8 : aa.tmps[8]?.getD undef = .pointer (some ⟨g8, 0, none⟩) := (hu 8 rfl).trans e8
        have hk := Lib.hid (fun w1 (h : Below ω.heap.size ω w1) => hK (.agg (arrK .i64 16 (dgt vb))) w1 rfl h)
        clear hK hu hc
        have hr1 := (hX8.out.step hb).row
        have hr2 := (hX8.out.step hb).eq
        go_simp
        exact hk.out _ (Below.refl _ _)
      · refine fstep_val rfl rfl (calm_step rfl fun aa ω κ hb hu hc hK => ?_)
        have h9 : aa.tmps[9]?.getD undef = .pointer (some ⟨g9, 0, none⟩) := (hu 9 rfl).trans e9
        have hk := Lib.hid (fun w1 (h : Below ω.heap.size ω w1) => hK (.agg (arrK .i64 16 (dgt ve))) w1 rfl h)
        clear hK hu hc
        have hr1 := (hX9.out.step hb).row
        have hr2 := (hX9.out.step hb).eq
        go_simp
        exact hk.out _ (Below.refl _ _)
      · refine fstep_val rfl rfl (calm_step rfl fun aa ω κ hb hu hc hK => ?_)
        have h36 : aa.tmps[36]?.getD undef = .agg (arrK .i64 16 (dgt vb)) := hc 0 36 rfl rfl
        have h37 : aa.tmps[37]?.getD undef = .agg (arrK .i64 16 (dgt ve)) := hc 1 37 rfl rfl
        have hk := Lib.hid (fun w1 (h : Below ω.heap.size ω w1) => hK (.agg (arrK .i64 16 (dgt vf))) w1 rfl h)
        clear hK hu hc
        go_simp
        go_at_call 23
        refine (kvf.out _).mono ?_
        rintro e w1 ⟨rfl, hb1⟩
        exact hk.out _ hb1
      · refine fstep_val rfl rfl (calm_step rfl fun aa ω κ hb hu hc hK => ?_)
        have h8 : aa.tmps[8]?.getD undef = .pointer (some ⟨g8, 0, none⟩) := (hu 8 rfl).trans e8
        have hk := Lib.hid (fun w1 (h : Below ω.heap.size ω w1) => hK (.agg (arrK .i64 16 (dgt vb))) w1 rfl h)
        clear hK hu hc
        have hr1 := (hX8.out.step hb).row
        have hr2 := (hX8.out.step hb).eq
        go_simp
        exact hk.out _ (Below.refl _ _)
      · refine fstep_val rfl rfl (calm_step rfl fun aa ω κ hb hu hc hK => ?_)
        have h9 : aa.tmps[9]?.getD undef = .pointer (some ⟨g9, 0, none⟩) := (hu 9 rfl).trans e9
        have hk := Lib.hid (fun w1 (h : Below ω.heap.size ω w1) => hK (.agg (arrK .i64 16 (dgt ve))) w1 rfl h)
        clear hK hu hc
        have hr1 := (hX9.out.step hb).row
        have hr2 := (hX9.out.step hb).eq
        go_simp
        exact hk.out _ (Below.refl _ _)
      · refine fstep_val rfl rfl (calm_step rfl fun aa ω κ hb hu hc hK => ?_)
        have h39 : aa.tmps[39]?.getD undef = .agg (arrK .i64 16 (dgt vb)) := hc 3 39 rfl rfl
        have h40 : aa.tmps[40]?.getD undef = .agg (arrK .i64 16 (dgt ve)) := hc 4 40 rfl rfl
        have hk := Lib.hid (fun w1 (h : Below ω.heap.size ω w1) => hK (.agg (arrK .i64 16 (dgt vg))) w1 rfl h)
        clear hK hu hc
        go_simp
        go_at_call 21
        refine (kvg.out _).mono ?_
        rintro e w1 ⟨rfl, hb1⟩
        exact hk.out _ hb1
      · refine fstep_al (n := 16) rfl rfl fun aa ω κ hK => ?_
        have hk := Lib.hid hK
        clear hK
        go_simp
        exact hk.out _ _ hc0
      · refine fstep_al (n := 16) rfl rfl fun aa ω κ hK => ?_
        have hk := Lib.hid hK
        clear hK
        go_simp
        exact hk.out _ _ hc0
      · refine fstep_st (j := 6) (n := 16) (d := 10) rfl rfl rfl rfl rfl hcvf.1 rfl rfl fun aa ω κ g hb hu hc hp hr hK => ?_
        have h38 : aa.tmps[38]?.getD undef = .agg (arrK .i64 16 (dgt vf)) := hc 2 38 rfl rfl
        have hk := Lib.hid hK
        clear hK hu hc
        have hcc := hcvf
        go_simp
        exact hk.out undef
      · refine fstep_st (j := 7) (n := 16) (d := 11) rfl rfl rfl rfl rfl hcvg.1 rfl rfl fun aa ω κ g hb hu hc hp hr hK => ?_
        have h41 : aa.tmps[41]?.getD undef = .agg (arrK .i64 16 (dgt vg)) := hc 5 41 rfl rfl
        have hk := Lib.hid hK
        clear hK hu hc
        have hcc := hcvg
        go_simp
        exact hk.out undef
      · intro a1 w1 G I
        have ha0 := hha0.out
        subst ha0
        have he := act_patch (n := 69) [false, false, false, false, false, false, false, false, false, false, true, true, false, false, false, false, false, false, false, false, false, false, false, false, false, false, false, false, false, false, false, false, false, false, false, false, true, true, true, true, true, true, false, false, false, false, false, false, false, false, false, false, false, false, false, false, false, false, false, false, false, false, false, false, false, false, false, false, false] rfl (by kernel_rfl) I.un I.sz I.df
        simp only [patch, cond_true, cond_false, Nat.reduceAdd] at he
        have hal10 := I.al 6 10 16 rfl rfl rfl
        have hal11 := I.al 7 11 16 rfl rfl rfl
        replace hA := Lib.hid (hA.out.step I.bel)
        replace hB := Lib.hid (hB.out.step I.bel)
        replace hR := Lib.hid (row_below hR.out I.bel hR.out.lt)
        replace hL := Lib.hid (below_step I.bel hL.out (Nat.le_refl _))
        replace hX5 := Lib.hid (hX5.out.step I.bel)
        replace hX6 := Lib.hid (hX6.out.step I.bel)
        replace hX7 := Lib.hid (hX7.out.step I.bel)
        replace hX8 := Lib.hid (hX8.out.step I.bel)
        replace hX9 := Lib.hid (hX9.out.step I.bel)
        have hX10 := Lib.hid (show At w1 (G 6) .i64 16 (dgt vf) from ⟨(I.blk 6 16 rfl rfl).2, (I.row 8 6 rfl rfl).2.2⟩)
        have hX11 := Lib.hid (show At w1 (G 7) .i64 16 (dgt vg) from ⟨(I.blk 7 16 rfl rfl).2, (I.row 9 7 rfl rfl).2.2⟩)
        clear kvf kvg
        clear I hz0 hha0 e8 e9
        rw [he]
        clear he
        rw [hal10]
        rw [hal11]
        clear hal10 hal11
        generalize a1.tmps[36]?.getD undef = x36 at *
        generalize a1.tmps[37]?.getD undef = x37 at *
        generalize a1.tmps[38]?.getD undef = x38 at *
        generalize a1.tmps[39]?.getD undef = x39 at *
        generalize a1.tmps[40]?.getD undef = x40 at *
        generalize a1.tmps[41]?.getD undef = x41 at *
        obtain ⟨g10, hgz⟩ : ∃ g, G 6 = g := ⟨_, rfl⟩
        rw [hgz] at hX10 ⊢
        clear hgz
        obtain ⟨g11, hgz⟩ : ∃ g, G 7 = g := ⟨_, rfl⟩
        rw [hgz] at hX11 ⊢
        clear hgz
        generalize w1 = W3 at *
        go_upto_region 4 with (fail)
        generalize ha0 : Act.mk _ _ = a0
        have e2 : a0.tmps[2]?.getD undef = .pointer (some ⟨w.heap.size, 0, none⟩) := by rw [← ha0]; rfl
        have e3 : a0.tmps[3]?.getD undef = .pointer (some ⟨w.heap.size + 1, 0, none⟩) := by rw [← ha0]; rfl
        have hz0 : a0.tmps.size = 69 := by rw [← ha0]; rfl
        have hha0 := Lib.hid ha0
        clear ha0
        refine wp_region_fresh ⟨fun jx_ => match jx_ with | 0 => some (.pointer (some ⟨w.heap.size, 0, none⟩)) | 1 => some (.agg (arrK .i64 16 (dgt X1))) | 2 => some (.pointer (some ⟨w.heap.size + 1, 16, none⟩)) | 3 => some (.agg (arrK .i64 16 (dgt Y2))) | 4 => some (.agg (arrK .i64 16 (dgt vs1))) | 5 => some (.pointer (some ⟨w.heap.size, 16, none⟩)) | 6 => some (.agg (arrK .i64 16 (dgt Y1))) | 7 => some (.pointer (some ⟨w.heap.size + 1, 0, none⟩)) | 8 => some (.agg (arrK .i64 16 (dgt X2))) | 9 => some (.agg (arrK .i64 16 (dgt vs2))) | 10 => some (.agg (arrK .i64 16 (dgt vs))) | _ => none, fun jx_ => match jx_ with | 11 => some 16 | _ => none, fun jx_ => match jx_ with | 12 => some 11 | _ => none, fun jx_ => match jx_ with | 12 => arrK .i64 16 (dgt vs) | _ => #[]⟩ (by kernel_rfl) (by kernel_rfl) (by kernel_rfl) (slotsOk_of hz0 (by kernel_rfl)) rfl ⟨?_, ?_, ?_, ?_, ?_, ?_, ?_, ?_, ?_, ?_, ?_, ?_, ?_, trivial⟩ ?_
        · refine fstep_val rfl rfl (calm_step rfl fun aa ω κ hb hu hc hK => ?_)
          have h2 : aa.tmps[2]?.getD undef = .pointer (some ⟨w.heap.size, 0, none⟩) := (hu 2 rfl).trans e2
          have hk := Lib.hid (fun w1 (h : Below ω.heap.size ω w1) => hK (.pointer (some ⟨w.heap.size, 0, none⟩)) w1 rfl h)
          clear hK hu hc
          go_simp
          exact hk.out _ (Below.refl _ _)
        · refine fstep_val rfl rfl (calm_step rfl fun aa ω κ hb hu hc hK => ?_)
          have h42 : aa.tmps[42]?.getD undef = .pointer (some ⟨w.heap.size, 0, none⟩) := hc 0 42 rfl rfl
          have hk := Lib.hid (fun w1 (h : Below ω.heap.size ω w1) => hK (.agg (arrK .i64 16 (dgt X1))) w1 rfl h)
          clear hK hu hc
          have hl := rp_0 (hA.out.step hb)
          have hl1 := hl.1
          have hl2 := hl.2
          go_simp
          exact hk.out _ (Below.refl _ _)
        · refine fstep_val rfl rfl (calm_step rfl fun aa ω κ hb hu hc hK => ?_)
          have h3 : aa.tmps[3]?.getD undef = .pointer (some ⟨w.heap.size + 1, 0, none⟩) := (hu 3 rfl).trans e3
          have hk := Lib.hid (fun w1 (h : Below ω.heap.size ω w1) => hK (.pointer (some ⟨w.heap.size + 1, 16, none⟩)) w1 rfl h)
          clear hK hu hc
          go_simp
          exact hk.out _ (Below.refl _ _)
        · refine fstep_val rfl rfl (calm_step rfl fun aa ω κ hb hu hc hK => ?_)
          have h44 : aa.tmps[44]?.getD undef = .pointer (some ⟨w.heap.size + 1, 16, none⟩) := hc 2 44 rfl rfl
          have hk := Lib.hid (fun w1 (h : Below ω.heap.size ω w1) => hK (.agg (arrK .i64 16 (dgt Y2))) w1 rfl h)
          clear hK hu hc
          have hl := rp_1 (hB.out.step hb)
          have hl1 := hl.1
          have hl2 := hl.2
          go_simp
          exact hk.out _ (Below.refl _ _)
        · refine fstep_val rfl rfl (calm_step rfl fun aa ω κ hb hu hc hK => ?_)
          have h43 : aa.tmps[43]?.getD undef = .agg (arrK .i64 16 (dgt X1)) := hc 1 43 rfl rfl
          have h45 : aa.tmps[45]?.getD undef = .agg (arrK .i64 16 (dgt Y2)) := hc 3 45 rfl rfl
          have hk := Lib.hid (fun w1 (h : Below ω.heap.size ω w1) => hK (.agg (arrK .i64 16 (dgt vs1))) w1 rfl h)
          clear hK hu hc
          go_simp
          go_at_call 25
          refine (kvs1.out _).mono ?_
          rintro e w1 ⟨rfl, hb1⟩
          exact hk.out _ hb1
        · refine fstep_val rfl rfl (calm_step rfl fun aa ω κ hb hu hc hK => ?_)
          have h2 : aa.tmps[2]?.getD undef = .pointer (some ⟨w.heap.size, 0, none⟩) := (hu 2 rfl).trans e2
          have hk := Lib.hid (fun w1 (h : Below ω.heap.size ω w1) => hK (.pointer (some ⟨w.heap.size, 16, none⟩)) w1 rfl h)
          clear hK hu hc
          go_simp
          exact hk.out _ (Below.refl _ _)
        · refine fstep_val rfl rfl (calm_step rfl fun aa ω κ hb hu hc hK => ?_)
          have h47 : aa.tmps[47]?.getD undef = .pointer (some ⟨w.heap.size, 16, none⟩) := hc 5 47 rfl rfl
          have hk := Lib.hid (fun w1 (h : Below ω.heap.size ω w1) => hK (.agg (arrK .i64 16 (dgt Y1))) w1 rfl h)
          clear hK hu hc
          have hl := rp_1 (hA.out.step hb)
          have hl1 := hl.1
          have hl2 := hl.2
          go_simp
          exact hk.out _ (Below.refl _ _)
        · refine fstep_val rfl rfl (calm_step rfl fun aa ω κ hb hu hc hK => ?_)
          have h3 : aa.tmps[3]?.getD undef = .pointer (some ⟨w.heap.size + 1, 0, none⟩) := (hu 3 rfl).trans e3
          have hk := Lib.hid (fun w1 (h : Below ω.heap.size ω w1) => hK (.pointer (some ⟨w.heap.size + 1, 0, none⟩)) w1 rfl h)
          clear hK hu hc
          go_simp
          exact hk.out _ (Below.refl _ _)
        · refine fstep_val rfl rfl (calm_step rfl fun aa ω κ hb hu hc hK => ?_)
          have h49 : aa.tmps[49]?.getD undef = .pointer (some ⟨w.heap.size + 1, 0, none⟩) := hc 7 49 rfl rfl
          have hk := Lib.hid (fun w1 (h : Below ω.heap.size ω w1) => hK (.agg (arrK .i64 16 (dgt X2))) w1 rfl h)
          clear hK hu hc
          have hl := rp_0 (hB.out.step hb)
          have hl1 := hl.1
          have hl2 := hl.2
          go_simp
          exact hk.out _ (Below.refl _ _)
        · refine fstep_val rfl rfl (calm_step rfl fun aa ω κ hb hu hc hK => ?_)
          have h48 : aa.tmps[48]?.getD undef = .agg (arrK .i64 16 (dgt Y1)) := hc 6 48 rfl rfl
          have h50 : aa.tmps[50]?.getD undef = .agg (arrK .i64 16 (dgt X2)) := hc 8 50 rfl rfl
          have hk := Lib.hid (fun w1 (h : Below ω.heap.size ω w1) => hK (.agg (arrK .i64 16 (dgt vs2))) w1 rfl h)
          clear hK hu hc
          go_simp
          go_at_call 25
          refine (kvs2.out _).mono ?_
          rintro e w1 ⟨rfl, hb1⟩
          exact hk.out _ hb1
        · refine fstep_val rfl rfl (calm_step rfl fun aa ω κ hb hu hc hK => ?_)
          have h46 : aa.tmps[46]?.getD undef = .agg (arrK .i64 16 (dgt vs1)) := hc 4 46 rfl rfl
          have h51 : aa.tmps[51]?.getD undef = .agg (arrK .i64 16 (dgt vs2)) := hc 9 51 rfl rfl
          have hk := Lib.hid (fun w1 (h : Below ω.heap.size ω w1) => hK (.agg (arrK .i64 16 (dgt vs))) w1 rfl h)
          clear hK hu hc
          go_simp
          go_at_call 21
          refine (kvs.out _).mono ?_
          rintro e w1 ⟨rfl, hb1⟩
          exact hk.out _ hb1
        · refine fstep_al (n := 16) rfl rfl fun aa ω κ hK => ?_
          have hk := Lib.hid hK
          clear hK
          go_simp
          exact hk.out _ _ hc0
        · refine fstep_st (j := 11) (n := 16) (d := 12) rfl rfl rfl rfl rfl hcvs.1 rfl rfl fun aa ω κ g hb hu hc hp hr hK => ?_
          have h52 : aa.tmps[52]?.getD undef = .agg (arrK .i64 16 (dgt vs)) := hc 10 52 rfl rfl
          have hk := Lib.hid hK
          clear hK hu hc
          have hcc := hcvs
          go_simp
          exact hk.out undef
        · intro a1 w1 G I
          have ha0 := hha0.out
          subst ha0
          have he := act_patch (n := 69) [false, false, false, false, false, false, false, false, false, false, false, false, true, false, false, false, false, false, false, false, false, false, false, false, false, false, false, false, false, false, false, false, false, false, false, false, false, false, false, false, false, false, true, true, true, true, true, true, true, true, true, true, true, false, false, false, false, false, false, false, false, false, false, false, false, false, false, false, false] rfl (by kernel_rfl) I.un I.sz I.df
          simp only [patch, cond_true, cond_false, Nat.reduceAdd] at he
          have hal12 := I.al 11 12 16 rfl rfl rfl
          replace hA := Lib.hid (hA.out.step I.bel)
          replace hB := Lib.hid (hB.out.step I.bel)
          replace hR := Lib.hid (row_below hR.out I.bel hR.out.lt)
          replace hL := Lib.hid (below_step I.bel hL.out (Nat.le_refl _))
          replace hX5 := Lib.hid (hX5.out.step I.bel)
          replace hX6 := Lib.hid (hX6.out.step I.bel)
          replace hX7 := Lib.hid (hX7.out.step I.bel)
          replace hX8 := Lib.hid (hX8.out.step I.bel)
          replace hX9 := Lib.hid (hX9.out.step I.bel)
          replace hX10 := Lib.hid (hX10.out.step I.bel)
          replace hX11 := Lib.hid (hX11.out.step I.bel)
          have hX12 := Lib.hid (show At w1 (G 11) .i64 16 (dgt vs) from ⟨(I.blk 11 16 rfl rfl).2, (I.row 12 11 rfl rfl).2.2⟩)
          clear kvs1 kvs2 kvs
          clear I hz0 hha0 e2 e3
          rw [he]
          clear he
          rw [hal12]
          clear hal12
          generalize a1.tmps[42]?.getD undef = x42 at *
          generalize a1.tmps[43]?.getD undef = x43 at *
          generalize a1.tmps[44]?.getD undef = x44 at *
          generalize a1.tmps[45]?.getD undef = x45 at *
          generalize a1.tmps[46]?.getD undef = x46 at *
          generalize a1.tmps[47]?.getD undef = x47 at *
          generalize a1.tmps[48]?.getD undef = x48 at *
          generalize a1.tmps[49]?.getD undef = x49 at *
          generalize a1.tmps[50]?.getD undef = x50 at *
          generalize a1.tmps[51]?.getD undef = x51 at *
          generalize a1.tmps[52]?.getD undef = x52 at *
          obtain ⟨g12, hgz⟩ : ∃ g, G 11 = g := ⟨_, rfl⟩
          rw [hgz] at hX12 ⊢
          clear hgz
          generalize w1 = W4 at *
          go_upto_region 5 with (fail)
          generalize ha0 : Act.mk _ _ = a0
          have e4 : a0.tmps[4]?.getD undef = .pointer (some ⟨w.heap.size + 1 + 1, 0, none⟩) := by rw [← ha0]; rfl
          have e5 : a0.tmps[5]?.getD undef = .pointer (some ⟨g5, 0, none⟩) := by rw [← ha0]; rfl
          have e6 : a0.tmps[6]?.getD undef = .pointer (some ⟨g6, 0, none⟩) := by rw [← ha0]; rfl
          have e7 : a0.tmps[7]?.getD undef = .pointer (some ⟨g7, 0, none⟩) := by rw [← ha0]; rfl
          have e10 : a0.tmps[10]?.getD undef = .pointer (some ⟨g10, 0, none⟩) := by rw [← ha0]; rfl
          have e11 : a0.tmps[11]?.getD undef = .pointer (some ⟨g11, 0, none⟩) := by rw [← ha0]; rfl
          have e12 : a0.tmps[12]?.getD undef = .pointer (some ⟨g12, 0, none⟩) := by rw [← ha0]; rfl
          have hz0 : a0.tmps.size = 69 := by rw [← ha0]; rfl
          have hha0 := Lib.hid ha0
          clear ha0
          refine wp_region_one (fun jx_ => match jx_ with | 0 => some (.agg (arrK .i64 16 (dgt va))) | 1 => some (.agg (arrK .i64 16 (dgt vf))) | 2 => some (.agg (arrK .i64 16 (dgt vu1))) | 3 => some (.agg (arrK .i64 16 (dgt vs))) | 4 => some (.agg (arrK .i64 16 (dgt r1))) | 5 => some (.agg (arrK .i64 16 (dgt va))) | 6 => some (.agg (arrK .i64 16 (dgt vg))) | 7 => some (.agg (arrK .i64 16 (dgt vu2))) | 8 => some (.agg (arrK .i64 16 (dgt vc))) | 9 => some (.agg (arrK .i64 16 (dgt vd))) | 10 => some (.agg (arrK .i64 16 (dgt vcd))) | 11 => some (.agg (arrK .i64 16 (dgt r2))) | 12 => some (.agg (arrK .i64 16 (dgt vf))) | 13 => some (.agg (arrK .i64 16 (dgt vg))) | 14 => some (.agg (arrK .i64 16 (dgt r3))) | 15 => some (.agg (arrK .i64 48 (cat3 (dgt r1) (dgt r2) (dgt r3)))) | _ => none) 16 ((w.heap.size + 1 + 1)) 48 (arrK .i64 48 (cat3 (dgt r1) (dgt r2) (dgt r3))) (by kernel_rfl) (by kernel_rfl) (by kernel_rfl) (slotsOk_of hz0 (by kernel_rfl)) (of_decide_eq_true (by kernel_rfl)) hR.out ⟨?_, ?_, ?_, ?_, ?_, ?_, ?_, ?_, ?_, ?_, ?_, ?_, ?_, ?_, ?_, ?_, ?_, trivial⟩ ?_
          · refine one_before (by decide) (by kernel_rfl) (calm_step rfl fun aa ω κ hb hu hc hK => ?_)
            have h5 : aa.tmps[5]?.getD undef = .pointer (some ⟨g5, 0, none⟩) := (hu 5 rfl).trans e5
            have hk := Lib.hid (fun w1 (h : Below ω.heap.size ω w1) => hK (.agg (arrK .i64 16 (dgt va))) w1 rfl h)
            clear hK hu hc
            have hr1 := (hX5.out.step hb).row
            have hr2 := (hX5.out.step hb).eq
            go_simp
            exact hk.out _ (Below.refl _ _)
          · refine one_before (by decide) (by kernel_rfl) (calm_step rfl fun aa ω κ hb hu hc hK => ?_)
            have h10 : aa.tmps[10]?.getD undef = .pointer (some ⟨g10, 0, none⟩) := (hu 10 rfl).trans e10
            have hk := Lib.hid (fun w1 (h : Below ω.heap.size ω w1) => hK (.agg (arrK .i64 16 (dgt vf))) w1 rfl h)
            clear hK hu hc
            have hr1 := (hX10.out.step hb).row
            have hr2 := (hX10.out.step hb).eq
            go_simp
            exact hk.out _ (Below.refl _ _)
          · refine one_before (by decide) (by kernel_rfl) (calm_step rfl fun aa ω κ hb hu hc hK => ?_)
            have h53 : aa.tmps[53]?.getD undef = .agg (arrK .i64 16 (dgt va)) := hc 0 53 rfl rfl
            have h54 : aa.tmps[54]?.getD undef = .agg (arrK .i64 16 (dgt vf)) := hc 1 54 rfl rfl
            have hk := Lib.hid (fun w1 (h : Below ω.heap.size ω w1) => hK (.agg (arrK .i64 16 (dgt vu1))) w1 rfl h)
            clear hK hu hc
            go_simp
            go_at_call 25
            refine (kvu1.out _).mono ?_
            rintro e w1 ⟨rfl, hb1⟩
            exact hk.out _ hb1
          · refine one_before (by decide) (by kernel_rfl) (calm_step rfl fun aa ω κ hb hu hc hK => ?_)
            have h12 : aa.tmps[12]?.getD undef = .pointer (some ⟨g12, 0, none⟩) := (hu 12 rfl).trans e12
            have hk := Lib.hid (fun w1 (h : Below ω.heap.size ω w1) => hK (.agg (arrK .i64 16 (dgt vs))) w1 rfl h)
            clear hK hu hc
            have hr1 := (hX12.out.step hb).row
            have hr2 := (hX12.out.step hb).eq
            go_simp
            exact hk.out _ (Below.refl _ _)
          · refine one_before (by decide) (by kernel_rfl) (calm_step rfl fun aa ω κ hb hu hc hK => ?_)
            have h55 : aa.tmps[55]?.getD undef = .agg (arrK .i64 16 (dgt vu1)) := hc 2 55 rfl rfl
            have h56 : aa.tmps[56]?.getD undef = .agg (arrK .i64 16 (dgt vs)) := hc 3 56 rfl rfl
            have hk := Lib.hid (fun w1 (h : Below ω.heap.size ω w1) => hK (.agg (arrK .i64 16 (dgt r1))) w1 rfl h)
            clear hK hu hc
            go_simp
            go_at_call 25
            refine (kr1.out _).mono ?_
            rintro e w1 ⟨rfl, hb1⟩
            exact hk.out _ hb1
          · refine one_before (by decide) (by kernel_rfl) (calm_step rfl fun aa ω κ hb hu hc hK => ?_)
            have h5 : aa.tmps[5]?.getD undef = .pointer (some ⟨g5, 0, none⟩) := (hu 5 rfl).trans e5
            have hk := Lib.hid (fun w1 (h : Below ω.heap.size ω w1) => hK (.agg (arrK .i64 16 (dgt va))) w1 rfl h)
            clear hK hu hc
            have hr1 := (hX5.out.step hb).row
            have hr2 := (hX5.out.step hb).eq
            go_simp
            exact hk.out _ (Below.refl _ _)
          · refine one_before (by decide) (by kernel_rfl) (calm_step rfl fun aa ω κ hb hu hc hK => ?_)
            have h11 : aa.tmps[11]?.getD undef = .pointer (some ⟨g11, 0, none⟩) := (hu 11 rfl).trans e11
            have hk := Lib.hid (fun w1 (h : Below ω.heap.size ω w1) => hK (.agg (arrK .i64 16 (dgt vg))) w1 rfl h)
            clear hK hu hc
            have hr1 := (hX11.out.step hb).row
            have hr2 := (hX11.out.step hb).eq
            go_simp
            exact hk.out _ (Below.refl _ _)
          · refine one_before (by decide) (by kernel_rfl) (calm_step rfl fun aa ω κ hb hu hc hK => ?_)
            have h58 : aa.tmps[58]?.getD undef = .agg (arrK .i64 16 (dgt va)) := hc 5 58 rfl rfl
            have h59 : aa.tmps[59]?.getD undef = .agg (arrK .i64 16 (dgt vg)) := hc 6 59 rfl rfl
            have hk := Lib.hid (fun w1 (h : Below ω.heap.size ω w1) => hK (.agg (arrK .i64 16 (dgt vu2))) w1 rfl h)
            clear hK hu hc
            go_simp
            go_at_call 25
            refine (kvu2.out _).mono ?_
            rintro e w1 ⟨rfl, hb1⟩
            exact hk.out _ hb1
          · refine one_before (by decide) (by kernel_rfl) (calm_step rfl fun aa ω κ hb hu hc hK => ?_)
            have h6 : aa.tmps[6]?.getD undef = .pointer (some ⟨g6, 0, none⟩) := (hu 6 rfl).trans e6
            have hk := Lib.hid (fun w1 (h : Below ω.heap.size ω w1) => hK (.agg (arrK .i64 16 (dgt vc))) w1 rfl h)
            clear hK hu hc
            have hr1 := (hX6.out.step hb).row
            have hr2 := (hX6.out.step hb).eq
            go_simp
            exact hk.out _ (Below.refl _ _)
          · refine one_before (by decide) (by kernel_rfl) (calm_step rfl fun aa ω κ hb hu hc hK => ?_)
            have h7 : aa.tmps[7]?.getD undef = .pointer (some ⟨g7, 0, none⟩) := (hu 7 rfl).trans e7
            have hk := Lib.hid (fun w1 (h : Below ω.heap.size ω w1) => hK (.agg (arrK .i64 16 (dgt vd))) w1 rfl h)
            clear hK hu hc
            have hr1 := (hX7.out.step hb).row
            have hr2 := (hX7.out.step hb).eq
            go_simp
            exact hk.out _ (Below.refl _ _)
          · refine one_before (by decide) (by kernel_rfl) (calm_step rfl fun aa ω κ hb hu hc hK => ?_)
            have h61 : aa.tmps[61]?.getD undef = .agg (arrK .i64 16 (dgt vc)) := hc 8 61 rfl rfl
            have h62 : aa.tmps[62]?.getD undef = .agg (arrK .i64 16 (dgt vd)) := hc 9 62 rfl rfl
            have hk := Lib.hid (fun w1 (h : Below ω.heap.size ω w1) => hK (.agg (arrK .i64 16 (dgt vcd))) w1 rfl h)
            clear hK hu hc
            go_simp
            go_at_call 21
            refine (kvcd.out _).mono ?_
            rintro e w1 ⟨rfl, hb1⟩
            exact hk.out _ hb1
          · refine one_before (by decide) (by kernel_rfl) (calm_step rfl fun aa ω κ hb hu hc hK => ?_)
            have h60 : aa.tmps[60]?.getD undef = .agg (arrK .i64 16 (dgt vu2)) := hc 7 60 rfl rfl
            have h63 : aa.tmps[63]?.getD undef = .agg (arrK .i64 16 (dgt vcd)) := hc 10 63 rfl rfl
            have hk := Lib.hid (fun w1 (h : Below ω.heap.size ω w1) => hK (.agg (arrK .i64 16 (dgt r2))) w1 rfl h)
            clear hK hu hc
            go_simp
            go_at_call 25
            refine (kr2.out _).mono ?_
            rintro e w1 ⟨rfl, hb1⟩
            exact hk.out _ hb1
          · refine one_before (by decide) (by kernel_rfl) (calm_step rfl fun aa ω κ hb hu hc hK => ?_)
            have h10 : aa.tmps[10]?.getD undef = .pointer (some ⟨g10, 0, none⟩) := (hu 10 rfl).trans e10
            have hk := Lib.hid (fun w1 (h : Below ω.heap.size ω w1) => hK (.agg (arrK .i64 16 (dgt vf))) w1 rfl h)
            clear hK hu hc
            have hr1 := (hX10.out.step hb).row
            have hr2 := (hX10.out.step hb).eq
            go_simp
            exact hk.out _ (Below.refl _ _)
          · refine one_before (by decide) (by kernel_rfl) (calm_step rfl fun aa ω κ hb hu hc hK => ?_)
            have h11 : aa.tmps[11]?.getD undef = .pointer (some ⟨g11, 0, none⟩) := (hu 11 rfl).trans e11
            have hk := Lib.hid (fun w1 (h : Below ω.heap.size ω w1) => hK (.agg (arrK .i64 16 (dgt vg))) w1 rfl h)
            clear hK hu hc
            have hr1 := (hX11.out.step hb).row
            have hr2 := (hX11.out.step hb).eq
            go_simp
            exact hk.out _ (Below.refl _ _)
          · refine one_before (by decide) (by kernel_rfl) (calm_step rfl fun aa ω κ hb hu hc hK => ?_)
            have h65 : aa.tmps[65]?.getD undef = .agg (arrK .i64 16 (dgt vf)) := hc 12 65 rfl rfl
            have h66 : aa.tmps[66]?.getD undef = .agg (arrK .i64 16 (dgt vg)) := hc 13 66 rfl rfl
            have hk := Lib.hid (fun w1 (h : Below ω.heap.size ω w1) => hK (.agg (arrK .i64 16 (dgt r3))) w1 rfl h)
            clear hK hu hc
            go_simp
            go_at_call 25
            refine (kr3.out _).mono ?_
            rintro e w1 ⟨rfl, hb1⟩
            exact hk.out _ hb1
          · refine one_before (by decide) (by kernel_rfl) (calm_step rfl fun aa ω κ hb hu hc hK => ?_)
            have h57 : aa.tmps[57]?.getD undef = .agg (arrK .i64 16 (dgt r1)) := hc 4 57 rfl rfl
            have h64 : aa.tmps[64]?.getD undef = .agg (arrK .i64 16 (dgt r2)) := hc 11 64 rfl rfl
            have h67 : aa.tmps[67]?.getD undef = .agg (arrK .i64 16 (dgt r3)) := hc 14 67 rfl rfl
            have hk := Lib.hid (fun w1 (h : Below ω.heap.size ω w1) => hK (.agg (arrK .i64 48 (cat3 (dgt r1) (dgt r2) (dgt r3)))) w1 rfl h)
            clear hK hu hc
            exact wp_bldC (v0 := .agg (arrK .i64 16 (dgt r1))) (v1 := .agg (arrK .i64 16 (dgt r2))) (v2 := .agg (arrK .i64 16 (dgt r3))) rfl (by go_simp) (by go_simp) (by go_simp) (build_rp _ _ _ _) (hk.out _ (Below.refl _ _))
          · refine one_q (one_write rfl rfl fun aa ω κ hb hu hc hr hK => ?_)
            have h4 : aa.tmps[4]?.getD undef = .pointer (some ⟨w.heap.size + 1 + 1, 0, none⟩) := (hu 4 rfl).trans e4
            have h68 : aa.tmps[68]?.getD undef = .agg (arrK .i64 48 (cat3 (dgt r1) (dgt r2) (dgt r3))) := hc 15 68 rfl rfl
            have hk := Lib.hid hK
            clear hK hu hc
            have hcc := hcr
            go_simp
            exact hk.out undef
          · intro a1 w1 hb1 hu1 hsz1 hdf1 hv1
            have ha0 := hha0.out
            subst ha0
            have he := act_patch (n := 69) [false, false, false, false, false, false, false, false, false, false, false, false, false, false, false, false, false, false, false, false, false, false, false, false, false, false, false, false, false, false, false, false, false, false, false, false, false, false, false, false, false, false, false, false, false, false, false, false, false, false, false, false, false, true, true, true, true, true, true, true, true, true, true, true, true, true, true, true, true] rfl (by kernel_rfl) hu1 hsz1 hdf1
            simp only [patch, cond_true, cond_false, Nat.reduceAdd] at he
            have hXz := (At.put (k := .i64) (f := (cat3 (dgt r1) (dgt r2) (dgt r3))) hR.out).below hb1 (by simpa using hR.out.lt)
            have hLz := Lib.hid (Below.trans (below_setRow (c := arrK .i64 48 (cat3 (dgt r1) (dgt r2) (dgt r3))) hL.out (by omega)) (hb1.mono (by simpa using hL.out.size)))
            clear hR hL hA hB hX5 hX6 hX7 hX8 hX9 hX10 hX11 hX12 kvu1 kr1 kvu2 kvcd kr2 kr3
            clear hb1 hu1 hsz1 hdf1 hv1 hz0 hha0 e4 e5 e6 e7 e10 e11 e12
            rw [he]
            clear he
            generalize a1.tmps[53]?.getD undef = x53 at *
            generalize a1.tmps[54]?.getD undef = x54 at *
            generalize a1.tmps[55]?.getD undef = x55 at *
            generalize a1.tmps[56]?.getD undef = x56 at *
            generalize a1.tmps[57]?.getD undef = x57 at *
            generalize a1.tmps[58]?.getD undef = x58 at *
            generalize a1.tmps[59]?.getD undef = x59 at *
            generalize a1.tmps[60]?.getD undef = x60 at *
            generalize a1.tmps[61]?.getD undef = x61 at *
            generalize a1.tmps[62]?.getD undef = x62 at *
            generalize a1.tmps[63]?.getD undef = x63 at *
            generalize a1.tmps[64]?.getD undef = x64 at *
            generalize a1.tmps[65]?.getD undef = x65 at *
            generalize a1.tmps[66]?.getD undef = x66 at *
            generalize a1.tmps[67]?.getD undef = x67 at *
            generalize a1.tmps[68]?.getD undef = x68 at *
            go_wp2_with fail
            refine ret_row (p := 4) (ty := 48) (g := (w.heap.size + 1 + 1)) rfl Try.underlying48 rfl (by kernel_rfl) rfl hXz.row rfl ?_
            rw [hXz.eq]
            exact ⟨rfl, hLz.out⟩
theorem rp_PlusQ (X1 Y1 Z1 X2 Y2 Z2 : Nat) (w : World) (hX1 : X1 < 2 ^ 256) (hY1 : Y1 < 2 ^ 256) (hZ1 : Z1 < 2 ^ 256) (hX2 : X2 < 2 ^ 256) (hY2 : Y2 < 2 ^ 256) (hZ2 : Z2 < 2 ^ 256) (r : Nat × Nat × Nat) (hr : rplus X1 Y1 Z1 X2 Y2 Z2 = r) :
    Calls Try.prog 40 #[rpV X1 Y1 Z1, rpV X2 Y2 Z2] w fun e w' => e = .returned (rpV r.1 r.2.1 r.2.2) ∧ Below w.heap.size w w' := by
  subst hr
  exact rp_Plus _ _ _ _ _ _ _ _ _ _ _ _ _ _ _ _ _ _ _ _ _ _ _ w hX1 hY1 hZ1 hX2 hY2 hZ2 rfl rfl rfl rfl rfl rfl rfl rfl rfl rfl rfl rfl rfl rfl rfl rfl rfl
theorem rplus_lt (X1 Y1 Z1 X2 Y2 Z2 : Nat) (r : Nat × Nat × Nat) (hr : rplus X1 Y1 Z1 X2 Y2 Z2 = r) : r.1 < 2 ^ 256 ∧ r.2.1 < 2 ^ 256 ∧ r.2.2 < 2 ^ 256 := by
  subst hr
  exact ⟨low_lt, low_lt, low_lt⟩
theorem dgt_inj {a b : Nat} (ha : a < 2 ^ 256) (hb : b < 2 ^ 256) : (∀ i < 16, dgt a i = dgt b i) ↔ a = b := by
  refine ⟨fun h => ?_, fun h _ _ => by rw [h]⟩
  have := dval_congr h
  rwa [dval_dgt, dval_dgt, p16, Nat.mod_eq_of_lt ha, Nat.mod_eq_of_lt hb] at this
theorem eqlFe {a b : Nat} (ha : a < 2 ^ 256) (hb : b < 2 ^ 256) {r : Bool} (h : decide (a = b) = r) (W : World) : (binOp .eql 26 (.agg (arrK .i64 16 (dgt a))) (.agg (arrK .i64 16 (dgt b)))).run Try.prog W = .ok (.bool r) W := by
  rw [run_eql_arrK Try.underlying26 Try.underlying3 (by kernel_rfl), ← h]
  congr 2
  exact decide_eq_decide.2 (dgt_inj ha hb)
theorem ref_On (x y : Nat) (w : World) (hx : x < 2 ^ 256) (hy : y < 2 ^ 256) : Calls Try.prog 29 #[ptV x y] w fun e w' => e = .returned (.bool (onR x y)) ∧ Below w.heap.size w w' := by
  have hdN := dN_lt
  have h1l : 1 < 2 ^ 256 := by decide +kernel
  have kFx := Lib.hid (fun V => ref_Field x V hx)
  have kFy := Lib.hid (fun V => ref_Field y V hy)
  have kNx := Lib.hid (fun V => fe_Num (x % fP) V low_lt)
  have kNy := Lib.hid (fun V => fe_Num (y % fP) V low_lt)
  have h1 := Lib.hid (fun V => ref_small 1 V (by omega))
  have hqx := Lib.hid (fun (r : Bool) (h : decide (x % fP = x) = !r) V => neqOf low_lt hx h V)
  have hqy := Lib.hid (fun (r : Bool) (h : decide (y % fP = y) = !r) V => neqOf low_lt hy h V)
  have lpx : x % fP < 2 ^ 256 := low_lt
  have lpy : y % fP < 2 ^ 256 := low_lt
  unfold onR
  obtain ⟨px, hpx⟩ : ∃ d, x % fP = d := ⟨_, rfl⟩
  obtain ⟨py, hpy⟩ : ∃ d, y % fP = d := ⟨_, rfl⟩
  rw [hpx] at kFx kNx hqx lpx ⊢
  rw [hpy] at kFy kNy hqy lpy ⊢
  obtain ⟨xx, hxx⟩ : ∃ v, px * px % fP = v := ⟨_, rfl⟩
  rw [hxx]
  have lxx : xx < 2 ^ 256 := hxx ▸ low_lt
  obtain ⟨yy, hyy⟩ : ∃ v, py * py % fP = v := ⟨_, rfl⟩
  rw [hyy]
  have lyy : yy < 2 ^ 256 := hyy ▸ low_lt
  obtain ⟨p1, hp1⟩ : ∃ v, (1 + xx) % fP = v := ⟨_, rfl⟩
  rw [hp1]
  have lp1 : p1 < 2 ^ 256 := hp1 ▸ low_lt
  obtain ⟨q1, hq1⟩ : ∃ v, dN * xx % fP = v := ⟨_, rfl⟩
  rw [hq1]
  have lq1 : q1 < 2 ^ 256 := hq1 ▸ low_lt
  obtain ⟨q2, hq2⟩ : ∃ v, q1 * yy % fP = v := ⟨_, rfl⟩
  rw [hq2]
  have lq2 : q2 < 2 ^ 256 := hq2 ▸ low_lt
  obtain ⟨sm, hsm⟩ : ∃ v, (p1 + q2) % fP = v := ⟨_, rfl⟩
  rw [hsm]
  have lsm : sm < 2 ^ 256 := hsm ▸ low_lt
  have kxx := Lib.hid (fun V => fe_By px px V lpx lpx)
  rw [hxx] at kxx
  have kyy := Lib.hid (fun V => fe_By py py V lpy lpy)
  rw [hyy] at kyy
  have kp1 := Lib.hid (fun V => fe_Plus 1 xx V h1l lxx)
  rw [hp1] at kp1
  have kq1 := Lib.hid (fun V => fe_By dN xx V hdN lxx)
  rw [hq1] at kq1
  have kq2 := Lib.hid (fun V => fe_By q1 yy V lq1 lyy)
  rw [hq2] at kq2
  have ksm := Lib.hid (fun V => fe_Plus p1 q2 V lp1 lq2)
  rw [hsm] at ksm
  have hqe := Lib.hid (fun (r : Bool) (h : decide (yy = sm) = r) V => eqlFe lyy lsm h V)
  have kd := Lib.hid (fun V => ref_dOf V)
  obtain ⟨dn, hdn⟩ : ∃ d, dN = d := ⟨_, rfl⟩
  rw [hdn] at kd kq1
  obtain ⟨R, hRR'⟩ : ∃ R : Bool, (decide (px = x) && decide (py = y) && decide (yy = sm)) = R := ⟨_, rfl⟩
  rw [hRR']
  have hRR := Lib.hid hRR'
  clear hRR' hdn hdN hpx hpy hx hy h1l lpx lpy hxx lxx hyy lyy hp1 lp1 hq1 lq1 hq2 lq2 hsm lsm
  unfold numV feV at kFx kFy kNx kNy
  unfold feV at h1 kd kxx kyy kp1 kq1 kq2 ksm
  rw [show ((1 : Nat) : Int) = 1 from rfl] at h1
  unfold ptV
  have hcpx := arrK_cells .i64 16 (dgt px)
  have hcpy := arrK_cells .i64 16 (dgt py)
  have hcxx := arrK_cells .i64 16 (dgt xx)
  have hcyy := arrK_cells .i64 16 (dgt yy)
  have hc0 := arrK_cells .i64 16 fun _ => 0
  have hL0 : Below w.heap.size w (w.alloc (Obj.cells (arrK .u64 8 (cat2 (wd x) (wd y))) 42)) := by go_grown
  have hA0 : At (w.alloc (Obj.cells (arrK .u64 8 (cat2 (wd x) (wd y))) 42)) w.heap.size .u64 8 (cat2 (wd x) (wd y)) := At.new _ rfl
  have hL := Lib.hid hL0
  have hA := Lib.hid hA0
  clear hL0 hA0
  go_enter Try.func29, Try.ntmps29
  go_upto_region 1 with (fail)
  generalize w.alloc _ = W0 at *
  generalize ha0 : Act.mk _ _ = a0
  have e1 : a0.tmps[1]?.getD undef = .pointer (some ⟨w.heap.size, 0, none⟩) := by rw [← ha0]; rfl
  have hz0 : a0.tmps.size = 42 := by rw [← ha0]; rfl
  have hha0 := Lib.hid ha0
  clear ha0
  refine wp_region_fresh ⟨fun jx_ => match jx_ with | 0 => some (.pointer (some ⟨w.heap.size, 0, none⟩)) | 1 => some (.agg (arrK .u64 4 (wd x))) | 2 => some (.agg (arrK .i64 16 (dgt px))) | 3 => some (.pointer (some ⟨w.heap.size, 4, none⟩)) | 4 => some (.agg (arrK .u64 4 (wd y))) | 5 => some (.agg (arrK .i64 16 (dgt py))) | _ => none, fun jx_ => match jx_ with | 6 => some 16 | 7 => some 16 | _ => none, fun jx_ => match jx_ with | 8 => some 6 | 9 => some 7 | _ => none, fun jx_ => match jx_ with | 8 => arrK .i64 16 (dgt px) | 9 => arrK .i64 16 (dgt py) | _ => #[]⟩ (by kernel_rfl) (by kernel_rfl) (by kernel_rfl) (slotsOk_of hz0 (by kernel_rfl)) rfl ⟨?_, ?_, ?_, ?_, ?_, ?_, ?_, ?_, ?_, ?_, trivial⟩ ?_
  · refine fstep_val rfl rfl (calm_step rfl fun aa ω κ hb hu hc hK => ?_)
    have h1 : aa.tmps[1]?.getD undef = .pointer (some ⟨w.heap.size, 0, none⟩) := (hu 1 rfl).trans e1
    have hk := Lib.hid (fun w1 (h : Below ω.heap.size ω w1) => hK (.pointer (some ⟨w.heap.size, 0, none⟩)) w1 rfl h)
    clear hK hu hc
    go_simp
    exact hk.out _ (Below.refl _ _)
  · refine fstep_val rfl rfl (calm_step rfl fun aa ω κ hb hu hc hK => ?_)
    have h7 : aa.tmps[7]?.getD undef = .pointer (some ⟨w.heap.size, 0, none⟩) := hc 0 7 rfl rfl
    have hk := Lib.hid (fun w1 (h : Below ω.heap.size ω w1) => hK (.agg (arrK .u64 4 (wd x))) w1 rfl h)
    clear hK hu hc
    have hl := pt_0 (hA.out.step hb)
    have hl1 := hl.1
    have hl2 := hl.2
    go_simp
    exact hk.out _ (Below.refl _ _)
  · refine fstep_val rfl rfl (calm_step rfl fun aa ω κ hb hu hc hK => ?_)
    have h8 : aa.tmps[8]?.getD undef = .agg (arrK .u64 4 (wd x)) := hc 1 8 rfl rfl
    have hk := Lib.hid (fun w1 (h : Below ω.heap.size ω w1) => hK (.agg (arrK .i64 16 (dgt px))) w1 rfl h)
    clear hK hu hc
    go_simp
    go_at_call 12
    refine (kFx.out _).mono ?_
    rintro e w1 ⟨rfl, hb1⟩
    exact hk.out _ hb1
  · refine fstep_val rfl rfl (calm_step rfl fun aa ω κ hb hu hc hK => ?_)
    have h1 : aa.tmps[1]?.getD undef = .pointer (some ⟨w.heap.size, 0, none⟩) := (hu 1 rfl).trans e1
    have hk := Lib.hid (fun w1 (h : Below ω.heap.size ω w1) => hK (.pointer (some ⟨w.heap.size, 4, none⟩)) w1 rfl h)
    clear hK hu hc
    go_simp
    exact hk.out _ (Below.refl _ _)
  · refine fstep_val rfl rfl (calm_step rfl fun aa ω κ hb hu hc hK => ?_)
    have h10 : aa.tmps[10]?.getD undef = .pointer (some ⟨w.heap.size, 4, none⟩) := hc 3 10 rfl rfl
    have hk := Lib.hid (fun w1 (h : Below ω.heap.size ω w1) => hK (.agg (arrK .u64 4 (wd y))) w1 rfl h)
    clear hK hu hc
    have hl := pt_1 (hA.out.step hb)
    have hl1 := hl.1
    have hl2 := hl.2
    go_simp
    exact hk.out _ (Below.refl _ _)
  · refine fstep_val rfl rfl (calm_step rfl fun aa ω κ hb hu hc hK => ?_)
    have h11 : aa.tmps[11]?.getD undef = .agg (arrK .u64 4 (wd y)) := hc 4 11 rfl rfl
    have hk := Lib.hid (fun w1 (h : Below ω.heap.size ω w1) => hK (.agg (arrK .i64 16 (dgt py))) w1 rfl h)
    clear hK hu hc
    go_simp
    go_at_call 12
    refine (kFy.out _).mono ?_
    rintro e w1 ⟨rfl, hb1⟩
    exact hk.out _ hb1
  · refine fstep_al (n := 16) rfl rfl fun aa ω κ hK => ?_
    have hk := Lib.hid hK
    clear hK
    go_simp
    exact hk.out _ _ hc0
  · refine fstep_al (n := 16) rfl rfl fun aa ω κ hK => ?_
    have hk := Lib.hid hK
    clear hK
    go_simp
    exact hk.out _ _ hc0
  · refine fstep_st (j := 6) (n := 16) (d := 3) rfl rfl rfl rfl rfl hcpx.1 rfl rfl fun aa ω κ g hb hu hc hp hr hK => ?_
    have h9 : aa.tmps[9]?.getD undef = .agg (arrK .i64 16 (dgt px)) := hc 2 9 rfl rfl
    have hk := Lib.hid hK
    clear hK hu hc
    have hcc := hcpx
    go_simp
    exact hk.out undef
  · refine fstep_st (j := 7) (n := 16) (d := 4) rfl rfl rfl rfl rfl hcpy.1 rfl rfl fun aa ω κ g hb hu hc hp hr hK => ?_
    have h12 : aa.tmps[12]?.getD undef = .agg (arrK .i64 16 (dgt py)) := hc 5 12 rfl rfl
    have hk := Lib.hid hK
    clear hK hu hc
    have hcc := hcpy
    go_simp
    exact hk.out undef
  · intro a1 w1 G I
    have ha0 := hha0.out
    subst ha0
    have he := act_patch (n := 42) [false, false, false, true, true, false, false, true, true, true, true, true, true, false, false, false, false, false, false, false, false, false, false, false, false, false, false, false, false, false, false, false, false, false, false, false, false, false, false, false, false, false] rfl (by kernel_rfl) I.un I.sz I.df
    simp only [patch, cond_true, cond_false, Nat.reduceAdd] at he
    have hal3 := I.al 6 3 16 rfl rfl rfl
    have hal4 := I.al 7 4 16 rfl rfl rfl
    replace hA := Lib.hid (hA.out.step I.bel)
    replace hL := Lib.hid (below_step I.bel hL.out (Nat.le_refl _))
    have hX3 := Lib.hid (show At w1 (G 6) .i64 16 (dgt px) from ⟨(I.blk 6 16 rfl rfl).2, (I.row 8 6 rfl rfl).2.2⟩)
    have hX4 := Lib.hid (show At w1 (G 7) .i64 16 (dgt py) from ⟨(I.blk 7 16 rfl rfl).2, (I.row 9 7 rfl rfl).2.2⟩)
    clear kFx kFy
    clear I hz0 hha0 e1
    rw [he]
    clear he
    rw [hal3]
    rw [hal4]
    clear hal3 hal4
    generalize a1.tmps[7]?.getD undef = x7 at *
    generalize a1.tmps[8]?.getD undef = x8 at *
    generalize a1.tmps[9]?.getD undef = x9 at *
    generalize a1.tmps[10]?.getD undef = x10 at *
    generalize a1.tmps[11]?.getD undef = x11 at *
    generalize a1.tmps[12]?.getD undef = x12 at *
    obtain ⟨g3, hgz⟩ : ∃ g, G 6 = g := ⟨_, rfl⟩
    rw [hgz] at hX3 ⊢
    clear hgz
    obtain ⟨g4, hgz⟩ : ∃ g, G 7 = g := ⟨_, rfl⟩
    rw [hgz] at hX4 ⊢
    clear hgz
    generalize w1 = W1 at *
    go_upto_region 2 with (fail)
    by_cases hex : px = x
    · have hdx : decide (px = x) = true := decide_eq_true hex
      replace hqx := Lib.hid (hqx.out false hdx)
      replace hdx := Lib.hid hdx
      clear hex
      by_cases hey : py = y
      · have hdy : decide (py = y) = true := decide_eq_true hey
        replace hqy := Lib.hid (hqy.out false hdy)
        replace hdy := Lib.hid hdy
        clear hey
        generalize ha0 : Act.mk _ _ = a0
        have e1 : a0.tmps[1]?.getD undef = .pointer (some ⟨w.heap.size, 0, none⟩) := by rw [← ha0]; rfl
        have e3 : a0.tmps[3]?.getD undef = .pointer (some ⟨g3, 0, none⟩) := by rw [← ha0]; rfl
        have e4 : a0.tmps[4]?.getD undef = .pointer (some ⟨g4, 0, none⟩) := by rw [← ha0]; rfl
        have hz0 : a0.tmps.size = 42 := by rw [← ha0]; rfl
        have hha0 := Lib.hid ha0
        clear ha0
        refine wp_region_calm (fun jx_ => match jx_ with | 0 => SRel.is (.agg (arrK .i64 16 (dgt px))) | 1 => SRel.is (.agg (arrK .u64 4 (wd px))) | 2 => SRel.is (.pointer (some ⟨w.heap.size, 0, none⟩)) | 3 => SRel.is (.agg (arrK .u64 4 (wd x))) | 4 => SRel.is (.bool false) | 5 => SRel.is (.bool false) | 6 => SRel.is (.agg (arrK .i64 16 (dgt py))) | 7 => SRel.is (.agg (arrK .u64 4 (wd py))) | 8 => SRel.is (.pointer (some ⟨w.heap.size, 4, none⟩)) | 9 => SRel.is (.agg (arrK .u64 4 (wd y))) | 10 => SRel.is (.bool false) | 11 => SRel.is (.bool false) | _ => SRel.any) (by kernel_rfl) (by kernel_rfl) (by kernel_rfl) (slotsOk_of hz0 (by kernel_rfl)) ⟨?_, ?_, ?_, ?_, ?_, ?_, ?_, ?_, ?_, ?_, ?_, ?_, trivial⟩ ?_
        · refine calm_step rfl fun a ω κ hb hu hc hK => ?_
          have h3 : a.tmps[3]?.getD undef = .pointer (some ⟨g3, 0, none⟩) := (hu 3 rfl).trans e3
          have hk := Lib.hid (fun w1 (h : Below ω.heap.size ω w1) => hK (.agg (arrK .i64 16 (dgt px))) w1 rfl h)
          clear hK hu hc
          have hr1 := (hX3.out.step hb).row
          have hr2 := (hX3.out.step hb).eq
          go_simp
          exact hk.out _ (Below.refl _ _)
        · refine calm_step rfl fun a ω κ hb hu hc hK => ?_
          have h13 : a.tmps[13]?.getD undef = .agg (arrK .i64 16 (dgt px)) := hc 0 13 rfl rfl
          have hk := Lib.hid (fun w1 (h : Below ω.heap.size ω w1) => hK (.agg (arrK .u64 4 (wd px))) w1 rfl h)
          clear hK hu hc
          go_simp
          go_at_call 19
          refine (kNx.out _).mono ?_
          rintro e w1 ⟨rfl, hb1⟩
          exact hk.out _ hb1
        · refine calm_step rfl fun a ω κ hb hu hc hK => ?_
          have h1 : a.tmps[1]?.getD undef = .pointer (some ⟨w.heap.size, 0, none⟩) := (hu 1 rfl).trans e1
          have hk := Lib.hid (fun w1 (h : Below ω.heap.size ω w1) => hK (.pointer (some ⟨w.heap.size, 0, none⟩)) w1 rfl h)
          clear hK hu hc
          go_simp
          exact hk.out _ (Below.refl _ _)
        · refine calm_step rfl fun a ω κ hb hu hc hK => ?_
          have h15 : a.tmps[15]?.getD undef = .pointer (some ⟨w.heap.size, 0, none⟩) := hc 2 15 rfl rfl
          have hk := Lib.hid (fun w1 (h : Below ω.heap.size ω w1) => hK (.agg (arrK .u64 4 (wd x))) w1 rfl h)
          clear hK hu hc
          have hl := pt_0 (hA.out.step hb)
          have hl1 := hl.1
          have hl2 := hl.2
          go_simp
          exact hk.out _ (Below.refl _ _)
        · refine calm_step rfl fun a ω κ hb hu hc hK => ?_
          have h14 : a.tmps[14]?.getD undef = .agg (arrK .u64 4 (wd px)) := hc 1 14 rfl rfl
          have h16 : a.tmps[16]?.getD undef = .agg (arrK .u64 4 (wd x)) := hc 3 16 rfl rfl
          have hk := Lib.hid (fun w1 (h : Below ω.heap.size ω w1) => hK (.bool false) w1 rfl h)
          clear hK hu hc
          exact wp_eqlA (v := arrK .u64 4 (wd px)) (u := arrK .u64 4 (wd x)) (.inl rfl) (by kernel_rfl) (by go_simp) (by go_simp) (hqx.out _) (hk.out _ (Below.refl _ _))
        · refine calm_step rfl fun a ω κ hb hu hc hK => ?_
          have h17 : a.tmps[17]?.getD undef = .bool false := hc 4 17 rfl rfl
          have hk := Lib.hid (fun w1 (h : Below ω.heap.size ω w1) => hK (.bool false) w1 rfl h)
          clear hK hu hc
          go_simp
          exact hk.out _ (Below.refl _ _)
        · refine calm_step_guard (g := 5) (b := false) (d := 18) rfl rfl (fun a w hc => hc 5 18 rfl rfl) fun a ω κ hb hu hc hK => ?_
          have h4 : a.tmps[4]?.getD undef = .pointer (some ⟨g4, 0, none⟩) := (hu 4 rfl).trans e4
          have hk := Lib.hid (fun w1 (h : Below ω.heap.size ω w1) => hK (.agg (arrK .i64 16 (dgt py))) w1 rfl h)
          clear hK hu hc
          have hr1 := (hX4.out.step hb).row
          have hr2 := (hX4.out.step hb).eq
          go_simp
          exact hk.out _ (Below.refl _ _)
        · refine calm_step_guard (g := 5) (b := false) (d := 18) rfl rfl (fun a w hc => hc 5 18 rfl rfl) fun a ω κ hb hu hc hK => ?_
          have h19 : a.tmps[19]?.getD undef = .agg (arrK .i64 16 (dgt py)) := hc 6 19 rfl rfl
          have hk := Lib.hid (fun w1 (h : Below ω.heap.size ω w1) => hK (.agg (arrK .u64 4 (wd py))) w1 rfl h)
          clear hK hu hc
          go_simp
          go_at_call 19
          refine (kNy.out _).mono ?_
          rintro e w1 ⟨rfl, hb1⟩
          exact hk.out _ hb1
        · refine calm_step_guard (g := 5) (b := false) (d := 18) rfl rfl (fun a w hc => hc 5 18 rfl rfl) fun a ω κ hb hu hc hK => ?_
          have h1 : a.tmps[1]?.getD undef = .pointer (some ⟨w.heap.size, 0, none⟩) := (hu 1 rfl).trans e1
          have hk := Lib.hid (fun w1 (h : Below ω.heap.size ω w1) => hK (.pointer (some ⟨w.heap.size, 4, none⟩)) w1 rfl h)
          clear hK hu hc
          go_simp
          exact hk.out _ (Below.refl _ _)
        · refine calm_step_guard (g := 5) (b := false) (d := 18) rfl rfl (fun a w hc => hc 5 18 rfl rfl) fun a ω κ hb hu hc hK => ?_
          have h21 : a.tmps[21]?.getD undef = .pointer (some ⟨w.heap.size, 4, none⟩) := hc 8 21 rfl rfl
          have hk := Lib.hid (fun w1 (h : Below ω.heap.size ω w1) => hK (.agg (arrK .u64 4 (wd y))) w1 rfl h)
          clear hK hu hc
          have hl := pt_1 (hA.out.step hb)
          have hl1 := hl.1
          have hl2 := hl.2
          go_simp
          exact hk.out _ (Below.refl _ _)
        · refine calm_step_guard (g := 5) (b := false) (d := 18) rfl rfl (fun a w hc => hc 5 18 rfl rfl) fun a ω κ hb hu hc hK => ?_
          have h20 : a.tmps[20]?.getD undef = .agg (arrK .u64 4 (wd py)) := hc 7 20 rfl rfl
          have h22 : a.tmps[22]?.getD undef = .agg (arrK .u64 4 (wd y)) := hc 9 22 rfl rfl
          have hk := Lib.hid (fun w1 (h : Below ω.heap.size ω w1) => hK (.bool false) w1 rfl h)
          clear hK hu hc
          exact wp_eqlA (v := arrK .u64 4 (wd py)) (u := arrK .u64 4 (wd y)) (.inl rfl) (by kernel_rfl) (by go_simp) (by go_simp) (hqy.out _) (hk.out _ (Below.refl _ _))
        · refine calm_step rfl fun a ω κ hb hu hc hK => ?_
          have h18 : a.tmps[18]?.getD undef = .bool false := hc 5 18 rfl rfl
          have h23 : a.tmps[23]?.getD undef = .bool false := hc 10 23 rfl rfl
          have hk := Lib.hid (fun w1 (h : Below ω.heap.size ω w1) => hK (.bool false) w1 rfl h)
          clear hK hu hc
          go_simp
          exact hk.out _ (Below.refl _ _)
        · intro a1 w1 hb1 hu1 hsz1 hdf1 hc1
          have ha0 := hha0.out
          subst ha0
          have he := act_patch (n := 42) [false, false, false, false, false, false, false, false, false, false, false, false, false, true, true, true, true, true, true, true, true, true, true, true, true, false, false, false, false, false, false, false, false, false, false, false, false, false, false, false, false, false] rfl (by kernel_rfl) hu1 hsz1 hdf1
          simp only [patch, cond_true, cond_false, Nat.reduceAdd] at he
          have hkn24 : a1.tmps[24]?.getD undef = .bool false := hc1 11 24 rfl
          replace hA := Lib.hid (hA.out.step hb1)
          replace hL := Lib.hid (below_step hb1 hL.out (Nat.le_refl _))
          replace hX3 := Lib.hid (hX3.out.step hb1)
          replace hX4 := Lib.hid (hX4.out.step hb1)
          clear kNx kNy hqx hqy
          clear hb1 hu1 hsz1 hdf1 hc1 hz0 hha0 e1 e3 e4
          rw [he]
          clear he
          rw [hkn24]
          clear hkn24
          generalize a1.tmps[13]?.getD undef = x13 at *
          generalize a1.tmps[14]?.getD undef = x14 at *
          generalize a1.tmps[15]?.getD undef = x15 at *
          generalize a1.tmps[16]?.getD undef = x16 at *
          generalize a1.tmps[17]?.getD undef = x17 at *
          generalize a1.tmps[18]?.getD undef = x18 at *
          generalize a1.tmps[19]?.getD undef = x19 at *
          generalize a1.tmps[20]?.getD undef = x20 at *
          generalize a1.tmps[21]?.getD undef = x21 at *
          generalize a1.tmps[22]?.getD undef = x22 at *
          generalize a1.tmps[23]?.getD undef = x23 at *
          go_upto_region 4 with (fail)
          generalize ha0 : Act.mk _ _ = a0
          have e3 : a0.tmps[3]?.getD undef = .pointer (some ⟨g3, 0, none⟩) := by rw [← ha0]; rfl
          have e4 : a0.tmps[4]?.getD undef = .pointer (some ⟨g4, 0, none⟩) := by rw [← ha0]; rfl
          have hz0 : a0.tmps.size = 42 := by rw [← ha0]; rfl
          have hha0 := Lib.hid ha0
          clear ha0
          refine wp_region_fresh ⟨fun jx_ => match jx_ with | 0 => some (.agg (arrK .i64 16 (dgt px))) | 1 => some (.agg (arrK .i64 16 (dgt px))) | 2 => some (.agg (arrK .i64 16 (dgt xx))) | 3 => some (.agg (arrK .i64 16 (dgt py))) | 4 => some (.agg (arrK .i64 16 (dgt py))) | 5 => some (.agg (arrK .i64 16 (dgt yy))) | _ => none, fun jx_ => match jx_ with | 6 => some 16 | 7 => some 16 | _ => none, fun jx_ => match jx_ with | 8 => some 6 | 9 => some 7 | _ => none, fun jx_ => match jx_ with | 8 => arrK .i64 16 (dgt xx) | 9 => arrK .i64 16 (dgt yy) | _ => #[]⟩ (by kernel_rfl) (by kernel_rfl) (by kernel_rfl) (slotsOk_of hz0 (by kernel_rfl)) rfl ⟨?_, ?_, ?_, ?_, ?_, ?_, ?_, ?_, ?_, ?_, trivial⟩ ?_
          · refine fstep_val rfl rfl (calm_step rfl fun aa ω κ hb hu hc hK => ?_)
            have h3 : aa.tmps[3]?.getD undef = .pointer (some ⟨g3, 0, none⟩) := (hu 3 rfl).trans e3
            have hk := Lib.hid (fun w1 (h : Below ω.heap.size ω w1) => hK (.agg (arrK .i64 16 (dgt px))) w1 rfl h)
            clear hK hu hc
            have hr1 := (hX3.out.step hb).row
            have hr2 := (hX3.out.step hb).eq
            go_simp
            exact hk.out _ (Below.refl _ _)
          · refine fstep_val rfl rfl (calm_step rfl fun aa ω κ hb hu hc hK => ?_)
            have h3 : aa.tmps[3]?.getD undef = .pointer (some ⟨g3, 0, none⟩) := (hu 3 rfl).trans e3
            have hk := Lib.hid (fun w1 (h : Below ω.heap.size ω w1) => hK (.agg (arrK .i64 16 (dgt px))) w1 rfl h)
            clear hK hu hc
            have hr1 := (hX3.out.step hb).row
            have hr2 := (hX3.out.step hb).eq
            go_simp
            exact hk.out _ (Below.refl _ _)
          · refine fstep_val rfl rfl (calm_step rfl fun aa ω κ hb hu hc hK => ?_)
            have h25 : aa.tmps[25]?.getD undef = .agg (arrK .i64 16 (dgt px)) := hc 0 25 rfl rfl
            have h26 : aa.tmps[26]?.getD undef = .agg (arrK .i64 16 (dgt px)) := hc 1 26 rfl rfl
            have hk := Lib.hid (fun w1 (h : Below ω.heap.size ω w1) => hK (.agg (arrK .i64 16 (dgt xx))) w1 rfl h)
            clear hK hu hc
            go_simp
            go_at_call 25
            refine (kxx.out _).mono ?_
            rintro e w1 ⟨rfl, hb1⟩
            exact hk.out _ hb1
          · refine fstep_val rfl rfl (calm_step rfl fun aa ω κ hb hu hc hK => ?_)
            have h4 : aa.tmps[4]?.getD undef = .pointer (some ⟨g4, 0, none⟩) := (hu 4 rfl).trans e4
            have hk := Lib.hid (fun w1 (h : Below ω.heap.size ω w1) => hK (.agg (arrK .i64 16 (dgt py))) w1 rfl h)
            clear hK hu hc
            have hr1 := (hX4.out.step hb).row
            have hr2 := (hX4.out.step hb).eq
            go_simp
            exact hk.out _ (Below.refl _ _)
          · refine fstep_val rfl rfl (calm_step rfl fun aa ω κ hb hu hc hK => ?_)
            have h4 : aa.tmps[4]?.getD undef = .pointer (some ⟨g4, 0, none⟩) := (hu 4 rfl).trans e4
            have hk := Lib.hid (fun w1 (h : Below ω.heap.size ω w1) => hK (.agg (arrK .i64 16 (dgt py))) w1 rfl h)
            clear hK hu hc
            have hr1 := (hX4.out.step hb).row
            have hr2 := (hX4.out.step hb).eq
            go_simp
            exact hk.out _ (Below.refl _ _)
          · refine fstep_val rfl rfl (calm_step rfl fun aa ω κ hb hu hc hK => ?_)
            have h28 : aa.tmps[28]?.getD undef = .agg (arrK .i64 16 (dgt py)) := hc 3 28 rfl rfl
            have h29 : aa.tmps[29]?.getD undef = .agg (arrK .i64 16 (dgt py)) := hc 4 29 rfl rfl
            have hk := Lib.hid (fun w1 (h : Below ω.heap.size ω w1) => hK (.agg (arrK .i64 16 (dgt yy))) w1 rfl h)
            clear hK hu hc
            go_simp
            go_at_call 25
            refine (kyy.out _).mono ?_
            rintro e w1 ⟨rfl, hb1⟩
            exact hk.out _ hb1
          · refine fstep_al (n := 16) rfl rfl fun aa ω κ hK => ?_
            have hk := Lib.hid hK
            clear hK
            go_simp
            exact hk.out _ _ hc0
          · refine fstep_al (n := 16) rfl rfl fun aa ω κ hK => ?_
            have hk := Lib.hid hK
            clear hK
            go_simp
            exact hk.out _ _ hc0
          · refine fstep_st (j := 6) (n := 16) (d := 5) rfl rfl rfl rfl rfl hcxx.1 rfl rfl fun aa ω κ g hb hu hc hp hr hK => ?_
            have h27 : aa.tmps[27]?.getD undef = .agg (arrK .i64 16 (dgt xx)) := hc 2 27 rfl rfl
            have hk := Lib.hid hK
            clear hK hu hc
            have hcc := hcxx
            go_simp
            exact hk.out undef
          · refine fstep_st (j := 7) (n := 16) (d := 6) rfl rfl rfl rfl rfl hcyy.1 rfl rfl fun aa ω κ g hb hu hc hp hr hK => ?_
            have h30 : aa.tmps[30]?.getD undef = .agg (arrK .i64 16 (dgt yy)) := hc 5 30 rfl rfl
            have hk := Lib.hid hK
            clear hK hu hc
            have hcc := hcyy
            go_simp
            exact hk.out undef
          · intro a1 w1 G I
            have ha0 := hha0.out
            subst ha0
            have he := act_patch (n := 42) [false, false, false, false, false, true, true, false, false, false, false, false, false, false, false, false, false, false, false, false, false, false, false, false, false, true, true, true, true, true, true, false, false, false, false, false, false, false, false, false, false, false] rfl (by kernel_rfl) I.un I.sz I.df
            simp only [patch, cond_true, cond_false, Nat.reduceAdd] at he
            have hal5 := I.al 6 5 16 rfl rfl rfl
            have hal6 := I.al 7 6 16 rfl rfl rfl
            replace hA := Lib.hid (hA.out.step I.bel)
            replace hL := Lib.hid (below_step I.bel hL.out (Nat.le_refl _))
            replace hX3 := Lib.hid (hX3.out.step I.bel)
            replace hX4 := Lib.hid (hX4.out.step I.bel)
            have hX5 := Lib.hid (show At w1 (G 6) .i64 16 (dgt xx) from ⟨(I.blk 6 16 rfl rfl).2, (I.row 8 6 rfl rfl).2.2⟩)
            have hX6 := Lib.hid (show At w1 (G 7) .i64 16 (dgt yy) from ⟨(I.blk 7 16 rfl rfl).2, (I.row 9 7 rfl rfl).2.2⟩)
            clear kxx kyy
            clear I hz0 hha0 e3 e4
            rw [he]
            clear he
            rw [hal5]
            rw [hal6]
            clear hal5 hal6
            generalize a1.tmps[25]?.getD undef = x25 at *
            generalize a1.tmps[26]?.getD undef = x26 at *
            generalize a1.tmps[27]?.getD undef = x27 at *
            generalize a1.tmps[28]?.getD undef = x28 at *
            generalize a1.tmps[29]?.getD undef = x29 at *
            generalize a1.tmps[30]?.getD undef = x30 at *
            obtain ⟨g5, hgz⟩ : ∃ g, G 6 = g := ⟨_, rfl⟩
            rw [hgz] at hX5 ⊢
            clear hgz
            obtain ⟨g6, hgz⟩ : ∃ g, G 7 = g := ⟨_, rfl⟩
            rw [hgz] at hX6 ⊢
            clear hgz
            generalize w1 = W4 at *
            go_upto_region 5 with (fail)
            obtain ⟨r, hr⟩ : ∃ r, decide (yy = sm) = r := ⟨_, rfl⟩
            replace hqe := Lib.hid (hqe.out r hr)
            have hfin := Lib.hid (show R = r by rw [← hRR.out, hdx.out, hdy.out, hr]; rfl)
            clear hr
            generalize ha0 : Act.mk _ _ = a0
            have e5 : a0.tmps[5]?.getD undef = .pointer (some ⟨g5, 0, none⟩) := by rw [← ha0]; rfl
            have e6 : a0.tmps[6]?.getD undef = .pointer (some ⟨g6, 0, none⟩) := by rw [← ha0]; rfl
            have hz0 : a0.tmps.size = 42 := by rw [← ha0]; rfl
            have hha0 := Lib.hid ha0
            clear ha0
            refine wp_region_calm (fun jx_ => match jx_ with | 0 => SRel.is (.agg (arrK .i64 16 (dgt yy))) | 1 => SRel.is (.agg (arrK .i64 16 (dgt 1))) | 2 => SRel.is (.agg (arrK .i64 16 (dgt xx))) | 3 => SRel.is (.agg (arrK .i64 16 (dgt p1))) | 4 => SRel.is (.agg (arrK .i64 16 (dgt dn))) | 5 => SRel.is (.agg (arrK .i64 16 (dgt xx))) | 6 => SRel.is (.agg (arrK .i64 16 (dgt q1))) | 7 => SRel.is (.agg (arrK .i64 16 (dgt yy))) | 8 => SRel.is (.agg (arrK .i64 16 (dgt q2))) | 9 => SRel.is (.agg (arrK .i64 16 (dgt sm))) | 10 => SRel.is (.bool r) | 11 => SRel.is (.bool r) | _ => SRel.any) (by kernel_rfl) (by kernel_rfl) (by kernel_rfl) (slotsOk_of hz0 (by kernel_rfl)) ⟨?_, ?_, ?_, ?_, ?_, ?_, ?_, ?_, ?_, ?_, ?_, ?_, trivial⟩ ?_
            · refine calm_step rfl fun a ω κ hb hu hc hK => ?_
              have h6 : a.tmps[6]?.getD undef = .pointer (some ⟨g6, 0, none⟩) := (hu 6 rfl).trans e6
              have hk := Lib.hid (fun w1 (h : Below ω.heap.size ω w1) => hK (.agg (arrK .i64 16 (dgt yy))) w1 rfl h)
              clear hK hu hc
              have hr1 := (hX6.out.step hb).row
              have hr2 := (hX6.out.step hb).eq
              go_simp
              exact hk.out _ (Below.refl _ _)
            · refine calm_step rfl fun a ω κ hb hu hc hK => ?_
              have hk := Lib.hid (fun w1 (h : Below ω.heap.size ω w1) => hK (.agg (arrK .i64 16 (dgt 1))) w1 rfl h)
              clear hK hu hc
              go_simp
              go_at_call 89
              refine (h1.out _).mono ?_
              rintro e w1 ⟨rfl, hb1⟩
              exact hk.out _ hb1
            · refine calm_step rfl fun a ω κ hb hu hc hK => ?_
              have h5 : a.tmps[5]?.getD undef = .pointer (some ⟨g5, 0, none⟩) := (hu 5 rfl).trans e5
              have hk := Lib.hid (fun w1 (h : Below ω.heap.size ω w1) => hK (.agg (arrK .i64 16 (dgt xx))) w1 rfl h)
              clear hK hu hc
              have hr1 := (hX5.out.step hb).row
              have hr2 := (hX5.out.step hb).eq
              go_simp
              exact hk.out _ (Below.refl _ _)
            · refine calm_step rfl fun a ω κ hb hu hc hK => ?_
              have h32 : a.tmps[32]?.getD undef = .agg (arrK .i64 16 (dgt 1)) := hc 1 32 rfl rfl
              have h33 : a.tmps[33]?.getD undef = .agg (arrK .i64 16 (dgt xx)) := hc 2 33 rfl rfl
              have hk := Lib.hid (fun w1 (h : Below ω.heap.size ω w1) => hK (.agg (arrK .i64 16 (dgt p1))) w1 rfl h)
              clear hK hu hc
              go_simp
              go_at_call 21
              refine (kp1.out _).mono ?_
              rintro e w1 ⟨rfl, hb1⟩
              exact hk.out _ hb1
            · refine calm_step rfl fun a ω κ hb hu hc hK => ?_
              have hk := Lib.hid (fun w1 (h : Below ω.heap.size ω w1) => hK (.agg (arrK .i64 16 (dgt dn))) w1 rfl h)
              clear hK hu hc
              go_simp
              go_at_call 105
              refine (kd.out _).mono ?_
              rintro e w1 ⟨rfl, hb1⟩
              exact hk.out _ hb1
            · refine calm_step rfl fun a ω κ hb hu hc hK => ?_
              have h5 : a.tmps[5]?.getD undef = .pointer (some ⟨g5, 0, none⟩) := (hu 5 rfl).trans e5
              have hk := Lib.hid (fun w1 (h : Below ω.heap.size ω w1) => hK (.agg (arrK .i64 16 (dgt xx))) w1 rfl h)
              clear hK hu hc
              have hr1 := (hX5.out.step hb).row
              have hr2 := (hX5.out.step hb).eq
              go_simp
              exact hk.out _ (Below.refl _ _)
            · refine calm_step rfl fun a ω κ hb hu hc hK => ?_
              have h35 : a.tmps[35]?.getD undef = .agg (arrK .i64 16 (dgt dn)) := hc 4 35 rfl rfl
              have h36 : a.tmps[36]?.getD undef = .agg (arrK .i64 16 (dgt xx)) := hc 5 36 rfl rfl
              have hk := Lib.hid (fun w1 (h : Below ω.heap.size ω w1) => hK (.agg (arrK .i64 16 (dgt q1))) w1 rfl h)
              clear hK hu hc
              go_simp
              go_at_call 25
              refine (kq1.out _).mono ?_
              rintro e w1 ⟨rfl, hb1⟩
              exact hk.out _ hb1
            · refine calm_step rfl fun a ω κ hb hu hc hK => ?_
              have h6 : a.tmps[6]?.getD undef = .pointer (some ⟨g6, 0, none⟩) := (hu 6 rfl).trans e6
              have hk := Lib.hid (fun w1 (h : Below ω.heap.size ω w1) => hK (.agg (arrK .i64 16 (dgt yy))) w1 rfl h)
              clear hK hu hc
              have hr1 := (hX6.out.step hb).row
              have hr2 := (hX6.out.step hb).eq
              go_simp
              exact hk.out _ (Below.refl _ _)
            · refine calm_step rfl fun a ω κ hb hu hc hK => ?_
              have h37 : a.tmps[37]?.getD undef = .agg (arrK .i64 16 (dgt q1)) := hc 6 37 rfl rfl
              have h38 : a.tmps[38]?.getD undef = .agg (arrK .i64 16 (dgt yy)) := hc 7 38 rfl rfl
              have hk := Lib.hid (fun w1 (h : Below ω.heap.size ω w1) => hK (.agg (arrK .i64 16 (dgt q2))) w1 rfl h)
              clear hK hu hc
              go_simp
              go_at_call 25
              refine (kq2.out _).mono ?_
              rintro e w1 ⟨rfl, hb1⟩
              exact hk.out _ hb1
            · refine calm_step rfl fun a ω κ hb hu hc hK => ?_
              have h34 : a.tmps[34]?.getD undef = .agg (arrK .i64 16 (dgt p1)) := hc 3 34 rfl rfl
              have h39 : a.tmps[39]?.getD undef = .agg (arrK .i64 16 (dgt q2)) := hc 8 39 rfl rfl
              have hk := Lib.hid (fun w1 (h : Below ω.heap.size ω w1) => hK (.agg (arrK .i64 16 (dgt sm))) w1 rfl h)
              clear hK hu hc
              go_simp
              go_at_call 21
              refine (ksm.out _).mono ?_
              rintro e w1 ⟨rfl, hb1⟩
              exact hk.out _ hb1
            · refine calm_step rfl fun a ω κ hb hu hc hK => ?_
              have h31 : a.tmps[31]?.getD undef = .agg (arrK .i64 16 (dgt yy)) := hc 0 31 rfl rfl
              have h40 : a.tmps[40]?.getD undef = .agg (arrK .i64 16 (dgt sm)) := hc 9 40 rfl rfl
              have hk := Lib.hid (fun w1 (h : Below ω.heap.size ω w1) => hK (.bool r) w1 rfl h)
              clear hK hu hc
              exact wp_eqlA (v := arrK .i64 16 (dgt yy)) (u := arrK .i64 16 (dgt sm)) (.inr rfl) (by kernel_rfl) (by go_simp) (by go_simp) (hqe.out _) (hk.out _ (Below.refl _ _))
            · refine calm_step rfl fun a ω κ hb hu hc hK => ?_
              have h41 : a.tmps[41]?.getD undef = .bool r := hc 10 41 rfl rfl
              have hk := Lib.hid (fun w1 (h : Below ω.heap.size ω w1) => hK (.bool r) w1 rfl h)
              clear hK hu hc
              go_simp
              exact hk.out _ (Below.refl _ _)
            · intro a1 w1 hb1 hu1 hsz1 hdf1 hc1
              have ha0 := hha0.out
              subst ha0
              have he := act_patch (n := 42) [false, false, true, false, false, false, false, false, false, false, false, false, false, false, false, false, false, false, false, false, false, false, false, false, false, false, false, false, false, false, false, true, true, true, true, true, true, true, true, true, true, true] rfl (by kernel_rfl) hu1 hsz1 hdf1
              simp only [patch, cond_true, cond_false, Nat.reduceAdd] at he
              have hkn2 : a1.tmps[2]?.getD undef = .bool r := hc1 11 2 rfl
              replace hL := Lib.hid (below_step hb1 hL.out (Nat.le_refl _))
              clear hb1 hu1 hsz1 hdf1 hc1 hz0 hha0 e5 e6
              rw [he]
              clear he
              rw [hkn2]
              clear hkn2
              generalize a1.tmps[31]?.getD undef = x31 at *
              generalize a1.tmps[32]?.getD undef = x32 at *
              generalize a1.tmps[33]?.getD undef = x33 at *
              generalize a1.tmps[34]?.getD undef = x34 at *
              generalize a1.tmps[35]?.getD undef = x35 at *
              generalize a1.tmps[36]?.getD undef = x36 at *
              generalize a1.tmps[37]?.getD undef = x37 at *
              generalize a1.tmps[38]?.getD undef = x38 at *
              generalize a1.tmps[39]?.getD undef = x39 at *
              generalize a1.tmps[40]?.getD undef = x40 at *
              generalize a1.tmps[41]?.getD undef = x41 at *
              go_wp2_with fail
              exact ret_tmp (p := 2) (v := .bool r) rfl (by simp) rfl ⟨by rw [hfin.out], hL.out⟩

      · have hdy : decide (py = y) = false := decide_eq_false hey
        replace hqy := Lib.hid (hqy.out true hdy)
        replace hdy := Lib.hid hdy
        clear hey
        generalize ha0 : Act.mk _ _ = a0
        have e1 : a0.tmps[1]?.getD undef = .pointer (some ⟨w.heap.size, 0, none⟩) := by rw [← ha0]; rfl
        have e3 : a0.tmps[3]?.getD undef = .pointer (some ⟨g3, 0, none⟩) := by rw [← ha0]; rfl
        have e4 : a0.tmps[4]?.getD undef = .pointer (some ⟨g4, 0, none⟩) := by rw [← ha0]; rfl
        have hz0 : a0.tmps.size = 42 := by rw [← ha0]; rfl
        have hha0 := Lib.hid ha0
        clear ha0
        refine wp_region_calm (fun jx_ => match jx_ with | 0 => SRel.is (.agg (arrK .i64 16 (dgt px))) | 1 => SRel.is (.agg (arrK .u64 4 (wd px))) | 2 => SRel.is (.pointer (some ⟨w.heap.size, 0, none⟩)) | 3 => SRel.is (.agg (arrK .u64 4 (wd x))) | 4 => SRel.is (.bool false) | 5 => SRel.is (.bool false) | 6 => SRel.is (.agg (arrK .i64 16 (dgt py))) | 7 => SRel.is (.agg (arrK .u64 4 (wd py))) | 8 => SRel.is (.pointer (some ⟨w.heap.size, 4, none⟩)) | 9 => SRel.is (.agg (arrK .u64 4 (wd y))) | 10 => SRel.is (.bool true) | 11 => SRel.is (.bool true) | _ => SRel.any) (by kernel_rfl) (by kernel_rfl) (by kernel_rfl) (slotsOk_of hz0 (by kernel_rfl)) ⟨?_, ?_, ?_, ?_, ?_, ?_, ?_, ?_, ?_, ?_, ?_, ?_, trivial⟩ ?_
        · refine calm_step rfl fun a ω κ hb hu hc hK => ?_
          have h3 : a.tmps[3]?.getD undef = .pointer (some ⟨g3, 0, none⟩) := (hu 3 rfl).trans e3
          have hk := Lib.hid (fun w1 (h : Below ω.heap.size ω w1) => hK (.agg (arrK .i64 16 (dgt px))) w1 rfl h)
          clear hK hu hc
          have hr1 := (hX3.out.step hb).row
          have hr2 := (hX3.out.step hb).eq
          go_simp
          exact hk.out _ (Below.refl _ _)
        · refine calm_step rfl fun a ω κ hb hu hc hK => ?_
          have h13 : a.tmps[13]?.getD undef = .agg (arrK .i64 16 (dgt px)) := hc 0 13 rfl rfl
          have hk := Lib.hid (fun w1 (h : Below ω.heap.size ω w1) => hK (.agg (arrK .u64 4 (wd px))) w1 rfl h)
          clear hK hu hc
          go_simp
          go_at_call 19
          refine (kNx.out _).mono ?_
          rintro e w1 ⟨rfl, hb1⟩
          exact hk.out _ hb1
        · refine calm_step rfl fun a ω κ hb hu hc hK => ?_
          have h1 : a.tmps[1]?.getD undef = .pointer (some ⟨w.heap.size, 0, none⟩) := (hu 1 rfl).trans e1
          have hk := Lib.hid (fun w1 (h : Below ω.heap.size ω w1) => hK (.pointer (some ⟨w.heap.size, 0, none⟩)) w1 rfl h)
          clear hK hu hc
          go_simp
          exact hk.out _ (Below.refl _ _)
        · refine calm_step rfl fun a ω κ hb hu hc hK => ?_
          have h15 : a.tmps[15]?.getD undef = .pointer (some ⟨w.heap.size, 0, none⟩) := hc 2 15 rfl rfl
          have hk := Lib.hid (fun w1 (h : Below ω.heap.size ω w1) => hK (.agg (arrK .u64 4 (wd x))) w1 rfl h)
          clear hK hu hc
          have hl := pt_0 (hA.out.step hb)
          have hl1 := hl.1
          have hl2 := hl.2
          go_simp
          exact hk.out _ (Below.refl _ _)
        · refine calm_step rfl fun a ω κ hb hu hc hK => ?_
          have h14 : a.tmps[14]?.getD undef = .agg (arrK .u64 4 (wd px)) := hc 1 14 rfl rfl
          have h16 : a.tmps[16]?.getD undef = .agg (arrK .u64 4 (wd x)) := hc 3 16 rfl rfl
          have hk := Lib.hid (fun w1 (h : Below ω.heap.size ω w1) => hK (.bool false) w1 rfl h)
          clear hK hu hc
          exact wp_eqlA (v := arrK .u64 4 (wd px)) (u := arrK .u64 4 (wd x)) (.inl rfl) (by kernel_rfl) (by go_simp) (by go_simp) (hqx.out _) (hk.out _ (Below.refl _ _))
        · refine calm_step rfl fun a ω κ hb hu hc hK => ?_
          have h17 : a.tmps[17]?.getD undef = .bool false := hc 4 17 rfl rfl
          have hk := Lib.hid (fun w1 (h : Below ω.heap.size ω w1) => hK (.bool false) w1 rfl h)
          clear hK hu hc
          go_simp
          exact hk.out _ (Below.refl _ _)
        · refine calm_step_guard (g := 5) (b := false) (d := 18) rfl rfl (fun a w hc => hc 5 18 rfl rfl) fun a ω κ hb hu hc hK => ?_
          have h4 : a.tmps[4]?.getD undef = .pointer (some ⟨g4, 0, none⟩) := (hu 4 rfl).trans e4
          have hk := Lib.hid (fun w1 (h : Below ω.heap.size ω w1) => hK (.agg (arrK .i64 16 (dgt py))) w1 rfl h)
          clear hK hu hc
          have hr1 := (hX4.out.step hb).row
          have hr2 := (hX4.out.step hb).eq
          go_simp
          exact hk.out _ (Below.refl _ _)
        · refine calm_step_guard (g := 5) (b := false) (d := 18) rfl rfl (fun a w hc => hc 5 18 rfl rfl) fun a ω κ hb hu hc hK => ?_
          have h19 : a.tmps[19]?.getD undef = .agg (arrK .i64 16 (dgt py)) := hc 6 19 rfl rfl
          have hk := Lib.hid (fun w1 (h : Below ω.heap.size ω w1) => hK (.agg (arrK .u64 4 (wd py))) w1 rfl h)
          clear hK hu hc
          go_simp
          go_at_call 19
          refine (kNy.out _).mono ?_
          rintro e w1 ⟨rfl, hb1⟩
          exact hk.out _ hb1
        · refine calm_step_guard (g := 5) (b := false) (d := 18) rfl rfl (fun a w hc => hc 5 18 rfl rfl) fun a ω κ hb hu hc hK => ?_
          have h1 : a.tmps[1]?.getD undef = .pointer (some ⟨w.heap.size, 0, none⟩) := (hu 1 rfl).trans e1
          have hk := Lib.hid (fun w1 (h : Below ω.heap.size ω w1) => hK (.pointer (some ⟨w.heap.size, 4, none⟩)) w1 rfl h)
          clear hK hu hc
          go_simp
          exact hk.out _ (Below.refl _ _)
        · refine calm_step_guard (g := 5) (b := false) (d := 18) rfl rfl (fun a w hc => hc 5 18 rfl rfl) fun a ω κ hb hu hc hK => ?_
          have h21 : a.tmps[21]?.getD undef = .pointer (some ⟨w.heap.size, 4, none⟩) := hc 8 21 rfl rfl
          have hk := Lib.hid (fun w1 (h : Below ω.heap.size ω w1) => hK (.agg (arrK .u64 4 (wd y))) w1 rfl h)
          clear hK hu hc
          have hl := pt_1 (hA.out.step hb)
          have hl1 := hl.1
          have hl2 := hl.2
          go_simp
          exact hk.out _ (Below.refl _ _)
        · refine calm_step_guard (g := 5) (b := false) (d := 18) rfl rfl (fun a w hc => hc 5 18 rfl rfl) fun a ω κ hb hu hc hK => ?_
          have h20 : a.tmps[20]?.getD undef = .agg (arrK .u64 4 (wd py)) := hc 7 20 rfl rfl
          have h22 : a.tmps[22]?.getD undef = .agg (arrK .u64 4 (wd y)) := hc 9 22 rfl rfl
          have hk := Lib.hid (fun w1 (h : Below ω.heap.size ω w1) => hK (.bool true) w1 rfl h)
          clear hK hu hc
          exact wp_eqlA (v := arrK .u64 4 (wd py)) (u := arrK .u64 4 (wd y)) (.inl rfl) (by kernel_rfl) (by go_simp) (by go_simp) (hqy.out _) (hk.out _ (Below.refl _ _))
        · refine calm_step rfl fun a ω κ hb hu hc hK => ?_
          have h18 : a.tmps[18]?.getD undef = .bool false := hc 5 18 rfl rfl
          have h23 : a.tmps[23]?.getD undef = .bool true := hc 10 23 rfl rfl
          have hk := Lib.hid (fun w1 (h : Below ω.heap.size ω w1) => hK (.bool true) w1 rfl h)
          clear hK hu hc
          go_simp
          exact hk.out _ (Below.refl _ _)
        · intro a1 w1 hb1 hu1 hsz1 hdf1 hc1
          have ha0 := hha0.out
          subst ha0
          have he := act_patch (n := 42) [false, false, false, false, false, false, false, false, false, false, false, false, false, true, true, true, true, true, true, true, true, true, true, true, true, false, false, false, false, false, false, false, false, false, false, false, false, false, false, false, false, false] rfl (by kernel_rfl) hu1 hsz1 hdf1
          simp only [patch, cond_true, cond_false, Nat.reduceAdd] at he
          have hkn24 : a1.tmps[24]?.getD undef = .bool true := hc1 11 24 rfl
          replace hA := Lib.hid (hA.out.step hb1)
          replace hL := Lib.hid (below_step hb1 hL.out (Nat.le_refl _))
          replace hX3 := Lib.hid (hX3.out.step hb1)
          replace hX4 := Lib.hid (hX4.out.step hb1)
          clear kNx kNy hqx hqy
          clear hb1 hu1 hsz1 hdf1 hc1 hz0 hha0 e1 e3 e4
          rw [he]
          clear he
          rw [hkn24]
          clear hkn24
          generalize a1.tmps[13]?.getD undef = x13 at *
          generalize a1.tmps[14]?.getD undef = x14 at *
          generalize a1.tmps[15]?.getD undef = x15 at *
          generalize a1.tmps[16]?.getD undef = x16 at *
          generalize a1.tmps[17]?.getD undef = x17 at *
          generalize a1.tmps[18]?.getD undef = x18 at *
          generalize a1.tmps[19]?.getD undef = x19 at *
          generalize a1.tmps[20]?.getD undef = x20 at *
          generalize a1.tmps[21]?.getD undef = x21 at *
          generalize a1.tmps[22]?.getD undef = x22 at *
          generalize a1.tmps[23]?.getD undef = x23 at *
          go_wp2_with fail
          exact ret_tmp (p := 2) (v := .bool false) rfl (by simp) rfl ⟨by rw [← hRR.out, hdx.out, hdy.out]; rfl, hL.out⟩

    · have hdx : decide (px = x) = false := decide_eq_false hex
      replace hqx := Lib.hid (hqx.out true hdx)
      replace hdx := Lib.hid hdx
      clear hex
      generalize ha0 : Act.mk _ _ = a0
      have e1 : a0.tmps[1]?.getD undef = .pointer (some ⟨w.heap.size, 0, none⟩) := by rw [← ha0]; rfl
      have e3 : a0.tmps[3]?.getD undef = .pointer (some ⟨g3, 0, none⟩) := by rw [← ha0]; rfl
      have e4 : a0.tmps[4]?.getD undef = .pointer (some ⟨g4, 0, none⟩) := by rw [← ha0]; rfl
      have hz0 : a0.tmps.size = 42 := by rw [← ha0]; rfl
      have hha0 := Lib.hid ha0
      clear ha0
      refine wp_region_calm (fun jx_ => match jx_ with | 0 => SRel.is (.agg (arrK .i64 16 (dgt px))) | 1 => SRel.is (.agg (arrK .u64 4 (wd px))) | 2 => SRel.is (.pointer (some ⟨w.heap.size, 0, none⟩)) | 3 => SRel.is (.agg (arrK .u64 4 (wd x))) | 4 => SRel.is (.bool true) | 5 => SRel.is (.bool true) | 6 => SRel.any | 7 => SRel.any | 8 => SRel.any | 9 => SRel.any | 10 => SRel.any | 11 => SRel.is (.bool true) | _ => SRel.any) (by kernel_rfl) (by kernel_rfl) (by kernel_rfl) (slotsOk_of hz0 (by kernel_rfl)) ⟨?_, ?_, ?_, ?_, ?_, ?_, ?_, ?_, ?_, ?_, ?_, ?_, trivial⟩ ?_
      · refine calm_step rfl fun a ω κ hb hu hc hK => ?_
        have h3 : a.tmps[3]?.getD undef = .pointer (some ⟨g3, 0, none⟩) := (hu 3 rfl).trans e3
        have hk := Lib.hid (fun w1 (h : Below ω.heap.size ω w1) => hK (.agg (arrK .i64 16 (dgt px))) w1 rfl h)
        clear hK hu hc
        have hr1 := (hX3.out.step hb).row
        have hr2 := (hX3.out.step hb).eq
        go_simp
        exact hk.out _ (Below.refl _ _)
      · refine calm_step rfl fun a ω κ hb hu hc hK => ?_
        have h13 : a.tmps[13]?.getD undef = .agg (arrK .i64 16 (dgt px)) := hc 0 13 rfl rfl
        have hk := Lib.hid (fun w1 (h : Below ω.heap.size ω w1) => hK (.agg (arrK .u64 4 (wd px))) w1 rfl h)
        clear hK hu hc
        go_simp
        go_at_call 19
        refine (kNx.out _).mono ?_
        rintro e w1 ⟨rfl, hb1⟩
        exact hk.out _ hb1
      · refine calm_step rfl fun a ω κ hb hu hc hK => ?_
        have h1 : a.tmps[1]?.getD undef = .pointer (some ⟨w.heap.size, 0, none⟩) := (hu 1 rfl).trans e1
        have hk := Lib.hid (fun w1 (h : Below ω.heap.size ω w1) => hK (.pointer (some ⟨w.heap.size, 0, none⟩)) w1 rfl h)
        clear hK hu hc
        go_simp
        exact hk.out _ (Below.refl _ _)
      · refine calm_step rfl fun a ω κ hb hu hc hK => ?_
        have h15 : a.tmps[15]?.getD undef = .pointer (some ⟨w.heap.size, 0, none⟩) := hc 2 15 rfl rfl
        have hk := Lib.hid (fun w1 (h : Below ω.heap.size ω w1) => hK (.agg (arrK .u64 4 (wd x))) w1 rfl h)
        clear hK hu hc
        have hl := pt_0 (hA.out.step hb)
        have hl1 := hl.1
        have hl2 := hl.2
        go_simp
        exact hk.out _ (Below.refl _ _)
      · refine calm_step rfl fun a ω κ hb hu hc hK => ?_
        have h14 : a.tmps[14]?.getD undef = .agg (arrK .u64 4 (wd px)) := hc 1 14 rfl rfl
        have h16 : a.tmps[16]?.getD undef = .agg (arrK .u64 4 (wd x)) := hc 3 16 rfl rfl
        have hk := Lib.hid (fun w1 (h : Below ω.heap.size ω w1) => hK (.bool true) w1 rfl h)
        clear hK hu hc
        exact wp_eqlA (v := arrK .u64 4 (wd px)) (u := arrK .u64 4 (wd x)) (.inl rfl) (by kernel_rfl) (by go_simp) (by go_simp) (hqx.out _) (hk.out _ (Below.refl _ _))
      · refine calm_step rfl fun a ω κ hb hu hc hK => ?_
        have h17 : a.tmps[17]?.getD undef = .bool true := hc 4 17 rfl rfl
        have hk := Lib.hid (fun w1 (h : Below ω.heap.size ω w1) => hK (.bool true) w1 rfl h)
        clear hK hu hc
        go_simp
        exact hk.out _ (Below.refl _ _)
      · exact calm_step_skip (g := 5) (b := false) (d := 18) rfl rfl (fun a w hc => hc 5 18 rfl rfl) (fun _ => trivial)
      · exact calm_step_skip (g := 5) (b := false) (d := 18) rfl rfl (fun a w hc => hc 5 18 rfl rfl) (fun _ => trivial)
      · exact calm_step_skip (g := 5) (b := false) (d := 18) rfl rfl (fun a w hc => hc 5 18 rfl rfl) (fun _ => trivial)
      · exact calm_step_skip (g := 5) (b := false) (d := 18) rfl rfl (fun a w hc => hc 5 18 rfl rfl) (fun _ => trivial)
      · exact calm_step_skip (g := 5) (b := false) (d := 18) rfl rfl (fun a w hc => hc 5 18 rfl rfl) (fun _ => trivial)
      · refine calm_step rfl fun a ω κ hb hu hc hK => ?_
        have h18 : a.tmps[18]?.getD undef = .bool true := hc 5 18 rfl rfl
        have h23 : (SRel.any).p (a.tmps[23]?.getD undef) ω := hc 10 23 rfl rfl
        have hk := Lib.hid (fun w1 (h : Below ω.heap.size ω w1) => hK (.bool true) w1 rfl h)
        clear hK hu hc
        go_simp
        exact hk.out _ (Below.refl _ _)
      · intro a1 w1 hb1 hu1 hsz1 hdf1 hc1
        have ha0 := hha0.out
        subst ha0
        have he := act_patch (n := 42) [false, false, false, false, false, false, false, false, false, false, false, false, false, true, true, true, true, true, true, true, true, true, true, true, true, false, false, false, false, false, false, false, false, false, false, false, false, false, false, false, false, false] rfl (by kernel_rfl) hu1 hsz1 hdf1
        simp only [patch, cond_true, cond_false, Nat.reduceAdd] at he
        have hkn24 : a1.tmps[24]?.getD undef = .bool true := hc1 11 24 rfl
        replace hA := Lib.hid (hA.out.step hb1)
        replace hL := Lib.hid (below_step hb1 hL.out (Nat.le_refl _))
        replace hX3 := Lib.hid (hX3.out.step hb1)
        replace hX4 := Lib.hid (hX4.out.step hb1)
        clear kNx kNy hqx hqy
        clear hb1 hu1 hsz1 hdf1 hc1 hz0 hha0 e1 e3 e4
        rw [he]
        clear he
        rw [hkn24]
        clear hkn24
        generalize a1.tmps[13]?.getD undef = x13 at *
        generalize a1.tmps[14]?.getD undef = x14 at *
        generalize a1.tmps[15]?.getD undef = x15 at *
        generalize a1.tmps[16]?.getD undef = x16 at *
        generalize a1.tmps[17]?.getD undef = x17 at *
        generalize a1.tmps[18]?.getD undef = x18 at *
        generalize a1.tmps[19]?.getD undef = x19 at *
        generalize a1.tmps[20]?.getD undef = x20 at *
        generalize a1.tmps[21]?.getD undef = x21 at *
        generalize a1.tmps[22]?.getD undef = x22 at *
        generalize a1.tmps[23]?.getD undef = x23 at *
        go_wp2_with fail
        exact ret_tmp (p := 2) (v := .bool false) rfl (by simp) rfl ⟨by rw [← hRR.out, hdx.out]; rfl, hL.out⟩

end Go.Proofs.Ytodcjeaannfbnaa
namespace Go.Proofs.Ytodcjeaannfbnaa
open Go.ChangeShapes Go.WideShapes Go.ChangeAt Go.RowKit
set_option maxHeartbeats 2000000
set_option maxRecDepth 100000
theorem load_f2 {w : World} {dst : Option Tmp} {x : Operand} {tt : TypeId} {pos : String} {af : Array Edge} {gd : Option (Nat × Bool)} {a : Act} {K : Act → World → Prop} {Q : Exit → Act → World → Prop}
    (hv : IsHead (a.eval x)) (h : Row w (blkOf (a.eval x)) 32) : Oper.wp Try.prog ⟨dst, .load 135 x, tt, pos, af, gd⟩ a w K Q ↔ K (a.put dst (.agg (rowAt w (blkOf (a.eval x))))) w :=
  wp_load_whole Try.underlying135 rfl (by kernel_rfl) hv h
theorem store_f2 {w : World} {dst : Option Tmp} {x y : Operand} {tt : TypeId} {pos : String} {af : Array Edge} {gd : Option (Nat × Bool)} {a : Act} {K : Act → World → Prop} {Q : Exit → Act → World → Prop}
    (hv : IsHead (a.eval x)) (h : Row w (blkOf (a.eval x)) 32) (hx : IsAgg (a.eval y) 32) : Oper.wp Try.prog ⟨dst, .store 135 x y, tt, pos, af, gd⟩ a w K Q ↔ K (a.put dst undef) (w.setRow (blkOf (a.eval x)) (cellsV (a.eval y))) :=
  wp_store_whole (by kernel_rfl) hv h hx
theorem execl_f2 {w : World} {dst : Option Tmp} {x : Operand} {tt : TypeId} {pos : String} {af : Array Edge} {gd : Option (Nat × Bool)} {ρ : Operand → Value}
    (hv : IsHead (ρ x)) (h : Row w (blkOf (ρ x)) 32) : (execOp ρ ⟨dst, .load 135 x, tt, pos, af, gd⟩).run Try.prog w = .ok (.value (.agg (rowAt w (blkOf (ρ x))))) w :=
  exec_load_whole Try.underlying135 rfl (by kernel_rfl) hv h
theorem execs_f2 {w : World} {dst : Option Tmp} {x y : Operand} {tt : TypeId} {pos : String} {af : Array Edge} {gd : Option (Nat × Bool)} {ρ : Operand → Value}
    (hv : IsHead (ρ x)) (h : Row w (blkOf (ρ x)) 32) (hx : IsAgg (ρ y) 32) : (execOp ρ ⟨dst, .store 135 x y, tt, pos, af, gd⟩).run Try.prog w = .ok .skip (w.setRow (blkOf (ρ x)) (cellsV (ρ y))) :=
  exec_store_whole (by kernel_rfl) hv h hx

def cat2L (f0 f1 : Nat → Nat) (i : Nat) : Nat := if i < 16 then f0 i else f1 (i - 16)
theorem zeroF2 : #[Value.int IntKind.i64 0, Value.int IntKind.i64 0, Value.int IntKind.i64 0, Value.int IntKind.i64 0, Value.int IntKind.i64 0, Value.int IntKind.i64 0, Value.int IntKind.i64 0, Value.int IntKind.i64 0, Value.int IntKind.i64 0, Value.int IntKind.i64 0, Value.int IntKind.i64 0, Value.int IntKind.i64 0, Value.int IntKind.i64 0, Value.int IntKind.i64 0, Value.int IntKind.i64 0, Value.int IntKind.i64 0, Value.int IntKind.i64 0, Value.int IntKind.i64 0, Value.int IntKind.i64 0, Value.int IntKind.i64 0, Value.int IntKind.i64 0, Value.int IntKind.i64 0, Value.int IntKind.i64 0, Value.int IntKind.i64 0, Value.int IntKind.i64 0, Value.int IntKind.i64 0, Value.int IntKind.i64 0, Value.int IntKind.i64 0, Value.int IntKind.i64 0, Value.int IntKind.i64 0, Value.int IntKind.i64 0, Value.int IntKind.i64 0] = arrK .i64 32 (cat2L (fun _ => 0) (fun _ => 0)) := by kernel_rfl
section
variable {w : World} {g : Nat} {f0 f1 : Nat → Nat}
theorem f2_0 (h : At w g .i64 32 (cat2L f0 f1)) : LdOk w 16 (.pointer (some ⟨g, 0, none⟩)) ∧ ldC w 16 (.pointer (some ⟨g, 0, none⟩)) = arrK .i64 16 f0 := by
  refine ⟨(h.fld (by omega)).1, (h.fld (by omega)).2.trans (arrK_congr fun i hi => ?_)⟩
  unfold cat2L; rw [if_pos (by omega), Nat.zero_add]
theorem f2_1 (h : At w g .i64 32 (cat2L f0 f1)) : LdOk w 16 (.pointer (some ⟨g, 16, none⟩)) ∧ ldC w 16 (.pointer (some ⟨g, 16, none⟩)) = arrK .i64 16 f1 := by
  refine ⟨(h.fld (by omega)).1, (h.fld (by omega)).2.trans (arrK_congr fun i hi => ?_)⟩
  unfold cat2L; rw [if_neg (by omega), Nat.add_sub_cancel_left]
end
def f2V (x z : Nat) : Value := .agg (arrK .i64 32 (cat2L (dgt x) (dgt z)))
theorem build_f2 (f0 f1 : Nat → Nat) (w : World) : (Instr.build 135 #[(0, .agg (arrK .i64 16 f0)), (1, .agg (arrK .i64 16 f1))]).run Try.prog w = .ok (.agg (arrK .i64 32 (cat2L f0 f1))) w := run_build w _ _ _ (by kernel_rfl)
def SRel.nb (B n : Nat) : SRel := ⟨fun v w => ∃ g, v = .pointer (some ⟨g, 0, none⟩) ∧ B ≤ g ∧ Row w g n, fun _ _ _ hb ⟨g, h1, h2, h3⟩ => ⟨g, h1, h2, row_below h3 hb h3.lt⟩⟩
def SRel.sl1 (n : Nat) : SRel := ⟨fun v w => ∃ g, v = .slice (some ⟨g, 0, none⟩) 1 1 ∧ At w g .u64 1 (fun _ => n), fun _ _ _ hb ⟨g, h1, h2⟩ => ⟨g, h1, h2.step hb⟩⟩
theorem digits_one {v : Value} {n : Nat} (w : World) (hn : n < 18446744073709551616) (h : ∃ g, v = .slice (some ⟨g, 0, none⟩) 1 1 ∧ At w g .u64 1 (fun _ => n)) : Calls Try.prog 106 #[v] w (RetN n w) := by
  obtain ⟨g, rfl, hA⟩ := h
  have hR := hA.row
  obtain ⟨cs, t, hg, hs⟩ := hR
  have hcs : cs = arrK .u64 1 fun _ => n := by rw [← hA.eq]; simp [rowAt, hg]
  have h := ref_Digits (some ⟨g, 0, none⟩) 1 1 (fun _ => n) w (by rw [← hcs]; exact Rd.of_blk hg hA.lt) (by omega) (by omega) (by omega) (fun _ _ => hn)
  have hv : wval (fun _ => n) 1 = n := by show 0 + 2 ^ (64 * 0) * n = n; rw [Nat.mul_zero, Nat.pow_zero, Nat.one_mul, Nat.zero_add]
  rw [hv] at h
  exact h
attribute [local go_sem ↓] load_fld load_feP load_num store_num load_fe store_fe load_pt store_pt load_f2 store_f2
attribute [local go_sem] isHead_mk blkOf_mk isAgg_mk cellsV_mk row_drew rowAt_drew row_new_cells row_old rowAt_new rowAt_old setRow_new zeroNum zeroPt zeroFe zeroF2
theorem ref_double (x z xx zz xz vd vm s0 sm vf r1 r2 : Nat) (w : World) (hx : x < 2 ^ 256) (hz : z < 2 ^ 256) (hxx : x * x % fP = xx) (hzz : z * z % fP = zz) (hxz : x * z % fP = xz) (hvd : lessM xx zz = vd) (hvm : 486662 * xz % fP = vm) (hs0 : (xx + vm) % fP = s0) (hsm : (s0 + zz) % fP = sm) (hvf : 4 * xz % fP = vf) (hr1 : vd * vd % fP = r1) (hr2 : vf * sm % fP = r2) : Calls Try.prog 154 #[f2V x z] w fun e w' => e = .returned (f2V r1 r2) ∧ Below w.heap.size w w' := by
  have hc486 : 486662 < 2 ^ 256 := by decide +kernel
  have hc4 : 4 < 2 ^ 256 := by decide +kernel
  have lxx : xx < 2 ^ 256 := hxx ▸ low_lt
  have lzz : zz < 2 ^ 256 := hzz ▸ low_lt
  have lxz : xz < 2 ^ 256 := hxz ▸ low_lt
  have lvd : vd < 2 ^ 256 := hvd ▸ less_low
  have lvm : vm < 2 ^ 256 := hvm ▸ low_lt
  have ls0 : s0 < 2 ^ 256 := hs0 ▸ low_lt
  have lsm : sm < 2 ^ 256 := hsm ▸ low_lt
  have lvf : vf < 2 ^ 256 := hvf ▸ low_lt
  have lr1 : r1 < 2 ^ 256 := hr1 ▸ low_lt
  have lr2 : r2 < 2 ^ 256 := hr2 ▸ low_lt
  have kxx := Lib.hid (fun V => fe_By x x V hx hx)
  rw [hxx] at kxx
  have kzz := Lib.hid (fun V => fe_By z z V hz hz)
  rw [hzz] at kzz
  have kxz := Lib.hid (fun V => fe_By x z V hx hz)
  rw [hxz] at kxz
  have kvd := Lib.hid (fun V => fe_Less xx zz V lxx lzz)
  rw [show (xx + 4 * fP - zz) % fP = vd from hvd] at kvd
  have kvm := Lib.hid (fun V => fe_By 486662 xz V hc486 lxz)
  rw [hvm] at kvm
  have ks0 := Lib.hid (fun V => fe_Plus xx vm V lxx lvm)
  rw [hs0] at ks0
  have ksm := Lib.hid (fun V => fe_Plus s0 zz V ls0 lzz)
  rw [hsm] at ksm
  have kvf := Lib.hid (fun V => fe_By 4 xz V hc4 lxz)
  rw [hvf] at kvf
  have kr1 := Lib.hid (fun V => fe_By vd vd V lvd lvd)
  rw [hr1] at kr1
  have kr2 := Lib.hid (fun V => fe_By vf sm V lvf lsm)
  rw [hr2] at kr2
  have kD := Lib.hid (fun (v : Value) V (h : ∃ g, v = .slice (some ⟨g, 0, none⟩) 1 1 ∧ At V g .u64 1 (fun _ => 486662)) => digits_one V (by omega) h)
  have kFe := Lib.hid (fun (v : Value) V (h : IsN V v 486662) => ref_feOf V (h.toV (lt_big hc486 (by omega))))
  have h1 := Lib.hid (fun V => ref_small 4 V (by omega))
  clear hc486 hc4 hx hz hxx lxx hzz lzz hxz lxz hvd lvd hvm lvm hs0 ls0 hsm lsm hvf lvf hr1 lr1 hr2 lr2
  unfold feV at kFe h1 kxx kzz kxz kvd kvm ks0 ksm kvf kr1 kr2
  rw [show ((4 : Nat) : Int) = 4 from rfl] at h1
  unfold f2V
  have hcr := arrK_cells .i64 32 (cat2L (dgt r1) (dgt r2))
  have hcz := arrK_cells .i64 32 (cat2L (fun _ => 0) (fun _ => 0))
  have hc0 := arrK_cells .i64 16 fun _ => 0
  have hcxx := arrK_cells .i64 16 (dgt xx)
  have hczz := arrK_cells .i64 16 (dgt zz)
  have hcxz := arrK_cells .i64 16 (dgt xz)
  have hcvd := arrK_cells .i64 16 (dgt vd)
  have hcsm := arrK_cells .i64 16 (dgt sm)
  have hL0 : Below w.heap.size w ((w.alloc (Obj.cells (arrK .i64 32 (cat2L (dgt x) (dgt z))) 135)).alloc (Obj.cells (arrK .i64 32 (cat2L (fun _ => 0) (fun _ => 0))) 135)) := by go_grown
  have hA0 : At ((w.alloc (Obj.cells (arrK .i64 32 (cat2L (dgt x) (dgt z))) 135)).alloc (Obj.cells (arrK .i64 32 (cat2L (fun _ => 0) (fun _ => 0))) 135)) w.heap.size .i64 32 (cat2L (dgt x) (dgt z)) := (At.new _ rfl).old _
  have hR0 : Row ((w.alloc (Obj.cells (arrK .i64 32 (cat2L (dgt x) (dgt z))) 135)).alloc (Obj.cells (arrK .i64 32 (cat2L (fun _ => 0) (fun _ => 0))) 135)) (w.heap.size + 1) 32 := (At.new (k := .i64) (f := (cat2L (fun _ => 0) (fun _ => 0))) _ (by simp)).row
  have hL := Lib.hid hL0
  have hA := Lib.hid hA0
  have hR := Lib.hid hR0
  clear hL0 hA0 hR0
  go_enter Try.func154, Try.ntmps154
  go_upto_region 1 with (fail)
  generalize (w.alloc _).alloc _ = W0 at *
  generalize ha0 : Act.mk _ _ = a0
  have e1 : a0.tmps[1]?.getD undef = .pointer (some ⟨w.heap.size, 0, none⟩) := by rw [← ha0]; rfl
  have hz0 : a0.tmps.size = 44 := by rw [← ha0]; rfl
  have hha0 := Lib.hid ha0
  clear ha0
  refine wp_region_fresh ⟨fun jx_ => match jx_ with | 0 => some (.pointer (some ⟨w.heap.size, 0, none⟩)) | 1 => some (.agg (arrK .i64 16 (dgt x))) | 2 => some (.pointer (some ⟨w.heap.size, 0, none⟩)) | 3 => some (.agg (arrK .i64 16 (dgt x))) | 4 => some (.agg (arrK .i64 16 (dgt xx))) | 5 => some (.pointer (some ⟨w.heap.size, 16, none⟩)) | 6 => some (.agg (arrK .i64 16 (dgt z))) | 7 => some (.pointer (some ⟨w.heap.size, 16, none⟩)) | 8 => some (.agg (arrK .i64 16 (dgt z))) | 9 => some (.agg (arrK .i64 16 (dgt zz))) | 10 => some (.pointer (some ⟨w.heap.size, 0, none⟩)) | 11 => some (.agg (arrK .i64 16 (dgt x))) | 12 => some (.pointer (some ⟨w.heap.size, 16, none⟩)) | 13 => some (.agg (arrK .i64 16 (dgt z))) | 14 => some (.agg (arrK .i64 16 (dgt xz))) | _ => none, fun jx_ => match jx_ with | 15 => some 16 | 16 => some 16 | 17 => some 16 | _ => none, fun jx_ => match jx_ with | 18 => some 15 | 19 => some 16 | 20 => some 17 | _ => none, fun jx_ => match jx_ with | 18 => arrK .i64 16 (dgt xx) | 19 => arrK .i64 16 (dgt zz) | 20 => arrK .i64 16 (dgt xz) | _ => #[]⟩ (by kernel_rfl) (by kernel_rfl) (by kernel_rfl) (slotsOk_of hz0 (by kernel_rfl)) rfl ⟨?_, ?_, ?_, ?_, ?_, ?_, ?_, ?_, ?_, ?_, ?_, ?_, ?_, ?_, ?_, ?_, ?_, ?_, ?_, ?_, ?_, trivial⟩ ?_
  · refine fstep_val rfl rfl (calm_step rfl fun aa ω κ hb hu hc hK => ?_)
    have h1 : aa.tmps[1]?.getD undef = .pointer (some ⟨w.heap.size, 0, none⟩) := (hu 1 rfl).trans e1
    have hk := Lib.hid (fun w1 (h : Below ω.heap.size ω w1) => hK (.pointer (some ⟨w.heap.size, 0, none⟩)) w1 rfl h)
    clear hK hu hc
    go_simp
    exact hk.out _ (Below.refl _ _)
  · refine fstep_val rfl rfl (calm_step rfl fun aa ω κ hb hu hc hK => ?_)
    have h8 : aa.tmps[8]?.getD undef = .pointer (some ⟨w.heap.size, 0, none⟩) := hc 0 8 rfl rfl
    have hk := Lib.hid (fun w1 (h : Below ω.heap.size ω w1) => hK (.agg (arrK .i64 16 (dgt x))) w1 rfl h)
    clear hK hu hc
    have hl := f2_0 (hA.out.step hb)
    have hl1 := hl.1
    have hl2 := hl.2
    go_simp
    exact hk.out _ (Below.refl _ _)
  · refine fstep_val rfl rfl (calm_step rfl fun aa ω κ hb hu hc hK => ?_)
    have h1 : aa.tmps[1]?.getD undef = .pointer (some ⟨w.heap.size, 0, none⟩) := (hu 1 rfl).trans e1
    have hk := Lib.hid (fun w1 (h : Below ω.heap.size ω w1) => hK (.pointer (some ⟨w.heap.size, 0, none⟩)) w1 rfl h)
    clear hK hu hc
    go_simp
    exact hk.out _ (Below.refl _ _)
  · refine fstep_val rfl rfl (calm_step rfl fun aa ω κ hb hu hc hK => ?_)
    have h10 : aa.tmps[10]?.getD undef = .pointer (some ⟨w.heap.size, 0, none⟩) := hc 2 10 rfl rfl
    have hk := Lib.hid (fun w1 (h : Below ω.heap.size ω w1) => hK (.agg (arrK .i64 16 (dgt x))) w1 rfl h)
    clear hK hu hc
    have hl := f2_0 (hA.out.step hb)
    have hl1 := hl.1
    have hl2 := hl.2
    go_simp
    exact hk.out _ (Below.refl _ _)
  · refine fstep_val rfl rfl (calm_step rfl fun aa ω κ hb hu hc hK => ?_)
    have h9 : aa.tmps[9]?.getD undef = .agg (arrK .i64 16 (dgt x)) := hc 1 9 rfl rfl
    have h11 : aa.tmps[11]?.getD undef = .agg (arrK .i64 16 (dgt x)) := hc 3 11 rfl rfl
    have hk := Lib.hid (fun w1 (h : Below ω.heap.size ω w1) => hK (.agg (arrK .i64 16 (dgt xx))) w1 rfl h)
    clear hK hu hc
    go_simp
    go_at_call 25
    refine (kxx.out _).mono ?_
    rintro e w1 ⟨rfl, hb1⟩
    exact hk.out _ hb1
  · refine fstep_val rfl rfl (calm_step rfl fun aa ω κ hb hu hc hK => ?_)
    have h1 : aa.tmps[1]?.getD undef = .pointer (some ⟨w.heap.size, 0, none⟩) := (hu 1 rfl).trans e1
    have hk := Lib.hid (fun w1 (h : Below ω.heap.size ω w1) => hK (.pointer (some ⟨w.heap.size, 16, none⟩)) w1 rfl h)
    clear hK hu hc
    go_simp
    exact hk.out _ (Below.refl _ _)
  · refine fstep_val rfl rfl (calm_step rfl fun aa ω κ hb hu hc hK => ?_)
    have h13 : aa.tmps[13]?.getD undef = .pointer (some ⟨w.heap.size, 16, none⟩) := hc 5 13 rfl rfl
    have hk := Lib.hid (fun w1 (h : Below ω.heap.size ω w1) => hK (.agg (arrK .i64 16 (dgt z))) w1 rfl h)
    clear hK hu hc
    have hl := f2_1 (hA.out.step hb)
    have hl1 := hl.1
    have hl2 := hl.2
    go_simp
    exact hk.out _ (Below.refl _ _)
  · refine fstep_val rfl rfl (calm_step rfl fun aa ω κ hb hu hc hK => ?_)
    have h1 : aa.tmps[1]?.getD undef = .pointer (some ⟨w.heap.size, 0, none⟩) := (hu 1 rfl).trans e1
    have hk := Lib.hid (fun w1 (h : Below ω.heap.size ω w1) => hK (.pointer (some ⟨w.heap.size, 16, none⟩)) w1 rfl h)
    clear hK hu hc
    go_simp
    exact hk.out _ (Below.refl _ _)
  · refine fstep_val rfl rfl (calm_step rfl fun aa ω κ hb hu hc hK => ?_)
    have h15 : aa.tmps[15]?.getD undef = .pointer (some ⟨w.heap.size, 16, none⟩) := hc 7 15 rfl rfl
    have hk := Lib.hid (fun w1 (h : Below ω.heap.size ω w1) => hK (.agg (arrK .i64 16 (dgt z))) w1 rfl h)
    clear hK hu hc
    have hl := f2_1 (hA.out.step hb)
    have hl1 := hl.1
    have hl2 := hl.2
    go_simp
    exact hk.out _ (Below.refl _ _)
  · refine fstep_val rfl rfl (calm_step rfl fun aa ω κ hb hu hc hK => ?_)
    have h14 : aa.tmps[14]?.getD undef = .agg (arrK .i64 16 (dgt z)) := hc 6 14 rfl rfl
    have h16 : aa.tmps[16]?.getD undef = .agg (arrK .i64 16 (dgt z)) := hc 8 16 rfl rfl
    have hk := Lib.hid (fun w1 (h : Below ω.heap.size ω w1) => hK (.agg (arrK .i64 16 (dgt zz))) w1 rfl h)
    clear hK hu hc
    go_simp
    go_at_call 25
    refine (kzz.out _).mono ?_
    rintro e w1 ⟨rfl, hb1⟩
    exact hk.out _ hb1
  · refine fstep_val rfl rfl (calm_step rfl fun aa ω κ hb hu hc hK => ?_)
    have h1 : aa.tmps[1]?.getD undef = .pointer (some ⟨w.heap.size, 0, none⟩) := (hu 1 rfl).trans e1
    have hk := Lib.hid (fun w1 (h : Below ω.heap.size ω w1) => hK (.pointer (some ⟨w.heap.size, 0, none⟩)) w1 rfl h)
    clear hK hu hc
    go_simp
    exact hk.out _ (Below.refl _ _)
  · refine fstep_val rfl rfl (calm_step rfl fun aa ω κ hb hu hc hK => ?_)
    have h18 : aa.tmps[18]?.getD undef = .pointer (some ⟨w.heap.size, 0, none⟩) := hc 10 18 rfl rfl
    have hk := Lib.hid (fun w1 (h : Below ω.heap.size ω w1) => hK (.agg (arrK .i64 16 (dgt x))) w1 rfl h)
    clear hK hu hc
    have hl := f2_0 (hA.out.step hb)
    have hl1 := hl.1
    have hl2 := hl.2
    go_simp
    exact hk.out _ (Below.refl _ _)
  · refine fstep_val rfl rfl (calm_step rfl fun aa ω κ hb hu hc hK => ?_)
    have h1 : aa.tmps[1]?.getD undef = .pointer (some ⟨w.heap.size, 0, none⟩) := (hu 1 rfl).trans e1
    have hk := Lib.hid (fun w1 (h : Below ω.heap.size ω w1) => hK (.pointer (some ⟨w.heap.size, 16, none⟩)) w1 rfl h)
    clear hK hu hc
    go_simp
    exact hk.out _ (Below.refl _ _)
  · refine fstep_val rfl rfl (calm_step rfl fun aa ω κ hb hu hc hK => ?_)
    have h20 : aa.tmps[20]?.getD undef = .pointer (some ⟨w.heap.size, 16, none⟩) := hc 12 20 rfl rfl
    have hk := Lib.hid (fun w1 (h : Below ω.heap.size ω w1) => hK (.agg (arrK .i64 16 (dgt z))) w1 rfl h)
    clear hK hu hc
    have hl := f2_1 (hA.out.step hb)
    have hl1 := hl.1
    have hl2 := hl.2
    go_simp
    exact hk.out _ (Below.refl _ _)
  · refine fstep_val rfl rfl (calm_step rfl fun aa ω κ hb hu hc hK => ?_)
    have h19 : aa.tmps[19]?.getD undef = .agg (arrK .i64 16 (dgt x)) := hc 11 19 rfl rfl
    have h21 : aa.tmps[21]?.getD undef = .agg (arrK .i64 16 (dgt z)) := hc 13 21 rfl rfl
    have hk := Lib.hid (fun w1 (h : Below ω.heap.size ω w1) => hK (.agg (arrK .i64 16 (dgt xz))) w1 rfl h)
    clear hK hu hc
    go_simp
    go_at_call 25
    refine (kxz.out _).mono ?_
    rintro e w1 ⟨rfl, hb1⟩
    exact hk.out _ hb1
  · refine fstep_al (n := 16) rfl rfl fun aa ω κ hK => ?_
    have hk := Lib.hid hK
    clear hK
    go_simp
    exact hk.out _ _ hc0
  · refine fstep_al (n := 16) rfl rfl fun aa ω κ hK => ?_
    have hk := Lib.hid hK
    clear hK
    go_simp
    exact hk.out _ _ hc0
  · refine fstep_al (n := 16) rfl rfl fun aa ω κ hK => ?_
    have hk := Lib.hid hK
    clear hK
    go_simp
    exact hk.out _ _ hc0
  · refine fstep_st (j := 15) (n := 16) (d := 3) rfl rfl rfl rfl rfl hcxx.1 rfl rfl fun aa ω κ g hb hu hc hp hr hK => ?_
    have h12 : aa.tmps[12]?.getD undef = .agg (arrK .i64 16 (dgt xx)) := hc 4 12 rfl rfl
    have hk := Lib.hid hK
    clear hK hu hc
    have hcc := hcxx
    go_simp
    exact hk.out undef
  · refine fstep_st (j := 16) (n := 16) (d := 4) rfl rfl rfl rfl rfl hczz.1 rfl rfl fun aa ω κ g hb hu hc hp hr hK => ?_
    have h17 : aa.tmps[17]?.getD undef = .agg (arrK .i64 16 (dgt zz)) := hc 9 17 rfl rfl
    have hk := Lib.hid hK
    clear hK hu hc
    have hcc := hczz
    go_simp
    exact hk.out undef
  · refine fstep_st (j := 17) (n := 16) (d := 5) rfl rfl rfl rfl rfl hcxz.1 rfl rfl fun aa ω κ g hb hu hc hp hr hK => ?_
    have h22 : aa.tmps[22]?.getD undef = .agg (arrK .i64 16 (dgt xz)) := hc 14 22 rfl rfl
    have hk := Lib.hid hK
    clear hK hu hc
    have hcc := hcxz
    go_simp
    exact hk.out undef
  · intro a1 w1 G I
    have ha0 := hha0.out
    subst ha0
    have he := act_patch (n := 44) [false, false, false, true, true, true, false, false, true, true, true, true, true, true, true, true, true, true, true, true, true, true, true, false, false, false, false, false, false, false, false, false, false, false, false, false, false, false, false, false, false, false, false, false] rfl (by kernel_rfl) I.un I.sz I.df
    simp only [patch, cond_true, cond_false, Nat.reduceAdd] at he
    have hal3 := I.al 15 3 16 rfl rfl rfl
    have hal4 := I.al 16 4 16 rfl rfl rfl
    have hal5 := I.al 17 5 16 rfl rfl rfl
    replace hA := Lib.hid (hA.out.step I.bel)
    replace hR := Lib.hid (row_below hR.out I.bel hR.out.lt)
    replace hL := Lib.hid (below_step I.bel hL.out (Nat.le_refl _))
    have hX3 := Lib.hid (show At w1 (G 15) .i64 16 (dgt xx) from ⟨(I.blk 15 16 rfl rfl).2, (I.row 18 15 rfl rfl).2.2⟩)
    have hX4 := Lib.hid (show At w1 (G 16) .i64 16 (dgt zz) from ⟨(I.blk 16 16 rfl rfl).2, (I.row 19 16 rfl rfl).2.2⟩)
    have hX5 := Lib.hid (show At w1 (G 17) .i64 16 (dgt xz) from ⟨(I.blk 17 16 rfl rfl).2, (I.row 20 17 rfl rfl).2.2⟩)
    clear kxx kzz kxz
    clear I hz0 hha0 e1
    rw [he]
    clear he
    rw [hal3]
    rw [hal4]
    rw [hal5]
    clear hal3 hal4 hal5
    generalize a1.tmps[8]?.getD undef = x8 at *
    generalize a1.tmps[9]?.getD undef = x9 at *
    generalize a1.tmps[10]?.getD undef = x10 at *
    generalize a1.tmps[11]?.getD undef = x11 at *
    generalize a1.tmps[12]?.getD undef = x12 at *
    generalize a1.tmps[13]?.getD undef = x13 at *
    generalize a1.tmps[14]?.getD undef = x14 at *
    generalize a1.tmps[15]?.getD undef = x15 at *
    generalize a1.tmps[16]?.getD undef = x16 at *
    generalize a1.tmps[17]?.getD undef = x17 at *
    generalize a1.tmps[18]?.getD undef = x18 at *
    generalize a1.tmps[19]?.getD undef = x19 at *
    generalize a1.tmps[20]?.getD undef = x20 at *
    generalize a1.tmps[21]?.getD undef = x21 at *
    generalize a1.tmps[22]?.getD undef = x22 at *
    obtain ⟨g3, hgz⟩ : ∃ g, G 15 = g := ⟨_, rfl⟩
    rw [hgz] at hX3 ⊢
    clear hgz
    obtain ⟨g4, hgz⟩ : ∃ g, G 16 = g := ⟨_, rfl⟩
    rw [hgz] at hX4 ⊢
    clear hgz
    obtain ⟨g5, hgz⟩ : ∃ g, G 17 = g := ⟨_, rfl⟩
    rw [hgz] at hX5 ⊢
    clear hgz
    generalize w1 = W1 at *
    go_upto_region 2 with (fail)
    have hr1 := hX3.out.row
    have hr2 := hX3.out.eq
    have hr3 := hX4.out.row
    have hr4 := hX4.out.eq
    go_upto_region 3 with (fail)
    refine (kvd.out _).mono ?_
    rintro e w2 ⟨rfl, hb⟩
    replace hR := Lib.hid (row_below hR.out hb hR.out.lt)
    replace hL := Lib.hid (below_step hb hL.out (Nat.le_refl _))
    replace hX3 := Lib.hid (hX3.out.step hb)
    replace hX4 := Lib.hid (hX4.out.step hb)
    replace hX5 := Lib.hid (hX5.out.step hb)
    clear hr1 hr2 hr3 hr4 hb hA kvd
    have hlt := hR.out.lt
    replace hR := Lib.hid ((row_old (o := (Obj.cells (arrK .i64 16 (dgt vd)) 26)) hR.out.lt).2 hR.out)
    replace hL := Lib.hid (Below.trans hL.out ((below_alloc w2 (Obj.cells (arrK .i64 16 (dgt vd)) 26)).mono hL.out.size))
    replace hX3 := Lib.hid (hX3.out.old (Obj.cells (arrK .i64 16 (dgt vd)) 26))
    replace hX4 := Lib.hid (hX4.out.old (Obj.cells (arrK .i64 16 (dgt vd)) 26))
    replace hX5 := Lib.hid (hX5.out.old (Obj.cells (arrK .i64 16 (dgt vd)) 26))
    have hX6 := Lib.hid (At.new (w := w2) (k := .i64) (m := 16) (f := dgt vd) 26 rfl)
    dsimp only
    go_upto_region 3 with (fail)
    obtain ⟨g6, hg⟩ : ∃ g, w2.heap.size = g := ⟨_, rfl⟩
    rw [hg] at hX6 hlt ⊢
    clear hg hlt
    generalize w2.alloc _ = W2 at *
    obtain ⟨b2, hb2'⟩ : ∃ b, W2.heap.size = b := ⟨_, rfl⟩
    have hb2 := Lib.hid hb2'
    clear hb2'
    generalize ha0 : Act.mk _ _ = a0
    have e3 : a0.tmps[3]?.getD undef = .pointer (some ⟨g3, 0, none⟩) := by rw [← ha0]; rfl
    have e4 : a0.tmps[4]?.getD undef = .pointer (some ⟨g4, 0, none⟩) := by rw [← ha0]; rfl
    have e5 : a0.tmps[5]?.getD undef = .pointer (some ⟨g5, 0, none⟩) := by rw [← ha0]; rfl
    have hz0 : a0.tmps.size = 44 := by rw [← ha0]; rfl
    have hha0 := Lib.hid ha0
    clear ha0
    refine wp_region_tail (fun jx_ => match jx_ with | 0 => SRel.is (.agg (arrK .i64 16 (dgt xx))) | 1 => SRel.sl1 486662 | 2 => SRel.fN 486662 | 3 => SRel.is (.agg (arrK .i64 16 (dgt 486662))) | 4 => SRel.is (.agg (arrK .i64 16 (dgt xz))) | 5 => SRel.is (.agg (arrK .i64 16 (dgt vm))) | 6 => SRel.is (.agg (arrK .i64 16 (dgt s0))) | 7 => SRel.is (.agg (arrK .i64 16 (dgt zz))) | 8 => SRel.is (.agg (arrK .i64 16 (dgt sm))) | 9 => SRel.nb b2 16 | 10 => SRel.any | _ => SRel.any) 10 (by kernel_rfl) (by kernel_rfl) (by kernel_rfl) (slotsOk_of hz0 (by kernel_rfl)) (by kernel_rfl) ⟨?_, ?_, ?_, ?_, ?_, ?_, ?_, ?_, ?_, ?_, ?_, trivial⟩ (of_decide_eq_true (by kernel_rfl))
    · rw [if_neg (by decide)]
      refine calmT_step rfl fun a ω κ hb hu hc hK => ?_
      have h3 : a.tmps[3]?.getD undef = .pointer (some ⟨g3, 0, none⟩) := (hu 3 rfl).trans e3
      have hk := Lib.hid (fun w1 (h : Below ω.heap.size ω w1) => hK (.agg (arrK .i64 16 (dgt xx))) w1 rfl h)
      clear hK hu hc
      have hr1 := (hX3.out.step hb).row
      have hr2 := (hX3.out.step hb).eq
      go_simp
      exact hk.out _ (Below.refl _ _)
    · rw [if_neg (by decide)]
      refine calmT_step rfl fun a ω κ hb hu hc hK => ?_
      have hk := Lib.hid (fun v w1 (hv : (SRel.sl1 486662).p v w1) (h : Below ω.heap.size ω w1) => hK v w1 hv h)
      clear hK hu hc
      go_simp
      exact hk.out _ _ ⟨_, rfl, At.new (k := .u64) (m := 1) (f := fun _ => 486662) _ rfl⟩ (below_alloc _ _)
    · rw [if_neg (by decide)]
      refine calmT_step rfl fun a ω κ hb hu hc hK => ?_
      have h27 : (SRel.sl1 486662).p (a.tmps[27]?.getD undef) ω := hc 1 27 rfl rfl
      have hk := Lib.hid (fun v w1 (hv : (SRel.fN 486662).p v w1) (h : Below ω.heap.size ω w1) => hK v w1 hv h)
      clear hK hu hc
      go_simp
      go_at_call 106
      refine (kD.out _ _ h27).mono ?_
      rintro e w1 ⟨u, rfl, hu1, hb1⟩
      exact hk.out _ _ hu1 hb1
    · rw [if_neg (by decide)]
      refine calmT_step rfl fun a ω κ hb hu hc hK => ?_
      have h28 : (SRel.fN 486662).p (a.tmps[28]?.getD undef) ω := hc 2 28 rfl rfl
      have hk := Lib.hid (fun w1 (h : Below ω.heap.size ω w1) => hK (.agg (arrK .i64 16 (dgt 486662))) w1 rfl h)
      clear hK hu hc
      go_simp
      go_at_call 85
      refine (kFe.out _ _ h28).mono ?_
      rintro e w1 ⟨rfl, hb1⟩
      exact hk.out _ hb1
    · rw [if_neg (by decide)]
      refine calmT_step rfl fun a ω κ hb hu hc hK => ?_
      have h5 : a.tmps[5]?.getD undef = .pointer (some ⟨g5, 0, none⟩) := (hu 5 rfl).trans e5
      have hk := Lib.hid (fun w1 (h : Below ω.heap.size ω w1) => hK (.agg (arrK .i64 16 (dgt xz))) w1 rfl h)
      clear hK hu hc
      have hr1 := (hX5.out.step hb).row
      have hr2 := (hX5.out.step hb).eq
      go_simp
      exact hk.out _ (Below.refl _ _)
    · rw [if_neg (by decide)]
      refine calmT_step rfl fun a ω κ hb hu hc hK => ?_
      have h29 : a.tmps[29]?.getD undef = .agg (arrK .i64 16 (dgt 486662)) := hc 3 29 rfl rfl
      have h30 : a.tmps[30]?.getD undef = .agg (arrK .i64 16 (dgt xz)) := hc 4 30 rfl rfl
      have hk := Lib.hid (fun w1 (h : Below ω.heap.size ω w1) => hK (.agg (arrK .i64 16 (dgt vm))) w1 rfl h)
      clear hK hu hc
      go_simp
      go_at_call 25
      refine (kvm.out _).mono ?_
      rintro e w1 ⟨rfl, hb1⟩
      exact hk.out _ hb1
    · rw [if_neg (by decide)]
      refine calmT_step rfl fun a ω κ hb hu hc hK => ?_
      have h26 : a.tmps[26]?.getD undef = .agg (arrK .i64 16 (dgt xx)) := hc 0 26 rfl rfl
      have h31 : a.tmps[31]?.getD undef = .agg (arrK .i64 16 (dgt vm)) := hc 5 31 rfl rfl
      have hk := Lib.hid (fun w1 (h : Below ω.heap.size ω w1) => hK (.agg (arrK .i64 16 (dgt s0))) w1 rfl h)
      clear hK hu hc
      go_simp
      go_at_call 21
      refine (ks0.out _).mono ?_
      rintro e w1 ⟨rfl, hb1⟩
      exact hk.out _ hb1
    · rw [if_neg (by decide)]
      refine calmT_step rfl fun a ω κ hb hu hc hK => ?_
      have h4 : a.tmps[4]?.getD undef = .pointer (some ⟨g4, 0, none⟩) := (hu 4 rfl).trans e4
      have hk := Lib.hid (fun w1 (h : Below ω.heap.size ω w1) => hK (.agg (arrK .i64 16 (dgt zz))) w1 rfl h)
      clear hK hu hc
      have hr1 := (hX4.out.step hb).row
      have hr2 := (hX4.out.step hb).eq
      go_simp
      exact hk.out _ (Below.refl _ _)
    · rw [if_neg (by decide)]
      refine calmT_step rfl fun a ω κ hb hu hc hK => ?_
      have h32 : a.tmps[32]?.getD undef = .agg (arrK .i64 16 (dgt s0)) := hc 6 32 rfl rfl
      have h33 : a.tmps[33]?.getD undef = .agg (arrK .i64 16 (dgt zz)) := hc 7 33 rfl rfl
      have hk := Lib.hid (fun w1 (h : Below ω.heap.size ω w1) => hK (.agg (arrK .i64 16 (dgt sm))) w1 rfl h)
      clear hK hu hc
      go_simp
      go_at_call 21
      refine (ksm.out _).mono ?_
      rintro e w1 ⟨rfl, hb1⟩
      exact hk.out _ hb1
    · rw [if_neg (by decide)]
      refine calmT_step rfl fun a ω κ hb hu hc hK => ?_
      have hk := Lib.hid (fun v w1 (hv : (SRel.nb b2 16).p v w1) (h : Below ω.heap.size ω w1) => hK v w1 hv h)
      clear hK hu hc
      go_simp
      exact hk.out _ _ ⟨_, rfl, hb2.out ▸ hb.size, (row_new rfl).2 hc0.1⟩ (below_alloc _ _)
    · rw [if_pos rfl]
      refine last_of rfl fun aa ω hb hu hsz hdf hc => ?_
      have h7 : (SRel.nb b2 16).p (aa.tmps[7]?.getD undef) ω := hc 9 7 (by decide) rfl
      have h34 : aa.tmps[34]?.getD undef = .agg (arrK .i64 16 (dgt sm)) := hc 8 34 (by decide) rfl
      have hHz := Lib.hid (And.intro hu (And.intro hsz hdf))
      clear hc hu hsz hdf hz0
      obtain ⟨g7, hg7, hge, hrow⟩ := h7
      have b2e := hb2.out
      have q3 := hX3.out.lt
      have q4 := hX4.out.lt
      have q5 := hX5.out.lt
      have q6 := hX6.out.lt
      have qR := hR.out.lt
      have qL := hL.out.size
      replace hR := Lib.hid ((row_setRow_far (c' := arrK .i64 16 (dgt sm)) (show w.heap.size + 1 ≠ g7 by omega)).2 (row_below hR.out hb hR.out.lt))
      replace hL := Lib.hid (below_setRow (c := arrK .i64 16 (dgt sm)) (below_step hb hL.out (Nat.le_refl _)) (show w.heap.size ≤ g7 by omega))
      replace hX5 := Lib.hid ((hX5.out.step hb).far (c := arrK .i64 16 (dgt sm)) (show g5 ≠ g7 by omega))
      replace hX6 := Lib.hid ((hX6.out.step hb).far (c := arrK .i64 16 (dgt sm)) (show g6 ≠ g7 by omega))
      have hX7 := Lib.hid (At.put (k := .i64) (f := dgt sm) hrow)
      clear q3 q4 q5 q6 qR qL b2e hge
      go_simp
      have ha0 := hha0.out
      subst ha0
      have he := act_patchT (n := 44) 10 [false, false, false, false, false, false, false, true, false, false, false, false, false, false, false, false, false, false, false, false, false, false, false, false, false, false, true, true, true, true, true, true, true, true, true, false, false, false, false, false, false, false, false, false] rfl (by kernel_rfl) hHz.out.1 hHz.out.2.1 hHz.out.2.2
      simp only [patch, cond_true, cond_false, Nat.reduceAdd] at he
      clear hHz hha0 e3 e4 e5
      rw [he]
      clear he
      generalize aa.tmps[7]?.getD undef = x7 at *
      generalize aa.tmps[26]?.getD undef = x26 at *
      generalize aa.tmps[27]?.getD undef = x27 at *
      generalize aa.tmps[28]?.getD undef = x28 at *
      generalize aa.tmps[29]?.getD undef = x29 at *
      generalize aa.tmps[30]?.getD undef = x30 at *
      generalize aa.tmps[31]?.getD undef = x31 at *
      generalize aa.tmps[32]?.getD undef = x32 at *
      generalize aa.tmps[33]?.getD undef = x33 at *
      generalize aa.tmps[34]?.getD undef = x34 at *
      subst hg7
      go_upto_region 4 with (fail)
      generalize ω.setRow _ _ = W7 at *
      generalize ha0 : Act.mk _ _ = a0
      have e2 : a0.tmps[2]?.getD undef = .pointer (some ⟨w.heap.size + 1, 0, none⟩) := by rw [← ha0]; rfl
      have e5 : a0.tmps[5]?.getD undef = .pointer (some ⟨g5, 0, none⟩) := by rw [← ha0]; rfl
      have e6 : a0.tmps[6]?.getD undef = .pointer (some ⟨g6, 0, none⟩) := by rw [← ha0]; rfl
      have e7 : a0.tmps[7]?.getD undef = .pointer (some ⟨g7, 0, none⟩) := by rw [← ha0]; rfl
      have hz0 : a0.tmps.size = 44 := by rw [← ha0]; rfl
      have hha0 := Lib.hid ha0
      clear ha0
      refine wp_region_one (fun jx_ => match jx_ with | 0 => some (.agg (arrK .i64 16 (dgt vd))) | 1 => some (.agg (arrK .i64 16 (dgt vd))) | 2 => some (.agg (arrK .i64 16 (dgt r1))) | 3 => some (.agg (arrK .i64 16 (dgt 4))) | 4 => some (.agg (arrK .i64 16 (dgt xz))) | 5 => some (.agg (arrK .i64 16 (dgt vf))) | 6 => some (.agg (arrK .i64 16 (dgt sm))) | 7 => some (.agg (arrK .i64 16 (dgt r2))) | 8 => some (.agg (arrK .i64 32 (cat2L (dgt r1) (dgt r2)))) | _ => none) 9 ((w.heap.size + 1)) 32 (arrK .i64 32 (cat2L (dgt r1) (dgt r2))) (by kernel_rfl) (by kernel_rfl) (by kernel_rfl) (slotsOk_of hz0 (by kernel_rfl)) (of_decide_eq_true (by kernel_rfl)) hR.out ⟨?_, ?_, ?_, ?_, ?_, ?_, ?_, ?_, ?_, ?_, trivial⟩ ?_
      · refine one_before (by decide) (by kernel_rfl) (calm_step rfl fun aa ω κ hb hu hc hK => ?_)
        have h6 : aa.tmps[6]?.getD undef = .pointer (some ⟨g6, 0, none⟩) := (hu 6 rfl).trans e6
        have hk := Lib.hid (fun w1 (h : Below ω.heap.size ω w1) => hK (.agg (arrK .i64 16 (dgt vd))) w1 rfl h)
        clear hK hu hc
        have hr1 := (hX6.out.step hb).row
        have hr2 := (hX6.out.step hb).eq
        go_simp
        exact hk.out _ (Below.refl _ _)
      · refine one_before (by decide) (by kernel_rfl) (calm_step rfl fun aa ω κ hb hu hc hK => ?_)
        have h6 : aa.tmps[6]?.getD undef = .pointer (some ⟨g6, 0, none⟩) := (hu 6 rfl).trans e6
        have hk := Lib.hid (fun w1 (h : Below ω.heap.size ω w1) => hK (.agg (arrK .i64 16 (dgt vd))) w1 rfl h)
        clear hK hu hc
        have hr1 := (hX6.out.step hb).row
        have hr2 := (hX6.out.step hb).eq
        go_simp
        exact hk.out _ (Below.refl _ _)
      · refine one_before (by decide) (by kernel_rfl) (calm_step rfl fun aa ω κ hb hu hc hK => ?_)
        have h35 : aa.tmps[35]?.getD undef = .agg (arrK .i64 16 (dgt vd)) := hc 0 35 rfl rfl
        have h36 : aa.tmps[36]?.getD undef = .agg (arrK .i64 16 (dgt vd)) := hc 1 36 rfl rfl
        have hk := Lib.hid (fun w1 (h : Below ω.heap.size ω w1) => hK (.agg (arrK .i64 16 (dgt r1))) w1 rfl h)
        clear hK hu hc
        go_simp
        go_at_call 25
        refine (kr1.out _).mono ?_
        rintro e w1 ⟨rfl, hb1⟩
        exact hk.out _ hb1
      · refine one_before (by decide) (by kernel_rfl) (calm_step rfl fun aa ω κ hb hu hc hK => ?_)
        have hk := Lib.hid (fun w1 (h : Below ω.heap.size ω w1) => hK (.agg (arrK .i64 16 (dgt 4))) w1 rfl h)
        clear hK hu hc
        go_simp
        go_at_call 89
        refine (h1.out _).mono ?_
        rintro e w1 ⟨rfl, hb1⟩
        exact hk.out _ hb1
      · refine one_before (by decide) (by kernel_rfl) (calm_step rfl fun aa ω κ hb hu hc hK => ?_)
        have h5 : aa.tmps[5]?.getD undef = .pointer (some ⟨g5, 0, none⟩) := (hu 5 rfl).trans e5
        have hk := Lib.hid (fun w1 (h : Below ω.heap.size ω w1) => hK (.agg (arrK .i64 16 (dgt xz))) w1 rfl h)
        clear hK hu hc
        have hr1 := (hX5.out.step hb).row
        have hr2 := (hX5.out.step hb).eq
        go_simp
        exact hk.out _ (Below.refl _ _)
      · refine one_before (by decide) (by kernel_rfl) (calm_step rfl fun aa ω κ hb hu hc hK => ?_)
        have h38 : aa.tmps[38]?.getD undef = .agg (arrK .i64 16 (dgt 4)) := hc 3 38 rfl rfl
        have h39 : aa.tmps[39]?.getD undef = .agg (arrK .i64 16 (dgt xz)) := hc 4 39 rfl rfl
        have hk := Lib.hid (fun w1 (h : Below ω.heap.size ω w1) => hK (.agg (arrK .i64 16 (dgt vf))) w1 rfl h)
        clear hK hu hc
        go_simp
        go_at_call 25
        refine (kvf.out _).mono ?_
        rintro e w1 ⟨rfl, hb1⟩
        exact hk.out _ hb1
      · refine one_before (by decide) (by kernel_rfl) (calm_step rfl fun aa ω κ hb hu hc hK => ?_)
        have h7 : aa.tmps[7]?.getD undef = .pointer (some ⟨g7, 0, none⟩) := (hu 7 rfl).trans e7
        have hk := Lib.hid (fun w1 (h : Below ω.heap.size ω w1) => hK (.agg (arrK .i64 16 (dgt sm))) w1 rfl h)
        clear hK hu hc
        have hr1 := (hX7.out.step hb).row
        have hr2 := (hX7.out.step hb).eq
        go_simp
        exact hk.out _ (Below.refl _ _)
      · refine one_before (by decide) (by kernel_rfl) (calm_step rfl fun aa ω κ hb hu hc hK => ?_)
        have h40 : aa.tmps[40]?.getD undef = .agg (arrK .i64 16 (dgt vf)) := hc 5 40 rfl rfl
        have h41 : aa.tmps[41]?.getD undef = .agg (arrK .i64 16 (dgt sm)) := hc 6 41 rfl rfl
        have hk := Lib.hid (fun w1 (h : Below ω.heap.size ω w1) => hK (.agg (arrK .i64 16 (dgt r2))) w1 rfl h)
        clear hK hu hc
        go_simp
        go_at_call 25
        refine (kr2.out _).mono ?_
        rintro e w1 ⟨rfl, hb1⟩
        exact hk.out _ hb1
      · refine one_before (by decide) (by kernel_rfl) (calm_step rfl fun aa ω κ hb hu hc hK => ?_)
        have h37 : aa.tmps[37]?.getD undef = .agg (arrK .i64 16 (dgt r1)) := hc 2 37 rfl rfl
        have h42 : aa.tmps[42]?.getD undef = .agg (arrK .i64 16 (dgt r2)) := hc 7 42 rfl rfl
        have hk := Lib.hid (fun w1 (h : Below ω.heap.size ω w1) => hK (.agg (arrK .i64 32 (cat2L (dgt r1) (dgt r2)))) w1 rfl h)
        clear hK hu hc
        exact wp_bldB (v0 := .agg (arrK .i64 16 (dgt r1))) (v1 := .agg (arrK .i64 16 (dgt r2))) rfl (by go_simp) (by go_simp) (build_f2 _ _ _) (hk.out _ (Below.refl _ _))
      · refine one_q (one_write rfl rfl fun aa ω κ hb hu hc hr hK => ?_)
        have h2 : aa.tmps[2]?.getD undef = .pointer (some ⟨w.heap.size + 1, 0, none⟩) := (hu 2 rfl).trans e2
        have h43 : aa.tmps[43]?.getD undef = .agg (arrK .i64 32 (cat2L (dgt r1) (dgt r2))) := hc 8 43 rfl rfl
        have hk := Lib.hid hK
        clear hK hu hc
        have hcc := hcr
        go_simp
        exact hk.out undef
      · intro a1 w1 hb1 hu1 hsz1 hdf1 hv1
        have ha0 := hha0.out
        subst ha0
        have he := act_patch (n := 44) [false, false, false, false, false, false, false, false, false, false, false, false, false, false, false, false, false, false, false, false, false, false, false, false, false, false, false, false, false, false, false, false, false, false, false, true, true, true, true, true, true, true, true, true] rfl (by kernel_rfl) hu1 hsz1 hdf1
        simp only [patch, cond_true, cond_false, Nat.reduceAdd] at he
        have hXz := (At.put (k := .i64) (f := (cat2L (dgt r1) (dgt r2))) hR.out).below hb1 (by simpa using hR.out.lt)
        have hLz := Lib.hid (Below.trans (below_setRow (c := arrK .i64 32 (cat2L (dgt r1) (dgt r2))) hL.out (by omega)) (hb1.mono (by simpa using hL.out.size)))
        clear hR hL hX5 hX6 hX7 kr1 kvf kr2 h1
        clear hb1 hu1 hsz1 hdf1 hv1 hz0 hha0 e2 e5 e6 e7
        rw [he]
        clear he
        generalize a1.tmps[35]?.getD undef = x35 at *
        generalize a1.tmps[36]?.getD undef = x36 at *
        generalize a1.tmps[37]?.getD undef = x37 at *
        generalize a1.tmps[38]?.getD undef = x38 at *
        generalize a1.tmps[39]?.getD undef = x39 at *
        generalize a1.tmps[40]?.getD undef = x40 at *
        generalize a1.tmps[41]?.getD undef = x41 at *
        generalize a1.tmps[42]?.getD undef = x42 at *
        generalize a1.tmps[43]?.getD undef = x43 at *
        go_wp2_with fail
        refine ret_row (p := 2) (ty := 135) (g := (w.heap.size + 1)) rfl Try.underlying135 rfl (by kernel_rfl) rfl hXz.row rfl ?_
        rw [hXz.eq]
        exact ⟨rfl, hLz.out⟩
end Go.Proofs.Ytodcjeaannfbnaa
namespace Go.Proofs.Ytodcjeaannfbnaa
/-- A prime number. -/
def Pr (p : Nat) : Prop := 1 < p ∧ ∀ d, d ∣ p → d = 1 ∨ d = p
theorem Pr.cop {p n : Nat} (h : Pr p) (hn : ¬ p ∣ n) : Nat.Coprime p n := by
  rcases h.2 _ (Nat.gcd_dvd_left p n) with h1 | h1
  · exact h1
  · exact absurd (h1 ▸ Nat.gcd_dvd_right p n) hn
theorem Pr.dvd {p m n : Nat} (h : Pr p) (hd : p ∣ m * n) : p ∣ m ∨ p ∣ n := by
  by_cases hm : p ∣ m
  · exact .inl hm
  · exact .inr ((h.cop hm).dvd_of_dvd_mul_left hd)
/-! Binomials. -/
def ch : Nat → Nat → Nat
  | _, 0 => 1
  | 0, _ + 1 => 0
  | n + 1, k + 1 => ch n k + ch n (k + 1)
theorem ch_zero (n : Nat) : ch n 0 = 1 := by cases n <;> rfl
theorem ch_over : ∀ n k, n < k → ch n k = 0
  | 0, k + 1, _ => rfl
  | n + 1, k + 1, h => by rw [ch, ch_over n k (by omega), ch_over n (k + 1) (by omega)]
theorem ch_self : ∀ n, ch n n = 1
  | 0 => rfl
  | n + 1 => by rw [ch, ch_self n, ch_over n (n + 1) (by omega)]
theorem ch_mul : ∀ n k, (k + 1) * ch (n + 1) (k + 1) = (n + 1) * ch n k
  | 0, 0 => rfl
  | 0, k + 1 => by simp [ch]
  | n + 1, 0 => by
    have h := ch_mul n 0
    have e : ch (n + 1 + 1) (0 + 1) = ch (n + 1) 0 + ch (n + 1) (0 + 1) := rfl
    rw [e, ch_zero]
    rw [ch_zero] at h
    omega
  | n + 1, j + 1 => by
    have h1 := ch_mul n j
    have h2 := ch_mul n (j + 1)
    have e1 : ch (n + 1) (j + 1) = ch n j + ch n (j + 1) := rfl
    have e2 : ch (n + 1 + 1) (j + 1 + 1) = ch (n + 1) (j + 1) + ch (n + 1) (j + 1 + 1) := rfl
    rw [e2]
    generalize ch (n + 1) (j + 1 + 1) = x at *
    generalize ch (n + 1) (j + 1) = y at *
    generalize ch n j = z at *
    generalize ch n (j + 1) = t at *
    grind
def bs (n a : Nat) : Nat → Nat
  | 0 => 0
  | k + 1 => bs n a k + ch n k * a ^ k
theorem bs_succ (n a : Nat) : ∀ k, bs (n + 1) a (k + 1) = a * bs n a k + bs n a (k + 1)
  | 0 => by simp [bs, ch_zero]
  | k + 1 => by
    have ih := bs_succ n a k
    have e1 : bs (n + 1) a (k + 1 + 1) = bs (n + 1) a (k + 1) + ch (n + 1) (k + 1) * a ^ (k + 1) := rfl
    have e2 : bs n a (k + 1 + 1) = bs n a (k + 1) + ch n (k + 1) * a ^ (k + 1) := rfl
    have e3 : bs n a (k + 1) = bs n a k + ch n k * a ^ k := rfl
    have e4 : ch (n + 1) (k + 1) = ch n k + ch n (k + 1) := rfl
    rw [e1, ih, e2, e4, Nat.pow_succ]
    generalize ch n k = x at *
    generalize ch n (k + 1) = y at *
    generalize a ^ k = z at *
    generalize bs n a (k + 1) = s at *
    generalize bs n a k = t at *
    grind
theorem binom (a : Nat) : ∀ n, (a + 1) ^ n = bs n a (n + 1)
  | 0 => by simp [bs, ch]
  | n + 1 => by
    rw [Nat.pow_succ, binom a n, bs_succ]
    have e : bs n a (n + 1 + 1) = bs n a (n + 1) + ch n (n + 1) * a ^ (n + 1) := rfl
    rw [e, ch_over n (n + 1) (by omega), Nat.zero_mul, Nat.mul_add, Nat.mul_one, Nat.mul_comm]
    rfl
theorem ch_dvd {p k : Nat} (h : Pr p) (h0 : 0 < k) (hk : k < p) : p ∣ ch p k := by
  obtain ⟨n, rfl⟩ : ∃ n, p = n + 1 := ⟨p - 1, by omega⟩
  obtain ⟨j, rfl⟩ : ∃ j, k = j + 1 := ⟨k - 1, by omega⟩
  have h1 := ch_mul n j
  have h2 : n + 1 ∣ (j + 1) * ch (n + 1) (j + 1) := ⟨_, h1⟩
  rcases h.dvd h2 with h3 | h3
  · exact absurd (Nat.le_of_dvd (by omega) h3) (by omega)
  · exact h3
theorem bs_mod {p : Nat} (h : Pr p) (a : Nat) : ∀ k, k < p → ∃ m, bs p a (k + 1) = 1 + p * m
  | 0, _ => ⟨0, by simp [bs, ch_zero]⟩
  | k + 1, hk => by
    obtain ⟨m, hm⟩ := bs_mod h a k (by omega)
    obtain ⟨c, hc⟩ := ch_dvd h (k := k + 1) (by omega) hk
    refine ⟨m + c * a ^ (k + 1), ?_⟩
    have e : bs p a (k + 1 + 1) = bs p a (k + 1) + ch p (k + 1) * a ^ (k + 1) := rfl
    rw [e, hm, hc, Nat.mul_add, Nat.mul_assoc, Nat.add_assoc]
/-- Fermat's law. -/
theorem fermat {p : Nat} (h : Pr p) : ∀ a, a ^ p % p = a % p
  | 0 => by rw [Nat.zero_pow (by have := h.1; omega)]
  | a + 1 => by
    have hp := h.1
    obtain ⟨m, hm⟩ := bs_mod h a (p - 1) (by omega)
    have e : bs p a (p + 1) = bs p a p + ch p p * a ^ p := rfl
    rw [show p - 1 + 1 = p by omega] at hm
    rw [binom, e, hm, ch_self, Nat.one_mul, Nat.add_right_comm, Nat.add_mul_mod_self_left, Nat.add_mod, fermat h a, ← Nat.add_mod, Nat.add_comm]
theorem fermat1 {p a : Nat} (h : Pr p) (ha : ¬ p ∣ a) : a ^ (p - 1) % p = 1 := by
  have hp := h.1
  have h1 := fermat h a
  have hpos : 0 < a := by
    rcases Nat.eq_zero_or_pos a with h0 | h0
    · exact absurd (h0 ▸ Nat.dvd_zero p) ha
    · exact h0
  have h2 : a ^ p = a * a ^ (p - 1) := by
    conv => lhs; rw [show p = p - 1 + 1 by omega, Nat.pow_succ]
    exact Nat.mul_comm _ _
  have h3 : 0 < a ^ (p - 1) := Nat.pow_pos hpos
  have h4 : p ∣ a * (a ^ (p - 1) - 1) := by
    rw [Nat.mul_sub, Nat.mul_one, ← h2]
    exact Nat.dvd_of_mod_eq_zero (Nat.sub_mod_eq_zero_of_mod_eq h1)
  have h5 : p ∣ a ^ (p - 1) - 1 := (h.cop ha).dvd_of_dvd_mul_left h4
  obtain ⟨k, hk⟩ := h5
  rw [show a ^ (p - 1) = 1 + p * k by omega, Nat.add_mul_mod_self_left, Nat.mod_eq_of_lt hp]
/-! Pocklington's law. -/
theorem pow_gcd (p c m n : Nat) : c ^ m % p = 1 % p → c ^ n % p = 1 % p → c ^ Nat.gcd m n % p = 1 % p := by
  induction m, n using Nat.gcd.induction with
  | H0 n => intro _ h; rwa [Nat.gcd_zero_left]
  | H1 m n hm ih =>
    intro h1 h2
    rw [Nat.gcd_rec]
    refine ih ?_ h1
    have h3 : c ^ (m * (n / m)) % p = 1 % p := by rw [Nat.pow_mul, Nat.pow_mod, h1, ← Nat.pow_mod, Nat.one_pow]
    have h4 : c ^ n = c ^ (m * (n / m)) * c ^ (n % m) := by rw [← Nat.pow_add, Nat.div_add_mod]
    rw [h4, Nat.mul_mod, h3, ← Nat.mul_mod, Nat.one_mul] at h2
    exact h2
theorem pock1 {N s m a p : Nat} (hs : Pr s) (hN : N - 1 = s * m) (hN1 : 1 < N) (h1 : a ^ (N - 1) % N = 1) (h2 : Nat.gcd (a ^ m % N + N - 1) N = 1) (hp : Pr p) (hd : p ∣ N) : s ∣ p - 1 := by
  have hp1 := hp.1
  refine Classical.byContradiction fun hn => ?_
  have hg := hs.cop hn
  have e1 : (a ^ m) ^ s % p = 1 % p := by
    rw [← Nat.pow_mul, Nat.mul_comm, ← hN, ← Nat.mod_mod_of_dvd _ hd, h1]
  have hc : ¬ p ∣ a ^ m := fun hc => by
    have h3 : p ∣ (a ^ m) ^ s := Nat.dvd_trans hc ⟨(a ^ m) ^ (s - 1), by rw [Nat.mul_comm, ← Nat.pow_succ]; congr 1; have := hs.1; omega⟩
    rw [Nat.mod_eq_zero_of_dvd h3, Nat.mod_eq_of_lt hp1] at e1
    omega
  have e2 : (a ^ m) ^ (p - 1) % p = 1 % p := by rw [fermat1 hp hc, Nat.mod_eq_of_lt hp1]
  have e3 := pow_gcd p (a ^ m) s (p - 1) e1 e2
  rw [hg, Nat.pow_one] at e3
  have h3 : p ∣ a ^ m % N + N - 1 := by
    obtain ⟨k, hk⟩ := hd
    have h4 : (a ^ m % N) % p = 1 % p := by rw [Nat.mod_mod_of_dvd _ ⟨k, hk⟩, e3]
    rw [Nat.mod_eq_of_lt hp1] at h4
    refine Nat.dvd_of_mod_eq_zero ?_
    have h5 := Nat.mod_add_div (a ^ m % N) p
    rw [h4] at h5
    rw [show a ^ m % N + N - 1 = p * (a ^ m % N / p) + p * k by omega, ← Nat.mul_add, Nat.mul_mod_right]
  have h4 := Nat.dvd_gcd h3 hd
  rw [h2] at h4
  have := Nat.le_of_dvd (by omega) h4
  omega
theorem exists_pr : ∀ n, 1 < n → ∃ p, Pr p ∧ p ∣ n := fun n => by
  induction n using Nat.strongRecOn with
  | ind n ih =>
    intro hn
    by_cases h : ∃ d, d ∣ n ∧ d ≠ 1 ∧ d ≠ n
    · obtain ⟨d, hd, h1, h2⟩ := h
      have hle := Nat.le_of_dvd (by omega) hd
      have h0 : d ≠ 0 := fun h0 => by subst h0; have := Nat.eq_zero_of_zero_dvd hd; omega
      obtain ⟨p, hp, hpd⟩ := ih d (by omega) (by omega)
      exact ⟨p, hp, Nat.dvd_trans hpd hd⟩
    · refine ⟨n, ⟨hn, fun d hd => ?_⟩, Nat.dvd_refl n⟩
      refine Classical.byContradiction fun hc => h ⟨d, hd, fun h => hc (.inl h), fun h => hc (.inr h)⟩
theorem pr_of {N F : Nat} (hN : 1 < N) (hF : N < (F + 1) * (F + 1)) (h : ∀ p, Pr p → p ∣ N → F < p) : Pr N := by
  refine ⟨hN, fun d hd => ?_⟩
  refine Classical.byContradiction fun hc => ?_
  have hd1 : d ≠ 1 := fun h => hc (.inl h)
  have hdN : d ≠ N := fun h => hc (.inr h)
  obtain ⟨e, he⟩ := hd
  have hd0 : d ≠ 0 := fun h0 => by subst h0; rw [Nat.zero_mul] at he; omega
  have he1 : e ≠ 1 := fun h1 => by subst h1; rw [Nat.mul_one] at he; exact hdN he.symm
  have he0 : e ≠ 0 := fun h0 => by subst h0; rw [Nat.mul_zero] at he; omega
  obtain ⟨p, hp, hpd⟩ := exists_pr d (by omega)
  obtain ⟨q, hq, hqe⟩ := exists_pr e (by omega)
  have l1 := h p hp (he ▸ Nat.dvd_trans hpd (Nat.dvd_mul_right d e))
  have l2 := h q hq (he ▸ Nat.dvd_trans hqe (Nat.dvd_mul_left e d))
  have l3 := Nat.le_of_dvd (by omega) hpd
  have l4 := Nat.le_of_dvd (by omega) hqe
  have l5 : (F + 1) * (F + 1) ≤ d * e := Nat.mul_le_mul (by omega) (by omega)
  omega
theorem pr_small {N k : Nat} (hN : 1 < N) (hk : N < (k + 1) * (k + 1)) (h : (List.range (k + 1)).all (fun d => decide (d ≤ 1) || N % d != 0) = true) : Pr N := by
  refine pr_of hN hk fun p hp hd => ?_
  refine Classical.byContradiction fun hc => ?_
  have h1 := List.all_eq_true.1 h p (List.mem_range.2 (by omega))
  have hp1 := hp.1
  rw [decide_eq_false (by omega), Bool.false_or, bne_iff_ne] at h1
  exact h1 (Nat.mod_eq_zero_of_dvd hd)
/-! Powers, by squaring. -/
def pwm (N a : Nat) : Nat → Nat → Nat
  | 0, _ => 1
  | f + 1, n => if n % 2 = 0 then (pwm N a f (n / 2)) ^ 2 % N else ((pwm N a f (n / 2)) ^ 2 % N) * a % N
theorem pwm_is (N a : Nat) : ∀ f n, n < 2 ^ f → pwm N a f n % N = a ^ n % N
  | 0, n, h => by
    have : n = 0 := by rw [Nat.pow_zero] at h; omega
    subst this; rfl
  | f + 1, n, h => by
    have ih := pwm_is N a f (n / 2) (by rw [Nat.pow_succ] at h; omega)
    unfold pwm
    split
    · rename_i h0
      rw [Nat.mod_mod, Nat.pow_mod, ih, ← Nat.pow_mod, ← Nat.pow_mul, show n / 2 * 2 = n by omega]
    · rename_i h0
      rw [Nat.mod_mod, Nat.mod_mul_mod, Nat.mul_mod, Nat.pow_mod, ih, ← Nat.pow_mod, ← Nat.mul_mod, ← Nat.pow_mul, ← Nat.pow_succ, show (n / 2 * 2).succ = n by omega]
theorem pock_of {N s m p : Nat} (a : Nat) (hs : Pr s) (hN : (N - 1 == s * m && decide (1 < N) && decide (N < 2 ^ 256) && pwm N a 256 (N - 1) % N == 1 && Nat.gcd (pwm N a 256 m % N + N - 1) N == 1 && decide (m < 2 ^ 256)) = true) (hp : Pr p) (hd : p ∣ N) : s ∣ p - 1 := by
  simp only [Bool.and_eq_true, beq_iff_eq, decide_eq_true_eq] at hN
  obtain ⟨⟨⟨⟨⟨h1, h2⟩, h3⟩, h4⟩, h5⟩, h6⟩ := hN
  rw [pwm_is N a 256 (N - 1) (by omega)] at h4
  rw [pwm_is N a 256 m h6] at h5
  exact pock1 hs h1 h2 h4 h5 hp hd
theorem pr_one {N s : Nat} (hN : 1 < N) (hF : N < (s + 1) * (s + 1)) (h : ∀ p, Pr p → p ∣ N → s ∣ p - 1) : Pr N := pr_of hN hF fun p hp hd => by
  have := hp.1
  have := Nat.le_of_dvd (by omega) (h p hp hd)
  omega
theorem pr_two {N s t : Nat} (hN : 1 < N) (hc : Nat.gcd s t = 1) (hF : N < (s * t + 1) * (s * t + 1)) (h1 : ∀ p, Pr p → p ∣ N → s ∣ p - 1) (h2 : ∀ p, Pr p → p ∣ N → t ∣ p - 1) : Pr N := pr_of hN hF fun p hp hd => by
  have := hp.1
  have := Nat.le_of_dvd (by omega) (Nat.Coprime.mul_dvd_of_dvd_of_dvd hc (h1 p hp hd) (h2 p hp hd))
  omega
theorem pr_991 : Pr 991 := pr_small (k := 31) (by decide) (by decide) (by decide +kernel)
theorem pr_103 : Pr 103 := pr_small (k := 10) (by decide) (by decide) (by decide +kernel)
theorem pr_8574133 : Pr 8574133 := pr_two (s := 991) (t := 103) (by decide +kernel) (by decide +kernel) (by decide +kernel) (fun _ hp hd => pock_of (s := 991) (m := 8652) 2 pr_991 (by decide +kernel) hp hd) (fun _ hp hd => pock_of (s := 103) (m := 83244) 2 pr_103 (by decide +kernel) hp hd)
theorem pr_127 : Pr 127 := pr_small (k := 11) (by decide) (by decide) (by decide +kernel)
theorem pr_1919519569386763 : Pr 1919519569386763 := pr_two (s := 8574133) (t := 127) (by decide +kernel) (by decide +kernel) (by decide +kernel) (fun _ hp hd => pock_of (s := 8574133) (m := 223873314) 2 pr_8574133 (by decide +kernel) hp hd) (fun _ hp hd => pock_of (s := 127) (m := 15114327318006) 2 pr_127 (by decide +kernel) hp hd)
theorem pr_569003 : Pr 569003 := pr_small (k := 754) (by decide) (by decide) (by decide +kernel)
theorem pr_2773320623 : Pr 2773320623 := pr_one (s := 569003) (by decide +kernel) (by decide +kernel) (fun _ hp hd => pock_of (s := 569003) (m := 4874) 2 pr_569003 (by decide +kernel) hp hd)
theorem pr_72106336199 : Pr 72106336199 := pr_one (s := 2773320623) (by decide +kernel) (by decide +kernel) (fun _ hp hd => pock_of (s := 2773320623) (m := 26) 2 pr_2773320623 (by decide +kernel) hp hd)
theorem prb_543864801 : Pr 75445702479781427272750846543864801 := pr_two (s := 1919519569386763) (t := 72106336199) (by decide +kernel) (by decide +kernel) (by decide +kernel) (fun _ hp hd => pock_of (s := 1919519569386763) (m := 39304471641247389600) 2 pr_1919519569386763 (by decide +kernel) hp hd) (fun _ hp hd => pock_of (s := 72106336199) (m := 1046311689884858398375200) 2 pr_72106336199 (by decide +kernel) hp hd)
theorem pr_430751 : Pr 430751 := pr_small (k := 656) (by decide) (by decide) (by decide +kernel)
theorem pr_4153 : Pr 4153 := pr_small (k := 64) (by decide) (by decide) (by decide +kernel)
theorem pr_31757755568855353 : Pr 31757755568855353 := pr_two (s := 430751) (t := 4153) (by decide +kernel) (by decide +kernel) (by decide +kernel) (fun _ hp hd => pock_of (s := 430751) (m := 73726481352) 2 pr_430751 (by decide +kernel) hp hd) (fun _ hp hd => pock_of (s := 4153) (m := 7646943310584) 2 pr_4153 (by decide +kernel) hp hd)
theorem prb_754340907 : Pr 74058212732561358302231226437062788676166966415465897661863160754340907 := pr_two (s := 75445702479781427272750846543864801) (t := 31757755568855353) (by decide +kernel) (by decide +kernel) (by decide +kernel) (fun _ hp hd => pock_of (s := 75445702479781427272750846543864801) (m := 981609426360740691344999861639072106) 2 prb_543864801 (by decide +kernel) hp hd) (fun _ hp hd => pock_of (s := 31757755568855353) (m := 2331972502653487852620185443007392165117953542933313402) 2 pr_31757755568855353 (by decide +kernel) hp hd)
theorem prb_564819949 : Pr 57896044618658097711785492504343953926634992332820282019728792003956564819949 := pr_one (s := 74058212732561358302231226437062788676166966415465897661863160754340907) (by decide +kernel) (by decide +kernel) (fun _ hp hd => pock_of (s := 74058212732561358302231226437062788676166966415465897661863160754340907) (m := 781764) 2 prb_754340907 (by decide +kernel) hp hd)
theorem fP_pr : Pr fP := (show fP = 57896044618658097711785492504343953926634992332820282019728792003956564819949 by decide +kernel) ▸ prb_564819949
/-- The order of the group. -/
def fL : Nat := 2 ^ 252 + 27742317777372353535851937790883648493
theorem pr_2551 : Pr 2551 := pr_small (k := 50) (by decide) (by decide) (by decide +kernel)
theorem pr_1224481 : Pr 1224481 := pr_one (s := 2551) (by decide +kernel) (by decide +kernel) (fun _ hp hd => pock_of (s := 2551) (m := 480) 2 pr_2551 (by decide +kernel) hp hd)
theorem pr_531581 : Pr 531581 := pr_small (k := 729) (by decide) (by decide) (by decide +kernel)
theorem pr_1257559732178653 : Pr 1257559732178653 := pr_two (s := 1224481) (t := 531581) (by decide +kernel) (by decide +kernel) (by decide +kernel) (fun _ hp hd => pock_of (s := 1224481) (m := 1027014492) 2 pr_1224481 (by decide +kernel) hp hd) (fun _ hp hd => pock_of (s := 531581) (m := 2365697292) 2 pr_531581 (by decide +kernel) hp hd)
theorem pr_4434155615661930479 : Pr 4434155615661930479 := pr_one (s := 1257559732178653) (by decide +kernel) (by decide +kernel) (fun _ hp hd => pock_of (s := 1257559732178653) (m := 3526) 2 pr_1257559732178653 (by decide +kernel) hp hd)
theorem prb_258510691 : Pr 172054593956031949258510691 := pr_one (s := 4434155615661930479) (by decide +kernel) (by decide +kernel) (fun _ hp hd => pock_of (s := 4434155615661930479) (m := 38802110) 2 pr_4434155615661930479 (by decide +kernel) hp hd)
theorem prb_130476339 : Pr 19757330305831588566944191468367130476339 := pr_one (s := 172054593956031949258510691) (by decide +kernel) (by decide +kernel) (fun _ hp hd => pock_of (s := 172054593956031949258510691) (m := 114831751082918) 2 prb_258510691 (by decide +kernel) hp hd)
theorem prb_826668747 : Pr 276602624281642239937218680557139826668747 := pr_one (s := 19757330305831588566944191468367130476339) (by decide +kernel) (by decide +kernel) (fun _ hp hd => pock_of (s := 19757330305831588566944191468367130476339) (m := 14) 2 prb_130476339 (by decide +kernel) hp hd)
theorem prb_454250989 : Pr 7237005577332262213973186563042994240857116359379907606001950938285454250989 := pr_one (s := 276602624281642239937218680557139826668747) (by decide +kernel) (by decide +kernel) (fun _ hp hd => pock_of (s := 276602624281642239937218680557139826668747) (m := 26163907866482859529727157400808004) 2 prb_826668747 (by decide +kernel) hp hd)
theorem fL_pr : Pr fL := (show fL = 7237005577332262213973186563042994240857116359379907606001950938285454250989 by decide +kernel) ▸ prb_454250989
theorem pow_P {u : Nat} (h : u % fP ≠ 0) : u ^ (fP - 1) % fP = 1 := fermat1 fP_pr fun hd => h (Nat.mod_eq_zero_of_dvd hd)
end Go.Proofs.Ytodcjeaannfbnaa
namespace Go.Proofs.Ytodcjeaannfbnaa
/-- The document's double, and both. -/
def rdb (x z : Nat) : Nat × Nat :=
  let xx := x * x % fP
  let zz := z * z % fP
  let xz := x * z % fP
  let d := lessM xx zz
  let m := 486662 * xz % fP
  let s0 := (xx + m) % fP
  let sum := (s0 + zz) % fP
  let f := 4 * xz % fP
  (d * d % fP, f * sum % fP)
def rbo (q0 q1 r0 r1 u : Nat) : Nat × Nat :=
  let xv := q0 * r0 % fP
  let zw := q1 * r1 % fP
  let xw := q0 * r1 % fP
  let zv := q1 * r0 % fP
  let s := lessM xv zw
  let t := lessM xw zv
  let tt := t * t % fP
  (s * s % fP, u * tt % fP)
/-- One step of the document's ladder. -/
def rstep (c u : Nat) (s : Nat × Nat × Nat × Nat) : Nat × Nat × Nat × Nat :=
  if c = 0 then ((rdb s.1 s.2.1).1, (rdb s.1 s.2.1).2, (rbo s.1 s.2.1 s.2.2.1 s.2.2.2 u).1, (rbo s.1 s.2.1 s.2.2.1 s.2.2.2 u).2)
  else ((rbo s.1 s.2.1 s.2.2.1 s.2.2.2 u).1, (rbo s.1 s.2.1 s.2.2.1 s.2.2.2 u).2, (rdb s.2.2.1 s.2.2.2).1, (rdb s.2.2.1 s.2.2.2).2)
/-- The rungs of n, as deep as f. -/
def rngF (u : Nat) : Nat → Nat → Nat × Nat × Nat × Nat
  | 0, _ => (1, 0, u, 1)
  | f + 1, n => if n = 0 then (1, 0, u, 1) else rstep (n % 2) u (rngF u f (n / 2))
def rng (u n : Nat) : Nat × Nat × Nat × Nat := rngF u n n
theorem rngF_nil (u f : Nat) : rngF u f 0 = (1, 0, u, 1) := by
  cases f with
  | zero => rw [rngF]
  | succ f => rw [rngF, if_pos rfl]
theorem rngF_more (u f : Nat) : ∀ g n, n ≤ f → n ≤ g → rngF u f n = rngF u g n := by
  induction f with
  | zero =>
    intro g n h1 _
    obtain rfl : n = 0 := by omega
    rw [rngF_nil, rngF_nil]
  | succ f ih =>
    intro g n h1 h2
    by_cases h : n = 0
    · rw [h, rngF_nil, rngF_nil]
    · obtain ⟨g, rfl⟩ : ∃ m, g = m + 1 := ⟨g - 1, by omega⟩
      rw [rngF, rngF, if_neg h, if_neg h, ih g (n / 2) (by omega) (by omega)]
theorem rng_zero (u : Nat) : rng u 0 = (1, 0, u, 1) := rngF_nil u 0
theorem rng_step (u n : Nat) (h : n ≠ 0) : rng u n = rstep (n % 2) u (rng u (n / 2)) := by
  unfold rng
  obtain ⟨m, rfl⟩ : ∃ m, n = m + 1 := ⟨n - 1, by omega⟩
  rw [rngF, if_neg h, rngF_more u m ((m + 1) / 2) ((m + 1) / 2) (by omega) (Nat.le_refl _)]
section
variable {x z px pz qx qz u : Nat} {X Z PX PZ QX QZ U : Int}
theorem tw_cg (hx : Cg x X) (hz : Cg z Z) : Cg (twP x z).1 ((X * X - Z * Z) * (X * X - Z * Z)) ∧ Cg (twP x z).2 (4 * (X * Z) * (X * X + 486662 * (X * Z) + Z * Z)) := by
  have s0 := Cg.addM hx hz
  have s := Cg.mulM s0 s0
  have t0 := Cg.difM hx hz
  have t := Cg.mulM t0 t0
  have e := Cg.difM s t
  have m := Cg.mulM (m := 121665) (Cg.refl 121665) e
  have a := Cg.addM s m
  exact ⟨(Cg.mulM s t).trans ⟨0, by grind⟩, (Cg.mulM e a).trans ⟨0, by grind⟩⟩
theorem jo_cg (h1 : Cg px PX) (h2 : Cg pz PZ) (h3 : Cg qx QX) (h4 : Cg qz QZ) (h5 : Cg u U) : Cg (joP px pz qx qz u).1 (4 * ((PX * QX - PZ * QZ) * (PX * QX - PZ * QZ))) ∧ Cg (joP px pz qx qz u).2 (4 * (U * ((PX * QZ - PZ * QX) * (PX * QZ - PZ * QX)))) := by
  have a := Cg.mulM (Cg.addM h3 h4) (Cg.difM h1 h2)
  have b := Cg.mulM (Cg.difM h3 h4) (Cg.addM h1 h2)
  have c := Cg.addM a b
  have d := Cg.difM a b
  have e := Cg.mulM d d
  exact ⟨(Cg.mulM c c).trans ⟨0, by grind⟩, (Cg.mulM h5 e).trans ⟨0, by grind⟩⟩
theorem db_cg (hx : Cg x X) (hz : Cg z Z) : Cg (rdb x z).1 ((X * X - Z * Z) * (X * X - Z * Z)) ∧ Cg (rdb x z).2 (4 * (X * Z) * (X * X + 486662 * (X * Z) + Z * Z)) := by
  have xx := Cg.mulM hx hx
  have zz := Cg.mulM hz hz
  have xz := Cg.mulM hx hz
  have d := Cg.lessM xx zz lt_P
  have m := Cg.mulM (m := 486662) (Cg.refl 486662) xz
  have sum := Cg.addM (Cg.addM xx m) zz
  have f := Cg.mulM (m := 4) (Cg.refl 4) xz
  exact ⟨Cg.mulM d d, (Cg.mulM f sum)⟩
theorem bo_cg (h1 : Cg px PX) (h2 : Cg pz PZ) (h3 : Cg qx QX) (h4 : Cg qz QZ) (h5 : Cg u U) : Cg (rbo px pz qx qz u).1 ((PX * QX - PZ * QZ) * (PX * QX - PZ * QZ)) ∧ Cg (rbo px pz qx qz u).2 (U * ((PX * QZ - PZ * QX) * (PX * QZ - PZ * QX))) := by
  have s := Cg.lessM (Cg.mulM h1 h3) (Cg.mulM h2 h4) lt_P
  have t := Cg.lessM (Cg.mulM h1 h4) (Cg.mulM h2 h3) lt_P
  exact ⟨Cg.mulM s s, Cg.mulM h5 (Cg.mulM t t)⟩
end
/-- A factor that divides. -/
def Un (a : Nat) : Prop := a ^ (fP - 1) % fP = 1
theorem Un.mul {a b : Nat} (ha : Un a) (hb : Un b) : Un (a * b) := by
  unfold Un at *
  rw [Nat.mul_pow, Nat.mul_mod, ha, hb]
  exact Nat.mod_eq_of_lt (Nat.lt_trans (by omega) fP_pos)
theorem Un.four : Un 4 := four_pow
/-- As much above and below is the same. -/
theorem over_un {a X X4 Z Z4 : Nat} (ha : Un a) (hX : Cg X4 ((a : Int) * (X : Int))) (hZ : Cg Z4 ((a : Int) * (Z : Int))) : X4 * invP Z4 % fP = X * invP Z % fP := by
  refine Cg.eq ?_ lt_P lt_P
  refine (Cg.mod _).trans (Cg.trans ?_ (Cg.mod _).symm)
  have hi : ∀ n m : Nat, Cg m n → ∀ k : Nat, Cg ((m ^ k : Nat) : Int) ((n ^ k : Nat) : Int) := fun n m h k => by
    induction k with
    | zero => exact Cg.refl _
    | succ k ih => rw [Nat.pow_succ, Nat.pow_succ, Int.natCast_mul, Int.natCast_mul]; exact ih.mul h
  have hZ' : Cg Z4 ((a * Z : Nat) : Int) := by rw [Int.natCast_mul]; exact hZ
  have h1 : Cg (invP Z4) (((a ^ (fP - 2) : Nat) : Int) * (invP Z : Int)) := by
    unfold invP
    refine (Cg.mod _).trans ((hi _ _ hZ' (fP - 2)).trans ?_)
    rw [Nat.mul_pow, Int.natCast_mul]
    exact (Cg.refl _).mul (Cg.mod _).symm
  have h2 : Cg ((a : Int) * ((a ^ (fP - 2) : Nat) : Int)) 1 := by
    have h3 : a * a ^ (fP - 2) = a ^ (fP - 1) := by
      rw [Nat.mul_comm, ← Nat.pow_succ]
      have := fP_pos
      rw [show (fP - 2).succ = fP - 1 by omega]
    rw [← Int.natCast_mul, h3]
    refine (Cg.mod _).symm.trans ?_
    rw [show a ^ (fP - 1) % fP = 1 from ha]
    exact Cg.refl _
  rw [Int.natCast_mul, Int.natCast_mul]
  refine (hX.mul h1).trans ?_
  generalize ((a ^ (fP - 2) : Nat) : Int) = q at *
  have h4 := h2.mul (Cg.refl ((X : Int) * (invP Z : Int)))
  rw [Int.one_mul] at h4
  refine Cg.trans ?_ h4
  exact ⟨0, by grind⟩
/-- The program's state is the document's, but for a factor each. -/
def Rel (s t : Nat × Nat × Nat × Nat) : Prop := ∃ a b : Nat, Un a ∧ Un b ∧ Cg s.1 ((a : Int) * (t.1 : Int)) ∧ Cg s.2.1 ((a : Int) * (t.2.1 : Int)) ∧ Cg s.2.2.1 ((b : Int) * (t.2.2.1 : Int)) ∧ Cg s.2.2.2 ((b : Int) * (t.2.2.2 : Int))
theorem rel_step {c u : Nat} {s t : Nat × Nat × Nat × Nat} (hc : c = 0 ∨ c = 1) (h : Rel s t) : Rel (lstep c u s) (rstep c (u % fP) t) := by
  obtain ⟨x, z, y, v⟩ := s
  obtain ⟨X, Z, Y, V⟩ := t
  obtain ⟨a, b, ha, hb, h1, h2, h3, h4⟩ := h
  dsimp only at h1 h2 h3 h4
  have hu : Cg u ((u % fP : Nat) : Int) := (Cg.mod u).symm
  have ua : Un (a * a * (a * a)) := (ha.mul ha).mul (ha.mul ha)
  have ub : Un (b * b * (b * b)) := (hb.mul hb).mul (hb.mul hb)
  have uab : Un (4 * (a * a * (b * b))) := Un.four.mul ((ha.mul ha).mul (hb.mul hb))
  generalize u % fP = U at *
  have ca : ((a * a * (a * a) : Nat) : Int) = (a : Int) * a * ((a : Int) * a) := by simp only [Int.natCast_mul]
  have cb : ((b * b * (b * b) : Nat) : Int) = (b : Int) * b * ((b : Int) * b) := by simp only [Int.natCast_mul]
  have cab : ((4 * (a * a * (b * b)) : Nat) : Int) = 4 * ((a : Int) * a * ((b : Int) * b)) := by simp only [Int.natCast_mul]; rfl
  rcases hc with rfl | rfl
  · have e1 := tw_cg h1 h2
    have e2 := db_cg (Cg.refl (X : Int)) (Cg.refl (Z : Int))
    have e3 := jo_cg h1 h2 h3 h4 hu
    have e4 := bo_cg (Cg.refl (X : Int)) (Cg.refl (Z : Int)) (Cg.refl (Y : Int)) (Cg.refl (V : Int)) (Cg.refl (U : Int))
    refine ⟨a * a * (a * a), 4 * (a * a * (b * b)), ua, uab, ?_, ?_, ?_, ?_⟩
    · rw [ca]; exact e1.1.trans (Cg.trans ⟨0, by grind⟩ ((Cg.refl _).mul e2.1).symm)
    · rw [ca]; exact e1.2.trans (Cg.trans ⟨0, by grind⟩ ((Cg.refl _).mul e2.2).symm)
    · rw [cab]; exact e3.1.trans (Cg.trans ⟨0, by grind⟩ ((Cg.refl _).mul e4.1).symm)
    · rw [cab]; exact e3.2.trans (Cg.trans ⟨0, by grind⟩ ((Cg.refl _).mul e4.2).symm)
  · have e1 := tw_cg h3 h4
    have e2 := db_cg (Cg.refl (Y : Int)) (Cg.refl (V : Int))
    have e3 := jo_cg h3 h4 h1 h2 hu
    have e4 := bo_cg (Cg.refl (X : Int)) (Cg.refl (Z : Int)) (Cg.refl (Y : Int)) (Cg.refl (V : Int)) (Cg.refl (U : Int))
    refine ⟨4 * (a * a * (b * b)), b * b * (b * b), uab, ub, ?_, ?_, ?_, ?_⟩
    · rw [cab]; exact e3.1.trans (Cg.trans ⟨0, by grind⟩ ((Cg.refl _).mul e4.1).symm)
    · rw [cab]; exact e3.2.trans (Cg.trans ⟨0, by grind⟩ ((Cg.refl _).mul e4.2).symm)
    · rw [cb]; exact e1.1.trans (Cg.trans ⟨0, by grind⟩ ((Cg.refl _).mul e2.1).symm)
    · rw [cb]; exact e1.2.trans (Cg.trans ⟨0, by grind⟩ ((Cg.refl _).mul e2.2).symm)
/-- A leading zero: the start again, but for factors. -/
theorem rel_zero {u : Nat} {s : Nat × Nat × Nat × Nat} (hu0 : Un (u % fP)) (h : Rel s (1, 0, u % fP, 1)) : Rel (lstep 0 u s) (1, 0, u % fP, 1) := by
  obtain ⟨x, z, y, v⟩ := s
  obtain ⟨a, b, ha, hb, h1, h2, h3, h4⟩ := h
  dsimp only at h1 h2 h3 h4
  have hu : Cg u ((u % fP : Nat) : Int) := (Cg.mod u).symm
  have ua : Un (a * a * (a * a)) := (ha.mul ha).mul (ha.mul ha)
  have uab : Un (4 * (a * a * (b * b)) * (u % fP)) := (Un.four.mul ((ha.mul ha).mul (hb.mul hb))).mul hu0
  generalize u % fP = U at *
  have ca : ((a * a * (a * a) : Nat) : Int) = (a : Int) * a * ((a : Int) * a) := by simp only [Int.natCast_mul]
  have cab : ((4 * (a * a * (b * b)) * U : Nat) : Int) = 4 * ((a : Int) * a * ((b : Int) * b)) * U := by simp only [Int.natCast_mul]; rfl
  have e1 := tw_cg h1 h2
  have e3 := jo_cg h1 h2 h3 h4 hu
  refine ⟨a * a * (a * a), 4 * (a * a * (b * b)) * U, ua, uab, ?_, ?_, ?_, ?_⟩
  · rw [ca]; exact e1.1.trans ⟨0, by grind⟩
  · rw [ca]; exact e1.2.trans ⟨0, by grind⟩
  · rw [cab]; exact e3.1.trans ⟨0, by grind⟩
  · rw [cab]; exact e3.2.trans ⟨0, by grind⟩
theorem top_step (k j : Nat) (hj : j < 256) : k / 2 ^ (256 - (j + 1)) = 2 * (k / 2 ^ (256 - j)) + abit k (255 - j) := by
  unfold abit
  rw [show 256 - (j + 1) = 255 - j by omega, show 256 - j = (255 - j) + 1 by omega, Nat.pow_succ, ← Nat.div_div_eq_div_mul]
  omega
theorem rel_all (k u : Nat) (hk : k < 2 ^ 256) (hu0 : Un (u % fP)) : ∀ j, j ≤ 256 → Rel (lst k u j) (rng (u % fP) (k / 2 ^ (256 - j)))
  | 0, _ => by
    rw [Nat.div_eq_of_lt hk, rng_zero]
    have h1 : Un 1 := by unfold Un; rw [Nat.one_pow]; exact Nat.mod_eq_of_lt (Nat.lt_trans (by omega) fP_pos)
    refine ⟨1, 1, h1, h1, ?_, ?_, ?_, ?_⟩
    · exact ⟨0, by show (1 : Int) = _; grind⟩
    · exact ⟨0, by show (0 : Int) = _; grind⟩
    · exact (Cg.mod u).symm.trans ⟨0, by grind⟩
    · exact ⟨0, by show (1 : Int) = _; grind⟩
  | j + 1, hj => by
    have ih := rel_all k u hk hu0 j (by omega)
    have ht := top_step k j (by omega)
    have hc := abit_or k (255 - j)
    rw [lst, ht]
    generalize abit k (255 - j) = c at *
    generalize k / 2 ^ (256 - j) = n at *
    by_cases h0 : 2 * n + c = 0
    · obtain rfl : n = 0 := by omega
      obtain rfl : c = 0 := by omega
      exact rel_zero hu0 ih
    · rw [rng_step _ _ h0, show (2 * n + c) % 2 = c by omega, show (2 * n + c) / 2 = n by omega]
      exact rel_step hc ih
/-- Where u is 0 nothing is below. -/
theorem mul_zero_P {a b : Nat} (h : b % fP = 0) : a * b % fP = 0 := by rw [Nat.mul_mod, h, Nat.mul_zero, Nat.zero_mod]
theorem zero_mul_P {a b : Nat} (h : a % fP = 0) : a * b % fP = 0 := by rw [Nat.mul_comm]; exact mul_zero_P h
theorem inv_zero {z : Nat} (h : z % fP = 0) : invP z = 0 := by
  unfold invP
  have := fP_pos
  rw [Nat.pow_mod, h, Nat.zero_pow (by omega), Nat.zero_mod]
theorem cg_zero {n : Nat} (h : Cg n 0) : n % fP = 0 := by
  have h2 : Cg ((n % fP : Nat) : Int) ((0 : Nat) : Int) := (Cg.mod n).trans h
  exact Cg.eq h2 lt_P (Nat.lt_trans (by omega) fP_pos)
theorem zero_cg {n : Nat} (h : n % fP = 0) : Cg n 0 := (Cg.mod n).symm.trans (by rw [h]; exact Cg.refl 0)
theorem lst_zero (k u : Nat) (hu : u % fP = 0) : ∀ j, (lst k u j).2.1 % fP = 0
  | 0 => Nat.zero_mod _
  | j + 1 => by
    have ih := lst_zero k u hu j
    rw [lst]
    unfold lstep
    split
    · dsimp only
      unfold joP
      exact (Nat.mod_mod _ _).trans (zero_mul_P hu)
    · have h := (tw_cg (Cg.refl ((lst k u j).1 : Int)) (zero_cg ih)).2
      refine cg_zero (h.trans ⟨0, by grind⟩)
theorem rng_zeroz (u : Nat) (hu : u % fP = 0) : ∀ n, (rng u n).2.1 % fP = 0 := fun n => by
  induction n using Nat.strongRecOn with
  | ind n ih =>
    by_cases h : n = 0
    · subst h; exact Nat.zero_mod _
    · rw [rng_step u n h]
      have ih := ih (n / 2) (by omega)
      unfold rstep
      split
      · have h := (db_cg (Cg.refl ((rng u (n / 2)).1 : Int)) (zero_cg ih)).2
        refine cg_zero (h.trans ⟨0, by grind⟩)
      · dsimp only
        unfold rbo
        exact (Nat.mod_mod _ _).trans (zero_mul_P hu)
theorem ladder_same (k u : Nat) (hk : k < 2 ^ 256) : (lst k u 256).1 * invP (lst k u 256).2.1 % fP = (rng (u % fP) k).1 * invP (rng (u % fP) k).2.1 % fP := by
  by_cases h0 : u % fP = 0
  · rw [inv_zero (lst_zero k u h0 256), inv_zero (rng_zeroz (u % fP) (by rw [Nat.mod_mod]; exact h0) k), Nat.mul_zero, Nat.mul_zero]
  · have hu : Un (u % fP) := pow_P (by rw [Nat.mod_mod]; exact h0)
    obtain ⟨a, b, ha, -, h1, h2, -⟩ := rel_all k u hk hu 256 (Nat.le_refl _)
    rw [show k / 2 ^ (256 - 256) = k by rw [Nat.sub_self, Nat.pow_zero, Nat.div_one]] at h1 h2
    exact over_un ha h1 h2
end Go.Proofs.Ytodcjeaannfbnaa
namespace Go.Proofs.Ytodcjeaannfbnaa
open Go.ChangeShapes Go.WideShapes Go.ChangeAt Go.RowKit
set_option maxHeartbeats 2000000
set_option maxRecDepth 100000
attribute [local go_sem ↓] load_fld load_feP load_num store_num load_fe store_fe load_pt store_pt load_f2 store_f2
attribute [local go_sem] isHead_mk blkOf_mk isAgg_mk cellsV_mk row_drew rowAt_drew row_new_cells row_old rowAt_new rowAt_old setRow_new zeroNum zeroPt zeroFe zeroF2 setRow_old
theorem dbC (x z : Nat) (w : World) (hx : x < 2 ^ 256) (hz : z < 2 ^ 256) : Calls Try.prog 154 #[f2V x z] w fun e w' => e = .returned (f2V (rdb x z).1 (rdb x z).2) ∧ Below w.heap.size w w' := ref_double _ _ _ _ _ _ _ _ _ _ _ _ w hx hz rfl rfl rfl rfl rfl rfl rfl rfl rfl rfl
theorem rstep_lt (c u : Nat) (s : Nat × Nat × Nat × Nat) : LtS (rstep c u s) := by
  unfold rstep
  split <;> exact ⟨low_lt, low_lt, low_lt, low_lt⟩
theorem rng_lt (u n : Nat) (hu : u < 2 ^ 256) : LtS (rng u n) := by
  by_cases h : n = 0
  · rw [h, rng_zero]; exact ⟨by show (1 : Nat) < _; decide +kernel, by show (0 : Nat) < _; decide +kernel, hu, by show (1 : Nat) < _; decide +kernel⟩
  · rw [rng_step u n h]; exact rstep_lt _ _ _
def RungsSay (u n : Nat) : Prop := ∀ (v : Value) (w : World), IsN w v n → Calls Try.prog 111 #[v, feV u] w fun e w' => e = .returned (.tuple #[f2V (rng u n).1 (rng u n).2.1, f2V (rng u n).2.2.1 (rng u n).2.2.2]) ∧ Below w.heap.size w w'
theorem rungs_zero (u : Nat) : RungsSay u 0 := by
  intro v w hv
  obtain ⟨A, m, c, rfl, hmc, hcm, hm0⟩ := hv.form
  obtain rfl : m = 0 := hm0.2 rfl
  rw [rng_zero]
  dsimp only
  have h1 := Lib.hid (fun V => ref_small 1 V (by omega))
  have h0 := Lib.hid (fun V => ref_small 0 V (by omega))
  clear hm0 hv
  unfold feV at h1 h0 ⊢
  rw [show ((1 : Nat) : Int) = 1 from rfl] at h1
  rw [show ((0 : Nat) : Int) = 0 from rfl] at h0
  unfold f2V
  have hcr := arrK_cells .i64 32 (cat2L (dgt 1) (dgt 0))
  have hcs := arrK_cells .i64 32 (cat2L (dgt u) (dgt 1))
  have hcz := arrK_cells .i64 32 (cat2L (fun _ => 0) (fun _ => 0))
  have hL0 : Below w.heap.size w (((w.alloc (Obj.cells (arrK .i64 16 (dgt u)) 26)).alloc (Obj.cells (arrK .i64 32 (cat2L (fun _ => 0) (fun _ => 0))) 135)).alloc (Obj.cells (arrK .i64 32 (cat2L (fun _ => 0) (fun _ => 0))) 135)) := by go_grown
  have hA0 : At (((w.alloc (Obj.cells (arrK .i64 16 (dgt u)) 26)).alloc (Obj.cells (arrK .i64 32 (cat2L (fun _ => 0) (fun _ => 0))) 135)).alloc (Obj.cells (arrK .i64 32 (cat2L (fun _ => 0) (fun _ => 0))) 135)) w.heap.size .i64 16 (dgt u) := (((At.new _ rfl)).old _).old _
  have hR0 : Row (((w.alloc (Obj.cells (arrK .i64 16 (dgt u)) 26)).alloc (Obj.cells (arrK .i64 32 (cat2L (fun _ => 0) (fun _ => 0))) 135)).alloc (Obj.cells (arrK .i64 32 (cat2L (fun _ => 0) (fun _ => 0))) 135)) (w.heap.size + 1) 32 := (((At.new (k := .i64) (f := (cat2L (fun _ => 0) (fun _ => 0))) _ (by simp))).old _).row
  have hQ0 : Row (((w.alloc (Obj.cells (arrK .i64 16 (dgt u)) 26)).alloc (Obj.cells (arrK .i64 32 (cat2L (fun _ => 0) (fun _ => 0))) 135)).alloc (Obj.cells (arrK .i64 32 (cat2L (fun _ => 0) (fun _ => 0))) 135)) (w.heap.size + 1 + 1) 32 := (At.new (k := .i64) (f := (cat2L (fun _ => 0) (fun _ => 0))) _ (by simp)).row
  have hL := Lib.hid hL0
  have hA := Lib.hid hA0
  have hR := Lib.hid hR0
  have hQ := Lib.hid hQ0
  clear hL0 hA0 hR0 hQ0
  go_enter Try.func111, Try.ntmps111
  go_upto_region 1 with (fail)
  generalize ((w.alloc _).alloc _).alloc _ = W0 at *
  go_upto_region 2 with (fail)
  generalize ha0 : Act.mk _ _ = a0
  have e3 : a0.tmps[3]?.getD undef = .pointer (some ⟨w.heap.size, 0, none⟩) := by rw [← ha0]; rfl
  have e4 : a0.tmps[4]?.getD undef = .pointer (some ⟨w.heap.size + 1, 0, none⟩) := by rw [← ha0]; rfl
  have e5 : a0.tmps[5]?.getD undef = .pointer (some ⟨w.heap.size + 1 + 1, 0, none⟩) := by rw [← ha0]; rfl
  have hz0 : a0.tmps.size = 82 := by rw [← ha0]; rfl
  have hha0 := Lib.hid ha0
  clear ha0
  refine wp_region_two (fun jx_ => match jx_ with | 0 => some (.agg (arrK .i64 16 (dgt 1))) | 1 => some (.agg (arrK .i64 16 (dgt 0))) | 2 => some (.agg (arrK .i64 32 (cat2L (dgt 1) (dgt 0)))) | 3 => some (.agg (arrK .i64 16 (dgt u))) | 4 => some (.agg (arrK .i64 16 (dgt 1))) | 5 => some (.agg (arrK .i64 32 (cat2L (dgt u) (dgt 1)))) | _ => none) 6 ((w.heap.size + 1)) 32 (arrK .i64 32 (cat2L (dgt 1) (dgt 0))) 7 ((w.heap.size + 1 + 1)) 32 (arrK .i64 32 (cat2L (dgt u) (dgt 1))) (by kernel_rfl) (by kernel_rfl) (by kernel_rfl) (slotsOk_of hz0 (by kernel_rfl)) (of_decide_eq_true (by kernel_rfl)) (of_decide_eq_true (by kernel_rfl)) (by decide) (by kernel_rfl) (by omega) hR.out hQ.out ⟨?_, ?_, ?_, ?_, ?_, ?_, ?_, ?_, trivial⟩ ?_
  · refine two_before (by decide) (by decide) (by kernel_rfl) (calm_step rfl fun aa ω κ hb hu hc hK => ?_)
    have hk := Lib.hid (fun w1 (h : Below ω.heap.size ω w1) => hK (.agg (arrK .i64 16 (dgt 1))) w1 rfl h)
    clear hK hu hc
    go_simp
    go_at_call 89
    refine (h1.out _).mono ?_
    rintro e w1 ⟨rfl, hb1⟩
    exact hk.out _ hb1
  · refine two_before (by decide) (by decide) (by kernel_rfl) (calm_step rfl fun aa ω κ hb hu hc hK => ?_)
    have hk := Lib.hid (fun w1 (h : Below ω.heap.size ω w1) => hK (.agg (arrK .i64 16 (dgt 0))) w1 rfl h)
    clear hK hu hc
    go_simp
    go_at_call 89
    refine (h0.out _).mono ?_
    rintro e w1 ⟨rfl, hb1⟩
    exact hk.out _ hb1
  · refine two_before (by decide) (by decide) (by kernel_rfl) (calm_step rfl fun aa ω κ hb hu hc hK => ?_)
    have h20 : aa.tmps[20]?.getD undef = .agg (arrK .i64 16 (dgt 1)) := hc 0 20 rfl rfl
    have h21 : aa.tmps[21]?.getD undef = .agg (arrK .i64 16 (dgt 0)) := hc 1 21 rfl rfl
    have hk := Lib.hid (fun w1 (h : Below ω.heap.size ω w1) => hK (.agg (arrK .i64 32 (cat2L (dgt 1) (dgt 0)))) w1 rfl h)
    clear hK hu hc
    exact wp_bldB (v0 := .agg (arrK .i64 16 (dgt 1))) (v1 := .agg (arrK .i64 16 (dgt 0))) rfl (by go_simp) (by go_simp) (build_f2 _ _ _) (hk.out _ (Below.refl _ _))
  · refine two_mid (by decide) (by decide) (by kernel_rfl) (by kernel_rfl) ?_ ?_
    · refine calm_step rfl fun aa ω κ hb hu hc hK => ?_
      have h3 : aa.tmps[3]?.getD undef = .pointer (some ⟨w.heap.size, 0, none⟩) := (hu 3 rfl).trans e3
      have hk := Lib.hid (fun w1 (h : Below ω.heap.size ω w1) => hK (.agg (arrK .i64 16 (dgt u))) w1 rfl h)
      clear hK hu hc
      have hr1 := (hA.out.step hb).row
      have hr2 := (hA.out.step hb).eq
      go_simp
      exact hk.out _ (Below.refl _ _)
    · refine calm_step rfl fun aa ω κ hb hu hc hK => ?_
      replace hA := Lib.hid (hA.out.far (c := arrK .i64 32 (cat2L (dgt 1) (dgt 0))) (show w.heap.size ≠ w.heap.size + 1 by omega))
      have h3 : aa.tmps[3]?.getD undef = .pointer (some ⟨w.heap.size, 0, none⟩) := (hu 3 rfl).trans e3
      have hk := Lib.hid (fun w1 (h : Below ω.heap.size ω w1) => hK (.agg (arrK .i64 16 (dgt u))) w1 rfl h)
      clear hK hu hc
      have hr1 := (hA.out.step hb).row
      have hr2 := (hA.out.step hb).eq
      go_simp
      exact hk.out _ (Below.refl _ _)
  · refine two_before (by decide) (by decide) (by kernel_rfl) (calm_step rfl fun aa ω κ hb hu hc hK => ?_)
    have hk := Lib.hid (fun w1 (h : Below ω.heap.size ω w1) => hK (.agg (arrK .i64 16 (dgt 1))) w1 rfl h)
    clear hK hu hc
    go_simp
    go_at_call 89
    refine (h1.out _).mono ?_
    rintro e w1 ⟨rfl, hb1⟩
    exact hk.out _ hb1
  · refine two_free (by decide) (by decide) fun W_ => calm_step rfl fun aa ω κ hb hu hc hK => ?_
    have h23 : aa.tmps[23]?.getD undef = .agg (arrK .i64 16 (dgt u)) := hc 3 23 rfl rfl
    have h24 : aa.tmps[24]?.getD undef = .agg (arrK .i64 16 (dgt 1)) := hc 4 24 rfl rfl
    have hk := Lib.hid (fun w1 (h : Below ω.heap.size ω w1) => hK (.agg (arrK .i64 32 (cat2L (dgt u) (dgt 1)))) w1 rfl h)
    clear hK hu hc
    exact wp_bldB (v0 := .agg (arrK .i64 16 (dgt u))) (v1 := .agg (arrK .i64 16 (dgt 1))) rfl (by go_simp) (by go_simp) (build_f2 _ _ _) (hk.out _ (Below.refl _ _))
  · refine two_q1 (one_write rfl rfl fun aa ω κ hb hu hc hr hK => ?_)
    have h4 : aa.tmps[4]?.getD undef = .pointer (some ⟨w.heap.size + 1, 0, none⟩) := (hu 4 rfl).trans e4
    have h22 : aa.tmps[22]?.getD undef = .agg (arrK .i64 32 (cat2L (dgt 1) (dgt 0))) := hc 2 22 rfl rfl
    have hk := Lib.hid hK
    clear hK hu hc
    have hcc := hcr
    go_simp
    exact hk.out undef
  · refine two_q2 (by decide) (one_write rfl rfl fun aa ω κ hb hu hc hr hK => ?_)
    have h5 : aa.tmps[5]?.getD undef = .pointer (some ⟨w.heap.size + 1 + 1, 0, none⟩) := (hu 5 rfl).trans e5
    have h25 : aa.tmps[25]?.getD undef = .agg (arrK .i64 32 (cat2L (dgt u) (dgt 1))) := hc 5 25 rfl rfl
    have hk := Lib.hid hK
    clear hK hu hc
    have hcc := hcs
    go_simp
    exact hk.out undef
  · intro a1 w1 hb1 hu1 hsz1 hdf1 hv1
    have ha0 := hha0.out
    subst ha0
    have he := act_patch (n := 82) [false, false, false, false, false, false, false, false, false, false, false, false, false, false, false, false, false, false, false, false, true, true, true, true, true, true, false, false, false, false, false, false, false, false, false, false, false, false, false, false, false, false, false, false, false, false, false, false, false, false, false, false, false, false, false, false, false, false, false, false, false, false, false, false, false, false, false, false, false, false, false, false, false, false, false, false, false, false, false, false, false, false] rfl (by kernel_rfl) hu1 hsz1 hdf1
    simp only [patch, cond_true, cond_false, Nat.reduceAdd] at he
    have hXz := ((At.put (k := .i64) (f := (cat2L (dgt 1) (dgt 0))) hR.out).far (c := arrK .i64 32 (cat2L (dgt u) (dgt 1))) (show w.heap.size + 1 ≠ w.heap.size + 1 + 1 by omega)).below hb1 (by simpa using hR.out.lt)
    have hYz := (At.put (w := W0.setRow (w.heap.size + 1) (arrK .i64 32 (cat2L (dgt 1) (dgt 0)))) (k := .i64) (f := (cat2L (dgt u) (dgt 1))) ((row_setRow_far (show w.heap.size + 1 + 1 ≠ w.heap.size + 1 by omega)).2 hQ.out)).below hb1 (by simpa using hQ.out.lt)
    have hLz := Lib.hid (Below.trans (below_setRow (c := arrK .i64 32 (cat2L (dgt u) (dgt 1))) (below_setRow (c := arrK .i64 32 (cat2L (dgt 1) (dgt 0))) hL.out (show w.heap.size ≤ w.heap.size + 1 by omega)) (show w.heap.size ≤ w.heap.size + 1 + 1 by omega)) (hb1.mono (by simpa using hL.out.size)))
    clear hR hQ hL hA h1 h0
    clear hb1 hu1 hsz1 hdf1 hv1 hz0 hha0 e3 e4 e5
    rw [he]
    clear he
    generalize a1.tmps[20]?.getD undef = x20 at *
    generalize a1.tmps[21]?.getD undef = x21 at *
    generalize a1.tmps[22]?.getD undef = x22 at *
    generalize a1.tmps[23]?.getD undef = x23 at *
    generalize a1.tmps[24]?.getD undef = x24 at *
    generalize a1.tmps[25]?.getD undef = x25 at *
    go_wp2_with fail
    refine ret_cc (p := 4) (q := 5) (ty := 135) (ty2 := 135) (g := w.heap.size + 1) (g2 := w.heap.size + 1 + 1) rfl Try.underlying135 rfl (by kernel_rfl) Try.underlying135 rfl (by kernel_rfl) rfl rfl hXz.row hYz.row rfl ?_
    rw [hXz.eq, hYz.eq]
    exact ⟨rfl, hLz.out⟩
set_option maxHeartbeats 20000000 in
theorem rungs_step (u n a b c d xv zw xw zv vs vt b1 tt b2 : Nat) (hn : n ≠ 0) (hnl : n < 2 ^ 256) (hu : u < 2 ^ 256) (ha : a < 2 ^ 256) (hb : b < 2 ^ 256) (hc : c < 2 ^ 256) (hd : d < 2 ^ 256) (hS : rng u (n / 2) = (a, b, c, d)) (hxv : a * c % fP = xv) (hzw : b * d % fP = zw) (hxw : a * d % fP = xw) (hzv : b * c % fP = zv) (hvs : lessM xv zw = vs) (hvt : lessM xw zv = vt) (hb1 : vs * vs % fP = b1) (htt : vt * vt % fP = tt) (hb2 : u * tt % fP = b2) (ih : RungsSay u (n / 2)) : RungsSay u n := by
  have lxv : xv < 2 ^ 256 := hxv ▸ low_lt
  have lzw : zw < 2 ^ 256 := hzw ▸ low_lt
  have lxw : xw < 2 ^ 256 := hxw ▸ low_lt
  have lzv : zv < 2 ^ 256 := hzv ▸ low_lt
  have lvs : vs < 2 ^ 256 := hvs ▸ less_low
  have lvt : vt < 2 ^ 256 := hvt ▸ less_low
  have lb1 : b1 < 2 ^ 256 := hb1 ▸ low_lt
  have ltt : tt < 2 ^ 256 := htt ▸ low_lt
  have lb2 : b2 < 2 ^ 256 := hb2 ▸ low_lt
  have kxv := Lib.hid (fun V => fe_By a c V ha hc)
  rw [hxv] at kxv
  have kzw := Lib.hid (fun V => fe_By b d V hb hd)
  rw [hzw] at kzw
  have kxw := Lib.hid (fun V => fe_By a d V ha hd)
  rw [hxw] at kxw
  have kzv := Lib.hid (fun V => fe_By b c V hb hc)
  rw [hzv] at kzv
  have kvs := Lib.hid (fun V => fe_Less xv zw V lxv lzw)
  rw [show (xv + 4 * fP - zw) % fP = vs from hvs] at kvs
  have kvt := Lib.hid (fun V => fe_Less xw zv V lxw lzv)
  rw [show (xw + 4 * fP - zv) % fP = vt from hvt] at kvt
  have kb1 := Lib.hid (fun V => fe_By vs vs V lvs lvs)
  rw [hb1] at kb1
  have ktt := Lib.hid (fun V => fe_By vt vt V lvt lvt)
  rw [htt] at ktt
  have kb2 := Lib.hid (fun V => fe_By u tt V hu ltt)
  rw [hb2] at kb2
  intro v w hv
  rw [rng_step u n hn, hS]
  have hb12 : rbo a b c d u = (b1, b2) := by
    unfold rbo
    rw [hxv, hzw, hxw, hzv]
    dsimp only
    rw [hvs, hvt, htt, hb1, hb2]
  unfold RungsSay at ih
  rw [hS] at ih
  dsimp only at ih
  replace ih := Lib.hid ih
  have kDq := Lib.hid (fun V => dbC a b V ha hb)
  have kDr := Lib.hid (fun V => dbC c d V hc hd)
  obtain ⟨⟨e1, e2⟩, hdq⟩ : ∃ s, rdb a b = s := ⟨_, rfl⟩
  obtain ⟨⟨f1, f2⟩, hdr⟩ : ∃ s, rdb c d = s := ⟨_, rfl⟩
  rw [hdq] at kDq
  rw [hdr] at kDr
  have kP := Lib.hid (fun (v2 : Value) V (hv : IsN V v n) (h2 : IsV V v2 2) => partsN (k := 256) V hv hnl (by omega) h2 (by omega) (mul_big (m := 17) (n := 2) (by omega) (by omega) (by omega)))
  have hfin0 : n % 2 = 0 → rstep (n % 2) u (a, b, c, d) = (e1, e2, b1, b2) := fun h => by unfold rstep; rw [if_pos h]; dsimp only; rw [hdq, hb12]
  have hfin1 : n % 2 ≠ 0 → rstep (n % 2) u (a, b, c, d) = (b1, b2, f1, f2) := fun h => by unfold rstep; rw [if_neg h]; dsimp only; rw [hdr, hb12]
  obtain ⟨A, m, cp, rfl, hmc, hcm, hm0⟩ := hv.form
  have hmne : ((m : Int) == 0) = false := by rw [beq_eq_false_iff_ne]; omega
  have hV := Lib.hid hv
  replace hfin0 := Lib.hid hfin0
  replace hfin1 := Lib.hid hfin1
  clear hv hm0 hb12 hdq hdr hS hn hnl hu ha hb hc hd hxv lxv hzw lzw hxw lxw hzv lzv hvs lvs hvt lvt hb1 lb1 htt ltt hb2 lb2
  unfold feV at ih kxv kzw kxw kzv kvs kvt kb1 ktt kb2
  unfold f2V at ih kDq kDr
  dsimp only at kDq kDr
  obtain ⟨⟨g1, g2, g3, g4⟩, hG⟩ : ∃ s, rstep (n % 2) u (a, b, c, d) = s := ⟨_, rfl⟩
  rw [hG]
  rw [hG] at hfin0 hfin1
  clear hG
  unfold feV f2V
  dsimp only
  have hcz := arrK_cells .i64 32 (cat2L (fun _ => 0) (fun _ => 0))
  have hc0 := arrK_cells .i64 16 fun _ => 0
  have hcq := arrK_cells .i64 32 (cat2L (dgt a) (dgt b))
  have hcrr := arrK_cells .i64 32 (cat2L (dgt c) (dgt d))
  have hcb := arrK_cells .i64 32 (cat2L (dgt b1) (dgt b2))
  have hcg := arrK_cells .i64 32 (cat2L (dgt g1) (dgt g2))
  have hch := arrK_cells .i64 32 (cat2L (dgt g3) (dgt g4))
  have hcxv := arrK_cells .i64 16 (dgt xv)
  have hczw := arrK_cells .i64 16 (dgt zw)
  have hcxw := arrK_cells .i64 16 (dgt xw)
  have hczv := arrK_cells .i64 16 (dgt zv)
  have hcvs := arrK_cells .i64 16 (dgt vs)
  have hcvt := arrK_cells .i64 16 (dgt vt)
  have hL0 : Below w.heap.size w (((w.alloc (Obj.cells (arrK .i64 16 (dgt u)) 26)).alloc (Obj.cells (arrK .i64 32 (cat2L (fun _ => 0) (fun _ => 0))) 135)).alloc (Obj.cells (arrK .i64 32 (cat2L (fun _ => 0) (fun _ => 0))) 135)) := by go_grown
  have hA0 : At (((w.alloc (Obj.cells (arrK .i64 16 (dgt u)) 26)).alloc (Obj.cells (arrK .i64 32 (cat2L (fun _ => 0) (fun _ => 0))) 135)).alloc (Obj.cells (arrK .i64 32 (cat2L (fun _ => 0) (fun _ => 0))) 135)) w.heap.size .i64 16 (dgt u) := (((At.new _ rfl)).old _).old _
  have hR0 : Row (((w.alloc (Obj.cells (arrK .i64 16 (dgt u)) 26)).alloc (Obj.cells (arrK .i64 32 (cat2L (fun _ => 0) (fun _ => 0))) 135)).alloc (Obj.cells (arrK .i64 32 (cat2L (fun _ => 0) (fun _ => 0))) 135)) (w.heap.size + 1) 32 := (((At.new (k := .i64) (f := (cat2L (fun _ => 0) (fun _ => 0))) _ (by simp))).old _).row
  have hQ0 : Row (((w.alloc (Obj.cells (arrK .i64 16 (dgt u)) 26)).alloc (Obj.cells (arrK .i64 32 (cat2L (fun _ => 0) (fun _ => 0))) 135)).alloc (Obj.cells (arrK .i64 32 (cat2L (fun _ => 0) (fun _ => 0))) 135)) (w.heap.size + 1 + 1) 32 := (At.new (k := .i64) (f := (cat2L (fun _ => 0) (fun _ => 0))) _ (by simp)).row
  have hV30 : IsN (((w.alloc (Obj.cells (arrK .i64 16 (dgt u)) 26)).alloc (Obj.cells (arrK .i64 32 (cat2L (fun _ => 0) (fun _ => 0))) 135)).alloc (Obj.cells (arrK .i64 32 (cat2L (fun _ => 0) (fun _ => 0))) 135)) (.slice A m cp) n := ((hV.out.alloc _).alloc _).alloc _
  have hL := Lib.hid hL0
  have hA := Lib.hid hA0
  have hR := Lib.hid hR0
  have hQ := Lib.hid hQ0
  have hV3 := Lib.hid hV30
  clear hV
  clear hL0 hA0 hR0 hQ0 hV30
  go_enter Try.func111, Try.ntmps111
  go_upto_region 1 with (fail)
  generalize ((w.alloc _).alloc _).alloc _ = W0 at *
  go_upto_region 3 with (fail)
  have hV4 := Lib.hid (hV3.out.alloc (.cells #[.int .i64 2] 3))
  have hTw := Lib.hid (IsV.lit W0 3 (d := 2) (by omega))
  replace hA := Lib.hid (hA.out.old (.cells #[.int .i64 2] 3))
  replace hR := Lib.hid ((row_old (o := .cells #[.int .i64 2] 3) hR.out.lt).2 hR.out)
  replace hQ := Lib.hid ((row_old (o := .cells #[.int .i64 2] 3) hQ.out.lt).2 hQ.out)
  replace hL := Lib.hid (Below.trans hL.out ((below_alloc W0 (.cells #[.int .i64 2] 3)).mono hL.out.size))
  clear hV3
  go_upto_region 4 with (fail)
  refine (kP.out _ _ hV4.out hTw.out).mono ?_
  rintro e w2 ⟨qv, rv, rfl, hqv, hrv, hb⟩
  have hQv := Lib.hid hqv
  obtain ⟨rA, rm, rc, rfl, hrmc, hrcm, hrm0⟩ := hrv.form
  replace hrm0 := Lib.hid hrm0
  replace hA := Lib.hid (hA.out.step hb)
  replace hR := Lib.hid (row_below hR.out hb hR.out.lt)
  replace hQ := Lib.hid (row_below hQ.out hb hQ.out.lt)
  replace hL := Lib.hid (below_step hb hL.out (Nat.le_refl _))
  clear hqv hrv hb kP hV4 hTw
  dsimp only
  have hr1 := hA.out.row
  have hr2 := hA.out.eq
  go_upto_region 5 with (fail)
  refine (ih.out _ _ hQv.out).mono ?_
  rintro e w3 ⟨rfl, hb⟩
  replace hA := Lib.hid (hA.out.step hb)
  replace hR := Lib.hid (row_below hR.out hb hR.out.lt)
  replace hQ := Lib.hid (row_below hQ.out hb hQ.out.lt)
  replace hL := Lib.hid (below_step hb hL.out (Nat.le_refl _))
  clear hr1 hr2 hb ih hQv
  have hltR := hR.out.lt
  have hltQ := hQ.out.lt
  replace hA := Lib.hid ((hA.out.old (Obj.cells (arrK .i64 32 (cat2L (dgt a) (dgt b))) 135)).old (Obj.cells (arrK .i64 32 (cat2L (dgt c) (dgt d))) 135))
  replace hR := Lib.hid ((row_old (w := w3.alloc (Obj.cells (arrK .i64 32 (cat2L (dgt a) (dgt b))) 135)) (o := (Obj.cells (arrK .i64 32 (cat2L (dgt c) (dgt d))) 135)) (by simp; omega)).2 ((row_old (o := (Obj.cells (arrK .i64 32 (cat2L (dgt a) (dgt b))) 135)) hltR).2 hR.out))
  replace hQ := Lib.hid ((row_old (w := w3.alloc (Obj.cells (arrK .i64 32 (cat2L (dgt a) (dgt b))) 135)) (o := (Obj.cells (arrK .i64 32 (cat2L (dgt c) (dgt d))) 135)) (by simp; omega)).2 ((row_old (o := (Obj.cells (arrK .i64 32 (cat2L (dgt a) (dgt b))) 135)) hltQ).2 hQ.out))
  replace hL := Lib.hid (Below.trans (Below.trans hL.out ((below_alloc w3 (Obj.cells (arrK .i64 32 (cat2L (dgt a) (dgt b))) 135)).mono hL.out.size)) ((below_alloc (w3.alloc (Obj.cells (arrK .i64 32 (cat2L (dgt a) (dgt b))) 135)) (Obj.cells (arrK .i64 32 (cat2L (dgt c) (dgt d))) 135)).mono (by simp; have := hL.out.size; omega)))
  have hX8 := Lib.hid ((At.new (w := w3) (k := .i64) (m := 32) (f := cat2L (dgt a) (dgt b)) 135 rfl).old (Obj.cells (arrK .i64 32 (cat2L (dgt c) (dgt d))) 135))
  have hX9 := Lib.hid (At.new (w := w3.alloc (Obj.cells (arrK .i64 32 (cat2L (dgt a) (dgt b))) 135)) (g := w3.heap.size + 1) (k := .i64) (m := 32) (f := cat2L (dgt c) (dgt d)) 135 (by simp))
  dsimp only
  go_upto_region 5 with (fail)
  obtain ⟨g8, hg⟩ : ∃ g, w3.heap.size = g := ⟨_, rfl⟩
  rw [hg] at hX8 hX9 hltR hltQ ⊢
  clear hg
  obtain ⟨g9, hg⟩ : ∃ g, g8 + 1 = g := ⟨_, rfl⟩
  rw [hg] at hX9 ⊢
  clear hg hltR hltQ
  generalize (w3.alloc _).alloc _ = W3 at *
  generalize ha0 : Act.mk _ _ = a0
  have e8 : a0.tmps[8]?.getD undef = .pointer (some ⟨g8, 0, none⟩) := by rw [← ha0]; rfl
  have e9 : a0.tmps[9]?.getD undef = .pointer (some ⟨g9, 0, none⟩) := by rw [← ha0]; rfl
  have hz0 : a0.tmps.size = 82 := by rw [← ha0]; rfl
  have hha0 := Lib.hid ha0
  clear ha0
  refine wp_region_fresh ⟨fun jx_ => match jx_ with | 0 => some (.pointer (some ⟨g8, 0, none⟩)) | 1 => some (.agg (arrK .i64 16 (dgt a))) | 2 => some (.pointer (some ⟨g9, 0, none⟩)) | 3 => some (.agg (arrK .i64 16 (dgt c))) | 4 => some (.agg (arrK .i64 16 (dgt xv))) | 5 => some (.pointer (some ⟨g8, 16, none⟩)) | 6 => some (.agg (arrK .i64 16 (dgt b))) | 7 => some (.pointer (some ⟨g9, 16, none⟩)) | 8 => some (.agg (arrK .i64 16 (dgt d))) | 9 => some (.agg (arrK .i64 16 (dgt zw))) | _ => none, fun jx_ => match jx_ with | 10 => some 16 | 11 => some 16 | _ => none, fun jx_ => match jx_ with | 12 => some 10 | 13 => some 11 | _ => none, fun jx_ => match jx_ with | 12 => arrK .i64 16 (dgt xv) | 13 => arrK .i64 16 (dgt zw) | _ => #[]⟩ (by kernel_rfl) (by kernel_rfl) (by kernel_rfl) (slotsOk_of hz0 (by kernel_rfl)) rfl ⟨?_, ?_, ?_, ?_, ?_, ?_, ?_, ?_, ?_, ?_, ?_, ?_, ?_, ?_, trivial⟩ ?_
  · refine fstep_val rfl rfl (calm_step rfl fun aa ω κ hb hu hc hK => ?_)
    have h8 : aa.tmps[8]?.getD undef = .pointer (some ⟨g8, 0, none⟩) := (hu 8 rfl).trans e8
    have hk := Lib.hid (fun w1 (h : Below ω.heap.size ω w1) => hK (.pointer (some ⟨g8, 0, none⟩)) w1 rfl h)
    clear hK hu hc
    go_simp
    exact hk.out _ (Below.refl _ _)
  · refine fstep_val rfl rfl (calm_step rfl fun aa ω κ hb hu hc hK => ?_)
    have h38 : aa.tmps[38]?.getD undef = .pointer (some ⟨g8, 0, none⟩) := hc 0 38 rfl rfl
    have hk := Lib.hid (fun w1 (h : Below ω.heap.size ω w1) => hK (.agg (arrK .i64 16 (dgt a))) w1 rfl h)
    clear hK hu hc
    have hl := f2_0 (hX8.out.step hb)
    have hl1 := hl.1
    have hl2 := hl.2
    go_simp
    exact hk.out _ (Below.refl _ _)
  · refine fstep_val rfl rfl (calm_step rfl fun aa ω κ hb hu hc hK => ?_)
    have h9 : aa.tmps[9]?.getD undef = .pointer (some ⟨g9, 0, none⟩) := (hu 9 rfl).trans e9
    have hk := Lib.hid (fun w1 (h : Below ω.heap.size ω w1) => hK (.pointer (some ⟨g9, 0, none⟩)) w1 rfl h)
    clear hK hu hc
    go_simp
    exact hk.out _ (Below.refl _ _)
  · refine fstep_val rfl rfl (calm_step rfl fun aa ω κ hb hu hc hK => ?_)
    have h40 : aa.tmps[40]?.getD undef = .pointer (some ⟨g9, 0, none⟩) := hc 2 40 rfl rfl
    have hk := Lib.hid (fun w1 (h : Below ω.heap.size ω w1) => hK (.agg (arrK .i64 16 (dgt c))) w1 rfl h)
    clear hK hu hc
    have hl := f2_0 (hX9.out.step hb)
    have hl1 := hl.1
    have hl2 := hl.2
    go_simp
    exact hk.out _ (Below.refl _ _)
  · refine fstep_val rfl rfl (calm_step rfl fun aa ω κ hb hu hc hK => ?_)
    have h39 : aa.tmps[39]?.getD undef = .agg (arrK .i64 16 (dgt a)) := hc 1 39 rfl rfl
    have h41 : aa.tmps[41]?.getD undef = .agg (arrK .i64 16 (dgt c)) := hc 3 41 rfl rfl
    have hk := Lib.hid (fun w1 (h : Below ω.heap.size ω w1) => hK (.agg (arrK .i64 16 (dgt xv))) w1 rfl h)
    clear hK hu hc
    go_simp
    go_at_call 25
    refine (kxv.out _).mono ?_
    rintro e w1 ⟨rfl, hb1⟩
    exact hk.out _ hb1
  · refine fstep_val rfl rfl (calm_step rfl fun aa ω κ hb hu hc hK => ?_)
    have h8 : aa.tmps[8]?.getD undef = .pointer (some ⟨g8, 0, none⟩) := (hu 8 rfl).trans e8
    have hk := Lib.hid (fun w1 (h : Below ω.heap.size ω w1) => hK (.pointer (some ⟨g8, 16, none⟩)) w1 rfl h)
    clear hK hu hc
    go_simp
    exact hk.out _ (Below.refl _ _)
  · refine fstep_val rfl rfl (calm_step rfl fun aa ω κ hb hu hc hK => ?_)
    have h43 : aa.tmps[43]?.getD undef = .pointer (some ⟨g8, 16, none⟩) := hc 5 43 rfl rfl
    have hk := Lib.hid (fun w1 (h : Below ω.heap.size ω w1) => hK (.agg (arrK .i64 16 (dgt b))) w1 rfl h)
    clear hK hu hc
    have hl := f2_1 (hX8.out.step hb)
    have hl1 := hl.1
    have hl2 := hl.2
    go_simp
    exact hk.out _ (Below.refl _ _)
  · refine fstep_val rfl rfl (calm_step rfl fun aa ω κ hb hu hc hK => ?_)
    have h9 : aa.tmps[9]?.getD undef = .pointer (some ⟨g9, 0, none⟩) := (hu 9 rfl).trans e9
    have hk := Lib.hid (fun w1 (h : Below ω.heap.size ω w1) => hK (.pointer (some ⟨g9, 16, none⟩)) w1 rfl h)
    clear hK hu hc
    go_simp
    exact hk.out _ (Below.refl _ _)
  · refine fstep_val rfl rfl (calm_step rfl fun aa ω κ hb hu hc hK => ?_)
    have h45 : aa.tmps[45]?.getD undef = .pointer (some ⟨g9, 16, none⟩) := hc 7 45 rfl rfl
    have hk := Lib.hid (fun w1 (h : Below ω.heap.size ω w1) => hK (.agg (arrK .i64 16 (dgt d))) w1 rfl h)
    clear hK hu hc
    have hl := f2_1 (hX9.out.step hb)
    have hl1 := hl.1
    have hl2 := hl.2
    go_simp
    exact hk.out _ (Below.refl _ _)
  · refine fstep_val rfl rfl (calm_step rfl fun aa ω κ hb hu hc hK => ?_)
    have h44 : aa.tmps[44]?.getD undef = .agg (arrK .i64 16 (dgt b)) := hc 6 44 rfl rfl
    have h46 : aa.tmps[46]?.getD undef = .agg (arrK .i64 16 (dgt d)) := hc 8 46 rfl rfl
    have hk := Lib.hid (fun w1 (h : Below ω.heap.size ω w1) => hK (.agg (arrK .i64 16 (dgt zw))) w1 rfl h)
    clear hK hu hc
    go_simp
    go_at_call 25
    refine (kzw.out _).mono ?_
    rintro e w1 ⟨rfl, hb1⟩
    exact hk.out _ hb1
  · refine fstep_al (n := 16) rfl rfl fun aa ω κ hK => ?_
    have hk := Lib.hid hK
    clear hK
    go_simp
    exact hk.out _ _ hc0
  · refine fstep_al (n := 16) rfl rfl fun aa ω κ hK => ?_
    have hk := Lib.hid hK
    clear hK
    go_simp
    exact hk.out _ _ hc0
  · refine fstep_st (j := 10) (n := 16) (d := 10) rfl rfl rfl rfl rfl hcxv.1 rfl rfl fun aa ω κ g hb hu hc hp hr hK => ?_
    have h42 : aa.tmps[42]?.getD undef = .agg (arrK .i64 16 (dgt xv)) := hc 4 42 rfl rfl
    have hk := Lib.hid hK
    clear hK hu hc
    have hcc := hcxv
    go_simp
    exact hk.out undef
  · refine fstep_st (j := 11) (n := 16) (d := 11) rfl rfl rfl rfl rfl hczw.1 rfl rfl fun aa ω κ g hb hu hc hp hr hK => ?_
    have h47 : aa.tmps[47]?.getD undef = .agg (arrK .i64 16 (dgt zw)) := hc 9 47 rfl rfl
    have hk := Lib.hid hK
    clear hK hu hc
    have hcc := hczw
    go_simp
    exact hk.out undef
  · intro a1 w1 G I
    have ha0 := hha0.out
    subst ha0
    have he := act_patch (n := 82) [false, false, false, false, false, false, false, false, false, false, true, true, false, false, false, false, false, false, false, false, false, false, false, false, false, false, false, false, false, false, false, false, false, false, false, false, false, false, true, true, true, true, true, true, true, true, true, true, false, false, false, false, false, false, false, false, false, false, false, false, false, false, false, false, false, false, false, false, false, false, false, false, false, false, false, false, false, false, false, false, false, false] rfl (by kernel_rfl) I.un I.sz I.df
    simp only [patch, cond_true, cond_false, Nat.reduceAdd] at he
    have hal10 := I.al 10 10 16 rfl rfl rfl
    have hal11 := I.al 11 11 16 rfl rfl rfl
    replace hA := Lib.hid (hA.out.step I.bel)
    replace hR := Lib.hid (row_below hR.out I.bel hR.out.lt)
    replace hQ := Lib.hid (row_below hQ.out I.bel hQ.out.lt)
    replace hL := Lib.hid (below_step I.bel hL.out (Nat.le_refl _))
    replace hX8 := Lib.hid (hX8.out.step I.bel)
    replace hX9 := Lib.hid (hX9.out.step I.bel)
    have hX10 := Lib.hid (show At w1 (G 10) .i64 16 (dgt xv) from ⟨(I.blk 10 16 rfl rfl).2, (I.row 12 10 rfl rfl).2.2⟩)
    have hX11 := Lib.hid (show At w1 (G 11) .i64 16 (dgt zw) from ⟨(I.blk 11 16 rfl rfl).2, (I.row 13 11 rfl rfl).2.2⟩)
    clear kxv kzw
    clear I hz0 hha0 e8 e9
    rw [he]
    clear he
    rw [hal10]
    rw [hal11]
    clear hal10 hal11
    generalize a1.tmps[38]?.getD undef = x38 at *
    generalize a1.tmps[39]?.getD undef = x39 at *
    generalize a1.tmps[40]?.getD undef = x40 at *
    generalize a1.tmps[41]?.getD undef = x41 at *
    generalize a1.tmps[42]?.getD undef = x42 at *
    generalize a1.tmps[43]?.getD undef = x43 at *
    generalize a1.tmps[44]?.getD undef = x44 at *
    generalize a1.tmps[45]?.getD undef = x45 at *
    generalize a1.tmps[46]?.getD undef = x46 at *
    generalize a1.tmps[47]?.getD undef = x47 at *
    obtain ⟨g10, hgz⟩ : ∃ g, G 10 = g := ⟨_, rfl⟩
    rw [hgz] at hX10 ⊢
    clear hgz
    obtain ⟨g11, hgz⟩ : ∃ g, G 11 = g := ⟨_, rfl⟩
    rw [hgz] at hX11 ⊢
    clear hgz
    generalize w1 = W5 at *
    go_upto_region 6 with (fail)
    generalize ha0 : Act.mk _ _ = a0
    have e8 : a0.tmps[8]?.getD undef = .pointer (some ⟨g8, 0, none⟩) := by rw [← ha0]; rfl
    have e9 : a0.tmps[9]?.getD undef = .pointer (some ⟨g9, 0, none⟩) := by rw [← ha0]; rfl
    have hz0 : a0.tmps.size = 82 := by rw [← ha0]; rfl
    have hha0 := Lib.hid ha0
    clear ha0
    refine wp_region_fresh ⟨fun jx_ => match jx_ with | 0 => some (.pointer (some ⟨g8, 0, none⟩)) | 1 => some (.agg (arrK .i64 16 (dgt a))) | 2 => some (.pointer (some ⟨g9, 16, none⟩)) | 3 => some (.agg (arrK .i64 16 (dgt d))) | 4 => some (.agg (arrK .i64 16 (dgt xw))) | 5 => some (.pointer (some ⟨g8, 16, none⟩)) | 6 => some (.agg (arrK .i64 16 (dgt b))) | 7 => some (.pointer (some ⟨g9, 0, none⟩)) | 8 => some (.agg (arrK .i64 16 (dgt c))) | 9 => some (.agg (arrK .i64 16 (dgt zv))) | _ => none, fun jx_ => match jx_ with | 10 => some 16 | 11 => some 16 | _ => none, fun jx_ => match jx_ with | 12 => some 10 | 13 => some 11 | _ => none, fun jx_ => match jx_ with | 12 => arrK .i64 16 (dgt xw) | 13 => arrK .i64 16 (dgt zv) | _ => #[]⟩ (by kernel_rfl) (by kernel_rfl) (by kernel_rfl) (slotsOk_of hz0 (by kernel_rfl)) rfl ⟨?_, ?_, ?_, ?_, ?_, ?_, ?_, ?_, ?_, ?_, ?_, ?_, ?_, ?_, trivial⟩ ?_
    · refine fstep_val rfl rfl (calm_step rfl fun aa ω κ hb hu hc hK => ?_)
      have h8 : aa.tmps[8]?.getD undef = .pointer (some ⟨g8, 0, none⟩) := (hu 8 rfl).trans e8
      have hk := Lib.hid (fun w1 (h : Below ω.heap.size ω w1) => hK (.pointer (some ⟨g8, 0, none⟩)) w1 rfl h)
      clear hK hu hc
      go_simp
      exact hk.out _ (Below.refl _ _)
    · refine fstep_val rfl rfl (calm_step rfl fun aa ω κ hb hu hc hK => ?_)
      have h48 : aa.tmps[48]?.getD undef = .pointer (some ⟨g8, 0, none⟩) := hc 0 48 rfl rfl
      have hk := Lib.hid (fun w1 (h : Below ω.heap.size ω w1) => hK (.agg (arrK .i64 16 (dgt a))) w1 rfl h)
      clear hK hu hc
      have hl := f2_0 (hX8.out.step hb)
      have hl1 := hl.1
      have hl2 := hl.2
      go_simp
      exact hk.out _ (Below.refl _ _)
    · refine fstep_val rfl rfl (calm_step rfl fun aa ω κ hb hu hc hK => ?_)
      have h9 : aa.tmps[9]?.getD undef = .pointer (some ⟨g9, 0, none⟩) := (hu 9 rfl).trans e9
      have hk := Lib.hid (fun w1 (h : Below ω.heap.size ω w1) => hK (.pointer (some ⟨g9, 16, none⟩)) w1 rfl h)
      clear hK hu hc
      go_simp
      exact hk.out _ (Below.refl _ _)
    · refine fstep_val rfl rfl (calm_step rfl fun aa ω κ hb hu hc hK => ?_)
      have h50 : aa.tmps[50]?.getD undef = .pointer (some ⟨g9, 16, none⟩) := hc 2 50 rfl rfl
      have hk := Lib.hid (fun w1 (h : Below ω.heap.size ω w1) => hK (.agg (arrK .i64 16 (dgt d))) w1 rfl h)
      clear hK hu hc
      have hl := f2_1 (hX9.out.step hb)
      have hl1 := hl.1
      have hl2 := hl.2
      go_simp
      exact hk.out _ (Below.refl _ _)
    · refine fstep_val rfl rfl (calm_step rfl fun aa ω κ hb hu hc hK => ?_)
      have h49 : aa.tmps[49]?.getD undef = .agg (arrK .i64 16 (dgt a)) := hc 1 49 rfl rfl
      have h51 : aa.tmps[51]?.getD undef = .agg (arrK .i64 16 (dgt d)) := hc 3 51 rfl rfl
      have hk := Lib.hid (fun w1 (h : Below ω.heap.size ω w1) => hK (.agg (arrK .i64 16 (dgt xw))) w1 rfl h)
      clear hK hu hc
      go_simp
      go_at_call 25
      refine (kxw.out _).mono ?_
      rintro e w1 ⟨rfl, hb1⟩
      exact hk.out _ hb1
    · refine fstep_val rfl rfl (calm_step rfl fun aa ω κ hb hu hc hK => ?_)
      have h8 : aa.tmps[8]?.getD undef = .pointer (some ⟨g8, 0, none⟩) := (hu 8 rfl).trans e8
      have hk := Lib.hid (fun w1 (h : Below ω.heap.size ω w1) => hK (.pointer (some ⟨g8, 16, none⟩)) w1 rfl h)
      clear hK hu hc
      go_simp
      exact hk.out _ (Below.refl _ _)
    · refine fstep_val rfl rfl (calm_step rfl fun aa ω κ hb hu hc hK => ?_)
      have h53 : aa.tmps[53]?.getD undef = .pointer (some ⟨g8, 16, none⟩) := hc 5 53 rfl rfl
      have hk := Lib.hid (fun w1 (h : Below ω.heap.size ω w1) => hK (.agg (arrK .i64 16 (dgt b))) w1 rfl h)
      clear hK hu hc
      have hl := f2_1 (hX8.out.step hb)
      have hl1 := hl.1
      have hl2 := hl.2
      go_simp
      exact hk.out _ (Below.refl _ _)
    · refine fstep_val rfl rfl (calm_step rfl fun aa ω κ hb hu hc hK => ?_)
      have h9 : aa.tmps[9]?.getD undef = .pointer (some ⟨g9, 0, none⟩) := (hu 9 rfl).trans e9
      have hk := Lib.hid (fun w1 (h : Below ω.heap.size ω w1) => hK (.pointer (some ⟨g9, 0, none⟩)) w1 rfl h)
      clear hK hu hc
      go_simp
      exact hk.out _ (Below.refl _ _)
    · refine fstep_val rfl rfl (calm_step rfl fun aa ω κ hb hu hc hK => ?_)
      have h55 : aa.tmps[55]?.getD undef = .pointer (some ⟨g9, 0, none⟩) := hc 7 55 rfl rfl
      have hk := Lib.hid (fun w1 (h : Below ω.heap.size ω w1) => hK (.agg (arrK .i64 16 (dgt c))) w1 rfl h)
      clear hK hu hc
      have hl := f2_0 (hX9.out.step hb)
      have hl1 := hl.1
      have hl2 := hl.2
      go_simp
      exact hk.out _ (Below.refl _ _)
    · refine fstep_val rfl rfl (calm_step rfl fun aa ω κ hb hu hc hK => ?_)
      have h54 : aa.tmps[54]?.getD undef = .agg (arrK .i64 16 (dgt b)) := hc 6 54 rfl rfl
      have h56 : aa.tmps[56]?.getD undef = .agg (arrK .i64 16 (dgt c)) := hc 8 56 rfl rfl
      have hk := Lib.hid (fun w1 (h : Below ω.heap.size ω w1) => hK (.agg (arrK .i64 16 (dgt zv))) w1 rfl h)
      clear hK hu hc
      go_simp
      go_at_call 25
      refine (kzv.out _).mono ?_
      rintro e w1 ⟨rfl, hb1⟩
      exact hk.out _ hb1
    · refine fstep_al (n := 16) rfl rfl fun aa ω κ hK => ?_
      have hk := Lib.hid hK
      clear hK
      go_simp
      exact hk.out _ _ hc0
    · refine fstep_al (n := 16) rfl rfl fun aa ω κ hK => ?_
      have hk := Lib.hid hK
      clear hK
      go_simp
      exact hk.out _ _ hc0
    · refine fstep_st (j := 10) (n := 16) (d := 12) rfl rfl rfl rfl rfl hcxw.1 rfl rfl fun aa ω κ g hb hu hc hp hr hK => ?_
      have h52 : aa.tmps[52]?.getD undef = .agg (arrK .i64 16 (dgt xw)) := hc 4 52 rfl rfl
      have hk := Lib.hid hK
      clear hK hu hc
      have hcc := hcxw
      go_simp
      exact hk.out undef
    · refine fstep_st (j := 11) (n := 16) (d := 13) rfl rfl rfl rfl rfl hczv.1 rfl rfl fun aa ω κ g hb hu hc hp hr hK => ?_
      have h57 : aa.tmps[57]?.getD undef = .agg (arrK .i64 16 (dgt zv)) := hc 9 57 rfl rfl
      have hk := Lib.hid hK
      clear hK hu hc
      have hcc := hczv
      go_simp
      exact hk.out undef
    · intro a1 w1 G I
      have ha0 := hha0.out
      subst ha0
      have he := act_patch (n := 82) [false, false, false, false, false, false, false, false, false, false, false, false, true, true, false, false, false, false, false, false, false, false, false, false, false, false, false, false, false, false, false, false, false, false, false, false, false, false, false, false, false, false, false, false, false, false, false, false, true, true, true, true, true, true, true, true, true, true, false, false, false, false, false, false, false, false, false, false, false, false, false, false, false, false, false, false, false, false, false, false, false, false] rfl (by kernel_rfl) I.un I.sz I.df
      simp only [patch, cond_true, cond_false, Nat.reduceAdd] at he
      have hal12 := I.al 10 12 16 rfl rfl rfl
      have hal13 := I.al 11 13 16 rfl rfl rfl
      replace hA := Lib.hid (hA.out.step I.bel)
      replace hR := Lib.hid (row_below hR.out I.bel hR.out.lt)
      replace hQ := Lib.hid (row_below hQ.out I.bel hQ.out.lt)
      replace hL := Lib.hid (below_step I.bel hL.out (Nat.le_refl _))
      replace hX8 := Lib.hid (hX8.out.step I.bel)
      replace hX9 := Lib.hid (hX9.out.step I.bel)
      replace hX10 := Lib.hid (hX10.out.step I.bel)
      replace hX11 := Lib.hid (hX11.out.step I.bel)
      have hX12 := Lib.hid (show At w1 (G 10) .i64 16 (dgt xw) from ⟨(I.blk 10 16 rfl rfl).2, (I.row 12 10 rfl rfl).2.2⟩)
      have hX13 := Lib.hid (show At w1 (G 11) .i64 16 (dgt zv) from ⟨(I.blk 11 16 rfl rfl).2, (I.row 13 11 rfl rfl).2.2⟩)
      clear kxw kzv
      clear I hz0 hha0 e8 e9
      rw [he]
      clear he
      rw [hal12]
      rw [hal13]
      clear hal12 hal13
      generalize a1.tmps[48]?.getD undef = x48 at *
      generalize a1.tmps[49]?.getD undef = x49 at *
      generalize a1.tmps[50]?.getD undef = x50 at *
      generalize a1.tmps[51]?.getD undef = x51 at *
      generalize a1.tmps[52]?.getD undef = x52 at *
      generalize a1.tmps[53]?.getD undef = x53 at *
      generalize a1.tmps[54]?.getD undef = x54 at *
      generalize a1.tmps[55]?.getD undef = x55 at *
      generalize a1.tmps[56]?.getD undef = x56 at *
      generalize a1.tmps[57]?.getD undef = x57 at *
      obtain ⟨g12, hgz⟩ : ∃ g, G 10 = g := ⟨_, rfl⟩
      rw [hgz] at hX12 ⊢
      clear hgz
      obtain ⟨g13, hgz⟩ : ∃ g, G 11 = g := ⟨_, rfl⟩
      rw [hgz] at hX13 ⊢
      clear hgz
      generalize w1 = W6 at *
      go_upto_region 7 with (fail)
      generalize ha0 : Act.mk _ _ = a0
      have e10 : a0.tmps[10]?.getD undef = .pointer (some ⟨g10, 0, none⟩) := by rw [← ha0]; rfl
      have e11 : a0.tmps[11]?.getD undef = .pointer (some ⟨g11, 0, none⟩) := by rw [← ha0]; rfl
      have e12 : a0.tmps[12]?.getD undef = .pointer (some ⟨g12, 0, none⟩) := by rw [← ha0]; rfl
      have e13 : a0.tmps[13]?.getD undef = .pointer (some ⟨g13, 0, none⟩) := by rw [← ha0]; rfl
      have hz0 : a0.tmps.size = 82 := by rw [← ha0]; rfl
      have hha0 := Lib.hid ha0
      clear ha0
      refine wp_region_fresh ⟨fun jx_ => match jx_ with | 0 => some (.agg (arrK .i64 16 (dgt xv))) | 1 => some (.agg (arrK .i64 16 (dgt zw))) | 2 => some (.agg (arrK .i64 16 (dgt vs))) | 3 => some (.agg (arrK .i64 16 (dgt xw))) | 4 => some (.agg (arrK .i64 16 (dgt zv))) | 5 => some (.agg (arrK .i64 16 (dgt vt))) | _ => none, fun jx_ => match jx_ with | 6 => some 16 | 7 => some 16 | _ => none, fun jx_ => match jx_ with | 8 => some 6 | 9 => some 7 | _ => none, fun jx_ => match jx_ with | 8 => arrK .i64 16 (dgt vs) | 9 => arrK .i64 16 (dgt vt) | _ => #[]⟩ (by kernel_rfl) (by kernel_rfl) (by kernel_rfl) (slotsOk_of hz0 (by kernel_rfl)) rfl ⟨?_, ?_, ?_, ?_, ?_, ?_, ?_, ?_, ?_, ?_, trivial⟩ ?_
      · refine fstep_val rfl rfl (calm_step rfl fun aa ω κ hb hu hc hK => ?_)
        have h10 : aa.tmps[10]?.getD undef = .pointer (some ⟨g10, 0, none⟩) := (hu 10 rfl).trans e10
        have hk := Lib.hid (fun w1 (h : Below ω.heap.size ω w1) => hK (.agg (arrK .i64 16 (dgt xv))) w1 rfl h)
        clear hK hu hc
        have hr1 := (hX10.out.step hb).row
        have hr2 := (hX10.out.step hb).eq
        go_simp
        exact hk.out _ (Below.refl _ _)
      · refine fstep_val rfl rfl (calm_step rfl fun aa ω κ hb hu hc hK => ?_)
        have h11 : aa.tmps[11]?.getD undef = .pointer (some ⟨g11, 0, none⟩) := (hu 11 rfl).trans e11
        have hk := Lib.hid (fun w1 (h : Below ω.heap.size ω w1) => hK (.agg (arrK .i64 16 (dgt zw))) w1 rfl h)
        clear hK hu hc
        have hr1 := (hX11.out.step hb).row
        have hr2 := (hX11.out.step hb).eq
        go_simp
        exact hk.out _ (Below.refl _ _)
      · refine fstep_val rfl rfl (calm_step rfl fun aa ω κ hb hu hc hK => ?_)
        have h58 : aa.tmps[58]?.getD undef = .agg (arrK .i64 16 (dgt xv)) := hc 0 58 rfl rfl
        have h59 : aa.tmps[59]?.getD undef = .agg (arrK .i64 16 (dgt zw)) := hc 1 59 rfl rfl
        have hk := Lib.hid (fun w1 (h : Below ω.heap.size ω w1) => hK (.agg (arrK .i64 16 (dgt vs))) w1 rfl h)
        clear hK hu hc
        go_simp
        go_at_call 23
        refine (kvs.out _).mono ?_
        rintro e w1 ⟨rfl, hb1⟩
        exact hk.out _ hb1
      · refine fstep_val rfl rfl (calm_step rfl fun aa ω κ hb hu hc hK => ?_)
        have h12 : aa.tmps[12]?.getD undef = .pointer (some ⟨g12, 0, none⟩) := (hu 12 rfl).trans e12
        have hk := Lib.hid (fun w1 (h : Below ω.heap.size ω w1) => hK (.agg (arrK .i64 16 (dgt xw))) w1 rfl h)
        clear hK hu hc
        have hr1 := (hX12.out.step hb).row
        have hr2 := (hX12.out.step hb).eq
        go_simp
        exact hk.out _ (Below.refl _ _)
      · refine fstep_val rfl rfl (calm_step rfl fun aa ω κ hb hu hc hK => ?_)
        have h13 : aa.tmps[13]?.getD undef = .pointer (some ⟨g13, 0, none⟩) := (hu 13 rfl).trans e13
        have hk := Lib.hid (fun w1 (h : Below ω.heap.size ω w1) => hK (.agg (arrK .i64 16 (dgt zv))) w1 rfl h)
        clear hK hu hc
        have hr1 := (hX13.out.step hb).row
        have hr2 := (hX13.out.step hb).eq
        go_simp
        exact hk.out _ (Below.refl _ _)
      · refine fstep_val rfl rfl (calm_step rfl fun aa ω κ hb hu hc hK => ?_)
        have h61 : aa.tmps[61]?.getD undef = .agg (arrK .i64 16 (dgt xw)) := hc 3 61 rfl rfl
        have h62 : aa.tmps[62]?.getD undef = .agg (arrK .i64 16 (dgt zv)) := hc 4 62 rfl rfl
        have hk := Lib.hid (fun w1 (h : Below ω.heap.size ω w1) => hK (.agg (arrK .i64 16 (dgt vt))) w1 rfl h)
        clear hK hu hc
        go_simp
        go_at_call 23
        refine (kvt.out _).mono ?_
        rintro e w1 ⟨rfl, hb1⟩
        exact hk.out _ hb1
      · refine fstep_al (n := 16) rfl rfl fun aa ω κ hK => ?_
        have hk := Lib.hid hK
        clear hK
        go_simp
        exact hk.out _ _ hc0
      · refine fstep_al (n := 16) rfl rfl fun aa ω κ hK => ?_
        have hk := Lib.hid hK
        clear hK
        go_simp
        exact hk.out _ _ hc0
      · refine fstep_st (j := 6) (n := 16) (d := 14) rfl rfl rfl rfl rfl hcvs.1 rfl rfl fun aa ω κ g hb hu hc hp hr hK => ?_
        have h60 : aa.tmps[60]?.getD undef = .agg (arrK .i64 16 (dgt vs)) := hc 2 60 rfl rfl
        have hk := Lib.hid hK
        clear hK hu hc
        have hcc := hcvs
        go_simp
        exact hk.out undef
      · refine fstep_st (j := 7) (n := 16) (d := 15) rfl rfl rfl rfl rfl hcvt.1 rfl rfl fun aa ω κ g hb hu hc hp hr hK => ?_
        have h63 : aa.tmps[63]?.getD undef = .agg (arrK .i64 16 (dgt vt)) := hc 5 63 rfl rfl
        have hk := Lib.hid hK
        clear hK hu hc
        have hcc := hcvt
        go_simp
        exact hk.out undef
      · intro a1 w1 G I
        have ha0 := hha0.out
        subst ha0
        have he := act_patch (n := 82) [false, false, false, false, false, false, false, false, false, false, false, false, false, false, true, true, false, false, false, false, false, false, false, false, false, false, false, false, false, false, false, false, false, false, false, false, false, false, false, false, false, false, false, false, false, false, false, false, false, false, false, false, false, false, false, false, false, false, true, true, true, true, true, true, false, false, false, false, false, false, false, false, false, false, false, false, false, false, false, false, false, false] rfl (by kernel_rfl) I.un I.sz I.df
        simp only [patch, cond_true, cond_false, Nat.reduceAdd] at he
        have hal14 := I.al 6 14 16 rfl rfl rfl
        have hal15 := I.al 7 15 16 rfl rfl rfl
        replace hA := Lib.hid (hA.out.step I.bel)
        replace hR := Lib.hid (row_below hR.out I.bel hR.out.lt)
        replace hQ := Lib.hid (row_below hQ.out I.bel hQ.out.lt)
        replace hL := Lib.hid (below_step I.bel hL.out (Nat.le_refl _))
        replace hX8 := Lib.hid (hX8.out.step I.bel)
        replace hX9 := Lib.hid (hX9.out.step I.bel)
        replace hX10 := Lib.hid (hX10.out.step I.bel)
        replace hX11 := Lib.hid (hX11.out.step I.bel)
        replace hX12 := Lib.hid (hX12.out.step I.bel)
        replace hX13 := Lib.hid (hX13.out.step I.bel)
        have hX14 := Lib.hid (show At w1 (G 6) .i64 16 (dgt vs) from ⟨(I.blk 6 16 rfl rfl).2, (I.row 8 6 rfl rfl).2.2⟩)
        have hX15 := Lib.hid (show At w1 (G 7) .i64 16 (dgt vt) from ⟨(I.blk 7 16 rfl rfl).2, (I.row 9 7 rfl rfl).2.2⟩)
        clear kvs kvt
        clear I hz0 hha0 e10 e11 e12 e13
        rw [he]
        clear he
        rw [hal14]
        rw [hal15]
        clear hal14 hal15
        generalize a1.tmps[58]?.getD undef = x58 at *
        generalize a1.tmps[59]?.getD undef = x59 at *
        generalize a1.tmps[60]?.getD undef = x60 at *
        generalize a1.tmps[61]?.getD undef = x61 at *
        generalize a1.tmps[62]?.getD undef = x62 at *
        generalize a1.tmps[63]?.getD undef = x63 at *
        obtain ⟨g14, hgz⟩ : ∃ g, G 6 = g := ⟨_, rfl⟩
        rw [hgz] at hX14 ⊢
        clear hgz
        obtain ⟨g15, hgz⟩ : ∃ g, G 7 = g := ⟨_, rfl⟩
        rw [hgz] at hX15 ⊢
        clear hgz
        generalize w1 = W7 at *
        go_upto_region 8 with (fail)
        generalize ha0 : Act.mk _ _ = a0
        have e3 : a0.tmps[3]?.getD undef = .pointer (some ⟨w.heap.size, 0, none⟩) := by rw [← ha0]; rfl
        have e14 : a0.tmps[14]?.getD undef = .pointer (some ⟨g14, 0, none⟩) := by rw [← ha0]; rfl
        have e15 : a0.tmps[15]?.getD undef = .pointer (some ⟨g15, 0, none⟩) := by rw [← ha0]; rfl
        have hz0 : a0.tmps.size = 82 := by rw [← ha0]; rfl
        have hha0 := Lib.hid ha0
        clear ha0
        refine wp_region_fresh ⟨fun jx_ => match jx_ with | 0 => some (.agg (arrK .i64 16 (dgt vs))) | 1 => some (.agg (arrK .i64 16 (dgt vs))) | 2 => some (.agg (arrK .i64 16 (dgt b1))) | 3 => some (.agg (arrK .i64 16 (dgt u))) | 4 => some (.agg (arrK .i64 16 (dgt vt))) | 5 => some (.agg (arrK .i64 16 (dgt vt))) | 6 => some (.agg (arrK .i64 16 (dgt tt))) | 7 => some (.agg (arrK .i64 16 (dgt b2))) | 8 => some (.agg (arrK .i64 32 (cat2L (dgt b1) (dgt b2)))) | _ => none, fun jx_ => match jx_ with | 9 => some 32 | _ => none, fun jx_ => match jx_ with | 10 => some 9 | _ => none, fun jx_ => match jx_ with | 10 => arrK .i64 32 (cat2L (dgt b1) (dgt b2)) | _ => #[]⟩ (by kernel_rfl) (by kernel_rfl) (by kernel_rfl) (slotsOk_of hz0 (by kernel_rfl)) rfl ⟨?_, ?_, ?_, ?_, ?_, ?_, ?_, ?_, ?_, ?_, ?_, trivial⟩ ?_
        · refine fstep_val rfl rfl (calm_step rfl fun aa ω κ hb hu hc hK => ?_)
          have h14 : aa.tmps[14]?.getD undef = .pointer (some ⟨g14, 0, none⟩) := (hu 14 rfl).trans e14
          have hk := Lib.hid (fun w1 (h : Below ω.heap.size ω w1) => hK (.agg (arrK .i64 16 (dgt vs))) w1 rfl h)
          clear hK hu hc
          have hr1 := (hX14.out.step hb).row
          have hr2 := (hX14.out.step hb).eq
          go_simp
          exact hk.out _ (Below.refl _ _)
        · refine fstep_val rfl rfl (calm_step rfl fun aa ω κ hb hu hc hK => ?_)
          have h14 : aa.tmps[14]?.getD undef = .pointer (some ⟨g14, 0, none⟩) := (hu 14 rfl).trans e14
          have hk := Lib.hid (fun w1 (h : Below ω.heap.size ω w1) => hK (.agg (arrK .i64 16 (dgt vs))) w1 rfl h)
          clear hK hu hc
          have hr1 := (hX14.out.step hb).row
          have hr2 := (hX14.out.step hb).eq
          go_simp
          exact hk.out _ (Below.refl _ _)
        · refine fstep_val rfl rfl (calm_step rfl fun aa ω κ hb hu hc hK => ?_)
          have h64 : aa.tmps[64]?.getD undef = .agg (arrK .i64 16 (dgt vs)) := hc 0 64 rfl rfl
          have h65 : aa.tmps[65]?.getD undef = .agg (arrK .i64 16 (dgt vs)) := hc 1 65 rfl rfl
          have hk := Lib.hid (fun w1 (h : Below ω.heap.size ω w1) => hK (.agg (arrK .i64 16 (dgt b1))) w1 rfl h)
          clear hK hu hc
          go_simp
          go_at_call 25
          refine (kb1.out _).mono ?_
          rintro e w1 ⟨rfl, hb1⟩
          exact hk.out _ hb1
        · refine fstep_val rfl rfl (calm_step rfl fun aa ω κ hb hu hc hK => ?_)
          have h3 : aa.tmps[3]?.getD undef = .pointer (some ⟨w.heap.size, 0, none⟩) := (hu 3 rfl).trans e3
          have hk := Lib.hid (fun w1 (h : Below ω.heap.size ω w1) => hK (.agg (arrK .i64 16 (dgt u))) w1 rfl h)
          clear hK hu hc
          have hr1 := (hA.out.step hb).row
          have hr2 := (hA.out.step hb).eq
          go_simp
          exact hk.out _ (Below.refl _ _)
        · refine fstep_val rfl rfl (calm_step rfl fun aa ω κ hb hu hc hK => ?_)
          have h15 : aa.tmps[15]?.getD undef = .pointer (some ⟨g15, 0, none⟩) := (hu 15 rfl).trans e15
          have hk := Lib.hid (fun w1 (h : Below ω.heap.size ω w1) => hK (.agg (arrK .i64 16 (dgt vt))) w1 rfl h)
          clear hK hu hc
          have hr1 := (hX15.out.step hb).row
          have hr2 := (hX15.out.step hb).eq
          go_simp
          exact hk.out _ (Below.refl _ _)
        · refine fstep_val rfl rfl (calm_step rfl fun aa ω κ hb hu hc hK => ?_)
          have h15 : aa.tmps[15]?.getD undef = .pointer (some ⟨g15, 0, none⟩) := (hu 15 rfl).trans e15
          have hk := Lib.hid (fun w1 (h : Below ω.heap.size ω w1) => hK (.agg (arrK .i64 16 (dgt vt))) w1 rfl h)
          clear hK hu hc
          have hr1 := (hX15.out.step hb).row
          have hr2 := (hX15.out.step hb).eq
          go_simp
          exact hk.out _ (Below.refl _ _)
        · refine fstep_val rfl rfl (calm_step rfl fun aa ω κ hb hu hc hK => ?_)
          have h68 : aa.tmps[68]?.getD undef = .agg (arrK .i64 16 (dgt vt)) := hc 4 68 rfl rfl
          have h69 : aa.tmps[69]?.getD undef = .agg (arrK .i64 16 (dgt vt)) := hc 5 69 rfl rfl
          have hk := Lib.hid (fun w1 (h : Below ω.heap.size ω w1) => hK (.agg (arrK .i64 16 (dgt tt))) w1 rfl h)
          clear hK hu hc
          go_simp
          go_at_call 25
          refine (ktt.out _).mono ?_
          rintro e w1 ⟨rfl, hb1⟩
          exact hk.out _ hb1
        · refine fstep_val rfl rfl (calm_step rfl fun aa ω κ hb hu hc hK => ?_)
          have h67 : aa.tmps[67]?.getD undef = .agg (arrK .i64 16 (dgt u)) := hc 3 67 rfl rfl
          have h70 : aa.tmps[70]?.getD undef = .agg (arrK .i64 16 (dgt tt)) := hc 6 70 rfl rfl
          have hk := Lib.hid (fun w1 (h : Below ω.heap.size ω w1) => hK (.agg (arrK .i64 16 (dgt b2))) w1 rfl h)
          clear hK hu hc
          go_simp
          go_at_call 25
          refine (kb2.out _).mono ?_
          rintro e w1 ⟨rfl, hb1⟩
          exact hk.out _ hb1
        · refine fstep_val rfl rfl (calm_step rfl fun aa ω κ hb hu hc hK => ?_)
          have h66 : aa.tmps[66]?.getD undef = .agg (arrK .i64 16 (dgt b1)) := hc 2 66 rfl rfl
          have h71 : aa.tmps[71]?.getD undef = .agg (arrK .i64 16 (dgt b2)) := hc 7 71 rfl rfl
          have hk := Lib.hid (fun w1 (h : Below ω.heap.size ω w1) => hK (.agg (arrK .i64 32 (cat2L (dgt b1) (dgt b2)))) w1 rfl h)
          clear hK hu hc
          exact wp_bldB (v0 := .agg (arrK .i64 16 (dgt b1))) (v1 := .agg (arrK .i64 16 (dgt b2))) rfl (by go_simp) (by go_simp) (build_f2 _ _ _) (hk.out _ (Below.refl _ _))
        · refine fstep_al (n := 32) rfl rfl fun aa ω κ hK => ?_
          have hk := Lib.hid hK
          clear hK
          go_simp
          exact hk.out _ _ hcz
        · refine fstep_st (j := 9) (n := 32) (d := 16) rfl rfl rfl rfl rfl hcb.1 rfl rfl fun aa ω κ g hb hu hc hp hr hK => ?_
          have h72 : aa.tmps[72]?.getD undef = .agg (arrK .i64 32 (cat2L (dgt b1) (dgt b2))) := hc 8 72 rfl rfl
          have hk := Lib.hid hK
          clear hK hu hc
          have hcc := hcb
          go_simp
          exact hk.out undef
        · intro a1 w1 G I
          have ha0 := hha0.out
          subst ha0
          have he := act_patch (n := 82) [false, false, false, false, false, false, false, false, false, false, false, false, false, false, false, false, true, false, false, false, false, false, false, false, false, false, false, false, false, false, false, false, false, false, false, false, false, false, false, false, false, false, false, false, false, false, false, false, false, false, false, false, false, false, false, false, false, false, false, false, false, false, false, false, true, true, true, true, true, true, true, true, true, false, false, false, false, false, false, false, false, false] rfl (by kernel_rfl) I.un I.sz I.df
          simp only [patch, cond_true, cond_false, Nat.reduceAdd] at he
          have hal16 := I.al 9 16 32 rfl rfl rfl
          have hlR := hR.out.lt
          replace hA := Lib.hid (hA.out.step I.bel)
          replace hR := Lib.hid (row_below hR.out I.bel hR.out.lt)
          replace hQ := Lib.hid (row_below hQ.out I.bel hQ.out.lt)
          replace hL := Lib.hid (below_step I.bel hL.out (Nat.le_refl _))
          replace hX8 := Lib.hid (hX8.out.step I.bel)
          replace hX9 := Lib.hid (hX9.out.step I.bel)
          replace hX10 := Lib.hid (hX10.out.step I.bel)
          replace hX11 := Lib.hid (hX11.out.step I.bel)
          replace hX12 := Lib.hid (hX12.out.step I.bel)
          replace hX13 := Lib.hid (hX13.out.step I.bel)
          replace hX14 := Lib.hid (hX14.out.step I.bel)
          replace hX15 := Lib.hid (hX15.out.step I.bel)
          have lt16 := Lib.hid (show w.heap.size + 1 < G 9 from Nat.lt_of_lt_of_le hlR (I.blk 9 32 rfl rfl).1)
          clear hlR
          have hX16 := Lib.hid (show At w1 (G 9) .i64 32 (cat2L (dgt b1) (dgt b2)) from ⟨(I.blk 9 32 rfl rfl).2, (I.row 10 9 rfl rfl).2.2⟩)
          clear kb1 ktt kb2 hA hX10 hX11 hX12 hX13 hX14 hX15
          clear I hz0 hha0 e3 e14 e15
          rw [he]
          clear he
          rw [hal16]
          clear hal16
          generalize a1.tmps[64]?.getD undef = x64 at *
          generalize a1.tmps[65]?.getD undef = x65 at *
          generalize a1.tmps[66]?.getD undef = x66 at *
          generalize a1.tmps[67]?.getD undef = x67 at *
          generalize a1.tmps[68]?.getD undef = x68 at *
          generalize a1.tmps[69]?.getD undef = x69 at *
          generalize a1.tmps[70]?.getD undef = x70 at *
          generalize a1.tmps[71]?.getD undef = x71 at *
          generalize a1.tmps[72]?.getD undef = x72 at *
          go_upto_region 9 with (fail)
          obtain ⟨g16, hg⟩ : ∃ g, G 9 = g := ⟨_, rfl⟩
          rw [hg] at hX16 lt16 ⊢
          clear hg
          generalize w1 = W8 at *
          by_cases hbit : n % 2 = 0
          · have hrm : ((rm : Int) == 0) = true := by rw [beq_iff_eq]; have := hrm0.out.2 hbit; omega
            have hgg := hfin0.out hbit
            injection hgg with i1 i2
            injection i2 with i2 i3
            injection i3 with i3 i4
            subst i1 i2 i3 i4
            clear hbit hrm0 hfin0 hfin1 kDr
            go_upto_region 10 with (fail)
            generalize ha0 : Act.mk _ _ = a0
            have e4 : a0.tmps[4]?.getD undef = .pointer (some ⟨w.heap.size + 1, 0, none⟩) := by rw [← ha0]; rfl
            have e5 : a0.tmps[5]?.getD undef = .pointer (some ⟨w.heap.size + 1 + 1, 0, none⟩) := by rw [← ha0]; rfl
            have e8 : a0.tmps[8]?.getD undef = .pointer (some ⟨g8, 0, none⟩) := by rw [← ha0]; rfl
            have e16 : a0.tmps[16]?.getD undef = .pointer (some ⟨g16, 0, none⟩) := by rw [← ha0]; rfl
            have hz0 : a0.tmps.size = 82 := by rw [← ha0]; rfl
            have hha0 := Lib.hid ha0
            clear ha0
            refine wp_region_two (fun jx_ => match jx_ with | 0 => some (.agg (arrK .i64 32 (cat2L (dgt a) (dgt b)))) | 1 => some (.agg (arrK .i64 32 (cat2L (dgt g1) (dgt g2)))) | 2 => some (.agg (arrK .i64 32 (cat2L (dgt g3) (dgt g4)))) | _ => none) 3 ((w.heap.size + 1)) 32 (arrK .i64 32 (cat2L (dgt g1) (dgt g2))) 4 ((w.heap.size + 1 + 1)) 32 (arrK .i64 32 (cat2L (dgt g3) (dgt g4))) (by kernel_rfl) (by kernel_rfl) (by kernel_rfl) (slotsOk_of hz0 (by kernel_rfl)) (of_decide_eq_true (by kernel_rfl)) (of_decide_eq_true (by kernel_rfl)) (by decide) (by kernel_rfl) (by omega) hR.out hQ.out ⟨?_, ?_, ?_, ?_, ?_, trivial⟩ ?_
            · refine two_before (by decide) (by decide) (by kernel_rfl) (calm_step rfl fun aa ω κ hb hu hc hK => ?_)
              have h8 : aa.tmps[8]?.getD undef = .pointer (some ⟨g8, 0, none⟩) := (hu 8 rfl).trans e8
              have hk := Lib.hid (fun w1 (h : Below ω.heap.size ω w1) => hK (.agg (arrK .i64 32 (cat2L (dgt a) (dgt b)))) w1 rfl h)
              clear hK hu hc
              have hr1 := (hX8.out.step hb).row
              have hr2 := (hX8.out.step hb).eq
              go_simp
              exact hk.out _ (Below.refl _ _)
            · refine two_before (by decide) (by decide) (by kernel_rfl) (calm_step rfl fun aa ω κ hb hu hc hK => ?_)
              have h76 : aa.tmps[76]?.getD undef = .agg (arrK .i64 32 (cat2L (dgt a) (dgt b))) := hc 0 76 rfl rfl
              have hk := Lib.hid (fun w1 (h : Below ω.heap.size ω w1) => hK (.agg (arrK .i64 32 (cat2L (dgt g1) (dgt g2)))) w1 rfl h)
              clear hK hu hc
              go_simp
              go_at_call 154
              refine (kDq.out _).mono ?_
              rintro e w1 ⟨rfl, hb1⟩
              exact hk.out _ hb1
            · refine two_mid (by decide) (by decide) (by kernel_rfl) (by kernel_rfl) ?_ ?_
              · refine calm_step rfl fun aa ω κ hb hu hc hK => ?_
                have h16 : aa.tmps[16]?.getD undef = .pointer (some ⟨g16, 0, none⟩) := (hu 16 rfl).trans e16
                have hk := Lib.hid (fun w1 (h : Below ω.heap.size ω w1) => hK (.agg (arrK .i64 32 (cat2L (dgt g3) (dgt g4)))) w1 rfl h)
                clear hK hu hc
                have hr1 := (hX16.out.step hb).row
                have hr2 := (hX16.out.step hb).eq
                go_simp
                exact hk.out _ (Below.refl _ _)
              · refine calm_step rfl fun aa ω κ hb hu hc hK => ?_
                replace hX16 := Lib.hid (hX16.out.far (c := arrK .i64 32 (cat2L (dgt g1) (dgt g2))) (show g16 ≠ w.heap.size + 1 by have := lt16.out; omega))
                have h16 : aa.tmps[16]?.getD undef = .pointer (some ⟨g16, 0, none⟩) := (hu 16 rfl).trans e16
                have hk := Lib.hid (fun w1 (h : Below ω.heap.size ω w1) => hK (.agg (arrK .i64 32 (cat2L (dgt g3) (dgt g4)))) w1 rfl h)
                clear hK hu hc
                have hr1 := (hX16.out.step hb).row
                have hr2 := (hX16.out.step hb).eq
                go_simp
                exact hk.out _ (Below.refl _ _)
            · refine two_q1 (one_write rfl rfl fun aa ω κ hb hu hc hr hK => ?_)
              have h4 : aa.tmps[4]?.getD undef = .pointer (some ⟨w.heap.size + 1, 0, none⟩) := (hu 4 rfl).trans e4
              have h77 : aa.tmps[77]?.getD undef = .agg (arrK .i64 32 (cat2L (dgt g1) (dgt g2))) := hc 1 77 rfl rfl
              have hk := Lib.hid hK
              clear hK hu hc
              have hcc := hcg
              go_simp
              exact hk.out undef
            · refine two_q2 (by decide) (one_write rfl rfl fun aa ω κ hb hu hc hr hK => ?_)
              have h5 : aa.tmps[5]?.getD undef = .pointer (some ⟨w.heap.size + 1 + 1, 0, none⟩) := (hu 5 rfl).trans e5
              have h78 : aa.tmps[78]?.getD undef = .agg (arrK .i64 32 (cat2L (dgt g3) (dgt g4))) := hc 2 78 rfl rfl
              have hk := Lib.hid hK
              clear hK hu hc
              have hcc := hch
              go_simp
              exact hk.out undef
            · intro a1 w1 hb1 hu1 hsz1 hdf1 hv1
              have ha0 := hha0.out
              subst ha0
              have he := act_patch (n := 82) [false, false, false, false, false, false, false, false, false, false, false, false, false, false, false, false, false, false, false, false, false, false, false, false, false, false, false, false, false, false, false, false, false, false, false, false, false, false, false, false, false, false, false, false, false, false, false, false, false, false, false, false, false, false, false, false, false, false, false, false, false, false, false, false, false, false, false, false, false, false, false, false, false, false, false, false, true, true, true, false, false, false] rfl (by kernel_rfl) hu1 hsz1 hdf1
              simp only [patch, cond_true, cond_false, Nat.reduceAdd] at he
              have hXz := ((At.put (k := .i64) (f := (cat2L (dgt g1) (dgt g2))) hR.out).far (c := arrK .i64 32 (cat2L (dgt g3) (dgt g4))) (show w.heap.size + 1 ≠ w.heap.size + 1 + 1 by omega)).below hb1 (by simpa using hR.out.lt)
              have hYz := (At.put (w := W8.setRow (w.heap.size + 1) (arrK .i64 32 (cat2L (dgt g1) (dgt g2)))) (k := .i64) (f := (cat2L (dgt g3) (dgt g4))) ((row_setRow_far (show w.heap.size + 1 + 1 ≠ w.heap.size + 1 by omega)).2 hQ.out)).below hb1 (by simpa using hQ.out.lt)
              have hLz := Lib.hid (Below.trans (below_setRow (c := arrK .i64 32 (cat2L (dgt g3) (dgt g4))) (below_setRow (c := arrK .i64 32 (cat2L (dgt g1) (dgt g2))) hL.out (show w.heap.size ≤ w.heap.size + 1 by omega)) (show w.heap.size ≤ w.heap.size + 1 + 1 by omega)) (hb1.mono (by simpa using hL.out.size)))
              clear hR hQ hL kDq hX8 hX9 hX16
              clear hb1 hu1 hsz1 hdf1 hv1 hz0 hha0 e4 e5 e8 e16
              rw [he]
              clear he
              generalize a1.tmps[76]?.getD undef = x76 at *
              generalize a1.tmps[77]?.getD undef = x77 at *
              generalize a1.tmps[78]?.getD undef = x78 at *
              go_wp2_with fail
              refine ret_cc (p := 4) (q := 5) (ty := 135) (ty2 := 135) (g := w.heap.size + 1) (g2 := w.heap.size + 1 + 1) rfl Try.underlying135 rfl (by kernel_rfl) Try.underlying135 rfl (by kernel_rfl) rfl rfl hXz.row hYz.row rfl ?_
              rw [hXz.eq, hYz.eq]
              exact ⟨rfl, hLz.out⟩
          · have hrm : ((rm : Int) == 0) = false := by rw [beq_eq_false_iff_ne]; have := hrm0.out.1; omega
            have hgg := hfin1.out hbit
            injection hgg with i1 i2
            injection i2 with i2 i3
            injection i3 with i3 i4
            subst i1 i2 i3 i4
            clear hbit hrm0 hfin0 hfin1 kDq
            go_upto_region 11 with (fail)
            generalize ha0 : Act.mk _ _ = a0
            have e4 : a0.tmps[4]?.getD undef = .pointer (some ⟨w.heap.size + 1, 0, none⟩) := by rw [← ha0]; rfl
            have e5 : a0.tmps[5]?.getD undef = .pointer (some ⟨w.heap.size + 1 + 1, 0, none⟩) := by rw [← ha0]; rfl
            have e9 : a0.tmps[9]?.getD undef = .pointer (some ⟨g9, 0, none⟩) := by rw [← ha0]; rfl
            have e16 : a0.tmps[16]?.getD undef = .pointer (some ⟨g16, 0, none⟩) := by rw [← ha0]; rfl
            have hz0 : a0.tmps.size = 82 := by rw [← ha0]; rfl
            have hha0 := Lib.hid ha0
            clear ha0
            refine wp_region_two (fun jx_ => match jx_ with | 0 => some (.agg (arrK .i64 32 (cat2L (dgt g1) (dgt g2)))) | 1 => some (.agg (arrK .i64 32 (cat2L (dgt c) (dgt d)))) | 2 => some (.agg (arrK .i64 32 (cat2L (dgt g3) (dgt g4)))) | _ => none) 3 ((w.heap.size + 1)) 32 (arrK .i64 32 (cat2L (dgt g1) (dgt g2))) 4 ((w.heap.size + 1 + 1)) 32 (arrK .i64 32 (cat2L (dgt g3) (dgt g4))) (by kernel_rfl) (by kernel_rfl) (by kernel_rfl) (slotsOk_of hz0 (by kernel_rfl)) (of_decide_eq_true (by kernel_rfl)) (of_decide_eq_true (by kernel_rfl)) (by decide) (by kernel_rfl) (by omega) hR.out hQ.out ⟨?_, ?_, ?_, ?_, ?_, trivial⟩ ?_
            · refine two_before (by decide) (by decide) (by kernel_rfl) (calm_step rfl fun aa ω κ hb hu hc hK => ?_)
              have h16 : aa.tmps[16]?.getD undef = .pointer (some ⟨g16, 0, none⟩) := (hu 16 rfl).trans e16
              have hk := Lib.hid (fun w1 (h : Below ω.heap.size ω w1) => hK (.agg (arrK .i64 32 (cat2L (dgt g1) (dgt g2)))) w1 rfl h)
              clear hK hu hc
              have hr1 := (hX16.out.step hb).row
              have hr2 := (hX16.out.step hb).eq
              go_simp
              exact hk.out _ (Below.refl _ _)
            · refine two_before (by decide) (by decide) (by kernel_rfl) (calm_step rfl fun aa ω κ hb hu hc hK => ?_)
              have h9 : aa.tmps[9]?.getD undef = .pointer (some ⟨g9, 0, none⟩) := (hu 9 rfl).trans e9
              have hk := Lib.hid (fun w1 (h : Below ω.heap.size ω w1) => hK (.agg (arrK .i64 32 (cat2L (dgt c) (dgt d)))) w1 rfl h)
              clear hK hu hc
              have hr1 := (hX9.out.step hb).row
              have hr2 := (hX9.out.step hb).eq
              go_simp
              exact hk.out _ (Below.refl _ _)
            · refine two_before (by decide) (by decide) (by kernel_rfl) (calm_step rfl fun aa ω κ hb hu hc hK => ?_)
              have h80 : aa.tmps[80]?.getD undef = .agg (arrK .i64 32 (cat2L (dgt c) (dgt d))) := hc 1 80 rfl rfl
              have hk := Lib.hid (fun w1 (h : Below ω.heap.size ω w1) => hK (.agg (arrK .i64 32 (cat2L (dgt g3) (dgt g4)))) w1 rfl h)
              clear hK hu hc
              go_simp
              go_at_call 154
              refine (kDr.out _).mono ?_
              rintro e w1 ⟨rfl, hb1⟩
              exact hk.out _ hb1
            · refine two_q1 (one_write rfl rfl fun aa ω κ hb hu hc hr hK => ?_)
              have h4 : aa.tmps[4]?.getD undef = .pointer (some ⟨w.heap.size + 1, 0, none⟩) := (hu 4 rfl).trans e4
              have h79 : aa.tmps[79]?.getD undef = .agg (arrK .i64 32 (cat2L (dgt g1) (dgt g2))) := hc 0 79 rfl rfl
              have hk := Lib.hid hK
              clear hK hu hc
              have hcc := hcg
              go_simp
              exact hk.out undef
            · refine two_q2 (by decide) (one_write rfl rfl fun aa ω κ hb hu hc hr hK => ?_)
              have h5 : aa.tmps[5]?.getD undef = .pointer (some ⟨w.heap.size + 1 + 1, 0, none⟩) := (hu 5 rfl).trans e5
              have h81 : aa.tmps[81]?.getD undef = .agg (arrK .i64 32 (cat2L (dgt g3) (dgt g4))) := hc 2 81 rfl rfl
              have hk := Lib.hid hK
              clear hK hu hc
              have hcc := hch
              go_simp
              exact hk.out undef
            · intro a1 w1 hb1 hu1 hsz1 hdf1 hv1
              have ha0 := hha0.out
              subst ha0
              have he := act_patch (n := 82) [false, false, false, false, false, false, false, false, false, false, false, false, false, false, false, false, false, false, false, false, false, false, false, false, false, false, false, false, false, false, false, false, false, false, false, false, false, false, false, false, false, false, false, false, false, false, false, false, false, false, false, false, false, false, false, false, false, false, false, false, false, false, false, false, false, false, false, false, false, false, false, false, false, false, false, false, false, false, false, true, true, true] rfl (by kernel_rfl) hu1 hsz1 hdf1
              simp only [patch, cond_true, cond_false, Nat.reduceAdd] at he
              have hXz := ((At.put (k := .i64) (f := (cat2L (dgt g1) (dgt g2))) hR.out).far (c := arrK .i64 32 (cat2L (dgt g3) (dgt g4))) (show w.heap.size + 1 ≠ w.heap.size + 1 + 1 by omega)).below hb1 (by simpa using hR.out.lt)
              have hYz := (At.put (w := W8.setRow (w.heap.size + 1) (arrK .i64 32 (cat2L (dgt g1) (dgt g2)))) (k := .i64) (f := (cat2L (dgt g3) (dgt g4))) ((row_setRow_far (show w.heap.size + 1 + 1 ≠ w.heap.size + 1 by omega)).2 hQ.out)).below hb1 (by simpa using hQ.out.lt)
              have hLz := Lib.hid (Below.trans (below_setRow (c := arrK .i64 32 (cat2L (dgt g3) (dgt g4))) (below_setRow (c := arrK .i64 32 (cat2L (dgt g1) (dgt g2))) hL.out (show w.heap.size ≤ w.heap.size + 1 by omega)) (show w.heap.size ≤ w.heap.size + 1 + 1 by omega)) (hb1.mono (by simpa using hL.out.size)))
              clear hR hQ hL kDr hX8 hX9 hX16
              clear hb1 hu1 hsz1 hdf1 hv1 hz0 hha0 e4 e5 e9 e16
              rw [he]
              clear he
              generalize a1.tmps[79]?.getD undef = x79 at *
              generalize a1.tmps[80]?.getD undef = x80 at *
              generalize a1.tmps[81]?.getD undef = x81 at *
              go_wp2_with fail
              refine ret_cc (p := 4) (q := 5) (ty := 135) (ty2 := 135) (g := w.heap.size + 1) (g2 := w.heap.size + 1 + 1) rfl Try.underlying135 rfl (by kernel_rfl) Try.underlying135 rfl (by kernel_rfl) rfl rfl hXz.row hYz.row rfl ?_
              rw [hXz.eq, hYz.eq]
              exact ⟨rfl, hLz.out⟩
theorem ref_rungs (u : Nat) (hu : u < 2 ^ 256) : ∀ n, n < 2 ^ 256 → RungsSay u n := fun n => by
  induction n using Nat.strongRecOn with
  | ind n ih =>
    intro hn
    by_cases h : n = 0
    · subst h; exact rungs_zero u
    · have hl := rng_lt u (n / 2) hu
      obtain ⟨⟨a, b, c, d⟩, hS⟩ : ∃ s, rng u (n / 2) = s := ⟨_, rfl⟩
      rw [hS] at hl
      exact rungs_step u n a b c d _ _ _ _ _ _ _ _ _ h hn hu hl.1 hl.2.1 hl.2.2.1 hl.2.2.2 hS rfl rfl rfl rfl rfl rfl rfl rfl rfl (ih (n / 2) (by omega) (by omega))
end Go.Proofs.Ytodcjeaannfbnaa
namespace Go.Proofs.Ytodcjeaannfbnaa
open Go Go.RowKit

section
variable {P : Program} {ops : Array Oper} {Q : Exit → Act → World → Prop}

/-- What is told of the operations: the plain value of one, the cells of one that lays a block, the layer whose block one writes, and what it writes. -/
structure FSpecR where
  val : Nat → Option Value
  al : Nat → Option Nat
  tg : Nat → Option Nat
  row : Nat → Array Value
  sr : Nat → Option SRel
def FSpecR.rel0 (F : FSpecR) (i : Nat) : SRel := match F.val i with | some c => SRel.is c | none => SRel.any
def FSpecR.rel (F : FSpecR) (i : Nat) : SRel := match F.sr i with | some r => r | none => F.rel0 i
/-- One that writes a block. -/
def WriteOkR (P : Program) (Q : Exit → Act → World → Prop) (ops : Array Oper) (F : FSpecR) (a0 : Act) (w0 : World) (j n : Nat) (c : Array Value) (o : Oper) : Prop :=
  o.dst = none ∧ (o.after.toList.any fun e => e.on == j && Region.binds .any e) = true ∧ c.size = n ∧
  ∀ (a : Act) (w : World) (K : Act → World → Prop) (g : Nat), Below w0.heap.size w0 w → Untouched ops a0 a → Came ops F.rel0 o a w → (∀ d, dstAt ops j = some d → a.tmps[d]?.getD undef = .pointer (some ⟨g, 0, none⟩)) → Row w g n → (∀ v, K (a.put none v) (w.setRow g c)) →
    if Region.wanted o (yielded ops a.tmps) = true then Oper.wp P o a w K Q else K (a.put o.dst undef) w
def FStepOkR (P : Program) (ops : Array Oper) (Q : Exit → Act → World → Prop) (F : FSpecR) (a0 : Act) (w0 : World) (i : Nat) (o : Oper) : Prop :=
  match F.al i, F.tg i with
  | some n, _ => AllocOk P Q ops n o
  | none, some j => ∃ n, F.al j = some n ∧ WriteOkR P Q ops F a0 w0 j n (F.row i) o
  | none, none => StepOk P ops Q F.rel a0 w0 i o
def FStepsOkR (P : Program) (ops : Array Oper) (Q : Exit → Act → World → Prop) (F : FSpecR) (a0 : Act) (w0 : World) : Nat → List Oper → Prop
  | _, [] => True
  | i, o :: l => FStepOkR P ops Q F a0 w0 i o ∧ FStepsOkR P ops Q F a0 w0 (i + 1) l
theorem fsteps_atR {F : FSpecR} {a0 : Act} {w0 : World} : ∀ (l : List Oper) (n i : Nat) (o : Oper), FStepsOkR P ops Q F a0 w0 n l → l[i]? = some o → FStepOkR P ops Q F a0 w0 (n + i) o
  | [], n, i, o, _, h => by simp at h
  | x :: l, n, 0, o, h1, h => by
      have : x = o := by simpa using h
      subst this
      exact h1.1
  | x :: l, n, i + 1, o, h1, h => by
      have := fsteps_atR l (n + 1) i o h1.2 (by simpa using h)
      rw [show n + (i + 1) = n + 1 + i by omega]
      exact this
/-- No operation is told of twice; no block is written twice. -/
def FSpecR.ok (F : FSpecR) (n : Nat) : Bool := (List.range n).all fun i => (List.range n).all fun j => (i == j || (F.tg i).isNone || F.tg i != F.tg j) && ((F.al i).isNone || ((F.tg i).isNone && (F.val i).isNone && (F.sr i).isNone)) && ((F.sr i).isNone || (F.val i).isNone)
/-- An operation that takes what holds only ahead of all writing is waited for by all that write. -/
def FSpecR.early (F : FSpecR) (ops : Array Oper) : Bool := (List.range ops.size).all fun i => match ops[i]? with
  | some o => (F.tg i).isSome || (o.after.toList.all fun e => !Region.binds .any e || (F.sr e.on).isNone) || ((List.range ops.size).all fun k => (F.tg k).isNone || pathB ops ops.size k i)
  | none => true
/-- Nothing has been written. -/
def Dry (F : FSpecR) (L : Nat → Bool) : Prop := ∀ k, L k = true → F.tg k = none
/-- What stands while the region runs. -/
structure FInvR (ops : Array Oper) (F : FSpecR) (a0 : Act) (w0 : World) (G : Nat → Nat) (L : Nat → Bool) (a : Act) (w : World) : Prop where
  bel : Below w0.heap.size w0 w
  un : Untouched ops a0 a
  sz : a.tmps.size = a0.tmps.size
  df : a.defers = a0.defers
  val : ∀ j d, L j = true → dstAt ops j = some d → (F.rel0 j).p (a.tmps[d]?.getD undef) w
  sr : Dry F L → ∀ j d, L j = true → dstAt ops j = some d → (F.rel j).p (a.tmps[d]?.getD undef) w
  al : ∀ j d n, L j = true → dstAt ops j = some d → F.al j = some n → a.tmps[d]?.getD undef = .pointer (some ⟨G j, 0, none⟩)
  blk : ∀ j n, L j = true → F.al j = some n → w0.heap.size ≤ G j ∧ Row w (G j) n
  ne : ∀ i j n m, L i = true → L j = true → F.al i = some n → F.al j = some m → i ≠ j → G i ≠ G j
  row : ∀ k j, L k = true → F.tg k = some j → L j = true ∧ (∃ n, F.al j = some n) ∧ rowAt w (G j) = F.row k
theorem rel_anyR {F : FSpecR} {i : Nat} {v : Value} {w w' : World} (h : (F.rel0 i).p v w) : (F.rel0 i).p v w' := by
  unfold FSpecR.rel0 at *
  cases h1 : F.val i with
  | none => trivial
  | some c => rw [h1] at h; exact h
theorem wp_region_freshR {id : Nat} {a0 : Act} {w0 : World} (F : FSpecR) (hm : P.follows .mixedOrders = true) (he : edgesOk ops = true) (hd : dstsOk ops = true) (hz : slotsOk ops a0.tmps.size = true) (hF : F.ok ops.size = true) (hE : F.early ops = true)
    (hstep : FStepsOkR P ops Q F a0 w0 0 ops.toList)
    (hend : ∀ (a : Act) (w : World) (G : Nat → Nat), FInvR ops F a0 w0 G (fun i => decide (i < ops.size)) a w → Q .normal a w) :
    (Code.region id ops true).wp P Q a0 w0 := by
  refine wp_region_any hm ?_
  have hlt : ∀ i d, dstAt ops i = some d → i < ops.size := fun i d h => by
    unfold dstAt at h
    rcases Nat.lt_or_ge i ops.size with h1 | h1
    · exact h1
    · rw [Array.getElem?_eq_none h1] at h; cases h
  have hdst : ∀ i j d e, i ≠ j → dstAt ops i = some d → dstAt ops j = some e → d ≠ e := by
    intro i j d e hij h1 h2
    have := List.all_eq_true.1 (List.all_eq_true.1 hd i (by simpa using hlt i d h1)) j (by simpa using hlt j e h2)
    rw [h1, h2] at this
    simpa [hij] using this
  have hslot : ∀ i d, dstAt ops i = some d → d < a0.tmps.size := by
    intro i d h1
    have := List.all_eq_true.1 hz i (by simpa using hlt i d h1)
    rw [h1] at this
    simpa using this
  refine wpAny_inv he (fun listed a w => (listed.size = ops.size ∧ ∀ k o, listed.getD k false = true → ops[k]? = some o → ∀ e ∈ o.after, Region.binds .any e = true → listed.getD e.on false = true) ∧ ∃ G, FInvR ops F a0 w0 G (fun i => listed.getD i false) a w) ?_ ?_ _ _ _ _ (by simp) ?_ ?_
  · rintro listed a w i o hs ⟨⟨-, hcl⟩, G, I⟩ hi h1 ho h2
    have hs0 : (listed.setIfInBounds i true).size = ops.size := by simpa using hs
    have hst := fsteps_atR ops.toList 0 i o hstep (by rw [Array.getElem?_toList]; exact ho)
    rw [Nat.zero_add] at hst
    have hil : i < listed.size := by omega
    have hli : listed.getD i false = false := by simpa [hil] using h1
    have hcl' : ∀ k o', (listed.setIfInBounds i true).getD k false = true → ops[k]? = some o' → ∀ e ∈ o'.after, Region.binds .any e = true → (listed.setIfInBounds i true).getD e.on false = true := by
      intro k o' hk ho' e he1 he2
      have hle : listed.getD e.on false = true := by
        by_cases hki : k = i
        · subst hki
          rw [ho] at ho'
          cases ho'
          exact h2 e he1 he2
        · have hk' : listed.getD k false = true := by simpa [Array.getElem?_setIfInBounds_ne (Ne.symm hki)] using hk
          exact hcl k o' hk' ho' e he1 he2
      by_cases hei : e.on = i
      · rw [hei]; simp [hil]
      · simpa [Array.getElem?_setIfInBounds_ne (Ne.symm hei)] using hle
    have hs' : (listed.setIfInBounds i true).size = ops.size ∧ _ := ⟨hs0, hcl'⟩
    have hL : ∀ j, (listed.setIfInBounds i true).getD j false = true → j = i ∨ listed.getD j false = true := by
      intro j hj
      by_cases hij : i = j
      · exact .inl hij.symm
      · exact .inr (by simpa [Array.getElem?_setIfInBounds_ne hij] using hj)
    have hLm : ∀ j, listed.getD j false = true → (listed.setIfInBounds i true).getD j false = true := by
      intro j hj
      by_cases hij : i = j
      · subst hij; simp [hil]
      · simpa [Array.getElem?_setIfInBounds_ne hij] using hj
    have hun : ∀ v, Untouched ops a0 (a.put o.dst v) := by
      intro v s hs'
      have hns : o.dst ≠ some s := by
        have := List.all_eq_true.1 hs' o (Array.mem_toList_iff.2 (Array.mem_of_getElem? ho))
        simpa using this
      rw [← I.un s hs']
      cases hd' : o.dst with
      | none => rfl
      | some d =>
        have hne : d ≠ s := fun e => hns (by rw [hd', e])
        simp [Act.put, Array.getElem?_setIfInBounds_ne hne]
    have hsz : ∀ v, (a.put o.dst v).tmps.size = a0.tmps.size := fun v => by cases hd' : o.dst <;> simp [Act.put, I.sz]
    have hdf : ∀ v, (a.put o.dst v).defers = a0.defers := fun v => by cases hd' : o.dst <;> simp [Act.put, I.df]
    have hother : ∀ v j d, listed.getD j false = true → dstAt ops j = some d → (a.put o.dst v).tmps[d]?.getD undef = a.tmps[d]?.getD undef := by
      intro v j d hj hjd
      have hij : i ≠ j := fun e => by rw [e, hj] at hli; cases hli
      cases hd' : o.dst with
      | none => rfl
      | some d' =>
        have hne : d' ≠ d := hdst i j d' d hij (by unfold dstAt; rw [ho]; exact hd') hjd
        simp [Act.put, Array.getElem?_setIfInBounds_ne hne]
    have hown : ∀ v d, dstAt ops i = some d → (a.put o.dst v).tmps[d]?.getD undef = v := by
      intro v d hid
      have hd1 := hslot i d hid
      have hod : o.dst = some d := by unfold dstAt at hid; rw [ho] at hid; exact hid
      rw [hod]
      rw [← I.sz] at hd1
      simp [Act.put, hd1]
    have hcame0 : Came ops F.rel0 o a w := by
      intro j d hj hjd
      obtain ⟨e, he1, he2⟩ := List.any_eq_true.1 hj
      have he1 : e ∈ o.after := Array.mem_toList_iff.1 he1
      simp only [Bool.and_eq_true, beq_iff_eq] at he2
      have hjl : listed.getD j false = true := by rw [← he2.1]; exact h2 e he1 he2.2
      exact I.val j d hjl hjd
    have hdry : (Dry F fun z => (listed.setIfInBounds i true).getD z false) → Dry F fun z => listed.getD z false := fun h k hk => h k (hLm k hk)
    have hcame : F.tg i = none → Came ops F.rel o a w := by
      intro htn j d hj hjd
      obtain ⟨e, he1, he2⟩ := List.any_eq_true.1 hj
      have he1 : e ∈ o.after := Array.mem_toList_iff.1 he1
      simp only [Bool.and_eq_true, beq_iff_eq] at he2
      have hjl : listed.getD j false = true := by rw [← he2.1]; exact h2 e he1 he2.2
      have hEi := List.all_eq_true.1 hE i (by simpa using hi)
      rw [ho, htn] at hEi
      simp only [Option.isSome_none, Bool.false_or, Bool.or_eq_true] at hEi
      rcases hEi with hEi | hEi
      · have h3 := List.all_eq_true.1 hEi e (Array.mem_toList_iff.2 he1)
        rw [he2.2, he2.1] at h3
        have h4 : F.sr j = none := by simpa using h3
        have h5 := I.val j d hjl hjd
        unfold FSpecR.rel
        rw [h4]
        exact h5
      · refine I.sr (fun k hk => ?_) j d hjl hjd
        have hkl : k < ops.size := by
          rcases Nat.lt_or_ge k ops.size with h | h
          · exact h
          · have hk : listed.getD k false = true := hk
            rw [Array.getD_eq_getD_getElem?, Array.getElem?_eq_none (by omega)] at hk; cases hk
        have h3 := List.all_eq_true.1 hEi k (by simpa using hkl)
        rw [Bool.or_eq_true] at h3
        rcases h3 with h3 | h3
        · simpa using h3
        · have h4 := path_listed hcl _ _ _ hk h3
          rw [hli] at h4
          cases h4
    have htg : ∀ k k' j, k < ops.size → k' < ops.size → F.tg k = some j → F.tg k' = some j → k = k' := by
      intro k k' j hk hk' h3 h4
      have := List.all_eq_true.1 (List.all_eq_true.1 hF k (by simpa using hk)) k' (by simpa using hk')
      rw [h3, h4, Bool.and_eq_true, Bool.and_eq_true] at this
      simpa using this.1.1
    have hal0 : ∀ n, F.al i = some n → F.tg i = none ∧ F.val i = none ∧ F.sr i = none := by
      intro n h3
      have := List.all_eq_true.1 (List.all_eq_true.1 hF i (by simpa using hi)) i (by simpa using hi)
      rw [h3] at this
      simp only [Option.isNone_some, Bool.false_or, Bool.and_eq_true] at this
      obtain ⟨⟨-, h4⟩, -⟩ := this
      simp only [Option.isNone_iff_eq_none] at h4
      exact ⟨h4.1.1, h4.1.2, h4.2⟩
    have hLs : ∀ j, listed.getD j false = true → j < ops.size := by
      intro j hj
      rcases Nat.lt_or_ge j ops.size with h | h
      · exact h
      · rw [Array.getD_eq_getD_getElem?, Array.getElem?_eq_none (by omega)] at hj; cases hj
    unfold FStepOkR at hst
    cases hal : F.al i with
    | some n =>
      rw [hal] at hst
      refine wpOp_step ho fun K hK => hst a w K fun c t hc => hK _ _ ⟨hs', fun j => if j = i then w.heap.size else G j, ?_⟩
      have hG : ∀ j, listed.getD j false = true → (if j = i then w.heap.size else G j) = G j := fun j hj => if_neg fun e => by rw [e, hli] at hj; cases hj
      refine ⟨I.bel.alloc I.bel.size _, hun _, hsz _, hdf _, ?_, ?_, ?_, ?_, ?_, ?_⟩
      · intro j d hj hjd
        rcases hL j hj with rfl | hj
        · unfold FSpecR.rel0; rw [(hal0 n hal).2.1]; trivial
        · rw [hother _ j d hj hjd]; exact rel_anyR (I.val j d hj hjd)
      · intro hdr j d hj hjd
        rcases hL j hj with rfl | hj
        · unfold FSpecR.rel FSpecR.rel0; rw [(hal0 n hal).2.2, (hal0 n hal).2.1]; trivial
        · rw [hother _ j d hj hjd]; exact (F.rel j).st _ _ _ (below_alloc w _) (I.sr (hdry hdr) j d hj hjd)
      · intro j d m hj hjd hm
        rcases hL j hj with rfl | hj
        · rw [hown _ d hjd, if_pos rfl]
        · rw [hother _ j d hj hjd, hG j hj]; exact I.al j d m hj hjd hm
      · intro j m hj hm
        rcases hL j hj with rfl | hj
        · rw [if_pos rfl]
          rw [hal] at hm
          cases hm
          exact ⟨I.bel.size, (row_new_cells rfl hc).2 trivial⟩
        · rw [hG j hj]
          have := I.blk j m hj hm
          exact ⟨this.1, (row_old this.2.lt).2 this.2⟩
      · intro j k m m' hj hk hm hm' hjk
        rcases hL j hj with rfl | hj'
        · rcases hL k hk with rfl | hk'
          · exact absurd rfl hjk
          · rw [if_pos rfl, hG k hk']
            have := (I.blk k m' hk' hm').2.lt
            omega
        · rcases hL k hk with rfl | hk'
          · rw [if_pos rfl, hG j hj']
            have := (I.blk j m hj' hm).2.lt
            omega
          · rw [hG j hj', hG k hk']; exact I.ne j k m m' hj' hk' hm hm' hjk
      · intro k j hk hkj
        rcases hL k hk with rfl | hk'
        · rw [(hal0 n hal).1] at hkj; cases hkj
        · obtain ⟨h3, ⟨n', h4⟩, h5⟩ := I.row k j hk' hkj
          refine ⟨hLm j h3, ⟨n', h4⟩, ?_⟩
          rw [hG j h3, rowAt_old (I.blk j n' h3 h4).2.lt]
          exact h5
    | none =>
      rw [hal] at hst
      cases htgi : F.tg i with
      | some j =>
        rw [htgi] at hst
        obtain ⟨n, hjn, hod, haf, hcs, hw⟩ := hst
        obtain ⟨e, he1, he2⟩ := List.any_eq_true.1 haf
        have he1 : e ∈ o.after := Array.mem_toList_iff.1 he1
        simp only [Bool.and_eq_true, beq_iff_eq] at he2
        have hjl : listed.getD j false = true := by rw [← he2.1]; exact h2 e he1 he2.2
        have hB := I.blk j n hjl hjn
        have hid : ∀ d, dstAt ops i ≠ some d := fun d h => by unfold dstAt at h; rw [ho] at h; exact absurd (hod.symm.trans h) (by simp)
        refine wpOp_step ho fun K hK => hw a w K (G j) I.bel I.un hcame0 (fun d hd => I.al j d n hjl hd hjn) hB.2 fun v => hod ▸ hK _ _ ⟨hs', G, ?_⟩
        refine ⟨below_setRow I.bel hB.1, hun _, hsz _, hdf _, ?_, fun hdr => absurd (hdr i (by simp [hil])) (by rw [htgi]; simp), ?_, ?_, ?_, ?_⟩
        · intro k d hk hkd
          rcases hL k hk with rfl | hk'
          · exact absurd hkd (hid d)
          · rw [hother _ k d hk' hkd]; exact rel_anyR (I.val k d hk' hkd)
        · intro k d m hk hkd hm
          rcases hL k hk with rfl | hk'
          · exact absurd hkd (hid d)
          · rw [hother _ k d hk' hkd]; exact I.al k d m hk' hkd hm
        · intro k m hk hm
          rcases hL k hk with rfl | hk'
          · rw [hal] at hm; cases hm
          · have h3 := I.blk k m hk' hm
            refine ⟨h3.1, ?_⟩
            by_cases hjk : k = j
            · subst hjk
              rw [hjn] at hm
              cases hm
              exact (row_setRow_same rfl h3.2).2 hcs
            · exact (row_setRow_far (I.ne k j m n hk' hjl hm hjn hjk)).2 h3.2
        · intro k l m m' hk hl hm hm' hkl
          rcases hL k hk with rfl | hk'
          · rw [hal] at hm; cases hm
          · rcases hL l hl with rfl | hl'
            · rw [hal] at hm'; cases hm'
            · exact I.ne k l m m' hk' hl' hm hm' hkl
        · intro k l hk hkl
          rcases hL k hk with rfl | hk'
          · rw [htgi] at hkl
            cases hkl
            exact ⟨hLm j hjl, ⟨n, hjn⟩, rowAt_setRow_same hB.2⟩
          · obtain ⟨h3, ⟨n', h4⟩, h5⟩ := I.row k l hk' hkl
            refine ⟨hLm l h3, ⟨n', h4⟩, ?_⟩
            have hlj : l ≠ j := fun e => by
              subst e
              have := htg k i l (hLs k hk') hi hkl htgi
              rw [this, hli] at hk'
              cases hk'
            rw [rowAt_setRow_far (I.ne l j n' n h3 hjl h4 hjn hlj)]
            exact h5
      | none =>
        rw [htgi] at hst
        refine wpOp_step ho fun K hK => hst a w K I.bel I.un (hcame htgi) fun v w' hv hb' => hK _ _ ⟨hs', G, ?_⟩
        have hv0 : (F.rel0 i).p v w' := by
          have h3 := List.all_eq_true.1 (List.all_eq_true.1 hF i (by simpa using hi)) i (by simpa using hi)
          rw [Bool.and_eq_true] at h3
          unfold FSpecR.rel at hv
          cases h4 : F.sr i with
          | none => rw [h4] at hv; exact hv
          | some r =>
            have h5 : F.val i = none := by
              have := h3.2
              rw [h4] at this
              simpa using this
            unfold FSpecR.rel0
            rw [h5]
            trivial
        refine ⟨below_step hb' I.bel (Nat.le_refl _), hun _, hsz _, hdf _, ?_, ?_, ?_, ?_, ?_, ?_⟩
        · intro k d hk hkd
          rcases hL k hk with rfl | hk'
          · rw [hown _ d hkd]; exact hv0
          · rw [hother _ k d hk' hkd]; exact rel_anyR (I.val k d hk' hkd)
        · intro hdr k d hk hkd
          rcases hL k hk with rfl | hk'
          · rw [hown _ d hkd]; exact hv
          · rw [hother _ k d hk' hkd]; exact (F.rel k).st _ _ _ hb' (I.sr (hdry hdr) k d hk' hkd)
        · intro k d m hk hkd hm
          rcases hL k hk with rfl | hk'
          · rw [hal] at hm; cases hm
          · rw [hother _ k d hk' hkd]; exact I.al k d m hk' hkd hm
        · intro k m hk hm
          rcases hL k hk with rfl | hk'
          · rw [hal] at hm; cases hm
          · have h3 := I.blk k m hk' hm
            exact ⟨h3.1, row_below h3.2 hb' h3.2.lt⟩
        · intro k l m m' hk hl hm hm' hkl
          rcases hL k hk with rfl | hk'
          · rw [hal] at hm; cases hm
          · rcases hL l hl with rfl | hl'
            · rw [hal] at hm'; cases hm'
            · exact I.ne k l m m' hk' hl' hm hm' hkl
        · intro k l hk hkl
          rcases hL k hk with rfl | hk'
          · rw [htgi] at hkl; cases hkl
          · obtain ⟨h3, ⟨n', h4⟩, h5⟩ := I.row k l hk' hkl
            exact ⟨hLm l h3, ⟨n', h4⟩, (rowAt_below hb' (I.blk l n' h3 h4).2.lt).trans h5⟩
  · rintro listed a w ⟨⟨hs, -⟩, G, I⟩ hall
    have hLs : ∀ j, decide (j < ops.size) = true → listed.getD j false = true := fun j hj => hall j (by simpa using hj)
    refine hend a w G ⟨I.bel, I.un, I.sz, I.df, fun j d hj => I.val j d (hLs j hj), fun hdr j d hj => I.sr (fun k hk => hdr k (by
      have : k < ops.size := by
        rcases Nat.lt_or_ge k ops.size with h | h
        · exact h
        · have hk : listed.getD k false = true := hk
          rw [Array.getD_eq_getD_getElem?, Array.getElem?_eq_none (by omega)] at hk; cases hk
      simpa using this)) j d (hLs j hj), fun j d n hj => I.al j d n (hLs j hj), fun j n hj => I.blk j n (hLs j hj), fun i j n m hi hj => I.ne i j n m (hLs i hi) (hLs j hj), fun k j hk hkj => ?_⟩
    have hks := I.row k j (hLs k hk) hkj
    refine ⟨?_, hks.2⟩
    have h3 := hks.1
    rcases Nat.lt_or_ge j ops.size with h | h
    · simpa using h
    · rw [Array.getD_eq_getD_getElem?, Array.getElem?_eq_none (by omega)] at h3; cases h3
  · unfold left
    rw [Array.toList_replicate]
    exact Nat.le_trans (List.length_filter_le _ _) (by simp)
  · have h0 : ∀ j, (Array.replicate ops.size false).getD j false ≠ true := fun j => by
      rw [Array.getD_eq_getD_getElem?, Array.getElem?_replicate]
      split <;> simp
    exact ⟨⟨by simp, fun k o hk => absurd hk (h0 k)⟩, fun _ => 0, (Below.refl _ _).drew, fun _ _ => rfl, rfl, rfl, fun j d hj => absurd hj (h0 j), fun _ j d hj => absurd hj (h0 j), fun j d n hj => absurd hj (h0 j), fun j n hj => absurd hj (h0 j), fun i j n m hi => absurd hi (h0 i), fun k j hk => absurd hk (h0 k)⟩
theorem fstep_valR {F : FSpecR} {a0 : Act} {w0 : World} {i : Nat} {o : Oper} (h1 : F.al i = none) (h2 : F.tg i = none) (h : StepOk P ops Q F.rel a0 w0 i o) : FStepOkR P ops Q F a0 w0 i o := by
  unfold FStepOkR
  rw [h1, h2]
  exact h
theorem fstep_alR {F : FSpecR} {a0 : Act} {w0 : World} {i n : Nat} {o : Oper} (h1 : F.al i = some n) (hg : o.guard = none)
    (h : ∀ (a : Act) (w : World) (K : Act → World → Prop), (∀ c t, Cells c n → K (a.put o.dst (.pointer (some ⟨w.heap.size, 0, none⟩))) (w.alloc (.cells c t))) → Oper.wp P o a w K Q) : FStepOkR P ops Q F a0 w0 i o := by
  unfold FStepOkR
  rw [h1]
  intro a w K hK
  rw [if_pos (by simp [Region.wanted, hg])]
  exact h a w K hK
theorem fstep_stR {F : FSpecR} {a0 : Act} {w0 : World} {i j n : Nat} {d : Tmp} {o : Oper} (h1 : F.al i = none) (h2 : F.tg i = some j) (h3 : F.al j = some n) (hod : o.dst = none) (haf : (o.after.toList.any fun e => e.on == j && Region.binds .any e) = true) (hcs : (F.row i).size = n) (hg : o.guard = none) (hdj : dstAt ops j = some d)
    (h : ∀ (a : Act) (w : World) (K : Act → World → Prop) (g : Nat), Below w0.heap.size w0 w → Untouched ops a0 a → Came ops F.rel0 o a w → a.tmps[d]?.getD undef = .pointer (some ⟨g, 0, none⟩) → Row w g n → (∀ v, K (a.put none v) (w.setRow g (F.row i))) → Oper.wp P o a w K Q) : FStepOkR P ops Q F a0 w0 i o := by
  unfold FStepOkR
  rw [h1, h2]
  refine ⟨n, h3, hod, haf, hcs, fun a w K g hb hu hc hp hr hK => ?_⟩
  rw [if_pos (by simp [Region.wanted, hg])]
  exact h a w K g hb hu hc (hp d hdj) hr hK
end
end Go.Proofs.Ytodcjeaannfbnaa
namespace Go.Proofs.Ytodcjeaannfbnaa
open Go.ChangeShapes Go.WideShapes Go.ChangeAt Go.RowKit
set_option maxHeartbeats 2000000
set_option maxRecDepth 100000
attribute [local go_sem ↓] load_fld load_feP load_num store_num load_fe store_fe load_pt store_pt load_f2 store_f2
attribute [local go_sem] isHead_mk blkOf_mk isAgg_mk cellsV_mk row_drew rowAt_drew row_new_cells row_old rowAt_new rowAt_old setRow_new zeroNum zeroPt zeroFe zeroF2 setRow_old
theorem ref_Ladder (k u x a b c d i m : Nat) (w : World) (hk : k < 2 ^ 256) (hu : u < 2 ^ 256) (hx : u % fP = x) (hS : rng x k = (a, b, c, d)) (hi : invP b = i) (hm : a * i % fP = m) : Calls Try.prog 43 #[numV k, numV u] w fun e w' => e = .returned (numV m) ∧ Below w.heap.size w w' := by
  have lx : x < 2 ^ 256 := hx ▸ low_lt
  have hl := rng_lt x k lx
  rw [hS] at hl
  have la := hl.1
  have lb := hl.2.1
  dsimp only at la lb
  have li : i < 2 ^ 256 := hi ▸ low_lt
  have lm : m < 2 ^ 256 := hm ▸ low_lt
  have kF := Lib.hid (fun V => ref_Field u V hu)
  rw [hx] at kF
  have kD := Lib.hid (fun V => ref_OfNum k V hk)
  have kR := Lib.hid (fun v V (hv : IsN V v k) => ref_rungs x lx k hk v V hv)
  rw [hS] at kR
  dsimp only at kR
  have kO := Lib.hid (fun V => fe_Over b V lb)
  rw [hi] at kO
  have kB := Lib.hid (fun V => fe_By a i V la li)
  rw [hm] at kB
  have kN := Lib.hid (fun V => fe_Num m V lm)
  clear lm li la lb hl hS hi hm hx lx hk hu
  unfold numV at kF kN ⊢
  try unfold numV at kD
  unfold feV at kF kR kO kB kN
  unfold f2V at kR
  have hc0 := arrK_cells .u64 4 (wd 0)
  have hcm := arrK_cells .u64 4 (wd m)
  have hcx := arrK_cells .i64 16 (dgt x)
  have hcf := arrK_cells .i64 16 fun _ => 0
  have hcz := arrK_cells .i64 32 (cat2L (fun _ => 0) (fun _ => 0))
  have hcq := arrK_cells .i64 32 (cat2L (dgt a) (dgt b))
  have hcr := arrK_cells .i64 32 (cat2L (dgt c) (dgt d))
  have hL0 : Below w.heap.size w (((w.alloc (Obj.cells (arrK .u64 4 (wd k)) 24)).alloc (Obj.cells (arrK .u64 4 (wd u)) 24)).alloc (Obj.cells (arrK .u64 4 (wd 0)) 24)) := by go_grown
  have hK0 : At (((w.alloc (Obj.cells (arrK .u64 4 (wd k)) 24)).alloc (Obj.cells (arrK .u64 4 (wd u)) 24)).alloc (Obj.cells (arrK .u64 4 (wd 0)) 24)) w.heap.size .u64 4 (wd k) := (((At.new _ rfl)).old _).old _
  have hU0 : At (((w.alloc (Obj.cells (arrK .u64 4 (wd k)) 24)).alloc (Obj.cells (arrK .u64 4 (wd u)) 24)).alloc (Obj.cells (arrK .u64 4 (wd 0)) 24)) (w.heap.size + 1) .u64 4 (wd u) := ((At.new _ (by simp))).old _
  have hR0 : Row (((w.alloc (Obj.cells (arrK .u64 4 (wd k)) 24)).alloc (Obj.cells (arrK .u64 4 (wd u)) 24)).alloc (Obj.cells (arrK .u64 4 (wd 0)) 24)) (w.heap.size + 1 + 1) 4 := (At.new (k := .u64) (f := wd 0) _ (by simp)).row
  have hL := Lib.hid hL0
  have hK := Lib.hid hK0
  have hU := Lib.hid hU0
  have hR := Lib.hid hR0
  clear hL0 hK0 hU0 hR0
  go_enter Try.func43, Try.ntmps43
  go_upto_region 1 with (fail)
  generalize ((w.alloc _).alloc _).alloc _ = W0 at *
  have hr1 := hU.out.row
  have hr2 := hU.out.eq
  go_upto_region 2 with (fail)
  refine (kF.out _).mono ?_
  rintro e w2 ⟨rfl, hb⟩
  replace hK := Lib.hid (hK.out.step hb)
  replace hU := Lib.hid (hU.out.step hb)
  replace hR := Lib.hid (row_below hR.out hb hR.out.lt)
  replace hL := Lib.hid (below_step hb hL.out (Nat.le_refl _))
  clear hr1 hr2 hb kF hU
  dsimp only
  have hltK := hK.out.lt
  have hltR := hR.out.lt
  have hX5 := Lib.hid (At.new (w := w2) (k := .i64) (m := 16) (f := dgt x) 26 rfl)
  replace hK := Lib.hid (hK.out.old (Obj.cells (arrK .i64 16 (dgt x)) 26))
  replace hR := Lib.hid ((row_old (o := Obj.cells (arrK .i64 16 (dgt x)) 26) hR.out.lt).2 hR.out)
  replace hL := Lib.hid (Below.trans hL.out ((below_alloc w2 (Obj.cells (arrK .i64 16 (dgt x)) 26)).mono hL.out.size))
  clear hltK hltR
  go_upto_region 2 with (fail)
  obtain ⟨g5, hg⟩ : ∃ g, w2.heap.size = g := ⟨_, rfl⟩
  rw [hg] at hX5 ⊢
  clear hg
  generalize w2.alloc _ = W2 at *
  generalize ha0 : Act.mk _ _ = a0
  have e2 : a0.tmps[2]?.getD undef = .pointer (some ⟨w.heap.size, 0, none⟩) := by rw [← ha0]; rfl
  have e5 : a0.tmps[5]?.getD undef = .pointer (some ⟨g5, 0, none⟩) := by rw [← ha0]; rfl
  have hz0 : a0.tmps.size = 24 := by rw [← ha0]; rfl
  have hha0 := Lib.hid ha0
  clear ha0
  refine wp_region_freshR ⟨fun jx_ => match jx_ with | 0 => some (.agg (arrK .u64 4 (wd k))) | 2 => some (.agg (arrK .i64 16 (dgt x))) | 3 => some (.tuple #[.agg (arrK .i64 32 (cat2L (dgt a) (dgt b))), .agg (arrK .i64 32 (cat2L (dgt c) (dgt d)))]) | 4 => some (.tuple #[.agg (arrK .i64 32 (cat2L (dgt a) (dgt b))), .agg (arrK .i64 32 (cat2L (dgt c) (dgt d)))]) | 5 => some (.agg (arrK .i64 32 (cat2L (dgt a) (dgt b)))) | 6 => some (.agg (arrK .i64 32 (cat2L (dgt c) (dgt d)))) | _ => none, fun jx_ => match jx_ with | 7 => some 32 | 8 => some 32 | _ => none, fun jx_ => match jx_ with | 9 => some 7 | 10 => some 8 | _ => none, fun jx_ => match jx_ with | 9 => arrK .i64 32 (cat2L (dgt a) (dgt b)) | 10 => arrK .i64 32 (cat2L (dgt c) (dgt d)) | _ => #[], fun jx_ => match jx_ with | 1 => some (SRel.fN k) | _ => none⟩ (by kernel_rfl) (by kernel_rfl) (by kernel_rfl) (slotsOk_of hz0 (by kernel_rfl)) rfl (by kernel_rfl) ⟨?_, ?_, ?_, ?_, ?_, ?_, ?_, ?_, ?_, ?_, ?_, trivial⟩ ?_
  · refine fstep_valR rfl rfl (calm_step rfl fun aa ω κ hb hu hc hK => ?_)
    have h2 : aa.tmps[2]?.getD undef = .pointer (some ⟨w.heap.size, 0, none⟩) := (hu 2 rfl).trans e2
    have hk := Lib.hid (fun w1 (h : Below ω.heap.size ω w1) => hK (.agg (arrK .u64 4 (wd k))) w1 rfl h)
    clear hK hu hc
    have hr1 := (hK.out.step hb).row
    have hr2 := (hK.out.step hb).eq
    go_simp
    exact hk.out _ (Below.refl _ _)
  · refine fstep_valR rfl rfl (calm_step rfl fun aa ω κ hb hu hc hK => ?_)
    have h11 : aa.tmps[11]?.getD undef = .agg (arrK .u64 4 (wd k)) := hc 0 11 rfl rfl
    have hk := Lib.hid (fun v w1 (hv : (SRel.fN k).p v w1) (h : Below ω.heap.size ω w1) => hK v w1 hv h)
    clear hK hu hc
    go_simp
    go_at_call 32
    refine (kD.out _).mono ?_
    rintro e w1 ⟨u, rfl, hu1, hb1⟩
    exact hk.out _ _ hu1 hb1
  · refine fstep_valR rfl rfl (calm_step rfl fun aa ω κ hb hu hc hK => ?_)
    have h5 : aa.tmps[5]?.getD undef = .pointer (some ⟨g5, 0, none⟩) := (hu 5 rfl).trans e5
    have hk := Lib.hid (fun w1 (h : Below ω.heap.size ω w1) => hK (.agg (arrK .i64 16 (dgt x))) w1 rfl h)
    clear hK hu hc
    have hr1 := (hX5.out.step hb).row
    have hr2 := (hX5.out.step hb).eq
    go_simp
    exact hk.out _ (Below.refl _ _)
  · refine fstep_valR rfl rfl (calm_step rfl fun aa ω κ hb hu hc hK => ?_)
    have h12 : (SRel.fN k).p (aa.tmps[12]?.getD undef) ω := hc 1 12 rfl rfl
    have h13 : aa.tmps[13]?.getD undef = .agg (arrK .i64 16 (dgt x)) := hc 2 13 rfl rfl
    have hk := Lib.hid (fun w1 (h : Below ω.heap.size ω w1) => hK (.tuple #[.agg (arrK .i64 32 (cat2L (dgt a) (dgt b))), .agg (arrK .i64 32 (cat2L (dgt c) (dgt d)))]) w1 rfl h)
    clear hK hu hc
    go_simp
    go_at_call 111
    refine (kR.out _ _ h12).mono ?_
    rintro e w1 ⟨rfl, hb1⟩
    exact hk.out _ hb1
  · refine fstep_valR rfl rfl (calm_step rfl fun aa ω κ hb hu hc hK => ?_)
    have h14 : aa.tmps[14]?.getD undef = .tuple #[.agg (arrK .i64 32 (cat2L (dgt a) (dgt b))), .agg (arrK .i64 32 (cat2L (dgt c) (dgt d)))] := hc 3 14 rfl rfl
    have hk := Lib.hid (fun w1 (h : Below ω.heap.size ω w1) => hK (.tuple #[.agg (arrK .i64 32 (cat2L (dgt a) (dgt b))), .agg (arrK .i64 32 (cat2L (dgt c) (dgt d)))]) w1 rfl h)
    clear hK hu hc
    go_simp
    exact hk.out _ (Below.refl _ _)
  · refine fstep_valR rfl rfl (calm_step rfl fun aa ω κ hb hu hc hK => ?_)
    have h10 : aa.tmps[10]?.getD undef = .tuple #[.agg (arrK .i64 32 (cat2L (dgt a) (dgt b))), .agg (arrK .i64 32 (cat2L (dgt c) (dgt d)))] := hc 4 10 rfl rfl
    have hk := Lib.hid (fun w1 (h : Below ω.heap.size ω w1) => hK (.agg (arrK .i64 32 (cat2L (dgt a) (dgt b)))) w1 rfl h)
    clear hK hu hc
    go_simp
    exact hk.out _ (Below.refl _ _)
  · refine fstep_valR rfl rfl (calm_step rfl fun aa ω κ hb hu hc hK => ?_)
    have h10 : aa.tmps[10]?.getD undef = .tuple #[.agg (arrK .i64 32 (cat2L (dgt a) (dgt b))), .agg (arrK .i64 32 (cat2L (dgt c) (dgt d)))] := hc 4 10 rfl rfl
    have hk := Lib.hid (fun w1 (h : Below ω.heap.size ω w1) => hK (.agg (arrK .i64 32 (cat2L (dgt c) (dgt d)))) w1 rfl h)
    clear hK hu hc
    go_simp
    exact hk.out _ (Below.refl _ _)
  · refine fstep_alR (n := 32) rfl rfl fun aa ω κ hK => ?_
    have hk := Lib.hid hK
    clear hK
    go_simp
    exact hk.out _ _ hcz
  · refine fstep_alR (n := 32) rfl rfl fun aa ω κ hK => ?_
    have hk := Lib.hid hK
    clear hK
    go_simp
    exact hk.out _ _ hcz
  · refine fstep_stR (j := 7) (n := 32) (d := 6) rfl rfl rfl rfl rfl hcq.1 rfl rfl fun aa ω κ g hb hu hc hp hr hK => ?_
    have h15 : aa.tmps[15]?.getD undef = .agg (arrK .i64 32 (cat2L (dgt a) (dgt b))) := hc 5 15 rfl rfl
    have hk := Lib.hid hK
    clear hK hu hc
    have hcc := hcq
    go_simp
    exact hk.out undef
  · refine fstep_stR (j := 8) (n := 32) (d := 7) rfl rfl rfl rfl rfl hcr.1 rfl rfl fun aa ω κ g hb hu hc hp hr hK => ?_
    have h16 : aa.tmps[16]?.getD undef = .agg (arrK .i64 32 (cat2L (dgt c) (dgt d))) := hc 6 16 rfl rfl
    have hk := Lib.hid hK
    clear hK hu hc
    have hcc := hcr
    go_simp
    exact hk.out undef
  · intro a1 w1 G I
    have ha0 := hha0.out
    subst ha0
    have he := act_patch (n := 24) [false, false, false, false, false, false, true, true, false, false, true, true, true, true, true, true, true, false, false, false, false, false, false, false] rfl (by kernel_rfl) I.un I.sz I.df
    simp only [patch, cond_true, cond_false, Nat.reduceAdd] at he
    have hal6 := I.al 7 6 32 rfl rfl rfl
    have hal7 := I.al 8 7 32 rfl rfl rfl
    replace hR := Lib.hid (row_below hR.out I.bel hR.out.lt)
    replace hL := Lib.hid (below_step I.bel hL.out (Nat.le_refl _))
    have hX6 := Lib.hid (show At w1 (G 7) .i64 32 (cat2L (dgt a) (dgt b)) from ⟨(I.blk 7 32 rfl rfl).2, (I.row 9 7 rfl rfl).2.2⟩)
    clear kR kD hK hX5
    clear I hz0 hha0 e2 e5
    rw [he]
    clear he
    rw [hal6]
    rw [hal7]
    clear hal6 hal7
    generalize a1.tmps[10]?.getD undef = x10 at *
    generalize a1.tmps[11]?.getD undef = x11 at *
    generalize a1.tmps[12]?.getD undef = x12 at *
    generalize a1.tmps[13]?.getD undef = x13 at *
    generalize a1.tmps[14]?.getD undef = x14 at *
    generalize a1.tmps[15]?.getD undef = x15 at *
    generalize a1.tmps[16]?.getD undef = x16 at *
    obtain ⟨g6, hg⟩ : ∃ g, G 7 = g := ⟨_, rfl⟩
    rw [hg] at hX6 ⊢
    clear hg
    obtain ⟨g7, hg⟩ : ∃ g, G 8 = g := ⟨_, rfl⟩
    rw [hg]
    clear hg
    generalize w1 = W3 at *
    go_upto_region 3 with (fail)
    generalize ha0 : Act.mk _ _ = a0
    have e4 : a0.tmps[4]?.getD undef = .pointer (some ⟨w.heap.size + 1 + 1, 0, none⟩) := by rw [← ha0]; rfl
    have e6 : a0.tmps[6]?.getD undef = .pointer (some ⟨g6, 0, none⟩) := by rw [← ha0]; rfl
    have hz0 : a0.tmps.size = 24 := by rw [← ha0]; rfl
    have hha0 := Lib.hid ha0
    clear ha0
    refine wp_region_one (fun jx_ => match jx_ with | 0 => some (.pointer (some ⟨g6, 0, none⟩)) | 1 => some (.agg (arrK .i64 16 (dgt a))) | 2 => some (.pointer (some ⟨g6, 16, none⟩)) | 3 => some (.agg (arrK .i64 16 (dgt b))) | 4 => some (.agg (arrK .i64 16 (dgt i))) | 5 => some (.agg (arrK .i64 16 (dgt m))) | 6 => some (.agg (arrK .u64 4 (wd m))) | _ => none) 7 ((w.heap.size + 1 + 1)) 4 (arrK .u64 4 (wd m)) (by kernel_rfl) (by kernel_rfl) (by kernel_rfl) (slotsOk_of hz0 (by kernel_rfl)) (of_decide_eq_true (by kernel_rfl)) hR.out ⟨?_, ?_, ?_, ?_, ?_, ?_, ?_, ?_, trivial⟩ ?_
    · refine one_before (by decide) (by kernel_rfl) (calm_step rfl fun aa ω κ hb hu hc hK => ?_)
      have h6 : aa.tmps[6]?.getD undef = .pointer (some ⟨g6, 0, none⟩) := (hu 6 rfl).trans e6
      have hk := Lib.hid (fun w1 (h : Below ω.heap.size ω w1) => hK (.pointer (some ⟨g6, 0, none⟩)) w1 rfl h)
      clear hK hu hc
      go_simp
      exact hk.out _ (Below.refl _ _)
    · refine one_before (by decide) (by kernel_rfl) (calm_step rfl fun aa ω κ hb hu hc hK => ?_)
      have h17 : aa.tmps[17]?.getD undef = .pointer (some ⟨g6, 0, none⟩) := hc 0 17 rfl rfl
      have hk := Lib.hid (fun w1 (h : Below ω.heap.size ω w1) => hK (.agg (arrK .i64 16 (dgt a))) w1 rfl h)
      clear hK hu hc
      have hl := f2_0 (hX6.out.step hb)
      have hl1 := hl.1
      have hl2 := hl.2
      go_simp
      exact hk.out _ (Below.refl _ _)
    · refine one_before (by decide) (by kernel_rfl) (calm_step rfl fun aa ω κ hb hu hc hK => ?_)
      have h6 : aa.tmps[6]?.getD undef = .pointer (some ⟨g6, 0, none⟩) := (hu 6 rfl).trans e6
      have hk := Lib.hid (fun w1 (h : Below ω.heap.size ω w1) => hK (.pointer (some ⟨g6, 16, none⟩)) w1 rfl h)
      clear hK hu hc
      go_simp
      exact hk.out _ (Below.refl _ _)
    · refine one_before (by decide) (by kernel_rfl) (calm_step rfl fun aa ω κ hb hu hc hK => ?_)
      have h19 : aa.tmps[19]?.getD undef = .pointer (some ⟨g6, 16, none⟩) := hc 2 19 rfl rfl
      have hk := Lib.hid (fun w1 (h : Below ω.heap.size ω w1) => hK (.agg (arrK .i64 16 (dgt b))) w1 rfl h)
      clear hK hu hc
      have hl := f2_1 (hX6.out.step hb)
      have hl1 := hl.1
      have hl2 := hl.2
      go_simp
      exact hk.out _ (Below.refl _ _)
    · refine one_before (by decide) (by kernel_rfl) (calm_step rfl fun aa ω κ hb hu hc hK => ?_)
      have h20 : aa.tmps[20]?.getD undef = .agg (arrK .i64 16 (dgt b)) := hc 3 20 rfl rfl
      have hk := Lib.hid (fun w1 (h : Below ω.heap.size ω w1) => hK (.agg (arrK .i64 16 (dgt i))) w1 rfl h)
      clear hK hu hc
      go_simp
      go_at_call 27
      refine (kO.out _).mono ?_
      rintro e w1 ⟨rfl, hb1⟩
      exact hk.out _ hb1
    · refine one_before (by decide) (by kernel_rfl) (calm_step rfl fun aa ω κ hb hu hc hK => ?_)
      have h18 : aa.tmps[18]?.getD undef = .agg (arrK .i64 16 (dgt a)) := hc 1 18 rfl rfl
      have h21 : aa.tmps[21]?.getD undef = .agg (arrK .i64 16 (dgt i)) := hc 4 21 rfl rfl
      have hk := Lib.hid (fun w1 (h : Below ω.heap.size ω w1) => hK (.agg (arrK .i64 16 (dgt m))) w1 rfl h)
      clear hK hu hc
      go_simp
      go_at_call 25
      refine (kB.out _).mono ?_
      rintro e w1 ⟨rfl, hb1⟩
      exact hk.out _ hb1
    · refine one_before (by decide) (by kernel_rfl) (calm_step rfl fun aa ω κ hb hu hc hK => ?_)
      have h22 : aa.tmps[22]?.getD undef = .agg (arrK .i64 16 (dgt m)) := hc 5 22 rfl rfl
      have hk := Lib.hid (fun w1 (h : Below ω.heap.size ω w1) => hK (.agg (arrK .u64 4 (wd m))) w1 rfl h)
      clear hK hu hc
      go_simp
      go_at_call 19
      refine (kN.out _).mono ?_
      rintro e w1 ⟨rfl, hb1⟩
      exact hk.out _ hb1
    · refine one_q (one_write rfl rfl fun aa ω κ hb hu hc hr hK => ?_)
      have h4 : aa.tmps[4]?.getD undef = .pointer (some ⟨w.heap.size + 1 + 1, 0, none⟩) := (hu 4 rfl).trans e4
      have h23 : aa.tmps[23]?.getD undef = .agg (arrK .u64 4 (wd m)) := hc 6 23 rfl rfl
      have hk := Lib.hid hK
      clear hK hu hc
      have hcc := hcm
      go_simp
      exact hk.out undef
    · intro a1 w1 hb1 hu1 hsz1 hdf1 hv1
      have ha0 := hha0.out
      subst ha0
      have he := act_patch (n := 24) [false, false, false, false, false, false, false, false, false, false, false, false, false, false, false, false, false, true, true, true, true, true, true, true] rfl (by kernel_rfl) hu1 hsz1 hdf1
      simp only [patch, cond_true, cond_false, Nat.reduceAdd] at he
      have hXz := (At.put (k := .u64) (f := (wd m)) hR.out).below hb1 (by simpa using hR.out.lt)
      have hLz := Lib.hid (Below.trans (below_setRow (c := arrK .u64 4 (wd m)) hL.out (by omega)) (hb1.mono (by simpa using hL.out.size)))
      clear hR hL hX6 kO kB kN
      clear hb1 hu1 hsz1 hdf1 hv1 hz0 hha0 e4 e6
      rw [he]
      clear he
      generalize a1.tmps[17]?.getD undef = x17 at *
      generalize a1.tmps[18]?.getD undef = x18 at *
      generalize a1.tmps[19]?.getD undef = x19 at *
      generalize a1.tmps[20]?.getD undef = x20 at *
      generalize a1.tmps[21]?.getD undef = x21 at *
      generalize a1.tmps[22]?.getD undef = x22 at *
      generalize a1.tmps[23]?.getD undef = x23 at *
      go_wp2_with fail
      refine ret_row (p := 4) (ty := 24) (g := w.heap.size + 1 + 1) rfl Try.underlying24 rfl (by kernel_rfl) rfl hXz.row rfl ?_
      rw [hXz.eq]
      exact ⟨rfl, hLz.out⟩
end Go.Proofs.Ytodcjeaannfbnaa
