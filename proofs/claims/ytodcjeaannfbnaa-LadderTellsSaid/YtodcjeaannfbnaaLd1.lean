/- Contracts of package ladder: square, pair.twice, pair.joined, swapped. -/
import Derived.Test.YtodcjeaannfbnaaCv4
import Derived.Test.YtodcjeaannfbnaaTwoW
namespace Go.Proofs.Ytodcjeaannfbnaa
open Go.ChangeShapes Go.WideShapes Go.ChangeAt Go.RowKit
set_option maxHeartbeats 2000000
set_option maxRecDepth 100000
theorem load_pr {w : World} {dst : Option Tmp} {x : Operand} {tt : TypeId} {pos : String} {af : Array Edge} {gd : Option (Nat × Bool)} {a : Act} {K : Act → World → Prop} {Q : Exit → Act → World → Prop}
    (hv : IsHead (a.eval x)) (h : Row w (blkOf (a.eval x)) 8) : Oper.wp Try.prog ⟨dst, .load 130 x, tt, pos, af, gd⟩ a w K Q ↔ K (a.put dst (.agg (rowAt w (blkOf (a.eval x))))) w :=
  wp_load_whole Try.underlying130 rfl (by kernel_rfl) hv h
theorem store_pr {w : World} {dst : Option Tmp} {x y : Operand} {tt : TypeId} {pos : String} {af : Array Edge} {gd : Option (Nat × Bool)} {a : Act} {K : Act → World → Prop} {Q : Exit → Act → World → Prop}
    (hv : IsHead (a.eval x)) (h : Row w (blkOf (a.eval x)) 8) (hx : IsAgg (a.eval y) 8) : Oper.wp Try.prog ⟨dst, .store 130 x y, tt, pos, af, gd⟩ a w K Q ↔ K (a.put dst undef) (w.setRow (blkOf (a.eval x)) (cellsV (a.eval y))) :=
  wp_store_whole (by kernel_rfl) hv h hx
theorem execl_pr {w : World} {dst : Option Tmp} {x : Operand} {tt : TypeId} {pos : String} {af : Array Edge} {gd : Option (Nat × Bool)} {ρ : Operand → Value}
    (hv : IsHead (ρ x)) (h : Row w (blkOf (ρ x)) 8) : (execOp ρ ⟨dst, .load 130 x, tt, pos, af, gd⟩).run Try.prog w = .ok (.value (.agg (rowAt w (blkOf (ρ x))))) w :=
  exec_load_whole Try.underlying130 rfl (by kernel_rfl) hv h
theorem execs_pr {w : World} {dst : Option Tmp} {x y : Operand} {tt : TypeId} {pos : String} {af : Array Edge} {gd : Option (Nat × Bool)} {ρ : Operand → Value}
    (hv : IsHead (ρ x)) (h : Row w (blkOf (ρ x)) 8) (hx : IsAgg (ρ y) 8) : (execOp ρ ⟨dst, .store 130 x y, tt, pos, af, gd⟩).run Try.prog w = .ok .skip (w.setRow (blkOf (ρ x)) (cellsV (ρ y))) :=
  exec_store_whole (by kernel_rfl) hv h hx

attribute [local go_sem ↓] load_fld load_num store_num execl_num execs_num load_pr store_pr execl_pr execs_pr load_pt store_pt
attribute [local go_sem] isHead_mk blkOf_mk isAgg_mk cellsV_mk row_drew rowAt_drew row_new_cells row_old rowAt_new rowAt_old setRow_new zeroNum zeroPt
theorem ladder_square (a : Nat) (w : World) (ha : a < 2 ^ 256) : Calls Try.prog 153 #[numV a] w fun e w' => e = .returned (numV (a * a % fP)) ∧ Below w.heap.size w w' := by
  have hM := Lib.hid (fun V => field_Mul a a V ha ha)
  obtain ⟨r, hr⟩ : ∃ r, a * a % fP = r := ⟨_, rfl⟩
  rw [hr] at hM ⊢
  clear hr ha
  unfold numV at hM ⊢
  have hcr := arrK_cells .u64 4 (wd r)
  have hcz := arrK_cells .u64 4 (wd 0)
  have hL0 : Below w.heap.size w ((w.alloc (Obj.cells (arrK .u64 4 (wd a)) 24)).alloc (Obj.cells (arrK .u64 4 (wd 0)) 24)) := by go_grown
  have hA0 : At ((w.alloc (Obj.cells (arrK .u64 4 (wd a)) 24)).alloc (Obj.cells (arrK .u64 4 (wd 0)) 24)) w.heap.size .u64 4 (wd a) := (At.new _ rfl).old _
  have hR0 : Row ((w.alloc (Obj.cells (arrK .u64 4 (wd a)) 24)).alloc (Obj.cells (arrK .u64 4 (wd 0)) 24)) (w.heap.size + 1) 4 := (At.new (k := .u64) (f := wd 0) _ (by simp)).row
  have hL := Lib.hid hL0
  have hA := Lib.hid hA0
  have hR := Lib.hid hR0
  clear hL0 hA0 hR0
  go_enter Try.func153, Try.ntmps153
  go_upto_region 1 with (fail)
  generalize (w.alloc _).alloc _ = W0 at *
  have hr1 := hA.out.row
  have hr2 := hA.out.eq
  go_wp2_with fail
  refine (hM.out _).mono ?_
  rintro e w2 ⟨rfl, hb⟩
  have hR2 := row_below hR.out hb hR.out.lt
  have hL2 := Lib.hid (below_step hb hL.out (Nat.le_refl _))
  clear hr1 hr2 hA hR hL hb
  dsimp only
  go_wp2_with fail
  exact ret_stored (p := 2) (ty := 24) (g := w.heap.size + 1) (n := 4) (c := arrK .u64 4 (wd r)) rfl Try.underlying24 rfl (by kernel_rfl) rfl hR2 hcr.1 rfl ⟨rfl, below_setRow hL2.out (by omega)⟩
theorem build_pr (f0 f1 : Nat → Nat) (w : World) : (Instr.build 130 #[(0, .agg (arrK .u64 4 f0)), (1, .agg (arrK .u64 4 f1))]).run Try.prog w = .ok (.agg (arrK .u64 8 (cat2 f0 f1))) w := run_build w _ _ _ (by kernel_rfl)
theorem build_a24 (w : World) : (Instr.build 24 #[(0, Value.int IntKind.u64 (121665 : Int))]).run Try.prog w = .ok (.agg (arrK .u64 4 (wd 121665))) w := (run_build w _ _ _ (by kernel_rfl)).trans (by rw [← num1 (show 121665 < 18446744073709551616 by omega)])
theorem pair_twice (x z vs0 vs vt0 vt ve r1 vm va r2 : Nat) (w : World) (hx : x < 2 ^ 256) (hz : z < 2 ^ 256) (hvs0 : (x + z) % fP = vs0) (hvs : vs0 * vs0 % fP = vs) (hvt0 : difP x z = vt0) (hvt : vt0 * vt0 % fP = vt) (hve : difP vs vt = ve) (hr1 : vs * vt % fP = r1) (hvm : 121665 * ve % fP = vm) (hva : (vs + vm) % fP = va) (hr2 : ve * va % fP = r2) : Calls Try.prog 109 #[ptV x z] w fun e w' => e = .returned (ptV r1 r2) ∧ Below w.heap.size w w' := by
  have hk24 : 121665 < 2 ^ 256 := by decide +kernel
  have lvs0 : vs0 < 2 ^ 256 := hvs0 ▸ low_lt
  have lvs : vs < 2 ^ 256 := hvs ▸ low_lt
  have lvt0 : vt0 < 2 ^ 256 := hvt0 ▸ dif_low
  have lvt : vt < 2 ^ 256 := hvt ▸ low_lt
  have lve : ve < 2 ^ 256 := hve ▸ dif_low
  have lr1 : r1 < 2 ^ 256 := hr1 ▸ low_lt
  have lvm : vm < 2 ^ 256 := hvm ▸ low_lt
  have lva : va < 2 ^ 256 := hva ▸ low_lt
  have lr2 : r2 < 2 ^ 256 := hr2 ▸ low_lt
  have kvs0 := Lib.hid (fun V => field_Add x z V hx hz)
  rw [hvs0] at kvs0
  have kvs := Lib.hid (fun V => ladder_square vs0 V lvs0)
  rw [hvs] at kvs
  have kvt0 := Lib.hid (fun V => field_Sub x z V hx hz)
  rw [hvt0] at kvt0
  have kvt := Lib.hid (fun V => ladder_square vt0 V lvt0)
  rw [hvt] at kvt
  have kve := Lib.hid (fun V => field_Sub vs vt V lvs lvt)
  rw [hve] at kve
  have kr1 := Lib.hid (fun V => field_Mul vs vt V lvs lvt)
  rw [hr1] at kr1
  have kvm := Lib.hid (fun V => field_Mul 121665 ve V hk24 lve)
  rw [hvm] at kvm
  have kva := Lib.hid (fun V => field_Add vs vm V lvs lvm)
  rw [hva] at kva
  have kr2 := Lib.hid (fun V => field_Mul ve va V lve lva)
  rw [hr2] at kr2
  clear hk24 hx hz hvs0 lvs0 hvs lvs hvt0 lvt0 hvt lvt hve lve hr1 lr1 hvm lvm hva lva hr2 lr2
  unfold numV at kvs0 kvs kvt0 kvt kve kr1 kvm kva kr2
  unfold ptV
  have hcr := arrK_cells .u64 8 (cat2 (wd r1) (wd r2))
  have hcz := arrK_cells .u64 8 (cat2 (wd 0) (wd 0))
  have hc0 := arrK_cells .u64 4 (wd 0)
  have hcvs := arrK_cells .u64 4 (wd vs)
  have hcvt := arrK_cells .u64 4 (wd vt)
  have hcve := arrK_cells .u64 4 (wd ve)
  have hL0 : Below w.heap.size w ((w.alloc (Obj.cells (arrK .u64 8 (cat2 (wd x) (wd z))) 130)).alloc (Obj.cells (arrK .u64 8 (cat2 (wd 0) (wd 0))) 130)) := by go_grown
  have hA0 : At ((w.alloc (Obj.cells (arrK .u64 8 (cat2 (wd x) (wd z))) 130)).alloc (Obj.cells (arrK .u64 8 (cat2 (wd 0) (wd 0))) 130)) w.heap.size .u64 8 (cat2 (wd x) (wd z)) := (At.new _ rfl).old _
  have hR0 : Row ((w.alloc (Obj.cells (arrK .u64 8 (cat2 (wd x) (wd z))) 130)).alloc (Obj.cells (arrK .u64 8 (cat2 (wd 0) (wd 0))) 130)) (w.heap.size + 1) 8 := (At.new (k := .u64) (f := cat2 (wd 0) (wd 0)) _ (by simp)).row
  have hL := Lib.hid hL0
  have hA := Lib.hid hA0
  have hR := Lib.hid hR0
  clear hL0 hA0 hR0
  go_enter Try.func109, Try.ntmps109
  go_upto_region 1 with (fail)
  generalize (w.alloc _).alloc _ = W0 at *
  generalize ha0 : Act.mk _ _ = a0
  have e1 : a0.tmps[1]?.getD undef = .pointer (some ⟨w.heap.size, 0, none⟩) := by rw [← ha0]; rfl
  have hz0 : a0.tmps.size = 32 := by rw [← ha0]; rfl
  have hha0 := Lib.hid ha0
  clear ha0
  refine wp_region_fresh ⟨fun jx_ => match jx_ with | 0 => some (.pointer (some ⟨w.heap.size, 0, none⟩)) | 1 => some (.agg (arrK .u64 4 (wd x))) | 2 => some (.pointer (some ⟨w.heap.size, 4, none⟩)) | 3 => some (.agg (arrK .u64 4 (wd z))) | 4 => some (.agg (arrK .u64 4 (wd vs0))) | 5 => some (.agg (arrK .u64 4 (wd vs))) | 6 => some (.pointer (some ⟨w.heap.size, 0, none⟩)) | 7 => some (.agg (arrK .u64 4 (wd x))) | 8 => some (.pointer (some ⟨w.heap.size, 4, none⟩)) | 9 => some (.agg (arrK .u64 4 (wd z))) | 10 => some (.agg (arrK .u64 4 (wd vt0))) | 11 => some (.agg (arrK .u64 4 (wd vt))) | _ => none, fun jx_ => match jx_ with | 12 => some 4 | 13 => some 4 | _ => none, fun jx_ => match jx_ with | 14 => some 12 | 15 => some 13 | _ => none, fun jx_ => match jx_ with | 14 => arrK .u64 4 (wd vs) | 15 => arrK .u64 4 (wd vt) | _ => #[]⟩ (by kernel_rfl) (by kernel_rfl) (by kernel_rfl) (slotsOk_of hz0 (by kernel_rfl)) rfl ⟨?_, ?_, ?_, ?_, ?_, ?_, ?_, ?_, ?_, ?_, ?_, ?_, ?_, ?_, ?_, ?_, trivial⟩ ?_
  · refine fstep_val rfl rfl (calm_step rfl fun aa ω κ hb hu hc hK => ?_)
    have h1 : aa.tmps[1]?.getD undef = .pointer (some ⟨w.heap.size, 0, none⟩) := (hu 1 rfl).trans e1
    have hk := Lib.hid (fun w1 (h : Below ω.heap.size ω w1) => hK (.pointer (some ⟨w.heap.size, 0, none⟩)) w1 rfl h)
    clear hK hu hc
    go_simp
    exact hk.out _ (Below.refl _ _)
  · refine fstep_val rfl rfl (calm_step rfl fun aa ω κ hb hu hc hK => ?_)
    have h6 : aa.tmps[6]?.getD undef = .pointer (some ⟨w.heap.size, 0, none⟩) := hc 0 6 rfl rfl
    have hk := Lib.hid (fun w1 (h : Below ω.heap.size ω w1) => hK (.agg (arrK .u64 4 (wd x))) w1 rfl h)
    clear hK hu hc
    have hl := pt_0 (hA.out.step hb)
    have hl1 := hl.1
    have hl2 := hl.2
    go_simp
    exact hk.out _ (Below.refl _ _)
  · refine fstep_val rfl rfl (calm_step rfl fun aa ω κ hb hu hc hK => ?_)
    have h1 : aa.tmps[1]?.getD undef = .pointer (some ⟨w.heap.size, 0, none⟩) := (hu 1 rfl).trans e1
    have hk := Lib.hid (fun w1 (h : Below ω.heap.size ω w1) => hK (.pointer (some ⟨w.heap.size, 4, none⟩)) w1 rfl h)
    clear hK hu hc
    go_simp
    exact hk.out _ (Below.refl _ _)
  · refine fstep_val rfl rfl (calm_step rfl fun aa ω κ hb hu hc hK => ?_)
    have h8 : aa.tmps[8]?.getD undef = .pointer (some ⟨w.heap.size, 4, none⟩) := hc 2 8 rfl rfl
    have hk := Lib.hid (fun w1 (h : Below ω.heap.size ω w1) => hK (.agg (arrK .u64 4 (wd z))) w1 rfl h)
    clear hK hu hc
    have hl := pt_1 (hA.out.step hb)
    have hl1 := hl.1
    have hl2 := hl.2
    go_simp
    exact hk.out _ (Below.refl _ _)
  · refine fstep_val rfl rfl (calm_step rfl fun aa ω κ hb hu hc hK => ?_)
    have h7 : aa.tmps[7]?.getD undef = .agg (arrK .u64 4 (wd x)) := hc 1 7 rfl rfl
    have h9 : aa.tmps[9]?.getD undef = .agg (arrK .u64 4 (wd z)) := hc 3 9 rfl rfl
    have hk := Lib.hid (fun w1 (h : Below ω.heap.size ω w1) => hK (.agg (arrK .u64 4 (wd vs0))) w1 rfl h)
    clear hK hu hc
    go_simp
    go_at_call 20
    refine (kvs0.out _).mono ?_
    rintro e w1 ⟨rfl, hb1⟩
    exact hk.out _ hb1
  · refine fstep_val rfl rfl (calm_step rfl fun aa ω κ hb hu hc hK => ?_)
    have h10 : aa.tmps[10]?.getD undef = .agg (arrK .u64 4 (wd vs0)) := hc 4 10 rfl rfl
    have hk := Lib.hid (fun w1 (h : Below ω.heap.size ω w1) => hK (.agg (arrK .u64 4 (wd vs))) w1 rfl h)
    clear hK hu hc
    go_simp
    go_at_call 153
    refine (kvs.out _).mono ?_
    rintro e w1 ⟨rfl, hb1⟩
    exact hk.out _ hb1
  · refine fstep_val rfl rfl (calm_step rfl fun aa ω κ hb hu hc hK => ?_)
    have h1 : aa.tmps[1]?.getD undef = .pointer (some ⟨w.heap.size, 0, none⟩) := (hu 1 rfl).trans e1
    have hk := Lib.hid (fun w1 (h : Below ω.heap.size ω w1) => hK (.pointer (some ⟨w.heap.size, 0, none⟩)) w1 rfl h)
    clear hK hu hc
    go_simp
    exact hk.out _ (Below.refl _ _)
  · refine fstep_val rfl rfl (calm_step rfl fun aa ω κ hb hu hc hK => ?_)
    have h12 : aa.tmps[12]?.getD undef = .pointer (some ⟨w.heap.size, 0, none⟩) := hc 6 12 rfl rfl
    have hk := Lib.hid (fun w1 (h : Below ω.heap.size ω w1) => hK (.agg (arrK .u64 4 (wd x))) w1 rfl h)
    clear hK hu hc
    have hl := pt_0 (hA.out.step hb)
    have hl1 := hl.1
    have hl2 := hl.2
    go_simp
    exact hk.out _ (Below.refl _ _)
  · refine fstep_val rfl rfl (calm_step rfl fun aa ω κ hb hu hc hK => ?_)
    have h1 : aa.tmps[1]?.getD undef = .pointer (some ⟨w.heap.size, 0, none⟩) := (hu 1 rfl).trans e1
    have hk := Lib.hid (fun w1 (h : Below ω.heap.size ω w1) => hK (.pointer (some ⟨w.heap.size, 4, none⟩)) w1 rfl h)
    clear hK hu hc
    go_simp
    exact hk.out _ (Below.refl _ _)
  · refine fstep_val rfl rfl (calm_step rfl fun aa ω κ hb hu hc hK => ?_)
    have h14 : aa.tmps[14]?.getD undef = .pointer (some ⟨w.heap.size, 4, none⟩) := hc 8 14 rfl rfl
    have hk := Lib.hid (fun w1 (h : Below ω.heap.size ω w1) => hK (.agg (arrK .u64 4 (wd z))) w1 rfl h)
    clear hK hu hc
    have hl := pt_1 (hA.out.step hb)
    have hl1 := hl.1
    have hl2 := hl.2
    go_simp
    exact hk.out _ (Below.refl _ _)
  · refine fstep_val rfl rfl (calm_step rfl fun aa ω κ hb hu hc hK => ?_)
    have h13 : aa.tmps[13]?.getD undef = .agg (arrK .u64 4 (wd x)) := hc 7 13 rfl rfl
    have h15 : aa.tmps[15]?.getD undef = .agg (arrK .u64 4 (wd z)) := hc 9 15 rfl rfl
    have hk := Lib.hid (fun w1 (h : Below ω.heap.size ω w1) => hK (.agg (arrK .u64 4 (wd vt0))) w1 rfl h)
    clear hK hu hc
    go_simp
    go_at_call 22
    refine (kvt0.out _).mono ?_
    rintro e w1 ⟨rfl, hb1⟩
    exact hk.out _ hb1
  · refine fstep_val rfl rfl (calm_step rfl fun aa ω κ hb hu hc hK => ?_)
    have h16 : aa.tmps[16]?.getD undef = .agg (arrK .u64 4 (wd vt0)) := hc 10 16 rfl rfl
    have hk := Lib.hid (fun w1 (h : Below ω.heap.size ω w1) => hK (.agg (arrK .u64 4 (wd vt))) w1 rfl h)
    clear hK hu hc
    go_simp
    go_at_call 153
    refine (kvt.out _).mono ?_
    rintro e w1 ⟨rfl, hb1⟩
    exact hk.out _ hb1
  · refine fstep_al (n := 4) rfl rfl fun aa ω κ hK => ?_
    have hk := Lib.hid hK
    clear hK
    go_simp
    exact hk.out _ _ hc0
  · refine fstep_al (n := 4) rfl rfl fun aa ω κ hK => ?_
    have hk := Lib.hid hK
    clear hK
    go_simp
    exact hk.out _ _ hc0
  · refine fstep_st (j := 12) (n := 4) (d := 3) rfl rfl rfl rfl rfl hcvs.1 rfl rfl fun aa ω κ g hb hu hc hp hr hK => ?_
    have h11 : aa.tmps[11]?.getD undef = .agg (arrK .u64 4 (wd vs)) := hc 5 11 rfl rfl
    have hk := Lib.hid hK
    clear hK hu hc
    have hcc := hcvs
    go_simp
    exact hk.out undef
  · refine fstep_st (j := 13) (n := 4) (d := 4) rfl rfl rfl rfl rfl hcvt.1 rfl rfl fun aa ω κ g hb hu hc hp hr hK => ?_
    have h17 : aa.tmps[17]?.getD undef = .agg (arrK .u64 4 (wd vt)) := hc 11 17 rfl rfl
    have hk := Lib.hid hK
    clear hK hu hc
    have hcc := hcvt
    go_simp
    exact hk.out undef
  · intro a1 w1 G I
    have ha0 := hha0.out
    subst ha0
    have he := act_patch (n := 32) [false, false, false, true, true, false, true, true, true, true, true, true, true, true, true, true, true, true, false, false, false, false, false, false, false, false, false, false, false, false, false, false] rfl (by kernel_rfl) I.un I.sz I.df
    simp only [patch, cond_true, cond_false, Nat.reduceAdd] at he
    have hal3 := I.al 12 3 4 rfl rfl rfl
    have hal4 := I.al 13 4 4 rfl rfl rfl
    replace hA := Lib.hid (hA.out.step I.bel)
    replace hR := Lib.hid (row_below hR.out I.bel hR.out.lt)
    replace hL := Lib.hid (below_step I.bel hL.out (Nat.le_refl _))
    have hX3 := Lib.hid (show At w1 (G 12) .u64 4 (wd vs) from ⟨(I.blk 12 4 rfl rfl).2, (I.row 14 12 rfl rfl).2.2⟩)
    have hX4 := Lib.hid (show At w1 (G 13) .u64 4 (wd vt) from ⟨(I.blk 13 4 rfl rfl).2, (I.row 15 13 rfl rfl).2.2⟩)
    clear kvs0 kvs kvt0 kvt
    clear I hz0 hha0 e1
    rw [he]
    clear he
    rw [hal3]
    rw [hal4]
    clear hal3 hal4
    generalize a1.tmps[6]?.getD undef = x6 at *
    generalize a1.tmps[7]?.getD undef = x7 at *
    generalize a1.tmps[8]?.getD undef = x8 at *
    generalize a1.tmps[9]?.getD undef = x9 at *
    generalize a1.tmps[10]?.getD undef = x10 at *
    generalize a1.tmps[11]?.getD undef = x11 at *
    generalize a1.tmps[12]?.getD undef = x12 at *
    generalize a1.tmps[13]?.getD undef = x13 at *
    generalize a1.tmps[14]?.getD undef = x14 at *
    generalize a1.tmps[15]?.getD undef = x15 at *
    generalize a1.tmps[16]?.getD undef = x16 at *
    generalize a1.tmps[17]?.getD undef = x17 at *
    obtain ⟨g3, hgz⟩ : ∃ g, G 12 = g := ⟨_, rfl⟩
    rw [hgz] at hX3 ⊢
    clear hgz
    obtain ⟨g4, hgz⟩ : ∃ g, G 13 = g := ⟨_, rfl⟩
    rw [hgz] at hX4 ⊢
    clear hgz
    generalize w1 = W1 at *
    go_upto_region 2 with (fail)
    have hr1 := hX3.out.row
    have hr2 := hX3.out.eq
    have hr3 := hX4.out.row
    have hr4 := hX4.out.eq
    go_upto_region 3 with (fail)
    refine (kve.out _).mono ?_
    rintro e w2 ⟨rfl, hb⟩
    replace hR := Lib.hid (row_below hR.out hb hR.out.lt)
    replace hL := Lib.hid (below_step hb hL.out (Nat.le_refl _))
    replace hX3 := Lib.hid (hX3.out.step hb)
    replace hX4 := Lib.hid (hX4.out.step hb)
    clear hr1 hr2 hr3 hr4 hb hA kve
    have hlt := hR.out.lt
    replace hR := Lib.hid ((row_old (o := (Obj.cells (arrK .u64 4 (wd ve)) 24)) hR.out.lt).2 hR.out)
    replace hL := Lib.hid (Below.trans hL.out ((below_alloc w2 (Obj.cells (arrK .u64 4 (wd ve)) 24)).mono hL.out.size))
    replace hX3 := Lib.hid (hX3.out.old (Obj.cells (arrK .u64 4 (wd ve)) 24))
    replace hX4 := Lib.hid (hX4.out.old (Obj.cells (arrK .u64 4 (wd ve)) 24))
    have hX5 := Lib.hid (At.new (w := w2) (k := .u64) (m := 4) (f := wd ve) 24 rfl)
    dsimp only
    go_upto_region 3 with (fail)
    obtain ⟨g5, hg⟩ : ∃ g, w2.heap.size = g := ⟨_, rfl⟩
    rw [hg] at hX5 hlt ⊢
    clear hg
    generalize w2.alloc _ = W2 at *
    generalize ha0 : Act.mk _ _ = a0
    have e2 : a0.tmps[2]?.getD undef = .pointer (some ⟨w.heap.size + 1, 0, none⟩) := by rw [← ha0]; rfl
    have e3 : a0.tmps[3]?.getD undef = .pointer (some ⟨g3, 0, none⟩) := by rw [← ha0]; rfl
    have e4 : a0.tmps[4]?.getD undef = .pointer (some ⟨g4, 0, none⟩) := by rw [← ha0]; rfl
    have e5 : a0.tmps[5]?.getD undef = .pointer (some ⟨g5, 0, none⟩) := by rw [← ha0]; rfl
    have hz0 : a0.tmps.size = 32 := by rw [← ha0]; rfl
    have hha0 := Lib.hid ha0
    clear ha0
    refine wp_region_one (fun jx_ => match jx_ with | 0 => some (.agg (arrK .u64 4 (wd vs))) | 1 => some (.agg (arrK .u64 4 (wd vt))) | 2 => some (.agg (arrK .u64 4 (wd r1))) | 3 => some (.agg (arrK .u64 4 (wd ve))) | 4 => some (.agg (arrK .u64 4 (wd vs))) | 5 => some (.agg (arrK .u64 4 (wd 121665))) | 6 => some (.agg (arrK .u64 4 (wd ve))) | 7 => some (.agg (arrK .u64 4 (wd vm))) | 8 => some (.agg (arrK .u64 4 (wd va))) | 9 => some (.agg (arrK .u64 4 (wd r2))) | 10 => some (.agg (arrK .u64 8 (cat2 (wd r1) (wd r2)))) | _ => none) 11 ((w.heap.size + 1)) 8 (arrK .u64 8 (cat2 (wd r1) (wd r2))) (by kernel_rfl) (by kernel_rfl) (by kernel_rfl) (slotsOk_of hz0 (by kernel_rfl)) (of_decide_eq_true (by kernel_rfl)) hR.out ⟨?_, ?_, ?_, ?_, ?_, ?_, ?_, ?_, ?_, ?_, ?_, ?_, trivial⟩ ?_
    · refine one_before (by decide) (by kernel_rfl) (calm_step rfl fun aa ω κ hb hu hc hK => ?_)
      have h3 : aa.tmps[3]?.getD undef = .pointer (some ⟨g3, 0, none⟩) := (hu 3 rfl).trans e3
      have hk := Lib.hid (fun w1 (h : Below ω.heap.size ω w1) => hK (.agg (arrK .u64 4 (wd vs))) w1 rfl h)
      clear hK hu hc
      have hr1 := (hX3.out.step hb).row
      have hr2 := (hX3.out.step hb).eq
      go_simp
      exact hk.out _ (Below.refl _ _)
    · refine one_before (by decide) (by kernel_rfl) (calm_step rfl fun aa ω κ hb hu hc hK => ?_)
      have h4 : aa.tmps[4]?.getD undef = .pointer (some ⟨g4, 0, none⟩) := (hu 4 rfl).trans e4
      have hk := Lib.hid (fun w1 (h : Below ω.heap.size ω w1) => hK (.agg (arrK .u64 4 (wd vt))) w1 rfl h)
      clear hK hu hc
      have hr1 := (hX4.out.step hb).row
      have hr2 := (hX4.out.step hb).eq
      go_simp
      exact hk.out _ (Below.refl _ _)
    · refine one_before (by decide) (by kernel_rfl) (calm_step rfl fun aa ω κ hb hu hc hK => ?_)
      have h21 : aa.tmps[21]?.getD undef = .agg (arrK .u64 4 (wd vs)) := hc 0 21 rfl rfl
      have h22 : aa.tmps[22]?.getD undef = .agg (arrK .u64 4 (wd vt)) := hc 1 22 rfl rfl
      have hk := Lib.hid (fun w1 (h : Below ω.heap.size ω w1) => hK (.agg (arrK .u64 4 (wd r1))) w1 rfl h)
      clear hK hu hc
      go_simp
      go_at_call 24
      refine (kr1.out _).mono ?_
      rintro e w1 ⟨rfl, hb1⟩
      exact hk.out _ hb1
    · refine one_before (by decide) (by kernel_rfl) (calm_step rfl fun aa ω κ hb hu hc hK => ?_)
      have h5 : aa.tmps[5]?.getD undef = .pointer (some ⟨g5, 0, none⟩) := (hu 5 rfl).trans e5
      have hk := Lib.hid (fun w1 (h : Below ω.heap.size ω w1) => hK (.agg (arrK .u64 4 (wd ve))) w1 rfl h)
      clear hK hu hc
      have hr1 := (hX5.out.step hb).row
      have hr2 := (hX5.out.step hb).eq
      go_simp
      exact hk.out _ (Below.refl _ _)
    · refine one_before (by decide) (by kernel_rfl) (calm_step rfl fun aa ω κ hb hu hc hK => ?_)
      have h3 : aa.tmps[3]?.getD undef = .pointer (some ⟨g3, 0, none⟩) := (hu 3 rfl).trans e3
      have hk := Lib.hid (fun w1 (h : Below ω.heap.size ω w1) => hK (.agg (arrK .u64 4 (wd vs))) w1 rfl h)
      clear hK hu hc
      have hr1 := (hX3.out.step hb).row
      have hr2 := (hX3.out.step hb).eq
      go_simp
      exact hk.out _ (Below.refl _ _)
    · refine one_before (by decide) (by kernel_rfl) (calm_step rfl fun aa ω κ hb hu hc hK => ?_)
      have hk := Lib.hid (fun w1 (h : Below ω.heap.size ω w1) => hK (.agg (arrK .u64 4 (wd 121665))) w1 rfl h)
      clear hK hu hc
      exact wp_bldA rfl (vx := Value.int IntKind.u64 (121665 : Int)) rfl (build_a24 _) (hk.out _ (Below.refl _ _))
    · refine one_before (by decide) (by kernel_rfl) (calm_step rfl fun aa ω κ hb hu hc hK => ?_)
      have h5 : aa.tmps[5]?.getD undef = .pointer (some ⟨g5, 0, none⟩) := (hu 5 rfl).trans e5
      have hk := Lib.hid (fun w1 (h : Below ω.heap.size ω w1) => hK (.agg (arrK .u64 4 (wd ve))) w1 rfl h)
      clear hK hu hc
      have hr1 := (hX5.out.step hb).row
      have hr2 := (hX5.out.step hb).eq
      go_simp
      exact hk.out _ (Below.refl _ _)
    · refine one_before (by decide) (by kernel_rfl) (calm_step rfl fun aa ω κ hb hu hc hK => ?_)
      have h26 : aa.tmps[26]?.getD undef = .agg (arrK .u64 4 (wd 121665)) := hc 5 26 rfl rfl
      have h27 : aa.tmps[27]?.getD undef = .agg (arrK .u64 4 (wd ve)) := hc 6 27 rfl rfl
      have hk := Lib.hid (fun w1 (h : Below ω.heap.size ω w1) => hK (.agg (arrK .u64 4 (wd vm))) w1 rfl h)
      clear hK hu hc
      go_simp
      go_at_call 24
      refine (kvm.out _).mono ?_
      rintro e w1 ⟨rfl, hb1⟩
      exact hk.out _ hb1
    · refine one_before (by decide) (by kernel_rfl) (calm_step rfl fun aa ω κ hb hu hc hK => ?_)
      have h25 : aa.tmps[25]?.getD undef = .agg (arrK .u64 4 (wd vs)) := hc 4 25 rfl rfl
      have h28 : aa.tmps[28]?.getD undef = .agg (arrK .u64 4 (wd vm)) := hc 7 28 rfl rfl
      have hk := Lib.hid (fun w1 (h : Below ω.heap.size ω w1) => hK (.agg (arrK .u64 4 (wd va))) w1 rfl h)
      clear hK hu hc
      go_simp
      go_at_call 20
      refine (kva.out _).mono ?_
      rintro e w1 ⟨rfl, hb1⟩
      exact hk.out _ hb1
    · refine one_before (by decide) (by kernel_rfl) (calm_step rfl fun aa ω κ hb hu hc hK => ?_)
      have h24 : aa.tmps[24]?.getD undef = .agg (arrK .u64 4 (wd ve)) := hc 3 24 rfl rfl
      have h29 : aa.tmps[29]?.getD undef = .agg (arrK .u64 4 (wd va)) := hc 8 29 rfl rfl
      have hk := Lib.hid (fun w1 (h : Below ω.heap.size ω w1) => hK (.agg (arrK .u64 4 (wd r2))) w1 rfl h)
      clear hK hu hc
      go_simp
      go_at_call 24
      refine (kr2.out _).mono ?_
      rintro e w1 ⟨rfl, hb1⟩
      exact hk.out _ hb1
    · refine one_before (by decide) (by kernel_rfl) (calm_step rfl fun aa ω κ hb hu hc hK => ?_)
      have h23 : aa.tmps[23]?.getD undef = .agg (arrK .u64 4 (wd r1)) := hc 2 23 rfl rfl
      have h30 : aa.tmps[30]?.getD undef = .agg (arrK .u64 4 (wd r2)) := hc 9 30 rfl rfl
      have hk := Lib.hid (fun w1 (h : Below ω.heap.size ω w1) => hK (.agg (arrK .u64 8 (cat2 (wd r1) (wd r2)))) w1 rfl h)
      clear hK hu hc
      exact wp_bldB (v0 := .agg (arrK .u64 4 (wd r1))) (v1 := .agg (arrK .u64 4 (wd r2))) rfl (by go_simp) (by go_simp) (build_pr _ _ _) (hk.out _ (Below.refl _ _))
    · refine one_q (one_write rfl rfl fun aa ω κ hb hu hc hr hK => ?_)
      have h2 : aa.tmps[2]?.getD undef = .pointer (some ⟨w.heap.size + 1, 0, none⟩) := (hu 2 rfl).trans e2
      have h31 : aa.tmps[31]?.getD undef = .agg (arrK .u64 8 (cat2 (wd r1) (wd r2))) := hc 10 31 rfl rfl
      have hk := Lib.hid hK
      clear hK hu hc
      have hcc := hcr
      go_simp
      exact hk.out undef
    · intro a1 w1 hb1 hu1 hsz1 hdf1 hv1
      have ha0 := hha0.out
      subst ha0
      have he := act_patch (n := 32) [false, false, false, false, false, false, false, false, false, false, false, false, false, false, false, false, false, false, false, false, false, true, true, true, true, true, true, true, true, true, true, true] rfl (by kernel_rfl) hu1 hsz1 hdf1
      simp only [patch, cond_true, cond_false, Nat.reduceAdd] at he
      have hXz := (At.put (k := .u64) (f := (cat2 (wd r1) (wd r2))) hR.out).below hb1 (by simpa using hR.out.lt)
      have hLz := Lib.hid (Below.trans (below_setRow (c := arrK .u64 8 (cat2 (wd r1) (wd r2))) hL.out (by omega)) (hb1.mono (by simpa using hL.out.size)))
      clear hR hL hX3 hX4 hX5 kr1 kvm kva kr2
      clear hb1 hu1 hsz1 hdf1 hv1 hz0 hha0 e2 e3 e4 e5
      rw [he]
      clear he
      generalize a1.tmps[21]?.getD undef = x21 at *
      generalize a1.tmps[22]?.getD undef = x22 at *
      generalize a1.tmps[23]?.getD undef = x23 at *
      generalize a1.tmps[24]?.getD undef = x24 at *
      generalize a1.tmps[25]?.getD undef = x25 at *
      generalize a1.tmps[26]?.getD undef = x26 at *
      generalize a1.tmps[27]?.getD undef = x27 at *
      generalize a1.tmps[28]?.getD undef = x28 at *
      generalize a1.tmps[29]?.getD undef = x29 at *
      generalize a1.tmps[30]?.getD undef = x30 at *
      generalize a1.tmps[31]?.getD undef = x31 at *
      go_wp2_with fail
      refine ret_row (p := 2) (ty := 130) (g := (w.heap.size + 1)) rfl Try.underlying130 rfl (by kernel_rfl) rfl hXz.row rfl ?_
      rw [hXz.eq]
      exact ⟨rfl, hLz.out⟩
theorem pair_joined (px pz qx qz u va1 va2 va vb1 vb2 vb vc r1 vd ve r2 : Nat) (w : World) (hpx : px < 2 ^ 256) (hpz : pz < 2 ^ 256) (hqx : qx < 2 ^ 256) (hqz : qz < 2 ^ 256) (hu : u < 2 ^ 256) (hva1 : (qx + qz) % fP = va1) (hva2 : difP px pz = va2) (hva : va1 * va2 % fP = va) (hvb1 : difP qx qz = vb1) (hvb2 : (px + pz) % fP = vb2) (hvb : vb1 * vb2 % fP = vb) (hvc : (va + vb) % fP = vc) (hr1 : vc * vc % fP = r1) (hvd : difP va vb = vd) (hve : vd * vd % fP = ve) (hr2 : u * ve % fP = r2) : Calls Try.prog 110 #[ptV px pz, ptV qx qz, numV u] w fun e w' => e = .returned (ptV r1 r2) ∧ Below w.heap.size w w' := by
  have lva1 : va1 < 2 ^ 256 := hva1 ▸ low_lt
  have lva2 : va2 < 2 ^ 256 := hva2 ▸ dif_low
  have lva : va < 2 ^ 256 := hva ▸ low_lt
  have lvb1 : vb1 < 2 ^ 256 := hvb1 ▸ dif_low
  have lvb2 : vb2 < 2 ^ 256 := hvb2 ▸ low_lt
  have lvb : vb < 2 ^ 256 := hvb ▸ low_lt
  have lvc : vc < 2 ^ 256 := hvc ▸ low_lt
  have lr1 : r1 < 2 ^ 256 := hr1 ▸ low_lt
  have lvd : vd < 2 ^ 256 := hvd ▸ dif_low
  have lve : ve < 2 ^ 256 := hve ▸ low_lt
  have lr2 : r2 < 2 ^ 256 := hr2 ▸ low_lt
  have kva1 := Lib.hid (fun V => field_Add qx qz V hqx hqz)
  rw [hva1] at kva1
  have kva2 := Lib.hid (fun V => field_Sub px pz V hpx hpz)
  rw [hva2] at kva2
  have kva := Lib.hid (fun V => field_Mul va1 va2 V lva1 lva2)
  rw [hva] at kva
  have kvb1 := Lib.hid (fun V => field_Sub qx qz V hqx hqz)
  rw [hvb1] at kvb1
  have kvb2 := Lib.hid (fun V => field_Add px pz V hpx hpz)
  rw [hvb2] at kvb2
  have kvb := Lib.hid (fun V => field_Mul vb1 vb2 V lvb1 lvb2)
  rw [hvb] at kvb
  have kvc := Lib.hid (fun V => field_Add va vb V lva lvb)
  rw [hvc] at kvc
  have kr1 := Lib.hid (fun V => ladder_square vc V lvc)
  rw [hr1] at kr1
  have kvd := Lib.hid (fun V => field_Sub va vb V lva lvb)
  rw [hvd] at kvd
  have kve := Lib.hid (fun V => ladder_square vd V lvd)
  rw [hve] at kve
  have kr2 := Lib.hid (fun V => field_Mul u ve V hu lve)
  rw [hr2] at kr2
  clear hpx hpz hqx hqz hu hva1 lva1 hva2 lva2 hva lva hvb1 lvb1 hvb2 lvb2 hvb lvb hvc lvc hr1 lr1 hvd lvd hve lve hr2 lr2
  unfold numV at kva1 kva2 kva kvb1 kvb2 kvb kvc kr1 kvd kve kr2
  unfold ptV numV
  have hcr := arrK_cells .u64 8 (cat2 (wd r1) (wd r2))
  have hcz := arrK_cells .u64 8 (cat2 (wd 0) (wd 0))
  have hc0 := arrK_cells .u64 4 (wd 0)
  have hcva := arrK_cells .u64 4 (wd va)
  have hcvb := arrK_cells .u64 4 (wd vb)
  have hL0 : Below w.heap.size w ((((w.alloc (Obj.cells (arrK .u64 8 (cat2 (wd px) (wd pz))) 130)).alloc (Obj.cells (arrK .u64 8 (cat2 (wd qx) (wd qz))) 130)).alloc (Obj.cells (arrK .u64 4 (wd u)) 24)).alloc (Obj.cells (arrK .u64 8 (cat2 (wd 0) (wd 0))) 130)) := by go_grown
  have hA0 : At ((((w.alloc (Obj.cells (arrK .u64 8 (cat2 (wd px) (wd pz))) 130)).alloc (Obj.cells (arrK .u64 8 (cat2 (wd qx) (wd qz))) 130)).alloc (Obj.cells (arrK .u64 4 (wd u)) 24)).alloc (Obj.cells (arrK .u64 8 (cat2 (wd 0) (wd 0))) 130)) w.heap.size .u64 8 (cat2 (wd px) (wd pz)) := ((((At.new _ rfl)).old _).old _).old _
  have hB0 : At ((((w.alloc (Obj.cells (arrK .u64 8 (cat2 (wd px) (wd pz))) 130)).alloc (Obj.cells (arrK .u64 8 (cat2 (wd qx) (wd qz))) 130)).alloc (Obj.cells (arrK .u64 4 (wd u)) 24)).alloc (Obj.cells (arrK .u64 8 (cat2 (wd 0) (wd 0))) 130)) (w.heap.size + 1) .u64 8 (cat2 (wd qx) (wd qz)) := (((At.new _ (by simp))).old _).old _
  have hU0 : At ((((w.alloc (Obj.cells (arrK .u64 8 (cat2 (wd px) (wd pz))) 130)).alloc (Obj.cells (arrK .u64 8 (cat2 (wd qx) (wd qz))) 130)).alloc (Obj.cells (arrK .u64 4 (wd u)) 24)).alloc (Obj.cells (arrK .u64 8 (cat2 (wd 0) (wd 0))) 130)) (w.heap.size + 1 + 1) .u64 4 (wd u) := ((At.new _ (by simp))).old _
  have hR0 : Row ((((w.alloc (Obj.cells (arrK .u64 8 (cat2 (wd px) (wd pz))) 130)).alloc (Obj.cells (arrK .u64 8 (cat2 (wd qx) (wd qz))) 130)).alloc (Obj.cells (arrK .u64 4 (wd u)) 24)).alloc (Obj.cells (arrK .u64 8 (cat2 (wd 0) (wd 0))) 130)) (w.heap.size + 1 + 1 + 1) 8 := (At.new (k := .u64) (f := cat2 (wd 0) (wd 0)) _ (by simp)).row
  have hL := Lib.hid hL0
  have hA := Lib.hid hA0
  have hB := Lib.hid hB0
  have hU := Lib.hid hU0
  have hR := Lib.hid hR0
  clear hL0 hA0 hB0 hU0 hR0
  go_enter Try.func110, Try.ntmps110
  go_upto_region 1 with (fail)
  generalize (((w.alloc _).alloc _).alloc _).alloc _ = W0 at *
  generalize ha0 : Act.mk _ _ = a0
  have e3 : a0.tmps[3]?.getD undef = .pointer (some ⟨w.heap.size, 0, none⟩) := by rw [← ha0]; rfl
  have e4 : a0.tmps[4]?.getD undef = .pointer (some ⟨w.heap.size + 1, 0, none⟩) := by rw [← ha0]; rfl
  have hz0 : a0.tmps.size = 42 := by rw [← ha0]; rfl
  have hha0 := Lib.hid ha0
  clear ha0
  refine wp_region_fresh ⟨fun jx_ => match jx_ with | 0 => some (.pointer (some ⟨w.heap.size + 1, 0, none⟩)) | 1 => some (.agg (arrK .u64 4 (wd qx))) | 2 => some (.pointer (some ⟨w.heap.size + 1, 4, none⟩)) | 3 => some (.agg (arrK .u64 4 (wd qz))) | 4 => some (.agg (arrK .u64 4 (wd va1))) | 5 => some (.pointer (some ⟨w.heap.size, 0, none⟩)) | 6 => some (.agg (arrK .u64 4 (wd px))) | 7 => some (.pointer (some ⟨w.heap.size, 4, none⟩)) | 8 => some (.agg (arrK .u64 4 (wd pz))) | 9 => some (.agg (arrK .u64 4 (wd va2))) | 10 => some (.agg (arrK .u64 4 (wd va))) | _ => none, fun jx_ => match jx_ with | 11 => some 4 | _ => none, fun jx_ => match jx_ with | 12 => some 11 | _ => none, fun jx_ => match jx_ with | 12 => arrK .u64 4 (wd va) | _ => #[]⟩ (by kernel_rfl) (by kernel_rfl) (by kernel_rfl) (slotsOk_of hz0 (by kernel_rfl)) rfl ⟨?_, ?_, ?_, ?_, ?_, ?_, ?_, ?_, ?_, ?_, ?_, ?_, ?_, trivial⟩ ?_
  · refine fstep_val rfl rfl (calm_step rfl fun aa ω κ hb hu hc hK => ?_)
    have h4 : aa.tmps[4]?.getD undef = .pointer (some ⟨w.heap.size + 1, 0, none⟩) := (hu 4 rfl).trans e4
    have hk := Lib.hid (fun w1 (h : Below ω.heap.size ω w1) => hK (.pointer (some ⟨w.heap.size + 1, 0, none⟩)) w1 rfl h)
    clear hK hu hc
    go_simp
    exact hk.out _ (Below.refl _ _)
  · refine fstep_val rfl rfl (calm_step rfl fun aa ω κ hb hu hc hK => ?_)
    have h9 : aa.tmps[9]?.getD undef = .pointer (some ⟨w.heap.size + 1, 0, none⟩) := hc 0 9 rfl rfl
    have hk := Lib.hid (fun w1 (h : Below ω.heap.size ω w1) => hK (.agg (arrK .u64 4 (wd qx))) w1 rfl h)
    clear hK hu hc
    have hl := pt_0 (hB.out.step hb)
    have hl1 := hl.1
    have hl2 := hl.2
    go_simp
    exact hk.out _ (Below.refl _ _)
  · refine fstep_val rfl rfl (calm_step rfl fun aa ω κ hb hu hc hK => ?_)
    have h4 : aa.tmps[4]?.getD undef = .pointer (some ⟨w.heap.size + 1, 0, none⟩) := (hu 4 rfl).trans e4
    have hk := Lib.hid (fun w1 (h : Below ω.heap.size ω w1) => hK (.pointer (some ⟨w.heap.size + 1, 4, none⟩)) w1 rfl h)
    clear hK hu hc
    go_simp
    exact hk.out _ (Below.refl _ _)
  · refine fstep_val rfl rfl (calm_step rfl fun aa ω κ hb hu hc hK => ?_)
    have h11 : aa.tmps[11]?.getD undef = .pointer (some ⟨w.heap.size + 1, 4, none⟩) := hc 2 11 rfl rfl
    have hk := Lib.hid (fun w1 (h : Below ω.heap.size ω w1) => hK (.agg (arrK .u64 4 (wd qz))) w1 rfl h)
    clear hK hu hc
    have hl := pt_1 (hB.out.step hb)
    have hl1 := hl.1
    have hl2 := hl.2
    go_simp
    exact hk.out _ (Below.refl _ _)
  · refine fstep_val rfl rfl (calm_step rfl fun aa ω κ hb hu hc hK => ?_)
    have h10 : aa.tmps[10]?.getD undef = .agg (arrK .u64 4 (wd qx)) := hc 1 10 rfl rfl
    have h12 : aa.tmps[12]?.getD undef = .agg (arrK .u64 4 (wd qz)) := hc 3 12 rfl rfl
    have hk := Lib.hid (fun w1 (h : Below ω.heap.size ω w1) => hK (.agg (arrK .u64 4 (wd va1))) w1 rfl h)
    clear hK hu hc
    go_simp
    go_at_call 20
    refine (kva1.out _).mono ?_
    rintro e w1 ⟨rfl, hb1⟩
    exact hk.out _ hb1
  · refine fstep_val rfl rfl (calm_step rfl fun aa ω κ hb hu hc hK => ?_)
    have h3 : aa.tmps[3]?.getD undef = .pointer (some ⟨w.heap.size, 0, none⟩) := (hu 3 rfl).trans e3
    have hk := Lib.hid (fun w1 (h : Below ω.heap.size ω w1) => hK (.pointer (some ⟨w.heap.size, 0, none⟩)) w1 rfl h)
    clear hK hu hc
    go_simp
    exact hk.out _ (Below.refl _ _)
  · refine fstep_val rfl rfl (calm_step rfl fun aa ω κ hb hu hc hK => ?_)
    have h14 : aa.tmps[14]?.getD undef = .pointer (some ⟨w.heap.size, 0, none⟩) := hc 5 14 rfl rfl
    have hk := Lib.hid (fun w1 (h : Below ω.heap.size ω w1) => hK (.agg (arrK .u64 4 (wd px))) w1 rfl h)
    clear hK hu hc
    have hl := pt_0 (hA.out.step hb)
    have hl1 := hl.1
    have hl2 := hl.2
    go_simp
    exact hk.out _ (Below.refl _ _)
  · refine fstep_val rfl rfl (calm_step rfl fun aa ω κ hb hu hc hK => ?_)
    have h3 : aa.tmps[3]?.getD undef = .pointer (some ⟨w.heap.size, 0, none⟩) := (hu 3 rfl).trans e3
    have hk := Lib.hid (fun w1 (h : Below ω.heap.size ω w1) => hK (.pointer (some ⟨w.heap.size, 4, none⟩)) w1 rfl h)
    clear hK hu hc
    go_simp
    exact hk.out _ (Below.refl _ _)
  · refine fstep_val rfl rfl (calm_step rfl fun aa ω κ hb hu hc hK => ?_)
    have h16 : aa.tmps[16]?.getD undef = .pointer (some ⟨w.heap.size, 4, none⟩) := hc 7 16 rfl rfl
    have hk := Lib.hid (fun w1 (h : Below ω.heap.size ω w1) => hK (.agg (arrK .u64 4 (wd pz))) w1 rfl h)
    clear hK hu hc
    have hl := pt_1 (hA.out.step hb)
    have hl1 := hl.1
    have hl2 := hl.2
    go_simp
    exact hk.out _ (Below.refl _ _)
  · refine fstep_val rfl rfl (calm_step rfl fun aa ω κ hb hu hc hK => ?_)
    have h15 : aa.tmps[15]?.getD undef = .agg (arrK .u64 4 (wd px)) := hc 6 15 rfl rfl
    have h17 : aa.tmps[17]?.getD undef = .agg (arrK .u64 4 (wd pz)) := hc 8 17 rfl rfl
    have hk := Lib.hid (fun w1 (h : Below ω.heap.size ω w1) => hK (.agg (arrK .u64 4 (wd va2))) w1 rfl h)
    clear hK hu hc
    go_simp
    go_at_call 22
    refine (kva2.out _).mono ?_
    rintro e w1 ⟨rfl, hb1⟩
    exact hk.out _ hb1
  · refine fstep_val rfl rfl (calm_step rfl fun aa ω κ hb hu hc hK => ?_)
    have h13 : aa.tmps[13]?.getD undef = .agg (arrK .u64 4 (wd va1)) := hc 4 13 rfl rfl
    have h18 : aa.tmps[18]?.getD undef = .agg (arrK .u64 4 (wd va2)) := hc 9 18 rfl rfl
    have hk := Lib.hid (fun w1 (h : Below ω.heap.size ω w1) => hK (.agg (arrK .u64 4 (wd va))) w1 rfl h)
    clear hK hu hc
    go_simp
    go_at_call 24
    refine (kva.out _).mono ?_
    rintro e w1 ⟨rfl, hb1⟩
    exact hk.out _ hb1
  · refine fstep_al (n := 4) rfl rfl fun aa ω κ hK => ?_
    have hk := Lib.hid hK
    clear hK
    go_simp
    exact hk.out _ _ hc0
  · refine fstep_st (j := 11) (n := 4) (d := 7) rfl rfl rfl rfl rfl hcva.1 rfl rfl fun aa ω κ g hb hu hc hp hr hK => ?_
    have h19 : aa.tmps[19]?.getD undef = .agg (arrK .u64 4 (wd va)) := hc 10 19 rfl rfl
    have hk := Lib.hid hK
    clear hK hu hc
    have hcc := hcva
    go_simp
    exact hk.out undef
  · intro a1 w1 G I
    have ha0 := hha0.out
    subst ha0
    have he := act_patch (n := 42) [false, false, false, false, false, false, false, true, false, true, true, true, true, true, true, true, true, true, true, true, false, false, false, false, false, false, false, false, false, false, false, false, false, false, false, false, false, false, false, false, false, false] rfl (by kernel_rfl) I.un I.sz I.df
    simp only [patch, cond_true, cond_false, Nat.reduceAdd] at he
    have hal7 := I.al 11 7 4 rfl rfl rfl
    replace hA := Lib.hid (hA.out.step I.bel)
    replace hB := Lib.hid (hB.out.step I.bel)
    replace hU := Lib.hid (hU.out.step I.bel)
    replace hR := Lib.hid (row_below hR.out I.bel hR.out.lt)
    replace hL := Lib.hid (below_step I.bel hL.out (Nat.le_refl _))
    have hX7 := Lib.hid (show At w1 (G 11) .u64 4 (wd va) from ⟨(I.blk 11 4 rfl rfl).2, (I.row 12 11 rfl rfl).2.2⟩)
    clear kva1 kva2 kva
    clear I hz0 hha0 e3 e4
    rw [he]
    clear he
    rw [hal7]
    clear hal7
    generalize a1.tmps[9]?.getD undef = x9 at *
    generalize a1.tmps[10]?.getD undef = x10 at *
    generalize a1.tmps[11]?.getD undef = x11 at *
    generalize a1.tmps[12]?.getD undef = x12 at *
    generalize a1.tmps[13]?.getD undef = x13 at *
    generalize a1.tmps[14]?.getD undef = x14 at *
    generalize a1.tmps[15]?.getD undef = x15 at *
    generalize a1.tmps[16]?.getD undef = x16 at *
    generalize a1.tmps[17]?.getD undef = x17 at *
    generalize a1.tmps[18]?.getD undef = x18 at *
    generalize a1.tmps[19]?.getD undef = x19 at *
    obtain ⟨g7, hgz⟩ : ∃ g, G 11 = g := ⟨_, rfl⟩
    rw [hgz] at hX7 ⊢
    clear hgz
    generalize w1 = W1 at *
    go_upto_region 2 with (fail)
    generalize ha0 : Act.mk _ _ = a0
    have e3 : a0.tmps[3]?.getD undef = .pointer (some ⟨w.heap.size, 0, none⟩) := by rw [← ha0]; rfl
    have e4 : a0.tmps[4]?.getD undef = .pointer (some ⟨w.heap.size + 1, 0, none⟩) := by rw [← ha0]; rfl
    have hz0 : a0.tmps.size = 42 := by rw [← ha0]; rfl
    have hha0 := Lib.hid ha0
    clear ha0
    refine wp_region_fresh ⟨fun jx_ => match jx_ with | 0 => some (.pointer (some ⟨w.heap.size + 1, 0, none⟩)) | 1 => some (.agg (arrK .u64 4 (wd qx))) | 2 => some (.pointer (some ⟨w.heap.size + 1, 4, none⟩)) | 3 => some (.agg (arrK .u64 4 (wd qz))) | 4 => some (.agg (arrK .u64 4 (wd vb1))) | 5 => some (.pointer (some ⟨w.heap.size, 0, none⟩)) | 6 => some (.agg (arrK .u64 4 (wd px))) | 7 => some (.pointer (some ⟨w.heap.size, 4, none⟩)) | 8 => some (.agg (arrK .u64 4 (wd pz))) | 9 => some (.agg (arrK .u64 4 (wd vb2))) | 10 => some (.agg (arrK .u64 4 (wd vb))) | _ => none, fun jx_ => match jx_ with | 11 => some 4 | _ => none, fun jx_ => match jx_ with | 12 => some 11 | _ => none, fun jx_ => match jx_ with | 12 => arrK .u64 4 (wd vb) | _ => #[]⟩ (by kernel_rfl) (by kernel_rfl) (by kernel_rfl) (slotsOk_of hz0 (by kernel_rfl)) rfl ⟨?_, ?_, ?_, ?_, ?_, ?_, ?_, ?_, ?_, ?_, ?_, ?_, ?_, trivial⟩ ?_
    · refine fstep_val rfl rfl (calm_step rfl fun aa ω κ hb hu hc hK => ?_)
      have h4 : aa.tmps[4]?.getD undef = .pointer (some ⟨w.heap.size + 1, 0, none⟩) := (hu 4 rfl).trans e4
      have hk := Lib.hid (fun w1 (h : Below ω.heap.size ω w1) => hK (.pointer (some ⟨w.heap.size + 1, 0, none⟩)) w1 rfl h)
      clear hK hu hc
      go_simp
      exact hk.out _ (Below.refl _ _)
    · refine fstep_val rfl rfl (calm_step rfl fun aa ω κ hb hu hc hK => ?_)
      have h20 : aa.tmps[20]?.getD undef = .pointer (some ⟨w.heap.size + 1, 0, none⟩) := hc 0 20 rfl rfl
      have hk := Lib.hid (fun w1 (h : Below ω.heap.size ω w1) => hK (.agg (arrK .u64 4 (wd qx))) w1 rfl h)
      clear hK hu hc
      have hl := pt_0 (hB.out.step hb)
      have hl1 := hl.1
      have hl2 := hl.2
      go_simp
      exact hk.out _ (Below.refl _ _)
    · refine fstep_val rfl rfl (calm_step rfl fun aa ω κ hb hu hc hK => ?_)
      have h4 : aa.tmps[4]?.getD undef = .pointer (some ⟨w.heap.size + 1, 0, none⟩) := (hu 4 rfl).trans e4
      have hk := Lib.hid (fun w1 (h : Below ω.heap.size ω w1) => hK (.pointer (some ⟨w.heap.size + 1, 4, none⟩)) w1 rfl h)
      clear hK hu hc
      go_simp
      exact hk.out _ (Below.refl _ _)
    · refine fstep_val rfl rfl (calm_step rfl fun aa ω κ hb hu hc hK => ?_)
      have h22 : aa.tmps[22]?.getD undef = .pointer (some ⟨w.heap.size + 1, 4, none⟩) := hc 2 22 rfl rfl
      have hk := Lib.hid (fun w1 (h : Below ω.heap.size ω w1) => hK (.agg (arrK .u64 4 (wd qz))) w1 rfl h)
      clear hK hu hc
      have hl := pt_1 (hB.out.step hb)
      have hl1 := hl.1
      have hl2 := hl.2
      go_simp
      exact hk.out _ (Below.refl _ _)
    · refine fstep_val rfl rfl (calm_step rfl fun aa ω κ hb hu hc hK => ?_)
      have h21 : aa.tmps[21]?.getD undef = .agg (arrK .u64 4 (wd qx)) := hc 1 21 rfl rfl
      have h23 : aa.tmps[23]?.getD undef = .agg (arrK .u64 4 (wd qz)) := hc 3 23 rfl rfl
      have hk := Lib.hid (fun w1 (h : Below ω.heap.size ω w1) => hK (.agg (arrK .u64 4 (wd vb1))) w1 rfl h)
      clear hK hu hc
      go_simp
      go_at_call 22
      refine (kvb1.out _).mono ?_
      rintro e w1 ⟨rfl, hb1⟩
      exact hk.out _ hb1
    · refine fstep_val rfl rfl (calm_step rfl fun aa ω κ hb hu hc hK => ?_)
      have h3 : aa.tmps[3]?.getD undef = .pointer (some ⟨w.heap.size, 0, none⟩) := (hu 3 rfl).trans e3
      have hk := Lib.hid (fun w1 (h : Below ω.heap.size ω w1) => hK (.pointer (some ⟨w.heap.size, 0, none⟩)) w1 rfl h)
      clear hK hu hc
      go_simp
      exact hk.out _ (Below.refl _ _)
    · refine fstep_val rfl rfl (calm_step rfl fun aa ω κ hb hu hc hK => ?_)
      have h25 : aa.tmps[25]?.getD undef = .pointer (some ⟨w.heap.size, 0, none⟩) := hc 5 25 rfl rfl
      have hk := Lib.hid (fun w1 (h : Below ω.heap.size ω w1) => hK (.agg (arrK .u64 4 (wd px))) w1 rfl h)
      clear hK hu hc
      have hl := pt_0 (hA.out.step hb)
      have hl1 := hl.1
      have hl2 := hl.2
      go_simp
      exact hk.out _ (Below.refl _ _)
    · refine fstep_val rfl rfl (calm_step rfl fun aa ω κ hb hu hc hK => ?_)
      have h3 : aa.tmps[3]?.getD undef = .pointer (some ⟨w.heap.size, 0, none⟩) := (hu 3 rfl).trans e3
      have hk := Lib.hid (fun w1 (h : Below ω.heap.size ω w1) => hK (.pointer (some ⟨w.heap.size, 4, none⟩)) w1 rfl h)
      clear hK hu hc
      go_simp
      exact hk.out _ (Below.refl _ _)
    · refine fstep_val rfl rfl (calm_step rfl fun aa ω κ hb hu hc hK => ?_)
      have h27 : aa.tmps[27]?.getD undef = .pointer (some ⟨w.heap.size, 4, none⟩) := hc 7 27 rfl rfl
      have hk := Lib.hid (fun w1 (h : Below ω.heap.size ω w1) => hK (.agg (arrK .u64 4 (wd pz))) w1 rfl h)
      clear hK hu hc
      have hl := pt_1 (hA.out.step hb)
      have hl1 := hl.1
      have hl2 := hl.2
      go_simp
      exact hk.out _ (Below.refl _ _)
    · refine fstep_val rfl rfl (calm_step rfl fun aa ω κ hb hu hc hK => ?_)
      have h26 : aa.tmps[26]?.getD undef = .agg (arrK .u64 4 (wd px)) := hc 6 26 rfl rfl
      have h28 : aa.tmps[28]?.getD undef = .agg (arrK .u64 4 (wd pz)) := hc 8 28 rfl rfl
      have hk := Lib.hid (fun w1 (h : Below ω.heap.size ω w1) => hK (.agg (arrK .u64 4 (wd vb2))) w1 rfl h)
      clear hK hu hc
      go_simp
      go_at_call 20
      refine (kvb2.out _).mono ?_
      rintro e w1 ⟨rfl, hb1⟩
      exact hk.out _ hb1
    · refine fstep_val rfl rfl (calm_step rfl fun aa ω κ hb hu hc hK => ?_)
      have h24 : aa.tmps[24]?.getD undef = .agg (arrK .u64 4 (wd vb1)) := hc 4 24 rfl rfl
      have h29 : aa.tmps[29]?.getD undef = .agg (arrK .u64 4 (wd vb2)) := hc 9 29 rfl rfl
      have hk := Lib.hid (fun w1 (h : Below ω.heap.size ω w1) => hK (.agg (arrK .u64 4 (wd vb))) w1 rfl h)
      clear hK hu hc
      go_simp
      go_at_call 24
      refine (kvb.out _).mono ?_
      rintro e w1 ⟨rfl, hb1⟩
      exact hk.out _ hb1
    · refine fstep_al (n := 4) rfl rfl fun aa ω κ hK => ?_
      have hk := Lib.hid hK
      clear hK
      go_simp
      exact hk.out _ _ hc0
    · refine fstep_st (j := 11) (n := 4) (d := 8) rfl rfl rfl rfl rfl hcvb.1 rfl rfl fun aa ω κ g hb hu hc hp hr hK => ?_
      have h30 : aa.tmps[30]?.getD undef = .agg (arrK .u64 4 (wd vb)) := hc 10 30 rfl rfl
      have hk := Lib.hid hK
      clear hK hu hc
      have hcc := hcvb
      go_simp
      exact hk.out undef
    · intro a1 w1 G I
      have ha0 := hha0.out
      subst ha0
      have he := act_patch (n := 42) [false, false, false, false, false, false, false, false, true, false, false, false, false, false, false, false, false, false, false, false, true, true, true, true, true, true, true, true, true, true, true, false, false, false, false, false, false, false, false, false, false, false] rfl (by kernel_rfl) I.un I.sz I.df
      simp only [patch, cond_true, cond_false, Nat.reduceAdd] at he
      have hal8 := I.al 11 8 4 rfl rfl rfl
      replace hA := Lib.hid (hA.out.step I.bel)
      replace hB := Lib.hid (hB.out.step I.bel)
      replace hU := Lib.hid (hU.out.step I.bel)
      replace hR := Lib.hid (row_below hR.out I.bel hR.out.lt)
      replace hL := Lib.hid (below_step I.bel hL.out (Nat.le_refl _))
      replace hX7 := Lib.hid (hX7.out.step I.bel)
      have hX8 := Lib.hid (show At w1 (G 11) .u64 4 (wd vb) from ⟨(I.blk 11 4 rfl rfl).2, (I.row 12 11 rfl rfl).2.2⟩)
      clear kvb1 kvb2 kvb
      clear I hz0 hha0 e3 e4
      rw [he]
      clear he
      rw [hal8]
      clear hal8
      generalize a1.tmps[20]?.getD undef = x20 at *
      generalize a1.tmps[21]?.getD undef = x21 at *
      generalize a1.tmps[22]?.getD undef = x22 at *
      generalize a1.tmps[23]?.getD undef = x23 at *
      generalize a1.tmps[24]?.getD undef = x24 at *
      generalize a1.tmps[25]?.getD undef = x25 at *
      generalize a1.tmps[26]?.getD undef = x26 at *
      generalize a1.tmps[27]?.getD undef = x27 at *
      generalize a1.tmps[28]?.getD undef = x28 at *
      generalize a1.tmps[29]?.getD undef = x29 at *
      generalize a1.tmps[30]?.getD undef = x30 at *
      obtain ⟨g8, hgz⟩ : ∃ g, G 11 = g := ⟨_, rfl⟩
      rw [hgz] at hX8 ⊢
      clear hgz
      generalize w1 = W2 at *
      go_upto_region 3 with (fail)
      generalize ha0 : Act.mk _ _ = a0
      have e5 : a0.tmps[5]?.getD undef = .pointer (some ⟨w.heap.size + 1 + 1, 0, none⟩) := by rw [← ha0]; rfl
      have e6 : a0.tmps[6]?.getD undef = .pointer (some ⟨w.heap.size + 1 + 1 + 1, 0, none⟩) := by rw [← ha0]; rfl
      have e7 : a0.tmps[7]?.getD undef = .pointer (some ⟨g7, 0, none⟩) := by rw [← ha0]; rfl
      have e8 : a0.tmps[8]?.getD undef = .pointer (some ⟨g8, 0, none⟩) := by rw [← ha0]; rfl
      have hz0 : a0.tmps.size = 42 := by rw [← ha0]; rfl
      have hha0 := Lib.hid ha0
      clear ha0
      refine wp_region_one (fun jx_ => match jx_ with | 0 => some (.agg (arrK .u64 4 (wd va))) | 1 => some (.agg (arrK .u64 4 (wd vb))) | 2 => some (.agg (arrK .u64 4 (wd vc))) | 3 => some (.agg (arrK .u64 4 (wd r1))) | 4 => some (.agg (arrK .u64 4 (wd u))) | 5 => some (.agg (arrK .u64 4 (wd va))) | 6 => some (.agg (arrK .u64 4 (wd vb))) | 7 => some (.agg (arrK .u64 4 (wd vd))) | 8 => some (.agg (arrK .u64 4 (wd ve))) | 9 => some (.agg (arrK .u64 4 (wd r2))) | 10 => some (.agg (arrK .u64 8 (cat2 (wd r1) (wd r2)))) | _ => none) 11 ((w.heap.size + 1 + 1 + 1)) 8 (arrK .u64 8 (cat2 (wd r1) (wd r2))) (by kernel_rfl) (by kernel_rfl) (by kernel_rfl) (slotsOk_of hz0 (by kernel_rfl)) (of_decide_eq_true (by kernel_rfl)) hR.out ⟨?_, ?_, ?_, ?_, ?_, ?_, ?_, ?_, ?_, ?_, ?_, ?_, trivial⟩ ?_
      · refine one_before (by decide) (by kernel_rfl) (calm_step rfl fun aa ω κ hb hu hc hK => ?_)
        have h7 : aa.tmps[7]?.getD undef = .pointer (some ⟨g7, 0, none⟩) := (hu 7 rfl).trans e7
        have hk := Lib.hid (fun w1 (h : Below ω.heap.size ω w1) => hK (.agg (arrK .u64 4 (wd va))) w1 rfl h)
        clear hK hu hc
        have hr1 := (hX7.out.step hb).row
        have hr2 := (hX7.out.step hb).eq
        go_simp
        exact hk.out _ (Below.refl _ _)
      · refine one_before (by decide) (by kernel_rfl) (calm_step rfl fun aa ω κ hb hu hc hK => ?_)
        have h8 : aa.tmps[8]?.getD undef = .pointer (some ⟨g8, 0, none⟩) := (hu 8 rfl).trans e8
        have hk := Lib.hid (fun w1 (h : Below ω.heap.size ω w1) => hK (.agg (arrK .u64 4 (wd vb))) w1 rfl h)
        clear hK hu hc
        have hr1 := (hX8.out.step hb).row
        have hr2 := (hX8.out.step hb).eq
        go_simp
        exact hk.out _ (Below.refl _ _)
      · refine one_before (by decide) (by kernel_rfl) (calm_step rfl fun aa ω κ hb hu hc hK => ?_)
        have h31 : aa.tmps[31]?.getD undef = .agg (arrK .u64 4 (wd va)) := hc 0 31 rfl rfl
        have h32 : aa.tmps[32]?.getD undef = .agg (arrK .u64 4 (wd vb)) := hc 1 32 rfl rfl
        have hk := Lib.hid (fun w1 (h : Below ω.heap.size ω w1) => hK (.agg (arrK .u64 4 (wd vc))) w1 rfl h)
        clear hK hu hc
        go_simp
        go_at_call 20
        refine (kvc.out _).mono ?_
        rintro e w1 ⟨rfl, hb1⟩
        exact hk.out _ hb1
      · refine one_before (by decide) (by kernel_rfl) (calm_step rfl fun aa ω κ hb hu hc hK => ?_)
        have h33 : aa.tmps[33]?.getD undef = .agg (arrK .u64 4 (wd vc)) := hc 2 33 rfl rfl
        have hk := Lib.hid (fun w1 (h : Below ω.heap.size ω w1) => hK (.agg (arrK .u64 4 (wd r1))) w1 rfl h)
        clear hK hu hc
        go_simp
        go_at_call 153
        refine (kr1.out _).mono ?_
        rintro e w1 ⟨rfl, hb1⟩
        exact hk.out _ hb1
      · refine one_before (by decide) (by kernel_rfl) (calm_step rfl fun aa ω κ hb hu hc hK => ?_)
        have h5 : aa.tmps[5]?.getD undef = .pointer (some ⟨w.heap.size + 1 + 1, 0, none⟩) := (hu 5 rfl).trans e5
        have hk := Lib.hid (fun w1 (h : Below ω.heap.size ω w1) => hK (.agg (arrK .u64 4 (wd u))) w1 rfl h)
        clear hK hu hc
        have hr1 := (hU.out.step hb).row
        have hr2 := (hU.out.step hb).eq
        go_simp
        exact hk.out _ (Below.refl _ _)
      · refine one_before (by decide) (by kernel_rfl) (calm_step rfl fun aa ω κ hb hu hc hK => ?_)
        have h7 : aa.tmps[7]?.getD undef = .pointer (some ⟨g7, 0, none⟩) := (hu 7 rfl).trans e7
        have hk := Lib.hid (fun w1 (h : Below ω.heap.size ω w1) => hK (.agg (arrK .u64 4 (wd va))) w1 rfl h)
        clear hK hu hc
        have hr1 := (hX7.out.step hb).row
        have hr2 := (hX7.out.step hb).eq
        go_simp
        exact hk.out _ (Below.refl _ _)
      · refine one_before (by decide) (by kernel_rfl) (calm_step rfl fun aa ω κ hb hu hc hK => ?_)
        have h8 : aa.tmps[8]?.getD undef = .pointer (some ⟨g8, 0, none⟩) := (hu 8 rfl).trans e8
        have hk := Lib.hid (fun w1 (h : Below ω.heap.size ω w1) => hK (.agg (arrK .u64 4 (wd vb))) w1 rfl h)
        clear hK hu hc
        have hr1 := (hX8.out.step hb).row
        have hr2 := (hX8.out.step hb).eq
        go_simp
        exact hk.out _ (Below.refl _ _)
      · refine one_before (by decide) (by kernel_rfl) (calm_step rfl fun aa ω κ hb hu hc hK => ?_)
        have h36 : aa.tmps[36]?.getD undef = .agg (arrK .u64 4 (wd va)) := hc 5 36 rfl rfl
        have h37 : aa.tmps[37]?.getD undef = .agg (arrK .u64 4 (wd vb)) := hc 6 37 rfl rfl
        have hk := Lib.hid (fun w1 (h : Below ω.heap.size ω w1) => hK (.agg (arrK .u64 4 (wd vd))) w1 rfl h)
        clear hK hu hc
        go_simp
        go_at_call 22
        refine (kvd.out _).mono ?_
        rintro e w1 ⟨rfl, hb1⟩
        exact hk.out _ hb1
      · refine one_before (by decide) (by kernel_rfl) (calm_step rfl fun aa ω κ hb hu hc hK => ?_)
        have h38 : aa.tmps[38]?.getD undef = .agg (arrK .u64 4 (wd vd)) := hc 7 38 rfl rfl
        have hk := Lib.hid (fun w1 (h : Below ω.heap.size ω w1) => hK (.agg (arrK .u64 4 (wd ve))) w1 rfl h)
        clear hK hu hc
        go_simp
        go_at_call 153
        refine (kve.out _).mono ?_
        rintro e w1 ⟨rfl, hb1⟩
        exact hk.out _ hb1
      · refine one_before (by decide) (by kernel_rfl) (calm_step rfl fun aa ω κ hb hu hc hK => ?_)
        have h35 : aa.tmps[35]?.getD undef = .agg (arrK .u64 4 (wd u)) := hc 4 35 rfl rfl
        have h39 : aa.tmps[39]?.getD undef = .agg (arrK .u64 4 (wd ve)) := hc 8 39 rfl rfl
        have hk := Lib.hid (fun w1 (h : Below ω.heap.size ω w1) => hK (.agg (arrK .u64 4 (wd r2))) w1 rfl h)
        clear hK hu hc
        go_simp
        go_at_call 24
        refine (kr2.out _).mono ?_
        rintro e w1 ⟨rfl, hb1⟩
        exact hk.out _ hb1
      · refine one_before (by decide) (by kernel_rfl) (calm_step rfl fun aa ω κ hb hu hc hK => ?_)
        have h34 : aa.tmps[34]?.getD undef = .agg (arrK .u64 4 (wd r1)) := hc 3 34 rfl rfl
        have h40 : aa.tmps[40]?.getD undef = .agg (arrK .u64 4 (wd r2)) := hc 9 40 rfl rfl
        have hk := Lib.hid (fun w1 (h : Below ω.heap.size ω w1) => hK (.agg (arrK .u64 8 (cat2 (wd r1) (wd r2)))) w1 rfl h)
        clear hK hu hc
        exact wp_bldB (v0 := .agg (arrK .u64 4 (wd r1))) (v1 := .agg (arrK .u64 4 (wd r2))) rfl (by go_simp) (by go_simp) (build_pr _ _ _) (hk.out _ (Below.refl _ _))
      · refine one_q (one_write rfl rfl fun aa ω κ hb hu hc hr hK => ?_)
        have h6 : aa.tmps[6]?.getD undef = .pointer (some ⟨w.heap.size + 1 + 1 + 1, 0, none⟩) := (hu 6 rfl).trans e6
        have h41 : aa.tmps[41]?.getD undef = .agg (arrK .u64 8 (cat2 (wd r1) (wd r2))) := hc 10 41 rfl rfl
        have hk := Lib.hid hK
        clear hK hu hc
        have hcc := hcr
        go_simp
        exact hk.out undef
      · intro a1 w1 hb1 hu1 hsz1 hdf1 hv1
        have ha0 := hha0.out
        subst ha0
        have he := act_patch (n := 42) [false, false, false, false, false, false, false, false, false, false, false, false, false, false, false, false, false, false, false, false, false, false, false, false, false, false, false, false, false, false, false, true, true, true, true, true, true, true, true, true, true, true] rfl (by kernel_rfl) hu1 hsz1 hdf1
        simp only [patch, cond_true, cond_false, Nat.reduceAdd] at he
        have hXz := (At.put (k := .u64) (f := (cat2 (wd r1) (wd r2))) hR.out).below hb1 (by simpa using hR.out.lt)
        have hLz := Lib.hid (Below.trans (below_setRow (c := arrK .u64 8 (cat2 (wd r1) (wd r2))) hL.out (by omega)) (hb1.mono (by simpa using hL.out.size)))
        clear hR hL hA hB hU hX7 hX8 kvc kr1 kvd kve kr2
        clear hb1 hu1 hsz1 hdf1 hv1 hz0 hha0 e5 e6 e7 e8
        rw [he]
        clear he
        generalize a1.tmps[31]?.getD undef = x31 at *
        generalize a1.tmps[32]?.getD undef = x32 at *
        generalize a1.tmps[33]?.getD undef = x33 at *
        generalize a1.tmps[34]?.getD undef = x34 at *
        generalize a1.tmps[35]?.getD undef = x35 at *
        generalize a1.tmps[36]?.getD undef = x36 at *
        generalize a1.tmps[37]?.getD undef = x37 at *
        generalize a1.tmps[38]?.getD undef = x38 at *
        generalize a1.tmps[39]?.getD undef = x39 at *
        generalize a1.tmps[40]?.getD undef = x40 at *
        generalize a1.tmps[41]?.getD undef = x41 at *
        go_wp2_with fail
        refine ret_row (p := 6) (ty := 130) (g := (w.heap.size + 1 + 1 + 1)) rfl Try.underlying130 rfl (by kernel_rfl) rfl hXz.row rfl ?_
        rw [hXz.eq]
        exact ⟨rfl, hLz.out⟩
end Go.Proofs.Ytodcjeaannfbnaa
