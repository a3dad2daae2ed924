/- PinPlays: the law's function returns true. -/
import Derived.Test.YtjihklaocgmlpaaDoorTry
namespace Go.Proofs.YtjihklaocgmlpaaDoor
open Go.ChangeShapes Go.WideShapes Go.ChangeAt Go.RowKit
set_option maxHeartbeats 1000000
set_option maxRecDepth 100000
section
variable {w : World} {dst : Option Tmp} {x : Operand} {tt : TypeId} {pos : String} {af : Array Edge} {gd : Option (Nat × Bool)} {a : Act} {K : Act → World → Prop} {Q : Exit → Act → World → Prop}
theorem load_try (h : LdOk w 3 (a.eval x)) : Oper.wp Tryd.prog ⟨dst, .load 56 x, tt, pos, af, gd⟩ a w K Q ↔ K (a.put dst (.agg (ldC w 3 (a.eval x)))) w := wp_load_el Tryd.underlying56 rfl (by kernel_rfl) h
end
attribute [local irreducible] arrV dgA sha lkA lockA
attribute [local go_sem ↓] load_lk store_lk load_lkp store_lkp load_o32 store_o32 load_mk load_try
attribute [local go_sem] isHead_mk isPart_mk offOf_mk blkOf_mk isAgg_mk cellsV_mk row_drew rowAt_drew row_new_cells row_old rowAt_new rowAt_old zeroD zeroLk zero_lk lockA_lk fold_pin lkA_size ldOk_drew ldC_drew
set_option maxHeartbeats 16000000 in
theorem pinPlays (K : Nat → W32) (S : Option Addr) (salt : List UInt8) (sn cs : Nat) (F : Option Addr) (first : List UInt8) (fn cf : Nat) (T : Option Addr) (l : List Tr) (N ct : Nat) (w : World) (hT : Tabs K w) (hs : Bs w S salt cs) (hf : Bs w F first cf) (hsn : salt.length = sn) (hfn : first.length = fn) (hs4 : sn ≤ 140737488351232) (hf4 : fn ≤ 140737488351232) (hl : l.length = N) (hI : TrAt w T l ct) :
    Calls Tryd.prog 6 #[.slice S sn cs, .slice F fn cf, .slice T N ct] w fun e w' => e = .returned (.bool true) ∧ Below w.heap.size w w' := by
  by_cases hlen : 30 < N
  · have hd : decide ((30 : Int) < (N : Int)) = true := by simp; omega
    clear hT hI hs hf
    go_enter Tryd.func6, Tryd.ntmps6
    go_wp2
    go_ret
    exact ⟨rfl, Below.refl _ _⟩
  have hd : decide ((30 : Int) < (N : Int)) = false := by simp; omega
  have hHT := Lib.hid hT
  have hHs := Lib.hid hs
  have hHf := Lib.hid hf
  have hHsn := Lib.hid hsn
  have hHfn := Lib.hid hfn
  have hHl := Lib.hid hl
  have hHI := Lib.hid hI
  have hle := hI.le
  have hmx := hI.mx
  rw [hl] at hle
  clear hT hs hf hsn hfn hl hI
  go_enter Tryd.func6, Tryd.ntmps6
  go_wp2_with fail
  refine (pin_New K S salt sn cs F first fn cf w hHT.out hHs.out hHf.out hHsn.out hHfn.out hs4).mono ?_
  rintro e w1 ⟨hb1, hcase⟩
  have hxl := stretchL_len K salt first
  have hcx := dgA_cells (stretchL K salt first)
  have hSt := Lib.hid (fun V (hV : Below w.heap.size w V) => pin_Stretch K S salt sn cs F first fn cf V (hHT.out.step hV) (hHs.out.step hV) (hHf.out.step hV) hHsn.out hHfn.out)
  have hRt := Lib.hid (fun V (hV : Below w.heap.size w V) => ref_Stretched K salt first V (hHT.out.step hV) (by rw [hHsn.out]; exact hs4) (by rw [hHfn.out]; exact hf4))
  have hCs := Lib.hid (fun V (hV : Below w.heap.size w V) => (hHs.out.step hV).conv)
  have hCf := Lib.hid (fun V (hV : Below w.heap.size w V) => (hHf.out.step hV).conv)
  rw [hHsn.out] at hCs
  rw [hHfn.out] at hCf
  have hEq := Lib.hid (fun V => neqD hxl hxl V)
  have hB1 := Lib.hid hb1
  have hz0 : decide (stretchL K salt first = stretchL K salt first) = true := by simp
  rw [hz0, Bool.not_true] at hEq
  clear hz0
  generalize stretchL K salt first = x0 at *
  clear hb1
  rcases hcase with ⟨hr, rfl⟩ | ⟨hr, g, A, c, rfl, hlk, hap⟩
  · have hHr := Lib.hid hr
    clear hr
    go_wp2_with fail
    generalize ha0 : Act.mk _ _ = a0
    have e0 : a0.tmps[0]?.getD undef = .slice S sn cs := by rw [← ha0]; rfl
    have e1 : a0.tmps[1]?.getD undef = .slice F fn cf := by rw [← ha0]; rfl
    have hz0 : a0.tmps.size = 146 := by rw [← ha0]; rfl
    have hha0 := Lib.hid ha0
    clear ha0
    refine wp_region_tailL (fun jx_ => match jx_ with | 0 => SRel.is (.slice S sn cs) | 1 => SRel.is (.slice F fn cf) | 2 => SRel.is (.agg (dgA x0)) | 3 => SRel.is (.slice S sn cs) | 4 => SRel.is (strV salt) | 5 => SRel.is (.slice F fn cf) | 6 => SRel.is (strV first) | 7 => SRel.is (.agg (dgA x0)) | 8 => SRel.any | _ => SRel.any) 8 (by kernel_rfl) (by kernel_rfl) (by kernel_rfl) (slotsOk_of hz0 (by kernel_rfl)) (by kernel_rfl) (of_decide_eq_true (by kernel_rfl)) ⟨?_, ?_, ?_, ?_, ?_, ?_, ?_, ?_, trivial⟩ ?_
    · refine calmL_step rfl fun a ω κ hb hu hc hK => ?_
      have h0 : a.tmps[0]?.getD undef = .slice S sn cs := (hu 0 rfl).trans e0
      have hk := Lib.hid (fun w1 (h : Below ω.heap.size ω w1) => hK (.slice S sn cs) w1 rfl h)
      clear hK hu hc
      go_simp
      exact hk.out _ (Below.refl _ _)
    · refine calmL_step rfl fun a ω κ hb hu hc hK => ?_
      have h1 : a.tmps[1]?.getD undef = .slice F fn cf := (hu 1 rfl).trans e1
      have hk := Lib.hid (fun w1 (h : Below ω.heap.size ω w1) => hK (.slice F fn cf) w1 rfl h)
      clear hK hu hc
      go_simp
      exact hk.out _ (Below.refl _ _)
    · refine calmL_step rfl fun a ω κ hb hu hc hK => ?_
      have h23 : a.tmps[23]?.getD undef = .slice S sn cs := hc 0 23 rfl rfl
      have h24 : a.tmps[24]?.getD undef = .slice F fn cf := hc 1 24 rfl rfl
      have hk := Lib.hid (fun w1 (h : Below ω.heap.size ω w1) => hK (.agg (dgA x0)) w1 rfl h)
      clear hK hu hc
      go_simp
      go_at_call 28
      refine (hSt.out ω (below_step hb hB1.out (Nat.le_refl _))).mono ?_
      rintro e w1 ⟨rfl, hb1⟩
      exact hk.out _ hb1
    · refine calmL_step rfl fun a ω κ hb hu hc hK => ?_
      have h0 : a.tmps[0]?.getD undef = .slice S sn cs := (hu 0 rfl).trans e0
      have hk := Lib.hid (fun w1 (h : Below ω.heap.size ω w1) => hK (.slice S sn cs) w1 rfl h)
      clear hK hu hc
      go_simp
      exact hk.out _ (Below.refl _ _)
    · refine calmL_step rfl fun a ω κ hb hu hc hK => ?_
      have h26 : a.tmps[26]?.getD undef = .slice S sn cs := hc 3 26 rfl rfl
      have hk := Lib.hid (fun w1 (h : Below ω.heap.size ω w1) => hK (strV salt) w1 rfl h)
      clear hK hu hc
      have q1 := hCs.out ω (below_step hb hB1.out (Nat.le_refl _))
      go_simp
      exact hk.out _ (Below.refl _ _)
    · refine calmL_step rfl fun a ω κ hb hu hc hK => ?_
      have h1 : a.tmps[1]?.getD undef = .slice F fn cf := (hu 1 rfl).trans e1
      have hk := Lib.hid (fun w1 (h : Below ω.heap.size ω w1) => hK (.slice F fn cf) w1 rfl h)
      clear hK hu hc
      go_simp
      exact hk.out _ (Below.refl _ _)
    · refine calmL_step rfl fun a ω κ hb hu hc hK => ?_
      have h28 : a.tmps[28]?.getD undef = .slice F fn cf := hc 5 28 rfl rfl
      have hk := Lib.hid (fun w1 (h : Below ω.heap.size ω w1) => hK (strV first) w1 rfl h)
      clear hK hu hc
      have q1 := hCf.out ω (below_step hb hB1.out (Nat.le_refl _))
      go_simp
      exact hk.out _ (Below.refl _ _)
    · refine calmL_step rfl fun a ω κ hb hu hc hK => ?_
      have h27 : a.tmps[27]?.getD undef = strV salt := hc 4 27 rfl rfl
      have h29 : a.tmps[29]?.getD undef = strV first := hc 6 29 rfl rfl
      have hk := Lib.hid (fun w1 (h : Below ω.heap.size ω w1) => hK (.agg (dgA x0)) w1 rfl h)
      clear hK hu hc
      go_simp
      go_at_call 24
      refine (hRt.out ω (below_step hb hB1.out (Nat.le_refl _))).mono ?_
      rintro e w1 ⟨rfl, hb1⟩
      exact hk.out _ hb1
    · intro aa ω hb hu hsz hdf hc
      have h23 : aa.tmps[23]?.getD undef = .slice S sn cs := hc 0 23 (by decide) rfl
      have h24 : aa.tmps[24]?.getD undef = .slice F fn cf := hc 1 24 (by decide) rfl
      have h25 : aa.tmps[25]?.getD undef = .agg (dgA x0) := hc 2 25 (by decide) rfl
      have h26 : aa.tmps[26]?.getD undef = .slice S sn cs := hc 3 26 (by decide) rfl
      have h27 : aa.tmps[27]?.getD undef = strV salt := hc 4 27 (by decide) rfl
      have h28 : aa.tmps[28]?.getD undef = .slice F fn cf := hc 5 28 (by decide) rfl
      have h29 : aa.tmps[29]?.getD undef = strV first := hc 6 29 (by decide) rfl
      have h30 : aa.tmps[30]?.getD undef = .agg (dgA x0) := hc 7 30 (by decide) rfl
      have ha0 := hha0.out
      subst ha0
      have he := act_patchL (n := 146) 8 [false, false, false, false, false, false, false, false, false, false, false, false, false, false, false, false, false, false, false, false, false, false, false, true, true, true, true, true, true, true, true, false, false, false, false, false, false, false, false, false, false, false, false, false, false, false, false, false, false, false, false, false, false, false, false, false, false, false, false, false, false, false, false, false, false, false, false, false, false, false, false, false, false, false, false, false, false, false, false, false, false, false, false, false, false, false, false, false, false, false, false, false, false, false, false, false, false, false, false, false, false, false, false, false, false, false, false, false, false, false, false, false, false, false, false, false, false, false, false, false, false, false, false, false, false, false, false, false, false, false, false, false, false, false, false, false, false, false, false, false, false, false, false, false, false, false] rfl (by kernel_rfl) hu hsz hdf
      simp only [patch, cond_true, cond_false, Nat.reduceAdd] at he
      clear hu hsz hdf hc hha0 e0 e1 hz0
      rw [he]
      clear he
      generalize aa.tmps[23]?.getD undef = x23 at *
      generalize aa.tmps[24]?.getD undef = x24 at *
      generalize aa.tmps[25]?.getD undef = x25 at *
      generalize aa.tmps[26]?.getD undef = x26 at *
      generalize aa.tmps[27]?.getD undef = x27 at *
      generalize aa.tmps[28]?.getD undef = x28 at *
      generalize aa.tmps[29]?.getD undef = x29 at *
      generalize aa.tmps[30]?.getD undef = x30 at *
      subst h23 h24 h25 h26 h27 h28 h29 h30
      dsimp only [List.drop]
      refine wpList_neq guard32 rfl rfl (hEq.out ω) ?_
      have hfin := Lib.hid (below_step hb hB1.out (Nat.le_refl _))
      clear hb hSt hRt hCs hCf hEq hB1
      go_wp2_with fail
      refine (law_right F fn cf ω).mono ?_
      rintro e w2 ⟨rfl, rfl⟩
      rw [hHr.out]
      go_wp2
      go_ret
      exact ⟨rfl, hfin.out⟩
  · have hHr := Lib.hid hr
    have hLk := Lib.hid hlk
    have hHa := Lib.hid hap
    clear hr hlk hap
    go_wp2_with fail
    generalize ha0 : Act.mk _ _ = a0
    have e0 : a0.tmps[0]?.getD undef = .slice S sn cs := by rw [← ha0]; rfl
    have e1 : a0.tmps[1]?.getD undef = .slice F fn cf := by rw [← ha0]; rfl
    have hz0 : a0.tmps.size = 146 := by rw [← ha0]; rfl
    have hha0 := Lib.hid ha0
    clear ha0
    refine wp_region_tailL (fun jx_ => match jx_ with | 0 => SRel.is (.slice S sn cs) | 1 => SRel.is (.slice F fn cf) | 2 => SRel.is (.agg (dgA x0)) | 3 => SRel.is (.slice S sn cs) | 4 => SRel.is (strV salt) | 5 => SRel.is (.slice F fn cf) | 6 => SRel.is (strV first) | 7 => SRel.is (.agg (dgA x0)) | 8 => SRel.any | _ => SRel.any) 8 (by kernel_rfl) (by kernel_rfl) (by kernel_rfl) (slotsOk_of hz0 (by kernel_rfl)) (by kernel_rfl) (of_decide_eq_true (by kernel_rfl)) ⟨?_, ?_, ?_, ?_, ?_, ?_, ?_, ?_, trivial⟩ ?_
    · refine calmL_step rfl fun a ω κ hb hu hc hK => ?_
      have h0 : a.tmps[0]?.getD undef = .slice S sn cs := (hu 0 rfl).trans e0
      have hk := Lib.hid (fun w1 (h : Below ω.heap.size ω w1) => hK (.slice S sn cs) w1 rfl h)
      clear hK hu hc
      go_simp
      exact hk.out _ (Below.refl _ _)
    · refine calmL_step rfl fun a ω κ hb hu hc hK => ?_
      have h1 : a.tmps[1]?.getD undef = .slice F fn cf := (hu 1 rfl).trans e1
      have hk := Lib.hid (fun w1 (h : Below ω.heap.size ω w1) => hK (.slice F fn cf) w1 rfl h)
      clear hK hu hc
      go_simp
      exact hk.out _ (Below.refl _ _)
    · refine calmL_step rfl fun a ω κ hb hu hc hK => ?_
      have h23 : a.tmps[23]?.getD undef = .slice S sn cs := hc 0 23 rfl rfl
      have h24 : a.tmps[24]?.getD undef = .slice F fn cf := hc 1 24 rfl rfl
      have hk := Lib.hid (fun w1 (h : Below ω.heap.size ω w1) => hK (.agg (dgA x0)) w1 rfl h)
      clear hK hu hc
      go_simp
      go_at_call 28
      refine (hSt.out ω (below_step hb hB1.out (Nat.le_refl _))).mono ?_
      rintro e w1 ⟨rfl, hb1⟩
      exact hk.out _ hb1
    · refine calmL_step rfl fun a ω κ hb hu hc hK => ?_
      have h0 : a.tmps[0]?.getD undef = .slice S sn cs := (hu 0 rfl).trans e0
      have hk := Lib.hid (fun w1 (h : Below ω.heap.size ω w1) => hK (.slice S sn cs) w1 rfl h)
      clear hK hu hc
      go_simp
      exact hk.out _ (Below.refl _ _)
    · refine calmL_step rfl fun a ω κ hb hu hc hK => ?_
      have h26 : a.tmps[26]?.getD undef = .slice S sn cs := hc 3 26 rfl rfl
      have hk := Lib.hid (fun w1 (h : Below ω.heap.size ω w1) => hK (strV salt) w1 rfl h)
      clear hK hu hc
      have q1 := hCs.out ω (below_step hb hB1.out (Nat.le_refl _))
      go_simp
      exact hk.out _ (Below.refl _ _)
    · refine calmL_step rfl fun a ω κ hb hu hc hK => ?_
      have h1 : a.tmps[1]?.getD undef = .slice F fn cf := (hu 1 rfl).trans e1
      have hk := Lib.hid (fun w1 (h : Below ω.heap.size ω w1) => hK (.slice F fn cf) w1 rfl h)
      clear hK hu hc
      go_simp
      exact hk.out _ (Below.refl _ _)
    · refine calmL_step rfl fun a ω κ hb hu hc hK => ?_
      have h28 : a.tmps[28]?.getD undef = .slice F fn cf := hc 5 28 rfl rfl
      have hk := Lib.hid (fun w1 (h : Below ω.heap.size ω w1) => hK (strV first) w1 rfl h)
      clear hK hu hc
      have q1 := hCf.out ω (below_step hb hB1.out (Nat.le_refl _))
      go_simp
      exact hk.out _ (Below.refl _ _)
    · refine calmL_step rfl fun a ω κ hb hu hc hK => ?_
      have h27 : a.tmps[27]?.getD undef = strV salt := hc 4 27 rfl rfl
      have h29 : a.tmps[29]?.getD undef = strV first := hc 6 29 rfl rfl
      have hk := Lib.hid (fun w1 (h : Below ω.heap.size ω w1) => hK (.agg (dgA x0)) w1 rfl h)
      clear hK hu hc
      go_simp
      go_at_call 24
      refine (hRt.out ω (below_step hb hB1.out (Nat.le_refl _))).mono ?_
      rintro e w1 ⟨rfl, hb1⟩
      exact hk.out _ hb1
    · intro aa ω hb hu hsz hdf hc
      have h23 : aa.tmps[23]?.getD undef = .slice S sn cs := hc 0 23 (by decide) rfl
      have h24 : aa.tmps[24]?.getD undef = .slice F fn cf := hc 1 24 (by decide) rfl
      have h25 : aa.tmps[25]?.getD undef = .agg (dgA x0) := hc 2 25 (by decide) rfl
      have h26 : aa.tmps[26]?.getD undef = .slice S sn cs := hc 3 26 (by decide) rfl
      have h27 : aa.tmps[27]?.getD undef = strV salt := hc 4 27 (by decide) rfl
      have h28 : aa.tmps[28]?.getD undef = .slice F fn cf := hc 5 28 (by decide) rfl
      have h29 : aa.tmps[29]?.getD undef = strV first := hc 6 29 (by decide) rfl
      have h30 : aa.tmps[30]?.getD undef = .agg (dgA x0) := hc 7 30 (by decide) rfl
      have ha0 := hha0.out
      subst ha0
      have he := act_patchL (n := 146) 8 [false, false, false, false, false, false, false, false, false, false, false, false, false, false, false, false, false, false, false, false, false, false, false, true, true, true, true, true, true, true, true, false, false, false, false, false, false, false, false, false, false, false, false, false, false, false, false, false, false, false, false, false, false, false, false, false, false, false, false, false, false, false, false, false, false, false, false, false, false, false, false, false, false, false, false, false, false, false, false, false, false, false, false, false, false, false, false, false, false, false, false, false, false, false, false, false, false, false, false, false, false, false, false, false, false, false, false, false, false, false, false, false, false, false, false, false, false, false, false, false, false, false, false, false, false, false, false, false, false, false, false, false, false, false, false, false, false, false, false, false, false, false, false, false, false, false] rfl (by kernel_rfl) hu hsz hdf
      simp only [patch, cond_true, cond_false, Nat.reduceAdd] at he
      clear hu hsz hdf hc hha0 e0 e1 hz0
      rw [he]
      clear he
      generalize aa.tmps[23]?.getD undef = x23 at *
      generalize aa.tmps[24]?.getD undef = x24 at *
      generalize aa.tmps[25]?.getD undef = x25 at *
      generalize aa.tmps[26]?.getD undef = x26 at *
      generalize aa.tmps[27]?.getD undef = x27 at *
      generalize aa.tmps[28]?.getD undef = x28 at *
      generalize aa.tmps[29]?.getD undef = x29 at *
      generalize aa.tmps[30]?.getD undef = x30 at *
      subst h23 h24 h25 h26 h27 h28 h29 h30
      dsimp only [List.drop]
      refine wpList_neq guard32 rfl rfl (hEq.out ω) ?_
      have hfin := Lib.hid (below_step hb hB1.out (Nat.le_refl _))
      have hLk2 := Lib.hid (hLk.out.step hb)
      have hHa2 := Lib.hid (fun a e => Nat.lt_of_lt_of_le (hHa.out a e) hb.size)
      have hC1 := Lib.hid (hCs.out ω hfin.out)
      have hC2 := Lib.hid (hCf.out ω hfin.out)
      have hC3 := Lib.hid (hRt.out ω hfin.out)
      clear hb hSt hRt hCs hCf hEq hB1 hLk hHa
      go_wp2_with fail
      refine (law_right F fn cf ω).mono ?_
      rintro e w2 ⟨rfl, rfl⟩
      rw [hHr.out]
      have q1 := hC1.out
      have q2 := hC2.out
      go_wp2_with fail
      refine (hC3.out).mono ?_
      rintro e w3 ⟨rfl, hb3⟩
      clear hC1 hC2 hC3 q1 q2
      have hcl := lkA_cells x0 3
      have hcz := lkA_cells [] 0
      have hlk3 := hLk2.out.step hb3
      have hst : (w3.alloc (Obj.cells (lkA [] 0) 44)).setRow w3.heap.size (lkA x0 3) = w3.alloc (Obj.cells (lkA x0 3) 44) := setRow_new rfl
      have hz3 : Row (w3.alloc (Obj.cells (lkA [] 0) 44)) w3.heap.size 33 := (row_new rfl).2 hcz.1
      have hP0 := Lib.hid (show PinSt w g w3.heap.size A c salt x0 3 x0 3 (w3.alloc (Obj.cells (lkA x0 3) 44)) from
        ⟨hlk3.step (below_alloc _ _), (row_new rfl).2 hcl.1, rowAt_new rfl, Ne.symm (Nat.ne_of_lt hlk3.row.lt), hlk3.bel.size, fun a e => Nat.ne_of_lt (Nat.lt_of_lt_of_le (hHa2.out a e) hb3.size), hxl⟩)
      clear hfin hLk2 hHa2 hb3 hlk3
      go_wp2_with (refine wpList_bld2 (vx := .agg (dgA x0)) (vy := .int .i64 3) rfl rfl rfl rfl (build_lk x0 3 _) ?_)
      clear hst hz3
      generalize w3.alloc (Obj.cells (lkA x0 3) 44) = W1 at *
      generalize w3.heap.size = nb at *
      go_loopw [56] (fun vi wr => ∃ (i : Nat) (d : List UInt8) (n : Int), vi = .int .i64 (i : Nat) ∧ i ≤ N ∧ 0 ≤ n ∧ n ≤ 3 ∧ Hid (PinSt w g nb A c salt d n d n wr)) (fun vi _ => N - (intOf vi).toNat)
      case atStart => exact ⟨0, x0, 3, rfl, Nat.zero_le _, by omega, by omega, hP0⟩
      case round =>
        obtain ⟨i, d, n, rfl, hiN, hn0, hn3, hP⟩ := hrel
        clear hP0 hcl hcz hcx hxl
        by_cases hc : i < N
        case neg =>
          have d1 : decide ((i : Int) < (N : Int)) = false := by simp; omega
          go_wp2_with fail
          go_ret
          exact ⟨rfl, hP.out.lk.bel⟩
        have d1 : decide ((i : Int) < (N : Int)) = true := by simp; omega
        have hz1 : (0 : Int) ≤ (i : Int) := by omega
        have hz2 : (i : Int) < (N : Int) := by omega
        have ht : ((i : Nat) : Int).toNat = i := by simp
        have hw1 : IntKind.i64.wrap ((i : Int) + 1) = (i : Int) + 1 := by rw [IntKind.wrap_i64]; omega
        obtain ⟨x, hx⟩ : ∃ x, l[i]? = some x := ⟨_, List.getElem?_eq_getElem (by have := hHl.out; omega)⟩
        obtain ⟨ad, rfl, a1, a2⟩ := hHI.out.at_ hP.out.lk.bel hx
        obtain ⟨⟨hxo, hxo4⟩, hxf, hxf4⟩ := hHI.out.body x (List.mem_of_getElem? hx)
        obtain ⟨kind, oA, oc, old, fA, fc, fresh⟩ := x
        have hHo := Lib.hid (show Bs w oA old oc from hxo)
        have hHf2 := Lib.hid (show Bs w fA fresh fc from hxf)
        have ho4 : old.length ≤ 140737488351232 := hxo4
        have hf5 : fresh.length ≤ 140737488351232 := hxf4
        have a3 : ldC wr 3 (.pointer (some (ad.add (i * 3)))) = #[.int .i64 kind, .slice oA old.length oc, .slice fA fresh.length fc] := a2
        clear hx hxo hxf hxo4 hxf4 a2
        go_upto_region 16 with (fail)
        have hR := Lib.hid (show Rnd w g nb wr.heap.size A c salt d n d n ⟨kind, oA, oc, old, fA, fc, fresh⟩ (wr.alloc (Obj.cells #[.int .i64 kind, .slice oA old.length oc, .slice fA fresh.length fc] 56)) from
          ⟨hP.out.step (below_alloc _ _), ⟨by simp [go_sem], by simp [go_sem], by simp [go_sem], by simp [go_sem], Nat.ne_of_gt hP.out.lk.row.lt, Nat.ne_of_gt hP.out.row.lt⟩⟩)
        clear hP a1 a3
        generalize wr.alloc (Obj.cells #[.int .i64 kind, .slice oA old.length oc, .slice fA fresh.length fc] 56) = W2 at *
        generalize wr.heap.size = xb at *
        have hdl : d.length = 32 := hR.out.p.dl
        have hCs := Lib.hid (fun V (hV : Below w.heap.size w V) => hHsn.out ▸ (hHs.out.step hV).conv)
        have hCo := Lib.hid (fun V (hV : Below w.heap.size w V) => (hHo.out.step hV).conv)
        have hCf := Lib.hid (fun V (hV : Below w.heap.size w V) => (hHf2.out.step hV).conv)
        have hSo := Lib.hid (fun V (hV : Below w.heap.size w V) => ref_Stretched K salt old V (hHT.out.step hV) (by rw [hHsn.out]; exact hs4) ho4)
        have hSf := Lib.hid (fun V (hV : Below w.heap.size w V) => ref_Stretched K salt fresh V (hHT.out.step hV) (by rw [hHsn.out]; exact hs4) hf5)
        have hol := stretchL_len K salt old
        have hfl := stretchL_len K salt fresh
        have hocx := dgA_cells (stretchL K salt old)
        have hfcx := dgA_cells (stretchL K salt fresh)
        have hEqo := Lib.hid (fun V => neqD hol hdl V)
        have hTr := Lib.hid (fun V (hV : LkAt w g A c salt d n V) => lk_TryA K w g A c salt d n oA old old.length oc V hV hHT.out hHo.out rfl hn0 hn3)
        have hCh := Lib.hid (fun V (hV : LkAt w g A c salt d n V) (hk : rightB fresh.length = true) => lk_Change K w g A c salt d n oA old old.length oc fA fresh fresh.length fc V hV hHT.out hHo.out hHf2.out rfl rfl hk hn0 hn3)
        have hRs := Lib.hid (fun V (hV : LkAt w g A c salt d n V) (hk : rightB fresh.length = true) => lk_Reset K w g A c salt d n fA fresh fresh.length fc V hV (hHT.out.step hV.bel) (hHf2.out.step hV.bel) rfl hk)
        have hTc := Lib.hid (show tryC K salt d old n = if n = 0 then (11, 0) else if stretchL K salt old = d then (0, 3) else (10, n - 1) from rfl)
        generalize stretchL K salt old = xo at *
        generalize stretchL K salt fresh = xf at *
        generalize tryC K salt d old n = tc at *
        have hwn : IntKind.i64.wrap (n - 1) = n - 1 := by rw [IntKind.wrap_i64]; omega
        clear d1 ht
        by_cases k2 : kind = 2
        · subst k2
          cases hr : rightB fresh.length with
          | false =>
            have hHr := Lib.hid hr
            clear hr
            have c0 : W2.cell? ⟨xb, 0, none⟩ = some (.int .i64 2) := hR.out.x.c0
            have c1 : W2.cell? ⟨xb, 1, none⟩ = some (.slice oA old.length oc) := hR.out.x.c1
            have c2 : W2.cell? ⟨xb, 2, none⟩ = some (.slice fA fresh.length fc) := hR.out.x.c2
            have cn : W2.cell? ⟨nb, 32, none⟩ = some (.int .i64 n) := hR.out.p.c32
            have fz : W2.frozen? ⟨nb, 32, none⟩ = false := hR.out.p.row.frozen 32
            have rn : Row W2 nb 33 := hR.out.p.row
            go_wp2_with fail
            refine (law_right fA fresh.length fc W2).mono ?_
            rintro e wx ⟨rfl, rfl⟩
            rw [hHr.out]
            clear c0 c1 c2 cn fz rn
            have c0 : W2.cell? ⟨xb, 0, none⟩ = some (.int .i64 2) := hR.out.x.c0
            have c1 : W2.cell? ⟨xb, 1, none⟩ = some (.slice oA old.length oc) := hR.out.x.c1
            have c2 : W2.cell? ⟨xb, 2, none⟩ = some (.slice fA fresh.length fc) := hR.out.x.c2
            have cn : W2.cell? ⟨nb, 32, none⟩ = some (.int .i64 n) := hR.out.p.c32
            have fz : W2.frozen? ⟨nb, 32, none⟩ = false := hR.out.p.row.frozen 32
            have rn : Row W2 nb 33 := hR.out.p.row
            go_wp2_with fail
            refine (lk_Change_no g oA old.length oc fA fresh.length fc W2 hHr.out).mono ?_
            rintro e w7 ⟨rfl, rfl⟩
            clear c0 c1 c2 cn fz rn
            go_wp2_with fail
            generalize ha0 : Act.mk _ _ = a0
            have e8 : a0.tmps[8]?.getD undef = .pointer (some ⟨g, 0, none⟩) := by rw [← ha0]; rfl
            have e9 : a0.tmps[9]?.getD undef = .int .i64 1 := by rw [← ha0]; rfl
            have e10 : a0.tmps[10]?.getD undef = .pointer (some ⟨nb, 0, none⟩) := by rw [← ha0]; rfl
            have e13 : a0.tmps[13]?.getD undef = .int .i64 1 := by rw [← ha0]; rfl
            have hz0 : a0.tmps.size = 146 := by rw [← ha0]; rfl
            have hha0 := Lib.hid ha0
            clear ha0
            refine wp_region_tailL (fun jx_ => match jx_ with | 0 => SRel.is (.int .i64 1) | 1 => SRel.is (.int .i64 1) | 2 => SRel.is (.bool false) | 3 => SRel.is (.bool false) | 4 => SRel.is (.pointer (some ⟨g, 0, none⟩)) | 5 => SRel.is (.agg (lkA d n)) | 6 => SRel.is (.agg (lkA d n)) | 7 => SRel.is (.bool false) | 8 => SRel.is (.bool false) | 9 => SRel.is (.bool false) | 10 => SRel.is (.pointer (some ⟨g, 0, none⟩)) | 11 => SRel.is (.int .i64 n) | 12 => SRel.is (.pointer (some ⟨nb, 32, none⟩)) | 13 => SRel.is (.int .i64 n) | 14 => SRel.is (.bool false) | 15 => SRel.any | _ => SRel.any) 15 (by kernel_rfl) (by kernel_rfl) (by kernel_rfl) (slotsOk_of hz0 (by kernel_rfl)) (by kernel_rfl) (of_decide_eq_true (by kernel_rfl)) ⟨?_, ?_, ?_, ?_, ?_, ?_, ?_, ?_, ?_, ?_, ?_, ?_, ?_, ?_, ?_, trivial⟩ ?_
            · refine calmL_step rfl fun a ω κ hb hu hc hK => ?_
              have h9 : a.tmps[9]?.getD undef = .int .i64 1 := (hu 9 rfl).trans e9
              have hk := Lib.hid (fun w1 (h : Below ω.heap.size ω w1) => hK (.int .i64 1) w1 rfl h)
              clear hK hu hc
              go_simp
              exact hk.out _ (Below.refl _ _)
            · refine calmL_step rfl fun a ω κ hb hu hc hK => ?_
              have h13 : a.tmps[13]?.getD undef = .int .i64 1 := (hu 13 rfl).trans e13
              have hk := Lib.hid (fun w1 (h : Below ω.heap.size ω w1) => hK (.int .i64 1) w1 rfl h)
              clear hK hu hc
              go_simp
              exact hk.out _ (Below.refl _ _)
            · refine calmL_step rfl fun a ω κ hb hu hc hK => ?_
              have h129 : a.tmps[129]?.getD undef = .int .i64 1 := hc 0 129 rfl rfl
              have h130 : a.tmps[130]?.getD undef = .int .i64 1 := hc 1 130 rfl rfl
              have hk := Lib.hid (fun w1 (h : Below ω.heap.size ω w1) => hK (.bool false) w1 rfl h)
              clear hK hu hc
              go_simp
              exact hk.out _ (Below.refl _ _)
            · refine calmL_step rfl fun a ω κ hb hu hc hK => ?_
              have h131 : a.tmps[131]?.getD undef = .bool false := hc 2 131 rfl rfl
              have hk := Lib.hid (fun w1 (h : Below ω.heap.size ω w1) => hK (.bool false) w1 rfl h)
              clear hK hu hc
              go_simp
              exact hk.out _ (Below.refl _ _)
            · refine calmL_step_guard (g := 3) (b := false) (d := 132) rfl rfl (fun a w hc => hc 3 132 rfl rfl) fun a ω κ hb hu hc hK => ?_
              have h8 : a.tmps[8]?.getD undef = .pointer (some ⟨g, 0, none⟩) := (hu 8 rfl).trans e8
              have hk := Lib.hid (fun w1 (h : Below ω.heap.size ω w1) => hK (.pointer (some ⟨g, 0, none⟩)) w1 rfl h)
              clear hK hu hc
              go_simp
              exact hk.out _ (Below.refl _ _)
            · refine calmL_step_guard (g := 3) (b := false) (d := 132) rfl rfl (fun a w hc => hc 3 132 rfl rfl) fun a ω κ hb hu hc hK => ?_
              have h133 : a.tmps[133]?.getD undef = .pointer (some ⟨g, 0, none⟩) := hc 4 133 rfl rfl
              have hk := Lib.hid (fun w1 (h : Below ω.heap.size ω w1) => hK (.agg (lkA d n)) w1 rfl h)
              clear hK hu hc
              go_simp
              go_at_call 22
              refine (lk_Kept _ _ _ _ _ _ _ ω (hR.out.step hb).p.lk).mono ?_
              rintro e w1 ⟨rfl, hb1⟩
              exact hk.out _ hb1
            · refine calmL_step_guard (g := 3) (b := false) (d := 132) rfl rfl (fun a w hc => hc 3 132 rfl rfl) fun a ω κ hb hu hc hK => ?_
              have h10 : a.tmps[10]?.getD undef = .pointer (some ⟨nb, 0, none⟩) := (hu 10 rfl).trans e10
              have hk := Lib.hid (fun w1 (h : Below ω.heap.size ω w1) => hK (.agg (lkA d n)) w1 rfl h)
              clear hK hu hc
              have r1 := (hR.out.step hb).p.row
              have r2 := (hR.out.step hb).p.now
              go_simp
              exact hk.out _ (Below.refl _ _)
            · refine calmL_step_guard (g := 3) (b := false) (d := 132) rfl rfl (fun a w hc => hc 3 132 rfl rfl) fun a ω κ hb hu hc hK => ?_
              have h134 : a.tmps[134]?.getD undef = .agg (lkA d n) := hc 5 134 rfl rfl
              have h135 : a.tmps[135]?.getD undef = .agg (lkA d n) := hc 6 135 rfl rfl
              have hk := Lib.hid (fun w1 (h : Below ω.heap.size ω w1) => hK (.bool false) w1 rfl h)
              clear hK hu hc
              refine wp_neq guardLk (eval_tmp h134) (eval_tmp h135) (neqLk d n ω) ?_
              exact hk.out _ (Below.refl _ _)
            · refine calmL_step rfl fun a ω κ hb hu hc hK => ?_
              have h132 : a.tmps[132]?.getD undef = .bool false := hc 3 132 rfl rfl
              have h136 : a.tmps[136]?.getD undef = .bool false := hc 7 136 rfl rfl
              have hk := Lib.hid (fun w1 (h : Below ω.heap.size ω w1) => hK (.bool false) w1 rfl h)
              clear hK hu hc
              go_simp
              exact hk.out _ (Below.refl _ _)
            · refine calmL_step rfl fun a ω κ hb hu hc hK => ?_
              have h137 : a.tmps[137]?.getD undef = .bool false := hc 8 137 rfl rfl
              have hk := Lib.hid (fun w1 (h : Below ω.heap.size ω w1) => hK (.bool false) w1 rfl h)
              clear hK hu hc
              go_simp
              exact hk.out _ (Below.refl _ _)
            · refine calmL_step_guard (g := 9) (b := false) (d := 138) rfl rfl (fun a w hc => hc 9 138 rfl rfl) fun a ω κ hb hu hc hK => ?_
              have h8 : a.tmps[8]?.getD undef = .pointer (some ⟨g, 0, none⟩) := (hu 8 rfl).trans e8
              have hk := Lib.hid (fun w1 (h : Below ω.heap.size ω w1) => hK (.pointer (some ⟨g, 0, none⟩)) w1 rfl h)
              clear hK hu hc
              go_simp
              exact hk.out _ (Below.refl _ _)
            · refine calmL_step_guard (g := 9) (b := false) (d := 138) rfl rfl (fun a w hc => hc 9 138 rfl rfl) fun a ω κ hb hu hc hK => ?_
              have h139 : a.tmps[139]?.getD undef = .pointer (some ⟨g, 0, none⟩) := hc 10 139 rfl rfl
              have hk := Lib.hid (fun w1 (h : Below ω.heap.size ω w1) => hK (.int .i64 n) w1 rfl h)
              clear hK hu hc
              go_simp
              go_at_call 23
              refine (lk_Left _ _ _ _ _ _ _ ω (hR.out.step hb).p.lk).mono ?_
              rintro e w1 ⟨rfl, rfl⟩
              exact hk.out _ (Below.refl _ _)
            · refine calmL_step_guard (g := 9) (b := false) (d := 138) rfl rfl (fun a w hc => hc 9 138 rfl rfl) fun a ω κ hb hu hc hK => ?_
              have h10 : a.tmps[10]?.getD undef = .pointer (some ⟨nb, 0, none⟩) := (hu 10 rfl).trans e10
              have hk := Lib.hid (fun w1 (h : Below ω.heap.size ω w1) => hK (.pointer (some ⟨nb, 32, none⟩)) w1 rfl h)
              clear hK hu hc
              go_simp
              exact hk.out _ (Below.refl _ _)
            · refine calmL_step_guard (g := 9) (b := false) (d := 138) rfl rfl (fun a w hc => hc 9 138 rfl rfl) fun a ω κ hb hu hc hK => ?_
              have h141 : a.tmps[141]?.getD undef = .pointer (some ⟨nb, 32, none⟩) := hc 12 141 rfl rfl
              have hk := Lib.hid (fun w1 (h : Below ω.heap.size ω w1) => hK (.int .i64 n) w1 rfl h)
              clear hK hu hc
              have c1 : ω.cell? ⟨nb, 32, none⟩ = some (.int .i64 n) := (hR.out.step hb).p.c32
              go_simp
              exact hk.out _ (Below.refl _ _)
            · refine calmL_step_guard (g := 9) (b := false) (d := 138) rfl rfl (fun a w hc => hc 9 138 rfl rfl) fun a ω κ hb hu hc hK => ?_
              have h140 : a.tmps[140]?.getD undef = .int .i64 n := hc 11 140 rfl rfl
              have h142 : a.tmps[142]?.getD undef = .int .i64 n := hc 13 142 rfl rfl
              have hk := Lib.hid (fun w1 (h : Below ω.heap.size ω w1) => hK (.bool false) w1 rfl h)
              clear hK hu hc
              have q1 : ((n : Int) != n) = false := by simp
              go_simp
              exact hk.out _ (Below.refl _ _)
            · intro aa ω hb hu hsz hdf hc
              have h129 : aa.tmps[129]?.getD undef = .int .i64 1 := hc 0 129 (by decide) rfl
              have h130 : aa.tmps[130]?.getD undef = .int .i64 1 := hc 1 130 (by decide) rfl
              have h131 : aa.tmps[131]?.getD undef = .bool false := hc 2 131 (by decide) rfl
              have h132 : aa.tmps[132]?.getD undef = .bool false := hc 3 132 (by decide) rfl
              have h133 : aa.tmps[133]?.getD undef = .pointer (some ⟨g, 0, none⟩) := hc 4 133 (by decide) rfl
              have h134 : aa.tmps[134]?.getD undef = .agg (lkA d n) := hc 5 134 (by decide) rfl
              have h135 : aa.tmps[135]?.getD undef = .agg (lkA d n) := hc 6 135 (by decide) rfl
              have h136 : aa.tmps[136]?.getD undef = .bool false := hc 7 136 (by decide) rfl
              have h137 : aa.tmps[137]?.getD undef = .bool false := hc 8 137 (by decide) rfl
              have h138 : aa.tmps[138]?.getD undef = .bool false := hc 9 138 (by decide) rfl
              have h139 : aa.tmps[139]?.getD undef = .pointer (some ⟨g, 0, none⟩) := hc 10 139 (by decide) rfl
              have h140 : aa.tmps[140]?.getD undef = .int .i64 n := hc 11 140 (by decide) rfl
              have h141 : aa.tmps[141]?.getD undef = .pointer (some ⟨nb, 32, none⟩) := hc 12 141 (by decide) rfl
              have h142 : aa.tmps[142]?.getD undef = .int .i64 n := hc 13 142 (by decide) rfl
              have h143 : aa.tmps[143]?.getD undef = .bool false := hc 14 143 (by decide) rfl
              have ha0 := hha0.out
              subst ha0
              have he := act_patchL (n := 146) 15 [false, false, false, false, false, false, false, false, false, false, false, false, false, false, false, false, false, false, false, false, false, false, false, false, false, false, false, false, false, false, false, false, false, false, false, false, false, false, false, false, false, false, false, false, false, false, false, false, false, false, false, false, false, false, false, false, false, false, false, false, false, false, false, false, false, false, false, false, false, false, false, false, false, false, false, false, false, false, false, false, false, false, false, false, false, false, false, false, false, false, false, false, false, false, false, false, false, false, false, false, false, false, false, false, false, false, false, false, false, false, false, false, false, false, false, false, false, false, false, false, false, false, false, false, false, false, false, false, false, true, true, true, true, true, true, true, true, true, true, true, true, true, true, true, false, false] rfl (by kernel_rfl) hu hsz hdf
              simp only [patch, cond_true, cond_false, Nat.reduceAdd] at he
              clear hu hsz hdf hc hha0 e8 e9 e10 e13 hz0
              rw [he]
              clear he
              generalize aa.tmps[129]?.getD undef = x129 at *
              generalize aa.tmps[130]?.getD undef = x130 at *
              generalize aa.tmps[131]?.getD undef = x131 at *
              generalize aa.tmps[132]?.getD undef = x132 at *
              generalize aa.tmps[133]?.getD undef = x133 at *
              generalize aa.tmps[134]?.getD undef = x134 at *
              generalize aa.tmps[135]?.getD undef = x135 at *
              generalize aa.tmps[136]?.getD undef = x136 at *
              generalize aa.tmps[137]?.getD undef = x137 at *
              generalize aa.tmps[138]?.getD undef = x138 at *
              generalize aa.tmps[139]?.getD undef = x139 at *
              generalize aa.tmps[140]?.getD undef = x140 at *
              generalize aa.tmps[141]?.getD undef = x141 at *
              generalize aa.tmps[142]?.getD undef = x142 at *
              generalize aa.tmps[143]?.getD undef = x143 at *
              subst h129 h130 h131 h132 h133 h134 h135 h136 h137 h138 h139 h140 h141 h142 h143
              dsimp only [List.drop]
              have hR9 := Lib.hid (hR.out.step hb)
              clear hb hR
              go_wp2_with fail
              go_roundw
              case rel => exact ⟨i + 1, d, n, rfl, by omega, by omega, by omega, Lib.hid hR9.out.p⟩
              case measure => simp [intOf]; omega
          | true =>
            have hHr := Lib.hid hr
            clear hr
            have c0 : W2.cell? ⟨xb, 0, none⟩ = some (.int .i64 2) := hR.out.x.c0
            have c1 : W2.cell? ⟨xb, 1, none⟩ = some (.slice oA old.length oc) := hR.out.x.c1
            have c2 : W2.cell? ⟨xb, 2, none⟩ = some (.slice fA fresh.length fc) := hR.out.x.c2
            have cn : W2.cell? ⟨nb, 32, none⟩ = some (.int .i64 n) := hR.out.p.c32
            have fz : W2.frozen? ⟨nb, 32, none⟩ = false := hR.out.p.row.frozen 32
            have rn : Row W2 nb 33 := hR.out.p.row
            go_wp2_with fail
            refine (law_right fA fresh.length fc W2).mono ?_
            rintro e wx ⟨rfl, rfl⟩
            rw [hHr.out]
            clear c0 c1 c2 cn fz rn
            by_cases hnz : n = 0
            · subst hnz
              have c0 : W2.cell? ⟨xb, 0, none⟩ = some (.int .i64 2) := hR.out.x.c0
              have c1 : W2.cell? ⟨xb, 1, none⟩ = some (.slice oA old.length oc) := hR.out.x.c1
              have c2 : W2.cell? ⟨xb, 2, none⟩ = some (.slice fA fresh.length fc) := hR.out.x.c2
              have cn : W2.cell? ⟨nb, 32, none⟩ = some (.int .i64 0) := hR.out.p.c32
              have fz : W2.frozen? ⟨nb, 32, none⟩ = false := hR.out.p.row.frozen 32
              have rn : Row W2 nb 33 := hR.out.p.row
              have htc : tc = (11, 0) := hTc.out
              clear hTc hwn
              have c0 : W2.cell? ⟨xb, 0, none⟩ = some (.int .i64 2) := hR.out.x.c0
              have c1 : W2.cell? ⟨xb, 1, none⟩ = some (.slice oA old.length oc) := hR.out.x.c1
              have c2 : W2.cell? ⟨xb, 2, none⟩ = some (.slice fA fresh.length fc) := hR.out.x.c2
              have cn : W2.cell? ⟨nb, 32, none⟩ = some (.int .i64 0) := hR.out.p.c32
              have fz : W2.frozen? ⟨nb, 32, none⟩ = false := hR.out.p.row.frozen 32
              have rn : Row W2 nb 33 := hR.out.p.row
              go_wp2_with fail
              have hcon := hCh.out W2 hR.out.p.lk hHr.out
              rw [htc] at hcon
              dsimp only at hcon
              rw [if_neg (by decide), if_neg (by decide)] at hcon
              refine (hcon).mono ?_
              rintro e w7 ⟨rfl, hl7, hk7⟩
              have hR7 := Lib.hid (hR.out.act hl7 hk7)
              clear hl7 hk7 hcon c0 c1 c2 cn fz rn
              go_wp2_with fail
              generalize ha0 : Act.mk _ _ = a0
              have e8 : a0.tmps[8]?.getD undef = .pointer (some ⟨g, 0, none⟩) := by rw [← ha0]; rfl
              have e9 : a0.tmps[9]?.getD undef = .int .i64 11 := by rw [← ha0]; rfl
              have e10 : a0.tmps[10]?.getD undef = .pointer (some ⟨nb, 0, none⟩) := by rw [← ha0]; rfl
              have e13 : a0.tmps[13]?.getD undef = .int .i64 11 := by rw [← ha0]; rfl
              have hz0 : a0.tmps.size = 146 := by rw [← ha0]; rfl
              have hha0 := Lib.hid ha0
              clear ha0
              refine wp_region_tailL (fun jx_ => match jx_ with | 0 => SRel.is (.int .i64 11) | 1 => SRel.is (.int .i64 11) | 2 => SRel.is (.bool false) | 3 => SRel.is (.bool false) | 4 => SRel.is (.pointer (some ⟨g, 0, none⟩)) | 5 => SRel.is (.agg (lkA d 0)) | 6 => SRel.is (.agg (lkA d 0)) | 7 => SRel.is (.bool false) | 8 => SRel.is (.bool false) | 9 => SRel.is (.bool false) | 10 => SRel.is (.pointer (some ⟨g, 0, none⟩)) | 11 => SRel.is (.int .i64 0) | 12 => SRel.is (.pointer (some ⟨nb, 32, none⟩)) | 13 => SRel.is (.int .i64 0) | 14 => SRel.is (.bool false) | 15 => SRel.any | _ => SRel.any) 15 (by kernel_rfl) (by kernel_rfl) (by kernel_rfl) (slotsOk_of hz0 (by kernel_rfl)) (by kernel_rfl) (of_decide_eq_true (by kernel_rfl)) ⟨?_, ?_, ?_, ?_, ?_, ?_, ?_, ?_, ?_, ?_, ?_, ?_, ?_, ?_, ?_, trivial⟩ ?_
              · refine calmL_step rfl fun a ω κ hb hu hc hK => ?_
                have h9 : a.tmps[9]?.getD undef = .int .i64 11 := (hu 9 rfl).trans e9
                have hk := Lib.hid (fun w1 (h : Below ω.heap.size ω w1) => hK (.int .i64 11) w1 rfl h)
                clear hK hu hc
                go_simp
                exact hk.out _ (Below.refl _ _)
              · refine calmL_step rfl fun a ω κ hb hu hc hK => ?_
                have h13 : a.tmps[13]?.getD undef = .int .i64 11 := (hu 13 rfl).trans e13
                have hk := Lib.hid (fun w1 (h : Below ω.heap.size ω w1) => hK (.int .i64 11) w1 rfl h)
                clear hK hu hc
                go_simp
                exact hk.out _ (Below.refl _ _)
              · refine calmL_step rfl fun a ω κ hb hu hc hK => ?_
                have h129 : a.tmps[129]?.getD undef = .int .i64 11 := hc 0 129 rfl rfl
                have h130 : a.tmps[130]?.getD undef = .int .i64 11 := hc 1 130 rfl rfl
                have hk := Lib.hid (fun w1 (h : Below ω.heap.size ω w1) => hK (.bool false) w1 rfl h)
                clear hK hu hc
                go_simp
                exact hk.out _ (Below.refl _ _)
              · refine calmL_step rfl fun a ω κ hb hu hc hK => ?_
                have h131 : a.tmps[131]?.getD undef = .bool false := hc 2 131 rfl rfl
                have hk := Lib.hid (fun w1 (h : Below ω.heap.size ω w1) => hK (.bool false) w1 rfl h)
                clear hK hu hc
                go_simp
                exact hk.out _ (Below.refl _ _)
              · refine calmL_step_guard (g := 3) (b := false) (d := 132) rfl rfl (fun a w hc => hc 3 132 rfl rfl) fun a ω κ hb hu hc hK => ?_
                have h8 : a.tmps[8]?.getD undef = .pointer (some ⟨g, 0, none⟩) := (hu 8 rfl).trans e8
                have hk := Lib.hid (fun w1 (h : Below ω.heap.size ω w1) => hK (.pointer (some ⟨g, 0, none⟩)) w1 rfl h)
                clear hK hu hc
                go_simp
                exact hk.out _ (Below.refl _ _)
              · refine calmL_step_guard (g := 3) (b := false) (d := 132) rfl rfl (fun a w hc => hc 3 132 rfl rfl) fun a ω κ hb hu hc hK => ?_
                have h133 : a.tmps[133]?.getD undef = .pointer (some ⟨g, 0, none⟩) := hc 4 133 rfl rfl
                have hk := Lib.hid (fun w1 (h : Below ω.heap.size ω w1) => hK (.agg (lkA d 0)) w1 rfl h)
                clear hK hu hc
                go_simp
                go_at_call 22
                refine (lk_Kept _ _ _ _ _ _ _ ω (hR7.out.step hb).p.lk).mono ?_
                rintro e w1 ⟨rfl, hb1⟩
                exact hk.out _ hb1
              · refine calmL_step_guard (g := 3) (b := false) (d := 132) rfl rfl (fun a w hc => hc 3 132 rfl rfl) fun a ω κ hb hu hc hK => ?_
                have h10 : a.tmps[10]?.getD undef = .pointer (some ⟨nb, 0, none⟩) := (hu 10 rfl).trans e10
                have hk := Lib.hid (fun w1 (h : Below ω.heap.size ω w1) => hK (.agg (lkA d 0)) w1 rfl h)
                clear hK hu hc
                have r1 := (hR7.out.step hb).p.row
                have r2 := (hR7.out.step hb).p.now
                go_simp
                exact hk.out _ (Below.refl _ _)
              · refine calmL_step_guard (g := 3) (b := false) (d := 132) rfl rfl (fun a w hc => hc 3 132 rfl rfl) fun a ω κ hb hu hc hK => ?_
                have h134 : a.tmps[134]?.getD undef = .agg (lkA d 0) := hc 5 134 rfl rfl
                have h135 : a.tmps[135]?.getD undef = .agg (lkA d 0) := hc 6 135 rfl rfl
                have hk := Lib.hid (fun w1 (h : Below ω.heap.size ω w1) => hK (.bool false) w1 rfl h)
                clear hK hu hc
                refine wp_neq guardLk (eval_tmp h134) (eval_tmp h135) (neqLk d 0 ω) ?_
                exact hk.out _ (Below.refl _ _)
              · refine calmL_step rfl fun a ω κ hb hu hc hK => ?_
                have h132 : a.tmps[132]?.getD undef = .bool false := hc 3 132 rfl rfl
                have h136 : a.tmps[136]?.getD undef = .bool false := hc 7 136 rfl rfl
                have hk := Lib.hid (fun w1 (h : Below ω.heap.size ω w1) => hK (.bool false) w1 rfl h)
                clear hK hu hc
                go_simp
                exact hk.out _ (Below.refl _ _)
              · refine calmL_step rfl fun a ω κ hb hu hc hK => ?_
                have h137 : a.tmps[137]?.getD undef = .bool false := hc 8 137 rfl rfl
                have hk := Lib.hid (fun w1 (h : Below ω.heap.size ω w1) => hK (.bool false) w1 rfl h)
                clear hK hu hc
                go_simp
                exact hk.out _ (Below.refl _ _)
              · refine calmL_step_guard (g := 9) (b := false) (d := 138) rfl rfl (fun a w hc => hc 9 138 rfl rfl) fun a ω κ hb hu hc hK => ?_
                have h8 : a.tmps[8]?.getD undef = .pointer (some ⟨g, 0, none⟩) := (hu 8 rfl).trans e8
                have hk := Lib.hid (fun w1 (h : Below ω.heap.size ω w1) => hK (.pointer (some ⟨g, 0, none⟩)) w1 rfl h)
                clear hK hu hc
                go_simp
                exact hk.out _ (Below.refl _ _)
              · refine calmL_step_guard (g := 9) (b := false) (d := 138) rfl rfl (fun a w hc => hc 9 138 rfl rfl) fun a ω κ hb hu hc hK => ?_
                have h139 : a.tmps[139]?.getD undef = .pointer (some ⟨g, 0, none⟩) := hc 10 139 rfl rfl
                have hk := Lib.hid (fun w1 (h : Below ω.heap.size ω w1) => hK (.int .i64 0) w1 rfl h)
                clear hK hu hc
                go_simp
                go_at_call 23
                refine (lk_Left _ _ _ _ _ _ _ ω (hR7.out.step hb).p.lk).mono ?_
                rintro e w1 ⟨rfl, rfl⟩
                exact hk.out _ (Below.refl _ _)
              · refine calmL_step_guard (g := 9) (b := false) (d := 138) rfl rfl (fun a w hc => hc 9 138 rfl rfl) fun a ω κ hb hu hc hK => ?_
                have h10 : a.tmps[10]?.getD undef = .pointer (some ⟨nb, 0, none⟩) := (hu 10 rfl).trans e10
                have hk := Lib.hid (fun w1 (h : Below ω.heap.size ω w1) => hK (.pointer (some ⟨nb, 32, none⟩)) w1 rfl h)
                clear hK hu hc
                go_simp
                exact hk.out _ (Below.refl _ _)
              · refine calmL_step_guard (g := 9) (b := false) (d := 138) rfl rfl (fun a w hc => hc 9 138 rfl rfl) fun a ω κ hb hu hc hK => ?_
                have h141 : a.tmps[141]?.getD undef = .pointer (some ⟨nb, 32, none⟩) := hc 12 141 rfl rfl
                have hk := Lib.hid (fun w1 (h : Below ω.heap.size ω w1) => hK (.int .i64 0) w1 rfl h)
                clear hK hu hc
                have c1 : ω.cell? ⟨nb, 32, none⟩ = some (.int .i64 0) := (hR7.out.step hb).p.c32
                go_simp
                exact hk.out _ (Below.refl _ _)
              · refine calmL_step_guard (g := 9) (b := false) (d := 138) rfl rfl (fun a w hc => hc 9 138 rfl rfl) fun a ω κ hb hu hc hK => ?_
                have h140 : a.tmps[140]?.getD undef = .int .i64 0 := hc 11 140 rfl rfl
                have h142 : a.tmps[142]?.getD undef = .int .i64 0 := hc 13 142 rfl rfl
                have hk := Lib.hid (fun w1 (h : Below ω.heap.size ω w1) => hK (.bool false) w1 rfl h)
                clear hK hu hc
                go_simp
                exact hk.out _ (Below.refl _ _)
              · intro aa ω hb hu hsz hdf hc
                have h129 : aa.tmps[129]?.getD undef = .int .i64 11 := hc 0 129 (by decide) rfl
                have h130 : aa.tmps[130]?.getD undef = .int .i64 11 := hc 1 130 (by decide) rfl
                have h131 : aa.tmps[131]?.getD undef = .bool false := hc 2 131 (by decide) rfl
                have h132 : aa.tmps[132]?.getD undef = .bool false := hc 3 132 (by decide) rfl
                have h133 : aa.tmps[133]?.getD undef = .pointer (some ⟨g, 0, none⟩) := hc 4 133 (by decide) rfl
                have h134 : aa.tmps[134]?.getD undef = .agg (lkA d 0) := hc 5 134 (by decide) rfl
                have h135 : aa.tmps[135]?.getD undef = .agg (lkA d 0) := hc 6 135 (by decide) rfl
                have h136 : aa.tmps[136]?.getD undef = .bool false := hc 7 136 (by decide) rfl
                have h137 : aa.tmps[137]?.getD undef = .bool false := hc 8 137 (by decide) rfl
                have h138 : aa.tmps[138]?.getD undef = .bool false := hc 9 138 (by decide) rfl
                have h139 : aa.tmps[139]?.getD undef = .pointer (some ⟨g, 0, none⟩) := hc 10 139 (by decide) rfl
                have h140 : aa.tmps[140]?.getD undef = .int .i64 0 := hc 11 140 (by decide) rfl
                have h141 : aa.tmps[141]?.getD undef = .pointer (some ⟨nb, 32, none⟩) := hc 12 141 (by decide) rfl
                have h142 : aa.tmps[142]?.getD undef = .int .i64 0 := hc 13 142 (by decide) rfl
                have h143 : aa.tmps[143]?.getD undef = .bool false := hc 14 143 (by decide) rfl
                have ha0 := hha0.out
                subst ha0
                have he := act_patchL (n := 146) 15 [false, false, false, false, false, false, false, false, false, false, false, false, false, false, false, false, false, false, false, false, false, false, false, false, false, false, false, false, false, false, false, false, false, false, false, false, false, false, false, false, false, false, false, false, false, false, false, false, false, false, false, false, false, false, false, false, false, false, false, false, false, false, false, false, false, false, false, false, false, false, false, false, false, false, false, false, false, false, false, false, false, false, false, false, false, false, false, false, false, false, false, false, false, false, false, false, false, false, false, false, false, false, false, false, false, false, false, false, false, false, false, false, false, false, false, false, false, false, false, false, false, false, false, false, false, false, false, false, false, true, true, true, true, true, true, true, true, true, true, true, true, true, true, true, false, false] rfl (by kernel_rfl) hu hsz hdf
                simp only [patch, cond_true, cond_false, Nat.reduceAdd] at he
                clear hu hsz hdf hc hha0 e8 e9 e10 e13 hz0
                rw [he]
                clear he
                generalize aa.tmps[129]?.getD undef = x129 at *
                generalize aa.tmps[130]?.getD undef = x130 at *
                generalize aa.tmps[131]?.getD undef = x131 at *
                generalize aa.tmps[132]?.getD undef = x132 at *
                generalize aa.tmps[133]?.getD undef = x133 at *
                generalize aa.tmps[134]?.getD undef = x134 at *
                generalize aa.tmps[135]?.getD undef = x135 at *
                generalize aa.tmps[136]?.getD undef = x136 at *
                generalize aa.tmps[137]?.getD undef = x137 at *
                generalize aa.tmps[138]?.getD undef = x138 at *
                generalize aa.tmps[139]?.getD undef = x139 at *
                generalize aa.tmps[140]?.getD undef = x140 at *
                generalize aa.tmps[141]?.getD undef = x141 at *
                generalize aa.tmps[142]?.getD undef = x142 at *
                generalize aa.tmps[143]?.getD undef = x143 at *
                subst h129 h130 h131 h132 h133 h134 h135 h136 h137 h138 h139 h140 h141 h142 h143
                dsimp only [List.drop]
                have hR9 := Lib.hid (hR7.out.step hb)
                clear hb hR7
                go_wp2_with fail
                go_roundw
                case rel => exact ⟨i + 1, d, 0, rfl, by omega, by omega, by omega, Lib.hid hR9.out.p⟩
                case measure => simp [intOf]; omega
            · have hb0 : (n == 0) = false := by simpa using hnz
              have c0 : W2.cell? ⟨xb, 0, none⟩ = some (.int .i64 2) := hR.out.x.c0
              have c1 : W2.cell? ⟨xb, 1, none⟩ = some (.slice oA old.length oc) := hR.out.x.c1
              have c2 : W2.cell? ⟨xb, 2, none⟩ = some (.slice fA fresh.length fc) := hR.out.x.c2
              have cn : W2.cell? ⟨nb, 32, none⟩ = some (.int .i64 n) := hR.out.p.c32
              have fz : W2.frozen? ⟨nb, 32, none⟩ = false := hR.out.p.row.frozen 32
              have rn : Row W2 nb 33 := hR.out.p.row
              go_wp2_with fail
              clear c0 c1 c2 cn fz rn
              generalize ha0 : Act.mk _ _ = a0
              have e0 : a0.tmps[0]?.getD undef = .slice S sn cs := by rw [← ha0]; rfl
              have e10 : a0.tmps[10]?.getD undef = .pointer (some ⟨nb, 0, none⟩) := by rw [← ha0]; rfl
              have e12 : a0.tmps[12]?.getD undef = .pointer (some ⟨xb, 0, none⟩) := by rw [← ha0]; rfl
              have hz0 : a0.tmps.size = 146 := by rw [← ha0]; rfl
              have hha0 := Lib.hid ha0
              clear ha0
              refine wp_region_tailL (fun jx_ => match jx_ with | 0 => SRel.is (.slice S sn cs) | 1 => SRel.is (strV salt) | 2 => SRel.is (.pointer (some ⟨xb, 1, none⟩)) | 3 => SRel.is (.slice oA old.length oc) | 4 => SRel.is (strV old) | 5 => SRel.is (.agg (dgA xo)) | 6 => SRel.is (.pointer (some ⟨nb, 0, none⟩)) | 7 => SRel.is (.agg (dgA d)) | 8 => SRel.any | 9 => SRel.any | _ => SRel.any) 8 (by kernel_rfl) (by kernel_rfl) (by kernel_rfl) (slotsOk_of hz0 (by kernel_rfl)) (by kernel_rfl) (of_decide_eq_true (by kernel_rfl)) ⟨?_, ?_, ?_, ?_, ?_, ?_, ?_, ?_, trivial⟩ ?_
              · refine calmL_step rfl fun a ω κ hb hu hc hK => ?_
                have h0 : a.tmps[0]?.getD undef = .slice S sn cs := (hu 0 rfl).trans e0
                have hk := Lib.hid (fun w1 (h : Below ω.heap.size ω w1) => hK (.slice S sn cs) w1 rfl h)
                clear hK hu hc
                go_simp
                exact hk.out _ (Below.refl _ _)
              · refine calmL_step rfl fun a ω κ hb hu hc hK => ?_
                have h79 : a.tmps[79]?.getD undef = .slice S sn cs := hc 0 79 rfl rfl
                have hk := Lib.hid (fun w1 (h : Below ω.heap.size ω w1) => hK (strV salt) w1 rfl h)
                clear hK hu hc
                have q1 := hCs.out ω (hR.out.step hb).p.lk.bel
                go_simp
                exact hk.out _ (Below.refl _ _)
              · refine calmL_step rfl fun a ω κ hb hu hc hK => ?_
                have h12 : a.tmps[12]?.getD undef = .pointer (some ⟨xb, 0, none⟩) := (hu 12 rfl).trans e12
                have hk := Lib.hid (fun w1 (h : Below ω.heap.size ω w1) => hK (.pointer (some ⟨xb, 1, none⟩)) w1 rfl h)
                clear hK hu hc
                go_simp
                exact hk.out _ (Below.refl _ _)
              · refine calmL_step rfl fun a ω κ hb hu hc hK => ?_
                have h81 : a.tmps[81]?.getD undef = .pointer (some ⟨xb, 1, none⟩) := hc 2 81 rfl rfl
                have hk := Lib.hid (fun w1 (h : Below ω.heap.size ω w1) => hK (.slice oA old.length oc) w1 rfl h)
                clear hK hu hc
                have c1 : ω.cell? ⟨xb, 1, none⟩ = some (.slice oA old.length oc) := (hR.out.step hb).x.c1
                go_simp
                exact hk.out _ (Below.refl _ _)
              · refine calmL_step rfl fun a ω κ hb hu hc hK => ?_
                have h82 : a.tmps[82]?.getD undef = .slice oA old.length oc := hc 3 82 rfl rfl
                have hk := Lib.hid (fun w1 (h : Below ω.heap.size ω w1) => hK (strV old) w1 rfl h)
                clear hK hu hc
                have q1 := hCo.out ω (hR.out.step hb).p.lk.bel
                go_simp
                exact hk.out _ (Below.refl _ _)
              · refine calmL_step rfl fun a ω κ hb hu hc hK => ?_
                have h80 : a.tmps[80]?.getD undef = strV salt := hc 1 80 rfl rfl
                have h83 : a.tmps[83]?.getD undef = strV old := hc 4 83 rfl rfl
                have hk := Lib.hid (fun w1 (h : Below ω.heap.size ω w1) => hK (.agg (dgA xo)) w1 rfl h)
                clear hK hu hc
                go_simp
                go_at_call 24
                refine (hSo.out ω (hR.out.step hb).p.lk.bel).mono ?_
                rintro e w1 ⟨rfl, hb1⟩
                exact hk.out _ hb1
              · refine calmL_step rfl fun a ω κ hb hu hc hK => ?_
                have h10 : a.tmps[10]?.getD undef = .pointer (some ⟨nb, 0, none⟩) := (hu 10 rfl).trans e10
                have hk := Lib.hid (fun w1 (h : Below ω.heap.size ω w1) => hK (.pointer (some ⟨nb, 0, none⟩)) w1 rfl h)
                clear hK hu hc
                go_simp
                exact hk.out _ (Below.refl _ _)
              · refine calmL_step rfl fun a ω κ hb hu hc hK => ?_
                have h85 : a.tmps[85]?.getD undef = .pointer (some ⟨nb, 0, none⟩) := hc 6 85 rfl rfl
                have hk := Lib.hid (fun w1 (h : Below ω.heap.size ω w1) => hK (.agg (dgA d)) w1 rfl h)
                clear hK hu hc
                have r1 := (hR.out.step hb).p.row
                have r2 := (hR.out.step hb).p.now
                have hp := lkA_pop d n
                go_simp
                exact hk.out _ (Below.refl _ _)
              · intro aa ω hb hu hsz hdf hc
                have h79 : aa.tmps[79]?.getD undef = .slice S sn cs := hc 0 79 (by decide) rfl
                have h80 : aa.tmps[80]?.getD undef = strV salt := hc 1 80 (by decide) rfl
                have h81 : aa.tmps[81]?.getD undef = .pointer (some ⟨xb, 1, none⟩) := hc 2 81 (by decide) rfl
                have h82 : aa.tmps[82]?.getD undef = .slice oA old.length oc := hc 3 82 (by decide) rfl
                have h83 : aa.tmps[83]?.getD undef = strV old := hc 4 83 (by decide) rfl
                have h84 : aa.tmps[84]?.getD undef = .agg (dgA xo) := hc 5 84 (by decide) rfl
                have h85 : aa.tmps[85]?.getD undef = .pointer (some ⟨nb, 0, none⟩) := hc 6 85 (by decide) rfl
                have h86 : aa.tmps[86]?.getD undef = .agg (dgA d) := hc 7 86 (by decide) rfl
                have ha0 := hha0.out
                subst ha0
                have he := act_patchL (n := 146) 8 [false, false, false, false, false, false, false, false, false, false, false, false, false, false, false, false, false, false, false, false, false, false, false, false, false, false, false, false, false, false, false, false, false, false, false, false, false, false, false, false, false, false, false, false, false, false, false, false, false, false, false, false, false, false, false, false, false, false, false, false, false, false, false, false, false, false, false, false, false, false, false, false, false, false, false, false, false, false, false, true, true, true, true, true, true, true, true, false, false, false, false, false, false, false, false, false, false, false, false, false, false, false, false, false, false, false, false, false, false, false, false, false, false, false, false, false, false, false, false, false, false, false, false, false, false, false, false, false, false, false, false, false, false, false, false, false, false, false, false, false, false, false, false, false, false, false] rfl (by kernel_rfl) hu hsz hdf
                simp only [patch, cond_true, cond_false, Nat.reduceAdd] at he
                clear hu hsz hdf hc hha0 e0 e10 e12 hz0
                rw [he]
                clear he
                generalize aa.tmps[79]?.getD undef = x79 at *
                generalize aa.tmps[80]?.getD undef = x80 at *
                generalize aa.tmps[81]?.getD undef = x81 at *
                generalize aa.tmps[82]?.getD undef = x82 at *
                generalize aa.tmps[83]?.getD undef = x83 at *
                generalize aa.tmps[84]?.getD undef = x84 at *
                generalize aa.tmps[85]?.getD undef = x85 at *
                generalize aa.tmps[86]?.getD undef = x86 at *
                subst h79 h80 h81 h82 h83 h84 h85 h86
                dsimp only [List.drop]
                have hR3 := Lib.hid (hR.out.step hb)
                have q1 := hEqo.out ω
                clear hb hR
                by_cases hxd : xo = d
                · rw [decide_eq_true hxd, Bool.not_true] at q1
                  refine wpList_neq guard32 rfl rfl q1 ?_
                  have htc : tc = (0, 3) := by rw [hTc.out, if_neg hnz, if_pos hxd]
                  clear q1 hxd hTc hnz
                  have c0 : ω.cell? ⟨xb, 0, none⟩ = some (.int .i64 2) := hR3.out.x.c0
                  have c1 : ω.cell? ⟨xb, 1, none⟩ = some (.slice oA old.length oc) := hR3.out.x.c1
                  have c2 : ω.cell? ⟨xb, 2, none⟩ = some (.slice fA fresh.length fc) := hR3.out.x.c2
                  have cn : ω.cell? ⟨nb, 32, none⟩ = some (.int .i64 n) := hR3.out.p.c32
                  have fz : ω.frozen? ⟨nb, 32, none⟩ = false := hR3.out.p.row.frozen 32
                  have rn : Row ω nb 33 := hR3.out.p.row
                  go_upto_region 25 with (fail)
                  have hR4 := Lib.hid (hR3.out.left 3)
                  clear c0 c1 c2 cn fz rn
                  generalize ω.setCell ⟨nb, 32, none⟩ (.int .i64 3) = W4 at *
                  clear hR3
                  have c0 : W4.cell? ⟨xb, 0, none⟩ = some (.int .i64 2) := hR4.out.x.c0
                  have c1 : W4.cell? ⟨xb, 1, none⟩ = some (.slice oA old.length oc) := hR4.out.x.c1
                  have c2 : W4.cell? ⟨xb, 2, none⟩ = some (.slice fA fresh.length fc) := hR4.out.x.c2
                  have cn : W4.cell? ⟨nb, 32, none⟩ = some (.int .i64 3) := hR4.out.p.c32
                  have fz : W4.frozen? ⟨nb, 32, none⟩ = false := hR4.out.p.row.frozen 32
                  have rn : Row W4 nb 33 := hR4.out.p.row
                  have q1 := hCs.out W4 hR4.out.p.lk.bel
                  have q2 := hCf.out W4 hR4.out.p.lk.bel
                  go_wp2_with fail
                  refine (hSf.out W4 hR4.out.p.lk.bel).mono ?_
                  rintro e w5 ⟨rfl, hb5⟩
                  have hR5 := Lib.hid (hR4.out.step hb5)
                  clear q1 q2 c0 c1 c2 cn fz rn hb5
                  have rn : Row w5 nb 33 := hR5.out.p.row
                  have hcl5 := lkA_cells xf 3
                  go_upto_region 27 with (refine wpList_bld2 (vx := .agg (dgA xf)) (vy := .int .i64 3) rfl rfl rfl rfl (build_lk xf 3 _) ?_)
                  have hR6 := Lib.hid (hR5.out.put xf 3 hfl)
                  clear rn hcl5
                  generalize w5.setRow nb (lkA xf 3) = W6 at *
                  clear hR5
                  have c0 : W6.cell? ⟨xb, 0, none⟩ = some (.int .i64 2) := hR6.out.x.c0
                  have c1 : W6.cell? ⟨xb, 1, none⟩ = some (.slice oA old.length oc) := hR6.out.x.c1
                  have c2 : W6.cell? ⟨xb, 2, none⟩ = some (.slice fA fresh.length fc) := hR6.out.x.c2
                  have cn : W6.cell? ⟨nb, 32, none⟩ = some (.int .i64 3) := hR6.out.p.c32
                  have fz : W6.frozen? ⟨nb, 32, none⟩ = false := hR6.out.p.row.frozen 32
                  have rn : Row W6 nb 33 := hR6.out.p.row
                  go_wp2_with fail
                  have hcon := hCh.out W6 hR6.out.p.lk hHr.out
                  rw [htc] at hcon
                  dsimp only at hcon
                  rw [if_pos rfl, if_pos rfl] at hcon
                  refine (hcon).mono ?_
                  rintro e w7 ⟨rfl, hl7, hk7⟩
                  have hR7 := Lib.hid (hR6.out.act hl7 hk7)
                  clear hl7 hk7 hcon c0 c1 c2 cn fz rn
                  go_wp2_with fail
                  generalize ha0 : Act.mk _ _ = a0
                  have e8 : a0.tmps[8]?.getD undef = .pointer (some ⟨g, 0, none⟩) := by rw [← ha0]; rfl
                  have e9 : a0.tmps[9]?.getD undef = .int .i64 0 := by rw [← ha0]; rfl
                  have e10 : a0.tmps[10]?.getD undef = .pointer (some ⟨nb, 0, none⟩) := by rw [← ha0]; rfl
                  have e13 : a0.tmps[13]?.getD undef = .int .i64 0 := by rw [← ha0]; rfl
                  have hz0 : a0.tmps.size = 146 := by rw [← ha0]; rfl
                  have hha0 := Lib.hid ha0
                  clear ha0
                  refine wp_region_tailL (fun jx_ => match jx_ with | 0 => SRel.is (.int .i64 0) | 1 => SRel.is (.int .i64 0) | 2 => SRel.is (.bool false) | 3 => SRel.is (.bool false) | 4 => SRel.is (.pointer (some ⟨g, 0, none⟩)) | 5 => SRel.is (.agg (lkA xf 3)) | 6 => SRel.is (.agg (lkA xf 3)) | 7 => SRel.is (.bool false) | 8 => SRel.is (.bool false) | 9 => SRel.is (.bool false) | 10 => SRel.is (.pointer (some ⟨g, 0, none⟩)) | 11 => SRel.is (.int .i64 3) | 12 => SRel.is (.pointer (some ⟨nb, 32, none⟩)) | 13 => SRel.is (.int .i64 3) | 14 => SRel.is (.bool false) | 15 => SRel.any | _ => SRel.any) 15 (by kernel_rfl) (by kernel_rfl) (by kernel_rfl) (slotsOk_of hz0 (by kernel_rfl)) (by kernel_rfl) (of_decide_eq_true (by kernel_rfl)) ⟨?_, ?_, ?_, ?_, ?_, ?_, ?_, ?_, ?_, ?_, ?_, ?_, ?_, ?_, ?_, trivial⟩ ?_
                  · refine calmL_step rfl fun a ω κ hb hu hc hK => ?_
                    have h9 : a.tmps[9]?.getD undef = .int .i64 0 := (hu 9 rfl).trans e9
                    have hk := Lib.hid (fun w1 (h : Below ω.heap.size ω w1) => hK (.int .i64 0) w1 rfl h)
                    clear hK hu hc
                    go_simp
                    exact hk.out _ (Below.refl _ _)
                  · refine calmL_step rfl fun a ω κ hb hu hc hK => ?_
                    have h13 : a.tmps[13]?.getD undef = .int .i64 0 := (hu 13 rfl).trans e13
                    have hk := Lib.hid (fun w1 (h : Below ω.heap.size ω w1) => hK (.int .i64 0) w1 rfl h)
                    clear hK hu hc
                    go_simp
                    exact hk.out _ (Below.refl _ _)
                  · refine calmL_step rfl fun a ω κ hb hu hc hK => ?_
                    have h129 : a.tmps[129]?.getD undef = .int .i64 0 := hc 0 129 rfl rfl
                    have h130 : a.tmps[130]?.getD undef = .int .i64 0 := hc 1 130 rfl rfl
                    have hk := Lib.hid (fun w1 (h : Below ω.heap.size ω w1) => hK (.bool false) w1 rfl h)
                    clear hK hu hc
                    go_simp
                    exact hk.out _ (Below.refl _ _)
                  · refine calmL_step rfl fun a ω κ hb hu hc hK => ?_
                    have h131 : a.tmps[131]?.getD undef = .bool false := hc 2 131 rfl rfl
                    have hk := Lib.hid (fun w1 (h : Below ω.heap.size ω w1) => hK (.bool false) w1 rfl h)
                    clear hK hu hc
                    go_simp
                    exact hk.out _ (Below.refl _ _)
                  · refine calmL_step_guard (g := 3) (b := false) (d := 132) rfl rfl (fun a w hc => hc 3 132 rfl rfl) fun a ω κ hb hu hc hK => ?_
                    have h8 : a.tmps[8]?.getD undef = .pointer (some ⟨g, 0, none⟩) := (hu 8 rfl).trans e8
                    have hk := Lib.hid (fun w1 (h : Below ω.heap.size ω w1) => hK (.pointer (some ⟨g, 0, none⟩)) w1 rfl h)
                    clear hK hu hc
                    go_simp
                    exact hk.out _ (Below.refl _ _)
                  · refine calmL_step_guard (g := 3) (b := false) (d := 132) rfl rfl (fun a w hc => hc 3 132 rfl rfl) fun a ω κ hb hu hc hK => ?_
                    have h133 : a.tmps[133]?.getD undef = .pointer (some ⟨g, 0, none⟩) := hc 4 133 rfl rfl
                    have hk := Lib.hid (fun w1 (h : Below ω.heap.size ω w1) => hK (.agg (lkA xf 3)) w1 rfl h)
                    clear hK hu hc
                    go_simp
                    go_at_call 22
                    refine (lk_Kept _ _ _ _ _ _ _ ω (hR7.out.step hb).p.lk).mono ?_
                    rintro e w1 ⟨rfl, hb1⟩
                    exact hk.out _ hb1
                  · refine calmL_step_guard (g := 3) (b := false) (d := 132) rfl rfl (fun a w hc => hc 3 132 rfl rfl) fun a ω κ hb hu hc hK => ?_
                    have h10 : a.tmps[10]?.getD undef = .pointer (some ⟨nb, 0, none⟩) := (hu 10 rfl).trans e10
                    have hk := Lib.hid (fun w1 (h : Below ω.heap.size ω w1) => hK (.agg (lkA xf 3)) w1 rfl h)
                    clear hK hu hc
                    have r1 := (hR7.out.step hb).p.row
                    have r2 := (hR7.out.step hb).p.now
                    go_simp
                    exact hk.out _ (Below.refl _ _)
                  · refine calmL_step_guard (g := 3) (b := false) (d := 132) rfl rfl (fun a w hc => hc 3 132 rfl rfl) fun a ω κ hb hu hc hK => ?_
                    have h134 : a.tmps[134]?.getD undef = .agg (lkA xf 3) := hc 5 134 rfl rfl
                    have h135 : a.tmps[135]?.getD undef = .agg (lkA xf 3) := hc 6 135 rfl rfl
                    have hk := Lib.hid (fun w1 (h : Below ω.heap.size ω w1) => hK (.bool false) w1 rfl h)
                    clear hK hu hc
                    refine wp_neq guardLk (eval_tmp h134) (eval_tmp h135) (neqLk xf 3 ω) ?_
                    exact hk.out _ (Below.refl _ _)
                  · refine calmL_step rfl fun a ω κ hb hu hc hK => ?_
                    have h132 : a.tmps[132]?.getD undef = .bool false := hc 3 132 rfl rfl
                    have h136 : a.tmps[136]?.getD undef = .bool false := hc 7 136 rfl rfl
                    have hk := Lib.hid (fun w1 (h : Below ω.heap.size ω w1) => hK (.bool false) w1 rfl h)
                    clear hK hu hc
                    go_simp
                    exact hk.out _ (Below.refl _ _)
                  · refine calmL_step rfl fun a ω κ hb hu hc hK => ?_
                    have h137 : a.tmps[137]?.getD undef = .bool false := hc 8 137 rfl rfl
                    have hk := Lib.hid (fun w1 (h : Below ω.heap.size ω w1) => hK (.bool false) w1 rfl h)
                    clear hK hu hc
                    go_simp
                    exact hk.out _ (Below.refl _ _)
                  · refine calmL_step_guard (g := 9) (b := false) (d := 138) rfl rfl (fun a w hc => hc 9 138 rfl rfl) fun a ω κ hb hu hc hK => ?_
                    have h8 : a.tmps[8]?.getD undef = .pointer (some ⟨g, 0, none⟩) := (hu 8 rfl).trans e8
                    have hk := Lib.hid (fun w1 (h : Below ω.heap.size ω w1) => hK (.pointer (some ⟨g, 0, none⟩)) w1 rfl h)
                    clear hK hu hc
                    go_simp
                    exact hk.out _ (Below.refl _ _)
                  · refine calmL_step_guard (g := 9) (b := false) (d := 138) rfl rfl (fun a w hc => hc 9 138 rfl rfl) fun a ω κ hb hu hc hK => ?_
                    have h139 : a.tmps[139]?.getD undef = .pointer (some ⟨g, 0, none⟩) := hc 10 139 rfl rfl
                    have hk := Lib.hid (fun w1 (h : Below ω.heap.size ω w1) => hK (.int .i64 3) w1 rfl h)
                    clear hK hu hc
                    go_simp
                    go_at_call 23
                    refine (lk_Left _ _ _ _ _ _ _ ω (hR7.out.step hb).p.lk).mono ?_
                    rintro e w1 ⟨rfl, rfl⟩
                    exact hk.out _ (Below.refl _ _)
                  · refine calmL_step_guard (g := 9) (b := false) (d := 138) rfl rfl (fun a w hc => hc 9 138 rfl rfl) fun a ω κ hb hu hc hK => ?_
                    have h10 : a.tmps[10]?.getD undef = .pointer (some ⟨nb, 0, none⟩) := (hu 10 rfl).trans e10
                    have hk := Lib.hid (fun w1 (h : Below ω.heap.size ω w1) => hK (.pointer (some ⟨nb, 32, none⟩)) w1 rfl h)
                    clear hK hu hc
                    go_simp
                    exact hk.out _ (Below.refl _ _)
                  · refine calmL_step_guard (g := 9) (b := false) (d := 138) rfl rfl (fun a w hc => hc 9 138 rfl rfl) fun a ω κ hb hu hc hK => ?_
                    have h141 : a.tmps[141]?.getD undef = .pointer (some ⟨nb, 32, none⟩) := hc 12 141 rfl rfl
                    have hk := Lib.hid (fun w1 (h : Below ω.heap.size ω w1) => hK (.int .i64 3) w1 rfl h)
                    clear hK hu hc
                    have c1 : ω.cell? ⟨nb, 32, none⟩ = some (.int .i64 3) := (hR7.out.step hb).p.c32
                    go_simp
                    exact hk.out _ (Below.refl _ _)
                  · refine calmL_step_guard (g := 9) (b := false) (d := 138) rfl rfl (fun a w hc => hc 9 138 rfl rfl) fun a ω κ hb hu hc hK => ?_
                    have h140 : a.tmps[140]?.getD undef = .int .i64 3 := hc 11 140 rfl rfl
                    have h142 : a.tmps[142]?.getD undef = .int .i64 3 := hc 13 142 rfl rfl
                    have hk := Lib.hid (fun w1 (h : Below ω.heap.size ω w1) => hK (.bool false) w1 rfl h)
                    clear hK hu hc
                    go_simp
                    exact hk.out _ (Below.refl _ _)
                  · intro aa ω hb hu hsz hdf hc
                    have h129 : aa.tmps[129]?.getD undef = .int .i64 0 := hc 0 129 (by decide) rfl
                    have h130 : aa.tmps[130]?.getD undef = .int .i64 0 := hc 1 130 (by decide) rfl
                    have h131 : aa.tmps[131]?.getD undef = .bool false := hc 2 131 (by decide) rfl
                    have h132 : aa.tmps[132]?.getD undef = .bool false := hc 3 132 (by decide) rfl
                    have h133 : aa.tmps[133]?.getD undef = .pointer (some ⟨g, 0, none⟩) := hc 4 133 (by decide) rfl
                    have h134 : aa.tmps[134]?.getD undef = .agg (lkA xf 3) := hc 5 134 (by decide) rfl
                    have h135 : aa.tmps[135]?.getD undef = .agg (lkA xf 3) := hc 6 135 (by decide) rfl
                    have h136 : aa.tmps[136]?.getD undef = .bool false := hc 7 136 (by decide) rfl
                    have h137 : aa.tmps[137]?.getD undef = .bool false := hc 8 137 (by decide) rfl
                    have h138 : aa.tmps[138]?.getD undef = .bool false := hc 9 138 (by decide) rfl
                    have h139 : aa.tmps[139]?.getD undef = .pointer (some ⟨g, 0, none⟩) := hc 10 139 (by decide) rfl
                    have h140 : aa.tmps[140]?.getD undef = .int .i64 3 := hc 11 140 (by decide) rfl
                    have h141 : aa.tmps[141]?.getD undef = .pointer (some ⟨nb, 32, none⟩) := hc 12 141 (by decide) rfl
                    have h142 : aa.tmps[142]?.getD undef = .int .i64 3 := hc 13 142 (by decide) rfl
                    have h143 : aa.tmps[143]?.getD undef = .bool false := hc 14 143 (by decide) rfl
                    have ha0 := hha0.out
                    subst ha0
                    have he := act_patchL (n := 146) 15 [false, false, false, false, false, false, false, false, false, false, false, false, false, false, false, false, false, false, false, false, false, false, false, false, false, false, false, false, false, false, false, false, false, false, false, false, false, false, false, false, false, false, false, false, false, false, false, false, false, false, false, false, false, false, false, false, false, false, false, false, false, false, false, false, false, false, false, false, false, false, false, false, false, false, false, false, false, false, false, false, false, false, false, false, false, false, false, false, false, false, false, false, false, false, false, false, false, false, false, false, false, false, false, false, false, false, false, false, false, false, false, false, false, false, false, false, false, false, false, false, false, false, false, false, false, false, false, false, false, true, true, true, true, true, true, true, true, true, true, true, true, true, true, true, false, false] rfl (by kernel_rfl) hu hsz hdf
                    simp only [patch, cond_true, cond_false, Nat.reduceAdd] at he
                    clear hu hsz hdf hc hha0 e8 e9 e10 e13 hz0
                    rw [he]
                    clear he
                    generalize aa.tmps[129]?.getD undef = x129 at *
                    generalize aa.tmps[130]?.getD undef = x130 at *
                    generalize aa.tmps[131]?.getD undef = x131 at *
                    generalize aa.tmps[132]?.getD undef = x132 at *
                    generalize aa.tmps[133]?.getD undef = x133 at *
                    generalize aa.tmps[134]?.getD undef = x134 at *
                    generalize aa.tmps[135]?.getD undef = x135 at *
                    generalize aa.tmps[136]?.getD undef = x136 at *
                    generalize aa.tmps[137]?.getD undef = x137 at *
                    generalize aa.tmps[138]?.getD undef = x138 at *
                    generalize aa.tmps[139]?.getD undef = x139 at *
                    generalize aa.tmps[140]?.getD undef = x140 at *
                    generalize aa.tmps[141]?.getD undef = x141 at *
                    generalize aa.tmps[142]?.getD undef = x142 at *
                    generalize aa.tmps[143]?.getD undef = x143 at *
                    subst h129 h130 h131 h132 h133 h134 h135 h136 h137 h138 h139 h140 h141 h142 h143
                    dsimp only [List.drop]
                    have hR9 := Lib.hid (hR7.out.step hb)
                    clear hb hR7
                    go_wp2_with fail
                    go_roundw
                    case rel => exact ⟨i + 1, xf, 3, rfl, by omega, by omega, by omega, Lib.hid hR9.out.p⟩
                    case measure => simp [intOf]; omega
                · rw [decide_eq_false hxd, Bool.not_false] at q1
                  refine wpList_neq guard32 rfl rfl q1 ?_
                  have htc : tc = (10, n - 1) := by rw [hTc.out, if_neg hnz, if_neg hxd]
                  clear q1 hxd hTc
                  have c0 : ω.cell? ⟨xb, 0, none⟩ = some (.int .i64 2) := hR3.out.x.c0
                  have c1 : ω.cell? ⟨xb, 1, none⟩ = some (.slice oA old.length oc) := hR3.out.x.c1
                  have c2 : ω.cell? ⟨xb, 2, none⟩ = some (.slice fA fresh.length fc) := hR3.out.x.c2
                  have cn : ω.cell? ⟨nb, 32, none⟩ = some (.int .i64 n) := hR3.out.p.c32
                  have fz : ω.frozen? ⟨nb, 32, none⟩ = false := hR3.out.p.row.frozen 32
                  have rn : Row ω nb 33 := hR3.out.p.row
                  go_upto_region 25 with (fail)
                  have hR4 := Lib.hid (hR3.out.left (n - 1))
                  clear c0 c1 c2 cn fz rn
                  generalize ω.setCell ⟨nb, 32, none⟩ (.int .i64 (n - 1)) = W4 at *
                  clear hR3
                  have c0 : W4.cell? ⟨xb, 0, none⟩ = some (.int .i64 2) := hR4.out.x.c0
                  have c1 : W4.cell? ⟨xb, 1, none⟩ = some (.slice oA old.length oc) := hR4.out.x.c1
                  have c2 : W4.cell? ⟨xb, 2, none⟩ = some (.slice fA fresh.length fc) := hR4.out.x.c2
                  have cn : W4.cell? ⟨nb, 32, none⟩ = some (.int .i64 (n - 1)) := hR4.out.p.c32
                  have fz : W4.frozen? ⟨nb, 32, none⟩ = false := hR4.out.p.row.frozen 32
                  have rn : Row W4 nb 33 := hR4.out.p.row
                  go_wp2_with fail
                  have hcon := hCh.out W4 hR4.out.p.lk hHr.out
                  rw [htc] at hcon
                  dsimp only at hcon
                  rw [if_neg (by decide), if_neg (by decide)] at hcon
                  refine (hcon).mono ?_
                  rintro e w7 ⟨rfl, hl7, hk7⟩
                  have hR7 := Lib.hid (hR4.out.act hl7 hk7)
                  clear hl7 hk7 hcon c0 c1 c2 cn fz rn
                  go_wp2_with fail
                  generalize ha0 : Act.mk _ _ = a0
                  have e8 : a0.tmps[8]?.getD undef = .pointer (some ⟨g, 0, none⟩) := by rw [← ha0]; rfl
                  have e9 : a0.tmps[9]?.getD undef = .int .i64 10 := by rw [← ha0]; rfl
                  have e10 : a0.tmps[10]?.getD undef = .pointer (some ⟨nb, 0, none⟩) := by rw [← ha0]; rfl
                  have e13 : a0.tmps[13]?.getD undef = .int .i64 10 := by rw [← ha0]; rfl
                  have hz0 : a0.tmps.size = 146 := by rw [← ha0]; rfl
                  have hha0 := Lib.hid ha0
                  clear ha0
                  refine wp_region_tailL (fun jx_ => match jx_ with | 0 => SRel.is (.int .i64 10) | 1 => SRel.is (.int .i64 10) | 2 => SRel.is (.bool false) | 3 => SRel.is (.bool false) | 4 => SRel.is (.pointer (some ⟨g, 0, none⟩)) | 5 => SRel.is (.agg (lkA d (n - 1))) | 6 => SRel.is (.agg (lkA d (n - 1))) | 7 => SRel.is (.bool false) | 8 => SRel.is (.bool false) | 9 => SRel.is (.bool false) | 10 => SRel.is (.pointer (some ⟨g, 0, none⟩)) | 11 => SRel.is (.int .i64 (n - 1)) | 12 => SRel.is (.pointer (some ⟨nb, 32, none⟩)) | 13 => SRel.is (.int .i64 (n - 1)) | 14 => SRel.is (.bool false) | 15 => SRel.any | _ => SRel.any) 15 (by kernel_rfl) (by kernel_rfl) (by kernel_rfl) (slotsOk_of hz0 (by kernel_rfl)) (by kernel_rfl) (of_decide_eq_true (by kernel_rfl)) ⟨?_, ?_, ?_, ?_, ?_, ?_, ?_, ?_, ?_, ?_, ?_, ?_, ?_, ?_, ?_, trivial⟩ ?_
                  · refine calmL_step rfl fun a ω κ hb hu hc hK => ?_
                    have h9 : a.tmps[9]?.getD undef = .int .i64 10 := (hu 9 rfl).trans e9
                    have hk := Lib.hid (fun w1 (h : Below ω.heap.size ω w1) => hK (.int .i64 10) w1 rfl h)
                    clear hK hu hc
                    go_simp
                    exact hk.out _ (Below.refl _ _)
                  · refine calmL_step rfl fun a ω κ hb hu hc hK => ?_
                    have h13 : a.tmps[13]?.getD undef = .int .i64 10 := (hu 13 rfl).trans e13
                    have hk := Lib.hid (fun w1 (h : Below ω.heap.size ω w1) => hK (.int .i64 10) w1 rfl h)
                    clear hK hu hc
                    go_simp
                    exact hk.out _ (Below.refl _ _)
                  · refine calmL_step rfl fun a ω κ hb hu hc hK => ?_
                    have h129 : a.tmps[129]?.getD undef = .int .i64 10 := hc 0 129 rfl rfl
                    have h130 : a.tmps[130]?.getD undef = .int .i64 10 := hc 1 130 rfl rfl
                    have hk := Lib.hid (fun w1 (h : Below ω.heap.size ω w1) => hK (.bool false) w1 rfl h)
                    clear hK hu hc
                    go_simp
                    exact hk.out _ (Below.refl _ _)
                  · refine calmL_step rfl fun a ω κ hb hu hc hK => ?_
                    have h131 : a.tmps[131]?.getD undef = .bool false := hc 2 131 rfl rfl
                    have hk := Lib.hid (fun w1 (h : Below ω.heap.size ω w1) => hK (.bool false) w1 rfl h)
                    clear hK hu hc
                    go_simp
                    exact hk.out _ (Below.refl _ _)
                  · refine calmL_step_guard (g := 3) (b := false) (d := 132) rfl rfl (fun a w hc => hc 3 132 rfl rfl) fun a ω κ hb hu hc hK => ?_
                    have h8 : a.tmps[8]?.getD undef = .pointer (some ⟨g, 0, none⟩) := (hu 8 rfl).trans e8
                    have hk := Lib.hid (fun w1 (h : Below ω.heap.size ω w1) => hK (.pointer (some ⟨g, 0, none⟩)) w1 rfl h)
                    clear hK hu hc
                    go_simp
                    exact hk.out _ (Below.refl _ _)
                  · refine calmL_step_guard (g := 3) (b := false) (d := 132) rfl rfl (fun a w hc => hc 3 132 rfl rfl) fun a ω κ hb hu hc hK => ?_
                    have h133 : a.tmps[133]?.getD undef = .pointer (some ⟨g, 0, none⟩) := hc 4 133 rfl rfl
                    have hk := Lib.hid (fun w1 (h : Below ω.heap.size ω w1) => hK (.agg (lkA d (n - 1))) w1 rfl h)
                    clear hK hu hc
                    go_simp
                    go_at_call 22
                    refine (lk_Kept _ _ _ _ _ _ _ ω (hR7.out.step hb).p.lk).mono ?_
                    rintro e w1 ⟨rfl, hb1⟩
                    exact hk.out _ hb1
                  · refine calmL_step_guard (g := 3) (b := false) (d := 132) rfl rfl (fun a w hc => hc 3 132 rfl rfl) fun a ω κ hb hu hc hK => ?_
                    have h10 : a.tmps[10]?.getD undef = .pointer (some ⟨nb, 0, none⟩) := (hu 10 rfl).trans e10
                    have hk := Lib.hid (fun w1 (h : Below ω.heap.size ω w1) => hK (.agg (lkA d (n - 1))) w1 rfl h)
                    clear hK hu hc
                    have r1 := (hR7.out.step hb).p.row
                    have r2 := (hR7.out.step hb).p.now
                    go_simp
                    exact hk.out _ (Below.refl _ _)
                  · refine calmL_step_guard (g := 3) (b := false) (d := 132) rfl rfl (fun a w hc => hc 3 132 rfl rfl) fun a ω κ hb hu hc hK => ?_
                    have h134 : a.tmps[134]?.getD undef = .agg (lkA d (n - 1)) := hc 5 134 rfl rfl
                    have h135 : a.tmps[135]?.getD undef = .agg (lkA d (n - 1)) := hc 6 135 rfl rfl
                    have hk := Lib.hid (fun w1 (h : Below ω.heap.size ω w1) => hK (.bool false) w1 rfl h)
                    clear hK hu hc
                    refine wp_neq guardLk (eval_tmp h134) (eval_tmp h135) (neqLk d (n - 1) ω) ?_
                    exact hk.out _ (Below.refl _ _)
                  · refine calmL_step rfl fun a ω κ hb hu hc hK => ?_
                    have h132 : a.tmps[132]?.getD undef = .bool false := hc 3 132 rfl rfl
                    have h136 : a.tmps[136]?.getD undef = .bool false := hc 7 136 rfl rfl
                    have hk := Lib.hid (fun w1 (h : Below ω.heap.size ω w1) => hK (.bool false) w1 rfl h)
                    clear hK hu hc
                    go_simp
                    exact hk.out _ (Below.refl _ _)
                  · refine calmL_step rfl fun a ω κ hb hu hc hK => ?_
                    have h137 : a.tmps[137]?.getD undef = .bool false := hc 8 137 rfl rfl
                    have hk := Lib.hid (fun w1 (h : Below ω.heap.size ω w1) => hK (.bool false) w1 rfl h)
                    clear hK hu hc
                    go_simp
                    exact hk.out _ (Below.refl _ _)
                  · refine calmL_step_guard (g := 9) (b := false) (d := 138) rfl rfl (fun a w hc => hc 9 138 rfl rfl) fun a ω κ hb hu hc hK => ?_
                    have h8 : a.tmps[8]?.getD undef = .pointer (some ⟨g, 0, none⟩) := (hu 8 rfl).trans e8
                    have hk := Lib.hid (fun w1 (h : Below ω.heap.size ω w1) => hK (.pointer (some ⟨g, 0, none⟩)) w1 rfl h)
                    clear hK hu hc
                    go_simp
                    exact hk.out _ (Below.refl _ _)
                  · refine calmL_step_guard (g := 9) (b := false) (d := 138) rfl rfl (fun a w hc => hc 9 138 rfl rfl) fun a ω κ hb hu hc hK => ?_
                    have h139 : a.tmps[139]?.getD undef = .pointer (some ⟨g, 0, none⟩) := hc 10 139 rfl rfl
                    have hk := Lib.hid (fun w1 (h : Below ω.heap.size ω w1) => hK (.int .i64 (n - 1)) w1 rfl h)
                    clear hK hu hc
                    go_simp
                    go_at_call 23
                    refine (lk_Left _ _ _ _ _ _ _ ω (hR7.out.step hb).p.lk).mono ?_
                    rintro e w1 ⟨rfl, rfl⟩
                    exact hk.out _ (Below.refl _ _)
                  · refine calmL_step_guard (g := 9) (b := false) (d := 138) rfl rfl (fun a w hc => hc 9 138 rfl rfl) fun a ω κ hb hu hc hK => ?_
                    have h10 : a.tmps[10]?.getD undef = .pointer (some ⟨nb, 0, none⟩) := (hu 10 rfl).trans e10
                    have hk := Lib.hid (fun w1 (h : Below ω.heap.size ω w1) => hK (.pointer (some ⟨nb, 32, none⟩)) w1 rfl h)
                    clear hK hu hc
                    go_simp
                    exact hk.out _ (Below.refl _ _)
                  · refine calmL_step_guard (g := 9) (b := false) (d := 138) rfl rfl (fun a w hc => hc 9 138 rfl rfl) fun a ω κ hb hu hc hK => ?_
                    have h141 : a.tmps[141]?.getD undef = .pointer (some ⟨nb, 32, none⟩) := hc 12 141 rfl rfl
                    have hk := Lib.hid (fun w1 (h : Below ω.heap.size ω w1) => hK (.int .i64 (n - 1)) w1 rfl h)
                    clear hK hu hc
                    have c1 : ω.cell? ⟨nb, 32, none⟩ = some (.int .i64 (n - 1)) := (hR7.out.step hb).p.c32
                    go_simp
                    exact hk.out _ (Below.refl _ _)
                  · refine calmL_step_guard (g := 9) (b := false) (d := 138) rfl rfl (fun a w hc => hc 9 138 rfl rfl) fun a ω κ hb hu hc hK => ?_
                    have h140 : a.tmps[140]?.getD undef = .int .i64 (n - 1) := hc 11 140 rfl rfl
                    have h142 : a.tmps[142]?.getD undef = .int .i64 (n - 1) := hc 13 142 rfl rfl
                    have hk := Lib.hid (fun w1 (h : Below ω.heap.size ω w1) => hK (.bool false) w1 rfl h)
                    clear hK hu hc
                    have q1 : (((n - 1) : Int) != (n - 1)) = false := by simp
                    go_simp
                    exact hk.out _ (Below.refl _ _)
                  · intro aa ω hb hu hsz hdf hc
                    have h129 : aa.tmps[129]?.getD undef = .int .i64 10 := hc 0 129 (by decide) rfl
                    have h130 : aa.tmps[130]?.getD undef = .int .i64 10 := hc 1 130 (by decide) rfl
                    have h131 : aa.tmps[131]?.getD undef = .bool false := hc 2 131 (by decide) rfl
                    have h132 : aa.tmps[132]?.getD undef = .bool false := hc 3 132 (by decide) rfl
                    have h133 : aa.tmps[133]?.getD undef = .pointer (some ⟨g, 0, none⟩) := hc 4 133 (by decide) rfl
                    have h134 : aa.tmps[134]?.getD undef = .agg (lkA d (n - 1)) := hc 5 134 (by decide) rfl
                    have h135 : aa.tmps[135]?.getD undef = .agg (lkA d (n - 1)) := hc 6 135 (by decide) rfl
                    have h136 : aa.tmps[136]?.getD undef = .bool false := hc 7 136 (by decide) rfl
                    have h137 : aa.tmps[137]?.getD undef = .bool false := hc 8 137 (by decide) rfl
                    have h138 : aa.tmps[138]?.getD undef = .bool false := hc 9 138 (by decide) rfl
                    have h139 : aa.tmps[139]?.getD undef = .pointer (some ⟨g, 0, none⟩) := hc 10 139 (by decide) rfl
                    have h140 : aa.tmps[140]?.getD undef = .int .i64 (n - 1) := hc 11 140 (by decide) rfl
                    have h141 : aa.tmps[141]?.getD undef = .pointer (some ⟨nb, 32, none⟩) := hc 12 141 (by decide) rfl
                    have h142 : aa.tmps[142]?.getD undef = .int .i64 (n - 1) := hc 13 142 (by decide) rfl
                    have h143 : aa.tmps[143]?.getD undef = .bool false := hc 14 143 (by decide) rfl
                    have ha0 := hha0.out
                    subst ha0
                    have he := act_patchL (n := 146) 15 [false, false, false, false, false, false, false, false, false, false, false, false, false, false, false, false, false, false, false, false, false, false, false, false, false, false, false, false, false, false, false, false, false, false, false, false, false, false, false, false, false, false, false, false, false, false, false, false, false, false, false, false, false, false, false, false, false, false, false, false, false, false, false, false, false, false, false, false, false, false, false, false, false, false, false, false, false, false, false, false, false, false, false, false, false, false, false, false, false, false, false, false, false, false, false, false, false, false, false, false, false, false, false, false, false, false, false, false, false, false, false, false, false, false, false, false, false, false, false, false, false, false, false, false, false, false, false, false, false, true, true, true, true, true, true, true, true, true, true, true, true, true, true, true, false, false] rfl (by kernel_rfl) hu hsz hdf
                    simp only [patch, cond_true, cond_false, Nat.reduceAdd] at he
                    clear hu hsz hdf hc hha0 e8 e9 e10 e13 hz0
                    rw [he]
                    clear he
                    generalize aa.tmps[129]?.getD undef = x129 at *
                    generalize aa.tmps[130]?.getD undef = x130 at *
                    generalize aa.tmps[131]?.getD undef = x131 at *
                    generalize aa.tmps[132]?.getD undef = x132 at *
                    generalize aa.tmps[133]?.getD undef = x133 at *
                    generalize aa.tmps[134]?.getD undef = x134 at *
                    generalize aa.tmps[135]?.getD undef = x135 at *
                    generalize aa.tmps[136]?.getD undef = x136 at *
                    generalize aa.tmps[137]?.getD undef = x137 at *
                    generalize aa.tmps[138]?.getD undef = x138 at *
                    generalize aa.tmps[139]?.getD undef = x139 at *
                    generalize aa.tmps[140]?.getD undef = x140 at *
                    generalize aa.tmps[141]?.getD undef = x141 at *
                    generalize aa.tmps[142]?.getD undef = x142 at *
                    generalize aa.tmps[143]?.getD undef = x143 at *
                    subst h129 h130 h131 h132 h133 h134 h135 h136 h137 h138 h139 h140 h141 h142 h143
                    dsimp only [List.drop]
                    have hR9 := Lib.hid (hR7.out.step hb)
                    clear hb hR7
                    go_wp2_with fail
                    go_roundw
                    case rel => exact ⟨i + 1, d, (n - 1), rfl, by omega, by omega, by omega, Lib.hid hR9.out.p⟩
                    case measure => simp [intOf]; omega
        by_cases k3 : kind = 3
        · subst k3
          cases hr : rightB fresh.length with
          | false =>
            have hHr := Lib.hid hr
            clear hr
            have c0 : W2.cell? ⟨xb, 0, none⟩ = some (.int .i64 3) := hR.out.x.c0
            have c1 : W2.cell? ⟨xb, 1, none⟩ = some (.slice oA old.length oc) := hR.out.x.c1
            have c2 : W2.cell? ⟨xb, 2, none⟩ = some (.slice fA fresh.length fc) := hR.out.x.c2
            have cn : W2.cell? ⟨nb, 32, none⟩ = some (.int .i64 n) := hR.out.p.c32
            have fz : W2.frozen? ⟨nb, 32, none⟩ = false := hR.out.p.row.frozen 32
            have rn : Row W2 nb 33 := hR.out.p.row
            go_wp2_with fail
            refine (law_right fA fresh.length fc W2).mono ?_
            rintro e wx ⟨rfl, rfl⟩
            rw [hHr.out]
            clear c0 c1 c2 cn fz rn
            have c0 : W2.cell? ⟨xb, 0, none⟩ = some (.int .i64 3) := hR.out.x.c0
            have c1 : W2.cell? ⟨xb, 1, none⟩ = some (.slice oA old.length oc) := hR.out.x.c1
            have c2 : W2.cell? ⟨xb, 2, none⟩ = some (.slice fA fresh.length fc) := hR.out.x.c2
            have cn : W2.cell? ⟨nb, 32, none⟩ = some (.int .i64 n) := hR.out.p.c32
            have fz : W2.frozen? ⟨nb, 32, none⟩ = false := hR.out.p.row.frozen 32
            have rn : Row W2 nb 33 := hR.out.p.row
            go_wp2_with fail
            refine (lk_Reset_no g fA fresh.length fc W2 hHr.out).mono ?_
            rintro e w7 ⟨rfl, rfl⟩
            clear c0 c1 c2 cn fz rn
            go_wp2_with fail
            generalize ha0 : Act.mk _ _ = a0
            have e8 : a0.tmps[8]?.getD undef = .pointer (some ⟨g, 0, none⟩) := by rw [← ha0]; rfl
            have e9 : a0.tmps[9]?.getD undef = .int .i64 1 := by rw [← ha0]; rfl
            have e10 : a0.tmps[10]?.getD undef = .pointer (some ⟨nb, 0, none⟩) := by rw [← ha0]; rfl
            have e13 : a0.tmps[13]?.getD undef = .int .i64 1 := by rw [← ha0]; rfl
            have hz0 : a0.tmps.size = 146 := by rw [← ha0]; rfl
            have hha0 := Lib.hid ha0
            clear ha0
            refine wp_region_tailL (fun jx_ => match jx_ with | 0 => SRel.is (.int .i64 1) | 1 => SRel.is (.int .i64 1) | 2 => SRel.is (.bool false) | 3 => SRel.is (.bool false) | 4 => SRel.is (.pointer (some ⟨g, 0, none⟩)) | 5 => SRel.is (.agg (lkA d n)) | 6 => SRel.is (.agg (lkA d n)) | 7 => SRel.is (.bool false) | 8 => SRel.is (.bool false) | 9 => SRel.is (.bool false) | 10 => SRel.is (.pointer (some ⟨g, 0, none⟩)) | 11 => SRel.is (.int .i64 n) | 12 => SRel.is (.pointer (some ⟨nb, 32, none⟩)) | 13 => SRel.is (.int .i64 n) | 14 => SRel.is (.bool false) | 15 => SRel.any | _ => SRel.any) 15 (by kernel_rfl) (by kernel_rfl) (by kernel_rfl) (slotsOk_of hz0 (by kernel_rfl)) (by kernel_rfl) (of_decide_eq_true (by kernel_rfl)) ⟨?_, ?_, ?_, ?_, ?_, ?_, ?_, ?_, ?_, ?_, ?_, ?_, ?_, ?_, ?_, trivial⟩ ?_
            · refine calmL_step rfl fun a ω κ hb hu hc hK => ?_
              have h9 : a.tmps[9]?.getD undef = .int .i64 1 := (hu 9 rfl).trans e9
              have hk := Lib.hid (fun w1 (h : Below ω.heap.size ω w1) => hK (.int .i64 1) w1 rfl h)
              clear hK hu hc
              go_simp
              exact hk.out _ (Below.refl _ _)
            · refine calmL_step rfl fun a ω κ hb hu hc hK => ?_
              have h13 : a.tmps[13]?.getD undef = .int .i64 1 := (hu 13 rfl).trans e13
              have hk := Lib.hid (fun w1 (h : Below ω.heap.size ω w1) => hK (.int .i64 1) w1 rfl h)
              clear hK hu hc
              go_simp
              exact hk.out _ (Below.refl _ _)
            · refine calmL_step rfl fun a ω κ hb hu hc hK => ?_
              have h129 : a.tmps[129]?.getD undef = .int .i64 1 := hc 0 129 rfl rfl
              have h130 : a.tmps[130]?.getD undef = .int .i64 1 := hc 1 130 rfl rfl
              have hk := Lib.hid (fun w1 (h : Below ω.heap.size ω w1) => hK (.bool false) w1 rfl h)
              clear hK hu hc
              go_simp
              exact hk.out _ (Below.refl _ _)
            · refine calmL_step rfl fun a ω κ hb hu hc hK => ?_
              have h131 : a.tmps[131]?.getD undef = .bool false := hc 2 131 rfl rfl
              have hk := Lib.hid (fun w1 (h : Below ω.heap.size ω w1) => hK (.bool false) w1 rfl h)
              clear hK hu hc
              go_simp
              exact hk.out _ (Below.refl _ _)
            · refine calmL_step_guard (g := 3) (b := false) (d := 132) rfl rfl (fun a w hc => hc 3 132 rfl rfl) fun a ω κ hb hu hc hK => ?_
              have h8 : a.tmps[8]?.getD undef = .pointer (some ⟨g, 0, none⟩) := (hu 8 rfl).trans e8
              have hk := Lib.hid (fun w1 (h : Below ω.heap.size ω w1) => hK (.pointer (some ⟨g, 0, none⟩)) w1 rfl h)
              clear hK hu hc
              go_simp
              exact hk.out _ (Below.refl _ _)
            · refine calmL_step_guard (g := 3) (b := false) (d := 132) rfl rfl (fun a w hc => hc 3 132 rfl rfl) fun a ω κ hb hu hc hK => ?_
              have h133 : a.tmps[133]?.getD undef = .pointer (some ⟨g, 0, none⟩) := hc 4 133 rfl rfl
              have hk := Lib.hid (fun w1 (h : Below ω.heap.size ω w1) => hK (.agg (lkA d n)) w1 rfl h)
              clear hK hu hc
              go_simp
              go_at_call 22
              refine (lk_Kept _ _ _ _ _ _ _ ω (hR.out.step hb).p.lk).mono ?_
              rintro e w1 ⟨rfl, hb1⟩
              exact hk.out _ hb1
            · refine calmL_step_guard (g := 3) (b := false) (d := 132) rfl rfl (fun a w hc => hc 3 132 rfl rfl) fun a ω κ hb hu hc hK => ?_
              have h10 : a.tmps[10]?.getD undef = .pointer (some ⟨nb, 0, none⟩) := (hu 10 rfl).trans e10
              have hk := Lib.hid (fun w1 (h : Below ω.heap.size ω w1) => hK (.agg (lkA d n)) w1 rfl h)
              clear hK hu hc
              have r1 := (hR.out.step hb).p.row
              have r2 := (hR.out.step hb).p.now
              go_simp
              exact hk.out _ (Below.refl _ _)
            · refine calmL_step_guard (g := 3) (b := false) (d := 132) rfl rfl (fun a w hc => hc 3 132 rfl rfl) fun a ω κ hb hu hc hK => ?_
              have h134 : a.tmps[134]?.getD undef = .agg (lkA d n) := hc 5 134 rfl rfl
              have h135 : a.tmps[135]?.getD undef = .agg (lkA d n) := hc 6 135 rfl rfl
              have hk := Lib.hid (fun w1 (h : Below ω.heap.size ω w1) => hK (.bool false) w1 rfl h)
              clear hK hu hc
              refine wp_neq guardLk (eval_tmp h134) (eval_tmp h135) (neqLk d n ω) ?_
              exact hk.out _ (Below.refl _ _)
            · refine calmL_step rfl fun a ω κ hb hu hc hK => ?_
              have h132 : a.tmps[132]?.getD undef = .bool false := hc 3 132 rfl rfl
              have h136 : a.tmps[136]?.getD undef = .bool false := hc 7 136 rfl rfl
              have hk := Lib.hid (fun w1 (h : Below ω.heap.size ω w1) => hK (.bool false) w1 rfl h)
              clear hK hu hc
              go_simp
              exact hk.out _ (Below.refl _ _)
            · refine calmL_step rfl fun a ω κ hb hu hc hK => ?_
              have h137 : a.tmps[137]?.getD undef = .bool false := hc 8 137 rfl rfl
              have hk := Lib.hid (fun w1 (h : Below ω.heap.size ω w1) => hK (.bool false) w1 rfl h)
              clear hK hu hc
              go_simp
              exact hk.out _ (Below.refl _ _)
            · refine calmL_step_guard (g := 9) (b := false) (d := 138) rfl rfl (fun a w hc => hc 9 138 rfl rfl) fun a ω κ hb hu hc hK => ?_
              have h8 : a.tmps[8]?.getD undef = .pointer (some ⟨g, 0, none⟩) := (hu 8 rfl).trans e8
              have hk := Lib.hid (fun w1 (h : Below ω.heap.size ω w1) => hK (.pointer (some ⟨g, 0, none⟩)) w1 rfl h)
              clear hK hu hc
              go_simp
              exact hk.out _ (Below.refl _ _)
            · refine calmL_step_guard (g := 9) (b := false) (d := 138) rfl rfl (fun a w hc => hc 9 138 rfl rfl) fun a ω κ hb hu hc hK => ?_
              have h139 : a.tmps[139]?.getD undef = .pointer (some ⟨g, 0, none⟩) := hc 10 139 rfl rfl
              have hk := Lib.hid (fun w1 (h : Below ω.heap.size ω w1) => hK (.int .i64 n) w1 rfl h)
              clear hK hu hc
              go_simp
              go_at_call 23
              refine (lk_Left _ _ _ _ _ _ _ ω (hR.out.step hb).p.lk).mono ?_
              rintro e w1 ⟨rfl, rfl⟩
              exact hk.out _ (Below.refl _ _)
            · refine calmL_step_guard (g := 9) (b := false) (d := 138) rfl rfl (fun a w hc => hc 9 138 rfl rfl) fun a ω κ hb hu hc hK => ?_
              have h10 : a.tmps[10]?.getD undef = .pointer (some ⟨nb, 0, none⟩) := (hu 10 rfl).trans e10
              have hk := Lib.hid (fun w1 (h : Below ω.heap.size ω w1) => hK (.pointer (some ⟨nb, 32, none⟩)) w1 rfl h)
              clear hK hu hc
              go_simp
              exact hk.out _ (Below.refl _ _)
            · refine calmL_step_guard (g := 9) (b := false) (d := 138) rfl rfl (fun a w hc => hc 9 138 rfl rfl) fun a ω κ hb hu hc hK => ?_
              have h141 : a.tmps[141]?.getD undef = .pointer (some ⟨nb, 32, none⟩) := hc 12 141 rfl rfl
              have hk := Lib.hid (fun w1 (h : Below ω.heap.size ω w1) => hK (.int .i64 n) w1 rfl h)
              clear hK hu hc
              have c1 : ω.cell? ⟨nb, 32, none⟩ = some (.int .i64 n) := (hR.out.step hb).p.c32
              go_simp
              exact hk.out _ (Below.refl _ _)
            · refine calmL_step_guard (g := 9) (b := false) (d := 138) rfl rfl (fun a w hc => hc 9 138 rfl rfl) fun a ω κ hb hu hc hK => ?_
              have h140 : a.tmps[140]?.getD undef = .int .i64 n := hc 11 140 rfl rfl
              have h142 : a.tmps[142]?.getD undef = .int .i64 n := hc 13 142 rfl rfl
              have hk := Lib.hid (fun w1 (h : Below ω.heap.size ω w1) => hK (.bool false) w1 rfl h)
              clear hK hu hc
              have q1 : ((n : Int) != n) = false := by simp
              go_simp
              exact hk.out _ (Below.refl _ _)
            · intro aa ω hb hu hsz hdf hc
              have h129 : aa.tmps[129]?.getD undef = .int .i64 1 := hc 0 129 (by decide) rfl
              have h130 : aa.tmps[130]?.getD undef = .int .i64 1 := hc 1 130 (by decide) rfl
              have h131 : aa.tmps[131]?.getD undef = .bool false := hc 2 131 (by decide) rfl
              have h132 : aa.tmps[132]?.getD undef = .bool false := hc 3 132 (by decide) rfl
              have h133 : aa.tmps[133]?.getD undef = .pointer (some ⟨g, 0, none⟩) := hc 4 133 (by decide) rfl
              have h134 : aa.tmps[134]?.getD undef = .agg (lkA d n) := hc 5 134 (by decide) rfl
              have h135 : aa.tmps[135]?.getD undef = .agg (lkA d n) := hc 6 135 (by decide) rfl
              have h136 : aa.tmps[136]?.getD undef = .bool false := hc 7 136 (by decide) rfl
              have h137 : aa.tmps[137]?.getD undef = .bool false := hc 8 137 (by decide) rfl
              have h138 : aa.tmps[138]?.getD undef = .bool false := hc 9 138 (by decide) rfl
              have h139 : aa.tmps[139]?.getD undef = .pointer (some ⟨g, 0, none⟩) := hc 10 139 (by decide) rfl
              have h140 : aa.tmps[140]?.getD undef = .int .i64 n := hc 11 140 (by decide) rfl
              have h141 : aa.tmps[141]?.getD undef = .pointer (some ⟨nb, 32, none⟩) := hc 12 141 (by decide) rfl
              have h142 : aa.tmps[142]?.getD undef = .int .i64 n := hc 13 142 (by decide) rfl
              have h143 : aa.tmps[143]?.getD undef = .bool false := hc 14 143 (by decide) rfl
              have ha0 := hha0.out
              subst ha0
              have he := act_patchL (n := 146) 15 [false, false, false, false, false, false, false, false, false, false, false, false, false, false, false, false, false, false, false, false, false, false, false, false, false, false, false, false, false, false, false, false, false, false, false, false, false, false, false, false, false, false, false, false, false, false, false, false, false, false, false, false, false, false, false, false, false, false, false, false, false, false, false, false, false, false, false, false, false, false, false, false, false, false, false, false, false, false, false, false, false, false, false, false, false, false, false, false, false, false, false, false, false, false, false, false, false, false, false, false, false, false, false, false, false, false, false, false, false, false, false, false, false, false, false, false, false, false, false, false, false, false, false, false, false, false, false, false, false, true, true, true, true, true, true, true, true, true, true, true, true, true, true, true, false, false] rfl (by kernel_rfl) hu hsz hdf
              simp only [patch, cond_true, cond_false, Nat.reduceAdd] at he
              clear hu hsz hdf hc hha0 e8 e9 e10 e13 hz0
              rw [he]
              clear he
              generalize aa.tmps[129]?.getD undef = x129 at *
              generalize aa.tmps[130]?.getD undef = x130 at *
              generalize aa.tmps[131]?.getD undef = x131 at *
              generalize aa.tmps[132]?.getD undef = x132 at *
              generalize aa.tmps[133]?.getD undef = x133 at *
              generalize aa.tmps[134]?.getD undef = x134 at *
              generalize aa.tmps[135]?.getD undef = x135 at *
              generalize aa.tmps[136]?.getD undef = x136 at *
              generalize aa.tmps[137]?.getD undef = x137 at *
              generalize aa.tmps[138]?.getD undef = x138 at *
              generalize aa.tmps[139]?.getD undef = x139 at *
              generalize aa.tmps[140]?.getD undef = x140 at *
              generalize aa.tmps[141]?.getD undef = x141 at *
              generalize aa.tmps[142]?.getD undef = x142 at *
              generalize aa.tmps[143]?.getD undef = x143 at *
              subst h129 h130 h131 h132 h133 h134 h135 h136 h137 h138 h139 h140 h141 h142 h143
              dsimp only [List.drop]
              have hR9 := Lib.hid (hR.out.step hb)
              clear hb hR
              go_wp2_with fail
              go_roundw
              case rel => exact ⟨i + 1, d, n, rfl, by omega, by omega, by omega, Lib.hid hR9.out.p⟩
              case measure => simp [intOf]; omega
          | true =>
            have hHr := Lib.hid hr
            clear hr
            have c0 : W2.cell? ⟨xb, 0, none⟩ = some (.int .i64 3) := hR.out.x.c0
            have c1 : W2.cell? ⟨xb, 1, none⟩ = some (.slice oA old.length oc) := hR.out.x.c1
            have c2 : W2.cell? ⟨xb, 2, none⟩ = some (.slice fA fresh.length fc) := hR.out.x.c2
            have cn : W2.cell? ⟨nb, 32, none⟩ = some (.int .i64 n) := hR.out.p.c32
            have fz : W2.frozen? ⟨nb, 32, none⟩ = false := hR.out.p.row.frozen 32
            have rn : Row W2 nb 33 := hR.out.p.row
            go_wp2_with fail
            refine (law_right fA fresh.length fc W2).mono ?_
            rintro e wx ⟨rfl, rfl⟩
            rw [hHr.out]
            clear c0 c1 c2 cn fz rn
            have c0 : W2.cell? ⟨xb, 0, none⟩ = some (.int .i64 3) := hR.out.x.c0
            have c1 : W2.cell? ⟨xb, 1, none⟩ = some (.slice oA old.length oc) := hR.out.x.c1
            have c2 : W2.cell? ⟨xb, 2, none⟩ = some (.slice fA fresh.length fc) := hR.out.x.c2
            have cn : W2.cell? ⟨nb, 32, none⟩ = some (.int .i64 n) := hR.out.p.c32
            have fz : W2.frozen? ⟨nb, 32, none⟩ = false := hR.out.p.row.frozen 32
            have rn : Row W2 nb 33 := hR.out.p.row
            have q1 := hCs.out W2 hR.out.p.lk.bel
            have q2 := hCf.out W2 hR.out.p.lk.bel
            go_wp2_with fail
            refine (hSf.out W2 hR.out.p.lk.bel).mono ?_
            rintro e w5 ⟨rfl, hb5⟩
            have hR5 := Lib.hid (hR.out.step hb5)
            clear q1 q2 c0 c1 c2 cn fz rn hb5
            have rn : Row w5 nb 33 := hR5.out.p.row
            have hcl5 := lkA_cells xf 3
            go_upto_region 27 with (refine wpList_bld2 (vx := .agg (dgA xf)) (vy := .int .i64 3) rfl rfl rfl rfl (build_lk xf 3 _) ?_)
            have hR6 := Lib.hid (hR5.out.put xf 3 hfl)
            clear rn hcl5
            generalize w5.setRow nb (lkA xf 3) = W6 at *
            clear hR5
            have c0 : W6.cell? ⟨xb, 0, none⟩ = some (.int .i64 3) := hR6.out.x.c0
            have c1 : W6.cell? ⟨xb, 1, none⟩ = some (.slice oA old.length oc) := hR6.out.x.c1
            have c2 : W6.cell? ⟨xb, 2, none⟩ = some (.slice fA fresh.length fc) := hR6.out.x.c2
            have cn : W6.cell? ⟨nb, 32, none⟩ = some (.int .i64 3) := hR6.out.p.c32
            have fz : W6.frozen? ⟨nb, 32, none⟩ = false := hR6.out.p.row.frozen 32
            have rn : Row W6 nb 33 := hR6.out.p.row
            go_wp2_with fail
            have hcon := hRs.out W6 hR6.out.p.lk hHr.out
            refine (hcon).mono ?_
            rintro e w7 ⟨rfl, hl7, hk7⟩
            have hR7 := Lib.hid (hR6.out.act hl7 hk7)
            clear hl7 hk7 hcon c0 c1 c2 cn fz rn
            go_wp2_with fail
            generalize ha0 : Act.mk _ _ = a0
            have e8 : a0.tmps[8]?.getD undef = .pointer (some ⟨g, 0, none⟩) := by rw [← ha0]; rfl
            have e9 : a0.tmps[9]?.getD undef = .int .i64 0 := by rw [← ha0]; rfl
            have e10 : a0.tmps[10]?.getD undef = .pointer (some ⟨nb, 0, none⟩) := by rw [← ha0]; rfl
            have e13 : a0.tmps[13]?.getD undef = .int .i64 0 := by rw [← ha0]; rfl
            have hz0 : a0.tmps.size = 146 := by rw [← ha0]; rfl
            have hha0 := Lib.hid ha0
            clear ha0
            refine wp_region_tailL (fun jx_ => match jx_ with | 0 => SRel.is (.int .i64 0) | 1 => SRel.is (.int .i64 0) | 2 => SRel.is (.bool false) | 3 => SRel.is (.bool false) | 4 => SRel.is (.pointer (some ⟨g, 0, none⟩)) | 5 => SRel.is (.agg (lkA xf 3)) | 6 => SRel.is (.agg (lkA xf 3)) | 7 => SRel.is (.bool false) | 8 => SRel.is (.bool false) | 9 => SRel.is (.bool false) | 10 => SRel.is (.pointer (some ⟨g, 0, none⟩)) | 11 => SRel.is (.int .i64 3) | 12 => SRel.is (.pointer (some ⟨nb, 32, none⟩)) | 13 => SRel.is (.int .i64 3) | 14 => SRel.is (.bool false) | 15 => SRel.any | _ => SRel.any) 15 (by kernel_rfl) (by kernel_rfl) (by kernel_rfl) (slotsOk_of hz0 (by kernel_rfl)) (by kernel_rfl) (of_decide_eq_true (by kernel_rfl)) ⟨?_, ?_, ?_, ?_, ?_, ?_, ?_, ?_, ?_, ?_, ?_, ?_, ?_, ?_, ?_, trivial⟩ ?_
            · refine calmL_step rfl fun a ω κ hb hu hc hK => ?_
              have h9 : a.tmps[9]?.getD undef = .int .i64 0 := (hu 9 rfl).trans e9
              have hk := Lib.hid (fun w1 (h : Below ω.heap.size ω w1) => hK (.int .i64 0) w1 rfl h)
              clear hK hu hc
              go_simp
              exact hk.out _ (Below.refl _ _)
            · refine calmL_step rfl fun a ω κ hb hu hc hK => ?_
              have h13 : a.tmps[13]?.getD undef = .int .i64 0 := (hu 13 rfl).trans e13
              have hk := Lib.hid (fun w1 (h : Below ω.heap.size ω w1) => hK (.int .i64 0) w1 rfl h)
              clear hK hu hc
              go_simp
              exact hk.out _ (Below.refl _ _)
            · refine calmL_step rfl fun a ω κ hb hu hc hK => ?_
              have h129 : a.tmps[129]?.getD undef = .int .i64 0 := hc 0 129 rfl rfl
              have h130 : a.tmps[130]?.getD undef = .int .i64 0 := hc 1 130 rfl rfl
              have hk := Lib.hid (fun w1 (h : Below ω.heap.size ω w1) => hK (.bool false) w1 rfl h)
              clear hK hu hc
              go_simp
              exact hk.out _ (Below.refl _ _)
            · refine calmL_step rfl fun a ω κ hb hu hc hK => ?_
              have h131 : a.tmps[131]?.getD undef = .bool false := hc 2 131 rfl rfl
              have hk := Lib.hid (fun w1 (h : Below ω.heap.size ω w1) => hK (.bool false) w1 rfl h)
              clear hK hu hc
              go_simp
              exact hk.out _ (Below.refl _ _)
            · refine calmL_step_guard (g := 3) (b := false) (d := 132) rfl rfl (fun a w hc => hc 3 132 rfl rfl) fun a ω κ hb hu hc hK => ?_
              have h8 : a.tmps[8]?.getD undef = .pointer (some ⟨g, 0, none⟩) := (hu 8 rfl).trans e8
              have hk := Lib.hid (fun w1 (h : Below ω.heap.size ω w1) => hK (.pointer (some ⟨g, 0, none⟩)) w1 rfl h)
              clear hK hu hc
              go_simp
              exact hk.out _ (Below.refl _ _)
            · refine calmL_step_guard (g := 3) (b := false) (d := 132) rfl rfl (fun a w hc => hc 3 132 rfl rfl) fun a ω κ hb hu hc hK => ?_
              have h133 : a.tmps[133]?.getD undef = .pointer (some ⟨g, 0, none⟩) := hc 4 133 rfl rfl
              have hk := Lib.hid (fun w1 (h : Below ω.heap.size ω w1) => hK (.agg (lkA xf 3)) w1 rfl h)
              clear hK hu hc
              go_simp
              go_at_call 22
              refine (lk_Kept _ _ _ _ _ _ _ ω (hR7.out.step hb).p.lk).mono ?_
              rintro e w1 ⟨rfl, hb1⟩
              exact hk.out _ hb1
            · refine calmL_step_guard (g := 3) (b := false) (d := 132) rfl rfl (fun a w hc => hc 3 132 rfl rfl) fun a ω κ hb hu hc hK => ?_
              have h10 : a.tmps[10]?.getD undef = .pointer (some ⟨nb, 0, none⟩) := (hu 10 rfl).trans e10
              have hk := Lib.hid (fun w1 (h : Below ω.heap.size ω w1) => hK (.agg (lkA xf 3)) w1 rfl h)
              clear hK hu hc
              have r1 := (hR7.out.step hb).p.row
              have r2 := (hR7.out.step hb).p.now
              go_simp
              exact hk.out _ (Below.refl _ _)
            · refine calmL_step_guard (g := 3) (b := false) (d := 132) rfl rfl (fun a w hc => hc 3 132 rfl rfl) fun a ω κ hb hu hc hK => ?_
              have h134 : a.tmps[134]?.getD undef = .agg (lkA xf 3) := hc 5 134 rfl rfl
              have h135 : a.tmps[135]?.getD undef = .agg (lkA xf 3) := hc 6 135 rfl rfl
              have hk := Lib.hid (fun w1 (h : Below ω.heap.size ω w1) => hK (.bool false) w1 rfl h)
              clear hK hu hc
              refine wp_neq guardLk (eval_tmp h134) (eval_tmp h135) (neqLk xf 3 ω) ?_
              exact hk.out _ (Below.refl _ _)
            · refine calmL_step rfl fun a ω κ hb hu hc hK => ?_
              have h132 : a.tmps[132]?.getD undef = .bool false := hc 3 132 rfl rfl
              have h136 : a.tmps[136]?.getD undef = .bool false := hc 7 136 rfl rfl
              have hk := Lib.hid (fun w1 (h : Below ω.heap.size ω w1) => hK (.bool false) w1 rfl h)
              clear hK hu hc
              go_simp
              exact hk.out _ (Below.refl _ _)
            · refine calmL_step rfl fun a ω κ hb hu hc hK => ?_
              have h137 : a.tmps[137]?.getD undef = .bool false := hc 8 137 rfl rfl
              have hk := Lib.hid (fun w1 (h : Below ω.heap.size ω w1) => hK (.bool false) w1 rfl h)
              clear hK hu hc
              go_simp
              exact hk.out _ (Below.refl _ _)
            · refine calmL_step_guard (g := 9) (b := false) (d := 138) rfl rfl (fun a w hc => hc 9 138 rfl rfl) fun a ω κ hb hu hc hK => ?_
              have h8 : a.tmps[8]?.getD undef = .pointer (some ⟨g, 0, none⟩) := (hu 8 rfl).trans e8
              have hk := Lib.hid (fun w1 (h : Below ω.heap.size ω w1) => hK (.pointer (some ⟨g, 0, none⟩)) w1 rfl h)
              clear hK hu hc
              go_simp
              exact hk.out _ (Below.refl _ _)
            · refine calmL_step_guard (g := 9) (b := false) (d := 138) rfl rfl (fun a w hc => hc 9 138 rfl rfl) fun a ω κ hb hu hc hK => ?_
              have h139 : a.tmps[139]?.getD undef = .pointer (some ⟨g, 0, none⟩) := hc 10 139 rfl rfl
              have hk := Lib.hid (fun w1 (h : Below ω.heap.size ω w1) => hK (.int .i64 3) w1 rfl h)
              clear hK hu hc
              go_simp
              go_at_call 23
              refine (lk_Left _ _ _ _ _ _ _ ω (hR7.out.step hb).p.lk).mono ?_
              rintro e w1 ⟨rfl, rfl⟩
              exact hk.out _ (Below.refl _ _)
            · refine calmL_step_guard (g := 9) (b := false) (d := 138) rfl rfl (fun a w hc => hc 9 138 rfl rfl) fun a ω κ hb hu hc hK => ?_
              have h10 : a.tmps[10]?.getD undef = .pointer (some ⟨nb, 0, none⟩) := (hu 10 rfl).trans e10
              have hk := Lib.hid (fun w1 (h : Below ω.heap.size ω w1) => hK (.pointer (some ⟨nb, 32, none⟩)) w1 rfl h)
              clear hK hu hc
              go_simp
              exact hk.out _ (Below.refl _ _)
            · refine calmL_step_guard (g := 9) (b := false) (d := 138) rfl rfl (fun a w hc => hc 9 138 rfl rfl) fun a ω κ hb hu hc hK => ?_
              have h141 : a.tmps[141]?.getD undef = .pointer (some ⟨nb, 32, none⟩) := hc 12 141 rfl rfl
              have hk := Lib.hid (fun w1 (h : Below ω.heap.size ω w1) => hK (.int .i64 3) w1 rfl h)
              clear hK hu hc
              have c1 : ω.cell? ⟨nb, 32, none⟩ = some (.int .i64 3) := (hR7.out.step hb).p.c32
              go_simp
              exact hk.out _ (Below.refl _ _)
            · refine calmL_step_guard (g := 9) (b := false) (d := 138) rfl rfl (fun a w hc => hc 9 138 rfl rfl) fun a ω κ hb hu hc hK => ?_
              have h140 : a.tmps[140]?.getD undef = .int .i64 3 := hc 11 140 rfl rfl
              have h142 : a.tmps[142]?.getD undef = .int .i64 3 := hc 13 142 rfl rfl
              have hk := Lib.hid (fun w1 (h : Below ω.heap.size ω w1) => hK (.bool false) w1 rfl h)
              clear hK hu hc
              go_simp
              exact hk.out _ (Below.refl _ _)
            · intro aa ω hb hu hsz hdf hc
              have h129 : aa.tmps[129]?.getD undef = .int .i64 0 := hc 0 129 (by decide) rfl
              have h130 : aa.tmps[130]?.getD undef = .int .i64 0 := hc 1 130 (by decide) rfl
              have h131 : aa.tmps[131]?.getD undef = .bool false := hc 2 131 (by decide) rfl
              have h132 : aa.tmps[132]?.getD undef = .bool false := hc 3 132 (by decide) rfl
              have h133 : aa.tmps[133]?.getD undef = .pointer (some ⟨g, 0, none⟩) := hc 4 133 (by decide) rfl
              have h134 : aa.tmps[134]?.getD undef = .agg (lkA xf 3) := hc 5 134 (by decide) rfl
              have h135 : aa.tmps[135]?.getD undef = .agg (lkA xf 3) := hc 6 135 (by decide) rfl
              have h136 : aa.tmps[136]?.getD undef = .bool false := hc 7 136 (by decide) rfl
              have h137 : aa.tmps[137]?.getD undef = .bool false := hc 8 137 (by decide) rfl
              have h138 : aa.tmps[138]?.getD undef = .bool false := hc 9 138 (by decide) rfl
              have h139 : aa.tmps[139]?.getD undef = .pointer (some ⟨g, 0, none⟩) := hc 10 139 (by decide) rfl
              have h140 : aa.tmps[140]?.getD undef = .int .i64 3 := hc 11 140 (by decide) rfl
              have h141 : aa.tmps[141]?.getD undef = .pointer (some ⟨nb, 32, none⟩) := hc 12 141 (by decide) rfl
              have h142 : aa.tmps[142]?.getD undef = .int .i64 3 := hc 13 142 (by decide) rfl
              have h143 : aa.tmps[143]?.getD undef = .bool false := hc 14 143 (by decide) rfl
              have ha0 := hha0.out
              subst ha0
              have he := act_patchL (n := 146) 15 [false, false, false, false, false, false, false, false, false, false, false, false, false, false, false, false, false, false, false, false, false, false, false, false, false, false, false, false, false, false, false, false, false, false, false, false, false, false, false, false, false, false, false, false, false, false, false, false, false, false, false, false, false, false, false, false, false, false, false, false, false, false, false, false, false, false, false, false, false, false, false, false, false, false, false, false, false, false, false, false, false, false, false, false, false, false, false, false, false, false, false, false, false, false, false, false, false, false, false, false, false, false, false, false, false, false, false, false, false, false, false, false, false, false, false, false, false, false, false, false, false, false, false, false, false, false, false, false, false, true, true, true, true, true, true, true, true, true, true, true, true, true, true, true, false, false] rfl (by kernel_rfl) hu hsz hdf
              simp only [patch, cond_true, cond_false, Nat.reduceAdd] at he
              clear hu hsz hdf hc hha0 e8 e9 e10 e13 hz0
              rw [he]
              clear he
              generalize aa.tmps[129]?.getD undef = x129 at *
              generalize aa.tmps[130]?.getD undef = x130 at *
              generalize aa.tmps[131]?.getD undef = x131 at *
              generalize aa.tmps[132]?.getD undef = x132 at *
              generalize aa.tmps[133]?.getD undef = x133 at *
              generalize aa.tmps[134]?.getD undef = x134 at *
              generalize aa.tmps[135]?.getD undef = x135 at *
              generalize aa.tmps[136]?.getD undef = x136 at *
              generalize aa.tmps[137]?.getD undef = x137 at *
              generalize aa.tmps[138]?.getD undef = x138 at *
              generalize aa.tmps[139]?.getD undef = x139 at *
              generalize aa.tmps[140]?.getD undef = x140 at *
              generalize aa.tmps[141]?.getD undef = x141 at *
              generalize aa.tmps[142]?.getD undef = x142 at *
              generalize aa.tmps[143]?.getD undef = x143 at *
              subst h129 h130 h131 h132 h133 h134 h135 h136 h137 h138 h139 h140 h141 h142 h143
              dsimp only [List.drop]
              have hR9 := Lib.hid (hR7.out.step hb)
              clear hb hR7
              go_wp2_with fail
              go_roundw
              case rel => exact ⟨i + 1, xf, 3, rfl, by omega, by omega, by omega, Lib.hid hR9.out.p⟩
              case measure => simp [intOf]; omega
        have b2 : (kind == 2) = false := by simpa using k2
        have b3 : (kind == 3) = false := by simpa using k3
        by_cases k4 : 3 < kind
        · have e1 : decide ((1 : Int) < kind) = true := by simp; omega
          have e3 : decide (kind < (3 : Int)) = false := by simp; omega
          have e4 : decide ((3 : Int) < kind) = true := by simpa using k4
          cases hr : rightB fresh.length with
          | false =>
            have hHr := Lib.hid hr
            clear hr
            have c0 : W2.cell? ⟨xb, 0, none⟩ = some (.int .i64 kind) := hR.out.x.c0
            have c1 : W2.cell? ⟨xb, 1, none⟩ = some (.slice oA old.length oc) := hR.out.x.c1
            have c2 : W2.cell? ⟨xb, 2, none⟩ = some (.slice fA fresh.length fc) := hR.out.x.c2
            have cn : W2.cell? ⟨nb, 32, none⟩ = some (.int .i64 n) := hR.out.p.c32
            have fz : W2.frozen? ⟨nb, 32, none⟩ = false := hR.out.p.row.frozen 32
            have rn : Row W2 nb 33 := hR.out.p.row
            go_wp2_with fail
            refine (law_right fA fresh.length fc W2).mono ?_
            rintro e wx ⟨rfl, rfl⟩
            rw [hHr.out]
            go_wp2_with fail
            go_ret
            exact ⟨rfl, hR.out.p.lk.bel⟩
          | true =>
            have hHr := Lib.hid hr
            clear hr
            have c0 : W2.cell? ⟨xb, 0, none⟩ = some (.int .i64 kind) := hR.out.x.c0
            have c1 : W2.cell? ⟨xb, 1, none⟩ = some (.slice oA old.length oc) := hR.out.x.c1
            have c2 : W2.cell? ⟨xb, 2, none⟩ = some (.slice fA fresh.length fc) := hR.out.x.c2
            have cn : W2.cell? ⟨nb, 32, none⟩ = some (.int .i64 n) := hR.out.p.c32
            have fz : W2.frozen? ⟨nb, 32, none⟩ = false := hR.out.p.row.frozen 32
            have rn : Row W2 nb 33 := hR.out.p.row
            go_wp2_with fail
            refine (law_right fA fresh.length fc W2).mono ?_
            rintro e wx ⟨rfl, rfl⟩
            rw [hHr.out]
            clear c0 c1 c2 cn fz rn
            have c0 : W2.cell? ⟨xb, 0, none⟩ = some (.int .i64 kind) := hR.out.x.c0
            have c1 : W2.cell? ⟨xb, 1, none⟩ = some (.slice oA old.length oc) := hR.out.x.c1
            have c2 : W2.cell? ⟨xb, 2, none⟩ = some (.slice fA fresh.length fc) := hR.out.x.c2
            have cn : W2.cell? ⟨nb, 32, none⟩ = some (.int .i64 n) := hR.out.p.c32
            have fz : W2.frozen? ⟨nb, 32, none⟩ = false := hR.out.p.row.frozen 32
            have rn : Row W2 nb 33 := hR.out.p.row
            have q1 := hCs.out W2 hR.out.p.lk.bel
            have q2 := hCf.out W2 hR.out.p.lk.bel
            go_wp2_with fail
            refine (hSf.out W2 hR.out.p.lk.bel).mono ?_
            rintro e w5 ⟨rfl, hb5⟩
            have hR5 := Lib.hid (hR.out.step hb5)
            clear q1 q2 c0 c1 c2 cn fz rn hb5
            have rn : Row w5 nb 33 := hR5.out.p.row
            have hcl5 := lkA_cells xf 3
            go_upto_region 27 with (refine wpList_bld2 (vx := .agg (dgA xf)) (vy := .int .i64 3) rfl rfl rfl rfl (build_lk xf 3 _) ?_)
            have hR6 := Lib.hid (hR5.out.put xf 3 hfl)
            clear rn hcl5
            generalize w5.setRow nb (lkA xf 3) = W6 at *
            clear hR5
            have c0 : W6.cell? ⟨xb, 0, none⟩ = some (.int .i64 kind) := hR6.out.x.c0
            have c1 : W6.cell? ⟨xb, 1, none⟩ = some (.slice oA old.length oc) := hR6.out.x.c1
            have c2 : W6.cell? ⟨xb, 2, none⟩ = some (.slice fA fresh.length fc) := hR6.out.x.c2
            have cn : W6.cell? ⟨nb, 32, none⟩ = some (.int .i64 3) := hR6.out.p.c32
            have fz : W6.frozen? ⟨nb, 32, none⟩ = false := hR6.out.p.row.frozen 32
            have rn : Row W6 nb 33 := hR6.out.p.row
            go_wp2_with fail
            go_ret
            exact ⟨rfl, hR6.out.p.lk.bel⟩
        have f1 : decide ((1 : Int) < kind) = false := by simp; omega
        have f3 : decide (kind < (3 : Int)) = true := by simp; omega
        have f4 : decide ((3 : Int) < kind) = false := by simp; omega
        by_cases hnz : n = 0
        · subst hnz
          have c0 : W2.cell? ⟨xb, 0, none⟩ = some (.int .i64 kind) := hR.out.x.c0
          have c1 : W2.cell? ⟨xb, 1, none⟩ = some (.slice oA old.length oc) := hR.out.x.c1
          have c2 : W2.cell? ⟨xb, 2, none⟩ = some (.slice fA fresh.length fc) := hR.out.x.c2
          have cn : W2.cell? ⟨nb, 32, none⟩ = some (.int .i64 0) := hR.out.p.c32
          have fz : W2.frozen? ⟨nb, 32, none⟩ = false := hR.out.p.row.frozen 32
          have rn : Row W2 nb 33 := hR.out.p.row
          have htc : tc = (11, 0) := hTc.out
          clear hTc hwn
          have c0 : W2.cell? ⟨xb, 0, none⟩ = some (.int .i64 kind) := hR.out.x.c0
          have c1 : W2.cell? ⟨xb, 1, none⟩ = some (.slice oA old.length oc) := hR.out.x.c1
          have c2 : W2.cell? ⟨xb, 2, none⟩ = some (.slice fA fresh.length fc) := hR.out.x.c2
          have cn : W2.cell? ⟨nb, 32, none⟩ = some (.int .i64 0) := hR.out.p.c32
          have fz : W2.frozen? ⟨nb, 32, none⟩ = false := hR.out.p.row.frozen 32
          have rn : Row W2 nb 33 := hR.out.p.row
          go_wp2_with fail
          have hcon := hTr.out W2 hR.out.p.lk
          rw [htc] at hcon
          dsimp only at hcon
          refine (hcon).mono ?_
          rintro e w7 ⟨rfl, hl7, hk7⟩
          have hR7 := Lib.hid (hR.out.act hl7 hk7)
          clear hl7 hk7 hcon c0 c1 c2 cn fz rn
          go_wp2_with fail
          generalize ha0 : Act.mk _ _ = a0
          have e8 : a0.tmps[8]?.getD undef = .pointer (some ⟨g, 0, none⟩) := by rw [← ha0]; rfl
          have e9 : a0.tmps[9]?.getD undef = .int .i64 11 := by rw [← ha0]; rfl
          have e10 : a0.tmps[10]?.getD undef = .pointer (some ⟨nb, 0, none⟩) := by rw [← ha0]; rfl
          have e13 : a0.tmps[13]?.getD undef = .int .i64 11 := by rw [← ha0]; rfl
          have hz0 : a0.tmps.size = 146 := by rw [← ha0]; rfl
          have hha0 := Lib.hid ha0
          clear ha0
          refine wp_region_tailL (fun jx_ => match jx_ with | 0 => SRel.is (.int .i64 11) | 1 => SRel.is (.int .i64 11) | 2 => SRel.is (.bool false) | 3 => SRel.is (.bool false) | 4 => SRel.is (.pointer (some ⟨g, 0, none⟩)) | 5 => SRel.is (.agg (lkA d 0)) | 6 => SRel.is (.agg (lkA d 0)) | 7 => SRel.is (.bool false) | 8 => SRel.is (.bool false) | 9 => SRel.is (.bool false) | 10 => SRel.is (.pointer (some ⟨g, 0, none⟩)) | 11 => SRel.is (.int .i64 0) | 12 => SRel.is (.pointer (some ⟨nb, 32, none⟩)) | 13 => SRel.is (.int .i64 0) | 14 => SRel.is (.bool false) | 15 => SRel.any | _ => SRel.any) 15 (by kernel_rfl) (by kernel_rfl) (by kernel_rfl) (slotsOk_of hz0 (by kernel_rfl)) (by kernel_rfl) (of_decide_eq_true (by kernel_rfl)) ⟨?_, ?_, ?_, ?_, ?_, ?_, ?_, ?_, ?_, ?_, ?_, ?_, ?_, ?_, ?_, trivial⟩ ?_
          · refine calmL_step rfl fun a ω κ hb hu hc hK => ?_
            have h9 : a.tmps[9]?.getD undef = .int .i64 11 := (hu 9 rfl).trans e9
            have hk := Lib.hid (fun w1 (h : Below ω.heap.size ω w1) => hK (.int .i64 11) w1 rfl h)
            clear hK hu hc
            go_simp
            exact hk.out _ (Below.refl _ _)
          · refine calmL_step rfl fun a ω κ hb hu hc hK => ?_
            have h13 : a.tmps[13]?.getD undef = .int .i64 11 := (hu 13 rfl).trans e13
            have hk := Lib.hid (fun w1 (h : Below ω.heap.size ω w1) => hK (.int .i64 11) w1 rfl h)
            clear hK hu hc
            go_simp
            exact hk.out _ (Below.refl _ _)
          · refine calmL_step rfl fun a ω κ hb hu hc hK => ?_
            have h129 : a.tmps[129]?.getD undef = .int .i64 11 := hc 0 129 rfl rfl
            have h130 : a.tmps[130]?.getD undef = .int .i64 11 := hc 1 130 rfl rfl
            have hk := Lib.hid (fun w1 (h : Below ω.heap.size ω w1) => hK (.bool false) w1 rfl h)
            clear hK hu hc
            go_simp
            exact hk.out _ (Below.refl _ _)
          · refine calmL_step rfl fun a ω κ hb hu hc hK => ?_
            have h131 : a.tmps[131]?.getD undef = .bool false := hc 2 131 rfl rfl
            have hk := Lib.hid (fun w1 (h : Below ω.heap.size ω w1) => hK (.bool false) w1 rfl h)
            clear hK hu hc
            go_simp
            exact hk.out _ (Below.refl _ _)
          · refine calmL_step_guard (g := 3) (b := false) (d := 132) rfl rfl (fun a w hc => hc 3 132 rfl rfl) fun a ω κ hb hu hc hK => ?_
            have h8 : a.tmps[8]?.getD undef = .pointer (some ⟨g, 0, none⟩) := (hu 8 rfl).trans e8
            have hk := Lib.hid (fun w1 (h : Below ω.heap.size ω w1) => hK (.pointer (some ⟨g, 0, none⟩)) w1 rfl h)
            clear hK hu hc
            go_simp
            exact hk.out _ (Below.refl _ _)
          · refine calmL_step_guard (g := 3) (b := false) (d := 132) rfl rfl (fun a w hc => hc 3 132 rfl rfl) fun a ω κ hb hu hc hK => ?_
            have h133 : a.tmps[133]?.getD undef = .pointer (some ⟨g, 0, none⟩) := hc 4 133 rfl rfl
            have hk := Lib.hid (fun w1 (h : Below ω.heap.size ω w1) => hK (.agg (lkA d 0)) w1 rfl h)
            clear hK hu hc
            go_simp
            go_at_call 22
            refine (lk_Kept _ _ _ _ _ _ _ ω (hR7.out.step hb).p.lk).mono ?_
            rintro e w1 ⟨rfl, hb1⟩
            exact hk.out _ hb1
          · refine calmL_step_guard (g := 3) (b := false) (d := 132) rfl rfl (fun a w hc => hc 3 132 rfl rfl) fun a ω κ hb hu hc hK => ?_
            have h10 : a.tmps[10]?.getD undef = .pointer (some ⟨nb, 0, none⟩) := (hu 10 rfl).trans e10
            have hk := Lib.hid (fun w1 (h : Below ω.heap.size ω w1) => hK (.agg (lkA d 0)) w1 rfl h)
            clear hK hu hc
            have r1 := (hR7.out.step hb).p.row
            have r2 := (hR7.out.step hb).p.now
            go_simp
            exact hk.out _ (Below.refl _ _)
          · refine calmL_step_guard (g := 3) (b := false) (d := 132) rfl rfl (fun a w hc => hc 3 132 rfl rfl) fun a ω κ hb hu hc hK => ?_
            have h134 : a.tmps[134]?.getD undef = .agg (lkA d 0) := hc 5 134 rfl rfl
            have h135 : a.tmps[135]?.getD undef = .agg (lkA d 0) := hc 6 135 rfl rfl
            have hk := Lib.hid (fun w1 (h : Below ω.heap.size ω w1) => hK (.bool false) w1 rfl h)
            clear hK hu hc
            refine wp_neq guardLk (eval_tmp h134) (eval_tmp h135) (neqLk d 0 ω) ?_
            exact hk.out _ (Below.refl _ _)
          · refine calmL_step rfl fun a ω κ hb hu hc hK => ?_
            have h132 : a.tmps[132]?.getD undef = .bool false := hc 3 132 rfl rfl
            have h136 : a.tmps[136]?.getD undef = .bool false := hc 7 136 rfl rfl
            have hk := Lib.hid (fun w1 (h : Below ω.heap.size ω w1) => hK (.bool false) w1 rfl h)
            clear hK hu hc
            go_simp
            exact hk.out _ (Below.refl _ _)
          · refine calmL_step rfl fun a ω κ hb hu hc hK => ?_
            have h137 : a.tmps[137]?.getD undef = .bool false := hc 8 137 rfl rfl
            have hk := Lib.hid (fun w1 (h : Below ω.heap.size ω w1) => hK (.bool false) w1 rfl h)
            clear hK hu hc
            go_simp
            exact hk.out _ (Below.refl _ _)
          · refine calmL_step_guard (g := 9) (b := false) (d := 138) rfl rfl (fun a w hc => hc 9 138 rfl rfl) fun a ω κ hb hu hc hK => ?_
            have h8 : a.tmps[8]?.getD undef = .pointer (some ⟨g, 0, none⟩) := (hu 8 rfl).trans e8
            have hk := Lib.hid (fun w1 (h : Below ω.heap.size ω w1) => hK (.pointer (some ⟨g, 0, none⟩)) w1 rfl h)
            clear hK hu hc
            go_simp
            exact hk.out _ (Below.refl _ _)
          · refine calmL_step_guard (g := 9) (b := false) (d := 138) rfl rfl (fun a w hc => hc 9 138 rfl rfl) fun a ω κ hb hu hc hK => ?_
            have h139 : a.tmps[139]?.getD undef = .pointer (some ⟨g, 0, none⟩) := hc 10 139 rfl rfl
            have hk := Lib.hid (fun w1 (h : Below ω.heap.size ω w1) => hK (.int .i64 0) w1 rfl h)
            clear hK hu hc
            go_simp
            go_at_call 23
            refine (lk_Left _ _ _ _ _ _ _ ω (hR7.out.step hb).p.lk).mono ?_
            rintro e w1 ⟨rfl, rfl⟩
            exact hk.out _ (Below.refl _ _)
          · refine calmL_step_guard (g := 9) (b := false) (d := 138) rfl rfl (fun a w hc => hc 9 138 rfl rfl) fun a ω κ hb hu hc hK => ?_
            have h10 : a.tmps[10]?.getD undef = .pointer (some ⟨nb, 0, none⟩) := (hu 10 rfl).trans e10
            have hk := Lib.hid (fun w1 (h : Below ω.heap.size ω w1) => hK (.pointer (some ⟨nb, 32, none⟩)) w1 rfl h)
            clear hK hu hc
            go_simp
            exact hk.out _ (Below.refl _ _)
          · refine calmL_step_guard (g := 9) (b := false) (d := 138) rfl rfl (fun a w hc => hc 9 138 rfl rfl) fun a ω κ hb hu hc hK => ?_
            have h141 : a.tmps[141]?.getD undef = .pointer (some ⟨nb, 32, none⟩) := hc 12 141 rfl rfl
            have hk := Lib.hid (fun w1 (h : Below ω.heap.size ω w1) => hK (.int .i64 0) w1 rfl h)
            clear hK hu hc
            have c1 : ω.cell? ⟨nb, 32, none⟩ = some (.int .i64 0) := (hR7.out.step hb).p.c32
            go_simp
            exact hk.out _ (Below.refl _ _)
          · refine calmL_step_guard (g := 9) (b := false) (d := 138) rfl rfl (fun a w hc => hc 9 138 rfl rfl) fun a ω κ hb hu hc hK => ?_
            have h140 : a.tmps[140]?.getD undef = .int .i64 0 := hc 11 140 rfl rfl
            have h142 : a.tmps[142]?.getD undef = .int .i64 0 := hc 13 142 rfl rfl
            have hk := Lib.hid (fun w1 (h : Below ω.heap.size ω w1) => hK (.bool false) w1 rfl h)
            clear hK hu hc
            go_simp
            exact hk.out _ (Below.refl _ _)
          · intro aa ω hb hu hsz hdf hc
            have h129 : aa.tmps[129]?.getD undef = .int .i64 11 := hc 0 129 (by decide) rfl
            have h130 : aa.tmps[130]?.getD undef = .int .i64 11 := hc 1 130 (by decide) rfl
            have h131 : aa.tmps[131]?.getD undef = .bool false := hc 2 131 (by decide) rfl
            have h132 : aa.tmps[132]?.getD undef = .bool false := hc 3 132 (by decide) rfl
            have h133 : aa.tmps[133]?.getD undef = .pointer (some ⟨g, 0, none⟩) := hc 4 133 (by decide) rfl
            have h134 : aa.tmps[134]?.getD undef = .agg (lkA d 0) := hc 5 134 (by decide) rfl
            have h135 : aa.tmps[135]?.getD undef = .agg (lkA d 0) := hc 6 135 (by decide) rfl
            have h136 : aa.tmps[136]?.getD undef = .bool false := hc 7 136 (by decide) rfl
            have h137 : aa.tmps[137]?.getD undef = .bool false := hc 8 137 (by decide) rfl
            have h138 : aa.tmps[138]?.getD undef = .bool false := hc 9 138 (by decide) rfl
            have h139 : aa.tmps[139]?.getD undef = .pointer (some ⟨g, 0, none⟩) := hc 10 139 (by decide) rfl
            have h140 : aa.tmps[140]?.getD undef = .int .i64 0 := hc 11 140 (by decide) rfl
            have h141 : aa.tmps[141]?.getD undef = .pointer (some ⟨nb, 32, none⟩) := hc 12 141 (by decide) rfl
            have h142 : aa.tmps[142]?.getD undef = .int .i64 0 := hc 13 142 (by decide) rfl
            have h143 : aa.tmps[143]?.getD undef = .bool false := hc 14 143 (by decide) rfl
            have ha0 := hha0.out
            subst ha0
            have he := act_patchL (n := 146) 15 [false, false, false, false, false, false, false, false, false, false, false, false, false, false, false, false, false, false, false, false, false, false, false, false, false, false, false, false, false, false, false, false, false, false, false, false, false, false, false, false, false, false, false, false, false, false, false, false, false, false, false, false, false, false, false, false, false, false, false, false, false, false, false, false, false, false, false, false, false, false, false, false, false, false, false, false, false, false, false, false, false, false, false, false, false, false, false, false, false, false, false, false, false, false, false, false, false, false, false, false, false, false, false, false, false, false, false, false, false, false, false, false, false, false, false, false, false, false, false, false, false, false, false, false, false, false, false, false, false, true, true, true, true, true, true, true, true, true, true, true, true, true, true, true, false, false] rfl (by kernel_rfl) hu hsz hdf
            simp only [patch, cond_true, cond_false, Nat.reduceAdd] at he
            clear hu hsz hdf hc hha0 e8 e9 e10 e13 hz0
            rw [he]
            clear he
            generalize aa.tmps[129]?.getD undef = x129 at *
            generalize aa.tmps[130]?.getD undef = x130 at *
            generalize aa.tmps[131]?.getD undef = x131 at *
            generalize aa.tmps[132]?.getD undef = x132 at *
            generalize aa.tmps[133]?.getD undef = x133 at *
            generalize aa.tmps[134]?.getD undef = x134 at *
            generalize aa.tmps[135]?.getD undef = x135 at *
            generalize aa.tmps[136]?.getD undef = x136 at *
            generalize aa.tmps[137]?.getD undef = x137 at *
            generalize aa.tmps[138]?.getD undef = x138 at *
            generalize aa.tmps[139]?.getD undef = x139 at *
            generalize aa.tmps[140]?.getD undef = x140 at *
            generalize aa.tmps[141]?.getD undef = x141 at *
            generalize aa.tmps[142]?.getD undef = x142 at *
            generalize aa.tmps[143]?.getD undef = x143 at *
            subst h129 h130 h131 h132 h133 h134 h135 h136 h137 h138 h139 h140 h141 h142 h143
            dsimp only [List.drop]
            have hR9 := Lib.hid (hR7.out.step hb)
            clear hb hR7
            go_wp2_with fail
            go_roundw
            case rel => exact ⟨i + 1, d, 0, rfl, by omega, by omega, by omega, Lib.hid hR9.out.p⟩
            case measure => simp [intOf]; omega
        · have hb0 : (n == 0) = false := by simpa using hnz
          have c0 : W2.cell? ⟨xb, 0, none⟩ = some (.int .i64 kind) := hR.out.x.c0
          have c1 : W2.cell? ⟨xb, 1, none⟩ = some (.slice oA old.length oc) := hR.out.x.c1
          have c2 : W2.cell? ⟨xb, 2, none⟩ = some (.slice fA fresh.length fc) := hR.out.x.c2
          have cn : W2.cell? ⟨nb, 32, none⟩ = some (.int .i64 n) := hR.out.p.c32
          have fz : W2.frozen? ⟨nb, 32, none⟩ = false := hR.out.p.row.frozen 32
          have rn : Row W2 nb 33 := hR.out.p.row
          go_wp2_with fail
          clear c0 c1 c2 cn fz rn
          generalize ha0 : Act.mk _ _ = a0
          have e0 : a0.tmps[0]?.getD undef = .slice S sn cs := by rw [← ha0]; rfl
          have e10 : a0.tmps[10]?.getD undef = .pointer (some ⟨nb, 0, none⟩) := by rw [← ha0]; rfl
          have e12 : a0.tmps[12]?.getD undef = .pointer (some ⟨xb, 0, none⟩) := by rw [← ha0]; rfl
          have hz0 : a0.tmps.size = 146 := by rw [← ha0]; rfl
          have hha0 := Lib.hid ha0
          clear ha0
          refine wp_region_tailL (fun jx_ => match jx_ with | 0 => SRel.is (.slice S sn cs) | 1 => SRel.is (strV salt) | 2 => SRel.is (.pointer (some ⟨xb, 1, none⟩)) | 3 => SRel.is (.slice oA old.length oc) | 4 => SRel.is (strV old) | 5 => SRel.is (.agg (dgA xo)) | 6 => SRel.is (.pointer (some ⟨nb, 0, none⟩)) | 7 => SRel.is (.agg (dgA d)) | 8 => SRel.any | 9 => SRel.any | _ => SRel.any) 8 (by kernel_rfl) (by kernel_rfl) (by kernel_rfl) (slotsOk_of hz0 (by kernel_rfl)) (by kernel_rfl) (of_decide_eq_true (by kernel_rfl)) ⟨?_, ?_, ?_, ?_, ?_, ?_, ?_, ?_, trivial⟩ ?_
          · refine calmL_step rfl fun a ω κ hb hu hc hK => ?_
            have h0 : a.tmps[0]?.getD undef = .slice S sn cs := (hu 0 rfl).trans e0
            have hk := Lib.hid (fun w1 (h : Below ω.heap.size ω w1) => hK (.slice S sn cs) w1 rfl h)
            clear hK hu hc
            go_simp
            exact hk.out _ (Below.refl _ _)
          · refine calmL_step rfl fun a ω κ hb hu hc hK => ?_
            have h79 : a.tmps[79]?.getD undef = .slice S sn cs := hc 0 79 rfl rfl
            have hk := Lib.hid (fun w1 (h : Below ω.heap.size ω w1) => hK (strV salt) w1 rfl h)
            clear hK hu hc
            have q1 := hCs.out ω (hR.out.step hb).p.lk.bel
            go_simp
            exact hk.out _ (Below.refl _ _)
          · refine calmL_step rfl fun a ω κ hb hu hc hK => ?_
            have h12 : a.tmps[12]?.getD undef = .pointer (some ⟨xb, 0, none⟩) := (hu 12 rfl).trans e12
            have hk := Lib.hid (fun w1 (h : Below ω.heap.size ω w1) => hK (.pointer (some ⟨xb, 1, none⟩)) w1 rfl h)
            clear hK hu hc
            go_simp
            exact hk.out _ (Below.refl _ _)
          · refine calmL_step rfl fun a ω κ hb hu hc hK => ?_
            have h81 : a.tmps[81]?.getD undef = .pointer (some ⟨xb, 1, none⟩) := hc 2 81 rfl rfl
            have hk := Lib.hid (fun w1 (h : Below ω.heap.size ω w1) => hK (.slice oA old.length oc) w1 rfl h)
            clear hK hu hc
            have c1 : ω.cell? ⟨xb, 1, none⟩ = some (.slice oA old.length oc) := (hR.out.step hb).x.c1
            go_simp
            exact hk.out _ (Below.refl _ _)
          · refine calmL_step rfl fun a ω κ hb hu hc hK => ?_
            have h82 : a.tmps[82]?.getD undef = .slice oA old.length oc := hc 3 82 rfl rfl
            have hk := Lib.hid (fun w1 (h : Below ω.heap.size ω w1) => hK (strV old) w1 rfl h)
            clear hK hu hc
            have q1 := hCo.out ω (hR.out.step hb).p.lk.bel
            go_simp
            exact hk.out _ (Below.refl _ _)
          · refine calmL_step rfl fun a ω κ hb hu hc hK => ?_
            have h80 : a.tmps[80]?.getD undef = strV salt := hc 1 80 rfl rfl
            have h83 : a.tmps[83]?.getD undef = strV old := hc 4 83 rfl rfl
            have hk := Lib.hid (fun w1 (h : Below ω.heap.size ω w1) => hK (.agg (dgA xo)) w1 rfl h)
            clear hK hu hc
            go_simp
            go_at_call 24
            refine (hSo.out ω (hR.out.step hb).p.lk.bel).mono ?_
            rintro e w1 ⟨rfl, hb1⟩
            exact hk.out _ hb1
          · refine calmL_step rfl fun a ω κ hb hu hc hK => ?_
            have h10 : a.tmps[10]?.getD undef = .pointer (some ⟨nb, 0, none⟩) := (hu 10 rfl).trans e10
            have hk := Lib.hid (fun w1 (h : Below ω.heap.size ω w1) => hK (.pointer (some ⟨nb, 0, none⟩)) w1 rfl h)
            clear hK hu hc
            go_simp
            exact hk.out _ (Below.refl _ _)
          · refine calmL_step rfl fun a ω κ hb hu hc hK => ?_
            have h85 : a.tmps[85]?.getD undef = .pointer (some ⟨nb, 0, none⟩) := hc 6 85 rfl rfl
            have hk := Lib.hid (fun w1 (h : Below ω.heap.size ω w1) => hK (.agg (dgA d)) w1 rfl h)
            clear hK hu hc
            have r1 := (hR.out.step hb).p.row
            have r2 := (hR.out.step hb).p.now
            have hp := lkA_pop d n
            go_simp
            exact hk.out _ (Below.refl _ _)
          · intro aa ω hb hu hsz hdf hc
            have h79 : aa.tmps[79]?.getD undef = .slice S sn cs := hc 0 79 (by decide) rfl
            have h80 : aa.tmps[80]?.getD undef = strV salt := hc 1 80 (by decide) rfl
            have h81 : aa.tmps[81]?.getD undef = .pointer (some ⟨xb, 1, none⟩) := hc 2 81 (by decide) rfl
            have h82 : aa.tmps[82]?.getD undef = .slice oA old.length oc := hc 3 82 (by decide) rfl
            have h83 : aa.tmps[83]?.getD undef = strV old := hc 4 83 (by decide) rfl
            have h84 : aa.tmps[84]?.getD undef = .agg (dgA xo) := hc 5 84 (by decide) rfl
            have h85 : aa.tmps[85]?.getD undef = .pointer (some ⟨nb, 0, none⟩) := hc 6 85 (by decide) rfl
            have h86 : aa.tmps[86]?.getD undef = .agg (dgA d) := hc 7 86 (by decide) rfl
            have ha0 := hha0.out
            subst ha0
            have he := act_patchL (n := 146) 8 [false, false, false, false, false, false, false, false, false, false, false, false, false, false, false, false, false, false, false, false, false, false, false, false, false, false, false, false, false, false, false, false, false, false, false, false, false, false, false, false, false, false, false, false, false, false, false, false, false, false, false, false, false, false, false, false, false, false, false, false, false, false, false, false, false, false, false, false, false, false, false, false, false, false, false, false, false, false, false, true, true, true, true, true, true, true, true, false, false, false, false, false, false, false, false, false, false, false, false, false, false, false, false, false, false, false, false, false, false, false, false, false, false, false, false, false, false, false, false, false, false, false, false, false, false, false, false, false, false, false, false, false, false, false, false, false, false, false, false, false, false, false, false, false, false, false] rfl (by kernel_rfl) hu hsz hdf
            simp only [patch, cond_true, cond_false, Nat.reduceAdd] at he
            clear hu hsz hdf hc hha0 e0 e10 e12 hz0
            rw [he]
            clear he
            generalize aa.tmps[79]?.getD undef = x79 at *
            generalize aa.tmps[80]?.getD undef = x80 at *
            generalize aa.tmps[81]?.getD undef = x81 at *
            generalize aa.tmps[82]?.getD undef = x82 at *
            generalize aa.tmps[83]?.getD undef = x83 at *
            generalize aa.tmps[84]?.getD undef = x84 at *
            generalize aa.tmps[85]?.getD undef = x85 at *
            generalize aa.tmps[86]?.getD undef = x86 at *
            subst h79 h80 h81 h82 h83 h84 h85 h86
            dsimp only [List.drop]
            have hR3 := Lib.hid (hR.out.step hb)
            have q1 := hEqo.out ω
            clear hb hR
            by_cases hxd : xo = d
            · rw [decide_eq_true hxd, Bool.not_true] at q1
              refine wpList_neq guard32 rfl rfl q1 ?_
              have htc : tc = (0, 3) := by rw [hTc.out, if_neg hnz, if_pos hxd]
              clear q1 hxd hTc hnz
              have c0 : ω.cell? ⟨xb, 0, none⟩ = some (.int .i64 kind) := hR3.out.x.c0
              have c1 : ω.cell? ⟨xb, 1, none⟩ = some (.slice oA old.length oc) := hR3.out.x.c1
              have c2 : ω.cell? ⟨xb, 2, none⟩ = some (.slice fA fresh.length fc) := hR3.out.x.c2
              have cn : ω.cell? ⟨nb, 32, none⟩ = some (.int .i64 n) := hR3.out.p.c32
              have fz : ω.frozen? ⟨nb, 32, none⟩ = false := hR3.out.p.row.frozen 32
              have rn : Row ω nb 33 := hR3.out.p.row
              go_upto_region 25 with (fail)
              have hR4 := Lib.hid (hR3.out.left 3)
              clear c0 c1 c2 cn fz rn
              generalize ω.setCell ⟨nb, 32, none⟩ (.int .i64 3) = W4 at *
              clear hR3
              have c0 : W4.cell? ⟨xb, 0, none⟩ = some (.int .i64 kind) := hR4.out.x.c0
              have c1 : W4.cell? ⟨xb, 1, none⟩ = some (.slice oA old.length oc) := hR4.out.x.c1
              have c2 : W4.cell? ⟨xb, 2, none⟩ = some (.slice fA fresh.length fc) := hR4.out.x.c2
              have cn : W4.cell? ⟨nb, 32, none⟩ = some (.int .i64 3) := hR4.out.p.c32
              have fz : W4.frozen? ⟨nb, 32, none⟩ = false := hR4.out.p.row.frozen 32
              have rn : Row W4 nb 33 := hR4.out.p.row
              go_wp2_with fail
              have hcon := hTr.out W4 hR4.out.p.lk
              rw [htc] at hcon
              dsimp only at hcon
              refine (hcon).mono ?_
              rintro e w7 ⟨rfl, hl7, hk7⟩
              have hR7 := Lib.hid (hR4.out.act hl7 hk7)
              clear hl7 hk7 hcon c0 c1 c2 cn fz rn
              go_wp2_with fail
              generalize ha0 : Act.mk _ _ = a0
              have e8 : a0.tmps[8]?.getD undef = .pointer (some ⟨g, 0, none⟩) := by rw [← ha0]; rfl
              have e9 : a0.tmps[9]?.getD undef = .int .i64 0 := by rw [← ha0]; rfl
              have e10 : a0.tmps[10]?.getD undef = .pointer (some ⟨nb, 0, none⟩) := by rw [← ha0]; rfl
              have e13 : a0.tmps[13]?.getD undef = .int .i64 0 := by rw [← ha0]; rfl
              have hz0 : a0.tmps.size = 146 := by rw [← ha0]; rfl
              have hha0 := Lib.hid ha0
              clear ha0
              refine wp_region_tailL (fun jx_ => match jx_ with | 0 => SRel.is (.int .i64 0) | 1 => SRel.is (.int .i64 0) | 2 => SRel.is (.bool false) | 3 => SRel.is (.bool false) | 4 => SRel.is (.pointer (some ⟨g, 0, none⟩)) | 5 => SRel.is (.agg (lkA d 3)) | 6 => SRel.is (.agg (lkA d 3)) | 7 => SRel.is (.bool false) | 8 => SRel.is (.bool false) | 9 => SRel.is (.bool false) | 10 => SRel.is (.pointer (some ⟨g, 0, none⟩)) | 11 => SRel.is (.int .i64 3) | 12 => SRel.is (.pointer (some ⟨nb, 32, none⟩)) | 13 => SRel.is (.int .i64 3) | 14 => SRel.is (.bool false) | 15 => SRel.any | _ => SRel.any) 15 (by kernel_rfl) (by kernel_rfl) (by kernel_rfl) (slotsOk_of hz0 (by kernel_rfl)) (by kernel_rfl) (of_decide_eq_true (by kernel_rfl)) ⟨?_, ?_, ?_, ?_, ?_, ?_, ?_, ?_, ?_, ?_, ?_, ?_, ?_, ?_, ?_, trivial⟩ ?_
              · refine calmL_step rfl fun a ω κ hb hu hc hK => ?_
                have h9 : a.tmps[9]?.getD undef = .int .i64 0 := (hu 9 rfl).trans e9
                have hk := Lib.hid (fun w1 (h : Below ω.heap.size ω w1) => hK (.int .i64 0) w1 rfl h)
                clear hK hu hc
                go_simp
                exact hk.out _ (Below.refl _ _)
              · refine calmL_step rfl fun a ω κ hb hu hc hK => ?_
                have h13 : a.tmps[13]?.getD undef = .int .i64 0 := (hu 13 rfl).trans e13
                have hk := Lib.hid (fun w1 (h : Below ω.heap.size ω w1) => hK (.int .i64 0) w1 rfl h)
                clear hK hu hc
                go_simp
                exact hk.out _ (Below.refl _ _)
              · refine calmL_step rfl fun a ω κ hb hu hc hK => ?_
                have h129 : a.tmps[129]?.getD undef = .int .i64 0 := hc 0 129 rfl rfl
                have h130 : a.tmps[130]?.getD undef = .int .i64 0 := hc 1 130 rfl rfl
                have hk := Lib.hid (fun w1 (h : Below ω.heap.size ω w1) => hK (.bool false) w1 rfl h)
                clear hK hu hc
                go_simp
                exact hk.out _ (Below.refl _ _)
              · refine calmL_step rfl fun a ω κ hb hu hc hK => ?_
                have h131 : a.tmps[131]?.getD undef = .bool false := hc 2 131 rfl rfl
                have hk := Lib.hid (fun w1 (h : Below ω.heap.size ω w1) => hK (.bool false) w1 rfl h)
                clear hK hu hc
                go_simp
                exact hk.out _ (Below.refl _ _)
              · refine calmL_step_guard (g := 3) (b := false) (d := 132) rfl rfl (fun a w hc => hc 3 132 rfl rfl) fun a ω κ hb hu hc hK => ?_
                have h8 : a.tmps[8]?.getD undef = .pointer (some ⟨g, 0, none⟩) := (hu 8 rfl).trans e8
                have hk := Lib.hid (fun w1 (h : Below ω.heap.size ω w1) => hK (.pointer (some ⟨g, 0, none⟩)) w1 rfl h)
                clear hK hu hc
                go_simp
                exact hk.out _ (Below.refl _ _)
              · refine calmL_step_guard (g := 3) (b := false) (d := 132) rfl rfl (fun a w hc => hc 3 132 rfl rfl) fun a ω κ hb hu hc hK => ?_
                have h133 : a.tmps[133]?.getD undef = .pointer (some ⟨g, 0, none⟩) := hc 4 133 rfl rfl
                have hk := Lib.hid (fun w1 (h : Below ω.heap.size ω w1) => hK (.agg (lkA d 3)) w1 rfl h)
                clear hK hu hc
                go_simp
                go_at_call 22
                refine (lk_Kept _ _ _ _ _ _ _ ω (hR7.out.step hb).p.lk).mono ?_
                rintro e w1 ⟨rfl, hb1⟩
                exact hk.out _ hb1
              · refine calmL_step_guard (g := 3) (b := false) (d := 132) rfl rfl (fun a w hc => hc 3 132 rfl rfl) fun a ω κ hb hu hc hK => ?_
                have h10 : a.tmps[10]?.getD undef = .pointer (some ⟨nb, 0, none⟩) := (hu 10 rfl).trans e10
                have hk := Lib.hid (fun w1 (h : Below ω.heap.size ω w1) => hK (.agg (lkA d 3)) w1 rfl h)
                clear hK hu hc
                have r1 := (hR7.out.step hb).p.row
                have r2 := (hR7.out.step hb).p.now
                go_simp
                exact hk.out _ (Below.refl _ _)
              · refine calmL_step_guard (g := 3) (b := false) (d := 132) rfl rfl (fun a w hc => hc 3 132 rfl rfl) fun a ω κ hb hu hc hK => ?_
                have h134 : a.tmps[134]?.getD undef = .agg (lkA d 3) := hc 5 134 rfl rfl
                have h135 : a.tmps[135]?.getD undef = .agg (lkA d 3) := hc 6 135 rfl rfl
                have hk := Lib.hid (fun w1 (h : Below ω.heap.size ω w1) => hK (.bool false) w1 rfl h)
                clear hK hu hc
                refine wp_neq guardLk (eval_tmp h134) (eval_tmp h135) (neqLk d 3 ω) ?_
                exact hk.out _ (Below.refl _ _)
              · refine calmL_step rfl fun a ω κ hb hu hc hK => ?_
                have h132 : a.tmps[132]?.getD undef = .bool false := hc 3 132 rfl rfl
                have h136 : a.tmps[136]?.getD undef = .bool false := hc 7 136 rfl rfl
                have hk := Lib.hid (fun w1 (h : Below ω.heap.size ω w1) => hK (.bool false) w1 rfl h)
                clear hK hu hc
                go_simp
                exact hk.out _ (Below.refl _ _)
              · refine calmL_step rfl fun a ω κ hb hu hc hK => ?_
                have h137 : a.tmps[137]?.getD undef = .bool false := hc 8 137 rfl rfl
                have hk := Lib.hid (fun w1 (h : Below ω.heap.size ω w1) => hK (.bool false) w1 rfl h)
                clear hK hu hc
                go_simp
                exact hk.out _ (Below.refl _ _)
              · refine calmL_step_guard (g := 9) (b := false) (d := 138) rfl rfl (fun a w hc => hc 9 138 rfl rfl) fun a ω κ hb hu hc hK => ?_
                have h8 : a.tmps[8]?.getD undef = .pointer (some ⟨g, 0, none⟩) := (hu 8 rfl).trans e8
                have hk := Lib.hid (fun w1 (h : Below ω.heap.size ω w1) => hK (.pointer (some ⟨g, 0, none⟩)) w1 rfl h)
                clear hK hu hc
                go_simp
                exact hk.out _ (Below.refl _ _)
              · refine calmL_step_guard (g := 9) (b := false) (d := 138) rfl rfl (fun a w hc => hc 9 138 rfl rfl) fun a ω κ hb hu hc hK => ?_
                have h139 : a.tmps[139]?.getD undef = .pointer (some ⟨g, 0, none⟩) := hc 10 139 rfl rfl
                have hk := Lib.hid (fun w1 (h : Below ω.heap.size ω w1) => hK (.int .i64 3) w1 rfl h)
                clear hK hu hc
                go_simp
                go_at_call 23
                refine (lk_Left _ _ _ _ _ _ _ ω (hR7.out.step hb).p.lk).mono ?_
                rintro e w1 ⟨rfl, rfl⟩
                exact hk.out _ (Below.refl _ _)
              · refine calmL_step_guard (g := 9) (b := false) (d := 138) rfl rfl (fun a w hc => hc 9 138 rfl rfl) fun a ω κ hb hu hc hK => ?_
                have h10 : a.tmps[10]?.getD undef = .pointer (some ⟨nb, 0, none⟩) := (hu 10 rfl).trans e10
                have hk := Lib.hid (fun w1 (h : Below ω.heap.size ω w1) => hK (.pointer (some ⟨nb, 32, none⟩)) w1 rfl h)
                clear hK hu hc
                go_simp
                exact hk.out _ (Below.refl _ _)
              · refine calmL_step_guard (g := 9) (b := false) (d := 138) rfl rfl (fun a w hc => hc 9 138 rfl rfl) fun a ω κ hb hu hc hK => ?_
                have h141 : a.tmps[141]?.getD undef = .pointer (some ⟨nb, 32, none⟩) := hc 12 141 rfl rfl
                have hk := Lib.hid (fun w1 (h : Below ω.heap.size ω w1) => hK (.int .i64 3) w1 rfl h)
                clear hK hu hc
                have c1 : ω.cell? ⟨nb, 32, none⟩ = some (.int .i64 3) := (hR7.out.step hb).p.c32
                go_simp
                exact hk.out _ (Below.refl _ _)
              · refine calmL_step_guard (g := 9) (b := false) (d := 138) rfl rfl (fun a w hc => hc 9 138 rfl rfl) fun a ω κ hb hu hc hK => ?_
                have h140 : a.tmps[140]?.getD undef = .int .i64 3 := hc 11 140 rfl rfl
                have h142 : a.tmps[142]?.getD undef = .int .i64 3 := hc 13 142 rfl rfl
                have hk := Lib.hid (fun w1 (h : Below ω.heap.size ω w1) => hK (.bool false) w1 rfl h)
                clear hK hu hc
                go_simp
                exact hk.out _ (Below.refl _ _)
              · intro aa ω hb hu hsz hdf hc
                have h129 : aa.tmps[129]?.getD undef = .int .i64 0 := hc 0 129 (by decide) rfl
                have h130 : aa.tmps[130]?.getD undef = .int .i64 0 := hc 1 130 (by decide) rfl
                have h131 : aa.tmps[131]?.getD undef = .bool false := hc 2 131 (by decide) rfl
                have h132 : aa.tmps[132]?.getD undef = .bool false := hc 3 132 (by decide) rfl
                have h133 : aa.tmps[133]?.getD undef = .pointer (some ⟨g, 0, none⟩) := hc 4 133 (by decide) rfl
                have h134 : aa.tmps[134]?.getD undef = .agg (lkA d 3) := hc 5 134 (by decide) rfl
                have h135 : aa.tmps[135]?.getD undef = .agg (lkA d 3) := hc 6 135 (by decide) rfl
                have h136 : aa.tmps[136]?.getD undef = .bool false := hc 7 136 (by decide) rfl
                have h137 : aa.tmps[137]?.getD undef = .bool false := hc 8 137 (by decide) rfl
                have h138 : aa.tmps[138]?.getD undef = .bool false := hc 9 138 (by decide) rfl
                have h139 : aa.tmps[139]?.getD undef = .pointer (some ⟨g, 0, none⟩) := hc 10 139 (by decide) rfl
                have h140 : aa.tmps[140]?.getD undef = .int .i64 3 := hc 11 140 (by decide) rfl
                have h141 : aa.tmps[141]?.getD undef = .pointer (some ⟨nb, 32, none⟩) := hc 12 141 (by decide) rfl
                have h142 : aa.tmps[142]?.getD undef = .int .i64 3 := hc 13 142 (by decide) rfl
                have h143 : aa.tmps[143]?.getD undef = .bool false := hc 14 143 (by decide) rfl
                have ha0 := hha0.out
                subst ha0
                have he := act_patchL (n := 146) 15 [false, false, false, false, false, false, false, false, false, false, false, false, false, false, false, false, false, false, false, false, false, false, false, false, false, false, false, false, false, false, false, false, false, false, false, false, false, false, false, false, false, false, false, false, false, false, false, false, false, false, false, false, false, false, false, false, false, false, false, false, false, false, false, false, false, false, false, false, false, false, false, false, false, false, false, false, false, false, false, false, false, false, false, false, false, false, false, false, false, false, false, false, false, false, false, false, false, false, false, false, false, false, false, false, false, false, false, false, false, false, false, false, false, false, false, false, false, false, false, false, false, false, false, false, false, false, false, false, false, true, true, true, true, true, true, true, true, true, true, true, true, true, true, true, false, false] rfl (by kernel_rfl) hu hsz hdf
                simp only [patch, cond_true, cond_false, Nat.reduceAdd] at he
                clear hu hsz hdf hc hha0 e8 e9 e10 e13 hz0
                rw [he]
                clear he
                generalize aa.tmps[129]?.getD undef = x129 at *
                generalize aa.tmps[130]?.getD undef = x130 at *
                generalize aa.tmps[131]?.getD undef = x131 at *
                generalize aa.tmps[132]?.getD undef = x132 at *
                generalize aa.tmps[133]?.getD undef = x133 at *
                generalize aa.tmps[134]?.getD undef = x134 at *
                generalize aa.tmps[135]?.getD undef = x135 at *
                generalize aa.tmps[136]?.getD undef = x136 at *
                generalize aa.tmps[137]?.getD undef = x137 at *
                generalize aa.tmps[138]?.getD undef = x138 at *
                generalize aa.tmps[139]?.getD undef = x139 at *
                generalize aa.tmps[140]?.getD undef = x140 at *
                generalize aa.tmps[141]?.getD undef = x141 at *
                generalize aa.tmps[142]?.getD undef = x142 at *
                generalize aa.tmps[143]?.getD undef = x143 at *
                subst h129 h130 h131 h132 h133 h134 h135 h136 h137 h138 h139 h140 h141 h142 h143
                dsimp only [List.drop]
                have hR9 := Lib.hid (hR7.out.step hb)
                clear hb hR7
                go_wp2_with fail
                go_roundw
                case rel => exact ⟨i + 1, d, 3, rfl, by omega, by omega, by omega, Lib.hid hR9.out.p⟩
                case measure => simp [intOf]; omega
            · rw [decide_eq_false hxd, Bool.not_false] at q1
              refine wpList_neq guard32 rfl rfl q1 ?_
              have htc : tc = (10, n - 1) := by rw [hTc.out, if_neg hnz, if_neg hxd]
              clear q1 hxd hTc
              have c0 : ω.cell? ⟨xb, 0, none⟩ = some (.int .i64 kind) := hR3.out.x.c0
              have c1 : ω.cell? ⟨xb, 1, none⟩ = some (.slice oA old.length oc) := hR3.out.x.c1
              have c2 : ω.cell? ⟨xb, 2, none⟩ = some (.slice fA fresh.length fc) := hR3.out.x.c2
              have cn : ω.cell? ⟨nb, 32, none⟩ = some (.int .i64 n) := hR3.out.p.c32
              have fz : ω.frozen? ⟨nb, 32, none⟩ = false := hR3.out.p.row.frozen 32
              have rn : Row ω nb 33 := hR3.out.p.row
              go_upto_region 25 with (fail)
              have hR4 := Lib.hid (hR3.out.left (n - 1))
              clear c0 c1 c2 cn fz rn
              generalize ω.setCell ⟨nb, 32, none⟩ (.int .i64 (n - 1)) = W4 at *
              clear hR3
              have c0 : W4.cell? ⟨xb, 0, none⟩ = some (.int .i64 kind) := hR4.out.x.c0
              have c1 : W4.cell? ⟨xb, 1, none⟩ = some (.slice oA old.length oc) := hR4.out.x.c1
              have c2 : W4.cell? ⟨xb, 2, none⟩ = some (.slice fA fresh.length fc) := hR4.out.x.c2
              have cn : W4.cell? ⟨nb, 32, none⟩ = some (.int .i64 (n - 1)) := hR4.out.p.c32
              have fz : W4.frozen? ⟨nb, 32, none⟩ = false := hR4.out.p.row.frozen 32
              have rn : Row W4 nb 33 := hR4.out.p.row
              go_wp2_with fail
              have hcon := hTr.out W4 hR4.out.p.lk
              rw [htc] at hcon
              dsimp only at hcon
              refine (hcon).mono ?_
              rintro e w7 ⟨rfl, hl7, hk7⟩
              have hR7 := Lib.hid (hR4.out.act hl7 hk7)
              clear hl7 hk7 hcon c0 c1 c2 cn fz rn
              go_wp2_with fail
              generalize ha0 : Act.mk _ _ = a0
              have e8 : a0.tmps[8]?.getD undef = .pointer (some ⟨g, 0, none⟩) := by rw [← ha0]; rfl
              have e9 : a0.tmps[9]?.getD undef = .int .i64 10 := by rw [← ha0]; rfl
              have e10 : a0.tmps[10]?.getD undef = .pointer (some ⟨nb, 0, none⟩) := by rw [← ha0]; rfl
              have e13 : a0.tmps[13]?.getD undef = .int .i64 10 := by rw [← ha0]; rfl
              have hz0 : a0.tmps.size = 146 := by rw [← ha0]; rfl
              have hha0 := Lib.hid ha0
              clear ha0
              refine wp_region_tailL (fun jx_ => match jx_ with | 0 => SRel.is (.int .i64 10) | 1 => SRel.is (.int .i64 10) | 2 => SRel.is (.bool false) | 3 => SRel.is (.bool false) | 4 => SRel.is (.pointer (some ⟨g, 0, none⟩)) | 5 => SRel.is (.agg (lkA d (n - 1))) | 6 => SRel.is (.agg (lkA d (n - 1))) | 7 => SRel.is (.bool false) | 8 => SRel.is (.bool false) | 9 => SRel.is (.bool false) | 10 => SRel.is (.pointer (some ⟨g, 0, none⟩)) | 11 => SRel.is (.int .i64 (n - 1)) | 12 => SRel.is (.pointer (some ⟨nb, 32, none⟩)) | 13 => SRel.is (.int .i64 (n - 1)) | 14 => SRel.is (.bool false) | 15 => SRel.any | _ => SRel.any) 15 (by kernel_rfl) (by kernel_rfl) (by kernel_rfl) (slotsOk_of hz0 (by kernel_rfl)) (by kernel_rfl) (of_decide_eq_true (by kernel_rfl)) ⟨?_, ?_, ?_, ?_, ?_, ?_, ?_, ?_, ?_, ?_, ?_, ?_, ?_, ?_, ?_, trivial⟩ ?_
              · refine calmL_step rfl fun a ω κ hb hu hc hK => ?_
                have h9 : a.tmps[9]?.getD undef = .int .i64 10 := (hu 9 rfl).trans e9
                have hk := Lib.hid (fun w1 (h : Below ω.heap.size ω w1) => hK (.int .i64 10) w1 rfl h)
                clear hK hu hc
                go_simp
                exact hk.out _ (Below.refl _ _)
              · refine calmL_step rfl fun a ω κ hb hu hc hK => ?_
                have h13 : a.tmps[13]?.getD undef = .int .i64 10 := (hu 13 rfl).trans e13
                have hk := Lib.hid (fun w1 (h : Below ω.heap.size ω w1) => hK (.int .i64 10) w1 rfl h)
                clear hK hu hc
                go_simp
                exact hk.out _ (Below.refl _ _)
              · refine calmL_step rfl fun a ω κ hb hu hc hK => ?_
                have h129 : a.tmps[129]?.getD undef = .int .i64 10 := hc 0 129 rfl rfl
                have h130 : a.tmps[130]?.getD undef = .int .i64 10 := hc 1 130 rfl rfl
                have hk := Lib.hid (fun w1 (h : Below ω.heap.size ω w1) => hK (.bool false) w1 rfl h)
                clear hK hu hc
                go_simp
                exact hk.out _ (Below.refl _ _)
              · refine calmL_step rfl fun a ω κ hb hu hc hK => ?_
                have h131 : a.tmps[131]?.getD undef = .bool false := hc 2 131 rfl rfl
                have hk := Lib.hid (fun w1 (h : Below ω.heap.size ω w1) => hK (.bool false) w1 rfl h)
                clear hK hu hc
                go_simp
                exact hk.out _ (Below.refl _ _)
              · refine calmL_step_guard (g := 3) (b := false) (d := 132) rfl rfl (fun a w hc => hc 3 132 rfl rfl) fun a ω κ hb hu hc hK => ?_
                have h8 : a.tmps[8]?.getD undef = .pointer (some ⟨g, 0, none⟩) := (hu 8 rfl).trans e8
                have hk := Lib.hid (fun w1 (h : Below ω.heap.size ω w1) => hK (.pointer (some ⟨g, 0, none⟩)) w1 rfl h)
                clear hK hu hc
                go_simp
                exact hk.out _ (Below.refl _ _)
              · refine calmL_step_guard (g := 3) (b := false) (d := 132) rfl rfl (fun a w hc => hc 3 132 rfl rfl) fun a ω κ hb hu hc hK => ?_
                have h133 : a.tmps[133]?.getD undef = .pointer (some ⟨g, 0, none⟩) := hc 4 133 rfl rfl
                have hk := Lib.hid (fun w1 (h : Below ω.heap.size ω w1) => hK (.agg (lkA d (n - 1))) w1 rfl h)
                clear hK hu hc
                go_simp
                go_at_call 22
                refine (lk_Kept _ _ _ _ _ _ _ ω (hR7.out.step hb).p.lk).mono ?_
                rintro e w1 ⟨rfl, hb1⟩
                exact hk.out _ hb1
              · refine calmL_step_guard (g := 3) (b := false) (d := 132) rfl rfl (fun a w hc => hc 3 132 rfl rfl) fun a ω κ hb hu hc hK => ?_
                have h10 : a.tmps[10]?.getD undef = .pointer (some ⟨nb, 0, none⟩) := (hu 10 rfl).trans e10
                have hk := Lib.hid (fun w1 (h : Below ω.heap.size ω w1) => hK (.agg (lkA d (n - 1))) w1 rfl h)
                clear hK hu hc
                have r1 := (hR7.out.step hb).p.row
                have r2 := (hR7.out.step hb).p.now
                go_simp
                exact hk.out _ (Below.refl _ _)
              · refine calmL_step_guard (g := 3) (b := false) (d := 132) rfl rfl (fun a w hc => hc 3 132 rfl rfl) fun a ω κ hb hu hc hK => ?_
                have h134 : a.tmps[134]?.getD undef = .agg (lkA d (n - 1)) := hc 5 134 rfl rfl
                have h135 : a.tmps[135]?.getD undef = .agg (lkA d (n - 1)) := hc 6 135 rfl rfl
                have hk := Lib.hid (fun w1 (h : Below ω.heap.size ω w1) => hK (.bool false) w1 rfl h)
                clear hK hu hc
                refine wp_neq guardLk (eval_tmp h134) (eval_tmp h135) (neqLk d (n - 1) ω) ?_
                exact hk.out _ (Below.refl _ _)
              · refine calmL_step rfl fun a ω κ hb hu hc hK => ?_
                have h132 : a.tmps[132]?.getD undef = .bool false := hc 3 132 rfl rfl
                have h136 : a.tmps[136]?.getD undef = .bool false := hc 7 136 rfl rfl
                have hk := Lib.hid (fun w1 (h : Below ω.heap.size ω w1) => hK (.bool false) w1 rfl h)
                clear hK hu hc
                go_simp
                exact hk.out _ (Below.refl _ _)
              · refine calmL_step rfl fun a ω κ hb hu hc hK => ?_
                have h137 : a.tmps[137]?.getD undef = .bool false := hc 8 137 rfl rfl
                have hk := Lib.hid (fun w1 (h : Below ω.heap.size ω w1) => hK (.bool false) w1 rfl h)
                clear hK hu hc
                go_simp
                exact hk.out _ (Below.refl _ _)
              · refine calmL_step_guard (g := 9) (b := false) (d := 138) rfl rfl (fun a w hc => hc 9 138 rfl rfl) fun a ω κ hb hu hc hK => ?_
                have h8 : a.tmps[8]?.getD undef = .pointer (some ⟨g, 0, none⟩) := (hu 8 rfl).trans e8
                have hk := Lib.hid (fun w1 (h : Below ω.heap.size ω w1) => hK (.pointer (some ⟨g, 0, none⟩)) w1 rfl h)
                clear hK hu hc
                go_simp
                exact hk.out _ (Below.refl _ _)
              · refine calmL_step_guard (g := 9) (b := false) (d := 138) rfl rfl (fun a w hc => hc 9 138 rfl rfl) fun a ω κ hb hu hc hK => ?_
                have h139 : a.tmps[139]?.getD undef = .pointer (some ⟨g, 0, none⟩) := hc 10 139 rfl rfl
                have hk := Lib.hid (fun w1 (h : Below ω.heap.size ω w1) => hK (.int .i64 (n - 1)) w1 rfl h)
                clear hK hu hc
                go_simp
                go_at_call 23
                refine (lk_Left _ _ _ _ _ _ _ ω (hR7.out.step hb).p.lk).mono ?_
                rintro e w1 ⟨rfl, rfl⟩
                exact hk.out _ (Below.refl _ _)
              · refine calmL_step_guard (g := 9) (b := false) (d := 138) rfl rfl (fun a w hc => hc 9 138 rfl rfl) fun a ω κ hb hu hc hK => ?_
                have h10 : a.tmps[10]?.getD undef = .pointer (some ⟨nb, 0, none⟩) := (hu 10 rfl).trans e10
                have hk := Lib.hid (fun w1 (h : Below ω.heap.size ω w1) => hK (.pointer (some ⟨nb, 32, none⟩)) w1 rfl h)
                clear hK hu hc
                go_simp
                exact hk.out _ (Below.refl _ _)
              · refine calmL_step_guard (g := 9) (b := false) (d := 138) rfl rfl (fun a w hc => hc 9 138 rfl rfl) fun a ω κ hb hu hc hK => ?_
                have h141 : a.tmps[141]?.getD undef = .pointer (some ⟨nb, 32, none⟩) := hc 12 141 rfl rfl
                have hk := Lib.hid (fun w1 (h : Below ω.heap.size ω w1) => hK (.int .i64 (n - 1)) w1 rfl h)
                clear hK hu hc
                have c1 : ω.cell? ⟨nb, 32, none⟩ = some (.int .i64 (n - 1)) := (hR7.out.step hb).p.c32
                go_simp
                exact hk.out _ (Below.refl _ _)
              · refine calmL_step_guard (g := 9) (b := false) (d := 138) rfl rfl (fun a w hc => hc 9 138 rfl rfl) fun a ω κ hb hu hc hK => ?_
                have h140 : a.tmps[140]?.getD undef = .int .i64 (n - 1) := hc 11 140 rfl rfl
                have h142 : a.tmps[142]?.getD undef = .int .i64 (n - 1) := hc 13 142 rfl rfl
                have hk := Lib.hid (fun w1 (h : Below ω.heap.size ω w1) => hK (.bool false) w1 rfl h)
                clear hK hu hc
                have q1 : (((n - 1) : Int) != (n - 1)) = false := by simp
                go_simp
                exact hk.out _ (Below.refl _ _)
              · intro aa ω hb hu hsz hdf hc
                have h129 : aa.tmps[129]?.getD undef = .int .i64 10 := hc 0 129 (by decide) rfl
                have h130 : aa.tmps[130]?.getD undef = .int .i64 10 := hc 1 130 (by decide) rfl
                have h131 : aa.tmps[131]?.getD undef = .bool false := hc 2 131 (by decide) rfl
                have h132 : aa.tmps[132]?.getD undef = .bool false := hc 3 132 (by decide) rfl
                have h133 : aa.tmps[133]?.getD undef = .pointer (some ⟨g, 0, none⟩) := hc 4 133 (by decide) rfl
                have h134 : aa.tmps[134]?.getD undef = .agg (lkA d (n - 1)) := hc 5 134 (by decide) rfl
                have h135 : aa.tmps[135]?.getD undef = .agg (lkA d (n - 1)) := hc 6 135 (by decide) rfl
                have h136 : aa.tmps[136]?.getD undef = .bool false := hc 7 136 (by decide) rfl
                have h137 : aa.tmps[137]?.getD undef = .bool false := hc 8 137 (by decide) rfl
                have h138 : aa.tmps[138]?.getD undef = .bool false := hc 9 138 (by decide) rfl
                have h139 : aa.tmps[139]?.getD undef = .pointer (some ⟨g, 0, none⟩) := hc 10 139 (by decide) rfl
                have h140 : aa.tmps[140]?.getD undef = .int .i64 (n - 1) := hc 11 140 (by decide) rfl
                have h141 : aa.tmps[141]?.getD undef = .pointer (some ⟨nb, 32, none⟩) := hc 12 141 (by decide) rfl
                have h142 : aa.tmps[142]?.getD undef = .int .i64 (n - 1) := hc 13 142 (by decide) rfl
                have h143 : aa.tmps[143]?.getD undef = .bool false := hc 14 143 (by decide) rfl
                have ha0 := hha0.out
                subst ha0
                have he := act_patchL (n := 146) 15 [false, false, false, false, false, false, false, false, false, false, false, false, false, false, false, false, false, false, false, false, false, false, false, false, false, false, false, false, false, false, false, false, false, false, false, false, false, false, false, false, false, false, false, false, false, false, false, false, false, false, false, false, false, false, false, false, false, false, false, false, false, false, false, false, false, false, false, false, false, false, false, false, false, false, false, false, false, false, false, false, false, false, false, false, false, false, false, false, false, false, false, false, false, false, false, false, false, false, false, false, false, false, false, false, false, false, false, false, false, false, false, false, false, false, false, false, false, false, false, false, false, false, false, false, false, false, false, false, false, true, true, true, true, true, true, true, true, true, true, true, true, true, true, true, false, false] rfl (by kernel_rfl) hu hsz hdf
                simp only [patch, cond_true, cond_false, Nat.reduceAdd] at he
                clear hu hsz hdf hc hha0 e8 e9 e10 e13 hz0
                rw [he]
                clear he
                generalize aa.tmps[129]?.getD undef = x129 at *
                generalize aa.tmps[130]?.getD undef = x130 at *
                generalize aa.tmps[131]?.getD undef = x131 at *
                generalize aa.tmps[132]?.getD undef = x132 at *
                generalize aa.tmps[133]?.getD undef = x133 at *
                generalize aa.tmps[134]?.getD undef = x134 at *
                generalize aa.tmps[135]?.getD undef = x135 at *
                generalize aa.tmps[136]?.getD undef = x136 at *
                generalize aa.tmps[137]?.getD undef = x137 at *
                generalize aa.tmps[138]?.getD undef = x138 at *
                generalize aa.tmps[139]?.getD undef = x139 at *
                generalize aa.tmps[140]?.getD undef = x140 at *
                generalize aa.tmps[141]?.getD undef = x141 at *
                generalize aa.tmps[142]?.getD undef = x142 at *
                generalize aa.tmps[143]?.getD undef = x143 at *
                subst h129 h130 h131 h132 h133 h134 h135 h136 h137 h138 h139 h140 h141 h142 h143
                dsimp only [List.drop]
                have hR9 := Lib.hid (hR7.out.step hb)
                clear hb hR7
                go_wp2_with fail
                go_roundw
                case rel => exact ⟨i + 1, d, (n - 1), rfl, by omega, by omega, by omega, Lib.hid hR9.out.p⟩
                case measure => simp [intOf]; omega
end Go.Proofs.YtjihklaocgmlpaaDoor
