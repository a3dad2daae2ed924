/- TreeChecks: the law's function returns true. -/
import Derived.Test.YtjfiokicnacbfaaDoorTree5
namespace Go.Proofs.YtjfiokicnacbfaaDoor
open Go.ChangeShapes Go.WideShapes Go.ChangeAt Go.RowKit
set_option maxHeartbeats 1000000
set_option maxRecDepth 100000
attribute [local irreducible] arrV dgA sha
attribute [local go_sem ↓] load_o32 store_o32 execl_o32 execs_o32 load_e32 execl_e32
attribute [local go_sem] isHead_mk isPart_mk offOf_mk blkOf_mk isAgg_mk cellsV_mk row_drew rowAt_drew row_new_cells row_old rowAt_new rowAt_old zeroD ldOk_drew ldC_drew

theorem checks (K : Nat → W32) (root : List UInt8) (n i : Int) (B : Option Addr) (p : List UInt8) (cp : Nat) (A : Option Addr) (P : List (List UInt8)) (c : Nat) (w0 : World) (hT : Tabs K w0) (hp : Bs w0 B p cp) (hP : Pt w0 A P c) (hr : root.length = 32) (hpl : p.length ≤ 576460752303423488) :
    ∃ b, (∀ w, Below w0.heap.size w0 w → Calls Tryd.prog 17 #[.agg (dgA root), .int .i64 n, .int .i64 i, .slice B p.length cp, .slice A P.length c] w fun e w' => e = .returned (.bool b) ∧ Below w.heap.size w w') ∧
      (∀ w, Below w0.heap.size w0 w → Calls Tryd.prog 18 #[.agg (dgA root), .int .i64 n, .int .i64 i, .slice B p.length cp, .slice A P.length c] w fun e w' => e = .returned (.bool b) ∧ Below w.heap.size w w') := by
  by_cases h : placeOk n i
  · obtain ⟨h1, h2, h3, h4⟩ := h
    obtain ⟨n, rfl⟩ := Int.eq_ofNat_of_zero_le (show 0 ≤ n by omega)
    obtain ⟨i, rfl⟩ := Int.eq_ofNat_of_zero_le h3
    exact ⟨pathOk K root n i p P, fun w hb => tree_Check_yes K root n i B p cp A P c w (hT.step hb) (hp.step hb) (hP.step hb) hr (by omega) (by omega) (by omega),
      fun w hb => ref_Check_yes K root n i B p cp A P c w (hT.step hb) (hp.step hb) (hP.step hb) hr (by omega) (by omega) (by omega) hpl⟩
  · exact ⟨false, fun w _ => tree_Check_no root n i _ _ w h, fun w _ => ref_Check_no root n i _ _ w h⟩
theorem treeChecks (K : Nat → W32) (root : List UInt8) (n i : Int) (B : Option Addr) (p : List UInt8) (cp : Nat) (A : Option Addr) (P : List (List UInt8)) (c : Nat) (w : World) (hT : Tabs K w) (hp : Bs w B p cp) (hP : Pt w A P c) (hr : root.length = 32) (hpl : p.length ≤ 576460752303423488) :
    Calls Tryd.prog 5 #[.agg (dgA root), .int .i64 n, .int .i64 i, .slice B p.length cp, .slice A P.length c] w fun e w' => e = .returned (.bool true) ∧ Below w.heap.size w w' := by
  have hcr := dgA_cells root
  have hL0 := below_alloc w (Obj.cells (dgA root) 31)
  have hR0 : Row (w.alloc (Obj.cells (dgA root) 31)) w.heap.size 32 := (row_new rfl).2 hcr.1
  have hr0 : rowAt (w.alloc (Obj.cells (dgA root) 31)) w.heap.size = dgA root := rowAt_new rfl
  by_cases hlen : 100 < P.length
  · have hd : decide ((100 : Int) < (P.length : Int)) = true := by simp; omega
    clear hT hp hP
    go_enter Tryd.func5, Tryd.ntmps5
    go_wp2
    go_quiet (fail)
    go_wp2
    go_ret
    exact ⟨rfl, below_step (w1 := w.alloc (Obj.cells (dgA root) 31)) (below_drewN (Below.refl _ _) nq) hL0 (Nat.le_refl _)⟩
  · obtain ⟨b, hc1, hc2⟩ := checks K root n i B p cp A P c _ (hT.step hL0) (hp.step hL0) (hP.step hL0) hr hpl
    have hlen : decide ((100 : Int) < (P.length : Int)) = false := by simp; omega
    have hC1 := Lib.hid hc1
    have hC2 := Lib.hid hc2
    clear hT hp hP hc1 hc2
    go_enter Tryd.func5, Tryd.ntmps5
    go_wp2
    generalize (w.alloc (Obj.cells (dgA root) 31)) = W at *
    have hS := Lib.hid (show ∀ w', Below W.heap.size W w' → Row w' w.heap.size 32 ∧ rowAt w' w.heap.size = dgA root from fun w' hb => ⟨row_below hR0 hb hR0.lt, (rowAt_below hb hR0.lt).trans hr0⟩)
    clear hR0 hr0 hcr
    refine wp_region_calm (fun jx_ => match jx_ with | 0 => SRel.is (.slice A P.length c) | 1 => SRel.is (.int .i64 P.length) | 2 => SRel.is (.bool false) | 3 => SRel.is (.bool false) | 4 => SRel.is (.agg (dgA root)) | 5 => SRel.is (.int .i64 n) | 6 => SRel.is (.int .i64 i) | 7 => SRel.is (.slice B p.length cp) | 8 => SRel.is (.slice A P.length c) | 9 => SRel.is (.bool b) | 10 => SRel.is (.agg (dgA root)) | 11 => SRel.is (.int .i64 n) | 12 => SRel.is (.int .i64 i) | 13 => SRel.is (.slice B p.length cp) | 14 => SRel.is (.slice A P.length c) | 15 => SRel.is (.bool b) | 16 => SRel.is (.bool true) | 17 => SRel.is (.bool true) | 18 => SRel.is (.bool true) | _ => SRel.any) (by kernel_rfl) (by kernel_rfl) (by kernel_rfl) (by kernel_rfl) ⟨?_, ?_, ?_, ?_, ?_, ?_, ?_, ?_, ?_, ?_, ?_, ?_, ?_, ?_, ?_, ?_, ?_, ?_, ?_, trivial⟩ ?_
    · refine calm_step rfl fun a ω κ hb hu hc hK => ?_
      have h4 : a.tmps[4]?.getD undef = .slice A P.length c := hu 4 rfl
      have hk := Lib.hid (fun w1 (h : Below ω.heap.size ω w1) => hK (.slice A P.length c) w1 rfl h)
      clear hK hu hc
      go_simp
      exact hk.out _ (Below.refl _ _)
    · refine calm_step rfl fun a ω κ hb hu hc hK => ?_
      have h11 : a.tmps[11]?.getD undef = .slice A P.length c := hc 0 11 rfl rfl
      have hk := Lib.hid (fun w1 (h : Below ω.heap.size ω w1) => hK (.int .i64 P.length) w1 rfl h)
      clear hK hu hc
      go_simp
      exact hk.out _ (Below.refl _ _)
    · refine calm_step rfl fun a ω κ hb hu hc hK => ?_
      have h12 : a.tmps[12]?.getD undef = .int .i64 P.length := hc 1 12 rfl rfl
      have hk := Lib.hid (fun w1 (h : Below ω.heap.size ω w1) => hK (.bool false) w1 rfl h)
      clear hK hu hc
      have hq : decide ((100 : Int) < (P.length : Int)) = false := hlen
      go_simp
      exact hk.out _ (Below.refl _ _)
    · refine calm_step rfl fun a ω κ hb hu hc hK => ?_
      have h13 : a.tmps[13]?.getD undef = .bool false := hc 2 13 rfl rfl
      have hk := Lib.hid (fun w1 (h : Below ω.heap.size ω w1) => hK (.bool false) w1 rfl h)
      clear hK hu hc
      go_simp
      exact hk.out _ (Below.refl _ _)
    · refine calm_step_guard (g := 3) (b := false) (d := 14) rfl rfl (fun a w hc => hc 3 14 rfl rfl) fun a ω κ hb hu hc hK => ?_
      have h5 : a.tmps[5]?.getD undef = .pointer (some ⟨w.heap.size, 0, none⟩) := hu 5 rfl
      have hk := Lib.hid (fun w1 (h : Below ω.heap.size ω w1) => hK (.agg (dgA root)) w1 rfl h)
      clear hK hu hc
      have hr := hS.out ω hb
      have hr1 := hr.1
      have hr2 := hr.2
      clear hr
      go_simp
      exact hk.out _ (Below.refl _ _)
    · refine calm_step_guard (g := 3) (b := false) (d := 14) rfl rfl (fun a w hc => hc 3 14 rfl rfl) fun a ω κ hb hu hc hK => ?_
      have h1 : a.tmps[1]?.getD undef = .int .i64 n := hu 1 rfl
      have hk := Lib.hid (fun w1 (h : Below ω.heap.size ω w1) => hK (.int .i64 n) w1 rfl h)
      clear hK hu hc
      go_simp
      exact hk.out _ (Below.refl _ _)
    · refine calm_step_guard (g := 3) (b := false) (d := 14) rfl rfl (fun a w hc => hc 3 14 rfl rfl) fun a ω κ hb hu hc hK => ?_
      have h2 : a.tmps[2]?.getD undef = .int .i64 i := hu 2 rfl
      have hk := Lib.hid (fun w1 (h : Below ω.heap.size ω w1) => hK (.int .i64 i) w1 rfl h)
      clear hK hu hc
      go_simp
      exact hk.out _ (Below.refl _ _)
    · refine calm_step_guard (g := 3) (b := false) (d := 14) rfl rfl (fun a w hc => hc 3 14 rfl rfl) fun a ω κ hb hu hc hK => ?_
      have h3 : a.tmps[3]?.getD undef = .slice B p.length cp := hu 3 rfl
      have hk := Lib.hid (fun w1 (h : Below ω.heap.size ω w1) => hK (.slice B p.length cp) w1 rfl h)
      clear hK hu hc
      go_simp
      exact hk.out _ (Below.refl _ _)
    · refine calm_step_guard (g := 3) (b := false) (d := 14) rfl rfl (fun a w hc => hc 3 14 rfl rfl) fun a ω κ hb hu hc hK => ?_
      have h4 : a.tmps[4]?.getD undef = .slice A P.length c := hu 4 rfl
      have hk := Lib.hid (fun w1 (h : Below ω.heap.size ω w1) => hK (.slice A P.length c) w1 rfl h)
      clear hK hu hc
      go_simp
      exact hk.out _ (Below.refl _ _)
    · refine calm_step_guard (g := 3) (b := false) (d := 14) rfl rfl (fun a w hc => hc 3 14 rfl rfl) fun a ω κ hb hu hc hK => ?_
      have h15 : a.tmps[15]?.getD undef = .agg (dgA root) := hc 4 15 rfl rfl
      have h16 : a.tmps[16]?.getD undef = .int .i64 n := hc 5 16 rfl rfl
      have h17 : a.tmps[17]?.getD undef = .int .i64 i := hc 6 17 rfl rfl
      have h18 : a.tmps[18]?.getD undef = .slice B p.length cp := hc 7 18 rfl rfl
      have h19 : a.tmps[19]?.getD undef = .slice A P.length c := hc 8 19 rfl rfl
      have hk := Lib.hid (fun w1 (h : Below ω.heap.size ω w1) => hK (.bool b) w1 rfl h)
      clear hK hu hc
      go_simp
      go_at_call 17
      refine (hC1.out ω hb).mono ?_
      rintro e w1 ⟨rfl, hb1⟩
      exact hk.out _ hb1
    · refine calm_step_guard (g := 3) (b := false) (d := 14) rfl rfl (fun a w hc => hc 3 14 rfl rfl) fun a ω κ hb hu hc hK => ?_
      have h5 : a.tmps[5]?.getD undef = .pointer (some ⟨w.heap.size, 0, none⟩) := hu 5 rfl
      have hk := Lib.hid (fun w1 (h : Below ω.heap.size ω w1) => hK (.agg (dgA root)) w1 rfl h)
      clear hK hu hc
      have hr := hS.out ω hb
      have hr1 := hr.1
      have hr2 := hr.2
      clear hr
      go_simp
      exact hk.out _ (Below.refl _ _)
    · refine calm_step_guard (g := 3) (b := false) (d := 14) rfl rfl (fun a w hc => hc 3 14 rfl rfl) fun a ω κ hb hu hc hK => ?_
      have h1 : a.tmps[1]?.getD undef = .int .i64 n := hu 1 rfl
      have hk := Lib.hid (fun w1 (h : Below ω.heap.size ω w1) => hK (.int .i64 n) w1 rfl h)
      clear hK hu hc
      go_simp
      exact hk.out _ (Below.refl _ _)
    · refine calm_step_guard (g := 3) (b := false) (d := 14) rfl rfl (fun a w hc => hc 3 14 rfl rfl) fun a ω κ hb hu hc hK => ?_
      have h2 : a.tmps[2]?.getD undef = .int .i64 i := hu 2 rfl
      have hk := Lib.hid (fun w1 (h : Below ω.heap.size ω w1) => hK (.int .i64 i) w1 rfl h)
      clear hK hu hc
      go_simp
      exact hk.out _ (Below.refl _ _)
    · refine calm_step_guard (g := 3) (b := false) (d := 14) rfl rfl (fun a w hc => hc 3 14 rfl rfl) fun a ω κ hb hu hc hK => ?_
      have h3 : a.tmps[3]?.getD undef = .slice B p.length cp := hu 3 rfl
      have hk := Lib.hid (fun w1 (h : Below ω.heap.size ω w1) => hK (.slice B p.length cp) w1 rfl h)
      clear hK hu hc
      go_simp
      exact hk.out _ (Below.refl _ _)
    · refine calm_step_guard (g := 3) (b := false) (d := 14) rfl rfl (fun a w hc => hc 3 14 rfl rfl) fun a ω κ hb hu hc hK => ?_
      have h4 : a.tmps[4]?.getD undef = .slice A P.length c := hu 4 rfl
      have hk := Lib.hid (fun w1 (h : Below ω.heap.size ω w1) => hK (.slice A P.length c) w1 rfl h)
      clear hK hu hc
      go_simp
      exact hk.out _ (Below.refl _ _)
    · refine calm_step_guard (g := 3) (b := false) (d := 14) rfl rfl (fun a w hc => hc 3 14 rfl rfl) fun a ω κ hb hu hc hK => ?_
      have h21 : a.tmps[21]?.getD undef = .agg (dgA root) := hc 10 21 rfl rfl
      have h22 : a.tmps[22]?.getD undef = .int .i64 n := hc 11 22 rfl rfl
      have h23 : a.tmps[23]?.getD undef = .int .i64 i := hc 12 23 rfl rfl
      have h24 : a.tmps[24]?.getD undef = .slice B p.length cp := hc 13 24 rfl rfl
      have h25 : a.tmps[25]?.getD undef = .slice A P.length c := hc 14 25 rfl rfl
      have hk := Lib.hid (fun w1 (h : Below ω.heap.size ω w1) => hK (.bool b) w1 rfl h)
      clear hK hu hc
      go_simp
      go_at_call 18
      refine (hC2.out ω hb).mono ?_
      rintro e w1 ⟨rfl, hb1⟩
      exact hk.out _ hb1
    · refine calm_step_guard (g := 3) (b := false) (d := 14) rfl rfl (fun a w hc => hc 3 14 rfl rfl) fun a ω κ hb hu hc hK => ?_
      have h20 : a.tmps[20]?.getD undef = .bool b := hc 9 20 rfl rfl
      have h26 : a.tmps[26]?.getD undef = .bool b := hc 15 26 rfl rfl
      have hk := Lib.hid (fun w1 (h : Below ω.heap.size ω w1) => hK (.bool true) w1 rfl h)
      clear hK hu hc
      go_simp
      exact hk.out _ (Below.refl _ _)
    · refine calm_step rfl fun a ω κ hb hu hc hK => ?_
      have h14 : a.tmps[14]?.getD undef = .bool false := hc 3 14 rfl rfl
      have h27 : a.tmps[27]?.getD undef = .bool true := hc 16 27 rfl rfl
      have hk := Lib.hid (fun w1 (h : Below ω.heap.size ω w1) => hK (.bool true) w1 rfl h)
      clear hK hu hc
      go_simp
      exact hk.out _ (Below.refl _ _)
    · refine calm_step rfl fun a ω κ hb hu hc hK => ?_
      have h28 : a.tmps[28]?.getD undef = .bool true := hc 17 28 rfl rfl
      have hk := Lib.hid (fun w1 (h : Below ω.heap.size ω w1) => hK (.bool true) w1 rfl h)
      clear hK hu hc
      go_simp
      exact hk.out _ (Below.refl _ _)
    · intro a w' hb hu hsz hdf hc
      have h6 : a.tmps[10]?.getD undef = .bool true := hc 18 10 rfl
      go_wp2
      exact ret_tmp rfl h6 hdf ⟨rfl, below_step hb hL0 (Nat.le_refl _)⟩
end Go.Proofs.YtjfiokicnacbfaaDoor
