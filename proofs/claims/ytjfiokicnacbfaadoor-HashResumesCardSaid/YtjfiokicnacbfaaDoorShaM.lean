/- HashResumes: the law's function returns true. -/
import Derived.Test.YtjfiokicnacbfaaDoorShaL
import Derived.Test.YtjfiokicnacbfaaDoorShaV
import Derived.Test.YtjfiokicnacbfaaDoorShaZ
namespace Go.Proofs.YtjfiokicnacbfaaDoor
open Go.ChangeShapes Go.WideShapes Go.ChangeAt Go.RowKit
set_option maxHeartbeats 2000000
set_option maxRecDepth 100000
attribute [local irreducible] arrV
attribute [local go_sem ↓] load_state store_state execl_state execs_state load_words load_o32 store_o32
attribute [local go_sem] isHead_mk isPart_mk offOf_mk blkOf_mk isAgg_mk cellsV_mk row_drew rowAt_drew row_new_cells row_old rowAt_new rowAt_old setRow_new zero_state bs_app
def stR (f : Nat → Nat) (n : Nat) : St := ⟨fun i => be32 f (4 * i), n, fun _ => 0⟩
theorem stR_ok (f : Nat → Nat) {n : Nat} (hn : n < 18446744073709551616) : (stR f n).ok := ⟨hn, fun _ _ => by show 0 < _; omega⟩
def SRel.hs (h : Nat → W32) : SRel := ⟨fun v w => ∃ g c, v = .slice (some ⟨g, 0, none⟩) 8 c ∧ 8 ≤ c ∧ c ≤ maxLen ∧ HsAt w g h, fun _ _ _ hb ⟨g, c, h1, h2, h3, h4⟩ => ⟨g, c, h1, h2, h3, h4.below hb h4.lt⟩⟩
theorem stSumR {K : Nat → W32} {w : World} (hT : Tabs K w) (f : Nat → Nat) {n : Nat} (m : List UInt8) (hn : n < 18446744073709551616) (h64 : n % 64 = 0) : Calls Tryd.prog 13 #[.agg ((stR f n).write K m).cells] w fun e w' => e = .returned (.agg (arrK .u8 32 (dig K (fun i => be32 f (4 * i)) n m))) ∧ Below w.heap.size w w' :=
  (hash_StSum K ((stR f n).write K m) w (St.write_ok m (stR_ok f hn)) hT.c1 hT.l1).mono fun _ _ ⟨h1, h2⟩ => ⟨h1.trans (congrArg (fun h => Ending.returned (Value.agg (arrK .u8 32 (outF h)))) (write_dig (K := K) (s := stR f n) (l := m) h64 hn)), h2⟩
theorem hashResumes_no (K : Nat → W32) (f : Nat → Nat) (A : Option Addr) (p : List UInt8) (c n : Nat) (w : World) (hT : Tabs K w) (hp : Bs w A p c) (hpl : p.length ≤ 576460752303423488) (hc64 : n % 64 ≠ 0) :
    Calls Tryd.prog 4 #[.agg (arrK .u8 32 f), .int .u64 n, .slice A p.length c] w fun e w' => e = .returned (.bool true) ∧ Below w.heap.size w w' := by
  have hcf := arrK_cells .u8 32 f
  have hL0 := below_alloc w (Obj.cells (arrK .u8 32 f) 31)
  have hT0 := Lib.hid (hT.step hL0)
  have hp0 := Lib.hid (hp.step hL0)
  have hF0 : Row (w.alloc (Obj.cells (arrK .u8 32 f) 31)) w.heap.size 32 := (row_new rfl).2 hcf.1
  have hf0 : rowAt (w.alloc (Obj.cells (arrK .u8 32 f) 31)) w.heap.size = arrK .u8 32 f := rowAt_new rfl
  have hg0 : w.heap.size < (w.alloc (Obj.cells (arrK .u8 32 f) 31)).heap.size := by simp
  have hcon := Lib.hid (show ∀ w', Calls Tryd.prog 14 #[.agg (arrK .u8 32 f), .int .u64 n] w' fun e w'' => e = .returned (.tuple #[.agg (stL K []).cells, .int .i64 1]) ∧ Below w'.heap.size w' w'' from fun w' => hash_Resume_no f n w' hc64)
  have h64 := Lib.hid hc64
  have hb64 : (((n : Int) % 64) != 0) = true := by rw [bne_iff_ne]; omega
  clear hT hp hc64
  go_enter Tryd.func4, Tryd.ntmps4
  go_wp2_with fail
  generalize (w.alloc (Obj.cells (arrK .u8 32 f) 31)) = W0 at *
  refine (hcon.out _).mono ?_
  rintro e w2 ⟨rfl, hb2⟩
  have hT2 := Lib.hid (hT0.out.step hb2)
  have hp2 := Lib.hid (hp0.out.step hb2)
  have hL2 := below_step hb2 hL0 (Nat.le_refl _)
  have hF2 := row_below hF0 hb2 hg0
  have hf2 := (rowAt_below hb2 hg0).trans hf0
  have hg2 := hF2.lt
  have hcs : Cells (stL K []).cells 73 := stC_cells _ _ _
  have hRz : Row (w2.alloc (Obj.cells stZ 28)) w2.heap.size 73 := (row_new rfl).2 stZ_cells.1
  clear hb2 hL0 hT0 hp0 hF0 hf0 hcon
  have hT3 := Lib.hid (hT2.out.step (below_alloc w2 (Obj.cells (stL K []).cells 28)))
  have hp3 := Lib.hid (hp2.out.step (below_alloc w2 (Obj.cells (stL K []).cells 28)))
  have hL3 : Below w.heap.size w (w2.alloc (Obj.cells (stL K []).cells 28)) := hL2.alloc hL2.size _
  have hR3 : Row (w2.alloc (Obj.cells (stL K []).cells 28)) w2.heap.size 73 := (row_new rfl).2 hcs.1
  have hr3 : rowAt (w2.alloc (Obj.cells (stL K []).cells 28)) w2.heap.size = (stL K []).cells := rowAt_new rfl
  have hF3 : Row (w2.alloc (Obj.cells (stL K []).cells 28)) w.heap.size 32 := (row_old hg2).2 hF2
  have hf3 : rowAt (w2.alloc (Obj.cells (stL K []).cells 28)) w.heap.size = arrK .u8 32 f := (rowAt_old hg2).trans hf2
  have hg3 : w2.heap.size < (w2.alloc (Obj.cells (stL K []).cells 28)).heap.size := by simp
  have hh3 : w.heap.size < (w2.alloc (Obj.cells (stL K []).cells 28)).heap.size := by simp; omega
  go_wp2
  clear hT2 hp2 hL2 hRz hF2 hf2 hg2 hg0
  have hLw := Lib.hid hL3
  clear hL3
  generalize (w2.alloc (Obj.cells (stL K []).cells 28)) = W at *
  generalize w2.heap.size = g at *
  have hS := Lib.hid (show ∀ w', Below W.heap.size W w' → Row w' g 73 ∧ rowAt w' g = (stL K []).cells from fun w' hb => ⟨row_below hR3 hb hg3, (rowAt_below hb hg3).trans hr3⟩)
  have hSd := Lib.hid (show ∀ w', Below W.heap.size W w' → Row w' w.heap.size 32 ∧ rowAt w' w.heap.size = arrK .u8 32 f from fun w' hb => ⟨row_below hF3 hb hh3, (rowAt_below hb hh3).trans hf3⟩)
  have heq : ∀ (V : World) (f : Nat → Nat), (binOp .eql 31 (.agg (arrK .u8 32 f)) (.agg (arrK .u8 32 f))).run Tryd.prog V = .ok (.bool true) V := fun V f => by
    rw [run_eql_arrK Tryd.underlying31 Tryd.underlying5 (by kernel_rfl)]; simp
  clear hR3 hr3 hF3 hf3 hcs hcf
  refine wp_region_calm (fun i => match i with | 0 => SRel.is (.int .i64 1) | 1 => SRel.is (.bool true) | 2 => SRel.is (.bool true) | 3 => SRel.is (.agg (stL K []).cells) | 4 => SRel.is (.slice A p.length c) | 5 => SRel.is (.agg (stL K p).cells) | 6 => SRel.is (.agg (arrK .u8 32 (dig K iv 0 p))) | 7 => SRel.is (.slice A p.length c) | 8 => SRel.is (strV p) | 9 => SRel.is (.agg (arrK .u8 32 (dig K iv 0 p))) | 10 => SRel.is (.bool true) | 11 => SRel.is (.bool true) | 12 => SRel.is (.bool true) | _ => SRel.any) (by kernel_rfl) (by kernel_rfl) (by kernel_rfl) (by kernel_rfl) ⟨?_, ?_, ?_, ?_, ?_, ?_, ?_, ?_, ?_, ?_, ?_, ?_, ?_, trivial⟩ ?_
  · refine calm_step rfl fun a ω κ hb hu hc hK => ?_
    have h8 : a.tmps[8]?.getD undef = .int .i64 1 := hu 8 rfl
    have hk := Lib.hid (fun w1 (h : Below ω.heap.size ω w1) => hK (.int .i64 1) w1 rfl h)
    clear hK hu hc
    go_simp
    exact hk.out _ (Below.refl _ _)
  · refine calm_step rfl fun a ω κ hb hu hc hK => ?_
    have h18 : a.tmps[18]?.getD undef = .int .i64 1 := hc 0 18 rfl rfl
    have hk := Lib.hid (fun w1 (h : Below ω.heap.size ω w1) => hK (.bool true) w1 rfl h)
    clear hK hu hc
    go_simp
    exact hk.out _ (Below.refl _ _)
  · refine calm_step rfl fun a ω κ hb hu hc hK => ?_
    have h19 : a.tmps[19]?.getD undef = .bool true := hc 1 19 rfl rfl
    have hk := Lib.hid (fun w1 (h : Below ω.heap.size ω w1) => hK (.bool true) w1 rfl h)
    clear hK hu hc
    go_simp
    exact hk.out _ (Below.refl _ _)
  · refine calm_step_guard (g := 2) (b := true) (d := 20) rfl rfl (fun a w hc => hc 2 20 rfl rfl) fun a ω κ hb hu hc hK => ?_
    have h7 : a.tmps[7]?.getD undef = .pointer (some ⟨g, 0, none⟩) := hu 7 rfl
    have hk := Lib.hid (fun w1 (h : Below ω.heap.size ω w1) => hK (.agg (stL K []).cells) w1 rfl h)
    clear hK hu hc
    have hr := hS.out ω hb
    have hr1 := hr.1
    have hr2 := hr.2
    clear hr
    go_simp
    exact hk.out _ (Below.refl _ _)
  · refine calm_step_guard (g := 2) (b := true) (d := 20) rfl rfl (fun a w hc => hc 2 20 rfl rfl) fun a ω κ hb hu hc hK => ?_
    have h2 : a.tmps[2]?.getD undef = .slice A p.length c := hu 2 rfl
    have hk := Lib.hid (fun w1 (h : Below ω.heap.size ω w1) => hK (.slice A p.length c) w1 rfl h)
    clear hK hu hc
    go_simp
    exact hk.out _ (Below.refl _ _)
  · refine calm_step_guard (g := 2) (b := true) (d := 20) rfl rfl (fun a w hc => hc 2 20 rfl rfl) fun a ω κ hb hu hc hK => ?_
    have h21 : a.tmps[21]?.getD undef = .agg (stL K []).cells := hc 3 21 rfl rfl
    have h22 : a.tmps[22]?.getD undef = .slice A p.length c := hc 4 22 rfl rfl
    have hk := Lib.hid (fun w1 (h : Below ω.heap.size ω w1) => hK (.agg (stL K p).cells) w1 rfl h)
    clear hK hu hc
    go_simp
    go_at_call 8
    refine (writeC (K := K) (hT3.out.step hb) [] (hp3.out.step hb)).mono ?_
    rintro e w1 ⟨rfl, hb1⟩
    exact hk.out _ hb1
  · refine calm_step_guard (g := 2) (b := true) (d := 20) rfl rfl (fun a w hc => hc 2 20 rfl rfl) fun a ω κ hb hu hc hK => ?_
    have h23 : a.tmps[23]?.getD undef = .agg (stL K p).cells := hc 5 23 rfl rfl
    have hk := Lib.hid (fun w1 (h : Below ω.heap.size ω w1) => hK (.agg (arrK .u8 32 (dig K iv 0 p))) w1 rfl h)
    clear hK hu hc
    go_simp
    go_at_call 13
    refine (stSumC (K := K) (hT3.out.step hb) p).mono ?_
    rintro e w1 ⟨rfl, hb1⟩
    exact hk.out _ hb1
  · refine calm_step_guard (g := 2) (b := true) (d := 20) rfl rfl (fun a w hc => hc 2 20 rfl rfl) fun a ω κ hb hu hc hK => ?_
    have h2 : a.tmps[2]?.getD undef = .slice A p.length c := hu 2 rfl
    have hk := Lib.hid (fun w1 (h : Below ω.heap.size ω w1) => hK (.slice A p.length c) w1 rfl h)
    clear hK hu hc
    go_simp
    exact hk.out _ (Below.refl _ _)
  · refine calm_step_guard (g := 2) (b := true) (d := 20) rfl rfl (fun a w hc => hc 2 20 rfl rfl) fun a ω κ hb hu hc hK => ?_
    have h25 : a.tmps[25]?.getD undef = .slice A p.length c := hc 7 25 rfl rfl
    have hk := Lib.hid (fun w1 (h : Below ω.heap.size ω w1) => hK (strV p) w1 rfl h)
    clear hK hu hc
    have hcv := (hp3.out.step hb).conv
    go_simp
    exact hk.out _ (Below.refl _ _)
  · refine calm_step_guard (g := 2) (b := true) (d := 20) rfl rfl (fun a w hc => hc 2 20 rfl rfl) fun a ω κ hb hu hc hK => ?_
    have h26 : a.tmps[26]?.getD undef = strV p := hc 8 26 rfl rfl
    have hk := Lib.hid (fun w1 (h : Below ω.heap.size ω w1) => hK (.agg (arrK .u8 32 (dig K iv 0 p))) w1 rfl h)
    clear hK hu hc
    go_simp
    go_at_call 10
    refine (rsumC (K := K) (hT3.out.step hb) (by omega)).mono ?_
    rintro e w1 ⟨rfl, hb1⟩
    exact hk.out _ hb1
  · refine calm_step_guard (g := 2) (b := true) (d := 20) rfl rfl (fun a w hc => hc 2 20 rfl rfl) fun a ω κ hb hu hc hK => ?_
    have h24 : a.tmps[24]?.getD undef = .agg (arrK .u8 32 (dig K iv 0 p)) := hc 6 24 rfl rfl
    have h27 : a.tmps[27]?.getD undef = .agg (arrK .u8 32 (dig K iv 0 p)) := hc 9 27 rfl rfl
    have hk := Lib.hid (fun w1 (h : Below ω.heap.size ω w1) => hK (.bool true) w1 rfl h)
    clear hK hu hc
    have hq := heq ω
    go_simp
    exact hk.out _ (Below.refl _ _)
  · refine calm_step rfl fun a ω κ hb hu hc hK => ?_
    have h20 : a.tmps[20]?.getD undef = .bool true := hc 2 20 rfl rfl
    have h28 : a.tmps[28]?.getD undef = .bool true := hc 10 28 rfl rfl
    have hk := Lib.hid (fun w1 (h : Below ω.heap.size ω w1) => hK (.bool true) w1 rfl h)
    clear hK hu hc
    go_simp
    exact hk.out _ (Below.refl _ _)
  · refine calm_step rfl fun a ω κ hb hu hc hK => ?_
    have h29 : a.tmps[29]?.getD undef = .bool true := hc 11 29 rfl rfl
    have hk := Lib.hid (fun w1 (h : Below ω.heap.size ω w1) => hK (.bool true) w1 rfl h)
    clear hK hu hc
    go_simp
    exact hk.out _ (Below.refl _ _)
  · intro a w' hb hu hsz hdf hc
    have h6 : a.tmps[6]?.getD undef = .bool true := hc 12 6 rfl
    go_wp2
    exact ret_tmp rfl h6 hdf ⟨rfl, below_step hb hLw.out (Nat.le_refl _)⟩
theorem hashResumes_yes (K : Nat → W32) (f : Nat → Nat) (A : Option Addr) (p : List UInt8) (c n : Nat) (w : World) (hT : Tabs K w) (hp : Bs w A p c) (hf : ∀ i < 32, f i < 256) (hn : n < 18446744073709551616) (hpl : p.length ≤ 576460752303423488) (hc64 : n % 64 = 0) :
    Calls Tryd.prog 4 #[.agg (arrK .u8 32 f), .int .u64 n, .slice A p.length c] w fun e w' => e = .returned (.bool true) ∧ Below w.heap.size w w' := by
  have hcf := arrK_cells .u8 32 f
  have hL0 := below_alloc w (Obj.cells (arrK .u8 32 f) 31)
  have hT0 := Lib.hid (hT.step hL0)
  have hp0 := Lib.hid (hp.step hL0)
  have hF0 : Row (w.alloc (Obj.cells (arrK .u8 32 f) 31)) w.heap.size 32 := (row_new rfl).2 hcf.1
  have hf0 : rowAt (w.alloc (Obj.cells (arrK .u8 32 f) 31)) w.heap.size = arrK .u8 32 f := rowAt_new rfl
  have hg0 : w.heap.size < (w.alloc (Obj.cells (arrK .u8 32 f) 31)).heap.size := by simp
  have hcon := Lib.hid (show ∀ w', Calls Tryd.prog 14 #[.agg (arrK .u8 32 f), .int .u64 n] w' fun e w'' => e = .returned (.tuple #[.agg (stR f n).cells, .int .i64 0]) ∧ Below w'.heap.size w' w'' from fun w' => hash_Resume f n w' hc64 hf)
  have h64 := Lib.hid hc64
  have hb64 : (((n : Int) % 64) != 0) = false := by rw [bne_eq_false_iff_eq]; omega
  have hHf := Lib.hid hf
  clear hf
  clear hT hp hc64
  go_enter Tryd.func4, Tryd.ntmps4
  go_wp2_with fail
  generalize (w.alloc (Obj.cells (arrK .u8 32 f) 31)) = W0 at *
  refine (hcon.out _).mono ?_
  rintro e w2 ⟨rfl, hb2⟩
  have hT2 := Lib.hid (hT0.out.step hb2)
  have hp2 := Lib.hid (hp0.out.step hb2)
  have hL2 := below_step hb2 hL0 (Nat.le_refl _)
  have hF2 := row_below hF0 hb2 hg0
  have hf2 := (rowAt_below hb2 hg0).trans hf0
  have hg2 := hF2.lt
  have hcs : Cells (stR f n).cells 73 := stC_cells _ _ _
  have hRz : Row (w2.alloc (Obj.cells stZ 28)) w2.heap.size 73 := (row_new rfl).2 stZ_cells.1
  clear hb2 hL0 hT0 hp0 hF0 hf0 hcon
  have hT3 := Lib.hid (hT2.out.step (below_alloc w2 (Obj.cells (stR f n).cells 28)))
  have hp3 := Lib.hid (hp2.out.step (below_alloc w2 (Obj.cells (stR f n).cells 28)))
  have hL3 : Below w.heap.size w (w2.alloc (Obj.cells (stR f n).cells 28)) := hL2.alloc hL2.size _
  have hR3 : Row (w2.alloc (Obj.cells (stR f n).cells 28)) w2.heap.size 73 := (row_new rfl).2 hcs.1
  have hr3 : rowAt (w2.alloc (Obj.cells (stR f n).cells 28)) w2.heap.size = (stR f n).cells := rowAt_new rfl
  have hF3 : Row (w2.alloc (Obj.cells (stR f n).cells 28)) w.heap.size 32 := (row_old hg2).2 hF2
  have hf3 : rowAt (w2.alloc (Obj.cells (stR f n).cells 28)) w.heap.size = arrK .u8 32 f := (rowAt_old hg2).trans hf2
  have hg3 : w2.heap.size < (w2.alloc (Obj.cells (stR f n).cells 28)).heap.size := by simp
  have hh3 : w.heap.size < (w2.alloc (Obj.cells (stR f n).cells 28)).heap.size := by simp; omega
  go_wp2
  clear hT2 hp2 hL2 hRz hF2 hf2 hg2 hg0
  have hLw := Lib.hid hL3
  clear hL3
  generalize (w2.alloc (Obj.cells (stR f n).cells 28)) = W at *
  generalize w2.heap.size = g at *
  have hS := Lib.hid (show ∀ w', Below W.heap.size W w' → Row w' g 73 ∧ rowAt w' g = (stR f n).cells from fun w' hb => ⟨row_below hR3 hb hg3, (rowAt_below hb hg3).trans hr3⟩)
  have hSd := Lib.hid (show ∀ w', Below W.heap.size W w' → Row w' w.heap.size 32 ∧ rowAt w' w.heap.size = arrK .u8 32 f from fun w' hb => ⟨row_below hF3 hb hh3, (rowAt_below hb hh3).trans hf3⟩)
  have heq : ∀ (V : World) (f : Nat → Nat), (binOp .eql 31 (.agg (arrK .u8 32 f)) (.agg (arrK .u8 32 f))).run Tryd.prog V = .ok (.bool true) V := fun V f => by
    rw [run_eql_arrK Tryd.underlying31 Tryd.underlying5 (by kernel_rfl)]; simp
  clear hR3 hr3 hF3 hf3 hcs hcf
  refine wp_region_calm (fun i => match i with | 0 => SRel.is (.int .i64 0) | 1 => SRel.is (.bool true) | 2 => SRel.is (.bool true) | 3 => SRel.is (.agg (stR f n).cells) | 4 => SRel.is (.slice A p.length c) | 5 => SRel.is (.agg ((stR f n).write K p).cells) | 6 => SRel.is (.agg (arrK .u8 32 (dig K (fun i => be32 f (4 * i)) n p))) | 7 => SRel.is (.agg (arrK .u8 32 f)) | 8 => SRel.hs fun i => be32 f (4 * i) | 9 => SRel.is (.int .u64 n) | 10 => SRel.is (.slice A p.length c) | 11 => SRel.is (strV p) | 12 => SRel.is (.agg (arrK .u8 32 (dig K (fun i => be32 f (4 * i)) n p))) | 13 => SRel.is (.bool true) | 14 => SRel.is (.bool true) | 15 => SRel.is (.bool true) | _ => SRel.any) (by kernel_rfl) (by kernel_rfl) (by kernel_rfl) (by kernel_rfl) ⟨?_, ?_, ?_, ?_, ?_, ?_, ?_, ?_, ?_, ?_, ?_, ?_, ?_, ?_, ?_, ?_, trivial⟩ ?_
  · refine calm_step rfl fun a ω κ hb hu hc hK => ?_
    have h8 : a.tmps[8]?.getD undef = .int .i64 0 := hu 8 rfl
    have hk := Lib.hid (fun w1 (h : Below ω.heap.size ω w1) => hK (.int .i64 0) w1 rfl h)
    clear hK hu hc
    go_simp
    exact hk.out _ (Below.refl _ _)
  · refine calm_step rfl fun a ω κ hb hu hc hK => ?_
    have h30 : a.tmps[30]?.getD undef = .int .i64 0 := hc 0 30 rfl rfl
    have hk := Lib.hid (fun w1 (h : Below ω.heap.size ω w1) => hK (.bool true) w1 rfl h)
    clear hK hu hc
    go_simp
    exact hk.out _ (Below.refl _ _)
  · refine calm_step rfl fun a ω κ hb hu hc hK => ?_
    have h31 : a.tmps[31]?.getD undef = .bool true := hc 1 31 rfl rfl
    have hk := Lib.hid (fun w1 (h : Below ω.heap.size ω w1) => hK (.bool true) w1 rfl h)
    clear hK hu hc
    go_simp
    exact hk.out _ (Below.refl _ _)
  · refine calm_step_guard (g := 2) (b := true) (d := 32) rfl rfl (fun a w hc => hc 2 32 rfl rfl) fun a ω κ hb hu hc hK => ?_
    have h7 : a.tmps[7]?.getD undef = .pointer (some ⟨g, 0, none⟩) := hu 7 rfl
    have hk := Lib.hid (fun w1 (h : Below ω.heap.size ω w1) => hK (.agg (stR f n).cells) w1 rfl h)
    clear hK hu hc
    have hr := hS.out ω hb
    have hr1 := hr.1
    have hr2 := hr.2
    clear hr
    go_simp
    exact hk.out _ (Below.refl _ _)
  · refine calm_step_guard (g := 2) (b := true) (d := 32) rfl rfl (fun a w hc => hc 2 32 rfl rfl) fun a ω κ hb hu hc hK => ?_
    have h2 : a.tmps[2]?.getD undef = .slice A p.length c := hu 2 rfl
    have hk := Lib.hid (fun w1 (h : Below ω.heap.size ω w1) => hK (.slice A p.length c) w1 rfl h)
    clear hK hu hc
    go_simp
    exact hk.out _ (Below.refl _ _)
  · refine calm_step_guard (g := 2) (b := true) (d := 32) rfl rfl (fun a w hc => hc 2 32 rfl rfl) fun a ω κ hb hu hc hK => ?_
    have h33 : a.tmps[33]?.getD undef = .agg (stR f n).cells := hc 3 33 rfl rfl
    have h34 : a.tmps[34]?.getD undef = .slice A p.length c := hc 4 34 rfl rfl
    have hk := Lib.hid (fun w1 (h : Below ω.heap.size ω w1) => hK (.agg ((stR f n).write K p).cells) w1 rfl h)
    clear hK hu hc
    go_simp
    go_at_call 8
    refine (hash_write K A p c (stR f n) ω (stR_ok f hn) (hp3.out.step hb).rd (hp3.out.step hb).le (hp3.out.step hb).mx (hT3.out.step hb).c1 (hT3.out.step hb).l1).mono ?_
    rintro e w1 ⟨rfl, hb1⟩
    exact hk.out _ hb1
  · refine calm_step_guard (g := 2) (b := true) (d := 32) rfl rfl (fun a w hc => hc 2 32 rfl rfl) fun a ω κ hb hu hc hK => ?_
    have h35 : a.tmps[35]?.getD undef = .agg ((stR f n).write K p).cells := hc 5 35 rfl rfl
    have hk := Lib.hid (fun w1 (h : Below ω.heap.size ω w1) => hK (.agg (arrK .u8 32 (dig K (fun i => be32 f (4 * i)) n p))) w1 rfl h)
    clear hK hu hc
    go_simp
    go_at_call 13
    refine (stSumR (K := K) (hT3.out.step hb) f p hn h64.out).mono ?_
    rintro e w1 ⟨rfl, hb1⟩
    exact hk.out _ hb1
  · refine calm_step_guard (g := 2) (b := true) (d := 32) rfl rfl (fun a w hc => hc 2 32 rfl rfl) fun a ω κ hb hu hc hK => ?_
    have h3 : a.tmps[3]?.getD undef = .pointer (some ⟨w.heap.size, 0, none⟩) := hu 3 rfl
    have hk := Lib.hid (fun w1 (h : Below ω.heap.size ω w1) => hK (.agg (arrK .u8 32 f)) w1 rfl h)
    clear hK hu hc
    have hr := hSd.out ω hb
    have hr1 := hr.1
    have hr2 := hr.2
    clear hr
    go_simp
    exact hk.out _ (Below.refl _ _)
  · refine calm_step_guard (g := 2) (b := true) (d := 32) rfl rfl (fun a w hc => hc 2 32 rfl rfl) fun a ω κ hb hu hc hK => ?_
    have h37 : a.tmps[37]?.getD undef = .agg (arrK .u8 32 f) := hc 7 37 rfl rfl
    have hk := Lib.hid (fun v w1 (hv : (SRel.hs fun i => be32 f (4 * i)).p v w1) (h : Below ω.heap.size ω w1) => hK v w1 hv h)
    clear hK hu hc
    go_simp
    go_at_call 16
    refine (ref_WordsOf f _ hHf.out).mono ?_
    rintro e w1 ⟨g1, c1, rfl, h1, h2, h3, hb1⟩
    exact hk.out _ _ ⟨g1, c1, rfl, h1, h2, h3⟩ hb1
  · refine calm_step_guard (g := 2) (b := true) (d := 32) rfl rfl (fun a w hc => hc 2 32 rfl rfl) fun a ω κ hb hu hc hK => ?_
    have h1 : a.tmps[1]?.getD undef = .int .u64 n := hu 1 rfl
    have hk := Lib.hid (fun w1 (h : Below ω.heap.size ω w1) => hK (.int .u64 n) w1 rfl h)
    clear hK hu hc
    go_simp
    exact hk.out _ (Below.refl _ _)
  · refine calm_step_guard (g := 2) (b := true) (d := 32) rfl rfl (fun a w hc => hc 2 32 rfl rfl) fun a ω κ hb hu hc hK => ?_
    have h2 : a.tmps[2]?.getD undef = .slice A p.length c := hu 2 rfl
    have hk := Lib.hid (fun w1 (h : Below ω.heap.size ω w1) => hK (.slice A p.length c) w1 rfl h)
    clear hK hu hc
    go_simp
    exact hk.out _ (Below.refl _ _)
  · refine calm_step_guard (g := 2) (b := true) (d := 32) rfl rfl (fun a w hc => hc 2 32 rfl rfl) fun a ω κ hb hu hc hK => ?_
    have h40 : a.tmps[40]?.getD undef = .slice A p.length c := hc 10 40 rfl rfl
    have hk := Lib.hid (fun w1 (h : Below ω.heap.size ω w1) => hK (strV p) w1 rfl h)
    clear hK hu hc
    have hcv := (hp3.out.step hb).conv
    go_simp
    exact hk.out _ (Below.refl _ _)
  · refine calm_step_guard (g := 2) (b := true) (d := 32) rfl rfl (fun a w hc => hc 2 32 rfl rfl) fun a ω κ hb hu hc hK => ?_
    have h38 : (SRel.hs fun i => be32 f (4 * i)).p (a.tmps[38]?.getD undef) ω := hc 8 38 rfl rfl
    have h39 : a.tmps[39]?.getD undef = .int .u64 n := hc 9 39 rfl rfl
    have h41 : a.tmps[41]?.getD undef = strV p := hc 11 41 rfl rfl
    have hk := Lib.hid (fun w1 (h : Below ω.heap.size ω w1) => hK (.agg (arrK .u8 32 (dig K (fun i => be32 f (4 * i)) n p))) w1 rfl h)
    clear hK hu hc
    obtain ⟨g1, c1, h1, h2, h3, h4⟩ := h38
    go_simp
    go_at_call 15
    refine (ref_From K (fun i => be32 f (4 * i)) g1 c1 n p ω h64.out h4 h2 h3 (by omega) (hT3.out.step hb).c2 (hT3.out.step hb).l2).mono ?_
    rintro e w1 ⟨rfl, hb1⟩
    exact hk.out _ hb1
  · refine calm_step_guard (g := 2) (b := true) (d := 32) rfl rfl (fun a w hc => hc 2 32 rfl rfl) fun a ω κ hb hu hc hK => ?_
    have h36 : a.tmps[36]?.getD undef = .agg (arrK .u8 32 (dig K (fun i => be32 f (4 * i)) n p)) := hc 6 36 rfl rfl
    have h42 : a.tmps[42]?.getD undef = .agg (arrK .u8 32 (dig K (fun i => be32 f (4 * i)) n p)) := hc 12 42 rfl rfl
    have hk := Lib.hid (fun w1 (h : Below ω.heap.size ω w1) => hK (.bool true) w1 rfl h)
    clear hK hu hc
    have hq := heq ω
    go_simp
    exact hk.out _ (Below.refl _ _)
  · refine calm_step rfl fun a ω κ hb hu hc hK => ?_
    have h32 : a.tmps[32]?.getD undef = .bool true := hc 2 32 rfl rfl
    have h43 : a.tmps[43]?.getD undef = .bool true := hc 13 43 rfl rfl
    have hk := Lib.hid (fun w1 (h : Below ω.heap.size ω w1) => hK (.bool true) w1 rfl h)
    clear hK hu hc
    go_simp
    exact hk.out _ (Below.refl _ _)
  · refine calm_step rfl fun a ω κ hb hu hc hK => ?_
    have h44 : a.tmps[44]?.getD undef = .bool true := hc 14 44 rfl rfl
    have hk := Lib.hid (fun w1 (h : Below ω.heap.size ω w1) => hK (.bool true) w1 rfl h)
    clear hK hu hc
    go_simp
    exact hk.out _ (Below.refl _ _)
  · intro a w' hb hu hsz hdf hc
    have h6 : a.tmps[6]?.getD undef = .bool true := hc 15 6 rfl
    go_wp2
    exact ret_tmp rfl h6 hdf ⟨rfl, below_step hb hLw.out (Nat.le_refl _)⟩
theorem hashResumes (K : Nat → W32) (f : Nat → Nat) (A : Option Addr) (p : List UInt8) (c n : Nat) (w : World) (hT : Tabs K w) (hp : Bs w A p c) (hf : ∀ i < 32, f i < 256) (hn : n < 18446744073709551616) (hpl : p.length ≤ 576460752303423488) :
    Calls Tryd.prog 4 #[.agg (arrK .u8 32 f), .int .u64 n, .slice A p.length c] w fun e w' => e = .returned (.bool true) ∧ Below w.heap.size w w' := by
  by_cases h : n % 64 = 0
  · exact hashResumes_yes K f A p c n w hT hp hf hn hpl h
  · exact hashResumes_no K f A p c n w hT hp hpl h
end Go.Proofs.YtjfiokicnacbfaaDoor
