/- PinRestores: the law's function returns true. -/
import Derived.Test.YtjihklaocgmlpaaDoorLk5
namespace Go.Proofs.YtjihklaocgmlpaaDoor
open Go.ChangeShapes Go.WideShapes Go.ChangeAt Go.RowKit
set_option maxHeartbeats 1000000
set_option maxRecDepth 100000
theorem equalIn_d {a b : List UInt8} (ha : a.length = 32) (hb : b.length = 32) (W : World) : (Op.equalIn 10000 28 (.agg (dgA a)) (.agg (dgA b))).run Tryd.prog W = .ok (decide (a = b)) W := by
  unfold dgA
  rw [show 10000 = 9998 + 2 from rfl, run_equalIn_arrK Tryd.underlying28 Tryd.underlying5 (by kernel_rfl)]
  congr 1
  by_cases h : a = b
  · subst h; simp
  · rw [decide_eq_false h]
    exact decide_eq_false fun h' => h (dgA_inj ha hb h')
theorem lkA_pop (d : List UInt8) (n : Int) : (lkA d n).pop = dgA d := by
  have h := lkA_dg (d := d) (n := n)
  rw [Nat.zero_add, Array.extract_eq_pop (by rw [(lkA_cells d n).1])] at h
  exact h
theorem guardLk : Tryd.prog.eqGuardType Tryd.prog.depth 44 = false := by kernel_rfl
theorem wp_neq {P : Program} {dst : Option Tmp} {t t2 tt : TypeId} {x y : Operand} {pos : String} {af : Array Edge} {gd : Option (Nat × Bool)} {a : Act} {w : World} {K : Act → World → Prop} {Q : Exit → Act → World → Prop} {v u : Array Value} {r : Value}
    (hm : P.eqGuardType P.depth t = false) (hx : a.eval x = .agg v) (hy : a.eval y = .agg u) (h : (binOp .neq t (.agg v) (.agg u)).run P w = .ok r w) (hK : K (a.put dst r) w) : Oper.wp P ⟨dst, .binOp .neq t x y t2, tt, pos, af, gd⟩ a w K Q := by
  have hg := run_eqGuard_agg (P := P) (w := w) .neq t x y v u hm
  unfold Oper.wp execOp
  simp only [hx, hy, Sem.run_bind, Sem.run_pure, hg, h, Result.andThen_ok]
  exact hK
theorem neqD {a b : List UInt8} (ha : a.length = 32) (hb : b.length = 32) (W : World) : (binOp .neq 28 (.agg (dgA a)) (.agg (dgA b))).run Tryd.prog W = .ok (.bool (!decide (a = b))) W := by
  rw [run_neq_struct, equalIn_d ha hb]; rfl
theorem wpList_neq {P : Program} {ops : Array Oper} {rest : List Oper} {dst : Option Tmp} {t t2 tt : TypeId} {x y : Operand} {pos : String} {af : Array Edge} {a : Act} {w : World} {Q : Exit → Act → World → Prop} {v u : Array Value} {r : Value}
    (hm : P.eqGuardType P.depth t = false) (hx : a.eval x = .agg v) (hy : a.eval y = .agg u) (h : (binOp .neq t (.agg v) (.agg u)).run P w = .ok r w) (hK : wpList P ops Q rest (a.put dst r) w) : wpList P ops Q (⟨dst, .binOp .neq t x y t2, tt, pos, af, none⟩ :: rest) a w :=
  wpList_step fun K hK' => by
    rw [if_pos (by simp [Region.wanted])]
    exact wp_neq hm hx hy h (hK' _ _ hK)
attribute [local irreducible] arrV dgA sha lkA lockA
attribute [local go_sem ↓] load_lk store_lk load_lkp store_lkp load_o32 store_o32 load_mk
attribute [local go_sem] isHead_mk isPart_mk offOf_mk blkOf_mk isAgg_mk cellsV_mk row_drew rowAt_drew row_new_cells row_old rowAt_new rowAt_old zeroD zeroLk zero_lk lockA_lk fold_pin lkA_size
theorem pinRestores_no (A : Option Addr) (n c : Nat) (B : Option Addr) (m cp : Nat) (d : List UInt8) (left : Int) (w : World) (hl : ¬ (0 ≤ left ∧ left ≤ 3)) :
    Calls Tryd.prog 5 #[.slice A n c, .slice B m cp, .agg (lkA d left)] w fun e w' => e = .returned (.bool true) ∧ Below w.heap.size w w' := by
  have hcl := lkA_cells d left
  have hL0 := below_alloc w (Obj.cells (lkA d left) 44)
  have hR0 : Row (w.alloc (Obj.cells (lkA d left) 44)) w.heap.size 33 := (row_new rfl).2 hcl.1
  have hr0 : rowAt (w.alloc (Obj.cells (lkA d left) 44)) w.heap.size = lkA d left := rowAt_new rfl
  go_enter Tryd.func5, Tryd.ntmps5
  go_wp2_with fail
  generalize w.alloc (Obj.cells (lkA d left) 44) = W0 at *
  refine (pin_Restore_no A n c d left W0 hl).mono ?_
  rintro e w1 ⟨rfl, hb1⟩
  have hL1 := below_step hb1 hL0 (Nat.le_refl _)
  have c0 : w1.cell? ⟨w.heap.size, 32, none⟩ = some (.int .i64 left) := by
    rw [(row_below hR0 hb1 hR0.lt).cell, rowAt_below hb1 hR0.lt, hr0, lkA_32]
  clear hR0 hr0 hb1 hL0
  by_cases h0 : left < 0
  · have d1 : decide (left < 0) = true := by simpa using h0
    go_wp2
    go_ret
    exact ⟨rfl, hL1⟩
  · have d1 : decide (left < 0) = false := by simpa using h0
    have d2 : decide (3 < left) = true := by simp; omega
    go_wp2
    go_ret
    exact ⟨rfl, hL1⟩
set_option maxHeartbeats 4000000 in
theorem pinRestores (K : Nat → W32) (A : Option Addr) (salt : List UInt8) (n c : Nat) (B : Option Addr) (p : List UInt8) (m cp : Nat) (d : List UInt8) (left : Int) (w : World) (hT : Tabs K w) (hs : Bs w A salt c) (hp : Bs w B p cp) (hn : salt.length = n) (hm : p.length = m) (hn4 : n ≤ 140737488351232) (hm4 : m ≤ 140737488351232) (hd : d.length = 32) :
    Calls Tryd.prog 5 #[.slice A n c, .slice B m cp, .agg (lkA d left)] w fun e w' => e = .returned (.bool true) ∧ Below w.heap.size w w' := by
  by_cases hl : 0 ≤ left ∧ left ≤ 3
  case neg => exact pinRestores_no A n c B m cp d left w hl
  obtain ⟨hl0, hl3⟩ := hl
  have hcl := lkA_cells d left
  have hL0 := below_alloc w (Obj.cells (lkA d left) 44)
  have hR0 : Row (w.alloc (Obj.cells (lkA d left) 44)) w.heap.size 33 := (row_new rfl).2 hcl.1
  have hr0 : rowAt (w.alloc (Obj.cells (lkA d left) 44)) w.heap.size = lkA d left := rowAt_new rfl
  have hHL := Lib.hid hL0
  have hT0 := Lib.hid (hT.step hL0)
  have hs0 := Lib.hid (hs.step hL0)
  have hp0 := Lib.hid (hp.step hL0)
  have hHn := Lib.hid hn
  have hHm := Lib.hid hm
  clear hT hs hp hn hm
  have d1 : decide (left < 0) = false := by simpa using hl0
  have d2 : decide (3 < left) = false := by simpa using hl3
  go_enter Tryd.func5, Tryd.ntmps5
  go_wp2_with fail
  generalize w.alloc (Obj.cells (lkA d left) 44) = W0 at *
  refine (pin_Restore A salt n c d left W0 hs0.out hHn.out hn4 hd hl0 hl3).mono ?_
  rintro e w1 ⟨g, A2, c2, rfl, hlk⟩
  have hL1 := below_step hlk.bel hL0 (Nat.le_refl _)
  have hF := Lib.hid (show ∀ V, Below W0.heap.size W0 V → V.cell? ⟨w.heap.size, 32, none⟩ = some (.int .i64 left) ∧ Row V w.heap.size 33 ∧ rowAt V w.heap.size = lkA d left from fun V hV => ⟨by
    rw [(row_below hR0 hV hR0.lt).cell, rowAt_below hV hR0.lt, hr0, lkA_32], row_below hR0 hV hR0.lt, (rowAt_below hV hR0.lt).trans hr0⟩)
  have c0 := (hF.out w1 hlk.bel).1
  have hLk := Lib.hid hlk
  have hT1 := Lib.hid (hT0.out.step hlk.bel)
  have hs1 := Lib.hid (hs0.out.step hlk.bel)
  have hp1 := Lib.hid (hp0.out.step hlk.bel)
  have hG := Lib.hid (show ∀ V, Below w1.heap.size w1 V → V.cell? ⟨w.heap.size, 32, none⟩ = some (.int .i64 left) ∧ Row V w.heap.size 33 ∧ rowAt V w.heap.size = lkA d left from fun V hV => hF.out V (below_step hV hlk.bel (Nat.le_refl _)))
  clear hlk hF hT0 hs0 hp0 hR0 hr0 hL0
  have hne := Lib.hid (fun W => neqLk d left W)
  have heq := Lib.hid (fun W => eqlLk d left W)
  go_wp2_with fail
  clear c0
  generalize ha0 : Act.mk _ _ = a0
  have e5 : a0.tmps[5]?.getD undef = .pointer (some ⟨w.heap.size, 0, none⟩) := by rw [← ha0]; rfl
  have e7 : a0.tmps[7]?.getD undef = .pointer (some ⟨g, 0, none⟩) := by rw [← ha0]; rfl
  have e8 : a0.tmps[8]?.getD undef = .int .i64 0 := by rw [← ha0]; rfl
  have hz0 : a0.tmps.size = 65 := by rw [← ha0]; rfl
  have hha0 := Lib.hid ha0
  clear ha0
  refine wp_region_tailL (fun jx_ => match jx_ with | 0 => SRel.is (.pointer (some ⟨g, 0, none⟩)) | 1 => SRel.is (.bool false) | 2 => SRel.is (.bool false) | 3 => SRel.is (.int .i64 0) | 4 => SRel.is (.bool false) | 5 => SRel.is (.bool false) | 6 => SRel.is (.bool false) | 7 => SRel.is (.pointer (some ⟨g, 0, none⟩)) | 8 => SRel.is (.agg (lkA d left)) | 9 => SRel.is (.agg (lkA d left)) | 10 => SRel.is (.bool false) | 11 => SRel.is (.bool false) | 12 => SRel.is (.bool false) | 13 => SRel.is (.pointer (some ⟨g, 0, none⟩)) | 14 => SRel.is (.int .i64 left) | 15 => SRel.is (.pointer (some ⟨w.heap.size, 32, none⟩)) | 16 => SRel.is (.int .i64 left) | 17 => SRel.is (.bool false) | 18 => SRel.any | _ => SRel.any) 18 (by kernel_rfl) (by kernel_rfl) (by kernel_rfl) (slotsOk_of hz0 (by kernel_rfl)) (by kernel_rfl) (of_decide_eq_true (by kernel_rfl)) ⟨?_, ?_, ?_, ?_, ?_, ?_, ?_, ?_, ?_, ?_, ?_, ?_, ?_, ?_, ?_, ?_, ?_, ?_, trivial⟩ ?_
  · refine calmL_step rfl fun a ω κ hb hu hc hK => ?_
    have h7 : a.tmps[7]?.getD undef = .pointer (some ⟨g, 0, none⟩) := (hu 7 rfl).trans e7
    have hk := Lib.hid (fun w1 (h : Below ω.heap.size ω w1) => hK (.pointer (some ⟨g, 0, none⟩)) w1 rfl h)
    clear hK hu hc
    go_simp
    exact hk.out _ (Below.refl _ _)
  · refine calmL_step rfl fun a ω κ hb hu hc hK => ?_
    have h30 : a.tmps[30]?.getD undef = .pointer (some ⟨g, 0, none⟩) := hc 0 30 rfl rfl
    have hk := Lib.hid (fun w1 (h : Below ω.heap.size ω w1) => hK (.bool false) w1 rfl h)
    clear hK hu hc
    go_simp
    exact hk.out _ (Below.refl _ _)
  · refine calmL_step rfl fun a ω κ hb hu hc hK => ?_
    have h31 : a.tmps[31]?.getD undef = .bool false := hc 1 31 rfl rfl
    have hk := Lib.hid (fun w1 (h : Below ω.heap.size ω w1) => hK (.bool false) w1 rfl h)
    clear hK hu hc
    go_simp
    exact hk.out _ (Below.refl _ _)
  · refine calmL_step_guard (g := 2) (b := false) (d := 32) rfl rfl (fun a w hc => hc 2 32 rfl rfl) fun a ω κ hb hu hc hK => ?_
    have h8 : a.tmps[8]?.getD undef = .int .i64 0 := (hu 8 rfl).trans e8
    have hk := Lib.hid (fun w1 (h : Below ω.heap.size ω w1) => hK (.int .i64 0) w1 rfl h)
    clear hK hu hc
    go_simp
    exact hk.out _ (Below.refl _ _)
  · refine calmL_step_guard (g := 2) (b := false) (d := 32) rfl rfl (fun a w hc => hc 2 32 rfl rfl) fun a ω κ hb hu hc hK => ?_
    have h33 : a.tmps[33]?.getD undef = .int .i64 0 := hc 3 33 rfl rfl
    have hk := Lib.hid (fun w1 (h : Below ω.heap.size ω w1) => hK (.bool false) w1 rfl h)
    clear hK hu hc
    go_simp
    exact hk.out _ (Below.refl _ _)
  · refine calmL_step rfl fun a ω κ hb hu hc hK => ?_
    have h32 : a.tmps[32]?.getD undef = .bool false := hc 2 32 rfl rfl
    have h34 : a.tmps[34]?.getD undef = .bool false := hc 4 34 rfl rfl
    have hk := Lib.hid (fun w1 (h : Below ω.heap.size ω w1) => hK (.bool false) w1 rfl h)
    clear hK hu hc
    go_simp
    exact hk.out _ (Below.refl _ _)
  · refine calmL_step rfl fun a ω κ hb hu hc hK => ?_
    have h35 : a.tmps[35]?.getD undef = .bool false := hc 5 35 rfl rfl
    have hk := Lib.hid (fun w1 (h : Below ω.heap.size ω w1) => hK (.bool false) w1 rfl h)
    clear hK hu hc
    go_simp
    exact hk.out _ (Below.refl _ _)
  · refine calmL_step_guard (g := 6) (b := false) (d := 36) rfl rfl (fun a w hc => hc 6 36 rfl rfl) fun a ω κ hb hu hc hK => ?_
    have h7 : a.tmps[7]?.getD undef = .pointer (some ⟨g, 0, none⟩) := (hu 7 rfl).trans e7
    have hk := Lib.hid (fun w1 (h : Below ω.heap.size ω w1) => hK (.pointer (some ⟨g, 0, none⟩)) w1 rfl h)
    clear hK hu hc
    go_simp
    exact hk.out _ (Below.refl _ _)
  · refine calmL_step_guard (g := 6) (b := false) (d := 36) rfl rfl (fun a w hc => hc 6 36 rfl rfl) fun a ω κ hb hu hc hK => ?_
    have h37 : a.tmps[37]?.getD undef = .pointer (some ⟨g, 0, none⟩) := hc 7 37 rfl rfl
    have hk := Lib.hid (fun w1 (h : Below ω.heap.size ω w1) => hK (.agg (lkA d left)) w1 rfl h)
    clear hK hu hc
    go_simp
    go_at_call 22
    refine (lk_Kept _ _ _ _ _ _ _ ω (hLk.out.step hb)).mono ?_
    rintro e w1 ⟨rfl, hb1⟩
    exact hk.out _ hb1
  · refine calmL_step_guard (g := 6) (b := false) (d := 36) rfl rfl (fun a w hc => hc 6 36 rfl rfl) fun a ω κ hb hu hc hK => ?_
    have h5 : a.tmps[5]?.getD undef = .pointer (some ⟨w.heap.size, 0, none⟩) := (hu 5 rfl).trans e5
    have hk := Lib.hid (fun w1 (h : Below ω.heap.size ω w1) => hK (.agg (lkA d left)) w1 rfl h)
    clear hK hu hc
    have b1 := (hG.out ω hb).2.1
    have b2 := (hG.out ω hb).2.2
    go_simp
    exact hk.out _ (Below.refl _ _)
  · refine calmL_step_guard (g := 6) (b := false) (d := 36) rfl rfl (fun a w hc => hc 6 36 rfl rfl) fun a ω κ hb hu hc hK => ?_
    have h38 : a.tmps[38]?.getD undef = .agg (lkA d left) := hc 8 38 rfl rfl
    have h39 : a.tmps[39]?.getD undef = .agg (lkA d left) := hc 9 39 rfl rfl
    have hk := Lib.hid (fun w1 (h : Below ω.heap.size ω w1) => hK (.bool false) w1 rfl h)
    clear hK hu hc
    refine wp_neq guardLk (eval_tmp h38) (eval_tmp h39) (hne.out ω) ?_
    exact hk.out _ (Below.refl _ _)
  · refine calmL_step rfl fun a ω κ hb hu hc hK => ?_
    have h36 : a.tmps[36]?.getD undef = .bool false := hc 6 36 rfl rfl
    have h40 : a.tmps[40]?.getD undef = .bool false := hc 10 40 rfl rfl
    have hk := Lib.hid (fun w1 (h : Below ω.heap.size ω w1) => hK (.bool false) w1 rfl h)
    clear hK hu hc
    go_simp
    exact hk.out _ (Below.refl _ _)
  · refine calmL_step rfl fun a ω κ hb hu hc hK => ?_
    have h41 : a.tmps[41]?.getD undef = .bool false := hc 11 41 rfl rfl
    have hk := Lib.hid (fun w1 (h : Below ω.heap.size ω w1) => hK (.bool false) w1 rfl h)
    clear hK hu hc
    go_simp
    exact hk.out _ (Below.refl _ _)
  · refine calmL_step_guard (g := 12) (b := false) (d := 42) rfl rfl (fun a w hc => hc 12 42 rfl rfl) fun a ω κ hb hu hc hK => ?_
    have h7 : a.tmps[7]?.getD undef = .pointer (some ⟨g, 0, none⟩) := (hu 7 rfl).trans e7
    have hk := Lib.hid (fun w1 (h : Below ω.heap.size ω w1) => hK (.pointer (some ⟨g, 0, none⟩)) w1 rfl h)
    clear hK hu hc
    go_simp
    exact hk.out _ (Below.refl _ _)
  · refine calmL_step_guard (g := 12) (b := false) (d := 42) rfl rfl (fun a w hc => hc 12 42 rfl rfl) fun a ω κ hb hu hc hK => ?_
    have h43 : a.tmps[43]?.getD undef = .pointer (some ⟨g, 0, none⟩) := hc 13 43 rfl rfl
    have hk := Lib.hid (fun w1 (h : Below ω.heap.size ω w1) => hK (.int .i64 left) w1 rfl h)
    clear hK hu hc
    go_simp
    go_at_call 23
    refine (lk_Left _ _ _ _ _ _ _ ω (hLk.out.step hb)).mono ?_
    rintro e w1 ⟨rfl, rfl⟩
    exact hk.out _ (Below.refl _ _)
  · refine calmL_step_guard (g := 12) (b := false) (d := 42) rfl rfl (fun a w hc => hc 12 42 rfl rfl) fun a ω κ hb hu hc hK => ?_
    have h5 : a.tmps[5]?.getD undef = .pointer (some ⟨w.heap.size, 0, none⟩) := (hu 5 rfl).trans e5
    have hk := Lib.hid (fun w1 (h : Below ω.heap.size ω w1) => hK (.pointer (some ⟨w.heap.size, 32, none⟩)) w1 rfl h)
    clear hK hu hc
    go_simp
    exact hk.out _ (Below.refl _ _)
  · refine calmL_step_guard (g := 12) (b := false) (d := 42) rfl rfl (fun a w hc => hc 12 42 rfl rfl) fun a ω κ hb hu hc hK => ?_
    have h45 : a.tmps[45]?.getD undef = .pointer (some ⟨w.heap.size, 32, none⟩) := hc 15 45 rfl rfl
    have hk := Lib.hid (fun w1 (h : Below ω.heap.size ω w1) => hK (.int .i64 left) w1 rfl h)
    clear hK hu hc
    have b1 := (hG.out ω hb).1
    go_simp
    exact hk.out _ (Below.refl _ _)
  · refine calmL_step_guard (g := 12) (b := false) (d := 42) rfl rfl (fun a w hc => hc 12 42 rfl rfl) fun a ω κ hb hu hc hK => ?_
    have h44 : a.tmps[44]?.getD undef = .int .i64 left := hc 14 44 rfl rfl
    have h46 : a.tmps[46]?.getD undef = .int .i64 left := hc 16 46 rfl rfl
    have hk := Lib.hid (fun w1 (h : Below ω.heap.size ω w1) => hK (.bool false) w1 rfl h)
    clear hK hu hc
    have q1 : (left != left) = false := by simp
    go_simp
    exact hk.out _ (Below.refl _ _)
  · intro aa ω hb hu hsz hdf hc
    have h30 : aa.tmps[30]?.getD undef = .pointer (some ⟨g, 0, none⟩) := hc 0 30 (by decide) rfl
    have h31 : aa.tmps[31]?.getD undef = .bool false := hc 1 31 (by decide) rfl
    have h32 : aa.tmps[32]?.getD undef = .bool false := hc 2 32 (by decide) rfl
    have h33 : aa.tmps[33]?.getD undef = .int .i64 0 := hc 3 33 (by decide) rfl
    have h34 : aa.tmps[34]?.getD undef = .bool false := hc 4 34 (by decide) rfl
    have h35 : aa.tmps[35]?.getD undef = .bool false := hc 5 35 (by decide) rfl
    have h36 : aa.tmps[36]?.getD undef = .bool false := hc 6 36 (by decide) rfl
    have h37 : aa.tmps[37]?.getD undef = .pointer (some ⟨g, 0, none⟩) := hc 7 37 (by decide) rfl
    have h38 : aa.tmps[38]?.getD undef = .agg (lkA d left) := hc 8 38 (by decide) rfl
    have h39 : aa.tmps[39]?.getD undef = .agg (lkA d left) := hc 9 39 (by decide) rfl
    have h40 : aa.tmps[40]?.getD undef = .bool false := hc 10 40 (by decide) rfl
    have h41 : aa.tmps[41]?.getD undef = .bool false := hc 11 41 (by decide) rfl
    have h42 : aa.tmps[42]?.getD undef = .bool false := hc 12 42 (by decide) rfl
    have h43 : aa.tmps[43]?.getD undef = .pointer (some ⟨g, 0, none⟩) := hc 13 43 (by decide) rfl
    have h44 : aa.tmps[44]?.getD undef = .int .i64 left := hc 14 44 (by decide) rfl
    have h45 : aa.tmps[45]?.getD undef = .pointer (some ⟨w.heap.size, 32, none⟩) := hc 15 45 (by decide) rfl
    have h46 : aa.tmps[46]?.getD undef = .int .i64 left := hc 16 46 (by decide) rfl
    have h47 : aa.tmps[47]?.getD undef = .bool false := hc 17 47 (by decide) rfl
    have ha0 := hha0.out
    subst ha0
    have he := act_patchL (n := 65) 18 [false, false, false, false, false, false, false, false, false, false, false, false, false, false, false, false, false, false, false, false, false, false, false, false, false, false, false, false, false, false, true, true, true, true, true, true, true, true, true, true, true, true, true, true, true, true, true, true, false, false, false, false, false, false, false, false, false, false, false, false, false, false, false, false, false] rfl (by kernel_rfl) hu hsz hdf
    simp only [patch, cond_true, cond_false, Nat.reduceAdd] at he
    clear hu hsz hdf hc hha0 e5 e7 e8 hz0
    rw [he]
    clear he
    generalize aa.tmps[30]?.getD undef = x30 at *
    generalize aa.tmps[31]?.getD undef = x31 at *
    generalize aa.tmps[32]?.getD undef = x32 at *
    generalize aa.tmps[33]?.getD undef = x33 at *
    generalize aa.tmps[34]?.getD undef = x34 at *
    generalize aa.tmps[35]?.getD undef = x35 at *
    generalize aa.tmps[36]?.getD undef = x36 at *
    generalize aa.tmps[37]?.getD undef = x37 at *
    generalize aa.tmps[38]?.getD undef = x38 at *
    generalize aa.tmps[39]?.getD undef = x39 at *
    generalize aa.tmps[40]?.getD undef = x40 at *
    generalize aa.tmps[41]?.getD undef = x41 at *
    generalize aa.tmps[42]?.getD undef = x42 at *
    generalize aa.tmps[43]?.getD undef = x43 at *
    generalize aa.tmps[44]?.getD undef = x44 at *
    generalize aa.tmps[45]?.getD undef = x45 at *
    generalize aa.tmps[46]?.getD undef = x46 at *
    generalize aa.tmps[47]?.getD undef = x47 at *
    subst h30 h31 h32 h33 h34 h35 h36 h37 h38 h39 h40 h41 h42 h43 h44 h45 h46 h47
    clear hne heq
    have hL2 := below_step hb hL1 (Nat.le_refl _)
    have hLk2 := Lib.hid (hLk.out.step hb)
    have hT2 := Lib.hid (hT1.out.step hb)
    have hs2 := Lib.hid (hs1.out.step hb)
    have hp2 := Lib.hid (hp1.out.step hb)
    have hG2 := Lib.hid (fun V (hV : Below ω.heap.size ω V) => hG.out V (below_step hV hb (Nat.le_refl _)))
    have c0 := (hG2.out ω (Below.refl _ _)).1
    clear hLk hT1 hs1 hp1 hG hb hL1
    dsimp only [List.drop]
    generalize ω = w2 at *
    by_cases hz : left = 0
    · subst hz
      go_wp2_with fail
      refine (lk_Try0 W0 g A2 c2 salt d B m cp w2 hLk2.out).mono ?_
      rintro e w3 ⟨rfl, rfl⟩
      go_wp2
      go_ret
      exact ⟨rfl, hL2⟩
    have hb0 : (left == 0) = false := by simpa using hz
    have hxl := stretchL_len K salt p
    have hTry := Lib.hid (fun V (hV : Below w2.heap.size w2 V) => lk_Try K W0 g A2 c2 salt d left B p m cp V (hLk2.out.step hV) (hT2.out.step hV) (hp2.out.step hV) hHm.out (by omega) hl3)
    have hSt := Lib.hid (fun V (hV : Below w2.heap.size w2 V) => ref_Stretched K salt p V (hT2.out.step hV) (by rw [hHn.out]; exact hn4) (by rw [hHm.out]; exact hm4))
    have hCs := Lib.hid (fun V (hV : Below w2.heap.size w2 V) => (hs2.out.step hV).conv)
    have hCp := Lib.hid (fun V (hV : Below w2.heap.size w2 V) => (hp2.out.step hV).conv)
    rw [hHn.out] at hCs
    rw [hHm.out] at hCp
    have hcx := dgA_cells (stretchL K salt p)
    have hEq := Lib.hid (fun V => neqD hxl hd V)
    generalize stretchL K salt p = x at *
    clear hT2 hs2 hp2
    have hdg := lkA_dg (d := d) (n := left)
    have hdp := lkA_pop d left
    go_wp2_with fail
    clear c0
    generalize ha0 : Act.mk _ _ = a0
    have e0 : a0.tmps[0]?.getD undef = .slice A n c := by rw [← ha0]; rfl
    have e1 : a0.tmps[1]?.getD undef = .slice B m cp := by rw [← ha0]; rfl
    have e5 : a0.tmps[5]?.getD undef = .pointer (some ⟨w.heap.size, 0, none⟩) := by rw [← ha0]; rfl
    have hz0 : a0.tmps.size = 65 := by rw [← ha0]; rfl
    have hha0 := Lib.hid ha0
    clear ha0
    refine wp_region_tailL (fun jx_ => match jx_ with | 0 => SRel.is (.slice A n c) | 1 => SRel.is (strV salt) | 2 => SRel.is (.slice B m cp) | 3 => SRel.is (strV p) | 4 => SRel.is (.agg (dgA x)) | 5 => SRel.is (.pointer (some ⟨w.heap.size, 0, none⟩)) | 6 => SRel.is (.agg (dgA d)) | 7 => SRel.any | _ => SRel.any) 7 (by kernel_rfl) (by kernel_rfl) (by kernel_rfl) (slotsOk_of hz0 (by kernel_rfl)) (by kernel_rfl) (of_decide_eq_true (by kernel_rfl)) ⟨?_, ?_, ?_, ?_, ?_, ?_, ?_, trivial⟩ ?_
    · refine calmL_step rfl fun a ω κ hb hu hc hK => ?_
      have h0 : a.tmps[0]?.getD undef = .slice A n c := (hu 0 rfl).trans e0
      have hk := Lib.hid (fun w1 (h : Below ω.heap.size ω w1) => hK (.slice A n c) w1 rfl h)
      clear hK hu hc
      go_simp
      exact hk.out _ (Below.refl _ _)
    · refine calmL_step rfl fun a ω κ hb hu hc hK => ?_
      have h52 : a.tmps[52]?.getD undef = .slice A n c := hc 0 52 rfl rfl
      have hk := Lib.hid (fun w1 (h : Below ω.heap.size ω w1) => hK (strV salt) w1 rfl h)
      clear hK hu hc
      have q1 := hCs.out ω hb
      go_simp
      exact hk.out _ (Below.refl _ _)
    · refine calmL_step rfl fun a ω κ hb hu hc hK => ?_
      have h1 : a.tmps[1]?.getD undef = .slice B m cp := (hu 1 rfl).trans e1
      have hk := Lib.hid (fun w1 (h : Below ω.heap.size ω w1) => hK (.slice B m cp) w1 rfl h)
      clear hK hu hc
      go_simp
      exact hk.out _ (Below.refl _ _)
    · refine calmL_step rfl fun a ω κ hb hu hc hK => ?_
      have h54 : a.tmps[54]?.getD undef = .slice B m cp := hc 2 54 rfl rfl
      have hk := Lib.hid (fun w1 (h : Below ω.heap.size ω w1) => hK (strV p) w1 rfl h)
      clear hK hu hc
      have q1 := hCp.out ω hb
      go_simp
      exact hk.out _ (Below.refl _ _)
    · refine calmL_step rfl fun a ω κ hb hu hc hK => ?_
      have h53 : a.tmps[53]?.getD undef = strV salt := hc 1 53 rfl rfl
      have h55 : a.tmps[55]?.getD undef = strV p := hc 3 55 rfl rfl
      have hk := Lib.hid (fun w1 (h : Below ω.heap.size ω w1) => hK (.agg (dgA x)) w1 rfl h)
      clear hK hu hc
      go_simp
      go_at_call 24
      refine (hSt.out ω hb).mono ?_
      rintro e w1 ⟨rfl, hb1⟩
      exact hk.out _ hb1
    · refine calmL_step rfl fun a ω κ hb hu hc hK => ?_
      have h5 : a.tmps[5]?.getD undef = .pointer (some ⟨w.heap.size, 0, none⟩) := (hu 5 rfl).trans e5
      have hk := Lib.hid (fun w1 (h : Below ω.heap.size ω w1) => hK (.pointer (some ⟨w.heap.size, 0, none⟩)) w1 rfl h)
      clear hK hu hc
      go_simp
      exact hk.out _ (Below.refl _ _)
    · refine calmL_step rfl fun a ω κ hb hu hc hK => ?_
      have h57 : a.tmps[57]?.getD undef = .pointer (some ⟨w.heap.size, 0, none⟩) := hc 5 57 rfl rfl
      have hk := Lib.hid (fun w1 (h : Below ω.heap.size ω w1) => hK (.agg (dgA d)) w1 rfl h)
      clear hK hu hc
      have b1 := (hG2.out ω hb).2.1
      have b2 := (hG2.out ω hb).2.2
      go_simp
      exact hk.out _ (Below.refl _ _)
    · intro aa ω hb hu hsz hdf hc
      have h52 : aa.tmps[52]?.getD undef = .slice A n c := hc 0 52 (by decide) rfl
      have h53 : aa.tmps[53]?.getD undef = strV salt := hc 1 53 (by decide) rfl
      have h54 : aa.tmps[54]?.getD undef = .slice B m cp := hc 2 54 (by decide) rfl
      have h55 : aa.tmps[55]?.getD undef = strV p := hc 3 55 (by decide) rfl
      have h56 : aa.tmps[56]?.getD undef = .agg (dgA x) := hc 4 56 (by decide) rfl
      have h57 : aa.tmps[57]?.getD undef = .pointer (some ⟨w.heap.size, 0, none⟩) := hc 5 57 (by decide) rfl
      have h58 : aa.tmps[58]?.getD undef = .agg (dgA d) := hc 6 58 (by decide) rfl
      have ha0 := hha0.out
      subst ha0
      have he := act_patchL (n := 65) 7 [false, false, false, false, false, false, false, false, false, false, false, false, false, false, false, false, false, false, false, false, false, false, false, false, false, false, false, false, false, false, false, false, false, false, false, false, false, false, false, false, false, false, false, false, false, false, false, false, false, false, false, false, true, true, true, true, true, true, true, false, false, false, false, false, false] rfl (by kernel_rfl) hu hsz hdf
      simp only [patch, cond_true, cond_false, Nat.reduceAdd] at he
      clear hu hsz hdf hc hha0 e0 e1 e5 hz0
      rw [he]
      clear he
      generalize aa.tmps[52]?.getD undef = x52 at *
      generalize aa.tmps[53]?.getD undef = x53 at *
      generalize aa.tmps[54]?.getD undef = x54 at *
      generalize aa.tmps[55]?.getD undef = x55 at *
      generalize aa.tmps[56]?.getD undef = x56 at *
      generalize aa.tmps[57]?.getD undef = x57 at *
      generalize aa.tmps[58]?.getD undef = x58 at *
      subst h52 h53 h54 h55 h56 h57 h58
      dsimp only [List.drop]
      have q1 := hEq.out ω
      have hEnd := hTry.out ω hb
      clear hTry hSt hCs hCp hEq hG2 hLk2 hL2 hb
      by_cases hxd : x = d
      · rw [decide_eq_true hxd] at q1
        rw [if_pos hxd, if_pos hxd] at hEnd
        have hE2 := Lib.hid hEnd
        clear hxd hEnd
        refine wpList_neq guard32 rfl rfl q1 ?_
        clear q1
        go_wp2_with fail
        refine (hE2.out).mono ?_
        rintro e w3 ⟨rfl, hl3, -⟩
        have hfin := Lib.hid (hHL.out.trans (hl3.bel.mono hHL.out.size))
        clear hl3 hE2
        go_wp2
        go_ret
        exact ⟨rfl, hfin.out⟩
      · rw [decide_eq_false hxd] at q1
        rw [if_neg hxd, if_neg hxd] at hEnd
        have hE2 := Lib.hid hEnd
        clear hxd hEnd
        refine wpList_neq guard32 rfl rfl q1 ?_
        clear q1
        go_wp2_with fail
        refine (hE2.out).mono ?_
        rintro e w3 ⟨rfl, hl3, -⟩
        have hfin := Lib.hid (hHL.out.trans (hl3.bel.mono hHL.out.size))
        clear hl3 hE2
        go_wp2
        go_ret
        exact ⟨rfl, hfin.out⟩
end Go.Proofs.YtjihklaocgmlpaaDoor
