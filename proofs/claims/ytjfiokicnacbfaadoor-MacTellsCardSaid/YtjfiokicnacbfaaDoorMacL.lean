/- MacTells: the law's function returns true. -/
import Derived.Test.YtjfiokicnacbfaaDoorMac4
import Derived.Test.YtjfiokicnacbfaaDoorMac5
import Derived.Test.YtjfiokicnacbfaaDoorCalm
namespace Go.Proofs.YtjfiokicnacbfaaDoor
open Go.ChangeShapes Go.WideShapes Go.ChangeAt Go.RowKit
set_option maxHeartbeats 2000000
set_option maxRecDepth 100000
theorem mac_StMark (K : Nat → W32) (key m : List UInt8) (w : World) (hT : Tabs K w) : Calls Tryd.prog 23 #[.agg (macA K (keyL K key) m)] w fun e w' => e = .returned (.agg (dgA (markL K key m))) ∧ Below w.heap.size w w' := mac_StSum K (keyL K key) m w hT
theorem guard32 : Tryd.prog.eqGuardType Tryd.prog.depth 31 = false := by kernel_rfl
theorem wp_eql {P : Program} {dst : Option Tmp} {t t2 tt : TypeId} {x y : Operand} {pos : String} {af : Array Edge} {gd : Option (Nat × Bool)} {a : Act} {w : World} {K : Act → World → Prop} {Q : Exit → Act → World → Prop} {v u : Array Value} {r : Value}
    (hm : P.eqGuardType P.depth t = false) (hx : a.eval x = .agg v) (hy : a.eval y = .agg u) (h : (binOp .eql t (.agg v) (.agg u)).run P w = .ok r w) (hK : K (a.put dst r) w) : Oper.wp P ⟨dst, .binOp .eql t x y t2, tt, pos, af, gd⟩ a w K Q := by
  have hg := run_eqGuard_agg (P := P) (w := w) .eql t x y v u hm
  unfold Oper.wp execOp
  simp only [hx, hy, Sem.run_bind, Sem.run_pure, hg, h, Result.andThen_ok]
  exact hK
theorem eval_tmp {a : Act} {t : Tmp} {v : Value} (h : a.tmps[t]?.getD undef = v) : a.eval (.tmp t) = v := by
  rw [← h]; simp [Act.eval]
theorem eqlD_same (l : List UInt8) (W : World) : (binOp .eql 31 (.agg (dgA l)) (.agg (dgA l))).run Tryd.prog W = .ok (.bool true) W := by
  unfold dgA
  rw [run_eql_arrK Tryd.underlying31 Tryd.underlying5 (by kernel_rfl)]; simp
attribute [local irreducible] arrV dgA sha macA macZ b64A markL
attribute [local go_sem ↓] load_mac store_mac
attribute [local go_sem] isHead_mk isPart_mk offOf_mk blkOf_mk isAgg_mk cellsV_mk row_drew rowAt_drew row_new_cells row_old rowAt_new rowAt_old setRow_new zero_mac bs_app
theorem macTells (K : Nat → W32) (A : Option Addr) (key : List UInt8) (c : Nat) (B : Option Addr) (p : List UInt8) (d : Nat) (C : Option Addr) (q : List UInt8) (f : Nat) (w : World) (hT : Tabs K w) (hk : Bs w A key c) (hp : Bs w B p d) (hq : Bs w C q f) (hkl : key.length ≤ 140737488351232) (hpl : p.length ≤ 140737488351232) (hql : q.length ≤ 140737488351232) :
    Calls Tryd.prog 6 #[.slice A key.length c, .slice B p.length d, .slice C q.length f] w fun e w' => e = .returned (.bool true) ∧ Below w.heap.size w w' := by
  have hL0 : Below w.heap.size w w := Below.refl _ _
  have hT0 := Lib.hid hT
  have hk0 := Lib.hid hk
  have hp0 := Lib.hid hp
  have hq0 := Lib.hid hq
  obtain ⟨b, hb0⟩ : ∃ b, b = decide (p = q) := ⟨_, rfl⟩
  have hSame := Lib.hid (fun V (h : Bs V B p d) (h' : Bs V C q f) => mac_Same B p d C q f V h h')
  have hEq := Lib.hid (fun V (h : Bs V B p d) (h' : Bs V C q f) => bytes_Equal B p d C q f V h h')
  rw [← hb0] at hSame hEq
  have hHpq := Lib.hid (show (p ++ q).length = p.length + q.length from List.length_append)
  have hSum0 := fun V (hV : Tabs K V) (h : Bs V A key c) (h' : Bs V B p d) => mac_Sum K A key c B p d V hV h h'
  have hMk10 := fun V (hV : Tabs K V) => ref_Mark K key p V hV (by omega) (by omega)
  have hMk20 := fun V (hV : Tabs K V) => ref_Mark K key (p ++ q) V hV (by omega) (by rw [hHpq.out]; omega)
  have hNew0 := fun V (hV : Tabs K V) (h : Bs V A key c) => mac_New K A key c V hV h
  have hWr10 := fun V (hV : Tabs K V) (h : Bs V B p d) => mac_Write K (keyL K key) [] B p d V hV h
  have hWr20 := fun V (hV : Tabs K V) (h : Bs V C q f) => mac_Write K (keyL K key) p C q f V hV h
  have hSt10 := fun V (hV : Tabs K V) => mac_StMark K key p V hV
  have hSt20 := fun V (hV : Tabs K V) => mac_StMark K key (p ++ q) V hV
  have heq10 := eqlD_same (markL K key p)
  have heq20 := eqlD_same (markL K key (p ++ q))
  have hcs1 := macA_cells K (keyL K key) p
  rw [List.nil_append] at hWr10
  generalize dgA (markL K key p) = v1 at *
  generalize dgA (markL K key (p ++ q)) = v2 at *
  generalize macA K (keyL K key) p = s1 at *
  generalize macA K (keyL K key) (p ++ q) = s2 at *
  generalize macA K (keyL K key) [] = s0 at *
  have hSum := Lib.hid hSum0
  have hMk1 := Lib.hid hMk10
  have hMk2 := Lib.hid hMk20
  have hNew := Lib.hid hNew0
  have hWr1 := Lib.hid hWr10
  have hWr2 := Lib.hid hWr20
  have hSt1 := Lib.hid hSt10
  have hSt2 := Lib.hid hSt20
  have heq1 := Lib.hid heq10
  have heq2 := Lib.hid heq20
  clear hT hk hp hq hb0 hSum0 hMk10 hMk20 hNew0 hWr10 hWr20 hSt10 hSt20 heq10 heq20
  go_enter Tryd.func6, Tryd.ntmps6
  go_wp2_with fail
  refine (hNew.out _ hT0.out hk0.out).mono ?_
  rintro e w1 ⟨rfl, hb1⟩
  have hT1 := Lib.hid (hT0.out.step hb1)
  have hk1 := Lib.hid (hk0.out.step hb1)
  have hp1 := Lib.hid (hp0.out.step hb1)
  have hq1 := Lib.hid (hq0.out.step hb1)
  have hL1 := hb1
  go_wp2_with fail
  refine (hWr1.out _ hT1.out hp1.out).mono ?_
  rintro e w2 ⟨rfl, hb2⟩
  have ha := below_alloc w2 (Obj.cells s1 48)
  have hT3 := Lib.hid ((hT1.out.step hb2).step ha)
  have hk3 := Lib.hid ((hk1.out.step hb2).step ha)
  have hp3 := Lib.hid ((hp1.out.step hb2).step ha)
  have hq3 := Lib.hid ((hq1.out.step hb2).step ha)
  have hL3 := below_step ha (below_step hb2 hL1 (Nat.le_refl _)) (Nat.le_refl _)
  have hRz : Row (w2.alloc (Obj.cells macZ 48)) w2.heap.size 146 := (row_new rfl).2 macZ_cells.1
  have hR3 : Row (w2.alloc (Obj.cells s1 48)) w2.heap.size 146 := (row_new rfl).2 hcs1.1
  have hr3 : rowAt (w2.alloc (Obj.cells s1 48)) w2.heap.size = s1 := rowAt_new rfl
  clear hb1 hb2 hT0 hk0 hp0 hq0 hT1 hk1 hp1 hq1 hL0 hL1 ha
  go_wp2
  clear hRz hcs1
  generalize (w2.alloc (Obj.cells s1 48)) = W at *
  generalize w2.heap.size = g at *
  have hS := Lib.hid (show ∀ w', Below W.heap.size W w' → Row w' g 146 ∧ rowAt w' g = s1 from fun w' hb => ⟨row_below hR3 hb hR3.lt, (rowAt_below hb hR3.lt).trans hr3⟩)
  clear hR3 hr3
  refine wp_region_calm (fun jx_ => match jx_ with | 0 => SRel.is (.slice A key.length c) | 1 => SRel.is (.slice B p.length d) | 2 => SRel.is (.agg v1) | 3 => SRel.is (.slice A key.length c) | 4 => SRel.is (strV key) | 5 => SRel.is (.slice B p.length d) | 6 => SRel.is (strV p) | 7 => SRel.is (.agg v1) | 8 => SRel.is (.bool true) | 9 => SRel.is (.bool true) | 10 => SRel.is (.agg s1) | 11 => SRel.is (.slice C q.length f) | 12 => SRel.is (.agg s2) | 13 => SRel.is (.agg v2) | 14 => SRel.is (.slice A key.length c) | 15 => SRel.is (strV key) | 16 => SRel.is (.slice B p.length d) | 17 => SRel.is (strV p) | 18 => SRel.is (.slice C q.length f) | 19 => SRel.is (strV q) | 20 => SRel.is (strV (p ++ q)) | 21 => SRel.is (.agg v2) | 22 => SRel.is (.bool true) | 23 => SRel.is (.bool true) | 24 => SRel.is (.bool true) | 25 => SRel.is (.agg s1) | 26 => SRel.is (.agg v1) | 27 => SRel.is (.slice A key.length c) | 28 => SRel.is (.slice B p.length d) | 29 => SRel.is (.agg v1) | 30 => SRel.is (.bool true) | 31 => SRel.is (.bool true) | 32 => SRel.is (.bool true) | 33 => SRel.is (.slice B p.length d) | 34 => SRel.is (.slice C q.length f) | 35 => SRel.is (.bool b) | 36 => SRel.is (.slice B p.length d) | 37 => SRel.is (.slice C q.length f) | 38 => SRel.is (.bool b) | 39 => SRel.is (.bool true) | 40 => SRel.is (.bool true) | 41 => SRel.is (.bool true) | _ => SRel.any) (by kernel_rfl) (by kernel_rfl) (by kernel_rfl) (by kernel_rfl) ⟨?_, ?_, ?_, ?_, ?_, ?_, ?_, ?_, ?_, ?_, ?_, ?_, ?_, ?_, ?_, ?_, ?_, ?_, ?_, ?_, ?_, ?_, ?_, ?_, ?_, ?_, ?_, ?_, ?_, ?_, ?_, ?_, ?_, ?_, ?_, ?_, ?_, ?_, ?_, ?_, ?_, ?_, trivial⟩ ?_
  · refine calm_step rfl fun a ω κ hb hu hc hK => ?_
    have h0 : a.tmps[0]?.getD undef = .slice A key.length c := hu 0 rfl
    have hk := Lib.hid (fun w1 (h : Below ω.heap.size ω w1) => hK (.slice A key.length c) w1 rfl h)
    clear hK hu hc
    go_simp
    exact hk.out _ (Below.refl _ _)
  · refine calm_step rfl fun a ω κ hb hu hc hK => ?_
    have h1 : a.tmps[1]?.getD undef = .slice B p.length d := hu 1 rfl
    have hk := Lib.hid (fun w1 (h : Below ω.heap.size ω w1) => hK (.slice B p.length d) w1 rfl h)
    clear hK hu hc
    go_simp
    exact hk.out _ (Below.refl _ _)
  · refine calm_step rfl fun a ω κ hb hu hc hK => ?_
    have h12 : a.tmps[12]?.getD undef = .slice A key.length c := hc 0 12 rfl rfl
    have h13 : a.tmps[13]?.getD undef = .slice B p.length d := hc 1 13 rfl rfl
    have hk := Lib.hid (fun w1 (h : Below ω.heap.size ω w1) => hK (.agg v1) w1 rfl h)
    clear hK hu hc
    go_simp
    go_at_call 21
    refine (hSum.out ω (hT3.out.step hb) (hk3.out.step hb) (hp3.out.step hb)).mono ?_
    rintro e w1 ⟨rfl, hb1⟩
    exact hk.out _ hb1
  · refine calm_step rfl fun a ω κ hb hu hc hK => ?_
    have h0 : a.tmps[0]?.getD undef = .slice A key.length c := hu 0 rfl
    have hk := Lib.hid (fun w1 (h : Below ω.heap.size ω w1) => hK (.slice A key.length c) w1 rfl h)
    clear hK hu hc
    go_simp
    exact hk.out _ (Below.refl _ _)
  · refine calm_step rfl fun a ω κ hb hu hc hK => ?_
    have h15 : a.tmps[15]?.getD undef = .slice A key.length c := hc 3 15 rfl rfl
    have hk := Lib.hid (fun w1 (h : Below ω.heap.size ω w1) => hK (strV key) w1 rfl h)
    clear hK hu hc
    have hcv := (hk3.out.step hb).conv
    go_simp
    exact hk.out _ (Below.refl _ _)
  · refine calm_step rfl fun a ω κ hb hu hc hK => ?_
    have h1 : a.tmps[1]?.getD undef = .slice B p.length d := hu 1 rfl
    have hk := Lib.hid (fun w1 (h : Below ω.heap.size ω w1) => hK (.slice B p.length d) w1 rfl h)
    clear hK hu hc
    go_simp
    exact hk.out _ (Below.refl _ _)
  · refine calm_step rfl fun a ω κ hb hu hc hK => ?_
    have h17 : a.tmps[17]?.getD undef = .slice B p.length d := hc 5 17 rfl rfl
    have hk := Lib.hid (fun w1 (h : Below ω.heap.size ω w1) => hK (strV p) w1 rfl h)
    clear hK hu hc
    have hcv := (hp3.out.step hb).conv
    go_simp
    exact hk.out _ (Below.refl _ _)
  · refine calm_step rfl fun a ω κ hb hu hc hK => ?_
    have h16 : a.tmps[16]?.getD undef = strV key := hc 4 16 rfl rfl
    have h18 : a.tmps[18]?.getD undef = strV p := hc 6 18 rfl rfl
    have hk := Lib.hid (fun w1 (h : Below ω.heap.size ω w1) => hK (.agg v1) w1 rfl h)
    clear hK hu hc
    go_simp
    go_at_call 22
    refine (hMk1.out ω (hT3.out.step hb)).mono ?_
    rintro e w1 ⟨rfl, hb1⟩
    exact hk.out _ hb1
  · refine calm_step rfl fun a ω κ hb hu hc hK => ?_
    have h14 : a.tmps[14]?.getD undef = .agg v1 := hc 2 14 rfl rfl
    have h19 : a.tmps[19]?.getD undef = .agg v1 := hc 7 19 rfl rfl
    have hk := Lib.hid (fun w1 (h : Below ω.heap.size ω w1) => hK (.bool true) w1 rfl h)
    clear hK hu hc
    exact wp_eql guard32 (eval_tmp h14) (eval_tmp h19) (heq1.out ω) (hk.out _ (Below.refl _ _))
  · refine calm_step rfl fun a ω κ hb hu hc hK => ?_
    have h20 : a.tmps[20]?.getD undef = .bool true := hc 8 20 rfl rfl
    have hk := Lib.hid (fun w1 (h : Below ω.heap.size ω w1) => hK (.bool true) w1 rfl h)
    clear hK hu hc
    go_simp
    exact hk.out _ (Below.refl _ _)
  · refine calm_step_guard (g := 9) (b := true) (d := 21) rfl rfl (fun a w hc => hc 9 21 rfl rfl) fun a ω κ hb hu hc hK => ?_
    have h7 : a.tmps[7]?.getD undef = .pointer (some ⟨g, 0, none⟩) := hu 7 rfl
    have hk := Lib.hid (fun w1 (h : Below ω.heap.size ω w1) => hK (.agg s1) w1 rfl h)
    clear hK hu hc
    have hr := hS.out ω hb
    have hr1 := hr.1
    have hr2 := hr.2
    clear hr
    go_simp
    exact hk.out _ (Below.refl _ _)
  · refine calm_step_guard (g := 9) (b := true) (d := 21) rfl rfl (fun a w hc => hc 9 21 rfl rfl) fun a ω κ hb hu hc hK => ?_
    have h2 : a.tmps[2]?.getD undef = .slice C q.length f := hu 2 rfl
    have hk := Lib.hid (fun w1 (h : Below ω.heap.size ω w1) => hK (.slice C q.length f) w1 rfl h)
    clear hK hu hc
    go_simp
    exact hk.out _ (Below.refl _ _)
  · refine calm_step_guard (g := 9) (b := true) (d := 21) rfl rfl (fun a w hc => hc 9 21 rfl rfl) fun a ω κ hb hu hc hK => ?_
    have h22 : a.tmps[22]?.getD undef = .agg s1 := hc 10 22 rfl rfl
    have h23 : a.tmps[23]?.getD undef = .slice C q.length f := hc 11 23 rfl rfl
    have hk := Lib.hid (fun w1 (h : Below ω.heap.size ω w1) => hK (.agg s2) w1 rfl h)
    clear hK hu hc
    go_simp
    go_at_call 20
    refine (hWr2.out ω (hT3.out.step hb) (hq3.out.step hb)).mono ?_
    rintro e w1 ⟨rfl, hb1⟩
    exact hk.out _ hb1
  · refine calm_step_guard (g := 9) (b := true) (d := 21) rfl rfl (fun a w hc => hc 9 21 rfl rfl) fun a ω κ hb hu hc hK => ?_
    have h24 : a.tmps[24]?.getD undef = .agg s2 := hc 12 24 rfl rfl
    have hk := Lib.hid (fun w1 (h : Below ω.heap.size ω w1) => hK (.agg v2) w1 rfl h)
    clear hK hu hc
    go_simp
    go_at_call 23
    refine (hSt2.out ω (hT3.out.step hb)).mono ?_
    rintro e w1 ⟨rfl, hb1⟩
    exact hk.out _ hb1
  · refine calm_step_guard (g := 9) (b := true) (d := 21) rfl rfl (fun a w hc => hc 9 21 rfl rfl) fun a ω κ hb hu hc hK => ?_
    have h0 : a.tmps[0]?.getD undef = .slice A key.length c := hu 0 rfl
    have hk := Lib.hid (fun w1 (h : Below ω.heap.size ω w1) => hK (.slice A key.length c) w1 rfl h)
    clear hK hu hc
    go_simp
    exact hk.out _ (Below.refl _ _)
  · refine calm_step_guard (g := 9) (b := true) (d := 21) rfl rfl (fun a w hc => hc 9 21 rfl rfl) fun a ω κ hb hu hc hK => ?_
    have h26 : a.tmps[26]?.getD undef = .slice A key.length c := hc 14 26 rfl rfl
    have hk := Lib.hid (fun w1 (h : Below ω.heap.size ω w1) => hK (strV key) w1 rfl h)
    clear hK hu hc
    have hcv := (hk3.out.step hb).conv
    go_simp
    exact hk.out _ (Below.refl _ _)
  · refine calm_step_guard (g := 9) (b := true) (d := 21) rfl rfl (fun a w hc => hc 9 21 rfl rfl) fun a ω κ hb hu hc hK => ?_
    have h1 : a.tmps[1]?.getD undef = .slice B p.length d := hu 1 rfl
    have hk := Lib.hid (fun w1 (h : Below ω.heap.size ω w1) => hK (.slice B p.length d) w1 rfl h)
    clear hK hu hc
    go_simp
    exact hk.out _ (Below.refl _ _)
  · refine calm_step_guard (g := 9) (b := true) (d := 21) rfl rfl (fun a w hc => hc 9 21 rfl rfl) fun a ω κ hb hu hc hK => ?_
    have h28 : a.tmps[28]?.getD undef = .slice B p.length d := hc 16 28 rfl rfl
    have hk := Lib.hid (fun w1 (h : Below ω.heap.size ω w1) => hK (strV p) w1 rfl h)
    clear hK hu hc
    have hcv := (hp3.out.step hb).conv
    go_simp
    exact hk.out _ (Below.refl _ _)
  · refine calm_step_guard (g := 9) (b := true) (d := 21) rfl rfl (fun a w hc => hc 9 21 rfl rfl) fun a ω κ hb hu hc hK => ?_
    have h2 : a.tmps[2]?.getD undef = .slice C q.length f := hu 2 rfl
    have hk := Lib.hid (fun w1 (h : Below ω.heap.size ω w1) => hK (.slice C q.length f) w1 rfl h)
    clear hK hu hc
    go_simp
    exact hk.out _ (Below.refl _ _)
  · refine calm_step_guard (g := 9) (b := true) (d := 21) rfl rfl (fun a w hc => hc 9 21 rfl rfl) fun a ω κ hb hu hc hK => ?_
    have h30 : a.tmps[30]?.getD undef = .slice C q.length f := hc 18 30 rfl rfl
    have hk := Lib.hid (fun w1 (h : Below ω.heap.size ω w1) => hK (strV q) w1 rfl h)
    clear hK hu hc
    have hcv := (hq3.out.step hb).conv
    go_simp
    exact hk.out _ (Below.refl _ _)
  · refine calm_step_guard (g := 9) (b := true) (d := 21) rfl rfl (fun a w hc => hc 9 21 rfl rfl) fun a ω κ hb hu hc hK => ?_
    have h29 : a.tmps[29]?.getD undef = strV p := hc 17 29 rfl rfl
    have h31 : a.tmps[31]?.getD undef = strV q := hc 19 31 rfl rfl
    have hk := Lib.hid (fun w1 (h : Below ω.heap.size ω w1) => hK (strV (p ++ q)) w1 rfl h)
    clear hK hu hc
    have hle : (9223372036854775807 < p.length + q.length) = False := eq_false (by omega)
    go_simp
    exact hk.out _ (Below.refl _ _)
  · refine calm_step_guard (g := 9) (b := true) (d := 21) rfl rfl (fun a w hc => hc 9 21 rfl rfl) fun a ω κ hb hu hc hK => ?_
    have h27 : a.tmps[27]?.getD undef = strV key := hc 15 27 rfl rfl
    have h32 : a.tmps[32]?.getD undef = strV (p ++ q) := hc 20 32 rfl rfl
    have hk := Lib.hid (fun w1 (h : Below ω.heap.size ω w1) => hK (.agg v2) w1 rfl h)
    clear hK hu hc
    go_simp
    go_at_call 22
    refine (hMk2.out ω (hT3.out.step hb)).mono ?_
    rintro e w1 ⟨rfl, hb1⟩
    exact hk.out _ hb1
  · refine calm_step_guard (g := 9) (b := true) (d := 21) rfl rfl (fun a w hc => hc 9 21 rfl rfl) fun a ω κ hb hu hc hK => ?_
    have h25 : a.tmps[25]?.getD undef = .agg v2 := hc 13 25 rfl rfl
    have h33 : a.tmps[33]?.getD undef = .agg v2 := hc 21 33 rfl rfl
    have hk := Lib.hid (fun w1 (h : Below ω.heap.size ω w1) => hK (.bool true) w1 rfl h)
    clear hK hu hc
    exact wp_eql guard32 (eval_tmp h25) (eval_tmp h33) (heq2.out ω) (hk.out _ (Below.refl _ _))
  · refine calm_step rfl fun a ω κ hb hu hc hK => ?_
    have h21 : a.tmps[21]?.getD undef = .bool true := hc 9 21 rfl rfl
    have h34 : a.tmps[34]?.getD undef = .bool true := hc 22 34 rfl rfl
    have hk := Lib.hid (fun w1 (h : Below ω.heap.size ω w1) => hK (.bool true) w1 rfl h)
    clear hK hu hc
    go_simp
    exact hk.out _ (Below.refl _ _)
  · refine calm_step rfl fun a ω κ hb hu hc hK => ?_
    have h35 : a.tmps[35]?.getD undef = .bool true := hc 23 35 rfl rfl
    have hk := Lib.hid (fun w1 (h : Below ω.heap.size ω w1) => hK (.bool true) w1 rfl h)
    clear hK hu hc
    go_simp
    exact hk.out _ (Below.refl _ _)
  · refine calm_step_guard (g := 24) (b := true) (d := 36) rfl rfl (fun a w hc => hc 24 36 rfl rfl) fun a ω κ hb hu hc hK => ?_
    have h7 : a.tmps[7]?.getD undef = .pointer (some ⟨g, 0, none⟩) := hu 7 rfl
    have hk := Lib.hid (fun w1 (h : Below ω.heap.size ω w1) => hK (.agg s1) w1 rfl h)
    clear hK hu hc
    have hr := hS.out ω hb
    have hr1 := hr.1
    have hr2 := hr.2
    clear hr
    go_simp
    exact hk.out _ (Below.refl _ _)
  · refine calm_step_guard (g := 24) (b := true) (d := 36) rfl rfl (fun a w hc => hc 24 36 rfl rfl) fun a ω κ hb hu hc hK => ?_
    have h37 : a.tmps[37]?.getD undef = .agg s1 := hc 25 37 rfl rfl
    have hk := Lib.hid (fun w1 (h : Below ω.heap.size ω w1) => hK (.agg v1) w1 rfl h)
    clear hK hu hc
    go_simp
    go_at_call 23
    refine (hSt1.out ω (hT3.out.step hb)).mono ?_
    rintro e w1 ⟨rfl, hb1⟩
    exact hk.out _ hb1
  · refine calm_step_guard (g := 24) (b := true) (d := 36) rfl rfl (fun a w hc => hc 24 36 rfl rfl) fun a ω κ hb hu hc hK => ?_
    have h0 : a.tmps[0]?.getD undef = .slice A key.length c := hu 0 rfl
    have hk := Lib.hid (fun w1 (h : Below ω.heap.size ω w1) => hK (.slice A key.length c) w1 rfl h)
    clear hK hu hc
    go_simp
    exact hk.out _ (Below.refl _ _)
  · refine calm_step_guard (g := 24) (b := true) (d := 36) rfl rfl (fun a w hc => hc 24 36 rfl rfl) fun a ω κ hb hu hc hK => ?_
    have h1 : a.tmps[1]?.getD undef = .slice B p.length d := hu 1 rfl
    have hk := Lib.hid (fun w1 (h : Below ω.heap.size ω w1) => hK (.slice B p.length d) w1 rfl h)
    clear hK hu hc
    go_simp
    exact hk.out _ (Below.refl _ _)
  · refine calm_step_guard (g := 24) (b := true) (d := 36) rfl rfl (fun a w hc => hc 24 36 rfl rfl) fun a ω κ hb hu hc hK => ?_
    have h39 : a.tmps[39]?.getD undef = .slice A key.length c := hc 27 39 rfl rfl
    have h40 : a.tmps[40]?.getD undef = .slice B p.length d := hc 28 40 rfl rfl
    have hk := Lib.hid (fun w1 (h : Below ω.heap.size ω w1) => hK (.agg v1) w1 rfl h)
    clear hK hu hc
    go_simp
    go_at_call 21
    refine (hSum.out ω (hT3.out.step hb) (hk3.out.step hb) (hp3.out.step hb)).mono ?_
    rintro e w1 ⟨rfl, hb1⟩
    exact hk.out _ hb1
  · refine calm_step_guard (g := 24) (b := true) (d := 36) rfl rfl (fun a w hc => hc 24 36 rfl rfl) fun a ω κ hb hu hc hK => ?_
    have h38 : a.tmps[38]?.getD undef = .agg v1 := hc 26 38 rfl rfl
    have h41 : a.tmps[41]?.getD undef = .agg v1 := hc 29 41 rfl rfl
    have hk := Lib.hid (fun w1 (h : Below ω.heap.size ω w1) => hK (.bool true) w1 rfl h)
    clear hK hu hc
    exact wp_eql guard32 (eval_tmp h38) (eval_tmp h41) (heq1.out ω) (hk.out _ (Below.refl _ _))
  · refine calm_step rfl fun a ω κ hb hu hc hK => ?_
    have h36 : a.tmps[36]?.getD undef = .bool true := hc 24 36 rfl rfl
    have h42 : a.tmps[42]?.getD undef = .bool true := hc 30 42 rfl rfl
    have hk := Lib.hid (fun w1 (h : Below ω.heap.size ω w1) => hK (.bool true) w1 rfl h)
    clear hK hu hc
    go_simp
    exact hk.out _ (Below.refl _ _)
  · refine calm_step rfl fun a ω κ hb hu hc hK => ?_
    have h43 : a.tmps[43]?.getD undef = .bool true := hc 31 43 rfl rfl
    have hk := Lib.hid (fun w1 (h : Below ω.heap.size ω w1) => hK (.bool true) w1 rfl h)
    clear hK hu hc
    go_simp
    exact hk.out _ (Below.refl _ _)
  · refine calm_step_guard (g := 32) (b := true) (d := 44) rfl rfl (fun a w hc => hc 32 44 rfl rfl) fun a ω κ hb hu hc hK => ?_
    have h1 : a.tmps[1]?.getD undef = .slice B p.length d := hu 1 rfl
    have hk := Lib.hid (fun w1 (h : Below ω.heap.size ω w1) => hK (.slice B p.length d) w1 rfl h)
    clear hK hu hc
    go_simp
    exact hk.out _ (Below.refl _ _)
  · refine calm_step_guard (g := 32) (b := true) (d := 44) rfl rfl (fun a w hc => hc 32 44 rfl rfl) fun a ω κ hb hu hc hK => ?_
    have h2 : a.tmps[2]?.getD undef = .slice C q.length f := hu 2 rfl
    have hk := Lib.hid (fun w1 (h : Below ω.heap.size ω w1) => hK (.slice C q.length f) w1 rfl h)
    clear hK hu hc
    go_simp
    exact hk.out _ (Below.refl _ _)
  · refine calm_step_guard (g := 32) (b := true) (d := 44) rfl rfl (fun a w hc => hc 32 44 rfl rfl) fun a ω κ hb hu hc hK => ?_
    have h45 : a.tmps[45]?.getD undef = .slice B p.length d := hc 33 45 rfl rfl
    have h46 : a.tmps[46]?.getD undef = .slice C q.length f := hc 34 46 rfl rfl
    have hk := Lib.hid (fun w1 (h : Below ω.heap.size ω w1) => hK (.bool b) w1 rfl h)
    clear hK hu hc
    go_simp
    go_at_call 24
    refine (hSame.out ω (hp3.out.step hb) (hq3.out.step hb)).mono ?_
    rintro e w1 ⟨rfl, hb1⟩
    exact hk.out _ hb1
  · refine calm_step_guard (g := 32) (b := true) (d := 44) rfl rfl (fun a w hc => hc 32 44 rfl rfl) fun a ω κ hb hu hc hK => ?_
    have h1 : a.tmps[1]?.getD undef = .slice B p.length d := hu 1 rfl
    have hk := Lib.hid (fun w1 (h : Below ω.heap.size ω w1) => hK (.slice B p.length d) w1 rfl h)
    clear hK hu hc
    go_simp
    exact hk.out _ (Below.refl _ _)
  · refine calm_step_guard (g := 32) (b := true) (d := 44) rfl rfl (fun a w hc => hc 32 44 rfl rfl) fun a ω κ hb hu hc hK => ?_
    have h2 : a.tmps[2]?.getD undef = .slice C q.length f := hu 2 rfl
    have hk := Lib.hid (fun w1 (h : Below ω.heap.size ω w1) => hK (.slice C q.length f) w1 rfl h)
    clear hK hu hc
    go_simp
    exact hk.out _ (Below.refl _ _)
  · refine calm_step_guard (g := 32) (b := true) (d := 44) rfl rfl (fun a w hc => hc 32 44 rfl rfl) fun a ω κ hb hu hc hK => ?_
    have h48 : a.tmps[48]?.getD undef = .slice B p.length d := hc 36 48 rfl rfl
    have h49 : a.tmps[49]?.getD undef = .slice C q.length f := hc 37 49 rfl rfl
    have hk := Lib.hid (fun w1 (h : Below ω.heap.size ω w1) => hK (.bool b) w1 rfl h)
    clear hK hu hc
    go_simp
    go_at_call 25
    refine (hEq.out ω (hp3.out.step hb) (hq3.out.step hb)).mono ?_
    rintro e w1 ⟨rfl, rfl⟩
    exact hk.out _ (Below.refl _ _)
  · refine calm_step_guard (g := 32) (b := true) (d := 44) rfl rfl (fun a w hc => hc 32 44 rfl rfl) fun a ω κ hb hu hc hK => ?_
    have h47 : a.tmps[47]?.getD undef = .bool b := hc 35 47 rfl rfl
    have h50 : a.tmps[50]?.getD undef = .bool b := hc 38 50 rfl rfl
    have hk := Lib.hid (fun w1 (h : Below ω.heap.size ω w1) => hK (.bool true) w1 rfl h)
    clear hK hu hc
    go_simp
    exact hk.out _ (Below.refl _ _)
  · refine calm_step rfl fun a ω κ hb hu hc hK => ?_
    have h44 : a.tmps[44]?.getD undef = .bool true := hc 32 44 rfl rfl
    have h51 : a.tmps[51]?.getD undef = .bool true := hc 39 51 rfl rfl
    have hk := Lib.hid (fun w1 (h : Below ω.heap.size ω w1) => hK (.bool true) w1 rfl h)
    clear hK hu hc
    go_simp
    exact hk.out _ (Below.refl _ _)
  · refine calm_step rfl fun a ω κ hb hu hc hK => ?_
    have h52 : a.tmps[52]?.getD undef = .bool true := hc 40 52 rfl rfl
    have hk := Lib.hid (fun w1 (h : Below ω.heap.size ω w1) => hK (.bool true) w1 rfl h)
    clear hK hu hc
    go_simp
    exact hk.out _ (Below.refl _ _)
  · intro a w' hb hu hsz hdf hc
    have h6 : a.tmps[6]?.getD undef = .bool true := hc 41 6 rfl
    go_wp2
    exact ret_tmp rfl h6 hdf ⟨rfl, below_step hb hL3 (Nat.le_refl _)⟩
end Go.Proofs.YtjfiokicnacbfaaDoor
