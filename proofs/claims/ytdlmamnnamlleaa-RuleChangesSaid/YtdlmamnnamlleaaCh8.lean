/- Law RuleChanges. -/
import Derived.Test.YtdlmamnnamlleaaCh7
import Derived.Test.YtdlmamnnamlleaaNoL
namespace Go.Proofs.Ytdlmamnnamlleaa
open Go.ChangeShapes Go.WideShapes Go.ChangeAt Go.RowKit
set_option maxHeartbeats 1000000
set_option maxRecDepth 100000
attribute [local go_sem] kp_refl kp_alloc kp_setCell kp_drew kp_drewN row_old rowAt_new rowAt_old
attribute [local go_sem ↓] load_Crd store_Crd execl_Crd execs_Crd
attribute [local go_sem] isHead_mk blkOf_mk isAgg_mk cellsV_mk row_drew rowAt_drew row_new_cells setRow_new crd_zero

theorem turned_len {w : World} {A1 A2 : Option Addr} {l m : List At} (h1 : Ats w w.heap.size A1 l) (h2 : Ats w w.heap.size A2 m) (cp : Bool) (k : Nat) : ((turnedR (l.map At.kv) (m.map At.kv) cp).1.v k).length ≤ 140737488351232 := by
  have h0 : (crd0.v k).length ≤ 140737488351232 := by simp [crd0]
  have hu : (((cardOf (l.map At.kv)).upon (cardOf (m.map At.kv))).v k).length ≤ 140737488351232 := by
    unfold Crd.upon Crd.uponTo
    simp only
    split
    · exact cardOf_v_len m h2 k
    · exact cardOf_v_len l h1 k
  unfold turnedR
  split
  · exact h0
  split
  · exact h0
  split
  · exact h0
  unfold turnedR1
  split
  · exact h0
  unfold turnedR2
  split
  · exact h0
  · exact hu
theorem rule_Change (A1 A2 : Option Addr) (l m : List At) (c1 c2 : Nat) (w : World) (h1 : Ats w w.heap.size A1 l) (h2 : Ats w w.heap.size A2 m) (hl : l.length ≤ 9223372036854775807) (hm : m.length ≤ 9223372036854775807) :
    Calls Try.prog 51 #[.slice A1 l.length c1, .slice A2 m.length c2] w (AtsErr (turnP (l.map At.kv) (m.map At.kv) false).1 (turnP (l.map At.kv) (m.map At.kv) false).2 w) := by
  have ht := Lib.hid (rule_turn A1 A2 l m c1 c2 false w h1 h2 hl hm)
  go_enter Try.func51, Try.ntmps51
  go_wp2_with fail
  refine ht.out.mono ?_
  rintro e w1 ⟨v, rfl, hv⟩
  go_wp2
  go_ret2
  exact ⟨v, rfl, hv⟩
theorem rule_Copy (A1 A2 : Option Addr) (l m : List At) (c1 c2 : Nat) (w : World) (h1 : Ats w w.heap.size A1 l) (h2 : Ats w w.heap.size A2 m) (hl : l.length ≤ 9223372036854775807) (hm : m.length ≤ 9223372036854775807) :
    Calls Try.prog 53 #[.slice A1 l.length c1, .slice A2 m.length c2] w (AtsErr (turnP (l.map At.kv) (m.map At.kv) true).1 (turnP (l.map At.kv) (m.map At.kv) true).2 w) := by
  have ht := Lib.hid (rule_turn A1 A2 l m c1 c2 true w h1 h2 hl hm)
  go_enter Try.func53, Try.ntmps53
  go_wp2_with fail
  refine ht.out.mono ?_
  rintro e w1 ⟨v, rfl, hv⟩
  go_wp2
  go_ret2
  exact ⟨v, rfl, hv⟩
set_option maxHeartbeats 8000000 in
theorem ruleChanges (A1 A2 : Option Addr) (l m : List At) (c1 c2 : Nat) (w : World) (h1 : Ats w w.heap.size A1 l) (h2 : Ats w w.heap.size A2 m) (hl : l.length ≤ 9223372036854775807) (hm : m.length ≤ 9223372036854775807) (hlc : l.length ≤ c1) (hcm : c1 ≤ 9223372036854775807) (hmc : m.length ≤ c2) (hcm2 : c2 ≤ 9223372036854775807) :
    Calls Try.prog 10 #[.slice A1 l.length c1, .slice A2 m.length c2] w fun e w' => e = .returned (.bool true) ∧ Below w.heap.size w w' := by
  have hcz := crd_cells crd0
  have hE1 := Lib.hid (turn_eq (l.map At.kv) (m.map At.kv) false)
  have hE2 := Lib.hid (turn_eq (l.map At.kv) (m.map At.kv) true)
  have hv1 := Lib.hid (fun k (_ : k < 19) => turned_len h1 h2 false k)
  have hv2 := Lib.hid (fun k (_ : k < 19) => turned_len h1 h2 true k)
  have hch := Lib.hid (rule_Change A1 A2 l m c1 c2 w h1 h2 hl hm)
  have hT1 := Lib.hid (fun V (a : Ats V V.heap.size A1 l) (b : Ats V V.heap.size A2 m) => ref_Turned A1 A2 l m c1 c2 false V a b hl hm hlc hcm hmc hcm2)
  have hcp := Lib.hid (fun V (a : Ats V V.heap.size A1 l) (b : Ats V V.heap.size A2 m) => rule_Copy A1 A2 l m c1 c2 V a b hl hm)
  have hT2 := Lib.hid (fun V (a : Ats V V.heap.size A1 l) (b : Ats V V.heap.size A2 m) => ref_Turned A1 A2 l m c1 c2 true V a b hl hm hlc hcm hmc hcm2)
  rw [hE1.out.1, hE1.out.2] at hch
  rw [hE2.out.1, hE2.out.2] at hcp
  unfold CrdErr at hT1 hT2
  clear hE1 hE2
  generalize (turnedR (l.map At.kv) (m.map At.kv) false).1 = X1 at *
  generalize (turnedR (l.map At.kv) (m.map At.kv) false).2 = z1 at *
  generalize (turnedR (l.map At.kv) (m.map At.kv) true).1 = X2 at *
  generalize (turnedR (l.map At.kv) (m.map At.kv) true).2 = z2 at *
  have hX1 := crd_cells X1
  have hX2 := crd_cells X2
  go_enter Try.func10, Try.ntmps10
  go_wp2_with fail
  refine hch.out.mono ?_
  rintro e w1 ⟨v, rfl, Am, o, co, rfl, hco, hoe, hAo, hb1⟩
  have p1 := h1.step hb1
  have q1 := h2.step hb1
  clear hch
  go_wp2_with fail
  refine (hT1.out _ p1 q1).mono ?_
  rintro e w2 ⟨rfl, hb2⟩
  have p2 := p1.step hb2
  have q2 := q1.step hb2
  have o2 := hAo.step hb2
  have hL2 := below_step hb2 hb1 (Nat.le_refl _)
  have hb3 := below_alloc' w2 (.cells (crdA X1) 40)
  have p3 := p2.step hb3
  have q3 := q2.step hb3
  have o3 := o2.step hb3
  have x3 : CrdAt (w2.alloc (.cells (crdA X1) 40)) w2.heap.size X1 := Fa.new (m := 38) (f := cf X1) _ rfl
  have hL3 := below_step hb3 hL2 (Nat.le_refl _)
  clear p1 q1 p2 q2 hAo o2 hL2 hb2 hb3 hb1 h1 h2 hT1
  go_wp2_with fail
  refine (hcp.out _ p3 q3).mono ?_
  rintro e w4 ⟨v, rfl, An, o', cn, rfl, hcn, hne, hAn, hb4⟩
  have p4 := p3.step hb4
  have q4 := q3.step hb4
  have o4 := o3.step hb4
  have x4 := x3.step hb4
  have hL4 := below_step hb4 hL3 (Nat.le_refl _)
  generalize w2.heap.size = g7 at *
  clear p3 q3 o3 x3 hL3 hb4 hcp
  go_wp2_with fail
  refine (hT2.out _ p4 q4).mono ?_
  rintro e w5 ⟨rfl, hb5⟩
  have o5 := o4.step hb5
  have n5 := hAn.step hb5
  have x5 := x4.step hb5
  have hL5 := below_step hb5 hL4 (Nat.le_refl _)
  have hb6 := below_alloc' w5 (.cells (crdA X2) 40)
  have o6 := o5.step hb6
  have n6 := n5.step hb6
  have x6 := x5.step hb6
  have y6 : CrdAt (w5.alloc (.cells (crdA X2) 40)) w5.heap.size X2 := Fa.new (m := 38) (f := cf X2) _ rfl
  have hL6 := below_step hb6 hL5 (Nat.le_refl _)
  clear p4 q4 o4 x4 hAn hL4 hb5 hb6 o5 n5 x5 hL5 hT2
  have a6 := x6.at_
  have r6 := x6.row
  go_wp2_with fail
  refine (ref_Attrs X1 _ hv1.out).mono ?_
  rintro e w7 ⟨v, rfl, Aw, wt, cw, rfl, hcw, hwe, hAw, hb7⟩
  have o7 := o6.step hb7
  have n7 := n6.step hb7
  have y7 := y6.step hb7
  have hL7 := below_step hb7 hL6 (Nat.le_refl _)
  have hs1 := Lib.hid (same_true (hoe.trans hwe.symm))
  generalize w5.heap.size = g11 at *
  clear o6 n6 x6 y6 hL6 hb7 a6 r6 hoe hwe
  have hsm := Lib.hid (ref_SameAttrs Am Aw o wt co cw w7 o7 hAw (by omega))
  rw [hs1.out] at hsm
  go_wp2_with fail
  refine hsm.out.mono ?_
  rintro e w8 ⟨rfl, hb8⟩
  have n8 := n7.step hb8
  have y8 := y7.step hb8
  have hL8 := below_step hb8 hL7 (Nat.le_refl _)
  have a8 := y8.at_
  have r8 := y8.row
  clear o7 n7 y7 hL7 hb8 hsm hAw
  go_wp2_with fail
  refine (ref_Attrs X2 _ hv2.out).mono ?_
  rintro e w9 ⟨v, rfl, Ax, xt, cx, rfl, hcx, hxe, hAx, hb9⟩
  have n9 := n8.step hb9
  have hL9 := below_step hb9 hL8 (Nat.le_refl _)
  have hs2 := Lib.hid (same_true (hne.trans hxe.symm))
  clear n8 y8 hL8 hb9 a8 r8 hne hxe
  have hsm2 := Lib.hid (ref_SameAttrs An Ax o' xt cn cx w9 n9 hAx (by omega))
  rw [hs2.out] at hsm2
  go_wp2_with fail
  refine hsm2.out.mono ?_
  rintro e w10 ⟨rfl, hb10⟩
  have hL10 := below_step hb10 hL9 (Nat.le_refl _)
  go_wp2
  go_ret
  exact ⟨ret_bool (by simp), hL10⟩
end Go.Proofs.Ytdlmamnnamlleaa
