/- RuleMakes: the law's function returns true. -/
import Derived.Test.YtdlmamnnamlleaaRu18
import Derived.Test.YtdlmamnnamlleaaRu16
import Derived.Test.YtdlmamnnamlleaaIntEq
import Derived.Deep.RegionLaw
namespace Go.Proofs.Ytdlmamnnamlleaa
open Go.ChangeShapes Go.WideShapes Go.ChangeAt Go.RowKit
set_option maxHeartbeats 1000000
set_option maxRecDepth 100000
attribute [local go_sem] kp_refl kp_alloc kp_setCell kp_drew kp_drewN row_old rowAt_new rowAt_old
attribute [local go_sem ↓] load_Crd store_Crd execl_Crd execs_Crd
attribute [local go_sem] isHead_mk blkOf_mk isAgg_mk cellsV_mk row_drew rowAt_drew row_new_cells setRow_new crd_zero

theorem kndV_iz (l : List Nat) : kndV l = izV (l.map fun k : Nat => (k : Int)) := by simp [kndV, izV]
theorem madeD_len {l : List At} {w : World} {B : Nat} {A : Option Addr} (h : Ats w B A l) (loc : Bool) : ∀ k, k < 19 → ((madeR (l.map At.kv) loc).1.v k).length ≤ 140737488351232 := by
  have h0 : ∀ k, (crd0.v k).length ≤ 140737488351232 := fun k => by simp [crd0]
  have hf : ∀ b, (flagB b).length ≤ 140737488351232 := fun b => by cases b <;> simp [flagB]
  have hU : ∀ C k, k < 19 → ((madeU (cardOf (l.map At.kv)) C).v k).length ≤ 140737488351232 := fun C k hk => by
    rw [madeU_v k hk]
    split
    · exact cardOf_v_len l h k
    · unfold dV
      split
      · exact hf _
      · simp
  have hD : ∀ C k, k < 19 → ((madeD (cardOf (l.map At.kv)) C loc).v k).length ≤ 140737488351232 := fun C k hk => by
    unfold madeD
    split
    · simp only [Crd.setV, updB]
      repeat' split
      all_goals first | exact hf _ | exact hU C k hk
    · exact hU C k hk
  intro k hk
  unfold madeR madeR0 madeR1 madeR2 madeR3
  repeat' split
  all_goals first | exact h0 k | exact hD _ k hk

set_option maxHeartbeats 8000000 in
theorem ruleMakes (cl : Nat) (hcl : cl < 256) (A : Option Addr) (l : List At) (c : Nat) (loc : Bool) (w : World) (h : Ats w w.heap.size A l) (hl : l.length ≤ 9223372036854775807) (hlc : l.length ≤ c) (hcm : c ≤ 9223372036854775807) :
    Calls Try.prog 4 #[.int .u8 cl, .slice A l.length c, .bool loc] w fun e w' => e = .returned (.bool true) ∧ Below w.heap.size w w' := by
  have hconv : wrap64 (cl : Int) = (cl : Int) := by unfold wrap64; omega
  go_enter Try.func4, Try.ntmps4
  go_wp2
  go_loopw [7, 8] (fun v x wr => ∃ n : Nat, x = .int .i64 n ∧ 1 ≤ n ∧ n ≤ 19 ∧ Own w w.heap.size 3 v (kndV ((List.range n).filter (dHas cl))) wr) (fun _ x _ => 19 - (intOf x).toNat)
  case atStart => exact ⟨1, rfl, by omega, by omega, Own.start w _⟩
  case round =>
    obtain ⟨n, rfl, hn1, hn, hO⟩ := hrel
    have hOd := hO
    obtain ⟨A4, c4, e4, -, -⟩ := hOd.form
    rw [kndV_len] at e4
    subst e4
    by_cases hn9 : n = 19
    · subst hn9
      rw [kinds_filter] at hO hOd ⊢
      have hEq := Lib.hid (make_eq l loc)
      have hvl := Lib.hid (madeD_len h loc)
      have hb0 := hO.bel
      have hz0 := hO.sz
      have hk0 := hO.rd
      have hkl := kindsN_len cl
      have hw := (h.kp (kp_of_below hb0)).more hz0
      generalize hks : kindsN cl = ks at *
      replace hks := Lib.hid hks
      clear hO hOd
      go_wp2_with fail
      refine (rule_Make A l c loc _ hw hl).mono ?_
      rintro e w1 ⟨v, rfl, Am, lm, cm, rfl, hcm', hem, hAm, hb1⟩
      have h1 := hw.step hb1
      have hk1 := (hk0.below hb1).more hb1.size
      have hL1 := below_step hb1 hb0 (Nat.le_refl _)
      go_wp2_with fail
      refine (ref_Made A l c loc _ h1 hl hlc hcm).mono ?_
      rintro e w2 ⟨rfl, hb2⟩
      have h2 := h1.step hb2
      have hk2 := (hk1.below hb2).more hb2.size
      have hL2 := below_step hb2 hL1 (Nat.le_refl _)
      have hA2 := hAm.step hb2
      have hez : Hid ((makeP l loc).2 = (madeR (l.map At.kv) loc).2) := hEq.out.1
      have hea : Hid (lm.map At.kv = (madeR (l.map At.kv) loc).1.attrs) := by show _ = _; rw [hem]; exact hEq.out.2
      generalize hX1 : (madeR (l.map At.kv) loc).1 = X1 at *
      generalize hX2 : (madeR (l.map At.kv) loc).2 = X2 at *
      generalize hmz : (makeP l loc).2 = mz at *
      replace hX1 := Lib.hid hX1
      replace hX2 := Lib.hid hX2
      replace hmz := Lib.hid hmz
      have hmx : mz = X2 := hez.out
      subst hmx
      have hXc := crd_cells X1
      have hcz := crd_cells crd0
      have hb3 := below_alloc' w2 (.cells (crdA X1) 40)
      have h3 := h2.step hb3
      have hk3 := (hk2.below hb3).more hb3.size
      have hL3 := below_step hb3 hL2 (Nat.le_refl _)
      have hA3 := hA2.step hb3
      have d3 : CrdAt (w2.alloc (.cells (crdA X1) 40)) w2.heap.size X1 := Fa.new (m := 38) (f := cf X1) _ rfl
      clear hw hk0 hb0 h1 hk1 hL1 h2 hk2 hL2 hAm hA2 hb1 hb2 hem
      go_wp2_with fail
      refine (rule_Kinds cl hcl _).mono ?_
      rintro e w4 ⟨v, rfl, K, kc, rfl, hkA, hkB, hkR, hb4⟩
      rw [hks.out] at hkA hkR ⊢
      have h4 := h3.step hb4
      have hk4 := (hk3.below hb4).more hb4.size
      have hL4 := below_step hb4 hL3 (Nat.le_refl _)
      have hA4 := hA3.step hb4
      have d4 := d3.step hb4
      rw [kndV_iz] at hkR hk4
      have hq := Lib.hid (ints_Equal K A4 (ks.map fun k : Nat => (k : Int)) (ks.map fun k : Nat => (k : Int)) kc c4 w4 hkR hk4 (by simp; omega))
      simp only [List.length_map, decide_true] at hq
      clear h3 hk3 hL3 hA3 d3 hb3
      go_wp2_with fail
      refine hq.out.mono ?_
      rintro e w5 ⟨rfl, hb5⟩
      have h5 := h4.step hb5
      have hL5 := below_step hb5 hL4 (Nat.le_refl _)
      have hA5 := hA4.step hb5
      have d5 := d4.step hb5
      clear h4 hk4 hL4 hA4 d4 hq hkR
      have hval : Hid (validP l = validR (l.map At.kv)) := by show _ = _; rw [validP_kv, validK_eq]
      go_wp2_with fail
      refine (rule_Valid A l c _ h5 hl).mono ?_
      rintro e w6 ⟨rfl, hb6⟩
      have h6 := h5.step hb6
      have hL6 := below_step hb6 hL5 (Nat.le_refl _)
      have hA6 := hA5.step hb6
      have d6 := d5.step hb6
      clear h5 hL5 hA5 d5 hb5
      go_wp2_with fail
      refine (ref_Valid A l c _ h6 hl hlc hcm).mono ?_
      rintro e w7 ⟨rfl, hb7⟩
      rw [← hval.out]
      have h7 := h6.step hb7
      have hL7 := below_step hb7 hL6 (Nat.le_refl _)
      have hA7 := hA6.step hb7
      have d7 := d6.step hb7
      clear h6 hL6 hA6 d6 hb6
      generalize validP l = vp at *
      go_wp2_with fail
      refine (rule_Hidden A l c _ h7 hl).mono ?_
      rintro e w8 ⟨rfl, hb8⟩
      have h8 := h7.step hb8
      have hL8 := below_step hb8 hL7 (Nat.le_refl _)
      have hA8 := hA7.step hb8
      have d8 := d7.step hb8
      clear h7 hL7 hA7 d7 hb7
      go_wp2_with fail
      refine (ref_Veiled A l c _ h8 hl).mono ?_
      rintro e w9 ⟨rfl, hb9⟩
      have hL9 := below_step hb9 hL8 (Nat.le_refl _)
      have hA9 := hA8.step hb9
      have d9 := d8.step hb9
      clear h8 hL8 hA8 d8 hb8
      generalize hidden l = hd at *
      have a9 := d9.at_
      have q9 := d9.row
      go_wp2_with fail
      refine (ref_Attrs X1 _ fun k hk => hvl.out k hk).mono ?_
      rintro e w10 ⟨v, rfl, A10, l10, c10, rfl, hc10, he10, hA10, hb10⟩
      have hL10 := below_step hb10 hL9 (Nat.le_refl _)
      have hAm10 := hA9.step hb10
      have hsm : Hid (sameKV lm l10 = true) := by show _ = _; unfold sameKV; rw [hea.out, he10]; simp
      have hml : Hid (lm.length ≤ 9223372036854775807) := by show _ ≤ _; omega
      clear hL9 hA9 hb9
      go_wp2_with fail
      refine (ref_SameAttrs Am A10 lm l10 cm c10 _ hAm10 hA10 hml.out).mono ?_
      rintro e w11 ⟨rfl, hb11⟩
      have hL11 := below_step hb11 hL10 (Nat.le_refl _)
      rw [hsm.out]
      go_wp2
      go_ret
      exact ⟨rfl, hL11⟩
    · have hin : Hid (inK n = true) := by show _ = _; simp [inK]; omega
      have hle : (n : Int) ≤ 18 := by omega
      have hw1 : IntKind.i64.wrap ((n : Int) + 1) = ((n + 1 : Nat) : Int) := by rw [IntKind.wrap_i64]; omega
      have hbe := Lib.hid (fun V => ref_Belongs (cl : Int) (n : Int) V)
      have hlen : ((List.range n).filter (dHas cl)).length ≤ 19 := Nat.le_trans (List.length_filter_le _ _) (by simp; omega)
      cases hh : belongs (cl : Int) (n : Int) with
      | false =>
        have hst : Hid ((List.range (n + 1)).filter (dHas cl) = (List.range n).filter (dHas cl)) := by
          show _ = _
          rw [List.range_succ, List.filter_append, List.filter_cons]
          simp [dHas, hh]
        rw [hh] at hbe
        clear hh
        generalize (List.range n).filter (dHas cl) = ks at *
        go_wp2_with fail
        refine (hbe.out _).mono ?_
        rintro e w1 ⟨rfl, rfl⟩
        go_wp2
        go_roundw
        case rel => exact ⟨n + 1, by go_num, by omega, by omega, by rw [hst.out]; exact hO⟩
        case measure => simp [intOf]; omega
      | true =>
        have hst : Hid ((List.range (n + 1)).filter (dHas cl) = (List.range n).filter (dHas cl) ++ [n]) := by
          show _ = _
          rw [List.range_succ, List.filter_append, List.filter_cons]
          simp [dHas, hh, hin.out]
        rw [hh] at hbe
        clear hh
        generalize (List.range n).filter (dHas cl) = ks at *
        go_wp2_with fail
        refine (hbe.out _).mono ?_
        rintro e w1 ⟨rfl, rfl⟩
        go_wp2_with (at_builtin; go_must (refine wpList_own1 (o := ⟨some 24, _, _, _, _, _⟩) rfl (.tmp 21) (.tmp 23) 33 rfl SInt rfl hOd (.int .i64 (n : Int)) rfl rfl (by rw [kndV_len]; unfold maxLen; omega) (by rw [kndV_len]; omega) ?_); intro v1 w1 hO1 hg1 hat1; clear hg1 hat1)
        go_roundw
        case rel => exact ⟨n + 1, by go_num, by omega, by omega, by rw [hst.out]; simpa [kndV] using hO1⟩
        case measure => simp [intOf]; omega
end Go.Proofs.Ytdlmamnnamlleaa
