/- Law AttrPuts. -/
import Derived.Test.YtdlmamnnamlleaaPk3
import Derived.Test.YtdlmamnnamlleaaNoS
import Derived.Test.YtdlmamnnamlleaaCalmG
namespace Go.Proofs.Ytdlmamnnamlleaa
open Go.ChangeShapes Go.WideShapes Go.ChangeAt Go.RowKit
set_option maxHeartbeats 1000000
set_option maxRecDepth 100000
attribute [local go_sem] kp_refl kp_alloc kp_setCell kp_drew kp_drewN row_new row_old rowAt_new rowAt_old

theorem upon_len {w : World} {A1 A2 : Option Addr} {l m : List At} (h1 : Ats w w.heap.size A1 l) (h2 : Ats w w.heap.size A2 m) (k : Nat) : (((cardOf (l.map At.kv)).upon (cardOf (m.map At.kv))).v k).length ≤ 140737488351232 := by
  unfold Crd.upon Crd.uponTo
  simp only
  split
  · exact cardOf_v_len m h2 k
  · exact cardOf_v_len l h1 k
set_option maxHeartbeats 8000000 in
theorem attrPuts (A1 A2 A3 : Option Addr) (l m : List At) (b : List UInt8) (c1 c2 c3 : Nat) (w : World) (h1 : Ats w w.heap.size A1 l) (h2 : Ats w w.heap.size A2 m) (h3 : Rd w w.heap.size A3 (bytesV b)) (hl : l.length ≤ 9223372036854775807) (hm : m.length ≤ 9223372036854775807) (hlc : l.length ≤ c1) (hcm : c1 ≤ 9223372036854775807) (hmc : m.length ≤ c2) (hcm2 : c2 ≤ 9223372036854775807) (hbc : b.length ≤ c3) (hcm3 : c3 ≤ maxLen) :
    Calls Try.prog 9 #[.slice A1 l.length c1, .slice A2 m.length c2, .slice A3 b.length c3] w fun e w' => e = .returned (.bool true) ∧ Below w.heap.size w w' := by
  have hvl := Lib.hid (fun k (_ : k < 19) => upon_len h1 h2 k)
  have hS : Hid (overS (l.map At.kv) (m.map At.kv) = if fault (l.map At.kv) ≠ 0 then [] else if fault (m.map At.kv) ≠ 0 then [] else ((cardOf (l.map At.kv)).upon (cardOf (m.map At.kv))).attrs) := rfl
  have hZ : Hid (overZ (l.map At.kv) (m.map At.kv) = if fault (l.map At.kv) ≠ 0 then fault (l.map At.kv) else fault (m.map At.kv)) := rfl
  have hP : Hid (packS (l.map At.kv) = if fault (l.map At.kv) = 0 then packK (cardOf (l.map At.kv)).attrs else []) := rfl
  go_enter Try.func9, Try.ntmps9
  go_wp2_with fail
  refine (ref_AttrsFault A1 l c1 _ h1 hl hlc hcm).mono ?_
  rintro e w1 ⟨rfl, hb1⟩
  have p1 := h1.step hb1
  have q1 := h2.step hb1
  have r1 := (h3.below hb1).more hb1.size
  go_wp2_with fail
  refine (ref_AttrsFault A2 m c2 _ q1 hm hmc hcm2).mono ?_
  rintro e w2 ⟨rfl, hb2⟩
  have p2 := p1.step hb2
  have q2 := q1.step hb2
  have r2 := (r1.below hb2).more hb2.size
  have hL2 := below_step hb2 hb1 (Nat.le_refl _)
  clear p1 q1 r1 hb1 hb2 h1 h2 h3
  go_wp2_with fail
  refine (attr_Over A1 A2 l m c1 c2 _ p2 q2 hl hm).mono ?_
  rintro e w3 ⟨v, rfl, Ao, o, co, rfl, hco, hoe, hAo, hb3⟩
  have p3 := p2.step hb3
  have q3 := q2.step hb3
  have r3 := (r2.below hb3).more hb3.size
  have hL3 := below_step hb3 hL2 (Nat.le_refl _)
  clear p2 q2 r2 hb3 hL2
  have hpk := Lib.hid (attr_Pack A1 l c1 _ p3 hl)
  unfold PackR at hpk
  go_wp2_with fail
  refine hpk.out.mono ?_
  rintro e w4 ⟨As, cs, rfl, hRs, hb4⟩
  have p4 := p3.step hb4
  have q4 := q3.step hb4
  have r4 := (r3.below hb4).more hb4.size
  have o4 := hAo.step hb4
  have hL4 := below_step hb4 hL3 (Nat.le_refl _)
  clear p3 q3 r3 hb4 hL3 hpk hAo
  have hun := Lib.hid (attr_Unpack A3 b c3 _ r4 hbc hcm3)
  go_wp2_with fail
  refine hun.out.mono ?_
  rintro e w5 ⟨v, rfl, Au, u, cu, rfl, hcu, hue, hAu, hb5⟩
  have p5 := p4.step hb5
  have q5 := q4.step hb5
  have r5 := (r4.below hb5).more hb5.size
  have o5 := o4.step hb5
  have s5 := (hRs.below hb5).more hb5.size
  have hL5 := below_step hb5 hL4 (Nat.le_refl _)
  clear p4 q4 r4 o4 hb5 hL4 hun hRs
  have hcb : (convert 59 9 (.slice A3 b.length c3)).run Try.prog w5 = .ok (.string ⟨b.toArray⟩) w5 := conv_rd Try.underlying59 Try.underlying5 Try.underlying9 r5
  have hru := Lib.hid (ref_UnpackedAttrs b w5 (by unfold maxLen at hcm3 ⊢; omega))
  clear r5
  go_wp2_with fail
  refine hru.out.mono ?_
  rintro e w6 ⟨v, rfl, Av, x, cv, rfl, hcv, hxe, hAv, hb6⟩
  have p6 := p5.step hb6
  have q6 := q5.step hb6
  have o6 := o5.step hb6
  have u6 := hAu.step hb6
  have s6 := (s5.below hb6).more hb6.size
  have hL6 := below_step hb6 hL5 (Nat.le_refl _)
  have hsame := Lib.hid (same_trueS (hue.trans hxe.symm))
  generalize (unpK b).2 = ez at *
  clear p5 q5 o5 s5 hb6 hL5 hcb hru hAu hue hxe
  have hsm := Lib.hid (ref_SameAttrs Au Av u x cu cv w6 u6 hAv (by omega))
  rw [hsame.out] at hsm
  go_wp2_with fail
  refine hsm.out.mono ?_
  rintro e w7 ⟨rfl, hb7⟩
  have p7 := p6.step hb7
  have q7 := q6.step hb7
  have o7 := o6.step hb7
  have s7 := (s6.below hb7).more hb7.size
  have hL7 := below_step hb7 hL6 (Nat.le_refl _)
  clear p6 q6 o6 u6 s6 hb7 hL6 hsm hAv
  generalize hF : fault (l.map At.kv) = F at *
  by_cases hf : F = 0
  · subst hf
    have hpa := Lib.hid (fun V (hV : Below w7.heap.size w7 V) => ref_PackedAttrs A1 l c1 V (p7.step hV) hl hF)
    have hcs := Lib.hid (fun V (hV : Below w7.heap.size w7 V) => conv_rd (P := Try.prog) (src := 59) (dst := 9) (c := cs) Try.underlying59 Try.underlying5 Try.underlying9 ((s7.below hV).more hV.size))
    generalize hG : fault (m.map At.kv) = G at *
    have hoz : overZ (l.map At.kv) (m.map At.kv) = G := by rw [hZ.out, if_neg (by simp)]
    have hos : Hid (overS (l.map At.kv) (m.map At.kv) = if G ≠ 0 then [] else ((cardOf (l.map At.kv)).upon (cardOf (m.map At.kv))).attrs) := by show _ = _; rw [hS.out, if_neg (by simp)]
    rw [hoz]
    clear hoz hZ hS hF s7
    generalize packS (l.map At.kv) = S at *
    clear hP
    go_upto_region 8 with (fail)
    generalize ha0 : Act.mk _ _ = a0
    have e0 : a0.tmps[0]?.getD undef = .slice A1 l.length c1 := by rw [← ha0]; rfl
    have e7 : a0.tmps[7]?.getD undef = .int .i64 0 := by rw [← ha0]; rfl
    have e11 : a0.tmps[11]?.getD undef = .slice As S.length cs := by rw [← ha0]; rfl
    have hz0 : a0.tmps.size = 100 := by rw [← ha0]; rfl
    have hha0 := Lib.hid ha0
    clear ha0
    refine wp_region_calm (fun jx_ => match jx_ with | 0 => SRel.is (.int .i64 0) | 1 => SRel.is (.bool true) | 2 => SRel.is (.bool true) | 3 => SRel.is (.slice As S.length cs) | 4 => SRel.is (.string ⟨S.toArray⟩) | 5 => SRel.is (.slice A1 l.length c1) | 6 => SRel.is (.string ⟨S.toArray⟩) | 7 => SRel.is (.bool false) | 8 => SRel.is (.bool false) | 9 => SRel.is (.bool false) | 10 => SRel.is (.int .i64 0) | 11 => SRel.is (.bool false) | 12 => SRel.is (.bool false) | 13 => SRel.any | 14 => SRel.any | 15 => SRel.any | 16 => SRel.is (.bool false) | 17 => SRel.is (.bool false) | _ => SRel.any) (by kernel_rfl) (by kernel_rfl) (by kernel_rfl) (slotsOk_of hz0 (by kernel_rfl)) ⟨?_, ?_, ?_, ?_, ?_, ?_, ?_, ?_, ?_, ?_, ?_, ?_, ?_, ?_, ?_, ?_, ?_, ?_, trivial⟩ ?_
    · refine calm_step rfl fun a ω κ hb hu hc hK => ?_
      have h7 : a.tmps[7]?.getD undef = .int .i64 0 := (hu 7 rfl).trans e7
      have hk := Lib.hid (fun w1 (h : Below ω.heap.size ω w1) => hK (.int .i64 0) w1 rfl h)
      clear hK hu hc
      go_simp
      exact hk.out _ (Below.refl _ _)
    · refine calm_step rfl fun a ω κ hb hu hc hK => ?_
      have h57 : a.tmps[57]?.getD undef = .int .i64 0 := hc 0 57 rfl rfl
      have hk := Lib.hid (fun w1 (h : Below ω.heap.size ω w1) => hK (.bool true) w1 rfl h)
      clear hK hu hc
      go_simp
      exact hk.out _ (Below.refl _ _)
    · refine calm_step rfl fun a ω κ hb hu hc hK => ?_
      have h58 : a.tmps[58]?.getD undef = .bool true := hc 1 58 rfl rfl
      have hk := Lib.hid (fun w1 (h : Below ω.heap.size ω w1) => hK (.bool true) w1 rfl h)
      clear hK hu hc
      go_simp
      exact hk.out _ (Below.refl _ _)
    · refine calm_step_guard (g := 2) (b := true) (d := 59) rfl rfl (fun a w hc => hc 2 59 rfl rfl) fun a ω κ hb hu hc hK => ?_
      have h11 : a.tmps[11]?.getD undef = .slice As S.length cs := (hu 11 rfl).trans e11
      have hk := Lib.hid (fun w1 (h : Below ω.heap.size ω w1) => hK (.slice As S.length cs) w1 rfl h)
      clear hK hu hc
      go_simp
      exact hk.out _ (Below.refl _ _)
    · refine calm_step_guard (g := 2) (b := true) (d := 59) rfl rfl (fun a w hc => hc 2 59 rfl rfl) fun a ω κ hb hu hc hK => ?_
      have h60 : a.tmps[60]?.getD undef = .slice As S.length cs := hc 3 60 rfl rfl
      have hk := Lib.hid (fun w1 (h : Below ω.heap.size ω w1) => hK (.string ⟨S.toArray⟩) w1 rfl h)
      clear hK hu hc
      have q1 := hcs.out ω hb
      go_simp
      exact hk.out _ (Below.refl _ _)
    · refine calm_step_guard (g := 2) (b := true) (d := 59) rfl rfl (fun a w hc => hc 2 59 rfl rfl) fun a ω κ hb hu hc hK => ?_
      have h0 : a.tmps[0]?.getD undef = .slice A1 l.length c1 := (hu 0 rfl).trans e0
      have hk := Lib.hid (fun w1 (h : Below ω.heap.size ω w1) => hK (.slice A1 l.length c1) w1 rfl h)
      clear hK hu hc
      go_simp
      exact hk.out _ (Below.refl _ _)
    · refine calm_step_guard (g := 2) (b := true) (d := 59) rfl rfl (fun a w hc => hc 2 59 rfl rfl) fun a ω κ hb hu hc hK => ?_
      have h62 : a.tmps[62]?.getD undef = .slice A1 l.length c1 := hc 5 62 rfl rfl
      have hk := Lib.hid (fun w1 (h : Below ω.heap.size ω w1) => hK (.string ⟨S.toArray⟩) w1 rfl h)
      clear hK hu hc
      go_simp
      go_at_call 49
      refine (hpa.out ω hb).mono ?_
      rintro e w1 ⟨rfl, hb1⟩
      exact hk.out _ hb1
    · refine calm_step_guard (g := 2) (b := true) (d := 59) rfl rfl (fun a w hc => hc 2 59 rfl rfl) fun a ω κ hb hu hc hK => ?_
      have h61 : a.tmps[61]?.getD undef = .string ⟨S.toArray⟩ := hc 4 61 rfl rfl
      have h63 : a.tmps[63]?.getD undef = .string ⟨S.toArray⟩ := hc 6 63 rfl rfl
      have hk := Lib.hid (fun w1 (h : Below ω.heap.size ω w1) => hK (.bool false) w1 rfl h)
      clear hK hu hc
      go_simp
      exact hk.out _ (Below.refl _ _)
    · refine calm_step rfl fun a ω κ hb hu hc hK => ?_
      have h59 : a.tmps[59]?.getD undef = .bool true := hc 2 59 rfl rfl
      have h64 : a.tmps[64]?.getD undef = .bool false := hc 7 64 rfl rfl
      have hk := Lib.hid (fun w1 (h : Below ω.heap.size ω w1) => hK (.bool false) w1 rfl h)
      clear hK hu hc
      go_simp
      exact hk.out _ (Below.refl _ _)
    · refine calm_step rfl fun a ω κ hb hu hc hK => ?_
      have h65 : a.tmps[65]?.getD undef = .bool false := hc 8 65 rfl rfl
      have hk := Lib.hid (fun w1 (h : Below ω.heap.size ω w1) => hK (.bool false) w1 rfl h)
      clear hK hu hc
      go_simp
      exact hk.out _ (Below.refl _ _)
    · refine calm_step_guard (g := 9) (b := false) (d := 66) rfl rfl (fun a w hc => hc 9 66 rfl rfl) fun a ω κ hb hu hc hK => ?_
      have h7 : a.tmps[7]?.getD undef = .int .i64 0 := (hu 7 rfl).trans e7
      have hk := Lib.hid (fun w1 (h : Below ω.heap.size ω w1) => hK (.int .i64 0) w1 rfl h)
      clear hK hu hc
      go_simp
      exact hk.out _ (Below.refl _ _)
    · refine calm_step_guard (g := 9) (b := false) (d := 66) rfl rfl (fun a w hc => hc 9 66 rfl rfl) fun a ω κ hb hu hc hK => ?_
      have h67 : a.tmps[67]?.getD undef = .int .i64 0 := hc 10 67 rfl rfl
      have hk := Lib.hid (fun w1 (h : Below ω.heap.size ω w1) => hK (.bool false) w1 rfl h)
      clear hK hu hc
      go_simp
      exact hk.out _ (Below.refl _ _)
    · refine calm_step_guard (g := 9) (b := false) (d := 66) rfl rfl (fun a w hc => hc 9 66 rfl rfl) fun a ω κ hb hu hc hK => ?_
      have h68 : a.tmps[68]?.getD undef = .bool false := hc 11 68 rfl rfl
      have hk := Lib.hid (fun w1 (h : Below ω.heap.size ω w1) => hK (.bool false) w1 rfl h)
      clear hK hu hc
      go_simp
      exact hk.out _ (Below.refl _ _)
    · exact calm_step_skip (g := 12) (b := true) (d := 69) rfl rfl (fun a w hc => hc 12 69 rfl rfl) (fun _ => trivial)
    · exact calm_step_skip (g := 12) (b := true) (d := 69) rfl rfl (fun a w hc => hc 12 69 rfl rfl) (fun _ => trivial)
    · exact calm_step_skip (g := 12) (b := true) (d := 69) rfl rfl (fun a w hc => hc 12 69 rfl rfl) (fun _ => trivial)
    · refine calm_step_guard (g := 9) (b := false) (d := 66) rfl rfl (fun a w hc => hc 9 66 rfl rfl) fun a ω κ hb hu hc hK => ?_
      have h69 : a.tmps[69]?.getD undef = .bool false := hc 12 69 rfl rfl
      have h72 : (SRel.any).p (a.tmps[72]?.getD undef) ω := hc 15 72 rfl rfl
      have hk := Lib.hid (fun w1 (h : Below ω.heap.size ω w1) => hK (.bool false) w1 rfl h)
      clear hK hu hc
      go_simp
      exact hk.out _ (Below.refl _ _)
    · refine calm_step rfl fun a ω κ hb hu hc hK => ?_
      have h66 : a.tmps[66]?.getD undef = .bool false := hc 9 66 rfl rfl
      have h73 : a.tmps[73]?.getD undef = .bool false := hc 16 73 rfl rfl
      have hk := Lib.hid (fun w1 (h : Below ω.heap.size ω w1) => hK (.bool false) w1 rfl h)
      clear hK hu hc
      go_simp
      exact hk.out _ (Below.refl _ _)
    · intro a1 w1 hb1 hu1 hsz1 hdf1 hc1
      have ha0 := hha0.out
      subst ha0
      have he := act_patch (n := 100) [false, false, false, false, false, false, false, false, false, false, false, false, false, false, false, false, false, false, false, false, false, false, false, false, false, false, false, false, false, false, false, false, false, false, false, false, false, false, false, false, false, false, false, false, false, false, false, false, false, false, false, false, false, false, false, false, false, true, true, true, true, true, true, true, true, true, true, true, true, true, true, true, true, true, true, false, false, false, false, false, false, false, false, false, false, false, false, false, false, false, false, false, false, false, false, false, false, false, false, false] rfl (by kernel_rfl) hu1 hsz1 hdf1
      simp only [patch, cond_true, cond_false, Nat.reduceAdd] at he
      have hkn74 : a1.tmps[74]?.getD undef = .bool false := hc1 17 74 rfl
      have p8 := p7.step hb1
      have q8 := q7.step hb1
      have o8 := o7.step hb1
      have hL8 := below_step hb1 hL7 (Nat.le_refl _)
      clear hb1 hu1 hsz1 hdf1 hc1 hz0 hha0 e0 e7 e11
      rw [he]
      clear he
      rw [hkn74]
      clear hkn74
      generalize a1.tmps[57]?.getD undef = x57 at *
      generalize a1.tmps[58]?.getD undef = x58 at *
      generalize a1.tmps[59]?.getD undef = x59 at *
      generalize a1.tmps[60]?.getD undef = x60 at *
      generalize a1.tmps[61]?.getD undef = x61 at *
      generalize a1.tmps[62]?.getD undef = x62 at *
      generalize a1.tmps[63]?.getD undef = x63 at *
      generalize a1.tmps[64]?.getD undef = x64 at *
      generalize a1.tmps[65]?.getD undef = x65 at *
      generalize a1.tmps[66]?.getD undef = x66 at *
      generalize a1.tmps[67]?.getD undef = x67 at *
      generalize a1.tmps[68]?.getD undef = x68 at *
      generalize a1.tmps[69]?.getD undef = x69 at *
      generalize a1.tmps[70]?.getD undef = x70 at *
      generalize a1.tmps[71]?.getD undef = x71 at *
      generalize a1.tmps[72]?.getD undef = x72 at *
      generalize a1.tmps[73]?.getD undef = x73 at *
      clear p7 q7 o7 hL7 hpa hcs
      by_cases hgz : G = 0
      · subst hgz
        have hoe2 : Hid (o.map At.kv = ((cardOf (l.map At.kv)).upon (cardOf (m.map At.kv))).attrs) := by show _ = _; rw [hoe, hos.out, if_neg (by simp)]
        clear hG hoe hos
        go_wp2_with fail
        refine (ref_CardOf A1 l c1 _ p8 hl).mono ?_
        rintro e w9 ⟨rfl, hb9⟩
        have q9 := q8.step hb9
        have o9 := o8.step hb9
        have hL9 := below_step hb9 hL8 (Nat.le_refl _)
        clear p8 q8 o8 hL8 hb9
        generalize cardOf (l.map At.kv) = X at *
        have hXc := crd_cells X
        go_wp2_with fail
        refine (ref_CardOf A2 m c2 _ q9 hm).mono ?_
        rintro e w10 ⟨rfl, hb10⟩
        have o10 := o9.step hb10
        have hL10 := below_step hb10 hL9 (Nat.le_refl _)
        clear q9 o9 hL9 hb10
        generalize cardOf (m.map At.kv) = Y at *
        have hYc := crd_cells Y
        go_wp2_with fail
        refine (ref_Upon X Y _).mono ?_
        rintro e w11 ⟨rfl, hb11⟩
        have o11 := o10.step hb11
        have hL11 := below_step hb11 hL10 (Nat.le_refl _)
        clear o10 hL10 hb11
        generalize X.upon Y = Z at *
        have hZc := crd_cells Z
        go_wp2_with fail
        refine (ref_Attrs Z _ hvl.out).mono ?_
        rintro e w12 ⟨v, rfl, Aw, wt, cw, rfl, hcw, hwe, hAw, hb12⟩
        have o12 := o11.step hb12
        have hL12 := below_step hb12 hL11 (Nat.le_refl _)
        clear o11 hL11 hb12
        have hsame2 := Lib.hid (same_trueS (hoe2.out.trans hwe.symm))
        clear hoe2 hwe
        have hsm2 := Lib.hid (ref_SameAttrs Ao Aw o wt co cw w12 o12 hAw (by omega))
        rw [hsame2.out] at hsm2
        go_wp2_with fail
        refine hsm2.out.mono ?_
        rintro e w13 ⟨rfl, hb13⟩
        have hL13 := below_step hb13 hL12 (Nat.le_refl _)
        clear hsm2
        go_wp2
        go_ret
        exact ⟨ret_bool (by simp), hL13⟩
      · have hon : o = [] := List.map_eq_nil_iff.1 (by rw [hoe, hos.out, if_pos hgz])
        subst hon
        have hb0 : (G == 0) = false := by simpa using hgz
        have hb1' : (G != 0) = true := by simpa using hgz
        clear hgz hG hoe hos
        go_wp2
        go_ret
        exact ⟨ret_bool (by simp), hL8⟩
  · have hoz : overZ (l.map At.kv) (m.map At.kv) = F := by rw [hZ.out, if_pos hf]
    have hos : overS (l.map At.kv) (m.map At.kv) = [] := by rw [hS.out, if_pos hf]
    have hps : packS (l.map At.kv) = [] := by rw [hP.out, if_neg hf]
    have hon : o = [] := by rw [hos] at hoe; exact List.map_eq_nil_iff.1 hoe
    subst hon
    rw [hoz, hps]
    have hb0 : (F == 0) = false := by simpa using hf
    have hb1' : (F != 0) = true := by simpa using hf
    clear hoz hos hps hoe hS hZ hP hf hF s7
    go_upto_region 8 with (fail)
    generalize ha0 : Act.mk _ _ = a0
    have e0 : a0.tmps[0]?.getD undef = .slice A1 l.length c1 := by rw [← ha0]; rfl
    have e7 : a0.tmps[7]?.getD undef = .int .i64 F := by rw [← ha0]; rfl
    have e11 : a0.tmps[11]?.getD undef = .slice As 0 cs := by rw [← ha0]; rfl
    have hz0 : a0.tmps.size = 100 := by rw [← ha0]; rfl
    have hha0 := Lib.hid ha0
    clear ha0
    refine wp_region_calm (fun jx_ => match jx_ with | 0 => SRel.is (.int .i64 F) | 1 => SRel.is (.bool false) | 2 => SRel.is (.bool false) | 3 => SRel.any | 4 => SRel.any | 5 => SRel.any | 6 => SRel.any | 7 => SRel.any | 8 => SRel.is (.bool false) | 9 => SRel.is (.bool false) | 10 => SRel.is (.int .i64 F) | 11 => SRel.is (.bool true) | 12 => SRel.is (.bool true) | 13 => SRel.is (.slice As 0 cs) | 14 => SRel.is (.int .i64 0) | 15 => SRel.is (.bool false) | 16 => SRel.is (.bool false) | 17 => SRel.is (.bool false) | _ => SRel.any) (by kernel_rfl) (by kernel_rfl) (by kernel_rfl) (slotsOk_of hz0 (by kernel_rfl)) ⟨?_, ?_, ?_, ?_, ?_, ?_, ?_, ?_, ?_, ?_, ?_, ?_, ?_, ?_, ?_, ?_, ?_, ?_, trivial⟩ ?_
    · refine calm_step rfl fun a ω κ hb hu hc hK => ?_
      have h7 : a.tmps[7]?.getD undef = .int .i64 F := (hu 7 rfl).trans e7
      have hk := Lib.hid (fun w1 (h : Below ω.heap.size ω w1) => hK (.int .i64 F) w1 rfl h)
      clear hK hu hc
      go_simp
      exact hk.out _ (Below.refl _ _)
    · refine calm_step rfl fun a ω κ hb hu hc hK => ?_
      have h57 : a.tmps[57]?.getD undef = .int .i64 F := hc 0 57 rfl rfl
      have hk := Lib.hid (fun w1 (h : Below ω.heap.size ω w1) => hK (.bool false) w1 rfl h)
      clear hK hu hc
      go_simp
      exact hk.out _ (Below.refl _ _)
    · refine calm_step rfl fun a ω κ hb hu hc hK => ?_
      have h58 : a.tmps[58]?.getD undef = .bool false := hc 1 58 rfl rfl
      have hk := Lib.hid (fun w1 (h : Below ω.heap.size ω w1) => hK (.bool false) w1 rfl h)
      clear hK hu hc
      go_simp
      exact hk.out _ (Below.refl _ _)
    · exact calm_step_skip (g := 2) (b := true) (d := 59) rfl rfl (fun a w hc => hc 2 59 rfl rfl) (fun _ => trivial)
    · exact calm_step_skip (g := 2) (b := true) (d := 59) rfl rfl (fun a w hc => hc 2 59 rfl rfl) (fun _ => trivial)
    · exact calm_step_skip (g := 2) (b := true) (d := 59) rfl rfl (fun a w hc => hc 2 59 rfl rfl) (fun _ => trivial)
    · exact calm_step_skip (g := 2) (b := true) (d := 59) rfl rfl (fun a w hc => hc 2 59 rfl rfl) (fun _ => trivial)
    · exact calm_step_skip (g := 2) (b := true) (d := 59) rfl rfl (fun a w hc => hc 2 59 rfl rfl) (fun _ => trivial)
    · refine calm_step rfl fun a ω κ hb hu hc hK => ?_
      have h59 : a.tmps[59]?.getD undef = .bool false := hc 2 59 rfl rfl
      have h64 : (SRel.any).p (a.tmps[64]?.getD undef) ω := hc 7 64 rfl rfl
      have hk := Lib.hid (fun w1 (h : Below ω.heap.size ω w1) => hK (.bool false) w1 rfl h)
      clear hK hu hc
      go_simp
      exact hk.out _ (Below.refl _ _)
    · refine calm_step rfl fun a ω κ hb hu hc hK => ?_
      have h65 : a.tmps[65]?.getD undef = .bool false := hc 8 65 rfl rfl
      have hk := Lib.hid (fun w1 (h : Below ω.heap.size ω w1) => hK (.bool false) w1 rfl h)
      clear hK hu hc
      go_simp
      exact hk.out _ (Below.refl _ _)
    · refine calm_step_guard (g := 9) (b := false) (d := 66) rfl rfl (fun a w hc => hc 9 66 rfl rfl) fun a ω κ hb hu hc hK => ?_
      have h7 : a.tmps[7]?.getD undef = .int .i64 F := (hu 7 rfl).trans e7
      have hk := Lib.hid (fun w1 (h : Below ω.heap.size ω w1) => hK (.int .i64 F) w1 rfl h)
      clear hK hu hc
      go_simp
      exact hk.out _ (Below.refl _ _)
    · refine calm_step_guard (g := 9) (b := false) (d := 66) rfl rfl (fun a w hc => hc 9 66 rfl rfl) fun a ω κ hb hu hc hK => ?_
      have h67 : a.tmps[67]?.getD undef = .int .i64 F := hc 10 67 rfl rfl
      have hk := Lib.hid (fun w1 (h : Below ω.heap.size ω w1) => hK (.bool true) w1 rfl h)
      clear hK hu hc
      go_simp
      exact hk.out _ (Below.refl _ _)
    · refine calm_step_guard (g := 9) (b := false) (d := 66) rfl rfl (fun a w hc => hc 9 66 rfl rfl) fun a ω κ hb hu hc hK => ?_
      have h68 : a.tmps[68]?.getD undef = .bool true := hc 11 68 rfl rfl
      have hk := Lib.hid (fun w1 (h : Below ω.heap.size ω w1) => hK (.bool true) w1 rfl h)
      clear hK hu hc
      go_simp
      exact hk.out _ (Below.refl _ _)
    · refine calm_step_guard (g := 12) (b := true) (d := 69) rfl rfl (fun a w hc => hc 12 69 rfl rfl) fun a ω κ hb hu hc hK => ?_
      have h11 : a.tmps[11]?.getD undef = .slice As 0 cs := (hu 11 rfl).trans e11
      have hk := Lib.hid (fun w1 (h : Below ω.heap.size ω w1) => hK (.slice As 0 cs) w1 rfl h)
      clear hK hu hc
      go_simp
      exact hk.out _ (Below.refl _ _)
    · refine calm_step_guard (g := 12) (b := true) (d := 69) rfl rfl (fun a w hc => hc 12 69 rfl rfl) fun a ω κ hb hu hc hK => ?_
      have h70 : a.tmps[70]?.getD undef = .slice As 0 cs := hc 13 70 rfl rfl
      have hk := Lib.hid (fun w1 (h : Below ω.heap.size ω w1) => hK (.int .i64 0) w1 rfl h)
      clear hK hu hc
      go_simp
      exact hk.out _ (Below.refl _ _)
    · refine calm_step_guard (g := 12) (b := true) (d := 69) rfl rfl (fun a w hc => hc 12 69 rfl rfl) fun a ω κ hb hu hc hK => ?_
      have h71 : a.tmps[71]?.getD undef = .int .i64 0 := hc 14 71 rfl rfl
      have hk := Lib.hid (fun w1 (h : Below ω.heap.size ω w1) => hK (.bool false) w1 rfl h)
      clear hK hu hc
      go_simp
      exact hk.out _ (Below.refl _ _)
    · refine calm_step_guard (g := 9) (b := false) (d := 66) rfl rfl (fun a w hc => hc 9 66 rfl rfl) fun a ω κ hb hu hc hK => ?_
      have h69 : a.tmps[69]?.getD undef = .bool true := hc 12 69 rfl rfl
      have h72 : a.tmps[72]?.getD undef = .bool false := hc 15 72 rfl rfl
      have hk := Lib.hid (fun w1 (h : Below ω.heap.size ω w1) => hK (.bool false) w1 rfl h)
      clear hK hu hc
      go_simp
      exact hk.out _ (Below.refl _ _)
    · refine calm_step rfl fun a ω κ hb hu hc hK => ?_
      have h66 : a.tmps[66]?.getD undef = .bool false := hc 9 66 rfl rfl
      have h73 : a.tmps[73]?.getD undef = .bool false := hc 16 73 rfl rfl
      have hk := Lib.hid (fun w1 (h : Below ω.heap.size ω w1) => hK (.bool false) w1 rfl h)
      clear hK hu hc
      go_simp
      exact hk.out _ (Below.refl _ _)
    · intro a1 w1 hb1 hu1 hsz1 hdf1 hc1
      have ha0 := hha0.out
      subst ha0
      have he := act_patch (n := 100) [false, false, false, false, false, false, false, false, false, false, false, false, false, false, false, false, false, false, false, false, false, false, false, false, false, false, false, false, false, false, false, false, false, false, false, false, false, false, false, false, false, false, false, false, false, false, false, false, false, false, false, false, false, false, false, false, false, true, true, true, true, true, true, true, true, true, true, true, true, true, true, true, true, true, true, false, false, false, false, false, false, false, false, false, false, false, false, false, false, false, false, false, false, false, false, false, false, false, false, false] rfl (by kernel_rfl) hu1 hsz1 hdf1
      simp only [patch, cond_true, cond_false, Nat.reduceAdd] at he
      have hkn74 : a1.tmps[74]?.getD undef = .bool false := hc1 17 74 rfl
      have p8 := p7.step hb1
      have q8 := q7.step hb1
      have o8 := o7.step hb1
      have hL8 := below_step hb1 hL7 (Nat.le_refl _)
      clear hb1 hu1 hsz1 hdf1 hc1 hz0 hha0 e0 e7 e11
      rw [he]
      clear he
      rw [hkn74]
      clear hkn74
      generalize a1.tmps[57]?.getD undef = x57 at *
      generalize a1.tmps[58]?.getD undef = x58 at *
      generalize a1.tmps[59]?.getD undef = x59 at *
      generalize a1.tmps[60]?.getD undef = x60 at *
      generalize a1.tmps[61]?.getD undef = x61 at *
      generalize a1.tmps[62]?.getD undef = x62 at *
      generalize a1.tmps[63]?.getD undef = x63 at *
      generalize a1.tmps[64]?.getD undef = x64 at *
      generalize a1.tmps[65]?.getD undef = x65 at *
      generalize a1.tmps[66]?.getD undef = x66 at *
      generalize a1.tmps[67]?.getD undef = x67 at *
      generalize a1.tmps[68]?.getD undef = x68 at *
      generalize a1.tmps[69]?.getD undef = x69 at *
      generalize a1.tmps[70]?.getD undef = x70 at *
      generalize a1.tmps[71]?.getD undef = x71 at *
      generalize a1.tmps[72]?.getD undef = x72 at *
      generalize a1.tmps[73]?.getD undef = x73 at *
      clear p7 q7 o7 hL7
      go_wp2
      go_ret
      exact ⟨ret_bool (by simp), hL8⟩
end Go.Proofs.Ytdlmamnnamlleaa
