/- The document's Turned. -/
import Derived.Test.YtdlmamnnamlleaaCh5
import Derived.Test.YtdlmamnnamlleaaRu16
namespace Go.Proofs.Ytdlmamnnamlleaa
open Go.ChangeShapes Go.WideShapes Go.ChangeAt Go.RowKit
set_option maxHeartbeats 1000000
set_option maxRecDepth 100000
attribute [local go_sem] kp_refl kp_alloc kp_setCell kp_drew kp_drewN row_old rowAt_new rowAt_old
attribute [local go_sem ↓] load_Crd store_Crd execl_Crd execs_Crd
attribute [local go_sem] isHead_mk blkOf_mk isAgg_mk cellsV_mk row_drew rowAt_drew row_new_cells setRow_new crd_zero

def SRel.nbC (B n : Nat) : SRel := ⟨fun v w => ∃ g, v = .pointer (some ⟨g, 0, none⟩) ∧ B ≤ g ∧ Row w g n, fun _ _ _ hb ⟨g, h1, h2, h3⟩ => ⟨g, h1, h2, row_below h3 hb h3.lt⟩⟩
/-- What Turned answers. -/
def turnedR2 (s t : List KV) : Crd × Int := if ((cardOf s).upon (cardOf t)).object = false then (crd0, 12) else ((cardOf s).upon (cardOf t), 0)
def turnedR1 (s t : List KV) (cp : Bool) : Crd × Int := if scanG (scanUAt (cardOf s) cp) t ≠ 0 then (crd0, scanG (scanUAt (cardOf s) cp) t) else turnedR2 s t
def turnedR (s t : List KV) (cp : Bool) : Crd × Int :=
  if validR s = false then (crd0, 1) else if fault t ≠ 0 then (crd0, fault t) else if cp = false ∧ (cardOf s).one 7 = false then (crd0, 12) else turnedR1 s t cp
theorem validR_false {s : List KV} (h : ¬ s = (cardOf s).attrs ∨ fault s ≠ 0 ∨ (cardOf s).object = false) : validR s = false := by
  unfold validR
  rcases h with h | h | h
  · simp [h]
  · simp [h]
  · simp [h]
theorem validR_true {s : List KV} (h1 : s = (cardOf s).attrs) (h2 : fault s = 0) (h3 : (cardOf s).object = true) : validR s = true := by
  unfold validR
  rw [h2, h3, ← h1]; simp
set_option maxHeartbeats 8000000 in
theorem ref_Turned (A1 A2 : Option Addr) (l m : List At) (c1 c2 : Nat) (cp : Bool) (w : World) (h1 : Ats w w.heap.size A1 l) (h2 : Ats w w.heap.size A2 m) (hl : l.length ≤ 9223372036854775807) (hm : m.length ≤ 9223372036854775807) (hlc : l.length ≤ c1) (hcm : c1 ≤ 9223372036854775807) (hmc : m.length ≤ c2) (hcm2 : c2 ≤ 9223372036854775807) :
    Calls Try.prog 52 #[.slice A1 l.length c1, .slice A2 m.length c2, .bool cp] w (CrdErr (turnedR (l.map At.kv) (m.map At.kv) cp) w) := by
  have hcz := crd_cells crd0
  have hM : Hid (turnedR (l.map At.kv) (m.map At.kv) cp = if validR (l.map At.kv) = false then (crd0, 1) else if fault (m.map At.kv) ≠ 0 then (crd0, fault (m.map At.kv)) else if cp = false ∧ (cardOf (l.map At.kv)).one 7 = false then (crd0, 12) else turnedR1 (l.map At.kv) (m.map At.kv) cp) := rfl
  have hfin := Lib.hid (fun (x : Crd) (z : Int) (w' : World) (h : turnedR (l.map At.kv) (m.map At.kv) cp = (x, z)) (hb : Below w.heap.size w w') => crdErr_of h hb)
  have hvl := Lib.hid (fun k (_ : k < 19) => cardOf_v_len l h1 k)
  have hb0 := below_alloc' w (.cells (crdA crd0) 40)
  have p0 := h1.step hb0
  have q0 := h2.step hb0
  have r0 : Row (w.alloc (.cells (crdA crd0) 40)) w.heap.size 38 := (row_new rfl).2 hcz.1
  go_enter Try.func52, Try.ntmps52
  go_wp2_with fail
  refine (ref_CardOf A1 l c1 _ p0 hl).mono ?_
  rintro e w1 ⟨rfl, hb1⟩
  have hX : Hid (cardOf (l.map At.kv) = cardOf (l.map At.kv)) := rfl
  generalize hXe : cardOf (l.map At.kv) = X at *
  have hXc := crd_cells X
  have p1 := p0.step hb1
  have q1 := q0.step hb1
  have r1 := row_below r0 hb1 r0.lt
  have hL1 := below_step hb1 hb0 (Nat.le_refl _)
  have hb2 := below_alloc' w1 (.cells (crdA X) 40)
  have p2 := p1.step hb2
  have q2 := q1.step hb2
  have r2 := row_below r1 hb2 r1.lt
  have x2 : CrdAt (w1.alloc (.cells (crdA X) 40)) w1.heap.size X := Fa.new (m := 38) (f := cf X) _ rfl
  have hL2 := below_step hb2 hL1 (Nat.le_refl _)
  have hg8 : w.heap.size < w1.heap.size := r1.lt
  replace hXe := Lib.hid hXe
  clear hX p0 q0 r0 hb0 p1 q1 r1 hL1 hb1 hb2
  go_wp2_with fail
  refine (ref_Attrs X _ hvl.out).mono ?_
  rintro e w3 ⟨v, rfl, Aw, wt, cw, rfl, hcw, hwe, hAw, hb3⟩
  have p3 := p2.step hb3
  have q3 := q2.step hb3
  have r3 := row_below r2 hb3 r2.lt
  have x3 := x2.step hb3
  have hL3 := below_step hb3 hL2 (Nat.le_refl _)
  generalize hG8 : w1.heap.size = g8 at *
  have hsm := Lib.hid (ref_SameAttrs A1 Aw l wt c1 cw w3 p3 hAw (by omega))
  have hsd : Hid (sameKV l wt = decide (l.map At.kv = X.attrs)) := by show _ = _; unfold sameKV; rw [hwe]
  rw [hsd.out] at hsm
  clear p2 q2 r2 x2 hL2 hb3 hwe
  go_wp2_with fail
  refine hsm.out.mono ?_
  rintro e w4 ⟨rfl, hb4⟩
  have p4 := p3.step hb4
  have q4 := q3.step hb4
  have r4 := row_below r3 hb4 r3.lt
  have x4 := x3.step hb4
  have hL4 := below_step hb4 hL3 (Nat.le_refl _)
  clear p3 q3 r3 x3 hL3 hb4 hsm hAw
  by_cases hsame : l.map At.kv = X.attrs
  · have hsameH := Lib.hid hsame
    have ds : decide (l.map At.kv = X.attrs) = true := by simpa using hsame
    clear hsame
    generalize decide (l.map At.kv = X.attrs) = bs at *
    subst ds
    go_wp2_with fail
    refine (ref_AttrsFault A1 l c1 _ p4 hl hlc hcm).mono ?_
    rintro e w5 ⟨rfl, hb5⟩
    have p5 := p4.step hb5
    have q5 := q4.step hb5
    have r5 := row_below r4 hb5 r4.lt
    have x5 := x4.step hb5
    have hL5 := below_step hb5 hL4 (Nat.le_refl _)
    clear p4 q4 r4 x4 hL4 hb5
    generalize hF : fault (l.map At.kv) = F at *
    by_cases hf : F = 0
    · subst hf
      have hFH := Lib.hid hF
      clear hF
      have aX := x5.at_
      have rX := x5.row
      go_wp2_with fail
      refine (ref_Object X _).mono ?_
      rintro e w6 ⟨rfl, hb6⟩
      have p6 := p5.step hb6
      have q6 := q5.step hb6
      have r6 := row_below r5 hb6 r5.lt
      have x6 := x5.step hb6
      have hL6 := below_step hb6 hL5 (Nat.le_refl _)
      clear p5 q5 r5 x5 hL5 hb6 aX rX
      cases hob : X.object with
      | false =>
        have hM2 : Hid (turnedR (l.map At.kv) (m.map At.kv) cp = (crd0, 1)) := by show _ = _; rw [hM.out, if_pos (validR_false (.inr (.inr (by rw [hXe.out]; exact hob))))]
        clear hob hM
        go_wp2
        exact ret_stored2 (p := 6) (q := 7) (ty := 40) (g := w.heap.size) (n := 38) (c := crdA crd0) rfl Try.underlying40 rfl (by kernel_rfl) rfl r6 hcz.1 rfl (hfin.out _ _ _ hM2.out (below_setRow hL6 (Nat.le_refl _)))
      | true =>
        have hM2 : Hid (turnedR (l.map At.kv) (m.map At.kv) cp = if fault (m.map At.kv) ≠ 0 then (crd0, fault (m.map At.kv)) else if cp = false ∧ X.one 7 = false then (crd0, 12) else turnedR1 (l.map At.kv) (m.map At.kv) cp) := by
          show _ = _
          rw [hM.out, if_neg (by rw [validR_true (by rw [hXe.out]; exact hsameH.out) hFH.out (by rw [hXe.out]; exact hob)]; simp)]
        clear hob hM hFH hsameH
        go_wp2_with fail
        refine (ref_AttrsFault A2 m c2 _ q6 hm hmc hcm2).mono ?_
        rintro e w7 ⟨rfl, hb7⟩
        have q7 := q6.step hb7
        have r7 := row_below r6 hb7 r6.lt
        have x7 := x6.step hb7
        have hL7 := below_step hb7 hL6 (Nat.le_refl _)
        clear p6 q6 r6 x6 hL6 hb7
        generalize hG : fault (m.map At.kv) = G at *
        by_cases hgz : G = 0
        · subst hgz
          have hM3 : Hid (turnedR (l.map At.kv) (m.map At.kv) cp = if cp = false ∧ X.one 7 = false then (crd0, 12) else turnedR1 (l.map At.kv) (m.map At.kv) cp) := by show _ = _; rw [hM2.out, if_neg (by simp)]
          have hgt := Lib.hid (good_of hG)
          clear hM2 hG
          have aX := x7.at_
          have rX := x7.row
          have hone : ∀ V : World, Calls Try.prog 78 #[.agg (crdA X), .int .i64 7] V fun e w' => e = .returned (.bool (X.one 7)) ∧ Below V.heap.size V w' := fun V => ref_One X 7 (by omega) V
          have hone' := Lib.hid hone
          clear hone
          go_wp2_with fail
          refine (hone'.out _).mono ?_
          rintro e w8 ⟨rfl, hb8⟩
          have q8 := q7.step hb8
          have r8 := row_below r7 hb8 r7.lt
          have x8 := x7.step hb8
          have hL8 := below_step hb8 hL7 (Nat.le_refl _)
          clear q7 r7 x7 hL7 hb8 aX rX hone'
          by_cases hc7 : cp = false ∧ X.one 7 = false
          · have hM4 : Hid (turnedR (l.map At.kv) (m.map At.kv) cp = (crd0, 12)) := by show _ = _; rw [hM3.out, if_pos hc7]
            obtain ⟨hc1, hc2⟩ := hc7
            rw [hc2]
            clear hc2 hM3
            subst hc1
            go_wp2
            exact ret_stored2 (p := 6) (q := 7) (ty := 40) (g := w.heap.size) (n := 38) (c := crdA crd0) rfl Try.underlying40 rfl (by kernel_rfl) rfl r8 hcz.1 rfl (hfin.out _ _ _ hM4.out (below_setRow hL8 (Nat.le_refl _)))
          · have hM4 : Hid (turnedR (l.map At.kv) (m.map At.kv) cp = turnedR1 (l.map At.kv) (m.map At.kv) cp) := by show _ = _; rw [hM3.out, if_neg hc7]
            clear hM3
            have hgo : X.one 7 = true ∨ X.one 7 = false ∧ cp = true := by
              cases h7 : X.one 7 with
              | true => exact .inl rfl
              | false =>
                cases cp with
                | true => exact .inr ⟨rfl, rfl⟩
                | false => exact absurd ⟨rfl, h7⟩ hc7
            clear hc7
            rcases hgo with h7 | ⟨h7, hct⟩
            · rw [h7]
              clear h7
              go_wp2
              refine tu_loop _ cp X A2 m c2 w.heap.size g8 _ _ _ _ _ _ _ _ _ _ _ _ _ _ _ _ _ _ _ _ _ _ _ _ _ _ _ _ _ _ _ _ _ _ _ _ _ _ _ _ _ _ _ _ _ _ _ _ _ _ _ _ _ _ _ _ _ _ _ _ _ _ _ _ _ _ _ _ _ _ _ _ _ _ _ _ _ _ _ _ _ _ _ _ _ _ _ _ _ _ _ _ _ _ _ _ _ _ _ _ _ _ _ _ _ _ _ _ _ _ _ _ _ _ r8 x8 q8 hgt.out (by omega) ?_ ?_
              · intro t11 t12 t13 t50 t51 t52 t53 t54 t55 t56 t57 t58 t59 t60 t61 t62 t63 t64 t65 t66 t67 t68 t69 t70 t71 t72 t73 t74 t75 t76 t77 t78 t79 t80 t81 t82 t83 t84 t85 t86 t87 t88 t89 t90 t91 t92 t93 t94 t95 t96 t97 t98 t99 t100 t101 t102 t103 t104 t105 t106 t107 t108 t109 t49 z w9 hb9 hz hs
                have hM5 : Hid (turnedR (l.map At.kv) (m.map At.kv) cp = (crd0, z)) := by show _ = _; rw [hM4.out]; unfold turnedR1; rw [hXe.out, hs, if_pos hz]
                have r9 := row_below r8 hb9 r8.lt
                have hL9 := below_step hb9 hL8 (Nat.le_refl _)
                clear hs hz
                go_wp2
                exact ret_stored2 (p := 6) (q := 7) (ty := 40) (g := w.heap.size) (n := 38) (c := crdA crd0) rfl Try.underlying40 rfl (by kernel_rfl) rfl r9 hcz.1 rfl (hfin.out _ _ _ hM5.out (below_setRow hL9 (Nat.le_refl _)))
              · intro t11 t12 t13 t50 t51 t52 t53 t54 t55 t56 t57 t58 t59 t60 t61 t62 t63 t64 t65 t66 t67 t68 t69 t70 t71 t72 t73 t74 t75 t76 t77 t78 t79 t80 t81 t82 t83 t84 t85 t86 t87 t88 t89 t90 t91 t92 t93 t94 t95 t96 t97 t98 t99 t100 t101 t102 t103 t104 t105 t106 t107 t108 t109 w9 hb9 hs
                have hM5 : Hid (turnedR (l.map At.kv) (m.map At.kv) cp = turnedR2 (l.map At.kv) (m.map At.kv)) := by show _ = _; rw [hM4.out]; unfold turnedR1; rw [hXe.out, if_neg (by simp [hs])]
                have r9 := row_below r8 hb9 r8.lt
                have x9 := x8.step hb9
                have q9 := q8.step hb9
                have hL9 := below_step hb9 hL8 (Nat.le_refl _)
                clear hs r8 x8 q8 hL8 hM4 hb9
                have hX9 := Lib.hid (fun V (hV : Below w9.heap.size w9 V) => x9.step hV)
                have hCO := Lib.hid (fun V (hV : Below w9.heap.size w9 V) => ref_CardOf A2 m c2 V (q9.step hV) hm)
                generalize hYe : cardOf (m.map At.kv) = Y at *
                replace hYe := Lib.hid hYe
                have hUP := Lib.hid (fun V => ref_Upon X Y V)
                generalize hZe : X.upon Y = Z at *
                replace hZe := Lib.hid hZe
                have hZc := crd_cells Z
                have hYc := crd_cells Y
                have hg9 : w.heap.size < w9.heap.size := r9.lt
                have r9H := Lib.hid r9
                have hL9H := Lib.hid hL9
                clear r9 x9 q9 hL9
                go_upto_region 34 with (fail)
                generalize ha0 : Act.mk _ _ = a0
                have e1 : a0.tmps[1]?.getD undef = .slice A2 m.length c2 := by rw [← ha0]; rfl
                have e8 : a0.tmps[8]?.getD undef = .pointer (some ⟨g8, 0, none⟩) := by rw [← ha0]; rfl
                have hz0 : a0.tmps.size = 119 := by rw [← ha0]; rfl
                have hha0 := Lib.hid ha0
                clear ha0
                refine wp_region_tailL (fun jx_ => match jx_ with | 0 => SRel.is (.agg (crdA X)) | 1 => SRel.is (.slice A2 m.length c2) | 2 => SRel.is (.agg (crdA Y)) | 3 => SRel.is (.agg (crdA Z)) | 4 => SRel.nbC w9.heap.size 38 | 5 => SRel.any | _ => SRel.any) 5 (by kernel_rfl) (by kernel_rfl) (by kernel_rfl) (slotsOk_of hz0 (by kernel_rfl)) (by kernel_rfl) (of_decide_eq_true (by kernel_rfl)) ⟨?_, ?_, ?_, ?_, ?_, trivial⟩ ?_
                · refine calmL_step rfl fun a ω κ hb hu hc hK => ?_
                  have h8 : a.tmps[8]?.getD undef = .pointer (some ⟨g8, 0, none⟩) := (hu 8 rfl).trans e8
                  have hk := Lib.hid (fun w1 (h : Below ω.heap.size ω w1) => hK (.agg (crdA X)) w1 rfl h)
                  clear hK hu hc
                  have aX := (hX9.out ω hb).at_
                  have rX := (hX9.out ω hb).row
                  go_simp
                  exact hk.out _ (Below.refl _ _)
                · refine calmL_step rfl fun a ω κ hb hu hc hK => ?_
                  have h1 : a.tmps[1]?.getD undef = .slice A2 m.length c2 := (hu 1 rfl).trans e1
                  have hk := Lib.hid (fun w1 (h : Below ω.heap.size ω w1) => hK (.slice A2 m.length c2) w1 rfl h)
                  clear hK hu hc
                  go_simp
                  exact hk.out _ (Below.refl _ _)
                · refine calmL_step rfl fun a ω κ hb hu hc hK => ?_
                  have h111 : a.tmps[111]?.getD undef = .slice A2 m.length c2 := hc 1 111 rfl rfl
                  have hk := Lib.hid (fun w1 (h : Below ω.heap.size ω w1) => hK (.agg (crdA Y)) w1 rfl h)
                  clear hK hu hc
                  go_simp
                  go_at_call 30
                  refine (hCO.out ω hb).mono ?_
                  rintro e w1 ⟨rfl, hb1⟩
                  exact hk.out _ hb1
                · refine calmL_step rfl fun a ω κ hb hu hc hK => ?_
                  have h110 : a.tmps[110]?.getD undef = .agg (crdA X) := hc 0 110 rfl rfl
                  have h112 : a.tmps[112]?.getD undef = .agg (crdA Y) := hc 2 112 rfl rfl
                  have hk := Lib.hid (fun w1 (h : Below ω.heap.size ω w1) => hK (.agg (crdA Z)) w1 rfl h)
                  clear hK hu hc
                  go_simp
                  go_at_call 50
                  refine (hUP.out ω).mono ?_
                  rintro e w1 ⟨rfl, hb1⟩
                  exact hk.out _ hb1
                · refine calmL_step rfl fun a ω κ hb hu hc hK => ?_
                  have hk := Lib.hid (fun v w1 (hv : (SRel.nbC w9.heap.size 38).p v w1) (h : Below ω.heap.size ω w1) => hK v w1 hv h)
                  clear hK hu hc
                  go_simp
                  exact hk.out _ _ ⟨ω.heap.size, rfl, hb.size, (row_new rfl).2 hcz.1⟩ (below_alloc' _ _)
                · intro aa ω hb hu hsz hdf hc
                  have h14 : (SRel.nbC w9.heap.size 38).p (aa.tmps[14]?.getD undef) ω := hc 4 14 (by decide) rfl
                  have h110 : aa.tmps[110]?.getD undef = .agg (crdA X) := hc 0 110 (by decide) rfl
                  have h111 : aa.tmps[111]?.getD undef = .slice A2 m.length c2 := hc 1 111 (by decide) rfl
                  have h112 : aa.tmps[112]?.getD undef = .agg (crdA Y) := hc 2 112 (by decide) rfl
                  have h113 : aa.tmps[113]?.getD undef = .agg (crdA Z) := hc 3 113 (by decide) rfl
                  have ha0 := hha0.out
                  subst ha0
                  have he := act_patchL (n := 119) 5 [false, false, false, false, false, false, false, false, false, false, false, false, false, false, true, false, false, false, false, false, false, false, false, false, false, false, false, false, false, false, false, false, false, false, false, false, false, false, false, false, false, false, false, false, false, false, false, false, false, false, false, false, false, false, false, false, false, false, false, false, false, false, false, false, false, false, false, false, false, false, false, false, false, false, false, false, false, false, false, false, false, false, false, false, false, false, false, false, false, false, false, false, false, false, false, false, false, false, false, false, false, false, false, false, false, false, false, false, false, false, true, true, true, true, false, false, false, false, false] rfl (by kernel_rfl) hu hsz hdf
                  simp only [patch, cond_true, cond_false, Nat.reduceAdd] at he
                  clear hu hsz hdf hc hha0 e1 e8 hz0
                  rw [he]
                  clear he
                  generalize aa.tmps[14]?.getD undef = x14 at *
                  generalize aa.tmps[110]?.getD undef = x110 at *
                  generalize aa.tmps[111]?.getD undef = x111 at *
                  generalize aa.tmps[112]?.getD undef = x112 at *
                  generalize aa.tmps[113]?.getD undef = x113 at *
                  subst h110 h111 h112 h113
                  have hrU := row_below r9H.out hb r9H.out.lt
                  have hLU := below_step hb hL9H.out (Nat.le_refl _)
                  obtain ⟨g14, rfl, hg14, hR14⟩ := h14
                  have hrS : Row (ω.setRow g14 (crdA Z)) w.heap.size 38 := (row_setRow_far (by omega)).2 hrU
                  have dS : CrdAt (ω.setRow g14 (crdA Z)) g14 Z := Fa.put hR14
                  have hLS : Below w.heap.size w (ω.setRow g14 (crdA Z)) := below_setRow hLU (by omega)
                  clear hrU hLU hb
                  dsimp only [List.drop]
                  go_upto_region 35 with (fail)
                  generalize ω.setRow g14 (crdA Z) = wS at *
                  clear hR14
                  have aZ := dS.at_
                  have rZ := dS.row
                  go_wp2_with fail
                  refine (ref_Object Z _).mono ?_
                  rintro e wE ⟨rfl, hbE⟩
                  have rE := row_below hrS hbE hrS.lt
                  have dE := dS.step hbE
                  have aE := dE.at_
                  have qE := dE.row
                  have hLE := below_step hbE hLS (Nat.le_refl _)
                  clear aZ rZ hrS dS hLS hbE
                  cases ho : Z.object with
                  | false =>
                    have hM6 : Hid (turnedR (l.map At.kv) (m.map At.kv) cp = (crd0, 12)) := by show _ = _; rw [hM5.out]; unfold turnedR2; rw [hXe.out, hYe.out, hZe.out, if_pos ho]
                    clear ho
                    go_wp2
                    exact ret_stored2 (p := 6) (q := 7) (ty := 40) (g := w.heap.size) (n := 38) (c := crdA crd0) rfl Try.underlying40 rfl (by kernel_rfl) rfl rE hcz.1 rfl (hfin.out _ _ _ hM6.out (below_setRow hLE (Nat.le_refl _)))
                  | true =>
                    have hM6 : Hid (turnedR (l.map At.kv) (m.map At.kv) cp = (Z, 0)) := by show _ = _; rw [hM5.out]; unfold turnedR2; rw [hXe.out, hYe.out, hZe.out, if_neg (by simp [ho])]
                    clear ho
                    go_wp2
                    exact ret_stored2 (p := 6) (q := 7) (ty := 40) (g := w.heap.size) (n := 38) (c := crdA Z) rfl Try.underlying40 rfl (by kernel_rfl) rfl rE hZc.1 rfl (hfin.out _ _ _ hM6.out (below_setRow hLE (Nat.le_refl _)))
            · rw [h7]
              subst hct
              clear h7
              go_wp2
              refine tu_loop _ true X A2 m c2 w.heap.size g8 _ _ _ _ _ _ _ _ _ _ _ _ _ _ _ _ _ _ _ _ _ _ _ _ _ _ _ _ _ _ _ _ _ _ _ _ _ _ _ _ _ _ _ _ _ _ _ _ _ _ _ _ _ _ _ _ _ _ _ _ _ _ _ _ _ _ _ _ _ _ _ _ _ _ _ _ _ _ _ _ _ _ _ _ _ _ _ _ _ _ _ _ _ _ _ _ _ _ _ _ _ _ _ _ _ _ _ _ _ _ _ _ _ _ r8 x8 q8 hgt.out (by omega) ?_ ?_
              · intro t11 t12 t13 t50 t51 t52 t53 t54 t55 t56 t57 t58 t59 t60 t61 t62 t63 t64 t65 t66 t67 t68 t69 t70 t71 t72 t73 t74 t75 t76 t77 t78 t79 t80 t81 t82 t83 t84 t85 t86 t87 t88 t89 t90 t91 t92 t93 t94 t95 t96 t97 t98 t99 t100 t101 t102 t103 t104 t105 t106 t107 t108 t109 t49 z w9 hb9 hz hs
                have hM5 : Hid (turnedR (l.map At.kv) (m.map At.kv) true = (crd0, z)) := by show _ = _; rw [hM4.out]; unfold turnedR1; rw [hXe.out, hs, if_pos hz]
                have r9 := row_below r8 hb9 r8.lt
                have hL9 := below_step hb9 hL8 (Nat.le_refl _)
                clear hs hz
                go_wp2
                exact ret_stored2 (p := 6) (q := 7) (ty := 40) (g := w.heap.size) (n := 38) (c := crdA crd0) rfl Try.underlying40 rfl (by kernel_rfl) rfl r9 hcz.1 rfl (hfin.out _ _ _ hM5.out (below_setRow hL9 (Nat.le_refl _)))
              · intro t11 t12 t13 t50 t51 t52 t53 t54 t55 t56 t57 t58 t59 t60 t61 t62 t63 t64 t65 t66 t67 t68 t69 t70 t71 t72 t73 t74 t75 t76 t77 t78 t79 t80 t81 t82 t83 t84 t85 t86 t87 t88 t89 t90 t91 t92 t93 t94 t95 t96 t97 t98 t99 t100 t101 t102 t103 t104 t105 t106 t107 t108 t109 w9 hb9 hs
                have hM5 : Hid (turnedR (l.map At.kv) (m.map At.kv) true = turnedR2 (l.map At.kv) (m.map At.kv)) := by show _ = _; rw [hM4.out]; unfold turnedR1; rw [hXe.out, if_neg (by simp [hs])]
                have r9 := row_below r8 hb9 r8.lt
                have x9 := x8.step hb9
                have q9 := q8.step hb9
                have hL9 := below_step hb9 hL8 (Nat.le_refl _)
                clear hs r8 x8 q8 hL8 hM4 hb9
                have hX9 := Lib.hid (fun V (hV : Below w9.heap.size w9 V) => x9.step hV)
                have hCO := Lib.hid (fun V (hV : Below w9.heap.size w9 V) => ref_CardOf A2 m c2 V (q9.step hV) hm)
                generalize hYe : cardOf (m.map At.kv) = Y at *
                replace hYe := Lib.hid hYe
                have hUP := Lib.hid (fun V => ref_Upon X Y V)
                generalize hZe : X.upon Y = Z at *
                replace hZe := Lib.hid hZe
                have hZc := crd_cells Z
                have hYc := crd_cells Y
                have hg9 : w.heap.size < w9.heap.size := r9.lt
                have r9H := Lib.hid r9
                have hL9H := Lib.hid hL9
                clear r9 x9 q9 hL9
                go_upto_region 34 with (fail)
                generalize ha0 : Act.mk _ _ = a0
                have e1 : a0.tmps[1]?.getD undef = .slice A2 m.length c2 := by rw [← ha0]; rfl
                have e8 : a0.tmps[8]?.getD undef = .pointer (some ⟨g8, 0, none⟩) := by rw [← ha0]; rfl
                have hz0 : a0.tmps.size = 119 := by rw [← ha0]; rfl
                have hha0 := Lib.hid ha0
                clear ha0
                refine wp_region_tailL (fun jx_ => match jx_ with | 0 => SRel.is (.agg (crdA X)) | 1 => SRel.is (.slice A2 m.length c2) | 2 => SRel.is (.agg (crdA Y)) | 3 => SRel.is (.agg (crdA Z)) | 4 => SRel.nbC w9.heap.size 38 | 5 => SRel.any | _ => SRel.any) 5 (by kernel_rfl) (by kernel_rfl) (by kernel_rfl) (slotsOk_of hz0 (by kernel_rfl)) (by kernel_rfl) (of_decide_eq_true (by kernel_rfl)) ⟨?_, ?_, ?_, ?_, ?_, trivial⟩ ?_
                · refine calmL_step rfl fun a ω κ hb hu hc hK => ?_
                  have h8 : a.tmps[8]?.getD undef = .pointer (some ⟨g8, 0, none⟩) := (hu 8 rfl).trans e8
                  have hk := Lib.hid (fun w1 (h : Below ω.heap.size ω w1) => hK (.agg (crdA X)) w1 rfl h)
                  clear hK hu hc
                  have aX := (hX9.out ω hb).at_
                  have rX := (hX9.out ω hb).row
                  go_simp
                  exact hk.out _ (Below.refl _ _)
                · refine calmL_step rfl fun a ω κ hb hu hc hK => ?_
                  have h1 : a.tmps[1]?.getD undef = .slice A2 m.length c2 := (hu 1 rfl).trans e1
                  have hk := Lib.hid (fun w1 (h : Below ω.heap.size ω w1) => hK (.slice A2 m.length c2) w1 rfl h)
                  clear hK hu hc
                  go_simp
                  exact hk.out _ (Below.refl _ _)
                · refine calmL_step rfl fun a ω κ hb hu hc hK => ?_
                  have h111 : a.tmps[111]?.getD undef = .slice A2 m.length c2 := hc 1 111 rfl rfl
                  have hk := Lib.hid (fun w1 (h : Below ω.heap.size ω w1) => hK (.agg (crdA Y)) w1 rfl h)
                  clear hK hu hc
                  go_simp
                  go_at_call 30
                  refine (hCO.out ω hb).mono ?_
                  rintro e w1 ⟨rfl, hb1⟩
                  exact hk.out _ hb1
                · refine calmL_step rfl fun a ω κ hb hu hc hK => ?_
                  have h110 : a.tmps[110]?.getD undef = .agg (crdA X) := hc 0 110 rfl rfl
                  have h112 : a.tmps[112]?.getD undef = .agg (crdA Y) := hc 2 112 rfl rfl
                  have hk := Lib.hid (fun w1 (h : Below ω.heap.size ω w1) => hK (.agg (crdA Z)) w1 rfl h)
                  clear hK hu hc
                  go_simp
                  go_at_call 50
                  refine (hUP.out ω).mono ?_
                  rintro e w1 ⟨rfl, hb1⟩
                  exact hk.out _ hb1
                · refine calmL_step rfl fun a ω κ hb hu hc hK => ?_
                  have hk := Lib.hid (fun v w1 (hv : (SRel.nbC w9.heap.size 38).p v w1) (h : Below ω.heap.size ω w1) => hK v w1 hv h)
                  clear hK hu hc
                  go_simp
                  exact hk.out _ _ ⟨ω.heap.size, rfl, hb.size, (row_new rfl).2 hcz.1⟩ (below_alloc' _ _)
                · intro aa ω hb hu hsz hdf hc
                  have h14 : (SRel.nbC w9.heap.size 38).p (aa.tmps[14]?.getD undef) ω := hc 4 14 (by decide) rfl
                  have h110 : aa.tmps[110]?.getD undef = .agg (crdA X) := hc 0 110 (by decide) rfl
                  have h111 : aa.tmps[111]?.getD undef = .slice A2 m.length c2 := hc 1 111 (by decide) rfl
                  have h112 : aa.tmps[112]?.getD undef = .agg (crdA Y) := hc 2 112 (by decide) rfl
                  have h113 : aa.tmps[113]?.getD undef = .agg (crdA Z) := hc 3 113 (by decide) rfl
                  have ha0 := hha0.out
                  subst ha0
                  have he := act_patchL (n := 119) 5 [false, false, false, false, false, false, false, false, false, false, false, false, false, false, true, false, false, false, false, false, false, false, false, false, false, false, false, false, false, false, false, false, false, false, false, false, false, false, false, false, false, false, false, false, false, false, false, false, false, false, false, false, false, false, false, false, false, false, false, false, false, false, false, false, false, false, false, false, false, false, false, false, false, false, false, false, false, false, false, false, false, false, false, false, false, false, false, false, false, false, false, false, false, false, false, false, false, false, false, false, false, false, false, false, false, false, false, false, false, false, true, true, true, true, false, false, false, false, false] rfl (by kernel_rfl) hu hsz hdf
                  simp only [patch, cond_true, cond_false, Nat.reduceAdd] at he
                  clear hu hsz hdf hc hha0 e1 e8 hz0
                  rw [he]
                  clear he
                  generalize aa.tmps[14]?.getD undef = x14 at *
                  generalize aa.tmps[110]?.getD undef = x110 at *
                  generalize aa.tmps[111]?.getD undef = x111 at *
                  generalize aa.tmps[112]?.getD undef = x112 at *
                  generalize aa.tmps[113]?.getD undef = x113 at *
                  subst h110 h111 h112 h113
                  have hrU := row_below r9H.out hb r9H.out.lt
                  have hLU := below_step hb hL9H.out (Nat.le_refl _)
                  obtain ⟨g14, rfl, hg14, hR14⟩ := h14
                  have hrS : Row (ω.setRow g14 (crdA Z)) w.heap.size 38 := (row_setRow_far (by omega)).2 hrU
                  have dS : CrdAt (ω.setRow g14 (crdA Z)) g14 Z := Fa.put hR14
                  have hLS : Below w.heap.size w (ω.setRow g14 (crdA Z)) := below_setRow hLU (by omega)
                  clear hrU hLU hb
                  dsimp only [List.drop]
                  go_upto_region 35 with (fail)
                  generalize ω.setRow g14 (crdA Z) = wS at *
                  clear hR14
                  have aZ := dS.at_
                  have rZ := dS.row
                  go_wp2_with fail
                  refine (ref_Object Z _).mono ?_
                  rintro e wE ⟨rfl, hbE⟩
                  have rE := row_below hrS hbE hrS.lt
                  have dE := dS.step hbE
                  have aE := dE.at_
                  have qE := dE.row
                  have hLE := below_step hbE hLS (Nat.le_refl _)
                  clear aZ rZ hrS dS hLS hbE
                  cases ho : Z.object with
                  | false =>
                    have hM6 : Hid (turnedR (l.map At.kv) (m.map At.kv) true = (crd0, 12)) := by show _ = _; rw [hM5.out]; unfold turnedR2; rw [hXe.out, hYe.out, hZe.out, if_pos ho]
                    clear ho
                    go_wp2
                    exact ret_stored2 (p := 6) (q := 7) (ty := 40) (g := w.heap.size) (n := 38) (c := crdA crd0) rfl Try.underlying40 rfl (by kernel_rfl) rfl rE hcz.1 rfl (hfin.out _ _ _ hM6.out (below_setRow hLE (Nat.le_refl _)))
                  | true =>
                    have hM6 : Hid (turnedR (l.map At.kv) (m.map At.kv) true = (Z, 0)) := by show _ = _; rw [hM5.out]; unfold turnedR2; rw [hXe.out, hYe.out, hZe.out, if_neg (by simp [ho])]
                    clear ho
                    go_wp2
                    exact ret_stored2 (p := 6) (q := 7) (ty := 40) (g := w.heap.size) (n := 38) (c := crdA Z) rfl Try.underlying40 rfl (by kernel_rfl) rfl rE hZc.1 rfl (hfin.out _ _ _ hM6.out (below_setRow hLE (Nat.le_refl _)))
        · have hM3 : Hid (turnedR (l.map At.kv) (m.map At.kv) cp = (crd0, G)) := by show _ = _; rw [hM2.out, if_pos hgz]
          have hb0 : (G == 0) = false := by simpa using hgz
          have hb1' : (G != 0) = true := by simpa using hgz
          clear hgz hG hM2
          go_wp2
          exact ret_stored2 (p := 6) (q := 7) (ty := 40) (g := w.heap.size) (n := 38) (c := crdA crd0) rfl Try.underlying40 rfl (by kernel_rfl) rfl r7 hcz.1 rfl (hfin.out _ _ _ hM3.out (below_setRow hL7 (Nat.le_refl _)))
    · have hM2 : Hid (turnedR (l.map At.kv) (m.map At.kv) cp = (crd0, 1)) := by show _ = _; rw [hM.out, if_pos (validR_false (.inr (.inl (by rw [hF]; exact hf))))]
      have hb0 : (F == 0) = false := by simpa using hf
      have hb1' : (F != 0) = true := by simpa using hf
      clear hf hF hM
      go_wp2
      exact ret_stored2 (p := 6) (q := 7) (ty := 40) (g := w.heap.size) (n := 38) (c := crdA crd0) rfl Try.underlying40 rfl (by kernel_rfl) rfl r5 hcz.1 rfl (hfin.out _ _ _ hM2.out (below_setRow hL5 (Nat.le_refl _)))
  · have hM2 : Hid (turnedR (l.map At.kv) (m.map At.kv) cp = (crd0, 1)) := by show _ = _; rw [hM.out, if_pos (validR_false (.inl (by rw [hXe.out]; exact hsame)))]
    have ds : decide (l.map At.kv = X.attrs) = false := by simpa using hsame
    clear hsame hM
    generalize decide (l.map At.kv = X.attrs) = bs at *
    subst ds
    go_wp2
    exact ret_stored2 (p := 6) (q := 7) (ty := 40) (g := w.heap.size) (n := 38) (c := crdA crd0) rfl Try.underlying40 rfl (by kernel_rfl) rfl r4 hcz.1 rfl (hfin.out _ _ _ hM2.out (below_setRow hL4 (Nat.le_refl _)))
end Go.Proofs.Ytdlmamnnamlleaa
