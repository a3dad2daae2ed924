/- The document's Made. -/
import Derived.Test.YtdlmamnnamlleaaRv1
namespace Go.Proofs.Ytdlmamnnamlleaa
open Go.ChangeShapes Go.WideShapes Go.ChangeAt Go.RowKit
set_option maxHeartbeats 1000000
set_option maxRecDepth 100000
attribute [local go_sem] kp_refl kp_alloc kp_setCell kp_drew kp_drewN row_old rowAt_new rowAt_old
attribute [local go_sem ↓] load_Crd store_Crd execl_Crd execs_Crd
attribute [local go_sem] isHead_mk blkOf_mk isAgg_mk cellsV_mk row_drew rowAt_drew row_new_cells setRow_new crd_zero

/-- A card and a number. -/
def CrdErr (x : Crd × Int) (w : World) (e : Ending) (w' : World) : Prop := e = .returned (.tuple #[.agg (crdA x.1), .int .i64 x.2]) ∧ Below w.heap.size w w'
theorem crdErr_of {x : Crd × Int} {c : Crd} {z : Int} {w w' : World} (h : x = (c, z)) (hb : Below w.heap.size w w') : CrdErr x w (.returned (.tuple #[.agg (crdA c), .int .i64 z])) w' := by
  subst h; exact ⟨rfl, hb⟩
set_option maxHeartbeats 80000000 in
theorem ref_Made (A : Option Addr) (l : List At) (c : Nat) (loc : Bool) (w : World) (h : Ats w w.heap.size A l) (hl : l.length ≤ 9223372036854775807) (hlc : l.length ≤ c) (hcm : c ≤ 9223372036854775807) :
    Calls Try.prog 16 #[.slice A l.length c, .bool loc] w (CrdErr (madeR (l.map At.kv) loc) w) := by
  have hcz := crd_cells crd0
  have hM : Hid (madeR (l.map At.kv) loc = if fault (l.map At.kv) ≠ 0 then (crd0, fault (l.map At.kv)) else madeR0 ((l.map At.kv).map (·.1)) (cardOf (l.map At.kv)) (cardOf (l.map At.kv)).cls loc) := rfl
  have hfin := Lib.hid (fun (x : Crd) (z : Int) (w' : World) (h : madeR (l.map At.kv) loc = (x, z)) (hb : Below w.heap.size w w') => crdErr_of h hb)
  have hb0 := below_alloc' w (.cells (crdA crd0) 40)
  have h0 := h.step hb0
  have r0 : Row (w.alloc (.cells (crdA crd0) 40)) w.heap.size 38 := (row_new rfl).2 hcz.1
  go_enter Try.func16, Try.ntmps16
  go_wp2_with fail
  refine (ref_AttrsFault A l c _ h0 hl hlc hcm).mono ?_
  rintro e w1 ⟨rfl, hb1⟩
  have h1 := h0.step hb1
  have r1 := row_below r0 hb1 r0.lt
  have hL1 := below_step hb1 hb0 (Nat.le_refl _)
  have hz1 := r1.lt
  clear hb0 h0 r0 hb1
  generalize hF : fault (l.map At.kv) = F at *
  replace hF := Lib.hid hF
  by_cases hf : F = 0
  · subst hf
    have hM1 : Hid (madeR (l.map At.kv) loc = madeR0 ((l.map At.kv).map (·.1)) (cardOf (l.map At.kv)) (cardOf (l.map At.kv)).cls loc) := by show _ = _; rw [hM.out, if_neg (by simp)]
    clear hM
    go_wp2_with fail
    refine (ref_CardOf A l c _ h1 hl).mono ?_
    rintro e w2 ⟨rfl, hb2⟩
    have hkm : Hid ((l.map At.kv).map (·.1) = l.map At.kind) := by show _ = _; rw [List.map_map]; rfl
    rw [hkm.out] at hM1
    generalize hX : cardOf (l.map At.kv) = X at *
    replace hX := Lib.hid hX
    have hXc := crd_cells X
    have h2 := h1.step hb2
    have r2 := row_below r1 hb2 r1.lt
    have hL2 := below_step hb2 hL1 (Nat.le_refl _)
    have hb3 := below_alloc' w2 (.cells (crdA X) 40)
    have h3 := h2.step hb3
    have r3 := row_below r2 hb3 r2.lt
    have c3 : CrdAt (w2.alloc (.cells (crdA X) 40)) w2.heap.size X := Fa.new (m := 38) (f := cf X) _ rfl
    have hL3 := below_step hb3 hL2 (Nat.le_refl _)
    have hg7 : w.heap.size < w2.heap.size := Nat.lt_of_lt_of_le hz1 hb2.size
    go_wp2_with fail
    refine (ref_Class X _).mono ?_
    rintro e w4 ⟨rfl, hb4⟩
    have h4 := h3.step hb4
    have r4 := row_below r3 hb4 r3.lt
    have c4 := c3.step hb4
    have hL4 := below_step hb4 hL3 (Nat.le_refl _)
    generalize hcE : X.cls = C at *
    replace hcE := Lib.hid hcE
    generalize hG7 : w2.heap.size = g7 at *
    clear hb2 hb3 hb4 h1 h2 h3 r1 r2 r3 c3 hL1 hL2 hL3
    by_cases hc0 : C = 0
    · subst hc0
      have hM2 : Hid (madeR (l.map At.kv) loc = (crd0, 1)) := by show _ = _; rw [hM1.out]; rfl
      go_wp2
      exact ret_stored2 (p := 4) (q := 5) (ty := 40) (g := w.heap.size) (n := 38) (c := crdA crd0) rfl Try.underlying40 rfl (by kernel_rfl) rfl r4 hcz.1 rfl (hfin.out _ _ _ hM2.out (below_setRow hL4 (Nat.le_refl _)))
    · have hM2 : Hid (madeR (l.map At.kv) loc = madeR1 (l.map At.kind) X C loc) := by show _ = _; rw [hM1.out]; unfold madeR0; rw [if_neg hc0]
      have hd0 : ((C : Int) == 0) = false := by rw [beq_eq_false_iff_ne]; omega
      have hc0H := Lib.hid hc0
      clear hM1 hc0
      have hz4 := h4
      go_wp2
      go_loopw [28] (fun x wr => ∃ j : Nat, x = .int .i64 j ∧ j ≤ l.length ∧ Below w.heap.size w wr ∧ w.heap.size ≤ wr.heap.size ∧ Row wr w.heap.size 38 ∧ CrdAt wr g7 X ∧ Hid (∀ i (hi : i < j) (h2 : i < l.length), scanRAt C l[i].kind = 0)) (fun x _ => l.length - (intOf x).toNat)
      case atStart => exact ⟨0, rfl, by omega, hL4, hL4.size, r4, c4, fun i hi => absurd hi (by omega)⟩
      case round =>
        clear h4 r4 c4 hL4 hz4
        obtain ⟨j, rfl, hj, hb, hz, hr, hC, hal⟩ := hrel
        have hw := h.kp (kp_of_below hb)
        by_cases hji : j = l.length
        · have hs0 : scanR C (l.map At.kind) = 0 := scanR_all _ fun i hi => by
            simp at hi
            rw [List.getElem_map]
            exact hal.out i (by omega) hi
          have hM3 : Hid (madeR (l.map At.kv) loc = madeR2 X C loc) := by show _ = _; rw [hM2.out]; unfold madeR1; rw [if_neg (by simp [hs0])]
          clear hs0 hM2
          subst hji
          have hc4 := hC.cellH (k := 4) (by omega)
          have hcv4 : wr.cell? ⟨g7, 23, none⟩ = some (strV (X.v 4)) := hC.cellV (k := 4) (by omega)
          unfold strV at hcv4
          have hsz := Lib.hid (fun n V => ref_Sized C n V)
          cases h4 : X.has 4 with
          | false =>
            have hM4 : Hid (madeR (l.map At.kv) loc = (crd0, 3)) := by show _ = _; rw [hM3.out]; unfold madeR2; rw [if_pos h4]
            rw [h4] at hc4
            clear h4
            go_wp2
            exact ret_stored2 (p := 4) (q := 5) (ty := 40) (g := w.heap.size) (n := 38) (c := crdA crd0) rfl Try.underlying40 rfl (by kernel_rfl) rfl hr hcz.1 rfl (hfin.out _ _ _ hM4.out (below_setRow hb (Nat.le_refl _)))
          | true =>
            have hM4 : Hid (madeR (l.map At.kv) loc = if sizedR C (X.v 4).length = false then (crd0, 4) else madeR3 X C loc) := by show _ = _; rw [hM3.out]; unfold madeR2; rw [if_neg (by simp [h4])]
            rw [h4] at hc4
            clear h4
            generalize hb4 : X.v 4 = b4 at *
            replace hb4 := Lib.hid hb4
            go_wp2_with fail
            refine (hsz.out _ _).mono ?_
            rintro e w5 ⟨rfl, rfl⟩
            cases hs : sizedR C (b4.length : Int)
            · have hM5 : Hid (madeR (l.map At.kv) loc = (crd0, 4)) := by show _ = _; rw [hM4.out, if_pos hs]
              clear hs
              go_wp2
              exact ret_stored2 (p := 4) (q := 5) (ty := 40) (g := w.heap.size) (n := 38) (c := crdA crd0) rfl Try.underlying40 rfl (by kernel_rfl) rfl hr hcz.1 rfl (hfin.out _ _ _ hM5.out (below_setRow hb (Nat.le_refl _)))
            · have hM5 : Hid (madeR (l.map At.kv) loc = madeR3 X C loc) := by show _ = _; rw [hM4.out, if_neg (by simp [hs])]
              clear hs hM4 hM3 hcv4 hc4 hsz
              have hrt : Hid (Int.tmod (C : Int) 2 = ((C % 2 : Nat) : Int)) := by show _ = _; rw [Int.tmod_eq_emod_of_nonneg (by omega)]; omega
              have hb6 := below_alloc' wr (.cells (crdA crd0) 40)
              have r6 := row_below hr hb6 hr.lt
              have c6 := hC.step hb6
              have d6 : CrdAt (wr.alloc (.cells (crdA crd0) 40)) wr.heap.size (dTo C 1) := by rw [dTo_one]; exact Fa.new (m := 38) (f := cf crd0) _ rfl
              have hL6 := below_step hb6 hb (Nat.le_refl _)
              have hg8 : w.heap.size < wr.heap.size := hr.lt
              have hg9 : g7 < wr.heap.size := hC.row.lt
              generalize hG11 : wr.heap.size = g11 at r6 c6 d6 hg8 hg9
              go_wp2
              refine m2_loop _ C g11 _ _ _ _ _ _ _ _ _ _ _ _ _ _ _ _ _ _ _ _ _ _ _ _ _ _ _ _ _ _ _ _ _ _ _ _ _ _ _ _ _ _ _ _ _ _ _ _ _ _ _ _ _ _ _ _ _ _ _ _ _ _ _ _ _ _ _ _ _ _ _ _ _ _ _ _ _ _ _ _ _ _ _ _ _ _ _ _ _ _ _ _ _ _ _ _ _ _ _ _ _ _ _ _ _ _ _ _ _ _ _ _ _ _ _ _ _ _ _ _ _ _ d6 ?_
              intro t61 t62 t65 t66 t67 t68 t69 t70 t71 t72 t73 t74 t75 t76 t77 t78 t79 t80 t81 t82 t83 t84 t85 t86 t87 t88 t89 t90 t91 t63 t64 wx hRx hCx' hD hBx
              have hr := hRx w.heap.size (by omega) _ r6
              have hC := hCx' g7 (by omega) _ c6
              have hb := hBx w.heap.size (by omega) w hL6
              clear hRx hCx' hBx r6 c6 d6 hL6 hb6 hw hz
              have aD := hD.at_
              have rD := hD.row
              have aC := hC.at_
              have rC := hC.row
              have hUU : Hid (madeU X C = (dTo C 19).upon X) := rfl
              generalize dTo C 19 = D0 at *
              have hcD0 := crd_cells D0
              go_wp2_with fail
              refine (ref_Upon D0 X _).mono ?_
              rintro e w8 ⟨rfl, hb8⟩
              generalize hUe : D0.upon X = U0 at *
              have hcU := crd_cells U0
              have r8 := row_below hr hb8 hr.lt
              have rD8 := row_below rD hb8 rD.lt
              have hL8 := below_step hb8 hb (Nat.le_refl _)
              have r9 : Row (w8.setRow g11 (crdA U0)) w.heap.size 38 := (row_setRow_far (by omega)).2 r8
              have d9 : CrdAt (w8.setRow g11 (crdA U0)) g11 U0 := Fa.put rD8
              have hL9 : Below w.heap.size w (w8.setRow g11 (crdA U0)) := below_setRow hL8 (by omega)
              generalize hW9 : w8.setRow g11 (crdA U0) = w9 at r9 d9 hL9
              clear hr hC hD hb aD rD aC rC hb8 r8 hL8 hUe
              have hrt' := hrt.out
              by_cases ev : C % 2 = 0
              · have de : (((C % 2 : Nat) : Int) == 0) = true := by rw [beq_iff_eq]; omega
                have evH := Lib.hid ev
                clear ev
                cases loc
                · have hDD : Hid (madeD X C false = ((U0.setV 12 (flagB false)).setV 10 (flagB false)).setV 11 (flagB false)) := by show _ = _; unfold madeD; rw [if_pos evH.out, hUU.out]; rfl
                  have hv10 : w9.cell? ⟨g11, 31, none⟩ = some (strV ((U0).v 12)) := d9.cellV (k := 12) (by omega)
                  have hf10 : w9.frozen? ⟨g11, 31, none⟩ = false := Fa.frozen d9 31
                  unfold strV at hv10
                  generalize ((U0).v 12) = old10 at hv10
                  have r10 : Row (w9.setCell ⟨g11, 31, none⟩ (.string ⟨(flagB false).toArray⟩)) w.heap.size 38 := row_setCell.2 r9
                  have d10 : CrdAt (w9.setCell ⟨g11, 31, none⟩ (.string ⟨(flagB false).toArray⟩)) g11 ((U0).setV 12 (flagB false)) := cf_setV (U0) (n := 12) (by omega) _ (Fa.set d9 31 (strV (flagB false)))
                  have hL10 : Below w.heap.size w (w9.setCell ⟨g11, 31, none⟩ (.string ⟨(flagB false).toArray⟩)) := hL9.setCell (by show w.heap.size ≤ g11; omega) _
                  generalize hW10 : w9.setCell ⟨g11, 31, none⟩ (.string ⟨(flagB false).toArray⟩) = w10 at r10 d10 hL10
                  go_wp2_with fail
                  refine (ref_flagS false _).mono ?_
                  rintro e wz ⟨rfl, rfl⟩
                  clear r9 d9 hL9
                  have hv11 : w10.cell? ⟨g11, 29, none⟩ = some (strV ((U0.setV 12 (flagB false)).v 10)) := d10.cellV (k := 10) (by omega)
                  have hf11 : w10.frozen? ⟨g11, 29, none⟩ = false := Fa.frozen d10 29
                  unfold strV at hv11
                  generalize ((U0.setV 12 (flagB false)).v 10) = old11 at hv11
                  have r11 : Row (w10.setCell ⟨g11, 29, none⟩ (.string ⟨(flagB false).toArray⟩)) w.heap.size 38 := row_setCell.2 r10
                  have d11 : CrdAt (w10.setCell ⟨g11, 29, none⟩ (.string ⟨(flagB false).toArray⟩)) g11 ((U0.setV 12 (flagB false)).setV 10 (flagB false)) := cf_setV (U0.setV 12 (flagB false)) (n := 10) (by omega) _ (Fa.set d10 29 (strV (flagB false)))
                  have hL11 : Below w.heap.size w (w10.setCell ⟨g11, 29, none⟩ (.string ⟨(flagB false).toArray⟩)) := hL10.setCell (by show w.heap.size ≤ g11; omega) _
                  generalize hW11 : w10.setCell ⟨g11, 29, none⟩ (.string ⟨(flagB false).toArray⟩) = w11 at r11 d11 hL11
                  go_wp2_with fail
                  refine (ref_flagS false _).mono ?_
                  rintro e wz ⟨rfl, rfl⟩
                  clear r10 d10 hL10
                  have hv12 : w11.cell? ⟨g11, 30, none⟩ = some (strV (((U0.setV 12 (flagB false)).setV 10 (flagB false)).v 11)) := d11.cellV (k := 11) (by omega)
                  have hf12 : w11.frozen? ⟨g11, 30, none⟩ = false := Fa.frozen d11 30
                  unfold strV at hv12
                  generalize (((U0.setV 12 (flagB false)).setV 10 (flagB false)).v 11) = old12 at hv12
                  have r12 : Row (w11.setCell ⟨g11, 30, none⟩ (.string ⟨(flagB false).toArray⟩)) w.heap.size 38 := row_setCell.2 r11
                  have d12 : CrdAt (w11.setCell ⟨g11, 30, none⟩ (.string ⟨(flagB false).toArray⟩)) g11 (((U0.setV 12 (flagB false)).setV 10 (flagB false)).setV 11 (flagB false)) := cf_setV ((U0.setV 12 (flagB false)).setV 10 (flagB false)) (n := 11) (by omega) _ (Fa.set d11 30 (strV (flagB false)))
                  have hL12 : Below w.heap.size w (w11.setCell ⟨g11, 30, none⟩ (.string ⟨(flagB false).toArray⟩)) := hL11.setCell (by show w.heap.size ≤ g11; omega) _
                  generalize hW12 : w11.setCell ⟨g11, 30, none⟩ (.string ⟨(flagB false).toArray⟩) = w12 at r12 d12 hL12
                  go_wp2_with fail
                  refine (ref_flagS false _).mono ?_
                  rintro e wz ⟨rfl, rfl⟩
                  clear r11 d11 hL11
                  have hcD := crd_cells (((U0.setV 12 (flagB false)).setV 10 (flagB false)).setV 11 (flagB false))
                  have a12 := d12.at_
                  have q12 := d12.row
                  go_wp2_with fail
                  refine (ref_Object (((U0.setV 12 (flagB false)).setV 10 (flagB false)).setV 11 (flagB false)) _).mono ?_
                  rintro e wE ⟨rfl, hbE⟩
                  have rE := row_below r12 hbE r12.lt
                  have dE := d12.step hbE
                  have aE := dE.at_
                  have qE := dE.row
                  have hLE := below_step hbE hL12 (Nat.le_refl _)
                  clear r12 d12 a12 q12 hL12 hbE
                  cases ho : (((U0.setV 12 (flagB false)).setV 10 (flagB false)).setV 11 (flagB false)).object
                  · have hM7 : Hid (madeR (l.map At.kv) false = (crd0, 12)) := by show _ = _; rw [hM5.out]; unfold madeR3; rw [hDD.out, if_pos ho]
                    clear ho
                    go_wp2
                    exact ret_stored2 (p := 4) (q := 5) (ty := 40) (g := w.heap.size) (n := 38) (c := crdA crd0) rfl Try.underlying40 rfl (by kernel_rfl) rfl rE hcz.1 rfl (hfin.out _ _ _ hM7.out (below_setRow hLE (Nat.le_refl _)))
                  · have hM7 : Hid (madeR (l.map At.kv) false = (((U0.setV 12 (flagB false)).setV 10 (flagB false)).setV 11 (flagB false), 0)) := by show _ = _; rw [hM5.out]; unfold madeR3; rw [hDD.out, if_neg (by simp [ho])]
                    clear ho
                    go_wp2
                    exact ret_stored2 (p := 4) (q := 5) (ty := 40) (g := w.heap.size) (n := 38) (c := crdA (((U0.setV 12 (flagB false)).setV 10 (flagB false)).setV 11 (flagB false))) rfl Try.underlying40 rfl (by kernel_rfl) rfl rE hcD.1 rfl (hfin.out _ _ _ hM7.out (below_setRow hLE (Nat.le_refl _)))
                · have hDD : Hid (madeD X C true = (((U0.setV 12 (flagB true)).setV 10 (flagB ((U0.setV 12 (flagB true)).one 8))).setV 11 (flagB (!((U0.setV 12 (flagB true)).setV 10 (flagB ((U0.setV 12 (flagB true)).one 8))).one 9)))) := by show _ = _; unfold madeD; rw [if_pos evH.out, hUU.out]; rfl
                  have hv10 : w9.cell? ⟨g11, 31, none⟩ = some (strV ((U0).v 12)) := d9.cellV (k := 12) (by omega)
                  have hf10 : w9.frozen? ⟨g11, 31, none⟩ = false := Fa.frozen d9 31
                  unfold strV at hv10
                  generalize ((U0).v 12) = old10 at hv10
                  have r10 : Row (w9.setCell ⟨g11, 31, none⟩ (.string ⟨(flagB true).toArray⟩)) w.heap.size 38 := row_setCell.2 r9
                  have d10 : CrdAt (w9.setCell ⟨g11, 31, none⟩ (.string ⟨(flagB true).toArray⟩)) g11 ((U0).setV 12 (flagB true)) := cf_setV (U0) (n := 12) (by omega) _ (Fa.set d9 31 (strV (flagB true)))
                  have hL10 : Below w.heap.size w (w9.setCell ⟨g11, 31, none⟩ (.string ⟨(flagB true).toArray⟩)) := hL9.setCell (by show w.heap.size ≤ g11; omega) _
                  generalize hW10 : w9.setCell ⟨g11, 31, none⟩ (.string ⟨(flagB true).toArray⟩) = w10 at r10 d10 hL10
                  go_wp2_with fail
                  refine (ref_flagS true _).mono ?_
                  rintro e wz ⟨rfl, rfl⟩
                  clear r9 d9 hL9
                  generalize hU1 : U0.setV 12 (flagB true) = U1 at *
                  replace hU1 := Lib.hid hU1
                  have a10 := d10.at_
                  have q10 := d10.row
                  have hcU1 := crd_cells U1
                  go_wp2_with fail
                  refine (ref_One U1 8 (by omega) _).mono ?_
                  rintro e w11 ⟨rfl, hb11⟩
                  generalize ho8 : U1.one 8 = o8 at *
                  replace ho8 := Lib.hid ho8
                  have r11 := row_below r10 hb11 r10.lt
                  have d11 := d10.step hb11
                  have hL11 := below_step hb11 hL10 (Nat.le_refl _)
                  clear r10 d10 a10 q10 hL10 hb11
                  have hv12 : w11.cell? ⟨g11, 29, none⟩ = some (strV ((U1).v 10)) := d11.cellV (k := 10) (by omega)
                  have hf12 : w11.frozen? ⟨g11, 29, none⟩ = false := Fa.frozen d11 29
                  unfold strV at hv12
                  generalize ((U1).v 10) = old12 at hv12
                  have r12 : Row (w11.setCell ⟨g11, 29, none⟩ (.string ⟨(flagB o8).toArray⟩)) w.heap.size 38 := row_setCell.2 r11
                  have d12 : CrdAt (w11.setCell ⟨g11, 29, none⟩ (.string ⟨(flagB o8).toArray⟩)) g11 ((U1).setV 10 (flagB o8)) := cf_setV (U1) (n := 10) (by omega) _ (Fa.set d11 29 (strV (flagB o8)))
                  have hL12 : Below w.heap.size w (w11.setCell ⟨g11, 29, none⟩ (.string ⟨(flagB o8).toArray⟩)) := hL11.setCell (by show w.heap.size ≤ g11; omega) _
                  generalize hW12 : w11.setCell ⟨g11, 29, none⟩ (.string ⟨(flagB o8).toArray⟩) = w12 at r12 d12 hL12
                  go_wp2_with fail
                  refine (ref_flagS o8 _).mono ?_
                  rintro e wz ⟨rfl, rfl⟩
                  clear r11 d11 hL11
                  generalize hU2 : U1.setV 10 (flagB o8) = U2 at *
                  replace hU2 := Lib.hid hU2
                  have a12 := d12.at_
                  have q12 := d12.row
                  have hcU2 := crd_cells U2
                  go_wp2_with fail
                  refine (ref_One U2 9 (by omega) _).mono ?_
                  rintro e w13 ⟨rfl, hb13⟩
                  generalize ho9 : U2.one 9 = o9 at *
                  replace ho9 := Lib.hid ho9
                  have r13 := row_below r12 hb13 r12.lt
                  have d13 := d12.step hb13
                  have hL13 := below_step hb13 hL12 (Nat.le_refl _)
                  clear r12 d12 a12 q12 hL12 hb13
                  have hv14 : w13.cell? ⟨g11, 30, none⟩ = some (strV ((U2).v 11)) := d13.cellV (k := 11) (by omega)
                  have hf14 : w13.frozen? ⟨g11, 30, none⟩ = false := Fa.frozen d13 30
                  unfold strV at hv14
                  generalize ((U2).v 11) = old14 at hv14
                  have r14 : Row (w13.setCell ⟨g11, 30, none⟩ (.string ⟨(flagB (!o9)).toArray⟩)) w.heap.size 38 := row_setCell.2 r13
                  have d14 : CrdAt (w13.setCell ⟨g11, 30, none⟩ (.string ⟨(flagB (!o9)).toArray⟩)) g11 ((U2).setV 11 (flagB (!o9))) := cf_setV (U2) (n := 11) (by omega) _ (Fa.set d13 30 (strV (flagB (!o9))))
                  have hL14 : Below w.heap.size w (w13.setCell ⟨g11, 30, none⟩ (.string ⟨(flagB (!o9)).toArray⟩)) := hL13.setCell (by show w.heap.size ≤ g11; omega) _
                  generalize hW14 : w13.setCell ⟨g11, 30, none⟩ (.string ⟨(flagB (!o9)).toArray⟩) = w14 at r14 d14 hL14
                  go_wp2_with fail
                  refine (ref_flagS (!o9) _).mono ?_
                  rintro e wz ⟨rfl, rfl⟩
                  clear r13 d13 hL13
                  have hcD := crd_cells (U2.setV 11 (flagB (!o9)))
                  have a14 := d14.at_
                  have q14 := d14.row
                  go_wp2_with fail
                  refine (ref_Object (U2.setV 11 (flagB (!o9))) _).mono ?_
                  rintro e wE ⟨rfl, hbE⟩
                  have rE := row_below r14 hbE r14.lt
                  have dE := d14.step hbE
                  have aE := dE.at_
                  have qE := dE.row
                  have hLE := below_step hbE hL14 (Nat.le_refl _)
                  clear r14 d14 a14 q14 hL14 hbE
                  cases ho : (U2.setV 11 (flagB (!o9))).object
                  · have hM7 : Hid (madeR (l.map At.kv) true = (crd0, 12)) := by show _ = _; rw [hM5.out]; unfold madeR3; rw [hDD.out, if_pos ho]
                    clear ho
                    go_wp2
                    exact ret_stored2 (p := 4) (q := 5) (ty := 40) (g := w.heap.size) (n := 38) (c := crdA crd0) rfl Try.underlying40 rfl (by kernel_rfl) rfl rE hcz.1 rfl (hfin.out _ _ _ hM7.out (below_setRow hLE (Nat.le_refl _)))
                  · have hM7 : Hid (madeR (l.map At.kv) true = (U2.setV 11 (flagB (!o9)), 0)) := by show _ = _; rw [hM5.out]; unfold madeR3; rw [hDD.out, if_neg (by simp [ho])]
                    clear ho
                    go_wp2
                    exact ret_stored2 (p := 4) (q := 5) (ty := 40) (g := w.heap.size) (n := 38) (c := crdA (U2.setV 11 (flagB (!o9)))) rfl Try.underlying40 rfl (by kernel_rfl) rfl rE hcD.1 rfl (hfin.out _ _ _ hM7.out (below_setRow hLE (Nat.le_refl _)))
              · have de : (((C % 2 : Nat) : Int) == 0) = false := by rw [beq_eq_false_iff_ne]; omega
                have hDD : Hid (madeD X C loc = U0) := by show _ = _; unfold madeD; rw [if_neg ev, hUU.out]
                clear ev
                have hcD := crd_cells (U0)
                have a9 := d9.at_
                have q9 := d9.row
                go_wp2_with fail
                refine (ref_Object (U0) _).mono ?_
                rintro e wE ⟨rfl, hbE⟩
                have rE := row_below r9 hbE r9.lt
                have dE := d9.step hbE
                have aE := dE.at_
                have qE := dE.row
                have hLE := below_step hbE hL9 (Nat.le_refl _)
                clear r9 d9 a9 q9 hL9 hbE
                cases ho : (U0).object
                · have hM7 : Hid (madeR (l.map At.kv) loc = (crd0, 12)) := by show _ = _; rw [hM5.out]; unfold madeR3; rw [hDD.out, if_pos ho]
                  clear ho
                  go_wp2
                  exact ret_stored2 (p := 4) (q := 5) (ty := 40) (g := w.heap.size) (n := 38) (c := crdA crd0) rfl Try.underlying40 rfl (by kernel_rfl) rfl rE hcz.1 rfl (hfin.out _ _ _ hM7.out (below_setRow hLE (Nat.le_refl _)))
                · have hM7 : Hid (madeR (l.map At.kv) loc = (U0, 0)) := by show _ = _; rw [hM5.out]; unfold madeR3; rw [hDD.out, if_neg (by simp [ho])]
                  clear ho
                  go_wp2
                  exact ret_stored2 (p := 4) (q := 5) (ty := 40) (g := w.heap.size) (n := 38) (c := crdA (U0)) rfl Try.underlying40 rfl (by kernel_rfl) rfl rE hcD.1 rfl (hfin.out _ _ _ hM7.out (below_setRow hLE (Nat.le_refl _)))
        · have hjl : j < l.length := by omega
          obtain ⟨ad, rfl, hbl, c1, c2⟩ := hw.at_ hjl
          have hstop : Hid (∀ z : Int, z ≠ 0 → scanRAt C l[j].kind = z → madeR (l.map At.kv) loc = (crd0, z)) := fun z hz h0 => by
            have hs0 : scanR C (l.map At.kind) = z := scanR_stop hz j _ (by simpa using hjl) (fun i hi => by rw [List.getElem_map]; exact hal.out i hi (by omega)) (by rw [List.getElem_map]; exact h0)
            rw [hM2.out]; unfold madeR1; rw [hs0, if_pos hz]
          have hal2 : Hid (scanRAt C l[j].kind = 0 → ∀ i (hi : i < j + 1) (h2 : i < l.length), scanRAt C l[i].kind = 0) := fun hx i hi h1 => by
            rcases Nat.lt_or_ge i j with h3 | h3
            · exact hal.out i h3 h1
            · obtain rfl : i = j := by omega
              exact hx
          generalize l[j] = x at *
          obtain ⟨xk, xA, xc, xb⟩ := x
          simp only at c1 c2 hstop hal2
          have hbW : Below wr.heap.size wr (wr.alloc (.cells #[.int .i64 xk, .slice xA xb.length xc] 120)) := below_alloc' wr _
          have hbx := hb.trans (hbW.mono hz)
          have hrx := row_below hr hbW hr.lt
          have hCx := hC.step hbW
          have hcon := Lib.hid (ref_Belongs C xk (wr.alloc (.cells #[.int .i64 xk, .slice xA xb.length xc] 120)))
          cases hh : belongs C xk with
          | false =>
            have hM3 : Hid (madeR (l.map At.kv) loc = (crd0, 13)) := hstop.out 13 (by omega) (by unfold scanRAt; rw [if_pos hh])
            rw [hh] at hcon
            clear hh
            go_wp2_with fail
            refine hcon.out.mono ?_
            rintro e w5 ⟨rfl, rfl⟩
            go_wp2
            exact ret_stored2 (p := 4) (q := 5) (ty := 40) (g := w.heap.size) (n := 38) (c := crdA crd0) rfl Try.underlying40 rfl (by kernel_rfl) rfl hrx hcz.1 rfl (hfin.out _ _ _ hM3.out (below_setRow hbx (Nat.le_refl _)))
          | true =>
            have hsc : Hid (scanRAt C xk = if 10 ≤ xk ∧ xk ≤ 12 then 12 else 0) := by show _ = _; unfold scanRAt; rw [if_neg (by simp [hh])]
            rw [hh] at hcon
            clear hh
            by_cases hk1 : 10 ≤ xk
            · by_cases hk2 : xk ≤ 12
              · have hM3 : Hid (madeR (l.map At.kv) loc = (crd0, 12)) := hstop.out 12 (by omega) (by rw [hsc.out, if_pos ⟨hk1, hk2⟩])
                go_wp2_with fail
                refine hcon.out.mono ?_
                rintro e w5 ⟨rfl, rfl⟩
                go_wp2
                exact ret_stored2 (p := 4) (q := 5) (ty := 40) (g := w.heap.size) (n := 38) (c := crdA crd0) rfl Try.underlying40 rfl (by kernel_rfl) rfl hrx hcz.1 rfl (hfin.out _ _ _ hM3.out (below_setRow hbx (Nat.le_refl _)))
              · have hal3 := Lib.hid (hal2.out (by rw [hsc.out, if_neg (by omega)]))
                go_wp2_with fail
                refine hcon.out.mono ?_
                rintro e w5 ⟨rfl, rfl⟩
                go_wp2
                go_roundw
                case rel => exact ⟨j + 1, by go_num, by omega, hbx, by simp; omega, hrx, hCx, hal3.out⟩
                case measure => simp [intOf]; omega
            · have hal3 := Lib.hid (hal2.out (by rw [hsc.out, if_neg (by omega)]))
              go_wp2_with fail
              refine hcon.out.mono ?_
              rintro e w5 ⟨rfl, rfl⟩
              go_wp2
              go_roundw
              case rel => exact ⟨j + 1, by go_num, by omega, hbx, by simp; omega, hrx, hCx, hal3.out⟩
              case measure => simp [intOf]; omega
  · have hM2 : Hid (madeR (l.map At.kv) loc = (crd0, F)) := by show _ = _; rw [hM.out, if_pos hf]
    have hb0 : (F == 0) = false := by simpa using hf
    have hb1' : (F != 0) = true := by simpa using hf
    go_wp2
    exact ret_stored2 (p := 4) (q := 5) (ty := 40) (g := w.heap.size) (n := 38) (c := crdA crd0) rfl Try.underlying40 rfl (by kernel_rfl) rfl r1 hcz.1 rfl (hfin.out _ _ _ hM2.out (below_setRow hL1 (Nat.le_refl _)))
end Go.Proofs.Ytdlmamnnamlleaa
