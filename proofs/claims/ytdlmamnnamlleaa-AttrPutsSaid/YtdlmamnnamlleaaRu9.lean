/- Cards of attributes: Object, Valid. -/
import Derived.Test.YtdlmamnnamlleaaRu7
import Derived.Test.YtdlmamnnamlleaaRu8
import Derived.Deep.RegionLaw
namespace Go.Proofs.Ytdlmamnnamlleaa
open Go.ChangeShapes Go.WideShapes Go.ChangeAt Go.RowKit
set_option maxHeartbeats 1000000
set_option maxRecDepth 100000
attribute [local go_sem] kp_refl kp_alloc kp_setCell kp_drew kp_drewN row_new row_old rowAt_new rowAt_old
attribute [local go_sem ↓] load_Crd store_Crd execl_Crd execs_Crd
attribute [local go_sem] isHead_mk blkOf_mk isAgg_mk cellsV_mk row_drew rowAt_drew row_new_cells setRow_new

def Crd.fitsK (c : Crd) : Bool := (List.range 18).all fun k => c.has (k + 1) == belongs c.cls ((k + 1 : Nat) : Int)
def Crd.tied (c : Crd) : Bool := (!c.one 10 || c.one 8) && (!c.one 11 || !c.one 9) && !((c.one 16 || c.one 17) && (c.one 13 || c.one 14 || c.one 15))
def Crd.object (c : Crd) : Bool := c.fitsK && (c.has 1 && (sizedR c.cls (c.v 4).length && c.tied))
theorem fitsK_no {c : Crd} {n : Nat} (h1 : 1 ≤ n) (h2 : n ≤ 18) (h : c.has n ≠ belongs c.cls (n : Int)) : c.object = false := by
  have : c.fitsK = false := by
    unfold Crd.fitsK
    rw [List.all_eq_false]
    refine ⟨n - 1, by simp; omega, ?_⟩
    rw [show n - 1 + 1 = n by omega]
    simpa using h
  simp [Crd.object, this]
theorem fitsK_yes {c : Crd} (h : ∀ n, 1 ≤ n → n < 19 → c.has n = belongs c.cls (n : Int)) : c.fitsK = true := by
  unfold Crd.fitsK
  rw [List.all_eq_true]
  intro k hk
  simp at hk
  rw [h (k + 1) (by omega) (by omega)]
  simp
theorem CrdAt.step {w w' : World} {g : Nat} {c : Crd} (h : CrdAt w g c) (hb : Below w.heap.size w w') : CrdAt w' g c := Fa.step h hb

set_option maxHeartbeats 8000000 in
theorem ref_Object (c : Crd) (w : World) : Calls Try.prog 79 #[.agg (crdA c)] w fun e w' => e = .returned (.bool c.object) ∧ Below w.heap.size w w' := by
  have hc := crd_cells c
  have h0 : CrdAt (w.alloc (.cells (crdA c) 40)) w.heap.size c := Fa.new (m := 38) (f := cf c) _ rfl
  have r0 := h0.row
  have a0 := h0.at_
  go_enter Try.func79, Try.ntmps79
  go_wp2_with fail
  refine (ref_Class c _).mono ?_
  rintro e w1 ⟨rfl, hb1⟩
  have h1 := h0.step hb1
  have hL1 := below_step hb1 (below_alloc' w (.cells (crdA c) 40)) (Nat.le_refl _)
  have hsz1 := hb1.size
  simp only [World.size_alloc] at hsz1
  clear h0 r0 a0 hb1
  go_wp2
  go_loopw [4] (fun x wr => ∃ n : Nat, x = .int .i64 n ∧ 1 ≤ n ∧ n ≤ 19 ∧ Hid (∀ k, 1 ≤ k → k < n → c.has k = belongs c.cls (k : Int)) ∧ CrdAt wr w.heap.size c ∧ Below w.heap.size w wr ∧ w.heap.size < wr.heap.size) (fun x _ => 19 - (intOf x).toNat)
  case atStart => exact ⟨1, rfl, by omega, by omega, fun k h1 h2 => absurd h1 (by omega), h1, hL1, by omega⟩
  case round =>
    obtain ⟨n, rfl, hn1, hn, hall, hC, hb, hz⟩ := hrel
    by_cases hn9 : n = 19
    · have hF : Hid (c.object = (c.has 1 && (sizedR c.cls (c.v 4).length && c.tied))) := by show _ = _; unfold Crd.object; rw [fitsK_yes fun k h1 h2 => hall.out k h1 (by omega), Bool.true_and]
      subst hn9
      have hc1 := hC.cellH (k := 1) (by omega)
      cases hh : c.has 1 with
      | false =>
        have hF2 : Hid (c.object = false) := by show _ = _; rw [hF.out, hh]; rfl
        rw [hh] at hc1
        clear hh
        go_wp2
        go_ret
        exact ⟨ret_bool (by rw [hF2.out]), hb⟩
      | true =>
        have hc4 : wr.cell? ⟨w.heap.size, 23, none⟩ = some (strV (c.v 4)) := hC.cellV (k := 4) (by omega)
        unfold strV at hc4
        have hF1 : Hid (c.object = (sizedR c.cls (c.v 4).length && c.tied)) := by show _ = _; rw [hF.out, hh]; rfl
        rw [hh] at hc1
        clear hh hF
        have hSz := Lib.hid (fun V => ref_Sized c.cls (c.v 4).length V)
        generalize hcls : (c.cls : Nat) = K at *
        replace hcls := Lib.hid hcls
        generalize hlen : (c.v 4) = b4 at *
        replace hlen := Lib.hid hlen
        go_wp2_with fail
        refine (hSz.out _).mono ?_
        rintro e w2 ⟨rfl, rfl⟩
        cases hs : sizedR (K : Int) (b4.length : Int) with
        | false =>
          have hF2 : Hid (c.object = false) := by show _ = _; rw [hF1.out, hs]; rfl
          clear hs
          go_wp2
          go_ret
          exact ⟨ret_bool (by rw [hF2.out]), hb⟩
        | true =>
          have hF2 : Hid (c.object = c.tied) := by show _ = _; rw [hF1.out, hs]; rfl
          clear hs hF1 hSz
          have hC0 := hC
          have hR0 := hC0.row
          have hA0 := hC0.at_
          have hL0 := hb
          have hz0 : w.heap.size ≤ wr.heap.size := by omega
          go_upto_region 9 with (fail)
          go_cut [5] (fun v wx => v = .bool (c.one 16 || c.one 17) ∧ CrdAt wx w.heap.size c ∧ Below w.heap.size w wx ∧ w.heap.size ≤ wx.heap.size)
          case first =>
            go_wp2_with fail
            refine (ref_One c 16 (by omega) _).mono ?_
            rintro e w1 ⟨rfl, hb1⟩
            have hC1 := hC0.step hb1
            have hR1 := hC1.row
            have hA1 := hC1.at_
            have hL1 := below_step hb1 hL0 (by omega)
            have hz1 := Nat.le_trans hz0 hb1.size
            clear hC0 hR0 hA0 hL0 hb1
            cases q16 : c.one 16
            · go_wp2_with fail
              refine (ref_One c 17 (by omega) _).mono ?_
              rintro e w2 ⟨rfl, hb2⟩
              have hC2 := hC1.step hb2
              have hR2 := hC2.row
              have hA2 := hC2.at_
              have hL2 := below_step hb2 hL1 (by omega)
              have hz2 := Nat.le_trans hz1 hb2.size
              clear hC1 hR1 hA1 hL1 hb2
              go_wp2_with fail
              go_meet
              exact ⟨by simp [q16], hC2, hL2, hz2⟩
            · go_wp2_with fail
              go_meet
              exact ⟨by simp [q16], hC1, hL1, hz1⟩
          case rest =>
            obtain ⟨rfl, hC9, hL9, hz9⟩ := hcut
            have hR9 := hC9.row
            have hA9 := hC9.at_
            generalize hke : (c.one 16 || c.one 17) = ke at *
            replace hke := Lib.hid hke
            clear hC0 hR0 hA0 hL0 hz0
            go_upto_region 10 with (fail)
            go_cut [6] (fun v wx => v = .bool (c.one 13 || c.one 14 || c.one 15) ∧ CrdAt wx w.heap.size c ∧ Below w.heap.size w wx ∧ w.heap.size ≤ wx.heap.size)
            case first =>
              go_wp2_with fail
              refine (ref_One c 13 (by omega) _).mono ?_
              rintro e w10 ⟨rfl, hb10⟩
              have hC10 := hC9.step hb10
              have hR10 := hC10.row
              have hA10 := hC10.at_
              have hL10 := below_step hb10 hL9 (by omega)
              have hz10 := Nat.le_trans hz9 hb10.size
              clear hC9 hR9 hA9 hL9 hb10
              cases q13 : c.one 13
              · go_wp2_with fail
                refine (ref_One c 14 (by omega) _).mono ?_
                rintro e w11 ⟨rfl, hb11⟩
                have hC11 := hC10.step hb11
                have hR11 := hC11.row
                have hA11 := hC11.at_
                have hL11 := below_step hb11 hL10 (by omega)
                have hz11 := Nat.le_trans hz10 hb11.size
                clear hC10 hR10 hA10 hL10 hb11
                cases q14 : c.one 14
                · go_wp2_with fail
                  refine (ref_One c 15 (by omega) _).mono ?_
                  rintro e w12 ⟨rfl, hb12⟩
                  have hC12 := hC11.step hb12
                  have hR12 := hC12.row
                  have hA12 := hC12.at_
                  have hL12 := below_step hb12 hL11 (by omega)
                  have hz12 := Nat.le_trans hz11 hb12.size
                  clear hC11 hR11 hA11 hL11 hb12
                  go_wp2_with fail
                  go_meet
                  exact ⟨by simp [q13, q14], hC12, hL12, hz12⟩
                · go_wp2_with fail
                  go_meet
                  exact ⟨by simp [q13, q14], hC11, hL11, hz11⟩
              · go_wp2_with fail
                go_meet
                exact ⟨by simp [q13], hC10, hL10, hz10⟩
            case rest =>
              obtain ⟨rfl, hC20, hL20, hz20⟩ := hcut
              have hR20 := hC20.row
              have hA20 := hC20.at_
              generalize hda : (c.one 13 || c.one 14 || c.one 15) = da at *
              replace hda := Lib.hid hda
              clear hC9 hR9 hA9 hL9 hz9
              go_wp2_with fail
              refine (ref_One c 10 (by omega) _).mono ?_
              rintro e w21 ⟨rfl, hb21⟩
              have hC21 := hC20.step hb21
              have hR21 := hC21.row
              have hA21 := hC21.at_
              have hL21 := below_step hb21 hL20 (by omega)
              have hz21 := Nat.le_trans hz20 hb21.size
              clear hC20 hR20 hA20 hL20 hb21
              cases q10 : c.one 10
              · go_wp2_with fail
                refine (ref_One c 11 (by omega) _).mono ?_
                rintro e w22 ⟨rfl, hb22⟩
                have hC22 := hC21.step hb22
                have hR22 := hC22.row
                have hA22 := hC22.at_
                have hL22 := below_step hb22 hL21 (by omega)
                have hz22 := Nat.le_trans hz21 hb22.size
                clear hC21 hR21 hA21 hL21 hb22
                cases q11 : c.one 11
                · cases ke
                  · go_wp2
                    go_ret
                    exact ⟨ret_bool (by rw [hF2.out]; unfold Crd.tied; rw [hke.out, hda.out]; simp [q10, q11]), hL22⟩
                  · go_wp2
                    go_ret
                    exact ⟨ret_bool (by rw [hF2.out]; unfold Crd.tied; rw [hke.out, hda.out]; simp [q10, q11]), hL22⟩
                · go_wp2_with fail
                  refine (ref_One c 9 (by omega) _).mono ?_
                  rintro e w23 ⟨rfl, hb23⟩
                  have hC23 := hC22.step hb23
                  have hR23 := hC23.row
                  have hA23 := hC23.at_
                  have hL23 := below_step hb23 hL22 (by omega)
                  have hz23 := Nat.le_trans hz22 hb23.size
                  clear hC22 hR22 hA22 hL22 hb23
                  cases q9 : c.one 9
                  · cases ke
                    · go_wp2
                      go_ret
                      exact ⟨ret_bool (by rw [hF2.out]; unfold Crd.tied; rw [hke.out, hda.out]; simp [q10, q11, q9]), hL23⟩
                    · go_wp2
                      go_ret
                      exact ⟨ret_bool (by rw [hF2.out]; unfold Crd.tied; rw [hke.out, hda.out]; simp [q10, q11, q9]), hL23⟩
                  · go_wp2
                    go_ret
                    exact ⟨ret_bool (by rw [hF2.out]; simp [Crd.tied, q10, q11, q9]), hL23⟩
              · go_wp2_with fail
                refine (ref_One c 8 (by omega) _).mono ?_
                rintro e w22 ⟨rfl, hb22⟩
                have hC22 := hC21.step hb22
                have hR22 := hC22.row
                have hA22 := hC22.at_
                have hL22 := below_step hb22 hL21 (by omega)
                have hz22 := Nat.le_trans hz21 hb22.size
                clear hC21 hR21 hA21 hL21 hb22
                cases q8 : c.one 8
                · go_wp2
                  go_ret
                  exact ⟨ret_bool (by rw [hF2.out]; simp [Crd.tied, q10, q8]), hL22⟩
                · go_wp2_with fail
                  refine (ref_One c 11 (by omega) _).mono ?_
                  rintro e w23 ⟨rfl, hb23⟩
                  have hC23 := hC22.step hb23
                  have hR23 := hC23.row
                  have hA23 := hC23.at_
                  have hL23 := below_step hb23 hL22 (by omega)
                  have hz23 := Nat.le_trans hz22 hb23.size
                  clear hC22 hR22 hA22 hL22 hb23
                  cases q11 : c.one 11
                  · cases ke
                    · go_wp2
                      go_ret
                      exact ⟨ret_bool (by rw [hF2.out]; unfold Crd.tied; rw [hke.out, hda.out]; simp [q10, q8, q11]), hL23⟩
                    · go_wp2
                      go_ret
                      exact ⟨ret_bool (by rw [hF2.out]; unfold Crd.tied; rw [hke.out, hda.out]; simp [q10, q8, q11]), hL23⟩
                  · go_wp2_with fail
                    refine (ref_One c 9 (by omega) _).mono ?_
                    rintro e w24 ⟨rfl, hb24⟩
                    have hC24 := hC23.step hb24
                    have hR24 := hC24.row
                    have hA24 := hC24.at_
                    have hL24 := below_step hb24 hL23 (by omega)
                    have hz24 := Nat.le_trans hz23 hb24.size
                    clear hC23 hR23 hA23 hL23 hb24
                    cases q9 : c.one 9
                    · cases ke
                      · go_wp2
                        go_ret
                        exact ⟨ret_bool (by rw [hF2.out]; unfold Crd.tied; rw [hke.out, hda.out]; simp [q10, q8, q11, q9]), hL24⟩
                      · go_wp2
                        go_ret
                        exact ⟨ret_bool (by rw [hF2.out]; unfold Crd.tied; rw [hke.out, hda.out]; simp [q10, q8, q11, q9]), hL24⟩
                    · go_wp2
                      go_ret
                      exact ⟨ret_bool (by rw [hF2.out]; simp [Crd.tied, q10, q8, q11, q9]), hL24⟩
    · have hn19 : n < 19 := by omega
      have hcH := hC.cellH hn19
      have hn19i : (n : Int) < 19 := by omega
      have hn0i : (0 : Int) ≤ (n : Int) := by omega
      have hw1 : IntKind.i64.wrap ((n : Int) + 1) = ((n + 1 : Nat) : Int) := by rw [IntKind.wrap_i64]; omega
      by_cases hE : c.has n = belongs c.cls (n : Int)
      · have hall2 : Hid (∀ k, 1 ≤ k → k < n + 1 → c.has k = belongs c.cls (k : Int)) := fun k h1 h2 => by
          rcases Nat.lt_or_ge k n with h3 | h3
          · exact hall.out k h1 h3
          · obtain rfl : k = n := by omega
            exact hE
        rw [hE] at hcH
        have hBel := Lib.hid (fun V => ref_Belongs c.cls (n : Int) V)
        clear hE
        generalize hbe : belongs c.cls (n : Int) = be at *
        replace hbe := Lib.hid hbe
        go_wp2_with fail
        go_region_law (first
          | (go_simp; go_at_call 14; (refine (hBel.out _).mono ?_); rintro e w' ⟨rfl, rfl⟩))
        all_goals (go_wp2; go_roundw; (case rel => exact ⟨n + 1, by go_num, by omega, by omega, hall2, Fa.drew hC, hb.drew, hz⟩); (case measure => simp [intOf]; omega))
      · have hF0 : Hid (c.object = false) := fitsK_no hn1 (by omega) hE
        have hBel := Lib.hid (fun V => ref_Belongs c.cls (n : Int) V)
        have hE2 : (c.has n != belongs c.cls (n : Int)) = true := by simpa using hE
        clear hE
        generalize hbe : belongs c.cls (n : Int) = be at *
        generalize c.has n = hv at *
        replace hbe := Lib.hid hbe
        have hE3 : be = !hv := by cases hv <;> cases be <;> simp_all
        subst hE3
        cases hv
        all_goals go_wp2_with fail
        all_goals go_region_law (first
          | (go_simp; go_at_call 14; (refine (hBel.out _).mono ?_); rintro e w' ⟨rfl, rfl⟩))
        all_goals (go_wp2; go_ret; exact ⟨ret_bool (by rw [hF0.out]), hb.drew⟩)
end Go.Proofs.Ytdlmamnnamlleaa
