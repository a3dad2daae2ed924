/- Contract of package field's Low. -/
import Derived.Test.YtgdiokklfihfoaaDoorFd1
import Derived.Test.YtgdiokklfihfoaaDoorFresh
namespace Go.Proofs.YtgdiokklfihfoaaDoor
open Go.ChangeShapes Go.WideShapes Go.ChangeAt Go.RowKit
set_option maxHeartbeats 2000000
set_option maxRecDepth 100000
attribute [local go_sem ↓] load_num store_num execl_num execs_num
attribute [local go_sem] isHead_mk blkOf_mk isAgg_mk cellsV_mk row_drew rowAt_drew row_new_cells row_old rowAt_new rowAt_old setRow_new zeroNum
def lowI : Nat → Nat → Nat
  | 0, c => c
  | k + 1, c => lowI k (lowA c)
theorem sub_at {c : Nat} (h : c < 2 ^ 256) (h2 : lessN c fP = 0) : subN c fP = lowA c ∧ lowA c < 2 ^ 256 := by
  unfold lessN at h2
  unfold subN lowA
  have h3 := P_lt
  generalize (2 : Nat) ^ 256 = Q at *
  generalize fP = P at *
  by_cases h4 : c < P
  · rw [if_pos h4] at h2; cases h2
  · rw [if_pos (by omega), show c + Q - P = Q + (c - P) by omega, Nat.add_mod_left, Nat.mod_eq_of_lt (by omega)]
    exact ⟨rfl, by omega⟩
theorem sub_no {c : Nat} (h2 : lessN c fP ≠ 0) : lowA c = c := by
  unfold lessN at h2
  unfold lowA
  by_cases h4 : c < fP
  · rw [if_neg (by omega)]
  · rw [if_neg h4] at h2; exact absurd rfl h2
set_option maxHeartbeats 4000000 in
theorem field_Low (a : Nat) (w : World) (ha : a < 2 ^ 256) : Calls Tryd.prog 164 #[numV a] w fun e w' => e = .returned (numV (a % fP)) ∧ Below w.heap.size w w' := by
  have hres := Lib.hid (show lowI 2 a = a % fP from low_two ha)
  have hHa := Lib.hid ha
  obtain ⟨rs, hrs⟩ : ∃ rs, a % fP = rs := ⟨_, rfl⟩
  rw [hrs] at hres ⊢
  clear ha hrs
  unfold numV
  have hcz := arrK_cells .u64 4 (wd 0)
  have hca := arrK_cells .u64 4 (wd a)
  have hL0 := below_alloc w (Obj.cells (arrK .u64 4 (wd a)) 41)
  have hA0 : At (w.alloc (Obj.cells (arrK .u64 4 (wd a)) 41)) w.heap.size .u64 4 (wd a) := At.new _ rfl
  have hA1 := Lib.hid (hA0.step (below_alloc _ (Obj.cells (arrK .u64 4 (wd 0)) 41)))
  have hL1 := Lib.hid (below_step (below_alloc _ (Obj.cells (arrK .u64 4 (wd 0)) 41)) hL0 (Nat.le_refl _))
  have hR1 := Lib.hid (show Row ((w.alloc (Obj.cells (arrK .u64 4 (wd a)) 41)).alloc (Obj.cells (arrK .u64 4 (wd 0)) 41)) (w.heap.size + 1) 4 from (row_new (by simp)).2 hcz.1)
  clear hL0 hA0
  go_enter Tryd.func164, Tryd.ntmps164
  go_wp2_with fail
  generalize (w.alloc (Obj.cells (arrK .u64 4 (wd a)) 41)).alloc (Obj.cells (arrK .u64 4 (wd 0)) 41) = W0 at *
  go_loopw [5] (fun vi wr => ∃ (i c : Nat), vi = .int .i64 (i : Nat) ∧ i ≤ 2 ∧ Hid (c < 2 ^ 256) ∧ Hid (lowI (2 - i) c = rs) ∧ Hid (At wr w.heap.size .u64 4 (wd c)) ∧ Hid (Row wr (w.heap.size + 1) 4) ∧ Hid (Below w.heap.size w wr)) (fun vi _ => 2 - (intOf vi).toNat)
  case atStart => exact ⟨0, a, rfl, by omega, hHa, hres, hA1, hR1, hL1⟩
  case round =>
    obtain ⟨i, c, rfl, hi, hc, hlo, hA, hR, hL⟩ := hrel
    clear hA1 hR1 hL1 hres hHa hca
    by_cases h2 : i < 2
    · have d1 : decide ((i : Int) < (2 : Int)) = true := by simp; omega
      have wr1 : IntKind.i64.wrap ((i : Int) + 1) = (i : Int) + 1 := by rw [IntKind.wrap_i64]; omega
      have hP := Lib.hid (fun V => field_P V)
      have hS := Lib.hid (fun V => limb_Sub c fP V hc.out P_lt)
      have hnext := Lib.hid (show lowI (2 - i) c = lowI (2 - (i + 1)) (lowA c) by rw [show 2 - i = (2 - (i + 1)) + 1 by omega]; rfl)
      have hyes := Lib.hid (@sub_at c hc.out)
      have hno := Lib.hid (@sub_no c)
      unfold numV at hP hS
      obtain ⟨sv, hsv⟩ : ∃ sv, subN c fP = sv := ⟨_, rfl⟩
      obtain ⟨lv, hlv⟩ : ∃ lv, lessN c fP = lv := ⟨_, rfl⟩
      rw [hsv, hlv] at hS hyes
      rw [hlv] at hno
      clear hsv hlv
      have hcs := arrK_cells .u64 4 (wd sv)
      obtain ⟨XP, hXP⟩ : ∃ X, arrK .u64 4 (wd fP) = X := ⟨_, rfl⟩
      rw [hXP] at hP hS
      clear hXP
      go_wp2_with fail
      generalize ha0 : Act.mk _ _ = a0
      have e1 : a0.tmps[1]?.getD undef = .pointer (some ⟨w.heap.size, 0, none⟩) := by rw [← ha0]; rfl
      have hz0 : a0.tmps.size = 18 := by rw [← ha0]; rfl
      have hha0 := Lib.hid ha0
      clear ha0
      refine wp_region_fresh ⟨fun jx_ => match jx_ with | 0 => some (.agg (arrK .u64 4 (wd c))) | 1 => some (.agg XP) | 2 => some (.tuple #[.agg (arrK .u64 4 (wd sv)), .int .u64 (lv : Nat)]) | 3 => some (.tuple #[.agg (arrK .u64 4 (wd sv)), .int .u64 (lv : Nat)]) | 4 => some (.agg (arrK .u64 4 (wd sv))) | 5 => some (.int .u64 (lv : Nat)) | 8 => some (.int .u64 (lv : Nat)) | _ => none, fun jx_ => match jx_ with | 6 => some 4 | _ => none, fun jx_ => match jx_ with | 7 => some 6 | _ => none, fun jx_ => match jx_ with | 7 => arrK .u64 4 (wd sv) | _ => #[]⟩ (by kernel_rfl) (by kernel_rfl) (by kernel_rfl) (slotsOk_of hz0 (by kernel_rfl)) rfl ⟨?_, ?_, ?_, ?_, ?_, ?_, ?_, ?_, ?_, trivial⟩ ?_
      · refine fstep_val rfl rfl (calm_step rfl fun aa ω κ hb hu hc hK => ?_)
        have h1 : aa.tmps[1]?.getD undef = .pointer (some ⟨w.heap.size, 0, none⟩) := (hu 1 rfl).trans e1
        have hk := Lib.hid (fun w1 (h : Below ω.heap.size ω w1) => hK (.agg (arrK .u64 4 (wd c))) w1 rfl h)
        clear hK hu hc
        have hr1 := (hA.out.step hb).row
        have hr2 := (hA.out.step hb).eq
        go_simp
        exact hk.out _ (Below.refl _ _)
      · refine fstep_val rfl rfl (calm_step rfl fun aa ω κ hb hu hc hK => ?_)
        have hk := Lib.hid (fun w1 (h : Below ω.heap.size ω w1) => hK (.agg XP) w1 rfl h)
        clear hK hu hc
        go_simp
        go_at_call 170
        refine (hP.out _).mono ?_
        rintro e w1 ⟨rfl, hb1⟩
        exact hk.out _ hb1
      · refine fstep_val rfl rfl (calm_step rfl fun aa ω κ hb hu hc hK => ?_)
        have h8 : aa.tmps[8]?.getD undef = .agg (arrK .u64 4 (wd c)) := hc 0 8 rfl rfl
        have h9 : aa.tmps[9]?.getD undef = .agg XP := hc 1 9 rfl rfl
        have hk := Lib.hid (fun w1 (h : Below ω.heap.size ω w1) => hK (.tuple #[.agg (arrK .u64 4 (wd sv)), .int .u64 (lv : Nat)]) w1 rfl h)
        clear hK hu hc
        go_simp
        go_at_call 38
        refine (hS.out _).mono ?_
        rintro e w1 ⟨rfl, hb1⟩
        exact hk.out _ hb1
      · refine fstep_val rfl rfl (calm_step rfl fun aa ω κ hb hu hc hK => ?_)
        have h10 : aa.tmps[10]?.getD undef = .tuple #[.agg (arrK .u64 4 (wd sv)), .int .u64 (lv : Nat)] := hc 2 10 rfl rfl
        have hk := Lib.hid (fun w1 (h : Below ω.heap.size ω w1) => hK (.tuple #[.agg (arrK .u64 4 (wd sv)), .int .u64 (lv : Nat)]) w1 rfl h)
        clear hK hu hc
        go_simp
        exact hk.out _ (Below.refl _ _)
      · refine fstep_val rfl rfl (calm_step rfl fun aa ω κ hb hu hc hK => ?_)
        have h7 : aa.tmps[7]?.getD undef = .tuple #[.agg (arrK .u64 4 (wd sv)), .int .u64 (lv : Nat)] := hc 3 7 rfl rfl
        have hk := Lib.hid (fun w1 (h : Below ω.heap.size ω w1) => hK (.agg (arrK .u64 4 (wd sv))) w1 rfl h)
        clear hK hu hc
        go_simp
        exact hk.out _ (Below.refl _ _)
      · refine fstep_val rfl rfl (calm_step rfl fun aa ω κ hb hu hc hK => ?_)
        have h7 : aa.tmps[7]?.getD undef = .tuple #[.agg (arrK .u64 4 (wd sv)), .int .u64 (lv : Nat)] := hc 3 7 rfl rfl
        have hk := Lib.hid (fun w1 (h : Below ω.heap.size ω w1) => hK (.int .u64 (lv : Nat)) w1 rfl h)
        clear hK hu hc
        go_simp
        exact hk.out _ (Below.refl _ _)
      · refine fstep_al (n := 4) rfl rfl fun aa ω κ hK => ?_
        have hk := Lib.hid hK
        clear hK
        go_simp
        exact hk.out _ _ hcz
      · refine fstep_st (j := 6) (n := 4) (d := 3) rfl rfl rfl rfl rfl hcs.1 rfl rfl fun aa ω κ g hb hu hc hp hr hK => ?_
        have h11 : aa.tmps[11]?.getD undef = .agg (arrK .u64 4 (wd sv)) := hc 4 11 rfl rfl
        have hk := Lib.hid hK
        clear hK hu hc
        have hcc := hcs
        go_simp
        exact hk.out undef
      · refine fstep_val rfl rfl (calm_step rfl fun aa ω κ hb hu hc hK => ?_)
        have h12 : aa.tmps[12]?.getD undef = .int .u64 (lv : Nat) := hc 5 12 rfl rfl
        have hk := Lib.hid (fun w1 (h : Below ω.heap.size ω w1) => hK (.int .u64 (lv : Nat)) w1 rfl h)
        clear hK hu hc
        go_simp
        exact hk.out _ (Below.refl _ _)
      · intro a1 w1 G I
        have ha0 := hha0.out
        subst ha0
        have he := act_patch (n := 18) [false, false, false, true, true, false, false, true, true, true, true, true, true, false, false, false, false, false] rfl (by kernel_rfl) I.un I.sz I.df
        simp only [patch, cond_true, cond_false, Nat.reduceAdd] at he
        have hal3 := I.al 6 3 4 rfl rfl rfl
        have hA2 := Lib.hid (hA.out.step I.bel)
        have hR2 := Lib.hid (row_below hR.out I.bel hR.out.lt)
        have hL2 := Lib.hid (below_step I.bel hL.out (Nat.le_refl _))
        have X2 : At w1 (G 6) .u64 4 (wd sv) := ⟨(I.blk 6 4 rfl rfl).2, (I.row 7 6 rfl rfl).2.2⟩
        have h4 : a1.tmps[4]?.getD undef = .int .u64 (lv : Nat) := I.val 8 4 rfl rfl
        clear hA hR hL hP hS
        clear I hz0 hha0 e1
        rw [he]
        clear he
        rw [hal3]
        clear hal3
        generalize a1.tmps[4]?.getD undef = x4 at *
        generalize a1.tmps[7]?.getD undef = x7 at *
        generalize a1.tmps[8]?.getD undef = x8 at *
        generalize a1.tmps[9]?.getD undef = x9 at *
        generalize a1.tmps[10]?.getD undef = x10 at *
        generalize a1.tmps[11]?.getD undef = x11 at *
        generalize a1.tmps[12]?.getD undef = x12 at *
        by_cases hl0 : lv = 0
        · subst hl0
          obtain ⟨hs1, hs2⟩ := hyes.out rfl
          have hlow := Lib.hid (show lowI (2 - (i + 1)) sv = rs by rw [hs1, ← hnext.out]; exact hlo.out)
          have hsb := Lib.hid (show sv < 2 ^ 256 by rw [hs1]; exact hs2)
          have hB := Lib.hid (show At (w1.setRow w.heap.size (arrK .u64 4 (wd sv))) w.heap.size .u64 4 (wd sv) from At.put hA2.out.row)
          have hBR := Lib.hid (show Row (w1.setRow w.heap.size (arrK .u64 4 (wd sv))) (w.heap.size + 1) 4 from (row_setRow_far (by omega)).2 hR2.out)
          have hBL := Lib.hid (below_setRow (c := arrK .u64 4 (wd sv)) hL2.out (Nat.le_refl _))
          clear hlo hnext hyes hno hs1 hs2 hc
          have hr1 := X2.row
          have hr2 := X2.eq
          have hr3 := hA2.out.row
          have ht4 : x4 = .int .u64 (0 : Int) := h4
          subst ht4
          go_wp2_with fail
          go_roundw
          case rel => exact ⟨i + 1, sv, rfl, by omega, hsb, hlow, hB, hBR, hBL⟩
          all_goals
            show 2 - ((i : Int) + 1).toNat < 2 - (i : Int).toNat
            omega
        · have hlc := hno.out hl0
          have hlow := Lib.hid (show lowI (2 - (i + 1)) c = rs by rw [← hlo.out, hnext.out, hlc])
          have dl : decide ((lv : Int) = (0 : Int)) = false := by simp; omega
          have ht4 : x4 = .int .u64 (lv : Int) := h4
          subst ht4
          go_wp2_with fail
          go_roundw
          case rel => exact ⟨i + 1, c, rfl, by omega, hc, hlow, hA2, hR2, hL2⟩
          all_goals
            show 2 - ((i : Int) + 1).toNat < 2 - (i : Int).toNat
            omega
    · obtain rfl : i = 2 := by omega
      have d1 : decide (((2 : Nat) : Int) < (2 : Int)) = false := rfl
      have hcr : c = rs := hlo.out
      subst hcr
      have hcs := arrK_cells .u64 4 (wd c)
      have hr1 := hA.out.row
      have hr2 := hA.out.eq
      have hr3 := hR.out
      have hl3 := hL.out
      go_wp2_with fail
      exact ret_stored (p := 2) (ty := 41) (g := w.heap.size + 1) (n := 4) (c := arrK .u64 4 (wd c)) rfl Tryd.underlying41 rfl (by kernel_rfl) rfl hR.out hcs.1 rfl ⟨rfl, below_setRow hL.out (by omega)⟩
end Go.Proofs.YtgdiokklfihfoaaDoor
