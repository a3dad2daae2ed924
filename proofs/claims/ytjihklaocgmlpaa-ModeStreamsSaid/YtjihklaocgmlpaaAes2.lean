/- Contracts of package aes: each, by Mix and by Unmix. -/
import Derived.Test.YtjihklaocgmlpaaAes
import Derived.Test.YtjihklaocgmlpaaLimb
import Derived.Deep.DeepCutAuto
import Derived.Deep.RegionLaw
namespace Go.Proofs.Ytjihklaocgmlpaa
open Go.ChangeShapes Go.WideShapes Go.ChangeAt Go.RowKit
set_option maxHeartbeats 4000000
set_option maxRecDepth 100000
attribute [local go_sem ↓] load_a4 store_a4 execl_a4 execs_a4 load_a16 store_a16 execl_a16 execs_a16 load_akey store_akey execl_akey execs_akey
attribute [local go_sem] isHead_mk blkOf_mk isAgg_mk cellsV_mk row_drew rowAt_drew row_new_cells row_old rowAt_new rowAt_old setRow_new

theorem aes_eachM (b : Nat → Nat) (w : World) (hb : ∀ i < 16, b i < 256) :
    Calls Try.prog 80 #[.agg (arrK .u8 16 b), .func (.func 81) #[] #[]] w fun e w' => e = .returned (.agg (arrK .u8 16 (mixs mixB b))) ∧ Below w.heap.size w w' := by
  have T0 : At ((w.alloc (Obj.cells (arrK .u8 16 b) 38)).alloc (Obj.cells (arrK .u8 16 fun _ => 0) 38)) w.heap.size .u8 16 b := (At.new _ rfl).old _
  have O0 : At ((w.alloc (Obj.cells (arrK .u8 16 b) 38)).alloc (Obj.cells (arrK .u8 16 fun _ => 0) 38)) (w.heap.size + 1) .u8 16 fun _ => 0 := At.new _ (by simp)
  have hL0 : Below w.heap.size w ((w.alloc (Obj.cells (arrK .u8 16 b) 38)).alloc (Obj.cells (arrK .u8 16 fun _ => 0) 38)) := by go_grown
  have cells4b : Cells #[Value.int IntKind.u8 0, Value.int IntKind.u8 0, Value.int IntKind.u8 0, Value.int IntKind.u8 0] 4 := by rw [zeroA4]; exact arrK_cells _ _ _
  go_enter Try.func80, Try.ntmps80
  go_wp2_with fail
  rw [zeroA16]
  generalize (w.alloc (Obj.cells (arrK .u8 16 b) 38)).alloc (Obj.cells (arrK .u8 16 fun _ => 0) 38) = W0 at *
  go_loopw [5] (fun x wr => ∃ k : Nat, x = .int .i64 ((4 * k : Nat) : Int) ∧ k ≤ 4 ∧ At wr w.heap.size .u8 16 (upTo (4 * k) (mixs mixB b) b) ∧ Row wr (w.heap.size + 1) 16 ∧ Below w.heap.size w wr) (fun x _ => 16 - (intOf x).toNat)
  case atStart => exact ⟨0, rfl, by omega, by rw [upTo_zero]; exact T0, O0.row, hL0⟩
  case round =>
    clear T0 O0 hL0
    obtain ⟨k, rfl, hi, T, O, hL⟩ := hrel
    by_cases h4 : k = 4
    · subst h4
      have hRt := T.row
      have hrt := T.eq
      rw [arrK_congr (upTo_end _ _)] at hrt
      have hcs := arrK_cells .u8 16 (mixs mixB b)
      clear T
      go_wp2_with fail
      refine ret_row rfl Try.underlying38 rfl (by kernel_rfl) rfl ((row_setRow_same rfl O).2 hcs.1) rfl ?_
      rw [rowAt_setRow_same O]
      exact ⟨rfl, below_setRow hL (by omega)⟩
    · obtain ⟨c, hc⟩ : ∃ c, c = 4 * k := ⟨_, rfl⟩
      rw [← hc] at T
      rw [← hc]
      obtain ⟨f, hf⟩ : ∃ f : Nat → Nat, f = fun j => b (c + j) := ⟨_, rfl⟩
      have hfl : ∀ i < 4, f i < 256 := fun i hi2 => by rw [hf]; exact hb _ (by omega)
      obtain ⟨c1, h1⟩ : ∃ c1, c1 = c + 1 := ⟨_, rfl⟩
      obtain ⟨c2, h2⟩ : ∃ c2, c2 = c + 2 := ⟨_, rfl⟩
      obtain ⟨c3, h3⟩ : ∃ c3, c3 = c + 3 := ⟨_, rfl⟩
      have hf0 := Lib.hid (show upTo c (mixs mixB b) b c = f 0 by rw [hf]; simp [upTo])
      have hf1 := Lib.hid (show upTo c (mixs mixB b) b c1 = f 1 by rw [hf, h1]; exact upTo_ge _ _ (by omega))
      have hf2 := Lib.hid (show upTo c (mixs mixB b) b c2 = f 2 by rw [hf, h2]; exact upTo_ge _ _ (by omega))
      have hf3 := Lib.hid (show upTo c (mixs mixB b) b c3 = f 3 by rw [hf, h3]; exact upTo_ge _ _ (by omega))
      have hw1 : IntKind.i64.wrap ((c : Int) + 1) = (c1 : Int) := by rw [IntKind.wrap_i64]; omega
      have hw2 : IntKind.i64.wrap ((c : Int) + 2) = (c2 : Int) := by rw [IntKind.wrap_i64]; omega
      have hw3 : IntKind.i64.wrap ((c : Int) + 3) = (c3 : Int) := by rw [IntKind.wrap_i64]; omega
      have hd : decide ((c : Int) < 16) = true := by simp; omega
      have hi0 : (c : Int) < 16 := by omega
      have hi1 : (c1 : Int) < 16 := by omega
      have hi2 : (c2 : Int) < 16 := by omega
      have hi3 : (c3 : Int) < 16 := by omega
      have hj0 : (0 : Int) ≤ (c : Int) := by omega
      have hj1 : (0 : Int) ≤ (c1 : Int) := by omega
      have hj2 : (0 : Int) ≤ (c2 : Int) := by omega
      have hj3 : (0 : Int) ≤ (c3 : Int) := by omega
      have hT := Lib.hid T
      have hO := Lib.hid O
      have hHL := Lib.hid hL
      have hHc := Lib.hid hc
      have hHf := Lib.hid hf
      have hcol := arrK_cells .u8 4 (col f mixB)
      clear T O hL hf
      go_upto_region 4 with (fail)
      go_cut [6] from 7 to 32 (fun v6 wx => ∃ g, v6 = .pointer (some ⟨g, 0, none⟩) ∧ At wx g .u8 4 (col f mixB) ∧ At wx w.heap.size .u8 16 (upTo c (mixs mixB b) b) ∧ Row wx (w.heap.size + 1) 16 ∧ Below w.heap.size w wx)
      case first =>
        rename_i J1 K1 hJ1 hK1
        have hHJ1 := Lib.hid hJ1
        have hHK1 := Lib.hid hK1
        clear hJ1 hK1 h1 h2 h3 hc
        generalize ha0 : Act.mk _ _ = a0
        have e1 : a0.tmps[1]?.getD undef = .func (.func 81) #[] #[] := by rw [← ha0]; rfl
        have e2 : a0.tmps[2]?.getD undef = .pointer (some ⟨w.heap.size, 0, none⟩) := by rw [← ha0]; rfl
        have e5 : a0.tmps[5]?.getD undef = .int .i64 (c : Nat) := by rw [← ha0]; rfl
        have hz0 : a0.tmps.size = 34 := by rw [← ha0]; rfl
        have hha0 := Lib.hid ha0
        clear ha0
        refine wp_region_fresh ⟨fun jx_ => match jx_ with | 0 => some (.func (.func 81) #[] #[]) | 1 => some (.int .i64 (c : Nat)) | 2 => some (.pointer (some ⟨w.heap.size, c, none⟩)) | 3 => some (.int .u8 (f 0 : Nat)) | 4 => some (.int .i64 (c : Nat)) | 5 => some (.int .i64 (c1 : Nat)) | 6 => some (.pointer (some ⟨w.heap.size, c1, none⟩)) | 7 => some (.int .u8 (f 1 : Nat)) | 8 => some (.int .i64 (c : Nat)) | 9 => some (.int .i64 (c2 : Nat)) | 10 => some (.pointer (some ⟨w.heap.size, c2, none⟩)) | 11 => some (.int .u8 (f 2 : Nat)) | 12 => some (.int .i64 (c : Nat)) | 13 => some (.int .i64 (c3 : Nat)) | 14 => some (.pointer (some ⟨w.heap.size, c3, none⟩)) | 15 => some (.int .u8 (f 3 : Nat)) | 16 => some (.agg (arrK .u8 4 f)) | 17 => some (.agg (arrK .u8 4 (col f mixB))) | _ => none, fun jx_ => match jx_ with | 18 => some 4 | _ => none, fun jx_ => match jx_ with | 19 => some 18 | _ => none, fun jx_ => match jx_ with | 19 => arrK .u8 4 (col f mixB) | _ => #[]⟩ (by kernel_rfl) (by kernel_rfl) (by kernel_rfl) (slotsOk_of hz0 (by kernel_rfl)) rfl ⟨?_, ?_, ?_, ?_, ?_, ?_, ?_, ?_, ?_, ?_, ?_, ?_, ?_, ?_, ?_, ?_, ?_, ?_, ?_, ?_, trivial⟩ ?_
        · refine fstep_val rfl rfl (calm_step rfl fun aa ω κ hb hu hc hK => ?_)
          have h1 : aa.tmps[1]?.getD undef = .func (.func 81) #[] #[] := (hu 1 rfl).trans e1
          have hk := Lib.hid (fun w1 (h : Below ω.heap.size ω w1) => hK (.func (.func 81) #[] #[]) w1 rfl h)
          clear hK hu hc
          go_simp
          exact hk.out _ (Below.refl _ _)
        · refine fstep_val rfl rfl (calm_step rfl fun aa ω κ hb hu hc hK => ?_)
          have h5 : aa.tmps[5]?.getD undef = .int .i64 (c : Nat) := (hu 5 rfl).trans e5
          have hk := Lib.hid (fun w1 (h : Below ω.heap.size ω w1) => hK (.int .i64 (c : Nat)) w1 rfl h)
          clear hK hu hc
          go_simp
          exact hk.out _ (Below.refl _ _)
        · refine fstep_val rfl rfl (calm_step rfl fun aa ω κ hb hu hc hK => ?_)
          have h2 : aa.tmps[2]?.getD undef = .pointer (some ⟨w.heap.size, 0, none⟩) := (hu 2 rfl).trans e2
          have h12 : aa.tmps[12]?.getD undef = .int .i64 (c : Nat) := hc 1 12 rfl rfl
          have hk := Lib.hid (fun w1 (h : Below ω.heap.size ω w1) => hK (.pointer (some ⟨w.heap.size, c, none⟩)) w1 rfl h)
          clear hK hu hc
          go_simp
          exact hk.out _ (Below.refl _ _)
        · refine fstep_val rfl rfl (calm_step rfl fun aa ω κ hb hu hc hK => ?_)
          have h13 : aa.tmps[13]?.getD undef = .pointer (some ⟨w.heap.size, c, none⟩) := hc 2 13 rfl rfl
          have hk := Lib.hid (fun w1 (h : Below ω.heap.size ω w1) => hK (.int .u8 (f 0 : Nat)) w1 rfl h)
          clear hK hu hc
          have hcl := (hT.out.step hb).cell (i := c) (by omega)
          rw [hf0.out] at hcl
          go_simp
          exact hk.out _ (Below.refl _ _)
        · refine fstep_val rfl rfl (calm_step rfl fun aa ω κ hb hu hc hK => ?_)
          have h5 : aa.tmps[5]?.getD undef = .int .i64 (c : Nat) := (hu 5 rfl).trans e5
          have hk := Lib.hid (fun w1 (h : Below ω.heap.size ω w1) => hK (.int .i64 (c : Nat)) w1 rfl h)
          clear hK hu hc
          go_simp
          exact hk.out _ (Below.refl _ _)
        · refine fstep_val rfl rfl (calm_step rfl fun aa ω κ hb hu hc hK => ?_)
          have h15 : aa.tmps[15]?.getD undef = .int .i64 (c : Nat) := hc 4 15 rfl rfl
          have hk := Lib.hid (fun w1 (h : Below ω.heap.size ω w1) => hK (.int .i64 (c1 : Nat)) w1 rfl h)
          clear hK hu hc
          go_simp
          exact hk.out _ (Below.refl _ _)
        · refine fstep_val rfl rfl (calm_step rfl fun aa ω κ hb hu hc hK => ?_)
          have h2 : aa.tmps[2]?.getD undef = .pointer (some ⟨w.heap.size, 0, none⟩) := (hu 2 rfl).trans e2
          have h16 : aa.tmps[16]?.getD undef = .int .i64 (c1 : Nat) := hc 5 16 rfl rfl
          have hk := Lib.hid (fun w1 (h : Below ω.heap.size ω w1) => hK (.pointer (some ⟨w.heap.size, c1, none⟩)) w1 rfl h)
          clear hK hu hc
          go_simp
          exact hk.out _ (Below.refl _ _)
        · refine fstep_val rfl rfl (calm_step rfl fun aa ω κ hb hu hc hK => ?_)
          have h17 : aa.tmps[17]?.getD undef = .pointer (some ⟨w.heap.size, c1, none⟩) := hc 6 17 rfl rfl
          have hk := Lib.hid (fun w1 (h : Below ω.heap.size ω w1) => hK (.int .u8 (f 1 : Nat)) w1 rfl h)
          clear hK hu hc
          have hcl := (hT.out.step hb).cell (i := c1) (by omega)
          rw [hf1.out] at hcl
          go_simp
          exact hk.out _ (Below.refl _ _)
        · refine fstep_val rfl rfl (calm_step rfl fun aa ω κ hb hu hc hK => ?_)
          have h5 : aa.tmps[5]?.getD undef = .int .i64 (c : Nat) := (hu 5 rfl).trans e5
          have hk := Lib.hid (fun w1 (h : Below ω.heap.size ω w1) => hK (.int .i64 (c : Nat)) w1 rfl h)
          clear hK hu hc
          go_simp
          exact hk.out _ (Below.refl _ _)
        · refine fstep_val rfl rfl (calm_step rfl fun aa ω κ hb hu hc hK => ?_)
          have h19 : aa.tmps[19]?.getD undef = .int .i64 (c : Nat) := hc 8 19 rfl rfl
          have hk := Lib.hid (fun w1 (h : Below ω.heap.size ω w1) => hK (.int .i64 (c2 : Nat)) w1 rfl h)
          clear hK hu hc
          go_simp
          exact hk.out _ (Below.refl _ _)
        · refine fstep_val rfl rfl (calm_step rfl fun aa ω κ hb hu hc hK => ?_)
          have h2 : aa.tmps[2]?.getD undef = .pointer (some ⟨w.heap.size, 0, none⟩) := (hu 2 rfl).trans e2
          have h20 : aa.tmps[20]?.getD undef = .int .i64 (c2 : Nat) := hc 9 20 rfl rfl
          have hk := Lib.hid (fun w1 (h : Below ω.heap.size ω w1) => hK (.pointer (some ⟨w.heap.size, c2, none⟩)) w1 rfl h)
          clear hK hu hc
          go_simp
          exact hk.out _ (Below.refl _ _)
        · refine fstep_val rfl rfl (calm_step rfl fun aa ω κ hb hu hc hK => ?_)
          have h21 : aa.tmps[21]?.getD undef = .pointer (some ⟨w.heap.size, c2, none⟩) := hc 10 21 rfl rfl
          have hk := Lib.hid (fun w1 (h : Below ω.heap.size ω w1) => hK (.int .u8 (f 2 : Nat)) w1 rfl h)
          clear hK hu hc
          have hcl := (hT.out.step hb).cell (i := c2) (by omega)
          rw [hf2.out] at hcl
          go_simp
          exact hk.out _ (Below.refl _ _)
        · refine fstep_val rfl rfl (calm_step rfl fun aa ω κ hb hu hc hK => ?_)
          have h5 : aa.tmps[5]?.getD undef = .int .i64 (c : Nat) := (hu 5 rfl).trans e5
          have hk := Lib.hid (fun w1 (h : Below ω.heap.size ω w1) => hK (.int .i64 (c : Nat)) w1 rfl h)
          clear hK hu hc
          go_simp
          exact hk.out _ (Below.refl _ _)
        · refine fstep_val rfl rfl (calm_step rfl fun aa ω κ hb hu hc hK => ?_)
          have h23 : aa.tmps[23]?.getD undef = .int .i64 (c : Nat) := hc 12 23 rfl rfl
          have hk := Lib.hid (fun w1 (h : Below ω.heap.size ω w1) => hK (.int .i64 (c3 : Nat)) w1 rfl h)
          clear hK hu hc
          go_simp
          exact hk.out _ (Below.refl _ _)
        · refine fstep_val rfl rfl (calm_step rfl fun aa ω κ hb hu hc hK => ?_)
          have h2 : aa.tmps[2]?.getD undef = .pointer (some ⟨w.heap.size, 0, none⟩) := (hu 2 rfl).trans e2
          have h24 : aa.tmps[24]?.getD undef = .int .i64 (c3 : Nat) := hc 13 24 rfl rfl
          have hk := Lib.hid (fun w1 (h : Below ω.heap.size ω w1) => hK (.pointer (some ⟨w.heap.size, c3, none⟩)) w1 rfl h)
          clear hK hu hc
          go_simp
          exact hk.out _ (Below.refl _ _)
        · refine fstep_val rfl rfl (calm_step rfl fun aa ω κ hb hu hc hK => ?_)
          have h25 : aa.tmps[25]?.getD undef = .pointer (some ⟨w.heap.size, c3, none⟩) := hc 14 25 rfl rfl
          have hk := Lib.hid (fun w1 (h : Below ω.heap.size ω w1) => hK (.int .u8 (f 3 : Nat)) w1 rfl h)
          clear hK hu hc
          have hcl := (hT.out.step hb).cell (i := c3) (by omega)
          rw [hf3.out] at hcl
          go_simp
          exact hk.out _ (Below.refl _ _)
        · refine fstep_val rfl rfl (calm_step rfl fun aa ω κ hb hu hc hK => ?_)
          have h14 : aa.tmps[14]?.getD undef = .int .u8 (f 0 : Nat) := hc 3 14 rfl rfl
          have h18 : aa.tmps[18]?.getD undef = .int .u8 (f 1 : Nat) := hc 7 18 rfl rfl
          have h22 : aa.tmps[22]?.getD undef = .int .u8 (f 2 : Nat) := hc 11 22 rfl rfl
          have h26 : aa.tmps[26]?.getD undef = .int .u8 (f 3 : Nat) := hc 15 26 rfl rfl
          have hk := Lib.hid (fun w1 (h : Below ω.heap.size ω w1) => hK (.agg (arrK .u8 4 f)) w1 rfl h)
          clear hK hu hc
          rw [<- arrK4 .u8 f] at hk
          go_simp
          exact hk.out _ (Below.refl _ _)
        · refine fstep_val rfl rfl (calm_step rfl fun aa ω κ hb hu hc hK => ?_)
          have h11 : aa.tmps[11]?.getD undef = .func (.func 81) #[] #[] := hc 0 11 rfl rfl
          have h27 : aa.tmps[27]?.getD undef = .agg (arrK .u8 4 f) := hc 16 27 rfl rfl
          have hk := Lib.hid (fun w1 (h : Below ω.heap.size ω w1) => hK (.agg (arrK .u8 4 (col f mixB))) w1 rfl h)
          clear hK hu hc
          go_simp
          go_at_call 81
          refine (gf_MixK f _ hfl).mono ?_
          rintro e w1 ⟨rfl, hb1⟩
          exact hk.out _ hb1
        · refine fstep_al (n := 4) rfl rfl fun aa ω κ hK => ?_
          have hk := Lib.hid hK
          clear hK
          go_simp
          exact hk.out _ _ cells4b
        · refine fstep_st (j := 18) (n := 4) (d := 6) rfl rfl rfl rfl rfl hcol.1 rfl rfl fun aa ω κ g hb hu hc hp hr hK => ?_
          have h28 : aa.tmps[28]?.getD undef = .agg (arrK .u8 4 (col f mixB)) := hc 17 28 rfl rfl
          have hk := Lib.hid hK
          clear hK hu hc
          have hcc := hcol
          go_simp
          exact hk.out undef
        · intro a1 w1 G I
          have hK1 := hHK1.out
          go_wp2_with fail
          refine Met.intro (hHJ1.out _ _ ?_)
          have ha0 := hha0.out
          subst ha0
          (repeat apply Exists.intro)
          refine ⟨?_, act_patch (n := 34) [false, false, false, false, false, false, true, false, false, false, false, true, true, true, true, true, true, true, true, true, true, true, true, true, true, true, true, true, true, false, false, false, false, false] rfl (by kernel_rfl) I.un I.sz I.df⟩
          exact ⟨G 18, I.al 18 6 4 rfl rfl rfl, ⟨(I.blk 18 4 rfl rfl).2, (I.row 19 18 rfl rfl).2.2⟩, hT.out.step I.bel, row_below hO.out I.bel hO.out.lt, below_step I.bel hHL.out (Nat.le_refl _)⟩
      case rest =>
        obtain ⟨g, rfl, M, T, O, hL⟩ := hcut
        clear hT hO hHL hf0 hf1 hf2 hf3 hw1 hw2 hw3
        have hne : w.heap.size ≠ w.heap.size + 1 := by omega
        have hmx : arrK .u8 16 (fun i => if c ≤ i ∧ i < c + 4 then col f mixB (0 + (i - c)) else upTo c (mixs mixB b) b i) = arrK .u8 16 (upTo (c + 4) (mixs mixB b) b) := arrK_congr fun i hi16 => by
          by_cases hh : c ≤ i ∧ i < c + 4
          · rw [if_pos hh, upTo_lt _ _ (by omega)]
            unfold mixs
            rw [hHf.out, show 0 + (i - c) = i % 4 by omega, show 4 * (i / 4) = c by omega]
          · rw [if_neg hh]
            unfold upTo
            by_cases h5 : i < c
            · rw [if_pos h5, if_pos (by omega)]
            · rw [if_neg h5, if_neg (by omega)]
        have hn16 : ¬ 16 = c := by omega
        have hcp : ∀ ty, (Builtin.copy_ #[25, 25] ty #[.slice (some ⟨w.heap.size, c, none⟩) (16 - c) (16 - c), .slice (some ⟨g, 0, none⟩) 4 4]).run Try.prog wc.drew = .ok (.int .i64 4) (wc.drew.setRow w.heap.size (arrK .u8 16 (upTo (c + 4) (mixs mixB b) b))) := fun ty => by
          have hr1 := T.eq
          have hr2 := M.eq
          rw [run_copy_rows (N := 16) (M := 4) (n := 4) Try.underlying25 (by kernel_rfl) (show 4 = Nat.min 4 (16 - c) by simp only [Nat.min_def]; split <;> omega) (by omega) (by omega) (by rw [rowAt_drew, hr2]; intro u hu; exact Array.all_eq_true_iff_forall_mem.1 hcol.2 u (Array.mem_toList_iff.1 hu)) T.row.drew M.row.drew, rowAt_drew, rowAt_drew, hr1, hr2, splice_arrK (by omega) (by omega), hmx, goInt_4]
        have hHT := Lib.hid T
        have hHO := Lib.hid O
        have hHL := Lib.hid hL
        have hk4 := Lib.hid (show c + 4 = 4 * (k + 1) by omega)
        have hle : (c : Int) ≤ 16 := by omega
        have hle2 : c ≤ 16 := by omega
        clear T O hL M hmx hHf hfl hcol hc h1 h2 h3 hi1 hi2 hi3 hj1 hj2 hj3
        go_wp2_with fail
        go_region
        all_goals
          go_wp2_with fail
          go_round
          case rel =>
            have hq := hk4.out
            refine ⟨k + 1, congrArg (Value.int .i64) (by omega), by omega, ?_, (row_setRow_far (by omega)).2 hHO.out.drew, below_setRow hHL.out.drew (by omega)⟩
            rw [← hq]
            exact At.put hHT.out.drew.row
          case measure => simp [intOf]; omega
theorem aes_eachU (b : Nat → Nat) (w : World) (hb : ∀ i < 16, b i < 256) :
    Calls Try.prog 80 #[.agg (arrK .u8 16 b), .func (.func 87) #[] #[]] w fun e w' => e = .returned (.agg (arrK .u8 16 (mixs unmixB b))) ∧ Below w.heap.size w w' := by
  have T0 : At ((w.alloc (Obj.cells (arrK .u8 16 b) 38)).alloc (Obj.cells (arrK .u8 16 fun _ => 0) 38)) w.heap.size .u8 16 b := (At.new _ rfl).old _
  have O0 : At ((w.alloc (Obj.cells (arrK .u8 16 b) 38)).alloc (Obj.cells (arrK .u8 16 fun _ => 0) 38)) (w.heap.size + 1) .u8 16 fun _ => 0 := At.new _ (by simp)
  have hL0 : Below w.heap.size w ((w.alloc (Obj.cells (arrK .u8 16 b) 38)).alloc (Obj.cells (arrK .u8 16 fun _ => 0) 38)) := by go_grown
  have cells4b : Cells #[Value.int IntKind.u8 0, Value.int IntKind.u8 0, Value.int IntKind.u8 0, Value.int IntKind.u8 0] 4 := by rw [zeroA4]; exact arrK_cells _ _ _
  go_enter Try.func80, Try.ntmps80
  go_wp2_with fail
  rw [zeroA16]
  generalize (w.alloc (Obj.cells (arrK .u8 16 b) 38)).alloc (Obj.cells (arrK .u8 16 fun _ => 0) 38) = W0 at *
  go_loopw [5] (fun x wr => ∃ k : Nat, x = .int .i64 ((4 * k : Nat) : Int) ∧ k ≤ 4 ∧ At wr w.heap.size .u8 16 (upTo (4 * k) (mixs unmixB b) b) ∧ Row wr (w.heap.size + 1) 16 ∧ Below w.heap.size w wr) (fun x _ => 16 - (intOf x).toNat)
  case atStart => exact ⟨0, rfl, by omega, by rw [upTo_zero]; exact T0, O0.row, hL0⟩
  case round =>
    clear T0 O0 hL0
    obtain ⟨k, rfl, hi, T, O, hL⟩ := hrel
    by_cases h4 : k = 4
    · subst h4
      have hRt := T.row
      have hrt := T.eq
      rw [arrK_congr (upTo_end _ _)] at hrt
      have hcs := arrK_cells .u8 16 (mixs unmixB b)
      clear T
      go_wp2_with fail
      refine ret_row rfl Try.underlying38 rfl (by kernel_rfl) rfl ((row_setRow_same rfl O).2 hcs.1) rfl ?_
      rw [rowAt_setRow_same O]
      exact ⟨rfl, below_setRow hL (by omega)⟩
    · obtain ⟨c, hc⟩ : ∃ c, c = 4 * k := ⟨_, rfl⟩
      rw [← hc] at T
      rw [← hc]
      obtain ⟨f, hf⟩ : ∃ f : Nat → Nat, f = fun j => b (c + j) := ⟨_, rfl⟩
      have hfl : ∀ i < 4, f i < 256 := fun i hi2 => by rw [hf]; exact hb _ (by omega)
      obtain ⟨c1, h1⟩ : ∃ c1, c1 = c + 1 := ⟨_, rfl⟩
      obtain ⟨c2, h2⟩ : ∃ c2, c2 = c + 2 := ⟨_, rfl⟩
      obtain ⟨c3, h3⟩ : ∃ c3, c3 = c + 3 := ⟨_, rfl⟩
      have hf0 := Lib.hid (show upTo c (mixs unmixB b) b c = f 0 by rw [hf]; simp [upTo])
      have hf1 := Lib.hid (show upTo c (mixs unmixB b) b c1 = f 1 by rw [hf, h1]; exact upTo_ge _ _ (by omega))
      have hf2 := Lib.hid (show upTo c (mixs unmixB b) b c2 = f 2 by rw [hf, h2]; exact upTo_ge _ _ (by omega))
      have hf3 := Lib.hid (show upTo c (mixs unmixB b) b c3 = f 3 by rw [hf, h3]; exact upTo_ge _ _ (by omega))
      have hw1 : IntKind.i64.wrap ((c : Int) + 1) = (c1 : Int) := by rw [IntKind.wrap_i64]; omega
      have hw2 : IntKind.i64.wrap ((c : Int) + 2) = (c2 : Int) := by rw [IntKind.wrap_i64]; omega
      have hw3 : IntKind.i64.wrap ((c : Int) + 3) = (c3 : Int) := by rw [IntKind.wrap_i64]; omega
      have hd : decide ((c : Int) < 16) = true := by simp; omega
      have hi0 : (c : Int) < 16 := by omega
      have hi1 : (c1 : Int) < 16 := by omega
      have hi2 : (c2 : Int) < 16 := by omega
      have hi3 : (c3 : Int) < 16 := by omega
      have hj0 : (0 : Int) ≤ (c : Int) := by omega
      have hj1 : (0 : Int) ≤ (c1 : Int) := by omega
      have hj2 : (0 : Int) ≤ (c2 : Int) := by omega
      have hj3 : (0 : Int) ≤ (c3 : Int) := by omega
      have hT := Lib.hid T
      have hO := Lib.hid O
      have hHL := Lib.hid hL
      have hHc := Lib.hid hc
      have hHf := Lib.hid hf
      have hcol := arrK_cells .u8 4 (col f unmixB)
      clear T O hL hf
      go_upto_region 4 with (fail)
      go_cut [6] from 7 to 32 (fun v6 wx => ∃ g, v6 = .pointer (some ⟨g, 0, none⟩) ∧ At wx g .u8 4 (col f unmixB) ∧ At wx w.heap.size .u8 16 (upTo c (mixs unmixB b) b) ∧ Row wx (w.heap.size + 1) 16 ∧ Below w.heap.size w wx)
      case first =>
        rename_i J1 K1 hJ1 hK1
        have hHJ1 := Lib.hid hJ1
        have hHK1 := Lib.hid hK1
        clear hJ1 hK1 h1 h2 h3 hc
        generalize ha0 : Act.mk _ _ = a0
        have e1 : a0.tmps[1]?.getD undef = .func (.func 87) #[] #[] := by rw [← ha0]; rfl
        have e2 : a0.tmps[2]?.getD undef = .pointer (some ⟨w.heap.size, 0, none⟩) := by rw [← ha0]; rfl
        have e5 : a0.tmps[5]?.getD undef = .int .i64 (c : Nat) := by rw [← ha0]; rfl
        have hz0 : a0.tmps.size = 34 := by rw [← ha0]; rfl
        have hha0 := Lib.hid ha0
        clear ha0
        refine wp_region_fresh ⟨fun jx_ => match jx_ with | 0 => some (.func (.func 87) #[] #[]) | 1 => some (.int .i64 (c : Nat)) | 2 => some (.pointer (some ⟨w.heap.size, c, none⟩)) | 3 => some (.int .u8 (f 0 : Nat)) | 4 => some (.int .i64 (c : Nat)) | 5 => some (.int .i64 (c1 : Nat)) | 6 => some (.pointer (some ⟨w.heap.size, c1, none⟩)) | 7 => some (.int .u8 (f 1 : Nat)) | 8 => some (.int .i64 (c : Nat)) | 9 => some (.int .i64 (c2 : Nat)) | 10 => some (.pointer (some ⟨w.heap.size, c2, none⟩)) | 11 => some (.int .u8 (f 2 : Nat)) | 12 => some (.int .i64 (c : Nat)) | 13 => some (.int .i64 (c3 : Nat)) | 14 => some (.pointer (some ⟨w.heap.size, c3, none⟩)) | 15 => some (.int .u8 (f 3 : Nat)) | 16 => some (.agg (arrK .u8 4 f)) | 17 => some (.agg (arrK .u8 4 (col f unmixB))) | _ => none, fun jx_ => match jx_ with | 18 => some 4 | _ => none, fun jx_ => match jx_ with | 19 => some 18 | _ => none, fun jx_ => match jx_ with | 19 => arrK .u8 4 (col f unmixB) | _ => #[]⟩ (by kernel_rfl) (by kernel_rfl) (by kernel_rfl) (slotsOk_of hz0 (by kernel_rfl)) rfl ⟨?_, ?_, ?_, ?_, ?_, ?_, ?_, ?_, ?_, ?_, ?_, ?_, ?_, ?_, ?_, ?_, ?_, ?_, ?_, ?_, trivial⟩ ?_
        · refine fstep_val rfl rfl (calm_step rfl fun aa ω κ hb hu hc hK => ?_)
          have h1 : aa.tmps[1]?.getD undef = .func (.func 87) #[] #[] := (hu 1 rfl).trans e1
          have hk := Lib.hid (fun w1 (h : Below ω.heap.size ω w1) => hK (.func (.func 87) #[] #[]) w1 rfl h)
          clear hK hu hc
          go_simp
          exact hk.out _ (Below.refl _ _)
        · refine fstep_val rfl rfl (calm_step rfl fun aa ω κ hb hu hc hK => ?_)
          have h5 : aa.tmps[5]?.getD undef = .int .i64 (c : Nat) := (hu 5 rfl).trans e5
          have hk := Lib.hid (fun w1 (h : Below ω.heap.size ω w1) => hK (.int .i64 (c : Nat)) w1 rfl h)
          clear hK hu hc
          go_simp
          exact hk.out _ (Below.refl _ _)
        · refine fstep_val rfl rfl (calm_step rfl fun aa ω κ hb hu hc hK => ?_)
          have h2 : aa.tmps[2]?.getD undef = .pointer (some ⟨w.heap.size, 0, none⟩) := (hu 2 rfl).trans e2
          have h12 : aa.tmps[12]?.getD undef = .int .i64 (c : Nat) := hc 1 12 rfl rfl
          have hk := Lib.hid (fun w1 (h : Below ω.heap.size ω w1) => hK (.pointer (some ⟨w.heap.size, c, none⟩)) w1 rfl h)
          clear hK hu hc
          go_simp
          exact hk.out _ (Below.refl _ _)
        · refine fstep_val rfl rfl (calm_step rfl fun aa ω κ hb hu hc hK => ?_)
          have h13 : aa.tmps[13]?.getD undef = .pointer (some ⟨w.heap.size, c, none⟩) := hc 2 13 rfl rfl
          have hk := Lib.hid (fun w1 (h : Below ω.heap.size ω w1) => hK (.int .u8 (f 0 : Nat)) w1 rfl h)
          clear hK hu hc
          have hcl := (hT.out.step hb).cell (i := c) (by omega)
          rw [hf0.out] at hcl
          go_simp
          exact hk.out _ (Below.refl _ _)
        · refine fstep_val rfl rfl (calm_step rfl fun aa ω κ hb hu hc hK => ?_)
          have h5 : aa.tmps[5]?.getD undef = .int .i64 (c : Nat) := (hu 5 rfl).trans e5
          have hk := Lib.hid (fun w1 (h : Below ω.heap.size ω w1) => hK (.int .i64 (c : Nat)) w1 rfl h)
          clear hK hu hc
          go_simp
          exact hk.out _ (Below.refl _ _)
        · refine fstep_val rfl rfl (calm_step rfl fun aa ω κ hb hu hc hK => ?_)
          have h15 : aa.tmps[15]?.getD undef = .int .i64 (c : Nat) := hc 4 15 rfl rfl
          have hk := Lib.hid (fun w1 (h : Below ω.heap.size ω w1) => hK (.int .i64 (c1 : Nat)) w1 rfl h)
          clear hK hu hc
          go_simp
          exact hk.out _ (Below.refl _ _)
        · refine fstep_val rfl rfl (calm_step rfl fun aa ω κ hb hu hc hK => ?_)
          have h2 : aa.tmps[2]?.getD undef = .pointer (some ⟨w.heap.size, 0, none⟩) := (hu 2 rfl).trans e2
          have h16 : aa.tmps[16]?.getD undef = .int .i64 (c1 : Nat) := hc 5 16 rfl rfl
          have hk := Lib.hid (fun w1 (h : Below ω.heap.size ω w1) => hK (.pointer (some ⟨w.heap.size, c1, none⟩)) w1 rfl h)
          clear hK hu hc
          go_simp
          exact hk.out _ (Below.refl _ _)
        · refine fstep_val rfl rfl (calm_step rfl fun aa ω κ hb hu hc hK => ?_)
          have h17 : aa.tmps[17]?.getD undef = .pointer (some ⟨w.heap.size, c1, none⟩) := hc 6 17 rfl rfl
          have hk := Lib.hid (fun w1 (h : Below ω.heap.size ω w1) => hK (.int .u8 (f 1 : Nat)) w1 rfl h)
          clear hK hu hc
          have hcl := (hT.out.step hb).cell (i := c1) (by omega)
          rw [hf1.out] at hcl
          go_simp
          exact hk.out _ (Below.refl _ _)
        · refine fstep_val rfl rfl (calm_step rfl fun aa ω κ hb hu hc hK => ?_)
          have h5 : aa.tmps[5]?.getD undef = .int .i64 (c : Nat) := (hu 5 rfl).trans e5
          have hk := Lib.hid (fun w1 (h : Below ω.heap.size ω w1) => hK (.int .i64 (c : Nat)) w1 rfl h)
          clear hK hu hc
          go_simp
          exact hk.out _ (Below.refl _ _)
        · refine fstep_val rfl rfl (calm_step rfl fun aa ω κ hb hu hc hK => ?_)
          have h19 : aa.tmps[19]?.getD undef = .int .i64 (c : Nat) := hc 8 19 rfl rfl
          have hk := Lib.hid (fun w1 (h : Below ω.heap.size ω w1) => hK (.int .i64 (c2 : Nat)) w1 rfl h)
          clear hK hu hc
          go_simp
          exact hk.out _ (Below.refl _ _)
        · refine fstep_val rfl rfl (calm_step rfl fun aa ω κ hb hu hc hK => ?_)
          have h2 : aa.tmps[2]?.getD undef = .pointer (some ⟨w.heap.size, 0, none⟩) := (hu 2 rfl).trans e2
          have h20 : aa.tmps[20]?.getD undef = .int .i64 (c2 : Nat) := hc 9 20 rfl rfl
          have hk := Lib.hid (fun w1 (h : Below ω.heap.size ω w1) => hK (.pointer (some ⟨w.heap.size, c2, none⟩)) w1 rfl h)
          clear hK hu hc
          go_simp
          exact hk.out _ (Below.refl _ _)
        · refine fstep_val rfl rfl (calm_step rfl fun aa ω κ hb hu hc hK => ?_)
          have h21 : aa.tmps[21]?.getD undef = .pointer (some ⟨w.heap.size, c2, none⟩) := hc 10 21 rfl rfl
          have hk := Lib.hid (fun w1 (h : Below ω.heap.size ω w1) => hK (.int .u8 (f 2 : Nat)) w1 rfl h)
          clear hK hu hc
          have hcl := (hT.out.step hb).cell (i := c2) (by omega)
          rw [hf2.out] at hcl
          go_simp
          exact hk.out _ (Below.refl _ _)
        · refine fstep_val rfl rfl (calm_step rfl fun aa ω κ hb hu hc hK => ?_)
          have h5 : aa.tmps[5]?.getD undef = .int .i64 (c : Nat) := (hu 5 rfl).trans e5
          have hk := Lib.hid (fun w1 (h : Below ω.heap.size ω w1) => hK (.int .i64 (c : Nat)) w1 rfl h)
          clear hK hu hc
          go_simp
          exact hk.out _ (Below.refl _ _)
        · refine fstep_val rfl rfl (calm_step rfl fun aa ω κ hb hu hc hK => ?_)
          have h23 : aa.tmps[23]?.getD undef = .int .i64 (c : Nat) := hc 12 23 rfl rfl
          have hk := Lib.hid (fun w1 (h : Below ω.heap.size ω w1) => hK (.int .i64 (c3 : Nat)) w1 rfl h)
          clear hK hu hc
          go_simp
          exact hk.out _ (Below.refl _ _)
        · refine fstep_val rfl rfl (calm_step rfl fun aa ω κ hb hu hc hK => ?_)
          have h2 : aa.tmps[2]?.getD undef = .pointer (some ⟨w.heap.size, 0, none⟩) := (hu 2 rfl).trans e2
          have h24 : aa.tmps[24]?.getD undef = .int .i64 (c3 : Nat) := hc 13 24 rfl rfl
          have hk := Lib.hid (fun w1 (h : Below ω.heap.size ω w1) => hK (.pointer (some ⟨w.heap.size, c3, none⟩)) w1 rfl h)
          clear hK hu hc
          go_simp
          exact hk.out _ (Below.refl _ _)
        · refine fstep_val rfl rfl (calm_step rfl fun aa ω κ hb hu hc hK => ?_)
          have h25 : aa.tmps[25]?.getD undef = .pointer (some ⟨w.heap.size, c3, none⟩) := hc 14 25 rfl rfl
          have hk := Lib.hid (fun w1 (h : Below ω.heap.size ω w1) => hK (.int .u8 (f 3 : Nat)) w1 rfl h)
          clear hK hu hc
          have hcl := (hT.out.step hb).cell (i := c3) (by omega)
          rw [hf3.out] at hcl
          go_simp
          exact hk.out _ (Below.refl _ _)
        · refine fstep_val rfl rfl (calm_step rfl fun aa ω κ hb hu hc hK => ?_)
          have h14 : aa.tmps[14]?.getD undef = .int .u8 (f 0 : Nat) := hc 3 14 rfl rfl
          have h18 : aa.tmps[18]?.getD undef = .int .u8 (f 1 : Nat) := hc 7 18 rfl rfl
          have h22 : aa.tmps[22]?.getD undef = .int .u8 (f 2 : Nat) := hc 11 22 rfl rfl
          have h26 : aa.tmps[26]?.getD undef = .int .u8 (f 3 : Nat) := hc 15 26 rfl rfl
          have hk := Lib.hid (fun w1 (h : Below ω.heap.size ω w1) => hK (.agg (arrK .u8 4 f)) w1 rfl h)
          clear hK hu hc
          rw [<- arrK4 .u8 f] at hk
          go_simp
          exact hk.out _ (Below.refl _ _)
        · refine fstep_val rfl rfl (calm_step rfl fun aa ω κ hb hu hc hK => ?_)
          have h11 : aa.tmps[11]?.getD undef = .func (.func 87) #[] #[] := hc 0 11 rfl rfl
          have h27 : aa.tmps[27]?.getD undef = .agg (arrK .u8 4 f) := hc 16 27 rfl rfl
          have hk := Lib.hid (fun w1 (h : Below ω.heap.size ω w1) => hK (.agg (arrK .u8 4 (col f unmixB))) w1 rfl h)
          clear hK hu hc
          go_simp
          go_at_call 87
          refine (gf_UnmixK f _ hfl).mono ?_
          rintro e w1 ⟨rfl, hb1⟩
          exact hk.out _ hb1
        · refine fstep_al (n := 4) rfl rfl fun aa ω κ hK => ?_
          have hk := Lib.hid hK
          clear hK
          go_simp
          exact hk.out _ _ cells4b
        · refine fstep_st (j := 18) (n := 4) (d := 6) rfl rfl rfl rfl rfl hcol.1 rfl rfl fun aa ω κ g hb hu hc hp hr hK => ?_
          have h28 : aa.tmps[28]?.getD undef = .agg (arrK .u8 4 (col f unmixB)) := hc 17 28 rfl rfl
          have hk := Lib.hid hK
          clear hK hu hc
          have hcc := hcol
          go_simp
          exact hk.out undef
        · intro a1 w1 G I
          have hK1 := hHK1.out
          go_wp2_with fail
          refine Met.intro (hHJ1.out _ _ ?_)
          have ha0 := hha0.out
          subst ha0
          (repeat apply Exists.intro)
          refine ⟨?_, act_patch (n := 34) [false, false, false, false, false, false, true, false, false, false, false, true, true, true, true, true, true, true, true, true, true, true, true, true, true, true, true, true, true, false, false, false, false, false] rfl (by kernel_rfl) I.un I.sz I.df⟩
          exact ⟨G 18, I.al 18 6 4 rfl rfl rfl, ⟨(I.blk 18 4 rfl rfl).2, (I.row 19 18 rfl rfl).2.2⟩, hT.out.step I.bel, row_below hO.out I.bel hO.out.lt, below_step I.bel hHL.out (Nat.le_refl _)⟩
      case rest =>
        obtain ⟨g, rfl, M, T, O, hL⟩ := hcut
        clear hT hO hHL hf0 hf1 hf2 hf3 hw1 hw2 hw3
        have hne : w.heap.size ≠ w.heap.size + 1 := by omega
        have hmx : arrK .u8 16 (fun i => if c ≤ i ∧ i < c + 4 then col f unmixB (0 + (i - c)) else upTo c (mixs unmixB b) b i) = arrK .u8 16 (upTo (c + 4) (mixs unmixB b) b) := arrK_congr fun i hi16 => by
          by_cases hh : c ≤ i ∧ i < c + 4
          · rw [if_pos hh, upTo_lt _ _ (by omega)]
            unfold mixs
            rw [hHf.out, show 0 + (i - c) = i % 4 by omega, show 4 * (i / 4) = c by omega]
          · rw [if_neg hh]
            unfold upTo
            by_cases h5 : i < c
            · rw [if_pos h5, if_pos (by omega)]
            · rw [if_neg h5, if_neg (by omega)]
        have hn16 : ¬ 16 = c := by omega
        have hcp : ∀ ty, (Builtin.copy_ #[25, 25] ty #[.slice (some ⟨w.heap.size, c, none⟩) (16 - c) (16 - c), .slice (some ⟨g, 0, none⟩) 4 4]).run Try.prog wc.drew = .ok (.int .i64 4) (wc.drew.setRow w.heap.size (arrK .u8 16 (upTo (c + 4) (mixs unmixB b) b))) := fun ty => by
          have hr1 := T.eq
          have hr2 := M.eq
          rw [run_copy_rows (N := 16) (M := 4) (n := 4) Try.underlying25 (by kernel_rfl) (show 4 = Nat.min 4 (16 - c) by simp only [Nat.min_def]; split <;> omega) (by omega) (by omega) (by rw [rowAt_drew, hr2]; intro u hu; exact Array.all_eq_true_iff_forall_mem.1 hcol.2 u (Array.mem_toList_iff.1 hu)) T.row.drew M.row.drew, rowAt_drew, rowAt_drew, hr1, hr2, splice_arrK (by omega) (by omega), hmx, goInt_4]
        have hHT := Lib.hid T
        have hHO := Lib.hid O
        have hHL := Lib.hid hL
        have hk4 := Lib.hid (show c + 4 = 4 * (k + 1) by omega)
        have hle : (c : Int) ≤ 16 := by omega
        have hle2 : c ≤ 16 := by omega
        clear T O hL M hmx hHf hfl hcol hc h1 h2 h3 hi1 hi2 hi3 hj1 hj2 hj3
        go_wp2_with fail
        go_region
        all_goals
          go_wp2_with fail
          go_round
          case rel =>
            have hq := hk4.out
            refine ⟨k + 1, congrArg (Value.int .i64) (by omega), by omega, ?_, (row_setRow_far (by omega)).2 hHO.out.drew, below_setRow hHL.out.drew (by omega)⟩
            rw [← hq]
            exact At.put hHT.out.drew.row
          case measure => simp [intOf]; omega
end Go.Proofs.Ytjihklaocgmlpaa
