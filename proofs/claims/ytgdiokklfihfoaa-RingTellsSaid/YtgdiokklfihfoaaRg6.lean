/- Contracts of package ring: Out. -/
import Derived.Test.YtgdiokklfihfoaaRg5
import Derived.Test.YtgdiokklfihfoaaLimbHi
namespace Go.Proofs.Ytgdiokklfihfoaa
open Go.ChangeShapes Go.WideShapes Go.ChangeAt Go.RowKit
set_option maxHeartbeats 2000000
set_option maxRecDepth 100000
attribute [local go_sem ↓] load_fld load_num store_num execl_num execs_num load_wide store_wide execl_wide execs_wide
attribute [local go_sem] isHead_mk blkOf_mk isAgg_mk cellsV_mk row_drew rowAt_drew row_new_cells row_old rowAt_new rowAt_old setRow_new zeroNum zeroWide
theorem OutR.start {m T : Nat} (hT : T < 2 ^ 256 * 2 ^ 256) : OutR m T 0 (wd T) 0 := by
  refine ⟨wd_lt T, by rw [Nat.mul_zero, Nat.pow_zero, Nat.mod_one], 0, by rw [Nat.mul_zero, Nat.pow_zero]; omega, ?_⟩
  rw [wval_wd, two_pow 256 256 (64 * 8) rfl, Nat.mod_eq_of_lt hT, Nat.mul_zero, Nat.mul_zero]
theorem OutR.le {m T i o : Nat} {f : Nat → Nat} (h : OutR m T i f o) (hi : i ≤ 4) (hT : T < 2 ^ 256 * 2 ^ 256) (hm : m < 2 ^ 256) : o ≤ 1 := by
  obtain ⟨Q, hQ, hE⟩ := h.eq
  have h1 : Q < 2 ^ 256 := Nat.lt_of_lt_of_le hQ (Nat.pow_le_pow_right (by omega) (by omega))
  generalize (2 : Nat) ^ 256 = P at *
  have h2 : m * Q ≤ P * P := Nat.mul_le_mul (Nat.le_of_lt hm) (Nat.le_of_lt h1)
  match o with
  | 0 => omega
  | 1 => omega
  | o + 2 =>
    rw [Nat.mul_add] at hE
    omega
/-- The words of a step: the product's two words, both sums. -/
structure StepW (a b c d lo hi : Nat) : Prop where
  mul : True
theorem ring_Out (g m o s v T : Nat) (w : World) (h : RgAt w g m o s v) (hT : T < 2 ^ 256 * 2 ^ 256) (hm : m < 2 ^ 256) (hm2 : m % 2 = 1) (hv : (v * m + 1) % 18446744073709551616 = 0) : Calls Try.prog 36 #[.pointer (some ⟨g, 0, none⟩), wideV T] w fun e w' => e = .returned (numV (outN m T)) ∧ Below w.heap.size w w' := by
  have hm0 : m ≠ 0 := by omega
  have hS0 := Lib.hid (OutR.start (m := m) hT)
  have hgl := Lib.hid h.lt
  unfold numV wideV
  have hc0 := arrK_cells .u64 4 (wd 0)
  have hL0 : Below w.heap.size w ((w.alloc (Obj.cells (arrK .u64 8 (wd T)) 50)).alloc (Obj.cells (arrK .u64 4 (wd 0)) 27)) := by go_grown
  have hG0 : RgAt ((w.alloc (Obj.cells (arrK .u64 8 (wd T)) 50)).alloc (Obj.cells (arrK .u64 4 (wd 0)) 27)) g m o s v := (h.old _).old _
  have hT0 : At ((w.alloc (Obj.cells (arrK .u64 8 (wd T)) 50)).alloc (Obj.cells (arrK .u64 4 (wd 0)) 27)) w.heap.size .u64 8 (wd T) := (At.new _ rfl).old _
  have hR0 : Row ((w.alloc (Obj.cells (arrK .u64 8 (wd T)) 50)).alloc (Obj.cells (arrK .u64 4 (wd 0)) 27)) (w.heap.size + 1) 4 := (At.new (k := .u64) (f := wd 0) _ (by simp)).row
  clear h
  go_enter Try.func36, Try.ntmps36
  go_upto_region 3 with (fail)
  generalize (w.alloc _).alloc _ = W0 at *
  have hpost : Hid (hm2 = hm2 ∧ True) := Lib.hid ⟨rfl, trivial⟩
  go_loopw [5, 16] (fun ov i wr => ∃ (k c : Nat) (f : Nat → Nat), i = .int .i64 k ∧ k ≤ 4 ∧ ov = .int .u64 (c : Nat) ∧ RgAt wr g m o s v ∧ At wr w.heap.size .u64 8 f ∧ Row wr (w.heap.size + 1) 4 ∧ Below w.heap.size w wr ∧ Hid (OutR m T k f c)) (fun _ i _ => 4 - (intOf i).toNat)
  case atStart => exact ⟨0, 0, wd T, rfl, by omega, rfl, hG0, hT0, hR0, hL0, hS0⟩
  case round =>
    clear hG0 hT0 hR0 hL0 hS0 hpost
    obtain ⟨i, ov, f, rfl, hi, rfl, hG, hF, hR, hL, hI⟩ := hrel
    by_cases h4 : i = 4
    · subst h4
      have hD := hI.out.done hT hm hm2
      have kH := Lib.hid (fun V => limb_High (wval f 8) V)
      have hwv := wval_lt (f := f) (k := 8) fun j _ => hI.out.lt j
      have hcs := arrK_cells .u64 4 (wd (wval f 8 / 2 ^ 256))
      have hz : wval f 8 / 2 ^ 256 < 2 ^ 256 := by
        rw [two_pow 256 256 (64 * 8) rfl] at hwv
        exact Nat.div_lt_of_lt_mul hwv
      have hF2 : At wr w.heap.size .u64 8 (wd (wval f 8)) := hF.congr fun j hj => (wd_wval (fun j _ => hI.out.lt j) j hj).symm
      have hgl2 := hgl.out
      unfold numV wideV at kH
      obtain ⟨z, hzz⟩ : ∃ z, z = wval f 8 / 2 ^ 256 := ⟨_, rfl⟩
      rw [← hzz] at kH hD hcs hz
      generalize wval f 8 = t at *
      have hr1 := hF2.row
      have hr2 := hF2.eq
      clear hI hzz hwv hF hi
      go_wp2_with fail
      refine (kH.out _).mono ?_
      rintro e w1 ⟨rfl, hb1⟩
      have hG1 := hG.step hb1
      have hR1 := row_below hR hb1 hR.lt
      have hL1 := Lib.hid (below_step hb1 hL (Nat.le_refl _))
      clear hr1 hr2 hF2 hG hR hL kH hb1
      dsimp only
      go_upto_region 24 with (fail)
      have hG := Lib.hid (hG1.old (Obj.cells (arrK .u64 4 (wd z)) 27))
      have hX := Lib.hid (show At (w1.alloc (Obj.cells (arrK .u64 4 (wd z)) 27)) w1.heap.size .u64 4 (wd z) from At.new _ rfl)
      have hR := Lib.hid ((row_old (o := Obj.cells (arrK .u64 4 (wd z)) 27) hR1.lt).2 hR1)
      have hL := Lib.hid (below_step (below_alloc w1 (Obj.cells (arrK .u64 4 (wd z)) 27)) hL1.out (Nat.le_refl _))
      have hxl := Lib.hid hR1.lt
      have hxg := Lib.hid hG1.lt
      clear hG1 hR1 hL1
      generalize w1.alloc _ = W2 at *
      generalize w1.heap.size = g15 at *
      rcases hD with ⟨rfl, hD⟩ | ⟨rfl, hD⟩
      · have hr1 := hX.out.row
        have hr2 := hX.out.eq
        have kL := Lib.hid (fun V (hV : RgAt V g m o s v) => ring_low g m o s v z V hV hz hm hm0)
        rw [hD] at kL
        have hcr := arrK_cells .u64 4 (wd (outN m T))
        have hGG := hG.out
        obtain ⟨r, hr⟩ : ∃ r, r = outN m T := ⟨_, rfl⟩
        rw [← hr] at kL hcr
        have hrr := Lib.hid hr
        clear hD hr
        unfold numV at kL
        go_wp2_with fail
        refine (kL.out _ hGG).mono ?_
        rintro e w3 ⟨rfl, hb3⟩
        have hR2 := row_below hR.out hb3 hR.out.lt
        have hL2 := below_step hb3 hL.out (Nat.le_refl _)
        clear hr1 hr2 hX hG hR hL kL hb3 hGG
        dsimp only
        go_wp2_with fail
        exact ret_stored (p := 4) (ty := 27) (g := w.heap.size + 1) (n := 4) (c := arrK .u64 4 (wd r)) rfl Try.underlying27 rfl (by kernel_rfl) rfl hR2 hcr.1 rfl ⟨by rw [hrr.out], below_setRow hL2 (by omega)⟩
      · have kS := Lib.hid (fun V => limb_Sub z m V hz hm)
        have hzl : subN z m < 2 ^ 256 := Nat.mod_lt _ (Nat.pow_pos (by omega))
        obtain ⟨df, hdf⟩ : ∃ x, x = subN z m := ⟨_, rfl⟩
        obtain ⟨le, hle⟩ : ∃ x, x = lessN z m := ⟨_, rfl⟩
        rw [← hdf] at kS hzl hD
        rw [← hle] at kS
        have kL := Lib.hid (fun V (hV : RgAt V g m o s v) => ring_low g m o s v df V hV hzl hm hm0)
        rw [hD] at kL
        have hcr := arrK_cells .u64 4 (wd (outN m T))
        have hcdf := arrK_cells .u64 4 (wd df)
        obtain ⟨r, hr⟩ : ∃ r, r = outN m T := ⟨_, rfl⟩
        rw [← hr] at kL hcr
        have hrr := Lib.hid hr
        clear hD hr hdf hle hzl hz
        unfold numV at kL kS
        go_upto_region 25 with (fail)
        generalize ha0 : Act.mk _ _ = a0
        have e0 : a0.tmps[0]?.getD undef = .pointer (some ⟨g, 0, none⟩) := by rw [← ha0]; rfl
        have e15 : a0.tmps[15]?.getD undef = .pointer (some ⟨g15, 0, none⟩) := by rw [← ha0]; rfl
        have hz0 : a0.tmps.size = 105 := by rw [← ha0]; rfl
        have hha0 := Lib.hid ha0
        clear ha0
        refine wp_region_one (fun jx_ => match jx_ with | 0 => some (.agg (arrK .u64 4 (wd z))) | 1 => some (.pointer (some ⟨g, 0, none⟩)) | 2 => some (.pointer (some ⟨g, 0, none⟩)) | 3 => some (.pointer (some ⟨g, 0, none⟩)) | 4 => some (.agg (arrK .u64 4 (wd m))) | 5 => some (.tuple #[.agg (arrK .u64 4 (wd df)), .int .u64 (le : Nat)]) | 6 => some (.tuple #[.agg (arrK .u64 4 (wd df)), .int .u64 (le : Nat)]) | 7 => some (.agg (arrK .u64 4 (wd df))) | 8 => some (.int .u64 (le : Nat)) | _ => none) 9 (g15) 4 (arrK .u64 4 (wd df)) (by kernel_rfl) (by kernel_rfl) (by kernel_rfl) (slotsOk_of hz0 (by kernel_rfl)) (of_decide_eq_true (by kernel_rfl)) (Lib.hid hX.out.row).out ⟨?_, ?_, ?_, ?_, ?_, ?_, ?_, ?_, ?_, ?_, trivial⟩ ?_
        · refine one_before (by decide) (by kernel_rfl) (calm_step rfl fun aa ω κ hb hu hc hK => ?_)
          have h15 : aa.tmps[15]?.getD undef = .pointer (some ⟨g15, 0, none⟩) := (hu 15 rfl).trans e15
          have hk := Lib.hid (fun w1 (h : Below ω.heap.size ω w1) => hK (.agg (arrK .u64 4 (wd z))) w1 rfl h)
          clear hK hu hc
          have hr1 := (hX.out.step hb).row
          have hr2 := (hX.out.step hb).eq
          go_simp
          exact hk.out _ (Below.refl _ _)
        · refine one_before (by decide) (by kernel_rfl) (calm_step rfl fun aa ω κ hb hu hc hK => ?_)
          have h0 : aa.tmps[0]?.getD undef = .pointer (some ⟨g, 0, none⟩) := (hu 0 rfl).trans e0
          have hk := Lib.hid (fun w1 (h : Below ω.heap.size ω w1) => hK (.pointer (some ⟨g, 0, none⟩)) w1 rfl h)
          clear hK hu hc
          go_simp
          exact hk.out _ (Below.refl _ _)
        · refine one_before (by decide) (by kernel_rfl) (calm_step rfl fun aa ω κ hb hu hc hK => ?_)
          have h95 : aa.tmps[95]?.getD undef = .pointer (some ⟨g, 0, none⟩) := hc 1 95 rfl rfl
          have hk := Lib.hid (fun w1 (h : Below ω.heap.size ω w1) => hK (.pointer (some ⟨g, 0, none⟩)) w1 rfl h)
          clear hK hu hc
          go_simp
          exact hk.out _ (Below.refl _ _)
        · refine one_before (by decide) (by kernel_rfl) (calm_step rfl fun aa ω κ hb hu hc hK => ?_)
          have h96 : aa.tmps[96]?.getD undef = .pointer (some ⟨g, 0, none⟩) := hc 2 96 rfl rfl
          have hk := Lib.hid (fun w1 (h : Below ω.heap.size ω w1) => hK (.pointer (some ⟨g, 0, none⟩)) w1 rfl h)
          clear hK hu hc
          go_simp
          exact hk.out _ (Below.refl _ _)
        · refine one_before (by decide) (by kernel_rfl) (calm_step rfl fun aa ω κ hb hu hc hK => ?_)
          have h97 : aa.tmps[97]?.getD undef = .pointer (some ⟨g, 0, none⟩) := hc 3 97 rfl rfl
          have hk := Lib.hid (fun w1 (h : Below ω.heap.size ω w1) => hK (.agg (arrK .u64 4 (wd m))) w1 rfl h)
          clear hK hu hc
          have hl := rg_0 (hG.out.step hb)
          have hl1 := hl.1
          have hl2 := hl.2
          go_simp
          exact hk.out _ (Below.refl _ _)
        · refine one_before (by decide) (by kernel_rfl) (calm_step rfl fun aa ω κ hb hu hc hK => ?_)
          have h94 : aa.tmps[94]?.getD undef = .agg (arrK .u64 4 (wd z)) := hc 0 94 rfl rfl
          have h98 : aa.tmps[98]?.getD undef = .agg (arrK .u64 4 (wd m)) := hc 4 98 rfl rfl
          have hk := Lib.hid (fun w1 (h : Below ω.heap.size ω w1) => hK (.tuple #[.agg (arrK .u64 4 (wd df)), .int .u64 (le : Nat)]) w1 rfl h)
          clear hK hu hc
          go_simp
          go_at_call 89
          refine (kS.out _).mono ?_
          rintro e w1 ⟨rfl, hb1⟩
          exact hk.out _ hb1
        · refine one_before (by decide) (by kernel_rfl) (calm_step rfl fun aa ω κ hb hu hc hK => ?_)
          have h99 : aa.tmps[99]?.getD undef = .tuple #[.agg (arrK .u64 4 (wd df)), .int .u64 (le : Nat)] := hc 5 99 rfl rfl
          have hk := Lib.hid (fun w1 (h : Below ω.heap.size ω w1) => hK (.tuple #[.agg (arrK .u64 4 (wd df)), .int .u64 (le : Nat)]) w1 rfl h)
          clear hK hu hc
          go_simp
          exact hk.out _ (Below.refl _ _)
        · refine one_before (by decide) (by kernel_rfl) (calm_step rfl fun aa ω κ hb hu hc hK => ?_)
          have h93 : aa.tmps[93]?.getD undef = .tuple #[.agg (arrK .u64 4 (wd df)), .int .u64 (le : Nat)] := hc 6 93 rfl rfl
          have hk := Lib.hid (fun w1 (h : Below ω.heap.size ω w1) => hK (.agg (arrK .u64 4 (wd df))) w1 rfl h)
          clear hK hu hc
          go_simp
          exact hk.out _ (Below.refl _ _)
        · refine one_free (by decide) fun W_ => calm_step rfl fun aa ω κ hb hu hc hK => ?_
          have h93 : aa.tmps[93]?.getD undef = .tuple #[.agg (arrK .u64 4 (wd df)), .int .u64 (le : Nat)] := hc 6 93 rfl rfl
          have hk := Lib.hid (fun w1 (h : Below ω.heap.size ω w1) => hK (.int .u64 (le : Nat)) w1 rfl h)
          clear hK hu hc
          go_simp
          exact hk.out _ (Below.refl _ _)
        · refine one_q (one_write rfl rfl fun aa ω κ hb hu hc hr hK => ?_)
          have h15 : aa.tmps[15]?.getD undef = .pointer (some ⟨g15, 0, none⟩) := (hu 15 rfl).trans e15
          have h100 : aa.tmps[100]?.getD undef = .agg (arrK .u64 4 (wd df)) := hc 7 100 rfl rfl
          have hk := Lib.hid hK
          clear hK hu hc
          have hcc := hcdf
          go_simp
          exact hk.out undef
        · intro a1 w1 hb1 hu1 hsz1 hdf1 hv1
          have ha0 := hha0.out
          subst ha0
          have he := act_patch (n := 105) [false, false, false, false, false, false, false, false, false, false, false, false, false, false, false, false, false, false, false, false, false, false, false, false, false, false, false, false, false, false, false, false, false, false, false, false, false, false, false, false, false, false, false, false, false, false, false, false, false, false, false, false, false, false, false, false, false, false, false, false, false, false, false, false, false, false, false, false, false, false, false, false, false, false, false, false, false, false, false, false, false, false, false, false, false, false, false, false, false, false, false, false, false, true, true, true, true, true, true, true, true, true, false, false, false] rfl (by kernel_rfl) hu1 hsz1 hdf1
          simp only [patch, cond_true, cond_false, Nat.reduceAdd] at he
          have hXz := Lib.hid ((At.put (k := .u64) (f := wd df) hX.out.row).below hb1 (by simpa using hX.out.row.lt))
          have hRz := Lib.hid (row_below ((row_setRow_far (show w.heap.size + 1 ≠ g15 from Nat.ne_of_lt hxl.out)).2 hR.out) hb1 (by simpa using hR.out.lt))
          have hGz := Lib.hid ((hG.out.far (c := arrK .u64 4 (wd df)) (show g ≠ g15 from Nat.ne_of_lt hxg.out)).below hb1 (by simpa using hG.out.row.lt))
          have hLz := Lib.hid (Below.trans (below_setRow (c := arrK .u64 4 (wd df)) hL.out (show w.heap.size ≤ g15 by have := hxl.out; omega)) (hb1.mono (by simpa using hL.out.size)))
          clear hX hR hG hL kS
          clear hb1 hu1 hsz1 hdf1 hv1 hz0 hha0 e0 e15
          rw [he]
          clear he
          generalize a1.tmps[93]?.getD undef = x93 at *
          generalize a1.tmps[94]?.getD undef = x94 at *
          generalize a1.tmps[95]?.getD undef = x95 at *
          generalize a1.tmps[96]?.getD undef = x96 at *
          generalize a1.tmps[97]?.getD undef = x97 at *
          generalize a1.tmps[98]?.getD undef = x98 at *
          generalize a1.tmps[99]?.getD undef = x99 at *
          generalize a1.tmps[100]?.getD undef = x100 at *
          generalize a1.tmps[101]?.getD undef = x101 at *
          generalize w1 = W3 at *
          have hr1 := hXz.out.row
          have hr2 := hXz.out.eq
          have hGG := hGz.out
          go_wp2_with fail
          refine (kL.out _ hGG).mono ?_
          rintro e w3 ⟨rfl, hb3⟩
          have hR2 := row_below hRz.out hb3 hRz.out.lt
          have hL2 := below_step hb3 hLz.out (Nat.le_refl _)
          clear hr1 hr2 hXz hGz hRz hLz kL hb3 hGG
          dsimp only
          go_wp2_with fail
          exact ret_stored (p := 4) (ty := 27) (g := w.heap.size + 1) (n := 4) (c := arrK .u64 4 (wd r)) rfl Try.underlying27 rfl (by kernel_rfl) rfl hR2 hcr.1 rfl ⟨by rw [hrr.out], below_setRow hL2 (by omega)⟩
    · have hi4 : i < 4 := by omega
      have hi0 : (i : Int) < 4 := by omega
      have hi8 : (i : Int) < 8 := by omega
      have hin : (0 : Int) ≤ (i : Int) := by omega
      obtain ⟨q, hq⟩ : ∃ q, q = f i * v % 18446744073709551616 := ⟨_, rfl⟩
      have hwq : IntKind.u64.wrap ((f i : Int) * (v : Int)) = (q : Int) := by rw [hq, ← Int.natCast_mul, w_wrap]
      have hqlt : q < 18446744073709551616 := by omega
      have hqq := Lib.hid hq
      have hql := Lib.hid hqlt
      have hii := Lib.hid hi4
      clear hq hqlt h4 hi hi4
      have ct := hF.cell (i := i) (by have := hii.out; omega)
      have cv := rg_3 hG
      have hG1 := Lib.hid hG
      have hF1 := Lib.hid hF
      have hR1 := Lib.hid hR
      have hL1 := Lib.hid hL
      clear hG hF hR hL
      go_upto_region 5 with (fail)
      go_region
      have hG := Lib.hid hG1.out.drew
      have hF := Lib.hid hF1.out.drew
      have hR := Lib.hid (show Row wr.drew (w.heap.size + 1) 4 from row_drew.2 hR1.out)
      have hL := Lib.hid (show Below w.heap.size w wr.drew from hL1.out.drew)
      have hI0 := Lib.hid (OutI.start m i q hI.out.lt)
      obtain ⟨B, hB⟩ : ∃ B, B = wval f 8 := ⟨_, rfl⟩
      rw [← hB] at hI0
      have hBB := Lib.hid hB
      clear ct cv hwq hG1 hF1 hR1 hL1 hB
      generalize wr.drew = W1 at *
      have hl := rg_0 hG.out
      have hl1 := hl.1
      have hl2 := hl.2
      clear hl
      go_upto_region 8 with (fail)
      clear hl1 hl2
      go_loopw [8, 31] (fun cv jv wr => ∃ (k c : Nat) (f : Nat → Nat), jv = .int .i64 k ∧ k ≤ 4 ∧ cv = .int .u64 (c : Nat) ∧ RgAt wr g m o s v ∧ At wr w.heap.size .u64 8 f ∧ Row wr (w.heap.size + 1) 4 ∧ Below w.heap.size w wr ∧ Hid (OutI m i k q B f c)) (fun _ j _ => 4 - (intOf j).toNat)
      case atStart => exact ⟨0, 0, f, rfl, by omega, rfl, hG.out, hF.out, hR.out, hL.out, hI0⟩
      case round =>
        clear hG hF hR hL hI0
        obtain ⟨k, c, f1, rfl, hk, rfl, hG, hF, hR, hL, hJ⟩ := hrel
        by_cases hk4 : k = 4
        · subst hk4
          have hC0 := Lib.hid (hJ.out.led hm)
          have hws : IntKind.i64.wrap ((i : Int) + 4) = ((i + 4 : Nat) : Int) := by rw [IntKind.wrap_i64]; have := hii.out; omega
          clear hJ
          go_upto_region 18 with (fail)
          clear hws
          go_loopw [8, 14] (fun cv jv wr => ∃ (k c : Nat) (f : Nat → Nat), jv = .int .i64 k ∧ k ≤ 8 ∧ cv = .int .u64 (c : Nat) ∧ RgAt wr g m o s v ∧ At wr w.heap.size .u64 8 f ∧ Row wr (w.heap.size + 1) 4 ∧ Below w.heap.size w wr ∧ Hid (OutC m i k q B f c)) (fun _ j _ => 8 - (intOf j).toNat)
          case atStart => exact ⟨i + 4, c, f1, rfl, by have := hii.out; omega, rfl, hG, hF, hR, hL, hC0⟩
          case round =>
            clear hG hF hR hL hC0
            obtain ⟨k, c, f1, rfl, hk, rfl, hG, hF, hR, hL, hJ⟩ := hrel
            by_cases hk8 : k = 8
            · subst hk8
              have hJ1 := hJ.out
              rw [hBB.out] at hJ1
              have hI2 := Lib.hid (hI.out.step hii.out hv hqq.out hJ1)
              have hle := hI2.out.le (by have := hii.out; omega) hT hm
              have hwo : IntKind.u64.wrap ((ov : Int) + (c : Int)) = ((ov + c : Nat) : Int) := by rw [IntKind.wrap_u64]; omega
              obtain ⟨ov2, hov⟩ : ∃ x, x = ov + c := ⟨_, rfl⟩
              rw [← hov] at hI2 hwo
              have hwi : IntKind.i64.wrap ((i : Int) + 1) = (i : Int) + 1 := by rw [IntKind.wrap_i64]; have := hii.out; omega
              have hf8 : decide ((8 : Int) < 8) = false := rfl
              clear hJ hJ1 hle hov
              go_wp2_with fail
              refine ⟨⟨i + 1, ov2, f1, by go_num, by have := hii.out; omega, rfl, hG, hF, hR, hL, hI2⟩, ?_⟩
              have := hii.out
              simp [intOf]; omega
            · have hkl : k < 8 := by omega
              have hk0 : (k : Int) < 8 := by omega
              have hkn : (0 : Int) ≤ (k : Int) := by omega
              have hJ2 := Lib.hid (hJ.out.step hkl)
              have k1 := fun W => call_add64 (f1 k) c 0 (by omega) W
              have hflt := hJ.out.lt k
              have hclt := hJ.out.cl
              obtain ⟨l2, hl2⟩ : ∃ l2, l2 = (f1 k + c + 0) % 18446744073709551616 := ⟨_, rfl⟩
              obtain ⟨o2, ho2⟩ : ∃ o2, o2 = (f1 k + c + 0) / 18446744073709551616 := ⟨_, rfl⟩
              rw [← hl2, ← ho2] at k1
              rw [Nat.add_zero] at hl2 ho2
              rw [← hl2, ← ho2] at hJ2
              rw [show ((0 : Nat) : Int) = 0 from rfl] at k1
              have co := hF.cell (i := k) hkl
              have fo := hF.row.frozen k
              have hwk : IntKind.i64.wrap ((k : Int) + 1) = (k : Int) + 1 := by rw [IntKind.wrap_i64]; omega
              clear hl2 ho2 hflt hclt hJ
              go_wp2_with fail
              refine ⟨⟨k + 1, o2, upd f1 k l2, by go_num, by omega, rfl, hG.farC (by have := hgl.out; exact Nat.ne_of_lt this), hF.set k l2, row_setCell.2 hR, hL.setCell (Nat.le_refl _) _, hJ2⟩, ?_⟩
              simp [intOf]; omega
        · have hkl : k < 4 := by omega
          have hk0 : (k : Int) < 4 := by omega
          have hii2 := hii.out
          have hJ2 := Lib.hid (hJ.out.step hql.out hkl hii2)
          have hix := fun W => index_arrK (P := Try.prog) (f := wd m) Try.underlying27 Try.underlying25 (by kernel_rfl) hkl .i64 W
          have hm1 := Lib.hid (fun W => bits_Mul64 q (wd m k) W hql.out (wd_lt m k))
          have hbd := step_bound hql.out (wd_lt m k) (hJ.out.lt (i + k)) hJ.out.cl
          obtain ⟨p, hp⟩ : ∃ p, p = q * wd m k := ⟨_, rfl⟩
          rw [← hp] at hm1 hbd hJ2
          obtain ⟨l, hl⟩ : ∃ l, l = p % 18446744073709551616 := ⟨_, rfl⟩
          obtain ⟨u, hu⟩ : ∃ u, u = p / 18446744073709551616 := ⟨_, rfl⟩
          rw [← hl, ← hu] at hm1
          have k1 := fun W => call_add64 l (f1 (i + k)) 0 (by omega) W
          have hflt := hJ.out.lt (i + k)
          have hclt := hJ.out.cl
          obtain ⟨l2, hl2⟩ : ∃ l2, l2 = (l + f1 (i + k) + 0) % 18446744073709551616 := ⟨_, rfl⟩
          obtain ⟨o2, ho2⟩ : ∃ o2, o2 = (l + f1 (i + k) + 0) / 18446744073709551616 := ⟨_, rfl⟩
          rw [← hl2, ← ho2] at k1
          have k2 := fun W => call_add64 l2 c 0 (by omega) W
          obtain ⟨l3, hl3⟩ : ∃ l3, l3 = (l2 + c + 0) % 18446744073709551616 := ⟨_, rfl⟩
          obtain ⟨o3, ho3⟩ : ∃ o3, o3 = (l2 + c + 0) / 18446744073709551616 := ⟨_, rfl⟩
          rw [← hl3, ← ho3] at k2
          obtain ⟨u2, hu2⟩ : ∃ u2, u2 = u + o2 := ⟨_, rfl⟩
          obtain ⟨u3, hu3⟩ : ∃ u3, u3 = u2 + o3 := ⟨_, rfl⟩
          have hw1 : IntKind.u64.wrap ((u : Int) + (o2 : Int)) = (u2 : Int) := by rw [IntKind.wrap_u64]; omega
          have hw2 : IntKind.u64.wrap ((u2 : Int) + (o3 : Int)) = (u3 : Int) := by rw [IntKind.wrap_u64]; omega
          have hr1 : (p + f1 (i + k) + c) % 18446744073709551616 = l3 := by omega
          have hr2 : (p + f1 (i + k) + c) / 18446744073709551616 = u3 := by omega
          rw [hr1, hr2] at hJ2
          rw [show ((0 : Nat) : Int) = 0 from rfl] at k1 k2
          have hw3 : IntKind.i64.wrap ((i : Int) + k) = (i : Int) + k := by rw [IntKind.wrap_i64]; omega
          have hw4 : (0 : Int) ≤ (i : Int) + k := by omega
          have hw5 : (i : Int) + k < 8 := by omega
          have hw6 : ((i : Int) + k).toNat = i + k := by omega
          have co := hF.cell (i := i + k) (by omega)
          have fo := hF.row.frozen (i + k)
          clear hp hl hu hl2 ho2 hl3 ho3 hu2 hu3 hbd hr1 hr2 hflt hclt hJ hii2
          go_upto_region 10 with (fail)
          go_wp2_with fail
          refine (hm1.out _).mono ?_
          rintro e w' ⟨rfl, rfl⟩
          dsimp only
          go_wp2_with fail
          refine ⟨⟨k + 1, u3, upd f1 (i + k) l3, by go_num, by omega, rfl, hG.farC (by have := hgl.out; exact Nat.ne_of_lt this), hF.set (i + k) l3, row_setCell.2 hR, hL.setCell (Nat.le_refl _) _, hJ2⟩, ?_⟩
          simp [intOf]; omega
end Go.Proofs.Ytgdiokklfihfoaa
