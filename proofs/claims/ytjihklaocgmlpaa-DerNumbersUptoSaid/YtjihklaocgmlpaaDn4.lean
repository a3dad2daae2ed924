/- Contract of the document's ReadNumber. -/
import Derived.Test.YtjihklaocgmlpaaDn3
import Derived.Test.YtjihklaocgmlpaaTail2
namespace Go.Proofs.Ytjihklaocgmlpaa
open Go.ChangeShapes Go.WideShapes Go.ChangeAt Go.RowKit
set_option maxHeartbeats 2000000
set_option maxRecDepth 100000
attribute [local go_sem ↓] load_n4 store_n4 load_b32 store_b32
attribute [local go_sem] isHead_mk blkOf_mk isAgg_mk cellsV_mk row_drew rowAt_drew row_new_cells row_old rowAt_new rowAt_old setRow_new zero32 zeroNum
def SRel.vv (m : Nat) : SRel := ⟨fun v w => IsV w v m, fun _ _ _ hb h => h.step hb⟩
def SRel.nn (m : Nat) : SRel := ⟨fun v w => IsN w v m, fun _ _ _ hb h => h.step hb⟩
theorem ne_empty {b : List UInt8} (h : b.length ≠ 0) : b.isEmpty = false := by
  cases b with
  | nil => exact absurd rfl h
  | cons x r => rfl
theorem take_beW {b : List UInt8} {i : Nat} {x : UInt8} (hx : b[i]? = some x) : beW (b.take (i + 1)) = beW (b.take i) * 256 + x.toNat := by
  rw [List.take_add_one, hx]; exact beW_snoc _ _
theorem large_iff {b : List UInt8} (h : b.length ≤ 33) : (2 ^ 256 ≤ beW b) ↔ (b.length = 33 ∧ (b[0]?.getD 0).toNat ≠ 0) := by
  by_cases h33 : b.length = 33
  · rw [beW_big h33]
    exact ⟨fun h => ⟨h33, h⟩, fun h => h.2⟩
  · have h1 := beW_lt b
    have h2 : (256 : Nat) ^ b.length ≤ 256 ^ 32 := Nat.pow_le_pow_right (by omega) (by omega)
    have hP : (256 : Nat) ^ 32 = 2 ^ 256 := by rw [show (256 : Nat) = 2 ^ 8 from rfl, ← Nat.pow_mul]
    rw [hP] at h2
    generalize (2 : Nat) ^ 256 = P at *
    constructor
    · intro h3; omega
    · intro h3; exact absurd h3.1 h33
set_option maxHeartbeats 8000000 in
theorem ref_ReadNumber (b : List UInt8) (n : Nat) (w : World) (hn : b.length = n) (hnm : n ≤ 140737488351232) :
    Calls Try.prog 11 #[strW b] w fun e w' => e = .returned (.tuple #[.agg (arrK .u64 4 (wd (rnum b).1)), .int .i64 (rnum b).2]) ∧ Below w.heap.size w w' := by
  have hcz := arrK_cells .u64 4 (wd 0)
  have hL0 := below_alloc w (Obj.cells (arrK .u64 4 (wd 0)) 24)
  have hR0 : Row (w.alloc (Obj.cells (arrK .u64 4 (wd 0)) 24)) w.heap.size 4 := (row_new rfl).2 hcz.1
  have hHn := Lib.hid hn
  by_cases h0 : n = 0
  · have hr : rnum b = (0, 3) := by unfold rnum; rw [if_pos (by omega)]
    rw [hr]
    subst h0
    obtain rfl := List.eq_nil_of_length_eq_zero hn
    clear hn hr
    go_enter Try.func11, Try.ntmps11
    go_upto_region 1 with (fail)
    generalize w.alloc (Obj.cells (arrK .u64 4 (wd 0)) 24) = W0 at *
    go_wp2_with fail
    exact ret_stored2 (p := 2) (q := 3) (ty := 24) (g := w.heap.size) (n := 4) (c := arrK .u64 4 (wd 0)) rfl Try.underlying24 rfl (by kernel_rfl) rfl hR0 hcz.1 rfl ⟨rfl, below_setRow hL0 (Nat.le_refl _)⟩
  have hbe := ne_empty (b := b) (by omega)
  obtain ⟨y0, hy0⟩ : ∃ y, (b[0]?.getD 0).toNat = y := ⟨_, rfl⟩
  obtain ⟨y1, hy1⟩ : ∃ y, (b[1]?.getD 0).toNat = y := ⟨_, rfl⟩
  have hi0 := sidx b 0 0 rfl (by omega)
  have hi1 := Lib.hid (fun h : 1 < n => sidx b 1 1 rfl (by omega))
  rw [hy0] at hi0
  rw [hy1] at hi1
  have hy0l : y0 < 256 := by rw [← hy0]; exact UInt8.toNat_lt _
  have hy1l : y1 < 256 := by rw [← hy1]; exact UInt8.toNat_lt _
  have hne : b.length ≠ 0 := by omega
  have hrF := Lib.hid (@rnum_form b hne)
  have hrL := Lib.hid (@rnum_large b hne)
  have hrO := Lib.hid (@rnum_ok b hne)
  have hlg := Lib.hid (fun h : n ≤ 33 => large_iff (b := b) (by omega))
  rw [hy0, hy1, hn] at hrF
  rw [hy0, hy1, hn] at hrL
  rw [hy0, hy1, hn] at hrO
  rw [hn, hy0] at hlg
  obtain ⟨rn, hrn⟩ : ∃ rn, rnum b = rn := ⟨_, rfl⟩
  rw [hrn] at hrF hrL hrO ⊢
  clear hy0 hy1 hrn hne
  have hnp : (0 : Int) < (n : Int) := by omega
  go_enter Try.func11, Try.ntmps11
  go_upto_region 3 with (fail)
  generalize w.alloc (Obj.cells (arrK .u64 4 (wd 0)) 24) = W0 at *
  go_cut [26] (fun v wx => v = .bool (decide (128 ≤ y0 ∨ (1 < n ∧ y0 = 0 ∧ y1 < 128))) ∧ wx = W0)
  case first =>
    by_cases hx : 128 ≤ y0
    · have pf := Lib.hid (decide_eq_true (p := 128 ≤ y0 ∨ (1 < n ∧ y0 = 0 ∧ y1 < 128)) (Or.inl hx))
      have d1 : decide ((128 : Int) ≤ (y0 : Int)) = true := by simp; omega
      clear hx
      go_wp2_with fail
      go_meet
      exact ⟨congrArg Value.bool pf.out.symm, rfl⟩
    have d1 : decide ((128 : Int) ≤ (y0 : Int)) = false := by simp; omega
    by_cases h1 : 1 < n
    · have d2 : decide ((1 : Int) < (n : Int)) = true := by simp; omega
      have hi1' := hi1.out h1
      by_cases hz : y0 = 0
      · have d4 : ((y0 : Int) == 0) = true := by simp; omega
        by_cases h2 : y1 < 128
        · have pf := Lib.hid (decide_eq_true (p := 128 ≤ y0 ∨ (1 < n ∧ y0 = 0 ∧ y1 < 128)) (Or.inr ⟨h1, hz, h2⟩))
          have d3 : decide ((y1 : Int) < (128 : Int)) = true := by simp; omega
          clear h2 h1 hz hx
          go_wp2_with fail
          go_meet
          exact ⟨congrArg Value.bool pf.out.symm, rfl⟩
        · have pf := Lib.hid (decide_eq_false (p := 128 ≤ y0 ∨ (1 < n ∧ y0 = 0 ∧ y1 < 128)) (by omega))
          have d3 : decide ((y1 : Int) < (128 : Int)) = false := by simp; omega
          clear h2 h1 hz hx
          go_wp2_with fail
          go_meet
          exact ⟨congrArg Value.bool pf.out.symm, rfl⟩
      · have pf := Lib.hid (decide_eq_false (p := 128 ≤ y0 ∨ (1 < n ∧ y0 = 0 ∧ y1 < 128)) (by omega))
        have d4 : ((y0 : Int) == 0) = false := by simp; omega
        clear h1 hz hx
        go_wp2_with fail
        go_meet
        exact ⟨congrArg Value.bool pf.out.symm, rfl⟩
    · have pf := Lib.hid (decide_eq_false (p := 128 ≤ y0 ∨ (1 < n ∧ y0 = 0 ∧ y1 < 128)) (by omega))
      have d2 : decide ((1 : Int) < (n : Int)) = false := by simp; omega
      clear h1 hx
      go_wp2_with fail
      go_meet
      exact ⟨congrArg Value.bool pf.out.symm, rfl⟩
  case rest =>
    obtain ⟨rfl, rfl⟩ := hcut
    by_cases hF : 128 ≤ y0 ∨ (1 < n ∧ y0 = 0 ∧ y1 < 128)
    · rw [decide_eq_true hF]
      obtain rfl := hrF.out hF
      clear hF hrF hrL hrO
      go_wp2_with fail
      exact ret_stored2 (p := 2) (q := 3) (ty := 24) (g := w.heap.size) (n := 4) (c := arrK .u64 4 (wd 0)) rfl Try.underlying24 rfl (by kernel_rfl) rfl hR0 hcz.1 rfl ⟨rfl, below_setRow hL0 (Nat.le_refl _)⟩
    · rw [decide_eq_false hF]
      have hL := Lib.hid (hrL.out hF)
      have hO := Lib.hid (hrO.out hF)
      clear hF hrF hrL hrO hi0 hi1
      by_cases h33 : 33 < n
      · have d1 : decide ((33 : Int) < (n : Int)) = true := by simp; omega
        obtain rfl := hL.out (Or.inl h33)
        clear hL hO
        go_wp2_with fail
        exact ret_stored2 (p := 2) (q := 3) (ty := 24) (g := w.heap.size) (n := 4) (c := arrK .u64 4 (wd 0)) rfl Try.underlying24 rfl (by kernel_rfl) rfl hR0 hcz.1 rfl ⟨rfl, below_setRow hL0 (Nat.le_refl _)⟩
      have d1 : decide ((33 : Int) < (n : Int)) = false := by simp; omega
      go_wp2_with fail
      have hB0 := Lib.hid hL0
      have hRr := Lib.hid hR0
      have hP := Lib.hid (show (2 : Nat) ^ 256 ≤ beW b ↔ n = 33 ∧ y0 ≠ 0 from hlg.out (by omega))
      clear hL0 hR0 hlg
      go_loopw [4, 5] (fun vl vi wr => ∃ (i : Nat), vi = .int .i64 (i : Nat) ∧ i ≤ n ∧ Hid (IsN wr vl (beW (b.take i))) ∧ Hid (Row wr w.heap.size 4) ∧ Hid (Below w.heap.size w wr)) (fun _ vi _ => n - (intOf vi).toNat)
      case atStart => exact ⟨0, rfl, by omega, Lib.hid (IsN.nil wc), hRr, hB0⟩
      case round =>
        obtain ⟨i, rfl, hi, hN, hR, hB⟩ := hrel
        clear hRr hB0
        obtain ⟨vA, vm, vc, rfl, -, -, -⟩ := hN.out.form
        obtain ⟨kk, hkk⟩ : ∃ k : Nat, k = 264 := ⟨_, rfl⟩
        have hbig : beW (b.take i) < 2 ^ kk := by
          refine Nat.lt_of_lt_of_le (beW_lt _) ?_
          rw [show (256 : Nat) = 2 ^ 8 from rfl, ← Nat.pow_mul]
          exact Nat.pow_le_pow_right (by omega) (by rw [List.length_take]; omega)
        by_cases hc : i < n
        · have e1 : decide ((i : Int) < (n : Int)) = true := by simp; omega
          have w3 : IntKind.i64.wrap ((i : Int) + 1) = (i : Int) + 1 := by rw [IntKind.wrap_i64]; omega
          obtain ⟨x, hx⟩ : ∃ x, b[i]? = some x := ⟨_, List.getElem?_eq_getElem (by omega)⟩
          have hix0 := sidx b i i rfl (by omega)
          rw [hx, Option.getD_some] at hix0
          have hix := Lib.hid hix0
          have hnext := Lib.hid (take_beW hx)
          have hxl := UInt8.toNat_lt x
          obtain ⟨xn, hxn⟩ : ∃ y, x.toNat = y := ⟨_, rfl⟩
          rw [hxn] at hix hnext hxl
          have hwx : IntKind.i64.wrap (xn : Int) = (xn : Int) := by rw [IntKind.wrap_i64]; omega
          have hV := Lib.hid (fun V (h : Below wr.heap.size wr V) => (hN.out.step h).toV (lt_big hbig (by omega)))
          have hb2 : beW (b.take i) * 256 < 2 ^ (kk + 8) := by
            rw [Nat.pow_add]
            exact Nat.mul_lt_mul_of_pos_right hbig (by omega)
          have hb3 := Lib.hid (lt_big hb2 (by omega))
          clear hx hxn hix0 hbig hb2 hN
          generalize beW (b.take i) = M at *
          go_wp2_with fail
          generalize ha0 : Act.mk _ _ = a0
          have e0 : a0.tmps[0]?.getD undef = strW b := by rw [← ha0]; rfl
          have e4 : a0.tmps[4]?.getD undef = .slice vA vm vc := by rw [← ha0]; rfl
          have e5 : a0.tmps[5]?.getD undef = .int .i64 (i : Nat) := by rw [← ha0]; rfl
          have hz0 : a0.tmps.size = 54 := by rw [← ha0]; rfl
          have hha0 := Lib.hid ha0
          clear ha0
          refine wp_region_tailL (fun jx_ => match jx_ with | 0 => SRel.is (.slice vA vm vc) | 1 => SRel.vv 256 | 2 => SRel.nn (M * 256) | 3 => SRel.is (strW b) | 4 => SRel.is (.int .i64 (i : Nat)) | 5 => SRel.is (.int .u8 (xn : Nat)) | 6 => SRel.is (.int .i64 (xn : Nat)) | 7 => SRel.vv xn | 8 => SRel.nn (M * 256 + xn) | 9 => SRel.any | _ => SRel.any) 9 (by kernel_rfl) (by kernel_rfl) (by kernel_rfl) (slotsOk_of hz0 (by kernel_rfl)) (by kernel_rfl) (of_decide_eq_true (by kernel_rfl)) ⟨?_, ?_, ?_, ?_, ?_, ?_, ?_, ?_, ?_, trivial⟩ ?_
          · refine calmL_step rfl fun a ω κ hb hu hc hK => ?_
            have h4 : a.tmps[4]?.getD undef = .slice vA vm vc := (hu 4 rfl).trans e4
            have hk := Lib.hid (fun w1 (h : Below ω.heap.size ω w1) => hK (.slice vA vm vc) w1 rfl h)
            clear hK hu hc
            go_simp
            exact hk.out _ (Below.refl _ _)
          · refine calmL_step rfl fun a ω κ hb hu hc hK => ?_
            have hk := Lib.hid (fun v w1 (hv : (SRel.vv 256).p v w1) (h : Below ω.heap.size ω w1) => hK v w1 hv h)
            clear hK hu hc
            go_simp
            exact hk.out _ _ (IsV.lit256 ω 3) (below_alloc _ _)
          · refine calmL_step rfl fun a ω κ hb hu hc hK => ?_
            have h38 : a.tmps[38]?.getD undef = .slice vA vm vc := hc 0 38 rfl rfl
            have h39 : (SRel.vv 256).p (a.tmps[39]?.getD undef) ω := hc 1 39 rfl rfl
            have hk := Lib.hid (fun v w1 (hv : (SRel.nn (M * 256)).p v w1) (h : Below ω.heap.size ω w1) => hK v w1 hv h)
            clear hK hu hc
            go_simp
            go_at_call 32
            refine (timesN (m := M) (n := 256) ω (hV.out ω hb) h39).mono ?_
            rintro e w1 ⟨v, rfl, hv, hb1⟩
            exact hk.out _ _ hv hb1
          · refine calmL_step rfl fun a ω κ hb hu hc hK => ?_
            have h0 : a.tmps[0]?.getD undef = strW b := (hu 0 rfl).trans e0
            have hk := Lib.hid (fun w1 (h : Below ω.heap.size ω w1) => hK (strW b) w1 rfl h)
            clear hK hu hc
            go_simp
            exact hk.out _ (Below.refl _ _)
          · refine calmL_step rfl fun a ω κ hb hu hc hK => ?_
            have h5 : a.tmps[5]?.getD undef = .int .i64 (i : Nat) := (hu 5 rfl).trans e5
            have hk := Lib.hid (fun w1 (h : Below ω.heap.size ω w1) => hK (.int .i64 (i : Nat)) w1 rfl h)
            clear hK hu hc
            go_simp
            exact hk.out _ (Below.refl _ _)
          · refine calmL_step rfl fun a ω κ hb hu hc hK => ?_
            have h41 : a.tmps[41]?.getD undef = strW b := hc 3 41 rfl rfl
            have h42 : a.tmps[42]?.getD undef = .int .i64 (i : Nat) := hc 4 42 rfl rfl
            have hk := Lib.hid (fun w1 (h : Below ω.heap.size ω w1) => hK (.int .u8 (xn : Nat)) w1 rfl h)
            clear hK hu hc
            have q1 := hix.out ω
            go_simp
            exact hk.out _ (Below.refl _ _)
          · refine calmL_step rfl fun a ω κ hb hu hc hK => ?_
            have h43 : a.tmps[43]?.getD undef = .int .u8 (xn : Nat) := hc 5 43 rfl rfl
            have hk := Lib.hid (fun w1 (h : Below ω.heap.size ω w1) => hK (.int .i64 (xn : Nat)) w1 rfl h)
            clear hK hu hc
            go_simp
            exact hk.out _ (Below.refl _ _)
          · refine calmL_step rfl fun a ω κ hb hu hc hK => ?_
            have h44 : a.tmps[44]?.getD undef = .int .i64 (xn : Nat) := hc 6 44 rfl rfl
            have hk := Lib.hid (fun v w1 (hv : (SRel.vv xn).p v w1) (h : Below ω.heap.size ω w1) => hK v w1 hv h)
            clear hK hu hc
            go_simp
            exact hk.out _ _ (IsV.lit ω 3 (by omega)) (below_alloc _ _)
          · refine calmL_step rfl fun a ω κ hb hu hc hK => ?_
            have h40 : (SRel.nn (M * 256)).p (a.tmps[40]?.getD undef) ω := hc 2 40 rfl rfl
            have h45 : (SRel.vv xn).p (a.tmps[45]?.getD undef) ω := hc 7 45 rfl rfl
            have hk := Lib.hid (fun v w1 (hv : (SRel.nn (M * 256 + xn)).p v w1) (h : Below ω.heap.size ω w1) => hK v w1 hv h)
            clear hK hu hc
            go_simp
            go_at_call 23
            refine (plusN (m := M * 256) (n := xn) ω (IsN.toV h40 hb3.out) h45).mono ?_
            rintro e w1 ⟨v, rfl, hv, hb1⟩
            exact hk.out _ _ hv hb1
          · intro aa ω hb hu hsz hdf hc
            have h38 : aa.tmps[38]?.getD undef = .slice vA vm vc := hc 0 38 (by decide) rfl
            have h41 : aa.tmps[41]?.getD undef = strW b := hc 3 41 (by decide) rfl
            have h42 : aa.tmps[42]?.getD undef = .int .i64 (i : Nat) := hc 4 42 (by decide) rfl
            have h43 : aa.tmps[43]?.getD undef = .int .u8 (xn : Nat) := hc 5 43 (by decide) rfl
            have h44 : aa.tmps[44]?.getD undef = .int .i64 (xn : Nat) := hc 6 44 (by decide) rfl
            have h46 : (SRel.nn (M * 256 + xn)).p (aa.tmps[46]?.getD undef) ω := hc 8 46 (by decide) rfl
            have ha0 := hha0.out
            subst ha0
            have he := act_patchL (n := 54) 9 [false, false, false, false, false, false, false, false, false, false, false, false, false, false, false, false, false, false, false, false, false, false, false, false, false, false, false, false, false, false, false, false, false, false, false, false, false, false, true, true, true, true, true, true, true, true, true, false, false, false, false, false, false, false] rfl (by kernel_rfl) hu hsz hdf
            simp only [patch, cond_true, cond_false, Nat.reduceAdd] at he
            clear hu hsz hdf hc hha0 e0 e4 e5 hz0
            rw [he]
            clear he
            generalize aa.tmps[38]?.getD undef = x38 at *
            generalize aa.tmps[39]?.getD undef = x39 at *
            generalize aa.tmps[40]?.getD undef = x40 at *
            generalize aa.tmps[41]?.getD undef = x41 at *
            generalize aa.tmps[42]?.getD undef = x42 at *
            generalize aa.tmps[43]?.getD undef = x43 at *
            generalize aa.tmps[44]?.getD undef = x44 at *
            generalize aa.tmps[45]?.getD undef = x45 at *
            generalize aa.tmps[46]?.getD undef = x46 at *
            subst h38 h41 h42 h43 h44
            dsimp only [List.drop]
            have hR2 := Lib.hid (row_below hR.out hb hR.out.lt)
            have hB2 := Lib.hid (below_step hb hB.out (Nat.le_refl _))
            have h47 := Lib.hid (show IsN ω x46 (M * 256 + xn) from h46)
            clear hV hb3 hix hb hR hB h46
            go_wp2_with fail
            go_roundw
            case rel => exact ⟨i + 1, rfl, by omega, Lib.hid (by rw [hnext.out]; exact h47.out), hR2, hB2⟩
            case measure => simp [intOf]; omega
        · have e1 : decide ((i : Int) < (n : Int)) = false := by simp; omega
          have hfull : b.take i = b := List.take_of_length_le (by omega)
          rw [hfull] at hN hbig
          have hTw0 := ref_TwoTo 256 wr (by omega)
          have hPV : ∀ V v, IsN V v (2 ^ 256) → IsV V v (2 ^ 256) := fun V v h => h.toV (lt_big (Nat.pow_lt_pow_right (by omega) (show 256 < 257 by omega)) (by omega))
          have hMV := Lib.hid (fun V (h : Below wr.heap.size wr V) => (hN.out.step h).toV (lt_big hbig (by omega)))
          obtain ⟨P, hPe⟩ : ∃ P, 2 ^ 256 = P := ⟨_, rfl⟩
          rw [hPe] at hTw0 hPV hP
          have hTw := Lib.hid hTw0
          have hHPV := Lib.hid hPV
          have hcr := arrK_cells .u64 4 (wd (beW b))
          clear hPe hTw0 hPV hbig
          go_wp2_with fail
          refine (show Calls _ _ #[Value.int IntKind.i64 256] wr _ from hTw.out).mono ?_
          rintro e w5 ⟨vT, rfl, hT5, hb5⟩
          have hOr := Lib.hid (orderN w5 (hMV.out w5 hb5) (hHPV.out w5 vT hT5))
          have hR5 := row_below hR.out hb5 hR.out.lt
          have hB5 := below_step hb5 hB.out (Nat.le_refl _)
          have hTm := Lib.hid (show Calls Try.prog 28 #[.slice vA vm vc] w5 fun e w' => e = .returned (.agg (arrK .u64 4 (wd (beW b)))) ∧ Below w5.heap.size w5 w' from toNumN w5 (hMV.out w5 hb5))
          clear hTw hHPV hMV hT5 hb5 hR hB hN
          by_cases hc2 : P ≤ beW b
          · have ho : order (beW b) P = 0 ∨ order (beW b) P = 1 := by
              unfold order
              rw [if_neg (by omega)]
              split <;> simp
            have d2 : decide ((0 : Int) ≤ order (beW b) P) = true := by rcases ho with h | h <;> rw [h] <;> rfl
            obtain rfl := hL.out (Or.inr (hP.out.1 hc2))
            obtain ⟨o, hoe⟩ : ∃ o, order (beW b) P = o := ⟨_, rfl⟩
            rw [hoe] at hOr d2
            clear hL hO hP ho hoe hc2 hTm
            go_wp2_with fail
            refine hOr.out.mono ?_
            rintro e w6 ⟨rfl, rfl⟩
            clear hOr
            go_wp2_with fail
            exact ret_stored2 (p := 2) (q := 3) (ty := 24) (g := w.heap.size) (n := 4) (c := arrK .u64 4 (wd 0)) rfl Try.underlying24 rfl (by kernel_rfl) rfl hR5 hcz.1 rfl ⟨rfl, below_setRow hB5 (Nat.le_refl _)⟩
          · have ho : order (beW b) P = -1 := by unfold order; rw [if_pos (by omega)]
            have d2 : decide ((0 : Int) ≤ order (beW b) P) = false := by rw [ho]; rfl
            obtain rfl := hO.out (by
              rintro (h | h)
              · exact h33 h
              · exact hc2 (hP.out.2 h))
            obtain ⟨o, hoe⟩ : ∃ o, order (beW b) P = o := ⟨_, rfl⟩
            rw [hoe] at hOr d2
            clear hL hO hP ho hoe hc2
            go_wp2_with fail
            refine hOr.out.mono ?_
            rintro e w6 ⟨rfl, rfl⟩
            clear hOr
            go_wp2_with fail
            refine hTm.out.mono ?_
            rintro e w7 ⟨rfl, hb7⟩
            have hR7 := row_below hR5 hb7 hR5.lt
            have hB7 := below_step hb7 hB5 (Nat.le_refl _)
            clear hTm hb7 hR5 hB5
            go_wp2_with fail
            exact ret_stored2 (p := 2) (q := 3) (ty := 24) (g := w.heap.size) (n := 4) (c := arrK .u64 4 (wd (beW b))) rfl Try.underlying24 rfl (by kernel_rfl) rfl hR7 hcr.1 rfl ⟨rfl, below_setRow hB7 (Nat.le_refl _)⟩
end Go.Proofs.Ytjihklaocgmlpaa
