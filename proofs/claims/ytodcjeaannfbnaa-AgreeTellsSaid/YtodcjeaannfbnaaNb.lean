/- Contract of the document's number (bytes, the least first). -/
import Derived.Test.YtodcjeaannfbnaaNumN
import Derived.Test.YtodcjeaannfbnaaLimb
import Derived.Test.YtodcjeaannfbnaaTail2
import Derived.Deep.DeepCutAuto
namespace Go.Proofs.Ytodcjeaannfbnaa
open Go.ChangeShapes Go.WideShapes Go.ChangeAt Go.RowKit
set_option maxHeartbeats 2000000
set_option maxRecDepth 100000
def SRel.bV (m : Nat) : SRel := ⟨fun v w => IsV w v m, fun _ _ _ hb h => h.step hb⟩
def SRel.bN (m : Nat) : SRel := ⟨fun v w => IsN w v m, fun _ _ _ hb h => h.step hb⟩
/-- Bytes from i on, the least first. -/
def hvB (f : Nat → Nat) (i : Nat) : Nat → Nat
  | 0 => 0
  | k + 1 => f i + 256 * hvB f (i + 1) k
theorem hvB_bval (f : Nat → Nat) : ∀ k i, bval f i + 256 ^ i * hvB f i k = bval f (i + k)
  | 0, i => by simp [hvB]
  | k + 1, i => by
    have ih := hvB_bval f k (i + 1)
    rw [show i + (k + 1) = i + 1 + k by omega, ← ih]
    show bval f i + 256 ^ i * (f i + 256 * hvB f (i + 1) k) = bval f i + 256 ^ i * f i + 256 ^ (i + 1) * hvB f (i + 1) k
    rw [Nat.pow_succ]
    generalize hvB f (i + 1) k = x
    grind
theorem hvB_zero (f : Nat → Nat) (n : Nat) : hvB f 0 n = bval f n := by
  have h := hvB_bval f n 0
  rw [Nat.zero_add, Nat.pow_zero, Nat.one_mul] at h
  rw [← h]
  simp [bval]
theorem hvB_lt {f : Nat → Nat} : ∀ k i, (∀ j < i + k, f j < 256) → hvB f i k < 2 ^ (8 * k)
  | 0, i, _ => by simp [hvB]
  | k + 1, i, h => by
    have h1 := hvB_lt k (i + 1) (fun j hj => h j (by omega))
    have h2 := h i (by omega)
    show f i + 256 * hvB f (i + 1) k < 2 ^ (8 * (k + 1))
    rw [show 8 * (k + 1) = 8 * k + 8 by omega, Nat.pow_add]
    omega
theorem ref_number (f : Nat → Nat) (g n c : Nat) (w : World) (hg : g < w.heap.size) (hc : ∀ i < n, w.cell? ⟨g, i, none⟩ = some (.int .u8 (f i : Nat))) (hf : ∀ i < n, f i < 256) (hn : n ≤ 1000) (hnc : n ≤ c) (hcm : c ≤ 9223372036854775807) :
    Calls Try.prog 122 #[.slice (some ⟨g, 0, none⟩) n c] w (RetN (bval f n) w) := by
  rw [← hvB_zero]
  have hcc := Lib.hid (fun i (hi : i < n) W (hb : Below w.heap.size w W) => (((bcell hb).1 g i hg).trans (hc i hi)))
  clear hc
  have hHc := Lib.hid (And.intro hnc hcm)
  have w0 : IntKind.i64.wrap ((n : Int) - 1) = (n : Int) - 1 := by rw [IntKind.wrap_i64]; omega
  go_enter Try.func122, Try.ntmps122
  go_wp2
  clear w0
  go_loopw [3, 4] (fun v i wr => ∃ s : Nat, i = .int .i64 ((s : Int) - 1) ∧ s ≤ n ∧ IsN wr v (hvB f s (n - s)) ∧ Below w.heap.size w wr) (fun _ i _ => (intOf i + 1).toNat)
  case atStart => exact ⟨n, rfl, Nat.le_refl _, by rw [Nat.sub_self]; exact IsN.nil _, Below.refl _ _⟩
  case round =>
    obtain ⟨s, rfl, hs, hN, hL⟩ := hrel
    rename_i u3
    rcases Nat.eq_zero_or_pos s with rfl | hs0
    · rw [Nat.sub_zero] at hN
      go_wp2
      go_ret
      exact ⟨_, rfl, hN, hL⟩
    · obtain ⟨i, rfl⟩ : ∃ i, s = i + 1 := ⟨s - 1, by omega⟩
      rw [show (((i + 1 : Nat) : Int) - 1) = (i : Int) by omega]
      obtain ⟨vA, vm, vc, rfl, -, -, -⟩ := hN.form
      have hfi := hf i (by omega)
      have hlt := hvB_lt (f := f) (n - (i + 1)) (i + 1) (fun j hj => hf j (by omega))
      have hst : hvB f (i + 1) (n - (i + 1)) * 256 + f i = hvB f i (n - i) := by
        rw [show n - i = (n - (i + 1)) + 1 by omega]; show _ = f i + 256 * _; omega
      have hHst := Lib.hid hst
      have hb1 : hvB f (i + 1) (n - (i + 1)) < big := lt_big hlt (by omega)
      have hb2 : hvB f (i + 1) (n - (i + 1)) * 256 < big := by
        refine lt_big (k := 8 * (n - (i + 1)) + 8) ?_ (by omega)
        rw [Nat.pow_add]
        exact Nat.mul_lt_mul_of_pos_right hlt (by omega)
      have hb3 := Lib.hid hb2
      have hV := Lib.hid (fun V (h : Below wr.heap.size wr V) => (hN.step h).toV hb1)
      have hix := Lib.hid (fun V (h : Below wr.heap.size wr V) => hcc.out i (by omega) V (below_step h hL (Nat.le_refl _)))
      have d1 : decide ((0 : Int) ≤ (i : Int)) = true := by simp
      have d2 : (0 : Int) ≤ (i : Int) := by omega
      have d3 : (i : Int) < (n : Int) := by omega
      have hB := Lib.hid hL
      have hH2 := Lib.hid (show i + 1 ≤ n by omega)
      clear hst hlt hb1 hb2 hN hL hs hs0
      generalize hvB f (i + 1) (n - (i + 1)) = M at *
      generalize f i = x at *
      have hwx : IntKind.i64.wrap (x : Int) = (x : Int) := by rw [IntKind.wrap_i64]; omega
      have w3 : IntKind.i64.wrap ((i : Int) - 1) = (i : Int) - 1 := by rw [IntKind.wrap_i64]; omega
      go_upto_region 5 with (fail)
      generalize ha0 : Act.mk _ _ = a0
      have e0 : a0.tmps[0]?.getD undef = .slice (some ⟨g, 0, none⟩) n c := by rw [← ha0]; rfl
      have e3 : a0.tmps[3]?.getD undef = .slice vA vm vc := by rw [← ha0]; rfl
      have e4 : a0.tmps[4]?.getD undef = .int .i64 (i : Nat) := by rw [← ha0]; rfl
      have hz0 : a0.tmps.size = 23 := by rw [← ha0]; rfl
      have hha0 := Lib.hid ha0
      clear ha0
      refine wp_region_tailL (fun jx_ => match jx_ with | 0 => SRel.is (.slice vA vm vc) | 1 => SRel.bV 256 | 2 => SRel.bN (M * 256) | 3 => SRel.is (.slice (some ⟨g, 0, none⟩) n c) | 4 => SRel.is (.int .i64 (i : Nat)) | 5 => SRel.is (.pointer (some ⟨g, (i : Nat), none⟩)) | 6 => SRel.is (.int .u8 (x : Nat)) | 7 => SRel.is (.int .i64 (x : Nat)) | 8 => SRel.bV x | 9 => SRel.bN (M * 256 + x) | 10 => SRel.any | _ => SRel.any) 10 (by kernel_rfl) (by kernel_rfl) (by kernel_rfl) (slotsOk_of hz0 (by kernel_rfl)) (by kernel_rfl) (of_decide_eq_true (by kernel_rfl)) ⟨?_, ?_, ?_, ?_, ?_, ?_, ?_, ?_, ?_, ?_, trivial⟩ ?_
      · refine calmL_step rfl fun a ω κ hb hu hc hK => ?_
        have h3 : a.tmps[3]?.getD undef = .slice vA vm vc := (hu 3 rfl).trans e3
        have hk := Lib.hid (fun w1 (h : Below ω.heap.size ω w1) => hK (.slice vA vm vc) w1 rfl h)
        clear hK hu hc
        go_simp
        exact hk.out _ (Below.refl _ _)
      · refine calmL_step rfl fun a ω κ hb hu hc hK => ?_
        have hk := Lib.hid (fun v w1 (hv : (SRel.bV 256).p v w1) (h : Below ω.heap.size ω w1) => hK v w1 hv h)
        clear hK hu hc
        go_simp
        exact hk.out _ _ (IsV.lit256 ω 3) (below_alloc _ _)
      · refine calmL_step rfl fun a ω κ hb hu hc hK => ?_
        have h12 : a.tmps[12]?.getD undef = .slice vA vm vc := hc 0 12 rfl rfl
        have h13 : (SRel.bV 256).p (a.tmps[13]?.getD undef) ω := hc 1 13 rfl rfl
        have hk := Lib.hid (fun v w1 (hv : (SRel.bN (M * 256)).p v w1) (h : Below ω.heap.size ω w1) => hK v w1 hv h)
        clear hK hu hc
        go_simp
        go_at_call 73
        refine (timesN (m := M) (n := 256) ω (hV.out ω hb) h13).mono ?_
        rintro e w1 ⟨v, rfl, hv, hb1⟩
        exact hk.out _ _ hv hb1
      · refine calmL_step rfl fun a ω κ hb hu hc hK => ?_
        have h0 : a.tmps[0]?.getD undef = .slice (some ⟨g, 0, none⟩) n c := (hu 0 rfl).trans e0
        have hk := Lib.hid (fun w1 (h : Below ω.heap.size ω w1) => hK (.slice (some ⟨g, 0, none⟩) n c) w1 rfl h)
        clear hK hu hc
        go_simp
        exact hk.out _ (Below.refl _ _)
      · refine calmL_step rfl fun a ω κ hb hu hc hK => ?_
        have h4 : a.tmps[4]?.getD undef = .int .i64 (i : Nat) := (hu 4 rfl).trans e4
        have hk := Lib.hid (fun w1 (h : Below ω.heap.size ω w1) => hK (.int .i64 (i : Nat)) w1 rfl h)
        clear hK hu hc
        go_simp
        exact hk.out _ (Below.refl _ _)
      · refine calmL_step rfl fun a ω κ hb hu hc hK => ?_
        have h15 : a.tmps[15]?.getD undef = .slice (some ⟨g, 0, none⟩) n c := hc 3 15 rfl rfl
        have h16 : a.tmps[16]?.getD undef = .int .i64 (i : Nat) := hc 4 16 rfl rfl
        have hk := Lib.hid (fun w1 (h : Below ω.heap.size ω w1) => hK (.pointer (some ⟨g, (i : Nat), none⟩)) w1 rfl h)
        clear hK hu hc
        go_simp
        exact hk.out _ (Below.refl _ _)
      · refine calmL_step rfl fun a ω κ hb hu hc hK => ?_
        have h17 : a.tmps[17]?.getD undef = .pointer (some ⟨g, (i : Nat), none⟩) := hc 5 17 rfl rfl
        have hk := Lib.hid (fun w1 (h : Below ω.heap.size ω w1) => hK (.int .u8 (x : Nat)) w1 rfl h)
        clear hK hu hc
        have hq := hix.out ω hb
        go_simp
        exact hk.out _ (Below.refl _ _)
      · refine calmL_step rfl fun a ω κ hb hu hc hK => ?_
        have h18 : a.tmps[18]?.getD undef = .int .u8 (x : Nat) := hc 6 18 rfl rfl
        have hk := Lib.hid (fun w1 (h : Below ω.heap.size ω w1) => hK (.int .i64 (x : Nat)) w1 rfl h)
        clear hK hu hc
        go_simp
        exact hk.out _ (Below.refl _ _)
      · refine calmL_step rfl fun a ω κ hb hu hc hK => ?_
        have h19 : a.tmps[19]?.getD undef = .int .i64 (x : Nat) := hc 7 19 rfl rfl
        have hk := Lib.hid (fun v w1 (hv : (SRel.bV x).p v w1) (h : Below ω.heap.size ω w1) => hK v w1 hv h)
        clear hK hu hc
        go_simp
        exact hk.out _ _ (IsV.lit ω 3 (by omega)) (below_alloc _ _)
      · refine calmL_step rfl fun a ω κ hb hu hc hK => ?_
        have h14 : (SRel.bN (M * 256)).p (a.tmps[14]?.getD undef) ω := hc 2 14 rfl rfl
        have h20 : (SRel.bV x).p (a.tmps[20]?.getD undef) ω := hc 8 20 rfl rfl
        have hk := Lib.hid (fun v w1 (hv : (SRel.bN (M * 256 + x)).p v w1) (h : Below ω.heap.size ω w1) => hK v w1 hv h)
        clear hK hu hc
        go_simp
        go_at_call 69
        refine (plusN (m := M * 256) (n := x) ω (IsN.toV h14 hb3.out) h20).mono ?_
        rintro e w1 ⟨v, rfl, hv, hb1⟩
        exact hk.out _ _ hv hb1
      · intro aa ω hb hu hsz hdf hc
        have h12 : aa.tmps[12]?.getD undef = .slice vA vm vc := hc 0 12 (by decide) rfl
        have h15 : aa.tmps[15]?.getD undef = .slice (some ⟨g, 0, none⟩) n c := hc 3 15 (by decide) rfl
        have h16 : aa.tmps[16]?.getD undef = .int .i64 (i : Nat) := hc 4 16 (by decide) rfl
        have h17 : aa.tmps[17]?.getD undef = .pointer (some ⟨g, (i : Nat), none⟩) := hc 5 17 (by decide) rfl
        have h18 : aa.tmps[18]?.getD undef = .int .u8 (x : Nat) := hc 6 18 (by decide) rfl
        have h19 : aa.tmps[19]?.getD undef = .int .i64 (x : Nat) := hc 7 19 (by decide) rfl
        have h21 : (SRel.bN (M * 256 + x)).p (aa.tmps[21]?.getD undef) ω := hc 9 21 (by decide) rfl
        have ha0 := hha0.out
        subst ha0
        have he := act_patchL (n := 23) 10 [false, false, false, false, false, false, false, false, false, false, false, false, true, true, true, true, true, true, true, true, true, true, false] rfl (by kernel_rfl) hu hsz hdf
        simp only [patch, cond_true, cond_false, Nat.reduceAdd] at he
        clear hu hsz hdf hc hha0 e0 e3 e4 hz0
        rw [he]
        clear he
        generalize aa.tmps[12]?.getD undef = x12 at *
        generalize aa.tmps[13]?.getD undef = x13 at *
        generalize aa.tmps[14]?.getD undef = x14 at *
        generalize aa.tmps[15]?.getD undef = x15 at *
        generalize aa.tmps[16]?.getD undef = x16 at *
        generalize aa.tmps[17]?.getD undef = x17 at *
        generalize aa.tmps[18]?.getD undef = x18 at *
        generalize aa.tmps[19]?.getD undef = x19 at *
        generalize aa.tmps[20]?.getD undef = x20 at *
        generalize aa.tmps[21]?.getD undef = x21 at *
        subst h12 h15 h16 h17 h18 h19
        dsimp only [List.drop]
        have hB2 := Lib.hid (below_step hb hB.out (Nat.le_refl _))
        have h22 := Lib.hid (show IsN ω x21 (M * 256 + x) from h21)
        clear hV hb3 hix hb hB h21
        go_wp2_with fail
        go_roundw
        case rel => exact ⟨i, rfl, by have := hH2.out; omega, by rw [← hHst.out]; exact h22.out, hB2.out⟩
        case measure => simp [intOf]
end Go.Proofs.Ytodcjeaannfbnaa
