/- Contracts of package ring: In, Mul. -/
import Derived.Test.YtgdiokklfihfoaaRg6
namespace Go.Proofs.Ytgdiokklfihfoaa
open Go.ChangeShapes Go.WideShapes Go.ChangeAt Go.RowKit
set_option maxHeartbeats 2000000
set_option maxRecDepth 100000
attribute [local go_sem ↓] load_fld load_num store_num execl_num execs_num load_wide store_wide execl_wide execs_wide
attribute [local go_sem] isHead_mk blkOf_mk isAgg_mk cellsV_mk row_drew rowAt_drew row_new_cells row_old rowAt_new rowAt_old setRow_new zeroNum zeroWide
/-- A ring's numbers: m odd, 2^256 and 2^512 modulo m, -1 / m modulo 2^64. -/
structure RgOk (m o s v : Nat) : Prop where
  lt : m < 2 ^ 256
  odd : m % 2 = 1
  one : o = 2 ^ 256 % m
  sq : s = o * o % m
  inv : (v * m + 1) % 18446744073709551616 = 0
theorem RgOk.pos {m o s v : Nat} (h : RgOk m o s v) : 0 < m := by have := h.odd; omega
theorem RgOk.ltS {m o s v : Nat} (h : RgOk m o s v) : s < 2 ^ 256 := by rw [h.sq]; exact Nat.lt_trans (Nat.mod_lt _ h.pos) h.lt
theorem RgOk.ltO {m o s v : Nat} (h : RgOk m o s v) : o < 2 ^ 256 := by rw [h.one]; exact Nat.lt_trans (Nat.mod_lt _ h.pos) h.lt
theorem RgOk.ltN {m o s v T : Nat} (h : RgOk m o s v) : outN m T < 2 ^ 256 := Nat.lt_trans (out_lt h.odd) h.lt
theorem ring_OutC {g m o s v : Nat} (k : RgOk m o s v) (T : Nat) (w : World) (h : RgAt w g m o s v) (hT : T < 2 ^ 256 * 2 ^ 256) : Calls Try.prog 36 #[.pointer (some ⟨g, 0, none⟩), wideV T] w fun e w' => e = .returned (numV (outN m T)) ∧ Below w.heap.size w w' := ring_Out g m o s v T w h hT k.lt k.odd k.inv
theorem ring_In {g m o s v : Nat} (k : RgOk m o s v) (xa : Nat) (w : World) (h : RgAt w g m o s v) (ha : xa < 2 ^ 256) : Calls Try.prog 39 #[.pointer (some ⟨g, 0, none⟩), numV xa] w fun e w' => e = .returned (numV (outN m (xa * s))) ∧ Below w.heap.size w w' := by
  have kM := Lib.hid (fun V => limb_Mul xa s V ha k.ltS)
  have kO := Lib.hid (fun V (hV : RgAt V g m o s v) => ring_OutC k (xa * s) V hV (Nat.mul_lt_mul'' ha k.ltS))
  obtain ⟨t, ht⟩ : ∃ t, xa * s = t := ⟨_, rfl⟩
  rw [ht] at kM kO ⊢
  obtain ⟨r, hr⟩ : ∃ r, outN m t = r := ⟨_, rfl⟩
  rw [hr] at kO ⊢
  clear hr ht ha k
  unfold numV wideV at kM kO
  unfold numV
  have hc0 := arrK_cells .u64 4 (wd 0)
  have hcr := arrK_cells .u64 4 (wd r)
  have hG0 : RgAt ((w.alloc (Obj.cells (arrK .u64 4 (wd xa)) 27)).alloc (Obj.cells (arrK .u64 4 (wd 0)) 27)) g m o s v := (h.old _).old _
  have hG := Lib.hid hG0
  clear h hG0
  have hL0 : Below w.heap.size w ((w.alloc (Obj.cells (arrK .u64 4 (wd xa)) 27)).alloc (Obj.cells (arrK .u64 4 (wd 0)) 27)) := by go_grown
  have hA0 : At ((w.alloc (Obj.cells (arrK .u64 4 (wd xa)) 27)).alloc (Obj.cells (arrK .u64 4 (wd 0)) 27)) w.heap.size .u64 4 (wd xa) := (At.new _ rfl).old _
  have hR0 : Row ((w.alloc (Obj.cells (arrK .u64 4 (wd xa)) 27)).alloc (Obj.cells (arrK .u64 4 (wd 0)) 27)) (w.heap.size + 1) 4 := (At.new (k := .u64) (f := wd 0) _ (by simp)).row
  have hL := Lib.hid hL0
  have hA := Lib.hid hA0
  have hR := Lib.hid hR0
  clear hL0 hA0 hR0
  go_enter Try.func39, Try.ntmps39
  go_upto_region 1 with (fail)
  generalize (w.alloc _).alloc _ = W0 at *
  generalize ha0 : Act.mk _ _ = a0
  have e0 : a0.tmps[0]?.getD undef = .pointer (some ⟨g, 0, none⟩) := by rw [← ha0]; rfl
  have e3 : a0.tmps[3]?.getD undef = .pointer (some ⟨w.heap.size, 0, none⟩) := by rw [← ha0]; rfl
  have e4 : a0.tmps[4]?.getD undef = .pointer (some ⟨w.heap.size + 1, 0, none⟩) := by rw [← ha0]; rfl
  have hz0 : a0.tmps.size = 13 := by rw [← ha0]; rfl
  have hha0 := Lib.hid ha0
  clear ha0
  refine wp_region_one (fun jx_ => match jx_ with | 0 => some (.pointer (some ⟨g, 0, none⟩)) | 1 => some (.agg (arrK .u64 4 (wd xa))) | 2 => some (.pointer (some ⟨g, 0, none⟩)) | 3 => some (.pointer (some ⟨g, 0, none⟩)) | 4 => some (.pointer (some ⟨g, 8, none⟩)) | 5 => some (.agg (arrK .u64 4 (wd s))) | 6 => some (.agg (arrK .u64 8 (wd (t)))) | 7 => some (.agg (arrK .u64 4 (wd r))) | _ => none) 8 (w.heap.size + 1) 4 (arrK .u64 4 (wd r)) (by kernel_rfl) (by kernel_rfl) (by kernel_rfl) (slotsOk_of hz0 (by kernel_rfl)) (of_decide_eq_true (by kernel_rfl)) (Lib.hid hR.out).out ⟨?_, ?_, ?_, ?_, ?_, ?_, ?_, ?_, ?_, trivial⟩ ?_
  · refine one_before (by decide) (by kernel_rfl) (calm_step rfl fun aa ω κ hb hu hc hK => ?_)
    have h0 : aa.tmps[0]?.getD undef = .pointer (some ⟨g, 0, none⟩) := (hu 0 rfl).trans e0
    have hk := Lib.hid (fun w1 (h : Below ω.heap.size ω w1) => hK (.pointer (some ⟨g, 0, none⟩)) w1 rfl h)
    clear hK hu hc
    go_simp
    exact hk.out _ (Below.refl _ _)
  · refine one_before (by decide) (by kernel_rfl) (calm_step rfl fun aa ω κ hb hu hc hK => ?_)
    have h3 : aa.tmps[3]?.getD undef = .pointer (some ⟨w.heap.size, 0, none⟩) := (hu 3 rfl).trans e3
    have hk := Lib.hid (fun w1 (h : Below ω.heap.size ω w1) => hK (.agg (arrK .u64 4 (wd xa))) w1 rfl h)
    clear hK hu hc
    have hr1 := (hA.out.step hb).row
    have hr2 := (hA.out.step hb).eq
    go_simp
    exact hk.out _ (Below.refl _ _)
  · refine one_before (by decide) (by kernel_rfl) (calm_step rfl fun aa ω κ hb hu hc hK => ?_)
    have h0 : aa.tmps[0]?.getD undef = .pointer (some ⟨g, 0, none⟩) := (hu 0 rfl).trans e0
    have hk := Lib.hid (fun w1 (h : Below ω.heap.size ω w1) => hK (.pointer (some ⟨g, 0, none⟩)) w1 rfl h)
    clear hK hu hc
    go_simp
    exact hk.out _ (Below.refl _ _)
  · refine one_before (by decide) (by kernel_rfl) (calm_step rfl fun aa ω κ hb hu hc hK => ?_)
    have h7 : aa.tmps[7]?.getD undef = .pointer (some ⟨g, 0, none⟩) := hc 2 7 rfl rfl
    have hk := Lib.hid (fun w1 (h : Below ω.heap.size ω w1) => hK (.pointer (some ⟨g, 0, none⟩)) w1 rfl h)
    clear hK hu hc
    go_simp
    exact hk.out _ (Below.refl _ _)
  · refine one_before (by decide) (by kernel_rfl) (calm_step rfl fun aa ω κ hb hu hc hK => ?_)
    have h8 : aa.tmps[8]?.getD undef = .pointer (some ⟨g, 0, none⟩) := hc 3 8 rfl rfl
    have hk := Lib.hid (fun w1 (h : Below ω.heap.size ω w1) => hK (.pointer (some ⟨g, 8, none⟩)) w1 rfl h)
    clear hK hu hc
    go_simp
    exact hk.out _ (Below.refl _ _)
  · refine one_before (by decide) (by kernel_rfl) (calm_step rfl fun aa ω κ hb hu hc hK => ?_)
    have h9 : aa.tmps[9]?.getD undef = .pointer (some ⟨g, 8, none⟩) := hc 4 9 rfl rfl
    have hk := Lib.hid (fun w1 (h : Below ω.heap.size ω w1) => hK (.agg (arrK .u64 4 (wd s))) w1 rfl h)
    clear hK hu hc
    have hl := rg_2 (hG.out.step hb)
    have hl1 := hl.1
    have hl2 := hl.2
    go_simp
    exact hk.out _ (Below.refl _ _)
  · refine one_before (by decide) (by kernel_rfl) (calm_step rfl fun aa ω κ hb hu hc hK => ?_)
    have h6 : aa.tmps[6]?.getD undef = .agg (arrK .u64 4 (wd xa)) := hc 1 6 rfl rfl
    have h10 : aa.tmps[10]?.getD undef = .agg (arrK .u64 4 (wd s)) := hc 5 10 rfl rfl
    have hk := Lib.hid (fun w1 (h : Below ω.heap.size ω w1) => hK (.agg (arrK .u64 8 (wd (t)))) w1 rfl h)
    clear hK hu hc
    go_simp
    go_at_call 84
    refine (kM.out _).mono ?_
    rintro e w1 ⟨rfl, hb1⟩
    exact hk.out _ hb1
  · refine one_before (by decide) (by kernel_rfl) (calm_step rfl fun aa ω κ hb hu hc hK => ?_)
    have h5 : aa.tmps[5]?.getD undef = .pointer (some ⟨g, 0, none⟩) := hc 0 5 rfl rfl
    have h11 : aa.tmps[11]?.getD undef = .agg (arrK .u64 8 (wd (t))) := hc 6 11 rfl rfl
    have hk := Lib.hid (fun w1 (h : Below ω.heap.size ω w1) => hK (.agg (arrK .u64 4 (wd r))) w1 rfl h)
    clear hK hu hc
    go_simp
    go_at_call 36
    refine (kO.out _ (hG.out.step hb)).mono ?_
    rintro e w1 ⟨rfl, hb1⟩
    exact hk.out _ hb1
  · refine one_q (one_write rfl rfl fun aa ω κ hb hu hc hr hK => ?_)
    have h4 : aa.tmps[4]?.getD undef = .pointer (some ⟨w.heap.size + 1, 0, none⟩) := (hu 4 rfl).trans e4
    have h12 : aa.tmps[12]?.getD undef = .agg (arrK .u64 4 (wd r)) := hc 7 12 rfl rfl
    have hk := Lib.hid hK
    clear hK hu hc
    have hcc := hcr
    go_simp
    exact hk.out undef
  · intro a1 w1 hb1 hu1 hsz1 hdf1 hv1
    have ha0 := hha0.out
    subst ha0
    have he := act_patch (n := 13) [false, false, false, false, false, true, true, true, true, true, true, true, true] rfl (by kernel_rfl) hu1 hsz1 hdf1
    simp only [patch, cond_true, cond_false, Nat.reduceAdd] at he
    have hXz := Lib.hid ((At.put (k := .u64) (f := wd r) hR.out).below hb1 (by simpa using hR.out.lt))
    have hLz := Lib.hid (Below.trans (below_setRow (c := arrK .u64 4 (wd r)) hL.out (show w.heap.size ≤ w.heap.size + 1 by omega)) (hb1.mono (by simpa using hL.out.size)))
    clear hR hG hL kM kO hA
    clear hb1 hu1 hsz1 hdf1 hv1 hz0 hha0 e0 e3 e4
    rw [he]
    clear he
    generalize a1.tmps[5]?.getD undef = x5 at *
    generalize a1.tmps[6]?.getD undef = x6 at *
    generalize a1.tmps[7]?.getD undef = x7 at *
    generalize a1.tmps[8]?.getD undef = x8 at *
    generalize a1.tmps[9]?.getD undef = x9 at *
    generalize a1.tmps[10]?.getD undef = x10 at *
    generalize a1.tmps[11]?.getD undef = x11 at *
    generalize a1.tmps[12]?.getD undef = x12 at *
    generalize w1 = W2 at *
    have hr1 := hXz.out.row
    have hr2 := hXz.out.eq
    go_wp2_with fail
    refine ret_row (p := 4) (ty := 27) (g := w.heap.size + 1) rfl Try.underlying27 rfl (by kernel_rfl) rfl hXz.out.row rfl ?_
    rw [hXz.out.eq]
    exact ⟨rfl, hLz.out⟩
theorem ring_Mul {g m o s v : Nat} (k : RgOk m o s v) (xa xb : Nat) (w : World) (h : RgAt w g m o s v) (ha : xa < 2 ^ 256) (hb : xb < 2 ^ 256) : Calls Try.prog 34 #[.pointer (some ⟨g, 0, none⟩), numV xa, numV xb] w fun e w' => e = .returned (numV (xa * xb % m)) ∧ Below w.heap.size w w' := by
  have kI := Lib.hid (fun V (hV : RgAt V g m o s v) => ring_In k xa V hV ha)
  have kM := Lib.hid (fun V => limb_Mul (outN m (xa * s)) xb V k.ltN hb)
  have kO := Lib.hid (fun V (hV : RgAt V g m o s v) => ring_OutC k (outN m (xa * s) * xb) V hV (Nat.mul_lt_mul'' k.ltN hb))
  rw [mul_is k.odd k.one k.sq] at kO
  obtain ⟨x, hx⟩ : ∃ t, outN m (xa * s) = t := ⟨_, rfl⟩
  rw [hx] at kI kM kO
  obtain ⟨t, ht⟩ : ∃ t, x * xb = t := ⟨_, rfl⟩
  rw [ht] at kM kO
  obtain ⟨r, hr⟩ : ∃ r, xa * xb % m = r := ⟨_, rfl⟩
  rw [hr] at kO ⊢
  clear hr ht hx ha hb k
  unfold numV wideV at kM kO
  unfold numV at kI
  unfold numV
  have hc0 := arrK_cells .u64 4 (wd 0)
  have hcr := arrK_cells .u64 4 (wd r)
  have hG0 : RgAt (((w.alloc (Obj.cells (arrK .u64 4 (wd xa)) 27)).alloc (Obj.cells (arrK .u64 4 (wd xb)) 27)).alloc (Obj.cells (arrK .u64 4 (wd 0)) 27)) g m o s v := ((h.old _).old _).old _
  have hG := Lib.hid hG0
  clear h hG0
  have hL0 : Below w.heap.size w (((w.alloc (Obj.cells (arrK .u64 4 (wd xa)) 27)).alloc (Obj.cells (arrK .u64 4 (wd xb)) 27)).alloc (Obj.cells (arrK .u64 4 (wd 0)) 27)) := by go_grown
  have hA0 : At (((w.alloc (Obj.cells (arrK .u64 4 (wd xa)) 27)).alloc (Obj.cells (arrK .u64 4 (wd xb)) 27)).alloc (Obj.cells (arrK .u64 4 (wd 0)) 27)) w.heap.size .u64 4 (wd xa) := ((At.new _ rfl).old _).old _
  have hB0 : At (((w.alloc (Obj.cells (arrK .u64 4 (wd xa)) 27)).alloc (Obj.cells (arrK .u64 4 (wd xb)) 27)).alloc (Obj.cells (arrK .u64 4 (wd 0)) 27)) (w.heap.size + 1) .u64 4 (wd xb) := (At.new _ (by simp)).old _
  have hR0 : Row (((w.alloc (Obj.cells (arrK .u64 4 (wd xa)) 27)).alloc (Obj.cells (arrK .u64 4 (wd xb)) 27)).alloc (Obj.cells (arrK .u64 4 (wd 0)) 27)) (w.heap.size + 1 + 1) 4 := (At.new (k := .u64) (f := wd 0) _ (by simp)).row
  have hL := Lib.hid hL0
  have hA := Lib.hid hA0
  have hB := Lib.hid hB0
  have hR := Lib.hid hR0
  clear hL0 hA0 hB0 hR0
  go_enter Try.func34, Try.ntmps34
  go_upto_region 1 with (fail)
  generalize ((w.alloc _).alloc _).alloc _ = W0 at *
  generalize ha0 : Act.mk _ _ = a0
  have e0 : a0.tmps[0]?.getD undef = .pointer (some ⟨g, 0, none⟩) := by rw [← ha0]; rfl
  have e4 : a0.tmps[4]?.getD undef = .pointer (some ⟨w.heap.size, 0, none⟩) := by rw [← ha0]; rfl
  have e5 : a0.tmps[5]?.getD undef = .pointer (some ⟨w.heap.size + 1, 0, none⟩) := by rw [← ha0]; rfl
  have e6 : a0.tmps[6]?.getD undef = .pointer (some ⟨w.heap.size + 1 + 1, 0, none⟩) := by rw [← ha0]; rfl
  have hz0 : a0.tmps.size = 14 := by rw [← ha0]; rfl
  have hha0 := Lib.hid ha0
  clear ha0
  refine wp_region_one (fun jx_ => match jx_ with | 0 => some (.pointer (some ⟨g, 0, none⟩)) | 1 => some (.pointer (some ⟨g, 0, none⟩)) | 2 => some (.agg (arrK .u64 4 (wd xa))) | 3 => some (.agg (arrK .u64 4 (wd x))) | 4 => some (.agg (arrK .u64 4 (wd xb))) | 5 => some (.agg (arrK .u64 8 (wd (t)))) | 6 => some (.agg (arrK .u64 4 (wd r))) | _ => none) 7 (w.heap.size + 1 + 1) 4 (arrK .u64 4 (wd r)) (by kernel_rfl) (by kernel_rfl) (by kernel_rfl) (slotsOk_of hz0 (by kernel_rfl)) (of_decide_eq_true (by kernel_rfl)) (Lib.hid hR.out).out ⟨?_, ?_, ?_, ?_, ?_, ?_, ?_, ?_, trivial⟩ ?_
  · refine one_before (by decide) (by kernel_rfl) (calm_step rfl fun aa ω κ hb hu hc hK => ?_)
    have h0 : aa.tmps[0]?.getD undef = .pointer (some ⟨g, 0, none⟩) := (hu 0 rfl).trans e0
    have hk := Lib.hid (fun w1 (h : Below ω.heap.size ω w1) => hK (.pointer (some ⟨g, 0, none⟩)) w1 rfl h)
    clear hK hu hc
    go_simp
    exact hk.out _ (Below.refl _ _)
  · refine one_before (by decide) (by kernel_rfl) (calm_step rfl fun aa ω κ hb hu hc hK => ?_)
    have h0 : aa.tmps[0]?.getD undef = .pointer (some ⟨g, 0, none⟩) := (hu 0 rfl).trans e0
    have hk := Lib.hid (fun w1 (h : Below ω.heap.size ω w1) => hK (.pointer (some ⟨g, 0, none⟩)) w1 rfl h)
    clear hK hu hc
    go_simp
    exact hk.out _ (Below.refl _ _)
  · refine one_before (by decide) (by kernel_rfl) (calm_step rfl fun aa ω κ hb hu hc hK => ?_)
    have h4 : aa.tmps[4]?.getD undef = .pointer (some ⟨w.heap.size, 0, none⟩) := (hu 4 rfl).trans e4
    have hk := Lib.hid (fun w1 (h : Below ω.heap.size ω w1) => hK (.agg (arrK .u64 4 (wd xa))) w1 rfl h)
    clear hK hu hc
    have hr1 := (hA.out.step hb).row
    have hr2 := (hA.out.step hb).eq
    go_simp
    exact hk.out _ (Below.refl _ _)
  · refine one_before (by decide) (by kernel_rfl) (calm_step rfl fun aa ω κ hb hu hc hK => ?_)
    have h8 : aa.tmps[8]?.getD undef = .pointer (some ⟨g, 0, none⟩) := hc 1 8 rfl rfl
    have h9 : aa.tmps[9]?.getD undef = .agg (arrK .u64 4 (wd xa)) := hc 2 9 rfl rfl
    have hk := Lib.hid (fun w1 (h : Below ω.heap.size ω w1) => hK (.agg (arrK .u64 4 (wd x))) w1 rfl h)
    clear hK hu hc
    go_simp
    go_at_call 39
    refine (kI.out _ (hG.out.step hb)).mono ?_
    rintro e w1 ⟨rfl, hb1⟩
    exact hk.out _ hb1
  · refine one_before (by decide) (by kernel_rfl) (calm_step rfl fun aa ω κ hb hu hc hK => ?_)
    have h5 : aa.tmps[5]?.getD undef = .pointer (some ⟨w.heap.size + 1, 0, none⟩) := (hu 5 rfl).trans e5
    have hk := Lib.hid (fun w1 (h : Below ω.heap.size ω w1) => hK (.agg (arrK .u64 4 (wd xb))) w1 rfl h)
    clear hK hu hc
    have hr1 := (hB.out.step hb).row
    have hr2 := (hB.out.step hb).eq
    go_simp
    exact hk.out _ (Below.refl _ _)
  · refine one_before (by decide) (by kernel_rfl) (calm_step rfl fun aa ω κ hb hu hc hK => ?_)
    have h10 : aa.tmps[10]?.getD undef = .agg (arrK .u64 4 (wd x)) := hc 3 10 rfl rfl
    have h11 : aa.tmps[11]?.getD undef = .agg (arrK .u64 4 (wd xb)) := hc 4 11 rfl rfl
    have hk := Lib.hid (fun w1 (h : Below ω.heap.size ω w1) => hK (.agg (arrK .u64 8 (wd (t)))) w1 rfl h)
    clear hK hu hc
    go_simp
    go_at_call 84
    refine (kM.out _).mono ?_
    rintro e w1 ⟨rfl, hb1⟩
    exact hk.out _ hb1
  · refine one_before (by decide) (by kernel_rfl) (calm_step rfl fun aa ω κ hb hu hc hK => ?_)
    have h7 : aa.tmps[7]?.getD undef = .pointer (some ⟨g, 0, none⟩) := hc 0 7 rfl rfl
    have h12 : aa.tmps[12]?.getD undef = .agg (arrK .u64 8 (wd (t))) := hc 5 12 rfl rfl
    have hk := Lib.hid (fun w1 (h : Below ω.heap.size ω w1) => hK (.agg (arrK .u64 4 (wd r))) w1 rfl h)
    clear hK hu hc
    go_simp
    go_at_call 36
    refine (kO.out _ (hG.out.step hb)).mono ?_
    rintro e w1 ⟨rfl, hb1⟩
    exact hk.out _ hb1
  · refine one_q (one_write rfl rfl fun aa ω κ hb hu hc hr hK => ?_)
    have h6 : aa.tmps[6]?.getD undef = .pointer (some ⟨w.heap.size + 1 + 1, 0, none⟩) := (hu 6 rfl).trans e6
    have h13 : aa.tmps[13]?.getD undef = .agg (arrK .u64 4 (wd r)) := hc 6 13 rfl rfl
    have hk := Lib.hid hK
    clear hK hu hc
    have hcc := hcr
    go_simp
    exact hk.out undef
  · intro a1 w1 hb1 hu1 hsz1 hdf1 hv1
    have ha0 := hha0.out
    subst ha0
    have he := act_patch (n := 14) [false, false, false, false, false, false, false, true, true, true, true, true, true, true] rfl (by kernel_rfl) hu1 hsz1 hdf1
    simp only [patch, cond_true, cond_false, Nat.reduceAdd] at he
    have hXz := Lib.hid ((At.put (k := .u64) (f := wd r) hR.out).below hb1 (by simpa using hR.out.lt))
    have hLz := Lib.hid (Below.trans (below_setRow (c := arrK .u64 4 (wd r)) hL.out (show w.heap.size ≤ w.heap.size + 1 + 1 by omega)) (hb1.mono (by simpa using hL.out.size)))
    clear hR hG hL kI kM kO hA hB
    clear hb1 hu1 hsz1 hdf1 hv1 hz0 hha0 e0 e4 e5 e6
    rw [he]
    clear he
    generalize a1.tmps[7]?.getD undef = x7 at *
    generalize a1.tmps[8]?.getD undef = x8 at *
    generalize a1.tmps[9]?.getD undef = x9 at *
    generalize a1.tmps[10]?.getD undef = x10 at *
    generalize a1.tmps[11]?.getD undef = x11 at *
    generalize a1.tmps[12]?.getD undef = x12 at *
    generalize a1.tmps[13]?.getD undef = x13 at *
    generalize w1 = W2 at *
    have hr1 := hXz.out.row
    have hr2 := hXz.out.eq
    go_wp2_with fail
    refine ret_row (p := 6) (ty := 27) (g := w.heap.size + 1 + 1) rfl Try.underlying27 rfl (by kernel_rfl) rfl hXz.out.row rfl ?_
    rw [hXz.out.eq]
    exact ⟨rfl, hLz.out⟩
end Go.Proofs.Ytgdiokklfihfoaa
