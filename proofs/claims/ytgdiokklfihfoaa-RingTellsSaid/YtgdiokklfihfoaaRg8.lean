/- Contracts of package ring: Pow. -/
import Derived.Test.YtgdiokklfihfoaaRg7
namespace Go.Proofs.Ytgdiokklfihfoaa
open Go.ChangeShapes Go.WideShapes Go.ChangeAt Go.RowKit
set_option maxHeartbeats 2000000
set_option maxRecDepth 100000
attribute [local go_sem ↓] load_fld load_num store_num execl_num execs_num load_wide store_wide execl_wide execs_wide
attribute [local go_sem] isHead_mk blkOf_mk isAgg_mk cellsV_mk row_drew rowAt_drew row_new_cells row_old rowAt_new rowAt_old setRow_new zeroNum zeroWide
/-- What Pow holds while s bits are still to come. -/
def powR (m a n s : Nat) : Nat := a ^ (n / 2 ^ s) * 2 ^ 256 % m
theorem powR_mo (m a n s : Nat) : Mo m (powR m a n s) (a ^ (n / 2 ^ s)) := rfl
theorem powR_lt {m o s v : Nat} (k : RgOk m o s v) (a n i : Nat) : powR m a n i < 2 ^ 256 := Nat.lt_trans (Nat.mod_lt _ k.pos) k.lt
theorem powR_start {m o s v : Nat} (k : RgOk m o s v) {a n i : Nat} (h : n < 2 ^ i) : powR m a n i = o := by
  unfold powR
  rw [Nat.div_eq_of_lt h, Nat.pow_zero, Nat.one_mul, k.one]
theorem powR_end {m o s v : Nat} (k : RgOk m o s v) (a n : Nat) : outN m (powR m a n 0) = a ^ n % m := by
  have h := (powR_mo m a n 0).out k.odd
  rwa [Nat.pow_zero, Nat.div_one] at h
theorem powR_zero {m o s v : Nat} (k : RgOk m o s v) {a n i : Nat} (h : abit n i = 0) : outN m (powR m a n (i + 1) * powR m a n (i + 1)) = powR m a n i := by
  have h1 := (powR_mo m a n (i + 1)).mul k.odd (powR_mo m a n (i + 1))
  unfold abit at h
  have h2 := pow_up a n i
  rw [h, Nat.pow_zero, Nat.mul_one] at h2
  rw [← h2] at h1
  exact h1
theorem powR_one {m o s v : Nat} (k : RgOk m o s v) {a n i x : Nat} (hx : x = a * 2 ^ 256 % m) (h : abit n i = 1) : outN m (outN m (powR m a n (i + 1) * powR m a n (i + 1)) * x) = powR m a n i := by
  have h1 := ((powR_mo m a n (i + 1)).mul k.odd (powR_mo m a n (i + 1))).mul k.odd (show Mo m x a from hx)
  unfold abit at h
  have h2 := pow_up a n i
  rw [h, Nat.pow_one] at h2
  rw [← h2] at h1
  exact h1
theorem ring_Pow {g m o s v : Nat} (k : RgOk m o s v) (a n : Nat) (w : World) (h : RgAt w g m o s v) (ha : a < 2 ^ 256) (hn : n < 2 ^ 256) : Calls Try.prog 37 #[.pointer (some ⟨g, 0, none⟩), numV a, numV n] w fun e w' => e = .returned (numV (a ^ n % m)) ∧ Below w.heap.size w w' := by
  have kI := Lib.hid (fun V (hV : RgAt V g m o s v) => ring_In k a V hV ha)
  rw [in_is k.odd k.one k.sq] at kI
  have hxl : a * 2 ^ 256 % m < 2 ^ 256 := Nat.lt_trans (Nat.mod_lt _ k.pos) k.lt
  have hlenC := Lib.hid (fun W => limb_Len n W hn)
  have hlen := Lib.hid (fun r => len_le (r := r) hn)
  have hM := Lib.hid (fun x y W (hx : x < 2 ^ 256) (hy : y < 2 ^ 256) => limb_Mul x y W hx hy)
  have hO := Lib.hid (fun x y V (hx : x < 2 ^ 256) (hy : y < 2 ^ 256) (hV : RgAt V g m o s v) => ring_OutC k (x * y) V hV (Nat.mul_lt_mul'' hx hy))
  have hO1 := Lib.hid (fun V (hV : RgAt V g m o s v) => ring_OutC k (powR m a n 0) V hV (Nat.lt_of_lt_of_le (powR_lt k a n 0) (Nat.le_mul_of_pos_right _ (Nat.pow_pos (by omega)))))
  rw [powR_end k] at hO1
  have hWi := Lib.hid (fun V => limb_Wide (powR m a n 0) 0 V (powR_lt k a n 0))
  rw [Nat.mul_zero, Nat.add_zero] at hWi
  have hpl := Lib.hid (powR_lt k a n)
  have hps := Lib.hid (fun i (h : n < 2 ^ i) => powR_start k (a := a) h)
  have hp0 := Lib.hid (fun i (h : abit n i = 0) => powR_zero k (a := a) h)
  have hp1 := Lib.hid (fun i (h : abit n i = 1) => powR_one k rfl (a := a) h)
  have hol := Lib.hid (fun T => k.ltN (T := T))
  obtain ⟨r, hr⟩ : ∃ r, a ^ n % m = r := ⟨_, rfl⟩
  rw [hr] at hO1 ⊢
  obtain ⟨x, hx⟩ : ∃ x, a * 2 ^ 256 % m = x := ⟨_, rfl⟩
  rw [hx] at kI hxl hp1
  obtain ⟨F, hF⟩ : ∃ F, powR m a n = F := ⟨_, rfl⟩
  rw [hF] at hpl hps hp0 hp1 hWi hO1
  have hxx := Lib.hid hxl
  clear hr hF hx ha hn hxl k
  unfold numV wideV at hM hO hO1 hWi
  unfold numV at kI hlenC
  have hcx := arrK_cells .u64 4 (wd x)
  have hco := arrK_cells .u64 4 (wd o)
  have hcr := arrK_cells .u64 4 (wd r)
  unfold numV
  have hc0 := arrK_cells .u64 4 (wd 0)
  have hgl := Lib.hid h.lt
  have hG0 : RgAt (((w.alloc (Obj.cells (arrK .u64 4 (wd a)) 27)).alloc (Obj.cells (arrK .u64 4 (wd n)) 27)).alloc (Obj.cells (arrK .u64 4 (wd 0)) 27)) g m o s v := ((h.old _).old _).old _
  have hG := Lib.hid hG0
  clear h hG0
  have hL0 : Below w.heap.size w (((w.alloc (Obj.cells (arrK .u64 4 (wd a)) 27)).alloc (Obj.cells (arrK .u64 4 (wd n)) 27)).alloc (Obj.cells (arrK .u64 4 (wd 0)) 27)) := by go_grown
  have hA0 : At (((w.alloc (Obj.cells (arrK .u64 4 (wd a)) 27)).alloc (Obj.cells (arrK .u64 4 (wd n)) 27)).alloc (Obj.cells (arrK .u64 4 (wd 0)) 27)) w.heap.size .u64 4 (wd a) := ((At.new _ rfl).old _).old _
  have hB0 : At (((w.alloc (Obj.cells (arrK .u64 4 (wd a)) 27)).alloc (Obj.cells (arrK .u64 4 (wd n)) 27)).alloc (Obj.cells (arrK .u64 4 (wd 0)) 27)) (w.heap.size + 1) .u64 4 (wd n) := (At.new _ (by simp)).old _
  have hR0 : Row (((w.alloc (Obj.cells (arrK .u64 4 (wd a)) 27)).alloc (Obj.cells (arrK .u64 4 (wd n)) 27)).alloc (Obj.cells (arrK .u64 4 (wd 0)) 27)) (w.heap.size + 1 + 1) 4 := (At.new (k := .u64) (f := wd 0) _ (by simp)).row
  have hL := Lib.hid hL0
  have hA := Lib.hid hA0
  have hB := Lib.hid hB0
  have hR := Lib.hid hR0
  clear hL0 hA0 hB0 hR0
  go_enter Try.func37, Try.ntmps37
  go_upto_region 1 with (fail)
  generalize ((w.alloc _).alloc _).alloc _ = W0 at *
  generalize ha0 : Act.mk _ _ = a0
  have e0 : a0.tmps[0]?.getD undef = .pointer (some ⟨g, 0, none⟩) := by rw [← ha0]; rfl
  have e4 : a0.tmps[4]?.getD undef = .pointer (some ⟨w.heap.size, 0, none⟩) := by rw [← ha0]; rfl
  have hz0 : a0.tmps.size = 43 := by rw [← ha0]; rfl
  have hha0 := Lib.hid ha0
  clear ha0
  refine wp_region_fresh ⟨fun jx_ => match jx_ with | 0 => some (.pointer (some ⟨g, 0, none⟩)) | 1 => some (.agg (arrK .u64 4 (wd a))) | 2 => some (.agg (arrK .u64 4 (wd x))) | 3 => some (.pointer (some ⟨g, 0, none⟩)) | 4 => some (.pointer (some ⟨g, 0, none⟩)) | 5 => some (.pointer (some ⟨g, 4, none⟩)) | 6 => some (.agg (arrK .u64 4 (wd o))) | _ => none, fun jx_ => match jx_ with | 7 => some 4 | 8 => some 4 | _ => none, fun jx_ => match jx_ with | 9 => some 7 | 10 => some 8 | _ => none, fun jx_ => match jx_ with | 9 => arrK .u64 4 (wd x) | 10 => arrK .u64 4 (wd o) | _ => #[]⟩ (by kernel_rfl) (by kernel_rfl) (by kernel_rfl) (slotsOk_of hz0 (by kernel_rfl)) rfl ⟨?_, ?_, ?_, ?_, ?_, ?_, ?_, ?_, ?_, ?_, ?_, trivial⟩ ?_
  · refine fstep_val rfl rfl (calm_step rfl fun aa ω κ hb hu hc hK => ?_)
    have h0 : aa.tmps[0]?.getD undef = .pointer (some ⟨g, 0, none⟩) := (hu 0 rfl).trans e0
    have hk := Lib.hid (fun w1 (h : Below ω.heap.size ω w1) => hK (.pointer (some ⟨g, 0, none⟩)) w1 rfl h)
    clear hK hu hc
    go_simp
    exact hk.out _ (Below.refl _ _)
  · refine fstep_val rfl rfl (calm_step rfl fun aa ω κ hb hu hc hK => ?_)
    have h4 : aa.tmps[4]?.getD undef = .pointer (some ⟨w.heap.size, 0, none⟩) := (hu 4 rfl).trans e4
    have hk := Lib.hid (fun w1 (h : Below ω.heap.size ω w1) => hK (.agg (arrK .u64 4 (wd a))) w1 rfl h)
    clear hK hu hc
    have hr1 := (hA.out.step hb).row
    have hr2 := (hA.out.step hb).eq
    go_simp
    exact hk.out _ (Below.refl _ _)
  · refine fstep_val rfl rfl (calm_step rfl fun aa ω κ hb hu hc hK => ?_)
    have h10 : aa.tmps[10]?.getD undef = .pointer (some ⟨g, 0, none⟩) := hc 0 10 rfl rfl
    have h11 : aa.tmps[11]?.getD undef = .agg (arrK .u64 4 (wd a)) := hc 1 11 rfl rfl
    have hk := Lib.hid (fun w1 (h : Below ω.heap.size ω w1) => hK (.agg (arrK .u64 4 (wd x))) w1 rfl h)
    clear hK hu hc
    go_simp
    go_at_call 39
    refine (kI.out _ (hG.out.step hb)).mono ?_
    rintro e w1 ⟨rfl, hb1⟩
    exact hk.out _ hb1
  · refine fstep_val rfl rfl (calm_step rfl fun aa ω κ hb hu hc hK => ?_)
    have h0 : aa.tmps[0]?.getD undef = .pointer (some ⟨g, 0, none⟩) := (hu 0 rfl).trans e0
    have hk := Lib.hid (fun w1 (h : Below ω.heap.size ω w1) => hK (.pointer (some ⟨g, 0, none⟩)) w1 rfl h)
    clear hK hu hc
    go_simp
    exact hk.out _ (Below.refl _ _)
  · refine fstep_val rfl rfl (calm_step rfl fun aa ω κ hb hu hc hK => ?_)
    have h13 : aa.tmps[13]?.getD undef = .pointer (some ⟨g, 0, none⟩) := hc 3 13 rfl rfl
    have hk := Lib.hid (fun w1 (h : Below ω.heap.size ω w1) => hK (.pointer (some ⟨g, 0, none⟩)) w1 rfl h)
    clear hK hu hc
    go_simp
    exact hk.out _ (Below.refl _ _)
  · refine fstep_val rfl rfl (calm_step rfl fun aa ω κ hb hu hc hK => ?_)
    have h14 : aa.tmps[14]?.getD undef = .pointer (some ⟨g, 0, none⟩) := hc 4 14 rfl rfl
    have hk := Lib.hid (fun w1 (h : Below ω.heap.size ω w1) => hK (.pointer (some ⟨g, 4, none⟩)) w1 rfl h)
    clear hK hu hc
    go_simp
    exact hk.out _ (Below.refl _ _)
  · refine fstep_val rfl rfl (calm_step rfl fun aa ω κ hb hu hc hK => ?_)
    have h15 : aa.tmps[15]?.getD undef = .pointer (some ⟨g, 4, none⟩) := hc 5 15 rfl rfl
    have hk := Lib.hid (fun w1 (h : Below ω.heap.size ω w1) => hK (.agg (arrK .u64 4 (wd o))) w1 rfl h)
    clear hK hu hc
    have hl := rg_1 (hG.out.step hb)
    have hl1 := hl.1
    have hl2 := hl.2
    go_simp
    exact hk.out _ (Below.refl _ _)
  · refine fstep_al (n := 4) rfl rfl fun aa ω κ hK => ?_
    have hk := Lib.hid hK
    clear hK
    go_simp
    exact hk.out _ _ hc0
  · refine fstep_al (n := 4) rfl rfl fun aa ω κ hK => ?_
    have hk := Lib.hid hK
    clear hK
    go_simp
    exact hk.out _ _ hc0
  · refine fstep_st (j := 7) (n := 4) (d := 7) rfl rfl rfl rfl rfl hcx.1 rfl rfl fun aa ω κ g hb hu hc hp hr hK => ?_
    have h12 : aa.tmps[12]?.getD undef = .agg (arrK .u64 4 (wd x)) := hc 2 12 rfl rfl
    have hk := Lib.hid hK
    clear hK hu hc
    have hcc := hcx
    go_simp
    exact hk.out undef
  · refine fstep_st (j := 8) (n := 4) (d := 8) rfl rfl rfl rfl rfl hco.1 rfl rfl fun aa ω κ g hb hu hc hp hr hK => ?_
    have h16 : aa.tmps[16]?.getD undef = .agg (arrK .u64 4 (wd o)) := hc 6 16 rfl rfl
    have hk := Lib.hid hK
    clear hK hu hc
    have hcc := hco
    go_simp
    exact hk.out undef
  · intro a1 w1 G I
    have ha0 := hha0.out
    subst ha0
    have he := act_patch (n := 43) [false, false, false, false, false, false, false, true, true, false, true, true, true, true, true, true, true, false, false, false, false, false, false, false, false, false, false, false, false, false, false, false, false, false, false, false, false, false, false, false, false, false, false] rfl (by kernel_rfl) I.un I.sz I.df
    simp only [patch, cond_true, cond_false, Nat.reduceAdd] at he
    have hal7 := I.al 7 7 4 rfl rfl rfl
    have hal8 := I.al 8 8 4 rfl rfl rfl
    have hlR := hR.out.lt
    replace hR := Lib.hid (row_below hR.out I.bel hR.out.lt)
    replace hB := Lib.hid (hB.out.step I.bel)
    replace hG := Lib.hid (hG.out.step I.bel)
    replace hL := Lib.hid (below_step I.bel hL.out (Nat.le_refl _))
    have hX7 := Lib.hid (show At w1 (G 7) .u64 4 (wd x) from ⟨(I.blk 7 4 rfl rfl).2, (I.row 9 7 rfl rfl).2.2⟩)
    have hX8 := Lib.hid (show At w1 (G 8) .u64 4 (wd o) from ⟨(I.blk 8 4 rfl rfl).2, (I.row 10 8 rfl rfl).2.2⟩)
    have hl7 := Lib.hid (show w.heap.size + 1 + 1 < G 7 from Nat.lt_of_lt_of_le hlR (I.blk 7 4 rfl rfl).1)
    have hl8 := Lib.hid (show w.heap.size + 1 + 1 < G 8 from Nat.lt_of_lt_of_le hlR (I.blk 8 4 rfl rfl).1)
    have hne := Lib.hid (I.ne 7 8 4 4 rfl rfl rfl rfl (by decide))
    clear hlR hA kI
    clear I hz0 hha0 e0 e4
    rw [he]
    clear he
    rw [hal7]
    rw [hal8]
    clear hal7 hal8
    generalize a1.tmps[10]?.getD undef = x10 at *
    generalize a1.tmps[11]?.getD undef = x11 at *
    generalize a1.tmps[12]?.getD undef = x12 at *
    generalize a1.tmps[13]?.getD undef = x13 at *
    generalize a1.tmps[14]?.getD undef = x14 at *
    generalize a1.tmps[15]?.getD undef = x15 at *
    generalize a1.tmps[16]?.getD undef = x16 at *
    obtain ⟨g7, hgz⟩ : ∃ g, G 7 = g := ⟨_, rfl⟩
    rw [hgz] at hX7 hl7 hne ⊢
    clear hgz
    obtain ⟨g8, hgz⟩ : ∃ g, G 8 = g := ⟨_, rfl⟩
    rw [hgz] at hX8 hl8 hne ⊢
    clear hgz
    generalize w1 = W1 at *
    have hr1 := hB.out.row
    have hr2 := hB.out.eq
    go_wp2_with fail
    refine (hlenC.out _).mono ?_
    rintro e w2 ⟨S, rfl, hs, hb2⟩
    have hs1 := hlen.out S hs
    have hF1 := hps.out S hs.1
    replace hB := Lib.hid (hB.out.step hb2)
    replace hG := Lib.hid (hG.out.step hb2)
    have hA := Lib.hid (hX7.out.step hb2)
    have hX := Lib.hid (hX8.out.step hb2)
    rw [← hF1] at hX
    replace hR := Lib.hid (row_below hR.out hb2 hR.out.lt)
    replace hL := Lib.hid (below_step hb2 hL.out (Nat.le_refl _))
    clear hr1 hr2 hX7 hX8 hb2 hs hF1 hps hlen hlenC
    dsimp only
    have hwr : IntKind.i64.wrap ((S : Int) - 1) = (S : Int) - 1 := by rw [IntKind.wrap_i64]; omega
    go_wp2_with fail
    clear hwr
    go_loopw [9] (fun i wr => ∃ s' : Nat, i = .int .i64 ((s' : Int) - 1) ∧ s' ≤ 256 ∧ Hid (At wr g7 .u64 4 (wd x)) ∧ Hid (At wr (w.heap.size + 1) .u64 4 (wd n)) ∧ Hid (Row wr (w.heap.size + 1 + 1) 4) ∧ Hid (At wr g8 .u64 4 (wd (F s'))) ∧ Hid (RgAt wr g m o s v) ∧ Hid (Below w.heap.size w wr)) (fun i _ => (intOf i + 1).toNat)
    case atStart => exact ⟨S, rfl, hs1, hA, hB, hR, hX, hG, hL⟩
    case round =>
      clear hA hB hR hX hG hL hs1
      obtain ⟨t, rfl, hs1, hA, hB, hR, hX, hG, hL⟩ := hrel
      rcases Nat.eq_zero_or_pos t with rfl | hs0
      · have hr1 := hX.out.row
        have hr2 := hX.out.eq
        rw [show (((0 : Nat) : Int) - 1) = -1 from rfl]
        clear hp0 hp1 hM hO
        go_wp2_with fail
        refine (hWi.out _).mono ?_
        rintro e w3 ⟨rfl, hb3⟩
        replace hG := Lib.hid (hG.out.step hb3)
        replace hR := Lib.hid (row_below hR.out hb3 hR.out.lt)
        replace hL := Lib.hid (below_step hb3 hL.out (Nat.le_refl _))
        clear hr1 hr2 hX hA hB hb3 hWi
        have hGG := hG.out
        dsimp only
        go_wp2_with fail
        refine (hO1.out _ hGG).mono ?_
        rintro e w4 ⟨rfl, hb3⟩
        have hR2 := row_below hR.out hb3 hR.out.lt
        have hL2 := below_step hb3 hL.out (Nat.le_refl _)
        clear hR hG hL hb3 hGG hO1
        dsimp only
        go_wp2_with fail
        exact ret_stored (p := 6) (ty := 27) (g := w.heap.size + 1 + 1) (n := 4) (c := arrK .u64 4 (wd r)) rfl Try.underlying27 rfl (by kernel_rfl) rfl hR2 hcr.1 rfl ⟨rfl, below_setRow hL2 (by omega)⟩
      · obtain ⟨i, rfl⟩ : ∃ i, t = i + 1 := ⟨t - 1, by omega⟩
        rw [show (((i + 1 : Nat) : Int) - 1) = (i : Int) by omega]
        have hbit := Lib.hid (fun W => bitC n i (by omega) W)
        have hM1 := Lib.hid (fun W => hM.out (F (i + 1)) (F (i + 1)) W (hpl.out _) (hpl.out _))
        have hO2 := Lib.hid (fun V hV => hO.out (F (i + 1)) (F (i + 1)) V (hpl.out _) (hpl.out _) hV)
        have hr1 := hX.out.row
        have hr2 := hX.out.eq
        have hlo : w.heap.size ≤ g8 := by have := hl8.out; omega
        have hg8 : g ≠ g8 := by have := hl8.out; have := hgl.out; omega
        have hb8 : w.heap.size + 1 ≠ g8 := by have := hl8.out; omega
        have hc8 : w.heap.size + 1 + 1 ≠ g8 := by have := hl8.out; omega
        clear hO1 hWi
        go_wp2_with fail
        refine (hM1.out _).mono ?_
        rintro e w3 ⟨rfl, hb3⟩
        replace hA := Lib.hid (hA.out.step hb3)
        replace hB := Lib.hid (hB.out.step hb3)
        replace hG := Lib.hid (hG.out.step hb3)
        replace hX := Lib.hid (hX.out.step hb3)
        replace hR := Lib.hid (row_below hR.out hb3 hR.out.lt)
        replace hL := Lib.hid (below_step hb3 hL.out (Nat.le_refl _))
        clear hr1 hr2 hb3 hM1
        have hGG := hG.out
        dsimp only
        go_wp2_with fail
        refine (hO2.out _ hGG).mono ?_
        rintro e w4 ⟨rfl, hb3⟩
        obtain ⟨z, hz⟩ : ∃ z, outN m (F (i + 1) * F (i + 1)) = z := ⟨_, rfl⟩
        have hp0i := hp0.out i
        have hp1i := hp1.out i
        have hzl : z < 2 ^ 256 := hz ▸ hol.out _
        rw [hz] at hp0i hp1i ⊢
        have hA3 := hA.out.step hb3
        have hB3 := hB.out.step hb3
        have hG3 := hG.out.step hb3
        have hX3 := row_below hX.out.row hb3 hX.out.lt
        have hR3 := row_below hR.out hb3 hR.out.lt
        have hL3 := below_step hb3 hL.out (Nat.le_refl _)
        have hA4 := Lib.hid (hA3.far (c := arrK .u64 4 (wd z)) hne.out)
        have hB4 := Lib.hid (hB3.far (c := arrK .u64 4 (wd z)) hb8)
        have hG4 := Lib.hid (hG3.far (c := arrK .u64 4 (wd z)) hg8)
        have hR4 := Lib.hid ((row_setRow_far (c' := arrK .u64 4 (wd z)) hc8).2 hR3)
        have hX4 := Lib.hid (At.put (k := .u64) (f := wd z) hX3)
        have hL4 := Lib.hid (below_setRow (c := arrK .u64 4 (wd z)) hL3 hlo)
        have hMz := Lib.hid (fun W => hM.out z x W hzl hxx.out)
        have hOz := Lib.hid (fun V hV => hO.out z x V hzl hxx.out hV)
        clear hGG hA hB hX hR hG hL hA3 hB3 hR3 hG3 hL3 hO2 hz hb3 hp0 hp1
        have hcz2 := arrK_cells .u64 4 (wd z)
        have hr1 := hB4.out.row
        have hr2 := hB4.out.eq
        dsimp only
        go_wp2_with fail
        refine (hbit.out _).mono ?_
        rintro e w5 ⟨rfl, hb5⟩
        have hA := Lib.hid (hA4.out.step hb5)
        have hB := Lib.hid (hB4.out.step hb5)
        have hX := Lib.hid (hX4.out.step hb5)
        have hG := Lib.hid (hG4.out.step hb5)
        have hR := Lib.hid (row_below hR4.out hb5 hR4.out.lt)
        have hL := Lib.hid (below_step hb5 hL4.out (Nat.le_refl _))
        clear hr1 hr2 hA4 hB4 hX4 hR4 hG4 hL4 hX3 hb5
        dsimp only
        rcases abit_or n i with hbi | hbi
        · rw [hbi, show ((0 : Nat) : Int) = 0 from rfl]
          have hzi := hp0i hbi
          subst hzi
          clear hp1i hMz hOz
          go_wp2_with fail
          go_roundw
          case rel => exact ⟨i, rfl, by omega, hA, hB, hR, hX, hG, hL⟩
          case measure => simp [intOf]
        · rw [hbi, show ((1 : Nat) : Int) = 1 from rfl]
          have hzi := Lib.hid (hp1i hbi)
          have hr1 := hX.out.row
          have hr2 := hX.out.eq
          have hr3 := hA.out.row
          have hr4 := hA.out.eq
          clear hp0i hp1i
          go_wp2_with fail
          refine (hMz.out _).mono ?_
          rintro e w6 ⟨rfl, hb3⟩
          replace hA := Lib.hid (hA.out.step hb3)
          replace hB := Lib.hid (hB.out.step hb3)
          replace hG := Lib.hid (hG.out.step hb3)
          replace hX := Lib.hid (hX.out.step hb3)
          replace hR := Lib.hid (row_below hR.out hb3 hR.out.lt)
          replace hL := Lib.hid (below_step hb3 hL.out (Nat.le_refl _))
          clear hr1 hr2 hr3 hr4 hb3 hMz
          have hGG := hG.out
          dsimp only
          go_wp2_with fail
          refine (hOz.out _ hGG).mono ?_
          rintro e w7 ⟨rfl, hb6⟩
          rw [hzi.out]
          have hA6 := hA.out.step hb6
          have hB6 := hB.out.step hb6
          have hG6 := hG.out.step hb6
          have hX6 := row_below hX.out.row hb6 hX.out.lt
          have hR6 := row_below hR.out hb6 hR.out.lt
          have hL6 := below_step hb6 hL.out (Nat.le_refl _)
          have hA7 := Lib.hid (hA6.far (c := arrK .u64 4 (wd (F i))) hne.out)
          have hB7 := Lib.hid (hB6.far (c := arrK .u64 4 (wd (F i))) hb8)
          have hG7 := Lib.hid (hG6.far (c := arrK .u64 4 (wd (F i))) hg8)
          have hR7 := Lib.hid ((row_setRow_far (c' := arrK .u64 4 (wd (F i))) hc8).2 hR6)
          have hX7 := Lib.hid (At.put (k := .u64) (f := wd (F i)) hX6)
          have hL7 := Lib.hid (below_setRow (c := arrK .u64 4 (wd (F i))) hL6 hlo)
          have hcz3 := arrK_cells .u64 4 (wd (F i))
          clear hGG hb6 hA6 hB6 hR6 hG6 hL6 hA hB hX hR hG hL hzi hOz
          dsimp only
          go_wp2_with fail
          go_roundw
          case rel => exact ⟨i, rfl, by omega, hA7, hB7, hR7, hX7, hG7, hL7⟩
          case measure => simp [intOf]
end Go.Proofs.Ytgdiokklfihfoaa
