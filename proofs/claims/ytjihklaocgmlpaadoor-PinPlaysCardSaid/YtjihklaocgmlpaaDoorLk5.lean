/- Contracts of a lock: Try, Reset, Change, New. -/
import Derived.Test.YtjihklaocgmlpaaDoorLk4
import Derived.Test.YtjihklaocgmlpaaDoorTail2
namespace Go.Proofs.YtjihklaocgmlpaaDoor
open Go.ChangeShapes Go.WideShapes Go.ChangeAt Go.RowKit
set_option maxHeartbeats 1000000
set_option maxRecDepth 100000
attribute [local irreducible] arrV dgA sha lkA lockA
attribute [local go_sem ↓] load_lk store_lk load_lkp store_lkp load_o32 store_o32
attribute [local go_sem] isHead_mk isPart_mk offOf_mk blkOf_mk isAgg_mk cellsV_mk row_drew rowAt_drew row_new_cells row_old rowAt_new rowAt_old zeroD zeroLk zero_lk lockA_lk fold_pin lkA_size
theorem lk_Try0 (w0 : World) (g : Nat) (A : Option Addr) (c : Nat) (salt d : List UInt8) (B : Option Addr) (m e0 : Nat) (w : World) (h : LkAt w0 g A c salt d 0 w) :
    Calls Tryd.prog 25 #[.pointer (some ⟨g, 0, none⟩), .slice B m e0] w fun e w' => e = .returned (.int .i64 11) ∧ w = w' := by
  have c0 := h.left
  clear h
  go_enter Tryd.func25, Tryd.ntmps25
  go_wp2
  go_ret
  exact ⟨rfl, rfl⟩
set_option maxHeartbeats 4000000 in
theorem lk_Try (K : Nat → W32) (w0 : World) (g : Nat) (A : Option Addr) (c : Nat) (salt d : List UInt8) (n : Int) (B : Option Addr) (p : List UInt8) (m e0 : Nat) (w : World) (h : LkAt w0 g A c salt d n w) (hT : Tabs K w) (hp : Bs w B p e0) (hm : p.length = m) (h1 : 1 ≤ n) (h3 : n ≤ 3) :
    Calls Tryd.prog 25 #[.pointer (some ⟨g, 0, none⟩), .slice B m e0] w fun e w' => e = .returned (.int .i64 (if stretchL K salt p = d then 0 else 10)) ∧ LkAt w0 g A c salt d (if stretchL K salt p = d then 3 else n - 1) w' ∧ Kb g w w' := by
  have hcz := dgA_cells []
  have hxl := stretchL_len K salt p
  have hcx := dgA_cells (stretchL K salt p)
  have c33 := h.left
  have cc0 := h.cell0
  have hb0 : (n == 0) = false := by simp; omega
  have hC1 := Lib.hid (pin_Stretch K A salt salt.length c B p m e0 w hT h.salt hp rfl hm)
  have hlk := Lib.hid h
  have hgl := h.row.lt
  obtain ⟨sn, hsn⟩ : ∃ sn, salt.length = sn := ⟨_, rfl⟩
  rw [hsn] at cc0 hC1
  have hdl := h.dl
  obtain ⟨x, hx⟩ : ∃ x, stretchL K salt p = x := ⟨_, rfl⟩
  rw [hx] at hxl hcx hC1 ⊢
  obtain ⟨code, hcode⟩ : ∃ code : Int, (if x = d then (0 : Int) else 10) = code := ⟨_, rfl⟩
  obtain ⟨n', hn'⟩ : ∃ n' : Int, (if x = d then (3 : Int) else n - 1) = n' := ⟨_, rfl⟩
  rw [hcode, hn']
  have hHc := Lib.hid hcode
  have hHn := Lib.hid hn'
  clear h hT hp hm hsn hx hcode hn'
  go_enter Tryd.func25, Tryd.ntmps25
  go_wp2_with fail
  refine (hC1.out).mono ?_
  rintro e w1 ⟨rfl, hb1⟩
  have hl1 := hlk.out.step hb1
  have hz : Row (w1.alloc (Obj.cells (dgA []) 28)) w1.heap.size 32 := (row_new rfl).2 hcz.1
  have hst : (w1.alloc (Obj.cells (dgA []) 28)).setRow w1.heap.size (dgA x) = w1.alloc (Obj.cells (dgA x) 28) := setRow_new rfl
  have hlA := Lib.hid (hl1.step (below_alloc w1 (Obj.cells (dgA x) 28)))
  have hHB := Lib.hid (below_step (below_alloc w1 (Obj.cells (dgA x) 28)) hb1 (Nat.le_refl _))
  have f2 : Row (w1.alloc (Obj.cells (dgA x) 28)) w1.heap.size 32 := (row_new rfl).2 hcx.1
  have f3 : rowAt (w1.alloc (Obj.cells (dgA x) 28)) w1.heap.size = dgA x := rowAt_new rfl
  clear hC1 hlk hl1 hb1 c33 cc0
  go_wp2_with fail
  clear hz hst
  generalize w1.alloc (Obj.cells (dgA x) 28) = W1 at *
  generalize w1.heap.size = D at *
  generalize ha0 : Act.mk _ _ = a0
  have e0 : a0.tmps[0]?.getD undef = .pointer (some ⟨g, 0, none⟩) := by rw [← ha0]; rfl
  have e5 : a0.tmps[5]?.getD undef = .pointer (some ⟨D, 0, none⟩) := by rw [← ha0]; rfl
  have hz0 : a0.tmps.size = 39 := by rw [← ha0]; rfl
  have hha0 := Lib.hid ha0
  clear ha0
  refine wp_region_tailL (fun jx_ => match jx_ with | 0 => SRel.is (.slice (some ⟨D, 0, none⟩) 32 32) | 1 => SRel.is (.pointer (some ⟨g, 0, none⟩)) | 2 => SRel.is (.pointer (some ⟨g, 0, none⟩)) | 3 => SRel.is (.pointer (some ⟨g, 1, none⟩)) | 4 => SRel.is (.pointer (some ⟨g, 1, none⟩)) | 5 => SRel.is (.slice (some ⟨g, 1, none⟩) 32 32) | 6 => SRel.any | 7 => SRel.any | _ => SRel.any) 6 (by kernel_rfl) (by kernel_rfl) (by kernel_rfl) (slotsOk_of hz0 (by kernel_rfl)) (by kernel_rfl) (of_decide_eq_true (by kernel_rfl)) ⟨?_, ?_, ?_, ?_, ?_, ?_, trivial⟩ ?_
  · refine calmL_step rfl fun a ω κ hb hu hc hK => ?_
    have h5 : a.tmps[5]?.getD undef = .pointer (some ⟨D, 0, none⟩) := (hu 5 rfl).trans e5
    have hk := Lib.hid (fun w1 (h : Below ω.heap.size ω w1) => hK (.slice (some ⟨D, 0, none⟩) 32 32) w1 rfl h)
    clear hK hu hc
    go_simp
    exact hk.out _ (Below.refl _ _)
  · refine calmL_step rfl fun a ω κ hb hu hc hK => ?_
    have h0 : a.tmps[0]?.getD undef = .pointer (some ⟨g, 0, none⟩) := (hu 0 rfl).trans e0
    have hk := Lib.hid (fun w1 (h : Below ω.heap.size ω w1) => hK (.pointer (some ⟨g, 0, none⟩)) w1 rfl h)
    clear hK hu hc
    go_simp
    exact hk.out _ (Below.refl _ _)
  · refine calmL_step rfl fun a ω κ hb hu hc hK => ?_
    have h19 : a.tmps[19]?.getD undef = .pointer (some ⟨g, 0, none⟩) := hc 1 19 rfl rfl
    have hk := Lib.hid (fun w1 (h : Below ω.heap.size ω w1) => hK (.pointer (some ⟨g, 0, none⟩)) w1 rfl h)
    clear hK hu hc
    go_simp
    exact hk.out _ (Below.refl _ _)
  · refine calmL_step rfl fun a ω κ hb hu hc hK => ?_
    have h20 : a.tmps[20]?.getD undef = .pointer (some ⟨g, 0, none⟩) := hc 2 20 rfl rfl
    have hk := Lib.hid (fun w1 (h : Below ω.heap.size ω w1) => hK (.pointer (some ⟨g, 1, none⟩)) w1 rfl h)
    clear hK hu hc
    go_simp
    exact hk.out _ (Below.refl _ _)
  · refine calmL_step rfl fun a ω κ hb hu hc hK => ?_
    have h21 : a.tmps[21]?.getD undef = .pointer (some ⟨g, 1, none⟩) := hc 3 21 rfl rfl
    have hk := Lib.hid (fun w1 (h : Below ω.heap.size ω w1) => hK (.pointer (some ⟨g, 1, none⟩)) w1 rfl h)
    clear hK hu hc
    go_simp
    exact hk.out _ (Below.refl _ _)
  · refine calmL_step rfl fun a ω κ hb hu hc hK => ?_
    have h22 : a.tmps[22]?.getD undef = .pointer (some ⟨g, 1, none⟩) := hc 4 22 rfl rfl
    have hk := Lib.hid (fun w1 (h : Below ω.heap.size ω w1) => hK (.slice (some ⟨g, 1, none⟩) 32 32) w1 rfl h)
    clear hK hu hc
    go_simp
    exact hk.out _ (Below.refl _ _)
  · intro aa ω hb hu hsz hdf hc
    have h18 : aa.tmps[18]?.getD undef = .slice (some ⟨D, 0, none⟩) 32 32 := hc 0 18 (by decide) rfl
    have h19 : aa.tmps[19]?.getD undef = .pointer (some ⟨g, 0, none⟩) := hc 1 19 (by decide) rfl
    have h20 : aa.tmps[20]?.getD undef = .pointer (some ⟨g, 0, none⟩) := hc 2 20 (by decide) rfl
    have h21 : aa.tmps[21]?.getD undef = .pointer (some ⟨g, 1, none⟩) := hc 3 21 (by decide) rfl
    have h22 : aa.tmps[22]?.getD undef = .pointer (some ⟨g, 1, none⟩) := hc 4 22 (by decide) rfl
    have h23 : aa.tmps[23]?.getD undef = .slice (some ⟨g, 1, none⟩) 32 32 := hc 5 23 (by decide) rfl
    have ha0 := hha0.out
    subst ha0
    have he := act_patchL (n := 39) 6 [false, false, false, false, false, false, false, false, false, false, false, false, false, false, false, false, false, false, true, true, true, true, true, true, false, false, false, false, false, false, false, false, false, false, false, false, false, false, false] rfl (by kernel_rfl) hu hsz hdf
    simp only [patch, cond_true, cond_false, Nat.reduceAdd] at he
    clear hu hsz hdf hc hha0 e0 e5 hz0
    rw [he]
    clear he
    generalize aa.tmps[18]?.getD undef = x18 at *
    generalize aa.tmps[19]?.getD undef = x19 at *
    generalize aa.tmps[20]?.getD undef = x20 at *
    generalize aa.tmps[21]?.getD undef = x21 at *
    generalize aa.tmps[22]?.getD undef = x22 at *
    generalize aa.tmps[23]?.getD undef = x23 at *
    subst h18 h19 h20 h21 h22 h23
    dsimp only [List.drop]
    go_wp2_with fail
    have hl2 := hlA.out.step hb
    have hsame := Lib.hid (mac_Same (some ⟨D, 0, none⟩) x 32 (some ⟨g, 1, none⟩) d 32 ω (bs_row hxl (row_below f2 hb f2.lt) ((rowAt_below hb f2.lt).trans f3)) hl2.mark)
    rw [hxl, hdl] at hsame
    refine (hsame.out).mono ?_
    rintro e w4 ⟨rfl, hb4⟩
    have hl4 := hl2.step hb4
    have c33 := hl4.left
    have hfz := hl4.row.frozen 33
    have hH4 := Lib.hid hl4
    have hHK := Lib.hid (show Kb g w w4 from Kb.of (below_step hb4 (below_step hb hHB.out (Nat.le_refl _)) (Nat.le_refl _)))
    have hw : IntKind.i64.wrap (n - 1) = n - 1 := by rw [IntKind.wrap_i64]; omega
    clear hsame hl2 hlA hl4 hb f2 f3 hb4
    by_cases hxd : x = d
    · rw [if_pos hxd] at hHc hHn
      obtain rfl := hHc.out
      obtain rfl := hHn.out
      rw [decide_eq_true hxd]
      clear hxd
      go_wp2_with fail
      go_ret
      exact ⟨rfl, hH4.out.set 3, hHK.out.setCell _⟩
    · rw [if_neg hxd] at hHc hHn
      obtain rfl := hHc.out
      obtain rfl := hHn.out
      rw [decide_eq_false hxd]
      clear hxd
      go_wp2_with fail
      go_ret
      exact ⟨rfl, hH4.out.set (n - 1), hHK.out.setCell _⟩
end Go.Proofs.YtjihklaocgmlpaaDoor
