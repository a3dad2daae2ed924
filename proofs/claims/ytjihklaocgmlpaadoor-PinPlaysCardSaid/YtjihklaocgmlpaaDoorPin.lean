/- Contracts of package pin's Stretch and of the document's Stretched. -/
import Derived.Test.YtjihklaocgmlpaaDoorMac5
import Derived.Test.YtjihklaocgmlpaaDoorMacL
import Derived.Test.YtjihklaocgmlpaaDoorTail
namespace Go.Proofs.YtjihklaocgmlpaaDoor
open Go.ChangeShapes Go.WideShapes Go.ChangeAt Go.RowKit
set_option maxHeartbeats 1000000
set_option maxRecDepth 100000
/-- A PIN stretched j times. -/
def stretchF (K : Nat → W32) (salt p : List UInt8) : Nat → List UInt8
  | 0 => markL K salt p
  | j + 1 => markL K salt (stretchF K salt p j ++ p)
def stretchL (K : Nat → W32) (salt p : List UInt8) : List UInt8 := stretchF K salt p 8
theorem markL_len (K : Nat → W32) (k p : List UInt8) : (markL K k p).length = 32 := sha_len _ _
theorem stretchF_len (K : Nat → W32) (salt p : List UInt8) : ∀ j, (stretchF K salt p j).length = 32
  | 0 => markL_len _ _ _
  | _ + 1 => markL_len _ _ _
theorem stretchL_len (K : Nat → W32) (salt p : List UInt8) : (stretchL K salt p).length = 32 := stretchF_len _ _ _ _
theorem bs_row {w : World} {g : Nat} {l : List UInt8} (hl : l.length = 32) (hR : Row w g 32) (hr : rowAt w g = dgA l) : Bs w (some ⟨g, 0, none⟩) l 32 := rd_of_row hl hR hr
attribute [local irreducible] arrV dgA sha macA macZ b64A markL
attribute [local go_sem ↓] load_o32 store_o32 execl_o32 execs_o32
attribute [local go_sem] isHead_mk isPart_mk offOf_mk blkOf_mk isAgg_mk cellsV_mk row_drew rowAt_drew row_new_cells row_old rowAt_new rowAt_old zeroD bs_app
set_option maxHeartbeats 4000000 in
theorem pin_Stretch (K : Nat → W32) (A : Option Addr) (salt : List UInt8) (n c : Nat) (B : Option Addr) (p : List UInt8) (m d : Nat) (w : World) (hT : Tabs K w) (hs : Bs w A salt c) (hp : Bs w B p d) (hn : salt.length = n) (hm : p.length = m) :
    Calls Tryd.prog 28 #[.slice A n c, .slice B m d] w fun e w' => e = .returned (.agg (dgA (stretchL K salt p))) ∧ Below w.heap.size w w' := by
  have hcz := dgA_cells []
  have hL0 := below_alloc w (Obj.cells (dgA []) 28)
  have hR0 : Row (w.alloc (Obj.cells (dgA []) 28)) w.heap.size 32 := (row_new rfl).2 hcz.1
  have hHT := Lib.hid hT
  have hHs := Lib.hid hs
  have hHp := Lib.hid hp
  have hHn := Lib.hid hn
  have hHm := Lib.hid hm
  have hc1 := hn ▸ hm ▸ mac_Sum K A salt c B p d _ (hT.step hL0) (hs.step hL0) (hp.step hL0)
  have hC1 := Lib.hid hc1
  have hcx := dgA_cells (markL K salt p)
  clear hT hs hp hn hm hc1
  go_enter Tryd.func28, Tryd.ntmps28
  go_wp2_with fail
  refine (hC1.out).mono ?_
  rintro e w1 ⟨rfl, hb1⟩
  have hL1 := below_step hb1 hL0 (Nat.le_refl _)
  have hR1 := row_below hR0 hb1 hR0.lt
  have hz : Row (w1.alloc (Obj.cells (dgA []) 28)) w1.heap.size 32 := (row_new rfl).2 hcz.1
  have hL2 := below_step (below_alloc w1 (Obj.cells (dgA []) 28)) hL1 (Nat.le_refl _)
  have f1 := Lib.hid (show Below w.heap.size w ((w1.alloc (Obj.cells (dgA []) 28)).setRow w1.heap.size (dgA (markL K salt p))) from below_setRow hL2 (Nat.le_trans hL0.size hb1.size))
  have hlt : w.heap.size < w1.heap.size := hR1.lt
  have f2 : Row ((w1.alloc (Obj.cells (dgA []) 28)).setRow w1.heap.size (dgA (markL K salt p))) w.heap.size 32 := (row_setRow_far (by omega)).2 (row_below hR1 (below_alloc _ _) hR1.lt)
  have f3 : Row ((w1.alloc (Obj.cells (dgA []) 28)).setRow w1.heap.size (dgA (markL K salt p))) w1.heap.size 32 := (row_setRow_same rfl hz).2 hcx.1
  have f4 : rowAt ((w1.alloc (Obj.cells (dgA []) 28)).setRow w1.heap.size (dgA (markL K salt p))) w1.heap.size = dgA (markL K salt p) := rowAt_setRow_same hz
  clear hb1 hL0 hR0 hC1 hL1 hR1 hz hL2
  go_wp2_with fail
  generalize ((w1.alloc (Obj.cells (dgA []) 28)).setRow w1.heap.size (dgA (markL K salt p))) = W1 at *
  generalize w1.heap.size = D at *
  go_loopw [9] (fun vi wr => ∃ (j : Nat), vi = .int .i64 (j : Nat) ∧ j ≤ 8 ∧ Hid (Below w.heap.size w wr) ∧ Row wr w.heap.size 32 ∧ Row wr D 32 ∧ rowAt wr D = dgA (stretchF K salt p j)) (fun vi _ => 8 - (intOf vi).toNat)
  case atStart => exact ⟨0, rfl, by omega, f1, f2, f3, f4⟩
  case round =>
    obtain ⟨j, rfl, hj, hb, g2, g3, g4⟩ := hrel
    clear f1 f2 f3 f4 hcx
    have hxl := stretchF_len K salt p j
    have hcx := dgA_cells (stretchF K salt p j)
    by_cases h8 : j < 8
    · have d1 : decide ((j : Int) < (8 : Int)) = true := by simp; omega
      have hw1 : IntKind.i64.wrap ((j : Int) + 1) = (j : Int) + 1 := by rw [IntKind.wrap_i64]; omega
      have hTr := Lib.hid (hHT.out.step hb.out)
      have hsr := Lib.hid (hHs.out.step hb.out)
      have hpr := Lib.hid (hHp.out.step hb.out)
      have hS := Lib.hid (show ∀ V : World, Below wr.heap.size wr V → Row V D 32 ∧ rowAt V D = dgA (stretchF K salt p j) ∧ Row V w.heap.size 32 ∧ Below w.heap.size w V ∧ Bs V (some ⟨D, 0, none⟩) (stretchF K salt p j) 32 from fun V hV =>
        ⟨row_below g3 hV g3.lt, (rowAt_below hV g3.lt).trans g4, row_below g2 hV g2.lt, below_step hV hb.out (Nat.le_refl _), bs_row hxl (row_below g3 hV g3.lt) ((rowAt_below hV g3.lt).trans g4)⟩)
      have c1 := Lib.hid (fun V (h : Below wr.heap.size wr V) => hHn.out ▸ mac_New K A salt c V (hTr.out.step h) (hsr.out.step h))
      have c2 := Lib.hid (fun V (h : Below wr.heap.size wr V) => mac_Write K (keyL K salt) [] (some ⟨D, 0, none⟩) (stretchF K salt p j) 32 V (hTr.out.step h) (hS.out V h).2.2.2.2)
      have c3 := Lib.hid (fun V (h : Below wr.heap.size wr V) => hHm.out ▸ mac_Write K (keyL K salt) (stretchF K salt p j) B p d V (hTr.out.step h) (hpr.out.step h))
      have c4 := Lib.hid (fun V (h : Below wr.heap.size wr V) => mac_StMark K salt (stretchF K salt p j ++ p) V (hTr.out.step h))
      rw [List.nil_append, hxl] at c2
      have hsj := Lib.hid (show stretchF K salt p (j + 1) = markL K salt (stretchF K salt p j ++ p) from rfl)
      have hcn := dgA_cells (markL K salt (stretchF K salt p j ++ p))
      generalize markL K salt (stretchF K salt p j ++ p) = z at *
      generalize macA K (keyL K salt) [] = s0 at *
      generalize macA K (keyL K salt) (stretchF K salt p j ++ p) = s2 at *
      generalize macA K (keyL K salt) (stretchF K salt p j) = s1 at *
      generalize stretchF K salt p j = x at *
      clear hTr hsr hpr
      go_wp2_with fail
      generalize ha0 : Act.mk _ _ = a0
      have e0 : a0.tmps[0]?.getD undef = .slice A n c := by rw [← ha0]; rfl
      have e1 : a0.tmps[1]?.getD undef = .slice B m d := by rw [← ha0]; rfl
      have e5 : a0.tmps[5]?.getD undef = .pointer (some ⟨D, 0, none⟩) := by rw [← ha0]; rfl
      have hz0 : a0.tmps.size = 20 := by rw [← ha0]; rfl
      have hha0 := Lib.hid ha0
      clear ha0
      refine wp_region_tail (fun jx_ => match jx_ with | 0 => SRel.is (.slice A n c) | 1 => SRel.is (.agg s0) | 2 => SRel.is (.slice (some ⟨D, 0, none⟩) 32 32) | 3 => SRel.is (.agg s1) | 4 => SRel.is (.slice B m d) | 5 => SRel.is (.agg s2) | 6 => SRel.is (.agg (dgA z)) | 7 => SRel.any | _ => SRel.any) 7 (by kernel_rfl) (by kernel_rfl) (by kernel_rfl) (slotsOk_of hz0 (by kernel_rfl)) (by kernel_rfl) ⟨?_, ?_, ?_, ?_, ?_, ?_, ?_, ?_, trivial⟩ (of_decide_eq_true (by kernel_rfl))
      · rw [if_neg (by decide)]
        refine calmT_step rfl fun a ω κ hb hu hc hK => ?_
        have h0 : a.tmps[0]?.getD undef = .slice A n c := (hu 0 rfl).trans e0
        have hk := Lib.hid (fun w1 (h : Below ω.heap.size ω w1) => hK (.slice A n c) w1 rfl h)
        clear hK hu hc
        go_simp
        exact hk.out _ (Below.refl _ _)
      · rw [if_neg (by decide)]
        refine calmT_step rfl fun a ω κ hb hu hc hK => ?_
        have h11 : a.tmps[11]?.getD undef = .slice A n c := hc 0 11 rfl rfl
        have hk := Lib.hid (fun w1 (h : Below ω.heap.size ω w1) => hK (.agg s0) w1 rfl h)
        clear hK hu hc
        go_simp
        go_at_call 43
        refine (c1.out ω hb).mono ?_
        rintro e w1 ⟨rfl, hb1⟩
        exact hk.out _ hb1
      · rw [if_neg (by decide)]
        refine calmT_step rfl fun a ω κ hb hu hc hK => ?_
        have h5 : a.tmps[5]?.getD undef = .pointer (some ⟨D, 0, none⟩) := (hu 5 rfl).trans e5
        have hk := Lib.hid (fun w1 (h : Below ω.heap.size ω w1) => hK (.slice (some ⟨D, 0, none⟩) 32 32) w1 rfl h)
        clear hK hu hc
        have b1 := (hS.out ω hb).1
        go_simp
        exact hk.out _ (Below.refl _ _)
      · rw [if_neg (by decide)]
        refine calmT_step rfl fun a ω κ hb hu hc hK => ?_
        have h12 : a.tmps[12]?.getD undef = .agg s0 := hc 1 12 rfl rfl
        have h13 : a.tmps[13]?.getD undef = .slice (some ⟨D, 0, none⟩) 32 32 := hc 2 13 rfl rfl
        have hk := Lib.hid (fun w1 (h : Below ω.heap.size ω w1) => hK (.agg s1) w1 rfl h)
        clear hK hu hc
        go_simp
        go_at_call 44
        refine (c2.out ω hb).mono ?_
        rintro e w1 ⟨rfl, hb1⟩
        exact hk.out _ hb1
      · rw [if_neg (by decide)]
        refine calmT_step rfl fun a ω κ hb hu hc hK => ?_
        have h1 : a.tmps[1]?.getD undef = .slice B m d := (hu 1 rfl).trans e1
        have hk := Lib.hid (fun w1 (h : Below ω.heap.size ω w1) => hK (.slice B m d) w1 rfl h)
        clear hK hu hc
        go_simp
        exact hk.out _ (Below.refl _ _)
      · rw [if_neg (by decide)]
        refine calmT_step rfl fun a ω κ hb hu hc hK => ?_
        have h14 : a.tmps[14]?.getD undef = .agg s1 := hc 3 14 rfl rfl
        have h15 : a.tmps[15]?.getD undef = .slice B m d := hc 4 15 rfl rfl
        have hk := Lib.hid (fun w1 (h : Below ω.heap.size ω w1) => hK (.agg s2) w1 rfl h)
        clear hK hu hc
        go_simp
        go_at_call 44
        refine (c3.out ω hb).mono ?_
        rintro e w1 ⟨rfl, hb1⟩
        exact hk.out _ hb1
      · rw [if_neg (by decide)]
        refine calmT_step rfl fun a ω κ hb hu hc hK => ?_
        have h16 : a.tmps[16]?.getD undef = .agg s2 := hc 5 16 rfl rfl
        have hk := Lib.hid (fun w1 (h : Below ω.heap.size ω w1) => hK (.agg (dgA z)) w1 rfl h)
        clear hK hu hc
        go_simp
        go_at_call 45
        refine (c4.out ω hb).mono ?_
        rintro e w1 ⟨rfl, hb1⟩
        exact hk.out _ hb1
      · rw [if_pos rfl]
        refine last_of rfl fun aa ω hb hu hsz hdf hc => ?_
        have h5 : aa.tmps[5]?.getD undef = .pointer (some ⟨D, 0, none⟩) := (hu 5 rfl).trans e5
        have h17 : aa.tmps[17]?.getD undef = .agg (dgA z) := hc 6 17 (by decide) rfl
        have hHz := Lib.hid (And.intro hu (And.intro hsz hdf))
        clear hc hu hsz hdf hz0
        have b1 := (hS.out ω hb).1
        have b3 := Lib.hid (hS.out ω hb)
        go_simp
        have ha0 := hha0.out
        subst ha0
        have he := act_patchT (n := 20) 7 [false, false, false, false, false, false, false, false, false, false, false, true, true, true, true, true, true, true, false, false] rfl (by kernel_rfl) hHz.out.1 hHz.out.2.1 hHz.out.2.2
        simp only [patch, cond_true, cond_false, Nat.reduceAdd] at he
        clear hHz hha0 e0 e1 e5
        rw [he]
        clear he
        generalize aa.tmps[11]?.getD undef = x11 at *
        generalize aa.tmps[12]?.getD undef = x12 at *
        generalize aa.tmps[13]?.getD undef = x13 at *
        generalize aa.tmps[14]?.getD undef = x14 at *
        generalize aa.tmps[15]?.getD undef = x15 at *
        generalize aa.tmps[16]?.getD undef = x16 at *
        generalize aa.tmps[17]?.getD undef = x17 at *
        clear hS c1 c2 c3 c4
        go_wp2_with fail
        go_roundw
        case rel => exact ⟨j + 1, rfl, by omega, Lib.hid (below_setRow b3.out.2.2.2.1 (by omega)), (row_setRow_far (by omega)).2 b3.out.2.2.1, (row_setRow_same rfl b1).2 hcn.1, by rw [hsj.out]; exact rowAt_setRow_same b1⟩
        case measure => simp [intOf]; omega
    · have d1 : decide ((j : Int) < (8 : Int)) = false := by simp; omega
      obtain rfl : j = 8 := by omega
      rw [show ((8 : Nat) : Int) = (8 : Int) from rfl] at *
      go_wp2_with fail
      exact ret_stored (p := 4) (ty := 28) (g := w.heap.size) (n := 32) (c := dgA (stretchF K salt p 8)) rfl Tryd.underlying28 rfl (by kernel_rfl) rfl g2 hcx.1 rfl ⟨rfl, below_setRow hb.out (Nat.le_refl _)⟩
set_option maxHeartbeats 4000000 in
theorem ref_Stretched (K : Nat → W32) (salt p : List UInt8) (w : World) (hT : Tabs K w) (hs : salt.length ≤ 140737488351232) (hp : p.length ≤ 140737488351232) :
    Calls Tryd.prog 24 #[strV salt, strV p] w fun e w' => e = .returned (.agg (dgA (stretchL K salt p))) ∧ Below w.heap.size w w' := by
  have hcz := dgA_cells []
  have hL0 := below_alloc w (Obj.cells (dgA []) 28)
  have hR0 : Row (w.alloc (Obj.cells (dgA []) 28)) w.heap.size 32 := (row_new rfl).2 hcz.1
  have hHT := Lib.hid hT
  have hC1 := Lib.hid (ref_Mark K salt p _ (hT.step hL0) (by omega) (by omega))
  have hcx := dgA_cells (markL K salt p)
  clear hT
  go_enter Tryd.func24, Tryd.ntmps24
  go_wp2_with fail
  refine (hC1.out).mono ?_
  rintro e w1 ⟨rfl, hb1⟩
  have hL1 := below_step hb1 hL0 (Nat.le_refl _)
  have hR1 := row_below hR0 hb1 hR0.lt
  have hz : Row (w1.alloc (Obj.cells (dgA []) 28)) w1.heap.size 32 := (row_new rfl).2 hcz.1
  have hL2 := below_step (below_alloc w1 (Obj.cells (dgA []) 28)) hL1 (Nat.le_refl _)
  have f1 := Lib.hid (show Below w.heap.size w ((w1.alloc (Obj.cells (dgA []) 28)).setRow w1.heap.size (dgA (markL K salt p))) from below_setRow hL2 (Nat.le_trans hL0.size hb1.size))
  have hlt : w.heap.size < w1.heap.size := hR1.lt
  have f2 : Row ((w1.alloc (Obj.cells (dgA []) 28)).setRow w1.heap.size (dgA (markL K salt p))) w.heap.size 32 := (row_setRow_far (by omega)).2 (row_below hR1 (below_alloc _ _) hR1.lt)
  have f3 : Row ((w1.alloc (Obj.cells (dgA []) 28)).setRow w1.heap.size (dgA (markL K salt p))) w1.heap.size 32 := (row_setRow_same rfl hz).2 hcx.1
  have f4 : rowAt ((w1.alloc (Obj.cells (dgA []) 28)).setRow w1.heap.size (dgA (markL K salt p))) w1.heap.size = dgA (markL K salt p) := rowAt_setRow_same hz
  clear hb1 hL0 hR0 hC1 hL1 hR1 hz hL2
  go_wp2_with fail
  generalize ((w1.alloc (Obj.cells (dgA []) 28)).setRow w1.heap.size (dgA (markL K salt p))) = W1 at *
  generalize w1.heap.size = D at *
  go_loopw [9] (fun vi wr => ∃ (j : Nat), vi = .int .i64 (j : Nat) ∧ j ≤ 8 ∧ Hid (Below w.heap.size w wr) ∧ Row wr w.heap.size 32 ∧ Row wr D 32 ∧ rowAt wr D = dgA (stretchF K salt p j)) (fun vi _ => 8 - (intOf vi).toNat)
  case atStart => exact ⟨0, rfl, by omega, f1, f2, f3, f4⟩
  case round =>
    obtain ⟨j, rfl, hj, hb, g2, g3, g4⟩ := hrel
    clear f1 f2 f3 f4 hcx
    have hxl := stretchF_len K salt p j
    have hcx := dgA_cells (stretchF K salt p j)
    by_cases h8 : j < 8
    · have d1 : decide ((j : Int) < (8 : Int)) = true := by simp; omega
      have hw1 : IntKind.i64.wrap ((j : Int) + 1) = (j : Int) + 1 := by rw [IntKind.wrap_i64]; omega
      have hcv := conv32 (bs_row hxl g3 g4) hxl
      have c1 := Lib.hid (ref_Mark K salt (stretchF K salt p j ++ p) wr (hHT.out.step hb.out) (by omega) (by rw [List.length_append]; omega))
      have hsj := Lib.hid (show stretchF K salt p (j + 1) = markL K salt (stretchF K salt p j ++ p) from rfl)
      have hcn := dgA_cells (markL K salt (stretchF K salt p j ++ p))
      generalize markL K salt (stretchF K salt p j ++ p) = z at *
      go_wp2_with fail
      refine (c1.out).mono ?_
      rintro e w2 ⟨rfl, hb2⟩
      have k1 := row_below g3 hb2 g3.lt
      have k2 := row_below g2 hb2 g2.lt
      have k3 := Lib.hid (below_step hb2 hb.out (Nat.le_refl _))
      clear g2 g3 g4 c1 hb hcv hb2
      go_wp2_with fail
      go_roundw
      case rel => exact ⟨j + 1, rfl, by omega, Lib.hid (below_setRow k3.out (by omega)), (row_setRow_far (by omega)).2 k2, (row_setRow_same rfl k1).2 hcn.1, by rw [hsj.out]; exact rowAt_setRow_same k1⟩
      case measure => simp [intOf]; omega
    · have d1 : decide ((j : Int) < (8 : Int)) = false := by simp; omega
      obtain rfl : j = 8 := by omega
      rw [show ((8 : Nat) : Int) = (8 : Int) from rfl] at *
      go_wp2_with fail
      exact ret_stored (p := 4) (ty := 28) (g := w.heap.size) (n := 32) (c := dgA (stretchF K salt p 8)) rfl Tryd.underlying28 rfl (by kernel_rfl) rfl g2 hcx.1 rfl ⟨rfl, below_setRow hb.out (Nat.le_refl _)⟩
end Go.Proofs.YtjihklaocgmlpaaDoor
