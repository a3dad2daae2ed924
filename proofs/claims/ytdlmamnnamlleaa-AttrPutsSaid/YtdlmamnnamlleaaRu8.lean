/- Cards of attributes: Upon. -/
import Derived.Test.YtdlmamnnamlleaaRu6
import Derived.Deep.QuietTactic
namespace Go.Proofs.Ytdlmamnnamlleaa
open Go.ChangeShapes Go.WideShapes Go.ChangeAt Go.RowKit
set_option maxHeartbeats 1000000
set_option maxRecDepth 100000
attribute [local go_sem] kp_refl kp_alloc kp_setCell kp_drew kp_drewN row_new row_old rowAt_new rowAt_old

/-! Upon -/
attribute [local go_sem ↓] load_Crd store_Crd execl_Crd execs_Crd
attribute [local go_sem] isHead_mk blkOf_mk isAgg_mk cellsV_mk row_drew rowAt_drew row_new_cells setRow_new
def Crd.uponTo (c d : Crd) (n : Nat) : Crd := ⟨fun k => if k < n ∧ d.has k = true then true else c.has k, fun k => if k < n ∧ d.has k = true then d.v k else c.v k⟩
def Crd.upon (c d : Crd) : Crd := c.uponTo d 19
theorem uponTo_zero (c d : Crd) : c.uponTo d 0 = c := by
  unfold Crd.uponTo
  simp
theorem uponTo_no {c d : Crd} {n : Nat} (h : d.has n = false) : c.uponTo d (n + 1) = c.uponTo d n := by
  have key : ∀ k, (k < n + 1 ∧ d.has k = true) ↔ (k < n ∧ d.has k = true) := fun k => by
    constructor
    · rintro ⟨h1, h2⟩
      refine ⟨?_, h2⟩
      rcases Nat.lt_or_ge k n with h3 | h3
      · exact h3
      · obtain rfl : k = n := by omega
        rw [h] at h2; cases h2
    · rintro ⟨h1, h2⟩; exact ⟨by omega, h2⟩
  unfold Crd.uponTo
  congr 1
  · funext k; simp only [key k]
  · funext k; simp only [key k]
theorem uponTo_yes {c d : Crd} {n : Nat} (h : d.has n = true) : c.uponTo d (n + 1) = ⟨updH (c.uponTo d n).has n, updB (c.uponTo d n).v n (d.v n)⟩ := by
  unfold Crd.uponTo updH updB
  congr 1
  · funext k
    by_cases e : k = n
    · subst e; simp [h]
    · simp only [if_neg e]
      by_cases h2 : k < n
      · simp [h2, show k < n + 1 by omega]
      · simp [h2, show ¬ k < n + 1 by omega]
  · funext k
    by_cases e : k = n
    · subst e; simp [h]
    · simp only [if_neg e]
      by_cases h2 : k < n
      · simp [h2, show k < n + 1 by omega]
      · simp [h2, show ¬ k < n + 1 by omega]
set_option maxHeartbeats 4000000 in
theorem ref_Upon (c d : Crd) (w : World) :
    Calls Try.prog 50 #[.agg (crdA c), .agg (crdA d)] w fun e w' => e = .returned (.agg (crdA (c.upon d))) ∧ Below w.heap.size w w' := by
  have hz := crd_cells crd0
  have hc := crd_cells c
  have hd := crd_cells d
  go_enter Try.func50, Try.ntmps50
  go_wp2
  rw [crd_zero]
  have h0 : CrdAt (((w.alloc (.cells (crdA c) 40)).alloc (.cells (crdA d) 40)).alloc (.cells (crdA crd0) 40)) w.heap.size (c.uponTo d 0) := by
    rw [uponTo_zero]; exact Fa.old (Fa.old (Fa.new (m := 38) (f := cf c) _ rfl) _) _
  have h1 : CrdAt (((w.alloc (.cells (crdA c) 40)).alloc (.cells (crdA d) 40)).alloc (.cells (crdA crd0) 40)) (w.heap.size + 1) d := Fa.old (Fa.new (m := 38) (f := cf d) _ (by simp)) _
  have h2 : Row (((w.alloc (.cells (crdA c) 40)).alloc (.cells (crdA d) 40)).alloc (.cells (crdA crd0) 40)) (w.heap.size + 2) 38 := (row_new (by simp)).2 hz.1
  go_loopw [6] (fun x wr => ∃ n : Nat, x = .int .i64 n ∧ n ≤ 19 ∧ CrdAt wr w.heap.size (c.uponTo d n) ∧ CrdAt wr (w.heap.size + 1) d ∧ Row wr (w.heap.size + 2) 38 ∧ Below w.heap.size w wr) (fun x _ => 19 - (intOf x).toNat)
  case atStart => exact ⟨0, rfl, by omega, h0, h1, h2, by go_grown⟩
  case round =>
    obtain ⟨n, rfl, hn, hC, hD, hR, hb⟩ := hrel
    by_cases hn9 : n = 19
    · have hat := hC.at_
      have hrC := hC.row
      have hcc := crd_cells (c.uponTo d n)
      subst hn9
      have hE : Hid (c.upon d = c.uponTo d 19) := rfl
      generalize c.uponTo d 19 = C at *
      go_wp2
      exact ret_stored (p := 4) (ty := 40) (g := w.heap.size + 2) (n := 38) (c := crdA C) rfl Try.underlying40 rfl (by kernel_rfl) rfl hR hcc.1 rfl ⟨by rw [hE.out], below_setRow hb (by omega)⟩
    · have hn19 : n < 19 := by omega
      have hcH := hD.cellH hn19
      cases hh : d.has n with
      | false =>
        have hst : Hid (c.uponTo d (n + 1) = c.uponTo d n) := uponTo_no hh
        rw [hh] at hcH
        clear hh
        go_wp2
        go_roundw
        case rel => exact ⟨n + 1, by go_num, by omega, by rw [hst.out]; exact hC, hD, hR, hb⟩
        case measure => simp [intOf]; omega
      | true =>
        have hst : Hid (c.uponTo d (n + 1) = ⟨updH (c.uponTo d n).has n, updB (c.uponTo d n).v n (d.v n)⟩) := uponTo_yes hh
        rw [hh] at hcH
        clear hh
        have hcV := hD.cellV hn19
        have hV2 := hC.cellV hn19
        have hH2 := hC.cellH hn19
        have hf1 := Fa.frozen hC n
        have hf2 := Fa.frozen hC (19 + n)
        have hfin := Lib.hid (Fa.drew (cf_upd _ hn19 (d.v n) ((Fa.set hC n (.bool true)).set (19 + n) (strV (d.v n)))))
        have hD2 := Lib.hid (Fa.drew ((Fa.farC hD (a := ⟨w.heap.size, n, none⟩) (v := .bool true) (by show w.heap.size + 1 ≠ w.heap.size; omega)).farC (a := ⟨w.heap.size, 19 + n, none⟩) (v := strV (d.v n)) (by show w.heap.size + 1 ≠ w.heap.size; omega)))
        generalize (c.uponTo d n).v n = vold at hV2
        generalize (c.uponTo d n).has n = hold at hH2
        unfold strV at hcV hV2
        go_wp2_with fail
        go_region
        go_wp2
        go_roundw
        case rel => exact ⟨n + 1, by go_num, by omega, by rw [hst.out]; exact hfin.out, hD2.out, row_setCell.2 (row_setCell.2 hR), by go_grown⟩
        case measure => simp [intOf]; omega
end Go.Proofs.Ytdlmamnnamlleaa
