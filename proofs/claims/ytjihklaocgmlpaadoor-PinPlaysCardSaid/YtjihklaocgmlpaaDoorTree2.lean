/- Contracts of the document's Leaf and Node, and of package tree's half. -/
import Derived.Test.YtjihklaocgmlpaaDoorTree
namespace Go.Proofs.YtjihklaocgmlpaaDoor
open Go.ChangeShapes Go.WideShapes Go.ChangeAt Go.RowKit
set_option maxHeartbeats 400000
set_option maxRecDepth 100000
attribute [local irreducible] arrV dgA sha
attribute [local go_sem ↓] load_o32 store_o32 execl_o32 execs_o32
attribute [local go_sem] isHead_mk isPart_mk offOf_mk blkOf_mk isAgg_mk cellsV_mk row_drew rowAt_drew row_new_cells row_old rowAt_new rowAt_old setRow_new bs_app

theorem ref_Leaf (K : Nat → W32) (p : List UInt8) (w : World) (hT : Tabs K w) (hp : p.length ≤ 576460752303423488) :
    Calls Tryd.prog 17 #[strV p] w fun e w' => e = .returned (.agg (dgA (leafL K p))) ∧ Below w.heap.size w w' := by
  unfold leafL
  have hcz := dgA_cells []
  have hL0 := below_alloc w (Obj.cells (dgA []) 28)
  have hR0 : Row (w.alloc (Obj.cells (dgA []) 28)) w.heap.size 32 := (row_new rfl).2 hcz.1
  have hT0 := Lib.hid (hT.step hL0)
  have hl1 : 1 + p.length ≤ 9223372036854775807 := by omega
  have hcon := Lib.hid (fun V (h : Tabs K V) => rsumD (K := K) (l := 0 :: p) h (by simp; omega))
  clear hT
  go_enter Tryd.func17, Tryd.ntmps17
  go_wp2_with fail
  rw [zeroD]
  generalize w.alloc (Obj.cells (dgA []) 28) = W0 at *
  refine (hcon.out _ hT0.out).mono ?_
  rintro e w1 ⟨rfl, hb1⟩
  have hL1 := below_step hb1 hL0 (Nat.le_refl _)
  have hR1 := row_below hR0 hb1 hR0.lt
  have hco := dgA_cells (sha K (0 :: p))
  clear hb1 hL0 hR0 hT0 hcon
  go_wp2
  exact ret_stored (p := 2) (ty := 28) (g := w.heap.size) (n := 32) (c := dgA (sha K (0 :: p))) rfl Tryd.underlying28 rfl (by kernel_rfl) rfl hR1 hco.1 rfl ⟨rfl, below_setRow hL1 (Nat.le_refl _)⟩

theorem conv32 {w : World} {A : Option Addr} {l : List UInt8} {c : Nat} (h : Bs w A l c) (hl : l.length = 32) : (convert 26 9 (.slice A 32 c)).run Tryd.prog w = .ok (strV l) w := by rw [← hl]; exact h.conv
theorem ref_Node (K : Nat → W32) (a b : List UInt8) (w : World) (hT : Tabs K w) (hla : a.length = 32) (hlb : b.length = 32) :
    Calls Tryd.prog 19 #[.agg (dgA a), .agg (dgA b)] w fun e w' => e = .returned (.agg (dgA (nodeL K a b))) ∧ Below w.heap.size w w' := by
  unfold nodeL
  have hca := dgA_cells a
  have hcb := dgA_cells b
  have hcz := dgA_cells []
  have hL0 : Below w.heap.size w (((w.alloc (Obj.cells (dgA a) 28)).alloc (Obj.cells (dgA b) 28)).alloc (Obj.cells (dgA []) 28)) := by go_grown
  have hA0 : Row (((w.alloc (Obj.cells (dgA a) 28)).alloc (Obj.cells (dgA b) 28)).alloc (Obj.cells (dgA []) 28)) w.heap.size 32 := by go_simp
  have ha0 : rowAt (((w.alloc (Obj.cells (dgA a) 28)).alloc (Obj.cells (dgA b) 28)).alloc (Obj.cells (dgA []) 28)) w.heap.size = dgA a := by go_simp
  have hB0 : Row (((w.alloc (Obj.cells (dgA a) 28)).alloc (Obj.cells (dgA b) 28)).alloc (Obj.cells (dgA []) 28)) (w.heap.size + 1) 32 := by go_simp
  have hb0 : rowAt (((w.alloc (Obj.cells (dgA a) 28)).alloc (Obj.cells (dgA b) 28)).alloc (Obj.cells (dgA []) 28)) (w.heap.size + 1) = dgA b := by go_simp
  have hR0 : Row (((w.alloc (Obj.cells (dgA a) 28)).alloc (Obj.cells (dgA b) 28)).alloc (Obj.cells (dgA []) 28)) (w.heap.size + 1 + 1) 32 := by go_simp
  have hT0 := Lib.hid (hT.below hL0 (Nat.le_refl _))
  clear hT
  go_enter Tryd.func19, Tryd.ntmps19
  go_wp2_with fail
  rw [zeroD]
  generalize (((w.alloc (Obj.cells (dgA a) 28)).alloc (Obj.cells (dgA b) 28)).alloc (Obj.cells (dgA []) 28)) = W0 at *
  have hAb := Lib.hid (rd_of_row hla hA0 ha0)
  have hBb := Lib.hid (rd_of_row hlb hB0 hb0)
  have hZ := hR0.lt
  clear hA0 ha0 hB0 hb0
  have hco := dgA_cells (sha K (1 :: (a ++ b)))
  have hlen : (1 :: (a ++ b)).length = 65 := by simp; omega
  have hdr : Below W0.heap.size W0 W0.drew := (Below.refl _ _).drew
  have hcA := conv32 (hAb.out.step hdr) hla
  have hcB := conv32 (hBb.out.step hdr) hlb
  have hR1 := row_below hR0 hdr hR0.lt
  have hT1 := Lib.hid (hT0.out.step hdr)
  have hl2 : 1 + a.length ≤ 9223372036854775807 := by omega
  have hl3 : 1 + a.length + b.length ≤ 9223372036854775807 := by omega
  have hHlen := Lib.hid hlen
  clear hAb hBb hR0 hlen hT0
  go_region_law (first
      | (go_simp; go_at_call 32; (refine (rsumD (K := K) (l := 1 :: (a ++ b)) hT1.out (by rw [hHlen.out]; omega)).mono ?_); rintro e w' ⟨rfl, hb'⟩; have hW5 := below_step hb' hdr (Nat.le_refl _); have hR5 := row_below hR1 hb' hR1.lt))
  all_goals go_wp2
  all_goals exact ret_stored (p := 4) (ty := 28) (g := w.heap.size + 1 + 1) (n := 32) (c := dgA (sha K (1 :: (a ++ b)))) rfl Tryd.underlying28 rfl (by kernel_rfl) rfl hR5 hco.1 rfl ⟨rfl, below_setRow (hL0.trans (hW5.mono (by omega))) (by omega)⟩

/-! half -/
def halfN (n : Nat) : Nat := 2 ^ Nat.log2 (n - 1)
theorem halfN_lt {n : Nat} (h : 2 ≤ n) : halfN n < n := by
  have := Nat.log2_self_le (n := n - 1) (by omega)
  unfold halfN; omega
theorem halfN_le {n : Nat} (h : 2 ≤ n) : n ≤ 2 * halfN n := by
  have := Nat.lt_log2_self (n := n - 1)
  unfold halfN
  rw [Nat.pow_succ] at this
  omega
theorem halfN_of {n j : Nat} (h1 : 2 ^ j < n) (h2 : n ≤ 2 * 2 ^ j) : halfN n = 2 ^ j := by
  unfold halfN
  congr 1
  have h3 := Nat.log2_self_le (n := n - 1) (by have := Nat.pow_pos (n := j) (show 0 < 2 by omega); omega)
  have h4 := Nat.lt_log2_self (n := n - 1)
  rcases Nat.lt_trichotomy (n - 1).log2 j with h | h | h
  · have := Nat.pow_le_pow_right (show 0 < 2 by omega) (show (n - 1).log2 + 1 ≤ j by omega)
    omega
  · exact h
  · have := Nat.pow_le_pow_right (show 0 < 2 by omega) (show j + 1 ≤ (n - 1).log2 by omega)
    rw [Nat.pow_succ] at this
    omega
theorem tree_half (n : Nat) (w : World) (h2 : 2 ≤ n) (hn : n ≤ 9223372036854775807) :
    Calls Tryd.prog 35 #[.int .i64 n] w fun e w' => e = .returned (.int .i64 (halfN n : Nat)) ∧ w = w' := by
  go_enter Tryd.func35, Tryd.ntmps35
  go_wp2
  go_loop [3] (fun v => ∃ k : Nat, v = .int .i64 (k : Nat) ∧ k < n ∧ 1 ≤ k ∧ ∃ j, k = 2 ^ j) (fun v => n - (intOf v).toNat)
  case atStart => exact ⟨1, rfl, by omega, by omega, 0, rfl⟩
  case round =>
    obtain ⟨k, rfl, hk, hk1, j, hj⟩ := hrel
    have hHj := Lib.hid hj
    clear hj
    by_cases h : 2 * k < n
    · have hd : decide ((k : Int) < (n : Int) - (k : Int)) = true := by simp; omega
      go_wp2
      go_round
      case rel => exact ⟨k * 2, by go_num, by omega, by omega, j + 1, by rw [hHj.out, Nat.pow_succ]⟩
      case measure => simp [intOf]; omega
    · have hd : decide ((k : Int) < (n : Int) - (k : Int)) = false := by simp; omega
      have hh := Lib.hid (halfN_of (n := n) (j := j) (by have := hHj.out; omega) (by have := hHj.out; omega))
      go_wp2
      go_ret
      exact ⟨by rw [hh.out, ← hHj.out]; rfl, rfl⟩
end Go.Proofs.YtjihklaocgmlpaaDoor
