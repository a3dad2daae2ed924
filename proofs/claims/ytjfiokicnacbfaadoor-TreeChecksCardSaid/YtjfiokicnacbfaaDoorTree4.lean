/- Contracts of package tree's Check, and of the document's. -/
import Derived.Test.YtjfiokicnacbfaaDoorTree3
import Derived.Laws.BitsAllLaws
namespace Go.Proofs.YtjfiokicnacbfaaDoor
open Go.ChangeShapes Go.WideShapes Go.ChangeAt Go.RowKit
set_option maxHeartbeats 1000000
set_option maxRecDepth 100000
attribute [local irreducible] arrV dgA sha
attribute [local go_sem ↓] load_o32 store_o32 execl_o32 execs_o32 load_e32 execl_e32
attribute [local go_sem] isHead_mk isPart_mk offOf_mk blkOf_mk isAgg_mk cellsV_mk row_drew rowAt_drew row_new_cells row_old rowAt_new rowAt_old zeroD ldOk_drew ldC_drew

theorem i64_xor_nat (a b : Nat) (ha : a < 9223372036854775808) (hb : b < 9223372036854775808) : bits .xor .i64 (a : Int) (b : Int) = ((a ^^^ b : Nat) : Int) := by
  have hx : a ^^^ b < 2 ^ 63 := Nat.xor_lt_two_pow (by omega) (by omega)
  show IntKind.i64.wrap ((BitVec.ofInt 64 (a : Int) ^^^ BitVec.ofInt 64 (b : Int)).toNat : Int) = _
  rw [BitVec.toNat_xor, ofInt_u64 a (by omega), ofInt_u64 b (by omega), IntKind.wrap_i64]
  omega
theorem xor_one (a : Nat) : a ^^^ 1 = beside a := by
  have h1 : (a ^^^ 1) / 2 = a / 2 ^^^ 1 / 2 := Nat.xor_div_two
  have h2 : (a ^^^ 1) % 2 = 1 ↔ ¬ (a % 2 = 1 ↔ 1 % 2 = 1) := Nat.xor_mod_two_eq_one
  rw [show 1 / 2 = 0 from rfl, Nat.xor_zero] at h1
  unfold beside
  split <;> omega
/-- What is asked of a path. -/
def pathOk (K : Nat → W32) (root : List UInt8) (n i : Nat) (p : List UInt8) (P : List (List UInt8)) : Bool := decide (whole (floors (nodeL K) n n i (leafL K p) P) = some root)
/-- A number of leaves, and a place among them, that may be asked. -/
def placeOk (n i : Int) : Prop := 1 ≤ n ∧ n ≤ 65536 ∧ 0 ≤ i ∧ i < n
theorem tree_Check_no (root : List UInt8) (n i : Int) (v p : Value) (w : World) (h : ¬ placeOk n i) :
    Calls Tryd.prog 17 #[.agg (dgA root), .int .i64 n, .int .i64 i, p, v] w fun e w' => e = .returned (.bool false) ∧ Below w.heap.size w w' := by
  unfold placeOk at h
  have hL : Below w.heap.size w (w.alloc (Obj.cells (dgA root) 31)) := below_alloc _ _
  by_cases h1 : n < 1
  · have d1 : decide (n < 1) = true := by simpa using h1
    go_enter Tryd.func17, Tryd.ntmps17
    go_wp2
    go_ret
    exact ⟨rfl, hL⟩
  have d1 : decide (n < 1) = false := by simpa using h1
  by_cases h2 : 65536 < n
  · have d2 : decide (65536 < n) = true := by simpa using h2
    go_enter Tryd.func17, Tryd.ntmps17
    go_wp2
    go_ret
    exact ⟨rfl, hL⟩
  have d2 : decide (65536 < n) = false := by simpa using h2
  by_cases h3 : i < 0
  · have d3 : decide (i < 0) = true := by simpa using h3
    go_enter Tryd.func17, Tryd.ntmps17
    go_wp2
    go_ret
    exact ⟨rfl, hL⟩
  have d3 : decide (i < 0) = false := by simpa using h3
  have h4 : n ≤ i := by omega
  have d4 : decide (n ≤ i) = true := by simpa using h4
  go_enter Tryd.func17, Tryd.ntmps17
  go_wp2
  go_ret
  exact ⟨rfl, hL⟩
theorem ref_Check_no (root : List UInt8) (n i : Int) (v p : Value) (w : World) (h : ¬ placeOk n i) :
    Calls Tryd.prog 18 #[.agg (dgA root), .int .i64 n, .int .i64 i, p, v] w fun e w' => e = .returned (.bool false) ∧ Below w.heap.size w w' := by
  unfold placeOk at h
  have hL : Below w.heap.size w (w.alloc (Obj.cells (dgA root) 31)) := below_alloc _ _
  by_cases h1 : n < 1
  · have d1 : decide (n < 1) = true := by simpa using h1
    go_enter Tryd.func18, Tryd.ntmps18
    go_wp2
    go_ret
    exact ⟨rfl, hL⟩
  have d1 : decide (n < 1) = false := by simpa using h1
  by_cases h2 : 65536 < n
  · have d2 : decide (65536 < n) = true := by simpa using h2
    go_enter Tryd.func18, Tryd.ntmps18
    go_wp2
    go_ret
    exact ⟨rfl, hL⟩
  have d2 : decide (65536 < n) = false := by simpa using h2
  by_cases h3 : i < 0
  · have d3 : decide (i < 0) = true := by simpa using h3
    go_enter Tryd.func18, Tryd.ntmps18
    go_wp2
    go_ret
    exact ⟨rfl, hL⟩
  have d3 : decide (i < 0) = false := by simpa using h3
  have h4 : n ≤ i := by omega
  have d4 : decide (n ≤ i) = true := by simpa using h4
  go_enter Tryd.func18, Tryd.ntmps18
  go_wp2
  go_ret
  exact ⟨rfl, hL⟩
theorem tree_Check_yes (K : Nat → W32) (root : List UInt8) (n i : Nat) (B : Option Addr) (p : List UInt8) (cp : Nat) (A : Option Addr) (P : List (List UInt8)) (c : Nat) (w : World) (hT : Tabs K w) (hp : Bs w B p cp) (hP : Pt w A P c) (hr : root.length = 32) (h1 : 1 ≤ n) (hn : n ≤ 65536) (hi : i < n) :
    Calls Tryd.prog 17 #[.agg (dgA root), .int .i64 n, .int .i64 i, .slice B p.length cp, .slice A P.length c] w fun e w' => e = .returned (.bool (pathOk K root n i p P)) ∧ Below w.heap.size w w' := by
  have hcr := dgA_cells root
  have hcz := dgA_cells []
  have hL0 := below_alloc w (Obj.cells (dgA root) 31)
  have hR0 : Row (w.alloc (Obj.cells (dgA root) 31)) w.heap.size 32 := (row_new rfl).2 hcr.1
  have hr0 : rowAt (w.alloc (Obj.cells (dgA root) 31)) w.heap.size = dgA root := rowAt_new rfl
  have hT0 := Lib.hid (hT.step hL0)
  have hp0 := Lib.hid (hp.step hL0)
  have hP0 := Lib.hid (hP.step hL0)
  have d1 : decide ((n : Int) < 1) = false := by simp; omega
  have d2 : decide ((65536 : Int) < (n : Int)) = false := by simp; omega
  have d3 : decide ((i : Int) < 0) = false := by simp
  have d4 : decide ((n : Int) ≤ (i : Int)) = false := by simp; omega
  have hxl := climb_len (K := K) P.reverse n n i (leafL K p) (leaf_len K p)
  have hok := climb_floors (node := nodeL K) halves n n i (leafL K p) P.reverse (Nat.le_refl n) h1 hi
  rw [List.reverse_reverse] at hok
  have hfin : pathOk K root n i p P = ((climbR (nodeL K) halfN n n i (leafL K p) P.reverse).2 && decide ((climbR (nodeL K) halfN n n i (leafL K p) P.reverse).1 = root)) := by
    unfold pathOk
    rw [← hok]
    cases (climbR (nodeL K) halfN n n i (leafL K p) P.reverse).2 <;> simp
  have hIH := Lib.hid (fun (V : World) (h : Tabs K V) (h' : Pt V A P c) => tree_climb K P.reverse P.length n n i (leafL K p) A c V (by simp) h (by rw [List.reverse_reverse]; exact h') (leaf_len K p) (Nat.le_refl n) h1 hi hn)
  rw [hfin]
  clear hfin hok hT hp hP
  generalize climbR (nodeL K) halfN n n i (leafL K p) P.reverse = x at *
  have hcx := dgA_cells x.1
  have heq := eqlD hxl hr
  obtain ⟨x1, x2⟩ := x
  simp only at hcx heq hxl hIH ⊢
  go_enter Tryd.func17, Tryd.ntmps17
  go_wp2_with fail
  generalize (w.alloc (Obj.cells (dgA root) 31)) = W0 at *
  refine (tree_Leaf K B p cp _ hT0.out hp0.out).mono ?_
  rintro e w1 ⟨rfl, hb1⟩
  have hT1 := Lib.hid (hT0.out.step hb1)
  have hP1 := Lib.hid (hP0.out.step hb1)
  have hL1 := below_step hb1 hL0 (Nat.le_refl _)
  have hR1 := row_below hR0 hb1 hR0.lt
  have hr1 := (rowAt_below hb1 hR0.lt).trans hr0
  clear hb1 hT0 hP0 hL0 hR0 hr0 hp0
  go_wp2_with fail
  refine (hIH.out _ hT1.out hP1.out).mono ?_
  rintro e w2 ⟨rfl, hb2⟩
  have hL2 := below_step hb2 hL1 (Nat.le_refl _)
  have hR2 := row_below hR1 hb2 hR1.lt
  have hr2 := (rowAt_below hb2 hR1.lt).trans hr1
  have hlt := hR2.lt
  have hzz : Row (w2.alloc (Obj.cells (dgA []) 31)) w2.heap.size 32 := (row_new rfl).2 hcz.1
  have hzx : Row (w2.alloc (Obj.cells (dgA x1) 31)) w2.heap.size 32 := (row_new rfl).2 hcx.1
  have hRa : Row (w2.alloc (Obj.cells (dgA x1) 31)) w.heap.size 32 := (row_old hlt).2 hR2
  have hra : rowAt (w2.alloc (Obj.cells (dgA x1) 31)) w.heap.size = dgA root := (rowAt_old hlt).trans hr2
  have hLe : Below w.heap.size w (w2.alloc (Obj.cells (dgA x1) 31)) := hL2.alloc hL2.size _
  have hst : (w2.alloc (Obj.cells (dgA []) 31)).setRow w2.heap.size (dgA x1) = w2.alloc (Obj.cells (dgA x1) 31) := setRow_new rfl
  cases x2
  · go_wp2
    go_ret
    exact ⟨rfl, hLe⟩
  · go_wp2
    go_ret
    exact ⟨by simp, hLe⟩
end Go.Proofs.YtjfiokicnacbfaaDoor
