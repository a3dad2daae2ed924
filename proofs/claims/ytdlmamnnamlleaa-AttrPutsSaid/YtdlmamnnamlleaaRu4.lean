/- Cards of attributes: the document's small functions over them. -/
import Derived.Test.YtdlmamnnamlleaaRu1
import Derived.Test.YtdlmamnnamlleaaFa
import Derived.Deep.DeepCutAuto
namespace Go.Proofs.Ytdlmamnnamlleaa
open Go.ChangeShapes Go.WideShapes Go.ChangeAt Go.RowKit
set_option maxHeartbeats 1000000
set_option maxRecDepth 100000
attribute [local go_sem] kp_refl kp_alloc kp_setCell kp_drew kp_drewN row_new row_old rowAt_new rowAt_old

theorem load_Crd {w : World} {dst : Option Tmp} {x : Operand} {tt : TypeId} {pos : String} {af : Array Edge} {gd : Option (Nat × Bool)} {a : Act} {K : Act → World → Prop} {Q : Exit → Act → World → Prop}
    (hv : IsHead (a.eval x)) (h : Row w (blkOf (a.eval x)) 38) : Oper.wp Try.prog ⟨dst, .load 40 x, tt, pos, af, gd⟩ a w K Q ↔ K (a.put dst (.agg (rowAt w (blkOf (a.eval x))))) w :=
  wp_load_whole Try.underlying40 rfl (by kernel_rfl) hv h
theorem store_Crd {w : World} {dst : Option Tmp} {x y : Operand} {tt : TypeId} {pos : String} {af : Array Edge} {gd : Option (Nat × Bool)} {a : Act} {K : Act → World → Prop} {Q : Exit → Act → World → Prop}
    (hv : IsHead (a.eval x)) (h : Row w (blkOf (a.eval x)) 38) (hx : IsAgg (a.eval y) 38) : Oper.wp Try.prog ⟨dst, .store 40 x y, tt, pos, af, gd⟩ a w K Q ↔ K (a.put dst undef) (w.setRow (blkOf (a.eval x)) (cellsV (a.eval y))) :=
  wp_store_whole (by kernel_rfl) hv h hx
theorem execl_Crd {w : World} {dst : Option Tmp} {x : Operand} {tt : TypeId} {pos : String} {af : Array Edge} {gd : Option (Nat × Bool)} {ρ : Operand → Value}
    (hv : IsHead (ρ x)) (h : Row w (blkOf (ρ x)) 38) : (execOp ρ ⟨dst, .load 40 x, tt, pos, af, gd⟩).run Try.prog w = .ok (.value (.agg (rowAt w (blkOf (ρ x))))) w :=
  exec_load_whole Try.underlying40 rfl (by kernel_rfl) hv h
theorem execs_Crd {w : World} {dst : Option Tmp} {x y : Operand} {tt : TypeId} {pos : String} {af : Array Edge} {gd : Option (Nat × Bool)} {ρ : Operand → Value}
    (hv : IsHead (ρ x)) (h : Row w (blkOf (ρ x)) 38) (hx : IsAgg (ρ y) 38) : (execOp ρ ⟨dst, .store 40 x y, tt, pos, af, gd⟩).run Try.prog w = .ok .skip (w.setRow (blkOf (ρ x)) (cellsV (ρ y))) :=
  exec_store_whole (by kernel_rfl) hv h hx

/-- A card: which kinds there are, and their values. -/
structure Crd where
  has : Nat → Bool
  v : Nat → List UInt8
def strV (b : List UInt8) : Value := .string ⟨b.toArray⟩
def cf (c : Crd) (k : Nat) : Value := if k < 19 then .bool (c.has k) else strV (c.v (k - 19))
def crdA (c : Crd) : Array Value := fnA 38 (cf c)
def crd0 : Crd := ⟨fun _ => false, fun _ => []⟩
theorem fnA_cells {m : Nat} {f : Nat → Value} (h : ∀ i, i < m → (f i).oneCell' = true) : Cells (fnA m f) m := by
  refine ⟨fnA_size _ _, ?_⟩
  rw [Array.all_eq_true]
  intro i hi
  rw [fnA_size] at hi
  have h1 := fnA_at (f := f) hi
  rw [Array.getElem?_eq_getElem (by rw [fnA_size]; exact hi)] at h1
  rw [Option.some.inj h1]
  exact h i hi
theorem crd_cells (c : Crd) : Cells (crdA c) 38 := fnA_cells fun i _ => by unfold cf strV; split <;> rfl
theorem crd_has (c : Crd) {k : Nat} (h : k < 19) : (crdA c)[k]? = some (.bool (c.has k)) := by rw [crdA, fnA_at (by omega), cf, if_pos h]
theorem crd_v (c : Crd) {k : Nat} (h : k < 19) : (crdA c)[19 + k]? = some (strV (c.v k)) := by rw [crdA, fnA_at (by omega), cf, if_neg (by omega), Nat.add_sub_cancel_left]
theorem crd_zero : (#[.bool false, .bool false, .bool false, .bool false, .bool false, .bool false, .bool false, .bool false, .bool false, .bool false, .bool false, .bool false, .bool false, .bool false, .bool false, .bool false, .bool false, .bool false, .bool false, .string ⟨#[]⟩, .string ⟨#[]⟩, .string ⟨#[]⟩, .string ⟨#[]⟩, .string ⟨#[]⟩, .string ⟨#[]⟩, .string ⟨#[]⟩, .string ⟨#[]⟩, .string ⟨#[]⟩, .string ⟨#[]⟩, .string ⟨#[]⟩, .string ⟨#[]⟩, .string ⟨#[]⟩, .string ⟨#[]⟩, .string ⟨#[]⟩, .string ⟨#[]⟩, .string ⟨#[]⟩, .string ⟨#[]⟩, .string ⟨#[]⟩] : Array Value) = crdA crd0 := by kernel_rfl
def CrdAt (w : World) (g : Nat) (c : Crd) : Prop := Fa w g 38 (cf c)
theorem crd_congr {c d : Crd} (h1 : ∀ k, k < 19 → c.has k = d.has k) (h2 : ∀ k, k < 19 → c.v k = d.v k) : crdA c = crdA d := fnA_congr fun i hi => by
  unfold cf
  by_cases h : i < 19
  · rw [if_pos h, if_pos h, h1 i h]
  · rw [if_neg h, if_neg h, h2 (i - 19) (by omega)]
section
variable {w w' : World} {g : Nat} {c : Crd}
theorem CrdAt.at_ (h : CrdAt w g c) : rowAt w g = crdA c := h.eq
theorem CrdAt.cellH (h : CrdAt w g c) {k : Nat} (hk : k < 19) : w.cell? ⟨g, k, none⟩ = some (.bool (c.has k)) := (Fa.cell h (by omega)).trans (by rw [cf, if_pos hk])
theorem CrdAt.cellV (h : CrdAt w g c) {k : Nat} (hk : k < 19) : w.cell? ⟨g, 19 + k, none⟩ = some (strV (c.v k)) := (Fa.cell h (by omega)).trans (by rw [cf, if_neg (by omega), Nat.add_sub_cancel_left])
end

/-! Belongs, Sized, flag -/
def belongs (c k : Int) : Bool :=
  if c = 1 then decide (1 ≤ k) && decide (k ≤ 7)
  else if c = 2 then decide (1 ≤ k) && decide (k ≤ 17)
  else if c = 3 then (decide (1 ≤ k) && decide (k ≤ 7)) || k == 14
  else if c = 4 then (decide (1 ≤ k) && decide (k ≤ 13)) || k == 18
  else false
theorem ref_Belongs (c k : Int) (w : World) : Calls Try.prog 14 #[.int .i64 c, .int .i64 k] w fun e w' => e = .returned (.bool (belongs c k)) ∧ w = w' := by
  by_cases c1 : c = 1
  · subst c1
    have hB : Hid (belongs 1 k = (decide (1 ≤ k) && decide (k ≤ 7))) := by show _ = _; simp [belongs]
    go_enter Try.func14, Try.ntmps14
    by_cases t1 : 1 ≤ k
    · go_wp2
      go_ret
      exact ⟨ret_bool (by rw [hB.out, decide_eq_true t1]; rfl), rfl⟩
    · go_wp2
      go_ret
      exact ⟨ret_bool (by rw [hB.out, decide_eq_false (show ¬ 1 ≤ k by omega)]; rfl), rfl⟩
  by_cases c2 : c = 2
  · subst c2
    have hB : Hid (belongs 2 k = (decide (1 ≤ k) && decide (k ≤ 17))) := by show _ = _; simp [belongs]
    go_enter Try.func14, Try.ntmps14
    by_cases t1 : 1 ≤ k
    · go_wp2
      go_ret
      exact ⟨ret_bool (by rw [hB.out, decide_eq_true t1]; rfl), rfl⟩
    · go_wp2
      go_ret
      exact ⟨ret_bool (by rw [hB.out, decide_eq_false (show ¬ 1 ≤ k by omega)]; rfl), rfl⟩
  by_cases c3 : c = 3
  · subst c3
    have hB : Hid (belongs 3 k = ((decide (1 ≤ k) && decide (k ≤ 7)) || k == 14)) := by show _ = _; simp [belongs]
    go_enter Try.func14, Try.ntmps14
    by_cases t1 : 1 ≤ k
    · by_cases t2 : k ≤ 7
      · go_wp2
        go_ret
        exact ⟨ret_bool (by rw [hB.out, decide_eq_true t1, decide_eq_true t2]; rfl), rfl⟩
      · go_wp2
        go_ret
        exact ⟨ret_bool (by rw [hB.out, decide_eq_false (show ¬ k ≤ 7 by omega), Bool.and_false, Bool.false_or]), rfl⟩
    · go_wp2
      go_ret
      exact ⟨ret_bool (by rw [hB.out, decide_eq_false (show ¬ 1 ≤ k by omega), Bool.false_and, Bool.false_or]), rfl⟩
  by_cases c4 : c = 4
  · subst c4
    have hB : Hid (belongs 4 k = ((decide (1 ≤ k) && decide (k ≤ 13)) || k == 18)) := by show _ = _; simp [belongs]
    go_enter Try.func14, Try.ntmps14
    by_cases t1 : 1 ≤ k
    · by_cases t2 : k ≤ 13
      · go_wp2
        go_ret
        exact ⟨ret_bool (by rw [hB.out, decide_eq_true t1, decide_eq_true t2]; rfl), rfl⟩
      · go_wp2
        go_ret
        exact ⟨ret_bool (by rw [hB.out, decide_eq_false (show ¬ k ≤ 13 by omega), Bool.and_false, Bool.false_or]), rfl⟩
    · go_wp2
      go_ret
      exact ⟨ret_bool (by rw [hB.out, decide_eq_false (show ¬ 1 ≤ k by omega), Bool.false_and, Bool.false_or]), rfl⟩
  have hB : Hid (belongs c k = false) := by show _ = _; simp [belongs, c1, c2, c3, c4]
  have d1 : (c == 1) = false := by simpa using c1
  have d2 : (c == 2) = false := by simpa using c2
  have d3 : (c == 3) = false := by simpa using c3
  have d4 : (c == 4) = false := by simpa using c4
  clear c1 c2 c3 c4
  go_enter Try.func14, Try.ntmps14
  go_wp2
  go_ret
  exact ⟨ret_bool (by rw [hB.out]), rfl⟩

def sizedR (c n : Int) : Bool := c == 1 || (n == 32 || (c == 2 && (n == 16 || n == 24)))
theorem ref_Sized (c n : Int) (w : World) : Calls Try.prog 76 #[.int .i64 c, .int .i64 n] w fun e w' => e = .returned (.bool (sizedR c n)) ∧ w = w' := by
  have hB : Hid (sizedR c n = (c == 1 || (n == 32 || (c == 2 && (n == 16 || n == 24))))) := rfl
  go_enter Try.func76, Try.ntmps76
  cases d1 : (c == 1)
  · cases d2 : (n == 32)
    · cases d3 : (c == 2)
      · go_wp2
        go_ret
        exact ⟨ret_bool (by rw [hB.out, d1, d2, d3]; rfl), rfl⟩
      · cases d4 : (n == 16)
        · go_wp2
          go_ret
          exact ⟨ret_bool (by rw [hB.out, d1, d2, d3, d4]; rfl), rfl⟩
        · go_wp2
          go_ret
          exact ⟨ret_bool (by rw [hB.out, d1, d2, d3, d4]; rfl), rfl⟩
    · go_wp2
      go_ret
      exact ⟨ret_bool (by rw [hB.out, d1, d2]; rfl), rfl⟩
  · go_wp2
    go_ret
    exact ⟨ret_bool (by rw [hB.out, d1]; rfl), rfl⟩
def flagB (b : Bool) : List UInt8 := if b then [1] else [0]
theorem ref_flag (b : Bool) (w : World) : Calls Try.prog 77 #[.bool b] w fun e w' => e = .returned (strV (flagB b)) ∧ w = w' := by
  cases b
  · go_enter Try.func77, Try.ntmps77
    go_wp2
    go_ret
    exact ⟨rfl, rfl⟩
  · go_enter Try.func77, Try.ntmps77
    go_wp2
    go_ret
    exact ⟨rfl, rfl⟩

/-! One, Class -/
def Crd.one (c : Crd) (k : Nat) : Bool := c.v k == [1]
def Crd.cls (c : Crd) : Nat := if (c.v 1).length = 1 then headB (c.v 1) else 0
attribute [local go_sem ↓] load_Crd store_Crd
theorem ref_One (c : Crd) (k : Nat) (hk : k < 19) (w : World) : Calls Try.prog 78 #[.agg (crdA c), .int .i64 k] w fun e w' => e = .returned (.bool (c.one k)) ∧ Below w.heap.size w w' := by
  have h1 := crd_v c hk
  unfold strV at h1
  have hc := crd_cells c
  have hk' : (k : Int) < 19 := by omega
  go_enter Try.func78, Try.ntmps78
  go_wp2
  go_ret
  exact ⟨ret_bool rfl, by go_grown⟩
theorem ref_Class (c : Crd) (w : World) : Calls Try.prog 75 #[.agg (crdA c)] w fun e w' => e = .returned (.int .i64 (c.cls : Nat)) ∧ Below w.heap.size w w' := by
  have h1 : (crdA c)[20]? = some (strV (c.v 1)) := crd_v c (k := 1) (by omega)
  unfold strV at h1
  have hc := crd_cells c
  have hC : Hid (c.cls = if (c.v 1).length = 1 then headB (c.v 1) else 0) := rfl
  generalize c.v 1 = b at *
  by_cases hl : b.length = 1
  · obtain ⟨b0, rfl⟩ := List.length_eq_one_iff.1 hl
    go_enter Try.func75, Try.ntmps75
    go_wp2
    go_ret
    exact ⟨ret_int (by rw [hC.out]; show wrap64 (b0.toNat : Int) = (b0.toNat : Int); have := b0.toNat_lt; unfold wrap64; omega), by go_grown⟩
  · have hd : ((b.length : Int) == 1) = false := by simp; omega
    have hl' := Lib.hid hl
    have hd1 : ((b.length : Int) != 1) = true := by simp; omega
    go_enter Try.func75, Try.ntmps75
    go_wp2
    go_ret
    exact ⟨ret_int (by rw [hC.out, if_neg hl'.out]; rfl), by go_grown⟩
end Go.Proofs.Ytdlmamnnamlleaa
