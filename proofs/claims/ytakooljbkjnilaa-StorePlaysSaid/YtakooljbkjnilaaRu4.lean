/- Cards of attributes: the document's small functions over them. -/
import Derived.Test.YtakooljbkjnilaaRu1
import Derived.Test.YtakooljbkjnilaaFa
import Derived.Deep.DeepCutAuto
namespace Go.Proofs.Ytakooljbkjnilaa
open Go.ChangeShapes Go.WideShapes Go.ChangeAt Go.RowKit
set_option maxHeartbeats 1000000
set_option maxRecDepth 100000
attribute [local go_sem] kp_refl kp_alloc kp_setCell kp_drew kp_drewN row_new row_old rowAt_new rowAt_old

/-- A card: which kinds there are, and their values. -/
structure Crd where
  has : Nat → Bool
  v : Nat → List UInt8
def strV (b : List UInt8) : Value := .string ⟨b.toArray⟩
def cf (c : Crd) (k : Nat) : Value := if k < 19 then .bool (c.has k) else strV (c.v (k - 19))
def crdA (c : Crd) : Array Value := fnA 38 (cf c)
def crd0 : Crd := ⟨fun _ => false, fun _ => []⟩
theorem fnA_cells {m : Nat} {f : Nat → Value} (h : ∀ i, i < m → (f i).oneCell' = true) : Cells (fnA m f) m := by
  refine ⟨fnA_size _ _, ?_⟩
  rw [Array.all_eq_true]
  intro i hi
  rw [fnA_size] at hi
  have h1 := fnA_at (f := f) hi
  rw [Array.getElem?_eq_getElem (by rw [fnA_size]; exact hi)] at h1
  rw [Option.some.inj h1]
  exact h i hi
theorem crd_cells (c : Crd) : Cells (crdA c) 38 := fnA_cells fun i _ => by unfold cf strV; split <;> rfl
theorem crd_has (c : Crd) {k : Nat} (h : k < 19) : (crdA c)[k]? = some (.bool (c.has k)) := by rw [crdA, fnA_at (by omega), cf, if_pos h]
theorem crd_v (c : Crd) {k : Nat} (h : k < 19) : (crdA c)[19 + k]? = some (strV (c.v k)) := by rw [crdA, fnA_at (by omega), cf, if_neg (by omega), Nat.add_sub_cancel_left]
theorem crd_zero : (#[.bool false, .bool false, .bool false, .bool false, .bool false, .bool false, .bool false, .bool false, .bool false, .bool false, .bool false, .bool false, .bool false, .bool false, .bool false, .bool false, .bool false, .bool false, .bool false, .string ⟨#[]⟩, .string ⟨#[]⟩, .string ⟨#[]⟩, .string ⟨#[]⟩, .string ⟨#[]⟩, .string ⟨#[]⟩, .string ⟨#[]⟩, .string ⟨#[]⟩, .string ⟨#[]⟩, .string ⟨#[]⟩, .string ⟨#[]⟩, .string ⟨#[]⟩, .string ⟨#[]⟩, .string ⟨#[]⟩, .string ⟨#[]⟩, .string ⟨#[]⟩, .string ⟨#[]⟩, .string ⟨#[]⟩, .string ⟨#[]⟩] : Array Value) = crdA crd0 := by kernel_rfl
def CrdAt (w : World) (g : Nat) (c : Crd) : Prop := Fa w g 38 (cf c)
theorem crd_congr {c d : Crd} (h1 : ∀ k, k < 19 → c.has k = d.has k) (h2 : ∀ k, k < 19 → c.v k = d.v k) : crdA c = crdA d := fnA_congr fun i hi => by
  unfold cf
  by_cases h : i < 19
  · rw [if_pos h, if_pos h, h1 i h]
  · rw [if_neg h, if_neg h, h2 (i - 19) (by omega)]
section
variable {w w' : World} {g : Nat} {c : Crd}
theorem CrdAt.at_ (h : CrdAt w g c) : rowAt w g = crdA c := h.eq
theorem CrdAt.cellH (h : CrdAt w g c) {k : Nat} (hk : k < 19) : w.cell? ⟨g, k, none⟩ = some (.bool (c.has k)) := (Fa.cell h (by omega)).trans (by rw [cf, if_pos hk])
theorem CrdAt.cellV (h : CrdAt w g c) {k : Nat} (hk : k < 19) : w.cell? ⟨g, 19 + k, none⟩ = some (strV (c.v k)) := (Fa.cell h (by omega)).trans (by rw [cf, if_neg (by omega), Nat.add_sub_cancel_left])
end

/-! Belongs, Sized, flag -/
def belongs (c k : Int) : Bool :=
  if c = 1 then decide (1 ≤ k) && decide (k ≤ 7)
  else if c = 2 then decide (1 ≤ k) && decide (k ≤ 17)
  else if c = 3 then (decide (1 ≤ k) && decide (k ≤ 7)) || k == 14
  else if c = 4 then (decide (1 ≤ k) && decide (k ≤ 13)) || k == 18
  else false
def sizedR (c n : Int) : Bool := c == 1 || (n == 32 || (c == 2 && (n == 16 || n == 24)))
def flagB (b : Bool) : List UInt8 := if b then [1] else [0]
theorem ref_flag (b : Bool) (w : World) : Calls Try.prog 28 #[.bool b] w fun e w' => e = .returned (strV (flagB b)) ∧ w = w' := by
  cases b
  · go_enter Try.func28, Try.ntmps28
    go_wp2
    go_ret
    exact ⟨rfl, rfl⟩
  · go_enter Try.func28, Try.ntmps28
    go_wp2
    go_ret
    exact ⟨rfl, rfl⟩

/-! One, Class -/
def Crd.one (c : Crd) (k : Nat) : Bool := c.v k == [1]
def Crd.cls (c : Crd) : Nat := if (c.v 1).length = 1 then headB (c.v 1) else 0

end Go.Proofs.Ytakooljbkjnilaa
