/- Contracts: package pin's right, slices.Clone; a lock in a block. -/
import Derived.Test.YtjihklaocgmlpaaDoorLkE
namespace Go.Proofs.YtjihklaocgmlpaaDoor
open Go.ChangeShapes Go.WideShapes Go.ChangeAt Go.RowKit
set_option maxHeartbeats 1000000
set_option maxRecDepth 100000
def rightB (n : Nat) : Bool := decide (4 ≤ n) && decide (n ≤ 16)
theorem pin_right (A : Option Addr) (n c : Nat) (w : World) : Calls Tryd.prog 46 #[.slice A n c] w fun e w' => e = .returned (.bool (rightB n)) ∧ w = w' := by
  go_enter Tryd.func46, Tryd.ntmps46
  by_cases h4 : 4 ≤ n
  · have d1 : decide ((4 : Int) ≤ (n : Int)) = true := by simp; omega
    obtain ⟨b, hb⟩ : ∃ b, decide ((n : Int) ≤ (16 : Int)) = b := ⟨_, rfl⟩
    have hr : rightB n = b := by unfold rightB; rw [← hb, decide_eq_true h4, Bool.true_and]; exact decide_eq_decide.2 (by omega)
    rw [hr]
    clear hr
    go_wp2
    go_ret
    exact ⟨rfl, rfl⟩
  · have d1 : decide ((4 : Int) ≤ (n : Int)) = false := by simp; omega
    have hr : rightB n = false := by unfold rightB; rw [decide_eq_false h4]; rfl
    rw [hr]
    clear hr
    go_wp2
    go_ret
    exact ⟨rfl, rfl⟩
theorem law_right (A : Option Addr) (n c : Nat) (w : World) : Calls Tryd.prog 26 #[.slice A n c] w fun e w' => e = .returned (.bool (rightB n)) ∧ w = w' := by
  go_enter Tryd.func26, Tryd.ntmps26
  by_cases h4 : 4 ≤ n
  · have d1 : decide ((4 : Int) ≤ (n : Int)) = true := by simp; omega
    obtain ⟨b, hb⟩ : ∃ b, decide ((n : Int) ≤ (16 : Int)) = b := ⟨_, rfl⟩
    have hr : rightB n = b := by unfold rightB; rw [← hb, decide_eq_true h4, Bool.true_and]; exact decide_eq_decide.2 (by omega)
    rw [hr]
    clear hr
    go_wp2
    go_ret
    exact ⟨rfl, rfl⟩
  · have d1 : decide ((4 : Int) ≤ (n : Int)) = false := by simp; omega
    have hr : rightB n = false := by unfold rightB; rw [decide_eq_false h4]; rfl
    rw [hr]
    clear hr
    go_wp2
    go_ret
    exact ⟨rfl, rfl⟩
theorem equalIn_nil (d : Nat) (A : Option Addr) (n c : Nat) (w : World) : (Op.equalIn (d + 1) 26 (.slice A n c) (.slice none 0 0)).run Tryd.prog w = .ok A.isNone w := by
  cases A <;> simp [Op.equalIn, run_underlying Tryd.underlying26]
theorem equal_nil (A : Option Addr) (n c : Nat) (w : World) : (Op.equal 26 (.slice A n c) (.slice none 0 0)).run Tryd.prog w = .ok A.isNone w := equalIn_nil 9999 A n c w
theorem eq_nil (A : Option Addr) (n c : Nat) (w : World) : (binOp .eql 26 (.slice A n c) (.slice none 0 0)).run Tryd.prog w = .ok (.bool A.isNone) w := by
  simp [binOp, equal_nil A n c w]
/-- A copy of a slice of bytes. -/
theorem clone_bytes (A : Option Addr) (p : List UInt8) (n c : Nat) (w : World) (hp : Bs w A p c) (hn : p.length = n) (hmx : n ≤ 140737488351232) :
    Calls Tryd.prog 39 #[.slice A n c] w fun e w' => ∃ A' c', e = .returned (.slice A' n c') ∧ Bs w' A' p c' ∧ Below w.heap.size w w' ∧ ∀ a, A' = some a → a.block < w'.heap.size := by
  have hp0 := Lib.hid hp
  have hHn := Lib.hid hn
  cases A with
  | none =>
    have hp00 : p = [] := by
      cases p with
      | nil => rfl
      | cons b r => obtain ⟨a, e, -⟩ := hp.rd 0 (.int .u8 (b.toNat : Int)) (by simp [bytesV]); cases e
    subst hp00
    obtain rfl : n = 0 := hn.symm
    clear hp hn hmx
    have hq := eq_nil none 0 c
    rw [show (none : Option Addr).isNone = true from rfl] at hq
    go_enter Tryd.func39, Tryd.ntmps39
    go_wp2
    go_ret
    exact ⟨none, 0, rfl, ⟨Rd.nil, by simp, by omega⟩, Below.refl _ _, fun a e => by cases e⟩
  | some a =>
    clear hp hn
    have hq := eq_nil (some a) n c
    rw [show (some a : Option Addr).isNone = false from rfl] at hq
    go_enter Tryd.func39, Tryd.ntmps39
    have hO := Lib.hid (show (w.alloc (Obj.cells #[] 5)).ownsRow w.heap.size 5 1 (.slice (some ⟨w.heap.size, 0, none⟩) 0 0) 0 [] from
      ⟨rfl, .inr ⟨w.heap.size, 0, #[], rfl, Nat.le_refl _, push_new _ _, Nat.le_refl _, Nat.zero_le _, rfl, rfl⟩⟩)
    have hp1 := Lib.hid (show Bs (w.alloc (Obj.cells #[] 5)) (some a) p c from hp0.out.step (below_alloc _ _))
    go_wp2_with (refine wpList_app rfl (.tmp 5) (.tmp 6) 26 rfl SB1 rfl hO.out rfl (by rw [bytesV_length, hHn.out]; omega) hp1.out.rd (bytesV_oneCell p) (by unfold maxLen; omega) (by omega) (by simp) ?_; intro v' w' hO3 hg3 ho3; have hHO3 := Lib.hid (And.intro hO3 (And.intro hg3 ho3)); clear hO3 hg3 ho3)
    obtain ⟨h1, h2, -⟩ := hHO3.out
    rw [List.nil_append, Nat.zero_add] at h1
    have hform : ∃ A' c', v' = .slice A' n c' ∧ n ≤ c' ∧ c' ≤ 9223372036854775807 := by
      rcases h1.2 with ⟨h3, h4⟩ | ⟨g, cap, cur, h3, _, _, h4, h5, _⟩
      · exact ⟨_, 0, by rw [h4]; exact h3, by omega, by omega⟩
      · exact ⟨_, _, h3, h4, by unfold maxLen at h5; omega⟩
    obtain ⟨A', c', rfl, hc1, hc2⟩ := hform
    have hfin := Lib.hid (show Bs w' A' p c' ∧ Below w.heap.size w w' ∧ (∀ a, A' = some a → a.block < w'.heap.size) from ⟨⟨Rd.of_own h1, by rw [hHn.out]; exact hc1, hc2⟩, (below_alloc w _).grown h2 (by simp) (fun k hk => by cases hk; exact Nat.le_refl _), fun a e => (h1.lt a.block (by rw [e]; rfl)).2⟩)
    clear hHO3 h1 h2
    go_ret
    exact ⟨A', c', rfl, hfin.out.1, hfin.out.2.1, hfin.out.2.2⟩
end Go.Proofs.YtjihklaocgmlpaaDoor
