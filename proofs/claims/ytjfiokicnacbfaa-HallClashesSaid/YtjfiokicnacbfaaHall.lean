/- Contracts of hall.Clash, hall.Work and the document's Clash and WorkOf. -/
import Derived.Test.YtjfiokicnacbfaaFrame
import Derived.Test.YtjfiokicnacbfaaMem
import Derived.Outline
import Derived.Handy
import Derived.Lib.Hide
import Derived.Deep.DeepMust
import Derived.Deep.RegionHeld3
namespace Go.Proofs.Ytjfiokicnacbfaa
open Go.ChangeShapes Go.WideShapes Go.ChangeAt Go.RowKit

theorem load_Call {w : World} {dst : Option Tmp} {x : Operand} {tt : TypeId} {pos : String} {af : Array Edge} {gd : Option (Nat × Bool)} {a : Act} {K : Act → World → Prop} {Q : Exit → Act → World → Prop}
    (hv : IsHead (a.eval x)) (h : Row w (blkOf (a.eval x)) 24) : Oper.wp Try.prog ⟨dst, .load 31 x, tt, pos, af, gd⟩ a w K Q ↔ K (a.put dst (.agg (rowAt w (blkOf (a.eval x))))) w :=
  wp_load_whole Try.underlying31 rfl (by kernel_rfl) hv h
theorem exec_Call {w : World} {dst : Option Tmp} {x : Operand} {tt : TypeId} {pos : String} {af : Array Edge} {gd : Option (Nat × Bool)} {ρ : Operand → Value}
    (hv : IsHead (ρ x)) (h : Row w (blkOf (ρ x)) 24) : (execOp ρ ⟨dst, .load 31 x, tt, pos, af, gd⟩).run Try.prog w = .ok (.value (.agg (rowAt w (blkOf (ρ x))))) w :=
  exec_load_whole Try.underlying31 rfl (by kernel_rfl) hv h
attribute [local go_sem ↓] load_Call exec_Call
attribute [local go_sem] isHead_mk blkOf_mk row_new_cells row_new row_old row_drew row_drewN row_setCell row_setRow_far rowAt_new rowAt_old rowAt_drew rowAt_drewN rowAt_setCell_far rowAt_setCell_same setRow_new setRow_old setRow_drew

def wholeB (k : Int) : Bool := decide (2 ≤ k ∧ k ≤ 7)
def clashB (ka sa kb sb : Int) : Bool := wholeB ka || wholeB kb || (decide (sa = sb) && decide (ka ≠ 1) && decide (kb ≠ 1))

theorem wholeB_true {k : Int} (h : 2 ≤ k) (h' : k ≤ 7) : wholeB k = true := by simp [wholeB, h, h']
theorem wholeB_false {k : Int} (h : ¬ (2 ≤ k ∧ k ≤ 7)) : wholeB k = false := by simp [wholeB]; omega

theorem hall_whole (k : Int) (w : World) :
    Calls Try.prog 58 #[.int .i64 k] w fun e w' => e = .returned (.bool (wholeB k)) ∧ w = w' := by
  go_enter Try.func58, Try.ntmps58
  go_wp2
  all_goals (try go_ret)
  all_goals
    refine ⟨ret_bool ?_, rfl⟩
    first
    | (refine (wholeB_true ?_ ?_).symm <;> (simp at *; omega))
    | (refine (wholeB_false ?_).symm; simp at *; omega)

theorem hall_Clash (k1 s1 k2 s2 : Int) (c d : Array Value) (w : World) (hc0 : c[0]? = some (.int .i64 k1)) (hc1 : c[1]? = some (.int .i64 s1)) (hd0 : d[0]? = some (.int .i64 k2)) (hd1 : d[1]? = some (.int .i64 s2)) :
    Calls Try.prog 11 #[.agg c, .agg d] w fun e w' => e = .returned (.bool (clashB k1 s1 k2 s2)) ∧ Below w.heap.size w w' := by
  go_enter Try.func11, Try.ntmps11
  go_wp2_with (go_at_call 58; refine (hall_whole _ _).mono ?_; rintro e w' ⟨rfl, rfl⟩)
  all_goals go_ret
  all_goals exact ⟨ret_bool (by rw [Bool.eq_iff_iff]; simp_all [clashB] <;> omega), by go_grown⟩

theorem ref_Clash1 (k1 : Int) (c : Array Value) (w : World) (hc0 : c[0]? = some (.int .i64 k1)) :
    Calls Try.prog 59 #[.agg c] w fun e w' => e = .returned (.bool (wholeB k1)) ∧ Below w.heap.size w w' := by
  go_enter Try.func59, Try.ntmps59
  go_wp2
  all_goals go_ret
  all_goals
    refine ⟨ret_bool ?_, by go_grown⟩
    first
    | (refine (wholeB_false ?_).symm; simp at *; omega)
    | (simp [wholeB, *]; done)
    | (simp [wholeB] at *; omega)

theorem ref_Clash (k1 s1 k2 s2 : Int) (c d : Array Value) (w : World) (hc : Cells c 24) (hc0 : c[0]? = some (.int .i64 k1)) (hc1 : c[1]? = some (.int .i64 s1)) (hd : Cells d 24) (hd0 : d[0]? = some (.int .i64 k2)) (hd1 : d[1]? = some (.int .i64 s2)) :
    Calls Try.prog 12 #[.agg c, .agg d] w fun e w' => e = .returned (.bool (clashB k1 s1 k2 s2)) ∧ Below w.heap.size w w' := by
  go_enter Try.func12, Try.ntmps12
  go_wp2_with fail
  refine (ref_Clash1 k1 c _ hc0).mono ?_
  rintro e w1 ⟨rfl, hb1⟩
  obtain ⟨hk1, hk2⟩ := bcell hb1
  have hkd : Row w1 (w.heap.size + 1) 24 := row_below ((row_new_cells (by simp) hd).2 trivial) hb1 (by simp)
  have hrd : rowAt w1 (w.heap.size + 1) = d := (rowAt_below hb1 (by simp)).trans (rowAt_new (by simp))
  go_wp2_with fail
  · go_ret
    exact ⟨ret_bool (by simp [clashB, *]), (((Below.refl _ _).alloc (Nat.le_refl _) _).alloc (by simp) _).trans (hb1.mono (by simp; omega))⟩
  · refine (ref_Clash1 k2 d _ hd0).mono ?_
    rintro e w2 ⟨rfl, hb2⟩
    obtain ⟨hk3, hk4⟩ := bcell (hb2.mono (B' := w.heap.size + 2) (by have := hb1.size; simp at this; omega))
    have hbb : Below w.heap.size w w2 := (((Below.refl _ _).alloc (Nat.le_refl _) _).alloc (by simp) _).trans ((hb1.mono (by simp; omega)).trans (hb2.mono (by have := hb1.size; simp at this; omega)))
    have hz : w.heap.size + 2 ≤ w1.heap.size := by have := hb1.size; simp at this; omega
    clear hb1 hb2
    go_wp2
    all_goals go_ret
    all_goals exact ⟨ret_bool (by rw [Bool.eq_iff_iff]; simp_all [clashB] <;> omega), hbb⟩

theorem hall_Work (A : Option Addr) (n cp : Nat) (c : Array Value) (w : World) (hcb : c[21]? = some (.slice A n cp)) (hn : n ≤ 9223372036854775807) :
    Calls Try.prog 13 #[.agg c] w fun e w' => e = .returned (.int .i64 (1 + min (n / 64 : Nat) 8 : Nat)) ∧ Below w.heap.size w w' := by
  go_enter Try.func13, Try.ntmps13
  go_wp2
  all_goals go_ret
  all_goals exact ⟨ret_int (by omega), by go_grown⟩

theorem ref_WorkOf (A : Option Addr) (n cp : Nat) (c : Array Value) (w : World) (hcb : c[21]? = some (.slice A n cp)) (hn : n ≤ 9223372036854775807) :
    Calls Try.prog 14 #[.agg c] w fun e w' => e = .returned (.int .i64 (1 + min (n / 64 : Nat) 8 : Nat)) ∧ Below w.heap.size w w' := by
  go_enter Try.func14, Try.ntmps14
  go_wp2
  go_loop [3, 4] (fun v i => ∃ k : Nat, k ≤ 8 ∧ 64 * k ≤ n ∧ v = .int .i64 ((k : Int) + 1) ∧ i = .int .i64 (64 * (k : Int) + 64)) (fun v _ => 9 - (intOf v).toNat)
  case atStart => exact ⟨0, by omega, by omega, rfl, rfl⟩
  case round =>
    obtain ⟨k, hk, hkn, rfl, rfl⟩ := hrel
    by_cases h1 : 64 * k + 64 ≤ n
    · by_cases h2 : k < 8
      · go_wp2
        go_round
        case rel => exact ⟨k + 1, by omega, by omega, by go_num, by go_num⟩
        case measure => simp [intOf]; omega
      · go_wp2
        go_ret
        refine ⟨ret_int ?_, by go_grown⟩
        omega
    · go_wp2
      go_ret
      refine ⟨ret_int ?_, by go_grown⟩
      omega

theorem clashes (k1 s1 k2 s2 : Int) (A : Option Addr) (n cp : Nat) (c d : Array Value) (w : World) (hc : Cells c 24) (hc0 : c[0]? = some (.int .i64 k1)) (hc1 : c[1]? = some (.int .i64 s1)) (hd : Cells d 24) (hd0 : d[0]? = some (.int .i64 k2)) (hd1 : d[1]? = some (.int .i64 s2)) (hcb : c[21]? = some (.slice A n cp)) (hn : n ≤ 9223372036854775807) :
    Calls Try.prog 4 #[.agg c, .agg d] w fun e w' => e = .returned (.bool true) ∧ Below w.heap.size w w' := by
  go_enter Try.func4, Try.ntmps4
  go_wp2_with fail
  have hS : ∀ w', Below (w.heap.size + 2) ((w.alloc (.cells c 31)).alloc (.cells d 31)) w' → Row w' w.heap.size 24 ∧ rowAt w' w.heap.size = c ∧ Row w' (w.heap.size + 1) 24 ∧ rowAt w' (w.heap.size + 1) = d ∧ Below (w.heap.size + 2) ((w.alloc (.cells c 31)).alloc (.cells d 31)) w' := fun w' hb =>
    ⟨row_below (by go_simp) hb (by omega), (rowAt_below hb (by omega)).trans (by go_simp), row_below (by go_simp) hb (by omega), (rowAt_below hb (by omega)).trans (by go_simp), hb⟩
  have hB : w.heap.size + 2 ≤ ((w.alloc (.cells c 31)).alloc (.cells d 31)).heap.size := by simp
  have hS' := Lib.hid hS
  clear hS
  go_region_held3 (fun w' => Row w' w.heap.size 24 ∧ rowAt w' w.heap.size = c ∧ Row w' (w.heap.size + 1) 24 ∧ rowAt w' (w.heap.size + 1) = d ∧ Below (w.heap.size + 2) ((w.alloc (.cells c 31)).alloc (.cells d 31)) w')
    ((go_split_ands; first | exact hS'.out _ (Below.refl _ _).drew | exact hS'.out _ (below_step (by assumption) (by assumption) hB)))
    (first
      | (go_at_call 11; refine (hall_Clash k1 s1 k2 s2 c d _ hc0 hc1 hd0 hd1).mono ?_; rintro e w' ⟨rfl, hb'⟩)
      | (go_at_call 12; refine (ref_Clash k1 s1 k2 s2 c d _ hc hc0 hc1 hd hd0 hd1).mono ?_; rintro e w' ⟨rfl, hb'⟩)
      | (go_at_call 13; refine (hall_Work A n cp c _ hcb hn).mono ?_; rintro e w' ⟨rfl, hb'⟩)
      | (go_at_call 14; refine (ref_WorkOf A n cp c _ hcb hn).mono ?_; rintro e w' ⟨rfl, hb'⟩))
  all_goals go_split_ands
  all_goals go_wp2
  all_goals go_ret
  all_goals exact ⟨rfl, (((Below.refl _ _).alloc (Nat.le_refl _) _).alloc (by simp) _).trans (Below.mono (B := w.heap.size + 2) (by assumption) (by omega))⟩

end Go.Proofs.Ytjfiokicnacbfaa
