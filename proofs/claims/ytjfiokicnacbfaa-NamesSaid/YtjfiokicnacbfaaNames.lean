/- Names: the numbers of package api are those of the document: the closed sentence is true. No conditions. -/
import Derived.Test.YtjfiokicnacbfaaFrame
import Derived.Outline
import Derived.Handy
import Derived.RegionTactic
import Derived.Lib.Hide
namespace Go.Proofs.Ytjfiokicnacbfaa.names
open Go.ChangeShapes Go.WideShapes Go.ChangeAt Go.RowKit

theorem l17 (k : Nat) (h : k < 17) : ([Value.int IntKind.i64 0, Value.int IntKind.i64 1, Value.int IntKind.i64 2, Value.int IntKind.i64 3, Value.int IntKind.i64 4, Value.int IntKind.i64 5, Value.int IntKind.i64 6, Value.int IntKind.i64 7, Value.int IntKind.i64 8, Value.int IntKind.i64 9, Value.int IntKind.i64 10, Value.int IntKind.i64 11, Value.int IntKind.i64 12, Value.int IntKind.i64 13, Value.int IntKind.i64 14, Value.int IntKind.i64 15, Value.int IntKind.i64 16] : List Value)[k]'(by simpa using h) = .int .i64 k := match k, h with | 0, _ => rfl | 1, _ => rfl | 2, _ => rfl | 3, _ => rfl | 4, _ => rfl | 5, _ => rfl | 6, _ => rfl | 7, _ => rfl | 8, _ => rfl | 9, _ => rfl | 10, _ => rfl | 11, _ => rfl | 12, _ => rfl | 13, _ => rfl | 14, _ => rfl | 15, _ => rfl | 16, _ => rfl | k + 17, h => absurd h (by omega)
theorem l18 (k : Nat) (h : k < 18) : ([Value.int IntKind.i64 1, Value.int IntKind.i64 2, Value.int IntKind.i64 3, Value.int IntKind.i64 4, Value.int IntKind.i64 5, Value.int IntKind.i64 6, Value.int IntKind.i64 7, Value.int IntKind.i64 8, Value.int IntKind.i64 9, Value.int IntKind.i64 10, Value.int IntKind.i64 11, Value.int IntKind.i64 12, Value.int IntKind.i64 13, Value.int IntKind.i64 14, Value.int IntKind.i64 15, Value.int IntKind.i64 16, Value.int IntKind.i64 17, Value.int IntKind.i64 18] : List Value)[k]'(by simpa using h) = .int .i64 ((k : Int) + 1) := match k, h with | 0, _ => rfl | 1, _ => rfl | 2, _ => rfl | 3, _ => rfl | 4, _ => rfl | 5, _ => rfl | 6, _ => rfl | 7, _ => rfl | 8, _ => rfl | 9, _ => rfl | 10, _ => rfl | 11, _ => rfl | 12, _ => rfl | 13, _ => rfl | 14, _ => rfl | 15, _ => rfl | 16, _ => rfl | 17, _ => rfl | k + 18, h => absurd h (by omega)
theorem l4 (k : Nat) (h : k < 4) : ([Value.int IntKind.i64 1, Value.int IntKind.i64 2, Value.int IntKind.i64 3, Value.int IntKind.i64 4] : List Value)[k]'(by simpa using h) = .int .i64 ((k : Int) + 1) := match k, h with | 0, _ => rfl | 1, _ => rfl | 2, _ => rfl | 3, _ => rfl | k + 4, h => absurd h (by omega)
theorem l8 (k : Nat) (h : k < 8) : ([Value.int IntKind.i64 1, Value.int IntKind.i64 2, Value.int IntKind.i64 3, Value.int IntKind.i64 4, Value.int IntKind.i64 5, Value.int IntKind.i64 6, Value.int IntKind.i64 7, Value.int IntKind.i64 8] : List Value)[k]'(by simpa using h) = .int .i64 ((k : Int) + 1) := match k, h with | 0, _ => rfl | 1, _ => rfl | 2, _ => rfl | 3, _ => rfl | 4, _ => rfl | 5, _ => rfl | 6, _ => rfl | 7, _ => rfl | k + 8, h => absurd h (by omega)
theorem l23 (k : Nat) (h : k < 23) : ([Value.int IntKind.i64 1, Value.int IntKind.i64 2, Value.int IntKind.i64 3, Value.int IntKind.i64 4, Value.int IntKind.i64 5, Value.int IntKind.i64 6, Value.int IntKind.i64 7, Value.int IntKind.i64 8, Value.int IntKind.i64 9, Value.int IntKind.i64 10, Value.int IntKind.i64 11, Value.int IntKind.i64 12, Value.int IntKind.i64 13, Value.int IntKind.i64 14, Value.int IntKind.i64 15, Value.int IntKind.i64 16, Value.int IntKind.i64 17, Value.int IntKind.i64 18, Value.int IntKind.i64 19, Value.int IntKind.i64 20, Value.int IntKind.i64 21, Value.int IntKind.i64 22, Value.int IntKind.i64 23] : List Value)[k]'(by simpa using h) = .int .i64 ((k : Int) + 1) := match k, h with | 0, _ => rfl | 1, _ => rfl | 2, _ => rfl | 3, _ => rfl | 4, _ => rfl | 5, _ => rfl | 6, _ => rfl | 7, _ => rfl | 8, _ => rfl | 9, _ => rfl | 10, _ => rfl | 11, _ => rfl | 12, _ => rfl | 13, _ => rfl | 14, _ => rfl | 15, _ => rfl | 16, _ => rfl | 17, _ => rfl | 18, _ => rfl | 19, _ => rfl | 20, _ => rfl | 21, _ => rfl | 22, _ => rfl | k + 23, h => absurd h (by omega)
theorem l2 (k : Nat) (h : k < 2) : ([Value.int IntKind.i64 1, Value.int IntKind.i64 2] : List Value)[k]'(by simpa using h) = .int .i64 ((k : Int) + 1) := match k, h with | 0, _ => rfl | 1, _ => rfl | k + 2, h => absurd h (by omega)
theorem lm (k : Nat) (h : k < 25) : ∃ z : Int, ([Value.int IntKind.i64 200, Value.int IntKind.i64 4096, Value.int IntKind.i64 65536, Value.int IntKind.i64 65536, Value.int IntKind.i64 4096, Value.int IntKind.i64 100, Value.int IntKind.i64 20, Value.int IntKind.i64 20, Value.int IntKind.i64 24, Value.int IntKind.i64 32, Value.int IntKind.i64 64, Value.int IntKind.i64 16, Value.int IntKind.i64 1073741824, Value.int IntKind.i64 4, Value.int IntKind.i64 16, Value.int IntKind.i64 8, Value.int IntKind.i64 3, Value.int IntKind.i64 16, Value.int IntKind.i64 2048, Value.int IntKind.i64 9, Value.int IntKind.i64 8, Value.int IntKind.i64 8192, Value.int IntKind.i64 100, Value.int IntKind.i64 16, Value.int IntKind.i64 100] : List Value)[k]'(by simpa using h) = .int .i64 z := match k, h with | 0, _ => ⟨_, rfl⟩ | 1, _ => ⟨_, rfl⟩ | 2, _ => ⟨_, rfl⟩ | 3, _ => ⟨_, rfl⟩ | 4, _ => ⟨_, rfl⟩ | 5, _ => ⟨_, rfl⟩ | 6, _ => ⟨_, rfl⟩ | 7, _ => ⟨_, rfl⟩ | 8, _ => ⟨_, rfl⟩ | 9, _ => ⟨_, rfl⟩ | 10, _ => ⟨_, rfl⟩ | 11, _ => ⟨_, rfl⟩ | 12, _ => ⟨_, rfl⟩ | 13, _ => ⟨_, rfl⟩ | 14, _ => ⟨_, rfl⟩ | 15, _ => ⟨_, rfl⟩ | 16, _ => ⟨_, rfl⟩ | 17, _ => ⟨_, rfl⟩ | 18, _ => ⟨_, rfl⟩ | 19, _ => ⟨_, rfl⟩ | 20, _ => ⟨_, rfl⟩ | 21, _ => ⟨_, rfl⟩ | 22, _ => ⟨_, rfl⟩ | 23, _ => ⟨_, rfl⟩ | 24, _ => ⟨_, rfl⟩ | k + 25, h => absurd h (by omega)

def Same (w : World) (b c : Nat) : Prop := ∀ k : Nat, k < 25 → ∃ z : Int, w.cell? ⟨b, k, none⟩ = some (.int .i64 z) ∧ w.cell? ⟨c, k, none⟩ = some (.int .i64 z)

set_option maxRecDepth 100000 in
set_option maxHeartbeats 4000000 in
theorem walk (w : World) :
    Calls Try.prog 3 #[] w fun e w' => e = .returned (.bool true) ∧ Below w.heap.size w w' := by
  go_enter Try.func3, Try.ntmps3
  go_wp2
  go_loop [16] (fun i => ∃ k : Nat, k ≤ 17 ∧ i = .int .i64 k) (fun i => 17 - (intOf i).toNat)
  case atStart => exact ⟨0, by omega, rfl⟩
  case round =>
    obtain ⟨k, hk, rfl⟩ := hrel
    by_cases hlt : k < 17
    · have e := l17 k hlt
      go_wp2
      go_round
      case rel => exact ⟨k + 1, by omega, by go_num⟩
      case measure => simp [intOf]; omega
    · go_wp2
      go_loop [37] (fun i => ∃ k : Nat, k ≤ 5 ∧ i = .int .i64 k) (fun i => 5 - (intOf i).toNat)
      case atStart => exact ⟨0, by omega, rfl⟩
      case round =>
        obtain ⟨j, hj, rfl⟩ := hrel
        by_cases hjl : j < 5
        · have hj5 : j = 0 ∨ j = 1 ∨ j = 2 ∨ j = 3 ∨ j = 4 := by omega
          clear hj hjl
          rcases hj5 with rfl | rfl | rfl | rfl | rfl
          · go_wp2
            go_loop [43] (fun i => ∃ k : Nat, k ≤ 18 ∧ i = .int .i64 k) (fun i => 18 - (intOf i).toNat)
            case atStart => exact ⟨0, by omega, rfl⟩
            case round =>
              obtain ⟨i, hi, rfl⟩ := hrel
              by_cases hil : i < 18
              · have e := l18 i hil
                go_wp2
                go_round
                case rel => exact ⟨i + 1, by omega, by go_num⟩
                case measure => simp [intOf]; omega
              · go_wp2
                go_round
                case rel => exact ⟨0 + 1, by omega, rfl⟩
                case measure => simp [intOf]
          · go_wp2
            go_loop [43] (fun i => ∃ k : Nat, k ≤ 4 ∧ i = .int .i64 k) (fun i => 4 - (intOf i).toNat)
            case atStart => exact ⟨0, by omega, rfl⟩
            case round =>
              obtain ⟨i, hi, rfl⟩ := hrel
              by_cases hil : i < 4
              · have e := l4 i hil
                go_wp2
                go_round
                case rel => exact ⟨i + 1, by omega, by go_num⟩
                case measure => simp [intOf]; omega
              · go_wp2
                go_round
                case rel => exact ⟨1 + 1, by omega, rfl⟩
                case measure => simp [intOf]
          · go_wp2
            go_loop [43] (fun i => ∃ k : Nat, k ≤ 8 ∧ i = .int .i64 k) (fun i => 8 - (intOf i).toNat)
            case atStart => exact ⟨0, by omega, rfl⟩
            case round =>
              obtain ⟨i, hi, rfl⟩ := hrel
              by_cases hil : i < 8
              · have e := l8 i hil
                go_wp2
                go_round
                case rel => exact ⟨i + 1, by omega, by go_num⟩
                case measure => simp [intOf]; omega
              · go_wp2
                go_round
                case rel => exact ⟨2 + 1, by omega, rfl⟩
                case measure => simp [intOf]
          · go_wp2
            go_loop [43] (fun i => ∃ k : Nat, k ≤ 23 ∧ i = .int .i64 k) (fun i => 23 - (intOf i).toNat)
            case atStart => exact ⟨0, by omega, rfl⟩
            case round =>
              obtain ⟨i, hi, rfl⟩ := hrel
              by_cases hil : i < 23
              · have e := l23 i hil
                go_wp2
                go_round
                case rel => exact ⟨i + 1, by omega, by go_num⟩
                case measure => simp [intOf]; omega
              · go_wp2
                go_round
                case rel => exact ⟨3 + 1, by omega, rfl⟩
                case measure => simp [intOf]
          · go_wp2
            go_loop [43] (fun i => ∃ k : Nat, k ≤ 2 ∧ i = .int .i64 k) (fun i => 2 - (intOf i).toNat)
            case atStart => exact ⟨0, by omega, rfl⟩
            case round =>
              obtain ⟨i, hi, rfl⟩ := hrel
              by_cases hil : i < 2
              · have e := l2 i hil
                go_wp2
                go_round
                case rel => exact ⟨i + 1, by omega, by go_num⟩
                case measure => simp [intOf]; omega
              · go_wp2
                go_round
                case rel => exact ⟨4 + 1, by omega, rfl⟩
                case measure => simp [intOf]
        · go_wp2
          go_loopw [59] (fun i wr => ∃ k : Nat, k ≤ 25 ∧ i = .int .i64 k ∧ Below w.heap.size w wr ∧ wr.heap.size = w.heap.size + 9 ∧ Same wr (w.heap.size + 1 + 1 + 1 + 1 + 1 + 1 + 1) (w.heap.size + 1 + 1 + 1 + 1 + 1 + 1 + 1 + 1)) (fun i _ => 25 - (intOf i).toNat)
          case atStart =>
            refine ⟨0, by omega, rfl, by go_grown, by simp, fun i hi => ?_⟩
            obtain ⟨z, hz⟩ := lm i hi
            refine ⟨z, ?_, ?_⟩ <;> go_cell
          case round =>
            obtain ⟨i, hi, rfl, hb, hsz, hs⟩ := hrel
            by_cases hil : i < 25
            · obtain ⟨z, c1, c2⟩ := hs i hil
              have hs' := Lib.hid hs
              clear hs
              go_wp2
              go_region
              all_goals go_wp2
              all_goals go_roundw
              case rel => exact ⟨i + 1, by omega, by go_num, hb.drew, hsz, hs'.out⟩
              case measure => simp [intOf]; omega
            · go_wp2
              go_ret
              exact ⟨rfl, hb⟩
end Go.Proofs.Ytjfiokicnacbfaa.names
