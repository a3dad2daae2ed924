/- slices.Equal over ints. -/
import Derived.Test.YtdlmamnnamlleaaOwn
import Derived.WalkSpells
import Derived.Handy
import Derived.Outline
import Derived.Lib.Hide
import Derived.RegionTactic
import Derived.Test.YtdlmamnnamlleaaFrame
namespace Go.Proofs.Ytdlmamnnamlleaa
open Go.ChangeShapes Go.WideShapes Go.ChangeAt Go.RowKit
set_option maxHeartbeats 1000000
set_option maxRecDepth 100000
attribute [local go_sem] kp_refl kp_alloc kp_setCell kp_drew kp_drewN row_new row_old rowAt_new rowAt_old

def izV (l : List Int) : List Value := l.map fun k : Int => Value.int .i64 k
theorem izV_len (l : List Int) : (izV l).length = l.length := by simp [izV]
theorem izV_at {l : List Int} {j : Nat} (h : j < l.length) : (izV l)[j]'(by rw [izV_len]; exact h) = .int .i64 l[j] := by simp [izV]
theorem intsEq_no {xs ys : List Int} {k : Nat} (hk : k < xs.length) (hk2 : k < ys.length) (h : xs[k] ≠ ys[k]) : decide (xs = ys) = false := by
  rw [decide_eq_false_iff_not]
  intro e
  subst e
  exact h rfl
theorem ints_Equal (A1 A2 : Option Addr) (xs ys : List Int) (c1 c2 : Nat) (w : World) (h1 : Rd w w.heap.size A1 (izV xs)) (h2 : Rd w w.heap.size A2 (izV ys)) (hn : xs.length ≤ 9223372036854775807) :
    Calls Try.prog 17 #[.slice A1 xs.length c1, .slice A2 ys.length c2] w fun e w' => e = .returned (.bool (decide (xs = ys))) ∧ Below w.heap.size w w' := by
  by_cases hlen : xs.length = ys.length
  · have hlb : ((xs.length : Int) != (ys.length : Int)) = false := by simp [hlen]
    have HL := Lib.hid hlen
    clear hlen
    go_enter Try.func17, Try.ntmps17
    go_wp2
    go_loopw [13] (fun i wr => ∃ k : Nat, k ≤ xs.length ∧ i = .int .i64 k ∧ Hid (xs.take k = ys.take k) ∧ Below w.heap.size w wr) (fun i _ => xs.length - (intOf i).toNat)
    case atStart => exact ⟨0, by omega, rfl, rfl, Below.refl _ _⟩
    case round =>
      obtain ⟨k, hk, rfl, heq, hb⟩ := hrel
      by_cases hlt : k < xs.length
      · have hlt2 : k < ys.length := by have := HL.out; omega
        have h1' := h1.below hb
        have h2' := h2.below hb
        obtain ⟨a1, rfl, -, q1⟩ := h1'.at_ (k := k) (by rw [izV_len]; exact hlt)
        obtain ⟨a2, rfl, -, q2⟩ := h2'.at_ (k := k) (by rw [izV_len]; exact hlt2)
        rw [izV_at hlt] at q1
        rw [izV_at hlt2] at q2
        have hbx : (k : Int) < (ys.length : Int) := by omega
        have hbx0 : (0 : Int) ≤ (k : Int) := by omega
        have hbx1 : (k : Int) < (xs.length : Int) := by omega
        have hno := Lib.hid (fun (h : xs[k] ≠ ys[k]) => intsEq_no hlt hlt2 h)
        have hyes : Hid (xs[k] = ys[k] → xs.take (k + 1) = ys.take (k + 1)) := fun h => by
          rw [List.take_succ_eq_append_getElem hlt, List.take_succ_eq_append_getElem hlt2, heq.out, h]
        generalize xs[k] = x at *
        generalize ys[k] = y at *
        by_cases hxy : x = y
        · have hy2 := Lib.hid (hyes.out hxy)
          subst hxy
          go_wp2
          go_region
          go_wp2
          go_roundw
          case rel => exact ⟨k + 1, by omega, by go_num, hy2.out, hb.drew⟩
          case measure => simp [intOf]; omega
        · have hn2 := Lib.hid (hno.out hxy)
          have ht2 : (x != y) = true := by rw [bne_iff_ne]; exact hxy
          have ht3 : (x == y) = false := by rw [beq_eq_false_iff_ne]; exact hxy
          have ht4 : decide (x = y) = false := decide_eq_false hxy
          go_wp2
          go_region
          go_wp2
          go_ret
          exact ⟨ret_bool (by rw [hn2.out]), hb.drew⟩
      · have h3 : Hid (decide (xs = ys) = true) := by
          show _ = _
          have := heq.out
          rw [List.take_of_length_le (by omega), List.take_of_length_le (by have := HL.out; omega)] at this
          simpa using this
        go_wp2
        go_ret
        exact ⟨ret_bool (by rw [h3.out]), hb⟩
  · have hlb : ((xs.length : Int) != (ys.length : Int)) = true := by rw [bne_iff_ne]; omega
    have hno : Hid (decide (xs = ys) = false) := by
      show _ = _
      rw [decide_eq_false_iff_not]
      exact fun e => hlen (by rw [e])
    clear hlen
    go_enter Try.func17, Try.ntmps17
    go_wp2
    go_ret
    exact ⟨ret_bool (by rw [hno.out]), Below.refl _ _⟩
end Go.Proofs.Ytdlmamnnamlleaa
