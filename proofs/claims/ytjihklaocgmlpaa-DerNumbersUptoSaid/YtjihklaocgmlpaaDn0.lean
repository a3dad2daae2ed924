/- Bytes made of numbers: one byte in a block, its text; the lowest digit of a number. -/
import Derived.Test.YtjihklaocgmlpaaNum5
namespace Go.Proofs.Ytjihklaocgmlpaa
open Go.ChangeShapes Go.WideShapes Go.ChangeAt Go.RowKit
set_option maxHeartbeats 4000000
set_option maxRecDepth 100000
theorem one_new {w : World} {x : Nat} (hx : x < 256) : Rd (w.alloc (.cells #[.int .u8 (x : Nat)] 5)) (w.alloc (.cells #[.int .u8 (x : Nat)] 5)).heap.size (some ⟨w.heap.size, 0, none⟩) (bytesV [UInt8.ofNat x]) := by
  have h1 : bytesV [UInt8.ofNat x] = (#[.int .u8 (x : Nat)] : Array Value).toList := by
    simp [bytesV, u8v]; omega
  rw [h1]
  exact Rd.of_blk (push_new _ _) (by simp)
theorem conv_rd1 {w : World} {A : Option Addr} {x : Nat} (h : Rd w w.heap.size A (bytesV [UInt8.ofNat x])) : (convert 25 9 (.slice A 1 1)).run Try.prog w = .ok (.string ⟨[UInt8.ofNat x].toArray⟩) w :=
  conv_rd Try.underlying25 Try.underlying5 Try.underlying9 (c := 1) h
theorem digitN {v : Value} {m : Nat} (w : World) (hv : IsN w v m) (hm : m < 65536) : Calls Try.prog 62 #[v, .int .i64 0] w fun e w' => e = .returned (.int .i64 (m : Nat)) ∧ w = w' := by
  obtain ⟨A, l, c, rfl, hD, hG⟩ := hv
  have h := ref_digit A l c 0 w hD
  have e : digZ l 0 = m := by
    have h2 := hG.val
    cases l with
    | nil => exact h2
    | cons d r =>
      have h3 : d + 65536 * val r = m := h2
      have h4 : digZ (d :: r) 0 = d := rfl
      rw [h4]; omega
  rw [e] at h
  exact h
end Go.Proofs.Ytjihklaocgmlpaa
