/- A lock that came in, by value. -/
import Derived.Test.YtjihklaocgmlpaaDoorPinR
import Derived.Test.YtjihklaocgmlpaaDoorArgs
namespace Go.Proofs.YtjihklaocgmlpaaDoor
open Go Go.RowKit Go.ChangeShapes Go.WideShapes Go.ChangeAt Go.Deep
set_option maxRecDepth 100000
section
variable {w : World} {r : Reach} {b0 : Nat} {v : Value}
theorem open_lk (h : Value.okWide Tryd.prog w r b0 44 v) : ∃ (d : List UInt8) (n : Int), v = .agg (lkA d n) ∧ d.length = 32 := by
  obtain ⟨c, rfl, hc, hx⟩ := open_cells (n := 33) (ts := List.replicate 32 5 ++ [3]) rfl (by kernel_rfl) (by simp) (by kernel_rfl) h
  obtain ⟨x, hx1, hx2⟩ := hx 32 3 rfl
  obtain ⟨n, rfl, -⟩ := cell_int Tryd.underlying3 hx2
  have h1 : ∀ i, ∃ z : Nat, i < 32 → c[i]? = some (.int .u8 z) ∧ z < 256 := fun i => by
    by_cases hi : i < 32
    · obtain ⟨x, hx1, hx2⟩ := hx i 5 (by rw [List.getElem?_append_left (by simpa using hi), List.getElem?_replicate, if_pos hi])
      obtain ⟨z, rfl, hz⟩ := cell_int Tryd.underlying5 hx2
      have := has_u8 hz
      exact ⟨z.toNat, fun _ => ⟨by rw [Int.toNat_of_nonneg this.1]; exact hx1, by omega⟩⟩
    · exact ⟨0, fun h => absurd h hi⟩
  refine ⟨bL (fun i => (h1 i).choose) 32, n, ?_, bL_len _ _⟩
  refine congrArg Value.agg (arrV_of hc.1 fun i hi => ?_)
  by_cases h32 : i < 32
  · rw [if_pos h32, bytesF_bL h32 ((h1 i).choose_spec h32).2]
    exact ((h1 i).choose_spec h32).1
  · rw [if_neg h32]
    obtain rfl : i = 32 := by omega
    exact hx1
end
end Go.Proofs.YtjihklaocgmlpaaDoor
