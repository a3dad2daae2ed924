/- Contracts of the document's numbers, the sixth part: OfBits. -/
import Derived.Test.YtodcjeaannfbnaaNumN
import Derived.Test.YtodcjeaannfbnaaAt
import Derived.Deep.RegionLaw
namespace Go.Proofs.Ytodcjeaannfbnaa
open Go.ChangeShapes Go.WideShapes Go.ChangeAt Go.RowKit
set_option maxHeartbeats 1000000
set_option maxRecDepth 100000

/-! Bits of a slice of ints -/
def bitsV (f : Nat → Nat) (i : Nat) : Nat → Nat
  | 0 => 0
  | n + 1 => f i + 2 * bitsV f (i + 1) n
theorem bitsV_lt {f : Nat → Nat} (h : ∀ i, f i < 2) : ∀ n i, bitsV f i n < 2 ^ n
  | 0, _ => by simp [bitsV]
  | n + 1, i => by
    have h1 := bitsV_lt h n (i + 1)
    have h2 := h i
    show f i + 2 * bitsV f (i + 1) n < 2 ^ (n + 1)
    rw [Nat.pow_succ]; omega
theorem bitsV_at {f : Nat → Nat} (h : ∀ i, f i < 2) : ∀ n i j, j < n → bitsV f i n / 2 ^ j % 2 = f (i + j)
  | n + 1, i, 0, _ => by
    have h2 := h i
    show (f i + 2 * bitsV f (i + 1) n) / 2 ^ 0 % 2 = _
    rw [Nat.pow_zero, Nat.div_one]
    simp only [Nat.add_zero]
    omega
  | n + 1, i, j + 1, hj => by
    have h2 := h i
    have ih := bitsV_at h n (i + 1) j (by omega)
    show (f i + 2 * bitsV f (i + 1) n) / 2 ^ (j + 1) % 2 = _
    rw [Nat.pow_succ, Nat.mul_comm (2 ^ j) 2, ← Nat.div_div_eq_div_mul, show (f i + 2 * bitsV f (i + 1) n) / 2 = bitsV f (i + 1) n by omega, ih]
    congr 1; omega
theorem ref_OfBits (f : Nat → Nat) (g n : Nat) (w : World) (hg : At w g .i64 n f) (hf : ∀ i, f i < 2) (hn : n ≤ 10000) :
    Calls Try.prog 124 #[.slice (some ⟨g, 0, none⟩) n n] w (RetN (bitsV f 0 n) w) := by
  go_enter Try.func124, Try.ntmps124
  go_wp2
  go_loopw [3, 4] (fun v i wr => ∃ s : Nat, i = .int .i64 ((s : Int) - 1) ∧ s ≤ n ∧ IsN wr v (bitsV f s (n - s)) ∧ At wr g .i64 n f ∧ Below w.heap.size w wr) (fun _ i _ => (intOf i + 1).toNat)
  case atStart => exact ⟨n, rfl, Nat.le_refl _, by rw [Nat.sub_self]; exact IsN.nil _, hg, Below.refl _ _⟩
  case round =>
    clear hg
    obtain ⟨s, rfl, hs, hN, hg, hL⟩ := hrel
    rename_i u3
    rcases Nat.eq_zero_or_pos s with rfl | hs0
    · rw [Nat.sub_zero] at hN
      go_wp2
      go_ret
      exact ⟨_, rfl, hN, hL⟩
    · obtain ⟨i, rfl⟩ : ∃ i, s = i + 1 := ⟨s - 1, by omega⟩
      rw [show (((i + 1 : Nat) : Int) - 1) = (i : Int) by omega]
      have c := hg.cell (i := i) (by omega)
      have hfi := hf i
      have hst : bitsV f (i + 1) (n - (i + 1)) + bitsV f (i + 1) (n - (i + 1)) + f i = bitsV f i (n - i) := by
        rw [show n - i = (n - (i + 1)) + 1 by omega]; show _ = f i + 2 * _; omega
      have hHst := Lib.hid hst
      have hlt := bitsV_lt hf (n - (i + 1)) (i + 1)
      have hb1 : bitsV f (i + 1) (n - (i + 1)) < big := lt_big hlt (by omega)
      have hb2 : bitsV f (i + 1) (n - (i + 1)) + bitsV f (i + 1) (n - (i + 1)) < big := add_big hlt hlt (by omega)
      have hi1 : (0 : Int) ≤ i := by omega
      have hi2 : (i : Int) < n := by omega
      clear hst hlt
      generalize bitsV f (i + 1) (n - (i + 1)) = V at *
      generalize hx : f i = x at *
      have hHx := Lib.hid hx
      clear hx
      have hx2 : x < 65536 := by omega
      go_wp2
      have hV := (hN.toV hb1).drew
      have hbw : Below wr.heap.size wr wr.drew := (Below.refl _ _).drew
      go_region_law (first
        | (go_simp; go_at_call 69; refine Calls.mono (plusN (m := V) (n := V) _ (by first | exact hV | exact IsV.alloc hV _) (by first | exact hV | exact IsV.alloc hV _)) ?_; rintro e w1 ⟨t, rfl, ht, hbt⟩; have hbw := (show Below wr.heap.size wr w1 by first | exact below_step hbt hbw (Nat.le_refl _) | exact below_step hbt (hbw.alloc hbw.size _) (Nat.le_refl _)); have c1 := ((bcell hbw).1 g i hg.lt).trans c)
        | (go_simp; go_at_call 69; refine Calls.mono (plusN (m := V + V) (n := x) _ (by first | exact ht.toV hb2 | exact (ht.toV hb2).alloc _) (by first | exact IsV.lit' _ _ (by simp) hx2 | exact IsV.step hbt (IsV.lit' _ _ (by simp) hx2) | exact IsV.step hbt (IsV.drew (IsV.lit' _ _ (by simp) hx2)))) ?_; rintro e w2 ⟨t2, rfl, ht2, hbt2⟩; have hbw := (show Below wr.heap.size wr w2 by first | exact below_step hbt2 hbw (Nat.le_refl _) | exact below_step hbt2 (hbw.alloc hbw.size _) (Nat.le_refl _))))
      all_goals
        go_wp2
        go_roundw
        case rel => exact ⟨i, rfl, by omega, hHst.out ▸ ht2, hg.below hbw hg.lt, below_step hbw hL (Nat.le_refl _)⟩
        case measure => simp [intOf]
end Go.Proofs.Ytodcjeaannfbnaa
