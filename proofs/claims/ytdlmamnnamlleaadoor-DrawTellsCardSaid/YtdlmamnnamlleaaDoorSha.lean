/- Contracts of package hash: right, word, press. -/
import Derived.Test.YtdlmamnnamlleaaDoorFrame
import Derived.Test.YtdlmamnnamlleaaDoorOwn
import Derived.Test.YtdlmamnnamlleaaDoorArrK
import Derived.Test.YtdlmamnnamlleaaDoorMem2
import Derived.Test.YtdlmamnnamlleaaDoorShaP
import Derived.Outline
import Derived.Handy
import Derived.Lib.Hide
import Derived.RegionTactic
import Derived.BigRegion
import Derived.Deep.QuietTactic
import Derived.BigQuiet
import Derived.Deep.RegionHeld3
import Derived.Deep.RegionWith
import Derived.Deep.DrawnRows
namespace Go.Proofs.YtdlmamnnamlleaaDoor
open Go.ChangeShapes Go.WideShapes Go.ChangeAt Go.RowKit
set_option maxHeartbeats 1000000
set_option maxRecDepth 100000
attribute [local go_sem] u32_xor' u32_and' u32_or' u32_add' u32_addw' u32_shr' u32_shl' u32_shlw' u32_not'

abbrev u32v (x : W32) : Value := .int .u32 (w2n x : Int)

theorem rot32 (x : W32) (n : Nat) (w : World) (hn : 0 < n) (hn2 : n < 32) :
    Calls Tryd.prog 121 #[u32v x, .int .i64 (-(n : Int))] w fun e w' => e = .returned (u32v (rotr x n)) ∧ w = w' := by
  obtain ⟨m, hm⟩ : ∃ m, m = 32 - n := ⟨_, rfl⟩
  have hb : bits .and .u64 (IntKind.u64.wrap (-(n : Int))) 31 = (m : Int) := by
    rw [show IntKind.u64.wrap (-(n : Int)) = ((18446744073709551616 - n : Nat) : Int) by rw [IntKind.wrap_u64]; omega, show (31 : Int) = ((31 : Nat) : Int) from rfl, u64_and_nat _ _ (by omega) (by omega), show (31 : Nat) = 2 ^ 5 - 1 from rfl, Nat.and_two_pow_sub_one_eq_mod]
    omega
  have h1 : (0 : Int) ≤ m := by omega
  have h2 : (m : Int) < 32 := by omega
  have h3 : (32 : Int) - m = n := by omega
  have hHm := Lib.hid hm
  clear hm
  go_enter Tryd.func121, Tryd.ntmps121
  go_wp2
  go_ret
  refine ⟨?_, rfl⟩
  unfold rotr
  rw [BitVec.or_comm, ← hHm.out]; rfl
def be32 (f : Nat → Nat) (at_ : Nat) : W32 := BitVec.ofNat 32 (f at_ * 16777216 + f (at_ + 1) * 65536 + f (at_ + 2) * 256 + f (at_ + 3))
theorem or_lo {x y i : Nat} (h : x < 2 ^ i) : 2 ^ i * y ||| x = 2 ^ i * y + x := (Nat.two_pow_add_eq_or_of_lt h y).symm
theorem be_or {a b c d : Nat} (ha : a < 256) (hb : b < 256) (hc : c < 256) (hd : d < 256) :
    bits .or .u32 (bits .or .u32 (bits .or .u32 ((a : Int) * 16777216) ((b : Int) * 65536)) ((c : Int) * 256)) (d : Int) = (w2n (BitVec.ofNat 32 (a * 16777216 + b * 65536 + c * 256 + d)) : Int) := by
  have e1 : a * 16777216 ||| b * 65536 = a * 16777216 + b * 65536 := by
    have := or_lo (x := b * 65536) (y := a) (i := 24) (by omega)
    rw [Nat.mul_comm a]; simpa using this
  have e2 : (a * 16777216 + b * 65536) ||| c * 256 = a * 16777216 + b * 65536 + c * 256 := by
    have := or_lo (x := c * 256) (y := a * 256 + b) (i := 16) (by omega)
    rw [show a * 16777216 + b * 65536 = 2 ^ 16 * (a * 256 + b) by omega]; exact this
  have e3 : (a * 16777216 + b * 65536 + c * 256) ||| d = a * 16777216 + b * 65536 + c * 256 + d := by
    have := or_lo (x := d) (y := a * 65536 + b * 256 + c) (i := 8) (by omega)
    rw [show a * 16777216 + b * 65536 + c * 256 = 2 ^ 8 * (a * 65536 + b * 256 + c) by omega]; exact this
  rw [show (a : Int) * 16777216 = ((a * 16777216 : Nat) : Int) by simp, show (b : Int) * 65536 = ((b * 65536 : Nat) : Int) by simp, show (c : Int) * 256 = ((c * 256 : Nat) : Int) by simp,
    u32_or_nat _ _ (by omega) (by omega), e1, u32_or_nat _ _ (by omega) (by omega), e2, u32_or_nat _ _ (by omega) (by omega), e3, w2n_of (by omega)]
theorem hash_word (A : Option Addr) (n c : Nat) (f : Nat → Nat) (p : Nat) (w : World) (h : Rd w w.heap.size A (arrK .u8 n f).toList) (hf : ∀ i < n, f i < 256) (hp : p + 3 < n) (hn : n ≤ 1000000) :
    Calls Tryd.prog 117 #[.slice A n c, .int .i64 p] w fun e w' => e = .returned (u32v (be32 f p)) ∧ w.drew = w' := by
  obtain ⟨ad, rfl, hb, c0⟩ := h p (.int .u8 (f p)) (by rw [Array.getElem?_toList, arrK_at (by omega)])
  have c1 := h.all (j := p + 1) (u := .int .u8 (f (p + 1))) (by rw [Array.getElem?_toList, arrK_at (by omega)])
  have c2 := h.all (j := p + 2) (u := .int .u8 (f (p + 2))) (by rw [Array.getElem?_toList, arrK_at (by omega)])
  have c3 := h.all (j := p + 3) (u := .int .u8 (f (p + 3))) (by rw [Array.getElem?_toList, arrK_at (by omega)])
  have e1 : ad.add (p + 1) = ⟨ad.block, ad.off + (p + 1), none⟩ := by unfold Addr.add; rw [if_neg (by omega)]
  have e2 : ad.add (p + 2) = ⟨ad.block, ad.off + (p + 1 + 1), none⟩ := by unfold Addr.add; rw [if_neg (by omega)]
  have e3 : ad.add (p + 3) = ⟨ad.block, ad.off + (p + 2 + 1), none⟩ := by unfold Addr.add; rw [if_neg (by omega)]
  rw [e1] at c1
  rw [e2] at c2
  rw [e3] at c3
  clear e1 e2 e3
  have b0 := hf p (by omega)
  have b1 := hf (p + 1) (by omega)
  have b2 := hf (p + 2) (by omega)
  have b3 := hf (p + 3) (by omega)
  have w1 : IntKind.i64.wrap ((p : Int) + 1) = (p : Int) + 1 := by rw [IntKind.wrap_i64]; omega
  have w2 : IntKind.i64.wrap ((p : Int) + 2) = (p : Int) + 2 := by rw [IntKind.wrap_i64]; omega
  have w3 : IntKind.i64.wrap ((p : Int) + 3) = (p : Int) + 3 := by rw [IntKind.wrap_i64]; omega
  have t1 : ((p : Int) + 1).toNat = p + 1 := by omega
  have t2 : ((p : Int) + 2).toNat = p + 2 := by omega
  have t3 : ((p : Int) + 3).toNat = p + 3 := by omega
  have l1 : (p : Int) + 1 < n := by omega
  have l2 : (p : Int) + 2 < n := by omega
  have l3 : (p : Int) + 3 < n := by omega
  have l0 : (p : Int) < n := by omega
  have z1 : (0 : Int) ≤ (p : Int) + 1 := by omega
  have z2 : (0 : Int) ≤ (p : Int) + 2 := by omega
  have z3 : (0 : Int) ≤ (p : Int) + 3 := by omega
  go_enter Tryd.func117, Tryd.ntmps117
  go_wp2
  go_region
  go_wp2
  go_ret
  exact ⟨congrArg (fun z => Ending.returned (.int .u32 z)) (be_or b0 b1 b2 b3), rfl⟩
theorem hash_right (x : W32) (n : Nat) (w : World) (hn : 0 < n) (hn2 : n < 32) :
    Calls Tryd.prog 118 #[u32v x, .int .i64 n] w fun e w' => e = .returned (u32v (rotr x n)) ∧ w = w' := by
  go_enter Tryd.func118, Tryd.ntmps118
  go_wp2_with (go_at_call 121; refine (rot32 x n _ hn hn2).mono ?_; rintro e w' ⟨rfl, rfl⟩)
  go_ret
  exact ⟨rfl, rfl⟩

/-! press -/
def h8 (h : Nat → W32) : Array Value := arrK .u32 8 fun i => w2n (h i)
def wK (b : Nat → W32) (t : Nat) : Nat → Nat := fun i => if i < t then w2n (sch b i) else 0
theorem wK_step (b : Nat → W32) (t p : Nat) : upd (wK b t) t (w2n (sch b t)) p = wK b (t + 1) p := by
  unfold upd wK
  by_cases h : p = t
  · subst h; rw [if_pos rfl, if_pos (by omega)]
  · rw [if_neg h]
    by_cases h2 : p < t
    · rw [if_pos h2, if_pos (by omega)]
    · rw [if_neg h2, if_neg (by omega)]
theorem wK_at (b : Nat → W32) {t i : Nat} (h : i < t) : wK b t i = w2n (sch b i) := if_pos h
end Go.Proofs.YtdlmamnnamlleaaDoor
