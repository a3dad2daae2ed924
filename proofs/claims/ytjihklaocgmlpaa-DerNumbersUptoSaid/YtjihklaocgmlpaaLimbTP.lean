/- LimbTells: the law's function returns true. -/
import Derived.Test.YtjihklaocgmlpaaLimb5
import Derived.Test.YtjihklaocgmlpaaNum6
import Derived.Test.YtjihklaocgmlpaaNum4
import Derived.Test.YtjihklaocgmlpaaCalm
import Derived.Deep.DeepCutAuto
namespace Go.Proofs.Ytjihklaocgmlpaa
open Go.ChangeShapes Go.WideShapes Go.ChangeAt Go.RowKit
set_option maxHeartbeats 4000000
set_option maxRecDepth 100000
attribute [local go_sem ↓] load_num store_num execl_num execs_num load_wide store_wide execl_wide execs_wide
attribute [local go_sem] isHead_mk blkOf_mk isAgg_mk cellsV_mk row_drew rowAt_drew row_new_cells row_old rowAt_new rowAt_old setRow_new setRow_old
def SRel.n (m : Nat) : SRel := ⟨fun v w => IsN w v m, fun _ _ _ hb h => h.step hb⟩
theorem eqlSame4 (f : Nat → Nat) (W : World) : (Op.equalIn 10000 24 (.agg (arrK .u64 4 f)) (.agg (arrK .u64 4 f))).run Try.prog W = .ok true W := by
  rw [show 10000 = 9998 + 2 from rfl, run_equalIn_arrK Try.underlying24 Try.underlying22 (by kernel_rfl)]; simp
theorem eqlSame8 (f : Nat → Nat) (W : World) : (Op.equalIn 10000 60 (.agg (arrK .u64 8 f)) (.agg (arrK .u64 8 f))).run Try.prog W = .ok true W := by
  rw [show 10000 = 9998 + 2 from rfl, run_equalIn_arrK Try.underlying60 Try.underlying22 (by kernel_rfl)]; simp
theorem cells8 : Cells #[Value.int IntKind.u64 0, Value.int IntKind.u64 0, Value.int IntKind.u64 0, Value.int IntKind.u64 0, Value.int IntKind.u64 0, Value.int IntKind.u64 0, Value.int IntKind.u64 0, Value.int IntKind.u64 0] 8 := by rw [zeroWide]; exact arrK_cells _ _ _
theorem cells4 : Cells #[Value.int IntKind.u64 0, Value.int IntKind.u64 0, Value.int IntKind.u64 0, Value.int IntKind.u64 0] 4 := by rw [zeroNum]; exact arrK_cells _ _ _
theorem ofNumC' (n : Nat) (w : World) (hn : n < 2 ^ 256) : Calls Try.prog 22 #[.agg (arrK .u64 4 (wd n))] w (RetN n w) := ref_OfNum n w hn
theorem twoC' (w : World) : Calls Try.prog 25 #[.int .i64 256] w (RetN (2 ^ 256) w) := ref_TwoTo 256 w (by omega)
theorem toNumM {u : Value} {m N : Nat} (w : World) (hu : IsN w u m) (hm : m < big) (hN : m % 2 ^ 256 = N) : Calls Try.prog 28 #[u] w fun e w' => e = .returned (.agg (arrK .u64 4 (wd N))) ∧ Below w.heap.size w w' := by
  have h := toNumN w (hu.toV hm)
  have e : arrK .u64 4 (wd m) = arrK .u64 4 (wd N) := arrK_congr fun i hi => by rw [← hN]; have := wd_mod (n := m) hi; rwa [Nat.zero_add] at this
  unfold numV at h
  rw [e] at h
  exact h
theorem addC (a b : Nat) (W : World) (ha : a < 2 ^ 256) (hb : b < 2 ^ 256) : Calls Try.prog 26 #[.agg (arrK .u64 4 (wd a)), .agg (arrK .u64 4 (wd b))] W fun e w' => e = .returned (.tuple #[.agg (arrK .u64 4 (wd (addN a b))), .int .u64 (overN a b : Nat)]) ∧ Below W.heap.size W w' := limb_Add a b W ha hb
theorem subC (a b : Nat) (W : World) (ha : a < 2 ^ 256) (hb : b < 2 ^ 256) : Calls Try.prog 27 #[.agg (arrK .u64 4 (wd a)), .agg (arrK .u64 4 (wd b))] W fun e w' => e = .returned (.tuple #[.agg (arrK .u64 4 (wd (subN a b))), .int .u64 (lessN a b : Nat)]) ∧ Below W.heap.size W w' := limb_Sub a b W ha hb
theorem mulC (a b : Nat) (W : World) (ha : a < 2 ^ 256) (hb : b < 2 ^ 256) : Calls Try.prog 30 #[.agg (arrK .u64 4 (wd a)), .agg (arrK .u64 4 (wd b))] W fun e w' => e = .returned (.agg (arrK .u64 8 (wd (a * b)))) ∧ Below W.heap.size W w' := limb_Mul a b W ha hb
theorem cmpC (a b : Nat) (W : World) (ha : a < 2 ^ 256) (hb : b < 2 ^ 256) : Calls Try.prog 33 #[.agg (arrK .u64 4 (wd a)), .agg (arrK .u64 4 (wd b))] W fun e w' => e = .returned (.int .i64 (order a b)) ∧ Below W.heap.size W w' := limb_Cmp a b W ha hb
theorem lenC (a : Nat) (W : World) (ha : a < 2 ^ 256) : Calls Try.prog 36 #[.agg (arrK .u64 4 (wd a))] W (RetLen a W) := limb_Len a W ha
theorem bitC (a : Nat) (i : Int) (W : World) : Calls Try.prog 35 #[.agg (arrK .u64 4 (wd a)), .int .i64 i] W fun e w' => e = .returned (.int .u64 ((if 0 ≤ i ∧ i < 256 then abit a i.toNat else 0 : Nat) : Int)) ∧ Below W.heap.size W w' := limb_Bit a i W
theorem pickC (c a b N : Nat) (W : World) (hc : c < 18446744073709551616) (hN : N = if c % 2 = 1 then b else a) : Calls Try.prog 39 #[.int .u64 c, .agg (arrK .u64 4 (wd a)), .agg (arrK .u64 4 (wd b))] W fun e w' => e = .returned (.agg (arrK .u64 4 (wd N))) ∧ Below W.heap.size W w' := limb_Pick c a b N W hc hN
theorem two_plus {x m : Nat} (h : x < 2 ^ m) (hm : m + 1 ≤ 160000) : 2 ^ m + x < big := lt_big (k := m + 1) (by rw [Nat.pow_succ]; omega) hm
theorem subN_is (a b : Nat) : (a + 2 ^ 256 - b) % 2 ^ 256 = subN a b := by unfold subN; rfl
theorem addN_is (a b : Nat) : (a + b) % 2 ^ 256 = addN a b := by unfold addN; rfl
theorem sub_big {a b : Nat} (h : a + 2 ^ 256 < big) : a + 2 ^ 256 - b < big := Nat.lt_of_le_of_lt (Nat.sub_le _ _) h
theorem order_neg (a b : Nat) : order a b < 0 ↔ a < b := by
  by_cases h : a < b
  · rw [order_lt h]; simp [h]
  · by_cases h2 : b < a
    · rw [order_gt h2]; simp; omega
    · obtain rfl : a = b := by omega
      rw [order_eq]; simp
theorem order_nn (a b : Nat) : 0 ≤ order a b ↔ ¬ a < b := by rw [← order_neg a b]; omega
theorem toWideL {u : Value} {m : Nat} (w : World) (hu : IsN w u m) (hm : m < big) : Calls Try.prog 31 #[u] w fun e w' => e = .returned (.agg (arrK .u64 8 (wd m))) ∧ Below w.heap.size w w' := toWideN w (hu.toV hm)
/-- Bit i of the first s. -/
def bitI (a : Nat) (i : Int) (s : Nat) : Nat := if 0 ≤ i ∧ i < s then abit a i.toNat else 0
theorem bitI_zero (a : Nat) (i : Int) : bitI a i 0 = 0 := if_neg (by omega)
theorem bitI_eq (a s : Nat) : bitI a (s : Int) (s + 1) = abit a s := by unfold bitI; rw [if_pos (by omega)]; rfl
theorem bitI_ne {a s : Nat} {i : Int} (h : (s : Int) ≠ i) : bitI a i (s + 1) = bitI a i s := by
  unfold bitI
  by_cases h2 : 0 ≤ i ∧ i < s
  · rw [if_pos h2, if_pos (by omega)]
  · rw [if_neg h2, if_neg (by omega)]
theorem bitI_lt (a : Nat) (i : Int) (s : Nat) : bitI a i s < 2 := by unfold bitI; split; exact Nat.mod_lt _ (by omega); omega
theorem mod_bit (a s : Nat) : a % 2 ^ (s + 1) = a % 2 ^ s + 2 ^ s * abit a s := by rw [Nat.pow_succ, Nat.mod_mul]; rfl
theorem isLen_one {a s : Nat} (h : abit a s = 1) : IsLen (a % 2 ^ (s + 1)) (s + 1) := by
  rw [mod_bit, h, Nat.mul_one]
  have := Nat.mod_lt a (Nat.pow_pos (n := s) (show 0 < 2 by omega))
  exact ⟨by rw [Nat.pow_succ]; omega, .inr (by rw [Nat.add_sub_cancel]; omega)⟩
theorem isLen_no {a s m : Nat} (h : abit a s = 0) (hm : IsLen (a % 2 ^ s) m) : IsLen (a % 2 ^ (s + 1)) m := by
  rw [mod_bit, h, Nat.mul_zero, Nat.add_zero]; exact hm
theorem isLen_le {a m k : Nat} (h : IsLen a m) (ha : a < 2 ^ k) : m ≤ k := by
  rcases h.2 with h0 | h1
  · omega
  · rcases Nat.lt_or_ge k m with hl | hl
    · have : 2 ^ k ≤ 2 ^ (m - 1) := Nat.pow_le_pow_right (by omega) (by omega)
      omega
    · exact hl
theorem bitC' (a : Nat) (i : Int) (W : World) : Calls Try.prog 35 #[.agg (arrK .u64 4 (wd a)), .int .i64 i] W fun e w' => e = .returned (.int .u64 (bitI a i 256 : Nat)) ∧ Below W.heap.size W w' := bitC a i W
theorem mk256 (w : World) : (Instr.makeSlice 51 (.int .i64 256) (.int .i64 256)).run Try.prog w = .ok (.slice (some ⟨w.heap.size, 0, none⟩) 256 256) (w.alloc (.cells (arrK .i64 256 fun _ => 0) 3)) := by
  have h := run_make_row' (P := Try.prog) 51 3 (.int .i64 0) 8 Try.underlying51 (by kernel_rfl) rfl .i64 .i64 256 (by omega) (by omega)
  rw [made_arrK] at h
  exact h w
/-- What Shift answers. -/
def shN (a : Nat) (i : Int) : Nat := if i < -255 ∨ 255 < i then 0 else if 0 ≤ i then a * 2 ^ i.toNat % 2 ^ 256 else a / 2 ^ (-i).toNat
theorem shiftC (a : Nat) (i : Int) (W : World) (ha : a < 2 ^ 256) : Calls Try.prog 37 #[.agg (arrK .u64 4 (wd a)), .int .i64 i] W fun e w' => e = .returned (.agg (arrK .u64 4 (wd (shN a i)))) ∧ Below W.heap.size W w' := by
  by_cases h : i < -255 ∨ 255 < i
  · have h0 := limb_Sh0 a i W h
    rw [show shN a i = 0 from if_pos h]
    exact h0
  · by_cases h2 : 0 ≤ i
    · obtain ⟨k, rfl⟩ := Int.eq_ofNat_of_zero_le h2
      have h0 := limb_Shl a k _ W (by omega) rfl
      rw [show shN a (k : Int) = a * 2 ^ k % 2 ^ 256 by unfold shN; rw [if_neg h, if_pos h2]; rfl]
      exact h0
    · obtain ⟨k, hk⟩ := Int.eq_ofNat_of_zero_le (show 0 ≤ -i by omega)
      obtain rfl : i = -(k : Int) := by omega
      have h0 := limb_Shr a k _ W ha (by omega) (by omega) rfl
      rw [show shN a (-(k : Int)) = a / 2 ^ k by unfold shN; rw [if_neg h, if_neg h2, Int.neg_neg]; rfl]
      exact h0
/-- Bit p of what the law has shifted, behind s bits. -/
def shF (a : Nat) (i : Int) (s p : Nat) : Nat := if -255 ≤ i ∧ i ≤ 255 ∧ 0 ≤ (p : Int) - i ∧ (p : Int) - i < s then abit a ((p : Int) - i).toNat else 0
theorem abit_lt (a i : Nat) : abit a i < 2 := Nat.mod_lt _ (by omega)
theorem shF_lt (a : Nat) (i : Int) (s p : Nat) : shF a i s p < 2 := by unfold shF; split; exact abit_lt _ _; omega
theorem abit_ext {a b k : Nat} (ha : a < 2 ^ k) (hb : b < 2 ^ k) (h : ∀ j < k, abit a j = abit b j) : a = b := by
  apply Nat.eq_of_testBit_eq
  intro j
  rw [Nat.testBit_eq_decide_div_mod_eq, Nat.testBit_eq_decide_div_mod_eq]
  rcases Nat.lt_or_ge j k with hj | hj
  · have := h j hj
    unfold abit at this
    rw [this]
  · have e : ∀ z, z < 2 ^ k → z / 2 ^ j = 0 := fun z hz => Nat.div_eq_of_lt (Nat.lt_of_lt_of_le hz (Nat.pow_le_pow_right (by omega) hj))
    rw [e a ha, e b hb]
theorem abit_mod {a j k : Nat} (h : j < k) : abit (a % 2 ^ k) j = abit a j := by
  unfold abit
  rw [← Nat.mod_mul_right_div_self, ← Nat.mod_mul_right_div_self, ← Nat.pow_succ, Nat.mod_mod_of_dvd _ (Nat.pow_dvd_pow 2 h)]
theorem abit_shl (a k j : Nat) : abit (a * 2 ^ k) j = if k ≤ j then abit a (j - k) else 0 := by
  unfold abit
  split
  · rename_i h
    rw [show 2 ^ j = 2 ^ k * 2 ^ (j - k) by rw [← Nat.pow_add]; congr 1; omega, ← Nat.div_div_eq_div_mul, Nat.mul_div_cancel _ (Nat.pow_pos (by omega))]
  · rename_i h
    rw [show a * 2 ^ k = 2 ^ j * (2 * (a * 2 ^ (k - j - 1))) by rw [show 2 ^ k = 2 ^ j * (2 * 2 ^ (k - j - 1)) by rw [← Nat.pow_succ', ← Nat.pow_add]; congr 1; omega]; ac_rfl, Nat.mul_div_cancel_left _ (Nat.pow_pos (by omega)), Nat.mul_mod_right]
theorem abit_shr (a k j : Nat) : abit (a / 2 ^ k) j = abit a (k + j) := by
  unfold abit
  rw [Nat.div_div_eq_div_mul, ← Nat.pow_add]
theorem abit_ge {a j : Nat} (h : a < 2 ^ j) : abit a j = 0 := by unfold abit; rw [Nat.div_eq_of_lt h]
theorem abit_zero (j : Nat) : abit 0 j = 0 := by simp [abit]
theorem shN_lt {a : Nat} (i : Int) (ha : a < 2 ^ 256) : shN a i < 2 ^ 256 := by
  unfold shN
  split
  · exact Nat.pow_pos (by omega)
  · split
    · exact Nat.mod_lt _ (Nat.pow_pos (by omega))
    · exact Nat.lt_of_le_of_lt (Nat.div_le_self _ _) ha
theorem shF_out {a : Nat} {i : Int} (h : ¬ (-255 ≤ i ∧ i ≤ 255)) (s t p : Nat) : shF a i s p = shF a i t p := by
  unfold shF; rw [if_neg (by omega), if_neg (by omega)]
theorem shF_ne {a : Nat} {i : Int} {s p : Nat} (h : (s : Int) + i ≠ p) : shF a i (s + 1) p = shF a i s p := by
  unfold shF
  by_cases h2 : -255 ≤ i ∧ i ≤ 255 ∧ 0 ≤ (p : Int) - i ∧ (p : Int) - i < s
  · rw [if_pos h2, if_pos (by omega)]
  · rw [if_neg h2, if_neg (by omega)]
theorem shF_in {a : Nat} {i : Int} (h1 : -255 ≤ i) (h2 : i ≤ 255) {s q : Nat} (h : (s : Int) + i = q) (p : Nat) : upd (shF a i s) q (abit a s) p = shF a i (s + 1) p := by
  unfold upd
  by_cases e : p = q
  · rw [if_pos e]
    unfold shF
    rw [if_pos (by omega)]
    congr 1; omega
  · rw [if_neg e, shF_ne (by omega)]
theorem shF_zero (a : Nat) (i : Int) (p : Nat) : shF a i 0 p = 0 := by unfold shF; rw [if_neg (by omega)]
theorem shF_end {a : Nat} (i : Int) (ha : a < 2 ^ 256) : bitsV (shF a i 256) 0 256 = shN a i := by
  refine abit_ext (k := 256) (bitsV_lt (shF_lt a i 256) 256 0) (shN_lt i ha) fun j hj => ?_
  have h1 := bitsV_at (shF_lt a i 256) 256 0 j hj
  rw [Nat.zero_add] at h1
  show bitsV (shF a i 256) 0 256 / 2 ^ j % 2 = _
  rw [h1]
  unfold shF shN
  by_cases h : i < -255 ∨ 255 < i
  · rw [if_pos h, if_neg (by omega), abit_zero]
  · rw [if_neg h]
    by_cases h2 : 0 ≤ i
    · obtain ⟨k, rfl⟩ := Int.eq_ofNat_of_zero_le h2
      rw [if_pos h2, show ((k : Nat) : Int).toNat = k from rfl, abit_mod hj, abit_shl]
      by_cases h3 : k ≤ j
      · rw [if_pos h3, if_pos (by omega)]
        congr 1; omega
      · rw [if_neg h3, if_neg (by omega)]
    · obtain ⟨k, hk⟩ := Int.eq_ofNat_of_zero_le (show 0 ≤ -i by omega)
      obtain rfl : i = -(k : Int) := by omega
      rw [if_neg h2, Int.neg_neg, show ((k : Nat) : Int).toNat = k from rfl, abit_shr]
      by_cases h3 : k + j < 256
      · rw [if_pos (by omega)]
        congr 1; omega
      · rw [if_neg (by omega)]
        exact (abit_ge (Nat.lt_of_lt_of_le ha (Nat.pow_le_pow_right (by omega) (by omega)))).symm
end Go.Proofs.Ytjihklaocgmlpaa
