/- Contracts of the document's digests: turn, choose, most, Begin, PadText. -/
import Derived.Test.YtdlmamnnamlleaaDoorShaQ
import Derived.Test.YtdlmamnnamlleaaDoorRet
import Derived.Deep.RegionLaw
namespace Go.Proofs.YtdlmamnnamlleaaDoor
open Go.ChangeShapes Go.WideShapes Go.ChangeAt Go.RowKit
set_option maxHeartbeats 2000000
set_option maxRecDepth 100000
section
attribute [local go_sem] u32_xor' u32_and' u32_or' u32_add' u32_addw' u32_shr' u32_shl' u32_shlw' u32_not'
theorem ref_turn (x : W32) (n : Nat) (w : World) (hn : 0 < n) (hn2 : n < 32) :
    Calls Tryd.prog 105 #[u32v x, .int .u64 n] w fun e w' => e = .returned (u32v (rotr x n)) ∧ w = w' := by
  obtain ⟨m, hm⟩ : ∃ m, m = 32 - n := ⟨_, rfl⟩
  have h3 : IntKind.u64.wrap (32 - (n : Int)) = (m : Int) := by rw [IntKind.wrap_u64]; omega
  have h4 : (32 : Int) - n = (m : Int) := by omega
  have h1 : (0 : Int) ≤ m := by omega
  have h2 : (m : Int) < 32 := by omega
  have hHm := Lib.hid hm
  clear hm
  go_enter Tryd.func105, Tryd.ntmps105
  go_wp2
  go_ret
  refine ⟨?_, rfl⟩
  unfold rotr
  rw [← hHm.out]; rfl
theorem ref_choose (x y z : W32) (w : World) : Calls Tryd.prog 106 #[u32v x, u32v y, u32v z] w fun e w' => e = .returned (u32v (chs x y z)) ∧ w = w' := by
  rw [← chs_eq]
  go_enter Tryd.func106, Tryd.ntmps106
  go_wp2
  go_ret
  exact ⟨rfl, rfl⟩
theorem ref_most (x y z : W32) (w : World) : Calls Tryd.prog 107 #[u32v x, u32v y, u32v z] w fun e w' => e = .returned (u32v (maj x y z)) ∧ w = w' := by
  rw [← maj_eq]
  go_enter Tryd.func107, Tryd.ntmps107
  go_wp2
  go_ret
  exact ⟨rfl, rfl⟩
end
/-- Eight words at the head of a block. -/
structure HsAt (w : World) (g : Nat) (h : Nat → W32) : Prop where
  lt : g < w.heap.size
  at_ : ∀ i < 8, w.cell? ⟨g, i, none⟩ = some (u32v (h i))
theorem HsAt.below {w w' : World} {g B : Nat} {h : Nat → W32} (k : HsAt w g h) (hb : Below B w w') (hg : g < B) : HsAt w' g h :=
  ⟨Nat.lt_of_lt_of_le k.lt hb.size, fun i hi => ((bcell hb).1 _ _ hg).trans (k.at_ i hi)⟩
/-- What is handed back: eight words. -/
def RetH (h : Nat → W32) (w : World) (e : Ending) (w' : World) : Prop := ∃ g c, e = .returned (.slice (some ⟨g, 0, none⟩) 8 c) ∧ 8 ≤ c ∧ c ≤ maxLen ∧ HsAt w' g h ∧ Below w.heap.size w w'
theorem hsAt_new {w : World} {t : TypeId} {g : Nat} (h : Nat → W32) (hg : g = w.heap.size) : HsAt (w.alloc (.cells (h8 h) t)) g h := by
  subst hg
  refine ⟨by simp, fun i hi => ?_⟩
  have hR : Row (w.alloc (.cells (h8 h) t)) w.heap.size 8 := (row_new rfl).2 (h8_size h)
  rw [hR.cell, rowAt_new rfl]
  exact arrK_at hi
theorem h8_iv : h8 iv = arrK .u32 8 ivN := arrK_congr fun i _ => iv_w i
theorem ref_Begin (w : World) : Calls Tryd.prog 51 #[] w (RetH iv w) := by
  go_enter Tryd.func51, Tryd.ntmps51
  go_wp2
  go_ret
  refine ⟨_, 8, rfl, by omega, by unfold maxLen; omega, ?_, by go_grown⟩
  have := hsAt_new (w := w) (t := 95) iv rfl
  rw [h8_iv] at this
  exact this

/-! PadText -/
def tailB (m k : Nat) : List UInt8 := (List.range k).map fun i => UInt8.ofNat (m / 256 ^ (k - 1 - i))
theorem tailB_succ (m k : Nat) : tailB m (k + 1) = UInt8.ofNat (m / 256 ^ k) :: tailB m k := by
  unfold tailB
  rw [List.range_succ_eq_map, List.map_cons, List.map_map]
  congr 1
  refine List.map_congr_left fun i hi => ?_
  simp only [Function.comp]
  rw [show k + 1 - 1 - (i + 1) = k - 1 - i by omega]
theorem tailB_len (m k : Nat) : (tailB m k).length = k := by simp [tailB]
theorem tailB_8 (m : Nat) : tailB m 8 = lenB m 8 := by
  unfold tailB lenB
  refine List.map_congr_left fun i hi => ?_
  have hi : i < 8 := by simpa using hi
  rw [show (256 : Nat) = 2 ^ 8 from rfl, ← Nat.pow_mul, show 8 * (8 - 1 - i) = 56 - 8 * i by omega]
abbrev strV (l : List UInt8) : Value := .string ⟨l.toArray⟩
theorem bs_app (a b : List UInt8) : (⟨a.toArray⟩ : ByteArray) ++ ⟨b.toArray⟩ = ⟨(a ++ b).toArray⟩ := by
  apply ByteArray.ext
  simp
def lenS : Value → Nat
  | .string s => s.size
  | _ => 0
theorem lenS_mk (l : List UInt8) : lenS (strV l) = l.length := by simp [lenS, ByteArray.size]
/-- One byte made a string. -/
theorem conv_one (b : UInt8) (t : TypeId) (W : World) : (convert 22 9 (.slice (some ⟨W.heap.size, 0, none⟩) 1 1)).run Tryd.prog (W.alloc (.cells #[.int .u8 (b.toNat : Int)] t)) = .ok (strV [b]) (W.alloc (.cells #[.int .u8 (b.toNat : Int)] t)) :=
  conv_rd (l := [b]) Tryd.underlying22 Tryd.underlying5 Tryd.underlying9 (Rd.of_blk (cs := #[.int .u8 (b.toNat : Int)]) (push_new _ _) (B := W.heap.size + 1) (by omega))
theorem mod_u8 (x : Nat) : (x : Int) % 256 = ((UInt8.ofNat x).toNat : Int) := by
  rw [UInt8.toNat_ofNat']
  simp
theorem ref_PadText (n : Nat) (w : World) : Calls Tryd.prog 77 #[.int .u64 n] w fun e w' => e = .returned (strV (padL n)) ∧ Below w.heap.size w w' := by
  go_enter Tryd.func77, Tryd.ntmps77
  go_wp2
  go_loop [3] (fun v => ∃ j : Nat, j ≤ padZ n ∧ v = strV (128 :: List.replicate j 0)) (fun v => 65 - lenS v)
  case atStart => exact ⟨0, by omega, rfl⟩
  case round =>
    obtain ⟨j, hj, rfl⟩ := hrel
    have hz := padZ_lt n
    by_cases hjp : j < padZ n
    · have hb : (((n : Int) % 64 + ((j : Int) + 1) + 8) % 64 != 0) = true := by rw [bne_iff_ne]; unfold padZ at hjp hz; omega
      go_wp2
      go_round
      case rel =>
        refine ⟨j + 1, by omega, ?_⟩
        rw [List.replicate_succ', ← List.cons_append]
        exact congrArg Value.string (bs_app (128 :: List.replicate j 0) [0])
      case measure =>
        show 65 - lenS (.string ((⟨(128 :: List.replicate j 0).toArray⟩ : ByteArray) ++ ⟨#[0]⟩)) < _
        rw [show ((⟨(128 :: List.replicate j 0).toArray⟩ : ByteArray) ++ ⟨#[0]⟩) = ⟨((128 : UInt8) :: List.replicate j 0 ++ [0]).toArray⟩ from bs_app (128 :: List.replicate j 0) [0], lenS_mk, lenS_mk]
        simp
        omega
    · obtain rfl : j = padZ n := by omega
      have hb : (((n : Int) % 64 + ((padZ n : Int) + 1) + 8) % 64 != 0) = false := by rw [bne_eq_false_iff_eq]; unfold padZ; omega
      obtain ⟨m, hm8⟩ : ∃ m, m = 8 * n % 18446744073709551616 := ⟨_, rfl⟩
      have hmw : IntKind.u64.wrap ((n : Int) * 8) = (m : Int) := by rw [IntKind.wrap_u64]; omega
      have hmL : m < 18446744073709551616 := by omega
      have hHm := Lib.hid hm8
      clear hm8
      have hb0 : Below w.heap.size w w := Below.refl _ _
      go_wp2
      go_loopw [5, 6, 21] (fun x v i wr => ∃ (k y : Nat), i = .int .i64 k ∧ k ≤ 8 ∧ x = .int .u64 y ∧ y < 18446744073709551616 ∧ Hid (y = m / 256 ^ k) ∧ v = strV (tailB m k) ∧ Below w.heap.size w wr) (fun _ _ i _ => 8 - (intOf i).toNat)
      case atStart => exact ⟨0, m, rfl, by omega, rfl, hmL, Lib.hid (by simp), rfl, hb0⟩
      case round =>
        clear hb0 hb
        obtain ⟨k, y, rfl, hk, rfl, hyL, hHy, rfl, hL⟩ := hrel
        by_cases h8 : k = 8
        · subst h8
          have hq : padZ n + 1 + (tailB m 8).length ≤ 9223372036854775807 := by rw [tailB_len]; omega
          go_wp2
          go_ret
          refine ⟨?_, hL⟩
          have e : (128 :: List.replicate (padZ n) 0 ++ tailB m 8) = padL n := by rw [tailB_8]; unfold padL; rw [hHm.out]; rfl
          rw [← e]
          exact congrArg (fun s => Ending.returned (Value.string s)) (bs_app _ _)
        · have hcv := fun W => conv_one (UInt8.ofNat y) 5 W
          rw [← mod_u8] at hcv
          have hq : 1 + (tailB m k).length ≤ 9223372036854775807 := by rw [tailB_len]; omega
          go_wp2
          go_round
          case rel =>
            refine ⟨k + 1, y / 256, by go_num, by omega, by go_num, by omega, Lib.hid (by rw [hHy.out, Nat.div_div_eq_div_mul, Nat.pow_succ]), ?_, hL.alloc hL.size _⟩
            rw [tailB_succ, ← hHy.out]
            exact congrArg Value.string (bs_app [UInt8.ofNat y] (tailB m k))
          case measure => simp [intOf]; omega
end Go.Proofs.YtdlmamnnamlleaaDoor
