/- Contracts of package gf and the document's Gf. -/
import Derived.Test.YtjihklaocgmlpaaFrame
import Derived.Test.YtjihklaocgmlpaaMem
import Derived.Test.YtjihklaocgmlpaaGfP
import Derived.Outline
import Derived.Handy
import Derived.Lib.Hide
import Derived.Deep.DeepMust
import Derived.Deep.RegionHeld3
namespace Go.Proofs.Ytjihklaocgmlpaa
open Go.ChangeShapes Go.WideShapes Go.ChangeAt Go.RowKit
set_option maxHeartbeats 4000000
set_option maxRecDepth 100000

def u8 (n : Nat) : Value := .int .u8 (n : Int)
theorem ret_u8 {a b : Int} (h : a = b) : Ending.returned (.int .u8 a) = .returned (.int .u8 b) := by rw [h]

theorem and1_8 {n : Nat} (h : n < 256) : bits .and .u8 (n : Int) 1 = ((n % 2 : Nat) : Int) := by
  rw [show (1 : Int) = ((1 : Nat) : Int) from rfl, u8_and_nat n 1 h (by omega), nat_mask1]
theorem xor_8 {a b : Nat} (ha : a < 256) (hb : b < 256) : bits .xor .u8 (a : Int) (b : Int) = ((a ^^^ b : Nat) : Int) := u8_xor_nat a b ha hb
theorem gx_8 {x : Nat} (h : x < 256) : bits .xor .u8 ((x : Int) * 2 % 256) ((x : Int) / 128 * 27) = ((gx x : Nat) : Int) := by
  rw [show (x : Int) * 2 % 256 = ((x * 2 % 256 : Nat) : Int) by omega, show (x : Int) / 128 * 27 = ((x / 128 * 27 : Nat) : Int) by omega, u8_xor_nat _ _ (by omega) (by omega)]
  unfold gx
  rw [Nat.testBit_eq_decide_div_mod_eq]
  congr 3
  rcases (by omega : x / 128 = 0 ∨ x / 128 = 1) with h1 | h1 <;> simp [h1]
theorem wrap64_eq {n : Int} (h : 0 ≤ n) (h' : n < 2 ^ 63) : wrap64 n = n := by unfold wrap64; omega
theorem ofInt_i64 (a : Nat) (ha : a < 2 ^ 63) : (BitVec.ofInt 64 (a : Int)).toNat = a := by
  rw [BitVec.ofInt_natCast, BitVec.toNat_ofNat]; exact Nat.mod_eq_of_lt (by omega)
theorem i64_xor {a b : Nat} (ha : a < 2 ^ 63) (hb : b < 2 ^ 63) : bits .xor .i64 (a : Int) (b : Int) = ((a ^^^ b : Nat) : Int) := by
  have hx : a ^^^ b < 2 ^ 63 := Nat.xor_lt_two_pow (by omega) (by omega)
  show IntKind.i64.wrap ((BitVec.ofInt 64 (a : Int) ^^^ BitVec.ofInt 64 (b : Int)).toNat : Int) = _
  rw [BitVec.toNat_xor, ofInt_i64 a ha, ofInt_i64 b hb, IntKind.wrap_i64]
  omega
theorem i64_and1 {a : Nat} (ha : a < 2 ^ 63) : bits .and .i64 (a : Int) 1 = ((a % 2 : Nat) : Int) := by
  have hx : a &&& 1 < 2 ^ 63 := Nat.and_lt_two_pow _ (by omega)
  show IntKind.i64.wrap ((BitVec.ofInt 64 (a : Int) &&& BitVec.ofInt 64 ((1 : Nat) : Int)).toNat : Int) = _
  rw [BitVec.toNat_and, ofInt_i64 a ha, ofInt_i64 1 (by omega), IntKind.wrap_i64]
  rw [nat_mask1] at *
  omega
theorem i64_bit {x : Nat} (h : x < 2 ^ 63) (k : Nat) : (bits .and .i64 ((x : Int) / 2 ^ k) 1 == 1) = x.testBit k := by
  have h1 : x / 2 ^ k ≤ x := Nat.div_le_self _ _
  rw [show (x : Int) / 2 ^ k = ((x / 2 ^ k : Nat) : Int) by simp, i64_and1 (by omega), Nat.testBit_eq_decide_div_mod_eq, Bool.eq_iff_iff, beq_iff_eq, decide_eq_true_eq]
  omega
theorem u8_bit {x : Nat} (h : x < 256) (k : Nat) : (bits .and .u8 ((x : Int) / 2 ^ k) 1 == 1) = x.testBit k := by
  have h1 : x / 2 ^ k ≤ x := Nat.div_le_self _ _
  rw [show (x : Int) / 2 ^ k = ((x / 2 ^ k : Nat) : Int) by simp, and1_8 (by omega), Nat.testBit_eq_decide_div_mod_eq, Bool.eq_iff_iff, beq_iff_eq, decide_eq_true_eq]
  omega
attribute [local go_sem] and1_8 xor_8 gx_8

theorem gf_Mul (a b : Nat) (w : World) (ha : a < 256) (hb : b < 256) :
    Calls Try.prog 99 #[.int .u8 a, .int .u8 b] w fun e w' => e = .returned (.int .u8 (gm a b : Nat)) ∧ w = w' := by
  go_enter Try.func99, Try.ntmps99
  go_wp2
  go_loop [0, 1, 5] (fun x y o => ∃ f x' y' o' : Nat, x = .int .u8 x' ∧ y = .int .u8 y' ∧ o = .int .u8 o' ∧ x' < 256 ∧ y' < 256 ∧ y' < 2 ^ f ∧ f ≤ 8 ∧ o' < 256 ∧ gmul f o' x' y' = gm a b) (fun _ y _ => (intOf y).toNat)
  case atStart => exact ⟨8, a, b, 0, rfl, rfl, rfl, ha, hb, hb, by omega, by omega, gmul_gm a b⟩
  case round =>
    obtain ⟨f, x', y', o', rfl, rfl, rfl, hx, hy, hyf, hf, ho, hg⟩ := hrel
    by_cases h0 : y' = 0
    · have h0' : (y' : Int) = 0 := by omega
      go_wp2
      go_ret
      subst h0
      rw [gmul_zero] at hg
      exact ⟨ret_u8 (by omega), rfl⟩
    · have h0' : (0 : Int) < y' := by omega
      cases f with
      | zero => simp at hyf; omega
      | succ f =>
      have hp : y' / 2 < 2 ^ f := by rw [Nat.pow_succ] at hyf; omega
      by_cases h1 : y' % 2 = 1
      · have h1' : (((y' % 2 : Nat) : Int) == 1) = true := by simp [h1]
        go_wp2
        go_round
        case rel => exact ⟨f, gx x', y' / 2, o' ^^^ x', by go_simp, by go_num, by go_simp, gx_lt _, by omega, hp, by omega, xor_lt8 ho hx, by rw [← hg]; simp [gmul, h1]⟩
        case measure => simp [intOf]; omega
      · have h1' : (((y' % 2 : Nat) : Int) == 1) = false := by simp; omega
        go_wp2
        go_round
        case rel => exact ⟨f, gx x', y' / 2, o', by go_simp, by go_num, by go_simp, gx_lt _, by omega, hp, by omega, ho, by rw [← hg]; simp [gmul, h1]⟩
        case measure => simp [intOf]; omega

theorem ref_Gf (a b : Nat) (w : World) (ha : a < 256) (hb : b < 256) :
    Calls Try.prog 69 #[.int .u8 a, .int .u8 b] w fun e w' => e = .returned (.int .u8 (gm a b : Nat)) ∧ w = w' := by
  go_enter Try.func69, Try.ntmps69
  go_wp2
  go_loop [5, 8] (fun o x => ∃ i : Nat, o = .int .i64 (ga a b i : Nat) ∧ x = .int .i64 i ∧ i ≤ 8) (fun _ x => 8 - (intOf x).toNat)
  case atStart => exact ⟨0, rfl, rfl, by omega⟩
  case round =>
    obtain ⟨i, rfl, rfl, hi⟩ := hrel
    by_cases h8 : i = 8
    · subst h8
      go_wp2
      go_loop [5, 7] (fun o x => ∃ j : Nat, o = .int .i64 (gr (ga a b 8) j : Nat) ∧ x = .int .i64 (14 - (j : Int)) ∧ j ≤ 7) (fun _ x => (intOf x).toNat)
      case atStart => exact ⟨0, rfl, rfl, by omega⟩
      case round =>
        obtain ⟨j, rfl, rfl, hj⟩ := hrel
        have hl := gr_lt (ga_lt (b := b) ha (Nat.le_refl 8)) j
        by_cases h7 : j = 7
        · subst h7
          go_wp2
          go_ret
          exact ⟨ret_u8 (by rw [← gf_eq ha hb]; omega), rfl⟩
        · have hbit := i64_bit (x := gr (ga a b 8) j) (by omega) (14 - j)
          generalize hX : gr (ga a b 8) j = X at hbit hl ⊢
          by_cases hc : X.testBit (14 - j) = true
          · rw [hc] at hbit
            go_wp2
            go_round
            case rel =>
              have hp : 2 ^ (6 - j) ≤ 2 ^ 6 := Nat.pow_le_pow_right (by omega) (by omega)
              refine ⟨j + 1, ?_, by go_num, by omega⟩
              rw [show (14 - j - 8) = 6 - j by omega, show (283 * 2 ^ (6 - j) : Int) = ((283 * 2 ^ (6 - j) : Nat) : Int) by simp, wrap64_eq (by omega) (by omega), i64_xor (by omega) (by omega)]
              simp [gr, hX, hc]
            case measure => simp [intOf]; omega
          · rw [Bool.not_eq_true] at hc
            rw [hc] at hbit
            go_wp2
            go_round
            case rel => exact ⟨j + 1, by simp [gr, hX, hc], by go_num, by omega⟩
            case measure => simp [intOf]; omega
    · have hbit := u8_bit hb i
      have hl := ga_lt (b := b) ha hi
      by_cases hc : b.testBit i = true
      · rw [hc] at hbit
        go_wp2
        go_round
        case rel =>
          have hp : a * 2 ^ i < 2 ^ 16 := by
            have h2 : 2 ^ i ≤ 2 ^ 7 := Nat.pow_le_pow_right (by omega) (by omega)
            have h3 : a * 2 ^ i ≤ a * 2 ^ 7 := Nat.mul_le_mul_left _ h2
            omega
          refine ⟨i + 1, ?_, by go_num, by omega⟩
          rw [show ((a : Int) * 2 ^ i : Int) = ((a * 2 ^ i : Nat) : Int) by simp, wrap64_eq (by omega) (by omega), i64_xor (by omega) (by omega)]
          simp [ga, hc]
        case measure => simp [intOf]; omega
      · rw [Bool.not_eq_true] at hc
        rw [hc] at hbit
        go_wp2
        go_round
        case rel => exact ⟨i + 1, by simp [ga, hc], by go_num, by omega⟩
        case measure => simp [intOf]; omega

def rot (b k : Nat) : Nat := b * 2 ^ k % 256 ||| b / 2 ^ (8 - k)
theorem rot8 (b k : Nat) (w : World) (hb : b < 256) (hk : k < 8) :
    Calls Try.prog 102 #[.int .u8 b, .int .i64 k] w fun e w' => e = .returned (.int .u8 (rot b k : Nat)) ∧ w = w' := by
  go_enter Try.func102, Try.ntmps102
  have h7 : bits .and .u64 (k : Int) 7 = (k : Int) := by
    rw [show (7 : Int) = ((7 : Nat) : Int) from rfl, u64_and_nat _ _ (by omega) (by omega), nat_mask3]; omega
  go_wp2
  go_ret
  refine ⟨ret_u8 ?_, rfl⟩
  have h1 : b / 2 ^ (8 - k) ≤ b := Nat.div_le_self _ _
  show bits BinOp.or IntKind.u8 ((b : Int) * 2 ^ k % 256) ((b : Int) / 2 ^ (8 - k)) = _
  rw [show (b : Int) * 2 ^ k % 256 = ((b * 2 ^ k % 256 : Nat) : Int) by simp, show (b : Int) / 2 ^ (8 - k) = ((b / 2 ^ (8 - k) : Nat) : Int) by simp, u8_or_nat _ _ (Nat.mod_lt _ (by omega)) (by omega)]
  rfl
theorem rot_lt (b : Nat) {k : Nat} (hb : b < 256) : rot b k < 256 :=
  Nat.or_lt_two_pow (n := 8) (Nat.mod_lt _ (by omega)) (Nat.lt_of_le_of_lt (Nat.div_le_self _ _) hb)

theorem and1_64 {n : Nat} (h : n < 18446744073709551616) : bits .and .u64 (n : Int) 1 = ((n % 2 : Nat) : Int) := by
  rw [show (1 : Int) = ((1 : Nat) : Int) from rfl, u64_and_nat n 1 h (by omega), nat_mask1]
attribute [local go_sem] and1_64

theorem gf_Pow (a n : Nat) (w : World) (ha : a < 256) (hn : n < 18446744073709551616) :
    Calls Try.prog 66 #[.int .u8 a, .int .u64 n] w fun e w' => e = .returned (.int .u8 (gp a n : Nat)) ∧ w = w' := by
  go_enter Try.func66, Try.ntmps66
  go_wp2
  go_loop [0, 1, 5] (fun x y o => ∃ x' y' o' : Nat, x = .int .u8 x' ∧ y = .int .u64 y' ∧ o = .int .u8 o' ∧ x' < 256 ∧ y' < 18446744073709551616 ∧ o' < 256 ∧ gm o' (gp x' y') = gp a n) (fun _ y _ => (intOf y).toNat)
  case atStart => exact ⟨a, n, 1, rfl, rfl, rfl, ha, hn, by omega, by rw [gm_comm (by omega) (gp_lt _ _), gm1]⟩
  case round =>
    obtain ⟨x', y', o', rfl, rfl, rfl, hx, hy, ho, hg⟩ := hrel
    by_cases h0 : y' = 0
    · have h0' : (y' : Int) = 0 := by omega
      go_wp2
      go_ret
      subst h0
      rw [gp_zero, gm1] at hg
      exact ⟨ret_u8 (by omega), rfl⟩
    · have h0' : (0 : Int) < y' := by omega
      have hr := gp_round (n := y') ho hx
      rw [hg] at hr
      by_cases h1 : y' % 2 = 1
      · have h1' : (((y' % 2 : Nat) : Int) == 1) = true := by simp [h1]
        rw [if_pos h1] at hr
        go_wp2_with (go_at_call 99; refine (gf_Mul _ _ _ (by assumption) (by assumption)).mono ?_; rintro e w' ⟨rfl, rfl⟩)
        go_round
        case rel => exact ⟨gm x' x', y' / 2, gm o' x', by go_simp, by go_num, by go_simp, gm_lt hx _, by omega, gm_lt ho _, hr⟩
        case measure => simp [intOf]; omega
      · have h1' : (((y' % 2 : Nat) : Int) == 1) = false := by simp; omega
        rw [if_neg h1] at hr
        go_wp2_with (go_at_call 99; refine (gf_Mul _ _ _ (by assumption) (by assumption)).mono ?_; rintro e w' ⟨rfl, rfl⟩)
        go_round
        case rel => exact ⟨gm x' x', y' / 2, o', by go_simp, by go_num, by go_simp, gm_lt hx _, by omega, ho, hr⟩
        case measure => simp [intOf]; omega

theorem gf_Inv (a : Nat) (w : World) (ha : a < 256) :
    Calls Try.prog 101 #[.int .u8 a] w fun e w' => e = .returned (.int .u8 (ginv a : Nat)) ∧ w = w' := by
  go_enter Try.func101, Try.ntmps101
  go_wp2_with (go_at_call 66; refine (gf_Pow a 254 _ ha (by omega)).mono ?_; rintro e w' ⟨rfl, rfl⟩)
  go_ret
  exact ⟨rfl, rfl⟩

/-- The code's box. -/
def gsubB (b : Nat) : Nat := 99 ^^^ b ^^^ rot b 1 ^^^ rot b 2 ^^^ rot b 3 ^^^ rot b 4
def gsub (a : Nat) : Nat := gsubB (ginv a)
def gunsub (a : Nat) : Nat := ginv (rot (a ^^^ 99) 1 ^^^ rot (a ^^^ 99) 3 ^^^ rot (a ^^^ 99) 6)
theorem gsubB_lt {b : Nat} (h : b < 256) : gsubB b < 256 :=
  xor_lt8 (xor_lt8 (xor_lt8 (xor_lt8 (xor_lt8 (by omega) h) (rot_lt _ h)) (rot_lt _ h)) (rot_lt _ h)) (rot_lt _ h)
theorem gsub_lt (a : Nat) : gsub a < 256 := gsubB_lt (ginv_lt a)

theorem gf_Sub (a : Nat) (w : World) (ha : a < 256) :
    Calls Try.prog 79 #[.int .u8 a] w fun e w' => e = .returned (.int .u8 (gsub a : Nat)) ∧ w = w' := by
  go_enter Try.func79, Try.ntmps79
  have hb := ginv_lt a
  have h99 : bits .xor .u8 99 ((ginv a : Nat) : Int) = ((99 ^^^ ginv a : Nat) : Int) := xor_8 (a := 99) (by omega) hb
  go_wp2_with (go_at_call 101; refine (gf_Inv a _ ha).mono ?_; rintro e w' ⟨rfl, rfl⟩)
  have hq : gsub a = gsubB (ginv a) := rfl
  generalize ginv a = b at *
  go_loop [4, 5] (fun o n => ∃ n' o' : Nat, o = .int .u8 o' ∧ n = .int .i64 n' ∧ 1 ≤ n' ∧ n' ≤ 5 ∧ o' = ([99 ^^^ b, 99 ^^^ b ^^^ rot b 1, 99 ^^^ b ^^^ rot b 1 ^^^ rot b 2, 99 ^^^ b ^^^ rot b 1 ^^^ rot b 2 ^^^ rot b 3, gsubB b] : List Nat)[n' - 1]?.getD 0 ∧ o' < 256) (fun _ n => 5 - (intOf n).toNat)
  case atStart => exact ⟨1, 99 ^^^ b, rfl, rfl, by omega, by omega, rfl, xor_lt8 (by omega) hb⟩
  case round =>
    obtain ⟨n, o, rfl, rfl, h1, h5, ho, hl⟩ := hrel
    replace ho := Lib.hid ho
    by_cases hn : n = 5
    · subst hn
      go_wp2
      go_ret
      exact ⟨by rw [ho.out]; rfl, rfl⟩
    · go_wp2_with (go_at_call 102; refine (rot8 b n _ hb (by omega)).mono ?_; rintro e w' ⟨rfl, rfl⟩)
      have hx := xor_8 hl (rot_lt b (k := n) hb)
      go_wp2
      go_round
      case rel =>
        refine ⟨n + 1, o ^^^ rot b n, by rw [hx], by go_num, by omega, by omega, ?_, xor_lt8 hl (rot_lt _ hb)⟩
        rw [ho.out]
        rcases (by omega : n = 1 ∨ n = 2 ∨ n = 3 ∨ n = 4) with rfl | rfl | rfl | rfl <;> rfl
      case measure => simp [intOf]; omega

theorem rot8_1 (b : Nat) (w : World) (hb : b < 256) : Calls Try.prog 102 #[.int .u8 b, .int .i64 1] w fun e w' => e = .returned (.int .u8 (rot b 1 : Nat)) ∧ w = w' := rot8 b 1 w hb (by omega)
theorem rot8_3 (b : Nat) (w : World) (hb : b < 256) : Calls Try.prog 102 #[.int .u8 b, .int .i64 3] w fun e w' => e = .returned (.int .u8 (rot b 3 : Nat)) ∧ w = w' := rot8 b 3 w hb (by omega)
theorem rot8_6 (b : Nat) (w : World) (hb : b < 256) : Calls Try.prog 102 #[.int .u8 b, .int .i64 6] w fun e w' => e = .returned (.int .u8 (rot b 6 : Nat)) ∧ w = w' := rot8 b 6 w hb (by omega)
theorem gf_Unsub (a : Nat) (w : World) (ha : a < 256) :
    Calls Try.prog 88 #[.int .u8 a] w fun e w' => e = .returned (.int .u8 (gunsub a : Nat)) ∧ w = w' := by
  go_enter Try.func88, Try.ntmps88
  have h99 : bits .xor .u8 (a : Int) 99 = ((a ^^^ 99 : Nat) : Int) := xor_8 (b := 99) ha (by omega)
  have hb : a ^^^ 99 < 256 := xor_lt8 ha (by omega)
  have hq : gunsub a = ginv (rot (a ^^^ 99) 1 ^^^ rot (a ^^^ 99) 3 ^^^ rot (a ^^^ 99) 6) := rfl
  generalize a ^^^ 99 = b at *
  have r1 := rot_lt b (k := 1) hb
  have r3 := rot_lt b (k := 3) hb
  have r6 := rot_lt b (k := 6) hb
  have x1 := xor_8 r1 r3
  have x2 := xor_8 (xor_lt8 r1 r3) r6
  have x3 := xor_lt8 (xor_lt8 r1 r3) r6
  go_wp2_with (first
    | (go_at_call 102; (first | with_reducible refine (rot8_1 b _ hb).mono ?_ | with_reducible refine (rot8_3 b _ hb).mono ?_ | with_reducible refine (rot8_6 b _ hb).mono ?_); rintro e w' ⟨rfl, rfl⟩)
    | (go_at_call 101; refine (gf_Inv _ _ x3).mono ?_; rintro e w' ⟨rfl, rfl⟩))
  go_ret
  exact ⟨by first | with_reducible rfl | (rw [hq]; rfl), rfl⟩
end Go.Proofs.Ytjihklaocgmlpaa
