/- The plain law of streams; contract of package mode: plus. -/
import Derived.Test.YtjihklaocgmlpaaMode1
namespace Go.Proofs.Ytjihklaocgmlpaa
open Go.ChangeShapes Go.WideShapes Go.ChangeAt Go.RowKit
set_option maxHeartbeats 4000000
set_option maxRecDepth 100000
attribute [local go_sem ↓] load_a16 store_a16 execl_a16 execs_a16
attribute [local go_sem] isHead_mk blkOf_mk isAgg_mk cellsV_mk row_drew rowAt_drew row_new_cells row_old rowAt_new rowAt_old setRow_new

/-- The number of the first k bytes, the greatest first. -/
def beV (f : Nat → Nat) : Nat → Nat
  | 0 => 0
  | k + 1 => beV f k * 256 + f k
theorem beV_lt {f : Nat → Nat} {n : Nat} (h : ∀ i < n, f i < 256) : ∀ k, k ≤ n → beV f k < 256 ^ k
  | 0, _ => by simp [beV]
  | k + 1, hk => by
    have h1 := beV_lt h k (by omega)
    have h2 := h k (by omega)
    show beV f k * 256 + f k < 256 ^ (k + 1)
    rw [Nat.pow_succ]; omega
theorem beV_div {f : Nat → Nat} {n : Nat} (h : ∀ i < n, f i < 256) : ∀ k, k ≤ n → beV f n / 256 ^ k = beV f (n - k)
  | 0, _ => by simp
  | k + 1, hk => by
    rw [Nat.pow_succ, ← Nat.div_div_eq_div_mul, beV_div h k (by omega)]
    obtain ⟨j, hj⟩ : ∃ j, n - k = j + 1 := ⟨n - k - 1, by omega⟩
    rw [hj, show n - (k + 1) = j by omega]
    show (beV f j * 256 + f j) / 256 = beV f j
    have := h j (by omega)
    omega
/-- Sixteen bytes more n. -/
def plusF (iv : Nat → Nat) (n : Nat) : Nat → Nat := fun p => (beV iv 16 + n) / 256 ^ (15 - p) % 256
theorem plusF_lt (iv : Nat → Nat) (n p : Nat) : plusF iv n p < 256 := Nat.mod_lt _ (by omega)
/-- The place of byte i. -/
def plcF (a i : Nat) : Nat := (a + i) % 18446744073709551616
/-- The stream at a place. -/
def padAt (F : Nat → Nat) (R : Nat) (iv : Nat → Nat) (pl : Nat) : Nat → Nat := encB F R (plusF iv (pl / 16))
def strF (F : Nat → Nat) (R : Nat) (iv : Nat → Nat) (a : Nat) (c : Nat → Nat) : Nat → Nat := fun i => c i ^^^ padAt F R iv (plcF a i) (plcF a i % 16)
/-- The pad before byte i. -/
def padS (F : Nat → Nat) (R : Nat) (iv : Nat → Nat) (a i : Nat) : Nat → Nat := if i = 0 then fun _ => 0 else padAt F R iv (plcF a (i - 1))
theorem padAt_lt {F : Nat → Nat} {R : Nat} {iv : Nat → Nat} (hF : ∀ p, F p < 256) (pl : Nat) : ∀ i < 16, padAt F R iv pl i < 256 := encB_lt hF fun _ _ => plusF_lt _ _ _
theorem padS_same {F : Nat → Nat} {R : Nat} {iv : Nat → Nat} {a i : Nat} (hi : i ≠ 0) (h : plcF a i / 16 = plcF a (i - 1) / 16) : padS F R iv a i = padAt F R iv (plcF a i) := by
  unfold padS padAt
  rw [if_neg hi, h]
theorem plc_near {a i : Nat} (h : plcF a i % 16 ≠ 0) : plcF a i / 16 = plcF a (i - 1) / 16 := by
  unfold plcF at *
  omega
theorem padS_next (F : Nat → Nat) (R : Nat) (iv : Nat → Nat) (a i : Nat) : padS F R iv a (i + 1) = padAt F R iv (plcF a i) := by
  unfold padS
  rw [if_neg (by omega), Nat.add_sub_cancel]
theorem u64_and255 (n : Nat) (h : n < 18446744073709551616) : bits .and .u64 (n : Int) 255 = ((n % 256 : Nat) : Int) := by
  show IntKind.u64.wrap ((BitVec.ofInt 64 (n : Int) &&& BitVec.ofInt 64 255).toNat : Int) = _
  rw [BitVec.toNat_and, ofInt_u64 n (by omega), show (255 : Int) = ((255 : Nat) : Int) from rfl, ofInt_u64 255 (by omega), show (255 : Nat) = 2 ^ 8 - 1 from rfl, Nat.and_two_pow_sub_one_eq_mod, IntKind.wrap_u64]
  omega
theorem mode_plus (iv : Nat → Nat) (n : Nat) (w : World) (hv : ∀ i < 16, iv i < 256) (hn : n < 18446744073709551616) :
    Calls Try.prog 70 #[.agg (arrK .u8 16 iv), .int .u64 n] w fun e w' => e = .returned (.agg (arrK .u8 16 (plusF iv n))) ∧ Below w.heap.size w w' := by
  have T0 : At ((w.alloc (Obj.cells (arrK .u8 16 iv) 38)).alloc (Obj.cells (arrK .u8 16 fun _ => 0) 38)) w.heap.size .u8 16 iv := (At.new _ rfl).old _
  have O0 : At ((w.alloc (Obj.cells (arrK .u8 16 iv) 38)).alloc (Obj.cells (arrK .u8 16 fun _ => 0) 38)) (w.heap.size + 1) .u8 16 fun _ => 0 := At.new _ (by simp)
  have hL0 : Below w.heap.size w ((w.alloc (Obj.cells (arrK .u8 16 iv) 38)).alloc (Obj.cells (arrK .u8 16 fun _ => 0) 38)) := by go_grown
  have hdiv := fun k hk => beV_div (n := 16) hv k hk
  go_enter Try.func70, Try.ntmps70
  go_wp2_with fail
  rw [zeroA16]
  generalize (w.alloc (Obj.cells (arrK .u8 16 iv) 38)).alloc (Obj.cells (arrK .u8 16 fun _ => 0) 38) = W0 at *
  go_loopw [1, 5, 6] (fun v cv x wr => ∃ s nk c : Nat, v = .int .u64 nk ∧ cv = .int .u64 c ∧ x = .int .i64 ((s : Int) - 1) ∧ s ≤ 16 ∧ nk < 18446744073709551616 ∧ c ≤ 1 ∧ (beV iv 16 + n) / 256 ^ (16 - s) = beV iv s + nk + c ∧ At wr w.heap.size .u8 16 (fun p => if p < s then iv p else plusF iv n p) ∧ Row wr (w.heap.size + 1) 16 ∧ Below w.heap.size w wr) (fun _ _ x _ => (intOf x + 1).toNat)
  case atStart => exact ⟨16, n, 0, rfl, rfl, rfl, by omega, hn, by omega, by simp, T0.congr (fun p hp => by rw [if_pos hp]), O0.row, hL0⟩
  case round =>
    clear T0 O0 hL0
    obtain ⟨s, nk, c, rfl, rfl, rfl, hs, hnk, hc1, hX, T, O, hL⟩ := hrel
    rcases Nat.eq_zero_or_pos s with rfl | hs0
    · have T2 := T.congr (f' := plusF iv n) (fun p _ => if_neg (by omega))
      have hRt := T2.row
      have hrt := T2.eq
      have hcs := arrK_cells .u8 16 (plusF iv n)
      clear T T2 hX
      go_wp2_with fail
      refine ret_row rfl Try.underlying38 rfl (by kernel_rfl) rfl ((row_setRow_same rfl O).2 hcs.1) rfl ?_
      rw [rowAt_setRow_same O]
      exact ⟨rfl, below_setRow hL (by omega)⟩
    · obtain ⟨i, rfl⟩ : ∃ i, s = i + 1 := ⟨s - 1, by omega⟩
      rw [show (((i + 1 : Nat) : Int) - 1) = (i : Int) by omega]
      have hd : (0 : Int) ≤ (i : Int) := by omega
      have hi16 : (i : Int) < 16 := by omega
      have hc2 := T.cell (i := i) (by omega)
      rw [if_pos (by omega : i < i + 1)] at hc2
      have hfr := T.row.frozen i
      have hvi := hv i (by omega)
      have hand := u64_and255 nk hnk
      obtain ⟨m, hm⟩ : ∃ m, m = nk % 256 := ⟨_, rfl⟩
      rw [← hm] at hand
      obtain ⟨n2, hn2⟩ : ∃ m, m = nk / 256 := ⟨_, rfl⟩
      have hsh : (nk : Int) / 256 = (n2 : Int) := by omega
      obtain ⟨v, hv2⟩ : ∃ v, v = iv i := ⟨_, rfl⟩
      rw [← hv2] at hc2 hvi
      obtain ⟨vm, hvm⟩ : ∃ x, x = v + m := ⟨_, rfl⟩
      obtain ⟨c2, hc3⟩ : ∃ x, x = c + vm := ⟨_, rfl⟩
      obtain ⟨c4, hc4⟩ : ∃ x, x = c2 / 256 := ⟨_, rfl⟩
      obtain ⟨bt, hbt⟩ : ∃ x, x = c2 % 256 := ⟨_, rfl⟩
      have hm256 : m < 256 := by omega
      have hs1 : (v : Int) + (m : Int) = (vm : Int) := by omega
      have hs2 : (c : Int) + (vm : Int) = (c2 : Int) := by omega
      have hvmb : vm ≤ 510 := by omega
      have hs3 : (c2 : Int) / 256 = (c4 : Int) := by omega
      have hw8 : IntKind.u8.wrap (c2 : Int) = (bt : Int) := by rw [IntKind.wrap_u8]; omega
      have hpow : (256 : Nat) ^ (16 - i) = 256 ^ (16 - (i + 1)) * 256 := by rw [← Nat.pow_succ]; congr 1; omega
      have hbe : beV iv (i + 1) = beV iv i * 256 + v := by rw [hv2]; rfl
      have hX2 : (beV iv 16 + n) / 256 ^ (16 - i) = beV iv i + n2 + c4 := by
        rw [hpow, ← Nat.div_div_eq_div_mul, hX, hbe]
        omega
      have hbyte : plusF iv n i = bt := by
        unfold plusF
        rw [show 15 - i = 16 - (i + 1) by omega, hX, hbe]
        omega
      have hHX := Lib.hid hX2
      have hHb := Lib.hid hbyte
      have hc4b : c4 ≤ 1 := by omega
      have hn2b : n2 < 18446744073709551616 := by omega
      have hT := Lib.hid T
      have hc2b : c2 ≤ 511 := by omega
      clear hX hX2 hbyte hpow hbe hm hn2 hv2 hc3 hc4 hbt hvm T hdiv
      go_wp2_with fail
      go_round
      case rel =>
        refine ⟨i, n2, c4, by go_num, by go_num, by go_num, by omega, hn2b, hc4b, hHX.out, (hT.out.set i bt).congr (fun p hp => ?_), row_setCell.2 O, hL.setCell (by simp) _⟩
        unfold upd
        by_cases h : p = i
        · rw [if_pos h, if_neg (by omega), h, hHb.out]
        · rw [if_neg h]
          show (if p < i + 1 then iv p else plusF iv n p) = _
          by_cases h2 : p < i
          · rw [if_pos (by omega), if_pos h2]
          · rw [if_neg (by omega), if_neg h2]
      case measure => simp [intOf] <;> omega
end Go.Proofs.Ytjihklaocgmlpaa
