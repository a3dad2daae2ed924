/- Contracts of package limb, the fifth part: Len, Bit, Pick, Shift out of range; of math/bits: Len64. -/
import Derived.Test.YtdlmamnnamlleaaDoorLimb4
import Derived.Test.YtdlmamnnamlleaaDoorQuot
namespace Go.Proofs.YtdlmamnnamlleaaDoor
open Go.ChangeShapes Go.WideShapes Go.ChangeAt Go.RowKit
set_option maxHeartbeats 1000000
set_option maxRecDepth 100000
attribute [local go_sem ↓] load_num store_num execl_num execs_num load_wide store_wide execl_wide execs_wide
attribute [local go_sem] isHead_mk blkOf_mk isAgg_mk cellsV_mk row_drew rowAt_drew row_new_cells row_old rowAt_new rowAt_old

theorem ret_u64 {a b : Int} (h : a = b) : Ending.returned (.int .u64 a) = .returned (.int .u64 b) := by rw [h]
theorem len8_nat {b : Nat} (h : b < 256) : Lib.len8 (b : Int) = (Lib.bitLen b : Nat) ∧ Lib.bitLen b ≤ 8 := by
  have e := Lib.len8_of (b : Int) (by omega) (by omega)
  have l := Lib.bitLen_le8' (b : Int) (by omega) (by omega)
  simp only [Int.toNat_natCast] at e l
  exact ⟨e, l⟩
theorem bits_Len64 (x : Nat) (w : World) (hx : x < 18446744073709551616) :
    Calls Tryd.prog 64 #[.int .u64 x] w fun e w' => e = .returned (.int .i64 (Lib.bitLen x : Nat)) ∧ w = w' := by
  by_cases hx32 : 4294967296 ≤ x
  · have ex32 := Lib.bitLen_shift32 x hx32 (by omega)
    obtain ⟨xa, hxa⟩ : ∃ xa, xa = x / 4294967296 := ⟨_, rfl⟩
    have ixa : (x : Int) / 4294967296 = xa := by omega
    rw [← hxa] at ex32
    have jx32 : (4294967296 : Int) ≤ x := by omega
    by_cases hxa16 : 65536 ≤ xa
    · have exa16 := Lib.bitLen_shift16 xa hxa16 (by omega)
      obtain ⟨xaa, hxaa⟩ : ∃ xaa, xaa = xa / 65536 := ⟨_, rfl⟩
      have ixaa : (xa : Int) / 65536 = xaa := by omega
      rw [← hxaa] at exa16
      have jxa16 : (65536 : Int) ≤ xa := by omega
      by_cases hxaa8 : 256 ≤ xaa
      · have exaa8 := Lib.bitLen_shift8 xaa hxaa8 (by omega)
        obtain ⟨xaaa, hxaaa⟩ : ∃ xaaa, xaaa = xaa / 256 := ⟨_, rfl⟩
        have ixaaa : (xaa : Int) / 256 = xaaa := by omega
        rw [← hxaaa] at exaa8
        have jxaa8 : (256 : Int) ≤ xaa := by omega
        obtain ⟨he, hl⟩ := len8_nat (b := xaaa) (by omega)
        have hfin := Lib.hid (show Lib.bitLen x = 56 + Lib.bitLen xaaa by omega)
        have hv0 : (0 : Int) ≤ xaaa := by omega
        have hv1 : (xaaa : Int) ≤ 255 := by omega
        generalize Lib.bitLen xaaa = r at *
        clear hxa ex32 hxaa exa16 hxaaa exaa8
        go_enter Tryd.func64, Tryd.ntmps64
        go_wp2
        go_ret
        exact ⟨ret_int (by have := hfin.out; omega), rfl⟩
      · have jxaa8 : ¬ (256 : Int) ≤ xaa := by omega
        obtain ⟨he, hl⟩ := len8_nat (b := xaa) (by omega)
        have hfin := Lib.hid (show Lib.bitLen x = 48 + Lib.bitLen xaa by omega)
        have hv0 : (0 : Int) ≤ xaa := by omega
        have hv1 : (xaa : Int) ≤ 255 := by omega
        generalize Lib.bitLen xaa = r at *
        clear hxa ex32 hxaa exa16
        go_enter Tryd.func64, Tryd.ntmps64
        go_wp2
        go_ret
        exact ⟨ret_int (by have := hfin.out; omega), rfl⟩
    · have jxa16 : ¬ (65536 : Int) ≤ xa := by omega
      by_cases hxa8 : 256 ≤ xa
      · have exa8 := Lib.bitLen_shift8 xa hxa8 (by omega)
        obtain ⟨xaa, hxaa⟩ : ∃ xaa, xaa = xa / 256 := ⟨_, rfl⟩
        have ixaa : (xa : Int) / 256 = xaa := by omega
        rw [← hxaa] at exa8
        have jxa8 : (256 : Int) ≤ xa := by omega
        obtain ⟨he, hl⟩ := len8_nat (b := xaa) (by omega)
        have hfin := Lib.hid (show Lib.bitLen x = 40 + Lib.bitLen xaa by omega)
        have hv0 : (0 : Int) ≤ xaa := by omega
        have hv1 : (xaa : Int) ≤ 255 := by omega
        generalize Lib.bitLen xaa = r at *
        clear hxa ex32 hxaa exa8
        go_enter Tryd.func64, Tryd.ntmps64
        go_wp2
        go_ret
        exact ⟨ret_int (by have := hfin.out; omega), rfl⟩
      · have jxa8 : ¬ (256 : Int) ≤ xa := by omega
        obtain ⟨he, hl⟩ := len8_nat (b := xa) (by omega)
        have hfin := Lib.hid (show Lib.bitLen x = 32 + Lib.bitLen xa by omega)
        have hv0 : (0 : Int) ≤ xa := by omega
        have hv1 : (xa : Int) ≤ 255 := by omega
        generalize Lib.bitLen xa = r at *
        clear hxa ex32
        go_enter Tryd.func64, Tryd.ntmps64
        go_wp2
        go_ret
        exact ⟨ret_int (by have := hfin.out; omega), rfl⟩
  · have jx32 : ¬ (4294967296 : Int) ≤ x := by omega
    by_cases hx16 : 65536 ≤ x
    · have ex16 := Lib.bitLen_shift16 x hx16 (by omega)
      obtain ⟨xa, hxa⟩ : ∃ xa, xa = x / 65536 := ⟨_, rfl⟩
      have ixa : (x : Int) / 65536 = xa := by omega
      rw [← hxa] at ex16
      have jx16 : (65536 : Int) ≤ x := by omega
      by_cases hxa8 : 256 ≤ xa
      · have exa8 := Lib.bitLen_shift8 xa hxa8 (by omega)
        obtain ⟨xaa, hxaa⟩ : ∃ xaa, xaa = xa / 256 := ⟨_, rfl⟩
        have ixaa : (xa : Int) / 256 = xaa := by omega
        rw [← hxaa] at exa8
        have jxa8 : (256 : Int) ≤ xa := by omega
        obtain ⟨he, hl⟩ := len8_nat (b := xaa) (by omega)
        have hfin := Lib.hid (show Lib.bitLen x = 24 + Lib.bitLen xaa by omega)
        have hv0 : (0 : Int) ≤ xaa := by omega
        have hv1 : (xaa : Int) ≤ 255 := by omega
        generalize Lib.bitLen xaa = r at *
        clear hxa ex16 hxaa exa8
        go_enter Tryd.func64, Tryd.ntmps64
        go_wp2
        go_ret
        exact ⟨ret_int (by have := hfin.out; omega), rfl⟩
      · have jxa8 : ¬ (256 : Int) ≤ xa := by omega
        obtain ⟨he, hl⟩ := len8_nat (b := xa) (by omega)
        have hfin := Lib.hid (show Lib.bitLen x = 16 + Lib.bitLen xa by omega)
        have hv0 : (0 : Int) ≤ xa := by omega
        have hv1 : (xa : Int) ≤ 255 := by omega
        generalize Lib.bitLen xa = r at *
        clear hxa ex16
        go_enter Tryd.func64, Tryd.ntmps64
        go_wp2
        go_ret
        exact ⟨ret_int (by have := hfin.out; omega), rfl⟩
    · have jx16 : ¬ (65536 : Int) ≤ x := by omega
      by_cases hx8 : 256 ≤ x
      · have ex8 := Lib.bitLen_shift8 x hx8 (by omega)
        obtain ⟨xa, hxa⟩ : ∃ xa, xa = x / 256 := ⟨_, rfl⟩
        have ixa : (x : Int) / 256 = xa := by omega
        rw [← hxa] at ex8
        have jx8 : (256 : Int) ≤ x := by omega
        obtain ⟨he, hl⟩ := len8_nat (b := xa) (by omega)
        have hfin := Lib.hid (show Lib.bitLen x = 8 + Lib.bitLen xa by omega)
        have hv0 : (0 : Int) ≤ xa := by omega
        have hv1 : (xa : Int) ≤ 255 := by omega
        generalize Lib.bitLen xa = r at *
        clear hxa ex8
        go_enter Tryd.func64, Tryd.ntmps64
        go_wp2
        go_ret
        exact ⟨ret_int (by have := hfin.out; omega), rfl⟩
      · have jx8 : ¬ (256 : Int) ≤ x := by omega
        obtain ⟨he, hl⟩ := len8_nat (b := x) (by omega)
        have hfin := Lib.hid (show Lib.bitLen x = 0 + Lib.bitLen x by omega)
        have hv0 : (0 : Int) ≤ x := by omega
        have hv1 : (x : Int) ≤ 255 := by omega
        generalize Lib.bitLen x = r at *
        skip
        go_enter Tryd.func64, Tryd.ntmps64
        go_wp2
        go_ret
        exact ⟨ret_int (by have := hfin.out; omega), rfl⟩

/-- n bits are needed. -/
def IsLen (a n : Nat) : Prop := a < 2 ^ n ∧ (n = 0 ∨ 2 ^ (n - 1) ≤ a)
theorem IsLen.only {a m n : Nat} (h : IsLen a m) (k : IsLen a n) : m = n := by
  have key : ∀ {m n}, IsLen a m → IsLen a n → m ≤ n := by
    intro m n h k
    rcases Nat.lt_or_ge n m with hlt | hge
    · exfalso
      rcases h.2 with h0 | h1
      · omega
      · have := k.1
        have h2 : 2 ^ n ≤ 2 ^ (m - 1) := Nat.pow_le_pow_right (by omega) (by omega)
        omega
    · exact hge
  exact Nat.le_antisymm (key h k) (key k h)
theorem bitLen_is : ∀ (f x : Nat), x < 2 ^ f → IsLen x (Lib.bitLenAux f x)
  | 0, x, h => by
    have : x = 0 := by simpa using h
    subst this
    exact ⟨by simp [Lib.bitLenAux], .inl rfl⟩
  | f + 1, x, h => by
    unfold Lib.bitLenAux
    by_cases e : x = 0
    · rw [if_pos e, e]; exact ⟨by simp, .inl rfl⟩
    · rw [if_neg e]
      have ih := bitLen_is f (x / 2) (by rw [Nat.pow_succ] at h; omega)
      generalize Lib.bitLenAux f (x / 2) = r at ih
      refine ⟨?_, .inr ?_⟩
      · have := ih.1; rw [Nat.add_comm, Nat.pow_succ]; omega
      · rw [show 1 + r - 1 = r by omega]
        rcases ih.2 with h0 | h1
        · subst h0; simp; omega
        · rcases Nat.eq_zero_or_pos r with h0 | h0
          · subst h0; simp; omega
          · have e2 : 2 ^ r = 2 ^ (r - 1) * 2 := by rw [← Nat.pow_succ]; congr 1; omega
            omega
theorem len_words {a i r : Nat} (h : a / 2 ^ (64 * (i + 1)) = 0) (hr : IsLen (wd a i) r) (h0 : wd a i ≠ 0) : IsLen a (64 * i + r) := by
  have e : wd a i = a / 2 ^ (64 * i) := by
    unfold wd
    apply Nat.mod_eq_of_lt
    have h1 : a / 2 ^ (64 * i) / 2 ^ 64 = 0 := by rw [Nat.div_div_eq_div_mul, ← Nat.pow_add]; exact h
    have := Nat.div_add_mod (a / 2 ^ (64 * i)) (2 ^ 64)
    rw [h1] at this
    have h2 : a / 2 ^ (64 * i) % 2 ^ 64 < 2 ^ 64 := Nat.mod_lt _ (by omega)
    omega
  rw [e] at hr h0
  have hr0 : r ≠ 0 := fun hz => by have := hr.1; rw [hz, Nat.pow_zero] at this; omega
  refine ⟨?_, .inr ?_⟩
  · have := hr.1
    rw [Nat.div_lt_iff_lt_mul (Nat.pow_pos (by omega))] at this
    rw [Nat.pow_add, Nat.mul_comm]; exact this
  · rcases hr.2 with h2 | h2
    · omega
    · rw [show 64 * i + r - 1 = 64 * i + (r - 1) by omega, Nat.pow_add]
      exact Nat.le_trans (Nat.mul_le_mul_left _ h2) (by rw [Nat.mul_comm]; exact Nat.div_mul_le_self _ _)
def RetLen (a : Nat) (w : World) (e : Ending) (w' : World) : Prop := ∃ n, e = .returned (.int .i64 (n : Nat)) ∧ IsLen a n ∧ Below w.heap.size w w'

theorem limb_Len (a : Nat) (w : World) (ha : a < 2 ^ 256) : Calls Tryd.prog 34 #[numV a] w (RetLen a w) := by
  unfold numV
  have hL := below_alloc w (Obj.cells (arrK .u64 4 (wd a)) 41)
  have hA : NumAt (w.alloc (Obj.cells (arrK .u64 4 (wd a)) 41)) w.heap.size a := At.new _ rfl
  go_enter Tryd.func34, Tryd.ntmps34
  go_wp2
  generalize (w.alloc (Obj.cells (arrK .u64 4 (wd a)) 41)) = W0 at *
  go_loop [3] (fun i => ∃ s : Nat, i = .int .i64 ((s : Int) - 1) ∧ s ≤ 4 ∧ Hid (a / 2 ^ (64 * s) = 0)) (fun i => (intOf i + 1).toNat)
  case atStart => exact ⟨4, rfl, by omega, Lib.hid (Nat.div_eq_of_lt ha)⟩
  case round =>
    obtain ⟨s, rfl, hs, hH⟩ := hrel
    rcases Nat.eq_zero_or_pos s with rfl | hs0
    · have e : a = 0 := by have := hH.out; simpa using this
      subst e
      clear hH
      go_wp2
      go_ret
      exact ⟨0, rfl, ⟨by omega, .inl rfl⟩, hL⟩
    · obtain ⟨i, rfl⟩ : ∃ i, s = i + 1 := ⟨s - 1, by omega⟩
      rw [show (((i + 1 : Nat) : Int) - 1) = (i : Int) by omega]
      have c := hA.cell (i := i) (by omega)
      by_cases h0 : wd a i = 0
      · have hH2 : Hid (a / 2 ^ (64 * i) = 0) := by
          have h1 := hH.out
          refine Lib.hid ?_
          unfold wd at h0
          rw [show 64 * (i + 1) = 64 * i + 64 by omega, Nat.pow_add, ← Nat.div_div_eq_div_mul] at h1
          have := Nat.div_add_mod (a / 2 ^ (64 * i)) (2 ^ 64)
          rw [h1, h0] at this
          omega
        rw [h0] at c
        clear h0 hH
        go_wp2
        go_round
        case rel => exact ⟨i, rfl, by omega, hH2⟩
        case measure => simp [intOf]
      · have hl := len_words (r := Lib.bitLen (wd a i)) hH.out (bitLen_is 64 _ (wd_lt a i)) h0
        have hlt := wd_lt a i
        have hc := Lib.hid (bits_Len64 (wd a i) W0 hlt)
        have hr64 : Lib.bitLen (wd a i) ≤ 64 := Lib.bitLenAux_le 64 _ 64 hlt
        have hb : (((wd a i : Nat) : Int) != 0) = true := by rw [bne_iff_ne]; omega
        have hHl := Lib.hid hl
        clear hl hH
        generalize Lib.bitLen (wd a i) = r at *
        generalize wd a i = x at *
        go_wp2_with (go_at_call 64; refine hc.out.mono ?_; rintro e w' ⟨rfl, rfl⟩)
        go_ret
        exact ⟨64 * i + r, ret_int (by push_cast; rfl), hHl.out, hL⟩

theorem limb_Sh0 (a : Nat) (n : Int) (w : World) (hn : n < -255 ∨ 255 < n) :
    Calls Tryd.prog 36 #[numV a, .int .i64 n] w fun e w' => e = .returned (numV 0) ∧ Below w.heap.size w w' := by
  unfold numV
  have hL : Below w.heap.size w (((w.alloc (Obj.cells (arrK .u64 4 (wd a)) 41)).alloc (Obj.cells (arrK .u64 4 (wd 0)) 41)).alloc (Obj.cells (arrK .u64 4 (wd 0)) 41)) := by go_grown
  have hO : Row (((w.alloc (Obj.cells (arrK .u64 4 (wd a)) 41)).alloc (Obj.cells (arrK .u64 4 (wd 0)) 41)).alloc (Obj.cells (arrK .u64 4 (wd 0)) 41)) (w.heap.size + 1) 4 := ((At.new (k := .u64) (f := wd 0) _ (by simp)).old _).row
  have hZ : NumAt (((w.alloc (Obj.cells (arrK .u64 4 (wd a)) 41)).alloc (Obj.cells (arrK .u64 4 (wd 0)) 41)).alloc (Obj.cells (arrK .u64 4 (wd 0)) 41)) (w.heap.size + 1 + 1) 0 := At.new _ (by simp)
  have hRz := hZ.row
  have hrz := hZ.eq
  have hcs := arrK_cells .u64 4 (wd 0)
  clear hZ
  rw [← zeroNum] at *
  by_cases h1 : 255 < n
  · have hd : decide (255 < n) = true := by simpa using h1
    go_enter Tryd.func36, Tryd.ntmps36
    go_wp2
    exact ret_stored (p := 4) (ty := 41) (g := w.heap.size + 1) (n := 4) rfl Tryd.underlying41 rfl (by kernel_rfl) rfl hO hcs.1 rfl ⟨rfl, below_setRow hL (by omega)⟩
  · have hd : decide (255 < n) = false := by simpa using h1
    have hd2 : decide (n < -255) = true := by simp; omega
    go_enter Tryd.func36, Tryd.ntmps36
    go_wp2
    exact ret_stored (p := 4) (ty := 41) (g := w.heap.size + 1) (n := 4) rfl Tryd.underlying41 rfl (by kernel_rfl) rfl hO hcs.1 rfl ⟨rfl, below_setRow hL (by omega)⟩

end Go.Proofs.YtdlmamnnamlleaaDoor
