/- Contracts of package limb, the third part: Cmp, Shift. -/
import Derived.Test.YtdlmamnnamlleaaDoorLimb2
import Derived.Test.YtdlmamnnamlleaaDoorQuotP
namespace Go.Proofs.YtdlmamnnamlleaaDoor
open Go.ChangeShapes Go.WideShapes Go.ChangeAt Go.RowKit
set_option maxHeartbeats 1000000
set_option maxRecDepth 100000
attribute [local go_sem ↓] load_num store_num execl_num execs_num load_wide store_wide execl_wide execs_wide
attribute [local go_sem] isHead_mk blkOf_mk isAgg_mk cellsV_mk row_drew row_new_cells row_old rowAt_new rowAt_old

theorem order_word {a b i : Nat} (hlt : a / 2 ^ (64 * (i + 1)) = b / 2 ^ (64 * (i + 1))) :
    (wd a i < wd b i → a < b) ∧ (wd b i < wd a i → b < a) ∧ (wd a i = wd b i → a / 2 ^ (64 * i) = b / 2 ^ (64 * i)) := by
  have h1 : ∀ x, x / 2 ^ (64 * (i + 1)) = x / 2 ^ (64 * i) / 2 ^ 64 := fun x => by rw [show 64 * (i + 1) = 64 * i + 64 by omega, Nat.pow_add, Nat.div_div_eq_div_mul]
  rw [h1, h1] at hlt
  unfold wd
  refine ⟨fun h => ?_, fun h => ?_, fun h => by omega⟩
  · have h2 : a / 2 ^ (64 * i) < b / 2 ^ (64 * i) := by omega
    exact Nat.lt_of_not_le fun h3 => by have := Nat.div_le_div_right (c := 2 ^ (64 * i)) h3; omega
  · have h2 : b / 2 ^ (64 * i) < a / 2 ^ (64 * i) := by omega
    exact Nat.lt_of_not_le fun h3 => by have := Nat.div_le_div_right (c := 2 ^ (64 * i)) h3; omega
theorem order_lt {a b : Nat} (h : a < b) : order a b = -1 := if_pos h
theorem order_gt {a b : Nat} (h : b < a) : order a b = 1 := by unfold order; rw [if_neg (by omega), if_pos h]
theorem order_eq (a : Nat) : order a a = 0 := by unfold order; rw [if_neg (by omega), if_neg (by omega)]

theorem limb_Cmp (a b : Nat) (w : World) (ha : a < 2 ^ 256) (hb : b < 2 ^ 256) :
    Calls Tryd.prog 38 #[numV a, numV b] w fun e w' => e = .returned (.int .i64 (order a b)) ∧ Below w.heap.size w w' := by
  unfold numV
  have hL : Below w.heap.size w ((w.alloc (Obj.cells (arrK .u64 4 (wd a)) 41)).alloc (Obj.cells (arrK .u64 4 (wd b)) 41)) := by go_grown
  have hRa : Row ((w.alloc (Obj.cells (arrK .u64 4 (wd a)) 41)).alloc (Obj.cells (arrK .u64 4 (wd b)) 41)) w.heap.size 4 := (row_old (by simp)).2 ((row_new (by simp)).2 (arrK_size _ _ _))
  have hra : rowAt ((w.alloc (Obj.cells (arrK .u64 4 (wd a)) 41)).alloc (Obj.cells (arrK .u64 4 (wd b)) 41)) w.heap.size = arrK .u64 4 (wd a) := (rowAt_old (by simp)).trans (rowAt_new rfl)
  have hRb : Row ((w.alloc (Obj.cells (arrK .u64 4 (wd a)) 41)).alloc (Obj.cells (arrK .u64 4 (wd b)) 41)) (w.heap.size + 1) 4 := (row_new (by simp)).2 (arrK_size _ _ _)
  have hrb : rowAt ((w.alloc (Obj.cells (arrK .u64 4 (wd a)) 41)).alloc (Obj.cells (arrK .u64 4 (wd b)) 41)) (w.heap.size + 1) = arrK .u64 4 (wd b) := rowAt_new (by simp)
  go_enter Tryd.func38, Tryd.ntmps38
  go_wp2
  generalize ((w.alloc (Obj.cells (arrK .u64 4 (wd a)) 41)).alloc (Obj.cells (arrK .u64 4 (wd b)) 41)) = W0 at *
  go_loopw [5] (fun i wr => ∃ s : Nat, i = .int .i64 ((s : Int) - 1) ∧ s ≤ 4 ∧ Hid (a / 2 ^ (64 * s) = b / 2 ^ (64 * s)) ∧ Row wr w.heap.size 4 ∧ rowAt wr w.heap.size = arrK .u64 4 (wd a) ∧ Row wr (w.heap.size + 1) 4 ∧ rowAt wr (w.heap.size + 1) = arrK .u64 4 (wd b) ∧ Below w.heap.size w wr) (fun i _ => (intOf i + 1).toNat)
  case atStart => exact ⟨4, rfl, by omega, Lib.hid (by rw [Nat.div_eq_of_lt ha, Nat.div_eq_of_lt hb]), hRa, hra, hRb, hrb, hL⟩
  case round =>
    clear hRa hra hRb hrb hL
    obtain ⟨s, rfl, hs, hH, hRa, hra, hRb, hrb, hL⟩ := hrel
    rcases Nat.eq_zero_or_pos s with rfl | hs0
    · have e : a = b := by have := hH.out; simpa using this
      subst e
      have hq := Lib.hid (order_eq a)
      go_wp2
      go_ret
      exact ⟨by rw [hq.out]; rfl, hL⟩
    · obtain ⟨i, rfl⟩ : ∃ i, s = i + 1 := ⟨s - 1, by omega⟩
      rw [show (((i + 1 : Nat) : Int) - 1) = (i : Int) by omega]
      have c1 := hRa.cell i
      rw [hra, arrK_at (by omega)] at c1
      have c2 := hRb.cell i
      rw [hrb, arrK_at (by omega)] at c2
      have ho := order_word hH.out
      have hlt1 := wd_lt a i
      have hlt2 := wd_lt b i
      have hHa := Lib.hid hra
      have hHb := Lib.hid hrb
      have hHo := Lib.hid ho
      clear ho hra hrb hH
      rcases Nat.lt_trichotomy (wd a i) (wd b i) with h | h | h
      · have hq := Lib.hid (order_lt (hHo.out.1 h))
        clear hHo
        generalize wd a i = x at *
        generalize wd b i = y at *
        go_wp2
        go_region
        go_wp2
        go_ret
        exact ⟨by rw [hq.out]; rfl, hL.drew⟩
      · have hq := Lib.hid (hHo.out.2.2 h)
        clear hHo
        rw [← h] at c2
        clear hlt2
        have h1 : (((wd a i : Nat) : Int) < ((wd a i : Nat) : Int)) = False := by simp
        have hh := Lib.hid h
        clear h h1
        generalize wd a i = x at *
        go_wp2
        go_region
        go_wp2
        go_region
        go_wp2
        go_round
        case rel => exact ⟨i, rfl, by omega, hq, hRa, hHa.out, hRb, hHb.out, hL.drew.drew⟩
        case measure => simp [intOf]
      · have hq := Lib.hid (order_gt (hHo.out.2.1 h))
        have hn : ¬ wd a i < wd b i := by omega
        clear hHo
        generalize wd a i = x at *
        generalize wd b i = y at *
        go_wp2
        go_region
        go_wp2
        go_region
        go_wp2
        go_ret
        exact ⟨by rw [hq.out]; rfl, hL.drew.drew⟩

theorem set_twice (c : Array Value) (i : Nat) (u v : Value) : (c.setIfInBounds i u).setIfInBounds i v = c.setIfInBounds i v := by
  apply Array.ext_getElem?
  intro j
  by_cases h : i = j
  · subst h; simp [Array.getElem?_setIfInBounds]
  · simp [h]
theorem shl_words (a v k p : Nat) (hp : p < 4) : wd (a * 2 ^ (64 * v + k) % 2 ^ 256) p = wd (a * 2 ^ (64 * v + k)) p := by
  have := wd_mod (n := a * 2 ^ (64 * v + k)) hp
  rw [Nat.zero_add] at this
  exact this.symm

theorem limb_Shl (a n N : Nat) (w : World) (hn : n ≤ 255) (hN : a * 2 ^ n % 2 ^ 256 = N) :
    Calls Tryd.prog 36 #[numV a, .int .i64 (n : Int)] w fun e w' => e = .returned (numV N) ∧ Below w.heap.size w w' := by
  unfold numV
  have hca := arrK_cells .u64 4 (wd a)
  obtain ⟨v, hv⟩ : ∃ v, v = n / 64 := ⟨_, rfl⟩
  obtain ⟨k, hk⟩ : ∃ k, k = n % 64 := ⟨_, rfl⟩
  have hn' : n = 64 * v + k := by omega
  have hqt : Int.tdiv (n : Int) 64 = v := by rw [Int.tdiv_eq_ediv_of_nonneg (by omega)]; omega
  have hrt : Int.tmod (n : Int) 64 = k := by rw [Int.tmod_eq_emod_of_nonneg (by omega)]; omega
  have hqi : (n : Int) / 64 = v := by omega
  have hri : (n : Int) % 64 = k := by omega
  have hv4 : v < 4 := by omega
  have hk64 : k < 64 := by omega
  have hL : Below w.heap.size w (((w.alloc (Obj.cells (arrK .u64 4 (wd a)) 41)).alloc (Obj.cells (arrK .u64 4 fun _ => 0) 41)).alloc (Obj.cells (arrK .u64 4 fun _ => 0) 41)) := by go_grown
  have hRa : Row (((w.alloc (Obj.cells (arrK .u64 4 (wd a)) 41)).alloc (Obj.cells (arrK .u64 4 fun _ => 0) 41)).alloc (Obj.cells (arrK .u64 4 fun _ => 0) 41)) w.heap.size 4 := by go_simp
  have hra : rowAt (((w.alloc (Obj.cells (arrK .u64 4 (wd a)) 41)).alloc (Obj.cells (arrK .u64 4 fun _ => 0) 41)).alloc (Obj.cells (arrK .u64 4 fun _ => 0) 41)) w.heap.size = arrK .u64 4 (wd a) := by go_simp
  have hRo : Row (((w.alloc (Obj.cells (arrK .u64 4 (wd a)) 41)).alloc (Obj.cells (arrK .u64 4 fun _ => 0) 41)).alloc (Obj.cells (arrK .u64 4 fun _ => 0) 41)) (w.heap.size + 1) 4 := (row_old (by simp)).2 ((row_new (by simp)).2 (arrK_size _ _ _))
  have hRz : Row (((w.alloc (Obj.cells (arrK .u64 4 (wd a)) 41)).alloc (Obj.cells (arrK .u64 4 fun _ => 0) 41)).alloc (Obj.cells (arrK .u64 4 fun _ => 0) 41)) (w.heap.size + 1 + 1) 4 := (row_new (by simp)).2 (arrK_size _ _ _)
  have hrz : rowAt (((w.alloc (Obj.cells (arrK .u64 4 (wd a)) 41)).alloc (Obj.cells (arrK .u64 4 fun _ => 0) 41)).alloc (Obj.cells (arrK .u64 4 fun _ => 0) 41)) (w.heap.size + 1 + 1) = arrK .u64 4 (mixW (wd (a * 2 ^ n)) (fun _ => 0) v) := by
    rw [rowAt_new (by simp)]; exact arrK_congr fun p _ => by
      unfold mixW
      split
      · rename_i h; rw [hn', wd_shl_lt _ _ _ _ h]
      · rfl
  have hfin : arrK .u64 4 (mixW (wd (a * 2 ^ n)) (fun _ => 0) 4) = arrK .u64 4 (wd N) := arrK_congr fun p hp => by
    unfold mixW
    rw [if_pos hp, ← hN, hn', shl_words _ _ _ _ hp]
  have hHfin := Lib.hid hfin
  have hHn := Lib.hid hn'
  have hb1 : ¬ (255 : Int) < n := by omega
  have hb2 : ¬ (n : Int) < -255 := by omega
  have hb3 : (0 : Int) ≤ n := by omega
  rw [← zero4w] at hRa hra hRo hRz hrz hL
  have hF0 : wd (a * 2 ^ n) v = wd a 0 * 2 ^ k % 2 ^ 64 := by rw [hn', wd_shl_eq]
  have hF1 : ∀ t, wd (a * 2 ^ n) (v + (t + 1)) = wd a (t + 1) * 2 ^ k % 2 ^ 64 ||| wd a t / 2 ^ (64 - k) := fun t => by rw [hn', wd_shl_gt _ _ _ _ hk64]
  have hH0 := Lib.hid hF0
  have hH1 := Lib.hid hF1
  clear hv hk hn' hfin hF0 hF1 hHn hN
  generalize wd (a * 2 ^ n) = F at *
  go_enter Tryd.func36, Tryd.ntmps36
  go_wp2
  rw [zero4w] at *
  generalize (((w.alloc (Obj.cells (arrK .u64 4 (wd a)) 41)).alloc (Obj.cells (arrK .u64 4 fun _ => 0) 41)).alloc (Obj.cells (arrK .u64 4 fun _ => 0) 41)) = W0 at *
  go_loopw [8] (fun i wr => ∃ s : Nat, i = .int .i64 s ∧ s ≤ 4 ∧ v ≤ s ∧ Row wr w.heap.size 4 ∧ rowAt wr w.heap.size = arrK .u64 4 (wd a) ∧ Row wr (w.heap.size + 1) 4 ∧ Row wr (w.heap.size + 1 + 1) 4 ∧ rowAt wr (w.heap.size + 1 + 1) = arrK .u64 4 (mixW F (fun _ => 0) s) ∧ Below w.heap.size w wr) (fun i _ => 4 - (intOf i).toNat)
  case atStart => exact ⟨v, rfl, by omega, by omega, hRa, hra, hRo, hRz, hrz, hL⟩
  case round =>
    clear hRa hra hRo hRz hrz hL
    obtain ⟨s, rfl, hs, hvs, hRa, hra, hRo, hRz, hrz, hL⟩ := hrel
    by_cases h4 : s = 4
    · subst h4
      rw [hHfin.out] at hrz
      have hcs := arrK_cells .u64 4 (wd N)
      go_wp2
      exact ret_stored (p := 4) (ty := 41) (g := w.heap.size + 1) (n := 4) (c := arrK .u64 4 (wd N)) rfl Tryd.underlying41 rfl (by kernel_rfl) rfl hRo hcs.1 rfl ⟨rfl, below_setRow hL (by omega)⟩
    · have cc : ∀ j, j < 4 → wr.cell? ⟨w.heap.size, j, none⟩ = some (.int .u64 (wd a j : Nat)) := fun j hj => by rw [hRa.cell, hra, arrK_at hj]
      have c2 := hRz.cell s
      rw [hrz, arrK_at (by omega), show mixW F (fun _ => 0) s s = 0 by unfold mixW; rw [if_neg (by omega)]] at c2
      have hf := hRz.frozen s
      have hra' := Lib.hid hra
      have hrz' := Lib.hid hrz
      clear hra hrz
      by_cases hsv : s = v
      · subst hsv
        have c1 := cc 0 (by omega)
        have hw0 := wd_lt a 0
        have hv : IntKind.u64.wrap (((wd a 0 : Nat) : Int) * 2 ^ k) = ((F s : Nat) : Int) := by
          rw [hH0.out, show ((wd a 0 : Nat) : Int) * 2 ^ k = ((wd a 0 * 2 ^ k : Nat) : Int) by simp, IntKind.wrap_u64]; omega
        have hHv := Lib.hid hv
        clear cc hv hH0 hH1
        generalize wd a 0 = x at *
        go_wp2
        go_round
        case rel => exact ⟨s + 1, by go_num, by omega, by omega, row_setCell.2 hRa, by rw [rowAt_setCell_far (by simp; omega)]; exact hra'.out, row_setCell.2 hRo, row_setCell.2 hRz, by rw [rowAt_setCell_same, hrz'.out, hHv.out, arrK_set, mixW_upd], hL.setCell (by simp; omega) _⟩
        case measure => simp [intOf]; omega
      · obtain ⟨t, ht⟩ : ∃ t, t + 1 = s - v := ⟨s - v - 1, by omega⟩
        have c1 := cc (s - v) (by omega)
        have c3 := cc (s - v - 1) (by omega)
        rw [← ht] at c1
        rw [show s - v - 1 = t by omega] at c3
        have hw0 := wd_lt a (t + 1)
        have hw1 := wd_lt a t
        have hH1' := hH1.out t
        rw [show v + (t + 1) = s by omega] at hH1'
        have hv : bits .or .u64 (IntKind.u64.wrap (((wd a (t + 1) : Nat) : Int) * 2 ^ k)) (((wd a t : Nat) : Int) / 2 ^ (64 - k)) = ((F s : Nat) : Int) := by
          rw [hH1', show ((wd a (t + 1) : Nat) : Int) * 2 ^ k = ((wd a (t + 1) * 2 ^ k : Nat) : Int) by simp, IntKind.wrap_u64,
            show ((wd a (t + 1) * 2 ^ k : Nat) : Int) % 18446744073709551616 = ((wd a (t + 1) * 2 ^ k % 2 ^ 64 : Nat) : Int) by omega,
            show ((wd a t : Nat) : Int) / 2 ^ (64 - k) = ((wd a t / 2 ^ (64 - k) : Nat) : Int) by simp,
            u64_or_nat _ _ (Nat.mod_lt _ (by omega)) (Nat.lt_of_le_of_lt (Nat.div_le_self _ _) hw1)]
        have hHv := Lib.hid hv
        have hs1 : (v : Int) < s := by omega
        have hs2 : (s : Int) - v = ((t + 1 : Nat) : Int) := by omega
        have hs3 : ((t + 1 : Nat) : Int) - 1 = (t : Int) := by omega
        have hw2 : IntKind.i64.wrap ((s : Int) - v) = ((t + 1 : Nat) : Int) := by rw [IntKind.wrap_i64]; omega
        have hw3 : IntKind.i64.wrap (((t + 1 : Nat) : Int) - 1) = (t : Int) := by rw [IntKind.wrap_i64]; omega
        have hw4 : IntKind.u64.wrap ((64 : Int) - k) = (64 : Int) - k := by rw [IntKind.wrap_u64]; omega
        have hw5 : ((64 : Int) - k).toNat = 64 - k := by omega
        have hw6 : ((t + 1 : Nat) : Int) < 4 := by omega
        have hw7 : (t : Int) < 4 := by omega
        clear cc hv hH0 hH1 hH1' ht
        generalize wd a (t + 1) = x at *
        generalize wd a t = y at *
        go_wp2
        go_region
        go_wp2
        go_round
        case rel => exact ⟨s + 1, by go_num, by omega, by omega, row_setCell.2 (row_setCell.2 hRa), by rw [rowAt_drew, rowAt_setCell_far (by simp; omega), rowAt_setCell_far (by simp; omega)]; exact hra'.out, row_setCell.2 (row_setCell.2 hRo), row_setCell.2 (row_setCell.2 hRz), by rw [rowAt_drew, rowAt_setCell_same, rowAt_setCell_same, hrz'.out, hHv.out, set_twice, arrK_set, mixW_upd], ((hL.setCell (by simp; omega) _).setCell (by simp; omega) _).drew⟩
        case measure => simp [intOf]; omega

theorem shr_zero (a n v t : Nat) (ha : a < 2 ^ 256) (hv : 64 * v ≤ n) (ht : 4 ≤ v + t) : wd (a / 2 ^ n) t = 0 := by
  refine wd_ge ?_
  rw [Nat.div_lt_iff_lt_mul (Nat.pow_pos (by omega)), ← Nat.pow_add]
  exact Nat.lt_of_lt_of_le ha (Nat.pow_le_pow_right (by omega) (by omega))

theorem limb_Shr (a n N : Nat) (w : World) (ha : a < 2 ^ 256) (hn : n ≤ 255) (hn0 : 0 < n) (hN : a / 2 ^ n = N) :
    Calls Tryd.prog 36 #[numV a, .int .i64 (-(n : Int))] w fun e w' => e = .returned (numV N) ∧ Below w.heap.size w w' := by
  unfold numV
  have hca := arrK_cells .u64 4 (wd a)
  obtain ⟨v, hv⟩ : ∃ v, v = n / 64 := ⟨_, rfl⟩
  obtain ⟨k, hk⟩ : ∃ k, k = n % 64 := ⟨_, rfl⟩
  have hn' : n = 64 * v + k := by omega
  have hqt : Int.tdiv (n : Int) 64 = v := by rw [Int.tdiv_eq_ediv_of_nonneg (by omega)]; omega
  have hrt : Int.tmod (n : Int) 64 = k := by rw [Int.tmod_eq_emod_of_nonneg (by omega)]; omega
  have hqi : (n : Int) / 64 = v := by omega
  have hri : (n : Int) % 64 = k := by omega
  have hv4 : v < 4 := by omega
  have hk64 : k < 64 := by omega
  have hL : Below w.heap.size w (((w.alloc (Obj.cells (arrK .u64 4 (wd a)) 41)).alloc (Obj.cells (arrK .u64 4 fun _ => 0) 41)).alloc (Obj.cells (arrK .u64 4 fun _ => 0) 41)) := by go_grown
  have hRa : Row (((w.alloc (Obj.cells (arrK .u64 4 (wd a)) 41)).alloc (Obj.cells (arrK .u64 4 fun _ => 0) 41)).alloc (Obj.cells (arrK .u64 4 fun _ => 0) 41)) w.heap.size 4 := by go_simp
  have hra : rowAt (((w.alloc (Obj.cells (arrK .u64 4 (wd a)) 41)).alloc (Obj.cells (arrK .u64 4 fun _ => 0) 41)).alloc (Obj.cells (arrK .u64 4 fun _ => 0) 41)) w.heap.size = arrK .u64 4 (wd a) := by go_simp
  have hRo : Row (((w.alloc (Obj.cells (arrK .u64 4 (wd a)) 41)).alloc (Obj.cells (arrK .u64 4 fun _ => 0) 41)).alloc (Obj.cells (arrK .u64 4 fun _ => 0) 41)) (w.heap.size + 1) 4 := (row_old (by simp)).2 ((row_new (by simp)).2 (arrK_size _ _ _))
  have hRz : Row (((w.alloc (Obj.cells (arrK .u64 4 (wd a)) 41)).alloc (Obj.cells (arrK .u64 4 fun _ => 0) 41)).alloc (Obj.cells (arrK .u64 4 fun _ => 0) 41)) (w.heap.size + 1 + 1) 4 := (row_new (by simp)).2 (arrK_size _ _ _)
  have hrz : rowAt (((w.alloc (Obj.cells (arrK .u64 4 (wd a)) 41)).alloc (Obj.cells (arrK .u64 4 fun _ => 0) 41)).alloc (Obj.cells (arrK .u64 4 fun _ => 0) 41)) (w.heap.size + 1 + 1) = arrK .u64 4 (mixW (wd N) (fun _ => 0) 0) := by
    rw [rowAt_new (by simp)]; exact arrK_congr fun p _ => by
      unfold mixW
      rw [if_neg (by omega)]
  have hfin : arrK .u64 4 (mixW (wd N) (fun _ => 0) (4 - v)) = arrK .u64 4 (wd N) := arrK_congr fun p hp => by
    unfold mixW
    split
    · rfl
    · rw [← hN, shr_zero a n v p ha (by omega) (by omega)]
  have hHfin := Lib.hid hfin
  have hb1 : ¬ (255 : Int) < -(n : Int) := by omega
  have hb2 : ¬ -(n : Int) < -255 := by omega
  have hb3 : ¬ (0 : Int) ≤ -(n : Int) := by omega
  have hb4 : (n : Int) ≤ 255 := by omega
  have hb5 : (0 : Int) < n := by omega
  rw [← zero4w] at hRa hra hRo hRz hrz hL
  have hF1 : ∀ t, wd N t = wd a (v + t) / 2 ^ k ||| wd a (v + t + 1) * 2 ^ (64 - k) % 2 ^ 64 := fun t => by rw [← hN, hn', wd_shr _ _ _ _ hk64]
  have hF3 : wd a (v + (3 - v) + 1) = 0 := wd_ge (Nat.lt_of_lt_of_le ha (Nat.pow_le_pow_right (by omega) (by omega)))
  have hH1 := Lib.hid hF1
  have hH3 := Lib.hid hF3
  clear hv hk hn' hfin hF1 hF3 hN
  generalize wd N = F at *
  go_enter Tryd.func36, Tryd.ntmps36
  go_wp2
  rw [zero4w] at *
  generalize (((w.alloc (Obj.cells (arrK .u64 4 (wd a)) 41)).alloc (Obj.cells (arrK .u64 4 fun _ => 0) 41)).alloc (Obj.cells (arrK .u64 4 fun _ => 0) 41)) = W0 at *
  go_loopw [11] (fun i wr => ∃ s : Nat, i = .int .i64 s ∧ s ≤ 4 ∧ v ≤ s ∧ Row wr w.heap.size 4 ∧ rowAt wr w.heap.size = arrK .u64 4 (wd a) ∧ Row wr (w.heap.size + 1) 4 ∧ Row wr (w.heap.size + 1 + 1) 4 ∧ rowAt wr (w.heap.size + 1 + 1) = arrK .u64 4 (mixW F (fun _ => 0) (s - v)) ∧ Below w.heap.size w wr) (fun i _ => 4 - (intOf i).toNat)
  case atStart => exact ⟨v, rfl, by omega, by omega, hRa, hra, hRo, hRz, by rw [hrz, Nat.sub_self], hL⟩
  case round =>
    clear hRa hra hRo hRz hrz hL
    obtain ⟨s, rfl, hs, hvs, hRa, hra, hRo, hRz, hrz, hL⟩ := hrel
    by_cases h4 : s = 4
    · subst h4
      rw [hHfin.out] at hrz
      have hcs := arrK_cells .u64 4 F
      go_wp2
      exact ret_stored (p := 4) (ty := 41) (g := w.heap.size + 1) (n := 4) (c := arrK .u64 4 F) rfl Tryd.underlying41 rfl (by kernel_rfl) rfl hRo hcs.1 rfl ⟨rfl, below_setRow hL (by omega)⟩
    · have cc : ∀ j, j < 4 → wr.cell? ⟨w.heap.size, j, none⟩ = some (.int .u64 (wd a j : Nat)) := fun j hj => by rw [hRa.cell, hra, arrK_at hj]
      obtain ⟨t, ht⟩ : ∃ t, t = s - v := ⟨_, rfl⟩
      have ht1 : s + 1 - v = t + 1 := by omega
      have ht2 : v + t = s := by omega
      rw [← ht] at hrz
      have c1 := cc s (by omega)
      have c2 := hRz.cell t
      rw [hrz, arrK_at (by omega), show mixW F (fun _ => 0) t t = 0 by unfold mixW; rw [if_neg (by omega)]] at c2
      have hf := hRz.frozen t
      have hw0 := wd_lt a s
      have hra' := Lib.hid hra
      have hrz' := Lib.hid hrz
      have hH1' := hH1.out t
      rw [ht2] at hH1'
      have hHt := Lib.hid ht1
      have hs2 : (s : Int) - v = (t : Int) := by omega
      have hw2 : IntKind.i64.wrap ((s : Int) - v) = (t : Int) := by rw [IntKind.wrap_i64]; omega
      have hw7 : (t : Int) < 4 := by omega
      by_cases h3 : s = 3
      · have hv : ((wd a s : Nat) : Int) / 2 ^ k = ((F t : Nat) : Int) := by
          have h0 := hH3.out
          rw [show v + (3 - v) = s by omega] at h0
          rw [hH1', h0, Nat.zero_mul, Nat.zero_mod, Nat.or_zero]; simp
        have hHv := Lib.hid hv
        have hs3 : ¬ (s : Int) < 3 := by omega
        have hs4 : (s : Int) < 4 := by omega
        clear cc hv hH1 hH1' ht ht2 hra hrz hH3 ht1
        have h3' := Lib.hid h3
        clear h3
        generalize wd a s = x at *
        go_wp2
        go_round
        case rel => exact ⟨s + 1, by go_num, by omega, by omega, row_setCell.2 hRa, by rw [rowAt_setCell_far (by simp; omega)]; exact hra'.out, row_setCell.2 hRo, row_setCell.2 hRz, by rw [rowAt_setCell_same, hrz'.out, hHv.out, arrK_set, mixW_upd, hHt.out], hL.setCell (by simp; omega) _⟩
        case measure => simp [intOf]; omega
      · have c3 := cc (s + 1) (by omega)
        have hw1 := wd_lt a (s + 1)
        have hv : bits .or .u64 (((wd a s : Nat) : Int) / 2 ^ k) (IntKind.u64.wrap (((wd a (s + 1) : Nat) : Int) * 2 ^ (64 - k))) = ((F t : Nat) : Int) := by
          rw [hH1', show ((wd a (s + 1) : Nat) : Int) * 2 ^ (64 - k) = ((wd a (s + 1) * 2 ^ (64 - k) : Nat) : Int) by simp, IntKind.wrap_u64,
            show ((wd a (s + 1) * 2 ^ (64 - k) : Nat) : Int) % 18446744073709551616 = ((wd a (s + 1) * 2 ^ (64 - k) % 2 ^ 64 : Nat) : Int) by omega,
            show ((wd a s : Nat) : Int) / 2 ^ k = ((wd a s / 2 ^ k : Nat) : Int) by simp,
            u64_or_nat _ _ (Nat.lt_of_le_of_lt (Nat.div_le_self _ _) hw0) (Nat.mod_lt _ (by omega))]
        have hHv := Lib.hid hv
        have hs3 : (s : Int) < 3 := by omega
        have hw3 : IntKind.i64.wrap ((s : Int) + 1) = (s : Int) + 1 := by rw [IntKind.wrap_i64]; omega
        have hw4 : IntKind.u64.wrap ((64 : Int) - k) = (64 : Int) - k := by rw [IntKind.wrap_u64]; omega
        have hw5 : ((64 : Int) - k).toNat = 64 - k := by omega
        have hw6 : (s : Int) + 1 < 4 := by omega
        have hw8 : ((s : Int) + 1).toNat = s + 1 := by omega
        clear cc hv hH1 hH1' ht ht2 hra hrz hH3 ht1
        generalize wd a (s + 1) = x at *
        generalize wd a s = y at *
        go_wp2
        go_region
        go_wp2
        go_round
        case rel => exact ⟨s + 1, by go_num, by omega, by omega, row_setCell.2 (row_setCell.2 hRa), by rw [rowAt_drew, rowAt_setCell_far (by simp; omega), rowAt_setCell_far (by simp; omega)]; exact hra'.out, row_setCell.2 (row_setCell.2 hRo), row_setCell.2 (row_setCell.2 hRz), by rw [rowAt_drew, rowAt_setCell_same, rowAt_setCell_same, hrz'.out, hHv.out, set_twice, arrK_set, mixW_upd, hHt.out], ((hL.setCell (by simp; omega) _).setCell (by simp; omega) _).drew⟩
        case measure => simp [intOf]; omega
end Go.Proofs.YtdlmamnnamlleaaDoor
