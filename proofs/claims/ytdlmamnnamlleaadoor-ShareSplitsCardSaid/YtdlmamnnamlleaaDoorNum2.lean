/- Contracts of the document's numbers, the second part: ToNum, ToWide, Plus, Times, TwoTo, Bits. -/
import Derived.Test.YtdlmamnnamlleaaDoorNum
import Derived.Test.YtdlmamnnamlleaaDoorNumT
namespace Go.Proofs.YtdlmamnnamlleaaDoor
open Go.ChangeShapes Go.WideShapes Go.ChangeAt Go.RowKit
set_option maxHeartbeats 1000000
set_option maxRecDepth 100000

attribute [local go_sem ↓] load_num store_num execl_num execs_num load_wide store_wide execl_wide execs_wide
attribute [local go_sem] isHead_mk blkOf_mk isAgg_mk cellsV_mk row_drew

theorem ref_ToNum (A : Option Addr) (l : List Nat) (c : Nat) (w : World) (h : Ds w A l c) :
    Calls Tryd.prog 45 #[.slice A l.length c] w fun e w' => e = .returned (numV (val l)) ∧ Below w.heap.size w w' := by
  have hD := h.below (below_alloc w (Obj.cells #[Value.int IntKind.u64 0, Value.int IntKind.u64 0, Value.int IntKind.u64 0, Value.int IntKind.u64 0] 41)) (Nat.le_refl _)
  have hR0 : Row (w.alloc (Obj.cells #[Value.int IntKind.u64 0, Value.int IntKind.u64 0, Value.int IntKind.u64 0, Value.int IntKind.u64 0] 41)) w.heap.size 4 := (row_new rfl).2 rfl
  go_enter Tryd.func45, Tryd.ntmps45
  go_wp2_with fail
  refine (ref_words A l c 4 _ hD (by omega) (by omega)).mono ?_
  rintro e w1 ⟨g, rfl, hR, hr, hg, hb1⟩
  have hRw := row_below hR0 hb1 (by simp)
  have hcs : Cells #[Value.int IntKind.u64 (wd (val l) 0 : Nat), Value.int IntKind.u64 (wd (val l) 1 : Nat), Value.int IntKind.u64 (wd (val l) 2 : Nat), Value.int IntKind.u64 (wd (val l) 3 : Nat)] 4 := by rw [arrK4]; exact arrK_cells _ _ _
  have hc : ∀ i < 4, w1.cell? ⟨g, i, none⟩ = some (.int .u64 (wd (val l) i)) := fun i hi => by rw [hR.cell, hr, arrK_at hi]
  have h0 := hc 0 (by omega)
  have h1 := hc 1 (by omega)
  have h2 := hc 2 (by omega)
  have h3 := hc 3 (by omega)
  have hb := (below_alloc w (Obj.cells #[Value.int IntKind.u64 0, Value.int IntKind.u64 0, Value.int IntKind.u64 0, Value.int IntKind.u64 0] 41)).trans (hb1.mono (by simp))
  clear hb1 hR0 hc hD hr
  go_wp2
  go_region
  go_wp2
  refine ret_row rfl Tryd.underlying41 rfl (by kernel_rfl) rfl ((row_setRow_same rfl hRw).2 hcs.1) rfl ?_
  rw [rowAt_setRow_same (w := w1.drew) hRw]
  exact ⟨by rw [arrK4]; rfl, below_setRow hb.drew (Nat.le_refl _)⟩

theorem val_take_succ (l : List Nat) (i : Nat) : val (l.take (i + 1)) = val (l.take i) + 65536 ^ i * (l[i]?.getD 0) := by
  rcases Nat.lt_or_ge i l.length with h | h
  · rw [List.take_succ_eq_append_getElem h, val_snoc, List.getElem?_eq_getElem h, List.length_take, Nat.min_eq_left (by omega)]; rfl
  · rw [List.take_of_length_le h, List.take_of_length_le (by omega), List.getElem?_eq_none h]; simp
theorem plus_step {l k L : List Nat} {i cy : Nat} (hL : L.length = i) (hv : val L + 65536 ^ i * cy = val (l.take i) + val (k.take i)) :
    val (L ++ [(cy + (l[i]?.getD 0 + k[i]?.getD 0)) % 65536]) + 65536 ^ (i + 1) * ((cy + (l[i]?.getD 0 + k[i]?.getD 0)) / 65536) = val (l.take (i + 1)) + val (k.take (i + 1)) := by
  rw [val_snoc, hL, val_take_succ, val_take_succ]
  generalize l[i]?.getD 0 = a
  generalize k[i]?.getD 0 = b
  have h1 : 65536 ^ (i + 1) * ((cy + (a + b)) / 65536) = 65536 ^ i * (65536 * ((cy + (a + b)) / 65536)) := by rw [Nat.pow_succ, Nat.mul_assoc]
  have h2 : 65536 ^ i * ((cy + (a + b)) % 65536) + 65536 ^ i * (65536 * ((cy + (a + b)) / 65536)) = 65536 ^ i * (cy + (a + b)) := by rw [← Nat.mul_add, Nat.mod_add_div]
  rw [Nat.mul_add, Nat.mul_add] at h2
  omega
theorem plus_carry {l k L : List Nat} {i cy : Nat} (hl : Sm l) (hk : Sm k) (h1 : l.length < i) (h2 : k.length < i) (hv : val L + 65536 ^ i * cy = val (l.take i) + val (k.take i)) : cy = 0 := by
  rw [List.take_of_length_le (by omega), List.take_of_length_le (by omega)] at hv
  have h3 := val_lt hl
  have h4 := val_lt hk
  have h5 : 65536 ^ l.length ≤ 65536 ^ (i - 1) := Nat.pow_le_pow_right (by omega) (by omega)
  have h6 : 65536 ^ k.length ≤ 65536 ^ (i - 1) := Nat.pow_le_pow_right (by omega) (by omega)
  have h7 : 65536 ^ i = 65536 ^ (i - 1) * 65536 := by rw [← Nat.pow_succ]; congr 1; omega
  rcases Nat.eq_zero_or_pos cy with h | h
  · exact h
  · have h8 : 65536 ^ i * 1 ≤ 65536 ^ i * cy := Nat.mul_le_mul_left _ h
    omega

theorem ref_Plus (A : Option Addr) (l : List Nat) (c : Nat) (B : Option Addr) (k : List Nat) (d : Nat) (w : World) (ha : Ds w A l c) (hb : Ds w B k d) (hl : l.length ≤ 1000000) (hk : k.length ≤ 1000000) :
    Calls Tryd.prog 42 #[.slice A l.length c, .slice B k.length d] w (RetN (val l + val k) w) := by
  go_enter Tryd.func42, Tryd.ntmps42
  go_wp2
  go_loopw [5, 6, 7] (fun v y i wr => ∃ (i' : Nat) (L : List Nat) (cy : Nat), i = .int .i64 i' ∧ y = .int .i64 cy ∧ cy ≤ 1 ∧ Own w w.heap.size 3 v (digV L) wr ∧ L.length ≤ i' ∧ i' ≤ L.length ∧ i' ≤ max l.length k.length + 1 ∧
    Hid (Sm L ∧ val L + 65536 ^ i' * cy = val (l.take i') + val (k.take i'))) (fun _ _ i _ => max l.length k.length + 1 - (intOf i).toNat)
  case atStart => exact ⟨0, [], 0, rfl, rfl, by omega, Own.start _ _, by simp, by simp, by omega, Sm.nil, by simp [val]⟩
  case round =>
    obtain ⟨i, L, cy, rfl, rfl, hcy, hO, hl1, hl2, him, hH⟩ := hrel
    have hDa := ha.below hO.bel (Nat.le_refl _)
    have hDb := hb.below hO.bel (Nat.le_refl _)
    have hda := digZ_lt ha.sm (i : Int)
    have hdb := digZ_lt hb.sm (i : Int)
    by_cases hgo : i < l.length ∨ i < k.length ∨ 0 < cy
    · have hmax : i ≤ max l.length k.length := by
        rcases Nat.lt_or_ge (max l.length k.length) i with h | h
        · have := plus_carry ha.sm hb.sm (by omega) (by omega) hH.out.2; omega
        · exact h
      rcases (by omega : i < l.length ∨ (¬ i < l.length ∧ i < k.length) ∨ (¬ i < l.length ∧ ¬ i < k.length ∧ 0 < cy)) with hg | ⟨hg1, hg2⟩ | ⟨hg1, hg2, hg3⟩
      all_goals
        clear hgo
        go_wp2_with (first
          | (go_at_call 66; (first | with_reducible refine (ref_digit A l c _ _ hDa).mono ?_ | with_reducible refine (ref_digit B k d _ _ hDb).mono ?_); rintro e w' ⟨rfl, rfl⟩)
          | (at_builtin; refine wpList_own1 (o := ⟨some 37, _, _, _, _, _⟩) rfl (.tmp 33) (.tmp 36) 89 rfl SI rfl hO (.int .i64 (((cy : Int) + ((digZ l i : Nat) + (digZ k i : Nat))) % 65536)) rfl rfl (by rw [digV_len]; unfold maxLen; omega) (by rw [digV_len]; omega) ?_; intro v1 w1 hO1 hg1 hat1; clear hg1 hat1))
        go_roundw
        case rel =>
          have hst := plus_step (by omega) hH.out.2
          rw [← digZ_nat, ← digZ_nat] at hst
          exact ⟨i + 1, L ++ [(cy + (digZ l i + digZ k i)) % 65536], (cy + (digZ l i + digZ k i)) / 65536, by go_num, by go_num, by omega, by rw [digV_snoc]; exact hO1, by simp; omega, by simp; omega, by omega, hH.out.1.append (Sm.one (Nat.mod_lt _ (by omega))), hst⟩
        case measure => simp [intOf]; omega
    · obtain rfl : cy = 0 := by omega
      have hg1 : ¬ i < l.length := by omega
      have hg2 : ¬ i < k.length := by omega
      obtain ⟨A', c', rfl, -, -⟩ := hO.form
      obtain ⟨hn, hD⟩ := ds_own hO hH.out.1
      have hbl := hO.bel
      rw [hn]
      clear hgo
      go_wp2_with (go_at_call 67; refine (ref_trim A' L c' _ hD).mono ?_; rintro e w' ⟨q, hq, rfl, hg, rfl⟩)
      go_ret
      have hv := hH.out.2
      rw [List.take_of_length_le (by omega), List.take_of_length_le (by omega), Nat.mul_zero, Nat.add_zero] at hv
      exact ⟨_, rfl, hv ▸ isN_trim hD hq hg, hbl⟩
end Go.Proofs.YtdlmamnnamlleaaDoor
