/- Contract of the document's Unwrapped. -/
import Derived.Test.YtjihklaocgmlpaaWrap3
import Derived.Test.YtjihklaocgmlpaaWrap4
namespace Go.Proofs.Ytjihklaocgmlpaa
open Go.ChangeShapes Go.WideShapes Go.ChangeAt Go.RowKit
set_option maxHeartbeats 4000000
set_option maxRecDepth 100000
attribute [local go_sem ↓] load_a16 store_a16 execl_a16 execs_a16 load_b8 store_b8
attribute [local go_sem] isHead_mk blkOf_mk isAgg_mk cellsV_mk row_drew rowAt_drew row_new_cells row_old rowAt_new rowAt_old setRow_new bs_join bs_size

theorem ust_parts (F : Nat → Nat) (R t : Nat) (f : Nat → Nat) {i n : Nat} (hi1 : 1 ≤ i) (hin : i ≤ n) :
    ∀ q < n + 1, updS (rowsS f n) i (bLs (fun k => decB F R (cntF (wblk f (8 * i)) t) (8 + k)) 8) q = rowsS (ust F R t (8 * i) f) n q := fun q hq => by
  unfold updS rowsS
  by_cases h : q = i
  · subst h
    rw [if_pos rfl, if_pos ⟨hi1, hin⟩]
    refine bLs_congr fun k hk => ?_
    unfold ust wput
    rw [if_neg (by omega), if_pos (by omega), show 8 + (8 * q + k - 8 * q) = 8 + k by omega]
  · rw [if_neg h]
    by_cases h1 : 1 ≤ q ∧ q ≤ n
    · rw [if_pos h1, if_pos h1]
      refine bLs_congr fun k hk => ?_
      unfold ust wput
      rw [if_neg (by omega), if_neg (by omega)]
    · rw [if_neg h1, if_neg h1]
theorem ust_head (F : Nat → Nat) (R t p : Nat) (f : Nat → Nat) : ∀ q < 8, decB F R (cntF (wblk f p) t) q = ust F R t p f q := fun q hq => by
  unfold ust wput
  rw [if_pos hq]
theorem unw_step (F : Nat → Nat) (R n : Nat) (f0 : Nat → Nat) {b i : Nat} (hb1 : 1 ≤ b) (hb6 : b ≤ 6) (hi1 : 1 ≤ i) (hin : i ≤ n) :
    unwrapS F R n f0 (n * (6 - b) + (n - (i - 1))) = ust F R (n * (b - 1) + i) (8 * i) (unwrapS F R n f0 (n * (6 - b) + (n - i))) := by
  rw [show n * (6 - b) + (n - (i - 1)) = n * (6 - b) + (n - i) + 1 by omega]
  have e : 6 * n - (n * (6 - b) + (n - i)) = n * (b - 1) + i := by
    have h1 : n * (6 - b) + n * b = n * 6 := by rw [← Nat.mul_add]; congr 1; omega
    have h2 : n * (b - 1) + n = n * b := by rw [← Nat.mul_succ]; congr 1; omega
    omega
  show ust F R (6 * n - (n * (6 - b) + (n - i))) (8 * ((6 * n - (n * (6 - b) + (n - i)) - 1) % n + 1)) _ = _
  rw [e, show n * (b - 1) + i - 1 = n * (b - 1) + (i - 1) by omega, Nat.mul_add_mod, Nat.mod_eq_of_lt (by omega), show i - 1 + 1 = i by omega]
theorem ref_UnwrappedBad (l : List UInt8) (C R : Nat) (F : Nat → Nat) (w : World) (hbad : badU l) (hlb : l.length ≤ 140737488351232) :
    Calls Try.prog 56 #[.pointer (some ⟨C, 0, none⟩), .string ⟨l.toArray⟩] w (RetOpenS (unwrapR F R l) w) := by
  have hr0 : unwrapR F R l = ([], 1) := if_pos hbad
  rw [hr0]
  obtain ⟨L, hl⟩ : ∃ L, L = l.length := ⟨_, rfl⟩
  obtain ⟨r, hr⟩ : ∃ r, r = L % 8 := ⟨_, rfl⟩
  obtain ⟨n, hn⟩ : ∃ n, n = L / 8 := ⟨_, rfl⟩
  unfold badU at hbad
  rw [← hl, ← hr] at hbad
  have hrem : (L : Int) % 8 = (r : Int) := by omega
  have hrt : Int.tmod (L : Int) 8 = (r : Int) := by rw [Int.tmod_eq_emod_of_nonneg (by omega)]; omega
  have hdv : (L : Int) / 8 = (n : Int) := by omega
  have hdt : Int.tdiv (L : Int) 8 = (n : Int) := by rw [Int.tdiv_eq_ediv_of_nonneg (by omega)]; omega
  have hll : l.length = L := hl.symm
  have hnb : n ≤ 140737488351232 := by omega
  have hlb : L ≤ 140737488351232 := by omega
  have hfin : RetOpenS ([], 1) w (.returned (.tuple #[.string ⟨#[]⟩, .int .i64 1])) w := ⟨rfl, Below.refl _ _⟩
  have hF := Lib.hid hfin
  obtain ⟨z, hz⟩ : ∃ z : Int, z = (n : Int) - 1 := ⟨_, rfl⟩
  have hzw : (n : Int) - 1 = z := hz.symm
  have hz0 : -1 ≤ z := by omega
  have hz1 : z ≤ 140737488351232 := by omega
  have hcases : 0 < r ∨ (r = 0 ∧ z < 2) ∨ (r = 0 ∧ 8 < z) := by omega
  clear hfin hr hl hn hr0 hbad hz
  go_enter Try.func56, Try.ntmps56
  rcases hcases with h | ⟨h, h1⟩ | ⟨h, h1⟩
  · have h2 : (0 : Int) < (r : Int) := by omega
    go_wp2_with fail
    exact bodyPost_ret (results_tmp2 (t := 4) (u := 5) rfl _ _ _) rfl hF.out
  · subst h
    rw [show ((0 : Nat) : Int) = 0 from rfl] at hrem hrt
    have h3 : z < 2 := h1
    go_wp2_with fail
    exact bodyPost_ret (results_tmp2 (t := 4) (u := 5) rfl _ _ _) rfl hF.out
  · subst h
    rw [show ((0 : Nat) : Int) = 0 from rfl] at hrem hrt
    have h3 : decide (z < 2) = false := by simp; omega
    have h4 : 8 < z := h1
    go_wp2_with fail
    exact bodyPost_ret (results_tmp2 (t := 4) (u := 5) rfl _ _ _) rfl hF.out
theorem ref_UnwrappedOk (l : List UInt8) (L n C gw cap N R : Nat) (F : Nat → Nat) (w : World) (hC : CipAt w C gw cap N F) (hN : N = 4 * (R + 1)) (hR : R ≤ 14) (hF : ∀ p, F p < 256) (hl : l.length = L) (hL8 : L = 8 * n + 8) (hn2 : 2 ≤ n) (hn8 : n ≤ 8) :
    Calls Try.prog 56 #[.pointer (some ⟨C, 0, none⟩), .string ⟨l.toArray⟩] w (RetOpenS (unwrapR F R l) w) := by
  obtain ⟨m, hm⟩ : ∃ m, m = n + 1 := ⟨_, rfl⟩
  obtain ⟨fu, hfu⟩ : ∃ f, f = unwrapS F R n (byteAt l) (n * 6) := ⟨_, rfl⟩
  have hr0 : unwrapR F R l = if good8 fu then (bLs (fun i => fu (8 + i)) (8 * n), 0) else ([], 5) := by
    have hnb : ¬ badU l := by unfold badU; rw [hl]; omega
    unfold unwrapR
    have e : unwrapF F R l = fu := by
      unfold unwrapF
      rw [hl, hfu, hL8, show (8 * n + 8) / 8 - 1 = n by omega, show 6 * n = n * 6 by omega]
    rw [if_neg hnb, e, hl, hL8, show 8 * n + 8 - 8 = 8 * n by omega]
  obtain ⟨r0, hr0e⟩ : ∃ r, r = unwrapR F R l := ⟨_, rfl⟩
  rw [← hr0e] at hr0 ⊢
  have hHr := Lib.hid hr0
  clear hr0e hr0
  have hfl := fun c q => unwrapS_lt (n := n) (R := R) (f := byteAt l) hF (byteAt_lt l) (by omega) c q
  have hful : ∀ q, fu q < 256 := fun q => by rw [hfu]; exact hfl _ _
  have hHfu := Lib.hid hfu
  clear hfu
  have hz8 : Cells #[Value.int IntKind.u8 0, Value.int IntKind.u8 0, Value.int IntKind.u8 0, Value.int IntKind.u8 0, Value.int IntKind.u8 0, Value.int IntKind.u8 0, Value.int IntKind.u8 0, Value.int IntKind.u8 0] 8 := by rw [zeroB8]; exact arrK_cells _ _ _
  have hrem : (L : Int) % 8 = 0 := by omega
  have hrt : Int.tmod (L : Int) 8 = 0 := by rw [Int.tmod_eq_emod_of_nonneg (by omega)]; omega
  have hdv : (L : Int) / 8 = (n : Int) + 1 := by omega
  have hdt : Int.tdiv (L : Int) 8 = (n : Int) + 1 := by rw [Int.tdiv_eq_ediv_of_nonneg (by omega)]; omega
  have h3 : decide ((n : Int) < 2) = false := by simp; omega
  have h4 : decide ((8 : Int) < (n : Int)) = false := by simp; omega
  have hCw : C < w.heap.size := hC.ltC
  have hGw : gw < w.heap.size := hC.ltg
  obtain ⟨l8, hl8⟩ : ∃ x, x = l.take 8 := ⟨_, rfl⟩
  have hsl8 := str_to (P := Try.prog) Try.underlying9 l l8 8 (by omega) (by omega) hl8.symm
  have hEi := Lib.hid (fun W => ref_eight l8 (byteAt l) W (by rw [hl8, List.length_take]; omega) (fun q hq => by rw [hl8, byteAt_take l hq]))
  have hHL := Lib.hid hL8
  have hHm := Lib.hid hm
  have hL72 : L ≤ 72 := by omega
  have hm9 : m ≤ 9 := by omega
  clear hL8 hm hl8
  go_enter Try.func56, Try.ntmps56
  go_wp2_with fail
  refine (hEi.out _).mono ?_
  rintro e w1 ⟨rfl, hb1⟩
  have hA1 : At ((w1.alloc (Obj.cells (arrK .u8 8 (byteAt l)) 132)).alloc (Obj.cells (madeCells #[.string ⟨#[]⟩] m) 9)) w1.heap.size .u8 8 (byteAt l) := (At.new _ rfl).old _
  have hS1 : SAt ((w1.alloc (Obj.cells (arrK .u8 8 (byteAt l)) 132)).alloc (Obj.cells (madeCells #[.string ⟨#[]⟩] m) 9)) (w1.heap.size + 1) m fun _ => [] := madeS (by simp)
  have hC1 : CipAt ((w1.alloc (Obj.cells (arrK .u8 8 (byteAt l)) 132)).alloc (Obj.cells (madeCells #[.string ⟨#[]⟩] m) 9)) C gw cap N F := ((hC.step hb1).step (below_alloc _ _)).step (below_alloc _ _)
  have hL1 : Below w.heap.size w ((w1.alloc (Obj.cells (arrK .u8 8 (byteAt l)) 132)).alloc (Obj.cells (madeCells #[.string ⟨#[]⟩] m) 9)) := (hb1.alloc hb1.size _).alloc (by have := hb1.size; simp; omega) _
  have hw1 := hb1.size
  have hc8 := arrK_cells .u8 8 (byteAt l)
  have hmn : (n : Int) + 1 = (m : Int) := by have := hHm.out; omega
  have hmk : ∀ W : World, (Instr.makeSlice 133 (.int .i64 (m : Nat)) (.int .i64 (m : Nat))).run Try.prog W = .ok (.slice (some ⟨W.heap.size, 0, none⟩) m m) (W.alloc (.cells (madeCells #[.string ⟨#[]⟩] m) 9)) := fun W =>
    run_make_row' (P := Try.prog) 133 9 (.string ⟨#[]⟩) 16 Try.underlying133 (by kernel_rfl) rfl .i64 .i64 m (by omega) (by omega) W
  go_wp2_with fail
  generalize (w1.alloc (Obj.cells (arrK .u8 8 (byteAt l)) 132)).alloc (Obj.cells (madeCells #[.string ⟨#[]⟩] m) 9) = W1 at *
  obtain ⟨ga, hga⟩ : ∃ g, g = w1.heap.size := ⟨_, rfl⟩
  obtain ⟨gr, hgr⟩ : ∃ g, g = w1.heap.size + 1 := ⟨_, rfl⟩
  rw [← hgr, ← hga]
  rw [← hga] at hA1
  rw [← hgr] at hS1
  have hk0 : w.heap.size ≤ ga := by omega
  have hk1 : ga < gr := by omega
  clear hgr hga hmk hrem hrt hmn h3 h4 hc8 hdv hdt hsl8 hEi hb1 hw1
  go_loopw [9] (fun x wr => ∃ j i : Nat, x = .int .i64 i ∧ i = j + 1 ∧ j ≤ n ∧ SAt wr gr m (rowsS (byteAt l) j) ∧ At wr ga .u8 8 (byteAt l) ∧ CipAt wr C gw cap N F ∧ Below w.heap.size w wr) (fun x _ => 10 - (intOf x).toNat)
  case atStart => exact ⟨0, 1, rfl, rfl, by omega, hS1.congr (fun q _ => by unfold rowsS; rw [if_neg (by omega)]), hA1, hC1, hL1⟩
  case round =>
    clear hS1 hA1 hC1 hL1
    obtain ⟨j, i, rfl, hij, hj, S, T, Cp, hL⟩ := hrel
    by_cases hjn : j = n
    · have hd : ¬ (i : Int) ≤ (n : Int) := by omega
      subst hjn
      clear hij
      go_wp2_with fail
      go_loopw [10] (fun x wr => ∃ b : Nat, x = .int .i64 ((b : Int) - 1) ∧ b ≤ 6 ∧ At wr ga .u8 8 (unwrapS F R j (byteAt l) (j * (6 - b))) ∧ SAt wr gr m (rowsS (unwrapS F R j (byteAt l) (j * (6 - b))) j) ∧ CipAt wr C gw cap N F ∧ Below w.heap.size w wr) (fun x _ => (intOf x + 1).toNat)
      case atStart => exact ⟨6, rfl, by omega, T, S, Cp, hL⟩
      case round =>
        clear T S Cp hL
        obtain ⟨b, rfl, hb6, T, S, Cp, hL⟩ := hrel
        by_cases hb : b = 0
        · subst hb
          rw [show j * (6 - 0) = j * 6 from rfl, ← hHfu.out] at T S
          have h1m : (1 : Int) ≤ (m : Int) := by have := hHm.out; omega
          have hm1 : m - 1 = j := by have := hHm.out; omega
          have hm1n : ¬ m = 1 := by omega
          clear Cp hfl
          rw [show (((0 : Nat) : Int) - 1) = -1 from rfl]
          go_wp2_with fail
          go_loopw [13, 90] (fun o x wx => ∃ (k : Nat) (ou : List UInt8), o = .string ⟨ou.toArray⟩ ∧ x = .int .i64 k ∧ ou = bLs (fun i => fu (8 + i)) (8 * k) ∧ k ≤ j ∧ SAt wx gr m (rowsS fu j) ∧ At wx ga .u8 8 fu ∧ Below w.heap.size w wx) (fun _ x _ => 10 - (intOf x).toNat)
          case atStart => exact ⟨0, [], rfl, rfl, by simp [bLs], by omega, S, T, hL⟩
          case round =>
            clear S T hL
            obtain ⟨k, ou, rfl, rfl, hou, hkj, S, T, hL⟩ := hrel
            by_cases hk : k = j
            · have hw1 : ¬ (k : Int) < (j : Int) := by omega
              have hRT := T.row
              have hrT := T.eq
              have hneq : ∀ W : World, (binOp .neq 132 (.agg (arrK .u8 8 fu)) (.agg #[Value.int IntKind.u8 166, Value.int IntKind.u8 166, Value.int IntKind.u8 166, Value.int IntKind.u8 166, Value.int IntKind.u8 166, Value.int IntKind.u8 166, Value.int IntKind.u8 166, Value.int IntKind.u8 166])).run Try.prog W = .ok (.bool (!decide (good8 fu))) W := fun W => by
                rw [lit166, run_neq_arrK Try.underlying132 Try.underlying5 (by kernel_rfl)]
                congr 3
              by_cases hg : good8 fu
              · have hF : RetOpenS r0 w (.returned (.tuple #[.string ⟨ou.toArray⟩, .int .i64 0])) wr := by
                  rw [hHr.out, if_pos hg, hou, hk]
                  exact ⟨rfl, hL⟩
                have hHF := Lib.hid hF
                rw [decide_eq_true hg, Bool.not_true] at hneq
                clear hF hou S T hk hg
                go_wp2_with fail
                exact bodyPost_ret (results_tmp2 (t := 4) (u := 5) rfl _ _ _) rfl hHF.out
              · have hF : RetOpenS r0 w (.returned (.tuple #[.string ⟨#[]⟩, .int .i64 5])) wr := by
                  rw [hHr.out, if_neg hg]
                  exact ⟨rfl, hL⟩
                have hHF := Lib.hid hF
                rw [decide_eq_false hg, Bool.not_false] at hneq
                clear hF hou S T hk hg
                go_wp2_with fail
                exact bodyPost_ret (results_tmp2 (t := 4) (u := 5) rfl _ _ _) rfl hHF.out
            · have hd : (k : Int) < (j : Int) := by omega
              have hk0 : (0 : Int) ≤ (k : Int) := by omega
              have hc1 := S.cell (1 + k) (by have := hHm.out; omega)
              rw [show rowsS fu j (1 + k) = rowS fu (1 + k) from if_pos ⟨by omega, by omega⟩] at hc1
              obtain ⟨x, hx⟩ : ∃ x, x = rowS fu (1 + k) := ⟨_, rfl⟩
              rw [← hx] at hc1
              have hxl : x.length = 8 := by rw [hx, rowS_len]
              obtain ⟨q, hq⟩ : ∃ q, q = 8 * k := ⟨_, rfl⟩
              have houl : ou.length = q := by rw [hou, bLs_len, hq]
              have hle : (9223372036854775807 < q + 8) = False := eq_false (by omega)
              have hcat : ou ++ x = bLs (fun i => fu (8 + i)) (8 * (k + 1)) := by
                rw [show 8 * (k + 1) = 8 * k + 8 by omega, bLs_add, hou, hx]
                congr 1
                unfold rowS
                refine bLs_congr fun i _ => ?_
                congr 1
                omega
              have hHc := Lib.hid hcat
              have hS := Lib.hid S
              have hT := Lib.hid T
              clear hx hq hou hcat S T hk
              go_wp2_with fail
              go_round
              case rel => exact ⟨k + 1, ou ++ x, rfl, by go_num, hHc.out, by omega, hS.out, hT.out, hL⟩
              case measure => simp [intOf]; omega
        · obtain ⟨c, rfl⟩ : ∃ c, b = c + 1 := ⟨b - 1, by omega⟩
          rw [show (((c + 1 : Nat) : Int) - 1) = (c : Int) by omega]
          have hw : (0 : Int) ≤ (c : Int) := by omega
          go_wp2_with fail
          go_loopw [11] (fun x wx => ∃ i : Nat, x = .int .i64 i ∧ i ≤ j ∧ At wx ga .u8 8 (unwrapS F R j (byteAt l) (j * (6 - (c + 1)) + (j - i))) ∧ SAt wx gr m (rowsS (unwrapS F R j (byteAt l) (j * (6 - (c + 1)) + (j - i))) j) ∧ CipAt wx C gw cap N F ∧ Below w.heap.size w wx) (fun x _ => (intOf x).toNat)
          case atStart => exact ⟨j, rfl, by omega, by rw [Nat.sub_self]; exact T, by rw [Nat.sub_self]; exact S, Cp, hL⟩
          case round =>
            clear T S Cp hL
            obtain ⟨i, rfl, hij, T, S, Cp, hL⟩ := hrel
            by_cases hs : i = 0
            · have hd : ¬ (1 : Int) ≤ (i : Int) := by omega
              rw [hs, show j * (6 - (c + 1)) + (j - 0) = j * (6 - c) by rw [Nat.sub_zero, ← Nat.mul_succ]; congr 1; omega] at T S
              go_wp2_with fail
              go_round
              case rel => exact ⟨c, by go_num, by omega, T, S, Cp, hL⟩
              case measure => simp [intOf] <;> omega
            · have hd : (1 : Int) ≤ (i : Int) := by omega
              have hi0 : (0 : Int) ≤ (i : Int) := by omega
              have him : (i : Int) < (m : Int) := by have := hHm.out; omega
              have hin : i < m := by have := hHm.out; omega
              have hjb : j * c ≤ 40 := by
                have := Nat.mul_le_mul hn8 (show c ≤ 5 by omega)
                omega
              obtain ⟨x, hx⟩ : ∃ x, x = j * c := ⟨_, rfl⟩
              obtain ⟨t, ht⟩ : ∃ t, t = x + i := ⟨_, rfl⟩
              rw [← hx] at hjb
              have hjbI : (j : Int) * (c : Int) = (x : Int) := by rw [hx]; exact (Int.natCast_mul j c).symm
              have hti : (x : Int) + (i : Int) = (t : Int) := by omega
              have ht48 : t ≤ 48 := by omega
              obtain ⟨f, hf⟩ : ∃ f, f = unwrapS F R j (byteAt l) (j * (6 - (c + 1)) + (j - i)) := ⟨_, rfl⟩
              have hfl8 : ∀ q, f q < 256 := fun q => by rw [hf]; exact hfl _ q
              have hnx : unwrapS F R j (byteAt l) (j * (6 - (c + 1)) + (j - (i - 1))) = ust F R t (8 * i) f := by
                rw [unw_step F R j (byteAt l) (b := c + 1) (i := i) (by omega) (by omega) (by omega) (by omega), Nat.add_sub_cancel, ← hf, ht, hx]
              rw [← hf] at T S
              obtain ⟨bk, hbk⟩ : ∃ f', f' = cntF (wblk f (8 * i)) t := ⟨_, rfl⟩
              have hbl : ∀ q < 16, bk q < 256 := fun q hq => by rw [hbk]; exact cntF_lt (fun q _ => wblk_lt hfl8 _ q) (by omega) q hq
              obtain ⟨de, hde⟩ : ∃ f', f' = decB F R bk := ⟨_, rfl⟩
              have hel : ∀ q < 16, de q < 256 := fun q hq => by rw [hde]; exact decB_lt hF hbl q hq
              obtain ⟨fc, hfc⟩ : ∃ x, x = cntF f t := ⟨_, rfl⟩
              have hfcl : ∀ q < 8, fc q < 256 := fun q hq => by rw [hfc]; exact cntF_lt (fun q _ => hfl8 q) (by omega) q (by omega)
              obtain ⟨a8, ha8⟩ : ∃ x, x = bLs fc 8 := ⟨_, rfl⟩
              obtain ⟨ri, hri⟩ : ∃ x, x = rowS f i := ⟨_, rfl⟩
              have ha8l : a8.length = 8 := by rw [ha8, bLs_len]
              have hril : ri.length = 8 := by rw [hri, rowS_len]
              have hcat : ∀ q < 16, byteAt (a8 ++ ri) q = bk q := fun q hq => by
                rw [byteAt_app, ha8l, hbk]
                by_cases h : q < 8
                · rw [if_pos h, ha8, byteAt_bLs h (hfcl _ h), hfc]
                  unfold cntF wblk
                  by_cases h7 : q = 7
                  · rw [if_pos h7, if_pos h7, if_pos (by omega)]
                  · rw [if_neg h7, if_neg h7, if_pos h]
                · rw [if_neg h, hri]
                  unfold rowS cntF wblk
                  rw [if_neg (by omega), if_neg h]
                  exact byteAt_bLs (by omega) (hfl8 _)
              have hCo := Lib.hid (fun W => ref_counted f t W (fun q _ => hfl8 q) (by omega))
              rw [← hfc] at hCo
              have hSx := Lib.hid (fun W => ref_SixteenOf (a8 ++ ri) bk W (by rw [List.length_append, ha8l, hril]; omega) hcat)
              have hDe := Lib.hid (fun W (hW : CipAt W C gw cap N F) => ref_Decrypt bk F C gw cap N R W hW hN hR hF hbl)
              rw [← hde] at hDe
              have hcvA := Lib.hid (fun (V : World) (hV : At V ga .u8 8 fc) => show (convert 25 9 (.slice (some ⟨ga, 0, none⟩) 8 8)).run Try.prog V = .ok (.string ⟨a8.toArray⟩) V from by
                have h := conv_part (o := 0) (n := 8) (c := 8) hV (by omega) (fun i hi => hfcl i hi)
                simp only [Nat.zero_add] at h
                rw [ha8]
                exact h)
              have hSi := Lib.hid (fun (V : World) (hV : SAt V gr m (rowsS f j)) => show V.cell? ⟨gr, i, none⟩ = some (.string ⟨ri.toArray⟩) from by
                rw [hV.cell i hin, hri]
                unfold rowsS
                rw [if_pos ⟨by omega, by omega⟩])
              have hhead : ∀ q < 8, de q = ust F R t (8 * i) f q := fun q hq => by rw [hde, hbk]; exact ust_head F R t (8 * i) f q hq
              have hparts : ∀ q < m, updS (rowsS f j) i (bLs (fun k => de (8 + k)) 8) q = rowsS (ust F R t (8 * i) f) j q := fun q hq => by
                rw [hde, hbk]
                exact ust_parts F R t f (by omega) (by omega) q (by have := hHm.out; omega)
              rw [← hnx] at hhead hparts
              have hHead := Lib.hid hhead
              have hParts := Lib.hid hparts
              have hz16 : Cells #[Value.int IntKind.u8 0, Value.int IntKind.u8 0, Value.int IntKind.u8 0, Value.int IntKind.u8 0, Value.int IntKind.u8 0, Value.int IntKind.u8 0, Value.int IntKind.u8 0, Value.int IntKind.u8 0, Value.int IntKind.u8 0, Value.int IntKind.u8 0, Value.int IntKind.u8 0, Value.int IntKind.u8 0, Value.int IntKind.u8 0, Value.int IntKind.u8 0, Value.int IntKind.u8 0, Value.int IntKind.u8 0] 16 := by rw [zeroA16]; exact arrK_cells _ _ _
              have hce := arrK_cells .u8 16 de
              have hcf := arrK_cells .u8 8 fc
              have hle : (9223372036854775807 < 8 + 8) = False := eq_false (by omega)
              have hRA := T.row
              have hrA := T.eq
              have hTt := Lib.hid T
              have hSs := Lib.hid S
              have hCc := Lib.hid Cp
              clear hx ht hf hnx hbk hde ha8 hri hcat hhead hparts hfl8 hfc T S Cp
              go_wp2_with fail
              refine (hCo.out _).mono ?_
              rintro e w2 ⟨rfl, hb2⟩
              have hRA2 := row_below hRA hb2 hRA.lt
              have hS2 := Lib.hid (hSs.out.step hb2)
              have hC2 := Lib.hid (hCc.out.step hb2)
              have hL2 := below_step hb2 hL (Nat.le_refl _)
              clear hRA hrA hTt hSs hCc hL hb2 hCo
              go_upto_region 17 with (fail)
              have hTt := Lib.hid (show At (w2.setRow ga (arrK .u8 8 fc)) ga .u8 8 fc from At.put hRA2)
              have hSs := Lib.hid (hS2.out.far (g' := ga) (c := arrK .u8 8 fc) (by omega))
              have hCc := Lib.hid (show CipAt (w2.setRow ga (arrK .u8 8 fc)) C gw cap N F from hC2.out.below (below_setRow (Below.refl w.heap.size _) hk0) hCw hGw)
              have hL := below_setRow (g := ga) (c := arrK .u8 8 fc) hL2 hk0
              clear hRA2 hS2 hC2 hL2 hcf hz8
              generalize w2.setRow ga (arrK .u8 8 fc) = W2 at *
              generalize ha0 : Act.mk _ _ = a0
              have e0 : a0.tmps[0]?.getD undef = .pointer (some ⟨C, 0, none⟩) := by rw [← ha0]; rfl
              have e7 : a0.tmps[7]?.getD undef = .pointer (some ⟨ga, 0, none⟩) := by rw [← ha0]; rfl
              have e8 : a0.tmps[8]?.getD undef = .slice (some ⟨gr, 0, none⟩) m m := by rw [← ha0]; rfl
              have e11 : a0.tmps[11]?.getD undef = .int .i64 (i : Nat) := by rw [← ha0]; rfl
              have hz0 : a0.tmps.size = 102 := by rw [← ha0]; rfl
              have hha0 := Lib.hid ha0
              clear ha0
              refine wp_region_fresh ⟨fun jx_ => match jx_ with | 0 => some (.pointer (some ⟨C, 0, none⟩)) | 1 => some (.slice (some ⟨ga, 0, none⟩) 8 8) | 2 => some (.string ⟨a8.toArray⟩) | 3 => some (.slice (some ⟨gr, 0, none⟩) m m) | 4 => some (.int .i64 (i : Nat)) | 5 => some (.pointer (some ⟨gr, i, none⟩)) | 6 => some (.string ⟨ri.toArray⟩) | 7 => some (.string ⟨(a8 ++ ri).toArray⟩) | 8 => some (.agg (arrK .u8 16 bk)) | 9 => some (.agg (arrK .u8 16 de)) | _ => none, fun jx_ => match jx_ with | 10 => some 16 | _ => none, fun jx_ => match jx_ with | 11 => some 10 | _ => none, fun jx_ => match jx_ with | 11 => arrK .u8 16 de | _ => #[]⟩ (by kernel_rfl) (by kernel_rfl) (by kernel_rfl) (slotsOk_of hz0 (by kernel_rfl)) rfl ⟨?_, ?_, ?_, ?_, ?_, ?_, ?_, ?_, ?_, ?_, ?_, ?_, trivial⟩ ?_
              · refine fstep_val rfl rfl (calm_step rfl fun aa ω κ hb hu hc hK => ?_)
                have h0 : aa.tmps[0]?.getD undef = .pointer (some ⟨C, 0, none⟩) := (hu 0 rfl).trans e0
                have hk := Lib.hid (fun w1 (h : Below ω.heap.size ω w1) => hK (.pointer (some ⟨C, 0, none⟩)) w1 rfl h)
                clear hK hu hc
                go_simp
                exact hk.out _ (Below.refl _ _)
              · refine fstep_val rfl rfl (calm_step rfl fun aa ω κ hb hu hc hK => ?_)
                have h7 : aa.tmps[7]?.getD undef = .pointer (some ⟨ga, 0, none⟩) := (hu 7 rfl).trans e7
                have hk := Lib.hid (fun w1 (h : Below ω.heap.size ω w1) => hK (.slice (some ⟨ga, 0, none⟩) 8 8) w1 rfl h)
                clear hK hu hc
                go_simp
                exact hk.out _ (Below.refl _ _)
              · refine fstep_val rfl rfl (calm_step rfl fun aa ω κ hb hu hc hK => ?_)
                have h70 : aa.tmps[70]?.getD undef = .slice (some ⟨ga, 0, none⟩) 8 8 := hc 1 70 rfl rfl
                have hk := Lib.hid (fun w1 (h : Below ω.heap.size ω w1) => hK (.string ⟨a8.toArray⟩) w1 rfl h)
                clear hK hu hc
                have hcv := hcvA.out ω (hTt.out.step hb)
                go_simp
                exact hk.out _ (Below.refl _ _)
              · refine fstep_val rfl rfl (calm_step rfl fun aa ω κ hb hu hc hK => ?_)
                have h8 : aa.tmps[8]?.getD undef = .slice (some ⟨gr, 0, none⟩) m m := (hu 8 rfl).trans e8
                have hk := Lib.hid (fun w1 (h : Below ω.heap.size ω w1) => hK (.slice (some ⟨gr, 0, none⟩) m m) w1 rfl h)
                clear hK hu hc
                go_simp
                exact hk.out _ (Below.refl _ _)
              · refine fstep_val rfl rfl (calm_step rfl fun aa ω κ hb hu hc hK => ?_)
                have h11 : aa.tmps[11]?.getD undef = .int .i64 (i : Nat) := (hu 11 rfl).trans e11
                have hk := Lib.hid (fun w1 (h : Below ω.heap.size ω w1) => hK (.int .i64 (i : Nat)) w1 rfl h)
                clear hK hu hc
                go_simp
                exact hk.out _ (Below.refl _ _)
              · refine fstep_val rfl rfl (calm_step rfl fun aa ω κ hb hu hc hK => ?_)
                have h72 : aa.tmps[72]?.getD undef = .slice (some ⟨gr, 0, none⟩) m m := hc 3 72 rfl rfl
                have h73 : aa.tmps[73]?.getD undef = .int .i64 (i : Nat) := hc 4 73 rfl rfl
                have hk := Lib.hid (fun w1 (h : Below ω.heap.size ω w1) => hK (.pointer (some ⟨gr, i, none⟩)) w1 rfl h)
                clear hK hu hc
                go_simp
                exact hk.out _ (Below.refl _ _)
              · refine fstep_val rfl rfl (calm_step rfl fun aa ω κ hb hu hc hK => ?_)
                have h74 : aa.tmps[74]?.getD undef = .pointer (some ⟨gr, i, none⟩) := hc 5 74 rfl rfl
                have hk := Lib.hid (fun w1 (h : Below ω.heap.size ω w1) => hK (.string ⟨ri.toArray⟩) w1 rfl h)
                clear hK hu hc
                have hc1 := hSi.out ω (hSs.out.step hb)
                go_simp
                exact hk.out _ (Below.refl _ _)
              · refine fstep_val rfl rfl (calm_step rfl fun aa ω κ hb hu hc hK => ?_)
                have h71 : aa.tmps[71]?.getD undef = .string ⟨a8.toArray⟩ := hc 2 71 rfl rfl
                have h75 : aa.tmps[75]?.getD undef = .string ⟨ri.toArray⟩ := hc 6 75 rfl rfl
                have hk := Lib.hid (fun w1 (h : Below ω.heap.size ω w1) => hK (.string ⟨(a8 ++ ri).toArray⟩) w1 rfl h)
                clear hK hu hc
                go_simp
                exact hk.out _ (Below.refl _ _)
              · refine fstep_val rfl rfl (calm_step rfl fun aa ω κ hb hu hc hK => ?_)
                have h76 : aa.tmps[76]?.getD undef = .string ⟨(a8 ++ ri).toArray⟩ := hc 7 76 rfl rfl
                have hk := Lib.hid (fun w1 (h : Below ω.heap.size ω w1) => hK (.agg (arrK .u8 16 bk)) w1 rfl h)
                clear hK hu hc
                go_simp
                go_at_call 93
                refine (hSx.out _).mono ?_
                rintro e w1 ⟨rfl, hb1⟩
                exact hk.out _ hb1
              · refine fstep_val rfl rfl (calm_step rfl fun aa ω κ hb hu hc hK => ?_)
                have h69 : aa.tmps[69]?.getD undef = .pointer (some ⟨C, 0, none⟩) := hc 0 69 rfl rfl
                have h77 : aa.tmps[77]?.getD undef = .agg (arrK .u8 16 bk) := hc 8 77 rfl rfl
                have hk := Lib.hid (fun w1 (h : Below ω.heap.size ω w1) => hK (.agg (arrK .u8 16 de)) w1 rfl h)
                clear hK hu hc
                go_simp
                go_at_call 45
                refine (hDe.out _ (hCc.out.step hb)).mono ?_
                rintro e w1 ⟨rfl, hb1⟩
                exact hk.out _ hb1
              · refine fstep_al (n := 16) rfl rfl fun aa ω κ hK => ?_
                have hk := Lib.hid hK
                clear hK
                go_simp
                exact hk.out _ _ hz16
              · refine fstep_st (j := 10) (n := 16) (d := 12) rfl rfl rfl rfl rfl hce.1 rfl rfl fun aa ω κ g hb hu hc hp hr hK => ?_
                have h78 : aa.tmps[78]?.getD undef = .agg (arrK .u8 16 de) := hc 9 78 rfl rfl
                have hk := Lib.hid hK
                clear hK hu hc
                have hcc := hce
                go_simp
                exact hk.out undef
              · intro a1 w1 G I
                have ha0 := hha0.out
                subst ha0
                have he := act_patch (n := 102) [false, false, false, false, false, false, false, false, false, false, false, false, true, false, false, false, false, false, false, false, false, false, false, false, false, false, false, false, false, false, false, false, false, false, false, false, false, false, false, false, false, false, false, false, false, false, false, false, false, false, false, false, false, false, false, false, false, false, false, false, false, false, false, false, false, false, false, false, false, true, true, true, true, true, true, true, true, true, true, false, false, false, false, false, false, false, false, false, false, false, false, false, false, false, false, false, false, false, false, false, false, false] rfl (by kernel_rfl) I.un I.sz I.df
                simp only [patch, cond_true, cond_false, Nat.reduceAdd] at he
                have hal12 := I.al 10 12 16 rfl rfl rfl
                have hT2 := Lib.hid (hTt.out.step I.bel)
                have hS2 := Lib.hid (hSs.out.step I.bel)
                have hC2 := Lib.hid (hCc.out.step I.bel)
                have hL2 := below_step I.bel hL (Nat.le_refl _)
                have X2 : At w1 (G 10) .u8 16 de := ⟨(I.blk 10 16 rfl rfl).2, (I.row 11 10 rfl rfl).2.2⟩
                have hgG : gr < G 10 := Nat.lt_of_lt_of_le hSs.out.lt (I.blk 10 16 rfl rfl).1
                clear hTt hSs hCc hL
                clear I hz0 hha0 e0 e7 e8 e11
                rw [he]
                clear he
                rw [hal12]
                clear hal12
                generalize a1.tmps[69]?.getD undef = x69 at *
                generalize a1.tmps[70]?.getD undef = x70 at *
                generalize a1.tmps[71]?.getD undef = x71 at *
                generalize a1.tmps[72]?.getD undef = x72 at *
                generalize a1.tmps[73]?.getD undef = x73 at *
                generalize a1.tmps[74]?.getD undef = x74 at *
                generalize a1.tmps[75]?.getD undef = x75 at *
                generalize a1.tmps[76]?.getD undef = x76 at *
                generalize a1.tmps[77]?.getD undef = x77 at *
                generalize a1.tmps[78]?.getD undef = x78 at *
                clear hSx hDe hcvA hSi hle hce
                have hcv := conv_part (o := 0) (n := 8) (c := 16) X2 (by omega) hel
                simp only [Nat.zero_add] at hcv
                obtain ⟨e8, he8⟩ : ∃ e, e = bLs de 8 := ⟨_, rfl⟩
                rw [show (fun i => de i) = de from rfl, ← he8] at hcv
                have hEi := Lib.hid (fun W => ref_eight e8 de W (by rw [he8, bLs_len]; omega) (fun q hq => by rw [he8, byteAt_bLs hq (hel q (by omega))]))
                have hX := Lib.hid X2
                clear he8 X2
                go_wp2_with fail
                refine (hEi.out _).mono ?_
                rintro e w4 ⟨rfl, hb4⟩
                have hX4 := Lib.hid (hX.out.step hb4)
                have hRA := (hT2.out.step hb4).row
                have hS4 := Lib.hid (hS2.out.step hb4)
                have hC4 := Lib.hid (hC2.out.step hb4)
                have hL4 := below_step hb4 hL2 (Nat.le_refl _)
                have hc8 := arrK_cells .u8 8 de
                clear hX hT2 hS2 hC2 hL2 hb4 hcv hEi
                go_upto_region 19 with (fail)
                have X5 := hX4.out.far (g' := ga) (c := arrK .u8 8 de) (by omega)
                have A5 : At (w4.setRow ga (arrK .u8 8 de)) ga .u8 8 de := At.put hRA
                have S5 := hS4.out.far (g' := ga) (c := arrK .u8 8 de) (by omega)
                have C5 : CipAt (w4.setRow ga (arrK .u8 8 de)) C gw cap N F := hC4.out.below (below_setRow (Below.refl w.heap.size _) hk0) hCw hGw
                have hL5 := below_setRow (g := ga) (c := arrK .u8 8 de) hL4 hk0
                clear hX4 hRA hS4 hC4 hL4 hc8
                generalize w4.setRow ga (arrK .u8 8 de) = W5 at *
                have hcv := conv_part (o := 8) (n := 8) (c := 8) X5 (by omega) hel
                obtain ⟨x8, hx8⟩ : ∃ e, e = bLs (fun i => de (8 + i)) 8 := ⟨_, rfl⟩
                rw [← hx8] at hcv
                have hPp := hParts.out
                rw [← hx8] at hPp
                have hHp := Lib.hid hPp
                have hc1 := S5.cell i hin
                have hfr := S5.row.frozen i
                have hS := Lib.hid S5
                obtain ⟨s, hs1⟩ : ∃ s, s = i - 1 := ⟨_, rfl⟩
                have hsi : (i : Int) - 1 = (s : Int) := by omega
                have hHs := Lib.hid hs1
                clear hx8 hPp hParts S5 X5 hs1
                go_wp2_with fail
                go_round
                case rel =>
                  refine ⟨s, by go_num, by have := hHs.out; omega, ?_, ?_, C5.below ((Below.refl w.heap.size _).setCell (by simp; omega) _) hCw hGw, hL5.setCell (by simp; omega) _⟩
                  · rw [hHs.out]
                    exact (A5.farC (by simp; omega)).congr hHead.out
                  · rw [hHs.out]
                    exact (hS.out.set hin x8).congr hHp.out
                case measure => simp [intOf]; omega
    · have hd : (i : Int) ≤ (n : Int) := by omega
      have him : (i : Int) < (m : Int) := by have := hHm.out; omega
      have hi0 : (0 : Int) ≤ (i : Int) := by omega
      obtain ⟨a, ha⟩ : ∃ a, a = 8 * i := ⟨_, rfl⟩
      obtain ⟨e, he⟩ : ∃ e, e = a + 8 := ⟨_, rfl⟩
      have ha1 : 8 * (i : Int) = (a : Int) := by omega
      have he1 : (a : Int) + 8 = (e : Int) := by omega
      have heL : e ≤ L := by have := hHL.out; omega
      obtain ⟨x, hx⟩ : ∃ x, x = rowS (byteAt l) i := ⟨_, rfl⟩
      have hsl := str_sl (P := Try.prog) Try.underlying9 l x (a : Int) (e : Int) (by omega) (by omega) (by omega) (by
        rw [Int.toNat_natCast, Int.toNat_natCast, he, show a + 8 - a = 8 by omega, takeB l a 8 (by omega), hx, ha]
        rfl)
      have hc1 := S.cell i (by omega)
      have hfr := S.row.frozen i
      have hS := Lib.hid S
      have hHij := Lib.hid hij
      have hHx := Lib.hid hx
      clear S hx ha he hij
      go_wp2_with fail
      go_round
      case rel =>
        refine ⟨j + 1, i + 1, by go_num, by rw [hHij.out], by omega, (hS.out.set (by omega) x).congr (fun q hq => ?_), T.farC (by simp; omega), Cp.below ((Below.refl w.heap.size _).setCell (by simp; omega) _) hCw hGw, hL.setCell (by simp; omega) _⟩
        have h1 := hHij.out
        unfold updS rowsS
        by_cases h : q = i
        · rw [if_pos h, if_pos (by omega), hHx.out, h]
        · rw [if_neg h]
          by_cases h2 : 1 ≤ q ∧ q ≤ j
          · rw [if_pos h2, if_pos (by omega)]
          · rw [if_neg h2, if_neg (by omega)]
      case measure => simp [intOf]; omega
end Go.Proofs.Ytjihklaocgmlpaa
