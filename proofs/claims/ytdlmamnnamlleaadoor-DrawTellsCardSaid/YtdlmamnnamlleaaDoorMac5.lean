/- Contract of the document's Mark. -/
import Derived.Test.YtdlmamnnamlleaaDoorMac
import Derived.Test.YtdlmamnnamlleaaDoorTree2
namespace Go.Proofs.YtdlmamnnamlleaaDoor
open Go.ChangeShapes Go.WideShapes Go.ChangeAt Go.RowKit
set_option maxHeartbeats 1000000
set_option maxRecDepth 100000
attribute [local irreducible] arrV dgA sha
attribute [local go_sem ↓] load_o32 store_o32
attribute [local go_sem] isHead_mk isPart_mk offOf_mk blkOf_mk isAgg_mk cellsV_mk row_drew rowAt_drew row_new_cells row_old rowAt_new rowAt_old zeroD bs_app
/-- The first j of padB. -/
def padP (k : List UInt8) (c : UInt8) (j : Nat) : List UInt8 := (List.range j).map fun i => (k[i]?.getD 0) ^^^ c
theorem padP_64 (k : List UInt8) (c : UInt8) : padP k c 64 = padB k c := rfl
theorem padP_len (k : List UInt8) (c : UInt8) (j : Nat) : (padP k c j).length = j := by simp [padP]
theorem padP_succ (k : List UInt8) (c : UInt8) (j : Nat) : padP k c (j + 1) = padP k c j ++ [(k[j]?.getD 0) ^^^ c] := by
  unfold padP; rw [List.range_succ, List.map_append]; rfl
theorem u8_xor_b (b : UInt8) (c : Nat) (hc : c < 256) : bits .xor .u8 (b.toNat : Int) (c : Int) = ((b ^^^ UInt8.ofNat c).toNat : Int) := by
  rw [u8_xor_nat _ _ (UInt8.toNat_lt b) hc, UInt8.toNat_xor, UInt8.toNat_ofNat', Nat.mod_eq_of_lt hc]
theorem conv_one2 (b1 b2 : UInt8) (W : World) : (convert 22 9 (.slice (some ⟨W.heap.size + 1, 0, none⟩) 1 1)).run Tryd.prog ((W.alloc (.cells #[.int .u8 (b1.toNat : Int)] 5)).alloc (.cells #[.int .u8 (b2.toNat : Int)] 5)) =
    .ok (strV [b2]) ((W.alloc (.cells #[.int .u8 (b1.toNat : Int)] 5)).alloc (.cells #[.int .u8 (b2.toNat : Int)] 5)) := by
  have := conv_one b2 5 (W.alloc (.cells #[.int .u8 (b1.toNat : Int)] 5))
  rw [show (W.alloc (.cells #[.int .u8 (b1.toNat : Int)] 5)).heap.size = W.heap.size + 1 by simp] at this
  exact this
set_option maxHeartbeats 2000000 in
theorem ref_Mark (K : Nat → W32) (key p : List UInt8) (w : World) (hT : Tabs K w) (hk : key.length ≤ 576460752303423488) (hp : p.length ≤ 576460752303423488) :
    Calls Tryd.prog 47 #[strV key, strV p] w fun e w' => e = .returned (.agg (dgA (markL K key p))) ∧ Below w.heap.size w w' := by
  unfold markL
  have hcz := dgA_cells []
  have hL0 := below_alloc w (Obj.cells (dgA []) 57)
  have hR0 : Row (w.alloc (Obj.cells (dgA []) 57)) w.heap.size 32 := (row_new rfl).2 hcz.1
  have hT0 := Lib.hid (hT.step hL0)
  have hkl := keyL_len K key
  have hHT := Lib.hid hT
  clear hT
  go_enter Tryd.func47, Tryd.ntmps47
  go_upto_if 13 with (fail)
  generalize w.alloc (Obj.cells (dgA []) 57) = W0 at *
  go_cut [0] (fun v0 wx => v0 = strV (keyL K key) ∧ Row wx w.heap.size 32 ∧ Below w.heap.size w wx)
  case first =>
    have hcs := dgA_cells (sha K key)
    have hsl := sha_len K key
    by_cases h64 : 64 < key.length
    · have hd : decide ((64 : Int) < (key.length : Int)) = true := by simp; omega
      have hkk : keyL K key = sha K key := by unfold keyL; rw [if_pos h64]
      have hHk := Lib.hid hkk
      clear hkk
      go_wp2_with fail
      refine (rsumD (K := K) (l := key) hT0.out (by omega)).mono ?_
      rintro e w1 ⟨rfl, hb1⟩
      have hzz : Row (w1.alloc (Obj.cells (dgA []) 57)) w1.heap.size 32 := (row_new rfl).2 hcz.1
      have hst : (w1.alloc (Obj.cells (dgA []) 57)).setRow w1.heap.size (dgA (sha K key)) = w1.alloc (Obj.cells (dgA (sha K key)) 57) := setRow_new rfl
      have ha := below_alloc w1 (Obj.cells (dgA (sha K key)) 57)
      have hcv := conv32 (rd_of_row hsl (show Row (w1.alloc (Obj.cells (dgA (sha K key)) 57)) w1.heap.size 32 from (row_new rfl).2 hcs.1) (rowAt_new rfl)) hsl
      go_wp2_with fail
      go_meet
      exact ⟨by rw [hHk.out], row_below (row_below hR0 hb1 hR0.lt) ha (row_below hR0 hb1 hR0.lt).lt, below_step ha (below_step hb1 hL0 (Nat.le_refl _)) (Nat.le_refl _)⟩
    · have hd : decide ((64 : Int) < (key.length : Int)) = false := by simp; omega
      have hkk : keyL K key = key := by unfold keyL; rw [if_neg h64]
      have hHk := Lib.hid hkk
      clear hkk
      go_wp2_with fail
      go_meet
      exact ⟨by rw [hHk.out], hR0, hL0⟩
  case rest =>
    obtain ⟨rfl, hRx, hLx⟩ := hcut
    clear hT0 hL0 hR0
    generalize hke : keyL K key = k at *
    have hHke := Lib.hid hke
    clear hke
    go_wp2
    go_loopw [6, 7, 8, 9, 18] (fun v6 v7 _ _ i wr => ∃ j : Nat, i = .int .i64 j ∧ j ≤ 64 ∧ v6 = strV (padP k 54 j) ∧ v7 = strV (padP k 92 j) ∧ Row wr w.heap.size 32 ∧ Below w.heap.size w wr) (fun _ _ _ _ i _ => 64 - (intOf i).toNat)
    case atStart => exact ⟨0, rfl, by omega, rfl, rfl, hRx, hLx⟩
    case round =>
      clear hRx hLx
      obtain ⟨j, rfl, hj, rfl, rfl, hR, hL⟩ := hrel
      have hl1 := padP_len k 54 j
      have hl2 := padP_len k 92 j
      by_cases h64 : j = 64
      · subst h64
        rw [padP_64] at hl1 ⊢
        rw [padP_64] at hl2 ⊢
        have hb1 : ((padB k 54).length : Int) + (p.length : Int) ≤ 9223372036854775807 := by omega
        have hTr := Lib.hid (hHT.out.step hL)
        have hq1 : (padB k 54).length + p.length ≤ 9223372036854775807 := by omega
        have hsl := sha_len K (padB k 54 ++ p)
        have hcs := dgA_cells (sha K (padB k 54 ++ p))
        have hc1 := Lib.hid (fun V (h : Tabs K V) => rsumD (K := K) (l := padB k 54 ++ p) h (by rw [List.length_append]; omega))
        have hq2 : (padB k 92).length + (sha K (padB k 54 ++ p)).length ≤ 9223372036854775807 := by omega
        have hc2 := Lib.hid (fun V (h : Tabs K V) => rsumD (K := K) (l := padB k 92 ++ sha K (padB k 54 ++ p)) h (by rw [List.length_append]; omega))
        go_wp2_with fail
        refine (hc1.out _ hTr.out).mono ?_
        rintro e w5 ⟨rfl, hb5⟩
        generalize hxe : sha K (padB k 54 ++ p) = x at *
        have hHxe := Lib.hid hxe
        clear hxe
        have hzz : Row (w5.alloc (Obj.cells (dgA []) 57)) w5.heap.size 32 := (row_new rfl).2 hcz.1
        have hst : (w5.alloc (Obj.cells (dgA []) 57)).setRow w5.heap.size (dgA x) = w5.alloc (Obj.cells (dgA x) 57) := setRow_new rfl
        have ha := below_alloc w5 (Obj.cells (dgA x) 57)
        have hcv := conv32 (rd_of_row hsl (show Row (w5.alloc (Obj.cells (dgA x) 57)) w5.heap.size 32 from (row_new rfl).2 hcs.1) (rowAt_new rfl)) hsl
        have hT6 := Lib.hid ((hTr.out.step hb5).step ha)
        have hR6 := row_below (row_below hR hb5 hR.lt) ha (row_below hR hb5 hR.lt).lt
        have hL6 := below_step ha (below_step hb5 hL (Nat.le_refl _)) (Nat.le_refl _)
        clear hb5 ha hTr hR hL
        go_wp2_with fail
        refine (hc2.out _ hT6.out).mono ?_
        rintro e w7 ⟨rfl, hb7⟩
        have hR7 := row_below hR6 hb7 hR6.lt
        have hL7 := below_step hb7 hL6 (Nat.le_refl _)
        have hco := dgA_cells (sha K (padB k 92 ++ x))
        clear hb7 hR6 hL6
        go_wp2
        exact ret_stored (p := 4) (ty := 57) (g := w.heap.size) (n := 32) (c := dgA (sha K (padB k 92 ++ x))) rfl Tryd.underlying57 rfl (by kernel_rfl) rfl hR7 hco.1 rfl ⟨by rw [hHke.out, hHxe.out], below_setRow hL7 (Nat.le_refl _)⟩
      · have hq1 : (padP k 54 j).length + 1 ≤ 9223372036854775807 := by omega
        have hq2 : (padP k 92 j).length + 1 ≤ 9223372036854775807 := by omega
        have hs1 := Lib.hid (padP_succ k 54 j)
        have hs2 := Lib.hid (padP_succ k 92 j)
        have x1 : bits .xor .u8 ((k[j]?.getD 0).toNat : Int) 54 = ((k[j]?.getD 0 ^^^ 54 : UInt8).toNat : Int) := u8_xor_b _ 54 (by omega)
        have x2 : bits .xor .u8 ((k[j]?.getD 0).toNat : Int) 92 = ((k[j]?.getD 0 ^^^ 92 : UInt8).toNat : Int) := u8_xor_b _ 92 (by omega)
        have hcv1 := fun W => conv_one (k[j]?.getD 0 ^^^ 54) 5 W
        have hcv2 := conv_one2 (k[j]?.getD 0 ^^^ 54) (k[j]?.getD 0 ^^^ 92) wr
        by_cases hjk : j < k.length
        · have hd : decide ((j : Int) < (k.length : Int)) = true := by simp; exact hjk
          have hix : ∀ W : World, (Instr.index 9 (strV k) (.int .i64 (j : Int))).run Tryd.prog W = .ok (.int .u8 ((k[j]?.getD 0).toNat : Int)) W := fun W => by
            have := str_ix (P := Tryd.prog) Tryd.underlying9 (l := k) (i := j) hjk .i64 W
            exact this
          generalize k[j]?.getD 0 ^^^ 54 = b1 at *
          generalize k[j]?.getD 0 ^^^ 92 = b2 at *
          generalize k[j]?.getD 0 = b at *
          go_wp2
          go_round
          case rel => exact ⟨j + 1, by go_num, by omega, by rw [hs1.out], by rw [hs2.out], (row_old (by simp; have := hR.lt; omega)).2 ((row_old hR.lt).2 hR), (hL.alloc hL.size _).alloc (hL.alloc hL.size _).size _⟩
          case measure => simp [intOf]; omega
        · have hd : decide ((j : Int) < (k.length : Int)) = false := by simp; omega
          have hz : k[j]?.getD 0 = 0 := by rw [List.getElem?_eq_none (by omega)]; rfl
          rw [hz] at hs1 hs2 hcv1 hcv2 x1 x2
          have x3 : bits .xor .u8 0 54 = ((0 ^^^ 54 : UInt8).toNat : Int) := x1
          have x4 : bits .xor .u8 0 92 = ((0 ^^^ 92 : UInt8).toNat : Int) := x2
          clear x1 x2 hz
          generalize (0 ^^^ 54 : UInt8) = b1 at *
          generalize (0 ^^^ 92 : UInt8) = b2 at *
          go_wp2
          go_round
          case rel => exact ⟨j + 1, by go_num, by omega, by rw [hs1.out], by rw [hs2.out], (row_old (by simp; have := hR.lt; omega)).2 ((row_old hR.lt).2 hR), (hL.alloc hL.size _).alloc (hL.alloc hL.size _).size _⟩
          case measure => simp [intOf]; omega
end Go.Proofs.YtdlmamnnamlleaaDoor
