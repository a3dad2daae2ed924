/- Contracts of der.Hex and of the document's HexText. -/
import Derived.Test.YtjihklaocgmlpaaDn5
import Derived.Test.YtjihklaocgmlpaaDn4
namespace Go.Proofs.Ytjihklaocgmlpaa
open Go Go.ChangeShapes Go.WideShapes Go.ChangeAt Go.RowKit
set_option maxHeartbeats 2000000
set_option maxRecDepth 100000
theorem sgn_at : ∀ k < 16, (([48, 49, 50, 51, 52, 53, 54, 55, 56, 57, 97, 98, 99, 100, 101, 102] : List UInt8)[k]?.getD 0) = sgn k := by decide
theorem digit_ix (k : Nat) (z : Int) (hz : z = (k : Nat)) (hk : k < 16) (κ : IntKind) (W : World) :
    (Instr.index 9 (.string { data := #[48, 49, 50, 51, 52, 53, 54, 55, 56, 57, 97, 98, 99, 100, 101, 102] }) (.int κ z)).run Try.prog W = .ok (.int .u8 ((sgn k).toNat : Nat)) W := by
  subst hz
  have h0 : (0 : Int) ≤ (k : Int) := by omega
  have h1 : (⟨#[48, 49, 50, 51, 52, 53, 54, 55, 56, 57, 97, 98, 99, 100, 101, 102]⟩ : ByteArray)[k]? = some (sgn k) := by
    have h2 := sgn_at k hk
    show (if h : k < (⟨#[48, 49, 50, 51, 52, 53, 54, 55, 56, 57, 97, 98, 99, 100, 101, 102]⟩ : ByteArray).size then some _ else none) = _
    rw [dif_pos (by simpa [ByteArray.size] using hk), ← h2, List.getElem?_eq_getElem (by simpa using hk)]
    rfl
  unfold Instr.index
  simp only [Sem.run_bind, asIntOf, Sem.run_pure, Result.andThen_ok, run_underlying Try.underlying9 W, h0, if_true, Int.toNat_natCast, h1]
theorem der_Hex (A : Option Addr) (b : List UInt8) (n c : Nat) (w : World) (hb : Rd w w.heap.size A (bytesV b)) (hn : b.length = n) (hnm : n ≤ 1048576) :
    Calls Try.prog 16 #[.slice A n c] w fun e w' => e = .returned (strW (hexT b)) ∧ Below w.heap.size w w' := by
  have hrd := Lib.hid hb
  have hHn := Lib.hid hn
  have hF := Lib.hid (Lib.fresh_isBuilder 99 5 w)
  have hF0 := Lib.hid (push_new w (Obj.cells #[Value.pointer none, Value.slice none 0 0] 99))
  have hL0 := Lib.hid (below_alloc w (Obj.cells #[Value.pointer none, Value.slice none 0 0] 99))
  clear hb hn
  go_enter Try.func16, Try.ntmps16
  go_wp2_with fail
  generalize w.alloc (Obj.cells #[Value.pointer none, Value.slice none 0 0] 99) = W0 at *
  go_loopw [8] (fun vi wr => ∃ (i : Nat), vi = .int .i64 (i : Nat) ∧ i ≤ n ∧ Hid (IsB w.heap.size w.heap.size (hexT (b.take i)) wr) ∧ Hid (i = 0 → wr.heap[w.heap.size]? = some (.cells #[Value.pointer none, Value.slice none 0 0] 99 (0, 0))) ∧ Hid (Below w.heap.size w wr)) (fun vi _ => n - (intOf vi).toNat)
  case atStart => exact ⟨0, rfl, by omega, Lib.hid hF.out, Lib.hid (fun _ => hF0.out), hL0⟩
  case round =>
    obtain ⟨i, rfl, hi, hB, hZ, hL⟩ := hrel
    clear hF hF0 hL0
    by_cases hc : i < n
    · have e1 : decide ((i : Int) < (n : Int)) = true := by simp; omega
      have z1 : (0 : Int) ≤ (i : Int) := by omega
      have z2 : (i : Int) < (n : Int) := by omega
      have w3 : IntKind.i64.wrap ((i : Int) + 1) = (i : Int) + 1 := by rw [IntKind.wrap_i64]; omega
      obtain ⟨x, hx⟩ : ∃ x, b[i]? = some x := ⟨_, List.getElem?_eq_getElem (by have := hHn.out; omega)⟩
      obtain ⟨ad, rfl, cx⟩ := rd_cells hrd.out hL.out hx
      have hxl := UInt8.toNat_lt x
      obtain ⟨xn, hxn⟩ : ∃ y, x.toNat = y := ⟨_, rfl⟩
      rw [hxn] at cx hxl
      have d1 := digit_ix (xn / 16) ((xn : Int) / 16) (by omega) (by omega) .u8
      have d2 := digit_ix (xn % 16) ((xn : Int) % 16) (by omega) (by omega) .u8
      have hHx := Lib.hid hx
      clear hx
      have hxs := Lib.hid (show hexT (b.take (i + 1)) = hexT (b.take i) ++ [sgn (xn / 16)] ++ [sgn (xn % 16)] by
        rw [List.take_add_one, hHx.out, Option.toList_some, hexT_snoc, hxn, List.append_assoc]; rfl)
      have hlen : (hexT (b.take i)).length ≤ 2 * 1048576 := by rw [hexT_len, List.length_take]; omega
      have hsz := hL.out.size
      have hW1 := Lib.hid (bld_WriteByte w.heap.size w.heap.size (hexT (b.take i)) (sgn (xn / 16)) wr hB.out (by omega) hsz)
      have hW2 := Lib.hid (fun V (hV : IsB w.heap.size w.heap.size (hexT (b.take i) ++ [sgn (xn / 16)]) V) (hs : w.heap.size ≤ V.heap.size) => bld_WriteByte w.heap.size w.heap.size (hexT (b.take i) ++ [sgn (xn / 16)]) (sgn (xn % 16)) V hV (by rw [List.length_append]; simp; omega) hs)
      clear hB hZ hxn hlen
      go_wp2_with fail
      refine hW1.out.mono ?_
      rintro e w5 ⟨rfl, hB5, hb5⟩
      have hB5' := Lib.hid (show IsB w.heap.size w.heap.size (hexT (b.take i) ++ [sgn (xn / 16)]) w5 from .inr hB5)
      have hL5 := Lib.hid (hL.out.trans hb5)
      clear hB5 hW1
      go_wp2_with fail
      refine (hW2.out w5 hB5'.out hL5.out.size).mono ?_
      rintro e w6 ⟨rfl, hB6, hb6⟩
      have hB6' := Lib.hid (show IsB w.heap.size w.heap.size (hexT (b.take i) ++ [sgn (xn / 16)] ++ [sgn (xn % 16)]) w6 from .inr hB6)
      have hL6 := Lib.hid (hL5.out.trans hb6)
      clear hB6 hW2 hb6 hB5' hL5 hb5 hL
      go_wp2_with fail
      go_roundw
      case rel => exact ⟨i + 1, rfl, by omega, Lib.hid (by rw [hxs.out]; exact hB6'.out), Lib.hid (fun h => absurd h (by omega)), hL6⟩
      case measure => simp [intOf]; omega
    · have e1 : decide ((i : Int) < (n : Int)) = false := by simp; omega
      have hfull : b.take i = b := List.take_of_length_le (by have := hHn.out; omega)
      rw [hfull] at hB
      by_cases h0 : n = 0
      · have hb0 : b = [] := List.eq_nil_of_length_eq_zero (by have := hHn.out; omega)
        subst hb0
        have hS := Lib.hid (bld_String0 w.heap.size w.heap.size _ wr (hZ.out (by omega)))
        clear hB hZ
        go_wp2_with fail
        refine hS.out.mono ?_
        rintro e w5 ⟨rfl, hb5⟩
        have hfin := Lib.hid (hL.out.trans hb5)
        go_wp2
        go_ret
        exact ⟨rfl, hfin.out⟩
      · have hS := Lib.hid (bld_String w.heap.size w.heap.size (hexT b) wr hB.out (fun e => by have := congrArg List.length e; rw [hexT_len] at this; have h9 : 2 * b.length = 0 := this; have := hHn.out; omega))
        clear hB hZ
        go_wp2_with fail
        refine hS.out.mono ?_
        rintro e w5 ⟨rfl, hb5⟩
        have hfin := Lib.hid (hL.out.trans hb5)
        go_wp2
        go_ret
        exact ⟨rfl, hfin.out⟩
theorem conv_1 (x : UInt8) (W : World) : (convert 25 9 (.slice (some ⟨W.heap.size, 0, none⟩) 1 1)).run Try.prog (W.alloc (.cells #[.int .u8 (x.toNat : Nat)] 5)) = .ok (strW [x]) (W.alloc (.cells #[.int .u8 (x.toNat : Nat)] 5)) := by
  have h := conv_rd1 (one_new (w := W) (UInt8.toNat_lt x))
  rw [UInt8.ofNat_toNat] at h
  exact h
theorem sgn_lo {d : Nat} (h : d < 10) : (sgn d).toNat = 48 + d := by unfold sgn; rw [if_pos h, UInt8.toNat_ofNat']; omega
theorem sgn_hi {d : Nat} (h : ¬ d < 10) (h2 : d < 16) : (sgn d).toNat = 87 + d := by unfold sgn; rw [if_neg h, UInt8.toNat_ofNat']; omega
attribute [local go_sem] bs_app
theorem ref_HexText (A : Option Addr) (b : List UInt8) (n c : Nat) (w : World) (hb : Rd w w.heap.size A (bytesV b)) (hn : b.length = n) (hnm : n ≤ 1048576) :
    Calls Try.prog 17 #[.slice A n c] w fun e w' => e = .returned (strW (hexT b)) ∧ Below w.heap.size w w' := by
  have hrd := Lib.hid hb
  have hHn := Lib.hid hn
  clear hb hn
  go_enter Try.func17, Try.ntmps17
  go_wp2_with fail
  go_loopw [3, 10] (fun vs vi wr => ∃ (i : Nat), vi = .int .i64 (i : Nat) ∧ i ≤ n ∧ vs = strW (hexT (b.take i)) ∧ Hid (Below w.heap.size w wr)) (fun _ vi _ => n - (intOf vi).toNat)
  case atStart => exact ⟨0, rfl, by omega, rfl, Lib.hid (Below.refl _ _)⟩
  case round =>
    obtain ⟨i, rfl, hi, rfl, hL⟩ := hrel
    by_cases hc : i < n
    · have e1 : decide ((i : Int) < (n : Int)) = true := by simp; omega
      have z1 : (0 : Int) ≤ (i : Int) := by omega
      have z2 : (i : Int) < (n : Int) := by omega
      have w3 : IntKind.i64.wrap ((i : Int) + 1) = (i : Int) + 1 := by rw [IntKind.wrap_i64]; omega
      obtain ⟨x, hx⟩ : ∃ x, b[i]? = some x := ⟨_, List.getElem?_eq_getElem (by have := hHn.out; omega)⟩
      obtain ⟨ad, rfl, cx⟩ := rd_cells hrd.out hL.out hx
      have hxl := UInt8.toNat_lt x
      obtain ⟨xn, hxn⟩ : ∃ y, x.toNat = y := ⟨_, rfl⟩
      rw [hxn] at cx hxl
      have hxs := Lib.hid (show hexT (b.take (i + 1)) = hexT (b.take i) ++ [sgn (xn / 16)] ++ [sgn (xn % 16)] by
        rw [List.take_add_one, hx, Option.toList_some, hexT_snoc, hxn, List.append_assoc]; rfl)
      have hlen : (hexT (b.take i)).length ≤ 2 * 1048576 := by rw [hexT_len, List.length_take]; omega
      clear hx hxn
      generalize hexT (b.take i) = s at *
      go_wp2_with fail
      have hL1 := Lib.hid (below_step (below_alloc wr (Obj.cells #[Value.int IntKind.u8 ((xn : Int) / 16), Value.int IntKind.u8 ((xn : Int) % 16)] 5)) hL.out (Nat.le_refl _))
      have hc0 := Lib.hid (show (wr.alloc (Obj.cells #[Value.int IntKind.u8 ((xn : Int) / 16), Value.int IntKind.u8 ((xn : Int) % 16)] 5)).cell? ⟨wr.heap.size, 0, none⟩ = some (.int .u8 ((xn : Int) / 16)) by simp [go_sem])
      have hc1 := Lib.hid (show (wr.alloc (Obj.cells #[Value.int IntKind.u8 ((xn : Int) / 16), Value.int IntKind.u8 ((xn : Int) % 16)] 5)).cell? ⟨wr.heap.size, 1, none⟩ = some (.int .u8 ((xn : Int) % 16)) by simp [go_sem])
      have hsz1 : wr.heap.size < (wr.alloc (Obj.cells #[Value.int IntKind.u8 ((xn : Int) / 16), Value.int IntKind.u8 ((xn : Int) % 16)] 5)).heap.size := by simp
      obtain ⟨q, hq⟩ : ∃ q, xn / 16 = q := ⟨_, rfl⟩
      obtain ⟨r, hr⟩ : ∃ r, xn % 16 = r := ⟨_, rfl⟩
      have hqi : (xn : Int) / 16 = (q : Int) := by omega
      have hri : (xn : Int) % 16 = (r : Int) := by omega
      have hq16 : q < 16 := by omega
      have hr16 : r < 16 := by omega
      rw [hq, hr] at hxs
      generalize wr.alloc (Obj.cells #[Value.int IntKind.u8 ((xn : Int) / 16), Value.int IntKind.u8 ((xn : Int) % 16)] 5) = W1 at *
      generalize wr.heap.size = g0 at *
      rw [hqi] at hc0
      rw [hri] at hc1
      clear hL cx hq hr hqi hri
      go_loopw [3, 20] (fun vs vj wi => ∃ (j : Nat), vj = .int .i64 (j : Nat) ∧ j ≤ 2 ∧ vs = strW (s ++ [sgn q, sgn r].take j) ∧ g0 < wi.heap.size ∧ Hid (Below w.heap.size w wi) ∧ Hid (wi.cell? ⟨g0, 0, none⟩ = some (.int .u8 (q : Nat))) ∧ Hid (wi.cell? ⟨g0, 1, none⟩ = some (.int .u8 (r : Nat)))) (fun _ vj _ => 2 - (intOf vj).toNat)
      case atStart => exact ⟨0, rfl, by omega, by simp, hsz1, hL1, hc0, hc1⟩
      case round =>
        obtain ⟨j, rfl, hj, rfl, hgs, hLi, hq0, hr0⟩ := hrel
        clear hL1 hc0 hc1 hsz1
        by_cases hj2 : j < 2
        · obtain ⟨y, hy16, hyc, hys⟩ : ∃ y, y < 16 ∧ wr.cell? ⟨g0, j, none⟩ = some (.int .u8 (y : Nat)) ∧ [sgn q, sgn r].take (j + 1) = [sgn q, sgn r].take j ++ [sgn y] := by
            match j, hj2 with
            | 0, _ => exact ⟨q, hq16, hq0.out, rfl⟩
            | 1, _ => exact ⟨r, hr16, hr0.out, rfl⟩
          have f1 : decide ((j : Int) < (2 : Int)) = true := by simp; omega
          have y1 : (0 : Int) ≤ (j : Int) := by omega
          have y2 : (j : Int) < 2 := by omega
          have w4 : IntKind.i64.wrap ((j : Int) + 1) = (j : Int) + 1 := by rw [IntKind.wrap_i64]; omega
          have hHs := Lib.hid hys
          have hs2 : (s ++ [sgn q, sgn r].take j).length ≤ 2 * 1048576 + 2 := by rw [List.length_append, List.length_take]; simp; omega
          have hnl : ¬9223372036854775807 < (s ++ [sgn q, sgn r].take j).length + 1 := by omega
          rw [List.length_append] at hnl
          clear hys hj2
          by_cases h10 : y < 10
          · have f2 : decide ((y : Int) < (10 : Int)) = true := by simp; omega
            have w5 : IntKind.u8.wrap ((48 : Int) + (y : Int)) = (48 : Int) + (y : Int) := by rw [IntKind.wrap_u8]; omega
            have hcv := conv_1 (sgn y) wr
            rw [sgn_lo h10] at hcv
            push_cast at hcv
            have hst := fun V : World => below_alloc V (Obj.cells #[Value.int IntKind.u8 ((48 : Int) + (y : Int))] 5)
            have hLn := Lib.hid (below_step (hst wr) hLi.out (Nat.le_refl _))
            have hqn := Lib.hid (((hst wr).cell (p := ⟨g0, 0, none⟩) hgs).trans hq0.out)
            have hrn := Lib.hid (((hst wr).cell (p := ⟨g0, 1, none⟩) hgs).trans hr0.out)
            have hgn := Nat.lt_of_lt_of_le hgs (hst wr).size
            clear hst hLi hq0 hr0
            go_wp2_with fail
            go_roundw
            case rel => exact ⟨j + 1, rfl, by omega, by rw [hHs.out], hgn, hLn, hqn, hrn⟩
            case measure => simp [intOf]; omega
          · have f2 : decide ((y : Int) < (10 : Int)) = false := by simp; omega
            have w5 : IntKind.u8.wrap ((97 : Int) + (y : Int)) = (97 : Int) + (y : Int) := by rw [IntKind.wrap_u8]; omega
            have w6 : IntKind.u8.wrap ((97 : Int) + (y : Int) - 10) = (97 : Int) + (y : Int) - 10 := by rw [IntKind.wrap_u8]; omega
            have hcv := conv_1 (sgn y) wr
            rw [sgn_hi h10 hy16, show (((87 + y : Nat)) : Int) = (97 : Int) + (y : Int) - 10 by omega] at hcv
            have hst := fun V : World => below_alloc V (Obj.cells #[Value.int IntKind.u8 ((97 : Int) + (y : Int) - 10)] 5)
            have hLn := Lib.hid (below_step (hst wr) hLi.out (Nat.le_refl _))
            have hqn := Lib.hid (((hst wr).cell (p := ⟨g0, 0, none⟩) hgs).trans hq0.out)
            have hrn := Lib.hid (((hst wr).cell (p := ⟨g0, 1, none⟩) hgs).trans hr0.out)
            have hgn := Nat.lt_of_lt_of_le hgs (hst wr).size
            clear hst hLi hq0 hr0
            go_wp2_with fail
            go_roundw
            case rel => exact ⟨j + 1, rfl, by omega, by rw [hHs.out], hgn, hLn, hqn, hrn⟩
            case measure => simp [intOf]; omega
        · have f1 : decide ((j : Int) < (2 : Int)) = false := by simp; omega
          obtain rfl : j = 2 := by omega
          have hs9 : s ++ [sgn q, sgn r].take 2 = s ++ [sgn q] ++ [sgn r] := by simp
          rw [hs9, ← hxs.out]
          rw [show ((2 : Nat) : Int) = (2 : Int) from rfl] at *
          go_wp2_with fail
          go_roundw
          case rel => exact ⟨i + 1, rfl, by omega, rfl, hLi⟩
          case measure => simp [intOf]; omega
    · have e1 : decide ((i : Int) < (n : Int)) = false := by simp; omega
      have hfull : b.take i = b := List.take_of_length_le (by have := hHn.out; omega)
      rw [hfull]
      go_wp2
      go_ret
      exact ⟨rfl, hL.out⟩
end Go.Proofs.Ytjihklaocgmlpaa
