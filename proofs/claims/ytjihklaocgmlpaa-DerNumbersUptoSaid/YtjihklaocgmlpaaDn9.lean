/- Contract of the document's ReadHex. -/
import Derived.Test.YtjihklaocgmlpaaDn8
namespace Go.Proofs.Ytjihklaocgmlpaa
open Go Go.ChangeShapes Go.WideShapes Go.ChangeAt Go.RowKit
set_option maxHeartbeats 2000000
set_option maxRecDepth 100000
attribute [local go_sem] bs_app
def HexTxt (s : List UInt8) (e : Ending) : Prop :=
  (HexOk s ∧ e = .returned (.tuple #[strW (prH s (s.length / 2)), .int .i64 0])) ∨ (¬ HexOk s ∧ e = .returned (.tuple #[strW [], .int .i64 4]))
theorem ref_ReadHex (s : List UInt8) (n : Nat) (w : World) (hn : s.length = n) (hnm : n ≤ 1048576) :
    Calls Try.prog 13 #[strW s] w fun e w' => HexTxt s e ∧ Below w.heap.size w w' := by
  have hHn := Lib.hid hn
  go_enter Try.func13, Try.ntmps13
  go_wp2_with fail
  go_loopw [4, 5] (fun vo vi wr => ∃ (i : Nat), vi = .int .i64 (i : Nat) ∧ i ≤ n ∧ vo = strW (prH s (i / 2)) ∧ Hid (i = 0 ∨ n % 2 = 0) ∧ Hid (∀ j < i, 0 ≤ dgt (s[j]?.getD 0)) ∧ Hid (Below w.heap.size w wr)) (fun _ vi _ => n - (intOf vi).toNat)
  case atStart => exact ⟨0, rfl, by omega, rfl, Lib.hid (.inl rfl), Lib.hid (fun j hj => absurd hj (by omega)), Lib.hid (Below.refl _ _)⟩
  case round =>
    obtain ⟨i, rfl, hi, rfl, hev, hok, hL⟩ := hrel
    by_cases hc : i < n
    · have e1 : decide ((i : Int) < (n : Int)) = true := by simp; omega
      obtain ⟨cb, hcb⟩ : ∃ x, s[i]? = some x := ⟨_, List.getElem?_eq_getElem (by have := hHn.out; omega)⟩
      have hix0 := sidx s i i rfl (by omega)
      rw [hcb, Option.getD_some] at hix0
      have w1 : IntKind.i64.wrap ((i : Int) + 1) = (i : Int) + 1 := by rw [IntKind.wrap_i64]; omega
      have hD := Lib.hid (ref_hexDigit cb wr)
      have hdl := dgt_lt cb
      have hsd : dgt (s[i]?.getD 0) = dgt cb := by rw [hcb]; rfl
      obtain ⟨d, hd⟩ : ∃ d, dgt cb = d := ⟨_, rfl⟩
      rw [hd] at hD hdl hsd
      have hHd := Lib.hid hsd
      clear hcb hd hsd
      go_wp2_with fail
      refine hD.out.mono ?_
      rintro e w5 ⟨rfl, rfl⟩
      clear hD
      by_cases hneg : d < 0
      · have d1 : decide (d < (0 : Int)) = true := by simpa using hneg
        have hNo := Lib.hid (show ¬ HexOk s from fun h => by
          have k1 := h.2 i (by have := hHn.out; omega)
          rw [hHd.out] at k1
          omega)
        clear hneg
        go_wp2_with fail
        go_ret2
        exact ⟨.inr ⟨hNo.out, rfl⟩, hL.out⟩
      have d1 : decide (d < (0 : Int)) = false := by simpa using hneg
      by_cases hodd : n % 2 = 1
      · have q1 : Int.tmod (n : Int) 2 = 1 := by rw [Int.tmod_eq_emod_of_nonneg (by omega)]; omega
        have hNo := Lib.hid (show ¬ HexOk s from fun h => by have k1 := h.1; have := hHn.out; omega)
        clear hneg
        go_wp2_with fail
        go_ret2
        exact ⟨.inr ⟨hNo.out, rfl⟩, hL.out⟩
      have q1 : Int.tmod (n : Int) 2 = 0 := by rw [Int.tmod_eq_emod_of_nonneg (by omega)]; omega
      have hev2 := Lib.hid (show (i + 1 = 0 ∨ n % 2 = 0) from .inr (by omega))
      have hok2 := Lib.hid (show ∀ j < i + 1, 0 ≤ dgt (s[j]?.getD 0) from fun j hj => by
        by_cases h1 : j < i
        · exact hok.out j h1
        · rw [show j = i by omega, hHd.out]; omega)
      by_cases hio : i % 2 = 1
      · have q2 : Int.tmod (i : Int) 2 = 1 := by rw [Int.tmod_eq_emod_of_nonneg (by omega)]; omega
        obtain ⟨t, ht⟩ : ∃ t, i = 2 * t + 1 := ⟨i / 2, by omega⟩
        have hHt := Lib.hid ht
        obtain ⟨ca, hca⟩ : ∃ x, s[2 * t]? = some x := ⟨_, List.getElem?_eq_getElem (by have := hHn.out; omega)⟩
        have w2 : IntKind.i64.wrap ((i : Int) - 1) = (i : Int) - 1 := by rw [IntKind.wrap_i64]; omega
        have hix1 := sidx s (2 * t) ((i : Int) - 1) (by omega) (by have := hHn.out; omega)
        rw [hca, Option.getD_some] at hix1
        have hD1 := Lib.hid (ref_hexDigit ca w5)
        have hsa : dgt (s[2 * t]?.getD 0) = dgt ca := by rw [hca]; rfl
        have hok3 : 0 ≤ dgt ca := by rw [← hsa]; exact hok.out (2 * t) (by omega)
        have hal := dgt_lt ca
        obtain ⟨a, ha⟩ : ∃ a, dgt ca = a := ⟨_, rfl⟩
        rw [ha] at hD1 hsa hok3 hal
        have hHa := Lib.hid hsa
        obtain ⟨x, rfl⟩ := Int.eq_ofNat_of_zero_le hok3
        obtain ⟨y, rfl⟩ := Int.eq_ofNat_of_zero_le (show 0 ≤ d by omega)
        obtain ⟨z, hz⟩ : ∃ z, x * 16 + y = z := ⟨_, rfl⟩
        have hz256 : z < 256 := by omega
        have w3 : IntKind.i64.wrap ((x : Int) * 16) = (x : Int) * 16 := by rw [IntKind.wrap_i64]; omega
        have w4 : IntKind.i64.wrap ((x : Int) * 16 + (y : Int)) = (z : Int) := by rw [IntKind.wrap_i64]; omega
        have w8 : IntKind.u8.wrap (z : Int) = (z : Int) := by rw [IntKind.wrap_u8]; omega
        have hzm : (z : Int) % 256 = (z : Int) := by omega
        have hnx := Lib.hid (show prH s ((i + 1) / 2) = prH s (i / 2) ++ [UInt8.ofNat z] by
          have h1 := hHt.out
          rw [show (i + 1) / 2 = t + 1 by omega, show i / 2 = t by omega, prH_succ, hHa.out, show 2 * t + 1 = i by omega, hHd.out, show ((x : Int) * 16 + (y : Int)).toNat = z by omega])
        have hpl := prH_len s (i / 2)
        generalize prH s (i / 2) = o at *
        have hnl : ¬9223372036854775807 < o.length + 1 := by omega
        clear ha hca hsa hz ht hneg hodd hio hok hev
        go_wp2_with fail
        refine hD1.out.mono ?_
        rintro e w6 ⟨rfl, rfl⟩
        have hcv := conv_rd1 (one_new (w := w6) hz256)
        have hLn := Lib.hid (below_step (below_alloc w6 (Obj.cells #[Value.int .u8 (z : Nat)] 5)) hL.out (Nat.le_refl _))
        clear hD1
        go_wp2_with fail
        go_roundw
        case rel => exact ⟨i + 1, rfl, by omega, by rw [hnx.out], hev2, hok2, hLn⟩
        case measure => simp [intOf]; omega
      · have q2 : Int.tmod (i : Int) 2 = 0 := by rw [Int.tmod_eq_emod_of_nonneg (by omega)]; omega
        have hsame : i / 2 = (i + 1) / 2 := by omega
        rw [hsame]
        clear hneg hodd hio hsame
        go_wp2_with fail
        go_roundw
        case rel => exact ⟨i + 1, rfl, by omega, rfl, hev2, hok2, hL⟩
        case measure => simp [intOf]; omega
    · have e1 : decide ((i : Int) < (n : Int)) = false := by simp; omega
      have hOk := Lib.hid (show HexOk s from ⟨by have := hHn.out; rcases hev.out with h | h <;> omega, fun j hj => hok.out j (by have := hHn.out; omega)⟩)
      have hlen := Lib.hid (show s.length / 2 = i / 2 by have := hHn.out; omega)
      clear hok hev
      go_wp2_with fail
      go_ret2
      exact ⟨.inl ⟨hOk.out, by rw [hlen.out]; rfl⟩, hL.out⟩
end Go.Proofs.Ytjihklaocgmlpaa
