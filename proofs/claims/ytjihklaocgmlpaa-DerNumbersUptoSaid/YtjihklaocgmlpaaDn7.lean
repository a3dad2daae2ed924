/- Contracts: a sign's digit, both ways. -/
import Derived.Test.YtjihklaocgmlpaaDnP
import Derived.Test.YtjihklaocgmlpaaSl
import Derived.Lib.Bytealg
import Derived.Lib.Strings
namespace Go.Proofs.Ytjihklaocgmlpaa
open Go Go.ChangeShapes Go.WideShapes Go.ChangeAt Go.RowKit
set_option maxHeartbeats 2000000
set_option maxRecDepth 100000
theorem idx_dgt (c : UInt8) : Lib.indexByte [48, 49, 50, 51, 52, 53, 54, 55, 56, 57, 97, 98, 99, 100, 101, 102] c = dgt c := by
  have h : ∀ k < 256, Lib.indexByte [48, 49, 50, 51, 52, 53, 54, 55, 56, 57, 97, 98, 99, 100, 101, 102] (UInt8.ofNat k) = dgt (UInt8.ofNat k) := of_decide_eq_true (by kernel_rfl)
  have := h c.toNat (UInt8.toNat_lt c)
  rwa [UInt8.ofNat_toNat] at this
theorem lite_IndexByte (s : ByteArray) (c : UInt8) (w : World) :
    Calls Try.prog 97 #[.string s, .int .u8 (c.toNat : Nat)] w fun e w' => e = .returned (.int .i64 (Lib.indexByte s.data.toList c)) ∧ w' = w := by
  have hc : ((c.toNat : Nat) : Int).toNat.toUInt8 = c := by simp
  go_enter Try.func97, Try.ntmps97
  go_wp2
  rw [run_callFunc_extern Try.func105 (by kernel_rfl) (by kernel_rfl) (by kernel_rfl) (e := Extern.BytealgIndexByte.indexByte) (by kernel_rfl), Lib.run_indexByteString, hc]
  simp only [Result.andThen]
  rw [Oper.upon_value]
  go_wp2
  go_ret
  exact ⟨rfl, rfl⟩
theorem hex_IndexByte (c : UInt8) (w : World) :
    Calls Try.prog 58 #[.string { data := #[48, 49, 50, 51, 52, 53, 54, 55, 56, 57, 97, 98, 99, 100, 101, 102] }, .int .u8 (c.toNat : Nat)] w fun e w' => e = .returned (.int .i64 (dgt c)) ∧ w' = w := by
  rw [← idx_dgt c]
  have h := Lib.hid (lite_IndexByte { data := #[48, 49, 50, 51, 52, 53, 54, 55, 56, 57, 97, 98, 99, 100, 101, 102] } c w)
  go_enter Try.func58, Try.ntmps58
  go_wp2_with fail
  refine (h.out).mono ?_
  rintro e w1 ⟨rfl, rfl⟩
  clear h
  go_wp2
  go_ret
  exact ⟨rfl, rfl⟩
theorem ref_hexDigit (c : UInt8) (w : World) :
    Calls Try.prog 59 #[.int .u8 (c.toNat : Nat)] w fun e w' => e = .returned (.int .i64 (dgt c)) ∧ w' = w := by
  have hcl := UInt8.toNat_lt c
  obtain ⟨k, hk⟩ : ∃ k, c.toNat = k := ⟨_, rfl⟩
  have hd : dgt c = if 48 ≤ k ∧ k ≤ 57 then (k : Int) - 48 else if 97 ≤ k ∧ k ≤ 102 then (k : Int) - 87 else -1 := by unfold dgt; rw [hk]
  rw [hk] at hcl ⊢
  have hkb : k < 256 := hcl
  obtain ⟨r, hr⟩ : ∃ r, dgt c = r := ⟨_, rfl⟩
  rw [hr] at hd ⊢
  have hHd := Lib.hid hd
  clear hd hr hk hcl
  go_enter Try.func59, Try.ntmps59
  by_cases h1 : 48 ≤ k
  · have d1 : decide ((48 : Int) ≤ (k : Int)) = true := by simp; omega
    by_cases h2 : k ≤ 57
    · have d2 : decide ((k : Int) ≤ (57 : Int)) = true := by simp; omega
      have w1 : IntKind.u8.wrap ((k : Int) - 48) = (k : Int) - 48 := by rw [IntKind.wrap_u8]; omega
      have w2 : IntKind.i64.wrap ((k : Int) - 48) = (k : Int) - 48 := by rw [IntKind.wrap_i64]; omega
      obtain rfl : r = (k : Int) - 48 := by rw [hHd.out, if_pos ⟨h1, h2⟩]
      clear h1 h2 hHd
      go_wp2
      go_ret
      exact ⟨rfl, rfl⟩
    · have d2 : decide ((k : Int) ≤ (57 : Int)) = false := by simp; omega
      by_cases h3 : 97 ≤ k
      · have d3 : decide ((97 : Int) ≤ (k : Int)) = true := by simp; omega
        by_cases h4 : k ≤ 102
        · have d4 : decide ((k : Int) ≤ (102 : Int)) = true := by simp; omega
          have w1 : IntKind.u8.wrap ((k : Int) - 97) = (k : Int) - 97 := by rw [IntKind.wrap_u8]; omega
          have w2 : IntKind.i64.wrap ((k : Int) - 97) = (k : Int) - 97 := by rw [IntKind.wrap_i64]; omega
          have w3 : IntKind.i64.wrap ((k : Int) - 97 + 10) = (k : Int) - 87 := by rw [IntKind.wrap_i64]; omega
          obtain rfl : r = (k : Int) - 87 := by rw [hHd.out, if_neg (by omega), if_pos ⟨h3, h4⟩]
          clear h1 h2 h3 h4 hHd
          go_wp2
          go_ret
          exact ⟨rfl, rfl⟩
        · have d4 : decide ((k : Int) ≤ (102 : Int)) = false := by simp; omega
          obtain rfl : r = -1 := by rw [hHd.out, if_neg (by omega), if_neg (by omega)]
          clear h1 h2 h3 h4 hHd
          go_wp2
          go_ret
          exact ⟨rfl, rfl⟩
      · have d3 : decide ((97 : Int) ≤ (k : Int)) = false := by simp; omega
        obtain rfl : r = -1 := by rw [hHd.out, if_neg (by omega), if_neg (by omega)]
        clear h1 h2 h3 hHd
        go_wp2
        go_ret
        exact ⟨rfl, rfl⟩
  · have d1 : decide ((48 : Int) ≤ (k : Int)) = false := by simp; omega
    have d3 : decide ((97 : Int) ≤ (k : Int)) = false := by simp; omega
    obtain rfl : r = -1 := by rw [hHd.out, if_neg (by omega), if_neg (by omega)]
    clear h1 hHd
    go_wp2
    go_ret
    exact ⟨rfl, rfl⟩
end Go.Proofs.Ytjihklaocgmlpaa
