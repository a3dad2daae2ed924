/- Contracts of package mac's Sum and Same, of bytes.Equal, and of the document's Mark. -/
import Derived.Test.YtdlmamnnamlleaaDoorMac3
import Derived.Test.YtdlmamnnamlleaaDoorApp
import Derived.Deep.QuietTactic
import Derived.BigQuiet
namespace Go.Proofs.YtdlmamnnamlleaaDoor
open Go.ChangeShapes Go.WideShapes Go.ChangeAt Go.RowKit
set_option maxHeartbeats 1000000
set_option maxRecDepth 100000
attribute [local irreducible] arrV dgA sha macA macZ b64A
attribute [local go_sem ↓] load_mac store_mac load_b64 store_b64 load_o32 store_o32
attribute [local go_sem] isHead_mk isPart_mk offOf_mk blkOf_mk isAgg_mk cellsV_mk row_drew rowAt_drew row_new_cells row_old rowAt_new rowAt_old zero_mac zero_cellsM zeroQ zeroD bs_app
theorem mac_Same (A : Option Addr) (p : List UInt8) (c : Nat) (B : Option Addr) (q : List UInt8) (d : Nat) (w : World) (hp : Bs w A p c) (hq : Bs w B q d) :
    Calls Tryd.prog 58 #[.slice A p.length c, .slice B q.length d] w fun e w' => e = .returned (.bool (decide (p = q))) ∧ Below w.heap.size w w' := by
  have hpm := hp.le
  have hqm := hq.le
  have hpx := hp.mx
  have hqx := hq.mx
  have x0 := i64_xor_nat p.length q.length (by omega) (by omega)
  have hDl : p.length ^^^ q.length < 9223372036854775808 := Nat.xor_lt_two_pow (n := 63) (by omega) (by omega)
  have hD0 := Lib.hid (show p.length ^^^ q.length = 0 ↔ p.length = q.length from xor_zero_iff)
  have hb0 : Below w.heap.size w w := Below.refl _ _
  have hHp := Lib.hid hp
  have hHq := Lib.hid hq
  clear hp hq
  generalize p.length ^^^ q.length = D0 at *
  go_enter Tryd.func58, Tryd.ntmps58
  go_wp2
  · have hm1 : q.length ≤ p.length := by omega
    have hm2 : q.length ≤ q.length := by omega
    have hmm : q.length = p.length ∨ q.length = q.length := by omega
    obtain ⟨m, hme⟩ : ∃ m, m = q.length := ⟨_, rfl⟩
    have hn1 : m ≤ p.length := by omega
    have hn2 : m ≤ q.length := by omega
    have hnn : m = p.length ∨ m = q.length := by omega
    rw [← hme]
    clear hme hm1 hm2 hmm
    go_loopw [5, 6, 17] (fun v5 _ i wr => ∃ k D : Nat, i = .int .i64 k ∧ k ≤ m ∧ v5 = .int .i64 D ∧ D < 9223372036854775808 ∧ Hid (D = 0 ↔ (p.length = q.length ∧ p.take k = q.take k)) ∧ Below w.heap.size w wr) (fun _ _ i _ => m - (intOf i).toNat)
    case atStart => exact ⟨0, D0, rfl, by omega, rfl, hDl, Lib.hid (by rw [hD0.out]; simp), hb0⟩
    case round =>
      clear hb0 hDl hD0
      obtain ⟨k, D, rfl, hk, rfl, hD, hHD, hL⟩ := hrel
      by_cases hkm : k = m
      · subst hkm
        have hfin := Lib.hid (show ((D : Int) == 0) = decide (p = q) by
          have h1 := hHD.out
          by_cases h : p = q
          · subst h
            rw [decide_eq_true rfl, beq_iff_eq]
            have := h1.2 ⟨rfl, rfl⟩
            omega
          · rw [decide_eq_false h, beq_eq_false_iff_ne]
            intro h0
            obtain ⟨h2, h3⟩ := h1.1 (by omega)
            rw [List.take_of_length_le (by omega), List.take_of_length_le (by omega)] at h3
            exact h h3)
        go_wp2
        go_ret
        exact ⟨ret_bool hfin.out, hL⟩
      · have hkp : k < p.length := by omega
        have hkq : k < q.length := by omega
        obtain ⟨ad, rfl, -, c1⟩ := ((hHp.out.step hL).rd).at_ (k := k) (by rw [bytesV_length]; exact hkp)
        obtain ⟨bd, rfl, -, c2⟩ := ((hHq.out.step hL).rd).at_ (k := k) (by rw [bytesV_length]; exact hkq)
        have e1 : (bytesV p)[k]'(by rw [bytesV_length]; exact hkp) = .int .u8 (p[k].toNat : Int) := by simp [bytesV]
        have e2 : (bytesV q)[k]'(by rw [bytesV_length]; exact hkq) = .int .u8 (q[k].toNat : Int) := by simp [bytesV]
        rw [e1] at c1
        rw [e2] at c2
        have hx := UInt8.toNat_lt p[k]
        have hy := UInt8.toNat_lt q[k]
        have hst := Lib.hid (show D ||| (p[k].toNat ^^^ q[k].toNat) = 0 ↔ (p.length = q.length ∧ p.take (k + 1) = q.take (k + 1)) by
          rw [or_zero_iff, xor_zero_iff, hHD.out, List.take_succ_eq_append_getElem hkp, List.take_succ_eq_append_getElem hkq]
          constructor
          · rintro ⟨⟨h1, h2⟩, h3⟩
            exact ⟨h1, by rw [h2, UInt8.toNat_inj.1 h3]⟩
          · rintro ⟨h1, h2⟩
            have := List.append_inj' h2 rfl
            exact ⟨⟨h1, this.1⟩, congrArg UInt8.toNat (by simpa using this.2)⟩)
        clear e1 e2 hHD
        generalize p[k].toNat = x at *
        generalize q[k].toNat = y at *
        have hxy : x ^^^ y < 256 := Nat.xor_lt_two_pow (n := 8) hx hy
        have y1 := u8_xor_nat x y hx hy
        have y2 := i64_or_nat D (x ^^^ y) hD (by omega)
        have hor : D ||| (x ^^^ y) < 9223372036854775808 := Nat.or_lt_two_pow (n := 63) hD (by omega)
        generalize x ^^^ y = z at *
        have y3 : IntKind.i64.wrap (z : Int) = (z : Int) := by rw [IntKind.wrap_i64]; omega
        generalize D ||| z = D2 at *
        have z1 : (0 : Int) ≤ (k : Int) := by omega
        have z2 : (k : Int) < (p.length : Int) := by omega
        have z3 : (k : Int) < (q.length : Int) := by omega
        have z4 : (k : Int) < (m : Int) := by omega
        go_wp2
        go_quiet (fail)
        go_wp2
        go_round
        case rel => exact ⟨k + 1, D2, by go_num, by omega, rfl, hor, hst, below_drewN hL nq⟩
        case measure => simp [intOf]; omega
  · have hm1 : p.length ≤ p.length := by omega
    have hm2 : p.length ≤ q.length := by omega
    have hmm : p.length = p.length ∨ p.length = q.length := by omega
    obtain ⟨m, hme⟩ : ∃ m, m = p.length := ⟨_, rfl⟩
    have hn1 : m ≤ p.length := by omega
    have hn2 : m ≤ q.length := by omega
    have hnn : m = p.length ∨ m = q.length := by omega
    rw [← hme]
    clear hme hm1 hm2 hmm
    go_loopw [5, 6, 17] (fun v5 _ i wr => ∃ k D : Nat, i = .int .i64 k ∧ k ≤ m ∧ v5 = .int .i64 D ∧ D < 9223372036854775808 ∧ Hid (D = 0 ↔ (p.length = q.length ∧ p.take k = q.take k)) ∧ Below w.heap.size w wr) (fun _ _ i _ => m - (intOf i).toNat)
    case atStart => exact ⟨0, D0, rfl, by omega, rfl, hDl, Lib.hid (by rw [hD0.out]; simp), hb0⟩
    case round =>
      clear hb0 hDl hD0
      obtain ⟨k, D, rfl, hk, rfl, hD, hHD, hL⟩ := hrel
      by_cases hkm : k = m
      · subst hkm
        have hfin := Lib.hid (show ((D : Int) == 0) = decide (p = q) by
          have h1 := hHD.out
          by_cases h : p = q
          · subst h
            rw [decide_eq_true rfl, beq_iff_eq]
            have := h1.2 ⟨rfl, rfl⟩
            omega
          · rw [decide_eq_false h, beq_eq_false_iff_ne]
            intro h0
            obtain ⟨h2, h3⟩ := h1.1 (by omega)
            rw [List.take_of_length_le (by omega), List.take_of_length_le (by omega)] at h3
            exact h h3)
        go_wp2
        go_ret
        exact ⟨ret_bool hfin.out, hL⟩
      · have hkp : k < p.length := by omega
        have hkq : k < q.length := by omega
        obtain ⟨ad, rfl, -, c1⟩ := ((hHp.out.step hL).rd).at_ (k := k) (by rw [bytesV_length]; exact hkp)
        obtain ⟨bd, rfl, -, c2⟩ := ((hHq.out.step hL).rd).at_ (k := k) (by rw [bytesV_length]; exact hkq)
        have e1 : (bytesV p)[k]'(by rw [bytesV_length]; exact hkp) = .int .u8 (p[k].toNat : Int) := by simp [bytesV]
        have e2 : (bytesV q)[k]'(by rw [bytesV_length]; exact hkq) = .int .u8 (q[k].toNat : Int) := by simp [bytesV]
        rw [e1] at c1
        rw [e2] at c2
        have hx := UInt8.toNat_lt p[k]
        have hy := UInt8.toNat_lt q[k]
        have hst := Lib.hid (show D ||| (p[k].toNat ^^^ q[k].toNat) = 0 ↔ (p.length = q.length ∧ p.take (k + 1) = q.take (k + 1)) by
          rw [or_zero_iff, xor_zero_iff, hHD.out, List.take_succ_eq_append_getElem hkp, List.take_succ_eq_append_getElem hkq]
          constructor
          · rintro ⟨⟨h1, h2⟩, h3⟩
            exact ⟨h1, by rw [h2, UInt8.toNat_inj.1 h3]⟩
          · rintro ⟨h1, h2⟩
            have := List.append_inj' h2 rfl
            exact ⟨⟨h1, this.1⟩, congrArg UInt8.toNat (by simpa using this.2)⟩)
        clear e1 e2 hHD
        generalize p[k].toNat = x at *
        generalize q[k].toNat = y at *
        have hxy : x ^^^ y < 256 := Nat.xor_lt_two_pow (n := 8) hx hy
        have y1 := u8_xor_nat x y hx hy
        have y2 := i64_or_nat D (x ^^^ y) hD (by omega)
        have hor : D ||| (x ^^^ y) < 9223372036854775808 := Nat.or_lt_two_pow (n := 63) hD (by omega)
        generalize x ^^^ y = z at *
        have y3 : IntKind.i64.wrap (z : Int) = (z : Int) := by rw [IntKind.wrap_i64]; omega
        generalize D ||| z = D2 at *
        have z1 : (0 : Int) ≤ (k : Int) := by omega
        have z2 : (k : Int) < (p.length : Int) := by omega
        have z3 : (k : Int) < (q.length : Int) := by omega
        have z4 : (k : Int) < (m : Int) := by omega
        go_wp2
        go_quiet (fail)
        go_wp2
        go_round
        case rel => exact ⟨k + 1, D2, by go_num, by omega, rfl, hor, hst, below_drewN hL nq⟩
        case measure => simp [intOf]; omega
end Go.Proofs.YtdlmamnnamlleaaDoor
