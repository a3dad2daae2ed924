/- Contract of package hash's Pad. -/
import Derived.Test.YtdlmamnnamlleaaDoorShaN
namespace Go.Proofs.YtdlmamnnamlleaaDoor
open Go.ChangeShapes Go.WideShapes Go.ChangeAt Go.RowKit
set_option maxHeartbeats 2000000
set_option maxRecDepth 100000

theorem SB1 : SlT Tryd.prog 22 5 1 1 := SlT.mk' Tryd.underlying22 (by kernel_rfl) (by omega)
/-- What stands behind n bytes. -/
def padZ (n : Nat) : Nat := (119 - n % 64) % 64
def lenB (m k : Nat) : List UInt8 := (List.range k).map fun i => UInt8.ofNat (m / 2 ^ (56 - 8 * i))
def padL (n : Nat) : List UInt8 := 128 :: (List.replicate (padZ n) 0 ++ lenB (8 * n % 18446744073709551616) 8)
theorem padZ_lt (n : Nat) : padZ n < 64 := Nat.mod_lt _ (by omega)
theorem lenB_succ (m k : Nat) : lenB m (k + 1) = lenB m k ++ [UInt8.ofNat (m / 2 ^ (56 - 8 * k))] := by
  unfold lenB; rw [List.range_succ, List.map_append]; rfl
theorem lenB_length (m k : Nat) : (lenB m k).length = k := by simp [lenB]
theorem padL_length (n : Nat) : (padL n).length = padZ n + 9 := by simp [padL, lenB_length]
def lenV : Value → Nat
  | .slice _ n _ => n
  | _ => 0
/-- What is handed back: a slice that reads as l; what was there is as it was. -/
def RetB (l : List UInt8) (w : World) (e : Ending) (w' : World) : Prop := ∃ A c, e = .returned (.slice A l.length c) ∧ l.length ≤ c ∧ c ≤ 9223372036854775807 ∧ Rd w' w'.heap.size A (bytesV l) ∧ Below w.heap.size w w'
theorem shr_u8 (m s : Nat) : (m : Int) / 2 ^ s % 256 = ((UInt8.ofNat (m / 2 ^ s)).toNat : Int) := by
  rw [UInt8.toNat_ofNat']
  simp
theorem hash_Pad (n : Nat) (w : World) : Calls Tryd.prog 104 #[.int .u64 n] w (RetB (padL n) w) := by
  go_enter Tryd.func104, Tryd.ntmps104
  go_wp2
  have hO0 : Own w w.heap.size 5 (.slice (some ⟨w.heap.size, 0, none⟩) 1 1) (bytesV (128 :: List.replicate 0 0)) (w.alloc (Obj.cells #[Value.int .u8 128] 5)) :=
    ⟨World.ownsRow_lit w #[Value.int .u8 128] 1 (Nat.le_refl _) (by unfold maxLen; omega) rfl, (Below.refl _ _).alloc (Nat.le_refl _) _, by simp⟩
  generalize (w.alloc (Obj.cells #[Value.int .u8 128] 5)) = W0 at *
  go_loopw [3] (fun v wr => ∃ j : Nat, j ≤ padZ n ∧ Own w w.heap.size 5 v (bytesV (128 :: List.replicate j 0)) wr) (fun v _ => 64 - lenV v)
  case atStart => exact ⟨0, by omega, hO0⟩
  case round =>
    clear hO0
    obtain ⟨j, hj, hO⟩ := hrel
    have hz := padZ_lt n
    obtain ⟨A, c, rfl, hl, hm⟩ := hO.form
    have hlen : (bytesV (128 :: List.replicate j 0)).length = 1 + j := by simp [bytesV]; omega
    rw [hlen] at hO hl ⊢
    have hx : IntKind.u64.wrap ((n : Int) + (1 + (j : Int))) = ((n + (1 + j)) % 18446744073709551616 : Nat) := by rw [IntKind.wrap_u64]; omega
    obtain ⟨x, hxe⟩ : ∃ x, x = (n + (1 + j)) % 18446744073709551616 := ⟨_, rfl⟩
    rw [← hxe] at hx
    by_cases hjp : j < padZ n
    · have hb : (((x : Int) % 64) != 56) = true := by rw [bne_iff_ne]; unfold padZ at hjp hz; omega
      have hHx := Lib.hid hxe
      have hHl := Lib.hid hlen
      clear hxe hlen
      go_wp2_with (at_builtin; refine wpList_own1 (o := ⟨some 15, _, _, _, _, _⟩) rfl (.tmp 13) (.tmp 14) 22 rfl SB1 rfl hO (.int .u8 0) rfl rfl (by rw [hHl.out]; unfold maxLen; omega) (by rw [hHl.out]; omega) ?_; intro v1 w1 hO1 hg1 hat1; clear hg1 hat1)
      go_roundw
      case rel =>
        refine ⟨j + 1, by omega, ?_⟩
        rw [List.replicate_succ', ← List.cons_append, bytesV_append]
        exact hO1
      case measure =>
        obtain ⟨A2, c2, rfl, -, -⟩ := hO1.form
        simp only [lenV, List.length_append, hHl.out, List.length_singleton]
        omega
    · have hb : (((x : Int) % 64) != 56) = false := by rw [bne_eq_false_iff_eq]; unfold padZ at hjp hj hz; omega
      obtain rfl : j = padZ n := by omega
      have hHx := Lib.hid hxe
      have hHl := Lib.hid hlen
      clear hxe hlen
      obtain ⟨m, hm8⟩ : ∃ m, m = 8 * n % 18446744073709551616 := ⟨_, rfl⟩
      have hmw : IntKind.u64.wrap (8 * (n : Int)) = (m : Int) := by rw [IntKind.wrap_u64]; omega
      have hmL : m < 18446744073709551616 := by omega
      have hHm := Lib.hid hm8
      clear hm8
      have hO2 : Own w w.heap.size 5 (.slice A (1 + padZ n) c) (bytesV (128 :: List.replicate (padZ n) 0 ++ lenB m 0)) wr := by simpa [lenB] using hO
      clear hO
      go_wp2
      go_loopw [3, 4, 16] (fun v _ i wr => ∃ k : Nat, i = .int .i64 k ∧ k ≤ 8 ∧ Own w w.heap.size 5 v (bytesV (128 :: List.replicate (padZ n) 0 ++ lenB m k)) wr) (fun _ _ i _ => 8 - (intOf i).toNat)
      case atStart => exact ⟨0, rfl, by omega, hO2⟩
      case round =>
        clear hO2 hj hl hm
        obtain ⟨k, rfl, hk, hO⟩ := hrel
        have hHlk : Hid ((bytesV (128 :: List.replicate (padZ n) 0 ++ lenB m k)).length = 1 + padZ n + k) := Lib.hid (by simp [bytesV, lenB_length]; omega)
        obtain ⟨A, c, rfl, hl, hm⟩ := hO.form
        rw [hHlk.out] at hO hl ⊢
        by_cases h8 : k = 8
        · subst h8
          go_wp2
          go_ret
          have e : (128 :: List.replicate (padZ n) 0 ++ lenB m 8) = padL n := by unfold padL; rw [hHm.out]; rfl
          rw [e] at hO
          have e2 := hHlk.out
          rw [e] at e2
          have e3 : (padL n).length = 1 + padZ n + 8 := by rw [padL_length]; omega
          exact ⟨A, c, by rw [e3]; rfl, by rw [e3]; exact hl, hm, hO.rd, hO.bel⟩
        · go_wp2_with (at_builtin; refine wpList_own1 (o := ⟨some 29, _, _, _, _, _⟩) rfl (.tmp 19) (.tmp 28) 22 rfl SB1 rfl hO _ rfl rfl (by rw [hHlk.out]; unfold maxLen; omega) (by rw [hHlk.out]; omega) ?_; intro v1 w1 hO1 hg1 hat1; clear hg1 hat1)
          go_roundw
          case rel =>
            refine ⟨k + 1, by go_num, by omega, ?_⟩
            rw [lenB_succ, ← List.append_assoc, bytesV_append]
            rw [shr_u8] at hO1
            exact hO1
          case measure => simp [intOf]; omega
end Go.Proofs.YtdlmamnnamlleaaDoor
