/- Contract of the document's NumberText. -/
import Derived.Test.YtjihklaocgmlpaaDn1
import Derived.Test.YtjihklaocgmlpaaDn0
import Derived.Test.YtjihklaocgmlpaaDerW
namespace Go.Proofs.Ytjihklaocgmlpaa
open Go.ChangeShapes Go.WideShapes Go.ChangeAt Go.RowKit
set_option maxHeartbeats 2000000
set_option maxRecDepth 100000
attribute [local go_sem ↓] load_n4 store_n4
attribute [local go_sem] isHead_mk blkOf_mk isAgg_mk cellsV_mk row_drew rowAt_drew row_new_cells row_old rowAt_new rowAt_old setRow_new bs_app
abbrev strW (l : List UInt8) : Value := .string ⟨l.toArray⟩
theorem sidx (l : List UInt8) (p : Nat) (z : Int) (hz : z = (p : Int)) (hp : p < l.length) (W : World) :
    (Instr.index 9 (.string ⟨l.toArray⟩) (.int .i64 z)).run Try.prog W = .ok (.int .u8 ((l[p]?.getD 0).toNat : Nat)) W := by
  subst hz
  have h0 : (0 : Int) ≤ (p : Int) := by omega
  have h1 : (⟨l.toArray⟩ : ByteArray)[p]? = some l[p] := by
    show (if h : p < (⟨l.toArray⟩ : ByteArray).size then some _ else none) = _
    rw [dif_pos (by simpa [ByteArray.size] using hp)]
    rfl
  have h2 : (l[p]?.getD 0).toNat = l[p].toNat := by simp [List.getElem?_eq_getElem hp]
  unfold Instr.index
  simp only [Sem.run_bind, asIntOf, Sem.run_pure, Result.andThen_ok, run_underlying Try.underlying9 W, h0, if_true, Int.toNat_natCast, h1, h2]
def szOf : Value → Nat
  | .string b => b.size
  | _ => 0
theorem byt_shift (a j : Nat) : a / 256 ^ j % 256 = byt a j := rfl
set_option maxHeartbeats 4000000 in
theorem ref_NumberText (a : Nat) (w : World) (ha : a < 2 ^ 256) :
    Calls Try.prog 15 #[numV a] w fun e w' => ∃ j, a < 256 ^ j ∧ (j = 0 ∨ 256 ^ (j - 1) ≤ a) ∧ e = .returned (strW (padT (beB a j))) ∧ Below w.heap.size w w' := by
  have hHa := Lib.hid ha
  unfold numV
  have hcn := arrK_cells .u64 4 (wd a)
  have hL0 := below_alloc w (Obj.cells (arrK .u64 4 (wd a)) 24)
  have hN0 : At (w.alloc (Obj.cells (arrK .u64 4 (wd a)) 24)) w.heap.size .u64 4 (wd a) := At.new _ rfl
  have r0 := hN0.row
  have e0 := hN0.eq
  clear ha hN0
  go_enter Try.func15, Try.ntmps15
  go_wp2_with fail
  generalize w.alloc (Obj.cells (arrK .u64 4 (wd a)) 24) = W0 at *
  refine (ref_OfNum a W0 hHa.out).mono ?_
  rintro e w1 ⟨v1, rfl, hv1, hb1⟩
  have hL1 := Lib.hid (below_step hb1 hL0 (Nat.le_refl _))
  have hV1 := Lib.hid hv1
  clear r0 e0 hb1 hL0 hv1
  go_wp2_with fail
  go_loopw [3, 4] (fun vs vl wr => ∃ (j : Nat), vs = strW (beB a j) ∧ j ≤ 32 ∧ (j = 0 ∨ 256 ^ (j - 1) ≤ a) ∧ Hid (IsN wr vl (a / 256 ^ j)) ∧ Hid (Below w.heap.size w wr)) (fun vs _ _ => 33 - szOf vs)
  case atStart => exact ⟨0, rfl, by omega, .inl rfl, Lib.hid (by simpa using hV1.out), hL1⟩
  case round =>
    obtain ⟨j, rfl, hj, hj1, hv, hb⟩ := hrel
    clear hL1 hV1
    obtain ⟨A, m, c, rfl, hmc, hcx, hm0⟩ := hv.out.form
    have hj0 := Lib.hid hj1
    clear hj1
    by_cases h0 : a / 256 ^ j = 0
    · obtain rfl : m = 0 := hm0.2 h0
      have ha2 : a < 256 ^ j := by
        rcases Nat.lt_or_ge a (256 ^ j) with h | h
        · exact h
        · have := Nat.div_pos h (Nat.pow_pos (by omega)); omega
      have hHa2 := Lib.hid ha2
      clear h0 hm0 hv ha2
      have hHb := Lib.hid hb
      cases j with
      | zero =>
        have hfin := Lib.hid (show padT (beB a 0) = [0] from rfl)
        have e1 : beB a 0 = [] := rfl
        rw [e1]
        go_wp2_with fail
        go_ret
        exact ⟨0, hHa2.out, .inl rfl, rfl, hb.out⟩
      | succ t =>
        obtain ⟨x, r, hxr, hx⟩ : ∃ x r, beB a (t + 1) = x :: r ∧ x = UInt8.ofNat (byt a t) := ⟨_, _, rfl, rfl⟩
        have hHr := Lib.hid hxr
        rw [hxr]
        clear hx
        have hix : ∀ W : World, (Instr.index 9 (strW (x :: r)) (.int .i64 0)).run Try.prog W = .ok (.int .u8 (x.toNat : Nat)) W := fun W => by
          have h := sidx (x :: r) 0 0 rfl (by simp) W
          exact h
        by_cases hc : 128 ≤ x.toNat
        · have d1 : decide ((128 : Int) ≤ (x.toNat : Int)) = true := by simp; omega
          have hp : padT (x :: r) = 0 :: x :: r := by show (if 128 ≤ x.toNat then _ else _) = _; rw [if_pos hc]
          have hHp := Lib.hid hp
          have hrl : r.length = t := by have := congrArg List.length hxr; rw [beB_len] at this; simpa using this.symm
          have hnl : ¬9223372036854775807 < 1 + (r.length + 1) := by omega
          clear hc hp hxr
          go_wp2_with fail
          go_ret
          exact ⟨t + 1, hHa2.out, hj0.out, congrArg (fun l => Ending.returned (strW l)) (show (0 :: x :: r) = padT (beB a (t + 1)) by rw [hHr.out, hHp.out]), hb.out⟩
        · have d1 : decide ((128 : Int) ≤ (x.toNat : Int)) = false := by simp; omega
          have hp : padT (x :: r) = x :: r := by show (if 128 ≤ x.toNat then _ else _) = _; rw [if_neg hc]
          have hHp := Lib.hid hp
          clear hc hp hxr
          go_wp2_with fail
          go_ret
          exact ⟨t + 1, hHa2.out, hj0.out, congrArg (fun l => Ending.returned (strW l)) (show (x :: r) = padT (beB a (t + 1)) by rw [hHr.out, hHp.out]), hb.out⟩
    · have hmp : m ≠ 0 := fun e => h0 (hm0.1 e)
      have d1 : decide ((0 : Int) < (m : Int)) = true := by simp; omega
      have hj31 : j < 32 := by
        rcases Nat.lt_or_ge j 32 with h | h
        · exact h
        · exfalso
          apply h0
          apply Nat.div_eq_of_lt
          refine Nat.lt_of_lt_of_le hHa.out ?_
          rw [show (2 : Nat) ^ 256 = 256 ^ 32 by rw [show (256 : Nat) = 2 ^ 8 from rfl, ← Nat.pow_mul]]
          exact Nat.pow_le_pow_right (by omega) h
      have hge : 256 ^ j ≤ a := by
        rcases Nat.lt_or_ge a (256 ^ j) with h | h
        · exact absurd (Nat.div_eq_of_lt h) h0
        · exact h
      have hHge := Lib.hid hge
      have hPa := Lib.hid (partsN (a := a / 256 ^ j) (m := 256) (k := 256) (wr.alloc (Obj.cells #[.int .i64 256] 3)) (hv.out.alloc _) (Nat.lt_of_le_of_lt (Nat.div_le_self _ _) hHa.out) (by omega) (IsV.lit256 wr 3) (by omega) (lt_big (k := 25) (by omega) (by omega)))
      have hy : a / 256 ^ j % 256 = byt a j := rfl
      rw [hy, Nat.div_div_eq_div_mul, ← Nat.pow_succ] at hPa
      have hyl := byt_lt a j
      have hsl := beB_len a j
      have hnx := Lib.hid (show beB a (j + 1) = UInt8.ofNat (byt a j) :: beB a j from rfl)
      clear hge h0 hy hm0 hv
      generalize byt a j = y at *
      generalize beB a j = s at *
      go_wp2_with fail
      refine hPa.out.mono ?_
      rintro e w7 ⟨v7, v8, rfl, hN7, hN8, hb7⟩
      have hbE : Below wr.heap.size wr w7 := (below_alloc wr (Obj.cells #[.int .i64 256] 3)).trans (hb7.mono (by simp))
      have hDi := Lib.hid (digitN w7 hN8 (show y < 65536 by omega))
      have hL7 := Lib.hid (below_step hbE hb.out (Nat.le_refl _))
      have hHN := Lib.hid hN7
      have hw8 : IntKind.u8.wrap (y : Int) = (y : Int) := by rw [IntKind.wrap_u8]; omega
      have hcv := conv_rd1 (one_new (w := w7) hyl)
      have hnl : ¬9223372036854775807 < 1 + s.length := by omega
      have hfin := Lib.hid (below_step (below_alloc w7 (Obj.cells #[.int .u8 (y : Nat)] 5)) hL7.out (Nat.le_refl _))
      have hNa := Lib.hid (hHN.out.alloc (Obj.cells #[.int .u8 (y : Nat)] 5))
      clear hbE hb7 hPa hN8 hN7 hb
      go_wp2_with fail
      refine hDi.out.mono ?_
      rintro e w8 ⟨rfl, rfl⟩
      go_wp2_with fail
      have e1 : ∀ q : List UInt8, szOf (.string ⟨q.toArray⟩) = q.length := fun q => by simp [szOf, ByteArray.size]
      have hx1 := hnx.out
      refine ⟨⟨j + 1, ?_, by omega, .inr (by simpa using hHge.out), hNa, hfin⟩, ?_⟩
      · rw [hx1]
      · rw [e1, e1, List.length_cons]; omega
end Go.Proofs.Ytjihklaocgmlpaa
