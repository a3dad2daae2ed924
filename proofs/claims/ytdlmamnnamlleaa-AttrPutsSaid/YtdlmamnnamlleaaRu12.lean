/- Package rule's sound; slices.ContainsFunc and Contains over ints. -/
import Derived.Test.YtdlmamnnamlleaaRu11
namespace Go.Proofs.Ytdlmamnnamlleaa
open Go.ChangeShapes Go.WideShapes Go.ChangeAt Go.RowKit
set_option maxHeartbeats 1000000
set_option maxRecDepth 100000
attribute [local go_sem] kp_refl kp_alloc kp_setCell kp_drew kp_drewN row_new row_old rowAt_new rowAt_old

theorem sound_11 (A : Option Addr) (l : List At) (c : Nat) (k : Int) (g : Nat) (w : World) (h : Ats w w.heap.size A l) (hl : l.length ≤ 9223372036854775807) (hg : w.cell? ⟨g, 0, none⟩ = some (.slice A l.length c)) :
    Calls Try.prog 127 #[.int .i64 k, .pointer (some ⟨g, 0, none⟩)] w fun e w' => e = .returned (.bool (lookOne l k)) ∧ Below w.heap.size w w' := by
  go_enter Try.func127, Try.ntmps127
  go_wp2_with fail
  refine (is_any A l c k _ h hl).mono ?_
  rintro e w1 ⟨rfl, hb⟩
  go_wp2
  go_ret
  exact ⟨rfl, hb⟩

def anyOne (l : List At) (ks : List Nat) : Bool := ks.any fun k : Nat => lookOne l (k : Int)
/-- The first number of which it is so, or -1. -/
def fstOne (l : List At) (ks : List Nat) : Int := match ks.findIdx? fun k : Nat => lookOne l (k : Int) with | some i => (i : Int) | none => -1
theorem fstOne_some {l : List At} {ks : List Nat} {i : Nat} (hi : i < ks.length) (h : lookOne l (ks[i] : Nat) = true) (hn : ∀ j (hj : j < i), lookOne l ((ks[j]'(by omega) : Nat) : Int) = false) : fstOne l ks = i := by
  unfold fstOne
  rw [List.findIdx?_eq_some_iff_getElem.2 ⟨hi, h, fun j hj => by simpa using hn j hj⟩]
theorem fstOne_none {l : List At} {ks : List Nat} (hn : ∀ j (hj : j < ks.length), lookOne l (ks[j] : Nat) = false) : fstOne l ks = -1 := by
  unfold fstOne
  rw [List.findIdx?_eq_none_iff.2 fun x hx => by obtain ⟨j, hj, rfl⟩ := List.getElem_of_mem hx; simpa using hn j hj]
theorem fstOne_any (l : List At) (ks : List Nat) : decide (0 ≤ fstOne l ks) = anyOne l ks := by
  unfold fstOne anyOne
  cases h : ks.findIdx? fun k : Nat => lookOne l (k : Int) with
  | none =>
    have h2 := List.findIdx?_eq_none_iff.1 h
    symm
    simp only [show ¬ (0 : Int) ≤ -1 by omega, decide_false]
    rw [List.any_eq_false]
    intro x hx
    simpa using h2 x hx
  | some i =>
    obtain ⟨hi, h2, -⟩ := List.findIdx?_eq_some_iff_getElem.1 h
    symm
    simp only [show (0 : Int) ≤ (i : Int) by omega, decide_true]
    rw [List.any_eq_true]
    exact ⟨_, List.getElem_mem hi, h2⟩
theorem kndV_at {ks : List Nat} {j : Nat} (h : j < ks.length) : (kndV ks)[j]'(by rw [kndV_len]; exact h) = .int .i64 (ks[j] : Nat) := by simp [kndV]

section
variable (A : Option Addr) (l : List At) (c : Nat) (g : Nat) (K : Option Addr) (ks : List Nat) (kc : Nat) (w : World) (h : Ats w w.heap.size A l) (hl : l.length ≤ 9223372036854775807) (hg : w.cell? ⟨g, 0, none⟩ = some (.slice A l.length c)) (hgl : g < w.heap.size)
  (hk : Rd w w.heap.size K (kndV ks)) (hkl : ks.length ≤ 100)
include h hl hg hgl hk hkl
theorem sound_index : Calls Try.prog 148 #[.slice K ks.length kc, .func (.func 127) #[] #[.pointer (some ⟨g, 0, none⟩)]] w fun e w' => e = .returned (.int .i64 (fstOne l ks)) ∧ Below w.heap.size w w' := by
  go_enter Try.func148, Try.ntmps148
  go_wp2
  go_loopw [8] (fun x wr => ∃ j : Nat, x = .int .i64 j ∧ j ≤ ks.length ∧ Below w.heap.size w wr ∧ w.heap.size ≤ wr.heap.size ∧ Hid (∀ i (hi : i < j) (hi2 : i < ks.length), lookOne l (ks[i] : Nat) = false)) (fun x _ => ks.length - (intOf x).toNat)
  case atStart => exact ⟨0, rfl, by omega, Below.refl _ _, Nat.le_refl _, fun i hi => absurd hi (by omega)⟩
  case round =>
    obtain ⟨j, rfl, hj, hb, hz, hno⟩ := hrel
    by_cases hji : j = ks.length
    · have hp := Lib.hid (fstOne_none (l := l) (ks := ks) fun i hi => hno.out i (by omega) hi)
      subst hji
      go_wp2
      go_ret
      exact ⟨ret_int (by rw [hp.out]), hb⟩
    · have hjl : j < ks.length := by omega
      have hk' := hk.below hb
      obtain ⟨ad, rfl, hbl, c1⟩ := hk'.at_ (k := j) (by rw [kndV_len]; exact hjl)
      rw [kndV_at hjl] at c1
      have hg' := ((bcell hb).1 g 0 hgl).trans hg
      have hw := h.step hb
      have hs := Lib.hid (sound_11 A l c (ks[j] : Nat) g _ hw hl hg')
      cases hx : lookOne l (ks[j] : Nat) with
      | true =>
        have hp := Lib.hid (fstOne_some hjl hx fun i hi => hno.out i hi (by omega))
        rw [hx] at hs
        clear hx
        generalize (ks[j] : Nat) = kk at *
        go_wp2_with fail
        refine hs.out.mono ?_
        rintro e w' ⟨rfl, hb'⟩
        go_wp2
        go_ret
        exact ⟨ret_int (by rw [hp.out]), hb.trans (hb'.mono hz)⟩
      | false =>
        have hno2 : Hid (∀ i (hi : i < j + 1) (hi2 : i < ks.length), lookOne l (ks[i] : Nat) = false) := fun i hi hi2 => by
          rcases Nat.lt_or_ge i j with h3 | h3
          · exact hno.out i h3 hi2
          · obtain rfl : i = j := by omega
            exact hx
        rw [hx] at hs
        clear hx
        generalize (ks[j] : Nat) = kk at *
        go_wp2_with fail
        refine hs.out.mono ?_
        rintro e w' ⟨rfl, hb'⟩
        go_wp2
        go_roundw
        case rel => exact ⟨j + 1, by go_num, by omega, hb.trans (hb'.mono hz), Nat.le_trans hz hb'.size, hno2⟩
        case measure => simp [intOf]; omega
theorem sound_contains : Calls Try.prog 126 #[.slice K ks.length kc, .func (.func 127) #[] #[.pointer (some ⟨g, 0, none⟩)]] w fun e w' => e = .returned (.bool (anyOne l ks)) ∧ Below w.heap.size w w' := by
  have hq := Lib.hid (fstOne_any l ks)
  go_enter Try.func126, Try.ntmps126
  go_wp2_with fail
  refine (sound_index A l c g K ks kc _ h hl hg hgl hk hkl).mono ?_
  rintro e w1 ⟨rfl, hb⟩
  generalize fstOne l ks = z at *
  go_wp2
  go_ret
  exact ⟨ret_bool hq.out, hb⟩
theorem sound_1 : Calls Try.prog 125 #[.slice K ks.length kc, .pointer (some ⟨g, 0, none⟩)] w fun e w' => e = .returned (.bool (anyOne l ks)) ∧ Below w.heap.size w w' := by
  have hmf : ∀ (fn : Fn) (first cap : Array Value) (w : World), (Instr.makeFunc fn first cap).run Try.prog w = .ok (.func fn first cap) w := fun _ _ _ _ => rfl
  go_enter Try.func125, Try.ntmps125
  go_wp2_with fail
  refine (sound_contains A l c g K ks kc _ h hl hg hgl hk hkl).mono ?_
  rintro e w1 ⟨rfl, hb⟩
  go_wp2
  go_ret
  exact ⟨rfl, hb⟩
end

def soundP (l : List At) : Bool := if (lookOne l 10 && !lookOne l 8) || (lookOne l 11 && lookOne l 9) then false else !(lookOne l 16 || lookOne l 17) || !(lookOne l 13 || (lookOne l 14 || lookOne l 15))
theorem sound_any (A : Option Addr) (l : List At) (c : Nat) (g : Nat) (ks : List Nat) (w0 w : World) {te : TypeId} (h : Ats w0 w0.heap.size A l) (hl : l.length ≤ 9223372036854775807) (hg : w0.cell? ⟨g, 0, none⟩ = some (.slice A l.length c)) (hgl : g < w0.heap.size) (hkl : ks.length ≤ 100)
    (hw : w = w0.alloc (.cells (kndV ks).toArray te)) {n : Nat} (hn : n = ks.length) : Calls Try.prog 125 #[.slice (some ⟨w0.heap.size, 0, none⟩) n n, .pointer (some ⟨g, 0, none⟩)] w fun e w' => e = .returned (.bool (anyOne l ks)) ∧ Below w0.heap.size w0 w' := by
  subst hw hn
  have hb := below_alloc' w0 (.cells (kndV ks).toArray te)
  refine (sound_1 A l c g (some ⟨w0.heap.size, 0, none⟩) ks ks.length _ (h.step hb) hl (((bcell hb).1 g 0 hgl).trans hg) (by simp; omega) (Rd.of_blk (push_new _ _) (by simp)) hkl).mono ?_
  rintro e w' ⟨rfl, hb'⟩
  exact ⟨rfl, below_step hb' hb (Nat.le_refl _)⟩

set_option maxHeartbeats 8000000 in
theorem rule_sound (A : Option Addr) (l : List At) (c : Nat) (w : World) (h : Ats w w.heap.size A l) (hl : l.length ≤ 9223372036854775807) :
    Calls Try.prog 80 #[.slice A l.length c] w fun e w' => e = .returned (.bool (soundP l)) ∧ Below w.heap.size w w' := by
  have hmf : ∀ (fn : Fn) (first cap : Array Value) (w : World), (Instr.makeFunc fn first cap).run Try.prog w = .ok (.func fn first cap) w := fun _ _ _ _ => rfl
  have hL0 := below_alloc' w (.cells #[.slice A l.length c] 32)
  have hA0 := h.step hL0
  have hg0 : (w.alloc (.cells #[.slice A l.length c] 32)).cell? ⟨w.heap.size, 0, none⟩ = some (.slice A l.length c) := by rw [World.cell?_alloc_at _ _ _ _ rfl]; rfl
  have hgl0 : w.heap.size < (w.alloc (.cells #[.slice A l.length c] 32)).heap.size := by simp
  have hF : Hid (soundP l = if (lookOne l 10 && !lookOne l 8) || (lookOne l 11 && lookOne l 9) then false else !(lookOne l 16 || lookOne l 17) || !(lookOne l 13 || (lookOne l 14 || lookOne l 15))) := rfl
  have e10 : anyOne l [10] = lookOne l 10 := by simp [anyOne]
  have e8 : anyOne l [8] = lookOne l 8 := by simp [anyOne]
  have e11 : anyOne l [11] = lookOne l 11 := by simp [anyOne]
  have e9 : anyOne l [9] = lookOne l 9 := by simp [anyOne]
  have e16 : anyOne l [16, 17] = (lookOne l 16 || lookOne l 17) := by simp [anyOne]
  have e13 : anyOne l [13, 14, 15] = (lookOne l 13 || (lookOne l 14 || lookOne l 15)) := by simp [anyOne]
  rw [← e10, ← e8, ← e11, ← e9, ← e16, ← e13] at hF
  clear e10 e8 e11 e9 e16 e13
  go_enter Try.func80, Try.ntmps80
  go_upto_region 2 with (fail)
  generalize hW0 : w.alloc (.cells #[.slice A l.length c] 32) = W0 at *
  clear hW0
  have hS1 := Lib.hid (sound_any A l c w.heap.size [10] W0 _ (te := 3) hA0 hl hg0 hgl0 (by simp) rfl (n := 1) rfl)
  go_wp2_with fail
  refine hS1.out.mono ?_
  rintro e W1 ⟨rfl, hb1⟩
  have hA1 := hA0.step hb1
  have hg1 := ((bcell hb1).1 w.heap.size 0 hgl0).trans hg0
  have hgl1 := Nat.lt_of_lt_of_le hgl0 hb1.size
  have hL1 := below_step hb1 hL0 (by omega)
  clear hS1 hA0 hg0 hL0 hb1
  cases q10 : anyOne l [10]
  · have hS2 := Lib.hid (sound_any A l c w.heap.size [11] W1 _ (te := 3) hA1 hl hg1 hgl1 (by simp) rfl (n := 1) rfl)
    go_wp2_with fail
    refine hS2.out.mono ?_
    rintro e W2 ⟨rfl, hb2⟩
    have hA2 := hA1.step hb2
    have hg2 := ((bcell hb2).1 w.heap.size 0 hgl1).trans hg1
    have hgl2 := Nat.lt_of_lt_of_le hgl1 hb2.size
    have hL2 := below_step hb2 hL1 (by omega)
    clear hS2 hA1 hg1 hL1 hb2
    cases q11 : anyOne l [11]
    · have hS3 := Lib.hid (sound_any A l c w.heap.size [16, 17] W2 _ (te := 3) hA2 hl hg2 hgl2 (by simp) rfl (n := 2) rfl)
      go_wp2_with fail
      refine hS3.out.mono ?_
      rintro e W3 ⟨rfl, hb3⟩
      have hA3 := hA2.step hb3
      have hg3 := ((bcell hb3).1 w.heap.size 0 hgl2).trans hg2
      have hgl3 := Nat.lt_of_lt_of_le hgl2 hb3.size
      have hL3 := below_step hb3 hL2 (by omega)
      clear hS3 hA2 hg2 hL2 hb3
      cases q16 : anyOne l [16, 17]
      · go_wp2
        go_ret
        exact ⟨ret_bool (by rw [hF.out]; simp [q10, q11, q16]), hL3⟩
      · have hS4 := Lib.hid (sound_any A l c w.heap.size [13, 14, 15] W3 _ (te := 3) hA3 hl hg3 hgl3 (by simp) rfl (n := 3) rfl)
        go_wp2_with fail
        refine hS4.out.mono ?_
        rintro e W4 ⟨rfl, hb4⟩
        have hA4 := hA3.step hb4
        have hg4 := ((bcell hb4).1 w.heap.size 0 hgl3).trans hg3
        have hgl4 := Nat.lt_of_lt_of_le hgl3 hb4.size
        have hL4 := below_step hb4 hL3 (by omega)
        clear hS4 hA3 hg3 hL3 hb4
        cases q13 : anyOne l [13, 14, 15]
        · go_wp2
          go_ret
          exact ⟨ret_bool (by rw [hF.out]; simp [q10, q11, q16, q13]), hL4⟩
        · go_wp2
          go_ret
          exact ⟨ret_bool (by rw [hF.out]; simp [q10, q11, q16, q13]), hL4⟩
    · have hS3 := Lib.hid (sound_any A l c w.heap.size [9] W2 _ (te := 3) hA2 hl hg2 hgl2 (by simp) rfl (n := 1) rfl)
      go_wp2_with fail
      refine hS3.out.mono ?_
      rintro e W3 ⟨rfl, hb3⟩
      have hA3 := hA2.step hb3
      have hg3 := ((bcell hb3).1 w.heap.size 0 hgl2).trans hg2
      have hgl3 := Nat.lt_of_lt_of_le hgl2 hb3.size
      have hL3 := below_step hb3 hL2 (by omega)
      clear hS3 hA2 hg2 hL2 hb3
      cases q9 : anyOne l [9]
      · have hS4 := Lib.hid (sound_any A l c w.heap.size [16, 17] W3 _ (te := 3) hA3 hl hg3 hgl3 (by simp) rfl (n := 2) rfl)
        go_wp2_with fail
        refine hS4.out.mono ?_
        rintro e W4 ⟨rfl, hb4⟩
        have hA4 := hA3.step hb4
        have hg4 := ((bcell hb4).1 w.heap.size 0 hgl3).trans hg3
        have hgl4 := Nat.lt_of_lt_of_le hgl3 hb4.size
        have hL4 := below_step hb4 hL3 (by omega)
        clear hS4 hA3 hg3 hL3 hb4
        cases q16 : anyOne l [16, 17]
        · go_wp2
          go_ret
          exact ⟨ret_bool (by rw [hF.out]; simp [q10, q11, q9, q16]), hL4⟩
        · have hS5 := Lib.hid (sound_any A l c w.heap.size [13, 14, 15] W4 _ (te := 3) hA4 hl hg4 hgl4 (by simp) rfl (n := 3) rfl)
          go_wp2_with fail
          refine hS5.out.mono ?_
          rintro e W5 ⟨rfl, hb5⟩
          have hA5 := hA4.step hb5
          have hg5 := ((bcell hb5).1 w.heap.size 0 hgl4).trans hg4
          have hgl5 := Nat.lt_of_lt_of_le hgl4 hb5.size
          have hL5 := below_step hb5 hL4 (by omega)
          clear hS5 hA4 hg4 hL4 hb5
          cases q13 : anyOne l [13, 14, 15]
          · go_wp2
            go_ret
            exact ⟨ret_bool (by rw [hF.out]; simp [q10, q11, q9, q16, q13]), hL5⟩
          · go_wp2
            go_ret
            exact ⟨ret_bool (by rw [hF.out]; simp [q10, q11, q9, q16, q13]), hL5⟩
      · go_wp2
        go_ret
        exact ⟨ret_bool (by rw [hF.out]; simp [q10, q11, q9]), hL3⟩
  · have hS2 := Lib.hid (sound_any A l c w.heap.size [8] W1 _ (te := 3) hA1 hl hg1 hgl1 (by simp) rfl (n := 1) rfl)
    go_wp2_with fail
    refine hS2.out.mono ?_
    rintro e W2 ⟨rfl, hb2⟩
    have hA2 := hA1.step hb2
    have hg2 := ((bcell hb2).1 w.heap.size 0 hgl1).trans hg1
    have hgl2 := Nat.lt_of_lt_of_le hgl1 hb2.size
    have hL2 := below_step hb2 hL1 (by omega)
    clear hS2 hA1 hg1 hL1 hb2
    cases q8 : anyOne l [8]
    · go_wp2
      go_ret
      exact ⟨ret_bool (by rw [hF.out]; simp [q10, q8]), hL2⟩
    · have hS3 := Lib.hid (sound_any A l c w.heap.size [11] W2 _ (te := 3) hA2 hl hg2 hgl2 (by simp) rfl (n := 1) rfl)
      go_wp2_with fail
      refine hS3.out.mono ?_
      rintro e W3 ⟨rfl, hb3⟩
      have hA3 := hA2.step hb3
      have hg3 := ((bcell hb3).1 w.heap.size 0 hgl2).trans hg2
      have hgl3 := Nat.lt_of_lt_of_le hgl2 hb3.size
      have hL3 := below_step hb3 hL2 (by omega)
      clear hS3 hA2 hg2 hL2 hb3
      cases q11 : anyOne l [11]
      · have hS4 := Lib.hid (sound_any A l c w.heap.size [16, 17] W3 _ (te := 3) hA3 hl hg3 hgl3 (by simp) rfl (n := 2) rfl)
        go_wp2_with fail
        refine hS4.out.mono ?_
        rintro e W4 ⟨rfl, hb4⟩
        have hA4 := hA3.step hb4
        have hg4 := ((bcell hb4).1 w.heap.size 0 hgl3).trans hg3
        have hgl4 := Nat.lt_of_lt_of_le hgl3 hb4.size
        have hL4 := below_step hb4 hL3 (by omega)
        clear hS4 hA3 hg3 hL3 hb4
        cases q16 : anyOne l [16, 17]
        · go_wp2
          go_ret
          exact ⟨ret_bool (by rw [hF.out]; simp [q10, q8, q11, q16]), hL4⟩
        · have hS5 := Lib.hid (sound_any A l c w.heap.size [13, 14, 15] W4 _ (te := 3) hA4 hl hg4 hgl4 (by simp) rfl (n := 3) rfl)
          go_wp2_with fail
          refine hS5.out.mono ?_
          rintro e W5 ⟨rfl, hb5⟩
          have hA5 := hA4.step hb5
          have hg5 := ((bcell hb5).1 w.heap.size 0 hgl4).trans hg4
          have hgl5 := Nat.lt_of_lt_of_le hgl4 hb5.size
          have hL5 := below_step hb5 hL4 (by omega)
          clear hS5 hA4 hg4 hL4 hb5
          cases q13 : anyOne l [13, 14, 15]
          · go_wp2
            go_ret
            exact ⟨ret_bool (by rw [hF.out]; simp [q10, q8, q11, q16, q13]), hL5⟩
          · go_wp2
            go_ret
            exact ⟨ret_bool (by rw [hF.out]; simp [q10, q8, q11, q16, q13]), hL5⟩
      · have hS4 := Lib.hid (sound_any A l c w.heap.size [9] W3 _ (te := 3) hA3 hl hg3 hgl3 (by simp) rfl (n := 1) rfl)
        go_wp2_with fail
        refine hS4.out.mono ?_
        rintro e W4 ⟨rfl, hb4⟩
        have hA4 := hA3.step hb4
        have hg4 := ((bcell hb4).1 w.heap.size 0 hgl3).trans hg3
        have hgl4 := Nat.lt_of_lt_of_le hgl3 hb4.size
        have hL4 := below_step hb4 hL3 (by omega)
        clear hS4 hA3 hg3 hL3 hb4
        cases q9 : anyOne l [9]
        · have hS5 := Lib.hid (sound_any A l c w.heap.size [16, 17] W4 _ (te := 3) hA4 hl hg4 hgl4 (by simp) rfl (n := 2) rfl)
          go_wp2_with fail
          refine hS5.out.mono ?_
          rintro e W5 ⟨rfl, hb5⟩
          have hA5 := hA4.step hb5
          have hg5 := ((bcell hb5).1 w.heap.size 0 hgl4).trans hg4
          have hgl5 := Nat.lt_of_lt_of_le hgl4 hb5.size
          have hL5 := below_step hb5 hL4 (by omega)
          clear hS5 hA4 hg4 hL4 hb5
          cases q16 : anyOne l [16, 17]
          · go_wp2
            go_ret
            exact ⟨ret_bool (by rw [hF.out]; simp [q10, q8, q11, q9, q16]), hL5⟩
          · have hS6 := Lib.hid (sound_any A l c w.heap.size [13, 14, 15] W5 _ (te := 3) hA5 hl hg5 hgl5 (by simp) rfl (n := 3) rfl)
            go_wp2_with fail
            refine hS6.out.mono ?_
            rintro e W6 ⟨rfl, hb6⟩
            have hA6 := hA5.step hb6
            have hg6 := ((bcell hb6).1 w.heap.size 0 hgl5).trans hg5
            have hgl6 := Nat.lt_of_lt_of_le hgl5 hb6.size
            have hL6 := below_step hb6 hL5 (by omega)
            clear hS6 hA5 hg5 hL5 hb6
            cases q13 : anyOne l [13, 14, 15]
            · go_wp2
              go_ret
              exact ⟨ret_bool (by rw [hF.out]; simp [q10, q8, q11, q9, q16, q13]), hL6⟩
            · go_wp2
              go_ret
              exact ⟨ret_bool (by rw [hF.out]; simp [q10, q8, q11, q9, q16, q13]), hL6⟩
        · go_wp2
          go_ret
          exact ⟨ret_bool (by rw [hF.out]; simp [q10, q8, q11, q9]), hL4⟩
end Go.Proofs.Ytdlmamnnamlleaa
