/- The document's Fits. -/
import Derived.Test.YtakooljbkjnilaaNo2
namespace Go.Proofs.Ytakooljbkjnilaa
open Go.ChangeShapes Go.WideShapes Go.ChangeAt Go.RowKit
set_option maxHeartbeats 1000000
set_option maxRecDepth 100000
attribute [local go_sem] kp_refl kp_alloc kp_setCell kp_drew kp_drewN row_new row_old rowAt_new rowAt_old

set_option maxHeartbeats 4000000 in
theorem ref_Fits (A1 A2 : Option Addr) (l m : List At) (c1 c2 : Nat) (w : World) (h1 : Ats w w.heap.size A1 l) (h2 : Ats w w.heap.size A2 m) (hl : l.length ≤ 9223372036854775807) (hm : m.length ≤ 9223372036854775807) :
    Calls Try.prog 20 #[.slice A1 l.length c1, .slice A2 m.length c2] w fun e w' => e = .returned (.bool (fitsL (l.map At.kv) (m.map At.kv))) ∧ Below w.heap.size w w' := by
  go_enter Try.func20, Try.ntmps20
  go_wp2
  go_loopw [11] (fun x wr => ∃ j : Nat, x = .int .i64 j ∧ j ≤ m.length ∧ Hid (fitsL (l.map At.kv) ((m.map At.kv).take j) = true) ∧ Below w.heap.size w wr ∧ w.heap.size ≤ wr.heap.size) (fun x _ => m.length - (intOf x).toNat)
  case atStart => exact ⟨0, rfl, by omega, rfl, Below.refl _ _, Nat.le_refl _⟩
  case round =>
    obtain ⟨j, rfl, hj, hf, hb, hz⟩ := hrel
    have hw2 := h2.kp (kp_of_below hb)
    have hw1 := (h1.kp (kp_of_below hb)).more hz
    by_cases hji : j = m.length
    · have hf2 : Hid (fitsL (l.map At.kv) (m.map At.kv) = true) := by
        have h3 := hf.out
        rw [List.take_of_length_le (by simp [hji])] at h3
        exact h3
      subst hji
      go_wp2
      go_ret
      exact ⟨ret_bool (by rw [hf2.out]), hb⟩
    · have hjl : j < m.length := by omega
      obtain ⟨ad, rfl, hbl, q1, q2⟩ := hw2.at_ hjl
      obtain ⟨b1, b2, b3⟩ := hw2.body _ (List.getElem_mem hjl)
      have hno : Hid ((look l m[j].kind == some m[j].body) = false → fitsL (l.map At.kv) (m.map At.kv) = false) := fun h => fitsL_stop hjl (by unfold fitsAt; rw [← look_kv]; exact h)
      have hyes : Hid ((look l m[j].kind == some m[j].body) = true → fitsL (l.map At.kv) ((m.map At.kv).take (j + 1)) = true) := fun h => fitsL_step hjl (by unfold fitsAt; rw [← look_kv]; exact h) hf.out
      generalize m[j] = x at *
      obtain ⟨xk, xA, xc, xb⟩ := x
      simp only at q1 q2 b1 b2 b3 hno hyes
      have hbW : Below wr.heap.size wr (wr.alloc (.cells #[.int .i64 xk, .slice xA xb.length xc] 68)) := below_alloc' wr _
      have hx1 := hw1.step hbW
      have hbx := hb.trans (hbW.mono hz)
      have hFO := ref_FirstOf A1 l c1 (wr.alloc (.cells #[.int .i64 xk, .slice xA xb.length xc] 68)) hx1 hl xk
      unfold FirstR at hFO
      have hFO' := Lib.hid hFO
      clear hFO
      go_wp2_with fail
      refine hFO'.out.mono ?_
      rintro e w2 ⟨rfl, hb2⟩
      have hL2 := below_step hb2 hbx (Nat.le_refl _)
      have b4 := ((((b1.more hz).below hbW).more hbW.size).below hb2).more hb2.size
      have hc2 : ∀ W : World, Kp w2.heap.size w2 W → (convert 66 9 (.slice xA xb.length xc)).run Try.prog W = .ok (.string ⟨xb.toArray⟩) W := fun W hW => conv_rd Try.underlying66 Try.underlying5 Try.underlying9 (b4.kp hW)
      have hkw : (wr.alloc (.cells #[.int .i64 xk, .slice xA xb.length xc] 68)).heap.size ≤ w2.heap.size := hb2.size
      obtain ⟨hc1, hf1⟩ := bcell hb2
      clear b1 b2 b3 b4 hFO'
      cases hlk : look l xk with
      | none =>
        rw [hlk] at hno
        have hn2 := Lib.hid (hno.out rfl)
        clear hno hyes hlk
        go_wp2
        go_ret
        exact ⟨ret_bool (by rw [hn2.out]), by first | exact hL2 | exact below_dNA hL2 _⟩
      | some yb =>
        rw [hlk] at hno hyes
        clear hlk
        cases he : yb == xb with
        | true =>
          have hy := Lib.hid (hyes.out (by simpa using he))
          obtain rfl : yb = xb := by simpa using he
          clear hno hyes he
          go_wp2
          go_roundw
          case rel => exact ⟨j + 1, by go_num, by omega, hy, hL2, by simp at hkw ⊢; omega⟩
          case measure => simp [intOf]; omega
        | false =>
          have hn := Lib.hid (hno.out (by simpa using he))
          have he2 : (yb == xb) = false := he
          have he3 : (yb != xb) = true := by simpa using he
          clear hno hyes he
          go_wp2
          go_ret
          exact ⟨ret_bool (by rw [hn.out]), hL2⟩
end Go.Proofs.Ytakooljbkjnilaa
