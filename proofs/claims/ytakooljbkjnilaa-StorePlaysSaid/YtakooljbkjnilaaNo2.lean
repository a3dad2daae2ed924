/- cmp.Compare of ints; the comparison that attr.Norm sorts by; bytes.Equal; attr.Match; the document's Fits. -/
import Derived.Test.YtakooljbkjnilaaNo1
import Derived.Test.YtakooljbkjnilaaAttr3
import Derived.Deep.QuietTactic
import Derived.BigQuiet
namespace Go.Proofs.Ytakooljbkjnilaa
open Go.ChangeShapes Go.WideShapes Go.ChangeAt Go.RowKit
set_option maxHeartbeats 1000000
set_option maxRecDepth 100000
attribute [local go_sem] kp_refl kp_alloc kp_setCell kp_drew kp_drewN row_new row_old rowAt_new rowAt_old

def cmpZ (a b : Int) : Int := if a < b then -1 else if b < a then 1 else 0
theorem cmp_isNaN (a : Int) (w : World) : Calls Try.prog 59 #[.int .i64 a] w fun e w' => e = .returned (.bool false) ∧ w = w' := by
  have h1 : (a != a) = false := by simp
  go_enter Try.func59, Try.ntmps59
  go_wp2
  go_ret
  exact ⟨rfl, rfl⟩
theorem bytes_Equal (A1 A2 : Option Addr) (l m : List UInt8) (c1 c2 : Nat) (w : World) (B : Nat) (h1 : Rd w B A1 (bytesV l)) (h2 : Rd w B A2 (bytesV m)) :
    Calls Try.prog 36 #[.slice A1 l.length c1, .slice A2 m.length c2] w fun e w' => e = .returned (.bool (l == m)) ∧ w' = w := by
  have hc1 : (convert 66 9 (.slice A1 l.length c1)).run Try.prog w = .ok (.string ⟨l.toArray⟩) w := conv_rd Try.underlying66 Try.underlying5 Try.underlying9 h1
  have hc2 : (convert 66 9 (.slice A2 m.length c2)).run Try.prog w = .ok (.string ⟨m.toArray⟩) w := conv_rd Try.underlying66 Try.underlying5 Try.underlying9 h2
  clear h1 h2
  by_cases he : l = m
  · subst he
    go_enter Try.func36, Try.ntmps36
    go_wp2
    go_ret
    exact ⟨ret_bool (by simp), rfl⟩
  · have hb : (l == m) = false := by simpa using he
    have hH := Lib.hid hb
    clear he
    go_enter Try.func36, Try.ntmps36
    go_wp2
    go_ret
    exact ⟨ret_bool (by rw [hH.out]), rfl⟩

/-! Match, Fits -/
def fitsAt (l : List KV) (x : KV) : Bool := lookK l x.1 == some x.2
def fitsL (l ask : List KV) : Bool := ask.all (fitsAt l)
theorem fitsL_snoc (l ask : List KV) (x : KV) : fitsL l (ask ++ [x]) = (fitsL l ask && fitsAt l x) := by simp [fitsL]
theorem fitsL_stop {l : List KV} {m : List At} {j : Nat} (hj : j < m.length) (h : fitsAt l m[j].kv = false) : fitsL l (m.map At.kv) = false := by
  unfold fitsL
  rw [List.all_eq_false]
  exact ⟨m[j].kv, List.mem_map.2 ⟨_, List.getElem_mem hj, rfl⟩, by simp [h]⟩
theorem fitsL_step {l : List KV} {m : List At} {j : Nat} (hj : j < m.length) (h : fitsAt l m[j].kv = true) (h0 : fitsL l ((m.map At.kv).take j) = true) : fitsL l ((m.map At.kv).take (j + 1)) = true := by
  rw [take_snoc m hj, fitsL_snoc, h0, h]; rfl
set_option maxHeartbeats 4000000 in
theorem attr_Match (A1 A2 : Option Addr) (l m : List At) (c1 c2 : Nat) (w : World) (h1 : Ats w w.heap.size A1 l) (h2 : Ats w w.heap.size A2 m) (hl : l.length ≤ 9223372036854775807) (hm : m.length ≤ 9223372036854775807) :
    Calls Try.prog 30 #[.slice A1 l.length c1, .slice A2 m.length c2] w fun e w' => e = .returned (.bool (fitsL (l.map At.kv) (m.map At.kv))) ∧ Below w.heap.size w w' := by
  go_enter Try.func30, Try.ntmps30
  go_wp2
  go_loopw [10] (fun x wr => ∃ j : Nat, x = .int .i64 j ∧ j ≤ m.length ∧ Hid (fitsL (l.map At.kv) ((m.map At.kv).take j) = true) ∧ Below w.heap.size w wr ∧ w.heap.size ≤ wr.heap.size) (fun x _ => m.length - (intOf x).toNat)
  case atStart => exact ⟨0, rfl, by omega, rfl, Below.refl _ _, Nat.le_refl _⟩
  case round =>
    obtain ⟨j, rfl, hj, hf, hb, hz⟩ := hrel
    have hw2 := h2.kp (kp_of_below hb)
    have hw1 := (h1.kp (kp_of_below hb)).more hz
    by_cases hji : j = m.length
    · have hf2 : Hid (fitsL (l.map At.kv) (m.map At.kv) = true) := by
        have h3 := hf.out
        rw [List.take_of_length_le (by simp [hji])] at h3
        exact h3
      subst hji
      go_wp2
      go_ret
      exact ⟨ret_bool (by rw [hf2.out]), hb⟩
    · have hjl : j < m.length := by omega
      obtain ⟨ad, rfl, hbl, q1, q2⟩ := hw2.at_ hjl
      obtain ⟨b1, b2, b3⟩ := hw2.body _ (List.getElem_mem hjl)
      have hno : Hid ((look l m[j].kind == some m[j].body) = false → fitsL (l.map At.kv) (m.map At.kv) = false) := fun h => fitsL_stop hjl (by unfold fitsAt; rw [← look_kv]; exact h)
      have hyes : Hid ((look l m[j].kind == some m[j].body) = true → fitsL (l.map At.kv) ((m.map At.kv).take (j + 1)) = true) := fun h => fitsL_step hjl (by unfold fitsAt; rw [← look_kv]; exact h) hf.out
      generalize m[j] = x at *
      obtain ⟨xk, xA, xc, xb⟩ := x
      simp only at q1 q2 b1 b2 b3 hno hyes
      have hbW : Below wr.heap.size wr (wr.alloc (.cells #[.int .i64 xk, .slice xA xb.length xc] 68)) := below_alloc' wr _
      have hx1 := hw1.step hbW
      have hbx := hb.trans (hbW.mono hz)
      rcases has_or l xk with ⟨i, hi⟩ | hn
      · rw [look_has hi] at hno hyes
        have hil := hi.lt
        go_wp2_with fail
        refine (find_has _ l _ i xk _ hx1 hl hi).mono ?_
        rintro e w2 ⟨rfl, hb2⟩
        have hL2 := below_step hb2 hbx (Nat.le_refl _)
        have hy1 := hx1.step hb2
        obtain ⟨a1, rfl, -, p1, p2⟩ := hy1.at_ hi.lt
        have p3 := (hy1.body _ (List.getElem_mem hi.lt)).1
        have b4 := ((((b1.more hz).below hbW).more hbW.size).below hb2).more hb2.size
        have hEq := Lib.hid (fun n => bytes_Equal l[i].A xA l[i].body xb l[i].cap xc (w2.drewN n) w2.heap.size p3 b4)
        generalize l[i].A = yA at *
        generalize l[i].cap = yc at *
        generalize l[i].body = yb at *
        have hkw : (wr.alloc (.cells #[.int .i64 xk, .slice xA xb.length xc] 68)).heap.size ≤ w2.heap.size := hb2.size
        have hbc := bcell hb2
        obtain ⟨hc1, hf1⟩ := hbc
        clear b1 b2 b3 b4 p3
        cases he : yb == xb with
        | true =>
          have hy := Lib.hid (hyes.out (by simpa using he))
          rw [he] at hEq
          clear hno hyes he
          go_wp2
          go_quiet ((go_at_call 36; exact Calls.quiet_of_same (hEq.out _)))
          go_wp2
          go_roundw
          case rel => exact ⟨j + 1, by go_num, by omega, hy, below_dNA hL2 _, by simp at hkw ⊢; omega⟩
          case measure => simp [intOf]; omega
        | false =>
          have hn := Lib.hid (hno.out (by simpa using he))
          rw [he] at hEq
          clear hno hyes he
          go_wp2
          go_quiet ((go_at_call 36; exact Calls.quiet_of_same (hEq.out _)))
          go_wp2
          go_ret
          exact ⟨ret_bool (by rw [hn.out]), below_dNA hL2 _⟩
      · rw [look_hasnt hn] at hno hyes
        have hn2 := Lib.hid (hno.out rfl)
        clear hno hyes
        go_wp2_with fail
        refine (find_hasnt _ l _ xk _ hx1 hl hn).mono ?_
        rintro e w2 ⟨rfl, hb2⟩
        have hL2 := below_step hb2 hbx (Nat.le_refl _)
        go_wp2
        go_quiet (fail)
        go_wp2
        go_ret
        exact ⟨ret_bool (by rw [hn2.out]), below_dNA hL2 _⟩
end Go.Proofs.Ytakooljbkjnilaa
