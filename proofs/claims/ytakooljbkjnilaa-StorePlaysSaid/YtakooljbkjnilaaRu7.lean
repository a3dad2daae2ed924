/- Cards of attributes: SameAttrs, Upon. -/
import Derived.Test.YtakooljbkjnilaaRu6
import Derived.Deep.QuietTactic
namespace Go.Proofs.Ytakooljbkjnilaa
open Go.ChangeShapes Go.WideShapes Go.ChangeAt Go.RowKit
set_option maxHeartbeats 1000000
set_option maxRecDepth 100000
attribute [local go_sem] kp_refl kp_alloc kp_setCell kp_drew kp_drewN row_new row_old rowAt_new rowAt_old

theorem below_dNA {B : Nat} {w W : World} (h : Below B w W) (n : Nat) : Below B w (W.drewN n) := by
  exact ⟨h.os, h.tape, h.output, h.size, h.block⟩
def sameKV (l m : List At) : Bool := decide (l.map At.kv = m.map At.kv)
theorem sameKV_len {l m : List At} (h : ¬ l.length = m.length) : sameKV l m = false := by
  simp only [sameKV, decide_eq_false_iff_not]
  intro e
  have := congrArg List.length e
  simp at this; exact h this
theorem sameKV_at {l m : List At} {k : Nat} (hk : k < l.length) (hk2 : k < m.length) (h : ¬ l[k].kv = m[k].kv) : sameKV l m = false := by
  simp only [sameKV, decide_eq_false_iff_not]
  intro e
  have h1 : (l.map At.kv)[k]? = (m.map At.kv)[k]? := by rw [e]
  simp [hk, hk2] at h1
  exact h h1
set_option maxHeartbeats 8000000 in
theorem ref_SameAttrs (A1 A2 : Option Addr) (l m : List At) (c1 c2 : Nat) (w : World) (h1 : Ats w w.heap.size A1 l) (h2 : Ats w w.heap.size A2 m) (hn1 : l.length ≤ 9223372036854775807) :
    Calls Try.prog 24 #[.slice A1 l.length c1, .slice A2 m.length c2] w fun e w' => e = .returned (.bool (sameKV l m)) ∧ Below w.heap.size w w' := by
  by_cases hlen : l.length = m.length
  · have hlb : ((l.length : Int) != (m.length : Int)) = false := by simp [hlen]
    have HL := Lib.hid hlen
    clear hlen
    go_enter Try.func24, Try.ntmps24
    go_wp2
    go_loopw [13] (fun i wr => ∃ k : Nat, k ≤ l.length ∧ i = .int .i64 k ∧ Hid ((l.take k).map At.kv = (m.take k).map At.kv) ∧ Below w.heap.size w wr) (fun i _ => l.length - (intOf i).toNat)
    case atStart => exact ⟨0, by omega, rfl, rfl, Below.refl _ _⟩
    case round =>
      obtain ⟨k, hk, rfl, heq, hb⟩ := hrel
      by_cases hlt : k < l.length
      · have hlt2 : k < m.length := by have := HL.out; omega
        have hkp := kp_of_below hb
        obtain ⟨a1, rfl, -, q1, q2⟩ := (h1.kp hkp).at_ hlt
        obtain ⟨a2, rfl, -, q3, q4⟩ := (h2.kp hkp).at_ hlt2
        have hx := (h1.body _ (List.getElem_mem hlt)).1
        have hy := (h2.body _ (List.getElem_mem hlt2)).1
        have hno := fun (h : ¬ (l[k].kind = m[k].kind ∧ l[k].body = m[k].body)) => Lib.hid (sameKV_at hlt hlt2 (by simpa [At.kv] using h))
        have hyes : Hid (l[k].kv = m[k].kv → (l.take (k + 1)).map At.kv = (m.take (k + 1)).map At.kv) := by
          intro h
          rw [List.take_succ_eq_append_getElem hlt, List.take_succ_eq_append_getElem hlt2, List.map_append, List.map_append, heq.out]
          simp only [List.map_cons, List.map_nil, h]
        unfold At.kv at hyes
        generalize l[k] = x at *
        generalize m[k] = y at *
        obtain ⟨xt, xA, xc, xb⟩ := x
        obtain ⟨yt, yA, yc, yb⟩ := y
        simp only at q1 q2 q3 q4 hx hy hno hyes
        have hc1 : ∀ W : World, Kp w.heap.size w W → (convert 66 9 (.slice xA xb.length xc)).run Try.prog W = .ok (.string ⟨xb.toArray⟩) W := fun W hW => conv_rd Try.underlying66 Try.underlying5 Try.underlying9 (hx.kp hW)
        have hc2 : ∀ W : World, Kp w.heap.size w W → (convert 66 9 (.slice yA yb.length yc)).run Try.prog W = .ok (.string ⟨yb.toArray⟩) W := fun W hW => conv_rd Try.underlying66 Try.underlying5 Try.underlying9 (hy.kp hW)
        have hbx : (k : Int) < (m.length : Int) := by omega
        clear hx hy
        have hno' := Lib.hid hno
        clear hno
        by_cases ht : xt = yt
        · subst ht
          by_cases hbd : xb = yb
          · subst hbd
            go_wp2
            go_quiet (fail)
            go_wp2
            go_roundw
            case rel => exact ⟨k + 1, by omega, by go_num, hyes.out (by trivial), below_dNA hb _⟩
            case measure => simp [intOf]; omega
          · have hn3 := hno'.out (fun h => hbd h.2)
            have hbd2 : (xb == yb) = false := by simpa using hbd
            go_wp2
            go_quiet (fail)
            go_wp2
            go_ret
            exact ⟨ret_bool (by rw [hn3.out]), below_dNA hb _⟩
        · have hn3 := hno'.out (fun h => ht h.1)
          have ht2 : (xt != yt) = true := by rw [bne_iff_ne]; exact ht
          have ht3 : (xt == yt) = false := by rw [beq_eq_false_iff_ne]; exact ht
          have ht4 : decide (xt = yt) = false := decide_eq_false ht
          clear hyes hno'
          go_wp2
          go_region
          go_wp2
          go_ret
          exact ⟨ret_bool (by rw [hn3.out]), below_dNA hb _⟩
      · go_wp2
        go_ret
        have e1 : l.take k = l := List.take_of_length_le (by omega)
        have e2 : m.take k = m := List.take_of_length_le (by have := HL.out; omega)
        have h3 := heq.out
        rw [e1, e2] at h3
        exact ⟨ret_bool (by simp [sameKV, h3]), hb⟩
  · have hlb : ((l.length : Int) != (m.length : Int)) = true := by rw [bne_iff_ne]; omega
    have hno := Lib.hid (sameKV_len hlen)
    clear hlen
    go_enter Try.func24, Try.ntmps24
    go_wp2
    go_ret
    exact ⟨ret_bool (by rw [hno.out]), Below.refl _ _⟩

end Go.Proofs.Ytakooljbkjnilaa
