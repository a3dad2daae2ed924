/- Contracts of attr.Check and of the document's AttrsFault. -/
import Derived.Test.YtdlmamnnamlleaaRu1
import Derived.Test.YtdlmamnnamlleaaFa
namespace Go.Proofs.Ytdlmamnnamlleaa
open Go.ChangeShapes Go.WideShapes Go.ChangeAt Go.RowKit
set_option maxHeartbeats 1000000
set_option maxRecDepth 100000
attribute [local go_sem] kp_refl kp_alloc kp_setCell kp_drew kp_drewN row_new row_old rowAt_new rowAt_old

theorem faultAt_kind {pre : List KV} {x : KV} (h : x.1 < 1 ∨ 18 < x.1) : faultAt pre x = 13 := by unfold faultAt; rw [if_pos h]
theorem faultAt_form {pre : List KV} {x : KV} (h : ¬ (x.1 < 1 ∨ 18 < x.1)) (hf : fitsB x = false) : faultAt pre x = 4 := by unfold faultAt; rw [if_neg h, if_pos hf]
theorem faultAt_arg {pre : List KV} {x : KV} (h : ¬ (x.1 < 1 ∨ 18 < x.1)) (hf : fitsB x = true) (hs : seenK pre x.1 = true) : faultAt pre x = 1 := by unfold faultAt; rw [if_neg h, if_neg (by simp [hf]), if_pos hs]
theorem faultAt_ok {pre : List KV} {x : KV} (h : ¬ (x.1 < 1 ∨ 18 < x.1)) (hf : fitsB x = true) (hs : seenK pre x.1 = false) : faultAt pre x = 0 := by unfold faultAt; rw [if_neg h, if_neg (by simp [hf]), if_neg (by simp [hs])]

theorem take_snoc (l : List At) {j : Nat} (h : j < l.length) : (l.map At.kv).take (j + 1) = (l.map At.kv).take j ++ [l[j].kv] := by
  rw [List.take_succ_eq_append_getElem (by simpa using h)]; simp

theorem goodL_all (l : List At) (h : goodTo (l.map At.kv) l.length) (hl : l.length ≤ 24) : fault (l.map At.kv) = 0 := by
  have h' : goodTo (l.map At.kv) (l.map At.kv).length := by rw [List.length_map]; exact h
  exact h'.all (by rw [List.length_map]; exact hl)
theorem goodL_stop {l : List At} {j : Nat} (h : goodTo (l.map At.kv) j) (hl : l.length ≤ 24) (hj : j < l.length) {z : Int} (hz : z ≠ 0) (hx : faultAt ((l.map At.kv).take j) l[j].kv = z) : fault (l.map At.kv) = z :=
  h.stop (by rw [List.length_map]; exact hl) (by rw [List.length_map]; exact hj) hz (by rw [List.getElem_map]; exact hx)
theorem goodL_step {l : List At} {j : Nat} (h : goodTo (l.map At.kv) j) (hj : j < l.length) (hx : faultAt ((l.map At.kv).take j) l[j].kv = 0) : goodTo (l.map At.kv) (j + 1) :=
  h.step (by rw [List.length_map]; exact hj) (by rw [List.getElem_map]; exact hx)

/-- The marks of Check. -/
def marks (pre : List KV) (k : Nat) : Value := .bool (seenK pre k)
theorem marks0 : (#[.bool false, .bool false, .bool false, .bool false, .bool false, .bool false, .bool false, .bool false, .bool false, .bool false, .bool false, .bool false, .bool false, .bool false, .bool false, .bool false, .bool false, .bool false, .bool false] : Array Value) = fnA 19 (marks []) := by kernel_rfl
theorem marks_step (pre : List KV) (x : KV) (n : Nat) (h : x.1 = n) : updV (marks pre) n (.bool true) = marks (pre ++ [x]) := by
  funext k
  unfold updV marks
  rw [seenK_snoc, h]
  by_cases e : k = n
  · subst e; simp
  · have e2 : ((n : Int) == (k : Int)) = false := by simp; omega
    rw [if_neg e, e2, Bool.or_false]

theorem attr_Check (A : Option Addr) (l : List At) (c : Nat) (w : World) (h : Ats w w.heap.size A l) (hl : l.length ≤ 9223372036854775807) :
    Calls Try.prog 33 #[.slice A l.length c] w fun e w' => e = .returned (.int .i64 (fault (l.map At.kv))) ∧ Below w.heap.size w w' := by
  by_cases hL : 24 < l.length
  · have hp := Lib.hid (fault_large (l := l.map At.kv) (by simpa using hL))
    have hL' : (24 : Int) < (l.length : Int) := by omega
    go_enter Try.func33, Try.ntmps33
    go_wp2
    go_ret
    exact ⟨ret_int (by rw [hp.out]), Below.refl _ _⟩
  · have hL' : ¬ (24 : Int) < (l.length : Int) := by omega
    go_enter Try.func33, Try.ntmps33
    go_wp2
    have h0 : Fa (w.alloc (.cells #[.bool false, .bool false, .bool false, .bool false, .bool false, .bool false, .bool false, .bool false, .bool false, .bool false, .bool false, .bool false, .bool false, .bool false, .bool false, .bool false, .bool false, .bool false, .bool false] 37)) w.heap.size 19 (marks []) := Fa.newOf _ rfl marks0
    go_loopw [11] (fun x wr => ∃ j : Nat, x = .int .i64 j ∧ j ≤ l.length ∧ Below w.heap.size w wr ∧ w.heap.size < wr.heap.size ∧ Fa wr w.heap.size 19 (marks ((l.map At.kv).take j)) ∧ goodTo (l.map At.kv) j) (fun x _ => l.length - (intOf x).toNat)
    case atStart => exact ⟨0, rfl, by omega, by go_grown, by simp, h0, goodTo.zero _⟩
    case round =>
      obtain ⟨j, rfl, hj, hb, hz, hth, hgo⟩ := hrel
      by_cases hji : j = l.length
      · subst hji
        have hp := Lib.hid (goodL_all l hgo (by omega))
        go_wp2
        go_ret
        exact ⟨ret_int (by rw [hp.out]), hb⟩
      · have hjl : j < l.length := by omega
        have hw := h.kp (kp_of_below hb)
        obtain ⟨ad, rfl, hbl, c1, c2⟩ := hw.at_ hjl
        obtain ⟨b1, b2, b3⟩ := hw.body _ (List.getElem_mem hjl)
        have hstop := Lib.hid (fun z hz hx => goodL_stop (z := z) hgo (by omega) hjl hz hx)
        have hstep := Lib.hid (fun hx => goodL_step hgo hjl hx)
        have hsn := Lib.hid (take_snoc l hjl)
        generalize l[j] = x at *
        obtain ⟨xk, xA, xc, xb⟩ := x
        simp only [At.kv] at c1 c2 b1 b2 b3 hstop hstep hsn
        have hbx := below_alloc' wr (.cells #[.int .i64 xk, .slice xA xb.length xc] 120)
        have hfit := attr_fits ⟨xk, xA, xc, xb⟩ (wr.alloc (.cells #[.int .i64 xk, .slice xA xb.length xc] 120)) w.heap.size (b1.below (hbx.mono (by omega))) (by simp; omega) ⟨b2, b3⟩
        simp only [At.kv] at hfit
        replace hfit := Lib.hid hfit
        have hbb := hb.trans (hbx.mono (Nat.le_of_lt hz))
        by_cases hk : xk < 1 ∨ 18 < xk
        · have hp := Lib.hid (hstop.out 13 (by omega) (faultAt_kind hk))
          rcases (by omega : xk < 1 ∨ (¬ xk < 1 ∧ 18 < xk)) with hk1 | ⟨hk1, hk2⟩
          · clear hk
            go_wp2
            go_ret
            exact ⟨ret_int (by rw [hp.out]), by go_grown⟩
          · clear hk
            go_wp2
            go_ret
            exact ⟨ret_int (by rw [hp.out]), by go_grown⟩
        · obtain ⟨hk1, hk2⟩ : ¬ xk < 1 ∧ ¬ 18 < xk := by omega
          have hkH := Lib.hid hk
          clear hk
          cases hf : fitsB (xk, xb) with
          | false =>
            have hp := Lib.hid (hstop.out 4 (by omega) (faultAt_form hkH.out hf))
            have hfH := Lib.hid hf
            clear hf
            go_wp2_with fail
            refine hfit.out.mono ?_
            rintro e w' ⟨rfl, hb1⟩
            rw [hfH.out]
            go_wp2
            go_ret
            exact ⟨ret_int (by rw [hp.out]), hbb.trans (hb1.mono (by simp; omega))⟩
          | true =>
            obtain ⟨n, rfl⟩ : ∃ n : Nat, xk = n := ⟨xk.toNat, by omega⟩
            have hfH := Lib.hid hf
            clear hf
            cases hs : seenK ((l.map At.kv).take j) (n : Int) with
            | true =>
              have hp := Lib.hid (hstop.out 1 (by omega) (faultAt_arg hkH.out hfH.out hs))
              have hc3 := Lib.hid (fun W (hW : Below (wr.alloc (.cells #[.int .i64 (n : Int), .slice xA xb.length xc] 120)).heap.size (wr.alloc (.cells #[.int .i64 (n : Int), .slice xA xb.length xc] 120)) W) => (((hth.step hbx).step hW).cell (show n < 19 by omega)).trans (by unfold marks; rw [hs]))
              clear hs
              go_wp2_with fail
              refine hfit.out.mono ?_
              rintro e w' ⟨rfl, hb1⟩
              rw [hfH.out]
              have hc4 := hc3.out w' hb1
              have hc5 := (bcell hb1).1 wr.heap.size 0 (by simp)
              go_wp2
              go_ret
              exact ⟨ret_int (by rw [hp.out]), hbb.trans (hb1.mono (by simp; omega))⟩
            | false =>
              have hx0 := Lib.hid (hstep.out (faultAt_ok hkH.out hfH.out hs))
              have hc3 := Lib.hid (fun W (hW : Below (wr.alloc (.cells #[.int .i64 (n : Int), .slice xA xb.length xc] 120)).heap.size (wr.alloc (.cells #[.int .i64 (n : Int), .slice xA xb.length xc] 120)) W) => (hth.step hbx).step hW)
              have hs' := Lib.hid hs
              clear hs
              go_wp2_with fail
              refine hfit.out.mono ?_
              rintro e w' ⟨rfl, hb1⟩
              rw [hfH.out]
              have hc5 := (bcell hb1).1 wr.heap.size 0 (by simp)
              have hF := hc3.out w' hb1
              have hc4 : w'.cell? ⟨w.heap.size, n, none⟩ = some (.bool false) := (hF.cell (show n < 19 by omega)).trans (by unfold marks; rw [hs'.out])
              have hc6 := hF.frozen n
              have hF2 := hF.set n (.bool true)
              rw [marks_step _ ((n : Int), xb) n rfl] at hF2
              have hB' := hbb.trans (hb1.mono (by simp; omega))
              have hsz := hb1.size
              simp only [World.size_alloc] at hsz
              go_wp2
              go_roundw
              case rel => exact ⟨j + 1, by go_num, by omega, by go_grown, by simp; omega, by rw [hsn.out]; exact hF2, hx0.out⟩
              case measure => simp [intOf]; omega
end Go.Proofs.Ytdlmamnnamlleaa
