/- rule.turns: may an attribute be set so? -/
import Derived.Test.YtdlmamnnamlleaaCh1
namespace Go.Proofs.Ytdlmamnnamlleaa
open Go.ChangeShapes Go.WideShapes Go.ChangeAt Go.RowKit
set_option maxHeartbeats 1000000
set_option maxRecDepth 100000
attribute [local go_sem] kp_refl kp_alloc kp_setCell kp_drew kp_drewN row_new row_old rowAt_new rowAt_old

def turnsP (one : Int → Bool) (k : Int) (y : Nat) (cp : Bool) : Bool :=
  if k = 1 ∨ k = 4 ∨ k = 10 ∨ k = 11 ∨ k = 12 then false else if k = 5 then cp else if k = 6 then cp && (y == 1 || !one 6) else if k = 8 then y == 1 || !one 8 else if k = 9 then y == 0 || one 9 else true
theorem fits_one {k : Int} {b : List UInt8} (h4 : 4 < k) (h : fitsB (k, b) = true) : ∃ y : UInt8, b = [y] ∧ y.toNat ≤ 1 := by
  unfold fitsB at h
  simp only at h
  rw [if_neg (by omega), if_neg (by omega), if_neg (by omega)] at h
  cases b with
  | nil => simp at h
  | cons y r =>
    cases r with
    | cons z r => simp at h
    | nil => exact ⟨y, rfl, by simpa [headB] using h⟩
set_option maxHeartbeats 4000000 in
theorem rule_turns (A1 : Option Addr) (l : List At) (c1 : Nat) (x : At) (cp : Bool) (w : World) (h1 : Ats w w.heap.size A1 l) (hl : l.length ≤ 9223372036854775807)
    (hx : Rd w w.heap.size x.A (bytesV x.body)) (hc : x.body.length ≤ x.cap ∧ (x.cap ≤ 9223372036854775807 ∧ x.body.length ≤ 140737488351232)) (hf : fitsB x.kv = true) (hk : 1 ≤ x.kind ∧ x.kind ≤ 18) :
    Calls Try.prog 140 #[.slice A1 l.length c1, .agg x.cells.toArray, .bool cp] w fun e w' => e = .returned (.bool (turnsP (lookOne l) x.kind (headB x.body) cp)) ∧ Below w.heap.size w w' := by
  obtain ⟨xk, xA, xc, xb⟩ := x
  unfold At.cells
  unfold At.kv at hf
  simp only at hx hc hf hk ⊢
  have hbW := below_alloc' w (.cells #[.int .i64 xk, .slice xA xb.length xc] 120)
  have h1W := h1.step hbW
  by_cases hd : xk = 1 ∨ xk = 4 ∨ xk = 10 ∨ xk = 11 ∨ xk = 12
  · have hT : Hid (turnsP (lookOne l) xk (headB xb) cp = false) := by show _ = _; unfold turnsP; rw [if_pos hd]
    rw [hT.out]
    clear hf
    rcases hd with rfl | rfl | rfl | rfl | rfl
    all_goals
      go_enter Try.func140, Try.ntmps140
      go_wp2
      go_ret
      exact ⟨rfl, hbW⟩
  · have d1 : (xk == 1) = false := by rw [beq_eq_false_iff_ne]; omega
    have d4 : (xk == 4) = false := by rw [beq_eq_false_iff_ne]; omega
    have d10 : (xk == 10) = false := by rw [beq_eq_false_iff_ne]; omega
    have d11 : (xk == 11) = false := by rw [beq_eq_false_iff_ne]; omega
    have d12 : (xk == 12) = false := by rw [beq_eq_false_iff_ne]; omega
    by_cases k5 : xk = 5
    · subst k5
      have hT : Hid (turnsP (lookOne l) 5 (headB xb) cp = cp) := by show _ = _; unfold turnsP; rw [if_neg hd, if_pos rfl]
      rw [hT.out]
      clear hf hd d1 d4 d10 d11 d12
      go_enter Try.func140, Try.ntmps140
      go_wp2
      go_ret
      exact ⟨rfl, hbW⟩
    have d5 : (xk == 5) = false := by rw [beq_eq_false_iff_ne]; omega
    by_cases k689 : xk = 6 ∨ xk = 8 ∨ xk = 9
    · obtain ⟨y, hy, hy1⟩ := fits_one (by omega) hf
      subst hy
      simp only [List.length_cons, List.length_nil, Nat.zero_add] at hbW h1W ⊢
      obtain ⟨xd, rfl, hxb, cx⟩ := hx.at_ (k := 0) (by simp [bytesV])
      have cx' : w.cell? xd = some (.int .u8 y.toNat) := by simpa [bytesV, Addr.add] using cx
      have cxW := (hbW.cell (p := xd) hxb).trans cx'
      have hyH : Hid (headB [y] = y.toNat) := rfl
      rw [hyH.out]
      generalize y.toNat = n at *
      have hno := Lib.hid (fun k W (hW : Ats W W.heap.size A1 l) => is_any A1 l c1 k W hW hl)
      rcases k689 with rfl | rfl | rfl
      · have hT : Hid (turnsP (lookOne l) 6 n cp = (cp && (n == 1 || !lookOne l 6))) := rfl
        rw [hT.out]
        clear hf hd d1 d4 d10 d11 d12 d5 k5 cx cx'
        go_enter Try.func140, Try.ntmps140
        cases cp with
        | false =>
          go_wp2
          go_ret
          exact ⟨rfl, hbW⟩
        | true =>
          by_cases hn : n = 1
          · subst hn
            rw [show ((1 : Nat) : Int) = (1 : Int) from rfl] at cxW
            go_wp2
            go_ret
            exact ⟨rfl, hbW⟩
          · have hn0 : n = 0 := by omega
            subst hn0
            rw [show ((0 : Nat) : Int) = (0 : Int) from rfl] at cxW
            go_wp2_with fail
            refine (hno.out _ _ h1W).mono ?_
            rintro e w2 ⟨rfl, hb2⟩
            have hL := below_step hb2 hbW (Nat.le_refl _)
            go_wp2
            go_ret
            exact ⟨by simp, hL⟩
      · have hT : Hid (turnsP (lookOne l) 8 n cp = (n == 1 || !lookOne l 8)) := rfl
        rw [hT.out]
        clear hf hd d1 d4 d10 d11 d12 d5 k5 cx cx'
        go_enter Try.func140, Try.ntmps140
        by_cases hn : n = 1
        · subst hn
          rw [show ((1 : Nat) : Int) = (1 : Int) from rfl] at cxW
          go_wp2
          go_ret
          exact ⟨rfl, hbW⟩
        · have hn0 : n = 0 := by omega
          subst hn0
          rw [show ((0 : Nat) : Int) = (0 : Int) from rfl] at cxW
          go_wp2_with fail
          refine (hno.out _ _ h1W).mono ?_
          rintro e w2 ⟨rfl, hb2⟩
          have hL := below_step hb2 hbW (Nat.le_refl _)
          go_wp2
          go_ret
          exact ⟨by simp, hL⟩
      · have hT : Hid (turnsP (lookOne l) 9 n cp = (n == 0 || lookOne l 9)) := rfl
        rw [hT.out]
        clear hf hd d1 d4 d10 d11 d12 d5 k5 cx cx'
        go_enter Try.func140, Try.ntmps140
        by_cases hn : n = 0
        · subst hn
          rw [show ((0 : Nat) : Int) = (0 : Int) from rfl] at cxW
          go_wp2
          go_ret
          exact ⟨rfl, hbW⟩
        · have hn0 : n = 1 := by omega
          subst hn0
          rw [show ((1 : Nat) : Int) = (1 : Int) from rfl] at cxW
          go_wp2_with fail
          refine (hno.out _ _ h1W).mono ?_
          rintro e w2 ⟨rfl, hb2⟩
          have hL := below_step hb2 hbW (Nat.le_refl _)
          go_wp2
          go_ret
          exact ⟨by simp, hL⟩
    · have hT : Hid (turnsP (lookOne l) xk (headB xb) cp = true) := by show _ = _; unfold turnsP; rw [if_neg hd, if_neg k5, if_neg (by omega), if_neg (by omega), if_neg (by omega)]
      rw [hT.out]
      have d6 : (xk == 6) = false := by rw [beq_eq_false_iff_ne]; omega
      have d8 : (xk == 8) = false := by rw [beq_eq_false_iff_ne]; omega
      have d9 : (xk == 9) = false := by rw [beq_eq_false_iff_ne]; omega
      clear hf hd k5 k689
      go_enter Try.func140, Try.ntmps140
      go_wp2
      go_ret
      exact ⟨rfl, hbW⟩
end Go.Proofs.Ytdlmamnnamlleaa
