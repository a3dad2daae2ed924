/- What the document's Made answers (definitions and small laws). -/
import Derived.Test.YtakooljbkjnilaaRu15
namespace Go.Proofs.Ytakooljbkjnilaa
open Go.ChangeShapes Go.WideShapes Go.ChangeAt Go.RowKit
set_option maxHeartbeats 1000000
set_option maxRecDepth 100000
attribute [local go_sem] kp_refl kp_alloc kp_setCell kp_drew kp_drewN row_old rowAt_new rowAt_old
def scanRAt (C : Nat) (k : Int) : Int := if belongs C k = false then 13 else if 10 ≤ k ∧ k ≤ 12 then 12 else 0
def scanR (C : Nat) : List Int → Int
  | [] => 0
  | k :: r => if scanRAt C k = 0 then scanR C r else scanRAt C k
theorem scanR_stop {C : Nat} {z : Int} (hz : z ≠ 0) : ∀ (j : Nat) (l : List Int) (hj : j < l.length), (∀ i (h : i < j), scanRAt C (l[i]'(by omega)) = 0) → scanRAt C l[j] = z → scanR C l = z := by
  intro j
  induction j with
  | zero =>
    intro l hj _ h
    cases l with
    | nil => simp at hj
    | cons x r => simp only [List.getElem_cons_zero] at h; simp only [scanR, h, if_neg hz]
  | succ j ih =>
    intro l hj h0 h
    cases l with
    | nil => simp at hj
    | cons x r =>
      have h1 := h0 0 (by omega)
      simp only [List.getElem_cons_zero] at h1
      simp only [scanR, h1, if_true]
      exact ih r (by simp at hj; omega) (fun i hi => by simpa using h0 (i + 1) (by omega)) (by simpa using h)
theorem scanR_all {C : Nat} : ∀ (l : List Int), (∀ i (h : i < l.length), scanRAt C l[i] = 0) → scanR C l = 0 := by
  intro l
  induction l with
  | nil => intro _; rfl
  | cons x r ih =>
    intro h
    have h1 := h 0 (by simp)
    simp only [List.getElem_cons_zero] at h1
    simp only [scanR, h1, if_true]
    exact ih fun i hi => by
      have h2 := h (i + 1) (by simp; omega)
      simpa using h2

/-- The card that a class begins with. -/
def dHas (C k : Nat) : Bool := inK k && belongs C (k : Int)
def dV (C k : Nat) : List UInt8 := if dHas C k = true ∧ 4 < k then flagB (k == 7 || (k == 9 || (k == 6 && C % 2 == 0))) else []
def dTo (C n : Nat) : Crd := ⟨fun k => decide (k < n) && dHas C k, fun k => if k < n then dV C k else []⟩
theorem dTo_one (C : Nat) : dTo C 1 = crd0 := by
  unfold dTo crd0
  congr 1
  · funext k
    by_cases h : k < 1
    · obtain rfl : k = 0 := by omega
      simp [dHas, inK]
    · simp [h]
  · funext k
    by_cases h : k < 1
    · obtain rfl : k = 0 := by omega
      simp [dV]
    · simp [h]
theorem dTo_no {C n : Nat} (h : dHas C n = false) : dTo C (n + 1) = dTo C n := by
  unfold dTo
  congr 1
  · funext k
    by_cases e : k = n
    · subst e; simp [h]
    · by_cases h2 : k < n
      · simp [h2, show k < n + 1 by omega]
      · simp [h2, show ¬ k < n + 1 by omega]
  · funext k
    by_cases e : k = n
    · subst e; simp [dV, h]
    · by_cases h2 : k < n
      · simp [h2, show k < n + 1 by omega]
      · simp [h2, show ¬ k < n + 1 by omega]
theorem dTo_low {C n : Nat} (h : dHas C n = true) (h4 : n ≤ 4) : dTo C (n + 1) = ⟨updH (dTo C n).has n, (dTo C n).v⟩ := by
  unfold dTo updH
  congr 1
  · funext k
    by_cases e : k = n
    · subst e; simp [h]
    · by_cases h2 : k < n
      · simp [h2, e, show k < n + 1 by omega]
      · simp [h2, e, show ¬ k < n + 1 by omega]
  · funext k
    by_cases e : k = n
    · subst e; simp [dV, show ¬ 4 < k by omega]
    · by_cases h2 : k < n
      · simp [h2, show k < n + 1 by omega]
      · simp [h2, show ¬ k < n + 1 by omega]
theorem dTo_high {C n : Nat} (h : dHas C n = true) (h4 : 4 < n) : dTo C (n + 1) = ⟨updH (dTo C n).has n, updB (dTo C n).v n (flagB (n == 7 || (n == 9 || (n == 6 && C % 2 == 0))))⟩ := by
  unfold dTo updH updB
  congr 1
  · funext k
    by_cases e : k = n
    · subst e; simp [h]
    · by_cases h2 : k < n
      · simp [h2, e, show k < n + 1 by omega]
      · simp [h2, e, show ¬ k < n + 1 by omega]
  · funext k
    by_cases e : k = n
    · subst e; simp [dV, h, h4]
    · by_cases h2 : k < n
      · simp [h2, e, show k < n + 1 by omega]
      · simp [h2, e, show ¬ k < n + 1 by omega]
def Crd.setV (c : Crd) (n : Nat) (b : List UInt8) : Crd := ⟨c.has, updB c.v n b⟩
theorem cf_setV {w : World} {g : Nat} (c : Crd) {n : Nat} (hn : n < 19) (b : List UInt8) : Fa w g 38 (updV (cf c) (19 + n) (strV b)) → CrdAt w g (c.setV n b) := fun h => h.congr fun i hi => by
  simp only [updV, cf, Crd.setV, updB]
  by_cases h1 : i = 19 + n
  · subst h1
    rw [if_pos rfl, if_neg (by omega), Nat.add_sub_cancel_left]; simp
  · rw [if_neg h1]
    by_cases h3 : i < 19
    · rw [if_pos h3, if_pos h3]
    · rw [if_neg h3, if_neg h3, if_neg (show ¬ i - 19 = n by omega)]
theorem cf_setH {w : World} {g : Nat} (c : Crd) {n : Nat} (hn : n < 19) : Fa w g 38 (updV (cf c) n (.bool true)) → CrdAt w g ⟨updH c.has n, c.v⟩ := fun h => h.congr fun i hi => by
  simp only [updV, cf, updH]
  by_cases h2 : i = n
  · subst h2; rw [if_pos rfl, if_pos hn]; simp
  · rw [if_neg h2]
    by_cases h3 : i < 19
    · rw [if_pos h3, if_pos h3]; simp [h2]
    · rw [if_neg h3, if_neg h3]
/-- The card that Made ends with, ahead of its last look. -/
def madeU (c : Crd) (C : Nat) : Crd := (dTo C 19).upon c
def madeD (c : Crd) (C : Nat) (loc : Bool) : Crd :=
  if C % 2 = 0 then (((madeU c C).setV 12 (flagB loc)).setV 10 (flagB (loc && ((madeU c C).setV 12 (flagB loc)).one 8))).setV 11 (flagB (loc && !(((madeU c C).setV 12 (flagB loc)).setV 10 (flagB (loc && ((madeU c C).setV 12 (flagB loc)).one 8))).one 9))
  else madeU c C
def madeR3 (c : Crd) (C : Nat) (loc : Bool) : Crd × Int := if (madeD c C loc).object = false then (crd0, 12) else (madeD c C loc, 0)
def madeR2 (c : Crd) (C : Nat) (loc : Bool) : Crd × Int := if c.has 4 = false then (crd0, 3) else if sizedR C (c.v 4).length = false then (crd0, 4) else madeR3 c C loc
def madeR1 (l : List Int) (c : Crd) (C : Nat) (loc : Bool) : Crd × Int := if scanR C l ≠ 0 then (crd0, scanR C l) else madeR2 c C loc
def madeR0 (l : List Int) (c : Crd) (C : Nat) (loc : Bool) : Crd × Int := if C = 0 then (crd0, 1) else madeR1 l c C loc
def madeR (l : List KV) (loc : Bool) : Crd × Int := if fault l ≠ 0 then (crd0, fault l) else madeR0 (l.map (·.1)) (cardOf l) (cardOf l).cls loc
end Go.Proofs.Ytakooljbkjnilaa
