/- rule.turn and the document's Turned answer alike. Plain law. -/
import Derived.Test.YtdlmamnnamlleaaCh6
import Derived.Test.YtdlmamnnamlleaaCh4
import Derived.Test.YtdlmamnnamlleaaRu18
namespace Go.Proofs.Ytdlmamnnamlleaa
open Go.ChangeShapes Go.WideShapes Go.ChangeAt Go.RowKit
set_option maxHeartbeats 1000000

theorem card_full (s : List KV) : Full (cardOf s) := ⟨fun k h => has_in h, fun k h => by
  by_cases hin : inK k = true
  · rw [has_eq s hin] at h
    rw [v_eq s hin]
    cases hl : lookK s k with
    | none => rfl
    | some b => rw [hl] at h; cases h
  · simp [cardOf, hin]⟩
theorem card_fits {s : List KV} (hg : Good s) (k : Nat) (h : (cardOf s).has k = true) : fitsB ((k : Int), (cardOf s).v k) = true := by
  have hin := has_in h
  rw [has_eq s hin] at h
  rw [v_eq s hin]
  cases hl : lookK s k with
  | none => rw [hl] at h; cases h
  | some b => exact hg.fits _ (lookK_some hl)
theorem turns_bad {one : Nat → Bool} {on2 : Int → Bool} (h6 : on2 6 = one 6) (h8 : on2 8 = one 8) (h9 : on2 9 = one 9) {n y : Nat} (hy : 4 < n → y ≤ 1) (cp : Bool) : turnsP on2 (n : Int) y cp = !badR one n y cp := by
  unfold turnsP badR
  by_cases hd : n = 1 ∨ n = 4 ∨ n = 10 ∨ n = 11 ∨ n = 12
  · rw [if_pos hd, if_pos (by omega)]; rfl
  rw [if_neg hd, if_neg (by omega)]
  by_cases h5 : n = 5
  · rw [if_pos h5, if_pos (by omega)]; simp
  rw [if_neg h5, if_neg (by omega)]
  have hyy : 4 < n → (y == 1) = !(y == 0) := fun h => by
    have := hy h
    have h01 : y = 0 ∨ y = 1 := by omega
    rcases h01 with rfl | rfl <;> rfl
  by_cases h6' : n = 6
  · rw [if_pos h6', if_pos (by omega), h6, hyy (by omega)]
    cases cp <;> cases (y == 0) <;> cases one 6 <;> rfl
  rw [if_neg h6', if_neg (by omega)]
  by_cases h8' : n = 8
  · rw [if_pos h8', if_pos (by omega), h8, hyy (by omega)]
    cases (y == 0) <;> cases one 8 <;> rfl
  rw [if_neg h8', if_neg (by omega)]
  by_cases h9' : n = 9
  · rw [if_pos h9', if_pos (by omega), h9, hyy (by omega)]
    cases (y == 0) <;> cases one 9 <;> rfl
  rw [if_neg h9', if_neg (by omega)]; rfl
theorem scan_at {s : List KV} {x : KV} (hk : 1 ≤ x.1 ∧ x.1 ≤ 18) (hf : fitsB x = true) (cp : Bool) : scanTAt s cp x = scanUAt (cardOf s) cp x := by
  obtain ⟨k, b⟩ := x
  simp only at hk
  obtain ⟨n, rfl⟩ : ∃ n : Nat, k = (n : Int) := ⟨k.toNat, by omega⟩
  unfold scanTAt scanUAt
  simp only [Int.toNat_natCast]
  have hin : inK n = true := by simp [inK]; omega
  rw [has_eq s hin]
  have hy : 4 < n → headB b ≤ 1 := fun h => by
    obtain ⟨y, hy, hy1⟩ := fits_one (by omega) hf
    subst hy
    simpa [headB] using hy1
  rw [turns_bad (one := (cardOf s).one) (one_eq s (k := 6) (by decide)).symm (one_eq s (k := 8) (by decide)).symm (one_eq s (k := 9) (by decide)).symm hy cp]
  by_cases h1 : (lookK s (n : Int)).isSome = false
  · rw [if_pos h1, if_pos h1]
  · rw [if_neg h1, if_neg h1]
    by_cases h2 : badR (cardOf s).one n (headB b) cp = true
    · rw [if_pos h2, if_pos (by rw [h2]; rfl)]
    · rw [if_neg h2, if_neg (by simp [h2])]
theorem scan_same {s : List KV} {cp : Bool} : ∀ {t : List KV}, (∀ x ∈ t, 1 ≤ x.1 ∧ x.1 ≤ 18) → (∀ x ∈ t, fitsB x = true) → scanT s cp t = scanG (scanUAt (cardOf s) cp) t := by
  intro t
  induction t with
  | nil => intro _ _; rfl
  | cons x r ih =>
    intro hk hf
    unfold scanT scanG
    rw [scan_at (hk x (by simp)) (hf x (by simp)) cp, ih (fun y hy => hk y (by simp [hy])) (fun y hy => hf y (by simp [hy]))]
theorem turn_eq (s t : List KV) (cp : Bool) : (turnP s t cp).2 = (turnedR s t cp).2 ∧ (turnP s t cp).1 = (turnedR s t cp).1.attrs := by
  have hc0 := crd0_attrs
  unfold turnP turnedR
  rw [validK_eq]
  by_cases hv : validR s = false
  · rw [if_pos hv, if_pos hv]; exact ⟨rfl, hc0.symm⟩
  rw [if_neg hv, if_neg hv]
  by_cases hft : fault t ≠ 0
  · rw [if_pos hft, if_pos hft]; exact ⟨rfl, hc0.symm⟩
  rw [if_neg hft, if_neg hft, one_eq s (k := 7) (by decide)]
  have hft : fault t = 0 := by omega
  have hfs : fault s = 0 := by
    cases h : validR s with
    | false => exact absurd h hv
    | true =>
      unfold validR at h
      simp only [Bool.and_eq_true, beq_iff_eq] at h
      exact h.1
  by_cases hc : cp = false ∧ lookOneK s 7 = false
  · rw [if_pos hc]
    rw [if_pos (show cp = false ∧ lookOneK s ((7 : Nat) : Int) = false from hc)]
    exact ⟨rfl, hc0.symm⟩
  rw [if_neg hc, if_neg (show ¬ (cp = false ∧ lookOneK s ((7 : Nat) : Int) = false) from hc)]
  have hgt := good_of hft
  have hgs := good_of hfs
  unfold turnP1 turnedR1
  rw [scan_same hgt.kind hgt.fits]
  by_cases hz : scanG (scanUAt (cardOf s) cp) t ≠ 0
  · rw [if_pos hz, if_pos hz]; exact ⟨rfl, hc0.symm⟩
  rw [if_neg hz, if_neg hz]
  unfold turnP2 turnedR2
  have hov : overS s t = ((cardOf s).upon (cardOf t)).attrs := by
    unfold overS
    rw [hfs, hft]; rfl
  have hob : validK (overS s t) = ((cardOf s).upon (cardOf t)).object := by
    rw [hov, ← over_card]
    exact (card_full _).valid (card_fits (over_good hgs hgt))
  rw [hob]
  by_cases ho : ((cardOf s).upon (cardOf t)).object = false
  · rw [if_pos ho, if_pos ho]; exact ⟨rfl, hc0.symm⟩
  · rw [if_neg ho, if_neg ho]; exact ⟨rfl, hov⟩
end Go.Proofs.Ytdlmamnnamlleaa
