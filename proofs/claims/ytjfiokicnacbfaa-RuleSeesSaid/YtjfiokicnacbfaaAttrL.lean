/- RuleSees: the law's function returns true. -/
import Derived.Test.YtjfiokicnacbfaaAttr3
namespace Go.Proofs.Ytjfiokicnacbfaa
open Go.ChangeShapes Go.WideShapes Go.ChangeAt Go.RowKit
set_option maxHeartbeats 1000000
set_option maxRecDepth 100000
attribute [local go_sem] kp_refl kp_alloc kp_setCell kp_drew kp_drewN row_new row_old rowAt_new rowAt_old

theorem ruleSees (A : Option Addr) (l : List At) (c : Nat) (k : Int) (w : World) (h : Ats w w.heap.size A l) (hl : l.length ≤ 9223372036854775807) :
    Calls Try.prog 8 #[.slice A l.length c, .int .i64 k] w fun e w' => e = .returned (.bool true) ∧ Below w.heap.size w w' := by
  go_enter Try.func8, Try.ntmps8
  go_wp2_with fail
  refine (rule_See A l c _ h hl k).mono ?_
  rintro e w1 ⟨v, rfl, A', c', rfl, hr, hx1, hx2, hb1⟩
  go_wp2_with fail
  refine (ref_FirstOf A l c _ (h.step hb1) hl k).mono ?_
  rintro e w2 ⟨rfl, hb2⟩
  have hb := hb1.trans (hb2.mono hb1.size)
  have h2 := h.step hb
  replace hr := (hr.below hb2).more hb2.size
  have hcv : ∀ W : World, Kp w2.heap.size w2 W → (convert 28 9 (.slice A' (seeBody l k).length c')).run Try.prog W = .ok (.string ⟨(seeBody l k).toArray⟩) W := fun W hW => conv_rd Try.underlying28 Try.underlying5 Try.underlying9 (hr.kp hW)
  have hmay := Lib.hid fun W (hW : Below w2.heap.size w2 W) => rule_May A l c W (h2.step hW) hl k
  clear hb1 hb2 hr
  cases hk : look l k with
  | none =>
    have hE : seeErr l k = 13 := by simp [seeErr, hk]
    have hB : seeBody l k = [] := by simp [seeBody, hk]
    have hM : mayErr l k = 13 := by simp [mayErr, hk]
    rw [hB] at hcv ⊢
    rw [hE]
    change ∀ W : World, Kp w2.heap.size w2 W → (convert 28 9 (.slice A' 0 c')).run Try.prog W = .ok (.string ⟨#[]⟩) W at hcv
    clear hE hB hk
    go_wp2_with (go_at_call 46; refine (hmay.out _ (Below.refl _ _)).mono ?_; rintro e w' ⟨rfl, hb3⟩)
    go_ret
    exact ⟨rfl, hb.trans (hb3.mono hb.size)⟩
  | some b =>
    have hM4 : k = 4 → mayErr l k = 13 := fun e => by simp [mayErr, e]
    by_cases h4 : k = 4
    · subst h4
      have hM := hM4 rfl
      clear hM4
      cases hh : hidden l
      · have hE : seeErr l 4 = 0 := by simp [seeErr, hk, hh]
        have hB : seeBody l 4 = b := by simp [seeBody, hk, hh]
        rw [hB] at hcv ⊢
        rw [hE]
        clear hE hB hk
        go_wp2_with fail
        refine (ref_Veiled A l c _ h2 hl).mono ?_
        rintro e w3 ⟨rfl, hb4⟩
        have hbb := hb.trans (hb4.mono hb.size)
        have hkp := kp_of_below hb4
        go_wp2_with (go_at_call 46; refine (hmay.out _ hb4).mono ?_; rintro e w' ⟨rfl, hb3⟩)
        go_ret
        exact ⟨rfl, hbb.trans (hb3.mono hbb.size)⟩
      · have hE : seeErr l 4 = 12 := by simp [seeErr, hk, hh]
        have hB : seeBody l 4 = [] := by simp [seeBody, hk, hh]
        rw [hB] at hcv ⊢
        rw [hE]
        change ∀ W : World, Kp w2.heap.size w2 W → (convert 28 9 (.slice A' 0 c')).run Try.prog W = .ok (.string ⟨#[]⟩) W at hcv
        clear hE hB hk
        go_wp2_with fail
        refine (ref_Veiled A l c _ h2 hl).mono ?_
        rintro e w3 ⟨rfl, hb4⟩
        have hbb := hb.trans (hb4.mono hb.size)
        have hkp := kp_of_below hb4
        go_wp2_with (go_at_call 46; refine (hmay.out _ hb4).mono ?_; rintro e w' ⟨rfl, hb3⟩)
        go_ret
        exact ⟨rfl, hbb.trans (hb3.mono hbb.size)⟩
    · have hE : seeErr l k = 0 := by simp [seeErr, hk, h4]
      have hB : seeBody l k = b := by simp [seeBody, hk, h4]
      have hd4 : (k == 4) = false := by simpa using h4
      rw [hB] at hcv ⊢
      rw [hE]
      clear hM4 hE hB
      rcases (by omega : k < 13 ∨ (¬ k < 13 ∧ 18 < k) ∨ (¬ k < 13 ∧ ¬ 18 < k)) with h1 | ⟨h1, h2'⟩ | ⟨h1, h2'⟩
      · have hM : mayErr l k = 13 := by simp [mayErr, h1]
        clear hk
        go_wp2_with (go_at_call 46; refine (hmay.out _ (Below.refl _ _)).mono ?_; rintro e w' ⟨rfl, hb3⟩)
        go_ret
        exact ⟨rfl, hb.trans (hb3.mono hb.size)⟩
      · have hM : mayErr l k = 13 := by simp [mayErr, h2']
        clear hk
        go_wp2_with (go_at_call 46; refine (hmay.out _ (Below.refl _ _)).mono ?_; rintro e w' ⟨rfl, hb3⟩)
        go_ret
        exact ⟨rfl, hb.trans (hb3.mono hb.size)⟩
      · cases h1b : (b == [1])
        · have hM : mayErr l k = 12 := by unfold mayErr; rw [if_neg (by simp [hk]; omega)]; simp [lookOne, hk]; simpa using h1b
          clear hk
          go_wp2_with (go_at_call 46; refine (hmay.out _ (Below.refl _ _)).mono ?_; rintro e w' ⟨rfl, hb3⟩)
          go_ret
          exact ⟨rfl, hb.trans (hb3.mono hb.size)⟩
        · have hM : mayErr l k = 0 := by unfold mayErr; rw [if_neg (by simp [hk]; omega)]; simp [lookOne, hk]; simpa using h1b
          clear hk
          go_wp2_with (go_at_call 46; refine (hmay.out _ (Below.refl _ _)).mono ?_; rintro e w' ⟨rfl, hb3⟩)
          go_ret
          exact ⟨rfl, hb.trans (hb3.mono hb.size)⟩
end Go.Proofs.Ytjfiokicnacbfaa
