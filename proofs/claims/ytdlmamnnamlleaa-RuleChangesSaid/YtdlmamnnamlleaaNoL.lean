/- Law AttrTells. -/
import Derived.Test.YtdlmamnnamlleaaNo5
namespace Go.Proofs.Ytdlmamnnamlleaa
open Go.ChangeShapes Go.WideShapes Go.ChangeAt Go.RowKit
set_option maxHeartbeats 1000000
set_option maxRecDepth 100000
attribute [local go_sem] kp_refl kp_alloc kp_setCell kp_drew kp_drewN row_new row_old rowAt_new rowAt_old

theorem lookOne_eq (l : List At) (k : Int) : lookOne l k = ((look l k).getD [] == [1]) := by
  unfold lookOne
  cases look l k <;> rfl
theorem same_true {l m : List At} (h : l.map At.kv = m.map At.kv) : sameKV l m = true := by simp [sameKV, h]
/-- Get, told in one word. -/
def GetAny (l : List At) (k : Int) (w : World) (e : Ending) (w' : World) : Prop :=
  ∃ A' c', e = .returned (.tuple #[.slice A' ((look l k).getD []).length c', .bool (look l k).isSome]) ∧ Rd w' w'.heap.size A' (bytesV ((look l k).getD [])) ∧ Below w.heap.size w w'
theorem get_all (A : Option Addr) (l : List At) (c : Nat) (k : Int) (w : World) (h : Ats w w.heap.size A l) (hl : l.length ≤ 9223372036854775807) : Calls Try.prog 31 #[.slice A l.length c, .int .i64 k] w (GetAny l k w) := by
  cases hk : look l k with
  | none => exact (get_none A l c k w h hl hk).mono fun e w' ⟨he, hb⟩ => ⟨none, 0, by rw [hk]; exact he, by rw [hk]; exact Rd.nil, hb⟩
  | some b => exact (get_some A l c k w h hl hk).mono fun e w' ⟨v, he, A', c', hv, hr, h1, h2, hb⟩ => ⟨A', c', by rw [hk, he, hv]; rfl, by rw [hk]; exact hr, hb⟩
set_option maxHeartbeats 8000000 in
theorem attrTells (A1 A2 : Option Addr) (l m : List At) (c1 c2 : Nat) (k : Int) (w : World) (h1 : Ats w w.heap.size A1 l) (h2 : Ats w w.heap.size A2 m) (hl : l.length ≤ 9223372036854775807) (hm : m.length ≤ 9223372036854775807) (hlc : l.length ≤ c1) (hcm : c1 ≤ 9223372036854775807) :
    Calls Try.prog 6 #[.slice A1 l.length c1, .slice A2 m.length c2, .int .i64 k] w fun e w' => e = .returned (.bool true) ∧ Below w.heap.size w w' := by
  have hN : Hid (normL (l.map At.kv) = if fault (l.map At.kv) = 0 then (cardOf (l.map At.kv)).attrs else []) := rfl
  have hvl := Lib.hid (fun k (_ : k < 19) => cardOf_v_len l h1 k)
  have hwant : Hid (∀ W : World, Below w.heap.size w W → Ats W W.heap.size A1 l → True) := fun _ _ _ => trivial
  clear hwant
  go_enter Try.func6, Try.ntmps6
  go_wp2_with fail
  refine (ref_AttrsFault A1 l c1 _ h1 hl hlc hcm).mono ?_
  rintro e w1 ⟨rfl, hb1⟩
  have p1 := h1.step hb1
  have q1 := h2.step hb1
  go_wp2_with fail
  refine (attr_Norm A1 l c1 _ p1 hl).mono ?_
  rintro e w2 ⟨v, rfl, Am, o, cm, rfl, hcm', hoe, hAm, hb2⟩
  have p2 := p1.step hb2
  have q2 := q1.step hb2
  have hL2 := below_step hb2 hb1 (Nat.le_refl _)
  generalize hF : fault (l.map At.kv) = F at *
  have hfd : decide (F = F) = true := by simp
  by_cases hf : F = 0
  · subst hf
    have hoe2 : Hid (o.map At.kv = (cardOf (l.map At.kv)).attrs) := by show _ = _; rw [hoe, hN.out, if_pos rfl]
    clear hN hoe
    have hFh := Lib.hid hF
    clear hF
    go_wp2_with fail
    refine (ref_CardOf A1 l c1 _ p2 hl).mono ?_
    rintro e w3 ⟨rfl, hb3⟩
    have p3 := p2.step hb3
    have q3 := q2.step hb3
    have o3 := hAm.step hb3
    have hL3 := below_step hb3 hL2 (Nat.le_refl _)
    generalize cardOf (l.map At.kv) = X at *
    have hXc := crd_cells X
    go_wp2_with fail
    refine (ref_Attrs X _ hvl.out).mono ?_
    rintro e w4 ⟨v, rfl, Aw, wt, cw, rfl, hcw, hwe, hAw, hb4⟩
    have p4 := p3.step hb4
    have q4 := q3.step hb4
    have o4 := o3.step hb4
    have hL4 := below_step hb4 hL3 (Nat.le_refl _)
    have hsame := Lib.hid (same_true (hoe2.out.trans hwe.symm))
    clear p1 q1 p2 q2 p3 q3 o3 hL2 hL3 hAm hb1 hb2 hb3 hb4 h1 h2 hoe2 hwe
    go_wp2_with fail
    refine (get_all A1 l c1 k _ p4 hl).mono ?_
    rintro e w5 ⟨A5, c5, rfl, hr5, hb5⟩
    have p5 := p4.step hb5
    have q5 := q4.step hb5
    have o5 := o4.step hb5
    have t5 := hAw.step hb5
    have hL5 := below_step hb5 hL4 (Nat.le_refl _)
    have hFO := Lib.hid (fun V (hV : Ats V V.heap.size A1 l) => ref_FirstOf A1 l c1 V hV hl k)
    unfold FirstR at hFO
    have hone := Lib.hid (lookOne_eq l k)
    generalize hG : (look l k).getD [] = G at *
    generalize hS : (look l k).isSome = S at *
    clear hG hS
    go_wp2_with fail
    refine (hFO.out _ p5).mono ?_
    rintro e w6 ⟨rfl, hb6⟩
    have p6 := p5.step hb6
    have q6 := q5.step hb6
    have o6 := o5.step hb6
    have t6 := t5.step hb6
    have r6 := (hr5.below hb6).more hb6.size
    have hL6 := below_step hb6 hL5 (Nat.le_refl _)
    clear p4 q4 o4 hL4 hb5 p5 q5 o5 t5 hL5 hb6 hAw hr5 hFO
    have hck := Lib.hid (attr_Check A1 l c1 _ p6 hl)
    rw [hFh.out] at hck
    go_wp2_with fail
    refine hck.out.mono ?_
    rintro e w7 ⟨rfl, hb7⟩
    have p7 := p6.step hb7
    have q7 := q6.step hb7
    have o7 := o6.step hb7
    have t7 := t6.step hb7
    have r7 := (r6.below hb7).more hb7.size
    have hL7 := below_step hb7 hL6 (Nat.le_refl _)
    clear p6 q6 o6 t6 r6 hL6 hb7 hck
    have hsm := Lib.hid (ref_SameAttrs Am Aw o wt cm cw w7 o7 t7 (by omega))
    rw [hsame.out] at hsm
    go_wp2_with fail
    refine hsm.out.mono ?_
    rintro e w8 ⟨rfl, hb8⟩
    have p8 := p7.step hb8
    have q8 := q7.step hb8
    have r8 := (r7.below hb8).more hb8.size
    have hL8 := below_step hb8 hL7 (Nat.le_refl _)
    clear p7 q7 o7 t7 r7 hL7 hb8 hsm
    have hcv : ∀ W : World, Kp w8.heap.size w8 W → (convert 59 9 (.slice A5 G.length c5)).run Try.prog W = .ok (.string ⟨G.toArray⟩) W := fun W hW => conv_rd Try.underlying59 Try.underlying5 Try.underlying9 (r8.kp hW)
    have his := Lib.hid (is_any A1 l c1 k w8 p8 hl)
    rw [hone.out] at his
    clear r8
    by_cases hg1 : G = [1]
    · have hg2 : (G == [1]) = true := by simpa using hg1
      rw [hg2] at his
      clear hg1
      go_wp2_with fail
      refine his.out.mono ?_
      rintro e w9 ⟨rfl, hb9⟩
      have p9 := p8.step hb9
      have q9 := q8.step hb9
      have hL9 := below_step hb9 hL8 (Nat.le_refl _)
      go_wp2_with fail
      refine (attr_Match A1 A2 l m c1 c2 w9 p9 q9 hl hm).mono ?_
      rintro e w10 ⟨rfl, hb10⟩
      have p10 := p9.step hb10
      have q10 := q9.step hb10
      have hL10 := below_step hb10 hL9 (Nat.le_refl _)
      go_wp2_with fail
      refine (ref_Fits A1 A2 l m c1 c2 w10 p10 q10 hl hm).mono ?_
      rintro e w11 ⟨rfl, hb11⟩
      have hL11 := below_step hb11 hL10 (Nat.le_refl _)
      go_wp2
      go_ret
      exact ⟨ret_bool (by simp), hL11⟩
    · have hg2 : (G == [1]) = false := by simpa using hg1
      rw [hg2] at his
      clear hg1
      go_wp2_with fail
      refine his.out.mono ?_
      rintro e w9 ⟨rfl, hb9⟩
      have p9 := p8.step hb9
      have q9 := q8.step hb9
      have hL9 := below_step hb9 hL8 (Nat.le_refl _)
      go_wp2_with fail
      refine (attr_Match A1 A2 l m c1 c2 w9 p9 q9 hl hm).mono ?_
      rintro e w10 ⟨rfl, hb10⟩
      have p10 := p9.step hb10
      have q10 := q9.step hb10
      have hL10 := below_step hb10 hL9 (Nat.le_refl _)
      go_wp2_with fail
      refine (ref_Fits A1 A2 l m c1 c2 w10 p10 q10 hl hm).mono ?_
      rintro e w11 ⟨rfl, hb11⟩
      have hL11 := below_step hb11 hL10 (Nat.le_refl _)
      go_wp2
      go_ret
      exact ⟨ret_bool (by simp), hL11⟩
  · have hoe2 : Hid (o.map At.kv = []) := by show _ = _; rw [hoe, hN.out, if_neg hf]
    have hb0 : (F == 0) = false := by simpa using hf
    have hb1' : (F != 0) = true := by simpa using hf
    clear hN hoe hf
    have hFh := Lib.hid hF
    clear hF
    have hsame := Lib.hid (same_true (l := o) (m := []) hoe2.out)
    have hAw : Ats w2 w2.heap.size none [] := ⟨Rd.nil, fun x hx => by simp at hx⟩
    obtain ⟨w4, hw4⟩ : ∃ w4, w4 = w2 := ⟨_, rfl⟩
    subst hw4
    have p4 := p2
    have q4 := q2
    have o4 := hAm
    have hL4 := hL2
    clear p1 q1 p2 q2 hL2 hAm hb1 hb2 h1 h2 hoe2
    go_wp2_with fail
    refine (get_all A1 l c1 k _ p4 hl).mono ?_
    rintro e w5 ⟨A5, c5, rfl, hr5, hb5⟩
    have p5 := p4.step hb5
    have q5 := q4.step hb5
    have o5 := o4.step hb5
    have t5 := hAw.step hb5
    have hL5 := below_step hb5 hL4 (Nat.le_refl _)
    have hFO := Lib.hid (fun V (hV : Ats V V.heap.size A1 l) => ref_FirstOf A1 l c1 V hV hl k)
    unfold FirstR at hFO
    have hone := Lib.hid (lookOne_eq l k)
    generalize hG : (look l k).getD [] = G at *
    generalize hS : (look l k).isSome = S at *
    clear hG hS
    go_wp2_with fail
    refine (hFO.out _ p5).mono ?_
    rintro e w6 ⟨rfl, hb6⟩
    have p6 := p5.step hb6
    have q6 := q5.step hb6
    have o6 := o5.step hb6
    have t6 := t5.step hb6
    have r6 := (hr5.below hb6).more hb6.size
    have hL6 := below_step hb6 hL5 (Nat.le_refl _)
    clear p4 q4 o4 hL4 hb5 p5 q5 o5 t5 hL5 hb6 hAw hr5 hFO
    have hck := Lib.hid (attr_Check A1 l c1 _ p6 hl)
    rw [hFh.out] at hck
    go_wp2_with fail
    refine hck.out.mono ?_
    rintro e w7 ⟨rfl, hb7⟩
    have p7 := p6.step hb7
    have q7 := q6.step hb7
    have o7 := o6.step hb7
    have t7 := t6.step hb7
    have r7 := (r6.below hb7).more hb7.size
    have hL7 := below_step hb7 hL6 (Nat.le_refl _)
    clear p6 q6 o6 t6 r6 hL6 hb7 hck
    have hsm := Lib.hid (ref_SameAttrs Am none o [] cm 0 w7 o7 t7 (by omega))
    rw [hsame.out] at hsm
    go_wp2_with fail
    refine hsm.out.mono ?_
    rintro e w8 ⟨rfl, hb8⟩
    have p8 := p7.step hb8
    have q8 := q7.step hb8
    have r8 := (r7.below hb8).more hb8.size
    have hL8 := below_step hb8 hL7 (Nat.le_refl _)
    clear p7 q7 o7 t7 r7 hL7 hb8 hsm
    have hcv : ∀ W : World, Kp w8.heap.size w8 W → (convert 59 9 (.slice A5 G.length c5)).run Try.prog W = .ok (.string ⟨G.toArray⟩) W := fun W hW => conv_rd Try.underlying59 Try.underlying5 Try.underlying9 (r8.kp hW)
    have his := Lib.hid (is_any A1 l c1 k w8 p8 hl)
    rw [hone.out] at his
    clear r8
    by_cases hg1 : G = [1]
    · have hg2 : (G == [1]) = true := by simpa using hg1
      rw [hg2] at his
      clear hg1
      go_wp2_with fail
      refine his.out.mono ?_
      rintro e w9 ⟨rfl, hb9⟩
      have p9 := p8.step hb9
      have q9 := q8.step hb9
      have hL9 := below_step hb9 hL8 (Nat.le_refl _)
      go_wp2_with fail
      refine (attr_Match A1 A2 l m c1 c2 w9 p9 q9 hl hm).mono ?_
      rintro e w10 ⟨rfl, hb10⟩
      have p10 := p9.step hb10
      have q10 := q9.step hb10
      have hL10 := below_step hb10 hL9 (Nat.le_refl _)
      go_wp2_with fail
      refine (ref_Fits A1 A2 l m c1 c2 w10 p10 q10 hl hm).mono ?_
      rintro e w11 ⟨rfl, hb11⟩
      have hL11 := below_step hb11 hL10 (Nat.le_refl _)
      go_wp2
      go_ret
      exact ⟨ret_bool (by simp), hL11⟩
    · have hg2 : (G == [1]) = false := by simpa using hg1
      rw [hg2] at his
      clear hg1
      go_wp2_with fail
      refine his.out.mono ?_
      rintro e w9 ⟨rfl, hb9⟩
      have p9 := p8.step hb9
      have q9 := q8.step hb9
      have hL9 := below_step hb9 hL8 (Nat.le_refl _)
      go_wp2_with fail
      refine (attr_Match A1 A2 l m c1 c2 w9 p9 q9 hl hm).mono ?_
      rintro e w10 ⟨rfl, hb10⟩
      have p10 := p9.step hb10
      have q10 := q9.step hb10
      have hL10 := below_step hb10 hL9 (Nat.le_refl _)
      go_wp2_with fail
      refine (ref_Fits A1 A2 l m c1 c2 w10 p10 q10 hl hm).mono ?_
      rintro e w11 ⟨rfl, hb11⟩
      have hL11 := below_step hb11 hL10 (Nat.le_refl _)
      go_wp2
      go_ret
      exact ⟨ret_bool (by simp), hL11⟩
end Go.Proofs.Ytdlmamnnamlleaa
