/- Package rule's Valid. -/
import Derived.Test.YtdlmamnnamlleaaRu12
namespace Go.Proofs.Ytdlmamnnamlleaa
open Go.ChangeShapes Go.WideShapes Go.ChangeAt Go.RowKit
set_option maxHeartbeats 1000000
set_option maxRecDepth 100000
attribute [local go_sem] kp_refl kp_alloc kp_setCell kp_drew kp_drewN row_new row_old rowAt_new rowAt_old

def kindsAre (l : List At) : Bool := decide (l.map At.kind = (kindsN (clsL (l.map At.kv))).map fun k : Nat => (k : Int))
def validP (l : List At) : Bool := fault (l.map At.kv) == 0 && (decide (l.length = (kindsN (clsL (l.map At.kv))).length) && (decide (l.length ≠ 0) && (kindsAre l && (sizedP (clsL (l.map At.kv)) ((look l 4).getD []).length && soundP l))))
theorem clsL_lt (l : List KV) : clsL l < 256 := by
  unfold clsL
  split
  · rename_i b _; exact b.toNat_lt
  · omega
theorem kindsAre_no {l : List At} {j : Nat} (hj : j < l.length) (hj2 : j < (kindsN (clsL (l.map At.kv))).length) (h : l[j].kind ≠ ((kindsN (clsL (l.map At.kv)))[j] : Nat)) : kindsAre l = false := by
  simp only [kindsAre, decide_eq_false_iff_not]
  intro e
  have h1 : (l.map At.kind)[j]? = ((kindsN (clsL (l.map At.kv))).map fun k : Nat => (k : Int))[j]? := by rw [e]
  simp [hj, hj2] at h1
  exact h h1
theorem kindsAre_yes {l : List At} (hlen : l.length = (kindsN (clsL (l.map At.kv))).length) (h : ∀ j (hj : j < l.length) (hj2 : j < (kindsN (clsL (l.map At.kv))).length), l[j].kind = ((kindsN (clsL (l.map At.kv)))[j] : Nat)) : kindsAre l = true := by
  simp only [kindsAre, decide_eq_true_eq]
  apply List.ext_getElem
  · simpa using hlen
  · intro j h1 h2
    simp at h1 h2
    simp only [List.getElem_map]
    exact h j h1 h2

set_option maxHeartbeats 8000000 in
theorem rule_Valid (A : Option Addr) (l : List At) (c : Nat) (w : World) (h : Ats w w.heap.size A l) (hl : l.length ≤ 9223372036854775807) :
    Calls Try.prog 19 #[.slice A l.length c] w fun e w' => e = .returned (.bool (validP l)) ∧ Below w.heap.size w w' := by
  have hV : Hid (validP l = (fault (l.map At.kv) == 0 && (decide (l.length = (kindsN (clsL (l.map At.kv))).length) && (decide (l.length ≠ 0) && (kindsAre l && (sizedP (clsL (l.map At.kv)) ((look l 4).getD []).length && soundP l)))))) := rfl
  have hcl := Lib.hid (clsL_lt (l.map At.kv))
  have hno := Lib.hid (fun j (hj : j < l.length) (hj2 : j < (kindsN (clsL (l.map At.kv))).length) h => kindsAre_no hj hj2 h)
  have hyes := Lib.hid (fun hlen h => kindsAre_yes (l := l) hlen h)
  have hks := Lib.hid (kindsN_len (clsL (l.map At.kv)))
  go_enter Try.func19, Try.ntmps19
  go_wp2_with fail
  refine (rule_classOf A l c _ h hl).mono ?_
  rintro e w1 ⟨rfl, hb1⟩
  have h1 := h.step hb1
  go_wp2_with fail
  refine (rule_Kinds _ hcl.out _).mono ?_
  rintro e w2 ⟨v, rfl, K, kc, rfl, hk1, hk2, hk3, hb2⟩
  have h2 := h1.step hb2
  have hL2 := below_step hb2 hb1 (Nat.le_refl _)
  generalize hcE : clsL (l.map At.kv) = C at *
  replace hcE := Lib.hid hcE
  generalize hkE : kindsN C = ks at *
  replace hkE := Lib.hid hkE
  go_wp2_with fail
  refine (attr_Check A l c _ h2 hl).mono ?_
  rintro e w3 ⟨rfl, hb3⟩
  have h3 := h2.step hb3
  have hL3 := below_step hb3 hL2 (Nat.le_refl _)
  replace hk3 := (hk3.below hb3).more hb3.size
  generalize hF : fault (l.map At.kv) = F at *
  replace hF := Lib.hid hF
  clear hb1 hb2 hb3 h1 h2 hL2
  by_cases hf : F = 0
  · subst hf
    by_cases hlen : l.length = ks.length
    · by_cases hl0 : l.length = 0
      · have hV2 : Hid (validP l = false) := by show _ = _; rw [hV.out]; simp [hl0]
        have hn0 : ks.length = 0 := by omega
        have hb0 : ((l.length : Int) == 0) = true := by simp [hl0]
        have hb1 : ((l.length : Int) != (ks.length : Int)) = false := by simp [hlen]
        clear hl0 hlen hn0
        go_wp2
        go_ret
        exact ⟨ret_bool (by rw [hV2.out]), hL3⟩
      · have hV2 : Hid (validP l = (kindsAre l && (sizedP C ((look l 4).getD []).length && soundP l))) := by show _ = _; rw [hV.out, decide_eq_true hlen, decide_eq_true hl0]; rfl
        have hb0 : ((l.length : Int) == 0) = false := by rw [beq_eq_false_iff_ne]; omega
        have hb1 : ((l.length : Int) != (ks.length : Int)) = false := by simp [hlen]
        have hlH := Lib.hid hlen
        clear hlen hl0 hV
        go_wp2
        go_loopw [30] (fun x wr => ∃ j : Nat, x = .int .i64 j ∧ j ≤ l.length ∧ Below w.heap.size w wr ∧ w.heap.size ≤ wr.heap.size ∧ Below w3.heap.size w3 wr ∧ Hid (∀ i (hi : i < j) (hi1 : i < l.length) (hi2 : i < ks.length), l[i].kind = (ks[i] : Nat))) (fun x _ => l.length - (intOf x).toNat)
        case atStart => exact ⟨0, rfl, by omega, hL3, hL3.size, Below.refl _ _, fun i hi => absurd hi (by omega)⟩
        case round =>
          obtain ⟨j, rfl, hj, hb, hz, hb3, hal⟩ := hrel
          have hw := h.kp (kp_of_below hb)
          by_cases hji : j = l.length
          · have hV3 : Hid (validP l = (sizedP C ((look l 4).getD []).length && soundP l)) := by show _ = _; rw [hV2.out, hyes.out hlH.out fun i h1 h2 => hal.out i (by omega) h1 h2, Bool.true_and]
            subst hji
            have hw' := hw.more hz
            have hsz := Lib.hid (fun n V => rule_sized C n V)
            cases h4 : look l 4 with
            | none =>
              rw [h4] at hV3
              have h4' := Lib.hid h4
              clear h4
              go_wp2_with fail
              refine (get_none A l c 4 _ hw' hl h4'.out).mono ?_
              rintro e w4 ⟨rfl, hb4⟩
              have h5 := hw'.step hb4
              have hL4 := below_step hb4 hb (Nat.le_refl _)
              go_wp2_with fail
              refine (hsz.out _ _).mono ?_
              rintro e w5 ⟨rfl, rfl⟩
              have hVV : Hid (validP l = (sizedP C 0 && soundP l)) := hV3.out
              cases hs : sizedP C 0
              · have hV4 : Hid (validP l = false) := by show _ = _; rw [hVV.out, hs]; rfl
                clear hs
                go_wp2
                go_ret
                exact ⟨ret_bool (by rw [hV4.out]), hL4⟩
              · have hV4 : Hid (validP l = soundP l) := by show _ = _; rw [hVV.out, hs]; rfl
                clear hs
                go_wp2_with fail
                refine (rule_sound A l c _ h5 hl).mono ?_
                rintro e w6 ⟨rfl, hb6⟩
                have hL6 := below_step hb6 hL4 (by omega)
                go_wp2
                go_ret
                exact ⟨ret_bool (by rw [hV4.out]), hL6⟩
            | some b =>
              rw [h4] at hV3
              have h4' := Lib.hid h4
              clear h4
              go_wp2_with fail
              refine (get_some A l c 4 _ hw' hl h4'.out).mono ?_
              rintro e w4 ⟨v, rfl, A', c', rfl, hr, hx1, hx2, hb4⟩
              have h5 := hw'.step hb4
              have hL4 := below_step hb4 hb (Nat.le_refl _)
              go_wp2_with fail
              refine (hsz.out _ _).mono ?_
              rintro e w5 ⟨rfl, rfl⟩
              have hVV : Hid (validP l = (sizedP C b.length && soundP l)) := hV3.out
              cases hs : sizedP C (b.length : Int)
              · have hV4 : Hid (validP l = false) := by show _ = _; rw [hVV.out, hs]; rfl
                clear hs
                go_wp2
                go_ret
                exact ⟨ret_bool (by rw [hV4.out]), hL4⟩
              · have hV4 : Hid (validP l = soundP l) := by show _ = _; rw [hVV.out, hs]; rfl
                clear hs
                go_wp2_with fail
                refine (rule_sound A l c _ h5 hl).mono ?_
                rintro e w6 ⟨rfl, hb6⟩
                have hL6 := below_step hb6 hL4 (by omega)
                go_wp2
                go_ret
                exact ⟨ret_bool (by rw [hV4.out]), hL6⟩
          · have hjl : j < l.length := by omega
            have hjk : j < ks.length := by have := hlH.out; omega
            obtain ⟨ad, rfl, hbl, c1, c2⟩ := hw.at_ hjl
            have hkr := hk3.below hb3
            obtain ⟨kd, rfl, hkb, d1⟩ := hkr.at_ (k := j) (by rw [kndV_len]; exact hjk)
            rw [kndV_at hjk] at d1
            have hno2 := Lib.hid (hno.out j hjl hjk)
            have hn1 : (j : Int) < (ks.length : Int) := by omega
            have hn0 : (0 : Int) ≤ (j : Int) := by omega
            have hkb2 : kd.block < wr.heap.size := Nat.lt_of_lt_of_le hkb hb3.size
            have hal2 : Hid (l[j].kind = (ks[j] : Nat) → ∀ i (hi : i < j + 1) (hi1 : i < l.length) (hi2 : i < ks.length), l[i].kind = (ks[i] : Nat)) := fun hx i hi h1 h2 => by
              rcases Nat.lt_or_ge i j with h3 | h3
              · exact hal.out i h3 h1 h2
              · obtain rfl : i = j := by omega
                exact hx
            generalize (ks[j] : Nat) = kk at *
            generalize l[j] = x at *
            obtain ⟨xk, xA, xc, xb⟩ := x
            simp only at c1 c2 hno2 hal2
            have hbx := hb.trans ((below_alloc' wr (.cells #[.int .i64 xk, .slice xA xb.length xc] 120)).mono hz)
            have hbx3 := hb3.trans ((below_alloc' wr (.cells #[.int .i64 xk, .slice xA xb.length xc] 120)).mono hb3.size)
            have d2 : ((wr.alloc (.cells #[.int .i64 xk, .slice xA xb.length xc] 120)).drew).cell? (kd.add j) = some (.int .i64 kk) := ((below_alloc' wr _).cell (p := kd.add j) (by rw [addr_block]; exact hkb2)).trans d1
            by_cases hx : xk = (kk : Int)
            · have hx2 := Lib.hid (hal2.out hx)
              subst hx
              go_wp2_with fail
              go_region
              go_wp2
              go_roundw
              case rel => exact ⟨j + 1, by go_num, by omega, hbx.drew, by simp; omega, hbx3.drew, hx2.out⟩
              case measure => simp [intOf]; omega
            · have hV3 : Hid (validP l = false) := by show _ = _; rw [hV2.out, hno2.out hx]; rfl
              have ht2 : (xk != (kk : Int)) = true := by rw [bne_iff_ne]; exact hx
              have ht3 : (xk == (kk : Int)) = false := by rw [beq_eq_false_iff_ne]; exact hx
              have ht4 : decide (xk = (kk : Int)) = false := decide_eq_false hx
              go_wp2_with fail
              go_region
              go_wp2
              go_ret
              exact ⟨ret_bool (by rw [hV3.out]), hbx.drew⟩
    · have hV2 : Hid (validP l = false) := by show _ = _; rw [hV.out]; simp [hlen]
      have hb1 : ((l.length : Int) != (ks.length : Int)) = true := by rw [bne_iff_ne]; omega
      have hlH := Lib.hid hlen
      clear hlen
      go_wp2
      go_ret
      exact ⟨ret_bool (by rw [hV2.out]), hL3⟩
  · have hV2 : Hid (validP l = false) := by show _ = _; rw [hV.out]; simp [hf]
    have hb0 : (F == 0) = false := by simpa using hf
    have hb1 : (F != 0) = true := by simpa using hf
    go_wp2
    go_ret
    exact ⟨ret_bool (by rw [hV2.out]), hL3⟩
end Go.Proofs.Ytdlmamnnamlleaa
