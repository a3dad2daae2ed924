/- Contract of the document's AttrsFault. -/
import Derived.Test.YtdlmamnnamlleaaRu2
namespace Go.Proofs.Ytdlmamnnamlleaa
open Go.ChangeShapes Go.WideShapes Go.ChangeAt Go.RowKit
set_option maxHeartbeats 1000000
set_option maxRecDepth 100000
attribute [local go_sem] kp_refl kp_alloc kp_setCell kp_drew kp_drewN row_new row_old rowAt_new rowAt_old

theorem seenK_at {l : List At} {i j : Nat} (hi : i < j) (hj : j ≤ l.length) {k : Int} (h : l[i].kind = k) : seenK ((l.map At.kv).take j) k = true := by
  unfold seenK
  rw [List.any_eq_true]
  refine ⟨l[i].kv, ?_, by simp [At.kv, h]⟩
  rw [List.mem_take_iff_getElem]
  exact ⟨i, by simp; omega, by simp⟩
theorem seenK_none {l : List At} {j : Nat} (hj : j ≤ l.length) {k : Int} (h : ∀ i (h : i < j), l[i].kind ≠ k) : seenK ((l.map At.kv).take j) k = false := by
  unfold seenK
  rw [List.any_eq_false]
  intro x hx
  rw [List.mem_take_iff_getElem] at hx
  obtain ⟨i, hi, rfl⟩ := hx
  simp at hi
  simpa [At.kv] using h i (by omega)

set_option maxHeartbeats 8000000 in
theorem ref_AttrsFault (A : Option Addr) (l : List At) (c : Nat) (w : World) (h : Ats w w.heap.size A l) (hl : l.length ≤ 9223372036854775807) (hlc : l.length ≤ c) (hc : c ≤ 9223372036854775807) :
    Calls Try.prog 28 #[.slice A l.length c] w fun e w' => e = .returned (.int .i64 (fault (l.map At.kv))) ∧ Below w.heap.size w w' := by
  by_cases hL : 24 < l.length
  · have hp := Lib.hid (fault_large (l := l.map At.kv) (by simpa using hL))
    have hL' : (24 : Int) < (l.length : Int) := by omega
    go_enter Try.func28, Try.ntmps28
    go_wp2
    go_ret
    exact ⟨ret_int (by rw [hp.out]), Below.refl _ _⟩
  · have hL' : ¬ (24 : Int) < (l.length : Int) := by omega
    go_enter Try.func28, Try.ntmps28
    go_wp2
    go_loopw [15] (fun x wr => ∃ j : Nat, x = .int .i64 j ∧ j ≤ l.length ∧ Below w.heap.size w wr ∧ w.heap.size ≤ wr.heap.size ∧ goodTo (l.map At.kv) j) (fun x _ => l.length - (intOf x).toNat)
    case atStart => exact ⟨0, rfl, by omega, Below.refl _ _, Nat.le_refl _, goodTo.zero _⟩
    case round =>
      rename World => wO
      obtain ⟨j, rfl, hj, hb, hz, hgo⟩ := hrel
      by_cases hji : j = l.length
      · subst hji
        have hp := Lib.hid (goodL_all l hgo (by omega))
        go_wp2
        go_ret
        exact ⟨ret_int (by rw [hp.out]), hb⟩
      · have hjl : j < l.length := by omega
        have hw := h.kp (kp_of_below hb)
        obtain ⟨ad, rfl, hbl, c1, c2⟩ := hw.at_ hjl
        obtain ⟨b1, b2, b3⟩ := hw.body _ (List.getElem_mem hjl)
        have hstop := Lib.hid (fun z hz hx => goodL_stop (z := z) hgo (by omega) hjl hz hx)
        have hstep := Lib.hid (fun hx => goodL_step hgo hjl hx)
        have hsn := Lib.hid (take_snoc l hjl)
        generalize l[j] = x at *
        obtain ⟨xk, xA, xc, xb⟩ := x
        simp only [At.kv] at c1 c2 b1 b2 b3 hstop hstep hsn
        by_cases hk1 : xk < 1
        · have hp := Lib.hid (hstop.out 13 (by omega) (faultAt_kind (.inl hk1)))
          go_wp2
          go_ret
          exact ⟨ret_int (by rw [hp.out]), by go_grown⟩
        by_cases hk2 : 18 < xk
        · have hp := Lib.hid (hstop.out 13 (by omega) (faultAt_kind (.inr hk2)))
          go_wp2
          go_ret
          exact ⟨ret_int (by rw [hp.out]), by go_grown⟩
        have hkH : Hid (¬ (xk < 1 ∨ 18 < xk)) := by show ¬ _; omega
        by_cases k1 : xk = 1
        · subst k1
          rcases xb with _ | ⟨b0, _ | ⟨bb, r⟩⟩
          · have hp := Lib.hid (hstop.out 4 (by omega) (faultAt_form hkH.out (by simp [fitsB])))
            go_wp2
            go_ret
            exact ⟨ret_int (by rw [hp.out]), by go_grown⟩
          · obtain ⟨bd, rfl, hbd, c3⟩ := b1.at_ (k := 0) (by simp [bytesV])
            have c3' : wO.cell? bd = some (.int .u8 b0.toNat) := by simpa [bytesV, Addr.add] using c3
            have hbd2 : bd.block < wO.heap.size := by omega
            clear c3
            by_cases t1 : b0.toNat < 1
            · have hp := Lib.hid (hstop.out 4 (by omega) (faultAt_form hkH.out (by simp [fitsB, headB]; omega)))
              go_wp2
              go_ret
              exact ⟨ret_int (by rw [hp.out]), by go_grown⟩
            by_cases t2 : 4 < b0.toNat
            · have hp := Lib.hid (hstop.out 4 (by omega) (faultAt_form hkH.out (by simp [fitsB, headB]; omega)))
              go_wp2
              go_ret
              exact ⟨ret_int (by rw [hp.out]), by go_grown⟩
            · have hfH : Hid (fitsB (1, [b0]) = true) := by
                show _ = _
                simp [fitsB, headB]; omega
              have hB0 := below_alloc' wO (.cells #[.int .i64 (1), .slice (some bd) ([b0] : List UInt8).length xc] 120)
              have hbb := hb.trans (hB0.mono hz)
              have hk0 : (wO.alloc (.cells #[.int .i64 (1), .slice (some bd) ([b0] : List UInt8).length xc] 120)).cell? ⟨wO.heap.size, 0, none⟩ = some (.int .i64 (1)) := by rw [World.cell?_alloc_at _ _ _ _ rfl]; rfl
              go_wp2
              generalize hW0 : wO.alloc (.cells #[.int .i64 (1), .slice (some bd) _ xc] 120) = W0 at *
              have hsz0 : W0.heap.size = wO.heap.size + 1 := by rw [← hW0]; simp
              clear hW0 c1 c2 b1 hw
              go_loopw [83] (fun x wx => ∃ i : Nat, x = .int .i64 i ∧ i ≤ j ∧ Below W0.heap.size W0 wx ∧ W0.heap.size ≤ wx.heap.size ∧ Hid (∀ i' (hi : i' < i) (hi2 : i' < l.length), l[i'].kind ≠ 1)) (fun x _ => j - (intOf x).toNat)
              case atStart => exact ⟨0, rfl, by omega, Below.refl _ _, Nat.le_refl _, fun i' hi => absurd hi (by omega)⟩
              case round =>
                obtain ⟨i, rfl, hi, hbx, hzx, hno⟩ := hrel
                by_cases hij : i = j
                · subst hij
                  have hs : seenK ((l.map At.kv).take i) (1) = false := seenK_none hj fun i' hi => hno.out i' hi (by omega)
                  have hx0 := Lib.hid (hstep.out (faultAt_ok hkH.out hfH.out hs))
                  clear hs
                  have hB' := hbb.trans (hbx.mono (by omega))
                  go_wp2
                  go_roundw
                  case rel => exact ⟨i + 1, by go_num, by omega, hB', by omega, hx0.out⟩
                  case measure => simp [intOf]; omega
                · have hij2 : i < j := by omega
                  have hw2 := h.kp (kp_of_below (hbb.trans (hbx.mono (by omega))))
                  obtain ⟨ad2, had2, hbl2, d1, d2⟩ := hw2.at_ (show i < l.length by omega)
                  injection had2 with had2
                  subst had2
                  have hlt2 : wO.heap.size < wr.heap.size := by omega
                  have hk2' : wr.cell? ⟨wO.heap.size, 0, none⟩ = some (.int .i64 (1)) := ((bcell hbx).1 wO.heap.size 0 (by omega)).trans hk0
                  by_cases hk : l[i].kind = 1
                  · have hp := Lib.hid (hstop.out 1 (by omega) (faultAt_arg hkH.out hfH.out (seenK_at hij2 hj hk)))
                    have hkk : (l[i].kind == 1) = true := by simpa using hk
                    clear hk
                    have hB' := hbb.trans (hbx.mono (by omega))
                    generalize l[i].kind = kk at *
                    go_wp2
                    go_ret
                    exact ⟨ret_int (by rw [hp.out]), hB'.trans ((below_alloc' wr _).mono (by omega))⟩
                  · have hno2 : Hid (∀ i' (hi : i' < i + 1) (hi2 : i' < l.length), l[i'].kind ≠ 1) := fun i' hi hi2 => by
                      rcases Nat.lt_or_ge i' i with h3 | h3
                      · exact hno.out i' h3 hi2
                      · obtain rfl : i' = i := by omega
                        exact hk
                    have hkk : (l[i].kind == 1) = false := by simpa using hk
                    clear hk
                    generalize l[i].kind = kk at *
                    go_wp2
                    go_roundw
                    case rel => exact ⟨i + 1, by go_num, by omega, hbx.trans ((below_alloc' wr _).mono hzx), by simp; omega, hno2⟩
                    case measure => simp [intOf]; omega
          · have hd : ¬ (((bb :: r).length : Int) < 0) := by omega
            have hp := Lib.hid (hstop.out 4 (by omega) (faultAt_form hkH.out (by simp [fitsB])))
            go_wp2
            go_ret
            exact ⟨ret_int (by rw [hp.out]), by go_grown⟩
        by_cases k2 : xk = 2
        · subst k2
          by_cases t1 : 32 < xb.length
          · have t1' : (32 : Int) < (xb.length : Int) := by omega
            have hp := Lib.hid (hstop.out 4 (by omega) (faultAt_form hkH.out (by simp [fitsB]; omega)))
            go_wp2
            go_ret
            exact ⟨ret_int (by rw [hp.out]), by go_grown⟩
          · have t1' : ¬ (32 : Int) < (xb.length : Int) := by omega
            have hfH : Hid (fitsB (2, xb) = true) := by
              show _ = _
              simp [fitsB]; omega
            have hB0 := below_alloc' wO (.cells #[.int .i64 (2), .slice xA (xb : List UInt8).length xc] 120)
            have hbb := hb.trans (hB0.mono hz)
            have hk0 : (wO.alloc (.cells #[.int .i64 (2), .slice xA (xb : List UInt8).length xc] 120)).cell? ⟨wO.heap.size, 0, none⟩ = some (.int .i64 (2)) := by rw [World.cell?_alloc_at _ _ _ _ rfl]; rfl
            go_wp2
            generalize hW0 : wO.alloc (.cells #[.int .i64 (2), .slice xA _ xc] 120) = W0 at *
            have hsz0 : W0.heap.size = wO.heap.size + 1 := by rw [← hW0]; simp
            clear hW0 c1 c2 b1 hw
            go_loopw [83] (fun x wx => ∃ i : Nat, x = .int .i64 i ∧ i ≤ j ∧ Below W0.heap.size W0 wx ∧ W0.heap.size ≤ wx.heap.size ∧ Hid (∀ i' (hi : i' < i) (hi2 : i' < l.length), l[i'].kind ≠ 2)) (fun x _ => j - (intOf x).toNat)
            case atStart => exact ⟨0, rfl, by omega, Below.refl _ _, Nat.le_refl _, fun i' hi => absurd hi (by omega)⟩
            case round =>
              obtain ⟨i, rfl, hi, hbx, hzx, hno⟩ := hrel
              by_cases hij : i = j
              · subst hij
                have hs : seenK ((l.map At.kv).take i) (2) = false := seenK_none hj fun i' hi => hno.out i' hi (by omega)
                have hx0 := Lib.hid (hstep.out (faultAt_ok hkH.out hfH.out hs))
                clear hs
                have hB' := hbb.trans (hbx.mono (by omega))
                go_wp2
                go_roundw
                case rel => exact ⟨i + 1, by go_num, by omega, hB', by omega, hx0.out⟩
                case measure => simp [intOf]; omega
              · have hij2 : i < j := by omega
                have hw2 := h.kp (kp_of_below (hbb.trans (hbx.mono (by omega))))
                obtain ⟨ad2, had2, hbl2, d1, d2⟩ := hw2.at_ (show i < l.length by omega)
                injection had2 with had2
                subst had2
                have hlt2 : wO.heap.size < wr.heap.size := by omega
                have hk2' : wr.cell? ⟨wO.heap.size, 0, none⟩ = some (.int .i64 (2)) := ((bcell hbx).1 wO.heap.size 0 (by omega)).trans hk0
                by_cases hk : l[i].kind = 2
                · have hp := Lib.hid (hstop.out 1 (by omega) (faultAt_arg hkH.out hfH.out (seenK_at hij2 hj hk)))
                  have hkk : (l[i].kind == 2) = true := by simpa using hk
                  clear hk
                  have hB' := hbb.trans (hbx.mono (by omega))
                  generalize l[i].kind = kk at *
                  go_wp2
                  go_ret
                  exact ⟨ret_int (by rw [hp.out]), hB'.trans ((below_alloc' wr _).mono (by omega))⟩
                · have hno2 : Hid (∀ i' (hi : i' < i + 1) (hi2 : i' < l.length), l[i'].kind ≠ 2) := fun i' hi hi2 => by
                    rcases Nat.lt_or_ge i' i with h3 | h3
                    · exact hno.out i' h3 hi2
                    · obtain rfl : i' = i := by omega
                      exact hk
                  have hkk : (l[i].kind == 2) = false := by simpa using hk
                  clear hk
                  generalize l[i].kind = kk at *
                  go_wp2
                  go_roundw
                  case rel => exact ⟨i + 1, by go_num, by omega, hbx.trans ((below_alloc' wr _).mono hzx), by simp; omega, hno2⟩
                  case measure => simp [intOf]; omega
        by_cases k3 : xk = 3
        · subst k3
          by_cases t1 : 32 < xb.length
          · have t1' : (32 : Int) < (xb.length : Int) := by omega
            have hp := Lib.hid (hstop.out 4 (by omega) (faultAt_form hkH.out (by simp [fitsB]; omega)))
            go_wp2
            go_ret
            exact ⟨ret_int (by rw [hp.out]), by go_grown⟩
          · have t1' : ¬ (32 : Int) < (xb.length : Int) := by omega
            have hfH : Hid (fitsB (3, xb) = true) := by
              show _ = _
              simp [fitsB]; omega
            have hB0 := below_alloc' wO (.cells #[.int .i64 (3), .slice xA (xb : List UInt8).length xc] 120)
            have hbb := hb.trans (hB0.mono hz)
            have hk0 : (wO.alloc (.cells #[.int .i64 (3), .slice xA (xb : List UInt8).length xc] 120)).cell? ⟨wO.heap.size, 0, none⟩ = some (.int .i64 (3)) := by rw [World.cell?_alloc_at _ _ _ _ rfl]; rfl
            go_wp2
            generalize hW0 : wO.alloc (.cells #[.int .i64 (3), .slice xA _ xc] 120) = W0 at *
            have hsz0 : W0.heap.size = wO.heap.size + 1 := by rw [← hW0]; simp
            clear hW0 c1 c2 b1 hw
            go_loopw [83] (fun x wx => ∃ i : Nat, x = .int .i64 i ∧ i ≤ j ∧ Below W0.heap.size W0 wx ∧ W0.heap.size ≤ wx.heap.size ∧ Hid (∀ i' (hi : i' < i) (hi2 : i' < l.length), l[i'].kind ≠ 3)) (fun x _ => j - (intOf x).toNat)
            case atStart => exact ⟨0, rfl, by omega, Below.refl _ _, Nat.le_refl _, fun i' hi => absurd hi (by omega)⟩
            case round =>
              obtain ⟨i, rfl, hi, hbx, hzx, hno⟩ := hrel
              by_cases hij : i = j
              · subst hij
                have hs : seenK ((l.map At.kv).take i) (3) = false := seenK_none hj fun i' hi => hno.out i' hi (by omega)
                have hx0 := Lib.hid (hstep.out (faultAt_ok hkH.out hfH.out hs))
                clear hs
                have hB' := hbb.trans (hbx.mono (by omega))
                go_wp2
                go_roundw
                case rel => exact ⟨i + 1, by go_num, by omega, hB', by omega, hx0.out⟩
                case measure => simp [intOf]; omega
              · have hij2 : i < j := by omega
                have hw2 := h.kp (kp_of_below (hbb.trans (hbx.mono (by omega))))
                obtain ⟨ad2, had2, hbl2, d1, d2⟩ := hw2.at_ (show i < l.length by omega)
                injection had2 with had2
                subst had2
                have hlt2 : wO.heap.size < wr.heap.size := by omega
                have hk2' : wr.cell? ⟨wO.heap.size, 0, none⟩ = some (.int .i64 (3)) := ((bcell hbx).1 wO.heap.size 0 (by omega)).trans hk0
                by_cases hk : l[i].kind = 3
                · have hp := Lib.hid (hstop.out 1 (by omega) (faultAt_arg hkH.out hfH.out (seenK_at hij2 hj hk)))
                  have hkk : (l[i].kind == 3) = true := by simpa using hk
                  clear hk
                  have hB' := hbb.trans (hbx.mono (by omega))
                  generalize l[i].kind = kk at *
                  go_wp2
                  go_ret
                  exact ⟨ret_int (by rw [hp.out]), hB'.trans ((below_alloc' wr _).mono (by omega))⟩
                · have hno2 : Hid (∀ i' (hi : i' < i + 1) (hi2 : i' < l.length), l[i'].kind ≠ 3) := fun i' hi hi2 => by
                    rcases Nat.lt_or_ge i' i with h3 | h3
                    · exact hno.out i' h3 hi2
                    · obtain rfl : i' = i := by omega
                      exact hk
                  have hkk : (l[i].kind == 3) = false := by simpa using hk
                  clear hk
                  generalize l[i].kind = kk at *
                  go_wp2
                  go_roundw
                  case rel => exact ⟨i + 1, by go_num, by omega, hbx.trans ((below_alloc' wr _).mono hzx), by simp; omega, hno2⟩
                  case measure => simp [intOf]; omega
        by_cases k4 : xk = 4
        · subst k4
          by_cases t1 : 64 < xb.length
          · have t1' : (64 : Int) < (xb.length : Int) := by omega
            have hp := Lib.hid (hstop.out 4 (by omega) (faultAt_form hkH.out (by simp [fitsB]; omega)))
            go_wp2
            go_ret
            exact ⟨ret_int (by rw [hp.out]), by go_grown⟩
          · have t1' : ¬ (64 : Int) < (xb.length : Int) := by omega
            have hfH : Hid (fitsB (4, xb) = true) := by
              show _ = _
              simp [fitsB]; omega
            have hB0 := below_alloc' wO (.cells #[.int .i64 (4), .slice xA (xb : List UInt8).length xc] 120)
            have hbb := hb.trans (hB0.mono hz)
            have hk0 : (wO.alloc (.cells #[.int .i64 (4), .slice xA (xb : List UInt8).length xc] 120)).cell? ⟨wO.heap.size, 0, none⟩ = some (.int .i64 (4)) := by rw [World.cell?_alloc_at _ _ _ _ rfl]; rfl
            go_wp2
            generalize hW0 : wO.alloc (.cells #[.int .i64 (4), .slice xA _ xc] 120) = W0 at *
            have hsz0 : W0.heap.size = wO.heap.size + 1 := by rw [← hW0]; simp
            clear hW0 c1 c2 b1 hw
            go_loopw [83] (fun x wx => ∃ i : Nat, x = .int .i64 i ∧ i ≤ j ∧ Below W0.heap.size W0 wx ∧ W0.heap.size ≤ wx.heap.size ∧ Hid (∀ i' (hi : i' < i) (hi2 : i' < l.length), l[i'].kind ≠ 4)) (fun x _ => j - (intOf x).toNat)
            case atStart => exact ⟨0, rfl, by omega, Below.refl _ _, Nat.le_refl _, fun i' hi => absurd hi (by omega)⟩
            case round =>
              obtain ⟨i, rfl, hi, hbx, hzx, hno⟩ := hrel
              by_cases hij : i = j
              · subst hij
                have hs : seenK ((l.map At.kv).take i) (4) = false := seenK_none hj fun i' hi => hno.out i' hi (by omega)
                have hx0 := Lib.hid (hstep.out (faultAt_ok hkH.out hfH.out hs))
                clear hs
                have hB' := hbb.trans (hbx.mono (by omega))
                go_wp2
                go_roundw
                case rel => exact ⟨i + 1, by go_num, by omega, hB', by omega, hx0.out⟩
                case measure => simp [intOf]; omega
              · have hij2 : i < j := by omega
                have hw2 := h.kp (kp_of_below (hbb.trans (hbx.mono (by omega))))
                obtain ⟨ad2, had2, hbl2, d1, d2⟩ := hw2.at_ (show i < l.length by omega)
                injection had2 with had2
                subst had2
                have hlt2 : wO.heap.size < wr.heap.size := by omega
                have hk2' : wr.cell? ⟨wO.heap.size, 0, none⟩ = some (.int .i64 (4)) := ((bcell hbx).1 wO.heap.size 0 (by omega)).trans hk0
                by_cases hk : l[i].kind = 4
                · have hp := Lib.hid (hstop.out 1 (by omega) (faultAt_arg hkH.out hfH.out (seenK_at hij2 hj hk)))
                  have hkk : (l[i].kind == 4) = true := by simpa using hk
                  clear hk
                  have hB' := hbb.trans (hbx.mono (by omega))
                  generalize l[i].kind = kk at *
                  go_wp2
                  go_ret
                  exact ⟨ret_int (by rw [hp.out]), hB'.trans ((below_alloc' wr _).mono (by omega))⟩
                · have hno2 : Hid (∀ i' (hi : i' < i + 1) (hi2 : i' < l.length), l[i'].kind ≠ 4) := fun i' hi hi2 => by
                    rcases Nat.lt_or_ge i' i with h3 | h3
                    · exact hno.out i' h3 hi2
                    · obtain rfl : i' = i := by omega
                      exact hk
                  have hkk : (l[i].kind == 4) = false := by simpa using hk
                  clear hk
                  generalize l[i].kind = kk at *
                  go_wp2
                  go_roundw
                  case rel => exact ⟨i + 1, by go_num, by omega, hbx.trans ((below_alloc' wr _).mono hzx), by simp; omega, hno2⟩
                  case measure => simp [intOf]; omega
        have k5 : 4 < xk := by omega
        have hfk : Hid (∀ b, fitsB (xk, b) = (b.length == 1 && decide (headB b ≤ 1))) := fun b => by simp only [fitsB, if_neg k1, if_neg (show ¬ (xk = 2 ∨ xk = 3) by omega), if_neg k4]
        have d1 : (xk == 1) = false := by simpa using k1
        have d2 : (xk == 2) = false := by simpa using k2
        have d3 : (xk == 3) = false := by simpa using k3
        have d4 : (xk == 4) = false := by simpa using k4
        clear k1 k2 k3 k4
        rcases xb with _ | ⟨b0, _ | ⟨bb, r⟩⟩
        · have hp := Lib.hid (hstop.out 4 (by omega) (faultAt_form hkH.out (by rw [hfk.out]; rfl)))
          go_wp2
          go_ret
          exact ⟨ret_int (by rw [hp.out]), by go_grown⟩
        · obtain ⟨bd, rfl, hbd, c3⟩ := b1.at_ (k := 0) (by simp [bytesV])
          have c3' : wO.cell? bd = some (.int .u8 b0.toNat) := by simpa [bytesV, Addr.add] using c3
          have hbd2 : bd.block < wO.heap.size := by omega
          clear c3
          by_cases t2 : 1 < b0.toNat
          · have hp := Lib.hid (hstop.out 4 (by omega) (faultAt_form hkH.out (by rw [hfk.out]; simp [headB]; omega)))
            go_wp2
            go_ret
            exact ⟨ret_int (by rw [hp.out]), by go_grown⟩
          · have hfH : Hid (fitsB (xk, [b0]) = true) := by
              show _ = _
              rw [hfk.out]; simp [headB]; omega
            have hB0 := below_alloc' wO (.cells #[.int .i64 (xk), .slice (some bd) ([b0] : List UInt8).length xc] 120)
            have hbb := hb.trans (hB0.mono hz)
            have hk0 : (wO.alloc (.cells #[.int .i64 (xk), .slice (some bd) ([b0] : List UInt8).length xc] 120)).cell? ⟨wO.heap.size, 0, none⟩ = some (.int .i64 (xk)) := by rw [World.cell?_alloc_at _ _ _ _ rfl]; rfl
            go_wp2
            generalize hW0 : wO.alloc (.cells #[.int .i64 (xk), .slice (some bd) _ xc] 120) = W0 at *
            have hsz0 : W0.heap.size = wO.heap.size + 1 := by rw [← hW0]; simp
            clear hW0 c1 c2 b1 hw
            go_loopw [83] (fun x wx => ∃ i : Nat, x = .int .i64 i ∧ i ≤ j ∧ Below W0.heap.size W0 wx ∧ W0.heap.size ≤ wx.heap.size ∧ Hid (∀ i' (hi : i' < i) (hi2 : i' < l.length), l[i'].kind ≠ xk)) (fun x _ => j - (intOf x).toNat)
            case atStart => exact ⟨0, rfl, by omega, Below.refl _ _, Nat.le_refl _, fun i' hi => absurd hi (by omega)⟩
            case round =>
              obtain ⟨i, rfl, hi, hbx, hzx, hno⟩ := hrel
              by_cases hij : i = j
              · subst hij
                have hs : seenK ((l.map At.kv).take i) (xk) = false := seenK_none hj fun i' hi => hno.out i' hi (by omega)
                have hx0 := Lib.hid (hstep.out (faultAt_ok hkH.out hfH.out hs))
                clear hs
                have hB' := hbb.trans (hbx.mono (by omega))
                go_wp2
                go_roundw
                case rel => exact ⟨i + 1, by go_num, by omega, hB', by omega, hx0.out⟩
                case measure => simp [intOf]; omega
              · have hij2 : i < j := by omega
                have hw2 := h.kp (kp_of_below (hbb.trans (hbx.mono (by omega))))
                obtain ⟨ad2, had2, hbl2, d1, d2⟩ := hw2.at_ (show i < l.length by omega)
                injection had2 with had2
                subst had2
                have hlt2 : wO.heap.size < wr.heap.size := by omega
                have hk2' : wr.cell? ⟨wO.heap.size, 0, none⟩ = some (.int .i64 (xk)) := ((bcell hbx).1 wO.heap.size 0 (by omega)).trans hk0
                by_cases hk : l[i].kind = xk
                · have hp := Lib.hid (hstop.out 1 (by omega) (faultAt_arg hkH.out hfH.out (seenK_at hij2 hj hk)))
                  have hkk : (l[i].kind == xk) = true := by simpa using hk
                  clear hk
                  have hB' := hbb.trans (hbx.mono (by omega))
                  generalize l[i].kind = kk at *
                  go_wp2
                  go_ret
                  exact ⟨ret_int (by rw [hp.out]), hB'.trans ((below_alloc' wr _).mono (by omega))⟩
                · have hno2 : Hid (∀ i' (hi : i' < i + 1) (hi2 : i' < l.length), l[i'].kind ≠ xk) := fun i' hi hi2 => by
                    rcases Nat.lt_or_ge i' i with h3 | h3
                    · exact hno.out i' h3 hi2
                    · obtain rfl : i' = i := by omega
                      exact hk
                  have hkk : (l[i].kind == xk) = false := by simpa using hk
                  clear hk
                  generalize l[i].kind = kk at *
                  go_wp2
                  go_roundw
                  case rel => exact ⟨i + 1, by go_num, by omega, hbx.trans ((below_alloc' wr _).mono hzx), by simp; omega, hno2⟩
                  case measure => simp [intOf]; omega
        · have hd : ¬ (((bb :: r).length : Int) < 0) := by omega
          have hp := Lib.hid (hstop.out 4 (by omega) (faultAt_form hkH.out (by rw [hfk.out]; simp)))
          go_wp2
          go_ret
          exact ⟨ret_int (by rw [hp.out]), by go_grown⟩
end Go.Proofs.Ytdlmamnnamlleaa
