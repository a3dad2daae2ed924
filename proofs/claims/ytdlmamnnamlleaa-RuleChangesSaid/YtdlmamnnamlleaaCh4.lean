/- rule.turn. -/
import Derived.Test.YtdlmamnnamlleaaCh3
import Derived.Test.YtdlmamnnamlleaaRu15
namespace Go.Proofs.Ytdlmamnnamlleaa
open Go.ChangeShapes Go.WideShapes Go.ChangeAt Go.RowKit
set_option maxHeartbeats 1000000
set_option maxRecDepth 100000
attribute [local go_sem] kp_refl kp_alloc kp_setCell kp_drew kp_drewN row_new row_old rowAt_new rowAt_old

def scanTAt (s : List KV) (cp : Bool) (x : KV) : Int := if (lookK s x.1).isSome = false then 13 else if turnsP (lookOneK s) x.1 (headB x.2) cp = false then 12 else 0
def scanT (s : List KV) (cp : Bool) : List KV → Int
  | [] => 0
  | x :: r => if scanTAt s cp x = 0 then scanT s cp r else scanTAt s cp x
theorem scanT_stop {s : List KV} {cp : Bool} {z : Int} (hz : z ≠ 0) : ∀ (j : Nat) (l : List KV) (hj : j < l.length), (∀ i (h : i < j), scanTAt s cp (l[i]'(by omega)) = 0) → scanTAt s cp l[j] = z → scanT s cp l = z := by
  intro j
  induction j with
  | zero =>
    intro l hj _ h
    cases l with
    | nil => simp at hj
    | cons x r => simp only [List.getElem_cons_zero] at h; simp only [scanT, h, if_neg hz]
  | succ j ih =>
    intro l hj h0 h
    cases l with
    | nil => simp at hj
    | cons x r =>
      have h1 := h0 0 (by omega)
      simp only [List.getElem_cons_zero] at h1
      simp only [scanT, h1, if_true]
      exact ih r (by simp at hj; omega) (fun i hi => by simpa using h0 (i + 1) (by omega)) (by simpa using h)
theorem scanT_all {s : List KV} {cp : Bool} : ∀ (l : List KV), (∀ i (h : i < l.length), scanTAt s cp l[i] = 0) → scanT s cp l = 0 := by
  intro l
  induction l with
  | nil => intro _; rfl
  | cons x r ih =>
    intro h
    have h1 := h 0 (by simp)
    simp only [List.getElem_cons_zero] at h1
    simp only [scanT, h1, if_true]
    exact ih fun i hi => by
      have h2 := h (i + 1) (by simp; omega)
      simpa using h2
/-- What turn answers. -/
def turnP2 (s t : List KV) : List KV × Int := if validK (overS s t) = false then ([], 12) else (overS s t, 0)
def turnP1 (s t : List KV) (cp : Bool) : List KV × Int := if scanT s cp t ≠ 0 then ([], scanT s cp t) else turnP2 s t
def turnP (s t : List KV) (cp : Bool) : List KV × Int :=
  if validK s = false then ([], 1) else if fault t ≠ 0 then ([], fault t) else if cp = false ∧ lookOneK s 7 = false then ([], 12) else turnP1 s t cp
theorem turnErr_of {x : List KV × Int} {w w' : World} {z : Int} (h : x = ([], z)) (hb : Below w.heap.size w w') : AtsErr x.1 x.2 w (.returned (.tuple #[.slice none 0 0, .int .i64 z])) w' := by
  rw [h]; exact ⟨_, rfl, AtsR.nil hb⟩
theorem fault_of_valid {s : List KV} (h : validK s = true) : fault s = 0 := by
  unfold validK at h
  simp only [Bool.and_eq_true, beq_iff_eq] at h
  exact h.1
set_option maxHeartbeats 8000000 in
theorem rule_turn (A1 A2 : Option Addr) (l m : List At) (c1 c2 : Nat) (cp : Bool) (w : World) (h1 : Ats w w.heap.size A1 l) (h2 : Ats w w.heap.size A2 m) (hl : l.length ≤ 9223372036854775807) (hm : m.length ≤ 9223372036854775807) :
    Calls Try.prog 108 #[.slice A1 l.length c1, .slice A2 m.length c2, .bool cp] w (AtsErr (turnP (l.map At.kv) (m.map At.kv) cp).1 (turnP (l.map At.kv) (m.map At.kv) cp).2 w) := by
  have hM : Hid (turnP (l.map At.kv) (m.map At.kv) cp = if validK (l.map At.kv) = false then ([], 1) else if fault (m.map At.kv) ≠ 0 then ([], fault (m.map At.kv)) else if cp = false ∧ lookOneK (l.map At.kv) 7 = false then ([], 12) else turnP1 (l.map At.kv) (m.map At.kv) cp) := rfl
  have hfin := Lib.hid (fun (z : Int) (w' : World) (h : turnP (l.map At.kv) (m.map At.kv) cp = ([], z)) (hb : Below w.heap.size w w') => turnErr_of h hb)
  have hv := Lib.hid (rule_Valid A1 l c1 w h1 hl)
  rw [validP_kv] at hv
  go_enter Try.func108, Try.ntmps108
  go_wp2_with fail
  refine hv.out.mono ?_
  rintro e w1 ⟨rfl, hb1⟩
  have p1 := h1.step hb1
  have q1 := h2.step hb1
  cases hV : validK (l.map At.kv) with
  | false =>
    have hM2 : Hid (turnP (l.map At.kv) (m.map At.kv) cp = ([], 1)) := by show _ = _; rw [hM.out, if_pos hV]
    clear hM hV hv
    go_wp2
    go_ret2
    exact hfin.out _ _ hM2.out hb1
  | true =>
    have hM2 : Hid (turnP (l.map At.kv) (m.map At.kv) cp = if fault (m.map At.kv) ≠ 0 then ([], fault (m.map At.kv)) else if cp = false ∧ lookOneK (l.map At.kv) 7 = false then ([], 12) else turnP1 (l.map At.kv) (m.map At.kv) cp) := by show _ = _; rw [hM.out, if_neg (by simp [hV])]
    have hfl := Lib.hid (fault_of_valid hV)
    clear hM hV hv
    go_wp2_with fail
    refine (attr_Check A2 m c2 _ q1 hm).mono ?_
    rintro e w2 ⟨rfl, hb2⟩
    have p2 := p1.step hb2
    have q2 := q1.step hb2
    have hL2 := below_step hb2 hb1 (Nat.le_refl _)
    generalize hG : fault (m.map At.kv) = G at *
    by_cases hgz : G = 0
    · subst hgz
      have hM3 : Hid (turnP (l.map At.kv) (m.map At.kv) cp = if cp = false ∧ lookOneK (l.map At.kv) 7 = false then ([], 12) else turnP1 (l.map At.kv) (m.map At.kv) cp) := by show _ = _; rw [hM2.out, if_neg (by simp)]
      have hgt := Lib.hid (good_of hG)
      have hft := Lib.hid hG
      clear hM2 hG p1 q1 hb1 hb2
      cases cp with
      | false =>
        have his := Lib.hid (is_any A1 l c1 7 _ p2 hl)
        go_wp2_with fail
        refine his.out.mono ?_
        rintro e w3 ⟨rfl, hb3⟩
        have p3 := p2.step hb3
        have q3 := q2.step hb3
        have hL3 := below_step hb3 hL2 (Nat.le_refl _)
        have hone := Lib.hid (lookOne_kv l 7)
        clear p2 q2 hL2 hb3 his
        cases ho : lookOne l 7 with
        | false =>
          have hM4 : Hid (turnP (l.map At.kv) (m.map At.kv) false = ([], 12)) := by show _ = _; rw [hM3.out, if_pos]; exact ⟨by trivial, by rw [← hone.out, ho]⟩
          clear ho
          go_wp2
          go_ret2
          exact hfin.out _ _ hM4.out hL3
        | true =>
        have hM4 : Hid (turnP (l.map At.kv) (m.map At.kv) false = turnP1 (l.map At.kv) (m.map At.kv) false) := by show _ = _; rw [hM3.out, if_neg (fun h => by rw [← hone.out, ho] at h; cases h.2)]
        clear ho
        go_wp2
        go_loopw [32] (fun x wr => ∃ j : Nat, x = .int .i64 j ∧ j ≤ m.length ∧ Hid (∀ i (_ : i < j) (h2 : i < m.length), scanTAt (l.map At.kv) false m[i].kv = 0) ∧ Below w3.heap.size w3 wr ∧ w3.heap.size ≤ wr.heap.size) (fun x _ => m.length - (intOf x).toNat)
        case atStart => exact ⟨0, rfl, by omega, fun i hi => absurd hi (by omega), Below.refl _ _, Nat.le_refl _⟩
        case round =>
          obtain ⟨j, rfl, hj, hal, hb, hz⟩ := hrel
          have hL := below_step hb hL3 (Nat.le_refl _)
          have hx1 := p3.step hb
          have hx2 := q3.step hb
          clear p3 q3 hL3
          by_cases hji : j = m.length
          · have hs0 : scanT (l.map At.kv) false (m.map At.kv) = 0 := scanT_all _ fun i hi => by
              simp at hi
              rw [List.getElem_map]
              exact hal.out i (by omega) hi
            have hM5 : Hid (turnP (l.map At.kv) (m.map At.kv) false = turnP2 (l.map At.kv) (m.map At.kv)) := by show _ = _; rw [hM4.out]; unfold turnP1; rw [if_neg (by simp [hs0])]
            have hoz : Hid (overZ (l.map At.kv) (m.map At.kv) = 0) := by show _ = _; unfold overZ; rw [hfl.out, hft.out]; rfl
            have hov := Lib.hid (attr_Over A1 A2 l m c1 c2 wr hx1 hx2 hl hm)
            rw [hoz.out] at hov
            clear hs0 hM4 hal hb hz hfl hft hoz
            subst hji
            go_wp2_with fail
            refine hov.out.mono ?_
            rintro e w4 ⟨v, rfl, Ao, o, co, rfl, hco, hoe, hAo, hb4⟩
            have hL4 := below_step hb4 hL (Nat.le_refl _)
            have hvo := Lib.hid (rule_Valid Ao o co _ hAo (by omega))
            rw [validP_kv, hoe] at hvo
            have hoeH := Lib.hid hoe
            clear hov hL hoe
            go_wp2_with fail
            refine hvo.out.mono ?_
            rintro e w5 ⟨rfl, hb5⟩
            have hL5 := below_step hb5 hL4 (Nat.le_refl _)
            cases hvv : validK (overS (l.map At.kv) (m.map At.kv)) with
            | false =>
              have hM6 : Hid (turnP (l.map At.kv) (m.map At.kv) false = ([], 12)) := by show _ = _; rw [hM5.out]; unfold turnP2; rw [if_pos hvv]
              clear hvv hvo
              go_wp2
              go_ret2
              exact hfin.out _ _ hM6.out hL5
            | true =>
              have hM6 : Hid (turnP (l.map At.kv) (m.map At.kv) false = (overS (l.map At.kv) (m.map At.kv), 0)) := by show _ = _; rw [hM5.out]; unfold turnP2; rw [if_neg (by simp [hvv])]
              have hA5 := hAo.step hb5
              clear hvv hvo
              go_wp2
              go_ret2
              rw [hM6.out]
              exact ⟨_, rfl, Ao, o, co, rfl, hco, hoeH.out, hA5, hL5⟩
          · have hjl : j < m.length := by omega
            obtain ⟨ad, rfl, hbl, q1, q2⟩ := hx2.at_ hjl
            obtain ⟨b1, b2, b3⟩ := hx2.body _ (List.getElem_mem hjl)
            have hgx : Hid (fitsB (m[j].kind, m[j].body) = true ∧ (1 ≤ m[j].kind ∧ m[j].kind ≤ 18)) := ⟨hgt.out.fits _ (List.mem_map.2 ⟨_, List.getElem_mem hjl, rfl⟩), hgt.out.kind _ (List.mem_map.2 ⟨_, List.getElem_mem hjl, rfl⟩)⟩
            have hstop : Hid (∀ z : Int, z ≠ 0 → scanTAt (l.map At.kv) false (m[j].kind, m[j].body) = z → turnP (l.map At.kv) (m.map At.kv) false = ([], z)) := fun z hz h0 => by
              have hs0 : scanT (l.map At.kv) false (m.map At.kv) = z := scanT_stop hz j _ (by simpa using hjl) (fun i hi => by rw [List.getElem_map]; exact hal.out i hi (by omega)) (by rw [List.getElem_map]; exact h0)
              rw [hM4.out]; unfold turnP1; rw [hs0, if_pos hz]
            have hal2 : Hid (scanTAt (l.map At.kv) false (m[j].kind, m[j].body) = 0 → ∀ i (_ : i < j + 1) (h2 : i < m.length), scanTAt (l.map At.kv) false m[i].kv = 0) := fun hx i hi h1 => by
              rcases Nat.lt_or_ge i j with h3 | h3
              · exact hal.out i h3 h1
              · obtain rfl : i = j := by omega
                exact hx
            generalize m[j] = x at *
            obtain ⟨xk, xA, xc, xb⟩ := x
            simp only at q1 q2 b1 b2 b3 hgx hstop hal2
            have hbW : Below wr.heap.size wr (wr.alloc (.cells #[.int .i64 xk, .slice xA xb.length xc] 120)) := below_alloc' wr _
            have hy1 := hx1.step hbW
            have hbx := hb.trans (hbW.mono hz)
            have hLx := below_step hbW hL (Nat.le_refl _)
            have b4 := (b1.below hbW).more hbW.size
            have hge := Lib.hid (get_any A1 l c1 xk _ hy1 hl)
            go_wp2_with fail
            refine hge.out.mono ?_
            rintro e w4 ⟨A4, n4, c4, rfl, hb4⟩
            have hy4 := hy1.step hb4
            have hbx4 := hbx.trans (hb4.mono hbx.size)
            have hL4 := below_step hb4 hLx (Nat.le_refl _)
            have b5 := (b4.below hb4).more hb4.size
            obtain ⟨hc1, hf1⟩ := bcell hb4
            have hz4 := hbx4.size
            clear b1 b4 hbW hy1 hb4 hge hx1 hx2
            cases hS : (look l xk).isSome with
            | false =>
              have hM5 : Hid (turnP (l.map At.kv) (m.map At.kv) false = ([], 13)) := hstop.out 13 (by omega) (by unfold scanTAt; rw [← look_kv, if_pos hS])
              clear hS
              go_wp2
              go_ret2
              exact hfin.out _ _ hM5.out hL4
            | true =>
              have htu := Lib.hid (rule_turns A1 l c1 ⟨xk, xA, xc, xb⟩ false w4 hy4 hl b5 ⟨b2, b3⟩ hgx.out.1 hgx.out.2)
              have hsc : Hid (scanTAt (l.map At.kv) false (xk, xb) = if turnsP (lookOne l) xk (headB xb) false = false then 12 else 0) := by
                show _ = _
                unfold scanTAt
                rw [← look_kv, if_neg (by simp [hS]), show lookOne l = lookOneK (l.map At.kv) from funext fun k => lookOne_kv l k]
              clear hS
              go_wp2_with fail
              refine htu.out.mono ?_
              rintro e w5 ⟨rfl, hb5⟩
              have hbx5 := hbx4.trans (hb5.mono hz4)
              have hL5 := below_step hb5 hL4 (Nat.le_refl _)
              have hz5 := hbx5.size
              cases htt : turnsP (lookOne l) xk (headB xb) false with
              | false =>
                have hM5 : Hid (turnP (l.map At.kv) (m.map At.kv) false = ([], 12)) := hstop.out 12 (by omega) (by rw [hsc.out, if_pos htt])
                clear htt htu
                go_wp2
                go_ret2
                exact hfin.out _ _ hM5.out hL5
              | true =>
                have hal3 := Lib.hid (hal2.out (by rw [hsc.out, if_neg (by simp [htt])]))
                clear htt htu
                go_wp2
                go_roundw
                case rel => exact ⟨j + 1, by go_num, by omega, hal3.out, hbx5, hz5⟩
                case measure => simp [intOf]; omega
      | true =>
        have hM4 : Hid (turnP (l.map At.kv) (m.map At.kv) true = turnP1 (l.map At.kv) (m.map At.kv) true) := by show _ = _; rw [hM3.out, if_neg (fun h => by cases h.1)]
        obtain ⟨w3, hw3⟩ : ∃ w3, w3 = w2 := ⟨_, rfl⟩
        subst hw3
        have p3 := p2
        have q3 := q2
        have hL3 := hL2
        clear p2 q2 hL2
        go_wp2
        go_loopw [32] (fun x wr => ∃ j : Nat, x = .int .i64 j ∧ j ≤ m.length ∧ Hid (∀ i (_ : i < j) (h2 : i < m.length), scanTAt (l.map At.kv) true m[i].kv = 0) ∧ Below w3.heap.size w3 wr ∧ w3.heap.size ≤ wr.heap.size) (fun x _ => m.length - (intOf x).toNat)
        case atStart => exact ⟨0, rfl, by omega, fun i hi => absurd hi (by omega), Below.refl _ _, Nat.le_refl _⟩
        case round =>
          obtain ⟨j, rfl, hj, hal, hb, hz⟩ := hrel
          have hL := below_step hb hL3 (Nat.le_refl _)
          have hx1 := p3.step hb
          have hx2 := q3.step hb
          clear p3 q3 hL3
          by_cases hji : j = m.length
          · have hs0 : scanT (l.map At.kv) true (m.map At.kv) = 0 := scanT_all _ fun i hi => by
              simp at hi
              rw [List.getElem_map]
              exact hal.out i (by omega) hi
            have hM5 : Hid (turnP (l.map At.kv) (m.map At.kv) true = turnP2 (l.map At.kv) (m.map At.kv)) := by show _ = _; rw [hM4.out]; unfold turnP1; rw [if_neg (by simp [hs0])]
            have hoz : Hid (overZ (l.map At.kv) (m.map At.kv) = 0) := by show _ = _; unfold overZ; rw [hfl.out, hft.out]; rfl
            have hov := Lib.hid (attr_Over A1 A2 l m c1 c2 wr hx1 hx2 hl hm)
            rw [hoz.out] at hov
            clear hs0 hM4 hal hb hz hfl hft hoz
            subst hji
            go_wp2_with fail
            refine hov.out.mono ?_
            rintro e w4 ⟨v, rfl, Ao, o, co, rfl, hco, hoe, hAo, hb4⟩
            have hL4 := below_step hb4 hL (Nat.le_refl _)
            have hvo := Lib.hid (rule_Valid Ao o co _ hAo (by omega))
            rw [validP_kv, hoe] at hvo
            have hoeH := Lib.hid hoe
            clear hov hL hoe
            go_wp2_with fail
            refine hvo.out.mono ?_
            rintro e w5 ⟨rfl, hb5⟩
            have hL5 := below_step hb5 hL4 (Nat.le_refl _)
            cases hvv : validK (overS (l.map At.kv) (m.map At.kv)) with
            | false =>
              have hM6 : Hid (turnP (l.map At.kv) (m.map At.kv) true = ([], 12)) := by show _ = _; rw [hM5.out]; unfold turnP2; rw [if_pos hvv]
              clear hvv hvo
              go_wp2
              go_ret2
              exact hfin.out _ _ hM6.out hL5
            | true =>
              have hM6 : Hid (turnP (l.map At.kv) (m.map At.kv) true = (overS (l.map At.kv) (m.map At.kv), 0)) := by show _ = _; rw [hM5.out]; unfold turnP2; rw [if_neg (by simp [hvv])]
              have hA5 := hAo.step hb5
              clear hvv hvo
              go_wp2
              go_ret2
              rw [hM6.out]
              exact ⟨_, rfl, Ao, o, co, rfl, hco, hoeH.out, hA5, hL5⟩
          · have hjl : j < m.length := by omega
            obtain ⟨ad, rfl, hbl, q1, q2⟩ := hx2.at_ hjl
            obtain ⟨b1, b2, b3⟩ := hx2.body _ (List.getElem_mem hjl)
            have hgx : Hid (fitsB (m[j].kind, m[j].body) = true ∧ (1 ≤ m[j].kind ∧ m[j].kind ≤ 18)) := ⟨hgt.out.fits _ (List.mem_map.2 ⟨_, List.getElem_mem hjl, rfl⟩), hgt.out.kind _ (List.mem_map.2 ⟨_, List.getElem_mem hjl, rfl⟩)⟩
            have hstop : Hid (∀ z : Int, z ≠ 0 → scanTAt (l.map At.kv) true (m[j].kind, m[j].body) = z → turnP (l.map At.kv) (m.map At.kv) true = ([], z)) := fun z hz h0 => by
              have hs0 : scanT (l.map At.kv) true (m.map At.kv) = z := scanT_stop hz j _ (by simpa using hjl) (fun i hi => by rw [List.getElem_map]; exact hal.out i hi (by omega)) (by rw [List.getElem_map]; exact h0)
              rw [hM4.out]; unfold turnP1; rw [hs0, if_pos hz]
            have hal2 : Hid (scanTAt (l.map At.kv) true (m[j].kind, m[j].body) = 0 → ∀ i (_ : i < j + 1) (h2 : i < m.length), scanTAt (l.map At.kv) true m[i].kv = 0) := fun hx i hi h1 => by
              rcases Nat.lt_or_ge i j with h3 | h3
              · exact hal.out i h3 h1
              · obtain rfl : i = j := by omega
                exact hx
            generalize m[j] = x at *
            obtain ⟨xk, xA, xc, xb⟩ := x
            simp only at q1 q2 b1 b2 b3 hgx hstop hal2
            have hbW : Below wr.heap.size wr (wr.alloc (.cells #[.int .i64 xk, .slice xA xb.length xc] 120)) := below_alloc' wr _
            have hy1 := hx1.step hbW
            have hbx := hb.trans (hbW.mono hz)
            have hLx := below_step hbW hL (Nat.le_refl _)
            have b4 := (b1.below hbW).more hbW.size
            have hge := Lib.hid (get_any A1 l c1 xk _ hy1 hl)
            go_wp2_with fail
            refine hge.out.mono ?_
            rintro e w4 ⟨A4, n4, c4, rfl, hb4⟩
            have hy4 := hy1.step hb4
            have hbx4 := hbx.trans (hb4.mono hbx.size)
            have hL4 := below_step hb4 hLx (Nat.le_refl _)
            have b5 := (b4.below hb4).more hb4.size
            obtain ⟨hc1, hf1⟩ := bcell hb4
            have hz4 := hbx4.size
            clear b1 b4 hbW hy1 hb4 hge hx1 hx2
            cases hS : (look l xk).isSome with
            | false =>
              have hM5 : Hid (turnP (l.map At.kv) (m.map At.kv) true = ([], 13)) := hstop.out 13 (by omega) (by unfold scanTAt; rw [← look_kv, if_pos hS])
              clear hS
              go_wp2
              go_ret2
              exact hfin.out _ _ hM5.out hL4
            | true =>
              have htu := Lib.hid (rule_turns A1 l c1 ⟨xk, xA, xc, xb⟩ true w4 hy4 hl b5 ⟨b2, b3⟩ hgx.out.1 hgx.out.2)
              have hsc : Hid (scanTAt (l.map At.kv) true (xk, xb) = if turnsP (lookOne l) xk (headB xb) true = false then 12 else 0) := by
                show _ = _
                unfold scanTAt
                rw [← look_kv, if_neg (by simp [hS]), show lookOne l = lookOneK (l.map At.kv) from funext fun k => lookOne_kv l k]
              clear hS
              go_wp2_with fail
              refine htu.out.mono ?_
              rintro e w5 ⟨rfl, hb5⟩
              have hbx5 := hbx4.trans (hb5.mono hz4)
              have hL5 := below_step hb5 hL4 (Nat.le_refl _)
              have hz5 := hbx5.size
              cases htt : turnsP (lookOne l) xk (headB xb) true with
              | false =>
                have hM5 : Hid (turnP (l.map At.kv) (m.map At.kv) true = ([], 12)) := hstop.out 12 (by omega) (by rw [hsc.out, if_pos htt])
                clear htt htu
                go_wp2
                go_ret2
                exact hfin.out _ _ hM5.out hL5
              | true =>
                have hal3 := Lib.hid (hal2.out (by rw [hsc.out, if_neg (by simp [htt])]))
                clear htt htu
                go_wp2
                go_roundw
                case rel => exact ⟨j + 1, by go_num, by omega, hal3.out, hbx5, hz5⟩
                case measure => simp [intOf]; omega
    · have hM3 : Hid (turnP (l.map At.kv) (m.map At.kv) cp = ([], G)) := by show _ = _; rw [hM2.out, if_pos hgz]
      have hb0 : (G == 0) = false := by simpa using hgz
      have hb1' : (G != 0) = true := by simpa using hgz
      clear hgz hG hM2
      go_wp2
      go_ret2
      exact hfin.out _ _ hM3.out hL2
end Go.Proofs.Ytdlmamnnamlleaa
