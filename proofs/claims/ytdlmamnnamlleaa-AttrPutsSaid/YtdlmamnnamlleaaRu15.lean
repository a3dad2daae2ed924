/- Package rule's Make. -/
import Derived.Test.YtdlmamnnamlleaaRu14
namespace Go.Proofs.Ytdlmamnnamlleaa
open Go.ChangeShapes Go.WideShapes Go.ChangeAt Go.RowKit
set_option maxHeartbeats 1000000
set_option maxRecDepth 100000
attribute [local go_sem] kp_refl kp_alloc kp_setCell kp_drew kp_drewN row_new row_old rowAt_new rowAt_old

def scanAt (ks : List Nat) (k : Int) : Int := if hasInt ks k = false then 13 else if k = 10 ∨ k = 11 ∨ k = 12 then 12 else 0
def scanK (ks : List Nat) : List Int → Int
  | [] => 0
  | k :: r => if scanAt ks k = 0 then scanK ks r else scanAt ks k
theorem scanK_stop {ks : List Nat} {z : Int} (hz : z ≠ 0) : ∀ (j : Nat) (l : List Int) (hj : j < l.length), (∀ i (h : i < j), scanAt ks (l[i]'(by omega)) = 0) → scanAt ks l[j] = z → scanK ks l = z := by
  intro j
  induction j with
  | zero =>
    intro l hj _ h
    cases l with
    | nil => simp at hj
    | cons x r => simp only [List.getElem_cons_zero] at h; simp only [scanK, h, if_neg hz]
  | succ j ih =>
    intro l hj h0 h
    cases l with
    | nil => simp at hj
    | cons x r =>
      have h1 := h0 0 (by omega)
      simp only [List.getElem_cons_zero] at h1
      simp only [scanK, h1, if_true]
      exact ih r (by simp at hj; omega) (fun i hi => by simpa using h0 (i + 1) (by omega)) (by simpa using h)
theorem scanK_all {ks : List Nat} : ∀ (l : List Int), (∀ i (h : i < l.length), scanAt ks l[i] = 0) → scanK ks l = 0 := by
  intro l
  induction l with
  | nil => intro _; rfl
  | cons x r ih =>
    intro h
    have h1 := h 0 (by simp)
    simp only [List.getElem_cons_zero] at h1
    simp only [scanK, h1, if_true]
    exact ih fun i hi => by
      have h2 := h (i + 1) (by simp; omega)
      simpa using h2

def outAt (l : List At) (cls : Nat) (loc : Bool) (k : Nat) : KV := ((k : Int), (look l k).getD (missP l k cls loc))
def outP (l : List At) (cls : Nat) (loc : Bool) (ks : List Nat) : List KV := ks.map (outAt l cls loc)
theorem missP_len (l : List At) (k : Int) (cls : Nat) (loc : Bool) : (missP l k cls loc).length ≤ 1 := by
  unfold missP flagB
  repeat' split
  all_goals simp
theorem look_len {l : List At} {w : World} {B : Nat} {A : Option Addr} (h : Ats w B A l) {k : Int} {b : List UInt8} (hb : look l k = some b) : b.length ≤ 140737488351232 := by
  obtain ⟨i, hi, rfl⟩ := look_some hb
  exact (h.body _ (List.getElem_mem hi.lt)).2.2.2
def lookOneK (s : List KV) (k : Int) : Bool := lookK s k == some [1]
def soundK (s : List KV) : Bool := if (lookOneK s 10 && !lookOneK s 8) || (lookOneK s 11 && lookOneK s 9) then false else !(lookOneK s 16 || lookOneK s 17) || !(lookOneK s 13 || (lookOneK s 14 || lookOneK s 15))
def validK (s : List KV) : Bool := fault s == 0 && (decide (s.length = (kindsN (clsL s)).length) && (decide (s.length ≠ 0) && (decide (s.map (·.1) = (kindsN (clsL s)).map fun k : Nat => (k : Int)) && (sizedP (clsL s) ((lookK s 4).getD []).length && soundK s))))
theorem lookOne_kv (l : List At) (k : Int) : lookOne l k = lookOneK (l.map At.kv) k := by unfold lookOne lookOneK; rw [look_kv]
theorem validP_kv (l : List At) : validP l = validK (l.map At.kv) := by
  unfold validP validK soundP soundK kindsAre
  simp only [lookOne_kv, look_kv, List.length_map, List.map_map]
  rfl
/-- What Make answers. -/
def makeP3 (l : List At) (loc : Bool) (C : Nat) (ks : List Nat) : List KV × Int := if validK (outP l C loc ks) = false then ([], 12) else (outP l C loc ks, 0)
def makeP2 (l : List At) (loc : Bool) (C : Nat) (ks : List Nat) : List KV × Int :=
  match look l 4 with
  | none => ([], 3)
  | some b => if sizedP C b.length = false then ([], 4) else makeP3 l loc C ks
def makeP1 (l : List At) (loc : Bool) (C : Nat) (ks : List Nat) : List KV × Int := if scanK ks (l.map At.kind) ≠ 0 then ([], scanK ks (l.map At.kind)) else makeP2 l loc C ks
def makeP0 (l : List At) (loc : Bool) (C : Nat) : List KV × Int := if C = 0 then ([], 1) else makeP1 l loc C (kindsN C)
def makeP (l : List At) (loc : Bool) : List KV × Int := if fault (l.map At.kv) ≠ 0 then ([], fault (l.map At.kv)) else makeP0 l loc (clsL (l.map At.kv))
theorem atsErr_of {l : List At} {loc : Bool} {w w' : World} {z : Int} (h : makeP l loc = ([], z)) (hb : Below w.heap.size w w') : AtsErr (makeP l loc).1 (makeP l loc).2 w (.returned (.tuple #[.slice none 0 0, .int .i64 z])) w' := by
  rw [h]; exact ⟨_, rfl, AtsR.nil hb⟩

set_option maxHeartbeats 8000000 in
theorem rule_Make (A : Option Addr) (l : List At) (c : Nat) (loc : Bool) (w : World) (h : Ats w w.heap.size A l) (hl : l.length ≤ 9223372036854775807) :
    Calls Try.prog 15 #[.slice A l.length c, .bool loc] w (AtsErr (makeP l loc).1 (makeP l loc).2 w) := by
  have hM : Hid (makeP l loc = if fault (l.map At.kv) ≠ 0 then ([], fault (l.map At.kv)) else makeP0 l loc (clsL (l.map At.kv))) := rfl
  have hcl := Lib.hid (clsL_lt (l.map At.kv))
  have hks := kindsN_len (clsL (l.map At.kv))
  have hfin := Lib.hid (fun (z : Int) (w' : World) (h : makeP l loc = ([], z)) (hb : Below w.heap.size w w') => atsErr_of h hb)
  go_enter Try.func15, Try.ntmps15
  go_wp2_with fail
  refine (attr_Check A l c _ h hl).mono ?_
  rintro e w1 ⟨rfl, hb1⟩
  have h1 := h.step hb1
  generalize hF : fault (l.map At.kv) = F at *
  replace hF := Lib.hid hF
  by_cases hf : F = 0
  · subst hf
    have hM1 : Hid (makeP l loc = makeP0 l loc (clsL (l.map At.kv))) := by show _ = _; rw [hM.out, if_neg (by simp)]
    clear hM
    go_wp2_with fail
    refine (rule_classOf A l c _ h1 hl).mono ?_
    rintro e w2 ⟨rfl, hb2⟩
    have h2 := h1.step hb2
    have hL2 := below_step hb2 hb1 (Nat.le_refl _)
    generalize hcE : clsL (l.map At.kv) = C at *
    replace hcE := Lib.hid hcE
    by_cases hc0 : C = 0
    · subst hc0
      have hM2 : Hid (makeP l loc = ([], 1)) := by show _ = _; rw [hM1.out]; rfl
      go_wp2
      go_ret2
      exact hfin.out _ _ hM2.out hL2
    · have hM2 : Hid (makeP l loc = makeP1 l loc C (kindsN C)) := by show _ = _; rw [hM1.out]; unfold makeP0; rw [if_neg hc0]
      have hd0 : ((C : Int) == 0) = false := by rw [beq_eq_false_iff_ne]; omega
      clear hM1 hc0
      go_wp2_with fail
      refine (rule_Kinds _ hcl.out _).mono ?_
      rintro e w3 ⟨v, rfl, K, kc, rfl, hk1, hk2, hk3, hb3⟩
      have h3 := h2.step hb3
      have hL3 := below_step hb3 hL2 (Nat.le_refl _)
      generalize hkE : kindsN C = ks at *
      replace hkE := Lib.hid hkE
      clear h1 h2 hb1 hb2 hb3 hL2
      go_wp2
      go_loopw [31] (fun x wr => ∃ j : Nat, x = .int .i64 j ∧ j ≤ l.length ∧ Below w.heap.size w wr ∧ w.heap.size ≤ wr.heap.size ∧ Below w3.heap.size w3 wr ∧ Hid (∀ i (hi : i < j) (h2 : i < l.length), scanAt ks l[i].kind = 0)) (fun x _ => l.length - (intOf x).toNat)
      case atStart => exact ⟨0, rfl, by omega, hL3, hL3.size, Below.refl _ _, fun i hi => absurd hi (by omega)⟩
      case round =>
        obtain ⟨j, rfl, hj, hb, hz, hb3, hal⟩ := hrel
        have hw := h.kp (kp_of_below hb)
        have hkr := (hk3.below hb3).more hb3.size
        by_cases hji : j = l.length
        · have hs0 : scanK ks (l.map At.kind) = 0 := scanK_all _ fun i hi => by
            simp at hi
            rw [List.getElem_map]
            exact hal.out i (by omega) hi
          have hM3 : Hid (makeP l loc = makeP2 l loc C ks) := by show _ = _; rw [hM2.out]; unfold makeP1; rw [if_neg (by simp [hs0])]
          clear hs0 hM2
          subst hji
          have hw' := hw.more hz
          have hsz := Lib.hid (fun n V => rule_sized C n V)
          cases h4 : look l 4 with
          | none =>
            have hM4 : Hid (makeP l loc = ([], 3)) := by show _ = _; rw [hM3.out]; unfold makeP2; rw [h4]
            have h4' := Lib.hid h4
            clear h4
            go_wp2_with fail
            refine (get_none A l c 4 _ hw' hl h4'.out).mono ?_
            rintro e w4 ⟨rfl, hb4⟩
            have hL4 := below_step hb4 hb (Nat.le_refl _)
            go_wp2
            go_ret2
            exact hfin.out _ _ hM4.out hL4
          | some b =>
            have hM4 : Hid (makeP l loc = if sizedP C b.length = false then ([], 4) else makeP3 l loc C ks) := by show _ = _; rw [hM3.out]; unfold makeP2; rw [h4]
            have h4' := Lib.hid h4
            clear h4
            go_wp2_with fail
            refine (get_some A l c 4 _ hw' hl h4'.out).mono ?_
            rintro e w4 ⟨v, rfl, A', c', rfl, hr, hx1, hx2, hb4⟩
            have h5 := hw'.step hb4
            have hL4 := below_step hb4 hb (Nat.le_refl _)
            have hk4 := (hkr.below hb4).more hb4.size
            go_wp2_with fail
            refine (hsz.out _ _).mono ?_
            rintro e w5 ⟨rfl, rfl⟩
            cases hs : sizedP C (b.length : Int)
            · have hM5 : Hid (makeP l loc = ([], 4)) := by show _ = _; rw [hM4.out, if_pos hs]
              clear hs
              go_wp2
              go_ret2
              exact hfin.out _ _ hM5.out hL4
            · have hM5 : Hid (makeP l loc = makeP3 l loc C ks) := by show _ = _; rw [hM4.out, if_neg (by simp [hs])]
              clear hs hw hw' hkr hb4 hr
              go_wp2
              go_loopw [13, 68] (fun v x wx => ∃ (n : Nat) (o : List At), x = .int .i64 n ∧ n ≤ ks.length ∧ Hid (o.map At.kv = outP l C loc (ks.take n)) ∧ AtsOwn w4.heap.size wx v o ∧ Below w4.heap.size w4 wx ∧ w4.heap.size ≤ wx.heap.size) (fun _ x _ => ks.length - (intOf x).toNat)
              case atStart => exact ⟨0, [], rfl, by omega, rfl, AtsOwn.nil _ _, Below.refl _ _, Nat.le_refl _⟩
              case round =>
                obtain ⟨n, o, rfl, hn, ho, hI, hbx, hzx⟩ := hrel
                have hLx := below_step hbx hL4 (Nat.le_refl _)
                have hx5 := h5.step hbx
                obtain ⟨A4, c4, hv4⟩ := own_formA hI.own
                subst hv4
                have hol : Hid (o.length ≤ ks.length) := by
                  show _ ≤ _
                  have := congrArg List.length ho.out
                  simp [outP] at this
                  omega
                by_cases hn9 : n = ks.length
                · have ho2 : Hid (o.map At.kv = outP l C loc ks) := by show _ = _; rw [ho.out, List.take_of_length_le (by omega)]
                  subst hn9
                  obtain ⟨A6, c6, e6, hc6, hA6⟩ := hI.ats
                  injection e6 with e6 e7 e8
                  subst e6
                  subst e8
                  have hval := Lib.hid (rule_Valid A4 o c4 _ hA6 (by have := hol.out; omega))
                  have hvk : Hid (validP o = validK (outP l C loc ks)) := by show _ = _; rw [validP_kv, ho2.out]
                  go_wp2_with fail
                  refine hval.out.mono ?_
                  rintro e w7 ⟨rfl, hb7⟩
                  have hL7 := below_step hb7 hLx (Nat.le_refl _)
                  rw [hvk.out]
                  cases hvv : validK (outP l C loc ks) with
                  | false =>
                    have hM6 : Hid (makeP l loc = ([], 12)) := by show _ = _; rw [hM5.out]; unfold makeP3; rw [if_pos hvv]
                    clear hvv
                    go_wp2
                    go_ret2
                    exact hfin.out _ _ hM6.out hL7
                  | true =>
                    have hM6 : Hid (makeP l loc = (outP l C loc ks, 0)) := by show _ = _; rw [hM5.out]; unfold makeP3; rw [if_neg (by simp [hvv])]
                    clear hvv
                    go_wp2
                    go_ret2
                    rw [hM6.out]
                    exact ⟨_, rfl, A4, o, c4, rfl, hc6, ho2.out, hA6.step hb7, hL7⟩
                · have hnk : n < ks.length := by omega
                  have hkx := hk4.below hbx
                  obtain ⟨kd, rfl, hkb, d1⟩ := hkx.at_ (k := n) (by rw [kndV_len]; exact hnk)
                  rw [kndV_at hnk] at d1
                  have hstep : Hid (outP l C loc (ks.take (n + 1)) = outP l C loc (ks.take n) ++ [outAt l C loc ks[n]]) := by show _ = _; unfold outP; rw [List.take_succ_eq_append_getElem hnk, List.map_append]; rfl
                  have hmiss := Lib.hid (missP_len l (ks[n] : Nat) C loc)
                  unfold outAt at hstep
                  generalize (ks[n] : Nat) = kk at *
                  have hkb2 : kd.block < wr.heap.size := Nat.lt_of_lt_of_le hkb hbx.size
                  cases hlk : look l (kk : Int) with
                  | some bb =>
                    have hst2 : Hid (outP l C loc (ks.take (n + 1)) = outP l C loc (ks.take n) ++ [((kk : Int), bb)]) := by show _ = _; rw [hstep.out, hlk]; rfl
                    have hbl := look_len hx5 hlk
                    have hlk' := Lib.hid hlk
                    clear hlk hstep
                    go_wp2_with fail
                    refine (get_someF A l c _ _ hx5 hl hlk'.out).mono ?_
                    rintro e w8 ⟨v, rfl, A8, c8, rfl, hr8, hx8, hc8, hb8, hf8⟩
                    have hI8 := hI.below hb8
                    have hown : ∀ g, (Value.slice A4 o.length c4).ownBlock = some g → w4.heap.size ≤ g ∧ g < wr.heap.size := hI.own.lt
                    have hsz8 := hb8.size
                    have hbW : Below w8.heap.size w8 ((w8.alloc (.cells #[.int .i64 (kk : Int), .slice A8 bb.length c8] 120))) := below_alloc' w8 _
                    have hIW := Lib.hid (hI8.below hbW)
                    go_wp2_with (at_builtin; go_must (refine wpList_ats rfl (.tmp 85) (.tmp 89) rfl rfl hIW.out (by simp; omega) ⟨kk, A8, c8, bb⟩ (g := w8.heap.size) rfl (blk_new _ _ rfl) ((hr8.below hbW).more (by simp)) ⟨hx8, hc8, hbl⟩ (fun a ha => ⟨by have := (hf8 a ha).2; simp; omega, fun e => by have := (hown _ e.symm).2; have := (hf8 a ha).1; omega⟩) (by have := hol.out; omega) ?_); intro v2 w2 hI2 hb2 hk2 hz2)
                    go_roundw
                    case rel =>
                      refine ⟨n + 1, o ++ [⟨kk, A8, c8, bb⟩], by go_num, by omega, by show _ = _; rw [hst2.out, List.map_append, ho.out]; rfl, hI2, ?_, ?_⟩
                      · exact ((hbx.trans (hb8.mono hzx)).trans (hbW.mono (by omega))).trans (hb2.mono (Nat.le_refl _))
                      · simp at hz2; omega
                    case measure => simp [intOf]; omega
                  | none =>
                    have hst2 : Hid (outP l C loc (ks.take (n + 1)) = outP l C loc (ks.take n) ++ [((kk : Int), missP l kk C loc)]) := by show _ = _; rw [hstep.out, hlk]; rfl
                    have hlk' := Lib.hid hlk
                    clear hlk hstep
                    go_wp2_with fail
                    refine (get_none A l c _ _ hx5 hl hlk'.out).mono ?_
                    rintro e w8 ⟨rfl, hb80⟩
                    have hx6 := hx5.step hb80
                    go_wp2_with fail
                    refine (rule_missing A l c _ C loc _ hx6 hl).mono ?_
                    rintro e w9 ⟨v, rfl, hv9⟩
                    obtain ⟨A8, c8, rfl, hr8, hx8, hc8, hb8, hf8⟩ := hv9.trans hb80
                    have hbl : (missP l (kk : Int) C loc).length ≤ 140737488351232 := by have := hmiss.out; omega
                    generalize missP l (kk : Int) C loc = bb at *
                    have hI8 := hI.below hb8
                    have hown : ∀ g, (Value.slice A4 o.length c4).ownBlock = some g → w4.heap.size ≤ g ∧ g < wr.heap.size := hI.own.lt
                    have hsz8 := hb8.size
                    have hbW : Below w9.heap.size w9 ((w9.alloc (.cells #[.int .i64 (kk : Int), .slice A8 bb.length c8] 120))) := below_alloc' w9 _
                    have hIW := Lib.hid (hI8.below hbW)
                    go_wp2_with (at_builtin; go_must (refine wpList_ats rfl (.tmp 85) (.tmp 89) rfl rfl hIW.out (by simp; omega) ⟨kk, A8, c8, bb⟩ (g := w9.heap.size) rfl (blk_new _ _ rfl) ((hr8.below hbW).more (by simp)) ⟨hx8, hc8, hbl⟩ (fun a ha => ⟨by have := (hf8 a ha).2; simp; omega, fun e => by have := (hown _ e.symm).2; have := (hf8 a ha).1; omega⟩) (by have := hol.out; omega) ?_); intro v2 w2 hI2 hb2 hk2 hz2)
                    go_roundw
                    case rel =>
                      refine ⟨n + 1, o ++ [⟨kk, A8, c8, bb⟩], by go_num, by omega, by show _ = _; rw [hst2.out, List.map_append, ho.out]; rfl, hI2, ?_, ?_⟩
                      · exact ((hbx.trans (hb8.mono hzx)).trans (hbW.mono (by omega))).trans (hb2.mono (Nat.le_refl _))
                      · simp at hz2; omega
                    case measure => simp [intOf]; omega
        · have hjl : j < l.length := by omega
          obtain ⟨ad, rfl, hbl, c1, c2⟩ := hw.at_ hjl
          have hstop : Hid (∀ z : Int, z ≠ 0 → scanAt ks l[j].kind = z → makeP l loc = ([], z)) := fun z hz h0 => by
            have hs0 : scanK ks (l.map At.kind) = z := scanK_stop hz j _ (by simpa using hjl) (fun i hi => by rw [List.getElem_map]; exact hal.out i hi (by omega)) (by rw [List.getElem_map]; exact h0)
            rw [hM2.out]; unfold makeP1; rw [hs0, if_pos hz]
          have hal2 : Hid (scanAt ks l[j].kind = 0 → ∀ i (hi : i < j + 1) (h2 : i < l.length), scanAt ks l[i].kind = 0) := fun hx i hi h1 => by
            rcases Nat.lt_or_ge i j with h3 | h3
            · exact hal.out i h3 h1
            · obtain rfl : i = j := by omega
              exact hx
          generalize l[j] = x at *
          obtain ⟨xk, xA, xc, xb⟩ := x
          simp only at c1 c2 hstop hal2
          have hbW : Below wr.heap.size wr (wr.alloc (.cells #[.int .i64 xk, .slice xA xb.length xc] 120)) := below_alloc' wr _
          have hbx := hb.trans (hbW.mono hz)
          have hbx3 := hb3.trans (hbW.mono hb3.size)
          have hcon := Lib.hid (ints_Contains K ks kc xk (wr.alloc (.cells #[.int .i64 xk, .slice xA xb.length xc] 120)) ((hkr.below hbW).more (by simp)) (by omega))
          cases hh : hasInt ks xk with
          | false =>
            have hM3 : Hid (makeP l loc = ([], 13)) := hstop.out 13 (by omega) (by unfold scanAt; rw [if_pos hh])
            rw [hh] at hcon
            clear hh
            go_wp2_with fail
            refine hcon.out.mono ?_
            rintro e w5 ⟨rfl, rfl⟩
            go_wp2
            go_ret2
            exact hfin.out _ _ hM3.out hbx
          | true =>
            have hsc : Hid (scanAt ks xk = if xk = 10 ∨ xk = 11 ∨ xk = 12 then 12 else 0) := by show _ = _; unfold scanAt; rw [if_neg (by simp [hh])]
            rw [hh] at hcon
            clear hh
            by_cases hk : xk = 10 ∨ xk = 11 ∨ xk = 12
            · have hM3 : Hid (makeP l loc = ([], 12)) := hstop.out 12 (by omega) (by rw [hsc.out, if_pos hk])
              rcases hk with rfl | rfl | rfl
              all_goals
                go_wp2_with fail
                refine hcon.out.mono ?_
                rintro e w5 ⟨rfl, rfl⟩
                go_wp2
                go_ret2
                exact hfin.out _ _ hM3.out hbx
            · have hal3 := Lib.hid (hal2.out (by rw [hsc.out, if_neg hk]))
              have d10 : (xk == 10) = false := by rw [beq_eq_false_iff_ne]; omega
              have d11 : (xk == 11) = false := by rw [beq_eq_false_iff_ne]; omega
              have d12 : (xk == 12) = false := by rw [beq_eq_false_iff_ne]; omega
              clear hk
              go_wp2_with fail
              refine hcon.out.mono ?_
              rintro e w5 ⟨rfl, rfl⟩
              go_wp2
              go_roundw
              case rel => exact ⟨j + 1, by go_num, by omega, hbx, by simp; omega, hbx3, hal3.out⟩
              case measure => simp [intOf]; omega
  · have hM2 : Hid (makeP l loc = ([], F)) := by show _ = _; rw [hM.out, if_pos hf]
    have hb0 : (F == 0) = false := by simpa using hf
    have hb1' : (F != 0) = true := by simpa using hf
    go_wp2
    go_ret2
    exact hfin.out _ _ hM2.out hb1
end Go.Proofs.Ytdlmamnnamlleaa
