/- Package login: Open. -/
import Derived.Test.YtdlmamnnamlleaaLg3
import Derived.Test.YtdlmamnnamlleaaTail2
import Derived.Deep.QuietTactic
import Derived.BigQuiet
import Derived.Deep.DeepCutAuto
namespace Go.Proofs.Ytdlmamnnamlleaa
open Go.ChangeShapes Go.WideShapes Go.ChangeAt Go.RowKit
set_option maxHeartbeats 1000000
set_option maxRecDepth 100000

def openP (l : List (Int × Bool)) (most last who : Int) (rw : Bool) : Int × Int :=
  if most ≤ (l.length : Int) then (0, 7) else if rw = false ∧ who = 2 then (0, 8) else (last + 1, 0)
def openL (l : List (Int × Bool)) (most last who : Int) (rw : Bool) : List (Int × Bool) :=
  if most ≤ (l.length : Int) then l else if rw = false ∧ who = 2 then l else l ++ [(last + 1, rw)]
def openN (l : List (Int × Bool)) (most last who : Int) (rw : Bool) : Int :=
  if most ≤ (l.length : Int) then last else if rw = false ∧ who = 2 then last else last + 1
def OpenR (g bm : Nat) (most last who : Int) (l : List (Int × Bool)) (rw : Bool) (w : World) (e : Ending) (w' : World) : Prop :=
  e = .returned (.tuple #[.int .i64 (openP l most last who rw).1, .int .i64 (openP l most last who rw).2]) ∧ DeskAt w' g bm most (openN l most last who rw) who (openL l most last who rw) ∧ But g bm w w'
theorem DeskAt.dN {w : World} {g bm : Nat} {most last who : Int} {l : List (Int × Bool)} (h : DeskAt w g bm most last who l) (n : Nat) : DeskAt (w.drewN n) g bm most last who l := ⟨h.cells, ⟨h.mp.own, h.mp.asc, h.mp.wf⟩⟩
theorem but_dN (g b : Nat) (w : World) (n : Nat) : But g b w (w.drewN n) := ⟨rfl, rfl, rfl, Nat.le_refl _, fun _ _ _ _ => rfl⟩
theorem ses_push (l : List (Int × Bool)) (k : Int) (b : Bool) : sesM (l ++ [(k, b)]) = sesM l ++ [(k, sesV b)] := by simp [sesM]
set_option maxHeartbeats 4000000 in
theorem desk_Open (g bm : Nat) (most last who : Int) (l : List (Int × Bool)) (rw : Bool) (w : World) (h : DeskAt w g bm most last who l) (hlast : 0 ≤ last ∧ last < 1073741823) (hid : ∀ p ∈ l, p.1 ≤ last) (hll : l.length ≤ 100000) :
    Calls Try.prog 90 #[.pointer (some ⟨g, 0, none⟩), .bool rw] w (OpenR g bm most last who l rw w) := by
  have hP : Hid (openP l most last who rw = if most ≤ (l.length : Int) then (0, 7) else if rw = false ∧ who = 2 then (0, 8) else (last + 1, 0)) := rfl
  have hL : Hid (openL l most last who rw = if most ≤ (l.length : Int) then l else if rw = false ∧ who = 2 then l else l ++ [(last + 1, rw)]) := rfl
  have hN : Hid (openN l most last who rw = if most ≤ (l.length : Int) then last else if rw = false ∧ who = 2 then last else last + 1) := rfl
  obtain ⟨c0, c1, c2, c3, cf⟩ := h.c
  have hlt := h.lt
  have hln := fun ty n => run_mplen (h.dN n).mp (t := 140) Try.underlying140 ty
  rw [show (sesM l).length = l.length from by unfold sesM; rw [List.length_map]] at hln
  have hH := Lib.hid h
  by_cases hf : most ≤ (l.length : Int)
  · have hP1 : Hid (openP l most last who rw = (0, 7)) := by show _ = _; rw [hP.out, if_pos hf]
    have hL1 : Hid (openL l most last who rw = l) := by show _ = _; rw [hL.out, if_pos hf]
    have hN1 : Hid (openN l most last who rw = last) := by show _ = _; rw [hN.out, if_pos hf]
    have hd : decide ((l.length : Int) ≥ most) = true := by simpa using hf
    have hd2 : decide (most ≤ (l.length : Int)) = true := by simpa using hf
    clear hP hL hN h
    go_enter Try.func90, Try.ntmps90
    go_wp2
    go_quiet (fail)
    go_wp2
    go_ret2
    exact ⟨by rw [hP1.out]; rfl, by rw [hL1.out, hN1.out]; exact hH.out.dN _, but_dN _ _ _ _⟩
  · have hd : decide ((l.length : Int) ≥ most) = false := by simpa using hf
    have hd2 : decide (most ≤ (l.length : Int)) = false := by simpa using hf
    have hd3 : (last == 1073741823) = false := by rw [beq_eq_false_iff_ne]; omega
    by_cases hw : rw = false ∧ who = 2
    · have hP1 : Hid (openP l most last who rw = (0, 8)) := by show _ = _; rw [hP.out, if_neg hf, if_pos hw]
      have hL1 : Hid (openL l most last who rw = l) := by show _ = _; rw [hL.out, if_neg hf, if_pos hw]
      have hN1 : Hid (openN l most last who rw = last) := by show _ = _; rw [hN.out, if_neg hf, if_pos hw]
      obtain ⟨rfl, rfl⟩ := hw
      clear hP hL hN h hf
      go_enter Try.func90, Try.ntmps90
      go_wp2
      go_quiet (fail)
      go_wp2
      go_ret2
      exact ⟨by rw [hP1.out]; rfl, by rw [hL1.out, hN1.out]; exact hH.out.dN _, but_dN _ _ _ _⟩
    · have hP1 : Hid (openP l most last who rw = (last + 1, 0)) := by show _ = _; rw [hP.out, if_neg hf, if_neg hw]
      have hL1 : Hid (openL l most last who rw = l ++ [(last + 1, rw)]) := by show _ = _; rw [hL.out, if_neg hf, if_neg hw]
      have hN1 : Hid (openN l most last who rw = last + 1) := by show _ = _; rw [hN.out, if_neg hf, if_neg hw]
      have hgo : rw = true ∨ rw = false ∧ (who == 2) = false := by
        cases rw with
        | true => exact .inl rfl
        | false => exact .inr ⟨rfl, by rw [beq_eq_false_iff_ne]; exact fun e => hw ⟨rfl, e⟩⟩
      have hwp : IntKind.i64.wrap (last + 1) = last + 1 := by rw [IntKind.wrap_i64]; omega
      clear hP hL hN h hf hw
      rcases hgo with rfl | ⟨rfl, hw2⟩
      · go_enter Try.func90, Try.ntmps90
        go_wp2
        go_quiet (fail)
        generalize hW1 : w.drewN _ = w1
        have hB1 : Hid (But g bm w w1) := by rw [← hW1]; exact but_dN _ _ _ _
        have h1 : DeskAt w1 g bm most last who l := by rw [← hW1]; exact hH.out.dN _
        clear hW1 hln c0 c1 c2 c3 cf
        obtain ⟨c0, c1, c2, c3, cf⟩ := h1.c
        have hlt1 := h1.lt
        have hD1 := h1.last (last + 1)
        have hB2 := Lib.hid (hB1.out.trans (but_setCell (w := w1) (b := bm) ⟨g, 1, none⟩ (.int .i64 (last + 1)) (.inl rfl)))
        go_upto_region 6 with (fail)
        generalize w1.setCell ⟨g, 1, none⟩ (.int .i64 (last + 1)) = w2 at *
        have hD := Lib.hid (fun V (hV : Below w2.heap.size w2 V) => hD1.step hV)
        clear hD1 h1 c0 c1 c2 c3 cf hlt1
        generalize ha0 : Act.mk _ _ = a0
        have e0 : a0.tmps[0]?.getD undef = .pointer (some ⟨g, 0, none⟩) := by rw [← ha0]; rfl
        have e1 : a0.tmps[1]?.getD undef = .bool true := by rw [← ha0]; rfl
        have hz0 : a0.tmps.size = 55 := by rw [← ha0]; rfl
        have hha0 := Lib.hid ha0
        clear ha0
        refine wp_region_tailL (fun jx_ => match jx_ with | 0 => SRel.is (.pointer (some ⟨g, 0, none⟩)) | 1 => SRel.is (.pointer (some ⟨g, 0, none⟩)) | 2 => SRel.is (.pointer (some ⟨g, 3, none⟩)) | 3 => SRel.is (.map (some bm)) | 4 => SRel.is (.pointer (some ⟨g, 0, none⟩)) | 5 => SRel.is (.pointer (some ⟨g, 0, none⟩)) | 6 => SRel.is (.pointer (some ⟨g, 1, none⟩)) | 7 => SRel.is (.int .i64 (last + 1)) | 8 => SRel.is (.bool true) | 9 => SRel.is (.agg #[.bool true]) | 10 => SRel.any | _ => SRel.any) 10 (by kernel_rfl) (by kernel_rfl) (by kernel_rfl) (slotsOk_of hz0 (by kernel_rfl)) (by kernel_rfl) (of_decide_eq_true (by kernel_rfl)) ⟨?_, ?_, ?_, ?_, ?_, ?_, ?_, ?_, ?_, ?_, trivial⟩ ?_
        · refine calmL_step rfl fun a ω κ hb hu hc hK => ?_
          have h0 : a.tmps[0]?.getD undef = .pointer (some ⟨g, 0, none⟩) := (hu 0 rfl).trans e0
          have hk := Lib.hid (fun w1 (h : Below ω.heap.size ω w1) => hK (.pointer (some ⟨g, 0, none⟩)) w1 rfl h)
          clear hK hu hc
          go_simp
          exact hk.out _ (Below.refl _ _)
        · refine calmL_step rfl fun a ω κ hb hu hc hK => ?_
          have h41 : a.tmps[41]?.getD undef = .pointer (some ⟨g, 0, none⟩) := hc 0 41 rfl rfl
          have hk := Lib.hid (fun w1 (h : Below ω.heap.size ω w1) => hK (.pointer (some ⟨g, 0, none⟩)) w1 rfl h)
          clear hK hu hc
          go_simp
          exact hk.out _ (Below.refl _ _)
        · refine calmL_step rfl fun a ω κ hb hu hc hK => ?_
          have h42 : a.tmps[42]?.getD undef = .pointer (some ⟨g, 0, none⟩) := hc 1 42 rfl rfl
          have hk := Lib.hid (fun w1 (h : Below ω.heap.size ω w1) => hK (.pointer (some ⟨g, 3, none⟩)) w1 rfl h)
          clear hK hu hc
          go_simp
          exact hk.out _ (Below.refl _ _)
        · refine calmL_step rfl fun a ω κ hb hu hc hK => ?_
          have h43 : a.tmps[43]?.getD undef = .pointer (some ⟨g, 3, none⟩) := hc 2 43 rfl rfl
          have hk := Lib.hid (fun w1 (h : Below ω.heap.size ω w1) => hK (.map (some bm)) w1 rfl h)
          clear hK hu hc
          have hc := (hD.out ω hb).c
          obtain ⟨e0, e1, e2, e3, ef⟩ := hc
          go_simp
          exact hk.out _ (Below.refl _ _)
        · refine calmL_step rfl fun a ω κ hb hu hc hK => ?_
          have h0 : a.tmps[0]?.getD undef = .pointer (some ⟨g, 0, none⟩) := (hu 0 rfl).trans e0
          have hk := Lib.hid (fun w1 (h : Below ω.heap.size ω w1) => hK (.pointer (some ⟨g, 0, none⟩)) w1 rfl h)
          clear hK hu hc
          go_simp
          exact hk.out _ (Below.refl _ _)
        · refine calmL_step rfl fun a ω κ hb hu hc hK => ?_
          have h45 : a.tmps[45]?.getD undef = .pointer (some ⟨g, 0, none⟩) := hc 4 45 rfl rfl
          have hk := Lib.hid (fun w1 (h : Below ω.heap.size ω w1) => hK (.pointer (some ⟨g, 0, none⟩)) w1 rfl h)
          clear hK hu hc
          go_simp
          exact hk.out _ (Below.refl _ _)
        · refine calmL_step rfl fun a ω κ hb hu hc hK => ?_
          have h46 : a.tmps[46]?.getD undef = .pointer (some ⟨g, 0, none⟩) := hc 5 46 rfl rfl
          have hk := Lib.hid (fun w1 (h : Below ω.heap.size ω w1) => hK (.pointer (some ⟨g, 1, none⟩)) w1 rfl h)
          clear hK hu hc
          go_simp
          exact hk.out _ (Below.refl _ _)
        · refine calmL_step rfl fun a ω κ hb hu hc hK => ?_
          have h47 : a.tmps[47]?.getD undef = .pointer (some ⟨g, 1, none⟩) := hc 6 47 rfl rfl
          have hk := Lib.hid (fun w1 (h : Below ω.heap.size ω w1) => hK (.int .i64 (last + 1)) w1 rfl h)
          clear hK hu hc
          have hc := (hD.out ω hb).c
          obtain ⟨e0, e1, e2, e3, ef⟩ := hc
          go_simp
          exact hk.out _ (Below.refl _ _)
        · refine calmL_step rfl fun a ω κ hb hu hc hK => ?_
          have h1 : a.tmps[1]?.getD undef = .bool true := (hu 1 rfl).trans e1
          have hk := Lib.hid (fun w1 (h : Below ω.heap.size ω w1) => hK (.bool true) w1 rfl h)
          clear hK hu hc
          go_simp
          exact hk.out _ (Below.refl _ _)
        · refine calmL_step rfl fun a ω κ hb hu hc hK => ?_
          have h49 : a.tmps[49]?.getD undef = .bool true := hc 8 49 rfl rfl
          have hk := Lib.hid (fun w1 (h : Below ω.heap.size ω w1) => hK (.agg #[.bool true]) w1 rfl h)
          clear hK hu hc
          go_simp
          exact hk.out _ (Below.refl _ _)
        · intro aa ω hb hu hsz hdf hc
          have h41 : aa.tmps[41]?.getD undef = .pointer (some ⟨g, 0, none⟩) := hc 0 41 (by decide) rfl
          have h42 : aa.tmps[42]?.getD undef = .pointer (some ⟨g, 0, none⟩) := hc 1 42 (by decide) rfl
          have h43 : aa.tmps[43]?.getD undef = .pointer (some ⟨g, 3, none⟩) := hc 2 43 (by decide) rfl
          have h44 : aa.tmps[44]?.getD undef = .map (some bm) := hc 3 44 (by decide) rfl
          have h45 : aa.tmps[45]?.getD undef = .pointer (some ⟨g, 0, none⟩) := hc 4 45 (by decide) rfl
          have h46 : aa.tmps[46]?.getD undef = .pointer (some ⟨g, 0, none⟩) := hc 5 46 (by decide) rfl
          have h47 : aa.tmps[47]?.getD undef = .pointer (some ⟨g, 1, none⟩) := hc 6 47 (by decide) rfl
          have h48 : aa.tmps[48]?.getD undef = .int .i64 (last + 1) := hc 7 48 (by decide) rfl
          have h49 : aa.tmps[49]?.getD undef = .bool true := hc 8 49 (by decide) rfl
          have h50 : aa.tmps[50]?.getD undef = .agg #[.bool true] := hc 9 50 (by decide) rfl
          have ha0 := hha0.out
          subst ha0
          have he := act_patchL (n := 55) 10 [false, false, false, false, false, false, false, false, false, false, false, false, false, false, false, false, false, false, false, false, false, false, false, false, false, false, false, false, false, false, false, false, false, false, false, false, false, false, false, false, false, true, true, true, true, true, true, true, true, true, true, false, false, false, false] rfl (by kernel_rfl) hu hsz hdf
          simp only [patch, cond_true, cond_false, Nat.reduceAdd] at he
          clear hu hsz hdf hc hha0 e0 e1 hz0
          rw [he]
          clear he
          generalize aa.tmps[41]?.getD undef = x41 at *
          generalize aa.tmps[42]?.getD undef = x42 at *
          generalize aa.tmps[43]?.getD undef = x43 at *
          generalize aa.tmps[44]?.getD undef = x44 at *
          generalize aa.tmps[45]?.getD undef = x45 at *
          generalize aa.tmps[46]?.getD undef = x46 at *
          generalize aa.tmps[47]?.getD undef = x47 at *
          generalize aa.tmps[48]?.getD undef = x48 at *
          generalize aa.tmps[49]?.getD undef = x49 at *
          generalize aa.tmps[50]?.getD undef = x50 at *
          subst h41 h42 h43 h44 h45 h46 h47 h48 h49 h50
          have hdk := hD.out ω hb
          have hBx := Lib.hid (hB2.out.trans (But.of_below hb))
          have hkw : (Lit.int .i64 (last + 1)).wf = true := by simp only [Lit.wf, Bool.and_eq_true, decide_eq_true_eq]; show (-9223372036854775808 : Int) ≤ _ ∧ _ ≤ (9223372036854775807 : Int); omega
          have hkey := Maps.keyOf_int_mk (P := Try.prog) Try.underlying3 hkw
          have hown := Lib.hid hdk.mp.own
          have hlen : (sesM l).length < maxLen := by unfold sesM maxLen; rw [List.length_map]; omega
          dsimp only [List.drop]
          go_wp2_with (at_mapUpdate; refine wpList_mapUpdate_in _ rfl _ _ _ 140 rfl 3 153 (Maps.int_keyed Try.underlying3) Try.underlying140 RV bm _ _ rfl hown.out hlen _ _ _ rfl rfl hkey (.held (sesV true)) [] rfl ?_; intro w5 hown5 hturn5; have h5 := hdk.turn hturn5 (by rw [ses_push]; exact MpAt.push hdk.mp.asc hdk.mp.wf hkw (by intro p hp; obtain ⟨q, hq, rfl⟩ := List.mem_map.1 hp; have := hid q hq; show q.1 < last + 1; omega) hown5); obtain ⟨d0, d1, d2, d3, df⟩ := h5.c; have hlt5 := h5.lt; have hB5 := But.of_grown (g := g) hturn5.grown (.inr (.inl rfl)))
          go_ret2
          exact ⟨by rw [hP1.out]; rfl, by rw [hL1.out, hN1.out]; exact h5, hBx.out.trans hB5⟩
      · go_enter Try.func90, Try.ntmps90
        go_wp2
        go_quiet (fail)
        generalize hW1 : w.drewN _ = w1
        have hB1 : Hid (But g bm w w1) := by rw [← hW1]; exact but_dN _ _ _ _
        have h1 : DeskAt w1 g bm most last who l := by rw [← hW1]; exact hH.out.dN _
        clear hW1 hln c0 c1 c2 c3 cf
        obtain ⟨c0, c1, c2, c3, cf⟩ := h1.c
        have hlt1 := h1.lt
        have hD1 := h1.last (last + 1)
        have hB2 := Lib.hid (hB1.out.trans (but_setCell (w := w1) (b := bm) ⟨g, 1, none⟩ (.int .i64 (last + 1)) (.inl rfl)))
        go_upto_region 6 with (fail)
        generalize w1.setCell ⟨g, 1, none⟩ (.int .i64 (last + 1)) = w2 at *
        have hD := Lib.hid (fun V (hV : Below w2.heap.size w2 V) => hD1.step hV)
        clear hD1 h1 c0 c1 c2 c3 cf hlt1
        generalize ha0 : Act.mk _ _ = a0
        have e0 : a0.tmps[0]?.getD undef = .pointer (some ⟨g, 0, none⟩) := by rw [← ha0]; rfl
        have e1 : a0.tmps[1]?.getD undef = .bool false := by rw [← ha0]; rfl
        have hz0 : a0.tmps.size = 55 := by rw [← ha0]; rfl
        have hha0 := Lib.hid ha0
        clear ha0
        refine wp_region_tailL (fun jx_ => match jx_ with | 0 => SRel.is (.pointer (some ⟨g, 0, none⟩)) | 1 => SRel.is (.pointer (some ⟨g, 0, none⟩)) | 2 => SRel.is (.pointer (some ⟨g, 3, none⟩)) | 3 => SRel.is (.map (some bm)) | 4 => SRel.is (.pointer (some ⟨g, 0, none⟩)) | 5 => SRel.is (.pointer (some ⟨g, 0, none⟩)) | 6 => SRel.is (.pointer (some ⟨g, 1, none⟩)) | 7 => SRel.is (.int .i64 (last + 1)) | 8 => SRel.is (.bool false) | 9 => SRel.is (.agg #[.bool false]) | 10 => SRel.any | _ => SRel.any) 10 (by kernel_rfl) (by kernel_rfl) (by kernel_rfl) (slotsOk_of hz0 (by kernel_rfl)) (by kernel_rfl) (of_decide_eq_true (by kernel_rfl)) ⟨?_, ?_, ?_, ?_, ?_, ?_, ?_, ?_, ?_, ?_, trivial⟩ ?_
        · refine calmL_step rfl fun a ω κ hb hu hc hK => ?_
          have h0 : a.tmps[0]?.getD undef = .pointer (some ⟨g, 0, none⟩) := (hu 0 rfl).trans e0
          have hk := Lib.hid (fun w1 (h : Below ω.heap.size ω w1) => hK (.pointer (some ⟨g, 0, none⟩)) w1 rfl h)
          clear hK hu hc
          go_simp
          exact hk.out _ (Below.refl _ _)
        · refine calmL_step rfl fun a ω κ hb hu hc hK => ?_
          have h41 : a.tmps[41]?.getD undef = .pointer (some ⟨g, 0, none⟩) := hc 0 41 rfl rfl
          have hk := Lib.hid (fun w1 (h : Below ω.heap.size ω w1) => hK (.pointer (some ⟨g, 0, none⟩)) w1 rfl h)
          clear hK hu hc
          go_simp
          exact hk.out _ (Below.refl _ _)
        · refine calmL_step rfl fun a ω κ hb hu hc hK => ?_
          have h42 : a.tmps[42]?.getD undef = .pointer (some ⟨g, 0, none⟩) := hc 1 42 rfl rfl
          have hk := Lib.hid (fun w1 (h : Below ω.heap.size ω w1) => hK (.pointer (some ⟨g, 3, none⟩)) w1 rfl h)
          clear hK hu hc
          go_simp
          exact hk.out _ (Below.refl _ _)
        · refine calmL_step rfl fun a ω κ hb hu hc hK => ?_
          have h43 : a.tmps[43]?.getD undef = .pointer (some ⟨g, 3, none⟩) := hc 2 43 rfl rfl
          have hk := Lib.hid (fun w1 (h : Below ω.heap.size ω w1) => hK (.map (some bm)) w1 rfl h)
          clear hK hu hc
          have hc := (hD.out ω hb).c
          obtain ⟨e0, e1, e2, e3, ef⟩ := hc
          go_simp
          exact hk.out _ (Below.refl _ _)
        · refine calmL_step rfl fun a ω κ hb hu hc hK => ?_
          have h0 : a.tmps[0]?.getD undef = .pointer (some ⟨g, 0, none⟩) := (hu 0 rfl).trans e0
          have hk := Lib.hid (fun w1 (h : Below ω.heap.size ω w1) => hK (.pointer (some ⟨g, 0, none⟩)) w1 rfl h)
          clear hK hu hc
          go_simp
          exact hk.out _ (Below.refl _ _)
        · refine calmL_step rfl fun a ω κ hb hu hc hK => ?_
          have h45 : a.tmps[45]?.getD undef = .pointer (some ⟨g, 0, none⟩) := hc 4 45 rfl rfl
          have hk := Lib.hid (fun w1 (h : Below ω.heap.size ω w1) => hK (.pointer (some ⟨g, 0, none⟩)) w1 rfl h)
          clear hK hu hc
          go_simp
          exact hk.out _ (Below.refl _ _)
        · refine calmL_step rfl fun a ω κ hb hu hc hK => ?_
          have h46 : a.tmps[46]?.getD undef = .pointer (some ⟨g, 0, none⟩) := hc 5 46 rfl rfl
          have hk := Lib.hid (fun w1 (h : Below ω.heap.size ω w1) => hK (.pointer (some ⟨g, 1, none⟩)) w1 rfl h)
          clear hK hu hc
          go_simp
          exact hk.out _ (Below.refl _ _)
        · refine calmL_step rfl fun a ω κ hb hu hc hK => ?_
          have h47 : a.tmps[47]?.getD undef = .pointer (some ⟨g, 1, none⟩) := hc 6 47 rfl rfl
          have hk := Lib.hid (fun w1 (h : Below ω.heap.size ω w1) => hK (.int .i64 (last + 1)) w1 rfl h)
          clear hK hu hc
          have hc := (hD.out ω hb).c
          obtain ⟨e0, e1, e2, e3, ef⟩ := hc
          go_simp
          exact hk.out _ (Below.refl _ _)
        · refine calmL_step rfl fun a ω κ hb hu hc hK => ?_
          have h1 : a.tmps[1]?.getD undef = .bool false := (hu 1 rfl).trans e1
          have hk := Lib.hid (fun w1 (h : Below ω.heap.size ω w1) => hK (.bool false) w1 rfl h)
          clear hK hu hc
          go_simp
          exact hk.out _ (Below.refl _ _)
        · refine calmL_step rfl fun a ω κ hb hu hc hK => ?_
          have h49 : a.tmps[49]?.getD undef = .bool false := hc 8 49 rfl rfl
          have hk := Lib.hid (fun w1 (h : Below ω.heap.size ω w1) => hK (.agg #[.bool false]) w1 rfl h)
          clear hK hu hc
          go_simp
          exact hk.out _ (Below.refl _ _)
        · intro aa ω hb hu hsz hdf hc
          have h41 : aa.tmps[41]?.getD undef = .pointer (some ⟨g, 0, none⟩) := hc 0 41 (by decide) rfl
          have h42 : aa.tmps[42]?.getD undef = .pointer (some ⟨g, 0, none⟩) := hc 1 42 (by decide) rfl
          have h43 : aa.tmps[43]?.getD undef = .pointer (some ⟨g, 3, none⟩) := hc 2 43 (by decide) rfl
          have h44 : aa.tmps[44]?.getD undef = .map (some bm) := hc 3 44 (by decide) rfl
          have h45 : aa.tmps[45]?.getD undef = .pointer (some ⟨g, 0, none⟩) := hc 4 45 (by decide) rfl
          have h46 : aa.tmps[46]?.getD undef = .pointer (some ⟨g, 0, none⟩) := hc 5 46 (by decide) rfl
          have h47 : aa.tmps[47]?.getD undef = .pointer (some ⟨g, 1, none⟩) := hc 6 47 (by decide) rfl
          have h48 : aa.tmps[48]?.getD undef = .int .i64 (last + 1) := hc 7 48 (by decide) rfl
          have h49 : aa.tmps[49]?.getD undef = .bool false := hc 8 49 (by decide) rfl
          have h50 : aa.tmps[50]?.getD undef = .agg #[.bool false] := hc 9 50 (by decide) rfl
          have ha0 := hha0.out
          subst ha0
          have he := act_patchL (n := 55) 10 [false, false, false, false, false, false, false, false, false, false, false, false, false, false, false, false, false, false, false, false, false, false, false, false, false, false, false, false, false, false, false, false, false, false, false, false, false, false, false, false, false, true, true, true, true, true, true, true, true, true, true, false, false, false, false] rfl (by kernel_rfl) hu hsz hdf
          simp only [patch, cond_true, cond_false, Nat.reduceAdd] at he
          clear hu hsz hdf hc hha0 e0 e1 hz0
          rw [he]
          clear he
          generalize aa.tmps[41]?.getD undef = x41 at *
          generalize aa.tmps[42]?.getD undef = x42 at *
          generalize aa.tmps[43]?.getD undef = x43 at *
          generalize aa.tmps[44]?.getD undef = x44 at *
          generalize aa.tmps[45]?.getD undef = x45 at *
          generalize aa.tmps[46]?.getD undef = x46 at *
          generalize aa.tmps[47]?.getD undef = x47 at *
          generalize aa.tmps[48]?.getD undef = x48 at *
          generalize aa.tmps[49]?.getD undef = x49 at *
          generalize aa.tmps[50]?.getD undef = x50 at *
          subst h41 h42 h43 h44 h45 h46 h47 h48 h49 h50
          have hdk := hD.out ω hb
          have hBx := Lib.hid (hB2.out.trans (But.of_below hb))
          have hkw : (Lit.int .i64 (last + 1)).wf = true := by simp only [Lit.wf, Bool.and_eq_true, decide_eq_true_eq]; show (-9223372036854775808 : Int) ≤ _ ∧ _ ≤ (9223372036854775807 : Int); omega
          have hkey := Maps.keyOf_int_mk (P := Try.prog) Try.underlying3 hkw
          have hown := Lib.hid hdk.mp.own
          have hlen : (sesM l).length < maxLen := by unfold sesM maxLen; rw [List.length_map]; omega
          dsimp only [List.drop]
          go_wp2_with (at_mapUpdate; refine wpList_mapUpdate_in _ rfl _ _ _ 140 rfl 3 153 (Maps.int_keyed Try.underlying3) Try.underlying140 RV bm _ _ rfl hown.out hlen _ _ _ rfl rfl hkey (.held (sesV false)) [] rfl ?_; intro w5 hown5 hturn5; have h5 := hdk.turn hturn5 (by rw [ses_push]; exact MpAt.push hdk.mp.asc hdk.mp.wf hkw (by intro p hp; obtain ⟨q, hq, rfl⟩ := List.mem_map.1 hp; have := hid q hq; show q.1 < last + 1; omega) hown5); obtain ⟨d0, d1, d2, d3, df⟩ := h5.c; have hlt5 := h5.lt; have hB5 := But.of_grown (g := g) hturn5.grown (.inr (.inl rfl)))
          go_ret2
          exact ⟨by rw [hP1.out]; rfl, by rw [hL1.out, hN1.out]; exact h5, hBx.out.trans hB5⟩
end Go.Proofs.Ytdlmamnnamlleaa
