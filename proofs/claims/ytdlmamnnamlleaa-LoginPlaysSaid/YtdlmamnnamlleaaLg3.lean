/- Package login: New, CloseAll, Login. -/
import Derived.Test.YtdlmamnnamlleaaLg2
namespace Go.Proofs.Ytdlmamnnamlleaa
open Go.ChangeShapes Go.WideShapes Go.ChangeAt Go.RowKit
set_option maxHeartbeats 1000000
set_option maxRecDepth 100000

theorem run_clearM {w : World} {b : Nat} {es : List (Int × Value)} (h : MpAt w b es) {t e : TypeId} (ht : Try.prog.underlying t = some (.map 3 e)) :
    ∃ w', (∀ ty, (Builtin.clear_ #[t] ty #[.map (some b)]).run Try.prog w = .ok (.tuple #[]) w') ∧ MpAt w' b [] ∧ w.mapTurned w' b := by
  obtain ⟨es', clock, hb, F, -, -⟩ := h.own
  refine ⟨ChangeMaps.setBlock w b (.map #[] clock), fun ty => ?_, ⟨⟨#[], clock, ChangeMaps.heap_setBlock_same hb _, ⟨by simp, MapKept.stamped_empty clock, by simp⟩, Nat.le_refl _, rfl⟩, List.Pairwise.nil, fun p hp => by simp at hp⟩, ⟨es', clock, #[], clock, hb, rfl⟩⟩
  simp [Builtin.clear_, run_underlying ht, MapKept.run_getObj_map hb, MapKept.run_setObj_map _ hb, Result.andThen]
  rfl
theorem desk_CloseAll (g bm : Nat) (most last who : Int) (l : List (Int × Bool)) (w : World) (h : DeskAt w g bm most last who l) :
    Calls Try.prog 92 #[.pointer (some ⟨g, 0, none⟩)] w fun e w' => e = .returned (.int .i64 l.length) ∧ DeskAt w' g bm most last 0 [] ∧ But g bm w w' := by
  obtain ⟨c0, c1, c2, c3, cf⟩ := h.c
  have hlt := h.lt
  have hln := fun ty => run_mplen h.mp (t := 140) Try.underlying140 ty
  rw [show (sesM l).length = l.length from by unfold sesM; rw [List.length_map]] at hln
  obtain ⟨w2, hcl, hm2, ht2⟩ := run_clearM h.mp (t := 140) Try.underlying140
  have h2 : DeskAt w2 g bm most last who [] := h.turn ht2 hm2
  obtain ⟨d0, d1, d2, d3, df⟩ := h2.c
  have hlt2 := h2.lt
  have hB := But.of_grown (g := g) ht2.grown (.inr (.inl rfl))
  have h3 := Lib.hid h2
  clear ht2 hm2
  go_enter Try.func92, Try.ntmps92
  go_wp2
  go_ret
  exact ⟨rfl, h3.out.who 0, hB.trans (but_setCell _ _ (.inl rfl))⟩
theorem login_New (most : Int) (w : World) (hm : most < 1 ∨ 16 < most) :
    Calls Try.prog 37 #[.int .i64 most] w fun e w' => e = .returned (.tuple #[.pointer none, .int .i64 1]) ∧ w = w' := by
  by_cases h1 : most < 1
  · go_enter Try.func37, Try.ntmps37
    go_wp2
    go_ret2
    exact ⟨rfl, rfl⟩
  · have h2 : 16 < most := by omega
    clear hm
    go_enter Try.func37, Try.ntmps37
    go_wp2
    go_ret2
    exact ⟨rfl, rfl⟩
def NewR (most : Int) (w : World) (e : Ending) (w' : World) : Prop := ∃ g bm, e = .returned (.tuple #[.pointer (some ⟨g, 0, none⟩), .int .i64 0]) ∧ DeskAt w' g bm most 0 0 [] ∧ w.heap.size ≤ g ∧ w.heap.size ≤ bm ∧ Below w.heap.size w w'
theorem login_New_ok (most : Int) (w : World) (h1 : 1 ≤ most) (h2 : most ≤ 16) :
    Calls Try.prog 37 #[.int .i64 most] w (NewR most w) := by
  have hmm := @run_makeMap Try.prog
  have d1 : ¬ most < 1 := by omega
  have d2 : ¬ 16 < most := by omega
  go_enter Try.func37, Try.ntmps37
  go_wp2
  go_ret2
  refine ⟨w.heap.size + 1, w.heap.size, rfl, ⟨⟨_, blk_new _ _ (by simp)⟩, ?_⟩, by omega, Nat.le_refl _, ((Below.refl _ _).alloc (Nat.le_refl _) _).alloc (by simp) _⟩
  exact (mp_made w).step (below_alloc' _ _)
theorem desk_of_ranges {w w' : World} {g bm r n cnt : Nat} {most last who : Int} {l : List (Int × Bool)} {left : Lit → Bool} (h : DeskAt w g bm most last who l) (hr : w'.ranges Try.prog 3 RV bm r n (DM (sesM l)) left cnt) (hb : But r r w w') (hg : g ≠ r) : DeskAt w' g bm most last who l := by
  obtain ⟨te, h1⟩ := h.cells
  exact ⟨⟨te, (hb.block g h.lt hg hg).trans h1⟩, MpAt.of hr.owns h.mp.asc h.mp.wf⟩
theorem at_ses {l : List (Int × Bool)} {x : Int} {v : Value} (h : ∀ zd, (DM (sesM l)).atKey (.int .i64 x) zd = .held v) : ∃ u, seat l x = some u ∧ v = sesV u := by
  have h1 := h .nil
  rw [lookM_at, seat_look] at h1
  cases hs : seat l x with
  | none => rw [hs] at h1; simp at h1
  | some u =>
    rw [hs] at h1
    simp at h1
    exact ⟨u, rfl, h1.symm⟩
/-- Login. -/
def allRW (l : List (Int × Bool)) : Bool := l.all (·.2)
def loginZ (l : List (Int × Bool)) (who k role : Int) : Int :=
  if (seat l k).isSome = false then 6 else if role ≠ 1 ∧ role ≠ 2 then 1 else if who ≠ 0 then 8 else if role = 2 ∧ allRW l = false then 8 else 0
def LoginR (g bm : Nat) (most last who : Int) (l : List (Int × Bool)) (k role : Int) (w : World) (e : Ending) (w' : World) : Prop :=
  e = .returned (.int .i64 (loginZ l who k role)) ∧ DeskAt w' g bm most last (if loginZ l who k role = 0 then role else who) l ∧ But g bm w w'
theorem seat_mem {l : List (Int × Bool)} {k : Int} {u : Bool} (h : seat l k = some u) : (k, u) ∈ l := by
  unfold seat at h
  obtain ⟨x, hx, rfl⟩ := Option.map_eq_some_iff.1 h
  have h1 := List.find?_some hx
  have h2 := List.mem_of_find?_eq_some hx
  have h3 : x.1 = k := by simpa using h1
  rw [← h3]; exact h2
theorem seat_of {l : List (Int × Bool)} (ha : l.Pairwise fun p q => p.1 < q.1) {p : Int × Bool} (hp : p ∈ l) : seat l p.1 = some p.2 := by
  unfold seat
  induction l with
  | nil => simp at hp
  | cons q r ih =>
    rw [List.pairwise_cons] at ha
    rw [List.find?_cons]
    rcases List.mem_cons.1 hp with rfl | hp
    · simp
    · have := ha.1 p hp
      have hne : (q.1 == p.1) = false := by rw [beq_eq_false_iff_ne]; omega
      rw [hne]
      exact ih ha.2 hp
theorem asc_ses {l : List (Int × Bool)} (h : (sesM l).Pairwise fun p q => p.1 < q.1) : l.Pairwise fun p q => p.1 < q.1 := by
  unfold sesM at h
  rwa [List.pairwise_map] at h
set_option maxHeartbeats 4000000 in
theorem desk_Login (g bm : Nat) (most last who k role : Int) (l : List (Int × Bool)) (w : World) (h : DeskAt w g bm most last who l) (hk : (Lit.int .i64 k).wf = true) :
    Calls Try.prog 93 #[.pointer (some ⟨g, 0, none⟩), .int .i64 k, .int .i64 role] w (LoginR g bm most last who l k role w) := by
  have hz : Hid (loginZ l who k role = if (seat l k).isSome = false then 6 else if role ≠ 1 ∧ role ≠ 2 then 1 else if who ≠ 0 then 8 else if role = 2 ∧ allRW l = false then 8 else 0) := rfl
  have hth := Lib.hid (desk_there g bm most last who k l w h hk)
  go_enter Try.func93, Try.ntmps93
  go_wp2_with fail
  refine hth.out.mono ?_
  rintro e w1 ⟨rfl, hb1⟩
  have h1 := h.step hb1
  obtain ⟨c0, c1, c2, c3, cf⟩ := h1.c
  have hlt := h1.lt
  have hB1 := Lib.hid (But.of_below (g := g) (b := bm) hb1)
  have h1H := Lib.hid h1
  clear hth h hb1
  cases hs : (seat l k).isSome with
  | false =>
    have hz1 : Hid (loginZ l who k role = 6) := by show _ = _; rw [hz.out, if_pos hs]
    clear hs hz
    go_wp2
    go_ret
    exact ⟨by rw [hz1.out]; rfl, by rw [hz1.out]; exact h1H.out, hB1.out⟩
  | true =>
    have hz1 : Hid (loginZ l who k role = if role ≠ 1 ∧ role ≠ 2 then 1 else if who ≠ 0 then 8 else if role = 2 ∧ allRW l = false then 8 else 0) := by show _ = _; rw [hz.out, if_neg (by simp [hs])]
    clear hs hz
    by_cases hr : role ≠ 1 ∧ role ≠ 2
    · have hz2 : Hid (loginZ l who k role = 1) := by show _ = _; rw [hz1.out, if_pos hr]
      have r1 : (role == 1) = false := by rw [beq_eq_false_iff_ne]; exact hr.1
      have r2 : (role == 2) = false := by rw [beq_eq_false_iff_ne]; exact hr.2
      have r3 : (role != 1) = true := by rw [bne_iff_ne]; exact hr.1
      have r4 : (role != 2) = true := by rw [bne_iff_ne]; exact hr.2
      clear hr
      go_wp2
      go_ret
      exact ⟨by rw [hz2.out]; rfl, by rw [hz2.out]; exact h1H.out, hB1.out⟩
    · have hz2 : Hid (loginZ l who k role = if who ≠ 0 then 8 else if role = 2 ∧ allRW l = false then 8 else 0) := by show _ = _; rw [hz1.out, if_neg hr]
      have hro : role = 1 ∨ role = 2 := by omega
      clear hr hz1
      by_cases hw : who ≠ 0
      · have hz3 : Hid (loginZ l who k role = 8) := by show _ = _; rw [hz2.out, if_pos hw]
        have w3 : (who == 0) = false := by rw [beq_eq_false_iff_ne]; exact hw
        have w4 : (who != 0) = true := by rw [bne_iff_ne]; exact hw
        clear hw hz2
        rcases hro with rfl | rfl
        all_goals
          go_wp2
          go_ret
          exact ⟨by rw [hz3.out]; rfl, by rw [hz3.out]; exact h1H.out, hB1.out⟩
      · obtain rfl : who = 0 := by omega
        have hz3 : Hid (loginZ l 0 k role = if role = 2 ∧ allRW l = false then 8 else 0) := by show _ = _; rw [hz2.out, if_neg (by simp)]
        clear hw hz2
        rcases hro with rfl | rfl
        · have hz4 : Hid (loginZ l 0 k 1 = 0) := by show _ = _; rw [hz3.out, if_neg (by omega)]
          clear hz3
          go_wp2
          go_ret
          exact ⟨by rw [hz4.out]; rfl, by rw [hz4.out]; exact h1H.out.who 1, hB1.out.trans (but_setCell _ _ (.inl rfl))⟩
        · have hown := Lib.hid h1.mp.own
          clear h1
          go_wp2_with (at_range; refine wpList_range_own _ rfl _ 140 rfl 3 153 (Maps.int_keyed Try.underlying3) Try.underlying140 RV bm _ _ rfl hown.out ?_; intro w2 hr2 hg2 hs2; go_frame)
          have hb2 : But w1.heap.size w1.heap.size w1 w2 := But.of_grown hg2 (.inr (.inr rfl))
          have hgr : g ≠ w1.heap.size := by omega
          go_loopw [] (fun wr => ∃ (left : Lit → Bool) (cnt : Nat), Hid (wr.ranges Try.prog 3 RV bm w1.heap.size (sesM l).length (DM (sesM l)) left cnt) ∧ Hid (But w1.heap.size w1.heap.size w1 wr) ∧ Hid (∀ p ∈ l, left (.int .i64 p.1) = false → p.2 = true)) (fun wr => wr.rangeLeft bm w1.heap.size)
          case atStart =>
            refine ⟨_, _, hr2, hb2, fun p hp hf => ?_⟩
            have h2 := seat_of (asc_ses h1H.out.mp.asc) hp
            rw [lookM_has, seat_look, h2] at hf
            cases hf
          case round =>
            clear hr2 hg2 hs2 hb2 hown
            obtain ⟨left, cnt, hR, hB, hal⟩ := hrel
            go_wp2_with (first
              | (at_next; refine wpList_next_ranges _ rfl _ rfl 3 (Maps.int_keyed Try.underlying3) RV (fun x : Int => .int .i64 x) (fun v : Value => v) (fun key kl hkey => by obtain ⟨x, rfl, -⟩ := Maps.keyOf_int_inv Try.underlying3 hkey; exact ⟨x, rfl⟩) (fun v y _ => ⟨v, rfl⟩) bm w1.heap.size _ _ left cnt rfl hR.out ?_ ?_)
              | go_in)
            · intro _ hl0
              have hdk := desk_of_ranges h1H.out hR.out hB.out hgr
              obtain ⟨d0, d1, d2, d3, df⟩ := hdk.c
              have hdkH := Lib.hid hdk
              have hz4 : Hid (loginZ l 0 k 2 = 0) := by
                show _ = _
                rw [hz3.out, if_neg]
                intro e
                have h3 : allRW l = true := by
                  unfold allRW
                  rw [List.all_eq_true]
                  exact fun p hp => hal.out p hp (hl0 _)
                rw [h3] at e; cases e.2
              have hlt3 := hdk.lt
              have hBB : Hid (But g bm w1 wr) := ⟨hB.out.os, hB.out.tape, hB.out.output, hB.out.size, fun i hi _ _ => hB.out.block i hi (by omega) (by omega)⟩
              clear hz3 hal hB hR hl0 hdk
              go_wp2
              go_ret
              exact ⟨by rw [hz4.out]; rfl, by rw [hz4.out]; exact hdkH.out.who 2, (hB1.out.trans hBB.out).trans (but_setCell _ _ (.inl rfl))⟩
            · intro x v kl y ps w3 cnt3 hkey hlk hv hat hR3 hlt3 hg3 hs3 hen
              obtain ⟨x', ex, rfl, hwx⟩ := Maps.keyOf_int_inv Try.underlying3 hkey
              injection ex with _ ex
              subst ex
              have hy : y = .held v := by unfold RV at hv; injection hv with hv; exact (Prod.mk.inj hv).1.symm
              subst hy
              obtain ⟨u, hu, rfl⟩ := at_ses hat
              have hB3 : Hid (But w1.heap.size w1.heap.size w1 w3) := hB.out.trans (But.of_grown hg3 (.inl rfl))
              have hbW := below_alloc' w3 (.cells #[.bool u] 153)
              have hR4 := Lib.hid (hR3.alloc (.cells #[.bool u] 153))
              have hB4 : Hid (But w1.heap.size w1.heap.size w1 (w3.alloc (.cells #[.bool u] 153))) := hB3.out.trans (But.of_below hbW)
              have hmu : Hid ((w3.alloc (.cells #[.bool u] 153)).rangeLeft bm w1.heap.size < wr.rangeLeft bm w1.heap.size) := by
                show _ < _
                rw [hR4.out.left_eq, hR.out.left_eq]; exact hlt3
              have hal2 : Hid (u = true → ∀ p ∈ l, (left (.int .i64 p.1) && !(Lit.int .i64 p.1).sameKey (.int .i64 x)) = false → p.2 = true) := fun hu2 p hp hf => by
                rw [same_int] at hf
                by_cases hpx : p.1 = x
                · have h4 := seat_of (asc_ses h1H.out.mp.asc) hp
                  rw [hpx, hu] at h4
                  injection h4 with h4
                  rw [← h4, hu2]
                · have hne : (p.1 == x) = false := by rw [beq_eq_false_iff_ne]; exact hpx
                  rw [hne] at hf
                  exact hal.out p hp (by simpa using hf)
              unfold sesV at hen
              cases u with
              | true =>
                have hal3 := Lib.hid (hal2.out rfl)
                clear hR3 hg3 hB hR hB3 hal hal2 hat hu hkey hlk hwx hv hbW
                go_wp2
                go_roundw
                case rel => exact ⟨_, _, hR4, hB4, hal3.out⟩
                case measure => exact hmu.out
              | false =>
                have hz4 : Hid (loginZ l 0 k 2 = 8) := by
                  show _ = _
                  rw [hz3.out, if_pos]
                  refine ⟨by trivial, ?_⟩
                  unfold allRW
                  rw [List.all_eq_false]
                  exact ⟨_, seat_mem hu, by simp⟩
                have hdk := Lib.hid (desk_of_ranges h1H.out hR4.out hB4.out hgr)
                have hBB : Hid (But g bm w1 (w3.alloc (.cells #[.bool false] 153))) := ⟨hB4.out.os, hB4.out.tape, hB4.out.output, hB4.out.size, fun i hi _ _ => hB4.out.block i hi (by omega) (by omega)⟩
                clear hR3 hg3 hB hR hB3 hal hal2 hat hu hkey hlk hwx hv hbW hz3
                go_wp2
                go_ret
                exact ⟨by rw [hz4.out]; rfl, by rw [hz4.out]; exact hdk.out, hB1.out.trans hBB.out⟩
end Go.Proofs.Ytdlmamnnamlleaa
