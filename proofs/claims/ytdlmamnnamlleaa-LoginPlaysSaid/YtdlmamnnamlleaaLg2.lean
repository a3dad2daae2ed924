/- Package login: State, Close, CloseAll, New. -/
import Derived.Test.YtdlmamnnamlleaaLg1
namespace Go.Proofs.Ytdlmamnnamlleaa
open Go.ChangeShapes Go.WideShapes Go.ChangeAt Go.RowKit
set_option maxHeartbeats 1000000
set_option maxRecDepth 100000

theorem seat_look (l : List (Int × Bool)) (k : Int) : lookM (sesM l) k = (seat l k).map sesV := by
  rw [lookM_ses]; unfold seat
  cases l.find? fun p => p.1 == k <;> rfl
def stateP (l : List (Int × Bool)) (who k : Int) : Int × Int :=
  match seat l k with
  | none => (0, 6)
  | some true => (3 + who, 0)
  | some false => (1 + who, 0)
theorem desk_State (g bm : Nat) (most last who k : Int) (l : List (Int × Bool)) (w : World) (h : DeskAt w g bm most last who l) (hk : (Lit.int .i64 k).wf = true) (hw : 0 ≤ who ∧ who ≤ 2) :
    Calls Try.prog 95 #[.pointer (some ⟨g, 0, none⟩), .int .i64 k] w fun e w' => e = .returned (.tuple #[.int .i64 (stateP l who k).1, .int .i64 (stateP l who k).2]) ∧ Below w.heap.size w w' := by
  obtain ⟨c0, c1, c2, c3, cf⟩ := h.c
  have hlt := h.lt
  have hl := run_look h.mp hk (t := 140) Try.underlying140 (z := sesV false) (Try.zeroValue153 w)
  rw [seat_look] at hl
  have hw3 : IntKind.i64.wrap (3 + who) = 3 + who := by rw [IntKind.wrap_i64]; omega
  have hw1 : IntKind.i64.wrap (1 + who) = 1 + who := by rw [IntKind.wrap_i64]; omega
  have hb := below_alloc' w
  cases hs : seat l k with
  | none =>
    have hz : stateP l who k = (0, 6) := by unfold stateP; rw [hs]
    rw [hz]
    rw [hs] at hl
    simp only [Option.map_none, Option.getD_none, Option.isSome_none, sesV] at hl
    clear hs hz
    go_enter Try.func95, Try.ntmps95
    go_wp2
    go_ret2
    exact ⟨rfl, hb _⟩
  | some u =>
    cases u with
    | true =>
      have hz : stateP l who k = (3 + who, 0) := by unfold stateP; rw [hs]
      rw [hz]
      rw [hs] at hl
      simp only [Option.map_some, Option.getD_some, Option.isSome_some, sesV] at hl
      clear hs hz
      go_enter Try.func95, Try.ntmps95
      go_wp2
      go_ret2
      exact ⟨rfl, hb _⟩
    | false =>
      have hz : stateP l who k = (1 + who, 0) := by unfold stateP; rw [hs]
      rw [hz]
      rw [hs] at hl
      simp only [Option.map_some, Option.getD_some, Option.isSome_some, sesV] at hl
      clear hs hz
      go_enter Try.func95, Try.ntmps95
      go_wp2
      go_ret2
      exact ⟨rfl, hb _⟩
/-- Close. -/
def delS (l : List (Int × Bool)) (k : Int) : List (Int × Bool) := l.filter fun p => p.1 != k
theorem del_ses (l : List (Int × Bool)) (k : Int) : delM (sesM l) k = sesM (delS l k) := by
  unfold delM delS sesM
  induction l with
  | nil => rfl
  | cons p r ih =>
    simp only [List.map_cons, List.filter_cons]
    cases h : (p.1 != k)
    · exact ih
    · simp only [if_true, List.map_cons, ih]
theorem del_none (l : List (Int × Bool)) (k : Int) (h : (seat l k).isSome = false) : delS l k = l := by
  unfold delS
  rw [List.filter_eq_self]
  intro p hp
  unfold seat at h
  rw [Option.isSome_map] at h
  cases hpk : (p.1 == k) with
  | false => simpa using hpk
  | true =>
    have h2 := (List.find?_isSome (p := fun p : Int × Bool => p.1 == k) (xs := l)).2 ⟨p, hp, hpk⟩
    rw [h] at h2; cases h2
def closeZ (l : List (Int × Bool)) (k : Int) : Int := if (seat l k).isSome = false then 6 else 0
def CloseR (g bm : Nat) (most last who : Int) (l : List (Int × Bool)) (k : Int) (w : World) (e : Ending) (w' : World) : Prop :=
  e = .returned (.int .i64 (closeZ l k)) ∧ DeskAt w' g bm most last (if (seat l k).isSome = true ∧ (delS l k).length = 0 then 0 else who) (delS l k) ∧ But g bm w w'
theorem desk_Close (g bm : Nat) (most last who k : Int) (l : List (Int × Bool)) (w : World) (h : DeskAt w g bm most last who l) (hk : (Lit.int .i64 k).wf = true) :
    Calls Try.prog 91 #[.pointer (some ⟨g, 0, none⟩), .int .i64 k] w (CloseR g bm most last who l k w) := by
  have hth := Lib.hid (desk_there g bm most last who k l w h hk)
  go_enter Try.func91, Try.ntmps91
  go_wp2_with fail
  refine hth.out.mono ?_
  rintro e w1 ⟨rfl, hb1⟩
  have h1 := h.step hb1
  obtain ⟨c0, c1, c2, c3, cf⟩ := h1.c
  have hlt := h1.lt
  cases hs : (seat l k).isSome with
  | false =>
    have hz1 : Hid (closeZ l k = 6) := by show _ = _; unfold closeZ; rw [if_pos hs]
    have hdn := Lib.hid (del_none l k hs)
    have hsH := Lib.hid hs
    clear hs hth
    go_wp2
    go_ret
    exact ⟨by rw [hz1.out]; rfl, by rw [hdn.out, hsH.out]; simpa using h1, But.of_below hb1⟩
  | true =>
    have hz1 : Hid (closeZ l k = 0) := by show _ = _; unfold closeZ; rw [if_neg (by simp [hs])]
    have hsH := Lib.hid hs
    clear hs hth
    have hown := Lib.hid h1.mp.own
    have hkey := Maps.keyOf_int_mk (P := Try.prog) Try.underlying3 hk
    by_cases hn : (delS l k).length = 0
    · have hnH := Lib.hid hn
      clear hn
      go_wp2_with (at_delete; refine wpList_delete_own _ rfl _ _ 140 3 rfl 153 (Maps.int_keyed Try.underlying3) Try.underlying140 RV bm _ _ rfl hown.out _ _ rfl hkey ?_; intro w2 hown2 hturn2; have h2 := h1.turn hturn2 (by rw [← del_ses]; exact h1.mp.del hown2); obtain ⟨d0, d1, d2, d3, df⟩ := h2.c; have hln := fun ty => run_mplen h2.mp (t := 140) Try.underlying140 ty; rw [show (sesM (delS l k)).length = 0 from by unfold sesM; rw [List.length_map]; exact hnH.out] at hln; have hlt2 := h2.lt; have hB := But.of_grown (g := g) hturn2.grown (.inr (.inl rfl)))
      go_ret
      exact ⟨by rw [hz1.out]; rfl, by rw [hsH.out, hnH.out]; simpa using h2.who 0, ((But.of_below hb1).trans hB).trans (but_setCell _ _ (.inl rfl))⟩
    · have hn1 : (((delS l k).length : Nat) == 0) = false := by simpa using hn
      have hnH := Lib.hid hn
      clear hn
      go_wp2_with (at_delete; refine wpList_delete_own _ rfl _ _ 140 3 rfl 153 (Maps.int_keyed Try.underlying3) Try.underlying140 RV bm _ _ rfl hown.out _ _ rfl hkey ?_; intro w2 hown2 hturn2; have h2 := h1.turn hturn2 (by rw [← del_ses]; exact h1.mp.del hown2); obtain ⟨d0, d1, d2, d3, df⟩ := h2.c; have hln := fun ty => run_mplen h2.mp (t := 140) Try.underlying140 ty; rw [show (sesM (delS l k)).length = (delS l k).length from by unfold sesM; rw [List.length_map]] at hln; have hlt2 := h2.lt; have hB := But.of_grown (g := g) hturn2.grown (.inr (.inl rfl)))
      all_goals go_ret
      exact ⟨by rw [hz1.out]; rfl, by rw [hsH.out, if_neg (fun e => hnH.out e.2)]; exact h2, (But.of_below hb1).trans hB⟩
end Go.Proofs.Ytdlmamnnamlleaa
