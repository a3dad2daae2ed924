/- Package store: List of an empty store. -/
import Derived.Test.YtakooljbkjnilaaSt2
namespace Go.Proofs.Ytakooljbkjnilaa
open Go.ChangeShapes Go.WideShapes Go.ChangeAt Go.RowKit Go.Maps Go.Sort Go.Shelf
set_option maxHeartbeats 1000000
set_option maxRecDepth 100000

theorem below_grown {n : Nat} {w A B : World} {b : Nat} (h : Below n w A) (hg : A.grownBy B (some b)) (hb : n ≤ b) (hs : n ≤ w.heap.size) : Below n w B :=
  ⟨hg.os.trans h.os, hg.tape.trans h.tape, hg.output.trans h.output, Nat.le_trans h.size hg.size, fun i hi => (hg.block i (by have := h.size; omega) (fun e => by injection e; omega)).trans (h.block i hi)⟩
theorem cell_ltS {w : World} {a : Addr} {v : Value} (h : w.cell? a = some v) : a.block < w.heap.size := by
  obtain ⟨o, ho, -⟩ := cells_of_cell h
  exact (Array.getElem?_eq_some_iff.1 ho).1
theorem cell_grown {A B : World} {b : Nat} {a : Addr} {v : Value} (h : A.cell? a = some v) (hg : A.grownBy B (some b)) (hne : a.block ≠ b) : B.cell? a = some v :=
  (World.cell?_of_block (hg.block _ (cell_ltS h) (fun e => hne (by injection e)))).trans h
theorem store_List0 (g bm : Nat) (most next : Int) (w : World) (h : StAt w g bm most next []) :
    Calls Try.prog 7 #[.pointer (some ⟨g, 0, none⟩)] w fun e w' => e = .returned (.slice none 0 0) ∧ Below w.heap.size w w' := by
  refine (callsIn_wide (n := 10)).1 ?_
  have hall := store_all g bm most next [] w w.heap.size h (by simp) (Nat.le_refl _)
  refine callsIn_of_wp_marks Try.func7 rfl trivial ?_ rfl
  simp only [Try.ntmps7, List.size_toArray, List.length_cons, List.length_nil, Nat.reduceAdd, Nat.reduceSub, Array.replicate_succ, Array.replicate_zero, List.push_toArray, List.append_toArray, List.nil_append, List.cons_append]
  gi_wp2
  refine wpIn_rangeFunc_seq rfl (by omega) (gf := 12) (fs := #[.pointer (some ⟨g, 0, none⟩)]) (lb := #[]) rfl trivial (enters_of Try.func12 (by kernel_rfl) rfl) hall ((Below.refl _ w).alloc (Nat.le_refl _) _) rfl (by simp)
    (fun M pre A => A.cell? ⟨w.heap.size, 0, none⟩ = some (.slice none 0 0) ∧ Below w.heap.size w A) (fun _ _ _ _ _ => False) ?_ ?_ ?_ ?_ ?_ ?_
  · rintro M pre A B hM ⟨h1, h2⟩ hg
    simp at hg
    exact ⟨cell_grown h1 hg (by show w.heap.size ≠ _; omega), below_grown h2 hg (by omega) (Nat.le_refl _)⟩
  · intros; contradiction
  · intro A hA hs
    refine ⟨(hA.cell (p := ⟨w.heap.size, 0, none⟩) (by simp)).trans ?_, ((Below.refl _ w).alloc (Nat.le_refl _) _).trans (hA.mono (by simp))⟩
    rw [World.cell?_alloc_at _ _ _ _ rfl]; rfl
  · rintro M pre x W K - - - ⟨post, hp⟩
    simp at hp
  · intros; contradiction
  · rintro M W hM ⟨h1, h2⟩ hd
    gi_wp2
    refine ⟨by simp, .inl ⟨_, _, rfl, run_takeDeferred hd, ?_⟩⟩
    exact ⟨_, results_tmp rfl _ _ _, rfl, below_grown h2 (grownBy_putObj' _ _ _) (by simp) (Nat.le_refl _)⟩
end Go.Proofs.Ytakooljbkjnilaa
