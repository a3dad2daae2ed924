/- Package login: the desk as it lies in memory; there, Who, New. -/
import Derived.Test.YtakooljbkjnilaaMp1
import Derived.Test.YtakooljbkjnilaaAttr2
namespace Go.Proofs.Ytakooljbkjnilaa
open Go.ChangeShapes Go.WideShapes Go.ChangeAt Go.RowKit
set_option maxHeartbeats 1000000
set_option maxRecDepth 100000

/-- What stays: all blocks but two. -/
structure But (g b : Nat) (w w' : World) : Prop where
  os : w'.os = w.os
  tape : w'.tape = w.tape
  output : w'.output = w.output
  size : w.heap.size ≤ w'.heap.size
  block : ∀ i, i < w.heap.size → i ≠ g → i ≠ b → w'.heap[i]? = w.heap[i]?
theorem But.refl (g b : Nat) (w : World) : But g b w w := ⟨rfl, rfl, rfl, Nat.le_refl _, fun _ _ _ _ => rfl⟩
theorem But.trans {g b : Nat} {w w1 w2 : World} (h : But g b w w1) (k : But g b w1 w2) : But g b w w2 :=
  ⟨k.os.trans h.os, k.tape.trans h.tape, k.output.trans h.output, Nat.le_trans h.size k.size, fun i hi h1 h2 => (k.block i (Nat.lt_of_lt_of_le hi h.size) h1 h2).trans (h.block i hi h1 h2)⟩
theorem But.of_below {g b : Nat} {w w1 : World} (h : Below w.heap.size w w1) : But g b w w1 := ⟨h.os, h.tape, h.output, h.size, fun i hi _ _ => h.block i hi⟩
theorem But.of_grown {g b : Nat} {w w1 : World} {r : Option Nat} (h : w.grownBy w1 r) (hr : r = some g ∨ r = some b ∨ r = none) : But g b w w1 :=
  ⟨h.os, h.tape, h.output, h.size, fun i hi h1 h2 => h.block i hi (by rcases hr with rfl | rfl | rfl <;> simp <;> omega)⟩
theorem But.below {g b B : Nat} {w0 w w1 : World} (h : But g b w w1) (hb : Below B w0 w) (hg : B ≤ g) (hbb : B ≤ b) (hs : B ≤ w0.heap.size) : Below B w0 w1 :=
  ⟨h.os.trans hb.os, h.tape.trans hb.tape, h.output.trans hb.output, Nat.le_trans hb.size h.size, fun i hi => (h.block i (by have := hb.size; omega) (by omega) (by omega)).trans (hb.block i hi)⟩
theorem but_setCell {g b : Nat} {w : World} (a : Addr) (v : Value) (h : a.block = g ∨ a.block = b) : But g b w (w.setCell a v) := by
  refine ⟨rfl, rfl, rfl, by simp [World.setCell], fun i _ h1 h2 => ?_⟩
  have hne : a.block ≠ i := by rcases h with h | h <;> omega
  simp [World.setCell, Array.getElem?_modify, hne]
/-- A desk. -/
def sesV (b : Bool) : Value := .agg #[.bool b]
def sesM (l : List (Int × Bool)) : List (Int × Value) := l.map fun p => (p.1, sesV p.2)
structure DeskAt (w : World) (g bm : Nat) (most last who : Int) (l : List (Int × Bool)) : Prop where
  cells : ∃ te, w.heap[g]? = some (.cells #[.int .i64 most, .int .i64 last, .int .i64 who, .map (some bm)] te (0, 0))
  mp : MpAt w bm (sesM l)
theorem DeskAt.ne {w : World} {g bm : Nat} {most last who : Int} {l : List (Int × Bool)} (h : DeskAt w g bm most last who l) : g ≠ bm := by
  intro e
  obtain ⟨te, h1⟩ := h.cells
  obtain ⟨es, clock, h2, -⟩ := h.mp.own
  rw [e, h2] at h1
  cases h1
theorem DeskAt.lt {w : World} {g bm : Nat} {most last who : Int} {l : List (Int × Bool)} (h : DeskAt w g bm most last who l) : g < w.heap.size := by
  obtain ⟨te, h1⟩ := h.cells
  exact (Array.getElem?_eq_some_iff.1 h1).1
theorem DeskAt.step {w w' : World} {g bm : Nat} {most last who : Int} {l : List (Int × Bool)} (h : DeskAt w g bm most last who l) (hb : Below w.heap.size w w') : DeskAt w' g bm most last who l := by
  refine ⟨?_, h.mp.step hb⟩
  obtain ⟨te, h1⟩ := h.cells
  exact ⟨te, (hb.block g h.lt).trans h1⟩
theorem DeskAt.c {w : World} {g bm : Nat} {most last who : Int} {l : List (Int × Bool)} (h : DeskAt w g bm most last who l) : w.cell? ⟨g, 0, none⟩ = some (.int .i64 most) ∧ w.cell? ⟨g, 1, none⟩ = some (.int .i64 last) ∧ w.cell? ⟨g, 2, none⟩ = some (.int .i64 who) ∧ w.cell? ⟨g, 3, none⟩ = some (.map (some bm)) ∧ ∀ i, w.frozen? ⟨g, i, none⟩ = false := by
  obtain ⟨te, h1⟩ := h.cells
  refine ⟨?_, ?_, ?_, ?_, fun i => ?_⟩ <;> simp [World.cell?, World.frozen?, h1]
/-- A lookup. -/
theorem lookM_ses (l : List (Int × Bool)) (k : Int) : lookM (sesM l) k = ((l.find? fun p => p.1 == k).map fun p => sesV p.2) := by
  unfold lookM sesM
  induction l with
  | nil => rfl
  | cons p r ih =>
    simp only [List.map_cons, List.find?_cons]
    cases h : (p.1 == k)
    · exact ih
    · rfl
def seat (l : List (Int × Bool)) (k : Int) : Option Bool := (l.find? fun p => p.1 == k).map (·.2)
theorem run_look {w : World} {b : Nat} {es : List (Int × Value)} (h : MpAt w b es) {k : Int} (hk : (Lit.int .i64 k).wf = true) {t e : TypeId} (ht : Try.prog.underlying t = some (.map 3 e)) {z : Value} (hz : (zeroValue e).run Try.prog w = .ok z w) :
    (Instr.lookup t (.map (some b)) (.int .i64 k) true).run Try.prog w = .ok (.tuple #[(lookM es k).getD z, .bool (lookM es k).isSome]) w := by
  obtain ⟨v, ps, hr, hv⟩ := h.own.look_ok (Maps.int_keyed Try.underlying3) ht hz (zd := .held z) (zp := []) rfl (Maps.keyOf_int_mk Try.underlying3 hk)
  rw [hr, lookM_has]
  rw [lookM_at] at hv
  have hv2 : v = (lookM es k).getD z := by
    cases hl : lookM es k with
    | none => rw [hl] at hv; simp [RV] at hv; exact hv.1
    | some u => rw [hl] at hv; simp [RV] at hv; exact hv.1
  rw [hv2]
theorem run_mplen {w : World} {b : Nat} {es : List (Int × Value)} (h : MpAt w b es) {t e : TypeId} (ht : Try.prog.underlying t = some (.map 3 e)) (ty : TypeId) : (Builtin.len_ #[t] ty #[.map (some b)]).run Try.prog w = .ok (.int .i64 es.length) w := by
  rw [h.own.len ht ty, size_DM]
/-- Setting who is in. -/
theorem DeskAt.who {w : World} {g bm : Nat} {most last who : Int} {l : List (Int × Bool)} (h : DeskAt w g bm most last who l) (z : Int) : DeskAt (w.setCell ⟨g, 2, none⟩ (.int .i64 z)) g bm most last z l := by
  refine ⟨?_, ⟨h.mp.own.setCell (fun e => h.ne e.symm) _, h.mp.asc, h.mp.wf⟩⟩
  obtain ⟨te, h1⟩ := h.cells
  refine ⟨te, ?_⟩
  have hlt := h.lt
  simp only [World.setCell, Array.getElem?_modify]
  simp [h1]
theorem DeskAt.last {w : World} {g bm : Nat} {most last who : Int} {l : List (Int × Bool)} (h : DeskAt w g bm most last who l) (z : Int) : DeskAt (w.setCell ⟨g, 1, none⟩ (.int .i64 z)) g bm most z who l := by
  refine ⟨?_, ⟨h.mp.own.setCell (fun e => h.ne e.symm) _, h.mp.asc, h.mp.wf⟩⟩
  obtain ⟨te, h1⟩ := h.cells
  refine ⟨te, ?_⟩
  have hlt := h.lt
  simp only [World.setCell, Array.getElem?_modify]
  simp [h1]
theorem DeskAt.turn {w w' : World} {g bm : Nat} {most last who : Int} {l l' : List (Int × Bool)} (h : DeskAt w g bm most last who l) (ht : w.mapTurned w' bm) (hm : MpAt w' bm (sesM l')) : DeskAt w' g bm most last who l' := by
  obtain ⟨te, h1⟩ := h.cells
  exact ⟨⟨te, (ht.grown.block g h.lt (fun e => h.ne (by injection e))).trans h1⟩, hm⟩
def logoutZ (l : List (Int × Bool)) (who k : Int) : Int := if (seat l k).isSome = false then 6 else if who = 0 then 8 else 0
def LogoutR (g bm : Nat) (most last who : Int) (l : List (Int × Bool)) (k : Int) (w : World) (e : Ending) (w' : World) : Prop :=
  e = .returned (.int .i64 (logoutZ l who k)) ∧ DeskAt w' g bm most last (if logoutZ l who k = 0 then 0 else who) l ∧ But g bm w w'
end Go.Proofs.Ytakooljbkjnilaa
