/- LoginPlays: the desk and the document's token side by side. -/
import Derived.Test.YtdlmamnnamlleaaLg4
import Derived.Test.YtdlmamnnamlleaaLg5
namespace Go.Proofs.Ytdlmamnnamlleaa
open Go.ChangeShapes Go.WideShapes Go.ChangeAt Go.RowKit
set_option maxHeartbeats 1000000
set_option maxRecDepth 100000

def seatC (p : Int × Bool) : List Value := [.int .i64 p.1, .bool p.2, .pointer none]
/-- The token's three cells. -/
structure TokAt (w : World) (gt : Nat) (who last : Int) (v : Value) : Prop where
  c0 : w.cell? ⟨gt, 70, none⟩ = some (.int .i64 who)
  c1 : w.cell? ⟨gt, 71, none⟩ = some v
  c2 : w.cell? ⟨gt, 72, none⟩ = some (.int .i64 last)
  cf : ∀ i, w.frozen? ⟨gt, i, none⟩ = false
  lt : gt < w.heap.size
structure SitAt (w : World) (B g bm gt : Nat) (most last who : Int) (l : List (Int × Bool)) (v : Value) : Prop where
  desk : DeskAt w g bm most last who l
  tok : TokAt w gt who last v
  own : w.ownsRow B 85 3 v l.length (l.flatMap seatC)
  n1 : gt ≠ g
  n2 : gt ≠ bm
  nb : ∀ b, v.ownBlock = some b → b ≠ g ∧ b ≠ bm ∧ b ≠ gt
  b1 : B ≤ g
  b2 : B ≤ bm
  b3 : B ≤ gt
  hw : 0 ≤ who ∧ who ≤ 2
  hl : 0 ≤ last
  hid : ∀ p ∈ l, 1 ≤ p.1 ∧ p.1 ≤ last
theorem own_belowI {w w1 : World} {B : Nat} {e : TypeId} {size n : Nat} {v : Value} {xs : List Value} (h : w.ownsRow B e size v n xs) (hb : Below w.heap.size w w1) : w1.ownsRow B e size v n xs := by
  refine h.kept (row := none) ⟨hb.os, hb.tape, hb.output, hb.size, fun i hi _ => hb.block i hi⟩ ?_
  cases v.ownBlock with
  | none => exact .inl rfl
  | some g => exact .inr (by simp)
theorem flat_seat_len (l : List (Int × Bool)) : (l.flatMap seatC).length = l.length * 3 := by
  induction l with
  | nil => rfl
  | cons x r ih => rw [List.flatMap_cons, List.length_append, ih]; simp [seatC]; omega
theorem seat_cells (l : List (Int × Bool)) (k : Nat) : (l.flatMap seatC)[k * 3]? = (l[k]?).map (fun x => .int .i64 x.1) ∧ (l.flatMap seatC)[k * 3 + 1]? = (l[k]?).map (fun x => .bool x.2) ∧ (l.flatMap seatC)[k * 3 + 2]? = (l[k]?).map (fun _ => .pointer none) := by
  induction l generalizing k with
  | nil => simp
  | cons x r ih =>
    cases k with
    | zero => simp [seatC]
    | succ k =>
      have h1 : (k + 1) * 3 = k * 3 + 3 := by omega
      have h2 : (k + 1) * 3 + 1 = (k * 3 + 1) + 3 := by omega
      have h3 : (k + 1) * 3 + 2 = (k * 3 + 2) + 3 := by omega
      rw [h3, h2, h1]
      simp only [List.flatMap_cons, seatC, List.cons_append, List.nil_append, List.getElem?_cons_succ]
      exact ih k
theorem seat_at {w : World} {B : Nat} {A : Option Addr} {l : List (Int × Bool)} (h : Rd w B A (l.flatMap seatC)) {k : Nat} (hk : k < l.length) :
    ∃ ad, A = some ad ∧ ad.block < B ∧ w.cell? (ad.add (k * 3)) = some (.int .i64 l[k].1) ∧ w.cell? ⟨(ad.add (k * 3)).block, (ad.add (k * 3)).off + 1, none⟩ = some (.bool l[k].2) ∧ w.cell? ⟨(ad.add (k * 3)).block, (ad.add (k * 3)).off + 2, none⟩ = some (.pointer none) := by
  obtain ⟨h1, h2, h4⟩ := seat_cells l k
  rw [List.getElem?_eq_getElem hk] at h1 h2 h4
  obtain ⟨ad, rfl, hb, c1⟩ := h _ _ h1
  exact ⟨ad, rfl, hb, c1, by have h3 := h.all h2; rw [← addr_add] at h3; exact h3, by have h3 := h.all h4; rw [← addr_add] at h3; unfold Addr.add at h3; exact h3⟩
theorem TokAt.step {w w' : World} {gt : Nat} {who last : Int} {v : Value} (h : TokAt w gt who last v) (hb : Below w.heap.size w w') : TokAt w' gt who last v :=
  ⟨(hb.cell (p := ⟨gt, 70, none⟩) h.lt).trans h.c0, (hb.cell (p := ⟨gt, 71, none⟩) h.lt).trans h.c1, (hb.cell (p := ⟨gt, 72, none⟩) h.lt).trans h.c2, fun i => (hb.frozen (p := ⟨gt, i, none⟩) h.lt).trans (h.cf i), Nat.lt_of_lt_of_le h.lt hb.size⟩
theorem SitAt.step {w w' : World} {B g bm gt : Nat} {most last who : Int} {l : List (Int × Bool)} {v : Value} (h : SitAt w B g bm gt most last who l v) (hb : Below w.heap.size w w') : SitAt w' B g bm gt most last who l v :=
  ⟨h.desk.step hb, h.tok.step hb, own_belowI h.own hb, h.n1, h.n2, h.nb, h.b1, h.b2, h.b3, h.hw, h.hl, h.hid⟩
/-- Which seat has this id (-1: none), and is there one that only reads? -/
def atS : List (Int × Bool) → Int → Int
  | [], _ => -1
  | p :: r, k => if atS r k = -1 then (if p.1 = k then 0 else -1) else atS r k + 1
def aloneS (l : List (Int × Bool)) : Bool := l.any fun p => !p.2
end Go.Proofs.Ytdlmamnnamlleaa
